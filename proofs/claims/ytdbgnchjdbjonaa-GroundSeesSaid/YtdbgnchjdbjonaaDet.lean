/- The detector of chapter 15: what New, Step and Seen do, in whatever world; a nil detector sees nothing. Conditions: the numbers are of their kinds; the detector is one that New made, or nil. -/
import Derived.Test.YtdbgnchjdbjonaaProg
import Derived.WalkKit
import Derived.Below
import Derived.WalkSpells
import Derived.WalkLawsBesides
import Derived.Outline
import Derived.Lib.Hide
import Derived.Laws.EntriesVeiled
import Derived.Deep.LoopGhost
import Derived.Deep.QuietTactic
import Derived.BigQuiet
namespace Go.Proofs.Ytdbgnchjdbjonaa
open Go.RowKit

/-! ### Worlds: one block known whole -/
theorem heap_setCell_at {w : World} {b : Nat} {cs : Array Value} {t : TypeId} {fr : Nat × Nat} (h : w.heap[b]? = some (.cells cs t fr)) (i : Nat) (v : Value) :
    (w.setCell ⟨b, i, none⟩ v).heap[b]? = some (.cells (cs.setIfInBounds i v) t fr) := by
  simp [World.setCell, Array.getElem?_modify, h]
theorem cell_at {w : World} {b : Nat} {cs : Array Value} {t : TypeId} {fr : Nat × Nat} (h : w.heap[b]? = some (.cells cs t fr)) (i : Nat) : w.cell? ⟨b, i, none⟩ = cs[i]? := by
  simp [World.cell?, h]
theorem free_at {w : World} {b : Nat} {cs : Array Value} {t : TypeId} (h : w.heap[b]? = some (.cells cs t (0, 0))) (i : Nat) : w.frozen? ⟨b, i, none⟩ = false := by
  simp [World.frozen?, h]
theorem lt_of_at {w : World} {b : Nat} {o : Obj} (h : w.heap[b]? = some o) : b < w.heap.size := (Array.getElem?_eq_some_iff.1 h).1
theorem grown_set {w w1 : World} {b : Nat} (h : w.grownBy w1 (some b)) (i : Nat) (v : Value) : w.grownBy (w1.setCell ⟨b, i, none⟩ v) (some b) :=
  ⟨h.os, h.tape, h.output, by simpa [World.setCell] using h.size, fun k hk hne => (Below.heap_setCell w1 ⟨b, i, none⟩ v k (by rintro rfl; exact hne rfl)).trans (h.block k hk hne)⟩

theorem grown_drewN {w w1 : World} {r : Option Nat} (h : w.grownBy w1 r) (n : Nat) : w.grownBy (w1.drewN n) r := ⟨h.os, h.tape, h.output, h.size, h.block⟩

/-! ### The detector -/
def look (b : Nat) : Value := .func (.func 12) #[.pointer (some ⟨b, 0, none⟩)] #[]
def detCells (b : Nat) (f : Bool) (c l s : Int) : Array Value := #[.bool f, .int .i64 c, .int .i64 l, .func (.func 12) #[.pointer (some ⟨b, 0, none⟩)] #[], .int .i64 s]
structure Det (w : World) (b : Nat) (s : Int) : Prop where
  at_ : ∃ f c l, w.heap[b]? = some (.cells (detCells b f c l s) 38 (0, 0))
  lo : 0 ≤ s
  hi : s ≤ 65535
theorem Det.lt {w : World} {b : Nat} {s : Int} (h : Det w b s) : b < w.heap.size := by
  obtain ⟨f, c, l, h⟩ := h.at_
  exact lt_of_at h
theorem Det.kept {w w1 : World} {b : Nat} {s : Int} (h : Det w b s) (hk : w1.heap[b]? = w.heap[b]?) : Det w1 b s := by
  obtain ⟨f, c, l, e⟩ := h.at_
  exact ⟨⟨f, c, l, hk.trans e⟩, h.lo, h.hi⟩
/-- Does a step look like standing? -/
def looks (f : Bool) (c l : Int) : Bool := f && decide (-(l.tdiv 2) ≤ c)
def next (s : Int) (f : Bool) (c l : Int) : Int := if looks f c l then (if 65535 < s + 1 then 65535 else s + 1) else 0
theorem next_lo {s : Int} (_h : 0 ≤ s) (f : Bool) (c l : Int) : 0 ≤ next s f c l := by unfold next; split <;> (try split) <;> omega
theorem next_hi {s : Int} (_h : s ≤ 65535) (f : Bool) (c l : Int) : next s f c l ≤ 65535 := by unfold next; split <;> (try split) <;> omega

theorem new_any (w : World) : Calls Try.prog 7 #[] w fun e w' => e = .returned (.pointer (some ⟨w.heap.size, 0, none⟩)) ∧ Det w' w.heap.size 0 ∧ Below w.heap.size w w' ∧ w.heap.size < w'.heap.size := by
  go_enter Try.func7, Try.ntmps7
  go_wp2
  go_ret
  refine ⟨rfl, ⟨⟨false, 0, 0, ?_⟩, by omega, by omega⟩, (Below.refl _ _).alloc (Nat.le_refl _) _, by simp⟩
  simp [World.alloc, detCells, -World.alloc_eq]

theorem seen_any (b : Nat) (s : Int) (w : World) (h : Det w b s) : Calls Try.prog 10 #[.pointer (some ⟨b, 0, none⟩)] w fun e w' => e = .returned (.int .i64 s) ∧ w = w' := by
  obtain ⟨⟨f, c, l, h⟩, _, _⟩ := h
  have h4 : w.cell? ⟨b, 4, none⟩ = some (.int .i64 s) := cell_at h 4
  clear h
  go_enter Try.func10, Try.ntmps10
  go_wp2
  go_ret
  exact ⟨rfl, rfl⟩
theorem seen_nil (w : World) : Calls Try.prog 10 #[.pointer none] w fun e w' => e = .returned (.int .i64 0) ∧ w = w' := by
  go_enter Try.func10, Try.ntmps10
  go_wp2
  go_ret
  exact ⟨rfl, rfl⟩
theorem step_nil (f : Bool) (c l : Int) (w : World) : Calls Try.prog 8 #[.pointer none, .bool f, .int .i64 c, .int .i64 l] w fun e w' => e = .returned (.bool false) ∧ w = w' := by
  go_enter Try.func8, Try.ntmps8
  go_wp2
  go_ret
  exact ⟨rfl, rfl⟩
theorem tdiv_bounds (l : Int) (h0 : -9223372036854775808 ≤ l) (h1 : l ≤ 9223372036854775807) : -4611686018427387904 ≤ l.tdiv 2 ∧ l.tdiv 2 ≤ 4611686018427387903 := by
  rcases Int.le_total 0 l with h | h
  · rw [Int.tdiv_eq_ediv_of_nonneg h]; omega
  · obtain ⟨m, rfl⟩ : ∃ m, l = -m := ⟨-l, by omega⟩
    rw [Int.neg_tdiv, Int.tdiv_eq_ediv_of_nonneg (by omega)]; omega
theorem still_any (b : Nat) (f : Bool) (c l : Int) (w : World) (l0 : -9223372036854775808 ≤ l) (l1 : l ≤ 9223372036854775807)
    (h0 : w.cell? ⟨b, 0, none⟩ = some (.bool f)) (h1 : w.cell? ⟨b, 1, none⟩ = some (.int .i64 c)) (h2 : w.cell? ⟨b, 2, none⟩ = some (.int .i64 l)) :
    Calls Try.prog 12 #[.pointer (some ⟨b, 0, none⟩)] w fun e w' => e = .returned (.bool (looks f c l)) ∧ ∃ n, w' = w.drewN n := by
  have hq := tdiv_bounds l l0 l1
  have q0 := hq.1
  have q1 := hq.2
  clear hq
  cases f with
  | false =>
    go_enter Try.func12, Try.ntmps12
    go_wp2_with fail
    go_quiet (fail)
    go_wp2
    go_ret
    exact ⟨by simp [looks], ⟨_, rfl⟩⟩
  | true =>
    go_enter Try.func12, Try.ntmps12
    go_wp2_with fail
    go_quiet (fail)
    go_wp2
    go_ret
    exact ⟨by simp [looks], ⟨_, rfl⟩⟩
theorem func_nil (a : Array Value) (W : World) : (binOp .eql 30 (.func (.func 12) a #[]) .nilFunc).run Try.prog W = .ok (.bool false) W := by kernel_rfl
theorem drawnN_heap (w : World) (n : Nat) : (w.drewN n).heap = w.heap := rfl

theorem step_any (b : Nat) (s : Int) (f : Bool) (c l : Int) (w : World) (hd : Det w b s) (l0 : -9223372036854775808 ≤ l) (l1 : l ≤ 9223372036854775807) :
    Calls Try.prog 8 #[.pointer (some ⟨b, 0, none⟩), .bool f, .int .i64 c, .int .i64 l] w fun e w' =>
      e = .returned (.bool (decide (40 ≤ next s f c l))) ∧ Det w' b (next s f c l) ∧ w.grownBy w' (some b) := by
  obtain ⟨⟨f0, c0, k0, h⟩, hs0, hs1⟩ := hd
  have a0 : w.cell? ⟨b, 0, none⟩ = some (.bool f0) := cell_at h 0
  have a1 : w.cell? ⟨b, 1, none⟩ = some (.int .i64 c0) := cell_at h 1
  have a2 : w.cell? ⟨b, 2, none⟩ = some (.int .i64 k0) := cell_at h 2
  have a3 : w.cell? ⟨b, 3, none⟩ = some (.func (.func 12) #[.pointer (some ⟨b, 0, none⟩)] #[]) := cell_at h 3
  have a4 : w.cell? ⟨b, 4, none⟩ = some (.int .i64 s) := cell_at h 4
  have g0 := free_at h 0
  have g1 := free_at h 1
  have g2 := free_at h 2
  have g4 := free_at h 4
  have hfn := func_nil
  have d3 : (((w.setCell ⟨b, 0, none⟩ (.bool f)).setCell ⟨b, 1, none⟩ (.int .i64 c)).setCell ⟨b, 2, none⟩ (.int .i64 l)).heap[b]? = some (.cells (detCells b f c l s) 38 (0, 0)) :=
    heap_setCell_at (heap_setCell_at (heap_setCell_at h 0 (.bool f)) 1 (.int .i64 c)) 2 (.int .i64 l)
  have gr : w.grownBy (((w.setCell ⟨b, 0, none⟩ (.bool f)).setCell ⟨b, 1, none⟩ (.int .i64 c)).setCell ⟨b, 2, none⟩ (.int .i64 l)) (some b) :=
    grown_set (grown_set (grown_set (World.grownBy.refl w _) 0 _) 1 _) 2 _
  have H := Lib.hid d3
  have D4 : ∀ (nd : Nat) (v : Int), Hid ((((((w.setCell ⟨b, 0, none⟩ (.bool f)).setCell ⟨b, 1, none⟩ (.int .i64 c)).setCell ⟨b, 2, none⟩ (.int .i64 l)).drewN nd).setCell ⟨b, 4, none⟩ (.int .i64 v)).heap[b]? = some (.cells (detCells b f c l v) 38 (0, 0))) :=
    fun nd v => heap_setCell_at (w := ((((w.setCell ⟨b, 0, none⟩ (.bool f)).setCell ⟨b, 1, none⟩ (.int .i64 c)).setCell ⟨b, 2, none⟩ (.int .i64 l)).drewN nd)) d3 4 (.int .i64 v)
  clear h d3
  cases hb : looks f c l with
  | false =>
    have HN : Hid (next s f c l = 0) := by unfold Hid next; rw [hb]; rfl
    have HB := Lib.hid hb
    clear hb
    go_enter Try.func8, Try.ntmps8
    go_wp2_with fail
    refine (still_any b f c l _ l0 l1 (cell_at H.out 0) (cell_at H.out 1) (cell_at H.out 2)).mono ?_
    rintro e w' ⟨rfl, ⟨nd, rfl⟩⟩
    rw [HB.out]
    go_wp2_with fail
    go_ret
    refine ⟨?_, ⟨⟨f, c, l, ?_⟩, by rw [HN.out]; omega, by rw [HN.out]; omega⟩, ?_⟩
    · rw [HN.out]; rfl
    · rw [HN.out]; exact (D4 nd 0).out
    · exact grown_set (w1 := _) (grown_drewN gr nd) 4 _
  | true =>
    have HN : Hid (next s f c l = if 65535 < s + 1 then 65535 else s + 1) := by unfold Hid next; rw [hb]; rfl
    have HB := Lib.hid hb
    clear hb
    go_enter Try.func8, Try.ntmps8
    go_wp2_with fail
    refine (still_any b f c l _ l0 l1 (cell_at H.out 0) (cell_at H.out 1) (cell_at H.out 2)).mono ?_
    rintro e w' ⟨rfl, ⟨nd, rfl⟩⟩
    rw [HB.out]
    go_wp2_with fail
    · have hlt : 65535 < s + 1 := by assumption
      have HN' : next s f c l = 65535 := by rw [HN.out, if_pos hlt]
      go_ret
      refine ⟨?_, ⟨⟨f, c, l, ?_⟩, by rw [HN']; omega, by rw [HN']; omega⟩, ?_⟩
      · rw [HN']; rfl
      · rw [HN']; exact (D4 nd 65535).out
      · exact grown_set (w1 := _) (grown_drewN gr nd) 4 _
    · have hlt : ¬ 65535 < s + 1 := by omega
      have HN' : next s f c l = s + 1 := by rw [HN.out, if_neg hlt]
      go_ret
      refine ⟨?_, ⟨⟨f, c, l, ?_⟩, by rw [HN']; omega, by rw [HN']; omega⟩, ?_⟩
      · rw [HN']; rfl
      · rw [HN']; exact (D4 nd (s + 1)).out
      · exact grown_set (w1 := _) (grown_drewN gr nd) 4 _
end Go.Proofs.Ytdbgnchjdbjonaa
