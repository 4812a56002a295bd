/- The document's difference 0 - x, its look and its step, as the reference reckons them with whole numbers of any length. Conditions: x within 2^62 either way. -/
import Derived.Test.YtdbgnchjdbjonaaPGroundSeesx7
import Derived.Outline
import Derived.Lib.Hide
import Derived.Deep.RegionHeld3
namespace Go.Proofs.Ytdbgnchjdbjonaa
open Go.RowKit Go.Proofs.YtdbgnchjdbjonaaW.PrintWords Go.Proofs.YtdbgnchjdbjonaaW.PrintLast Go.Proofs.YtdbgnchjdbjonaaW.PrintMore
open Go.Proofs.Ytdbgnchjdbjonaa.PGroundSees

set_option maxHeartbeats 1000000 in
theorem neg_true (A : Option Addr) (n c : Nat) (w : World) :
    Calls Try.prog 20 #[.agg #[.bool true, .slice A n c]] w fun e w' => e = .returned (.agg #[.bool false, .slice A n c]) ∧ Below w.heap.size w w' := by
  go_enter Try.func20, Try.ntmps20
  go_wp2
  exact bodyPost_ret (v := .agg #[.bool false, .slice A n c]) (by simp [results, Try.results20, go_sem]) rfl ⟨rfl, ((Below.refl _ _).alloc (Nat.le_refl _) _).alloc (by simp) _⟩
set_option maxHeartbeats 1000000 in
theorem neg_false (A : Option Addr) (n c : Nat) (w : World) :
    Calls Try.prog 20 #[.agg #[.bool false, .slice A n c]] w fun e w' => e = .returned (.agg #[.bool (decide (0 < n)), .slice A n c]) ∧ Below w.heap.size w w' := by
  go_enter Try.func20, Try.ntmps20
  go_wp2
  exact bodyPost_ret (v := .agg #[.bool (decide (0 < n)), .slice A n c]) (by simp [results, Try.results20, go_sem]) rfl ⟨rfl, ((Below.refl _ _).alloc (Nat.le_refl _) _).alloc (by simp) _⟩
def negB (b : Bool) (n : Nat) : Bool := if b then false else decide (0 < n)
theorem neg_any (b : Bool) (A : Option Addr) (n c : Nat) (w : World) :
    Calls Try.prog 20 #[.agg #[.bool b, .slice A n c]] w fun e w' => e = .returned (.agg #[.bool (negB b n), .slice A n c]) ∧ Below w.heap.size w w' := by
  cases b
  · exact neg_false A n c w
  · exact neg_true A n c w

/-- A number of any length that is read: its sign is the value's, its digits are l. -/
abbrev Rd (w : World) (A : Option Addr) (c : Nat) (l : List Int) : Prop := Kd.C (Kd.int .i64) w A l.length l ∧ l.length ≤ c

theorem Rd.next {w w1 : World} {A : Option Addr} {c : Nat} {l : List Int} (h : Rd w A c l) (hb : Below w.heap.size w w1) : Rd w1 A c l := ⟨Kd.C_below h.1 hb, h.2⟩
theorem add_block (a : Addr) (j : Nat) : (a.add j).block = a.block := by unfold Addr.add; split <;> rfl
theorem Rd.set {w : World} {A : Option Addr} {c : Nat} {l : List Int} {g : Nat} (h : Rd w A c l) (hA : A.all (fun x => decide (x.block ≠ g)) = true) (i : Nat) (v : Value) : Rd (w.setCell ⟨g, i, none⟩ v) A c l := by
  refine ⟨⟨h.1.1, h.1.2.1, fun h0 => ?_⟩, h.2⟩
  obtain ⟨ad, rfl, hc⟩ := h.1.2.2 h0
  refine ⟨ad, rfl, fun j p hp => ?_⟩
  obtain ⟨cs, hl, hk, hcell⟩ := hc j p hp
  refine ⟨cs, hl, hk, fun q u hu => ?_⟩
  rw [World.cell?_setCell_other _ _ _ _ (fun e => ?_)]
  · exact hcell q u hu
  · have := congrArg Addr.block e
    rw [add_block] at this
    simp at hA
    exact hA this.symm
/-- What Minus keeps while it calls: the two boxes' cells, and that nothing older turned. -/
structure Keep (w0 w : World) : Prop where
  lt : w0.heap.size + 2 < w.heap.size
  below : Below w0.heap.size w0 w
  res : ∃ x y, w.heap[w0.heap.size + 1 + 1]? = some (.cells #[x, y] 43 (0, 0))
abbrev Boxes (a b : Bool) (va vb : Value) (w0 w : World) : Prop :=
  w.cell? ⟨w0.heap.size, 0, none⟩ = some (.bool a) ∧ w.cell? ⟨w0.heap.size, 1, none⟩ = some va ∧ w.cell? ⟨w0.heap.size + 1, 0, none⟩ = some (.bool b) ∧ w.cell? ⟨w0.heap.size + 1, 1, none⟩ = some vb ∧ Keep w0 w
theorem boxes_next {a b : Bool} {va vb : Value} {w0 w w1 : World} (hb : Below w.heap.size w w1) (h : Boxes a b va vb w0 w) : Boxes a b va vb w0 w1 := by
  obtain ⟨h0, h1, h2, h3, hk⟩ := h
  have hl := hk.lt
  refine ⟨?_, ?_, ?_, ?_, ⟨Nat.lt_of_lt_of_le hk.lt hb.size, hk.below.trans (hb.mono hk.below.size), ?_⟩⟩
  · rw [hb.cell (p := ⟨w0.heap.size, 0, none⟩) (by show w0.heap.size < _; omega)]; exact h0
  · rw [hb.cell (p := ⟨w0.heap.size, 1, none⟩) (by show w0.heap.size < _; omega)]; exact h1
  · rw [hb.cell (p := ⟨w0.heap.size + 1, 0, none⟩) (by show w0.heap.size + 1 < _; omega)]; exact h2
  · rw [hb.cell (p := ⟨w0.heap.size + 1, 1, none⟩) (by show w0.heap.size + 1 < _; omega)]; exact h3
  · rw [hb.block _ (by omega)]; exact hk.res
theorem boxes_set {a b : Bool} {va vb u v : Value} {w0 w : World} (h : Boxes a b va vb w0 w) :
    Boxes a b va vb w0 ((w.setCell ⟨w0.heap.size + 1 + 1, 0, none⟩ u).setCell ⟨w0.heap.size + 1 + 1, 1, none⟩ v) := by
  obtain ⟨h0, h1, h2, h3, hk⟩ := h
  have hl := hk.lt
  obtain ⟨x, y, hr⟩ := hk.res
  refine ⟨?_, ?_, ?_, ?_, ⟨by simpa using hk.lt, (hk.below.setCell (by show w0.heap.size ≤ w0.heap.size + 1 + 1; omega) u).setCell (by show w0.heap.size ≤ w0.heap.size + 1 + 1; omega) v, ?_⟩⟩
  · rw [World.cell?_setCell_other _ _ _ _ (by simp), World.cell?_setCell_other _ _ _ _ (by simp)]; exact h0
  · rw [World.cell?_setCell_other _ _ _ _ (by simp), World.cell?_setCell_other _ _ _ _ (by simp)]; exact h1
  · rw [World.cell?_setCell_other _ _ _ _ (by simp), World.cell?_setCell_other _ _ _ _ (by simp)]; exact h2
  · rw [World.cell?_setCell_other _ _ _ _ (by simp), World.cell?_setCell_other _ _ _ _ (by simp)]; exact h3
  · refine ⟨u, v, ?_⟩
    simp [World.setCell, Array.getElem?_modify, hr]
theorem boxes_start {a b : Bool} {va vb : Value} {w : World} :
    Boxes a b va vb w ((((w.alloc (.cells #[.bool a, va] 43)).alloc (.cells #[.bool b, vb] 43)).alloc (.cells #[.bool false, .slice none 0 0] 43)).drew) := by
  have hb : Below w.heap.size w ((((w.alloc (.cells #[.bool a, va] 43)).alloc (.cells #[.bool b, vb] 43)).alloc (.cells #[.bool false, .slice none 0 0] 43)).drew) :=
    ((((Below.refl _ _).alloc (Nat.le_refl _) _).alloc (by simp) _).alloc (by simp; omega) _).drew
  refine ⟨?_, ?_, ?_, ?_, ⟨by simp, hb, ?_⟩⟩
  · simp [go_sem]
  · simp [go_sem]
  · simp [go_sem]
  · simp [go_sem]
  · have e : ((w.alloc (.cells #[.bool a, va] 43)).alloc (.cells #[.bool b, vb] 43)).heap.size = w.heap.size + 1 + 1 := by simp
    have := heap_alloc_new ((w.alloc (.cells #[.bool a, va] 43)).alloc (.cells #[.bool b, vb] 43)) (.cells #[.bool false, .slice none 0 0] 43)
    rw [e] at this
    exact ⟨_, _, this⟩
theorem plus_at {k : Nat} {A B : Option Addr} {c d : Nat} {la lb : List Int} {w0 w : World} {a b : Bool} {r1 : Bool} {r2 : List Int} (H : windhoverref00_Plus.f k a la (negB b lb.length) lb = some (r1, r2))
    (hA : Rd w0 A c la) (hB : Rd w0 B d lb) (h : Boxes a b (.slice A la.length c) (.slice B lb.length d) w0 w) :
    Calls Try.prog 19 #[.agg #[.bool a, .slice A la.length c], .agg #[.bool (negB b lb.length), .slice B lb.length d]] w fun e w' =>
      ∃ C m, e = .returned (.agg #[.bool r1, .slice C r2.length m]) ∧ Rd w' C m r2 ∧ Below w.heap.size w w' ∧
        (∃ x, w'.cell? ⟨w0.heap.size + 1 + 1, 0, none⟩ = some x) ∧ (∃ x, w'.cell? ⟨w0.heap.size + 1 + 1, 1, none⟩ = some x) ∧ w'.frozen? ⟨w0.heap.size + 1 + 1, 0, none⟩ = false ∧ w'.frozen? ⟨w0.heap.size + 1 + 1, 1, none⟩ = false ∧
        C.all (fun x => decide (x.block ≠ w0.heap.size + 1 + 1)) = true := by
  obtain ⟨_, _, _, _, hk⟩ := h
  have ha := hA.next hk.below
  have hb := hB.next hk.below
  refine (windhoverref00_Plus.calls k a A c la (negB b lb.length) B d lb r1 r2 _ ha.1 ha.2 hb.1 hb.2 H).mono ?_
  rintro e w' ⟨v1, rfl, hr, hb⟩
  obtain ⟨x, y, hx⟩ := hk.res
  have hx' : w'.heap[w0.heap.size + 1 + 1]? = some (.cells #[x, y] 43 (0, 0)) := by rw [hb.block _ (by have := hk.lt; omega)]; exact hx
  have hown : ∀ q, v1.ownBlock = some q → w.heap.size ≤ q := fun q hq => by
    have := Kd.R_bound hr
    exact (this.1 q hq).2.1
  obtain ⟨C, m, rfl, hl, hc⟩ := Kd.R_reads hr
  refine ⟨C, m, rfl, ⟨hc, hl⟩, hb, ⟨x, by simp [World.cell?, hx']⟩, ⟨y, by simp [World.cell?, hx']⟩, by simp [World.frozen?, hx'], by simp [World.frozen?, hx'], ?_⟩
  cases C with
  | none => rfl
  | some ad =>
    have := hown ad.block rfl
    have := hk.lt
    simp
    omega

set_option maxRecDepth 100000 in
set_option maxHeartbeats 2000000 in
theorem minus_any (k : Nat) (a b : Bool) (A B : Option Addr) (c d : Nat) (la lb : List Int) (r1 : Bool) (r2 : List Int) (w : World) (hA : Rd w A c la) (hB : Rd w B d lb)
    (h : windhoverref00_Plus.f k a la (negB b lb.length) lb = some (r1, r2)) :
    Calls Try.prog 16 #[.agg #[.bool a, .slice A la.length c], .agg #[.bool b, .slice B lb.length d]] w fun e w' =>
      ∃ C n, e = .returned (.agg #[.bool r1, .slice C r2.length n]) ∧ Rd w' C n r2 ∧ Below w.heap.size w w' := by
  have H := Lib.hid h
  clear h
  have HA := Lib.hid hA
  have HB := Lib.hid hB
  clear hA hB
  go_enter Try.func16, Try.ntmps16
  go_wp2_with fail
  go_region_held3 (fun W => W.cell? ⟨w.heap.size, 0, none⟩ = some (.bool a) ∧ W.cell? ⟨w.heap.size, 1, none⟩ = some (.slice A la.length c) ∧ W.cell? ⟨w.heap.size + 1, 0, none⟩ = some (.bool b) ∧ W.cell? ⟨w.heap.size + 1, 1, none⟩ = some (.slice B lb.length d) ∧ Keep w W)
    (first | exact boxes_start | exact boxes_next (by assumption) (by assumption) | exact boxes_set (by assumption))
    (first | (go_at_call 20; refine (neg_any _ _ _ _ _).mono ?_; rintro e w' ⟨rfl, hb1⟩) | (go_at_call 19; refine (plus_at H.out HA.out HB.out (by assumption)).mono ?_; rintro e w' ⟨C, m, rfl, hr, hb2, ⟨x0, hx0⟩, ⟨x1, hx1⟩, hf0, hf1, hC⟩; have HR := Lib.hid hr; clear hr))
  have hst := (boxes_start (a := a) (b := b) (va := .slice A la.length c) (vb := .slice B lb.length d) (w := w)).2.2.2.2.below
  have hbel : Below w.heap.size w w' := hst.trans ((hb1.mono hst.size).trans (hb2.mono (Nat.le_trans hst.size hb1.size)))
  go_wp2
  refine bodyPost_ret (v := .agg #[.bool r1, .slice C r2.length m]) (by simp [results, Try.results16, go_sem, hx0, hx1]) rfl ⟨C, m, rfl, (HR.out.set hC 0 _).set hC 1 _, ?_⟩
  exact (hbel.setCell (by show w.heap.size ≤ w.heap.size + 1 + 1; omega) _).setCell (by show w.heap.size ≤ w.heap.size + 1 + 1; omega) _
end Go.Proofs.Ytdbgnchjdbjonaa
