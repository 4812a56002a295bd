/- What the queue's Len, Less, Swap, Push and Pop do, in whatever world. Conditions: the queue lies in memory, the places are within it. -/
import Derived.Test.YtgbogbmjefbkeaaBase
import Derived.Test.YtgbogbmjefbkeaaHeap
namespace Go.Proofs.Ytgbogbmjefbkeaa
open Go.RowKit
theorem len_any (w : World) (qb : Nat) (ms : List Int) (h : Qu w qb ms) : Calls Try.prog 44 #[.pointer (some ⟨qb, 0, none⟩)] w fun e w' => e = .returned (.int .i64 (ms.length : Int)) ∧ w' = w := by
  obtain ⟨mv, hb, hm⟩ := h.blk
  have c0 : w.cell? ⟨qb, 0, none⟩ = some mv := cell_at hb 0
  have hv : ∃ A cap, mv = .slice A ms.length cap := by
    rcases hm.2 with ⟨h1, h2⟩ | ⟨g, cap, _, h1, _⟩
    · exact ⟨none, 0, by rw [h1, h2]⟩
    · exact ⟨_, _, h1⟩
  obtain ⟨A, cap, rfl⟩ := hv
  clear hb hm h
  generalize ms.length = n at *
  go_enter Try.func44, Try.ntmps44
  go_wp2_with fail
  go_ret
  exact ⟨rfl, rfl⟩
set_option maxRecDepth 100000 in
theorem less_any (w : World) (qb : Nat) (ms : List Int) (h : Qu w qb ms) (i j : Nat) (hi : i < ms.length) (hj : j < ms.length) :
    Calls Try.prog 45 #[.pointer (some ⟨qb, 0, none⟩), .int .i64 (i : Int), .int .i64 (j : Int)] w fun e w' => e = .returned (.bool (decide (ms.getD i 0 < ms.getD j 0))) ∧ Below w.heap.size w w' := by
  obtain ⟨g, cap, hqg, hgl, hq, _, hc, _, hcap, hcm, _⟩ := h.form (by omega)
  have c0 : w.cell? ⟨qb, 0, none⟩ = some (.slice (some ⟨g, 0, none⟩) ms.length cap) := cell_at hq 0
  have ci := hc i hi
  have cj := hc j hj
  have i0 : (0 : Int) ≤ (i : Int) := by omega
  have j0 : (0 : Int) ≤ (j : Int) := by omega
  clear hq hc h
  generalize ms.getD i 0 = x at *
  generalize ms.getD j 0 = y at *
  generalize ms.length = n at *
  go_enter Try.func45, Try.ntmps45
  go_wp2_with fail
  go_region
  go_wp2_with fail
  go_ret
  exact ⟨rfl, below_drew1 w⟩
theorem set_same {w : World} {g : Nat} {cs : Array Value} {t : TypeId} {fr : Nat × Nat} (hg : w.heap[g]? = some (.cells cs t fr)) (i j : Nat) (v u : Value) (hj : cs[j]? = some u) (he : i = j → v = u) :
    (w.setCell ⟨g, i, none⟩ v).cell? ⟨g, j, none⟩ = some u := by
  rw [cell_at (heap_setCell_at hg i v) j, Array.getElem?_setIfInBounds]
  by_cases h : i = j
  · subst h
    have := (Array.getElem?_eq_some_iff.1 hj).1
    rw [if_pos rfl, if_pos this, he rfl]
  · rw [if_neg h, hj]
theorem inL_set (ms : List Int) (i : Nat) (x : Int) : (inL ms).set i (.int .i64 x) = inL (ms.set i x) := by
  rw [inL, inL, List.map_set]
/-- A number is stored. -/
theorem Qu.set {w : World} {qb g cap : Nat} {ms : List Int} (hqg : qb < g) (hq : w.heap[qb]? = some (.cells #[.slice (some ⟨g, 0, none⟩) ms.length cap] 44)) (ho : w.ownsRow (qb + 1) 3 1 (.slice (some ⟨g, 0, none⟩) ms.length cap) ms.length (inL ms)) (i : Nat) (x : Int) (hi : i < ms.length) :
    (w.setCell ⟨g, i, none⟩ (.int .i64 x)).heap[qb]? = some (.cells #[.slice (some ⟨g, 0, none⟩) (ms.set i x).length cap] 44) ∧ (w.setCell ⟨g, i, none⟩ (.int .i64 x)).ownsRow (qb + 1) 3 1 (.slice (some ⟨g, 0, none⟩) (ms.set i x).length cap) (ms.set i x).length (inL (ms.set i x)) := by
  rw [List.length_set]
  refine ⟨(heap_setCell_ne (by omega) i _).trans hq, by rw [inL_len, List.length_set, Nat.mul_one], ?_⟩
  rcases ho.2 with ⟨h1, _⟩ | ⟨g', cap', cur, h1, h2, h3, h4, h5, h6, h7⟩
  · cases h1
  · injection h1 with h1 _ h8
    injection h1 with h1
    injection h1 with h1
    subst h1 h8
    refine .inr ⟨g, cap, cur.setIfInBounds i (.int .i64 x), rfl, h2, heap_setCell_at h3 i _, h4, h5, by simpa using h6, ?_⟩
    rw [← inL_set, ← h7]
    apply List.ext_getElem?
    intro k
    simp only [List.getElem?_take, List.getElem?_set, Array.toList_setIfInBounds]
    by_cases hk : k < ms.length * 1
    · rw [if_pos hk]
      by_cases e : i = k
      · subst e
        rw [if_pos rfl, if_pos rfl]
        have h8 : i < cur.size := by omega
        simp [h8]
        omega
      · rw [if_neg e, if_neg e, if_pos hk]
    · rw [if_neg hk, if_neg (by omega), if_neg hk]
theorem gets (ms : List Int) (i : Nat) (h : i < ms.length) : ms.getD i 0 = ms[i] := by rw [List.getD_eq_getElem?_getD, List.getElem?_eq_getElem h]; rfl
set_option maxRecDepth 100000 in
set_option maxHeartbeats 2000000 in
theorem swap_any (w : World) (qb : Nat) (ms : List Int) (h : Qu w qb ms) (i j : Nat) (hi : i < ms.length) (hj : j < ms.length) :
    Calls Try.prog 48 #[.pointer (some ⟨qb, 0, none⟩), .int .i64 (i : Int), .int .i64 (j : Int)] w fun e w' => e = .returned (.tuple #[]) ∧ Qu w' qb (sw 0 ms i j) ∧ Below qb w w' := by
  obtain ⟨g, cap, hqg, hgl, hq, ho, hc, hf, hcap, hcm, cs, t, hrow⟩ := h.form (by omega)
  have c0 : w.cell? ⟨qb, 0, none⟩ = some (.slice (some ⟨g, 0, none⟩) ms.length cap) := cell_at hq 0
  have ci := hc i hi
  have cj := hc j hj
  have fi := hf i
  have fj := hf j
  have q0 := set_same hrow i j (.int .i64 (ms.getD j 0)) _ (by rw [← cell_at hrow]; exact cj) (fun _ => rfl)
  have i0 : (0 : Int) ≤ (i : Int) := by omega
  have j0 : (0 : Int) ≤ (j : Int) := by omega
  have HF : Hid (∀ n, Qu (((w.setCell ⟨g, i, none⟩ (.int .i64 (ms.getD j 0))).setCell ⟨g, j, none⟩ (.int .i64 (ms.getD i 0))).drewN n) qb (sw 0 ms i j)) := by
    intro n
    obtain ⟨h1, h2⟩ := Qu.set hqg hq ho i (ms.getD j 0) hi
    obtain ⟨h3, h4⟩ := Qu.set hqg h1 h2 j (ms.getD i 0) (by rw [List.length_set]; exact hj)
    exact Qu.keep ⟨_, h3, h4⟩ (below_drewN _ n)
  have HG := Lib.hid hqg
  clear hq hc hf ho h hrow hqg
  generalize ms.getD i 0 = x at *
  generalize ms.getD j 0 = y at *
  generalize ms.length = n at *
  go_enter Try.func48, Try.ntmps48
  go_wp2_with fail
  go_region
  go_end0
  exact ⟨rfl, HF.out 1, ((Below.refl qb w).setCell (Nat.le_of_lt HG.out) _).setCell (Nat.le_of_lt HG.out) _ |>.drew⟩
end Go.Proofs.Ytgbogbmjefbkeaa
