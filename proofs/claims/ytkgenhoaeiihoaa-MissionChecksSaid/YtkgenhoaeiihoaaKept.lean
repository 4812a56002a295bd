/- What kept answers: true, where nothing has touched the items. Conditions: as Lent says. -/
import Derived.Test.YtkgenhoaeiihoaaLent
import Derived.Test.YtkgenhoaeiihoaaSame
namespace Go.Proofs.Ytkgenhoaeiihoaa
open Go.RowKit
theorem Lent.keep {w w1 w2 : World} {g cap : Nat} {xs : List It} (h : Lent w w1 g cap xs) (hb : Below w1.heap.size w1 w2) : Lent w w2 g cap xs :=
  ⟨ownsRow_kept h.own (Wrote.of_below hb (fun _ => False)) (fun _ hf => hf.elim), below_next h.below hb⟩
theorem Lent.cap {w w1 : World} {g cap : Nat} {xs : List It} (h : Lent w w1 g cap xs) : xs.length + 1 ≤ cap ∧ cap ≤ maxLen := by
  rcases h.own.2 with ⟨h, _⟩ | ⟨g', c, cur, h, _, _, hnc, hm, _⟩
  · cases h
  · injection h with _ _ h
    omega
theorem Lent.ir {w w1 : World} {g cap : Nat} {xs : List It} (h : Lent w w1 g cap xs) (hs : xs.length * 32 ≤ 140737488351232) : IR w1 (.slice (some ⟨g, 0, none⟩) xs.length cap) xs := by
  have hlt := (h.own.lt g rfl).2
  refine ⟨hs, .inr ⟨_, cap, rfl, .inr ⟨g, 0, rfl, hlt, fun i hi => ?_⟩⟩⟩
  rw [Nat.zero_add]
  have e : (xs ++ [mark99]).getD i it0 = xs.getD i it0 := by
    rw [List.getD_eq_getElem?_getD, List.getD_eq_getElem?_getD, List.getElem?_append_left hi]
  obtain ⟨a, b, c, d⟩ := it_at (xs ++ [mark99]) i (by rw [List.length_append]; omega)
  rw [e] at a b c d
  exact ⟨(h.own.cellAt _ (by omega)).trans a, (h.own.cellAt _ (by omega)).trans b, (h.own.cellAt _ (by omega)).trans c, (h.own.cellAt _ (by omega)).trans d⟩
theorem Lent.mark {w w1 : World} {g cap : Nat} {xs : List It} (h : Lent w w1 g cap xs) : w1.cell? ⟨g, xs.length * 4, none⟩ = some (.int .u8 99) := by
  have e : (xs ++ [mark99]).getD xs.length it0 = mark99 := by
    rw [List.getD_eq_getElem?_getD, List.getElem?_append_right (Nat.le_refl _), Nat.sub_self]
    rfl
  obtain ⟨a, _⟩ := it_at (xs ++ [mark99]) xs.length (by rw [List.length_append]; exact Nat.lt_succ_self _)
  rw [e] at a
  exact (h.own.cellAt _ (by omega)).trans a
def KeptPost (w : World) (e : Ending) (w' : World) : Prop := e = .returned (.bool true) ∧ Below w.heap.size w w'
set_option maxRecDepth 100000 in
set_option maxHeartbeats 2000000 in
theorem kept_any (w0 w : World) (g cap : Nat) (v : Value) (xs : List It) (h : Lent w0 w g cap xs) (hr : IR w v xs) : Calls Try.prog 15 #[.slice (some ⟨g, 0, none⟩) xs.length cap, v] w (KeptPost w) := by
  have HI := Lib.hid (h.ir hr.1)
  have HR := Lib.hid hr
  have hm := h.mark
  obtain ⟨hcap, hcm⟩ := h.cap
  have hsm := hr.1
  obtain ⟨A, cap', hv⟩ := hr.form
  clear hr h
  subst hv
  have HS := Lib.hid (same_any w _ _ _ _ HI.out HR.out)
  clear HI HR
  generalize hn : xs.length = n at *
  clear hn
  have hw1 : IntKind.i64.wrap ((n : Int) + 1) = (n : Int) + 1 := IntWalk.i64_in _ (by omega)
  go_enter Try.func15, Try.ntmps15
  go_wp2_with fail
  refine HS.out.mono ?_
  rintro e w1 ⟨rfl, q, rfl⟩
  rw [decide_eq_true rfl]
  go_wp2_with fail
  go_ret
  exact ⟨rfl, below_drewN w q⟩
end Go.Proofs.Ytkgenhoaeiihoaa
