/- The chapter's first example comes out, in whatever world. No condition. -/
import Derived.Test.YtmkbkjnpgdpffaaPlan
namespace Go.Proofs.Ytmkbkjnpgdpffaa
open Go.RowKit

def jsA : List Jb := [⟨2, 0, 5⟩, ⟨3, 1, 0⟩, ⟨2, 0, 5⟩]
theorem goodA : Sound jsA := by
  refine ⟨fun i hi => ?_, by decide, fun j hj => ?_⟩
  · have : i = 0 ∨ i = 1 ∨ i = 2 := by simp [jsA] at hi; omega
    rcases this with rfl | rfl | rfl <;> decide
  · simp only [jsA, List.mem_cons, List.not_mem_nil, or_false] at hj
    rcases hj with rfl | rfl | rfl <;> decide
theorem badA : ¬ Good [⟨0, 0, 0⟩] := fun h => by have := (h 0 (by decide)).1; revert this; decide
theorem codeA {c : Int} (h : Code jsA c) : c = 0 := h.one (.inr (.inl ⟨by decide, goodA.good, rfl⟩))
theorem codeB {c : Int} (h : Code [⟨0, 0, 0⟩] c) : c = 1 := h.one (.inr (.inr ⟨by decide, badA, rfl⟩))
theorem jrA (w : World) : JR (w.alloc (.cells #[.int .i64 2, .int .i64 0, .int .i64 5, .int .i64 3, .int .i64 1, .int .i64 0, .int .i64 2, .int .i64 0, .int .i64 5] 36)) (.slice (some ⟨w.heap.size, 0, none⟩) 3 3) jsA := by
  refine ⟨by decide, .inr ⟨_, 3, rfl, .inr ⟨w.heap.size, 0, rfl, by rw [alloc_size]; omega, fun i hi => ?_⟩⟩⟩
  have : i = 0 ∨ i = 1 ∨ i = 2 := by simp [jsA] at hi; omega
  rw [cell_at (heap_alloc_new w _), cell_at (heap_alloc_new w _), cell_at (heap_alloc_new w _)]
  rcases this with rfl | rfl | rfl <;> exact ⟨rfl, rfl, rfl⟩
theorem jrB (w : World) : JR (w.alloc (.cells #[.int .i64 0, .int .i64 0, .int .i64 0] 36)) (.slice (some ⟨w.heap.size, 0, none⟩) 1 1) [⟨0, 0, 0⟩] := by
  refine ⟨by decide, .inr ⟨_, 1, rfl, .inr ⟨w.heap.size, 0, rfl, by rw [alloc_size]; omega, fun i hi => ?_⟩⟩⟩
  have : i = 0 := by simp at hi; omega
  rw [cell_at (heap_alloc_new w _), cell_at (heap_alloc_new w _), cell_at (heap_alloc_new w _)]
  subst this
  exact ⟨rfl, rfl, rfl⟩
theorem ints1 (w : World) (a : Nat) : Ints (w.alloc (.cells #[intL a] 3)) (.slice (some ⟨w.heap.size, 0, none⟩) 1 1) [a] := by
  refine ⟨_, 1, rfl, Nat.le_refl _, .inr ⟨w.heap.size, 0, rfl, by rw [alloc_size]; omega, fun i hi => ?_⟩⟩
  have : i = 0 := by simp at hi; omega
  rw [cell_at (heap_alloc_new w _)]
  subst this
  rfl
theorem ints2 (w : World) (a b : Nat) : Ints (w.alloc (.cells #[intL a, intL b] 3)) (.slice (some ⟨w.heap.size, 0, none⟩) 2 2) [a, b] := by
  refine ⟨_, 2, rfl, Nat.le_refl _, .inr ⟨w.heap.size, 0, rfl, by rw [alloc_size]; omega, fun i hi => ?_⟩⟩
  have : i = 0 ∨ i = 1 := by simp at hi; omega
  rw [cell_at (heap_alloc_new w _)]
  rcases this with rfl | rfl <;> rfl
theorem ints3 (w : World) (a b c : Nat) : Ints (w.alloc (.cells #[intL a, intL b, intL c] 3)) (.slice (some ⟨w.heap.size, 0, none⟩) 3 3) [a, b, c] := by
  refine ⟨_, 3, rfl, Nat.le_refl _, .inr ⟨w.heap.size, 0, rfl, by rw [alloc_size]; omega, fun i hi => ?_⟩⟩
  have : i = 0 ∨ i = 1 ∨ i = 2 := by simp at hi; omega
  rw [cell_at (heap_alloc_new w _)]
  rcases this with rfl | rfl | rfl <;> rfl
theorem dueA0 : due jsA 0 = [0, 2] := by decide
theorem dueA1 : due jsA 1 = [1] := by decide
theorem dueA3 : due jsA 3 = [] := by decide
theorem dueA4 : due jsA 4 = [1, 0, 2] := by decide
/-- What Due leaves, the list read. -/
theorem due_ints {w : World} {b jb mb : Nat} {js : List Jb} {t : Nat} {e : Ending} {w' : World} (h : DuesPost w b jb mb js t e w') : ∃ v, e = .returned v ∧ Ints w' v (due js t) ∧ (∀ g, v.ownBlock = some g → w.heap.size ≤ g) ∧ Live w' b jb mb js (t + 1) ∧ Wrote w w' (fun k => k = mb ∨ k = b) := by
  obtain ⟨v, he, ho, hl, hw⟩ := h
  exact ⟨v, he, ints_own ho, fun g hg => (ho.lt g hg).1, hl, hw⟩
set_option maxRecDepth 100000 in
set_option maxHeartbeats 1000000 in
theorem awake_any (w : World) : Calls Try.prog 8 #[] w fun e w' => e = .returned (.bool true) ∧ Below w.heap.size w w' := by
  go_enter Try.func8, Try.ntmps8
  go_wp2_with fail
  refine (new_made _ _ jsA (jrA w)).mono ?_
  rintro e w1 ⟨pv, c, rfl, ⟨hc, hmade⟩, hb1⟩
  have hc0 := codeA hc
  subst hc0
  obtain ⟨_, b, jb, mb, rfl, hl, k1, k2, k3⟩ := hmade.resolve_left (fun h => h.1 rfl)
  have HL := Lib.hid hl
  have HB1 : Hid (Below w.heap.size w w1) := below_next (below_alloc1 w _) hb1
  clear hl hb1 hmade hc
  simp only [alloc_size] at k1 k2 k3
  go_wp2_with fail
  refine (new_made _ _ [⟨0, 0, 0⟩] (jrB w1)).mono ?_
  rintro e w2 ⟨pv, c, rfl, ⟨hc, hmade⟩, hb2⟩
  have hc0 := codeB hc
  subst hc0
  obtain ⟨_, rfl⟩ := hmade.resolve_right (fun h => by have := h.1; omega)
  have HB2 : Hid (Below w1.heap.size w1 w2) := below_next (below_alloc1 w1 _) hb2
  have HL2 := Lib.hid (HL.out.below HB2.out)
  clear hb2 hmade hc HL
  go_wp2_with fail
  refine (due_live w2 b jb mb jsA 0 HL2.out goodA (by omega)).mono ?_
  intro e w3 hd
  obtain ⟨v3, rfl, hi3, hg3, hl3, hw3⟩ := due_ints hd
  have HI3 := Lib.hid hi3
  have HL3 := Lib.hid hl3
  have HW3 := Lib.hid hw3
  have HG3 := Lib.hid hg3
  clear hd hi3 hl3 hw3 hg3
  go_wp2_with fail
  refine (due_live w3 b jb mb jsA 1 HL3.out goodA (by omega)).mono ?_
  intro e w4 hd
  obtain ⟨v4, rfl, hi4, hg4, hl4, hw4⟩ := due_ints hd
  have HI4 := Lib.hid hi4
  have HL4 := Lib.hid hl4
  have HW4 := Lib.hid hw4
  have HG4 := Lib.hid hg4
  clear hd hi4 hl4 hw4 hg4
  go_wp2_with fail
  refine (due_live w4 b jb mb jsA 2 HL4.out goodA (by omega)).mono ?_
  intro e w5 hd
  obtain ⟨v5, rfl, hi5, hg5, hl5, hw5⟩ := due_ints hd
  have HL5 := Lib.hid hl5
  have HW5 := Lib.hid hw5
  clear hd hi5 hl5 hw5 hg5
  go_wp2_with fail
  refine (due_live w5 b jb mb jsA 3 HL5.out goodA (by omega)).mono ?_
  intro e w6 hd
  obtain ⟨v6, rfl, hi6, hg6, hl6, hw6⟩ := due_ints hd
  have HI6 := Lib.hid hi6
  have HL6 := Lib.hid hl6
  have HW6 := Lib.hid hw6
  clear hd hi6 hl6 hw6 hg6
  go_wp2_with fail
  refine (due_live w6 b jb mb jsA 4 HL6.out goodA (by omega)).mono ?_
  intro e w7 hd
  obtain ⟨v7, rfl, hi7, hg7, hl7, hw7⟩ := due_ints hd
  have HI7 := Lib.hid hi7
  have HL7 := Lib.hid hl7
  have HW7 := Lib.hid hw7
  clear hd hi7 hl7 hw7 hg7
  have hmb : mb < w2.heap.size ∧ b < w2.heap.size := ⟨by obtain ⟨_, _, _, _, _, h⟩ := HL2.out; exact h, HL2.out.lt⟩
  have s2 := HB1.out.size
  have s3 := HB2.out.size
  have s4 := HW3.out.size
  have s5 := HW4.out.size
  have s6 := HW5.out.size
  have s7 := HW6.out.size
  have s8 := HW7.out.size
  have HBW : Hid (Below w.heap.size w w7) := by
    have hS : ∀ i, (i = mb ∨ i = b) → w.heap.size ≤ i := fun i hi => by omega
    exact below_wrote (below_wrote (below_wrote (below_wrote (below_wrote (below_next HB1.out HB2.out) HW3.out hS (by omega)) HW4.out hS (by omega)) HW5.out hS (by omega)) HW6.out hS (by omega)) HW7.out hS (by omega)
  have J3 : Hid (Ints w7 v3 [0, 2]) := by
    have hS : ∀ g, v3.ownBlock = some g → ¬ (g = mb ∨ g = b) := fun g hg => by have := HG3.out g hg; omega
    have := (((HI3.out.wrote HW4.out hS).wrote HW5.out hS).wrote HW6.out hS).wrote HW7.out hS
    rw [show due jsA ((0 : Nat) : Int) = [0, 2] from dueA0] at this
    exact this
  have J4 : Hid (Ints w7 v4 [1]) := by
    have hS : ∀ g, v4.ownBlock = some g → ¬ (g = mb ∨ g = b) := fun g hg => by have := HG4.out g hg; omega
    have := ((HI4.out.wrote HW5.out hS).wrote HW6.out hS).wrote HW7.out hS
    rw [show due jsA ((1 : Nat) : Int) = [1] from dueA1] at this
    exact this
  have J6 : ∃ A cap, v6 = .slice A 0 cap := by
    obtain ⟨A, cap, hv, _⟩ := HI6.out
    rw [show due jsA ((3 : Nat) : Int) = [] from dueA3] at hv
    exact ⟨A, cap, hv⟩
  have J7 : Hid (Ints w7 v7 [1, 0, 2]) := by
    have := HI7.out
    rw [show due jsA ((4 : Nat) : Int) = [1, 0, 2] from dueA4] at this
    exact this
  obtain ⟨A6, cap6, rfl⟩ := J6
  clear HI3 HI4 HI6 HI7 HW3 HW4 HW5 HW6 HW7 HL2 HL3 HL4 HL5 HL6 HG3 HG4 HB1 HB2 hmb s2 s3 s4 s5 s6 s7 s8 k1 k2 k3
  go_wp2_with fail
  refine (same_any _ _ _ [0, 2] (J3.out.below (below_alloc1 _ _)) (ints2 w7 0 2) (by decide)).mono ?_
  rintro e w8 ⟨rfl, hb8⟩
  have HB8 : Hid (Below w7.heap.size w7 w8) := below_next (below_alloc1 _ _) hb8
  clear hb8
  go_wp2_with fail
  refine (same_any _ _ _ [1] ((J4.out.below HB8.out).below (below_alloc1 _ _)) (ints1 w8 1) (by decide)).mono ?_
  rintro e w9 ⟨rfl, hb9⟩
  have HB9 : Hid (Below w7.heap.size w7 w9) := below_next HB8.out (below_next (below_alloc1 _ _) hb9)
  clear hb9
  go_wp2_with fail
  refine (same_any _ _ _ [1, 0, 2] ((J7.out.below HB9.out).below (below_alloc1 _ _)) (ints3 w9 1 0 2) (by decide)).mono ?_
  rintro e w10 ⟨rfl, hb10⟩
  have HB10 : Hid (Below w7.heap.size w7 w10) := below_next HB9.out (below_next (below_alloc1 _ _) hb10)
  clear hb10
  go_wp2_with fail
  refine (now_live _ b jb mb jsA 5 (HL7.out.below HB10.out)).mono ?_
  rintro e w11 ⟨rfl, hw11⟩
  subst hw11
  go_wp2_with fail
  go_ret
  exact ⟨rfl, below_next HBW.out HB10.out⟩
end Go.Proofs.Ytmkbkjnpgdpffaa
