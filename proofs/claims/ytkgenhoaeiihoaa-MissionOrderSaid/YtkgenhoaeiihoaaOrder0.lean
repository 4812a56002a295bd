/- A mission that only jumps ahead goes through its items once, in order, and ends: the plain law. No program in sight. -/
import Derived.Test.YtkgenhoaeiihoaaAwake
namespace Go.Proofs.Ytkgenhoaeiihoaa
open Go.RowKit

def cost (x : It) : Int := 1 + (if x.k = 3 then x.a else 0)
def costs (xs : List It) : Int := (xs.map cost).foldr (· + ·) 0
theorem costs_nil : costs [] = 0 := rfl
theorem costs_cons (x : It) (xs : List It) : costs (x :: xs) = cost x + costs xs := rfl
theorem costs_append (xs ys : List It) : costs (xs ++ ys) = costs xs + costs ys := by
  induction xs with
  | nil => simp [costs_nil]
  | cons x xs ih => rw [List.cons_append, costs_cons, costs_cons, ih]; omega
/-- Few: no jump back, no long loiter, up to the k-th item. -/
def fewB (i : Nat) (x : It) : Bool := decide (¬ (x.k = 4 ∧ x.a ≤ (i : Int)) ∧ ¬ (x.k = 3 ∧ 1000 < x.a))
def Few (xs : List It) (k : Nat) : Prop := ∀ i, i < k → fewB i (xs.getD i it0) = true
theorem cost_pos {xs : List It} (h : chk xs = 0) {x : It} (hx : x ∈ xs) : 1 ≤ cost x := by
  have hr := (badAt_ok ((chk_all h).2 x hx)).1
  unfold cost
  by_cases h3 : x.k = 3
  · rw [if_pos h3]
    have := right3 hr h3
    omega
  · rw [if_neg h3]
    decide
theorem costs_drop {xs : List It} (k : Nat) (hk : k < xs.length) : costs (xs.drop k) = cost (xs.getD k it0) + costs (xs.drop (k + 1)) := by
  rw [drop_at xs k hk, costs_cons]
theorem costs_le {xs : List It} (h : chk xs = 0) : ∀ (d i : Nat), i + d ≤ xs.length → costs (xs.drop (i + d)) ≤ costs (xs.drop i)
  | 0, i, _ => Int.le_refl _
  | d + 1, i, hl => by
    have h1 := costs_le h d i (by omega)
    have h2 := costs_drop (xs := xs) (i + d) (by omega)
    have h3 := cost_pos h (getD_mem (xs := xs) (i := i + d) (by omega))
    rw [← Nat.add_assoc]
    omega
theorem costs_ge {xs : List It} (h : chk xs = 0) (i : Nat) (hi : i ≤ xs.length) : 0 ≤ costs (xs.drop i) := by
  have := costs_le h (xs.length - i) i (by omega)
  rw [show i + (xs.length - i) = xs.length by omega, List.drop_length] at this
  exact this
/-- What a run that only goes ahead has still to do. -/
structure Ahead (r : Rn) (last k steps : Int) : Prop where
  inv : Inv r
  few : Few r.xs r.xs.length
  wt : r.wt ≠ 0 → r.wt ≤ (r.xs.getD r.at_ it0).a
  last : last ≤ (r.at_ : Int)
  left : costs (r.xs.drop r.at_) - r.wt + k ≤ steps - 1
theorem Ahead.room {r : Rn} {last k steps : Int} (h : Ahead r last k steps) : k ≤ steps - 1 := by
  have h1 := h.left
  have hi := h.inv
  by_cases hl : r.at_ < r.xs.length
  · have h2 := costs_drop (xs := r.xs) r.at_ hl
    have h3 := costs_ge hi.ok (r.at_ + 1) hl
    by_cases hw : r.wt = 0
    · have h4 := cost_pos hi.ok (getD_mem hl)
      omega
    · have h5 := h.wt hw
      have h6 := (hi.wz hw).2
      have h7 : cost (r.xs.getD r.at_ it0) = 1 + (r.xs.getD r.at_ it0).a := by unfold cost; rw [if_pos h6]
      omega
  · have hw : r.wt = 0 := by
      by_cases hw : r.wt = 0
      · exact hw
      · exact absurd (hi.wz hw).1 hl
    have h3 := costs_ge hi.ok r.at_ hi.le
    omega
theorem Ahead.next {r : Rn} {last k steps : Int} (h : Ahead r last k steps) (hl : r.at_ < r.xs.length) (r' : Rn) (hx : r'.xs = r.xs) (ha : r'.at_ = r.at_ + 1) (hw : r'.wt = 0) (hi : Inv r') : Ahead r' (r.at_ : Int) (k + 1) steps := by
  have h2 := costs_drop (xs := r.xs) r.at_ hl
  have h4 := cost_pos h.inv.ok (getD_mem hl)
  refine ⟨hi, by rw [hx]; exact h.few, fun h => absurd hw h, by omega, ?_⟩
  rw [hx, ha, hw]
  have h1 := h.left
  by_cases hw : r.wt = 0
  · omega
  · have h5 := h.wt hw
    have h6 := (h.inv.wz hw).2
    have h7 : cost (r.xs.getD r.at_ it0) = 1 + (r.xs.getD r.at_ it0).a := by unfold cost; rw [if_pos h6]
    omega
theorem Ahead.step {r : Rn} {last k steps : Int} (h : Ahead r last k steps) (hl : r.at_ < r.xs.length) (hk : (r.xs.getD r.at_ it0).k ≠ 6 ∧ (r.xs.getD r.at_ it0).k ≠ 7) : Ahead (r.step true) (r.at_ : Int) (k + 1) steps := by
  have hs := h.inv.step true
  have hlt : ¬ r.xs.length ≤ r.at_ := by omega
  have hr := (h.inv.item hl).1
  have hj := (h.inv.item hl).2
  have hf := h.few r.at_ hl
  unfold Rn.step at hs ⊢
  rw [if_neg hlt] at hs ⊢
  have hkind := right_kind hr
  unfold stepI at hs ⊢
  generalize hxx : r.xs.getD r.at_ it0 = x at *
  by_cases h12 : x.k = 1 ∨ x.k = 2
  · rw [if_pos h12, if_pos rfl] at hs ⊢
    exact h.next hl _ rfl rfl rfl hs
  · rw [if_neg h12] at hs ⊢
    by_cases h3 : x.k = 3
    · rw [if_pos h3] at hs ⊢
      by_cases hle : x.a ≤ r.wt + 1
      · rw [if_pos hle] at hs ⊢
        exact h.next hl _ rfl rfl rfl hs
      · rw [if_neg hle] at hs ⊢
        have h1 := h.left
        refine ⟨hs, h.few, fun _ => ?_, Int.le_refl _, ?_⟩
        · show r.wt + 1 ≤ (r.xs.getD r.at_ it0).a
          rw [hxx]
          omega
        · show costs (r.xs.drop r.at_) - (r.wt + 1) + (k + 1) ≤ steps - 1
          omega
    · rw [if_neg h3] at hs ⊢
      by_cases h4 : x.k = 4
      · rw [if_pos h4] at hs ⊢
        have hw : r.wt = 0 := by
          by_cases hw : r.wt = 0
          · exact hw
          · have := (h.inv.wz hw).2
            rw [hxx] at this
            exact absurd this h3
        by_cases hlt2 : r.f r.at_ < x.b
        · rw [if_pos hlt2] at hs ⊢
          have hja := hj h4
          have hahead : (r.at_ : Int) < x.a := by
            unfold fewB at hf
            have := (of_decide_eq_true hf).1
            by_cases hh : x.a ≤ (r.at_ : Int)
            · exact absurd ⟨h4, hh⟩ this
            · omega
          have hc := costs_le h.inv.ok (x.a.toNat - (r.at_ + 1)) (r.at_ + 1) (by omega)
          rw [show r.at_ + 1 + (x.a.toNat - (r.at_ + 1)) = x.a.toNat by omega] at hc
          have h2 := costs_drop (xs := r.xs) r.at_ hl
          have h5 := cost_pos h.inv.ok (getD_mem hl)
          have h1 := h.left
          refine ⟨hs, h.few, fun h => absurd hw h, ?_, ?_⟩
          · show (r.at_ : Int) ≤ (x.a.toNat : Int)
            omega
          · show costs (r.xs.drop x.a.toNat) - r.wt + (k + 1) ≤ steps - 1
            omega
        · rw [if_neg hlt2] at hs ⊢
          exact h.next hl _ rfl rfl rfl hs
      · rw [if_neg h4] at hs ⊢
        have h5 : x.k = 5 := by omega
        rw [if_pos h5] at hs ⊢
        exact h.next hl _ rfl rfl rfl hs
theorem ahead0 {xs : List It} (h : chk xs = 0) (hf : Few xs xs.length) (sp : Int) : Ahead (rn0 xs sp) (-1) 0 (1 + costs xs) :=
  ⟨inv0 h sp, hf, fun h => absurd rfl h, by show (-1 : Int) ≤ 0; decide, by show costs (xs.drop 0) - 0 + 0 ≤ 1 + costs xs - 1; rw [List.drop_zero]; omega⟩
theorem cost_small {xs : List It} (h : chk xs = 0) {x : It} (hx : x ∈ xs) : cost x ≤ 1000001 := by
  have hr := (badAt_ok ((chk_all h).2 x hx)).1
  unfold cost
  by_cases h3 : x.k = 3
  · rw [if_pos h3]
    have := right3 hr h3
    omega
  · rw [if_neg h3]
    decide
theorem costs_take {xs : List It} (k : Nat) (hk : k < xs.length) : costs (xs.take (k + 1)) = costs (xs.take k) + cost (xs.getD k it0) := by
  rw [List.take_succ_eq_append_getElem hk, costs_append, List.getD_eq_getElem?_getD, List.getElem?_eq_getElem hk, costs_cons, costs_nil]
  simp
theorem take_lo {xs : List It} (h : chk xs = 0) : ∀ k, k ≤ xs.length → 0 ≤ costs (xs.take k) ∧ costs (xs.take k) ≤ 1000001 * (k : Int)
  | 0, _ => by rw [List.take_zero, costs_nil]; omega
  | k + 1, hk => by
    have h1 := take_lo h k (by omega)
    have hm := getD_mem (xs := xs) (i := k) (by omega)
    have h2 := cost_pos h hm
    have h3 := cost_small h hm
    rw [costs_take k (by omega)]
    omega
end Go.Proofs.Ytkgenhoaeiihoaa
