/- Few changes where nobody speaks: the plain law of one step. No program in sight; no condition but a sound machine. -/
import Derived.Test.YtgbogbmjefbkeaaLandP
namespace Go.Proofs.Ytgbogbmjefbkeaa
open Go.RowKit
/-- How often a mode can be left yet, where nobody speaks. -/
def pot (m : Int) : Int := if m = 3 then 7 else if m ≤ 7 then 6 else if m = 8 then 5 else if m = 9 then 4 else if m = 10 ∨ m = 11 then 3 else if m = 12 then 2 else if m = 13 then 1 else 0
theorem pot_in (m : Int) : 0 ≤ pot m ∧ pot m ≤ 7 := by
  unfold pot
  repeat' split
  all_goals omega
theorem tabP : ∀ (m : Fin 15) (e : Fin 7), 3 ≤ (m.val : Int) → nextF (m.val : Int) (e.val : Int) ≠ (m.val : Int) → pot (nextF (m.val : Int) (e.val : Int)) + 1 ≤ pot (m.val : Int) ∧ 3 ≤ nextF (m.val : Int) (e.val : Int) := by decide +kernel
theorem and127 (ev : Int) : 0 ≤ bits .and .i64 ev 127 ∧ bits .and .i64 ev 127 ≤ 127 := by
  unfold bits
  have h : ((BitVec.ofInt IntKind.i64.bits ev) &&& (BitVec.ofInt IntKind.i64.bits 127)).toNat ≤ 127 := by
    show (BitVec.ofInt 64 ev &&& BitVec.ofInt 64 127).toNat ≤ 127
    rw [BitVec.toNat_and]
    exact Nat.le_trans Nat.and_le_right (by decide)
  simp only
  generalize ((BitVec.ofInt IntKind.i64.bits ev) &&& (BitVec.ofInt IntKind.i64.bits 127)).toNat = n at h
  show 0 ≤ IntKind.i64.wrap (n : Int) ∧ IntKind.i64.wrap (n : Int) ≤ 127
  rw [IntKind.wrap_i64]
  omega
theorem has_high {ev : Int} (h0 : 0 ≤ ev) (h1 : ev ≤ 127) (j : Nat) (hj : 7 ≤ j) : hasB ev j = false := by
  have hp : (128 : Int) ≤ 2 ^ j := by
    have h := Nat.pow_le_pow_right (n := 2) (by decide) hj
    have h2 : ((2 ^ 7 : Nat) : Int) ≤ ((2 ^ j : Nat) : Int) := Int.ofNat_le.2 h
    simpa using h2
  have hz : ev / 2 ^ j = 0 := Int.ediv_eq_zero_of_lt h0 (by omega)
  unfold hasB
  rw [hz]
  decide
theorem calm_step {x : Md} (h : x.Ok) (h3 : 3 ≤ x.mode) {ev : Int} (h0 : 0 ≤ ev) (h1 : ev ≤ 127) : 3 ≤ (x.step ev).mode ∧ (if 0 ≤ x.did ev then pot (x.step ev).mode + 1 ≤ pot x.mode else (x.step ev).mode = x.mode) := by
  unfold Md.step Md.did
  simp only
  cases ho : first x.mode ev 0 18 with
  | none =>
    refine ⟨h3, ?_⟩
    rw [if_neg (by decide)]
    rfl
  | some e =>
    obtain ⟨_, h2, hh, hn, _⟩ := first_some ho
    have he : e < 7 := by
      by_cases he : e < 7
      · exact he
      · rw [has_high h0 h1 e (by omega)] at hh
        cases hh
    have := tabP ⟨x.mode.toNat, by have := h.m1; have := h.m0; omega⟩ ⟨e, he⟩
    simp only [Int.toNat_of_nonneg h.m0] at this
    obtain ⟨h4, h5⟩ := this h3 hn
    refine ⟨h5, ?_⟩
    rw [if_pos (by show (0 : Int) ≤ (e : Int); omega)]
    exact h4
end Go.Proofs.Ytgbogbmjefbkeaa
