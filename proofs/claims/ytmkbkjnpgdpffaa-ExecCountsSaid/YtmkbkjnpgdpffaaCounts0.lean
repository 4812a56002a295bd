/- How often a job has been due, and when last, as plain numbers. Conditions: each period is 1 at least, each phase 0 at least. -/
import Derived.Test.YtmkbkjnpgdpffaaTicks
namespace Go.Proofs.Ytmkbkjnpgdpffaa

def cnt (js : List Jb) : Nat → Nat → Int
  | 0, _ => 0
  | t + 1, k => cnt js t k + if isB js (t : Int) k then 1 else 0
theorem cnt_inv (js : List Jb) (hg : Good js) (k : Nat) (hk : k < js.length) : ∀ t : Nat, 0 ≤ cnt js t k ∧ cnt js t k ≤ t ∧ ((t : Int) ≤ ph js k → cnt js t k = 0) ∧ (ph js k < (t : Int) → 1 ≤ cnt js t k ∧ ph js k + cnt js t k * pr js k - pr js k < (t : Int) ∧ (t : Int) ≤ ph js k + cnt js t k * pr js k)
  | 0 => by
    have h := hg k hk
    have h0 : (0 : Int) ≤ ph js k := h.2
    refine ⟨Int.le_refl _, Int.le_refl _, fun _ => rfl, fun h1 => ?_⟩
    omega
  | t + 1 => by
    have h := hg k hk
    have hp : 1 ≤ pr js k := by rw [pr_get js k hk]; exact h.1
    obtain ⟨i1, i2, i3, i4⟩ := cnt_inv js hg k hk t
    have e : cnt js (t + 1) k = cnt js t k + if isB js (t : Int) k then 1 else 0 := rfl
    rw [e]
    generalize cnt js t k = c at *
    have em : (c + 1) * pr js k = c * pr js k + pr js k := by rw [Int.add_mul, Int.one_mul]
    by_cases hb : isB js (t : Int) k = true
    · rw [if_pos hb]
      rw [isB_iff] at hb
      obtain ⟨hb1, d, hd⟩ := hb
      rw [em]
      refine ⟨by omega, by omega, fun h1 => by omega, fun h1 => ⟨by omega, ?_⟩⟩
      rcases Int.lt_or_eq_of_le hb1 with h2 | h2
      · obtain ⟨j1, j2, j3⟩ := i4 h2
        have hcd : pr js k * d = c * pr js k := by
          have hz : pr js k ∣ (c * pr js k - pr js k * d) := Int.dvd_sub (Int.dvd_mul_left _ _) (Int.dvd_mul_right _ _)
          have := dvd_lt hz (by omega) (by omega)
          omega
        omega
      · have := i3 (by omega)
        subst this
        omega
    · rw [if_neg hb, Int.add_zero]
      refine ⟨i1, by omega, fun h1 => i3 (by omega), fun h1 => ?_⟩
      rcases Int.lt_or_eq_of_le (show ph js k ≤ (t : Int) by omega) with h2 | h2
      · obtain ⟨j1, j2, j3⟩ := i4 h2
        refine ⟨j1, by omega, ?_⟩
        rcases Int.lt_or_eq_of_le j3 with h3 | h3
        · omega
        · exfalso
          apply hb
          rw [isB_iff]
          exact ⟨by omega, ⟨c, by rw [Int.mul_comm]; omega⟩⟩
      · exfalso
        apply hb
        rw [isB_iff]
        exact ⟨by omega, ⟨0, by omega⟩⟩
/-- When a job is due, it is its first moment, or a period behind the last one. -/
theorem cnt_due (js : List Jb) (hg : Good js) (k t : Nat) (hk : k < js.length) (hb : isB js (t : Int) k = true) : (t : Int) = ph js k + cnt js t k * pr js k := by
  have hp : 1 ≤ pr js k := by rw [pr_get js k hk]; exact (hg k hk).1
  obtain ⟨i1, i2, i3, i4⟩ := cnt_inv js hg k hk t
  rw [isB_iff] at hb
  obtain ⟨hb1, d, hd⟩ := hb
  rcases Int.lt_or_eq_of_le hb1 with h2 | h2
  · obtain ⟨j1, j2, j3⟩ := i4 h2
    have hz : pr js k ∣ (cnt js t k * pr js k - pr js k * d) := Int.dvd_sub (Int.dvd_mul_left _ _) (Int.dvd_mul_right _ _)
    have := dvd_lt hz (by omega) (by omega)
    omega
  · rw [i3 (by omega)]
    omega
theorem cnt_end (js : List Jb) (hg : Good js) (k n : Nat) (hk : k < js.length) : (ph js k < (n : Int) → (((n : Int) - 1 - ph js k) / pr js k + 1 = cnt js n k)) ∧ (¬ ph js k < (n : Int) → cnt js n k = 0) := by
  have hp : 1 ≤ pr js k := by rw [pr_get js k hk]; exact (hg k hk).1
  obtain ⟨i1, i2, i3, i4⟩ := cnt_inv js hg k hk n
  refine ⟨fun h => ?_, fun h => i3 (by omega)⟩
  obtain ⟨j1, j2, j3⟩ := i4 h
  have e1 : (cnt js n k - 1) * pr js k = cnt js n k * pr js k - pr js k := by rw [Int.sub_mul, Int.one_mul]
  have h1 : cnt js n k - 1 ≤ ((n : Int) - 1 - ph js k) / pr js k := by
    rw [Int.le_ediv_iff_mul_le (by omega), e1]
    omega
  have h2 : ((n : Int) - 1 - ph js k) / pr js k < cnt js n k := by
    rw [Int.ediv_lt_iff_lt_mul (by omega)]
    omega
  omega
theorem due_mem (js : List Jb) (t : Int) (k : Nat) : k ∈ due js t ↔ k < js.length ∧ isB js t k = true := by
  rw [show (k ∈ due js t) ↔ k ∈ (List.range js.length).filter (isB js t) from (dueTo_ok js t js.length).2.mem_iff, List.mem_filter, List.mem_range]
theorem due_nodup (js : List Jb) (t : Int) : (due js t).Nodup := by
  have h := (dueTo_ok js t js.length).2
  exact h.symm.nodup (List.nodup_range.sublist List.filter_sublist)
/-- How often a job has been due, when the first i of a tick's list are counted. -/
def cvi (js : List Jb) (t i k : Nat) : Int := cnt js t k + if k ∈ (due js t).take i then 1 else 0
theorem cvi_zero (js : List Jb) (t k : Nat) : cvi js t 0 k = cnt js t k := by simp [cvi]
theorem cvi_end (js : List Jb) (t k : Nat) (hk : k < js.length) : cvi js t (due js t).length k = cnt js (t + 1) k := by
  unfold cvi
  rw [List.take_length]
  show _ = cnt js t k + if isB js (t : Int) k then 1 else 0
  by_cases h : isB js (t : Int) k = true
  · rw [if_pos ((due_mem js t k).2 ⟨hk, h⟩), if_pos h]
  · rw [if_neg (fun h1 => h ((due_mem js t k).1 h1).2), if_neg h]
theorem cvi_here (js : List Jb) (t i k : Nat) (hi : i < (due js t).length) (hk : (due js t).getD i 0 = k) : cvi js t i k = cnt js t k ∧ cvi js t (i + 1) k = cnt js t k + 1 := by
  have hd := due_nodup js t
  have e : (due js t)[i] = k := by rw [← hk, List.getD_eq_getElem?_getD, List.getElem?_eq_getElem hi]; rfl
  have hn : k ∉ (due js t).take i := by
    intro hm
    obtain ⟨j, hj, hje⟩ := List.mem_iff_getElem.1 hm
    rw [List.length_take] at hj
    rw [List.getElem_take] at hje
    have := (List.pairwise_iff_getElem.1 hd) j i (by omega) hi (by omega)
    exact this (hje.trans e.symm)
  refine ⟨?_, ?_⟩
  · unfold cvi
    rw [if_neg hn, Int.add_zero]
  · unfold cvi
    rw [if_pos ?_]
    rw [List.take_succ_eq_append_getElem hi, e]
    exact List.mem_append_right _ (List.mem_singleton.2 rfl)
theorem cvi_other (js : List Jb) (t i k j : Nat) (hi : i < (due js t).length) (hk : (due js t).getD i 0 = k) (hj : j ≠ k) : cvi js t (i + 1) j = cvi js t i j := by
  have e : (due js t)[i] = k := by rw [← hk, List.getD_eq_getElem?_getD, List.getElem?_eq_getElem hi]; rfl
  unfold cvi
  rw [List.take_succ_eq_append_getElem hi, e]
  congr 1
  simp [hj]
theorem due_adj (js : List Jb) (t : Int) (i : Nat) (hi : i + 1 < (due js t).length) : rk js ((due js t).getD i 0) < rk js ((due js t).getD (i + 1) 0) ∨ rk js ((due js t).getD i 0) = rk js ((due js t).getD (i + 1) 0) ∧ (due js t).getD i 0 < (due js t).getD (i + 1) 0 := by
  have hs := (dueTo_ok js t js.length).1
  have hd := due_nodup js t
  have e1 : (due js t).getD i 0 = (due js t)[i] := by rw [List.getD_eq_getElem?_getD, List.getElem?_eq_getElem (by omega)]; rfl
  have e2 : (due js t).getD (i + 1) 0 = (due js t)[i + 1] := by rw [List.getD_eq_getElem?_getD, List.getElem?_eq_getElem hi]; rfl
  rw [e1, e2]
  have h1 := (List.pairwise_iff_getElem.1 hs) i (i + 1) (by unfold due at hi; omega) hi (by omega)
  have h2 := (List.pairwise_iff_getElem.1 hd) i (i + 1) (by omega) hi (by omega)
  unfold le2 at h1
  change rk js (due js t)[i] < rk js (due js t)[i + 1] ∨ rk js (due js t)[i] = rk js (due js t)[i + 1] ∧ (due js t)[i] ≤ (due js t)[i + 1] at h1
  omega
end Go.Proofs.Ytmkbkjnpgdpffaa
