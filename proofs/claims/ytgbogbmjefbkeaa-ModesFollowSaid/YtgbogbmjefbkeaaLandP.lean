/- Nothing but a landing ends a flight, nothing stops the backup, few changes where nobody speaks: the plain laws of one step. No program in sight; no condition but a sound machine. -/
import Derived.Test.YtgbogbmjefbkeaaEvs
namespace Go.Proofs.Ytgbogbmjefbkeaa
open Go.RowKit
theorem first_some {m ev : Int} {k : Nat} : ∀ {n e : Nat}, first m ev e n = some k → e ≤ k ∧ k < e + n ∧ hasB ev k = true ∧ nextF m (k : Int) ≠ m ∧ ∀ j, e ≤ j → j < k → hasB ev j = true → nextF m (j : Int) = m
  | 0, _, h => by cases h
  | n + 1, e, h => by
    unfold first at h
    cases hc : (hasB ev e && nextF m (e : Int) != m) with
    | true =>
      rw [hc, if_pos rfl] at h
      injection h with h
      subst h
      simp only [Bool.and_eq_true, bne_iff_ne] at hc
      exact ⟨Nat.le_refl _, by omega, hc.1, hc.2, fun j h1 h2 => by omega⟩
    | false =>
      rw [hc, if_neg (by decide)] at h
      obtain ⟨h1, h2, h3, h4, h5⟩ := first_some h
      refine ⟨by omega, by omega, h3, h4, fun j hj1 hj2 hj3 => ?_⟩
      by_cases hje : j = e
      · subst hje
        rw [hj3, Bool.true_and] at hc
        simpa using hc
      · exact h5 j (by omega) hj2 hj3
theorem first_none {m ev : Int} : ∀ {n e : Nat}, first m ev e n = none → ∀ j, e ≤ j → j < e + n → hasB ev j = true → nextF m (j : Int) = m
  | 0, e, _, j, h1, h2, _ => by omega
  | n + 1, e, h, j, h1, h2, h3 => by
    unfold first at h
    cases hc : (hasB ev e && nextF m (e : Int) != m) with
    | true =>
      rw [hc, if_pos rfl] at h
      cases h
    | false =>
      rw [hc, if_neg (by decide)] at h
      by_cases hje : j = e
      · subst hje
        rw [h3, Bool.true_and] at hc
        simpa using hc
      · exact first_none h j (by omega) (by omega) h3
structure Md.Ok (x : Md) : Prop where
  m0 : 0 ≤ x.mode
  m1 : x.mode ≤ 14
  l64 : x.lat < 64
def bkB (m : Int) : Bool := m == 12 || m == 13
def dryB (l : Nat) : Bool := l / 4 % 2 == 1
theorem tabA : ∀ (m : Fin 15) (e : Fin 18), (flyB (m.val : Int) = true → flyB (nextF (m.val : Int) (e.val : Int)) = false → nextF (m.val : Int) (e.val : Int) = 14 ∧ e.val = 3) ∧
    (bkB (m.val : Int) = true → nextF (m.val : Int) (e.val : Int) = 12 ∨ nextF (m.val : Int) (e.val : Int) = 13 ∨ nextF (m.val : Int) (e.val : Int) = 14) ∧
    (bkB (m.val : Int) = true ∨ (m.val : Int) = 14 → bkB (nextF (m.val : Int) (e.val : Int)) = true ∨ nextF (m.val : Int) (e.val : Int) = 14 ∨ nextF (m.val : Int) (e.val : Int) ≤ 1) ∧
    (flyB (m.val : Int) = true → bkB (m.val : Int) = false → e.val ≤ 2 → nextF (m.val : Int) (e.val : Int) = 12) := by decide +kernel
theorem tab {m : Int} {e : Nat} (h0 : 0 ≤ m) (h1 : m ≤ 14) (he : e < 18) : (flyB m = true → flyB (nextF m (e : Int)) = false → nextF m (e : Int) = 14 ∧ e = 3) ∧
    (bkB m = true → nextF m (e : Int) = 12 ∨ nextF m (e : Int) = 13 ∨ nextF m (e : Int) = 14) ∧
    (bkB m = true ∨ m = 14 → bkB (nextF m (e : Int)) = true ∨ nextF m (e : Int) = 14 ∨ nextF m (e : Int) ≤ 1) ∧ (flyB m = true → bkB m = false → e ≤ 2 → nextF m (e : Int) = 12) := by
  have := tabA ⟨m.toNat, by omega⟩ ⟨e, he⟩
  simp only [Int.toNat_of_nonneg h0] at this
  exact this
theorem dry_plat : ∀ (l : Fin 64) (f h0 h1 h2 h4 h5 : Bool), dryB (plat l.val f h0 h1 h2 h4 h5) = (dryB l.val || (f && h2)) := by decide +kernel
theorem dry_latched {x : Md} (h : x.Ok) (ev : Int) : dryB (x.latched ev) = (dryB x.lat || (flyB x.mode && hasB ev 2)) := by
  unfold Md.latched
  rw [latched_eq]
  exact dry_plat ⟨x.lat, h.l64⟩ _ _ _ _ _ _
theorem Md.Ok.step {x : Md} (h : x.Ok) (ev : Int) : (x.step ev).Ok := by
  have hin := fun e => nextF_in x.mode e h.m0 (by have := h.m1; omega)
  have hg : 0 ≤ x.goes (first x.mode ev 0 18) ∧ x.goes (first x.mode ev 0 18) ≤ 14 := by
    cases first x.mode ev 0 18 with
    | none => exact ⟨h.m0, h.m1⟩
    | some e => exact ⟨(hin e).1, (hin e).2.2 h.m1⟩
  refine ⟨hg.1, hg.2, ?_⟩
  unfold Md.step
  split
  · show 0 < 64; omega
  · exact latD_lt h.l64 18
/-- P1: what is flown ends by a landing alone. -/
theorem land1 {x : Md} (h : x.Ok) (ev : Int) (hf : flyB x.mode = true) (hn : flyB (x.step ev).mode = false) : (x.step ev).mode = 14 ∧ x.did ev = 3 := by
  unfold Md.step at hn ⊢
  unfold Md.did
  simp only at hn ⊢
  cases ho : first x.mode ev 0 18 with
  | none =>
    rw [ho] at hn
    unfold Md.goes at hn
    rw [hf] at hn
    cases hn
  | some e =>
    rw [ho] at hn
    obtain ⟨_, h2, _, _, _⟩ := first_some ho
    obtain ⟨h3, h4⟩ := (tab h.m0 h.m1 (e := e) (by omega)).1 hf hn
    exact ⟨h3, by rw [h4]; rfl⟩
/-- P2: the backup goes on, or has landed. -/
theorem land2 {x : Md} (h : x.Ok) (ev : Int) (hb : bkB x.mode = true) : (x.step ev).mode = 12 ∨ (x.step ev).mode = 13 ∨ (x.step ev).mode = 14 := by
  unfold Md.step
  simp only
  cases ho : first x.mode ev 0 18 with
  | none =>
    unfold bkB at hb
    simp only [Bool.or_eq_true, beq_iff_eq] at hb
    show x.mode = 12 ∨ x.mode = 13 ∨ x.mode = 14
    omega
  | some e =>
    obtain ⟨_, h2, _, _, _⟩ := first_some ho
    exact (tab h.m0 h.m1 (e := e) (by omega)).2.1 hb
/-- P3: a latch goes on the ground alone. -/
theorem land3 {x : Md} (h : x.Ok) (ev : Int) (hd : dryB x.lat = true) (hn : dryB (x.step ev).lat = false) : (x.step ev).mode = 0 ∨ (x.step ev).mode = 1 := by
  have h0 := (h.step ev).m0
  unfold Md.step at hn h0 ⊢
  simp only at hn h0 ⊢
  by_cases hl : x.goes (first x.mode ev 0 18) ≤ 1
  · omega
  · rw [if_neg hl, dry_latched h, hd] at hn
    cases hn
def LInv (x : Md) : Prop := dryB x.lat = true → bkB x.mode = true ∨ x.mode = 14
/-- P4: once the battery is dry the backup has the vehicle, until it is down. -/
theorem land4 {x : Md} (h : x.Ok) (hi : LInv x) (ev : Int) : LInv (x.step ev) := by
  intro hd
  unfold Md.step at hd ⊢
  simp only at hd ⊢
  by_cases hl : x.goes (first x.mode ev 0 18) ≤ 1
  · rw [if_pos hl] at hd
    exact absurd hd (by decide)
  · rw [if_neg hl, dry_latched h] at hd
    simp only [Bool.or_eq_true, Bool.and_eq_true] at hd
    have hold : bkB x.mode = true ∨ x.mode = 14 → bkB (x.goes (first x.mode ev 0 18)) = true ∨ x.goes (first x.mode ev 0 18) = 14 := by
      intro hb
      cases ho : first x.mode ev 0 18 with
      | none => exact hb
      | some e =>
        obtain ⟨_, h2, _, _, _⟩ := first_some ho
        rw [ho] at hl
        rcases (tab h.m0 h.m1 (e := e) (by omega)).2.2.1 hb with h3 | h3 | h3
        · exact .inl h3
        · exact .inr h3
        · exact absurd h3 hl
    rcases hd with hd | ⟨hf, h2⟩
    · exact hold (hi hd)
    · cases hb : bkB x.mode with
      | true => exact hold (.inl hb)
      | false =>
        have h12 := (tab h.m0 h.m1 (e := 2) (by omega)).2.2.2 hf hb (Nat.le_refl _)
        have hne : x.mode ≠ 12 := fun h => by rw [h] at hb; exact absurd hb (by decide)
        cases ho : first x.mode ev 0 18 with
        | none =>
          have := first_none ho 2 (by omega) (by omega) h2
          rw [h12] at this
          exact absurd this.symm hne
        | some e =>
          obtain ⟨_, h3, _, _, h5⟩ := first_some ho
          have he : e ≤ 2 := by
            by_cases he : e ≤ 2
            · exact he
            · have := h5 2 (by omega) (by omega) h2
              rw [h12] at this
              exact absurd this.symm hne
          left
          show bkB (nextF x.mode (e : Int)) = true
          rw [(tab h.m0 h.m1 (e := e) (by omega)).2.2.2 hf hb he]
          decide
theorem dry_bits0 : ∀ l : Fin 64, (bits .and .i64 (l.val : Int) 4 == 0) = !dryB l.val := by decide +kernel
theorem dry_bits {l : Nat} (h : l < 64) : (bits .and .i64 (l : Int) 4 == 0) = !dryB l := dry_bits0 ⟨l, h⟩
theorem dry_bits2 {l : Nat} (h : l < 64) : (bits .and .i64 (l : Int) 4 != 0) = dryB l := by
  unfold bne
  rw [dry_bits h, Bool.not_not]
end Go.Proofs.Ytgbogbmjefbkeaa
