/- Runs of sound missions: what stays so, step by step. Conditions: as RunAt says. -/
import Derived.Test.YtkgenhoaeiihoaaStep
namespace Go.Proofs.Ytkgenhoaeiihoaa
open Go.RowKit

theorem chkFrom_all {n : Int} : ∀ {xs : List It}, chkFrom n xs = 0 → ∀ x ∈ xs, badAt n x = 0
  | [], _, x, hx => by cases hx
  | y :: ys, h, x, hx => by
    unfold chkFrom at h
    by_cases hb : badAt n y = 0
    · rw [if_pos hb] at h
      rcases List.mem_cons.1 hx with rfl | hx
      · exact hb
      · exact chkFrom_all h x hx
    · rw [if_neg hb] at h
      exact absurd h hb
theorem chk_all {xs : List It} (h : chk xs = 0) : xs.length ≤ 64 ∧ ∀ x ∈ xs, badAt xs.length x = 0 := by
  unfold chk at h
  by_cases h64 : 64 < xs.length
  · rw [if_pos h64] at h
    exact absurd h (by decide)
  · rw [if_neg h64] at h
    exact ⟨by omega, chkFrom_all h⟩
theorem badAt_ok {n : Int} {x : It} (h : badAt n x = 0) : rightB x = true ∧ (x.k = 4 → 0 ≤ x.a ∧ x.a ≤ n - 1) := by
  unfold badAt at h
  by_cases hr : rightB x = true
  · rw [if_pos hr] at h
    refine ⟨hr, fun h4 => ?_⟩
    by_cases hh : 0 ≤ x.a ∧ x.a ≤ n - 1
    · exact hh
    · rw [if_pos ⟨h4, hh⟩] at h
      exact absurd h (by decide)
  · rw [if_neg hr] at h
    exact absurd h (by decide)
theorem getD_mem {xs : List It} {i : Nat} (h : i < xs.length) : xs.getD i it0 ∈ xs := by
  rw [List.getD_eq_getElem?_getD, List.getElem?_eq_getElem h]
  exact List.getElem_mem h
structure Inv (r : Rn) : Prop where
  ok : chk r.xs = 0
  le : r.at_ ≤ r.xs.length
  w0 : 0 ≤ r.wt
  w1 : r.wt ≤ 1000000
  wz : r.wt ≠ 0 → r.at_ < r.xs.length ∧ (r.xs.getD r.at_ it0).k = 3
  f0 : ∀ i, 0 ≤ r.f i ∧ r.f i ≤ 255
theorem Inv.item {r : Rn} (h : Inv r) (hl : r.at_ < r.xs.length) : rightB (r.xs.getD r.at_ it0) = true ∧ ((r.xs.getD r.at_ it0).k = 4 → 0 ≤ (r.xs.getD r.at_ it0).a ∧ (r.xs.getD r.at_ it0).a ≤ (r.xs.length : Int) - 1) :=
  badAt_ok ((chk_all h.ok).2 _ (getD_mem hl))
theorem Inv.fine {r : Rn} (h : Inv r) (hl : r.at_ < r.xs.length) : Fine r (r.xs.getD r.at_ it0) :=
  ⟨by have := (chk_all h.ok).1; omega, h.w0, h.w1, h.f0, fun h4 => ((h.item hl).2 h4).1⟩
theorem right4 {x : It} (h : rightB x = true) (h4 : x.k = 4) : 0 ≤ x.b ∧ x.b ≤ 255 := by
  unfold rightB at h
  simp only [h4] at h
  simp at h
  omega
theorem right3 {x : It} (h : rightB x = true) (h3 : x.k = 3) : 0 ≤ x.a ∧ x.a ≤ 1000000 := by
  unfold rightB at h
  simp only [h3] at h
  simp at h
  omega
theorem Inv.next {r : Rn} (h : Inv r) (hl : r.at_ < r.xs.length) : Inv r.next :=
  ⟨h.ok, hl, Int.le_refl 0, by show (0 : Int) ≤ 1000000; decide, fun h0 => absurd rfl h0, h.f0⟩
theorem upd_f0 {f : Nat → Int} {i : Nat} {c : Int} (h : ∀ i, 0 ≤ f i ∧ f i ≤ 255) (hc : 0 ≤ c ∧ c ≤ 255) : ∀ j, 0 ≤ upd f i c j ∧ upd f i c j ≤ 255 := by
  intro j
  unfold upd
  split
  · exact hc
  · exact h j
theorem Inv.step {r : Rn} (h : Inv r) (arr : Bool) : Inv (r.step arr) := by
  unfold Rn.step
  by_cases hl : r.xs.length ≤ r.at_
  · rw [if_pos hl]
    exact h
  · rw [if_neg hl]
    have hlt : r.at_ < r.xs.length := by omega
    obtain ⟨hr, hj⟩ := h.item hlt
    have hwz := h.wz
    unfold stepI
    generalize hx : r.xs.getD r.at_ it0 = x at *
    split
    · split
      · exact h.next hlt
      · exact h
    · split
      · split
        · exact h.next hlt
        · rename_i h12 h3 hle
          have := right3 hr h3
          have hw := h.w0
          exact ⟨h.ok, h.le, by show 0 ≤ r.wt + 1; omega, by show r.wt + 1 ≤ 1000000; omega, fun _ => ⟨hlt, by show (r.xs.getD r.at_ it0).k = 3; rw [hx]; exact h3⟩, h.f0⟩
      · split
        · rename_i h12 h3 h4
          have hb := right4 hr h4
          have hf := h.f0 r.at_
          have ha := hj h4
          have hw : r.wt = 0 := by
            by_cases hw : r.wt = 0
            · exact hw
            · exact absurd (hwz hw).2 h3
          split
          · rename_i hlt2
            exact ⟨h.ok, by show x.a.toNat ≤ r.xs.length; omega, h.w0, h.w1, fun h0 => absurd hw h0, upd_f0 h.f0 (by omega)⟩
          · exact ⟨h.ok, hlt, Int.le_refl 0, by show (0 : Int) ≤ 1000000; decide, fun h0 => absurd rfl h0, upd_f0 h.f0 (by omega)⟩
        · split
          · exact ⟨h.ok, hlt, Int.le_refl 0, by show (0 : Int) ≤ 1000000; decide, fun h0 => absurd rfl h0, h.f0⟩
          · exact h
theorem step_any (w : World) (b mb n : Nat) (v : Value) (r : Rn) (arr : Bool) (h : RunAt w b mb n v r) (hn : n < maxLen) (hi : Inv r) : Calls Try.prog 25 #[.pointer (some ⟨b, 0, none⟩), .bool arr] w (StepPost w b mb n v (r.step arr)) := by
  unfold Rn.step
  by_cases ho : r.xs.length ≤ r.at_
  · rw [if_pos ho]
    exact step_over w b mb n v r arr h ho
  · rw [if_neg ho]
    have hlt : r.at_ < r.xs.length := by omega
    rcases h.items.at with ⟨h1, _⟩ | ⟨g, off, cap, hv, hg, hc⟩
    · rw [h1] at ho
      exact absurd (Nat.zero_le _) ho
    · subst hv
      exact step_at w b mb n g off cap r arr h hn hlt hg (hc _ hlt) (hi.fine hlt)
end Go.Proofs.Ytkgenhoaeiihoaa
