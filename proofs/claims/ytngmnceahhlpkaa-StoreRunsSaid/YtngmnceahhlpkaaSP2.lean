/- The plain law of a flash that may be cut: what programming and erasing leave in each cell; which sector is the active one. Conditions: the places lie within the flash. -/
import Derived.Test.YtngmnceahhlpkaaSP1
namespace Go.Proofs.Ytngmnceahhlpkaa
open Go.RowKit
theorem whole_left {f : Fl} (h : f.whole = true) (ha : f.armed = true) : f.step.left = f.left - 1 ∧ f.left ≠ 0 := by
  unfold Fl.whole at h
  unfold Fl.step
  rw [ha] at h ⊢
  have hl : ¬ f.left = 0 := by simpa using h
  rw [if_pos rfl, if_neg hl]
  exact ⟨rfl, hl⟩
theorem part_left {f : Fl} (h : f.whole = false) : f.left = 0 := by
  unfold Fl.whole at h
  simp only [Bool.not_eq_false', Bool.and_eq_true, decide_eq_true_eq] at h
  exact h.2
theorem whole_step {f : Fl} (h : f.whole = true) : f.step.off = f.off ∧ f.step.armed = f.armed := by
  unfold Fl.whole at h
  unfold Fl.step
  cases ha : f.armed with
  | false => exact ⟨rfl, rfl⟩
  | true =>
    rw [ha] at h
    have hl : ¬ f.left = 0 := by simpa using h
    rw [if_pos rfl, if_neg hl]
    exact ⟨rfl, rfl⟩
theorem part_step {f : Fl} (h : f.whole = false) : f.armed = true ∧ f.step.off = true := by
  unfold Fl.whole at h
  unfold Fl.step
  cases ha : f.armed with
  | false => rw [ha] at h; cases h
  | true =>
    rw [ha] at h
    have hl : f.left = 0 := by simpa using h
    rw [if_pos rfl, if_pos hl]
    exact ⟨rfl, rfl⟩
theorem put_getD (f : Fl) (a v i : Nat) (ha : a < f.cell.length) : (f.step.put a v).cell.getD i 0 = if i = a then v else f.cell.getD i 0 := by
  rw [Fl.put_cell, Fl.step_cell, List.getD_eq_getElem?_getD, List.getD_eq_getElem?_getD, List.getElem?_set]
  by_cases hi : i = a
  · subst hi
    rw [if_pos rfl, if_pos ha, if_pos rfl]
    rfl
  · rw [if_neg (Ne.symm hi), if_neg hi]
/-- What programming leaves in each cell. -/
theorem prog_out : ∀ (ds : List Nat) (f : Fl) (a : Nat), a + ds.length ≤ f.cell.length →
    ∃ f' r, f.prog a ds = (f', r) ∧ f'.cell.length = f.cell.length ∧ (∀ i, i < a ∨ a + ds.length ≤ i → f'.cell.getD i 0 = f.cell.getD i 0) ∧
      ((r = 0 ∧ f'.off = f.off ∧ f'.armed = f.armed ∧ (∀ m, m < ds.length → f'.cell.getD (a + m) 0 = f.cell.getD (a + m) 0 &&& ds.getD m 0) ∧ (f.armed = true → 0 ≤ f.left → (ds.length : Int) ≤ f.left)) ∨
       (r = 60 ∧ f.armed = true ∧ f'.off = true ∧ ∃ m, m < ds.length ∧ f.left = (m : Int) ∧ (∀ x, x < m → f'.cell.getD (a + x) 0 = f.cell.getD (a + x) 0 &&& ds.getD x 0) ∧ f'.cell.getD (a + m) 0 = f.cell.getD (a + m) 0 &&& (ds.getD m 0 ||| f.at_ 0) ∧
         ∀ x, m < x → x < ds.length → f'.cell.getD (a + x) 0 = f.cell.getD (a + x) 0))
  | [], f, a, _ => ⟨f, 0, rfl, rfl, fun _ _ => rfl, .inl ⟨rfl, rfl, rfl, fun m hm => absurd hm (Nat.not_lt_zero _), fun _ h => h⟩⟩
  | d :: ds, f, a, ha => by
    rw [List.length_cons] at ha
    have hal : a < f.cell.length := by omega
    cases hw : f.whole with
    | false =>
      obtain ⟨h1, h2⟩ := part_step hw
      refine ⟨f.step.put a (f.cell.getD a 0 &&& (d ||| f.at_ 0)), 60, ?_, ?_, ?_, .inr ⟨rfl, h1, h2, 0, Nat.zero_lt_succ _, part_left hw, fun x hx => absurd hx (Nat.not_lt_zero _), ?_, ?_⟩⟩
      · rw [Fl.prog_cons, if_neg (by rw [hw]; simp)]
      · rw [Fl.put_cell, List.length_set, Fl.step_cell]
      · intro i hi
        rw [put_getD f a _ i hal, if_neg (by rw [List.length_cons] at hi; omega)]
      · rw [put_getD f a _ _ hal, if_pos (Nat.add_zero a)]
        rfl
      · intro x hx _
        rw [put_getD f a _ _ hal, if_neg (by omega)]
    | true =>
      obtain ⟨h1, h2⟩ := whole_step hw
      obtain ⟨f', r, e, hl, ho, hc⟩ := prog_out ds (f.step.put a (f.cell.getD a 0 &&& d)) (a + 1) (by rw [Fl.put_cell, List.length_set, Fl.step_cell]; omega)
      have hlen : (f.step.put a (f.cell.getD a 0 &&& d)).cell.length = f.cell.length := by rw [Fl.put_cell, List.length_set, Fl.step_cell]
      have hfar : ∀ i, i ≠ a → (f.step.put a (f.cell.getD a 0 &&& d)).cell.getD i 0 = f.cell.getD i 0 := fun i hi => by rw [put_getD f a _ i hal, if_neg hi]
      have hnear : (f.step.put a (f.cell.getD a 0 &&& d)).cell.getD a 0 = f.cell.getD a 0 &&& d := by rw [put_getD f a _ a hal, if_pos rfl]
      have hat : (f.step.put a (f.cell.getD a 0 &&& d)).at_ 0 = f.at_ 0 := by rw [Fl.put_at, Fl.step_at]
      have h0 : f'.cell.getD a 0 = f.cell.getD a 0 &&& d := by rw [ho a (.inl (by omega)), hnear]
      refine ⟨f', r, ?_, by rw [hl, hlen], ?_, ?_⟩
      · rw [Fl.prog_cons, if_pos hw]
        exact e
      · intro i hi
        rw [List.length_cons] at hi
        rw [ho i (by omega), hfar i (by omega)]
      · rcases hc with ⟨r0, r1, r2, r3, r6⟩ | ⟨r0, r1, r2, m, hm, rm, r3, r4, r5⟩
        · refine .inl ⟨r0, r1.trans h1, r2.trans h2, fun m hm => ?_, fun h5 h6 => ?_⟩
          rotate_left
          · obtain ⟨h7, h8⟩ := whole_left hw h5
            have h9 := r6 (h2.trans h5) (by show 0 ≤ f.step.left; omega)
            have h10 : (ds.length : Int) ≤ f.step.left := h9
            rw [List.length_cons]
            omega
          cases m with
          | zero => exact h0
          | succ m =>
            rw [List.length_cons] at hm
            have h3 := r3 m (by omega)
            rw [hfar _ (by omega)] at h3
            rw [show a + (m + 1) = a + 1 + m by omega, h3, List.getD_cons_succ]
        · refine .inr ⟨r0, h2.symm.trans r1, r2, m + 1, by rw [List.length_cons]; omega, ?_, fun x hx => ?_, ?_, fun x hx hx2 => ?_⟩
          · obtain ⟨h7, _⟩ := whole_left hw (h2.symm.trans r1)
            have h9 : f.step.left = (m : Int) := rm
            omega
          · cases x with
            | zero => exact h0
            | succ x =>
              have h3 := r3 x (by omega)
              rw [hfar _ (by omega)] at h3
              rw [show a + (x + 1) = a + 1 + x by omega, h3, List.getD_cons_succ]
          · rw [hfar _ (by omega), hat] at r4
            rw [show a + (m + 1) = a + 1 + m by omega, r4, List.getD_cons_succ]
          · rw [List.length_cons] at hx2
            have h3 := r5 (x - 1) (by omega) (by omega)
            rw [hfar _ (by omega)] at h3
            rw [show a + x = a + 1 + (x - 1) by omega]
            exact h3
theorem program_out2 {f : Fl} (ho : f.off = false) (a : Nat) (ds : List Nat) (ha : a + ds.length ≤ 8192) : f.program (a : Int) ds = f.prog a ds := by
  unfold Fl.program
  rw [if_neg (by rw [ho]; decide), if_pos (by unfold Fl.fits; simp; omega)]
  rfl
theorem erase_out {f : Fl} (ho : f.off = false) (hl : f.cell.length = 8192) (s : Nat) (hs : s ≤ 1) :
    ∃ f' r, f.erase (s : Int) = (f', r) ∧ f'.cell.length = 8192 ∧ (∀ i, i < s * 4096 ∨ s * 4096 + 4096 ≤ i → f'.cell.getD i 0 = f.cell.getD i 0) ∧
      ((r = 0 ∧ f'.off = false ∧ f'.armed = f.armed ∧ ∀ m, m < 4096 → f'.cell.getD (s * 4096 + m) 0 = 255) ∨
       (r = 60 ∧ f.armed = true ∧ f'.off = true ∧ f'.cell.getD (s * 4096) 0 = f.cell.getD (s * 4096) 0 ||| f.at_ 0)) := by
  have hget : ∀ i, (f.wiped s 4096).getD i 0 = if i / 4096 = s ∧ i < 8192 then (if f.whole then 255 else f.cell.getD i 0 ||| f.at_ (i % 4096)) else f.cell.getD i 0 := by
    intro i
    rw [List.getD_eq_getElem?_getD, List.getD_eq_getElem?_getD, Fl.wiped_get]
    by_cases hi : i < 8192
    · rw [List.getElem?_eq_getElem (by rw [hl]; exact hi)]
      simp only [Option.map_some, Option.getD_some, Nat.mod_lt i (show 4096 > 0 by decide), and_true, hi]
    · rw [List.getElem?_eq_none (by rw [hl]; omega), if_neg (by omega)]
      rfl
  refine ⟨_, _, by unfold Fl.erase; rw [if_neg (by rw [ho]; decide), if_neg (by omega)], ?_, ?_, ?_⟩
  · show (f.wiped (s : Int).toNat 4096).length = 8192
    rw [Fl.wiped_len, hl]
  · intro i hi
    show (f.wiped (s : Int).toNat 4096).getD i 0 = _
    rw [Int.toNat_natCast, hget, if_neg (by omega)]
  · cases hw : f.whole with
    | true =>
      obtain ⟨h1, h2⟩ := whole_step hw
      refine .inl ⟨rfl, h1.trans ho, h2, fun m hm => ?_⟩
      show (f.wiped (s : Int).toNat 4096).getD _ 0 = _
      rw [Int.toNat_natCast, hget, if_pos (by omega), hw]
      rfl
    | false =>
      obtain ⟨h1, h2⟩ := part_step hw
      refine .inr ⟨rfl, h1, h2, ?_⟩
      show (f.wiped (s : Int).toNat 4096).getD _ 0 = _
      rw [Int.toNat_natCast, hget, if_pos (by omega), hw, show s * 4096 % 4096 = 0 by omega]
      rfl
theorem sector_get (f : Fl) (a i : Nat) (hi : i < 4096) : (St.sector f a).getD i 0 = f.cell.getD (a * 4096 + i) 0 := by
  unfold St.sector
  rw [List.getD_eq_getElem?_getD, List.getElem?_take, if_pos hi, List.getElem?_drop, List.getD_eq_getElem?_getD]
theorem sector_len2 {f : Fl} (h : f.cell.length = 8192) (a : Nat) (ha : a ≤ 1) : (St.sector f a).length = 4096 := by
  unfold St.sector
  rw [List.length_take, List.length_drop, h]
  omega
theorem sector_same {f f' : Fl} (h : f.cell.length = 8192) (h' : f'.cell.length = 8192) (a : Nat) (hs : ∀ i, a * 4096 ≤ i → i < a * 4096 + 4096 → f'.cell.getD i 0 = f.cell.getD i 0) : St.sector f' a = St.sector f a :=
  cut_same (h'.trans h.symm) hs
/-- Whatever junk comes over the spare's first byte, the active sector stays the active one. -/
def Rob (act c sp : Nat) : Prop := (St.fol c).isSome = true ∧ ∀ j, j < 256 → (act = 0 → ¬ ((St.fol (sp ||| j)).isSome = true ∧ sp ||| j = St.folC c)) ∧ (act = 1 → ¬ ((St.fol (sp ||| j)).isSome = true ∧ c ≠ St.folC (sp ||| j)))
theorem Rob.or {act c sp : Nat} (h : Rob act c sp) (j : Nat) (hj : j < 256) : Rob act c (sp ||| j) := by
  refine ⟨h.1, fun i hi => ?_⟩
  rw [Nat.or_assoc]
  exact h.2 _ (Fl.or_lt hj hi)
set_option maxRecDepth 100000 in
theorem or_full : ∀ j, j < 256 → 255 ||| j = 255 := by decide
theorem rob_blank {act c : Nat} (hc : (St.fol c).isSome = true) : Rob act c 255 := by
  refine ⟨hc, fun j hj => ?_⟩
  rw [or_full j hj]
  exact ⟨fun _ h => absurd h.1 (by decide), fun _ h => absurd h.1 (by decide)⟩
theorem fol_cases {c : Nat} (h : (St.fol c).isSome = true) : c = 15 ∨ c = 51 ∨ c = 85 := by
  unfold St.fol at h
  by_cases h1 : c = 15
  · exact .inl h1
  · rw [if_neg h1] at h
    by_cases h2 : c = 51
    · exact .inr (.inl h2)
    · rw [if_neg h2] at h
      by_cases h3 : c = 85
      · exact .inr (.inr h3)
      · rw [if_neg h3] at h
        cases h
set_option maxRecDepth 100000 in
theorem or15 : ∀ j, j < 256 → 15 ||| j = 15 ∨ (St.fol (15 ||| j)).isSome = false := by decide
set_option maxRecDepth 100000 in
theorem or51 : ∀ j, j < 256 → 51 ||| j = 51 ∨ (St.fol (51 ||| j)).isSome = false := by decide
set_option maxRecDepth 100000 in
theorem or85 : ∀ j, j < 256 → 85 ||| j = 85 ∨ (St.fol (85 ||| j)).isSome = false := by decide
theorem or_code {c : Nat} (h : (St.fol c).isSome = true) (j : Nat) (hj : j < 256) : c ||| j = c ∨ (St.fol (c ||| j)).isSome = false := by
  rcases fol_cases h with rfl | rfl | rfl
  · exact or15 j hj
  · exact or51 j hj
  · exact or85 j hj
theorem rob_code {act c sp : Nat} (hc : (St.fol c).isSome = true) (hs : (St.fol sp).isSome = true) (h0 : act = 0 → sp ≠ St.folC c) (h1 : act = 1 → c = St.folC sp) : Rob act c sp := by
  refine ⟨hc, fun j hj => ?_⟩
  rcases or_code hs j hj with e | e
  · rw [e]
    exact ⟨fun h hh => h0 h hh.2, fun h hh => hh.2 (h1 h)⟩
  · rw [e]
    exact ⟨fun _ hh => absurd hh.1 (by decide), fun _ hh => absurd hh.1 (by decide)⟩
theorem folC_is {c : Nat} (h : (St.fol c).isSome = true) : (St.fol (St.folC c)).isSome = true := by
  rcases fol_cases h with rfl | rfl | rfl <;> decide
theorem folC_two {c : Nat} (h : (St.fol c).isSome = true) : c ≠ St.folC (St.folC c) := by
  rcases fol_cases h with rfl | rfl | rfl <;> decide
theorem folC_ne {c : Nat} (h : (St.fol c).isSome = true) : c ≠ St.folC c := by
  rcases fol_cases h with rfl | rfl | rfl <;> decide
/-- The spare's first byte where its code stands in part. -/
theorem rob_part {act c j : Nat} (hc : (St.fol c).isSome = true) (hj : j < 256) (hn : St.folC c ||| j ≠ St.folC c) : Rob act c (St.folC c ||| j) := by
  refine ⟨hc, fun i hi => ?_⟩
  rw [Nat.or_assoc]
  rcases or_code (folC_is hc) (j ||| i) (Fl.or_lt hj hi) with e | e
  · exfalso
    apply hn
    have h1 : St.folC c ||| j ||| (j ||| i) = St.folC c ||| (j ||| i) := by rw [Nat.or_assoc, ← Nat.or_assoc j j i, Nat.or_self]
    apply Nat.eq_of_testBit_eq
    intro b
    have h2 := congrArg (fun x => x.testBit b) e
    simp only [Nat.testBit_or] at h2 ⊢
    revert h2
    cases (St.folC c).testBit b <;> cases j.testBit b <;> cases i.testBit b <;> decide
  · rw [e]
    exact ⟨fun _ hh => absurd hh.1 (by decide), fun _ hh => absurd hh.1 (by decide)⟩
theorem Rob.active {f : Fl} {act c sp : Nat} (h : Rob act c sp) (ha : act ≤ 1) (h1 : f.cell.getD (act * 4096) 0 = c) (h2 : f.cell.getD ((1 - act) * 4096) 0 = sp) : St.active f = some (act, c, sp) := by
  obtain ⟨x, hx⟩ := some_of h.1
  have h3 := h.2 0 (by decide)
  rw [Nat.or_zero] at h3
  have hc : act = 0 ∨ act = 1 := by omega
  rcases hc with rfl | rfl
  · cases hs : St.fol sp with
    | none => exact active_sn h1 h2 hx hs
    | some y =>
      have h4 := h3.1 rfl
      rw [hs] at h4
      refine active_s0 h1 h2 hx hs (fun e => h4 ⟨rfl, ?_⟩)
      rw [e]
      unfold St.folC
      rw [hx]
      rfl
  · cases hs : St.fol sp with
    | none => exact active_ns h2 h1 hs hx
    | some y =>
      have h4 := h3.2 rfl
      rw [hs] at h4
      refine active_s1 h2 h1 hs hx ?_
      refine Decidable.byContradiction fun e => h4 ⟨rfl, fun e2 => e ?_⟩
      rw [e2]
      unfold St.folC
      rw [hs]
      rfl
end Go.Proofs.Ytngmnceahhlpkaa
