/- The plain law of a sector's records: reading on, what stands ahead, a record that stands wholly or in part. Conditions: the places lie within the sector. -/
import Derived.Test.YtngmnceahhlpkaaSt9
namespace Go.Proofs.Ytngmnceahhlpkaa
open Go.RowKit
theorem lastOf_gt (l : List Nat) (j : Nat) (hj : l.getD j 0 ≠ 255) : ∀ n, j < n → j < St.lastOf l n
  | 0, h => absurd h (Nat.not_lt_zero _)
  | n + 1, h => by
    by_cases hc : 1 < n + 1 ∧ l.getD n 0 = 255
    · rw [lastOf_more l n hc.1 hc.2]
      refine lastOf_gt l j hj n ?_
      by_cases hn : j = n
      · subst hn
        exact absurd hc.2 hj
      · omega
    · rw [lastOf_stop l (n + 1) hc]
      exact h
theorem lastOf_blank (l : List Nat) : ∀ n i, St.lastOf l n ≤ i → i < n → 1 ≤ i → l.getD i 0 = 255
  | 0, _, _, h, _ => absurd h (Nat.not_lt_zero _)
  | n + 1, i, h, hi, h1 => by
    by_cases hc : 1 < n + 1 ∧ l.getD n 0 = 255
    · rw [lastOf_more l n hc.1 hc.2] at h
      by_cases hn : i = n
      · rw [hn]
        exact hc.2
      · exact lastOf_blank l n i h (by omega) h1
    · rw [lastOf_stop l (n + 1) hc] at h
      omega
theorem lastOf_upto (l : List Nat) (p : Nat) (hp : 1 ≤ p) : ∀ n, (∀ i, p ≤ i → i < n → l.getD i 0 = 255) → St.lastOf l n ≤ p
  | 0, _ => Nat.zero_le _
  | n + 1, h => by
    by_cases hn : n + 1 ≤ p
    · exact Nat.le_trans (lastOf_le l _) hn
    · rw [lastOf_more l n (by omega) (h n (by omega) (by omega))]
      exact lastOf_upto l p hp n (fun i h1 h2 => h i h1 (by omega))
/-- Records that stand wholly, one behind the other. -/
inductive Steps (l : List Nat) : Nat → Kept → Nat → Kept → Prop where
  | refl (p : Nat) (k : Kept) : Steps l p k p k
  | step {p : Nat} {k : Kept} {p' : Nat} {k' : Kept} : St.recOk l p = true → Steps l (p + St.lenAt l p + 4) (St.keep k (l.getD p 0) (St.textAt l p)) p' k' → Steps l p k p' k'
theorem Steps.le {l : List Nat} {p p' : Nat} {k k' : Kept} (h : Steps l p k p' k') : p ≤ p' := by
  induction h with
  | refl => exact Nat.le_refl _
  | step _ _ ih => omega
theorem Steps.trans {l : List Nat} {p p1 p2 : Nat} {k k1 k2 : Kept} (h : Steps l p k p1 k1) (g : Steps l p1 k1 p2 k2) : Steps l p k p2 k2 := by
  induction h with
  | refl => exact g
  | step hr _ ih => exact .step hr (ih g)
theorem scan_steps (l : List Nat) (last : Nat) (hl : last ≤ l.length) : ∀ n p k k' p' c, l.length - p ≤ n → St.scan l last n p k = (k', p', c) →
    Steps l p k p' k' ∧ (c = true → last ≤ p') ∧ (c = false → p' < last ∧ St.recOk l p' = false)
  | 0, p, k, k', p', c, hn, h => by
    have h : (k, p, true) = (k', p', c) := h
    injection h with h1 h
    injection h with h2 h3
    subst h1; subst h2; subst h3
    exact ⟨.refl _ _, fun _ => by omega, fun h => by cases h⟩
  | n + 1, p, k, k', p', c, hn, h => by
    by_cases hp : p < last
    · rw [scan_step _ _ _ _ _ hp] at h
      by_cases hr : St.recOk l p = true
      · rw [if_pos hr] at h
        obtain ⟨h1, h2, h3⟩ := scan_steps l last hl n _ _ _ _ _ (by omega) h
        exact ⟨.step hr h1, h2, h3⟩
      · rw [if_neg hr] at h
        injection h with h1 h
        injection h with h2 h3
        subst h1; subst h2; subst h3
        exact ⟨.refl _ _, fun h => (by cases h), fun _ => ⟨hp, by simpa using hr⟩⟩
    · rw [scan_end _ _ _ _ _ hp] at h
      injection h with h1 h
      injection h with h2 h3
      subst h1; subst h2; subst h3
      exact ⟨.refl _ _, fun _ => by omega, fun h => by cases h⟩
theorem recOk_zero {l : List Nat} {p : Nat} (h : St.recOk l p = true) : l.getD (p + St.lenAt l p + 3) 0 = 0 := by
  unfold St.recOk at h
  simp only [Bool.and_eq_true, decide_eq_true_eq] at h
  exact h.2
theorem recOk_id {l : List Nat} {p : Nat} (h : St.recOk l p = true) : l.getD p 0 < 3 := by
  unfold St.recOk at h
  simp only [Bool.and_eq_true, decide_eq_true_eq] at h
  exact h.1.1.1.2
theorem recOk_last {l : List Nat} {p : Nat} (h : St.recOk l p = true) : p < St.lastOf l l.length := by
  have h1 := recOk_end h
  have h2 := lastOf_gt l (p + St.lenAt l p + 3) (by rw [recOk_zero h]; decide) l.length (by omega)
  omega
theorem steps_scan {l : List Nat} {p p' : Nat} {k k' : Kept} (h : Steps l p k p' k') : ∀ n, l.length - p < n → ∃ m, l.length - p' < m ∧ St.scan l (St.lastOf l l.length) n p k = St.scan l (St.lastOf l l.length) m p' k' := by
  induction h with
  | refl p k => exact fun n hn => ⟨n, hn, rfl⟩
  | step hr _ ih =>
    intro n hn
    obtain ⟨n, rfl⟩ : ∃ m, n = m + 1 := ⟨n - 1, by omega⟩
    have h1 := recOk_end hr
    obtain ⟨m, hm, hs⟩ := ih n (by omega)
    refine ⟨m, hm, ?_⟩
    rw [scan_step _ _ _ _ _ (recOk_last hr), if_pos hr, hs]
theorem read_clean {l : List Nat} {p : Nat} {k : Kept} (h : Steps l 1 St.none_ p k) (hl : 1 ≤ l.length) (hp : St.lastOf l l.length ≤ p) : St.read l = (k, p, true) := by
  obtain ⟨m, _, hs⟩ := steps_scan h l.length (by omega)
  unfold St.read
  rw [hs, scan_end _ _ _ _ _ (by omega)]
theorem read_dirty {l : List Nat} {p : Nat} {k : Kept} (h : Steps l 1 St.none_ p k) (hl : 1 ≤ l.length) (hp : p < St.lastOf l l.length) (hr : St.recOk l p = false) : St.read l = (k, p, false) := by
  obtain ⟨m, hm, hs⟩ := steps_scan h l.length (by omega)
  obtain ⟨m, rfl⟩ : ∃ q, m = q + 1 := ⟨m - 1, by omega⟩
  unfold St.read
  rw [hs, scan_step _ _ _ _ _ hp, hr]
  rfl
theorem read_kept {l : List Nat} {p : Nat} {k : Kept} (h : Steps l 1 St.none_ p k) (hl : 1 ≤ l.length) (hr : St.recOk l p = false) : (St.read l).1 = k := by
  by_cases hp : p < St.lastOf l l.length
  · rw [read_dirty h hl hp hr]
  · rw [read_clean h hl (by omega)]
theorem read_steps {l : List Nat} {p : Nat} {k : Kept} {c : Bool} (h : St.read l = (k, p, c)) : Steps l 1 St.none_ p k ∧ (c = true → St.lastOf l l.length ≤ p) ∧ (c = false → p < St.lastOf l l.length ∧ St.recOk l p = false) :=
  scan_steps l _ (lastOf_le l _) l.length 1 _ _ _ _ (by omega) h
theorem cut_same {l l' : List Nat} {a n : Nat} (hl : l'.length = l.length) (h : ∀ i, a ≤ i → i < a + n → l'.getD i 0 = l.getD i 0) : (l'.drop a).take n = (l.drop a).take n := by
  apply List.ext_getElem?
  intro i
  rw [List.getElem?_take, List.getElem?_take]
  split
  · rename_i hi
    rw [List.getElem?_drop, List.getElem?_drop]
    have h1 := h (a + i) (by omega) (by omega)
    rw [List.getD_eq_getElem?_getD, List.getD_eq_getElem?_getD] at h1
    by_cases hb : a + i < l.length
    · rw [List.getElem?_eq_getElem hb, List.getElem?_eq_getElem (by omega)] at h1 ⊢
      simp only [Option.getD_some] at h1
      rw [h1]
    · rw [List.getElem?_eq_none (by omega), List.getElem?_eq_none (by omega)]
  · rfl
theorem recOk_same {l l' : List Nat} {p q : Nat} (hl : l'.length = l.length) (h : ∀ i, p ≤ i → i < q → l'.getD i 0 = l.getD i 0) (hr : St.recOk l p = true) (hq : p + St.lenAt l p + 4 ≤ q) :
    St.recOk l' p = true ∧ St.lenAt l' p = St.lenAt l p ∧ St.textAt l' p = St.textAt l p ∧ l'.getD p 0 = l.getD p 0 := by
  have e0 := h p (by omega) (by omega)
  have e1 := h (p + 1) (by omega) (by omega)
  have e2 := h (p + 2) (by omega) (by omega)
  have el : St.lenAt l' p = St.lenAt l p := by
    unfold St.lenAt
    rw [e1, e2]
  have e3 := h (p + St.lenAt l p + 3) (by omega) (by omega)
  refine ⟨?_, el, ?_, e0⟩
  · unfold St.recOk at hr ⊢
    rw [hl, e0, el, e3]
    exact hr
  · unfold St.textAt
    rw [el, cut_same hl (fun i h1 h2 => h i (by omega) (by omega))]
theorem Steps.same {l l' : List Nat} {p p' : Nat} {k k' : Kept} (h : Steps l p k p' k') (hl : l'.length = l.length) (hs : ∀ i, p ≤ i → i < p' → l'.getD i 0 = l.getD i 0) : Steps l' p k p' k' := by
  induction h with
  | refl => exact .refl _ _
  | step hr hrest ih =>
    obtain ⟨h1, h2, h3, h4⟩ := recOk_same hl hs hr hrest.le
    refine .step h1 ?_
    rw [h2, h3, h4]
    exact ih (fun i h5 h6 => hs i (by omega) h6)
theorem rec_len (i : Nat) (t : ByteArray) : (St.recL i t).length = t.size + 4 := by
  unfold St.recL
  simp only [List.length_cons, List.length_append, List.length_nil, bytes_length]
theorem rec_text (i : Nat) (t : ByteArray) (m : Nat) (hm : m < t.size) : (St.recL i t).getD (3 + m) 0 = (bytes t).getD m 0 := by
  unfold St.recL
  rw [show 3 + m = m + 1 + 1 + 1 by omega, List.getD_cons_succ, List.getD_cons_succ, List.getD_cons_succ, List.getD_eq_getElem?_getD, List.getD_eq_getElem?_getD, List.getElem?_append_left (by rw [bytes_length]; exact hm)]
theorem rec_end (i : Nat) (t : ByteArray) : (St.recL i t).getD (t.size + 3) 0 = 0 := by
  unfold St.recL
  rw [List.getD_cons_succ, List.getD_cons_succ, List.getD_cons_succ, List.getD_eq_getElem?_getD, List.getElem?_append_right (by rw [bytes_length]; exact Nat.le_refl _), bytes_length, Nat.sub_self]
  rfl
theorem rec_there {l : List Nat} {p i : Nat} {t : ByteArray} (hi : i < 3) (ht : t.size ≤ 2000) (hp : p + (t.size + 4) ≤ l.length) (h : ∀ m, m < t.size + 4 → l.getD (p + m) 0 = (St.recL i t).getD m 0) :
    St.recOk l p = true ∧ St.lenAt l p = t.size ∧ St.textAt l p = t ∧ l.getD p 0 = i := by
  have e0 : l.getD p 0 = i := by
    rw [show p = p + 0 by omega, h 0 (by omega)]
    show i % 256 = i
    omega
  have e1 : l.getD (p + 1) 0 = t.size % 256 := h 1 (by omega)
  have e2 : l.getD (p + 2) 0 = t.size / 256 % 256 := h 2 (by omega)
  have el : St.lenAt l p = t.size := by
    unfold St.lenAt
    rw [e1, e2]
    omega
  have e3 : l.getD (p + t.size + 3) 0 = 0 := by
    rw [show p + t.size + 3 = p + (t.size + 3) by omega, h _ (by omega), rec_end]
  refine ⟨?_, el, ?_, e0⟩
  · unfold St.recOk
    rw [el, e0, e3, decide_eq_true (show p + 4 ≤ l.length by omega), decide_eq_true hi, decide_eq_true ht, decide_eq_true (show p + t.size + 4 ≤ l.length by omega)]
    rfl
  · unfold St.textAt
    rw [el]
    have hb : (l.drop (p + 3)).take t.size = bytes t := by
      apply List.ext_getElem?
      intro j
      rw [List.getElem?_take]
      split
      · rename_i hj
        rw [List.getElem?_drop]
        have h1 := h (3 + j) (by omega)
        rw [rec_text i t j hj, List.getD_eq_getElem?_getD, List.getD_eq_getElem?_getD, show p + (3 + j) = p + 3 + j by omega, List.getElem?_eq_getElem (show p + 3 + j < l.length by omega), List.getElem?_eq_getElem (show j < (bytes t).length by rw [bytes_length]; exact hj)] at h1
        rw [List.getElem?_eq_getElem (show p + 3 + j < l.length by omega), List.getElem?_eq_getElem (show j < (bytes t).length by rw [bytes_length]; exact hj)]
        simp only [Option.getD_some] at h1
        rw [h1]
      · rename_i hj
        rw [List.getElem?_eq_none (by rw [bytes_length]; omega)]
    rw [hb, str_bytes]
/-- A record that stands in part: it is none, unless its last byte is there. -/
theorem rec_part {l : List Nat} {p i : Nat} {t : ByteArray} {m j : Nat} (ht : t.size ≤ 2000) (hm : m < t.size + 4)
    (h1 : ∀ x, x < m → l.getD (p + x) 0 = (St.recL i t).getD x 0) (h2 : l.getD (p + m) 0 = (St.recL i t).getD m 0 ||| j) (h3 : ∀ x, p + m < x → x < l.length → l.getD x 0 = 255)
    (hn : m = t.size + 3 → (St.recL i t).getD m 0 ||| j ≠ 0) : St.recOk l p = false := by
  cases hr : St.recOk l p with
  | false => rfl
  | true =>
    exfalso
    have he := recOk_end hr
    have hz := recOk_zero hr
    by_cases hc : p + m < p + St.lenAt l p + 3
    · rw [h3 _ hc (by omega)] at hz
      exact absurd hz (by decide)
    · have h3m : 3 ≤ m := by omega
      have e1 : l.getD (p + 1) 0 = t.size % 256 := h1 1 (by omega)
      have e2 : l.getD (p + 2) 0 = t.size / 256 % 256 := h1 2 (by omega)
      have el : St.lenAt l p = t.size := by
        unfold St.lenAt
        rw [e1, e2]
        omega
      rw [el] at hz hc
      have hm2 : m = t.size + 3 := by omega
      subst hm2
      rw [show p + t.size + 3 = p + (t.size + 3) by omega, h2] at hz
      exact hn rfl hz
end Go.Proofs.Ytngmnceahhlpkaa
