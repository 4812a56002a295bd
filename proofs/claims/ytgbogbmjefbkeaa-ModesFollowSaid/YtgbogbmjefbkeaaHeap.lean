/- A heap, as a plain list: what sinks, what swaps, that the first one is the least. No condition. -/
import Derived.Below
namespace Go.Proofs.Ytgbogbmjefbkeaa

section
variable {α : Type} (le : α → α → Prop) (d : α)
def par (k : Nat) : Nat := (k - 1) / 2
/-- Two places of a list exchanged. -/
def sw (l : List α) (i j : Nat) : List α := (l.set i (l.getD j d)).set j (l.getD i d)
/-- Each one behind place i0's children is not less than its parent. -/
def HeapFrom (l : List α) (n i0 : Nat) : Prop := ∀ k, 0 < k → k < n → i0 ≤ par k → le (l.getD (par k) d) (l.getD k d)
structure Sinks (l : List α) (n i0 i : Nat) : Prop where
  lo : i0 ≤ i
  apart : ∀ k, 0 < k → k < n → i0 ≤ par k → par k ≠ i → le (l.getD (par k) d) (l.getD k d)
  kids : i0 < i → ∀ k, 0 < k → k < n → par k = i → le (l.getD (par i) d) (l.getD k d)

variable {d}
theorem getD_set (l : List α) (i k : Nat) (v : α) (hi : i < l.length) : (l.set i v).getD k d = if k = i then v else l.getD k d := by
  rw [List.getD_eq_getElem?_getD, List.getElem?_set, List.getD_eq_getElem?_getD]
  by_cases h : i = k
  · subst h
    simp [hi]
  · rw [if_neg h, if_neg (Ne.symm h)]
theorem sw_len (l : List α) (i j : Nat) : (sw d l i j).length = l.length := by simp [sw]
theorem sw_get (l : List α) (i j k : Nat) (hi : i < l.length) (hj : j < l.length) : (sw d l i j).getD k d = if k = j then l.getD i d else if k = i then l.getD j d else l.getD k d := by
  unfold sw
  rw [getD_set _ _ _ _ (by rw [List.length_set]; exact hj), getD_set _ _ _ _ hi]
theorem sw_perm (l : List α) (i j : Nat) (hi : i < l.length) (hj : j < l.length) : (sw d l i j).Perm l := by
  have := List.set_set_perm (as := l) hi hj
  unfold sw
  rw [List.getD_eq_getElem?_getD, List.getElem?_eq_getElem hj, List.getD_eq_getElem?_getD, List.getElem?_eq_getElem hi]
  exact this
theorem sw_drop (l : List α) (i j n : Nat) (hi : i < n) (hj : j < n) : (sw d l i j).drop n = l.drop n := by
  unfold sw
  rw [List.drop_set_of_lt hj, List.drop_set_of_lt hi]

variable {le}
theorem Sinks.start {l : List α} {n i0 : Nat} (h : HeapFrom le d l n (i0 + 1)) : Sinks le d l n i0 i0 :=
  ⟨Nat.le_refl _, fun k h0 h1 h2 h3 => h k h0 h1 (by omega), fun h => absurd h (Nat.lt_irrefl _)⟩
/-- One goes down. -/
theorem Sinks.swap (tot : ∀ a b, le a b ∨ le b a) {l : List α} {n i0 i j : Nat} (h : Sinks le d l n i0 i) (hn : n ≤ l.length) (h0 : 0 < j) (hj : j < n) (hp : par j = i) (hless : ¬ le (l.getD i d) (l.getD j d))
    (hmin : ∀ k, 0 < k → k < n → par k = i → le (l.getD j d) (l.getD k d)) : Sinks le d (sw d l i j) n i0 j := by
  have hij : i < j := by rw [← hp]; unfold par; omega
  have hle := h.lo
  have hl : le (l.getD j d) (l.getD i d) := (tot _ _).resolve_right hless
  refine ⟨by omega, fun k k0 kn kp kj => ?_, fun _ k k0 kn kp => ?_⟩
  · rw [sw_get l i j _ (by omega) (by omega), sw_get l i j _ (by omega) (by omega), if_neg kj]
    by_cases e1 : par k = i
    · rw [if_pos e1]
      by_cases e2 : k = j
      · rw [if_pos e2]; exact hl
      · rw [if_neg e2, if_neg (by rintro rfl; unfold par at e1; omega)]
        exact hmin k k0 kn e1
    · rw [if_neg e1, if_neg (by rintro rfl; exact e1 hp)]
      by_cases e2 : k = i
      · rw [if_pos e2]
        subst e2
        exact h.kids (by unfold par at kp; omega) j h0 hj hp
      · rw [if_neg e2]
        exact h.apart k k0 kn kp e1
  · have hkj : j < k := by rw [← kp]; unfold par; omega
    rw [hp, sw_get l i j _ (by omega) (by omega), sw_get l i j _ (by omega) (by omega), if_neg (by omega), if_pos rfl, if_neg (by omega), if_neg (by omega), ← kp]
    exact h.apart k k0 kn (by omega) (by omega)
/-- It stands. -/
theorem Sinks.stop {l : List α} {n i0 i : Nat} (h : Sinks le d l n i0 i) (hstop : ∀ k, 0 < k → k < n → par k = i → le (l.getD i d) (l.getD k d)) : HeapFrom le d l n i0 := by
  intro k k0 kn kp
  by_cases e : par k = i
  · rw [e]; exact hstop k k0 kn e
  · exact h.apart k k0 kn kp e
theorem par_kids {k i : Nat} (h0 : 0 < k) (h : par k = i) : k = 2 * i + 1 ∨ k = 2 * i + 2 := by unfold par at h; omega
theorem heap_start (l : List α) (n : Nat) : HeapFrom le d l n (n / 2) := by
  intro k k0 kn kp
  unfold par at kp
  omega
theorem heap_least (tr : ∀ a b c, le a b → le b c → le a c) (rf : ∀ a, le a a) {l : List α} {n : Nat} (h : HeapFrom le d l n 0) : ∀ k, k < n → le (l.getD 0 d) (l.getD k d) := by
  intro k
  induction k using Nat.strongRecOn with
  | ind k ih =>
    intro hk
    rcases Nat.eq_zero_or_pos k with rfl | h0
    · exact rf _
    · exact tr _ _ _ (ih (par k) (by unfold par; omega) (by unfold par; omega)) (h k h0 hk (Nat.zero_le _))
/-- The first one is put in anew. -/
theorem heap_set {l : List α} {n : Nat} (h : HeapFrom le d l n 0) (hl : 0 < l.length) (v : α) : HeapFrom le d (l.set 0 v) n 1 := by
  intro k k0 kn kp
  rw [getD_set _ _ _ _ hl, getD_set _ _ _ _ hl, if_neg (by omega), if_neg (by omega)]
  exact h k k0 kn (by omega)
/-- The first one and the last one are exchanged. -/
theorem heap_last {l : List α} (h : HeapFrom le d l l.length 0) (hl : 0 < l.length) : HeapFrom le d (sw d l 0 (l.length - 1)) (l.length - 1) 1 := by
  intro k k0 kn kp
  have : par k < k := by unfold par; omega
  rw [sw_get l _ _ _ hl (by omega), sw_get l _ _ _ hl (by omega), if_neg (by omega), if_neg (by omega), if_neg (by omega), if_neg (by omega)]
  exact h k k0 (by omega) (by omega)
theorem heap_take {l : List α} {n i0 m : Nat} (h : HeapFrom le d l n i0) (hm : m = n) : HeapFrom le d (l.take m) n i0 := by
  intro k k0 kn kp
  have hp : par k < k := by unfold par; omega
  have e : ∀ i, i < n → (l.take m).getD i d = l.getD i d := by
    intro i hi
    rw [List.getD_eq_getElem?_getD, List.getElem?_take, if_pos (by omega), List.getD_eq_getElem?_getD]
  rw [e _ (by omega), e _ kn]
  exact h k k0 kn kp
end
end Go.Proofs.Ytgbogbmjefbkeaa
