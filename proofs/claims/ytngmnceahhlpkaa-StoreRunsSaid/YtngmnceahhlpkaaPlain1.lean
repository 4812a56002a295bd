/- The plain law of programming a flash over which no cut is armed. Conditions: the bytes lie within the flash, the steps within an int. -/
import Derived.Test.YtngmnceahhlpkaaSpec
namespace Go.Proofs.Ytngmnceahhlpkaa
open Go.RowKit

def andAt (l : List Nat) (a : Nat) (ds : List Nat) : List Nat := l.mapIdx fun i c => if a ≤ i ∧ i < a + ds.length then c &&& ds.getD (i - a) 0 else c
theorem andAt_get (l : List Nat) (a : Nat) (ds : List Nat) (i : Nat) : (andAt l a ds)[i]? = (l[i]?).map fun c => if a ≤ i ∧ i < a + ds.length then c &&& ds.getD (i - a) 0 else c := by
  simp [andAt, List.getElem?_mapIdx]
theorem andAt_len (l : List Nat) (a : Nat) (ds : List Nat) : (andAt l a ds).length = l.length := by simp [andAt]
theorem andAt_nil (l : List Nat) (a : Nat) : andAt l a [] = l := by
  apply List.ext_getElem?
  intro i
  rw [andAt_get]
  have : ¬ (a ≤ i ∧ i < a + ([] : List Nat).length) := by simp only [List.length_nil]; omega
  simp only [this, if_false]
  cases l[i]? <;> rfl
theorem andAt_cons (l : List Nat) (a d : Nat) (ds : List Nat) : andAt (l.set a (l.getD a 0 &&& d)) (a + 1) ds = andAt l a (d :: ds) := by
  apply List.ext_getElem?
  intro i
  rw [andAt_get, andAt_get, List.getElem?_set]
  by_cases hi : a = i
  · subst hi
    rw [if_pos rfl]
    have h1 : ¬ (a + 1 ≤ a ∧ a < a + 1 + ds.length) := by omega
    have h2 : a ≤ a ∧ a < a + (d :: ds).length := by simp only [List.length_cons]; omega
    simp only [h1, h2, if_false]
    by_cases hl : a < l.length
    · simp [hl, List.getD_eq_getElem?_getD]
    · rw [if_neg hl, List.getElem?_eq_none (by omega)]
      rfl
  · rw [if_neg hi]
    have h : (a + 1 ≤ i ∧ i < a + 1 + ds.length) ↔ (a ≤ i ∧ i < a + (d :: ds).length) := by simp only [List.length_cons]; omega
    by_cases hc : a + 1 ≤ i ∧ i < a + 1 + ds.length
    · have e : i - a = (i - (a + 1)) + 1 := by omega
      simp only [hc, h.1 hc, if_true, e, List.getD_cons_succ, and_self]
    · have hc' : ¬ (a ≤ i ∧ i < a + (d :: ds).length) := fun x => hc (h.2 x)
      simp only [hc, hc', if_false]
theorem andAt_twice (l : List Nat) (a : Nat) (ds : List Nat) : andAt (andAt l a ds) a ds = andAt l a ds := by
  apply List.ext_getElem?
  intro i
  rw [andAt_get, andAt_get]
  cases l[i]? with
  | none => rfl
  | some c =>
    simp only [Option.map_some]
    split
    · rw [Nat.and_assoc, Nat.and_self]
    · rfl
theorem Fl.step_calm {f : Fl} (h : f.armed = false) (h0 : 0 ≤ f.steps) (h1 : f.steps < 9223372036854775807) : f.step = { f with steps := f.steps + 1 } := by
  unfold Fl.step
  rw [h]
  have : f.more = f.steps + 1 := by
    unfold Fl.more wrap64
    omega
  rw [this]
  rfl
theorem Fl.prog_calm (ds : List Nat) : ∀ (f : Fl) (a : Nat), f.armed = false → 0 ≤ f.steps → f.steps + ds.length ≤ 9223372036854775807 →
    f.prog a ds = ({ f with steps := f.steps + ds.length, cell := andAt f.cell a ds }, 0) := by
  induction ds with
  | nil =>
    intro f a h h0 h1
    show (f, (0 : Int)) = _
    rw [andAt_nil]
    simp
  | cons d ds ih =>
    intro f a h h0 h1
    have hw : f.whole = true := by unfold Fl.whole; rw [h]; rfl
    rw [List.length_cons] at h1
    have hs := Fl.step_calm h h0 (by omega)
    show (if f.whole then _ else _) = _
    rw [if_pos hw, hs, ih (({ f with steps := f.steps + 1 } : Fl).put a (f.cell.getD a 0 &&& d)) (a + 1) h (by show 0 ≤ f.steps + 1; omega) (by show f.steps + 1 + _ ≤ _; omega)]
    show ({ f with steps := f.steps + 1 + (ds.length : Int), cell := andAt (f.cell.set a (f.cell.getD a 0 &&& d)) (a + 1) ds }, (0 : Int)) = _
    rw [andAt_cons, List.length_cons]
    have : f.steps + 1 + (ds.length : Int) = f.steps + ((ds.length + 1 : Nat) : Int) := by omega
    rw [this]
end Go.Proofs.Ytngmnceahhlpkaa
