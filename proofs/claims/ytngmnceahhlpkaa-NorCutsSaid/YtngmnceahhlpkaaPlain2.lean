/- The plain law of programming a flash over which a cut is armed. Conditions: the bytes lie within the flash, the steps within an int. -/
import Derived.Test.YtngmnceahhlpkaaPlain1
namespace Go.Proofs.Ytngmnceahhlpkaa
open Go.RowKit

theorem Fl.step_armed {f : Fl} (h : f.armed = true) (hl : f.left ≠ 0) (h0 : 0 ≤ f.steps) (h1 : f.steps < 9223372036854775807) : f.step = { f with left := f.left - 1, steps := f.steps + 1 } := by
  unfold Fl.step
  rw [h, if_pos rfl, if_neg hl]
  have : f.more = f.steps + 1 := by
    unfold Fl.more wrap64
    omega
  rw [this]
theorem Fl.prog_enough (ds : List Nat) : ∀ (f : Fl) (a : Nat), f.armed = true → (ds.length : Int) ≤ f.left → 0 ≤ f.steps → f.steps + ds.length ≤ 9223372036854775807 →
    f.prog a ds = ({ f with left := f.left - ds.length, steps := f.steps + ds.length, cell := andAt f.cell a ds }, 0) := by
  induction ds with
  | nil =>
    intro f a h hl h0 h1
    show (f, (0 : Int)) = _
    rw [andAt_nil]
    simp
  | cons d ds ih =>
    intro f a h hl h0 h1
    rw [List.length_cons] at h1 hl
    have hl0 : f.left ≠ 0 := by omega
    have hw : f.whole = true := by unfold Fl.whole; rw [h]; simp [hl0]
    have hs := Fl.step_armed h hl0 h0 (by omega)
    show (if f.whole then _ else _) = _
    rw [if_pos hw, hs, ih (({ f with left := f.left - 1, steps := f.steps + 1 } : Fl).put a (f.cell.getD a 0 &&& d)) (a + 1) h (by show _ ≤ f.left - 1; omega) (by show 0 ≤ f.steps + 1; omega) (by show f.steps + 1 + _ ≤ _; omega)]
    show ({ f with left := f.left - 1 - (ds.length : Int), steps := f.steps + 1 + (ds.length : Int), cell := andAt (f.cell.set a (f.cell.getD a 0 &&& d)) (a + 1) ds }, (0 : Int)) = _
    rw [andAt_cons, List.length_cons]
    have e1 : f.steps + 1 + (ds.length : Int) = f.steps + ((ds.length + 1 : Nat) : Int) := by omega
    have e2 : f.left - 1 - (ds.length : Int) = f.left - ((ds.length + 1 : Nat) : Int) := by omega
    rw [e1, e2]
theorem Fl.prog_short (L : Nat) : ∀ (ds : List Nat) (f : Fl) (a : Nat), f.armed = true → f.left = L → L < ds.length → 0 ≤ f.steps → f.steps + ds.length ≤ 9223372036854775807 →
    f.prog a ds = ({ f with off := true, armed := false, left := 0, steps := f.steps + L, cell := (andAt f.cell a (ds.take L)).set (a + L) ((andAt f.cell a (ds.take L)).getD (a + L) 0 &&& (ds.getD L 0 ||| f.at_ 0)) }, 60) := by
  induction L with
  | zero =>
    intro ds f a h hl hlt h0 h1
    match ds, hlt with
    | d :: ds, _ =>
      have hw : f.whole = false := by unfold Fl.whole; rw [h, hl]; rfl
      have hs : f.step = { f with off := true, armed := false } := by unfold Fl.step; rw [h, if_pos rfl, hl]; rfl
      show (if f.whole then _ else _) = _
      rw [if_neg (by rw [hw]; simp), hs, List.take_zero, andAt_nil]
      show ({ f with off := true, armed := false, cell := _ }, (60 : Int)) = ({ f with off := true, armed := false, left := 0, steps := f.steps + 0, cell := _ }, (60 : Int))
      rw [Int.add_zero, hl]
      rfl
  | succ L ih =>
    intro ds f a h hl hlt h0 h1
    match ds, hlt with
    | d :: ds, hlt =>
      rw [List.length_cons] at hlt h1
      have hl0 : f.left ≠ 0 := by omega
      have hw : f.whole = true := by unfold Fl.whole; rw [h]; simp [hl0]
      have hs := Fl.step_armed h hl0 h0 (by omega)
      show (if f.whole then _ else _) = _
      rw [if_pos hw, hs, ih ds (({ f with left := f.left - 1, steps := f.steps + 1 } : Fl).put a (f.cell.getD a 0 &&& d)) (a + 1) h (by show f.left - 1 = _; omega) (by omega) (by show 0 ≤ f.steps + 1; omega) (by show f.steps + 1 + _ ≤ _; omega)]
      show ({ f with off := true, armed := false, left := 0, steps := f.steps + 1 + (L : Int), cell := (andAt (f.cell.set a (f.cell.getD a 0 &&& d)) (a + 1) (ds.take L)).set (a + 1 + L) ((andAt (f.cell.set a (f.cell.getD a 0 &&& d)) (a + 1) (ds.take L)).getD (a + 1 + L) 0 &&& (ds.getD L 0 ||| f.at_ 0)) }, (60 : Int)) = _
      rw [andAt_cons, List.take_succ_cons, show a + 1 + L = a + (L + 1) from by omega, List.getD_cons_succ]
      have e1 : f.steps + 1 + (L : Int) = f.steps + ((L + 1 : Nat) : Int) := by omega
      rw [e1]

theorem between_bits (w d j : Nat) : (w &&& (d ||| j)) &&& (w &&& (w &&& d)) = w &&& (w &&& d) ∧ (w &&& (d ||| j)) ||| (w ||| (w &&& d)) = w ||| (w &&& d) := by
  constructor
  · apply Nat.eq_of_testBit_eq
    intro i
    simp only [Nat.testBit_and, Nat.testBit_or]
    cases w.testBit i <;> cases d.testBit i <;> cases j.testBit i <;> rfl
  · apply Nat.eq_of_testBit_eq
    intro i
    simp only [Nat.testBit_and, Nat.testBit_or]
    cases w.testBit i <;> cases d.testBit i <;> cases j.testBit i <;> rfl
theorem cuts_out (f : Fl) (n : Int) (junk : List Nat) (ho : f.off = false) (hn : n < 0) : f.cut n junk = (f, 1) := by
  unfold Fl.cut
  rw [if_neg (by rw [ho]; simp), if_pos hn]
theorem cut_in (f : Fl) (n : Int) (junk : List Nat) (ho : f.off = false) (hn : 0 ≤ n) : f.cut n junk = ({ f with armed := true, left := n, junk := junk }, 0) := by
  unfold Fl.cut
  rw [if_neg (by rw [ho]; simp), if_neg (by omega)]
theorem program_in (f : Fl) (a : Nat) (ds : List Nat) (ho : f.off = false) (h : (a : Int) + ds.length ≤ 8192) : f.program a ds = f.prog a ds := by
  have hf : Fl.fits (a : Int) (ds.length : Int) = true := by unfold Fl.fits; simp; omega
  unfold Fl.program
  rw [if_neg (by rw [ho]; simp), if_pos hf]
  rfl
theorem program_out (f : Fl) (a : Int) (ds : List Nat) (ho : f.off = false) (h : Fl.fits a ds.length = false) : f.program a ds = (f, 1) := by
  unfold Fl.program
  rw [if_neg (by rw [ho]; simp), if_neg (by rw [h]; simp)]
theorem program_dead (f : Fl) (a : Int) (ds : List Nat) (ho : f.off = true) : f.program a ds = (f, 60) := by
  unfold Fl.program
  rw [if_pos ho]
theorem erase_dead (f : Fl) (s : Int) (ho : f.off = true) : f.erase s = (f, 60) := by
  unfold Fl.erase
  rw [if_pos ho]
end Go.Proofs.Ytngmnceahhlpkaa
