/- What a flash does, as plain functions on numbers and lists: a step, the junk's bytes, programming, erasing, a cut. No condition. -/
import Derived.Below
namespace Go.Proofs.Ytngmnceahhlpkaa
open Go.RowKit

/-- A flash: power, a cut, steps, 8192 cells. -/
structure Fl where
  off : Bool
  armed : Bool
  left : Int
  junk : List Nat
  steps : Int
  cell : List Nat

namespace Fl
/-- One step more. -/
def more (f : Fl) : Int := wrap64 (f.steps + 1)
def whole (f : Fl) : Bool := !(f.armed && decide (f.left = 0))
def step (f : Fl) : Fl :=
  if f.armed then
    if f.left = 0 then { f with off := true, armed := false } else { f with left := f.left - 1, steps := f.more }
  else { f with steps := f.more }
def at_ (f : Fl) (i : Nat) : Nat := if f.junk.length = 0 then 0 else f.junk.getD (i % f.junk.length) 0
def put (f : Fl) (i v : Nat) : Fl := { f with cell := f.cell.set i v }
/-- Bytes are programmed from a place on; 0: wholly, 60: power went. -/
def prog (f : Fl) (a : Nat) : List Nat → Fl × Int
  | [] => (f, 0)
  | d :: ds =>
    if f.whole then prog (f.step.put a (f.cell.getD a 0 &&& d)) (a + 1) ds
    else (f.step.put a (f.cell.getD a 0 &&& (d ||| f.at_ 0)), 60)
def fits (a n : Int) : Bool := decide (0 ≤ a ∧ 0 ≤ n ∧ a ≤ 8192 ∧ n ≤ 8192 - a)
def program (f : Fl) (a : Int) (data : List Nat) : Fl × Int :=
  if f.off then (f, 60) else if fits a data.length then prog f a.toNat data else (f, 1)
/-- The cells behind k bytes of a sector that is erased. -/
def wiped (f : Fl) (s k : Nat) : List Nat := f.cell.mapIdx fun i c => if i / 4096 = s ∧ i % 4096 < k then (if f.whole then 255 else c ||| f.at_ (i % 4096)) else c
def erase (f : Fl) (s : Int) : Fl × Int :=
  if f.off then (f, 60) else if s < 0 ∨ 2 ≤ s then (f, 1)
  else ({ f.step with cell := f.wiped s.toNat 4096 }, if f.whole then 0 else 60)
def cut (f : Fl) (steps : Int) (junk : List Nat) : Fl × Int :=
  if f.off then (f, 60) else if steps < 0 then (f, 1) else ({ f with armed := true, left := steps, junk := junk }, 0)
def on (f : Fl) : Fl := { f with off := false, armed := false }
def read (f : Fl) (a n : Int) : List Nat × Int :=
  if f.off then ([], 60) else if fits a n then ((f.cell.drop a.toNat).take n.toNat, 0) else ([], 1)
def new : Fl := ⟨false, false, 0, [], 0, List.replicate 8192 255⟩
def of (image : List Nat) : Fl := ⟨false, false, 0, [], 0, image⟩

/-- A flash that may be. -/
structure Ok (f : Fl) : Prop where
  len : f.cell.length = 8192
  byte : ∀ x ∈ f.cell, x < 256
  junk : ∀ x ∈ f.junk, x < 256
  lo : 0 ≤ f.left
  hi : f.left ≤ 9223372036854775807
  jlen : f.junk.length ≤ 140737488351232

@[simp] theorem step_cell (f : Fl) : f.step.cell = f.cell := by unfold step; split <;> (try split) <;> rfl
@[simp] theorem step_junk (f : Fl) : f.step.junk = f.junk := by unfold step; split <;> (try split) <;> rfl
@[simp] theorem put_junk (f : Fl) (i v : Nat) : (f.put i v).junk = f.junk := rfl
@[simp] theorem put_off (f : Fl) (i v : Nat) : (f.put i v).off = f.off := rfl
@[simp] theorem put_armed (f : Fl) (i v : Nat) : (f.put i v).armed = f.armed := rfl
@[simp] theorem put_left (f : Fl) (i v : Nat) : (f.put i v).left = f.left := rfl
@[simp] theorem put_steps (f : Fl) (i v : Nat) : (f.put i v).steps = f.steps := rfl
@[simp] theorem put_cell (f : Fl) (i v : Nat) : (f.put i v).cell = f.cell.set i v := rfl
@[simp] theorem put_whole (f : Fl) (i v : Nat) : (f.put i v).whole = f.whole := rfl
@[simp] theorem put_at (f : Fl) (i v j : Nat) : (f.put i v).at_ j = f.at_ j := rfl
@[simp] theorem step_at (f : Fl) (j : Nat) : f.step.at_ j = f.at_ j := by unfold at_; rw [step_junk]
theorem getD_lt {l : List Nat} (h : ∀ x ∈ l, x < 256) (i : Nat) : l.getD i 0 < 256 := by
  rw [List.getD_eq_getElem?_getD]
  cases e : l[i]? with
  | none => simp
  | some x => exact h x (List.mem_of_getElem? e)
theorem at_lt {f : Fl} (h : f.Ok) (i : Nat) : f.at_ i < 256 := by
  unfold at_
  split
  · omega
  · exact getD_lt h.junk _
theorem Ok.step {f : Fl} (h : f.Ok) : f.step.Ok := by
  unfold Fl.step
  split
  · split
    · exact ⟨h.len, h.byte, h.junk, h.lo, h.hi, h.jlen⟩
    · rename_i h0
      exact ⟨h.len, h.byte, h.junk, by show 0 ≤ f.left - 1; have := h.lo; omega, by show f.left - 1 ≤ _; have := h.hi; omega, h.jlen⟩
  · exact ⟨h.len, h.byte, h.junk, h.lo, h.hi, h.jlen⟩
theorem Ok.put {f : Fl} (h : f.Ok) {i v : Nat} (hv : v < 256) : (f.put i v).Ok :=
  ⟨by simp [h.len], fun x hx => by
    rcases List.mem_or_eq_of_mem_set hx with hx | rfl
    · exact h.byte x hx
    · exact hv, h.junk, h.lo, h.hi, h.jlen⟩
theorem and_lt {a b : Nat} (ha : a < 256) : a &&& b < 256 := Nat.lt_of_le_of_lt Nat.and_le_left ha
theorem or_lt {a b : Nat} (ha : a < 256) (hb : b < 256) : a ||| b < 256 := Nat.or_lt_two_pow (n := 8) ha hb
theorem Ok.prog (ds : List Nat) : ∀ {f : Fl} (a : Nat), f.Ok → (f.prog a ds).1.Ok := by
  induction ds with
  | nil => intro f a h; exact h
  | cons d ds ih =>
    intro f a h
    unfold Fl.prog
    split
    · exact ih _ (h.step.put (and_lt (getD_lt h.byte _)))
    · exact h.step.put (and_lt (getD_lt h.byte _))
theorem Ok.program {f : Fl} (h : f.Ok) (a : Int) (data : List Nat) : (f.program a data).1.Ok := by
  unfold Fl.program
  split
  · exact h
  · split
    · exact h.prog _ _
    · exact h
theorem wiped_len (f : Fl) (s k : Nat) : (f.wiped s k).length = f.cell.length := by simp [wiped]
theorem wiped_get (f : Fl) (s k i : Nat) : (f.wiped s k)[i]? = (f.cell[i]?).map fun c => if i / 4096 = s ∧ i % 4096 < k then (if f.whole then 255 else c ||| f.at_ (i % 4096)) else c := by
  simp [wiped, List.getElem?_mapIdx]
theorem wiped_zero (f : Fl) (s : Nat) : f.wiped s 0 = f.cell := by
  apply List.ext_getElem?
  intro i
  rw [wiped_get]
  cases f.cell[i]? <;> simp
theorem wiped_byte {f : Fl} (h : f.Ok) (s k : Nat) : ∀ x ∈ f.wiped s k, x < 256 := by
  intro x hx
  obtain ⟨i, hi⟩ := List.mem_iff_getElem?.1 hx
  rw [wiped_get] at hi
  cases hc : f.cell[i]? with
  | none => rw [hc] at hi; cases hi
  | some c =>
    rw [hc] at hi
    have hcb := h.byte c (List.mem_of_getElem? hc)
    simp only [Option.map_some, Option.some.injEq] at hi
    subst hi
    split
    · split
      · omega
      · exact or_lt hcb (at_lt h _)
    · exact hcb
/-- One byte more. -/
theorem wiped_next (f : Fl) (s k : Nat) (hk : k < 4096) : f.wiped s (k + 1) = (f.wiped s k).set (s * 4096 + k) (if f.whole then 255 else f.cell.getD (s * 4096 + k) 0 ||| f.at_ k) := by
  apply List.ext_getElem?
  intro i
  rw [wiped_get, List.getElem?_set, wiped_get, wiped_len]
  by_cases hi : s * 4096 + k = i
  · subst hi
    rw [if_pos rfl]
    have h1 : (s * 4096 + k) / 4096 = s := by omega
    have h2 : (s * 4096 + k) % 4096 = k := by omega
    rw [h1, h2]
    by_cases hl : s * 4096 + k < f.cell.length
    · rw [if_pos hl, List.getElem?_eq_getElem hl]
      simp [List.getD_eq_getElem?_getD, hl]
    · rw [if_neg hl, List.getElem?_eq_none (by omega)]
      rfl
  · rw [if_neg hi]
    have : (i / 4096 = s ∧ i % 4096 < k + 1) ↔ (i / 4096 = s ∧ i % 4096 < k) := by
      constructor
      · rintro ⟨h1, h2⟩; exact ⟨h1, by omega⟩
      · rintro ⟨h1, h2⟩; exact ⟨h1, by omega⟩
    simp only [this]
theorem Ok.erase {f : Fl} (h : f.Ok) (s : Int) : (f.erase s).1.Ok := by
  unfold Fl.erase
  split
  · exact h
  · split
    · exact h
    · have g := h.step
      exact ⟨by show (f.wiped _ _).length = _; rw [wiped_len]; exact h.len, wiped_byte h _ _, g.junk, g.lo, g.hi, g.jlen⟩
theorem Ok.cut {f : Fl} (h : f.Ok) {s : Int} {j : List Nat} (hs : s ≤ 9223372036854775807) (hj : ∀ x ∈ j, x < 256) (hl : j.length ≤ 140737488351232) : (f.cut s j).1.Ok := by
  unfold Fl.cut
  split
  · exact h
  · split
    · exact h
    · exact ⟨h.len, h.byte, hj, by show 0 ≤ s; omega, hs, hl⟩
theorem Ok.on {f : Fl} (h : f.Ok) : f.on.Ok := ⟨h.len, h.byte, h.junk, h.lo, h.hi, h.jlen⟩
theorem Ok.new : new.Ok := ⟨List.length_replicate, fun x hx => by have := List.eq_of_mem_replicate hx; omega, fun x hx => (List.not_mem_nil hx).elim, Int.le_refl _, by show (0 : Int) ≤ _; omega, Nat.zero_le _⟩
theorem Ok.of {l : List Nat} (h : l.length = 8192) (hb : ∀ x ∈ l, x < 256) : (of l).Ok := ⟨h, hb, fun x hx => (List.not_mem_nil hx).elim, by show (0 : Int) ≤ 0; omega, by show (0 : Int) ≤ _; omega, by show 0 ≤ _; omega⟩
end Fl
end Go.Proofs.Ytngmnceahhlpkaa
