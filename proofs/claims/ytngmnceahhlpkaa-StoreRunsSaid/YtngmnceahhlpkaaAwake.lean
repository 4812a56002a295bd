/- What the law's own example of a flash answers, in whatever world: true; the old memory stands. No condition. -/
import Derived.Test.YtngmnceahhlpkaaNor6
namespace Go.Proofs.Ytngmnceahhlpkaa
open Go.RowKit

/-- A flash made behind w. -/
structure Held (w w' : World) (b : Nat) (J : Option Nat) (f : Fl) : Prop where
  at_ : At w' b J f
  below : Below w.heap.size w w'
  new : w.heap.size ≤ b
theorem Held.next {w w1 w2 : World} {b : Nat} {J J' : Option Nat} {f f' : Fl} (h : Held w w1 b J f) (ha : At w2 b J' f') (hg : w1.grownBy w2 (some b)) : Held w w2 b J' f' :=
  ⟨ha, below_grown h.below hg h.new, h.new⟩
theorem Held.keep {w w1 w2 : World} {b : Nat} {J : Option Nat} {f : Fl} (h : Held w w1 b J f) (hb : Below w1.heap.size w1 w2) : Held w w2 b J f :=
  ⟨h.at_.below hb, below_next h.below hb, h.new⟩
theorem Held.ok {w w1 : World} {b : Nat} {J : Option Nat} {f : Fl} (h : Held w w1 b J f) : f.Ok := h.at_.ok
theorem new_held (w : World) : Calls Try.prog 27 #[] w fun e w' => ∃ b, e = .returned (.pointer (some ⟨b, 0, none⟩)) ∧ Held w w' b none Fl.new := by
  refine (new_any w).mono ?_
  rintro e w' ⟨rfl, h1, h2⟩
  exact ⟨_, rfl, h1, h2, Nat.le_refl _⟩
theorem program_held {w w1 : World} {b : Nat} {J : Option Nat} {f : Fl} (h : Held w w1 b J f) (a : Int) (s : ByteArray) {f' : Fl} {r : Int} (hr : f.program a (bytes s) = (f', r)) :
    Calls Try.prog 18 #[.pointer (some ⟨b, 0, none⟩), .int .i64 a, .string s] w1 fun e w' => e = .returned (.int .i64 r) ∧ Held w w' b J f' := by
  refine (program_any b J f a s w1 h.at_).mono ?_
  rintro e w' ⟨rfl, h1, h2⟩
  rw [hr] at h1 ⊢
  exact ⟨rfl, h.next h1 h2⟩
theorem erase_held {w w1 : World} {b : Nat} {J : Option Nat} {f : Fl} (h : Held w w1 b J f) (a : Int) {f' : Fl} {r : Int} (hr : f.erase a = (f', r)) :
    Calls Try.prog 21 #[.pointer (some ⟨b, 0, none⟩), .int .i64 a] w1 fun e w' => e = .returned (.int .i64 r) ∧ Held w w' b J f' := by
  refine (erase_any b J f a w1 h.at_).mono ?_
  rintro e w' ⟨rfl, h1, h2⟩
  rw [hr] at h1 ⊢
  exact ⟨rfl, h.next h1 h2⟩
theorem cut_held {w w1 : World} {b : Nat} {J : Option Nat} {f : Fl} (h : Held w w1 b J f) (a : Int) (s : ByteArray) (hi : a ≤ 9223372036854775807) (hs : s.size ≤ 140737488351232) {f' : Fl} {r : Int} (hr : f.cut a (bytes s) = (f', r)) :
    Calls Try.prog 22 #[.pointer (some ⟨b, 0, none⟩), .int .i64 a, .string s] w1 fun e w' => e = .returned (.int .i64 r) ∧ ∃ J', (J' = J ∨ J' = some w1.heap.size) ∧ Held w w' b J' f' := by
  refine (cut_any b J f a s w1 h.at_ hi hs).mono ?_
  rintro e w' ⟨rfl, ⟨J', h1, h3⟩, h2⟩
  rw [hr] at h1 ⊢
  exact ⟨rfl, J', h3, h.next h1 h2⟩
theorem on_held {w w1 : World} {b : Nat} {J : Option Nat} {f : Fl} (h : Held w w1 b J f) :
    Calls Try.prog 23 #[.pointer (some ⟨b, 0, none⟩)] w1 fun e w' => e = .returned (.tuple #[]) ∧ Held w w' b J f.on := by
  refine (on_any b J f w1 h.at_).mono ?_
  rintro e w' ⟨rfl, h1, h2⟩
  exact ⟨rfl, h.next h1 h2⟩
theorem read_held {w w1 : World} {b : Nat} {J : Option Nat} {f : Fl} (h : Held w w1 b J f) (a n : Int) {l : List Nat} {r : Int} (hr : f.read a n = (l, r)) :
    Calls Try.prog 20 #[.pointer (some ⟨b, 0, none⟩), .int .i64 a, .int .i64 n] w1 fun e w' => e = .returned (.tuple #[.string (str l), .int .i64 r]) ∧ w1 = w' := by
  refine (read_any b J f a n w1 h.at_).mono ?_
  rintro e w' ⟨rfl, rfl⟩
  rw [hr]
  exact ⟨rfl, rfl⟩

def aw1 : Fl := (Fl.new.program 0 [15, 240]).1
def aw2 : Fl := (aw1.cut 1 [60]).1
def aw3 : Fl := (aw2.program 4096 [0, 0, 0]).1
def aw4 : Fl := aw3.on
theorem pair_eq {α β : Type} {p : α × β} {b : β} (h : p.2 = b) : p = (p.1, b) := by rw [← h]
theorem aw_e1 : Fl.new.program 0 (bytes { data := #[15, 240] }) = (aw1, 0) := pair_eq (by kernel_rfl)
theorem aw_e2 : aw1.cut 1 (bytes { data := #[60] }) = (aw2, 0) := pair_eq (by kernel_rfl)
theorem aw_e3 : aw2.program 4096 (bytes { data := #[0, 0, 0] }) = (aw3, 60) := pair_eq (by kernel_rfl)
theorem aw_e4 : aw3.read 0 1 = ([], 60) := by kernel_rfl
theorem aw_e5 : aw4.read 4096 3 = ([0, 60, 255], 0) := by kernel_rfl
theorem aw_e6 : aw4.read 0 3 = ([15, 240, 255], 0) := by kernel_rfl
theorem aw_e7 : aw4.steps = 3 := by kernel_rfl

set_option maxHeartbeats 1000000 in
theorem awake_any (w : World) : Calls Try.prog 16 #[] w fun e w' => e = .returned (.bool true) ∧ Below w.heap.size w w' := by
  go_enter Try.func16, Try.ntmps16
  go_wp2_with fail
  refine (new_held _).mono ?_
  rintro e w1 ⟨b, rfl, h1⟩
  have H1 := Lib.hid h1
  clear h1
  go_wp2_with fail
  refine (program_held H1.out 0 _ aw_e1).mono ?_
  rintro e w2 ⟨rfl, h2⟩
  have H2 := Lib.hid h2
  clear h2 H1
  go_wp2_with fail
  refine (cut_held H2.out 1 _ (by omega) (by decide) aw_e2).mono ?_
  rintro e w3 ⟨rfl, J, _, h3⟩
  have H3 := Lib.hid h3
  clear h3 H2
  go_wp2_with fail
  refine (program_held H3.out 4096 _ aw_e3).mono ?_
  rintro e w4 ⟨rfl, h4⟩
  have H4 := Lib.hid h4
  clear h4 H3
  go_wp2_with fail
  refine (read_held H4.out 0 1 aw_e4).mono ?_
  rintro e w5 ⟨rfl, rfl⟩
  go_wp2_with fail
  refine (on_held H4.out).mono ?_
  rintro e w5 ⟨rfl, h5⟩
  have H5 : Hid (Held w w5 b J aw4) := h5
  clear h5 H4
  go_wp2_with fail
  refine (read_held H5.out 4096 3 aw_e5).mono ?_
  rintro e w6 ⟨rfl, rfl⟩
  go_wp2_with fail
  refine (read_held H5.out 0 3 aw_e6).mono ?_
  rintro e w6 ⟨rfl, rfl⟩
  have s1 : str [0, 60, 255] = { data := #[0, 60, 255] } := by decide
  have s2 : str [15, 240, 255] = { data := #[15, 240, 255] } := by decide
  rw [s1, s2]
  go_wp2_with fail
  refine (steps_any b J aw4 _ H5.out.at_).mono ?_
  rintro e w6 ⟨rfl, rfl⟩
  rw [aw_e7]
  go_wp2_with fail
  refine (image_any b J aw4 _ H5.out.at_).mono ?_
  rintro e w6 ⟨rfl, rfl⟩
  have hl : (str aw4.cell).size = 8192 := by rw [str_size]; exact H5.out.ok.len
  generalize str aw4.cell = im at *
  go_wp2_with fail
  go_ret
  exact ⟨rfl, H5.out.below⟩
end Go.Proofs.Ytngmnceahhlpkaa
