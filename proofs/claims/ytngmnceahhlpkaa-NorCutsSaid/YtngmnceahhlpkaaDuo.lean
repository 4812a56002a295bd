/- Two flashes made behind w, side by side: what is done to one leaves the other as it was. Conditions: numbers are of their kinds, texts are within the reach of memory. -/
import Derived.Test.YtngmnceahhlpkaaClears
namespace Go.Proofs.Ytngmnceahhlpkaa
open Go.RowKit

structure Duo (w w' : World) (b : Nat) (J : Option Nat) (f : Fl) (d : Nat) (K : Option Nat) (g : Fl) : Prop where
  one : Held w w' b J f
  two : Held w w' d K g
  ne : b ≠ d
  jd : J ≠ some d
  kb : K ≠ some b
theorem Duo.swap {w w' : World} {b d : Nat} {J K : Option Nat} {f g : Fl} (h : Duo w w' b J f d K g) : Duo w w' d K g b J f := ⟨h.two, h.one, h.ne.symm, h.kb, h.jd⟩
theorem Duo.first {w w1 w2 : World} {b d : Nat} {J J' K : Option Nat} {f f' g : Fl} (h : Duo w w1 b J f d K g) (ha : At w2 b J' f') (hg : w1.grownBy w2 (some b)) (hj : J' = J ∨ J' = some w1.heap.size) : Duo w w2 b J' f' d K g := by
  have ho := h.one.next ha hg
  refine ⟨ho, ⟨h.two.at_.grown hg h.ne.symm h.kb, ho.below, h.two.new⟩, h.ne, ?_, h.kb⟩
  rcases hj with rfl | rfl
  · exact h.jd
  · have := h.two.at_.lt
    intro e
    injection e with e
    omega
theorem Duo.keep {w w1 w2 : World} {b d : Nat} {J K : Option Nat} {f g : Fl} (h : Duo w w1 b J f d K g) (hb : Below w1.heap.size w1 w2) : Duo w w2 b J f d K g :=
  ⟨h.one.keep hb, h.two.keep hb, h.ne, h.jd, h.kb⟩
theorem duo_of {w w1 w2 : World} {b d : Nat} {f g : Fl} (h : Held w w1 b none f) (k : Held w1 w2 d none g) : Duo w w2 b none f d none g :=
  ⟨h.keep k.below, ⟨k.at_, below_next h.below k.below, Nat.le_trans h.below.size k.new⟩, by have := h.at_.lt; have := k.new; omega, by simp, by simp⟩

section
variable {w w1 : World} {b d : Nat} {J K : Option Nat} {f g : Fl} (h : Duo w w1 b J f d K g)
include h
theorem program_one (a : Int) (s : ByteArray) {f' : Fl} {r : Int} (hr : f.program a (bytes s) = (f', r)) :
    Calls Try.prog 18 #[.pointer (some ⟨b, 0, none⟩), .int .i64 a, .string s] w1 fun e w' => e = .returned (.int .i64 r) ∧ Duo w w' b J f' d K g := by
  refine (program_any b J f a s w1 h.one.at_).mono ?_
  rintro e w' ⟨rfl, h1, h2⟩
  rw [hr] at h1 ⊢
  exact ⟨rfl, h.first h1 h2 (.inl rfl)⟩
theorem erase_one (a : Int) {f' : Fl} {r : Int} (hr : f.erase a = (f', r)) :
    Calls Try.prog 21 #[.pointer (some ⟨b, 0, none⟩), .int .i64 a] w1 fun e w' => e = .returned (.int .i64 r) ∧ Duo w w' b J f' d K g := by
  refine (erase_any b J f a w1 h.one.at_).mono ?_
  rintro e w' ⟨rfl, h1, h2⟩
  rw [hr] at h1 ⊢
  exact ⟨rfl, h.first h1 h2 (.inl rfl)⟩
theorem cut_one (a : Int) (s : ByteArray) (hi : a ≤ 9223372036854775807) (hs : s.size ≤ 140737488351232) {f' : Fl} {r : Int} (hr : f.cut a (bytes s) = (f', r)) :
    Calls Try.prog 22 #[.pointer (some ⟨b, 0, none⟩), .int .i64 a, .string s] w1 fun e w' => e = .returned (.int .i64 r) ∧ ∃ J', Duo w w' b J' f' d K g := by
  refine (cut_any b J f a s w1 h.one.at_ hi hs).mono ?_
  rintro e w' ⟨rfl, ⟨J', h1, h3⟩, h2⟩
  rw [hr] at h1 ⊢
  exact ⟨rfl, J', h.first h1 h2 h3⟩
theorem on_one : Calls Try.prog 23 #[.pointer (some ⟨b, 0, none⟩)] w1 fun e w' => e = .returned (.tuple #[]) ∧ Duo w w' b J f.on d K g := by
  refine (on_any b J f w1 h.one.at_).mono ?_
  rintro e w' ⟨rfl, h1, h2⟩
  exact ⟨rfl, h.first h1 h2 (.inl rfl)⟩
theorem image_one : Calls Try.prog 17 #[.pointer (some ⟨b, 0, none⟩)] w1 fun e w' => e = .returned (.string (str f.cell)) ∧ w1 = w' := image_held h.one
theorem steps_one : Calls Try.prog 19 #[.pointer (some ⟨b, 0, none⟩)] w1 fun e w' => e = .returned (.int .i64 f.steps) ∧ w1 = w' := steps_held h.one
theorem powered_one : Calls Try.prog 25 #[.pointer (some ⟨b, 0, none⟩)] w1 fun e w' => e = .returned (.bool (!f.off)) ∧ w1 = w' := powered_any b J f w1 h.one.at_
theorem awake_duo : Calls Try.prog 16 #[] w1 fun e w' => e = .returned (.bool true) ∧ Duo w w' b J f d K g := by
  refine (awake_any w1).mono ?_
  rintro e w' ⟨rfl, hb⟩
  exact ⟨rfl, h.keep hb⟩
theorem program_two (a : Int) (s : ByteArray) {g' : Fl} {r : Int} (hr : g.program a (bytes s) = (g', r)) :
    Calls Try.prog 18 #[.pointer (some ⟨d, 0, none⟩), .int .i64 a, .string s] w1 fun e w' => e = .returned (.int .i64 r) ∧ Duo w w' b J f d K g' :=
  (program_one h.swap a s hr).mono fun _ _ x => ⟨x.1, x.2.swap⟩
theorem erase_two (a : Int) {g' : Fl} {r : Int} (hr : g.erase a = (g', r)) :
    Calls Try.prog 21 #[.pointer (some ⟨d, 0, none⟩), .int .i64 a] w1 fun e w' => e = .returned (.int .i64 r) ∧ Duo w w' b J f d K g' :=
  (erase_one h.swap a hr).mono fun _ _ x => ⟨x.1, x.2.swap⟩
theorem cut_two (a : Int) (s : ByteArray) (hi : a ≤ 9223372036854775807) (hs : s.size ≤ 140737488351232) {g' : Fl} {r : Int} (hr : g.cut a (bytes s) = (g', r)) :
    Calls Try.prog 22 #[.pointer (some ⟨d, 0, none⟩), .int .i64 a, .string s] w1 fun e w' => e = .returned (.int .i64 r) ∧ ∃ K', Duo w w' b J f d K' g' :=
  (cut_one h.swap a s hi hs hr).mono fun _ _ x => ⟨x.1, x.2.elim fun K' y => ⟨K', y.swap⟩⟩
theorem on_two : Calls Try.prog 23 #[.pointer (some ⟨d, 0, none⟩)] w1 fun e w' => e = .returned (.tuple #[]) ∧ Duo w w' b J f d K g.on :=
  (on_one h.swap).mono fun _ _ x => ⟨x.1, x.2.swap⟩
theorem image_two : Calls Try.prog 17 #[.pointer (some ⟨d, 0, none⟩)] w1 fun e w' => e = .returned (.string (str g.cell)) ∧ w1 = w' := image_held h.two
theorem powered_two : Calls Try.prog 25 #[.pointer (some ⟨d, 0, none⟩)] w1 fun e w' => e = .returned (.bool (!g.off)) ∧ w1 = w' := powered_any d K g w1 h.two.at_
end

/-! ### The plain law of erasing -/
theorem erases_out (f : Fl) (s : Int) (hs : s ≠ 0) (hs1 : s ≠ 1) (ho : f.off = false) : f.erase s = (f, 1) := by
  unfold Fl.erase
  rw [if_neg (by rw [ho]; simp), if_pos (by omega)]
theorem erases_in (f : Fl) (s : Nat) (hs : s < 2) (ho : f.off = false) : f.erase s = ({ f.step with cell := f.wiped s 4096 }, if f.whole then 0 else 60) := by
  unfold Fl.erase
  rw [if_neg (by rw [ho]; simp), if_neg (by omega)]
  rfl
theorem erases_law (f : Fl) (hok : f.Ok) (ho : f.off = false) (ha : f.armed = false) (s : Nat) (hs : s < 2) (junk : List Nat) (hjb : ∀ x ∈ junk, x < 256) (hjl : junk.length ≤ 140737488351232) :
    ∃ f' g1 g2 g4 : Fl, f.erase s = (f', 0) ∧ f.cut 0 junk = (g1, 0) ∧ g1.erase s = (g2, 60) ∧ g2.off = true ∧ g2.on.erase s = (g4, 0) ∧ g4.cell = f'.cell ∧
      (str f.cell).size = 8192 ∧ (str f'.cell).size = 8192 ∧ (str g2.cell).size = 8192 ∧
      ∀ (k : Nat) (h1 : k < (str f.cell).size) (h2 : k < (str f'.cell).size) (h3 : k < (str g2.cell).size),
        (k / 4096 = s → (str f'.cell)[k].toNat = 255 ∧ (str g2.cell)[k].toNat ||| (str f.cell)[k].toNat = (str g2.cell)[k].toNat) ∧
        (k / 4096 ≠ s → (str f'.cell)[k].toNat = (str f.cell)[k].toNat ∧ (str g2.cell)[k].toNat = (str f.cell)[k].toNat) := by
  have hw : f.whole = true := by unfold Fl.whole; rw [ha]; rfl
  obtain ⟨g1, hg1⟩ : ∃ g1 : Fl, g1 = { f with armed := true, left := 0, junk := junk } := ⟨_, rfl⟩
  have hg1o : g1.off = false := by rw [hg1]; exact ho
  have hg1k : g1.Ok := by rw [hg1]; exact ⟨hok.len, hok.byte, hjb, Int.le_refl _, by show (0 : Int) ≤ _; omega, hjl⟩
  have hw1 : g1.whole = false := by rw [hg1]; rfl
  have hc1 : g1.cell = f.cell := by rw [hg1]
  have hE1 := erases_in f s hs ho
  rw [hw] at hE1
  have hE2 := erases_in g1 s hs hg1o
  rw [hw1] at hE2
  obtain ⟨f', hf'⟩ : ∃ f' : Fl, f' = { f.step with cell := f.wiped s 4096 } := ⟨_, rfl⟩
  obtain ⟨g2, hg2⟩ : ∃ g2 : Fl, g2 = { g1.step with cell := g1.wiped s 4096 } := ⟨_, rfl⟩
  rw [← hf'] at hE1
  rw [← hg2] at hE2
  have hf'c : f'.cell = f.wiped s 4096 := by rw [hf']
  have hg2c : g2.cell = g1.wiped s 4096 := by rw [hg2]
  have hg2o : g2.off = true := by
    have : g1.step.off = true := by rw [hg1]; rfl
    rw [hg2]; exact this
  have hf'k : f'.Ok := by have := Fl.Ok.erase hok (s : Int); rw [hE1] at this; exact this
  have hg2k : g2.Ok := by have := Fl.Ok.erase hg1k (s : Int); rw [hE2] at this; exact this
  have hE4 := erases_in g2.on s hs rfl
  have hw4 : g2.on.whole = true := rfl
  rw [hw4] at hE4
  refine ⟨f', g1, g2, { g2.on.step with cell := g2.on.wiped s 4096 }, hE1, ?_, hE2, hg2o, hE4, ?_, ?_, ?_, ?_, ?_⟩
  · unfold Fl.cut
    rw [if_neg (by rw [ho]; simp), if_neg (by omega), hg1]
  · show g2.on.wiped s 4096 = f'.cell
    rw [hf'c]
    apply List.ext_getElem?
    intro i
    rw [Fl.wiped_get, Fl.wiped_get, hw, hw4]
    show (g2.cell[i]?).map _ = _
    rw [hg2c, Fl.wiped_get, hc1]
    cases f.cell[i]? with
    | none => rfl
    | some c =>
      by_cases hi : i / 4096 = s ∧ i % 4096 < 4096
      · simp [hi]
      · simp [hi]
  · rw [str_size]; exact hok.len
  · rw [str_size]; exact hf'k.len
  · rw [str_size]; exact hg2k.len
  · intro k h1 h2 h3
    have e1 := bytes_get (str f.cell) k h1
    rw [bytes_str _ hok.byte] at e1
    have e2 := bytes_get (str f'.cell) k h2
    rw [bytes_str _ hf'k.byte] at e2
    have e3 := bytes_get (str g2.cell) k h3
    rw [bytes_str _ hg2k.byte] at e3
    have hk : k < f.cell.length := by rw [str_size] at h1; exact h1
    rw [← e1, ← e2, ← e3, hf'c, hg2c, List.getD_eq_getElem?_getD, List.getD_eq_getElem?_getD, List.getD_eq_getElem?_getD, Fl.wiped_get, Fl.wiped_get, hc1, hw, hw1, List.getElem?_eq_getElem hk]
    have hm : k % 4096 < 4096 := Nat.mod_lt _ (by omega)
    refine ⟨fun hs => ?_, fun hs => ?_⟩
    · simp only [hs, hm, and_self, if_true, Option.map_some, Option.getD_some, true_and]
      show (_ ||| _) ||| _ = _
      rw [Nat.or_assoc, Nat.or_comm (g1.at_ _) _, ← Nat.or_assoc, Nat.or_self]
      rfl
    · simp [hs]
end Go.Proofs.Ytngmnceahhlpkaa
