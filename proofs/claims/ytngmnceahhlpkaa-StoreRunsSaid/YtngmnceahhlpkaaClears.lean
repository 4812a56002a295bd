/- The walk of NorClears: true, in whatever world. Condition: numbers are of their kinds, texts are within the reach of memory. -/
import Derived.Test.YtngmnceahhlpkaaMade
import Derived.Test.YtngmnceahhlpkaaPlain1
namespace Go.Proofs.Ytngmnceahhlpkaa
open Go.RowKit

set_option maxRecDepth 100000 in
theorem clears_not (img s : ByteArray) (a : Int) (w : World) (h0 : img.size ≠ 0) (h1 : img.size ≠ 8192) :
    Calls Try.prog 3 #[.string img, .int .i64 a, .string s] w fun e w' => e = .returned (.bool true) ∧ Below w.heap.size w w' := by
  have H := Lib.hid (made_not img w h0 h1)
  clear h0 h1
  go_enter Try.func3, Try.ntmps3
  go_wp2_with fail
  refine H.out.mono ?_
  rintro e w1 ⟨rfl, rfl⟩
  clear H
  go_wp2_with fail
  refine (awake_any _).mono ?_
  rintro e w1 ⟨rfl, h1⟩
  have H1 := Lib.hid h1
  clear h1
  go_wp2_with fail
  go_ret
  exact ⟨rfl, H1.out⟩

theorem start_off (s : ByteArray) : (start s).off = false := by unfold start; split <;> rfl
theorem start_armed (s : ByteArray) : (start s).armed = false := by unfold start; split <;> rfl
theorem start_steps (s : ByteArray) : (start s).steps = 0 := by unfold start; split <;> rfl
theorem image_held {w w1 : World} {b : Nat} {J : Option Nat} {f : Fl} (h : Held w w1 b J f) :
    Calls Try.prog 17 #[.pointer (some ⟨b, 0, none⟩)] w1 fun e w' => e = .returned (.string (str f.cell)) ∧ w1 = w' := image_any b J f w1 h.at_
theorem steps_held {w w1 : World} {b : Nat} {J : Option Nat} {f : Fl} (h : Held w w1 b J f) :
    Calls Try.prog 19 #[.pointer (some ⟨b, 0, none⟩)] w1 fun e w' => e = .returned (.int .i64 f.steps) ∧ w1 = w' := steps_any b J f w1 h.at_
theorem awake_held {w w1 : World} {b : Nat} {J : Option Nat} {f : Fl} (h : Held w w1 b J f) :
    Calls Try.prog 16 #[] w1 fun e w' => e = .returned (.bool true) ∧ Held w w' b J f := by
  refine (awake_any w1).mono ?_
  rintro e w' ⟨rfl, hb⟩
  exact ⟨rfl, h.keep hb⟩

set_option maxRecDepth 100000 in
set_option maxHeartbeats 1000000 in
theorem clears_arg (img s : ByteArray) (a : Int) (w : World) (hi : img.size = 0 ∨ img.size = 8192) (hf : Fl.fits a s.size = false) :
    Calls Try.prog 3 #[.string img, .int .i64 a, .string s] w fun e w' => e = .returned (.bool true) ∧ Below w.heap.size w w' := by
  have H := Lib.hid (made_some img w hi)
  have HP : Hid ((start img).program a (bytes s) = (start img, 1)) := by
    unfold Hid Fl.program
    rw [start_off, bytes_length, hf]
    rfl
  have HS := Lib.hid (start_steps img)
  clear hi hf
  generalize start img = f at *
  go_enter Try.func3, Try.ntmps3
  go_wp2_with fail
  refine H.out.mono ?_
  rintro e w1 ⟨b, r, c, rfl, h1⟩
  have H1 := Lib.hid h1.held
  clear H h1
  go_wp2_with fail
  refine (image_held H1.out).mono ?_
  rintro e w2 ⟨rfl, rfl⟩
  go_wp2_with fail
  refine (program_held H1.out a s HP.out).mono ?_
  rintro e w2 ⟨rfl, h2⟩
  have H2 := Lib.hid h2
  clear h2 H1
  go_wp2_with fail
  refine (image_held H2.out).mono ?_
  rintro e w3 ⟨rfl, rfl⟩
  go_wp2_with fail
  refine (awake_held H2.out).mono ?_
  rintro e w3 ⟨rfl, h3⟩
  have H3 := Lib.hid h3
  clear h3 H2
  go_wp2_with fail
  refine (steps_held H3.out).mono ?_
  rintro e w4 ⟨rfl, rfl⟩
  rw [HS.out]
  go_wp2_with fail
  go_ret
  exact ⟨rfl, H3.out.below⟩

theorem clears_law (img s : ByteArray) (a : Nat) (hi : img.size = 0 ∨ img.size = 8192) (hf : (a : Int) + s.size ≤ 8192) :
    ∃ g g2 : Fl, (start img).program a (bytes s) = (g, 0) ∧ g.program a (bytes s) = (g2, 0) ∧ g2.cell = g.cell ∧ g.steps = s.size ∧ (str (start img).cell).size = 8192 ∧ (str g.cell).size = 8192 ∧
      ∀ (k : Nat) (h1 : k < (str (start img).cell).size) (h2 : k < (str g.cell).size),
        (∀ (h : a ≤ k ∧ k < a + s.size), (str g.cell)[k].toNat = (str (start img).cell)[k].toNat &&& (s[k - a]'(by omega)).toNat) ∧ (¬ (a ≤ k ∧ k < a + s.size) → (str g.cell)[k].toNat = (str (start img).cell)[k].toNat) := by
  have hok := start_ok img hi
  have hoff := start_off img
  have harm := start_armed img
  have hstp := start_steps img
  generalize start img = f at *
  have hfit : Fl.fits (a : Int) ((bytes s).length : Int) = true := by unfold Fl.fits; rw [bytes_length]; simp; omega
  have HP0 : f.prog a (bytes s) = ({ f with steps := f.steps + (bytes s).length, cell := andAt f.cell a (bytes s) }, 0) :=
    Fl.prog_calm _ _ _ harm (by rw [hstp]; omega) (by rw [hstp, bytes_length]; omega)
  have hgb := Fl.Ok.prog (bytes s) a hok
  rw [HP0] at hgb
  obtain ⟨g, hg⟩ : ∃ g : Fl, g = { f with steps := f.steps + (bytes s).length, cell := andAt f.cell a (bytes s) } := ⟨_, rfl⟩
  have hgo : g.off = false := by rw [hg]; exact hoff
  have hga : g.armed = false := by rw [hg]; exact harm
  have hgs : g.steps = s.size := by rw [hg]; show f.steps + _ = _; rw [hstp, bytes_length]; omega
  have hgc : g.cell = andAt f.cell a (bytes s) := by rw [hg]
  rw [← hg] at HP0 hgb
  have HQ0 : g.prog a (bytes s) = ({ g with steps := g.steps + (bytes s).length, cell := andAt g.cell a (bytes s) }, 0) :=
    Fl.prog_calm _ _ _ hga (by rw [hgs]; omega) (by rw [hgs, bytes_length]; omega)
  refine ⟨g, { g with steps := g.steps + (bytes s).length, cell := andAt g.cell a (bytes s) }, ?_, ?_, ?_, hgs, ?_, ?_, ?_⟩
  · unfold Fl.program
    rw [if_neg (by rw [hoff]; simp), if_pos hfit]
    exact HP0
  · unfold Fl.program
    rw [if_neg (by rw [hgo]; simp), if_pos hfit]
    exact HQ0
  · show andAt g.cell a (bytes s) = g.cell
    rw [hgc, andAt_twice]
  · rw [str_size]; exact hok.len
  · rw [str_size]; exact hgb.len
  · intro k h1 h2
    have e1 := bytes_get (str g.cell) k h2
    rw [bytes_str _ hgb.byte] at e1
    have e2 := bytes_get (str f.cell) k h1
    rw [bytes_str _ hok.byte] at e2
    have hk : k < f.cell.length := by rw [str_size] at h1; exact h1
    rw [← e1, ← e2, hgc, List.getD_eq_getElem?_getD, andAt_get, List.getD_eq_getElem?_getD, List.getElem?_eq_getElem hk, bytes_length]
    refine ⟨fun hc => ?_, fun hc => ?_⟩
    · rw [← bytes_get s (k - a) (by omega)]
      simp [hc, hk]
    · simp [hc, hk]

set_option maxRecDepth 100000 in
set_option maxHeartbeats 2000000 in
theorem clears_fits (img s : ByteArray) (a : Nat) (w : World) (hi : img.size = 0 ∨ img.size = 8192) (hf : (a : Int) + s.size ≤ 8192) :
    Calls Try.prog 3 #[.string img, .int .i64 (a : Int), .string s] w fun e w' => e = .returned (.bool true) ∧ Below w.heap.size w w' := by
  have H := Lib.hid (made_some img w hi)
  obtain ⟨g, g2, hp, hq, hc2, hgs, hl1, hl2, hcell⟩ := clears_law img s a hi hf
  have HP := Lib.hid hp
  have HQ := Lib.hid hq
  have HC2 := Lib.hid hc2
  have HGS := Lib.hid hgs
  have HL1 := Lib.hid hl1
  have HL2 := Lib.hid hl2
  have HCELL := Lib.hid hcell
  clear hi hp hq hc2 hgs hl1 hl2 hcell
  generalize start img = f at *
  go_enter Try.func3, Try.ntmps3
  go_wp2_with fail
  refine H.out.mono ?_
  rintro e w1 ⟨b, r, c, rfl, h1⟩
  have H1 := Lib.hid h1.held
  clear H h1
  go_wp2_with fail
  refine (image_held H1.out).mono ?_
  rintro e w2 ⟨rfl, rfl⟩
  go_wp2_with fail
  refine (program_held H1.out a s HP.out).mono ?_
  rintro e w2 ⟨rfl, h2⟩
  have H2 := Lib.hid h2
  clear h2 H1
  go_wp2_with fail
  refine (image_held H2.out).mono ?_
  rintro e w3 ⟨rfl, rfl⟩
  have hl1 := HL1.out
  have hl2 := HL2.out
  have HI : Hid (∀ W (f' : Fl), f'.cell = g.cell → Held w W b none f' → Calls Try.prog 17 #[.pointer (some ⟨b, 0, none⟩)] W fun e w' => e = .returned (.string (str g.cell)) ∧ W = w') := by
    intro W f' hc h
    rw [← hc]
    exact image_held h
  generalize str f.cell = s1 at *
  generalize str g.cell = s2 at *
  clear HP
  go_wp2_with fail
  refine (steps_held H2.out).mono ?_
  rintro e w4 ⟨rfl, rfl⟩
  rw [HGS.out]
  go_wp2_with fail
  go_loop [13] (fun i => ∃ k : Nat, k ≤ 8192 ∧ i = .int .i64 k) (fun i => 8192 - (intOf i).toNat)
  case atStart => exact ⟨0, by omega, rfl⟩
  case round =>
    obtain ⟨k, hk, rfl⟩ := hrel
    by_cases hlt : (k : Int) < 8192
    · have hk1 : k < s1.size := by omega
      have hk2 : k < s2.size := by omega
      have hc := HCELL.out k hk1 hk2
      by_cases hge : (a : Int) ≤ (k : Int)
      · by_cases hlt2 : (k : Int) < (a : Int) + (s.size : Int)
        · have hin : a ≤ k ∧ k < a + s.size := by omega
          obtain ⟨m, hm⟩ : ∃ m : Nat, k = a + m := ⟨k - a, by omega⟩
          have hms : (k : Int) - (a : Int) = (m : Int) := by omega
          have hml : m < s.size := by omega
          have he := hc.1 hin
          have hsm : s[k - a]'(by omega) = s[m] := by congr 1; omega
          rw [hsm] at he
          have hand := u8_and_nat s1[k].toNat s[m].toNat (s1[k].toNat_lt) (s[m].toNat_lt)
          have hne : (((s2[k].toNat : Nat) : Int) != ((s1[k].toNat &&& s[m].toNat : Nat) : Int)) = false := by rw [he]; simp
          have HM := Lib.hid hm
          clear hc he hm hin hsm
          go_wp2_with fail
          go_round
          case rel => exact ⟨k + 1, by omega, by go_num⟩
          case measure => simp [intOf]; omega
        · have he := hc.2 (by omega)
          have hne : (((s2[k].toNat : Nat) : Int) != ((s1[k].toNat : Nat) : Int)) = false := by rw [he]; simp
          clear hc he
          go_wp2_with fail
          go_round
          case rel => exact ⟨k + 1, by omega, by go_num⟩
          case measure => simp [intOf]; omega
      · have he := hc.2 (by omega)
        have hne : (((s2[k].toNat : Nat) : Int) != ((s1[k].toNat : Nat) : Int)) = false := by rw [he]; simp
        clear hc he
        go_wp2_with fail
        go_round
        case rel => exact ⟨k + 1, by omega, by go_num⟩
        case measure => simp [intOf]; omega
    · go_wp2_with fail
      refine (awake_held H2.out).mono ?_
      rintro e w4 ⟨rfl, h4⟩
      have H4 := Lib.hid h4
      clear h4
      go_wp2_with fail
      refine (program_held H4.out a s HQ.out).mono ?_
      rintro e w5 ⟨rfl, h5⟩
      have H5 := Lib.hid h5
      clear h5
      go_wp2_with fail
      refine (HI.out _ g2 HC2.out H5.out).mono ?_
      rintro e w6 ⟨rfl, rfl⟩
      go_wp2_with fail
      go_ret
      exact ⟨rfl, H5.out.below⟩
theorem norClears_walk (img : ByteArray) (a : Int) (s : ByteArray) (w : World) : Calls Try.prog 3 #[.string img, .int .i64 a, .string s] w fun e w' => e = .returned (.bool true) ∧ Below w.heap.size w w' := by
  by_cases h0 : img.size = 0 ∨ img.size = 8192
  · cases hf : Fl.fits a s.size with
    | false => exact clears_arg img s a w h0 hf
    | true =>
      have hb : 0 ≤ a ∧ (0 : Int) ≤ s.size ∧ a ≤ 8192 ∧ (s.size : Int) ≤ 8192 - a := by unfold Fl.fits at hf; simpa using hf
      obtain ⟨i, rfl⟩ := Int.eq_ofNat_of_zero_le hb.1
      exact clears_fits img s i w h0 (by omega)
  · exact clears_not img s a w (by omega) (by omega)
end Go.Proofs.Ytngmnceahhlpkaa
