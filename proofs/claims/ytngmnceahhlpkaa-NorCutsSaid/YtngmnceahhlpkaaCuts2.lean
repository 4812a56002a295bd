/- The walk of NorCuts where the cut comes within the program: true, in whatever world. Condition: numbers are of their kinds, texts are within the reach of memory. -/
import Derived.Test.YtngmnceahhlpkaaCuts
namespace Go.Proofs.Ytngmnceahhlpkaa
open Go.RowKit

set_option maxRecDepth 100000 in
set_option maxHeartbeats 4000000 in
theorem cuts_within (img : ByteArray) (a : Nat) (s : ByteArray) (L : Nat) (j : ByteArray) (w : World) (hi : img.size = 0 ∨ img.size = 8192) (hL : (L : Int) < (s.size : Int)) (hj : j.size ≤ 140737488351232) (hf : (a : Int) + s.size ≤ 8192) :
    Calls Try.prog 6 #[.string img, .agg #[.int .i64 (a : Int), .string s, .int .i64 (L : Int), .string j]] w fun e w' => e = .returned (.bool true) ∧ Below w.heap.size w w' := by
  have H := Lib.hid (fun w => made_some img w hi)
  obtain ⟨f1, f2, g1, e1, e2, e3, e4, e5, e6, e7, e8, e9, e10⟩ := cuts_short (start img) (start_ok img hi) (start_off img) (start_armed img) (start_steps img) a s (bytes j) L (by omega) hf (bytes_byte j) (by rw [bytes_length]; exact hj)
  have E1 := Lib.hid e1
  have E2 := Lib.hid e2
  have E3 := Lib.hid e3
  have E4 := Lib.hid e4
  have E5 := Lib.hid e5
  have E6 := Lib.hid e6
  have E7 := Lib.hid e7
  have E8 := Lib.hid e8
  have E9 := Lib.hid e9
  have E10 := Lib.hid e10
  have P1 := Lib.hid (program_dead f2 0 (bytes { data := #[120] }) e3)
  have P2 := Lib.hid (erase_dead f2 0 e3)
  have hLh : (L : Int) ≤ 9223372036854775807 := by omega
  have hcm : ((a + L : Nat) : Int) < 8192 := by omega
  have hcs : (a : Int) + (L : Int) = ((a + L : Nat) : Int) := by omega
  have hb1 : ∀ x ∈ f2.cell, x < 256 := by
    have := Fl.Ok.program (Fl.Ok.cut (start_ok img hi) hLh (bytes_byte j) (by rw [bytes_length]; exact hj)) a (bytes s)
    rw [e1, e2] at this
    exact this.byte
  clear hi e1 e2 e3 e4 e5 e6 e7 e8 e9 e10 hb1
  generalize start img = f at *
  generalize hcc : a + L = c at *
  have HCC := Lib.hid hcc
  clear hcc
  go_enter Try.func6, Try.ntmps6
  go_wp2_with fail
  refine (H.out _).mono ?_
  rintro e w1 ⟨b, r, c', rfl, h1'⟩
  have H1 := Lib.hid h1'.held
  clear h1'
  go_wp2_with fail
  refine (H.out _).mono ?_
  rintro e w2 ⟨d, r2, c2, rfl, h2'⟩
  have H2 : Hid (Duo (w.alloc (partO a s L j)) w2 b none f d none f) := duo_of H1.out h2'.held
  clear h2' H1 H
  obtain ⟨c0, c1, c2', c3⟩ := part_in H2.out.one.below
  go_wp2_with fail
  refine (cut_one H2.out L j hLh hj E1.out).mono ?_
  rintro e w3 ⟨rfl, J, h3⟩
  have H3 := Lib.hid h3
  clear h3 H2 c0 c1 c2' c3
  obtain ⟨c0, c1, c2', c3⟩ := part_in H3.out.one.below
  go_wp2_with fail
  refine (program_one H3.out a s E2.out).mono ?_
  rintro e w4 ⟨rfl, h4⟩
  have H4 := Lib.hid h4
  clear h4 H3 c0 c1 c2' c3
  obtain ⟨c0, c1, c2', c3⟩ := part_in H4.out.one.below
  have HP : Hid (∀ W, Duo (w.alloc (partO a s L j)) W b J f2 d none f → Calls Try.prog 25 #[.pointer (some ⟨b, 0, none⟩)] W fun e w' => e = .returned (.bool false) ∧ w' = W) := by
    intro W h
    refine (powered_one h).mono ?_
    rintro e w' ⟨rfl, rfl⟩
    rw [E3.out]
    exact ⟨rfl, rfl⟩
  have HS : Hid (∀ W, Duo (w.alloc (partO a s L j)) W b J f2 d none f → Calls Try.prog 19 #[.pointer (some ⟨b, 0, none⟩)] W fun e w' => e = .returned (.int .i64 (L : Int)) ∧ w' = W) := by
    intro W h
    refine (steps_one h).mono ?_
    rintro e w' ⟨rfl, rfl⟩
    rw [E4.out]
    exact ⟨rfl, rfl⟩
  go_wp2_with fail
  refine wp_region_still_lit (by kernel_rfl) (by kernel_rfl) ?_
  repeat still_step
  still_call (HP.out _ (H4.out.drewN 1))
  repeat still_step
  still_call (HS.out _ (H4.out.drewN 1))
  repeat still_step
  refine wpStill_nil ?_
  clear HP HS
  have H5 := Lib.hid (H4.out.drewN 1)
  have c0' : (w4.drewN 1).cell? ⟨w.heap.size, 0, none⟩ = some (.int .i64 (a : Int)) := c0
  have c1' : (w4.drewN 1).cell? ⟨w.heap.size, 1, none⟩ = some (.string s) := c1
  have c2'' : (w4.drewN 1).cell? ⟨w.heap.size, 2, none⟩ = some (.int .i64 (L : Int)) := c2'
  clear H4 c0 c1 c2' c3
  change Exit.then _ _ _ _ (w4.drewN 1)
  generalize w4.drewN 1 = w5 at *
  go_wp2_with fail
  have hLe : (L : Int) ≤ (s.size : Int) := by omega
  go_still_tail 8, (by kernel_rfl)
  change wpList _ _ _ _ _ (w5.drewN 1)
  have H6 := Lib.hid (H5.out.drewN 1)
  clear H5 c0' c1' c2''
  generalize w5.drewN 1 = w6 at *
  go_wp2_with fail
  refine (program_two H6.out a _ E5.out).mono ?_
  rintro e w7 ⟨rfl, h7⟩
  have H7 := Lib.hid h7
  clear h7 H6
  go_wp2_with fail
  refine (image_one H7.out).mono ?_
  rintro e w8 ⟨rfl, rfl⟩
  go_wp2_with fail
  refine (image_two H7.out).mono ?_
  rintro e w8 ⟨rfl, rfl⟩
  obtain ⟨c0, c1, c2', c3⟩ := part_in H7.out.one.below
  have hl2 := E6.out
  have hl1 := E7.out
  have HI : Hid (∀ W J' K' (g' : Fl), Duo (w.alloc (partO a s L j)) W b J' f2 d K' g' → Calls Try.prog 17 #[.pointer (some ⟨b, 0, none⟩)] W fun e w' => e = .returned (.string (str f2.cell)) ∧ W = w') := by
    intro W J' K' g' h
    exact image_one h
  generalize str f2.cell = s2 at *
  generalize str g1.cell = s1 at *
  go_wp2_with fail
  have hk1 : c < s1.size := by omega
  have hk2 : c < s2.size := by omega
  have hkl : L < s.size := by omega
  have hand := u8_and_nat s1[c].toNat s[L].toNat (s1[c].toNat_lt) (s[L].toNat_lt)
  have HB : Hid (∀ W, Calls Try.prog 26 #[.int .u8 ((s1[c].toNat : Nat) : Int), .int .u8 ((s1[c].toNat &&& s[L].toNat : Nat) : Int), .int .u8 ((s2[c].toNat : Nat) : Int)] W fun e w' => e = .returned (.bool true) ∧ w' = W) := by
    intro W
    refine (between_any s1[c].toNat (s1[c].toNat &&& s[L].toNat) s2[c].toNat (s1[c].toNat_lt) (Fl.and_lt (s1[c].toNat_lt)) (s2[c].toNat_lt) W).mono ?_
    rintro e w' ⟨rfl, rfl⟩
    rw [E10.out hk2 hk1]
    exact ⟨rfl, rfl⟩
  refine wp_region_still_lit (by kernel_rfl) (by kernel_rfl) ?_
  repeat still_step
  still_call (HB.out _)
  repeat still_step
  refine wpStill_nil ?_
  clear HB hand
  change Exit.then _ _ _ _ (w7.drewN 1)
  have H8 := Lib.hid (H7.out.drewN 1)
  clear H7 c0 c1 c2' c3
  generalize w7.drewN 1 = w8 at *
  have hx8 := E8.out
  have hx9 := E9.out
  have hm1 : (c : Int) ≤ 8192 := by omega
  obtain ⟨p, hp⟩ : ∃ p, p = c + 1 := ⟨_, rfl⟩
  have hwr : IntKind.i64.wrap ((c : Int) + 1) = (p : Int) := by
    rw [IntKind.wrap_i64]
    omega
  have hm2 : (p : Int) ≤ 8192 := by omega
  rw [← hp] at hx9
  clear hp
  have A1 : Hid (∀ W, Duo (w.alloc (partO a s L j)) W b J f2 d none g1 → Calls Try.prog 16 #[] W fun e w' => e = .returned (.bool true) ∧ Duo (w.alloc (partO a s L j)) w' b J f2 d none g1) := fun W h => awake_duo h
  have A2 : Hid (∀ W, Duo (w.alloc (partO a s L j)) W b J f2 d none g1 → Calls Try.prog 18 #[.pointer (some ⟨b, 0, none⟩), .int .i64 0, .string { data := #[120] }] W fun e w' => e = .returned (.int .i64 60) ∧ Duo (w.alloc (partO a s L j)) w' b J f2 d none g1) := fun W h => program_one h 0 _ P1.out
  have A3 : Hid (∀ W, Duo (w.alloc (partO a s L j)) W b J f2 d none g1 → Calls Try.prog 21 #[.pointer (some ⟨b, 0, none⟩), .int .i64 0] W fun e w' => e = .returned (.int .i64 60) ∧ Duo (w.alloc (partO a s L j)) w' b J f2 d none g1) := fun W h => erase_one h 0 P2.out
  have A4 : Hid (∀ W, Duo (w.alloc (partO a s L j)) W b J f2 d none g1 → Calls Try.prog 17 #[.pointer (some ⟨b, 0, none⟩)] W fun e w' => e = .returned (.string s2) ∧ Duo (w.alloc (partO a s L j)) w' b J f2 d none g1) := fun W h => (HI.out W J none g1 h).mono fun e w' x => ⟨x.1, x.2 ▸ h⟩
  clear HI P1 P2 E1 E2 E3 E4 E5 E6 E7 E8 E9 E10
  go_wp2_with fail
  go_region_held3 (fun W => Duo (w.alloc (partO a s L j)) W b J f2 d none g1)
    (first | exact H8.out.drewN 1 | assumption)
    (first | (go_at_call 16; refine (A1.out _ (by assumption)).mono ?_; rintro e w' ⟨rfl, hd⟩) | (go_at_call 18; refine (A2.out _ (by assumption)).mono ?_; rintro e w' ⟨rfl, hd⟩) | (go_at_call 21; refine (A3.out _ (by assumption)).mono ?_; rintro e w' ⟨rfl, hd⟩) | (go_at_call 17; refine (A4.out _ (by assumption)).mono ?_; rintro e w' ⟨rfl, hd⟩))
  have HF : Hid (Duo (w.alloc (partO a s L j)) w' b J f2 d none g1) := by assumption
  go_wp2_with fail
  go_ret
  exact ⟨rfl, below_part HF.out.one.below⟩

theorem norCuts_walk (img : ByteArray) (a : Int) (s : ByteArray) (L : Int) (j : ByteArray) (hLh : L ≤ 9223372036854775807) (hj : j.size ≤ 140737488351232) (w : World) :
    Calls Try.prog 6 #[.string img, .agg #[.int .i64 a, .string s, .int .i64 L, .string j]] w fun e w' => e = .returned (.bool true) ∧ Below w.heap.size w w' := by
  by_cases hi : img.size = 0 ∨ img.size = 8192
  · by_cases hL : L < 0
    · exact cuts_minus img a s L j w hi hL hj
    · cases hf : Fl.fits a s.size with
      | false => exact cuts_arg img a s L j w hi (by omega) hLh hj hf
      | true =>
        have hb : 0 ≤ a ∧ (0 : Int) ≤ s.size ∧ a ≤ 8192 ∧ (s.size : Int) ≤ 8192 - a := by unfold Fl.fits at hf; simpa using hf
        obtain ⟨i, rfl⟩ := Int.eq_ofNat_of_zero_le hb.1
        by_cases hs : (s.size : Int) ≤ L
        · exact cuts_all img i s L j w hi hs hLh hj (by omega)
        · obtain ⟨k, rfl⟩ := Int.eq_ofNat_of_zero_le (show 0 ≤ L by omega)
          exact cuts_within img i s k j w hi (by omega) hj (by omega)
  · exact cuts_not img a s L j w (by omega) (by omega)
end Go.Proofs.Ytngmnceahhlpkaa
