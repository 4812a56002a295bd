/- The walk of NorErases: true, in whatever world. Condition: numbers are of their kinds, texts are within the reach of memory. -/
import Derived.Test.YtngmnceahhlpkaaDuo
namespace Go.Proofs.Ytngmnceahhlpkaa
open Go.RowKit

set_option maxRecDepth 100000 in
theorem erases_not (img s : ByteArray) (a : Int) (w : World) (h0 : img.size ≠ 0) (h1 : img.size ≠ 8192) :
    Calls Try.prog 7 #[.string img, .int .i64 a, .string s] w fun e w' => e = .returned (.bool true) ∧ Below w.heap.size w w' := by
  have H := Lib.hid (fun w => made_not img w h0 h1)
  clear h0 h1
  go_enter Try.func7, Try.ntmps7
  go_wp2_with fail
  refine (H.out _).mono ?_
  rintro e w1 ⟨rfl, rfl⟩
  go_wp2_with fail
  refine (H.out _).mono ?_
  rintro e w1 ⟨rfl, rfl⟩
  clear H
  go_wp2_with fail
  refine (awake_any _).mono ?_
  rintro e w1 ⟨rfl, h1⟩
  have H1 := Lib.hid h1
  clear h1
  go_wp2_with fail
  go_ret
  exact ⟨rfl, H1.out⟩

set_option maxRecDepth 100000 in
set_option maxHeartbeats 2000000 in
theorem erases_arg (img s : ByteArray) (a : Int) (w : World) (hi : img.size = 0 ∨ img.size = 8192) (hs : s.size ≤ 140737488351232) (h0 : (a != 0) = true) (h1 : (a != 1) = true) :
    Calls Try.prog 7 #[.string img, .int .i64 a, .string s] w fun e w' => e = .returned (.bool true) ∧ Below w.heap.size w w' := by
  have H := Lib.hid (fun w => made_some img w hi)
  obtain ⟨g1, hg1⟩ : ∃ g1 : Fl, g1 = { start img with armed := true, left := 0, junk := bytes s } := ⟨_, rfl⟩
  have HA : Hid ((start img).erase a = (start img, 1)) := erases_out _ _ (by rw [bne_iff_ne] at h0; exact h0) (by rw [bne_iff_ne] at h1; exact h1) (start_off img)
  have HO : Hid (g1.off = false) := by unfold Hid; rw [hg1]; exact start_off img
  have HB : Hid (g1.erase a = (g1, 1)) := erases_out _ _ (by rw [bne_iff_ne] at h0; exact h0) (by rw [bne_iff_ne] at h1; exact h1) HO.out
  have HC : Hid ((start img).cut 0 (bytes s) = (g1, 0)) := by
    unfold Hid Fl.cut
    rw [if_neg (by rw [start_off]; simp), if_neg (by omega), hg1]
  have HG : Hid (g1.cell = (start img).cell) := by unfold Hid; rw [hg1]
  clear hi hg1
  generalize start img = f at *
  go_enter Try.func7, Try.ntmps7
  go_wp2_with fail
  refine (H.out _).mono ?_
  rintro e w1 ⟨b, r, c, rfl, h1'⟩
  have H1 := Lib.hid h1'.held
  clear h1'
  go_wp2_with fail
  refine (H.out _).mono ?_
  rintro e w2 ⟨d, r2, c2, rfl, h2'⟩
  have H2 := Lib.hid (duo_of H1.out h2'.held)
  clear h2' H1 H
  go_wp2_with fail
  refine (image_one H2.out).mono ?_
  rintro e w3 ⟨rfl, rfl⟩
  go_wp2_with fail
  refine (erase_one H2.out a HA.out).mono ?_
  rintro e w3 ⟨rfl, h3⟩
  have H3 := Lib.hid h3
  clear h3 H2
  go_wp2_with fail
  refine (cut_two H3.out 0 s (by omega) hs HC.out).mono ?_
  rintro e w4 ⟨rfl, K, h4⟩
  have H4 := Lib.hid h4
  clear h4 H3
  go_wp2_with fail
  refine (erase_two H4.out a HB.out).mono ?_
  rintro e w5 ⟨rfl, h5⟩
  have H5 := Lib.hid h5
  clear h5 H4
  go_wp2_with fail
  refine (awake_duo H5.out).mono ?_
  rintro e w6 ⟨rfl, h6⟩
  have H6 := Lib.hid h6
  clear h6 H5
  go_wp2_with fail
  refine (image_one H6.out).mono ?_
  rintro e w7 ⟨rfl, rfl⟩
  go_wp2_with fail
  refine (image_two H6.out).mono ?_
  rintro e w7 ⟨rfl, rfl⟩
  rw [HG.out]
  go_wp2_with fail
  refine (powered_two H6.out).mono ?_
  rintro e w7 ⟨rfl, rfl⟩
  rw [HO.out]
  go_wp2_with fail
  go_ret
  exact ⟨rfl, H6.out.one.below⟩

theorem Duo.drewN {w w1 : World} {b d : Nat} {J K : Option Nat} {f g : Fl} (h : Duo w w1 b J f d K g) (n : Nat) : Duo w (w1.drewN n) b J f d K g := h.keep ⟨rfl, rfl, rfl, Nat.le_refl _, fun _ _ => rfl⟩
set_option maxRecDepth 100000 in
set_option maxHeartbeats 4000000 in
theorem erases_does (img s : ByteArray) (a : Nat) (w : World) (hi : img.size = 0 ∨ img.size = 8192) (hs : s.size ≤ 140737488351232) (ha : a < 2) (z : Bool) (hz : ((a : Int) != 0) = z) :
    Calls Try.prog 7 #[.string img, .int .i64 (a : Int), .string s] w fun e w' => e = .returned (.bool true) ∧ Below w.heap.size w w' := by
  have H := Lib.hid (fun w => made_some img w hi)
  have hz1 : ((a : Int) != 1) = !z := by
    have : a = 0 ∨ a = 1 := by omega
    rcases this with rfl | rfl
    · rw [← hz]; rfl
    · rw [← hz]; rfl
  obtain ⟨f', g1, g2, g4, e1, e2, e3, e4, e5, e6, l1, l2, l3, hcell⟩ := erases_law (start img) (start_ok img hi) (start_off img) (start_armed img) a ha (bytes s) (bytes_byte s) (by rw [bytes_length]; exact hs)
  have E1 := Lib.hid e1
  have E2 := Lib.hid e2
  have E3 := Lib.hid e3
  have E4 := Lib.hid e4
  have E5 := Lib.hid e5
  have E6 := Lib.hid e6
  have L1 := Lib.hid l1
  have L2 := Lib.hid l2
  have L3 := Lib.hid l3
  have HCELL := Lib.hid hcell
  have HA := Lib.hid ha
  clear hi e1 e2 e3 e4 e5 e6 l1 l2 l3 hcell
  generalize start img = f at *
  cases z <;>
  · go_enter Try.func7, Try.ntmps7
    go_wp2_with fail
    refine (H.out _).mono ?_
    rintro e w1 ⟨b, r, c, rfl, h1'⟩
    have H1 := Lib.hid h1'.held
    clear h1'
    go_wp2_with fail
    refine (H.out _).mono ?_
    rintro e w2 ⟨d, r2, c2, rfl, h2'⟩
    have H2 := Lib.hid (duo_of H1.out h2'.held)
    clear h2' H1 H
    go_wp2_with fail
    refine (image_one H2.out).mono ?_
    rintro e w3 ⟨rfl, rfl⟩
    go_wp2_with fail
    refine (erase_one H2.out a E1.out).mono ?_
    rintro e w3 ⟨rfl, h3⟩
    have H3 := Lib.hid h3
    clear h3 H2
    go_wp2_with fail
    refine (cut_two H3.out 0 s (by omega) hs E2.out).mono ?_
    rintro e w4 ⟨rfl, K, h4⟩
    have H4 := Lib.hid h4
    clear h4 H3
    go_wp2_with fail
    refine (erase_two H4.out a E3.out).mono ?_
    rintro e w5 ⟨rfl, h5⟩
    have H5 := Lib.hid h5
    clear h5 H4
    go_wp2_with fail
    refine (image_one H5.out).mono ?_
    rintro e w6 ⟨rfl, rfl⟩
    go_wp2_with fail
    refine (image_two H5.out).mono ?_
    rintro e w6 ⟨rfl, rfl⟩
    go_wp2_with fail
    refine (powered_two H5.out).mono ?_
    rintro e w6 ⟨rfl, rfl⟩
    rw [E4.out]
    have hl1 := L1.out
    have hl2 := L2.out
    have hl3 := L3.out
    have HI : Hid (∀ W K' (g' : Fl), g'.cell = f'.cell → Duo w W b none f' d K' g' → Calls Try.prog 17 #[.pointer (some ⟨d, 0, none⟩)] W fun e w' => e = .returned (.string (str f'.cell)) ∧ W = w') := by
      intro W K' g' hc h
      rw [← hc]
      exact image_two h
    generalize str f.cell = s1 at *
    generalize str f'.cell = s2 at *
    generalize str g2.cell = s3 at *
    clear E1 E2 E3 hz hz1
    go_wp2_with fail
    go_loopw [19] (fun i wr => ∃ k : Nat, k ≤ 8192 ∧ i = .int .i64 k ∧ Duo w wr b none f' d K g2) (fun i _ => 8192 - (intOf i).toNat)
    case atStart => exact ⟨0, by omega, rfl, H5.out⟩
    case round =>
      obtain ⟨k, hk, rfl, hduo⟩ := hrel
      have HD := Lib.hid hduo
      clear hduo H5
      by_cases hlt : (k : Int) < 8192
      · have hk1 : k < s1.size := by omega
        have hk2 : k < s2.size := by omega
        have hk3 : k < s3.size := by omega
        have hc := HCELL.out k hk1 hk2 hk3
        by_cases hq : k / 4096 = a
        · have hq2 : (((k : Int) / 4096) == (a : Int)) = true := by rw [beq_iff_eq]; omega
          obtain ⟨h255, hor0⟩ := hc.1 hq
          have hor := u8_or_nat s3[k].toNat s1[k].toNat (s3[k].toNat_lt) (s1[k].toNat_lt)
          rw [hor0] at hor
          have hne : (((s2[k].toNat : Nat) : Int) != 255) = false := by rw [h255]; rfl
          clear hc hor0 h255 hq
          go_wp2_with fail
          go_quiet (fail)
          go_wp2_with fail
          go_roundw
          case rel => exact ⟨k + 1, by omega, by go_num, HD.out.drewN _⟩
          case measure => simp [intOf]; omega
        · have hq2 : (((k : Int) / 4096) == (a : Int)) = false := by rw [beq_eq_false_iff_ne]; omega
          obtain ⟨e2, e3⟩ := hc.2 hq
          have hne : (((s2[k].toNat : Nat) : Int) != ((s1[k].toNat : Nat) : Int)) = false := by rw [e2]; simp
          have hne3 : (((s3[k].toNat : Nat) : Int) != ((s1[k].toNat : Nat) : Int)) = false := by rw [e3]; simp
          clear hc e2 e3 hq
          go_wp2_with fail
          go_quiet (fail)
          go_wp2_with fail
          go_roundw
          case rel => exact ⟨k + 1, by omega, by go_num, HD.out.drewN _⟩
          case measure => simp [intOf]; omega
      · go_wp2_with fail
        refine (on_two HD.out).mono ?_
        rintro e w6 ⟨rfl, h6⟩
        have H6 := Lib.hid h6
        clear h6
        go_wp2_with fail
        refine (awake_duo H6.out).mono ?_
        rintro e w7 ⟨rfl, h7⟩
        have H7 := Lib.hid h7
        clear h7
        go_wp2_with fail
        refine (erase_two H7.out a E5.out).mono ?_
        rintro e w8 ⟨rfl, h8⟩
        have H8 := Lib.hid h8
        clear h8
        go_wp2_with fail
        refine (HI.out _ _ g4 E6.out H8.out).mono ?_
        rintro e w9 ⟨rfl, rfl⟩
        go_wp2_with fail
        go_ret
        exact ⟨rfl, H8.out.one.below⟩
theorem norErases_walk (img : ByteArray) (a : Int) (s : ByteArray) (hs : s.size ≤ 140737488351232) (w : World) : Calls Try.prog 7 #[.string img, .int .i64 a, .string s] w fun e w' => e = .returned (.bool true) ∧ Below w.heap.size w w' := by
  by_cases h0 : img.size = 0 ∨ img.size = 8192
  · by_cases h : a = 0 ∨ a = 1
    · obtain ⟨i, rfl⟩ := Int.eq_ofNat_of_zero_le (show 0 ≤ a by omega)
      exact erases_does img s i w h0 hs (by omega) _ rfl
    · exact erases_arg img s a w h0 hs (by rw [bne_iff_ne]; omega) (by rw [bne_iff_ne]; omega)
  · exact erases_not img s a w (by omega) (by omega)
end Go.Proofs.Ytngmnceahhlpkaa
