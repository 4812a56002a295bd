/- The walk of StoreFull: true, in whatever world. No condition. -/
import Derived.Test.YtngmnceahhlpkaaSt14
namespace Go.Proofs.Ytngmnceahhlpkaa
open Go.RowKit
theorem put_calm {f : Fl} {s : St} (hi : Inv f s) (ho : f.off = false) (ha : f.armed = false) (hst : s.stands = false) (i : Nat) (h3 : i < 3) (t : ByteArray) (ht : t.size ≤ 2000) (hall : St.all (St.keep s.k i t) ≤ 4096) :
    ∃ f' s', St.put f s (i : Int) t = (f', s', 0) ∧ Inv f' s' ∧ f'.off = false ∧ f'.armed = false ∧ s'.stands = false ∧ s'.k = St.keep s.k i t := by
  obtain ⟨f', s', r, e, h⟩ := put_out hi ho hst (i : Int) t
  have hti : (i : Int).toNat = i := Int.toNat_natCast i
  rcases h with ⟨h, _⟩ | ⟨_, _, _, h⟩
  · omega
  · rw [hti] at h
    rcases h with ⟨h, _⟩ | ⟨_, rfl, h1, h2, h4, h5, h6⟩ | ⟨_, _, h1, _⟩
    · omega
    · exact ⟨f', s', e, h4, h1, h2.trans ha, h5, h6⟩
    · rw [ha] at h1
      cases h1
theorem keep_ne (k : Kept) (i j : Nat) (t : ByteArray) (h : j ≠ i) : St.keep k i t j = k j := if_neg h
theorem steps_kp {w W : World} {fb sb : Nat} {J : Option Nat} {f : Fl} {s : St} (h : Kp w W fb sb J f s) : Calls Try.prog 19 #[.pointer (some ⟨fb, 0, none⟩)] W fun e w' => e = .returned (.int .i64 f.steps) ∧ W = w' := steps_any fb J f W h.duet.fl
theorem image_kp {w W : World} {fb sb : Nat} {J : Option Nat} {f : Fl} {s : St} (h : Kp w W fb sb J f s) : Calls Try.prog 17 #[.pointer (some ⟨fb, 0, none⟩)] W fun e w' => e = .returned (.string (str f.cell)) ∧ W = w' := image_any fb J f W h.duet.fl
theorem awake_kp {w W : World} {fb sb : Nat} {J : Option Nat} {f : Fl} {s : St} (h : Kp w W fb sb J f s) : Calls Try.prog 31 #[] W fun e w' => e = .returned (.bool true) ∧ Kp w w' fb sb J f s := by
  refine (stAwake_any W).mono ?_
  rintro e w' ⟨rfl, hb⟩
  exact ⟨rfl, h.keep hb⟩
set_option maxRecDepth 100000 in
set_option maxHeartbeats 2000000 in
theorem storeFull_any (w : World) (a b c : ByteArray) (id : Int) : Calls Try.prog 12 #[.agg #[.string a, .string b, .string c], .int .i64 id] w fun e w' => e = .returned (.bool true) ∧ Below w.heap.size w w' := by
  obtain ⟨f0, e0, hi0, ho0, ha0⟩ := boot_new
  have HB0 : Hid (St.boot Fl.new.on = (f0, some St.st0, 0)) := e0
  have HI0 : Hid (Inv f0.on St.st0) := hi0.cells hi0.ok.on rfl
  clear e0 hi0 ho0 ha0
  have HW : Hid (Below w.heap.size w (w.alloc (.cells #[.string a, .string b, .string c] 69))) := below_alloc1 w _
  go_enter Try.func12, Try.ntmps12
  go_wp2_with fail
  generalize (w.alloc (.cells #[.string a, .string b, .string c] 69)) = w0 at *
  refine (new_held _).mono ?_
  rintro e w1 ⟨fb, rfl, h1⟩
  have H1 := Lib.hid h1
  clear h1
  go_wp2_with fail
  refine (raised_nil H1.out HB0.out).mono ?_
  rintro e w2 ⟨sb, rfl, h2⟩
  have H2 := Lib.hid h2
  clear h2 H1
  by_cases h2a : 2000 < a.size
  · skip
    have g1 : (2000 : Int) < (a.size : Int) := by omega
    have g2 : decide ((a.size : Int) ≤ 2000) = false := decide_eq_false (by omega)
    have g3 : ¬ (a.size : Int) ≤ 2000 := by omega
    have HP := Lib.hid (put_arg (f := f0.on) (s := St.st0) (id := 0) (t := a) rfl (.inr (.inr h2a)))
    go_wp2_with fail
    refine (awake_kp H2.out).mono ?_
    rintro e w3 ⟨rfl, h3⟩
    have H3 := Lib.hid h3
    clear h3 H2
    go_wp2_with fail
    refine (put_kp H3.out 0 a HP.out).mono ?_
    rintro e w4 ⟨rfl, h4⟩
    have H4 := Lib.hid (below_next HW.out h4.below)
    clear h4 H3
    go_wp2_with fail
    (try simp only [Exit.inBlock, Exit.then])
    go_ret
    exact ⟨rfl, H4.out⟩
  · have g1 : ¬ (2000 : Int) < (a.size : Int) := by omega
    have g2 : (a.size : Int) ≤ 2000 := by omega
    by_cases h2b : 2000 < b.size
    · have g4 : (2000 : Int) < (b.size : Int) := by omega
      go_wp2_with fail
      refine (awake_kp H2.out).mono ?_
      rintro e w3 ⟨rfl, h3⟩
      have H3 := Lib.hid (below_next HW.out h3.below)
      clear h3 H2
      go_wp2_with fail
      (try simp only [Exit.inBlock, Exit.then])
      go_ret
      exact ⟨rfl, H3.out⟩
    · have g4 : ¬ (2000 : Int) < (b.size : Int) := by omega
      have ga : (a.size : Int) ≤ 2000 := by omega
      have gb : (b.size : Int) ≤ 2000 := by omega
      obtain ⟨f1, s1, e1, hi1, ho1, ha1, hs1, hk1⟩ := put_calm HI0.out rfl rfl rfl 0 (by decide) a (by omega) (by
        show 1 + (a.size + 4) + 0 + 0 ≤ 4096
        omega)
      obtain ⟨f2, s2, e2, hi2, ho2, ha2, hs2, hk2⟩ := put_calm hi1 ho1 ha1 hs1 1 (by decide) b (by omega) (by
        rw [hk1]
        show 1 + (a.size + 4) + (b.size + 4) + 0 ≤ 4096
        omega)
      have HE1 : Hid (St.put f0.on St.st0 0 a = (f1, s1, 0)) := e1
      have HE2 : Hid (St.put f1 s1 1 b = (f2, s2, 0)) := e2
      have HI2 := Lib.hid hi2
      have HO2 := Lib.hid ho2
      have HA2 := Lib.hid ha2
      have HS2 := Lib.hid hs2
      have HK2 : Hid (s2.k = St.keep (St.keep St.none_ 0 a) 1 b) := by
        unfold Hid
        rw [hk2, hk1]
        rfl
      have HSA : Hid (a.size ≤ 2000) := by unfold Hid; omega
      have HSB : Hid (b.size ≤ 2000) := by unfold Hid; omega
      clear e1 e2 hi1 ho1 ha1 hs1 hk1 hi2 ho2 ha2 hs2 hk2 h2a h2b HI0 HB0
      go_wp2_with fail
      refine (put_kp H2.out 0 a HE1.out).mono ?_
      rintro e w3 ⟨rfl, h3⟩
      have H3 := Lib.hid h3
      clear h3 H2 HE1
      go_wp2_with fail
      refine (put_kp H3.out 1 b HE2.out).mono ?_
      rintro e w4 ⟨rfl, h4⟩
      have H4 := Lib.hid h4
      clear h4 H3 HE2
      go_wp2_with fail
      refine (steps_kp H4.out).mono ?_
      rintro e w5 ⟨rfl, rfl⟩
      go_wp2_with fail
      refine (image_kp H4.out).mono ?_
      rintro e w5 ⟨rfl, rfl⟩
      by_cases hbad : id < 0 ∨ 3 ≤ id ∨ 2000 < c.size
      · have HP := Lib.hid (put_arg (f := f2) (s := s2) (id := id) (t := c) HS2.out hbad)
        clear HI2 HO2 HA2 HS2 HK2 HSA HSB
        by_cases h0 : id < 0
        · clear hbad
          go_wp2_with fail
          refine (put_kp H4.out id c HP.out).mono ?_
          rintro e w5 ⟨rfl, h5⟩
          have H5 := Lib.hid h5
          clear h5 H4 HP
          go_wp2_with fail
          refine (awake_kp H5.out).mono ?_
          rintro e w6 ⟨rfl, h6⟩
          have H6 := Lib.hid h6
          clear h6 H5
          go_wp2_with fail
          refine (steps_kp H6.out).mono ?_
          rintro e w7 ⟨rfl, rfl⟩
          go_wp2_with fail
          refine (image_kp H6.out).mono ?_
          rintro e w7 ⟨rfl, rfl⟩
          have HF := Lib.hid (below_next HW.out H6.out.below)
          clear H6
          generalize str f2.cell = im at *
          generalize f2.steps = st at *
          go_wp2_with fail
          (try simp only [Exit.inBlock, Exit.then])
          go_ret
          exact ⟨rfl, HF.out⟩
        by_cases h3 : 3 ≤ id
        · have h30 : (2 : Int) < id := by omega
          clear hbad
          go_wp2_with fail
          refine (put_kp H4.out id c HP.out).mono ?_
          rintro e w5 ⟨rfl, h5⟩
          have H5 := Lib.hid h5
          clear h5 H4 HP
          go_wp2_with fail
          refine (awake_kp H5.out).mono ?_
          rintro e w6 ⟨rfl, h6⟩
          have H6 := Lib.hid h6
          clear h6 H5
          go_wp2_with fail
          refine (steps_kp H6.out).mono ?_
          rintro e w7 ⟨rfl, rfl⟩
          go_wp2_with fail
          refine (image_kp H6.out).mono ?_
          rintro e w7 ⟨rfl, rfl⟩
          have HF := Lib.hid (below_next HW.out H6.out.below)
          clear H6
          generalize str f2.cell = im at *
          generalize f2.steps = st at *
          go_wp2_with fail
          (try simp only [Exit.inBlock, Exit.then])
          go_ret
          exact ⟨rfl, HF.out⟩
        · have h30 : ¬ (2 : Int) < id := by omega
          have hc2 : (2000 : Int) < (c.size : Int) := by omega
          clear hbad
          go_wp2_with fail
          refine (put_kp H4.out id c HP.out).mono ?_
          rintro e w5 ⟨rfl, h5⟩
          have H5 := Lib.hid h5
          clear h5 H4 HP
          go_wp2_with fail
          refine (awake_kp H5.out).mono ?_
          rintro e w6 ⟨rfl, h6⟩
          have H6 := Lib.hid h6
          clear h6 H5
          go_wp2_with fail
          refine (steps_kp H6.out).mono ?_
          rintro e w7 ⟨rfl, rfl⟩
          go_wp2_with fail
          refine (image_kp H6.out).mono ?_
          rintro e w7 ⟨rfl, rfl⟩
          have HF := Lib.hid (below_next HW.out H6.out.below)
          clear H6
          generalize str f2.cell = im at *
          generalize f2.steps = st at *
          go_wp2_with fail
          (try simp only [Exit.inBlock, Exit.then])
          go_ret
          exact ⟨rfl, HF.out⟩
      · have hcs : c.size ≤ 2000 := by omega
        have gc : (c.size : Int) ≤ 2000 := by omega
        have gc2 : ¬ (2000 : Int) < (c.size : Int) := by omega
        have hid : id = 0 ∨ id = 1 ∨ id = 2 := by omega
        clear hbad
        have HG0 : Hid (St.get s2 0 = (a, true)) := by
          have h := get_k HS2.out 0 (by decide)
          rw [HK2.out] at h
          exact h
        have HG1 : Hid (St.get s2 1 = (b, true)) := by
          have h := get_k HS2.out 1 (by decide)
          rw [HK2.out] at h
          exact h
        have HG2 : Hid (St.get s2 2 = ({ data := #[] }, false)) := by
          have h := get_k HS2.out 2 (by decide)
          rw [HK2.out] at h
          exact h
        rcases hid with rfl | rfl | rfl
        · have HAL : Hid (St.all (St.keep s2.k 0 c) = 1 + (c.size + 4) + (b.size + 4) + 0) := by
            unfold Hid
            rw [HK2.out]
            rfl
          by_cases hfull : 4096 < 1 + (c.size + 4) + (b.size + 4) + 0
          · exact absurd hfull (by have := HSA.out; have := HSB.out; omega)
          · have hf : ¬ (4096 : Int) < (5 : Int) + (c.size : Int) + 4 + (b.size : Int) := by omega
            obtain ⟨f3, s3, e3, _, _, _, hs3, hk3⟩ := put_calm HI2.out HO2.out HA2.out HS2.out 0 (by decide) c hcs (by rw [HAL.out]; omega)
            have HE3 : Hid (St.put f2 s2 0 c = (f3, s3, 0)) := e3
            have HG0' : Hid (St.get s3 0 = (c, true)) := by
              have h := get_k hs3 0 (by decide)
              rw [hk3, HK2.out] at h
              exact h
            have HG1' : Hid (St.get s3 1 = (b, true)) := by
              have h := get_k hs3 1 (by decide)
              rw [hk3, HK2.out] at h
              exact h
            have HG2' : Hid (St.get s3 2 = ({ data := #[] }, false)) := by
              have h := get_k hs3 2 (by decide)
              rw [hk3, HK2.out] at h
              exact h
            clear e3 hs3 hk3 HI2 HO2 HA2 HS2 HK2 HSA HSB HAL hfull hcs HG0 HG1 HG2
            go_wp2_with fail
            refine (put_kp H4.out 0 c HE3.out).mono ?_
            rintro e w5 ⟨rfl, h5⟩
            have H5 := Lib.hid (h5.keep (below_alloc1 w5 (.cells #[.string c, .string b, .string { data := #[] }] 70)))
            have HX5 : Hid ((w5.alloc (.cells #[.string c, .string b, .string { data := #[] }] 70)).heap[w5.heap.size]? = some (.cells #[.string c, .string b, .string { data := #[] }] 70)) := heap_alloc_new w5 _
            clear h5 H4 HE3
            go_upto_region 31 with fail
            generalize (w5.alloc (.cells #[.string c, .string b, .string { data := #[] }] 70)) = w5b at *
            generalize w5.heap.size = xb at *
            go_wp2_with fail
            refine (get_any _ sb fb s3 0 H5.out.duet.st).mono ?_
            rintro e w6 ⟨rfl, hb6⟩
            rw [HG0'.out]
            have H6 := Lib.hid (H5.out.keep hb6)
            have HX6 := Lib.hid ((hb6.block xb (lt_of_at HX5.out)).trans HX5.out)
            clear hb6 H5 HX5
            go_wp2_with fail
            refine (get_any _ sb fb s3 1 H6.out.duet.st).mono ?_
            rintro e w7 ⟨rfl, hb7⟩
            rw [HG1'.out]
            have H7 := Lib.hid (H6.out.keep hb7)
            have HX7 := Lib.hid ((hb7.block xb (lt_of_at HX6.out)).trans HX6.out)
            clear hb7 H6 HX6
            go_wp2_with fail
            refine (get_any _ sb fb s3 2 H7.out.duet.st).mono ?_
            rintro e w8 ⟨rfl, hb8⟩
            rw [HG2'.out]
            have H8 := Lib.hid (H7.out.keep hb8)
            have HX8 := Lib.hid ((hb8.block xb (lt_of_at HX7.out)).trans HX7.out)
            clear hb8 H7 HX7
            go_wp2_with fail
            refine (stAwake_any _).mono ?_
            rintro e w9 ⟨rfl, hb9⟩
            have H9 := Lib.hid (H8.out.keep hb9)
            have HX9 := Lib.hid ((hb9.block xb (lt_of_at HX8.out)).trans HX8.out)
            clear hb9 H8 HX8
            have x0 : w9.cell? ⟨xb, 0, none⟩ = some (.string c) := cell_at HX9.out 0
            have x1 : w9.cell? ⟨xb, 1, none⟩ = some (.string b) := cell_at HX9.out 1
            have x2 : w9.cell? ⟨xb, 2, none⟩ = some (.string { data := #[] }) := cell_at HX9.out 2
            have HF := Lib.hid (below_next HW.out H9.out.below)
            clear H9 HX9
            go_wp2_with fail
            (try simp only [Exit.inBlock, Exit.then])
            go_ret
            exact ⟨rfl, HF.out⟩
        · have HAL : Hid (St.all (St.keep s2.k 1 c) = 1 + (a.size + 4) + (c.size + 4) + 0) := by
            unfold Hid
            rw [HK2.out]
            rfl
          by_cases hfull : 4096 < 1 + (a.size + 4) + (c.size + 4) + 0
          · exact absurd hfull (by have := HSA.out; have := HSB.out; omega)
          · have hf : ¬ (4096 : Int) < (5 : Int) + (c.size : Int) + 4 + (a.size : Int) := by omega
            obtain ⟨f3, s3, e3, _, _, _, hs3, hk3⟩ := put_calm HI2.out HO2.out HA2.out HS2.out 1 (by decide) c hcs (by rw [HAL.out]; omega)
            have HE3 : Hid (St.put f2 s2 1 c = (f3, s3, 0)) := e3
            have HG0' : Hid (St.get s3 0 = (a, true)) := by
              have h := get_k hs3 0 (by decide)
              rw [hk3, HK2.out] at h
              exact h
            have HG1' : Hid (St.get s3 1 = (c, true)) := by
              have h := get_k hs3 1 (by decide)
              rw [hk3, HK2.out] at h
              exact h
            have HG2' : Hid (St.get s3 2 = ({ data := #[] }, false)) := by
              have h := get_k hs3 2 (by decide)
              rw [hk3, HK2.out] at h
              exact h
            clear e3 hs3 hk3 HI2 HO2 HA2 HS2 HK2 HSA HSB HAL hfull hcs HG0 HG1 HG2
            go_wp2_with fail
            refine (put_kp H4.out 1 c HE3.out).mono ?_
            rintro e w5 ⟨rfl, h5⟩
            have H5 := Lib.hid (h5.keep (below_alloc1 w5 (.cells #[.string a, .string c, .string { data := #[] }] 70)))
            have HX5 : Hid ((w5.alloc (.cells #[.string a, .string c, .string { data := #[] }] 70)).heap[w5.heap.size]? = some (.cells #[.string a, .string c, .string { data := #[] }] 70)) := heap_alloc_new w5 _
            clear h5 H4 HE3
            go_upto_region 31 with fail
            generalize (w5.alloc (.cells #[.string a, .string c, .string { data := #[] }] 70)) = w5b at *
            generalize w5.heap.size = xb at *
            go_wp2_with fail
            refine (get_any _ sb fb s3 0 H5.out.duet.st).mono ?_
            rintro e w6 ⟨rfl, hb6⟩
            rw [HG0'.out]
            have H6 := Lib.hid (H5.out.keep hb6)
            have HX6 := Lib.hid ((hb6.block xb (lt_of_at HX5.out)).trans HX5.out)
            clear hb6 H5 HX5
            go_wp2_with fail
            refine (get_any _ sb fb s3 1 H6.out.duet.st).mono ?_
            rintro e w7 ⟨rfl, hb7⟩
            rw [HG1'.out]
            have H7 := Lib.hid (H6.out.keep hb7)
            have HX7 := Lib.hid ((hb7.block xb (lt_of_at HX6.out)).trans HX6.out)
            clear hb7 H6 HX6
            go_wp2_with fail
            refine (get_any _ sb fb s3 2 H7.out.duet.st).mono ?_
            rintro e w8 ⟨rfl, hb8⟩
            rw [HG2'.out]
            have H8 := Lib.hid (H7.out.keep hb8)
            have HX8 := Lib.hid ((hb8.block xb (lt_of_at HX7.out)).trans HX7.out)
            clear hb8 H7 HX7
            go_wp2_with fail
            refine (stAwake_any _).mono ?_
            rintro e w9 ⟨rfl, hb9⟩
            have H9 := Lib.hid (H8.out.keep hb9)
            have HX9 := Lib.hid ((hb9.block xb (lt_of_at HX8.out)).trans HX8.out)
            clear hb9 H8 HX8
            have x0 : w9.cell? ⟨xb, 0, none⟩ = some (.string a) := cell_at HX9.out 0
            have x1 : w9.cell? ⟨xb, 1, none⟩ = some (.string c) := cell_at HX9.out 1
            have x2 : w9.cell? ⟨xb, 2, none⟩ = some (.string { data := #[] }) := cell_at HX9.out 2
            have HF := Lib.hid (below_next HW.out H9.out.below)
            clear H9 HX9
            go_wp2_with fail
            (try simp only [Exit.inBlock, Exit.then])
            go_ret
            exact ⟨rfl, HF.out⟩
        · have HAL : Hid (St.all (St.keep s2.k 2 c) = 1 + (a.size + 4) + (b.size + 4) + (c.size + 4)) := by
            unfold Hid
            rw [HK2.out]
            rfl
          by_cases hfull : 4096 < 1 + (a.size + 4) + (b.size + 4) + (c.size + 4)
          · have hf : (4096 : Int) < (5 : Int) + (c.size : Int) + 4 + (a.size : Int) + 4 + (b.size : Int) := by omega
            have HP := Lib.hid (put_full (f := f2) (s := s2) (i := 2) (t := c) HS2.out (by decide) hcs (by rw [HAL.out]; exact hfull))
            have HP2 : Hid (St.put f2 s2 2 c = (f2, s2, 70)) := HP.out
            clear HI2 HO2 HA2 HS2 HK2 HSA HSB HAL HP hfull hcs
            go_wp2_with fail
            refine (put_kp H4.out 2 c HP2.out).mono ?_
            rintro e w5 ⟨rfl, h5⟩
            have H5 := Lib.hid (h5.keep (below_alloc1 w5 (.cells #[.string a, .string b, .string { data := #[] }] 70)))
            clear h5 H4 HP2
            go_wp2_with fail
            refine (get_kp H5.out 0 HG0.out).mono ?_
            rintro e w6 ⟨rfl, h6⟩
            have H6 := Lib.hid h6
            clear h6 H5
            go_wp2_with fail
            refine (get_kp H6.out 1 HG1.out).mono ?_
            rintro e w7 ⟨rfl, h7⟩
            have H7 := Lib.hid h7
            clear h7 H6
            go_wp2_with fail
            refine (get_kp H7.out 2 HG2.out).mono ?_
            rintro e w8 ⟨rfl, h8⟩
            have H8 := Lib.hid h8
            clear h8 H7
            go_wp2_with fail
            refine (awake_kp H8.out).mono ?_
            rintro e w9 ⟨rfl, h9⟩
            have H9 := Lib.hid h9
            clear h9 H8
            go_wp2_with fail
            refine (steps_kp H9.out).mono ?_
            rintro e w10 ⟨rfl, rfl⟩
            go_wp2_with fail
            refine (image_kp H9.out).mono ?_
            rintro e w10 ⟨rfl, rfl⟩
            have HF := Lib.hid (below_next HW.out H9.out.below)
            clear H9 HG0 HG1 HG2
            generalize str f2.cell = im at *
            generalize f2.steps = st at *
            go_wp2_with fail
            (try simp only [Exit.inBlock, Exit.then])
            go_ret
            exact ⟨rfl, HF.out⟩
          · have hf : ¬ (4096 : Int) < (5 : Int) + (c.size : Int) + 4 + (a.size : Int) + 4 + (b.size : Int) := by omega
            obtain ⟨f3, s3, e3, _, _, _, hs3, hk3⟩ := put_calm HI2.out HO2.out HA2.out HS2.out 2 (by decide) c hcs (by rw [HAL.out]; omega)
            have HE3 : Hid (St.put f2 s2 2 c = (f3, s3, 0)) := e3
            have HG0' : Hid (St.get s3 0 = (a, true)) := by
              have h := get_k hs3 0 (by decide)
              rw [hk3, HK2.out] at h
              exact h
            have HG1' : Hid (St.get s3 1 = (b, true)) := by
              have h := get_k hs3 1 (by decide)
              rw [hk3, HK2.out] at h
              exact h
            have HG2' : Hid (St.get s3 2 = (c, true)) := by
              have h := get_k hs3 2 (by decide)
              rw [hk3, HK2.out] at h
              exact h
            clear e3 hs3 hk3 HI2 HO2 HA2 HS2 HK2 HSA HSB HAL hfull hcs HG0 HG1 HG2
            go_wp2_with fail
            refine (put_kp H4.out 2 c HE3.out).mono ?_
            rintro e w5 ⟨rfl, h5⟩
            have H5 := Lib.hid (h5.keep (below_alloc1 w5 (.cells #[.string a, .string b, .string c] 70)))
            have HX5 : Hid ((w5.alloc (.cells #[.string a, .string b, .string c] 70)).heap[w5.heap.size]? = some (.cells #[.string a, .string b, .string c] 70)) := heap_alloc_new w5 _
            clear h5 H4 HE3
            go_upto_region 31 with fail
            generalize (w5.alloc (.cells #[.string a, .string b, .string c] 70)) = w5b at *
            generalize w5.heap.size = xb at *
            go_wp2_with fail
            refine (get_any _ sb fb s3 0 H5.out.duet.st).mono ?_
            rintro e w6 ⟨rfl, hb6⟩
            rw [HG0'.out]
            have H6 := Lib.hid (H5.out.keep hb6)
            have HX6 := Lib.hid ((hb6.block xb (lt_of_at HX5.out)).trans HX5.out)
            clear hb6 H5 HX5
            go_wp2_with fail
            refine (get_any _ sb fb s3 1 H6.out.duet.st).mono ?_
            rintro e w7 ⟨rfl, hb7⟩
            rw [HG1'.out]
            have H7 := Lib.hid (H6.out.keep hb7)
            have HX7 := Lib.hid ((hb7.block xb (lt_of_at HX6.out)).trans HX6.out)
            clear hb7 H6 HX6
            go_wp2_with fail
            refine (get_any _ sb fb s3 2 H7.out.duet.st).mono ?_
            rintro e w8 ⟨rfl, hb8⟩
            rw [HG2'.out]
            have H8 := Lib.hid (H7.out.keep hb8)
            have HX8 := Lib.hid ((hb8.block xb (lt_of_at HX7.out)).trans HX7.out)
            clear hb8 H7 HX7
            go_wp2_with fail
            refine (stAwake_any _).mono ?_
            rintro e w9 ⟨rfl, hb9⟩
            have H9 := Lib.hid (H8.out.keep hb9)
            have HX9 := Lib.hid ((hb9.block xb (lt_of_at HX8.out)).trans HX8.out)
            clear hb9 H8 HX8
            have x0 : w9.cell? ⟨xb, 0, none⟩ = some (.string a) := cell_at HX9.out 0
            have x1 : w9.cell? ⟨xb, 1, none⟩ = some (.string b) := cell_at HX9.out 1
            have x2 : w9.cell? ⟨xb, 2, none⟩ = some (.string c) := cell_at HX9.out 2
            have HF := Lib.hid (below_next HW.out H9.out.below)
            clear H9 HX9
            go_wp2_with fail
            (try simp only [Exit.inBlock, Exit.then])
            go_ret
            exact ⟨rfl, HF.out⟩
end Go.Proofs.Ytngmnceahhlpkaa
