/- The walk of StoreNames: true, in whatever world. No condition. -/
import Derived.Test.YtngmnceahhlpkaaSP5
namespace Go.Proofs.Ytngmnceahhlpkaa
open Go.RowKit
theorem get_k {s : St} (h : s.stands = false) (i : Nat) (hi : i < 3) : St.get s (i : Int) = (St.txt (s.k i), St.is (s.k i)) := by
  unfold St.get
  rw [if_neg (by simp [h]; omega)]
  rfl
theorem boot_calm {f : Fl} (hok : f.Ok) (ho : f.off = false) (ha : f.armed = false) : ∃ f' s, St.boot f = (f', some s, 0) ∧ s.stands = false ∧ Inv f' s ∧ f'.off = false ∧ f'.armed = false ∧ ∀ k, Disk f k → s.k = k := by
  obtain ⟨f', o, r, e, h⟩ := boot_out hok ho
  rcases h with ⟨rfl, s, rfl, h1, h2, h3, h4, h5⟩ | ⟨_, _, h1, _⟩
  · exact ⟨f', s, e, h1, h2, h3, h4.trans ha, h5⟩
  · rw [ha] at h1
    cases h1
theorem boot_new : ∃ f1, St.boot Fl.new = (f1, some St.st0, 0) ∧ Inv f1 St.st0 ∧ f1.off = false ∧ f1.armed = false := by
  obtain ⟨f1, s, e, _, h1, h2, h3, _⟩ := boot_calm Fl.Ok.new rfl rfl
  have h4 := sa_e0
  rw [e] at h4
  have h4 : (some s, (0 : Int)) = (some St.st0, 0) := h4
  injection h4 with h4 _
  injection h4 with h4
  subst h4
  exact ⟨f1, e, h1, h2, h3⟩
def oldT : ByteArray := { data := #[111, 108, 100] }
def newT : ByteArray := { data := #[110, 101, 119] }
set_option maxRecDepth 100000 in
theorem names_law : ∃ f1 f2 s2 f3 f4 s4 f6 s6, St.boot Fl.new = (f1, some St.st0, 0) ∧ St.put f1 St.st0 0 oldT = (f2, s2, 0) ∧ f2.cut 3 [] = (f3, 0) ∧ St.put f3 s2 0 newT = (f4, s4, 60) ∧
    St.put f4 s4 9 { data := #[] } = (f4, s4, 60) ∧ St.get s4 0 = ({ data := #[] }, false) ∧ St.boot f4 = (f4, none, 60) ∧ St.boot f4.on = (f6, some s6, 0) ∧ St.get s6 0 = (oldT, true) := by
  obtain ⟨f1, e1, hi1, ho1, ha1⟩ := boot_new
  have hot : oldT.size = 3 := rfl
  have hnt : newT.size = 3 := rfl
  have hall1 : St.all (St.keep St.none_ 0 oldT) = 8 := rfl
  have hall2 : St.all (St.keep (St.keep St.none_ 0 oldT) 0 newT) = 8 := rfl
  obtain ⟨hs1, hp1, hb1⟩ := blank_of_read hi1.ok.len hi1.act hi1.read
  obtain ⟨f2, r2, e2, hl2, hok2, hfar2, hc2⟩ := rec_out hi1.ok ho1 hi1.act (show 0 < 3 by decide) (show oldT.size ≤ 2000 by rw [hot]; decide) hp1 (show 1 + (oldT.size + 4) ≤ 4096 by rw [hot]; decide) hb1 hs1
  rcases hc2 with ⟨rfl, ho2, ha2, hs2, hb2⟩ | ⟨_, h, _⟩
  rotate_left
  · rw [ha1] at h
    cases h
  have hpm := put_here (s := St.st0) rfl (show 0 < 3 by decide) (show oldT.size ≤ 2000 by rw [hot]; decide) (show ¬ 4096 < St.all (St.keep St.none_ 0 oldT) by rw [hall1]; decide) (show 1 + (oldT.size + 4) ≤ 4096 by rw [hot]; decide) e2
  rw [if_pos rfl] at hpm
  have hs2 : Steps (St.sector f2 0) 1 St.none_ 8 (St.keep St.none_ 0 oldT) := hs2
  have hb2 : Blank f2 0 8 := hb2
  have h20 : f2.cell.getD 0 0 = 15 := by
    have h := hi1.code
    have h' : f1.cell.getD 0 0 = 15 := h
    rw [hfar2 0 (.inl (by decide)), h']
  have hr2 : Rob 0 15 (f2.cell.getD 4096 0) := by
    have h := hi1.rob
    have h' : Rob 0 15 (f1.cell.getD 4096 0) := h
    rw [hfar2 4096 (.inr (by decide))]
    exact h'
  have hok3 : (⟨f2.off, true, 3, [], f2.steps, f2.cell⟩ : Fl).Ok := ⟨hl2, hok2.byte, fun x hx => (List.not_mem_nil hx).elim, by show (0 : Int) ≤ 3; decide, by show (3 : Int) ≤ _; decide, by show 0 ≤ _; decide⟩
  obtain ⟨f3, hf3⟩ : ∃ f3 : Fl, f3 = ⟨f2.off, true, 3, [], f2.steps, f2.cell⟩ := ⟨_, rfl⟩
  have hcell3 : f3.cell = f2.cell := by rw [hf3]
  have ho3 : f3.off = false := by rw [hf3]; exact ho2
  have e3 : f2.cut 3 [] = (f3, 0) := by
    unfold Fl.cut
    rw [if_neg (by rw [ho2]; decide), if_neg (by decide), hf3]
  obtain ⟨f4, r4, e4, hl4, hfar4, hc4⟩ := prog_out (St.recL 0 newT) f3 8 (by rw [hcell3, hl2, rec_len, hnt]; decide)
  rw [rec_len, hnt] at hfar4 hc4
  rw [hcell3] at hl4 hfar4 hc4
  rw [hl2] at hl4
  have hok4 : f4.Ok := by
    have h := Fl.Ok.prog (f := f3) (St.recL 0 newT) 8 (by rw [hf3]; exact hok3)
    rw [e4] at h
    exact h
  have hm3 : f3.left = 3 ∧ f3.armed = true := by rw [hf3]; exact ⟨rfl, rfl⟩
  have hat3 : f3.at_ 0 < 256 := Fl.at_lt (by rw [hf3]; exact hok3) 0
  rcases hc4 with ⟨_, _, _, _, h⟩ | ⟨rfl, _, ho4, m, hm, hml, r3, r4, r5⟩
  · have := h hm3.2 (by rw [hm3.1]; decide)
    rw [hm3.1] at this
    omega
  obtain rfl : m = 3 := by
    rw [hm3.1] at hml
    omega
  have e4' : f3.program ((0 * 4096 + 8 : Nat) : Int) (St.recL 0 newT) = (f4, 60) := by
    rw [program_out2 ho3 _ _ (by rw [rec_len, hnt]; decide)]
    exact e4
  have hpn := put_here (s := { St.st0 with k := St.keep St.none_ 0 oldT, fin := 8, stands := false }) rfl (show 0 < 3 by decide) (show newT.size ≤ 2000 by rw [hnt]; decide) (show ¬ 4096 < St.all (St.keep (St.keep St.none_ 0 oldT) 0 newT) by rw [hall2]; decide) (show 8 + (newT.size + 4) ≤ 4096 by rw [hnt]; decide) e4'
  rw [if_neg (by decide)] at hpn
  have hn2 := sector_len2 hl2 0 (by decide)
  have hn4 := sector_len2 hl4 0 (by decide)
  have hs4 : Steps (St.sector f4 0) 1 St.none_ 8 (St.keep St.none_ 0 oldT) := hs2.same (hn4.trans hn2.symm) (fun x _ hx => by
    rw [sector_get f4 0 x (by omega), sector_get f2 0 x (by omega)]
    exact hfar4 _ (by omega))
  have hrb : ∀ m, (St.recL 0 newT).getD m 0 < 256 := fun m => Fl.getD_lt (recL_byte 0 newT) m
  have hb8 : ∀ x, 8 ≤ x → x < 4096 → f2.cell.getD x 0 = 255 := fun x hx hx2 => by
    have h := hb2 x hx hx2
    rw [show 0 * 4096 + x = x by omega] at h
    exact h
  have hpart : St.recOk (St.sector f4 0) 8 = false := by
    refine rec_part (i := 0) (t := newT) (m := 3) (j := f3.at_ 0) (by rw [hnt]; decide) (by rw [hnt]; decide) (fun x hx => ?_) ?_ (fun x hx hx2 => ?_) (fun h => by rw [hnt] at h; omega)
    · rw [sector_get f4 0 _ (by omega), show 0 * 4096 + (8 + x) = 8 + x by omega, r3 x hx, hb8 _ (by omega) (by omega), and255 _ (hrb x)]
    · rw [sector_get f4 0 _ (by omega), show 0 * 4096 + (8 + 3) = 8 + 3 by omega, r4, hb8 _ (by omega) (by omega), and255 _ (Fl.or_lt (hrb 3) hat3)]
    · rw [hn4] at hx2
      rw [sector_get f4 0 _ hx2, show 0 * 4096 + x = x by omega]
      by_cases hx3 : x < 15
      · have h5 := r5 (x - 8) (by omega) (by omega)
        rw [show 8 + (x - 8) = x by omega] at h5
        rw [h5]
        exact hb8 x (by omega) hx2
      · rw [hfar4 x (by omega)]
        exact hb8 x (by omega) hx2
  have hdisk : Disk f4.on (St.keep St.none_ 0 oldT) := by
    refine ⟨0, 15, by decide, ?_, ?_, read_kept hs4 (by show 1 ≤ (St.sector f4 0).length; rw [hn4]; decide) hpart⟩
    · show f4.cell.getD 0 0 = 15
      rw [hfar4 0 (.inl (by decide)), h20]
    · show Rob 0 15 (f4.cell.getD 4096 0)
      rw [hfar4 4096 (.inr (by decide))]
      exact hr2
  obtain ⟨f6, s6, e6, hst6, _, _, _, hk6⟩ := boot_calm hok4.on rfl rfl
  have hk := hk6 _ hdisk
  refine ⟨f1, f2, _, f3, f4, _, f6, s6, e1, hpm, e3, hpn, put_stands rfl, ?_, ?_, e6, ?_⟩
  · unfold St.get
    rw [if_pos (.inl rfl)]
    rfl
  · unfold St.boot
    rw [if_pos ho4]
  · have h := get_k hst6 0 (by decide)
    rw [hk] at h
    exact h
set_option maxRecDepth 100000 in
set_option maxHeartbeats 1000000 in
theorem storeNames_walk (w : World) : Calls Try.prog 11 #[] w fun e w' => e = .returned (.bool true) ∧ Below w.heap.size w w' := by
  go_enter Try.func11, Try.ntmps11
  go_wp2_with fail
  refine (new_held _).mono ?_
  rintro e w1 ⟨fb, rfl, h1⟩
  have H1 := Lib.hid h1
  clear h1
  go_wp2_with fail
  obtain ⟨n1, n2, m2, n3, n4, m4, n6, m6, ne1, ne2, ne3, ne4, ne5, ne6, ne7, ne8, ne9⟩ := names_law
  have E1 := Lib.hid ne1
  have E2 := Lib.hid ne2
  have E3 : Hid (n2.cut 3 (bytes { data := #[] }) = (n3, 0)) := ne3
  have E4 := Lib.hid ne4
  have E5 := Lib.hid ne5
  have E6 := Lib.hid ne6
  have E7 := Lib.hid ne7
  have E8 := Lib.hid ne8
  have E9 : Hid (St.get m6 0 = ({ data := #[111, 108, 100] }, true)) := ne9
  clear ne1 ne2 ne3 ne4 ne5 ne6 ne7 ne8 ne9
  refine (boot_kp H1.out E1.out).mono ?_
  rintro e w2 ⟨sb, rfl, h2⟩
  have H2 := Lib.hid h2
  clear h2 H1
  go_wp2_with fail
  refine (put_kp H2.out 0 _ E2.out).mono ?_
  rintro e w3 ⟨rfl, h3⟩
  have H3 := Lib.hid h3
  clear h3 H2
  go_wp2_with fail
  refine (cut_kp H3.out 3 _ (by omega) (by decide) E3.out).mono ?_
  rintro e w4 ⟨rfl, J, h4⟩
  have H4 := Lib.hid h4
  clear h4 H3
  go_wp2_with fail
  refine (put_kp H4.out 0 _ E4.out).mono ?_
  rintro e w5 ⟨rfl, h5⟩
  have H5 := Lib.hid h5
  clear h5 H4
  go_wp2_with fail
  refine (put_kp H5.out 9 _ E5.out).mono ?_
  rintro e w6 ⟨rfl, h6⟩
  have H6 := Lib.hid h6
  clear h6 H5
  go_wp2_with fail
  refine (get_kp H6.out 0 E6.out).mono ?_
  rintro e w7 ⟨rfl, h7⟩
  have H7 := Lib.hid h7
  clear h7 H6
  go_wp2_with fail
  refine (boot_no H7.out.held E7.out (by decide)).mono ?_
  rintro e w8 ⟨rfl, h8⟩
  have H8 := Lib.hid h8
  clear h8 H7
  go_wp2_with fail
  refine (on_held H8.out).mono ?_
  rintro e w9 ⟨rfl, h9⟩
  have H9 := Lib.hid h9
  clear h9 H8
  go_wp2_with fail
  refine (boot_kp H9.out E8.out).mono ?_
  rintro e w10 ⟨sb2, rfl, h10⟩
  have H10 := Lib.hid h10
  clear h10 H9
  go_wp2_with fail
  refine (get_kp H10.out 0 E9.out).mono ?_
  rintro e w11 ⟨rfl, h11⟩
  have H11 := Lib.hid h11
  clear h11 H10
  go_wp2_with fail
  refine (stAwake_any _).mono ?_
  rintro e w12 ⟨rfl, h12⟩
  have H12 := Lib.hid (below_next H11.out.below h12)
  clear h12 H11
  go_wp2_with fail
  go_ret
  exact ⟨rfl, H12.out⟩
end Go.Proofs.Ytngmnceahhlpkaa
