/- What Program of the document's flash does, in whatever world. Conditions: the flash lies in memory; numbers are of their kinds, texts are within the reach of memory. -/
import Derived.Test.YtngmnceahhlpkaaRef2
import Derived.StillTailTactics
namespace Go.Proofs.Ytngmnceahhlpkaa
open Go.RowKit

theorem rprog_off (b c : Nat) (f : Fl) (a : Int) (s : ByteArray) (w : World) (h : RAt w b c f) (ho : f.off = true) :
    Calls Try.prog 45 #[.pointer (some ⟨b, 0, none⟩), .int .i64 a, .string s] w fun e w' => e = .returned (.int .i64 60) ∧ w = w' := by
  have a1 := h.off
  rw [ho] at a1
  clear ho h
  go_enter Try.func45, Try.ntmps45
  go_wp2_with fail
  go_ret
  exact ⟨rfl, rfl⟩
theorem rprog_arg (b c : Nat) (f : Fl) (a : Int) (s : ByteArray) (w : World) (h : RAt w b c f) (ho : f.off = false) (hf : Fl.fits a s.size = false) :
    Calls Try.prog 45 #[.pointer (some ⟨b, 0, none⟩), .int .i64 a, .string s] w fun e w' => e = .returned (.int .i64 1) ∧ w = w' := by
  have a1 := h.off
  rw [ho] at a1
  have HF := Lib.hid hf
  clear ho h hf
  go_enter Try.func45, Try.ntmps45
  go_wp2_with fail
  refine (rrange_any _ _ _).mono ?_
  rintro e w1 ⟨rfl, rfl⟩
  rw [HF.out]
  go_wp2_with fail
  go_ret
  exact ⟨rfl, rfl⟩

set_option maxRecDepth 100000 in
set_option maxHeartbeats 2000000 in
theorem rprog_fits (b c : Nat) (f : Fl) (a : Nat) (s : ByteArray) (w : World) (h : RAt w b c f) (ho : f.off = false) (hf : (a : Int) + s.size ≤ 8192) :
    Calls Try.prog 45 #[.pointer (some ⟨b, 0, none⟩), .int .i64 (a : Int), .string s] w fun e w' =>
      e = .returned (.int .i64 (f.prog a (bytes s)).2) ∧ RAt w' b c (f.prog a (bytes s)).1 ∧ Wrote w w' (fun k => k = b ∨ k = c) := by
  have a1 := h.off
  rw [ho] at a1
  have HF : Hid (Fl.fits (a : Int) (s.size : Int) = true) := by unfold Hid Fl.fits; simp; omega
  have H := Lib.hid h
  clear ho h
  go_enter Try.func45, Try.ntmps45
  go_wp2_with fail
  refine (rrange_any _ _ _).mono ?_
  rintro e w1 ⟨rfl, rfl⟩
  rw [HF.out]
  go_wp2_with fail
  clear a1
  go_loopw [7] (fun i wr => ∃ (k : Nat) (f1 : Fl), k ≤ s.size ∧ i = .int .i64 k ∧ RAt wr b c f1 ∧ Hid (f.prog a (bytes s) = f1.prog (a + k) ((bytes s).drop k)) ∧ Wrote w wr (fun k => k = b ∨ k = c)) (fun i _ => s.size - (intOf i).toNat)
  case atStart => exact ⟨0, f, by omega, rfl, H.out, Lib.hid (by simp), Wrote.refl _ _⟩
  case round =>
    obtain ⟨k, f1, hk, rfl, hat, HP, hgr⟩ := hrel
    have HAT := Lib.hid hat
    have HGR := Lib.hid hgr
    clear hat H hgr
    by_cases hlt : k < s.size
    · have hd : (bytes s).drop k = s[k].toNat :: (bytes s).drop (k + 1) := by
        rw [List.drop_eq_getElem_cons (by rw [bytes_length]; exact hlt)]
        congr 1
        have := bytes_get s k hlt
        rw [← this, List.getD_eq_getElem?_getD, List.getElem?_eq_getElem (by rw [bytes_length]; exact hlt)]
        rfl
      have HN : Hid (f.prog a (bytes s) = f1.prog (a + k) (s[k].toNat :: (bytes s).drop (k + 1))) := by rw [← hd]; exact HP.out
      clear hd HP
      have hdb := s[k].toNat_lt
      have hsum : (a : Int) + (k : Int) < 8192 := by omega
      go_wp2_with fail
      refine (rstep_any b c f1 _ HAT.out).mono ?_
      rintro e w2 ⟨rfl, hat2, hg2⟩
      have HA2 := Lib.hid hat2
      have HG2 := Lib.hid (HGR.out.trans hg2)
      clear hat2 hg2
      have hcell := HA2.out.cell (a + k) (by omega)
      have hfree := HA2.out.rfree (a + k) (by omega)
      rw [Fl.step_cell] at hcell
      have hcb : f1.cell.getD (a + k) 0 < 256 := Fl.getD_lt HAT.out.ok.byte _
      obtain ⟨x, hc⟩ : ∃ x, x = f1.cell.getD (a + k) 0 := ⟨_, rfl⟩
      rw [← hc] at hcell hcb
      have HCE := Lib.hid hc
      clear hc
      obtain ⟨cap, c1, c2, hs0⟩ := HA2.out.slice
      cases hw : f1.whole with
      | true =>
        have HW := Lib.hid hw
        clear hw
        have hand := u8_and_nat x s[k].toNat hcb hdb
        go_wp2_with fail
        go_region
        clear hand hfree hcell hs0
        have HA3 : Hid (RAt (w2.setCell ⟨c, a + k, none⟩ (.int .u8 ((x &&& s[k].toNat : Nat) : Int))).drew b c (f1.step.put (a + k) (x &&& s[k].toNat))) := (HA2.out.set (a + k) _ (by omega) (Fl.and_lt hcb)).drew
        have HG3 : Hid (Wrote w (w2.setCell ⟨c, a + k, none⟩ (.int .u8 ((x &&& s[k].toNat : Nat) : Int))).drew (fun k => k = b ∨ k = c)) := (HG2.out.set (.inr rfl) _ _).drew
        have HQ : Hid (f.prog a (bytes s) = (f1.step.put (a + k) (x &&& s[k].toNat)).prog (a + (k + 1)) ((bytes s).drop (k + 1))) := by
          have := HN.out
          rw [Fl.prog_cons, if_pos HW.out, ← HCE.out] at this
          exact this
        generalize (w2.setCell ⟨c, a + k, none⟩ (.int .u8 ((x &&& s[k].toNat : Nat) : Int))).drew = w3 at *
        go_wp2_with fail
        go_roundw
        case rel => exact ⟨k + 1, _, by omega, by go_num, HA3.out, HQ, HG3.out⟩
        case measure => simp [intOf]; omega
      | false =>
        have HW := Lib.hid hw
        clear hw
        have hj0 : f1.at_ 0 < 256 := Fl.at_lt HAT.out.ok 0
        obtain ⟨j, hj⟩ : ∃ j, j = f1.at_ 0 := ⟨_, rfl⟩
        rw [← hj] at hj0
        have HJE := Lib.hid hj
        have HJ0 := Lib.hid hj0
        have hjunk := HA2.out.junk
        rw [Fl.step_junk] at hjunk
        have hor := u8_or_nat s[k].toNat j hdb hj0
        have hand := u8_and_nat x (s[k].toNat ||| j) hcb (Fl.or_lt hdb hj0)
        have HCC : Hid (∀ W : World, Calls Try.prog 64 #[.string (str f1.junk), .int .i64 0] W fun e w' => e = .returned (.int .u8 (j : Int)) ∧ w' = W) := by
          intro W
          rw [hj]
          refine (rjunk_any f1.junk 0 W HAT.out.ok.junk (by omega) HAT.out.ok.jlen).mono ?_
          rintro e w' ⟨rfl, rfl⟩
          exact ⟨rfl, rfl⟩
        clear hj hj0
        have hwr : IntKind.i64.wrap ((a : Int) + (k : Int)) = ((a + k : Nat) : Int) := by
          rw [IntKind.wrap_i64]
          omega
        have hm : ((a + k : Nat) : Int) < 8192 := by omega
        have HSUM := Lib.hid hsum
        have HM : Hid (a + k < 8192) := by unfold Hid; omega
        have HK : Hid (a + k = a + k) := rfl
        clear hsum
        obtain ⟨m, hmk⟩ : ∃ m, m = a + k := ⟨_, rfl⟩
        rw [← hmk] at hwr hm hcell hfree HM
        have HMK := Lib.hid hmk
        clear hmk HK
        go_wp2_with fail
        go_still_tail 27, (by kernel_rfl)
        still_call (HCC.out _)
        repeat still_step
        refine wpStill_nil ?_
        change wpList _ _ _ _ _ w2.drew
        have HA3 : Hid (RAt (w2.drew.setCell ⟨c, m, none⟩ (.int .u8 ((x &&& (s[k].toNat ||| j) : Nat) : Int))) b c (f1.step.put (a + k) (x &&& (s[k].toNat ||| j)))) := by
          have := HA2.out.drew.set m (x &&& (s[k].toNat ||| j)) HM.out (Fl.and_lt hcb)
          rw [HMK.out] at this ⊢
          exact this
        have HG3 : Hid (Wrote w (w2.drew.setCell ⟨c, m, none⟩ (.int .u8 ((x &&& (s[k].toNat ||| j) : Nat) : Int))) (fun k => k = b ∨ k = c)) := HG2.out.drew.set (.inr rfl) _ _
        have HQ : Hid (f.prog a (bytes s) = (f1.step.put (a + k) (x &&& (s[k].toNat ||| j)), 60)) := by
          have := HN.out
          rw [Fl.prog_cons, if_neg (by rw [HW.out]; simp), ← HCE.out, ← HJE.out] at this
          exact this
        have hcell2 : w2.drew.cell? ⟨c, m, none⟩ = some (.int .u8 (x : Int)) := hcell
        have hfree2 : w2.drew.frozen? ⟨c, m, none⟩ = false := hfree
        clear hand hor hcell hfree hjunk hs0 hwr hm
        generalize w2.drew = w3 at *
        go_wp2_with fail
        go_ret
        exact ⟨by rw [HQ.out]; rfl, by rw [HQ.out]; exact HA3.out, HG3.out⟩
    · have HQ : Hid (f.prog a (bytes s) = (f1, 0)) := by
        have := HP.out
        rw [List.drop_of_length_le (by rw [bytes_length]; omega)] at this
        exact this
      go_wp2_with fail
      go_ret
      exact ⟨by rw [HQ.out]; rfl, by rw [HQ.out]; exact HAT.out, HGR.out⟩
end Go.Proofs.Ytngmnceahhlpkaa
