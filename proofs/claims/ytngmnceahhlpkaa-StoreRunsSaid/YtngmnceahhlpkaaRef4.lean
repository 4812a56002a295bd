/- What Program and Erase of the document's flash do, of whatever place, in whatever world. Conditions: the flash lies in memory; numbers are of their kinds, texts are within the reach of memory. -/
import Derived.Test.YtngmnceahhlpkaaRef3
namespace Go.Proofs.Ytngmnceahhlpkaa
open Go.RowKit

/-- Program, of whatever place and bytes. -/
theorem rprogram_any (b c : Nat) (f : Fl) (a : Int) (s : ByteArray) (w : World) (h : RAt w b c f) :
    Calls Try.prog 45 #[.pointer (some ⟨b, 0, none⟩), .int .i64 a, .string s] w fun e w' =>
      e = .returned (.int .i64 (f.program a (bytes s)).2) ∧ RAt w' b c (f.program a (bytes s)).1 ∧ Wrote w w' (fun k => k = b ∨ k = c) := by
  unfold Fl.program
  cases ho : f.off with
  | true =>
    refine (rprog_off b c f a s w h ho).mono ?_
    rintro e w' ⟨rfl, rfl⟩
    exact ⟨rfl, h, Wrote.refl _ _⟩
  | false =>
    rw [bytes_length]
    cases hf : Fl.fits a (s.size : Int) with
    | false =>
      refine (rprog_arg b c f a s w h ho hf).mono ?_
      rintro e w' ⟨rfl, rfl⟩
      exact ⟨rfl, h, Wrote.refl _ _⟩
    | true =>
      have hb : 0 ≤ a ∧ (0 : Int) ≤ s.size ∧ a ≤ 8192 ∧ (s.size : Int) ≤ 8192 - a := by unfold Fl.fits at hf; simpa using hf
      obtain ⟨i, rfl⟩ := Int.eq_ofNat_of_zero_le hb.1
      exact rprog_fits b c f i s w h ho (by omega)

theorem rerase_off (b c : Nat) (f : Fl) (s : Int) (w : World) (h : RAt w b c f) (ho : f.off = true) :
    Calls Try.prog 46 #[.pointer (some ⟨b, 0, none⟩), .int .i64 s] w fun e w' => e = .returned (.int .i64 60) ∧ w = w' := by
  have a1 := h.off
  rw [ho] at a1
  clear ho h
  go_enter Try.func46, Try.ntmps46
  go_wp2_with fail
  go_ret
  exact ⟨rfl, rfl⟩
theorem rerase_arg (b c : Nat) (f : Fl) (s : Int) (w : World) (h : RAt w b c f) (ho : f.off = false) (hs : s < 0 ∨ 2 ≤ s) :
    Calls Try.prog 46 #[.pointer (some ⟨b, 0, none⟩), .int .i64 s] w fun e w' => e = .returned (.int .i64 1) ∧ w = w' := by
  have a1 := h.off
  rw [ho] at a1
  have h0 : (s != 0) = true := by rw [bne_iff_ne]; omega
  have h1 : (s != 1) = true := by rw [bne_iff_ne]; omega
  clear ho h hs
  go_enter Try.func46, Try.ntmps46
  go_wp2_with fail
  go_ret
  exact ⟨rfl, rfl⟩

set_option maxRecDepth 100000 in
set_option maxHeartbeats 2000000 in
theorem rerase_whole (b c : Nat) (f : Fl) (s : Nat) (w : World) (h : RAt w b c f) (ho : f.off = false) (hs : s < 2) (hw : f.whole = true) (z : Bool) (hz : ((s : Int) != 0) = z) :
    Calls Try.prog 46 #[.pointer (some ⟨b, 0, none⟩), .int .i64 (s : Int)] w fun e w' => e = .returned (.int .i64 0) ∧ RAt w' b c (f.wipe s 4096) ∧ Wrote w w' (fun k => k = b ∨ k = c) := by
  have a1 := h.off
  rw [ho] at a1
  have H := Lib.hid h
  have hz1 : ((s : Int) != 1) = !z := by
    have : s = 0 ∨ s = 1 := by omega
    rcases this with rfl | rfl
    · rw [← hz]; rfl
    · rw [← hz]; rfl
  have hs2 : (s : Int) < 2 := by omega
  have HS2 : Hid (s < 2) := hs
  have HW := Lib.hid hw
  clear ho h hs hw
  cases z <;>
  · go_enter Try.func46, Try.ntmps46
    go_wp2_with fail
    refine (rstep_any b c f _ H.out).mono ?_
    rintro e w2 ⟨rfl, hat2, hg2⟩
    rw [HW.out]
    have HA2 := Lib.hid hat2
    have HG2 := Lib.hid hg2
    clear hat2 hg2 a1
    go_wp2_with fail
    go_loopw [6] (fun i wr => ∃ k : Nat, k ≤ 4096 ∧ i = .int .i64 k ∧ RAt wr b c (f.wipe s k) ∧ Wrote w wr (fun k => k = b ∨ k = c)) (fun i _ => 4096 - (intOf i).toNat)
    case atStart => exact ⟨0, by omega, rfl, by rw [Fl.wipe_zero]; exact HA2.out, HG2.out⟩
    case round =>
      obtain ⟨k, hk, rfl, hat, hgr⟩ := hrel
      have HAT := Lib.hid hat
      have HGR := Lib.hid hgr
      clear hat hgr HA2 HG2 H
      by_cases hlt : (k : Int) < 4096
      · have hlt' : k < 4096 := by omega
        have hm : s * 4096 + k < 8192 := by omega
        have hcell := HAT.out.cell (s * 4096 + k) hm
        have hfree := HAT.out.rfree (s * 4096 + k) hm
        obtain ⟨cap, c1, c2, hs0⟩ := HAT.out.slice
        have hmi : (s : Int) * 4096 + (k : Int) < 8192 := by omega
        have HA3 : Hid (RAt (wr.setCell ⟨c, s * 4096 + k, none⟩ (.int .u8 255)) b c (f.wipe s (k + 1))) := by
          have := HAT.out.set (s * 4096 + k) 255 hm (by omega)
          unfold Hid
          rw [Fl.wipe_next f s k hlt', HW.out]
          exact this
        have HG3 : Hid (Wrote w (wr.setCell ⟨c, s * 4096 + k, none⟩ (.int .u8 255)) (fun k => k = b ∨ k = c)) := HGR.out.set (.inr rfl) _ _
        clear hm
        go_wp2_with fail
        go_roundw
        case rel => exact ⟨k + 1, by omega, by go_num, HA3.out, HG3.out⟩
        case measure => simp [intOf]; omega
      · have e : k = 4096 := by omega
        have HE : Hid (RAt wr b c (f.wipe s 4096)) := by rw [← e]; exact HAT.out
        clear e HAT
        go_wp2_with fail
        go_ret
        exact ⟨rfl, HE.out, HGR.out⟩

set_option maxRecDepth 100000 in
set_option maxHeartbeats 2000000 in
theorem rerase_part (b c : Nat) (f : Fl) (s : Nat) (w : World) (h : RAt w b c f) (ho : f.off = false) (hs : s < 2) (hw : f.whole = false) (z : Bool) (hz : ((s : Int) != 0) = z) :
    Calls Try.prog 46 #[.pointer (some ⟨b, 0, none⟩), .int .i64 (s : Int)] w fun e w' => e = .returned (.int .i64 60) ∧ RAt w' b c (f.wipe s 4096) ∧ Wrote w w' (fun k => k = b ∨ k = c) := by
  have a1 := h.off
  rw [ho] at a1
  have H := Lib.hid h
  have HOK := Lib.hid h.ok
  have hz1 : ((s : Int) != 1) = !z := by
    have : s = 0 ∨ s = 1 := by omega
    rcases this with rfl | rfl
    · rw [← hz]; rfl
    · rw [← hz]; rfl
  have hs2 : (s : Int) < 2 := by omega
  have HS2 : Hid (s < 2) := hs
  have HW := Lib.hid hw
  clear ho h hs hw
  cases z <;>
  · go_enter Try.func46, Try.ntmps46
    go_wp2_with fail
    refine (rstep_any b c f _ H.out).mono ?_
    rintro e w2 ⟨rfl, hat2, hg2⟩
    rw [HW.out]
    have HA2 := Lib.hid hat2
    have HG2 := Lib.hid hg2
    clear hat2 hg2 a1
    go_wp2_with fail
    go_loopw [6] (fun i wr => ∃ k : Nat, k ≤ 4096 ∧ i = .int .i64 k ∧ RAt wr b c (f.wipe s k) ∧ Wrote w wr (fun k => k = b ∨ k = c)) (fun i _ => 4096 - (intOf i).toNat)
    case atStart => exact ⟨0, by omega, rfl, by rw [Fl.wipe_zero]; exact HA2.out, HG2.out⟩
    case round =>
      obtain ⟨k, hk, rfl, hat, hgr⟩ := hrel
      have HAT := Lib.hid hat
      have HGR := Lib.hid hgr
      clear hat hgr HA2 HG2 H
      by_cases hlt : (k : Int) < 4096
      · have hlt' : k < 4096 := by omega
        have hm : s * 4096 + k < 8192 := by omega
        have hcell := HAT.out.cell (s * 4096 + k) hm
        have hfree := HAT.out.rfree (s * 4096 + k) hm
        obtain ⟨cap, c1, c2, hs0⟩ := HAT.out.slice
        have hmi : (s : Int) * 4096 + (k : Int) < 8192 := by omega
        have hjunk := HAT.out.junk
        have hjk : (f.wipe s k).junk = f.junk := by show f.step.junk = f.junk; exact Fl.step_junk f
        rw [hjk] at hjunk
        rw [Fl.wipe_get f s k hlt'] at hcell
        have hcb : f.cell.getD (s * 4096 + k) 0 < 256 := Fl.getD_lt HOK.out.byte _
        obtain ⟨x, hc⟩ : ∃ x, x = f.cell.getD (s * 4096 + k) 0 := ⟨_, rfl⟩
        rw [← hc] at hcell hcb
        have hj0 : f.at_ k < 256 := Fl.at_lt HOK.out k
        obtain ⟨j, hj⟩ : ∃ j, j = f.at_ k := ⟨_, rfl⟩
        rw [← hj] at hj0
        have hor := u8_or_nat x j hcb hj0
        have HCC : Hid (∀ W : World, Calls Try.prog 64 #[.string (str f.junk), .int .i64 (k : Int)] W fun e w' => e = .returned (.int .u8 (j : Int)) ∧ w' = W) := by
          intro W
          rw [hj]
          refine (rjunk_any f.junk k W HOK.out.junk (by omega) HOK.out.jlen).mono ?_
          rintro e w' ⟨rfl, rfl⟩
          exact ⟨rfl, rfl⟩
        have HA3 : Hid (RAt (wr.drew.setCell ⟨c, s * 4096 + k, none⟩ (.int .u8 ((x ||| j : Nat) : Int))) b c (f.wipe s (k + 1))) := by
          have := HAT.out.drew.set (s * 4096 + k) (x ||| j) hm (Fl.or_lt hcb hj0)
          unfold Hid
          rw [Fl.wipe_next f s k hlt', HW.out, ← hc, ← hj]
          exact this
        have HG3 : Hid (Wrote w (wr.drew.setCell ⟨c, s * 4096 + k, none⟩ (.int .u8 ((x ||| j : Nat) : Int))) (fun k => k = b ∨ k = c)) := HGR.out.drew.set (.inr rfl) _ _
        have hms : (s : Int) * 4096 + (k : Int) = ((s * 4096 + k : Nat) : Int) := by omega
        have hmm : ((s * 4096 + k : Nat) : Int) < 8192 := by omega
        generalize hme : s * 4096 + k = m at *
        have HME := Lib.hid hme
        clear hm hc hj hjk hme hmi
        go_wp2_with fail
        go_still_tail 20, (by kernel_rfl)
        still_call (HCC.out _)
        repeat still_step
        refine wpStill_nil ?_
        change wpList _ _ _ _ _ wr.drew
        have hfree2 : wr.drew.frozen? ⟨c, m, none⟩ = false := hfree
        have hcell2 : wr.drew.cell? ⟨c, m, none⟩ = some (.int .u8 (x : Int)) := hcell
        clear hor hcell hfree hjunk hs0
        generalize wr.drew = w3 at *
        go_wp2_with fail
        go_roundw
        case rel => exact ⟨k + 1, by omega, by go_num, HA3.out, HG3.out⟩
        case measure => simp [intOf]; omega
      · have e : k = 4096 := by omega
        have HE : Hid (RAt wr b c (f.wipe s 4096)) := by rw [← e]; exact HAT.out
        clear e HAT
        go_wp2_with fail
        go_ret
        exact ⟨rfl, HE.out, HGR.out⟩

/-- Erase, of whatever sector. -/
theorem rerase_any (b c : Nat) (f : Fl) (s : Int) (w : World) (h : RAt w b c f) :
    Calls Try.prog 46 #[.pointer (some ⟨b, 0, none⟩), .int .i64 s] w fun e w' => e = .returned (.int .i64 (f.erase s).2) ∧ RAt w' b c (f.erase s).1 ∧ Wrote w w' (fun k => k = b ∨ k = c) := by
  unfold Fl.erase
  cases ho : f.off with
  | true =>
    refine (rerase_off b c f s w h ho).mono ?_
    rintro e w' ⟨rfl, rfl⟩
    exact ⟨rfl, h, Wrote.refl _ _⟩
  | false =>
    by_cases hs : s < 0 ∨ 2 ≤ s
    · rw [if_neg (by simp), if_pos hs]
      refine (rerase_arg b c f s w h ho hs).mono ?_
      rintro e w' ⟨rfl, rfl⟩
      exact ⟨rfl, h, Wrote.refl _ _⟩
    · rw [if_neg (by simp), if_neg hs]
      obtain ⟨i, rfl⟩ := Int.eq_ofNat_of_zero_le (show 0 ≤ s by omega)
      cases hw : f.whole with
      | true => exact rerase_whole b c f i w h ho (by omega) hw _ rfl
      | false => exact rerase_part b c f i w h ho (by omega) hw _ rfl
end Go.Proofs.Ytngmnceahhlpkaa
