/- What Erase of a flash does, in whatever world. Conditions: the flash lies in memory, or is nil; numbers are of their kinds. -/
import Derived.Test.YtngmnceahhlpkaaNor3
import Derived.Deep.RegionWith
namespace Go.Proofs.Ytngmnceahhlpkaa
open Go.RowKit

theorem erase_nil (s : Int) (w : World) : Calls Try.prog 21 #[.pointer none, .int .i64 s] w fun e w' => e = .returned (.int .i64 2) ∧ w = w' := by
  go_enter Try.func21, Try.ntmps21
  go_wp2_with fail
  refine (ready_nil _).mono ?_
  rintro e w1 ⟨rfl, rfl⟩
  go_wp2_with fail
  go_ret
  exact ⟨rfl, rfl⟩
theorem erase_off (b : Nat) (J : Option Nat) (f : Fl) (s : Int) (w : World) (h : At w b J f) (ho : f.off = true) :
    Calls Try.prog 21 #[.pointer (some ⟨b, 0, none⟩), .int .i64 s] w fun e w' => e = .returned (.int .i64 60) ∧ w = w' := by
  have HY : Hid (readyOf f = 60) := by unfold Hid readyOf; rw [ho]; rfl
  have H := Lib.hid h
  clear ho h
  go_enter Try.func21, Try.ntmps21
  go_wp2_with fail
  refine (ready_any b J f _ H.out).mono ?_
  rintro e w1 ⟨rfl, rfl⟩
  rw [HY.out]
  go_wp2_with fail
  go_ret
  exact ⟨rfl, rfl⟩
theorem erase_arg (b : Nat) (J : Option Nat) (f : Fl) (s : Int) (w : World) (h : At w b J f) (ho : f.off = false) (hs : s < 0 ∨ 2 ≤ s) :
    Calls Try.prog 21 #[.pointer (some ⟨b, 0, none⟩), .int .i64 s] w fun e w' => e = .returned (.int .i64 1) ∧ w = w' := by
  have HY : Hid (readyOf f = 0) := by unfold Hid readyOf; rw [ho]; rfl
  have H := Lib.hid h
  clear ho h
  by_cases h0 : s < 0
  · clear hs
    go_enter Try.func21, Try.ntmps21
    go_wp2_with fail
    refine (ready_any b J f _ H.out).mono ?_
    rintro e w1 ⟨rfl, rfl⟩
    rw [HY.out]
    go_wp2_with fail
    go_ret
    exact ⟨rfl, rfl⟩
  · have h2 : 2 ≤ s := by omega
    clear hs
    go_enter Try.func21, Try.ntmps21
    go_wp2_with fail
    refine (ready_any b J f _ H.out).mono ?_
    rintro e w1 ⟨rfl, rfl⟩
    rw [HY.out]
    go_wp2_with fail
    go_ret
    exact ⟨rfl, rfl⟩

theorem slice_sector (b s : Nat) (hs : s < 2) : ∀ w : World, (Instr.sliceAt 89 (.pointer (some ⟨b, 5, none⟩)) (some (.int .i64 ((s : Int) * 4096))) (some (.int .i64 (((s : Int) + 1) * 4096))) none).run Try.prog w = .ok (.slice (some ⟨b, 5 + s * 4096, none⟩) 4096 (8192 - s * 4096)) w := by
  have hA : Try.prog.arrayLen 89 = 8192 := by kernel_rfl
  have hE : Try.prog.elem 89 = 5 := by kernel_rfl
  have hu : Try.prog.underlying 89 = some (.array (Try.prog.arrayLen 89) (Try.prog.elem 89)) := by rw [hA, hE]; exact Try.underlying89
  have hz : ∀ w : World, (sizeOf (Try.prog.elem 89)).run Try.prog w = .ok 1 w := fun w => by kernel_rfl
  intro w
  rw [run_sliceAt_array_lh (P := Try.prog) w 89 ⟨b, 5, none⟩ hu .i64 .i64 ((s : Int) * 4096) (((s : Int) + 1) * 4096) (by omega) (by omega) (by rw [hA]; omega), hz, hA]
  simp only [Result.andThen, show ((s : Int) * 4096).toNat = s * 4096 from by omega, show (((s : Int) + 1) * 4096).toNat = s * 4096 + 4096 from by omega]
  rw [slicedAt, if_neg (by omega), Nat.mul_one, Addr.add_lit, Nat.add_sub_cancel_left]

/-- The flash behind k bytes of a sector that is erased. -/
def Fl.wipe (f : Fl) (s k : Nat) : Fl := { f.step with cell := f.wiped s k }
theorem Fl.wipe_zero (f : Fl) (s : Nat) : f.wipe s 0 = f.step := by unfold Fl.wipe; rw [Fl.wiped_zero, ← Fl.step_cell f]
theorem Fl.wipe_ok {f : Fl} (h : f.Ok) (s k : Nat) : (f.wipe s k).Ok :=
  ⟨by show (f.wiped s k).length = _; rw [Fl.wiped_len]; exact h.len, Fl.wiped_byte h s k, h.step.junk, h.step.lo, h.step.hi, h.step.jlen⟩
theorem Fl.wipe_get (f : Fl) (s k : Nat) (hk : k < 4096) : (f.wipe s k).cell.getD (s * 4096 + k) 0 = f.cell.getD (s * 4096 + k) 0 := by
  show (f.wiped s k).getD _ _ = _
  rw [List.getD_eq_getElem?_getD, Fl.wiped_get, List.getD_eq_getElem?_getD]
  have h2 : (s * 4096 + k) % 4096 = k := by omega
  cases f.cell[s * 4096 + k]? <;> simp [h2]
theorem Fl.wipe_next (f : Fl) (s k : Nat) (hk : k < 4096) : f.wipe s (k + 1) = (f.wipe s k).put (s * 4096 + k) (if f.whole then 255 else f.cell.getD (s * 4096 + k) 0 ||| f.at_ k) := by
  unfold Fl.wipe Fl.put
  rw [Fl.wiped_next f s k hk]
theorem Fl.wipe_at (f : Fl) (s k i : Nat) : (f.wipe s k).at_ i = f.at_ i := by
  unfold Fl.at_ Fl.wipe
  simp

set_option maxRecDepth 100000 in
set_option maxHeartbeats 2000000 in
theorem erase_part (b : Nat) (J : Option Nat) (f : Fl) (s : Nat) (w : World) (h : At w b J f) (ho : f.off = false) (hs : s < 2) (hw : f.whole = false) :
    Calls Try.prog 21 #[.pointer (some ⟨b, 0, none⟩), .int .i64 (s : Int)] w fun e w' => e = .returned (.int .i64 60) ∧ At w' b J (f.wipe s 4096) ∧ w.grownBy w' (some b) := by
  have HY : Hid (readyOf f = 0) := by unfold Hid readyOf; rw [ho]; rfl
  have H := Lib.hid h
  have HW := Lib.hid hw
  clear ho h hw
  have hsl := slice_sector b s hs
  have hs2 : (s : Int) < 2 := by omega
  have HOK := Lib.hid H.out.ok
  go_enter Try.func21, Try.ntmps21
  go_wp2_with fail
  refine (ready_any b J f _ H.out).mono ?_
  rintro e w1 ⟨rfl, rfl⟩
  rw [HY.out]
  go_wp2_with fail
  refine (step_any b J f _ H.out).mono ?_
  rintro e w2 ⟨rfl, hat2, hg2⟩
  rw [HW.out]
  have HA2 := Lib.hid hat2
  have HG2 := Lib.hid hg2
  clear hat2 hg2 hsl
  go_wp2_with fail
  go_loopw [36] (fun i wr => ∃ k : Nat, k ≤ 4096 ∧ i = .int .i64 k ∧ At wr b J (f.wipe s k) ∧ w.grownBy wr (some b)) (fun i _ => 4096 - (intOf i).toNat)
  case atStart => exact ⟨0, by omega, rfl, by rw [Fl.wipe_zero]; exact HA2.out, HG2.out⟩
  case round =>
    obtain ⟨k, hk, rfl, hat, hgr⟩ := hrel
    have HAT := Lib.hid hat
    clear hat HA2 HG2 H
    by_cases hlt : (k : Int) < 4096
    · have hlt' : k < 4096 := by omega
      have hcell := HAT.out.cell (s * 4096 + k) (by omega)
      have hfree := HAT.out.free (5 + (s * 4096 + k))
      rw [← Nat.add_assoc] at hcell hfree
      rw [Fl.wipe_get f s k hlt'] at hcell
      have hcb : f.cell.getD (s * 4096 + k) 0 < 256 := Fl.getD_lt HOK.out.byte _
      obtain ⟨c, hc⟩ : ∃ c, c = f.cell.getD (s * 4096 + k) 0 := ⟨_, rfl⟩
      rw [← hc] at hcell hcb
      have HCE := Lib.hid hc
      have hj0 : f.at_ k < 256 := Fl.at_lt HOK.out k
      obtain ⟨j, hj⟩ : ∃ j, j = f.at_ k := ⟨_, rfl⟩
      rw [← hj] at hj0
      have HJE := Lib.hid hj
      clear hc hj
      have hor := u8_or_nat c j hcb hj0
      have HC : ∀ W : World, At W b J (f.wipe s k) → Calls Try.prog 43 #[.pointer (some ⟨b, 0, none⟩), .int .i64 (k : Int)] W fun e w' => e = .returned (.int .u8 (j : Int)) ∧ ∃ n, w' = W.drewN n := by
        intro W hW
        have := at_any b J (f.wipe s k) k W hW (by omega)
        rw [Fl.wipe_at, ← HJE.out] at this
        exact this
      have HCC := Lib.hid HC
      clear HC
      go_wp2_with fail
      go_region_with (go_at_call 43; refine (HCC.out _ (HAT.out.drew)).mono ?_; rintro e w3 ⟨rfl, n3, rfl⟩)
      all_goals
        have HA3 : Hid (At ((wr.drewN (1 + n3)).setCell ⟨b, 5 + s * 4096 + k, none⟩ (.int .u8 ((c ||| j : Nat) : Int))) b J (f.wipe s (k + 1))) := by
          have := (HAT.out.drewN (1 + n3)).set (s * 4096 + k) (c ||| j) (Fl.or_lt hcb hj0)
          rw [← Nat.add_assoc] at this
          unfold Hid
          rw [Fl.wipe_next f s k hlt', HW.out, ← HCE.out, ← HJE.out]
          exact this
        have HG3 : Hid (w.grownBy ((wr.drewN (1 + n3)).setCell ⟨b, 5 + s * 4096 + k, none⟩ (.int .u8 ((c ||| j : Nat) : Int))) (some b)) := grown_set (grown_drewN hgr _) _ _
        clear hcell hfree hor HCC
        generalize (wr.drewN (1 + n3)).setCell ⟨b, 5 + s * 4096 + k, none⟩ (.int .u8 ((c ||| j : Nat) : Int)) = w4 at *
        go_wp2_with fail
        go_roundw
        case rel => exact ⟨k + 1, by omega, by go_num, HA3.out, HG3.out⟩
        case measure => simp [intOf]; omega
    · have e : k = 4096 := by omega
      have HE : Hid (At wr b J (f.wipe s 4096)) := by rw [← e]; exact HAT.out
      clear e HAT
      go_wp2_with fail
      go_ret
      exact ⟨rfl, HE.out, hgr⟩

set_option maxRecDepth 100000 in
set_option maxHeartbeats 2000000 in
theorem erase_whole (b : Nat) (J : Option Nat) (f : Fl) (s : Nat) (w : World) (h : At w b J f) (ho : f.off = false) (hs : s < 2) (hw : f.whole = true) :
    Calls Try.prog 21 #[.pointer (some ⟨b, 0, none⟩), .int .i64 (s : Int)] w fun e w' => e = .returned (.int .i64 0) ∧ At w' b J (f.wipe s 4096) ∧ w.grownBy w' (some b) := by
  have HY : Hid (readyOf f = 0) := by unfold Hid readyOf; rw [ho]; rfl
  have H := Lib.hid h
  have HW := Lib.hid hw
  clear ho h hw
  have hsl := slice_sector b s hs
  have hs2 : (s : Int) < 2 := by omega
  go_enter Try.func21, Try.ntmps21
  go_wp2_with fail
  refine (ready_any b J f _ H.out).mono ?_
  rintro e w1 ⟨rfl, rfl⟩
  rw [HY.out]
  go_wp2_with fail
  refine (step_any b J f _ H.out).mono ?_
  rintro e w2 ⟨rfl, hat2, hg2⟩
  rw [HW.out]
  have HA2 := Lib.hid hat2
  have HG2 := Lib.hid hg2
  clear hat2 hg2 hsl
  go_wp2_with fail
  go_loopw [53] (fun i wr => ∃ k : Nat, k ≤ 4096 ∧ i = .int .i64 k ∧ At wr b J (f.wipe s k) ∧ w.grownBy wr (some b)) (fun i _ => 4096 - (intOf i).toNat)
  case atStart => exact ⟨0, by omega, rfl, by rw [Fl.wipe_zero]; exact HA2.out, HG2.out⟩
  case round =>
    obtain ⟨k, hk, rfl, hat, hgr⟩ := hrel
    have HAT := Lib.hid hat
    clear hat HA2 HG2 H
    by_cases hlt : (k : Int) < 4096
    · have hlt' : k < 4096 := by omega
      have hcell := HAT.out.cell (s * 4096 + k) (by omega)
      have hfree := HAT.out.free (5 + (s * 4096 + k))
      rw [← Nat.add_assoc] at hcell hfree
      go_wp2_with fail
      have HA3 : Hid (At (wr.setCell ⟨b, 5 + s * 4096 + k, none⟩ (.int .u8 255)) b J (f.wipe s (k + 1))) := by
        have := HAT.out.set (s * 4096 + k) 255 (by omega)
        rw [← Nat.add_assoc] at this
        unfold Hid
        rw [Fl.wipe_next f s k hlt', HW.out]
        exact this
      have HG3 : Hid (w.grownBy (wr.setCell ⟨b, 5 + s * 4096 + k, none⟩ (.int .u8 255)) (some b)) := grown_set hgr _ _
      go_roundw
      case rel => exact ⟨k + 1, by omega, by go_num, HA3.out, HG3.out⟩
      case measure => simp [intOf]; omega
    · have e : k = 4096 := by omega
      have HE : Hid (At wr b J (f.wipe s 4096)) := by rw [← e]; exact HAT.out
      clear e HAT
      go_wp2_with fail
      go_ret
      exact ⟨rfl, HE.out, hgr⟩

/-- Erase, of whatever sector. -/
theorem erase_any (b : Nat) (J : Option Nat) (f : Fl) (s : Int) (w : World) (h : At w b J f) :
    Calls Try.prog 21 #[.pointer (some ⟨b, 0, none⟩), .int .i64 s] w fun e w' => e = .returned (.int .i64 (f.erase s).2) ∧ At w' b J (f.erase s).1 ∧ w.grownBy w' (some b) := by
  unfold Fl.erase
  cases ho : f.off with
  | true =>
    refine (erase_off b J f s w h ho).mono ?_
    rintro e w' ⟨rfl, rfl⟩
    exact ⟨rfl, h, World.grownBy.refl _ _⟩
  | false =>
    by_cases hs : s < 0 ∨ 2 ≤ s
    · rw [if_neg (by simp), if_pos hs]
      refine (erase_arg b J f s w h ho hs).mono ?_
      rintro e w' ⟨rfl, rfl⟩
      exact ⟨rfl, h, World.grownBy.refl _ _⟩
    · rw [if_neg (by simp), if_neg hs]
      obtain ⟨i, rfl⟩ := Int.eq_ofNat_of_zero_le (show 0 ≤ s by omega)
      cases hw : f.whole with
      | true => exact erase_whole b J f i w h ho (by omega) hw
      | false => exact erase_part b J f i w h ho (by omega) hw
end Go.Proofs.Ytngmnceahhlpkaa
