/- What Program of a flash does, in whatever world. Conditions: the flash lies in memory, or is nil; numbers are of their kinds, texts are within the reach of memory. -/
import Derived.Test.YtngmnceahhlpkaaNor2
import Derived.BigRegion
import Derived.ChangeAlike
namespace Go.Proofs.Ytngmnceahhlpkaa
open Go.RowKit

theorem prog_nil (a : Int) (s : ByteArray) (w : World) : Calls Try.prog 18 #[.pointer none, .int .i64 a, .string s] w fun e w' => e = .returned (.int .i64 2) ∧ w = w' := by
  go_enter Try.func18, Try.ntmps18
  go_wp2_with fail
  refine (ready_nil _).mono ?_
  rintro e w1 ⟨rfl, rfl⟩
  go_wp2_with fail
  go_ret
  exact ⟨rfl, rfl⟩
theorem prog_off (b : Nat) (J : Option Nat) (f : Fl) (a : Int) (s : ByteArray) (w : World) (h : At w b J f) (ho : f.off = true) :
    Calls Try.prog 18 #[.pointer (some ⟨b, 0, none⟩), .int .i64 a, .string s] w fun e w' => e = .returned (.int .i64 60) ∧ w = w' := by
  have HY : Hid (readyOf f = 60) := by unfold Hid readyOf; rw [ho]; rfl
  have H := Lib.hid h
  clear ho h
  go_enter Try.func18, Try.ntmps18
  go_wp2_with fail
  refine (ready_any b J f _ H.out).mono ?_
  rintro e w1 ⟨rfl, rfl⟩
  rw [HY.out]
  go_wp2_with fail
  go_ret
  exact ⟨rfl, rfl⟩
theorem prog_arg (b : Nat) (J : Option Nat) (f : Fl) (a : Int) (s : ByteArray) (w : World) (h : At w b J f) (ho : f.off = false) (hf : Fl.fits a s.size = false) :
    Calls Try.prog 18 #[.pointer (some ⟨b, 0, none⟩), .int .i64 a, .string s] w fun e w' => e = .returned (.int .i64 1) ∧ w = w' := by
  have HY : Hid (readyOf f = 0) := by unfold Hid readyOf; rw [ho]; rfl
  have H := Lib.hid h
  have HF := Lib.hid hf
  clear ho h hf
  go_enter Try.func18, Try.ntmps18
  go_wp2_with fail
  refine (ready_any b J f _ H.out).mono ?_
  rintro e w1 ⟨rfl, rfl⟩
  rw [HY.out]
  go_wp2_with fail
  refine (fits_any _ _ _).mono ?_
  rintro e w1 ⟨rfl, rfl⟩
  rw [HF.out]
  go_wp2_with fail
  go_ret
  exact ⟨rfl, rfl⟩

theorem Fl.prog_cons (f : Fl) (a d : Nat) (ds : List Nat) : f.prog a (d :: ds) =
    if f.whole then (f.step.put a (f.cell.getD a 0 &&& d)).prog (a + 1) ds else (f.step.put a (f.cell.getD a 0 &&& (d ||| f.at_ 0)), 60) := rfl
theorem At.cell {w : World} {b : Nat} {J : Option Nat} {f : Fl} (h : At w b J f) (i : Nat) (hi : i < 8192) : w.cell? ⟨b, 5 + i, none⟩ = some (.int .u8 ((f.cell.getD i 0 : Nat) : Int)) := by
  obtain ⟨hok, jv, hb, _⟩ := h
  rw [cell_at hb, flashL_get f jv i (by rw [hok.len]; exact hi)]
  rfl
theorem At.free {w : World} {b : Nat} {J : Option Nat} {f : Fl} (h : At w b J f) (i : Nat) : w.frozen? ⟨b, i, none⟩ = false := by
  obtain ⟨_, jv, hb, _⟩ := h
  exact free_at hb i
theorem flashL_set (f : Fl) (jv : Value) (i v : Nat) : (flashL f jv).set (5 + i) (byteV v) = flashL (f.put i v) jv := by
  rw [flashL, flashL, List.set_append_right _ _ (by simp)]
  simp [Fl.put, List.map_set]
/-- A byte of a cell is written. -/
theorem At.set {w : World} {b : Nat} {J : Option Nat} {f : Fl} (h : At w b J f) (i v : Nat) (hv : v < 256) : At (w.setCell ⟨b, 5 + i, none⟩ (.int .u8 (v : Int))) b J (f.put i v) := by
  obtain ⟨hok, jv, hb, hj⟩ := h
  have hne := hj.ne hb (by decide)
  refine ⟨hok.put hv, jv, ?_, hj.kept (fun g hg => heap_setCell_ne (by rintro rfl; exact hne hg) _ _)⟩
  exact (heap_setCell_at hb (5 + i) (byteV v)).trans (by rw [set_flash (flashL_set f jv i v)])
theorem At.drew {w : World} {b : Nat} {J : Option Nat} {f : Fl} (h : At w b J f) : At w.drew b J f := h.kept rfl (fun _ _ => rfl)
theorem At.drewN {w : World} {b : Nat} {J : Option Nat} {f : Fl} (h : At w b J f) (n : Nat) : At (w.drewN n) b J f := h.kept rfl (fun _ _ => rfl)

set_option maxRecDepth 100000 in
set_option maxHeartbeats 2000000 in
theorem prog_fits (b : Nat) (J : Option Nat) (f : Fl) (a : Nat) (s : ByteArray) (w : World) (h : At w b J f) (ho : f.off = false) (hf : (a : Int) + s.size ≤ 8192) :
    Calls Try.prog 18 #[.pointer (some ⟨b, 0, none⟩), .int .i64 (a : Int), .string s] w fun e w' =>
      e = .returned (.int .i64 (f.prog a (bytes s)).2) ∧ At w' b J (f.prog a (bytes s)).1 ∧ w.grownBy w' (some b) := by
  have HY : Hid (readyOf f = 0) := by unfold Hid readyOf; rw [ho]; rfl
  have HF : Hid (Fl.fits (a : Int) (s.size : Int) = true) := by unfold Hid Fl.fits; simp; omega
  have H := Lib.hid h
  clear ho h
  go_enter Try.func18, Try.ntmps18
  go_wp2_with fail
  refine (ready_any b J f _ H.out).mono ?_
  rintro e w1 ⟨rfl, rfl⟩
  rw [HY.out]
  go_wp2_with fail
  refine (fits_any _ _ _).mono ?_
  rintro e w1 ⟨rfl, rfl⟩
  rw [HF.out]
  go_wp2_with fail
  go_loopw [23] (fun i wr => ∃ (k : Nat) (f1 : Fl), k ≤ s.size ∧ i = .int .i64 k ∧ At wr b J f1 ∧ Hid (f.prog a (bytes s) = f1.prog (a + k) ((bytes s).drop k)) ∧ w.grownBy wr (some b)) (fun i _ => s.size - (intOf i).toNat)
  case atStart => exact ⟨0, f, by omega, rfl, H.out, Lib.hid (by simp), World.grownBy.refl _ _⟩
  case round =>
    obtain ⟨k, f1, hk, rfl, hat, HP, hgr⟩ := hrel
    have HAT := Lib.hid hat
    clear hat H
    by_cases hlt : k < s.size
    · have hd : (bytes s).drop k = s[k].toNat :: (bytes s).drop (k + 1) := by
        rw [List.drop_eq_getElem_cons (by rw [bytes_length]; exact hlt)]
        congr 1
        have := bytes_get s k hlt
        rw [← this, List.getD_eq_getElem?_getD, List.getElem?_eq_getElem (by rw [bytes_length]; exact hlt)]
        rfl
      have HN : Hid (f.prog a (bytes s) = f1.prog (a + k) (s[k].toNat :: (bytes s).drop (k + 1))) := by rw [← hd]; exact HP.out
      clear hd HP
      have hdb := s[k].toNat_lt
      have hsum : (a : Int) + (k : Int) < 8192 := by omega
      go_wp2_with fail
      refine (step_any b J f1 _ HAT.out).mono ?_
      rintro e w2 ⟨rfl, hat2, hg2⟩
      have HA2 := Lib.hid hat2
      have HG2 := Lib.hid hg2
      clear hat2 hg2
      cases hw : f1.whole with
      | true => 
        have HW := Lib.hid hw
        clear hw
        have hcell := HA2.out.cell (a + k) (by omega)
        have hfree := HA2.out.free (5 + (a + k))
        rw [Fl.step_cell] at hcell
        have hcb : f1.cell.getD (a + k) 0 < 256 := Fl.getD_lt HAT.out.ok.byte _
        have HC := Lib.hid hcb
        obtain ⟨c, hc⟩ : ∃ c, c = f1.cell.getD (a + k) 0 := ⟨_, rfl⟩
        rw [← hc] at hcell hcb
        have HCE := Lib.hid hc
        clear hc
        have hand := u8_and_nat c s[k].toNat hcb hdb
        go_wp2_with fail
        go_region
        clear hand hfree hcell
        have HA3 : Hid (At (w2.setCell ⟨b, 5 + (a + k), none⟩ (.int .u8 ((c &&& s[k].toNat : Nat) : Int))).drew b J (f1.step.put (a + k) (c &&& s[k].toNat))) := (HA2.out.set (a + k) _ (Fl.and_lt hcb)).drew
        have HG3 : Hid (w.grownBy (w2.setCell ⟨b, 5 + (a + k), none⟩ (.int .u8 ((c &&& s[k].toNat : Nat) : Int))).drew (some b)) := grown_drew (grown_set (grown_trans hgr HG2.out) _ _)
        have HQ : Hid (f.prog a (bytes s) = (f1.step.put (a + k) (c &&& s[k].toNat)).prog (a + (k + 1)) ((bytes s).drop (k + 1))) := by
          have := HN.out
          rw [Fl.prog_cons, if_pos HW.out, ← HCE.out] at this
          exact this
        generalize (w2.setCell ⟨b, 5 + (a + k), none⟩ (.int .u8 ((c &&& s[k].toNat : Nat) : Int))).drew = w3 at *
        go_wp2_with fail
        go_roundw
        case rel => exact ⟨k + 1, _, by omega, by go_num, HA3.out, HQ, HG3.out⟩
        case measure => simp [intOf]; omega
      | false =>
        have HW := Lib.hid hw
        clear hw
        go_wp2_with fail
        refine (at_any b J f1.step 0 _ HA2.out (by omega)).mono ?_
        rintro e w3 ⟨rfl, n3, rfl⟩
        have HA3 := Lib.hid (HA2.out.drewN n3)
        have HG3 := Lib.hid (grown_drewN (grown_trans hgr HG2.out) n3)
        have hj0 : f1.at_ 0 < 256 := Fl.at_lt HAT.out.ok 0
        rw [Fl.step_at]
        generalize w2.drewN n3 = w3 at *
        have hcell := HA3.out.cell (a + k) (by omega)
        have hfree := HA3.out.free (5 + (a + k))
        rw [Fl.step_cell] at hcell
        have hcb : f1.cell.getD (a + k) 0 < 256 := Fl.getD_lt HAT.out.ok.byte _
        obtain ⟨c, hc⟩ : ∃ c, c = f1.cell.getD (a + k) 0 := ⟨_, rfl⟩
        rw [← hc] at hcell hcb
        have HCE := Lib.hid hc
        obtain ⟨j, hj⟩ : ∃ j, j = f1.at_ 0 := ⟨_, rfl⟩
        rw [← hj] at hj0 ⊢
        have HJE := Lib.hid hj
        clear hc hj
        have hor := u8_or_nat s[k].toNat j hdb hj0
        have hand := u8_and_nat c (s[k].toNat ||| j) hcb (Fl.or_lt hdb hj0)
        go_wp2_with fail
        go_region
        clear hand hfree hcell hor
        have HA4 : Hid (At (w3.setCell ⟨b, 5 + (a + k), none⟩ (.int .u8 ((c &&& (s[k].toNat ||| j) : Nat) : Int))).drew b J (f1.step.put (a + k) (c &&& (s[k].toNat ||| j)))) := (HA3.out.set (a + k) _ (Fl.and_lt hcb)).drew
        have HG4 : Hid (w.grownBy (w3.setCell ⟨b, 5 + (a + k), none⟩ (.int .u8 ((c &&& (s[k].toNat ||| j) : Nat) : Int))).drew (some b)) := grown_drew (grown_set HG3.out _ _)
        have HQ : Hid (f.prog a (bytes s) = (f1.step.put (a + k) (c &&& (s[k].toNat ||| j)), 60)) := by
          have := HN.out
          rw [Fl.prog_cons, if_neg (by rw [HW.out]; simp), ← HCE.out, ← HJE.out] at this
          exact this
        generalize (w3.setCell ⟨b, 5 + (a + k), none⟩ (.int .u8 ((c &&& (s[k].toNat ||| j) : Nat) : Int))).drew = w4 at *
        go_wp2_with fail
        go_ret
        exact ⟨by rw [HQ.out]; rfl, by rw [HQ.out]; exact HA4.out, HG4.out⟩
    · have HQ : Hid (f.prog a (bytes s) = (f1, 0)) := by
        have := HP.out
        rw [List.drop_of_length_le (by rw [bytes_length]; omega)] at this
        exact this
      go_wp2_with fail
      go_ret
      exact ⟨by rw [HQ.out]; rfl, by rw [HQ.out]; exact HAT.out, hgr⟩

/-- Program, of whatever place and bytes. -/
theorem program_any (b : Nat) (J : Option Nat) (f : Fl) (a : Int) (s : ByteArray) (w : World) (h : At w b J f) :
    Calls Try.prog 18 #[.pointer (some ⟨b, 0, none⟩), .int .i64 a, .string s] w fun e w' =>
      e = .returned (.int .i64 (f.program a (bytes s)).2) ∧ At w' b J (f.program a (bytes s)).1 ∧ w.grownBy w' (some b) := by
  unfold Fl.program
  cases ho : f.off with
  | true =>
    refine (prog_off b J f a s w h ho).mono ?_
    rintro e w' ⟨rfl, rfl⟩
    exact ⟨rfl, h, World.grownBy.refl _ _⟩
  | false =>
    rw [bytes_length]
    cases hf : Fl.fits a (s.size : Int) with
    | false =>
      refine (prog_arg b J f a s w h ho hf).mono ?_
      rintro e w' ⟨rfl, rfl⟩
      exact ⟨rfl, h, World.grownBy.refl _ _⟩
    | true =>
      have hb : 0 ≤ a ∧ (0 : Int) ≤ s.size ∧ a ≤ 8192 ∧ (s.size : Int) ≤ 8192 - a := by unfold Fl.fits at hf; simpa using hf
      obtain ⟨i, rfl⟩ := Int.eq_ofNat_of_zero_le hb.1
      exact prog_fits b J f i s w h ho (by omega)
end Go.Proofs.Ytngmnceahhlpkaa
