/- What a flash's small methods do, in whatever world: step, at, ready, fits, Read, Image, Steps, On. Conditions: the flash is one that lies in memory, or nil; numbers are of their kinds. -/
import Derived.Test.YtngmnceahhlpkaaBase
namespace Go.Proofs.Ytngmnceahhlpkaa
open Go.RowKit

theorem set_flash {f f' : Fl} {jv jv' v : Value} {i : Nat} (h : (flashL f jv).set i v = flashL f' jv') : (flashL f jv).toArray.setIfInBounds i v = (flashL f' jv').toArray := by
  rw [List.setIfInBounds_toArray, h]
theorem step_any (b : Nat) (J : Option Nat) (f : Fl) (w : World) (h : At w b J f) :
    Calls Try.prog 42 #[.pointer (some ⟨b, 0, none⟩)] w fun e w' => e = .returned (.bool f.whole) ∧ At w' b J f.step ∧ w.grownBy w' (some b) := by
  obtain ⟨hok, jv, hb, hj⟩ := h
  have hne := hj.ne hb (by decide)
  have a0 : w.cell? ⟨b, 0, none⟩ = some (.bool f.off) := cell_at hb 0
  have a1 : w.cell? ⟨b, 1, none⟩ = some (.bool f.armed) := cell_at hb 1
  have a2 : w.cell? ⟨b, 2, none⟩ = some (.int .i64 f.left) := cell_at hb 2
  have a4 : w.cell? ⟨b, 4, none⟩ = some (.int .i64 f.steps) := cell_at hb 4
  have g0 := free_at hb 0
  have g1 := free_at hb 1
  have g2 := free_at hb 2
  have g4 := free_at hb 4
  have hlo := hok.lo
  have hhi := hok.hi
  have HB := Lib.hid hb
  have HJ := Lib.hid hj
  have HO := Lib.hid hok
  clear hb hj hok
  cases ha : f.armed with
  | false =>
    have HS : Hid (f.step = { f with steps := f.more }) := by unfold Hid Fl.step; rw [ha]; rfl
    have HW : Hid (f.whole = true) := by unfold Hid Fl.whole; rw [ha]; rfl
    rw [ha] at a1
    have HA := Lib.hid ha
    clear ha
    go_enter Try.func42, Try.ntmps42
    go_wp2_with fail
    go_ret
    refine ⟨by rw [HW.out]; rfl, ⟨HO.out.step, jv, ?_, ?_⟩, grown_set (World.grownBy.refl _ _) 4 _⟩
    · rw [HS.out, heap_setCell_at HB.out 4, set_flash (f' := { f with steps := f.more }) (jv' := jv)]
      rfl
    · rw [Fl.step_junk]
      exact HJ.out.kept (fun g hg => heap_setCell_ne (by rintro rfl; exact hne hg) _ _)
  | true =>
    rw [ha] at a1
    by_cases h0 : f.left = 0
    · have HS : Hid (f.step = { f with off := true, armed := false }) := by unfold Hid Fl.step; rw [ha, if_pos rfl, if_pos h0]
      have HW : Hid (f.whole = false) := by unfold Hid Fl.whole; rw [ha, h0]; rfl
      have hb0 : (f.left == 0) = true := by simpa using h0
      clear ha h0
      go_enter Try.func42, Try.ntmps42
      go_wp2_with fail
      go_ret
      refine ⟨by rw [HW.out]; rfl, ⟨HO.out.step, jv, ?_, ?_⟩, grown_set (grown_set (World.grownBy.refl _ _) 0 _) 1 _⟩
      · rw [HS.out, heap_setCell_at (heap_setCell_at HB.out 0 _) 1, set_flash (f' := { f with off := true }) (jv' := jv) rfl, set_flash (f' := { f with off := true, armed := false }) (jv' := jv)]
        rfl
      · rw [Fl.step_junk]
        exact HJ.out.kept (fun g hg => (heap_setCell_ne (by rintro rfl; exact hne hg) _ _).trans (heap_setCell_ne (by rintro rfl; exact hne hg) _ _))
    · have HS : Hid (f.step = { f with left := f.left - 1, steps := f.more }) := by unfold Hid Fl.step; rw [ha, if_pos rfl, if_neg h0]
      have HW : Hid (f.whole = true) := by unfold Hid Fl.whole; rw [ha]; simp [h0]
      have hb0 : (f.left == 0) = false := by simpa using h0
      clear ha h0
      go_enter Try.func42, Try.ntmps42
      go_wp2_with fail
      go_ret
      refine ⟨by rw [HW.out]; rfl, ⟨HO.out.step, jv, ?_, ?_⟩, grown_set (grown_set (World.grownBy.refl _ _) 2 _) 4 _⟩
      · rw [HS.out, heap_setCell_at (heap_setCell_at HB.out 2 _) 4, set_flash (f' := { f with left := f.left - 1 }) (jv' := jv) rfl, set_flash (f' := { f with left := f.left - 1, steps := f.more }) (jv' := jv)]
        rfl
      · rw [Fl.step_junk]
        exact HJ.out.kept (fun g hg => (heap_setCell_ne (by rintro rfl; exact hne hg) _ _).trans (heap_setCell_ne (by rintro rfl; exact hne hg) _ _))

/-- The slice in which the junk lies. -/
theorem junk_cases {w : World} {J : Option Nat} {jv : Value} {l : List Nat} (h : Junk w J jv l) :
    (l.length = 0 ∧ ∃ A c, jv = .slice A 0 c) ∨ ∃ g, 0 < l.length ∧ jv = .slice (some ⟨g, 0, none⟩) l.length l.length ∧ ∀ i, i < l.length → w.cell? ⟨g, i, none⟩ = some (.int .u8 ((l.getD i 0 : Nat) : Int)) := by
  rcases h.val with ⟨_, rfl, rfl⟩ | ⟨g, _, rfl, hg⟩
  · exact .inl ⟨rfl, none, 0, rfl⟩
  · rcases Nat.eq_zero_or_pos l.length with h0 | h0
    · exact .inl ⟨h0, some ⟨g, 0, none⟩, 0, by rw [h0]⟩
    · refine .inr ⟨g, h0, rfl, fun i hi => ?_⟩
      rw [cell_at hg i, List.getElem?_toArray, List.getElem?_map, List.getElem?_eq_getElem hi]
      simp [List.getD_eq_getElem?_getD, hi, byteV]

set_option maxHeartbeats 1000000 in
theorem at_any (b : Nat) (J : Option Nat) (f : Fl) (i : Nat) (w : World) (h : At w b J f) (hi : i ≤ 9223372036854775807) :
    Calls Try.prog 43 #[.pointer (some ⟨b, 0, none⟩), .int .i64 (i : Int)] w fun e w' => e = .returned (.int .u8 ((f.at_ i : Nat) : Int)) ∧ ∃ n, w' = w.drewN n := by
  obtain ⟨hok, jv, hb, hj⟩ := h
  have a3 : w.cell? ⟨b, 3, none⟩ = some jv := cell_at hb 3
  have hjl := hok.jlen
  clear hb
  rcases junk_cases hj with ⟨h0, A, c, rfl⟩ | ⟨g, hpos, rfl, hc⟩
  · have HV : Hid (f.at_ i = 0) := by unfold Hid Fl.at_; rw [if_pos h0]
    clear h0 hok hj hjl
    go_enter Try.func43, Try.ntmps43
    go_wp2_with fail
    go_ret
    exact ⟨ret_int (by rw [HV.out]; rfl), 0, rfl⟩
  · have HV : Hid (f.at_ i = f.junk.getD (i % f.junk.length) 0) := by unfold Hid Fl.at_; rw [if_neg (by omega)]
    have hcell := hc (i % f.junk.length) (Nat.mod_lt _ hpos)
    rw [← HV.out] at hcell
    have hl0 : ((f.junk.length : Int) == 0) = false := by rw [beq_eq_false_iff_ne]; omega
    have hm0 : (0 : Int) ≤ (i : Int) % (f.junk.length : Int) := by rw [← Int.natCast_emod]; exact Int.natCast_nonneg _
    have hm1 : (i : Int) % (f.junk.length : Int) < (f.junk.length : Int) := Int.emod_lt_of_pos _ (by omega)
    clear hc HV hok hj
    generalize f.junk.length = L at *
    generalize f.at_ i = x at *
    go_enter Try.func43, Try.ntmps43
    go_wp2_with fail
    go_quiet (fail)
    go_wp2
    go_ret
    exact ⟨rfl, nq, rfl⟩

/-! ### ready, fits, Steps, On -/
def readyOf (f : Fl) : Int := if f.off then 60 else 0
theorem ready_any (b : Nat) (J : Option Nat) (f : Fl) (w : World) (h : At w b J f) :
    Calls Try.prog 40 #[.pointer (some ⟨b, 0, none⟩)] w fun e w' => e = .returned (.int .i64 (readyOf f)) ∧ w = w' := by
  obtain ⟨_, jv, hb, _⟩ := h
  have a0 : w.cell? ⟨b, 0, none⟩ = some (.bool f.off) := cell_at hb 0
  clear hb
  unfold readyOf
  cases ho : f.off <;> (rw [ho] at a0; clear ho; go_enter Try.func40, Try.ntmps40; go_wp2_with fail; go_ret; exact ⟨rfl, rfl⟩)
theorem ready_nil (w : World) : Calls Try.prog 40 #[.pointer none] w fun e w' => e = .returned (.int .i64 2) ∧ w = w' := by
  go_enter Try.func40, Try.ntmps40
  go_wp2_with fail
  go_ret
  exact ⟨rfl, rfl⟩
theorem fits_any (a n : Int) (w : World) : Calls Try.prog 41 #[.int .i64 a, .int .i64 n] w fun e w' => e = .returned (.bool (Fl.fits a n)) ∧ w = w' := by
  by_cases h1 : 0 ≤ a
  · by_cases h2 : 0 ≤ n
    · by_cases h3 : a ≤ 8192
      · have HF : Hid (Fl.fits a n = decide (n ≤ 8192 - a)) := by unfold Hid Fl.fits; simp [h1, h2, h3]
        go_enter Try.func41, Try.ntmps41
        go_wp2_with fail
        go_ret
        exact ⟨by rw [HF.out]; rfl, rfl⟩
      · have HF : Hid (Fl.fits a n = false) := by unfold Hid Fl.fits; simp [h3]
        go_enter Try.func41, Try.ntmps41
        go_wp2_with fail
        go_ret
        exact ⟨by rw [HF.out]; rfl, rfl⟩
    · have HF : Hid (Fl.fits a n = false) := by unfold Hid Fl.fits; simp [h2]
      go_enter Try.func41, Try.ntmps41
      go_wp2_with fail
      go_ret
      exact ⟨by rw [HF.out]; rfl, rfl⟩
  · have HF : Hid (Fl.fits a n = false) := by unfold Hid Fl.fits; simp [h1]
    go_enter Try.func41, Try.ntmps41
    go_wp2_with fail
    go_ret
    exact ⟨by rw [HF.out]; rfl, rfl⟩
theorem steps_any (b : Nat) (J : Option Nat) (f : Fl) (w : World) (h : At w b J f) :
    Calls Try.prog 19 #[.pointer (some ⟨b, 0, none⟩)] w fun e w' => e = .returned (.int .i64 f.steps) ∧ w = w' := by
  obtain ⟨_, jv, hb, _⟩ := h
  have a4 : w.cell? ⟨b, 4, none⟩ = some (.int .i64 f.steps) := cell_at hb 4
  clear hb
  go_enter Try.func19, Try.ntmps19
  go_wp2_with fail
  go_ret
  exact ⟨rfl, rfl⟩
theorem steps_nil (w : World) : Calls Try.prog 19 #[.pointer none] w fun e w' => e = .returned (.int .i64 0) ∧ w = w' := by
  go_enter Try.func19, Try.ntmps19
  go_wp2_with fail
  go_ret
  exact ⟨rfl, rfl⟩
theorem on_any (b : Nat) (J : Option Nat) (f : Fl) (w : World) (h : At w b J f) :
    Calls Try.prog 23 #[.pointer (some ⟨b, 0, none⟩)] w fun e w' => e = .returned (.tuple #[]) ∧ At w' b J f.on ∧ w.grownBy w' (some b) := by
  obtain ⟨hok, jv, hb, hj⟩ := h
  have hne := hj.ne hb (by decide)
  have a0 : w.cell? ⟨b, 0, none⟩ = some (.bool f.off) := cell_at hb 0
  have a1 : w.cell? ⟨b, 1, none⟩ = some (.bool f.armed) := cell_at hb 1
  have g0 := free_at hb 0
  have g1 := free_at hb 1
  have HB := Lib.hid hb
  have HJ := Lib.hid hj
  have HO := Lib.hid hok
  clear hb hj hok
  go_enter Try.func23, Try.ntmps23
  go_wp2_with fail
  go_end0
  refine ⟨rfl, ⟨HO.out.on, jv, ?_, ?_⟩, grown_set (grown_set (World.grownBy.refl _ _) 0 _) 1 _⟩
  · rw [heap_setCell_at (heap_setCell_at HB.out 0 _) 1, set_flash (f' := { f with off := false }) (jv' := jv) rfl, set_flash (f' := f.on) (jv' := jv)]
    rfl
  · exact HJ.out.kept (fun g hg => (heap_setCell_ne (by rintro rfl; exact hne hg) _ _).trans (heap_setCell_ne (by rintro rfl; exact hne hg) _ _))
theorem on_nil (w : World) : Calls Try.prog 23 #[.pointer none] w fun e w' => e = .returned (.tuple #[]) ∧ w = w' := by
  go_enter Try.func23, Try.ntmps23
  go_wp2_with fail
  go_end0
  exact ⟨rfl, rfl⟩
end Go.Proofs.Ytngmnceahhlpkaa
