/- The walk of MissionChecks: true, in whatever world. Conditions: the items can be read. -/
import Derived.Test.YtkgenhoaeiihoaaREnc
import Derived.Test.YtkgenhoaeiihoaaKept
import Derived.Test.YtkgenhoaeiihoaaAwake
namespace Go.Proofs.Ytkgenhoaeiihoaa
open Go.RowKit
set_option maxRecDepth 100000 in
set_option maxHeartbeats 2000000 in
theorem checks_walk (w : World) (v : Value) (xs : List It) (hr : IR w v xs) : Calls Try.prog 3 #[v] w (AwakePost w) := by
  have HR := Lib.hid hr
  obtain ⟨A, cap, hv⟩ := hr.form
  clear hr
  subst hv
  go_enter Try.func3, Try.ntmps3
  go_wp2_with fail
  refine (lent_any w _ xs HR.out).mono ?_
  rintro e w1 ⟨g, cp, rfl, hl⟩
  have HL := Lib.hid hl
  clear hl
  go_wp2_with fail
  refine (check_any w1 _ xs (HL.out.ir HR.out.1)).mono ?_
  rintro e w2 ⟨rfl, hb2⟩
  have HL2 := Lib.hid (HL.out.keep hb2)
  clear hb2 HL
  go_wp2_with fail
  refine (encode_any w2 _ xs (HL2.out.ir HR.out.1)).mono ?_
  rintro e w3 ⟨rfl, hb3⟩
  have HL3 := Lib.hid (HL2.out.keep hb3)
  clear hb3 HL2
  go_wp2_with fail
  refine (rencode_any w3 _ xs (HR.out.below HL3.out.below)).mono ?_
  rintro e w4 ⟨rfl, hb4⟩
  have HL4 := Lib.hid (HL3.out.keep hb4)
  clear hb4 HL3
  go_wp2_with fail
  refine (rcheck_any w4 _ xs (HR.out.below HL4.out.below)).mono ?_
  rintro e w5 ⟨rfl, hb5⟩
  have HL5 := Lib.hid (HL4.out.keep hb5)
  clear hb5 HL4
  generalize chk xs = c at *
  generalize enc xs = s at *
  go_wp2_with fail
  refine (kept_any w _ g cp _ xs HL5.out (HR.out.below HL5.out.below)).mono ?_
  rintro e w6 ⟨rfl, hb6⟩
  have HL6 := Lib.hid (HL5.out.keep hb6)
  clear hb6 HL5
  go_wp2_with fail
  refine (awake_any w6).mono ?_
  rintro e w7 ⟨rfl, hb7⟩
  have HF : Hid (AwakePost w (.returned (.bool true)) w7) := ⟨rfl, below_next HL6.out.below hb7⟩
  clear hb7
  go_wp2_with fail
  go_ret
  exact HF.out
end Go.Proofs.Ytkgenhoaeiihoaa
