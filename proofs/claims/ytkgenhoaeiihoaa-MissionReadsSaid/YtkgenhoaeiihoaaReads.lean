/- The walk of MissionReads: true, in whatever world. Conditions: the text is within the reach of memory, the rows can be read. -/
import Derived.Test.YtkgenhoaeiihoaaAwake
import Derived.Test.YtkgenhoaeiihoaaRDec
import Derived.Test.YtkgenhoaeiihoaaROf
namespace Go.Proofs.Ytkgenhoaeiihoaa
open Go.RowKit
set_option maxRecDepth 100000 in
set_option maxHeartbeats 4000000 in
theorem reads_walk (w : World) (s : ByteArray) (v : Value) (rows : List (List Int)) (hs : s.size ≤ 140737488351232) (hr : RR w v rows) : Calls Try.prog 9 #[.string s, v] w (AwakePost w) := by
  have HR := Lib.hid hr
  obtain ⟨_, A, cap, hv, _⟩ := hr
  subst hv
  go_enter Try.func9, Try.ntmps9
  go_wp2_with fail
  refine (decode_any w s hs).mono ?_
  rintro e w1 ⟨va, rfl, hia, _, _, hb1⟩
  have HB1 := Lib.hid hb1
  have HA1 := Lib.hid hia
  clear hia hb1
  go_wp2_with fail
  refine (rdecode_any w1 s hs).mono ?_
  rintro e w2 ⟨vb, rfl, hib, _, _, hb2⟩
  have HA2 := Lib.hid (HA1.out.below hb2)
  have HB2 := Lib.hid (below_next HB1.out hb2)
  have HI2 := Lib.hid hib
  have HR2 := Lib.hid (HR.out.below HB2.out)
  clear hib hb2 HA1 HB1 HR
  go_wp2_with fail
  refine (of_any w2 _ rows HR2.out).mono ?_
  rintro e w3 ⟨vc, rfl, hic, hb3⟩
  have HA3 := Lib.hid (HA2.out.below hb3)
  have HI3 := Lib.hid (HI2.out.below hb3)
  have HR3 := Lib.hid (HR2.out.below hb3)
  have HC3 := Lib.hid hic
  have HB3 := Lib.hid (below_next HB2.out hb3)
  clear hic hb3 HA2 HI2 HR2 HB2
  go_wp2_with fail
  refine (rof_any w3 _ rows HR3.out).mono ?_
  rintro e w4 ⟨vd, rfl, hid4, hb4⟩
  have HA4 := Lib.hid (HA3.out.below hb4)
  have HI4 := Lib.hid (HI3.out.below hb4)
  have HC4 := Lib.hid (HC3.out.below hb4)
  have HD4 := Lib.hid hid4
  have HB4 := Lib.hid (below_next HB3.out hb4)
  clear hid4 hb4 HA3 HI3 HC3 HR3 HB3
  go_wp2_with fail
  refine (same_any w4 _ _ _ _ HA4.out HI4.out).mono ?_
  rintro e w5 ⟨rfl, q, rfl⟩
  rw [decide_eq_true rfl]
  have HB5 := Lib.hid (below_next HB4.out (below_drewN w4 q))
  have HC5 := Lib.hid (HC4.out.below (below_drewN w4 q))
  have HD5 := Lib.hid (HD4.out.below (below_drewN w4 q))
  clear HA4 HI4 HC4 HD4 HB4
  generalize w4.drewN q = w5 at *
  go_wp2_with fail
  refine (same_any w5 _ _ _ _ HC5.out HD5.out).mono ?_
  rintro e w6 ⟨rfl, q6, rfl⟩
  rw [decide_eq_true rfl]
  have HB6 := Lib.hid (below_next HB5.out (below_drewN w5 q6))
  clear HC5 HD5 HB5
  generalize w5.drewN q6 = w6 at *
  go_wp2_with fail
  refine (awake_any w6).mono ?_
  rintro e w7 ⟨rfl, hb7⟩
  have HF : Hid (AwakePost w (.returned (.bool true)) w7) := ⟨rfl, below_next HB6.out hb7⟩
  clear hb7
  go_wp2_with fail
  go_ret
  exact HF.out
end Go.Proofs.Ytkgenhoaeiihoaa
