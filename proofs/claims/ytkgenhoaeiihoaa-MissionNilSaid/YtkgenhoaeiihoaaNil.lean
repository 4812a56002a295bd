/- The walk of MissionNil: true, in whatever world. No condition. -/
import Derived.Test.YtkgenhoaeiihoaaAwake
namespace Go.Proofs.Ytkgenhoaeiihoaa
open Go.RowKit
set_option maxRecDepth 100000 in
theorem nil_walk (w : World) (arr : Bool) : Calls Try.prog 8 #[.bool arr] w (AwakePost w) := by
  go_enter Try.func8, Try.ntmps8
  go_wp2_with fail
  refine (step_nil w arr).mono ?_
  rintro e w1 ⟨rfl, hw1⟩
  subst hw1
  go_wp2_with fail
  refine (goal_nil w1).mono ?_
  rintro e w2 ⟨rfl, hb2⟩
  have HB2 := Lib.hid hb2
  clear hb2
  unfold goalV
  go_wp2_with fail
  refine (index_nil w2).mono ?_
  rintro e w3 ⟨rfl, hw3⟩
  subst hw3
  go_wp2_with fail
  refine (over_nil w3).mono ?_
  rintro e w4 ⟨rfl, q, rfl⟩
  have HB4 : Hid (Below w1.heap.size w1 (w3.drewN q)) := below_next HB2.out (below_drewN w3 q)
  clear HB2
  generalize w3.drewN q = w4 at *
  go_wp2_with fail
  refine (awake_any w4).mono ?_
  rintro e w5 ⟨rfl, hb5⟩
  have HF : Hid (AwakePost w1 (.returned (.bool true)) w5) := ⟨rfl, below_next HB4.out hb5⟩
  clear hb5
  go_wp2_with fail
  go_ret
  exact HF.out
end Go.Proofs.Ytkgenhoaeiihoaa
