/- Unlike bytes added to one number, and one byte added to unlike numbers, lead to unlike numbers. No condition. -/
import Derived.Test.YtaemeebamfcbfaaRows
import Derived.Test.YtaemeebamfcbfaaWalks1
import Derived.WalkKit
import Derived.ProofKit
import Derived.OpenShut
import Derived.ShutString
import Derived.ChangeOld
import Derived.Below
import Derived.SizedLaws
import Derived.ChangeSlices
import Derived.Carry
import Derived.Lib.SmallJoins
import Derived.Lib.SmallJoins
namespace Go.Proofs.Ytaemeebamfcbfaa.CrcLosesNothingRowProof
open Go.ChangeShapes Go.WideShapes Go.ChangeAt Go.RowKit Go.Joins
open Go.ChangeMaps (open_string shut_string)
set_option linter.unusedVariables false
set_option linter.unusedSimpArgs false
theorem own : ownKnob Try.prog.godebug = none := by kernel_rfl
theorem laidOut : laidOutB Try.prog = true := by kernel_rfl
set_option maxRecDepth 100000 in
theorem lifted (os : Os) (started : os.Started) (H : Type) (enc : TypeId × Value → H) :
    ReturnsInHanded {} Try.checked os 6 .any (Rows.crcLosesNothingSpec.pre6 enc Try.prog Try.f6 Rows.crcLosesNothingRow.domain false) (Rows.crcLosesNothingSpec.post enc Try.prog Try.f6 false true false false) := by
  refine returnsInHanded_of_change_sized (C := Try.checked) own started (by kernel_rfl) Try.func6
    (ChangeSpec.witness6 (enc := enc) (C := Try.checked) false ⟨#[], #[.agg #[.int .u16 0, .int .u8 0], .agg #[.int .u16 0, .int .u8 0]], []⟩ 8 (by kernel_rfl) (by kernel_rfl) (by kernel_rfl) (by kernel_rfl)) ?_
  intro W base args ds gs before hval0 hW hcnd hsz0 _
  have hsz : (DataW.weightsEach Try.prog (Try.f6.params.toList ++ Rows.crcLosesNothingSpec.plain.varTypes Try.prog) (ds ++ gs)).all (· ≤ reachBytes) = true := hsz0
  have hval : ∀ (j : Nat) t v, Try.f6.params[j]? = some t → args[j]? = some v → Value.okWide Try.prog W .any base t v := hval0
  have hW' := hW
  obtain ⟨p, q, hA0, hV, rfl, hfz, hnd⟩ := hW
  have hA : DataW.TrodAll enc Try.prog W 0 (fun _ => true) true Try.f6.params.toList args.toList ds p := hA0
  rw [Try.params6] at hA hval hsz
  obtain ⟨v0, vs0, d0, ds0, p0, q0, hargs, rfl, rfl, h0, r0⟩ := trodAll_cons hA
  obtain ⟨v1, vs1, d1, ds1, p1, q1, rfl, rfl, rfl, h1, r1⟩ := trodAll_cons r0
  obtain ⟨rfl, rfl, rfl⟩ := trodAll_nil r1
  obtain rfl : args = #[v0, v1] := by cases args; simp_all
  obtain ⟨rfl, rfl⟩ := trodVars_none hV
  have k0 := h0
  have lt0 : ∀ x ∈ p0, x.block < W.heap.size := by obtain ⟨m, hm⟩ := k0; exact DataW.trod_lt m _ _ _ hm
  obtain ⟨vc0, vb0, yc0, yb0, n0, rfl, rfl, rfl, hc0, hb0⟩ := open_agg2 Try.underlying31 (by kernel_rfl) (by kernel_rfl) (hval 0 31 v0 rfl rfl) h0
  obtain ⟨c0, ec0, rfl, wc0⟩ := DataW.trod_int Try.underlying22 hc0
  obtain ⟨b0, eb0, rfl, wb0⟩ := DataW.trod_int Try.underlying5 hb0
  simp only [List.cons.injEq, and_true] at ec0 eb0
  subst ec0 eb0
  obtain ⟨lc0, uc0⟩ := bounds_u16 wc0
  obtain ⟨lb0, ub0⟩ := bounds_u8 wb0
  have k1 := h1
  have lt1 : ∀ x ∈ p1, x.block < W.heap.size := by obtain ⟨m, hm⟩ := k1; exact DataW.trod_lt m _ _ _ hm
  obtain ⟨vc1, vb1, yc1, yb1, n1, rfl, rfl, rfl, hc1, hb1⟩ := open_agg2 Try.underlying31 (by kernel_rfl) (by kernel_rfl) (hval 1 31 v1 rfl rfl) h1
  obtain ⟨c1, ec1, rfl, wc1⟩ := DataW.trod_int Try.underlying22 hc1
  obtain ⟨b1, eb1, rfl, wb1⟩ := DataW.trod_int Try.underlying5 hb1
  simp only [List.cons.injEq, and_true] at ec1 eb1
  subst ec1 eb1
  obtain ⟨lc1, uc1⟩ := bounds_u16 wc1
  obtain ⟨lb1, ub1⟩ := bounds_u8 wb1
  clear hA0 hval0 hsz0
  refine (loses_walk c0 c1 b0 b1 lc0 (by omega) lc1 (by omega) lb0 (by omega) lb1 (by omega) W).mono fun e W' ⟨he, bel⟩ => ?_
  subst he
  exact ⟨_, rfl, _, _, _, [], _, [], hW', trodAll_mk1 (shut_bool Try.underlying4 _), (trodAll_cons_mk (Below.trod laidOut (by kernel_rfl) (of_decide_eq_true (by kernel_rfl)) k0 bel lt0) (trodAll_cons_mk (Below.trod laidOut (by kernel_rfl) (of_decide_eq_true (by kernel_rfl)) k1 bel lt1) trodAll_mk0)), rfl, bel.frame _, fun h => by cases h⟩
theorem over : Rows.crcLosesNothingRow.holds Try.pinned (OpenSpec.ofChange Rows.crcLosesNothingSpec) :=
  OpenClaim.holds_of_wide 6 Try.f6 rfl rfl rfl rfl rfl rfl rfl ⟨rfl, rfl, rfl, rfl, rfl⟩ rfl rfl rfl rfl rfl (by kernel_rfl) Try.func6 (by kernel_rfl)
    (of_decide_eq_true (by kernel_rfl)) (by unfold Func.isWrapper; first | (rw [if_pos (by decide +kernel)]; kernel_rfl) | (rw [if_neg (by decide +kernel)]; exact ⟨rfl, rfl⟩))
    (fun os started H enc _ => lifted os started H enc)
end Go.Proofs.Ytaemeebamfcbfaa.CrcLosesNothingRowProof
namespace Go.Proofs.Ytaemeebamfcbfaa
theorem crcLosesNothing_holds : Rows.CrcLosesNothingSaid := CrcLosesNothingRowProof.over
end Go.Proofs.Ytaemeebamfcbfaa
