/-
  No cell of these rows narrows 'for every input' (looked for: loops, veiled, ifaces, maps, wideKeys, modest, calm, conditions, laid).
  DERIVED. THE GIVEN ROWS OF THIS SEAT. 7 by the template 'for every input the law returns true; each argument reads behind the call as it read before'; 0 by the template 'total and deterministic' (their statements: YtkgenhoaeiihoaaTotals.lean).
  GIVEN WITH THE SEED: the statements are not yours to turn. If you find one false, say at which input.
  Laid BY PROGRAM, IN A SANDBOX (cutbox-rows.mjs): the forced cells as the released guide's own fill.sh prints them over the translation c930806213279ddf… (all of the seat's roots in one cut). By AI agents, Wed Nov 11 2026. No macro, syntax, notation, axiom, sorry.
-/
import Derived.Test.YtkgenhoaeiihoaaChecked
import GoSem.Claim
import GoSem.ClaimJoined
import GoSem.ClaimMapViews
import Derived.JoinedTies
import Derived.KernelRfl
namespace Go.Proofs.Ytkgenhoaeiihoaa
/- THE CELL 'sum', in the pinned program and in every row, IS THE sha256 OF THE DUMP (.gsa) THAT YtkgenhoaeiihoaaProg.lean LOADS. Nothing in Lean hashes anything: it is a label: what it is worth is what the hold of that sum in a sandbox is worth. -/
noncomputable def Try.pinned : Pinned := { name := "ytkgenhoaeiihoaa", sum := "c930806213279ddfbbe9e017218ad70963248a69dc3b1b40d93cb28c72857b4f", checked := Try.checked }
namespace Rows
def none {H : Type} : Left H := { results := [], args := [] }

/-- 'windhoverlaw19.MissionChecks': WHATEVER THE INPUT: true; the input reads as it did. -/
def missionChecksSpec : ChangeSpec := { name := "missionChecks", fn := fun _ => fun
  | [d] => { results := [.lit (.bool true)], args := [d] }
  | _ => none }
def missionChecksRow : OpenClaim := { program := "ytkgenhoaeiihoaa", sum := "c930806213279ddfbbe9e017218ad70963248a69dc3b1b40d93cb28c72857b4f", func := "windhover/windhoverlaw19.MissionChecks", spec := "missionChecks", apart := false }
def MissionChecksSaid : Prop := missionChecksRow.holds Try.pinned (OpenSpec.ofChange missionChecksSpec)

/-- ITS FALSE NEIGHBOUR: 'it returns false'. Refute it at one input. -/
def missionChecksWrong : ChangeSpec := { name := "missionChecks", fn := fun _ => fun
  | [d] => { results := [.lit (.bool false)], args := [d] }
  | _ => none }
def MissionChecksWrongFalsely : Prop := missionChecksRow.holds Try.pinned (OpenSpec.ofChange missionChecksWrong)

/-- 'windhoverlaw19.MissionBack': WHATEVER THE INPUT: true; the input reads as it did. -/
def missionBackSpec : ChangeSpec := { name := "missionBack", fn := fun _ => fun
  | [d1, d2] => { results := [.lit (.bool true)], args := [d1, d2] }
  | _ => none }
def missionBackRow : OpenClaim := { program := "ytkgenhoaeiihoaa", sum := "c930806213279ddfbbe9e017218ad70963248a69dc3b1b40d93cb28c72857b4f", func := "windhover/windhoverlaw19.MissionBack", spec := "missionBack", apart := false }
def MissionBackSaid : Prop := missionBackRow.holds Try.pinned (OpenSpec.ofChange missionBackSpec)

/-- ITS FALSE NEIGHBOUR: 'it returns false'. Refute it at one input. -/
def missionBackWrong : ChangeSpec := { name := "missionBack", fn := fun _ => fun
  | [d1, d2] => { results := [.lit (.bool false)], args := [d1, d2] }
  | _ => none }
def MissionBackWrongFalsely : Prop := missionBackRow.holds Try.pinned (OpenSpec.ofChange missionBackWrong)

/-- 'windhoverlaw19.MissionRuns': WHATEVER THE INPUT: true; the input reads as it did. -/
def missionRunsSpec : ChangeSpec := { name := "missionRuns", fn := fun _ => fun
  | [d1, d2, d3] => { results := [.lit (.bool true)], args := [d1, d2, d3] }
  | _ => none }
def missionRunsRow : OpenClaim := { program := "ytkgenhoaeiihoaa", sum := "c930806213279ddfbbe9e017218ad70963248a69dc3b1b40d93cb28c72857b4f", func := "windhover/windhoverlaw19.MissionRuns", spec := "missionRuns", apart := false }
def MissionRunsSaid : Prop := missionRunsRow.holds Try.pinned (OpenSpec.ofChange missionRunsSpec)

/-- ITS FALSE NEIGHBOUR: 'it returns false'. Refute it at one input. -/
def missionRunsWrong : ChangeSpec := { name := "missionRuns", fn := fun _ => fun
  | [d1, d2, d3] => { results := [.lit (.bool false)], args := [d1, d2, d3] }
  | _ => none }
def MissionRunsWrongFalsely : Prop := missionRunsRow.holds Try.pinned (OpenSpec.ofChange missionRunsWrong)

/-- 'windhoverlaw19.MissionOrder': WHATEVER THE INPUT: true; the input reads as it did. -/
def missionOrderSpec : ChangeSpec := { name := "missionOrder", fn := fun _ => fun
  | [d] => { results := [.lit (.bool true)], args := [d] }
  | _ => none }
def missionOrderRow : OpenClaim := { program := "ytkgenhoaeiihoaa", sum := "c930806213279ddfbbe9e017218ad70963248a69dc3b1b40d93cb28c72857b4f", func := "windhover/windhoverlaw19.MissionOrder", spec := "missionOrder", apart := false }
def MissionOrderSaid : Prop := missionOrderRow.holds Try.pinned (OpenSpec.ofChange missionOrderSpec)

/-- ITS FALSE NEIGHBOUR: 'it returns false'. Refute it at one input. -/
def missionOrderWrong : ChangeSpec := { name := "missionOrder", fn := fun _ => fun
  | [d] => { results := [.lit (.bool false)], args := [d] }
  | _ => none }
def MissionOrderWrongFalsely : Prop := missionOrderRow.holds Try.pinned (OpenSpec.ofChange missionOrderWrong)

/-- 'windhoverlaw19.MissionRounds': WHATEVER THE INPUT: true; the input reads as it did. -/
def missionRoundsSpec : ChangeSpec := { name := "missionRounds", fn := fun _ => fun
  | [d1, d2] => { results := [.lit (.bool true)], args := [d1, d2] }
  | _ => none }
def missionRoundsRow : OpenClaim := { program := "ytkgenhoaeiihoaa", sum := "c930806213279ddfbbe9e017218ad70963248a69dc3b1b40d93cb28c72857b4f", func := "windhover/windhoverlaw19.MissionRounds", spec := "missionRounds", apart := false }
def MissionRoundsSaid : Prop := missionRoundsRow.holds Try.pinned (OpenSpec.ofChange missionRoundsSpec)

/-- ITS FALSE NEIGHBOUR: 'it returns false'. Refute it at one input. -/
def missionRoundsWrong : ChangeSpec := { name := "missionRounds", fn := fun _ => fun
  | [d1, d2] => { results := [.lit (.bool false)], args := [d1, d2] }
  | _ => none }
def MissionRoundsWrongFalsely : Prop := missionRoundsRow.holds Try.pinned (OpenSpec.ofChange missionRoundsWrong)

/-- 'windhoverlaw19.MissionNil': WHATEVER THE INPUT: true; the input reads as it did. -/
def missionNilSpec : ChangeSpec := { name := "missionNil", fn := fun _ => fun
  | [d] => { results := [.lit (.bool true)], args := [d] }
  | _ => none }
def missionNilRow : OpenClaim := { program := "ytkgenhoaeiihoaa", sum := "c930806213279ddfbbe9e017218ad70963248a69dc3b1b40d93cb28c72857b4f", func := "windhover/windhoverlaw19.MissionNil", spec := "missionNil", apart := false }
def MissionNilSaid : Prop := missionNilRow.holds Try.pinned (OpenSpec.ofChange missionNilSpec)

/-- ITS FALSE NEIGHBOUR: 'it returns false'. Refute it at one input. -/
def missionNilWrong : ChangeSpec := { name := "missionNil", fn := fun _ => fun
  | [d] => { results := [.lit (.bool false)], args := [d] }
  | _ => none }
def MissionNilWrongFalsely : Prop := missionNilRow.holds Try.pinned (OpenSpec.ofChange missionNilWrong)

/-- 'windhoverlaw19.MissionReads': WHATEVER THE INPUT: true; the input reads as it did. -/
def missionReadsSpec : ChangeSpec := { name := "missionReads", fn := fun _ => fun
  | [d1, d2] => { results := [.lit (.bool true)], args := [d1, d2] }
  | _ => none }
def missionReadsRow : OpenClaim := { program := "ytkgenhoaeiihoaa", sum := "c930806213279ddfbbe9e017218ad70963248a69dc3b1b40d93cb28c72857b4f", func := "windhover/windhoverlaw19.MissionReads", spec := "missionReads", apart := false }
def MissionReadsSaid : Prop := missionReadsRow.holds Try.pinned (OpenSpec.ofChange missionReadsSpec)

/-- ITS FALSE NEIGHBOUR: 'it returns false'. Refute it at one input. -/
def missionReadsWrong : ChangeSpec := { name := "missionReads", fn := fun _ => fun
  | [d1, d2] => { results := [.lit (.bool false)], args := [d1, d2] }
  | _ => none }
def MissionReadsWrongFalsely : Prop := missionReadsRow.holds Try.pinned (OpenSpec.ofChange missionReadsWrong)

/- THE SECOND FORM. 'bulk': how many values and letters a reading holds, each counted each time it is reached (what is shared counts as often as it is met; a slice's spare places count too). A statement '..UptoSaid' is the law's where the arguments, and the package variables that the reading takes, are together of bulk at most 1048576: NARROWER than '..Said'. Prove '..Said' where nothing that the law and all that it calls make is longer than what came in: it says more and counts as full. Else prove '..UptoSaid'. A law counts once. -/
mutual
def uptoBulk {H : Type} : DataW H → Nat
  | .lit (.string bytes) => bytes.length + 1
  | .lit _ => 1
  | .nil => 1
  | .ptr d => uptoBulk d + 1
  | .slice elems spare => uptoBulkAll elems + uptoBulkAll spare + 1
  | .agg parts => uptoBulkAll parts + 1
  | .iface _ d => uptoBulk d + 1
  | .map entries => uptoBulkEntries entries + 1
  | .held _ => 1
def uptoBulkAll {H : Type} : List (DataW H) → Nat
  | [] => 0
  | d :: r => uptoBulk d + uptoBulkAll r
def uptoBulkEntries {H : Type} : List (Lit × DataW H) → Nat
  | [] => 0
  | x :: r => uptoBulkEntry x + uptoBulkEntries r
def uptoBulkEntry {H : Type} : Lit × DataW H → Nat
  | (.string bytes, d) => bytes.length + uptoBulk d + 1
  | (_, d) => uptoBulk d + 1
 end
def uptoSmall : (H : Type) → List (DataW H) → Bool := fun _ ds => decide (uptoBulkAll ds ≤ 1048576)
def OpenSpec.upto (s : _root_.Go.ChangeSpec) : _root_.Go.OpenSpec := { _root_.Go.OpenSpec.ofChange s with cond := some uptoSmall }

/-- 'windhoverlaw19.MissionChecks', WHERE WHAT IT READS IS OF BULK AT MOST 1048576: true; the input reads as it did. -/
def missionChecksUptoRow : OpenClaim := { program := "ytkgenhoaeiihoaa", sum := "c930806213279ddfbbe9e017218ad70963248a69dc3b1b40d93cb28c72857b4f", func := "windhover/windhoverlaw19.MissionChecks", spec := "missionChecks", apart := false, narrowed := true }
def MissionChecksUptoSaid : Prop := missionChecksUptoRow.holds Try.pinned (OpenSpec.upto missionChecksSpec)

/-- 'windhoverlaw19.MissionBack', WHERE WHAT IT READS IS OF BULK AT MOST 1048576: true; the input reads as it did. -/
def missionBackUptoRow : OpenClaim := { program := "ytkgenhoaeiihoaa", sum := "c930806213279ddfbbe9e017218ad70963248a69dc3b1b40d93cb28c72857b4f", func := "windhover/windhoverlaw19.MissionBack", spec := "missionBack", apart := false, narrowed := true }
def MissionBackUptoSaid : Prop := missionBackUptoRow.holds Try.pinned (OpenSpec.upto missionBackSpec)

/-- 'windhoverlaw19.MissionRuns', WHERE WHAT IT READS IS OF BULK AT MOST 1048576: true; the input reads as it did. -/
def missionRunsUptoRow : OpenClaim := { program := "ytkgenhoaeiihoaa", sum := "c930806213279ddfbbe9e017218ad70963248a69dc3b1b40d93cb28c72857b4f", func := "windhover/windhoverlaw19.MissionRuns", spec := "missionRuns", apart := false, narrowed := true }
def MissionRunsUptoSaid : Prop := missionRunsUptoRow.holds Try.pinned (OpenSpec.upto missionRunsSpec)

/-- 'windhoverlaw19.MissionOrder', WHERE WHAT IT READS IS OF BULK AT MOST 1048576: true; the input reads as it did. -/
def missionOrderUptoRow : OpenClaim := { program := "ytkgenhoaeiihoaa", sum := "c930806213279ddfbbe9e017218ad70963248a69dc3b1b40d93cb28c72857b4f", func := "windhover/windhoverlaw19.MissionOrder", spec := "missionOrder", apart := false, narrowed := true }
def MissionOrderUptoSaid : Prop := missionOrderUptoRow.holds Try.pinned (OpenSpec.upto missionOrderSpec)

/-- 'windhoverlaw19.MissionRounds', WHERE WHAT IT READS IS OF BULK AT MOST 1048576: true; the input reads as it did. -/
def missionRoundsUptoRow : OpenClaim := { program := "ytkgenhoaeiihoaa", sum := "c930806213279ddfbbe9e017218ad70963248a69dc3b1b40d93cb28c72857b4f", func := "windhover/windhoverlaw19.MissionRounds", spec := "missionRounds", apart := false, narrowed := true }
def MissionRoundsUptoSaid : Prop := missionRoundsUptoRow.holds Try.pinned (OpenSpec.upto missionRoundsSpec)

/-- 'windhoverlaw19.MissionNil', WHERE WHAT IT READS IS OF BULK AT MOST 1048576: true; the input reads as it did. -/
def missionNilUptoRow : OpenClaim := { program := "ytkgenhoaeiihoaa", sum := "c930806213279ddfbbe9e017218ad70963248a69dc3b1b40d93cb28c72857b4f", func := "windhover/windhoverlaw19.MissionNil", spec := "missionNil", apart := false, narrowed := true }
def MissionNilUptoSaid : Prop := missionNilUptoRow.holds Try.pinned (OpenSpec.upto missionNilSpec)

/-- 'windhoverlaw19.MissionReads', WHERE WHAT IT READS IS OF BULK AT MOST 1048576: true; the input reads as it did. -/
def missionReadsUptoRow : OpenClaim := { program := "ytkgenhoaeiihoaa", sum := "c930806213279ddfbbe9e017218ad70963248a69dc3b1b40d93cb28c72857b4f", func := "windhover/windhoverlaw19.MissionReads", spec := "missionReads", apart := false, narrowed := true }
def MissionReadsUptoSaid : Prop := missionReadsUptoRow.holds Try.pinned (OpenSpec.upto missionReadsSpec)

end Rows
end Go.Proofs.Ytkgenhoaeiihoaa
