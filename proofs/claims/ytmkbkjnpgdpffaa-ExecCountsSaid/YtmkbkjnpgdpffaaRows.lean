/-
  No cell of these rows narrows 'for every input' (looked for: loops, veiled, ifaces, maps, wideKeys, modest, calm, conditions, laid).
  DERIVED. THE GIVEN ROWS OF THIS SEAT. 4 by the template 'for every input the law returns true; each argument reads behind the call as it read before'; 0 by the template 'total and deterministic' (their statements: YtmkbkjnpgdpffaaTotals.lean).
  GIVEN WITH THE SEED: the statements are not yours to turn. If you find one false, say at which input.
  Laid BY PROGRAM, IN A SANDBOX (cutbox-rows.mjs): the forced cells as the released guide's own fill.sh prints them over the translation 520c4c47557e929e… (all of the seat's roots in one cut). By AI agents, Wed Nov 11 2026. No macro, syntax, notation, axiom, sorry.
-/
import Derived.Test.YtmkbkjnpgdpffaaChecked
import GoSem.Claim
import GoSem.ClaimJoined
import GoSem.ClaimMapViews
import Derived.JoinedTies
import Derived.KernelRfl
namespace Go.Proofs.Ytmkbkjnpgdpffaa
/- THE CELL 'sum', in the pinned program and in every row, IS THE sha256 OF THE DUMP (.gsa) THAT YtmkbkjnpgdpffaaProg.lean LOADS. Nothing in Lean hashes anything: it is a label: what it is worth is what the hold of that sum in a sandbox is worth. -/
noncomputable def Try.pinned : Pinned := { name := "ytmkbkjnpgdpffaa", sum := "520c4c47557e929e6f7b73ce10b612e7c99f1862fec6765fa43c6e7b900d2d7f", checked := Try.checked }
namespace Rows
def none {H : Type} : Left H := { results := [], args := [] }

/-- 'windhoverlaw22.ExecRuns': WHATEVER THE INPUT: true; the input reads as it did. -/
def execRunsSpec : ChangeSpec := { name := "execRuns", fn := fun _ => fun
  | [d1, d2] => { results := [.lit (.bool true)], args := [d1, d2] }
  | _ => none }
def execRunsRow : OpenClaim := { program := "ytmkbkjnpgdpffaa", sum := "520c4c47557e929e6f7b73ce10b612e7c99f1862fec6765fa43c6e7b900d2d7f", func := "windhover/windhoverlaw22.ExecRuns", spec := "execRuns", unfollowed := true, recurses := true, apart := false }
def ExecRunsSaid : Prop := execRunsRow.holds Try.pinned (OpenSpec.ofChange execRunsSpec)

/-- ITS FALSE NEIGHBOUR: 'it returns false'. Refute it at one input. -/
def execRunsWrong : ChangeSpec := { name := "execRuns", fn := fun _ => fun
  | [d1, d2] => { results := [.lit (.bool false)], args := [d1, d2] }
  | _ => none }
def ExecRunsWrongFalsely : Prop := execRunsRow.holds Try.pinned (OpenSpec.ofChange execRunsWrong)

/-- 'windhoverlaw22.ExecCounts': WHATEVER THE INPUT: true; the input reads as it did. -/
def execCountsSpec : ChangeSpec := { name := "execCounts", fn := fun _ => fun
  | [d1, d2] => { results := [.lit (.bool true)], args := [d1, d2] }
  | _ => none }
def execCountsRow : OpenClaim := { program := "ytmkbkjnpgdpffaa", sum := "520c4c47557e929e6f7b73ce10b612e7c99f1862fec6765fa43c6e7b900d2d7f", func := "windhover/windhoverlaw22.ExecCounts", spec := "execCounts", unfollowed := true, recurses := true, apart := false }
def ExecCountsSaid : Prop := execCountsRow.holds Try.pinned (OpenSpec.ofChange execCountsSpec)

/-- ITS FALSE NEIGHBOUR: 'it returns false'. Refute it at one input. -/
def execCountsWrong : ChangeSpec := { name := "execCounts", fn := fun _ => fun
  | [d1, d2] => { results := [.lit (.bool false)], args := [d1, d2] }
  | _ => none }
def ExecCountsWrongFalsely : Prop := execCountsRow.holds Try.pinned (OpenSpec.ofChange execCountsWrong)

/-- 'windhoverlaw22.ExecParts': WHATEVER THE INPUT: true; the input reads as it did. -/
def execPartsSpec : ChangeSpec := { name := "execParts", fn := fun _ => fun
  | [d1, d2, d3] => { results := [.lit (.bool true)], args := [d1, d2, d3] }
  | _ => none }
def execPartsRow : OpenClaim := { program := "ytmkbkjnpgdpffaa", sum := "520c4c47557e929e6f7b73ce10b612e7c99f1862fec6765fa43c6e7b900d2d7f", func := "windhover/windhoverlaw22.ExecParts", spec := "execParts", unfollowed := true, recurses := true, apart := false }
def ExecPartsSaid : Prop := execPartsRow.holds Try.pinned (OpenSpec.ofChange execPartsSpec)

/-- ITS FALSE NEIGHBOUR: 'it returns false'. Refute it at one input. -/
def execPartsWrong : ChangeSpec := { name := "execParts", fn := fun _ => fun
  | [d1, d2, d3] => { results := [.lit (.bool false)], args := [d1, d2, d3] }
  | _ => none }
def ExecPartsWrongFalsely : Prop := execPartsRow.holds Try.pinned (OpenSpec.ofChange execPartsWrong)

/-- 'windhoverlaw22.ExecNil': WHATEVER THE INPUT: true; the input reads as it did. -/
def execNilSpec : ChangeSpec := { name := "execNil", fn := fun _ => fun
  | [] => { results := [.lit (.bool true)], args := [] }
  | _ => none }
def execNilRow : OpenClaim := { program := "ytmkbkjnpgdpffaa", sum := "520c4c47557e929e6f7b73ce10b612e7c99f1862fec6765fa43c6e7b900d2d7f", func := "windhover/windhoverlaw22.ExecNil", spec := "execNil", unfollowed := true, recurses := true, apart := false }
def ExecNilSaid : Prop := execNilRow.holds Try.pinned (OpenSpec.ofChange execNilSpec)

/-- ITS FALSE NEIGHBOUR: 'it returns false'. Refute it at one input. -/
def execNilWrong : ChangeSpec := { name := "execNil", fn := fun _ => fun
  | [] => { results := [.lit (.bool false)], args := [] }
  | _ => none }
def ExecNilWrongFalsely : Prop := execNilRow.holds Try.pinned (OpenSpec.ofChange execNilWrong)

/- THE SECOND FORM. 'bulk': how many values and letters a reading holds, each counted each time it is reached (what is shared counts as often as it is met; a slice's spare places count too). A statement '..UptoSaid' is the law's where the arguments, and the package variables that the reading takes, are together of bulk at most 1048576: NARROWER than '..Said'. Prove '..Said' where nothing that the law and all that it calls make is longer than what came in: it says more and counts as full. Else prove '..UptoSaid'. A law counts once. -/
mutual
def uptoBulk {H : Type} : DataW H → Nat
  | .lit (.string bytes) => bytes.length + 1
  | .lit _ => 1
  | .nil => 1
  | .ptr d => uptoBulk d + 1
  | .slice elems spare => uptoBulkAll elems + uptoBulkAll spare + 1
  | .agg parts => uptoBulkAll parts + 1
  | .iface _ d => uptoBulk d + 1
  | .map entries => uptoBulkEntries entries + 1
  | .held _ => 1
def uptoBulkAll {H : Type} : List (DataW H) → Nat
  | [] => 0
  | d :: r => uptoBulk d + uptoBulkAll r
def uptoBulkEntries {H : Type} : List (Lit × DataW H) → Nat
  | [] => 0
  | x :: r => uptoBulkEntry x + uptoBulkEntries r
def uptoBulkEntry {H : Type} : Lit × DataW H → Nat
  | (.string bytes, d) => bytes.length + uptoBulk d + 1
  | (_, d) => uptoBulk d + 1
 end
def uptoSmall : (H : Type) → List (DataW H) → Bool := fun _ ds => decide (uptoBulkAll ds ≤ 1048576)
def OpenSpec.upto (s : _root_.Go.ChangeSpec) : _root_.Go.OpenSpec := { _root_.Go.OpenSpec.ofChange s with cond := some uptoSmall }

/-- 'windhoverlaw22.ExecRuns', WHERE WHAT IT READS IS OF BULK AT MOST 1048576: true; the input reads as it did. -/
def execRunsUptoRow : OpenClaim := { program := "ytmkbkjnpgdpffaa", sum := "520c4c47557e929e6f7b73ce10b612e7c99f1862fec6765fa43c6e7b900d2d7f", func := "windhover/windhoverlaw22.ExecRuns", spec := "execRuns", unfollowed := true, recurses := true, apart := false, narrowed := true }
def ExecRunsUptoSaid : Prop := execRunsUptoRow.holds Try.pinned (OpenSpec.upto execRunsSpec)

/-- 'windhoverlaw22.ExecCounts', WHERE WHAT IT READS IS OF BULK AT MOST 1048576: true; the input reads as it did. -/
def execCountsUptoRow : OpenClaim := { program := "ytmkbkjnpgdpffaa", sum := "520c4c47557e929e6f7b73ce10b612e7c99f1862fec6765fa43c6e7b900d2d7f", func := "windhover/windhoverlaw22.ExecCounts", spec := "execCounts", unfollowed := true, recurses := true, apart := false, narrowed := true }
def ExecCountsUptoSaid : Prop := execCountsUptoRow.holds Try.pinned (OpenSpec.upto execCountsSpec)

/-- 'windhoverlaw22.ExecParts', WHERE WHAT IT READS IS OF BULK AT MOST 1048576: true; the input reads as it did. -/
def execPartsUptoRow : OpenClaim := { program := "ytmkbkjnpgdpffaa", sum := "520c4c47557e929e6f7b73ce10b612e7c99f1862fec6765fa43c6e7b900d2d7f", func := "windhover/windhoverlaw22.ExecParts", spec := "execParts", unfollowed := true, recurses := true, apart := false, narrowed := true }
def ExecPartsUptoSaid : Prop := execPartsUptoRow.holds Try.pinned (OpenSpec.upto execPartsSpec)

/-- 'windhoverlaw22.ExecNil', WHERE WHAT IT READS IS OF BULK AT MOST 1048576: true; the input reads as it did. -/
def execNilUptoRow : OpenClaim := { program := "ytmkbkjnpgdpffaa", sum := "520c4c47557e929e6f7b73ce10b612e7c99f1862fec6765fa43c6e7b900d2d7f", func := "windhover/windhoverlaw22.ExecNil", spec := "execNil", unfollowed := true, recurses := true, apart := false, narrowed := true }
def ExecNilUptoSaid : Prop := execNilUptoRow.holds Try.pinned (OpenSpec.upto execNilSpec)

end Rows
end Go.Proofs.Ytmkbkjnpgdpffaa
