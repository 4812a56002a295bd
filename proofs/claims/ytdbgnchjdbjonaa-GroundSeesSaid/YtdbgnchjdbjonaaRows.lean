/-
  No cell of these rows narrows 'for every input' (looked for: loops, veiled, ifaces, maps, wideKeys, modest, calm, conditions, laid).
  DERIVED. THE GIVEN ROWS OF THIS SEAT. 4 by the template 'for every input the law returns true; each argument reads behind the call as it read before'; 0 by the template 'total and deterministic' (their statements: YtdbgnchjdbjonaaTotals.lean).
  GIVEN WITH THE SEED: the statements are not yours to turn. If you find one false, say at which input.
  Laid BY PROGRAM, IN A SANDBOX (cutbox-rows.mjs): the forced cells as the released guide's own fill.sh prints them over the translation a3b29abe696482be… (all of the seat's roots in one cut). By AI agents, Wed Nov 11 2026. No macro, syntax, notation, axiom, sorry.
-/
import Derived.Test.YtdbgnchjdbjonaaChecked
import GoSem.Claim
import GoSem.ClaimJoined
import GoSem.ClaimMapViews
import Derived.JoinedTies
import Derived.KernelRfl
namespace Go.Proofs.Ytdbgnchjdbjonaa
/- THE CELL 'sum', in the pinned program and in every row, IS THE sha256 OF THE DUMP (.gsa) THAT YtdbgnchjdbjonaaProg.lean LOADS. Nothing in Lean hashes anything: it is a label: what it is worth is what the hold of that sum in a sandbox is worth. -/
noncomputable def Try.pinned : Pinned := { name := "ytdbgnchjdbjonaa", sum := "a3b29abe696482be4a0a7d7c7ea22ef736ef86a7158752753ab7d7993cf4e0e2", checked := Try.checked }
namespace Rows
def none {H : Type} : Left H := { results := [], args := [] }

/-- 'windhoverlaw15.GroundSees': WHATEVER THE INPUT: true; the input reads as it did. -/
def groundSeesSpec : ChangeSpec := { name := "groundSees", fn := fun _ => fun
  | [d] => { results := [.lit (.bool true)], args := [d] }
  | _ => none }
def groundSeesRow : OpenClaim := { program := "ytdbgnchjdbjonaa", sum := "a3b29abe696482be4a0a7d7c7ea22ef736ef86a7158752753ab7d7993cf4e0e2", func := "windhover/windhoverlaw15.GroundSees", spec := "groundSees", unfollowed := true, recurses := true, apart := false }
def GroundSeesSaid : Prop := groundSeesRow.holds Try.pinned (OpenSpec.ofChange groundSeesSpec)

/-- ITS FALSE NEIGHBOUR: 'it returns false'. Refute it at one input. -/
def groundSeesWrong : ChangeSpec := { name := "groundSees", fn := fun _ => fun
  | [d] => { results := [.lit (.bool false)], args := [d] }
  | _ => none }
def GroundSeesWrongFalsely : Prop := groundSeesRow.holds Try.pinned (OpenSpec.ofChange groundSeesWrong)

/-- 'windhoverlaw15.GroundNever': WHATEVER THE INPUT: true; the input reads as it did. -/
def groundNeverSpec : ChangeSpec := { name := "groundNever", fn := fun _ => fun
  | [d1, d2] => { results := [.lit (.bool true)], args := [d1, d2] }
  | _ => none }
def groundNeverRow : OpenClaim := { program := "ytdbgnchjdbjonaa", sum := "a3b29abe696482be4a0a7d7c7ea22ef736ef86a7158752753ab7d7993cf4e0e2", func := "windhover/windhoverlaw15.GroundNever", spec := "groundNever", unfollowed := true, recurses := true, apart := false }
def GroundNeverSaid : Prop := groundNeverRow.holds Try.pinned (OpenSpec.ofChange groundNeverSpec)

/-- ITS FALSE NEIGHBOUR: 'it returns false'. Refute it at one input. -/
def groundNeverWrong : ChangeSpec := { name := "groundNever", fn := fun _ => fun
  | [d1, d2] => { results := [.lit (.bool false)], args := [d1, d2] }
  | _ => none }
def GroundNeverWrongFalsely : Prop := groundNeverRow.holds Try.pinned (OpenSpec.ofChange groundNeverWrong)

/-- 'windhoverlaw15.GroundTwo': WHATEVER THE INPUT: true; the input reads as it did. -/
def groundTwoSpec : ChangeSpec := { name := "groundTwo", fn := fun _ => fun
  | [d] => { results := [.lit (.bool true)], args := [d] }
  | _ => none }
def groundTwoRow : OpenClaim := { program := "ytdbgnchjdbjonaa", sum := "a3b29abe696482be4a0a7d7c7ea22ef736ef86a7158752753ab7d7993cf4e0e2", func := "windhover/windhoverlaw15.GroundTwo", spec := "groundTwo", unfollowed := true, recurses := true, apart := false }
def GroundTwoSaid : Prop := groundTwoRow.holds Try.pinned (OpenSpec.ofChange groundTwoSpec)

/-- ITS FALSE NEIGHBOUR: 'it returns false'. Refute it at one input. -/
def groundTwoWrong : ChangeSpec := { name := "groundTwo", fn := fun _ => fun
  | [d] => { results := [.lit (.bool false)], args := [d] }
  | _ => none }
def GroundTwoWrongFalsely : Prop := groundTwoRow.holds Try.pinned (OpenSpec.ofChange groundTwoWrong)

/-- 'windhoverlaw15.GroundNil': WHATEVER THE INPUT: true; the input reads as it did. -/
def groundNilSpec : ChangeSpec := { name := "groundNil", fn := fun _ => fun
  | [d] => { results := [.lit (.bool true)], args := [d] }
  | _ => none }
def groundNilRow : OpenClaim := { program := "ytdbgnchjdbjonaa", sum := "a3b29abe696482be4a0a7d7c7ea22ef736ef86a7158752753ab7d7993cf4e0e2", func := "windhover/windhoverlaw15.GroundNil", spec := "groundNil", unfollowed := true, recurses := true, apart := false }
def GroundNilSaid : Prop := groundNilRow.holds Try.pinned (OpenSpec.ofChange groundNilSpec)

/-- ITS FALSE NEIGHBOUR: 'it returns false'. Refute it at one input. -/
def groundNilWrong : ChangeSpec := { name := "groundNil", fn := fun _ => fun
  | [d] => { results := [.lit (.bool false)], args := [d] }
  | _ => none }
def GroundNilWrongFalsely : Prop := groundNilRow.holds Try.pinned (OpenSpec.ofChange groundNilWrong)

/- THE SECOND FORM. 'bulk': how many values and letters a reading holds, each counted each time it is reached (what is shared counts as often as it is met; a slice's spare places count too). A statement '..UptoSaid' is the law's where the arguments, and the package variables that the reading takes, are together of bulk at most 1048576: NARROWER than '..Said'. Prove '..Said' where nothing that the law and all that it calls make is longer than what came in: it says more and counts as full. Else prove '..UptoSaid'. A law counts once. -/
mutual
def uptoBulk {H : Type} : DataW H → Nat
  | .lit (.string bytes) => bytes.length + 1
  | .lit _ => 1
  | .nil => 1
  | .ptr d => uptoBulk d + 1
  | .slice elems spare => uptoBulkAll elems + uptoBulkAll spare + 1
  | .agg parts => uptoBulkAll parts + 1
  | .iface _ d => uptoBulk d + 1
  | .map entries => uptoBulkEntries entries + 1
  | .held _ => 1
def uptoBulkAll {H : Type} : List (DataW H) → Nat
  | [] => 0
  | d :: r => uptoBulk d + uptoBulkAll r
def uptoBulkEntries {H : Type} : List (Lit × DataW H) → Nat
  | [] => 0
  | x :: r => uptoBulkEntry x + uptoBulkEntries r
def uptoBulkEntry {H : Type} : Lit × DataW H → Nat
  | (.string bytes, d) => bytes.length + uptoBulk d + 1
  | (_, d) => uptoBulk d + 1
 end
def uptoSmall : (H : Type) → List (DataW H) → Bool := fun _ ds => decide (uptoBulkAll ds ≤ 1048576)
def OpenSpec.upto (s : _root_.Go.ChangeSpec) : _root_.Go.OpenSpec := { _root_.Go.OpenSpec.ofChange s with cond := some uptoSmall }

/-- 'windhoverlaw15.GroundSees', WHERE WHAT IT READS IS OF BULK AT MOST 1048576: true; the input reads as it did. -/
def groundSeesUptoRow : OpenClaim := { program := "ytdbgnchjdbjonaa", sum := "a3b29abe696482be4a0a7d7c7ea22ef736ef86a7158752753ab7d7993cf4e0e2", func := "windhover/windhoverlaw15.GroundSees", spec := "groundSees", unfollowed := true, recurses := true, apart := false, narrowed := true }
def GroundSeesUptoSaid : Prop := groundSeesUptoRow.holds Try.pinned (OpenSpec.upto groundSeesSpec)

/-- 'windhoverlaw15.GroundNever', WHERE WHAT IT READS IS OF BULK AT MOST 1048576: true; the input reads as it did. -/
def groundNeverUptoRow : OpenClaim := { program := "ytdbgnchjdbjonaa", sum := "a3b29abe696482be4a0a7d7c7ea22ef736ef86a7158752753ab7d7993cf4e0e2", func := "windhover/windhoverlaw15.GroundNever", spec := "groundNever", unfollowed := true, recurses := true, apart := false, narrowed := true }
def GroundNeverUptoSaid : Prop := groundNeverUptoRow.holds Try.pinned (OpenSpec.upto groundNeverSpec)

/-- 'windhoverlaw15.GroundTwo', WHERE WHAT IT READS IS OF BULK AT MOST 1048576: true; the input reads as it did. -/
def groundTwoUptoRow : OpenClaim := { program := "ytdbgnchjdbjonaa", sum := "a3b29abe696482be4a0a7d7c7ea22ef736ef86a7158752753ab7d7993cf4e0e2", func := "windhover/windhoverlaw15.GroundTwo", spec := "groundTwo", unfollowed := true, recurses := true, apart := false, narrowed := true }
def GroundTwoUptoSaid : Prop := groundTwoUptoRow.holds Try.pinned (OpenSpec.upto groundTwoSpec)

/-- 'windhoverlaw15.GroundNil', WHERE WHAT IT READS IS OF BULK AT MOST 1048576: true; the input reads as it did. -/
def groundNilUptoRow : OpenClaim := { program := "ytdbgnchjdbjonaa", sum := "a3b29abe696482be4a0a7d7c7ea22ef736ef86a7158752753ab7d7993cf4e0e2", func := "windhover/windhoverlaw15.GroundNil", spec := "groundNil", unfollowed := true, recurses := true, apart := false, narrowed := true }
def GroundNilUptoSaid : Prop := groundNilUptoRow.holds Try.pinned (OpenSpec.upto groundNilSpec)

end Rows
end Go.Proofs.Ytdbgnchjdbjonaa
