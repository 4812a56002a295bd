/-
  No cell of these rows narrows 'for every input' (looked for: loops, veiled, ifaces, maps, wideKeys, modest, calm, conditions, laid).
  DERIVED. THE GIVEN ROWS OF THIS SEAT. 5 by the template 'for every input the law returns true; each argument reads behind the call as it read before'; 0 by the template 'total and deterministic' (their statements: YtgbogbmjefbkeaaTotals.lean).
  GIVEN WITH THE SEED: the statements are not yours to turn. If you find one false, say at which input.
  Laid BY PROGRAM, IN A SANDBOX (cutbox-rows.mjs): the forced cells as the released guide's own fill.sh prints them over the translation fbb30921f5a08ecc… (all of the seat's roots in one cut). By AI agents, Wed Nov 11 2026. No macro, syntax, notation, axiom, sorry.
-/
import Derived.Test.YtgbogbmjefbkeaaChecked
import GoSem.Claim
import GoSem.ClaimJoined
import GoSem.ClaimMapViews
import Derived.JoinedTies
import Derived.KernelRfl
namespace Go.Proofs.Ytgbogbmjefbkeaa
/- THE CELL 'sum', in the pinned program and in every row, IS THE sha256 OF THE DUMP (.gsa) THAT YtgbogbmjefbkeaaProg.lean LOADS. Nothing in Lean hashes anything: it is a label: what it is worth is what the hold of that sum in a sandbox is worth. -/
noncomputable def Try.pinned : Pinned := { name := "ytgbogbmjefbkeaa", sum := "fbb30921f5a08eccfde1f1d8e9044bf9744c19c078994ecf72cab0a837b101a5", checked := Try.checked }
namespace Rows
def none {H : Type} : Left H := { results := [], args := [] }

/-- 'windhoverlaw20.ModesFollow': WHATEVER THE INPUT: true; the input reads as it did. -/
def modesFollowSpec : ChangeSpec := { name := "modesFollow", fn := fun _ => fun
  | [d] => { results := [.lit (.bool true)], args := [d] }
  | _ => none }
def modesFollowRow : OpenClaim := { program := "ytgbogbmjefbkeaa", sum := "fbb30921f5a08eccfde1f1d8e9044bf9744c19c078994ecf72cab0a837b101a5", func := "windhover/windhoverlaw20.ModesFollow", spec := "modesFollow", unfollowed := true, recurses := true, apart := false }
def ModesFollowSaid : Prop := modesFollowRow.holds Try.pinned (OpenSpec.ofChange modesFollowSpec)

/-- ITS FALSE NEIGHBOUR: 'it returns false'. Refute it at one input. -/
def modesFollowWrong : ChangeSpec := { name := "modesFollow", fn := fun _ => fun
  | [d] => { results := [.lit (.bool false)], args := [d] }
  | _ => none }
def ModesFollowWrongFalsely : Prop := modesFollowRow.holds Try.pinned (OpenSpec.ofChange modesFollowWrong)

/-- 'windhoverlaw20.ModesLand': WHATEVER THE INPUT: true; the input reads as it did. -/
def modesLandSpec : ChangeSpec := { name := "modesLand", fn := fun _ => fun
  | [d] => { results := [.lit (.bool true)], args := [d] }
  | _ => none }
def modesLandRow : OpenClaim := { program := "ytgbogbmjefbkeaa", sum := "fbb30921f5a08eccfde1f1d8e9044bf9744c19c078994ecf72cab0a837b101a5", func := "windhover/windhoverlaw20.ModesLand", spec := "modesLand", unfollowed := true, recurses := true, apart := false }
def ModesLandSaid : Prop := modesLandRow.holds Try.pinned (OpenSpec.ofChange modesLandSpec)

/-- ITS FALSE NEIGHBOUR: 'it returns false'. Refute it at one input. -/
def modesLandWrong : ChangeSpec := { name := "modesLand", fn := fun _ => fun
  | [d] => { results := [.lit (.bool false)], args := [d] }
  | _ => none }
def ModesLandWrongFalsely : Prop := modesLandRow.holds Try.pinned (OpenSpec.ofChange modesLandWrong)

/-- 'windhoverlaw20.ModesCalm': WHATEVER THE INPUT: true; the input reads as it did. -/
def modesCalmSpec : ChangeSpec := { name := "modesCalm", fn := fun _ => fun
  | [d1, d2] => { results := [.lit (.bool true)], args := [d1, d2] }
  | _ => none }
def modesCalmRow : OpenClaim := { program := "ytgbogbmjefbkeaa", sum := "fbb30921f5a08eccfde1f1d8e9044bf9744c19c078994ecf72cab0a837b101a5", func := "windhover/windhoverlaw20.ModesCalm", spec := "modesCalm", unfollowed := true, recurses := true, apart := false }
def ModesCalmSaid : Prop := modesCalmRow.holds Try.pinned (OpenSpec.ofChange modesCalmSpec)

/-- ITS FALSE NEIGHBOUR: 'it returns false'. Refute it at one input. -/
def modesCalmWrong : ChangeSpec := { name := "modesCalm", fn := fun _ => fun
  | [d1, d2] => { results := [.lit (.bool false)], args := [d1, d2] }
  | _ => none }
def ModesCalmWrongFalsely : Prop := modesCalmRow.holds Try.pinned (OpenSpec.ofChange modesCalmWrong)

/-- 'windhoverlaw20.ModesNil': WHATEVER THE INPUT: true; the input reads as it did. -/
def modesNilSpec : ChangeSpec := { name := "modesNil", fn := fun _ => fun
  | [d] => { results := [.lit (.bool true)], args := [d] }
  | _ => none }
def modesNilRow : OpenClaim := { program := "ytgbogbmjefbkeaa", sum := "fbb30921f5a08eccfde1f1d8e9044bf9744c19c078994ecf72cab0a837b101a5", func := "windhover/windhoverlaw20.ModesNil", spec := "modesNil", unfollowed := true, recurses := true, apart := false }
def ModesNilSaid : Prop := modesNilRow.holds Try.pinned (OpenSpec.ofChange modesNilSpec)

/-- ITS FALSE NEIGHBOUR: 'it returns false'. Refute it at one input. -/
def modesNilWrong : ChangeSpec := { name := "modesNil", fn := fun _ => fun
  | [d] => { results := [.lit (.bool false)], args := [d] }
  | _ => none }
def ModesNilWrongFalsely : Prop := modesNilRow.holds Try.pinned (OpenSpec.ofChange modesNilWrong)

/-- 'windhoverlaw20.ModesLead': WHATEVER THE INPUT: true; the input reads as it did. -/
def modesLeadSpec : ChangeSpec := { name := "modesLead", fn := fun _ => fun
  | [d1, d2] => { results := [.lit (.bool true)], args := [d1, d2] }
  | _ => none }
def modesLeadRow : OpenClaim := { program := "ytgbogbmjefbkeaa", sum := "fbb30921f5a08eccfde1f1d8e9044bf9744c19c078994ecf72cab0a837b101a5", func := "windhover/windhoverlaw20.ModesLead", spec := "modesLead", unfollowed := true, recurses := true, apart := false }
def ModesLeadSaid : Prop := modesLeadRow.holds Try.pinned (OpenSpec.ofChange modesLeadSpec)

/-- ITS FALSE NEIGHBOUR: 'it returns false'. Refute it at one input. -/
def modesLeadWrong : ChangeSpec := { name := "modesLead", fn := fun _ => fun
  | [d1, d2] => { results := [.lit (.bool false)], args := [d1, d2] }
  | _ => none }
def ModesLeadWrongFalsely : Prop := modesLeadRow.holds Try.pinned (OpenSpec.ofChange modesLeadWrong)

/- THE SECOND FORM. 'bulk': how many values and letters a reading holds, each counted each time it is reached (what is shared counts as often as it is met; a slice's spare places count too). A statement '..UptoSaid' is the law's where the arguments, and the package variables that the reading takes, are together of bulk at most 1048576: NARROWER than '..Said'. Prove '..Said' where nothing that the law and all that it calls make is longer than what came in: it says more and counts as full. Else prove '..UptoSaid'. A law counts once. -/
mutual
def uptoBulk {H : Type} : DataW H → Nat
  | .lit (.string bytes) => bytes.length + 1
  | .lit _ => 1
  | .nil => 1
  | .ptr d => uptoBulk d + 1
  | .slice elems spare => uptoBulkAll elems + uptoBulkAll spare + 1
  | .agg parts => uptoBulkAll parts + 1
  | .iface _ d => uptoBulk d + 1
  | .map entries => uptoBulkEntries entries + 1
  | .held _ => 1
def uptoBulkAll {H : Type} : List (DataW H) → Nat
  | [] => 0
  | d :: r => uptoBulk d + uptoBulkAll r
def uptoBulkEntries {H : Type} : List (Lit × DataW H) → Nat
  | [] => 0
  | x :: r => uptoBulkEntry x + uptoBulkEntries r
def uptoBulkEntry {H : Type} : Lit × DataW H → Nat
  | (.string bytes, d) => bytes.length + uptoBulk d + 1
  | (_, d) => uptoBulk d + 1
 end
def uptoSmall : (H : Type) → List (DataW H) → Bool := fun _ ds => decide (uptoBulkAll ds ≤ 1048576)
def OpenSpec.upto (s : _root_.Go.ChangeSpec) : _root_.Go.OpenSpec := { _root_.Go.OpenSpec.ofChange s with cond := some uptoSmall }

/-- 'windhoverlaw20.ModesFollow', WHERE WHAT IT READS IS OF BULK AT MOST 1048576: true; the input reads as it did. -/
def modesFollowUptoRow : OpenClaim := { program := "ytgbogbmjefbkeaa", sum := "fbb30921f5a08eccfde1f1d8e9044bf9744c19c078994ecf72cab0a837b101a5", func := "windhover/windhoverlaw20.ModesFollow", spec := "modesFollow", unfollowed := true, recurses := true, apart := false, narrowed := true }
def ModesFollowUptoSaid : Prop := modesFollowUptoRow.holds Try.pinned (OpenSpec.upto modesFollowSpec)

/-- 'windhoverlaw20.ModesLand', WHERE WHAT IT READS IS OF BULK AT MOST 1048576: true; the input reads as it did. -/
def modesLandUptoRow : OpenClaim := { program := "ytgbogbmjefbkeaa", sum := "fbb30921f5a08eccfde1f1d8e9044bf9744c19c078994ecf72cab0a837b101a5", func := "windhover/windhoverlaw20.ModesLand", spec := "modesLand", unfollowed := true, recurses := true, apart := false, narrowed := true }
def ModesLandUptoSaid : Prop := modesLandUptoRow.holds Try.pinned (OpenSpec.upto modesLandSpec)

/-- 'windhoverlaw20.ModesCalm', WHERE WHAT IT READS IS OF BULK AT MOST 1048576: true; the input reads as it did. -/
def modesCalmUptoRow : OpenClaim := { program := "ytgbogbmjefbkeaa", sum := "fbb30921f5a08eccfde1f1d8e9044bf9744c19c078994ecf72cab0a837b101a5", func := "windhover/windhoverlaw20.ModesCalm", spec := "modesCalm", unfollowed := true, recurses := true, apart := false, narrowed := true }
def ModesCalmUptoSaid : Prop := modesCalmUptoRow.holds Try.pinned (OpenSpec.upto modesCalmSpec)

/-- 'windhoverlaw20.ModesNil', WHERE WHAT IT READS IS OF BULK AT MOST 1048576: true; the input reads as it did. -/
def modesNilUptoRow : OpenClaim := { program := "ytgbogbmjefbkeaa", sum := "fbb30921f5a08eccfde1f1d8e9044bf9744c19c078994ecf72cab0a837b101a5", func := "windhover/windhoverlaw20.ModesNil", spec := "modesNil", unfollowed := true, recurses := true, apart := false, narrowed := true }
def ModesNilUptoSaid : Prop := modesNilUptoRow.holds Try.pinned (OpenSpec.upto modesNilSpec)

/-- 'windhoverlaw20.ModesLead', WHERE WHAT IT READS IS OF BULK AT MOST 1048576: true; the input reads as it did. -/
def modesLeadUptoRow : OpenClaim := { program := "ytgbogbmjefbkeaa", sum := "fbb30921f5a08eccfde1f1d8e9044bf9744c19c078994ecf72cab0a837b101a5", func := "windhover/windhoverlaw20.ModesLead", spec := "modesLead", unfollowed := true, recurses := true, apart := false, narrowed := true }
def ModesLeadUptoSaid : Prop := modesLeadUptoRow.holds Try.pinned (OpenSpec.upto modesLeadSpec)

end Rows
end Go.Proofs.Ytgbogbmjefbkeaa
