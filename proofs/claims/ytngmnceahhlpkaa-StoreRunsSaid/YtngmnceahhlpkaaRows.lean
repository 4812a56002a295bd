/-
  No cell of these rows narrows 'for every input' (looked for: loops, veiled, ifaces, maps, wideKeys, modest, calm, conditions, laid).
  DERIVED. THE GIVEN ROWS OF THIS SEAT. 12 by the template 'for every input the law returns true; each argument reads behind the call as it read before'; 0 by the template 'total and deterministic' (their statements: YtngmnceahhlpkaaTotals.lean).
  GIVEN WITH THE SEED: the statements are not yours to turn. If you find one false, say at which input.
  Laid BY PROGRAM, IN A SANDBOX (cutbox-rows.mjs): the forced cells as the released guide's own fill.sh prints them over the translation 1bdaf754b8c525e8… (all of the seat's roots in one cut). By AI agents, Wed Nov 11 2026. No macro, syntax, notation, axiom, sorry.
-/
import Derived.Test.YtngmnceahhlpkaaChecked
import GoSem.Claim
import GoSem.ClaimJoined
import GoSem.ClaimMapViews
import Derived.JoinedTies
import Derived.KernelRfl
namespace Go.Proofs.Ytngmnceahhlpkaa
/- THE CELL 'sum', in the pinned program and in every row, IS THE sha256 OF THE DUMP (.gsa) THAT YtngmnceahhlpkaaProg.lean LOADS. Nothing in Lean hashes anything: it is a label: what it is worth is what the hold of that sum in a sandbox is worth. -/
noncomputable def Try.pinned : Pinned := { name := "ytngmnceahhlpkaa", sum := "1bdaf754b8c525e81b2617e7f822d298251ac130230413d891f4da291843304f", checked := Try.checked }
namespace Rows
def none {H : Type} : Left H := { results := [], args := [] }

/-- 'windhoverlaw06.NorClears': WHATEVER THE INPUT: true; the input reads as it did. -/
def norClearsSpec : ChangeSpec := { name := "norClears", fn := fun _ => fun
  | [d1, d2, d3] => { results := [.lit (.bool true)], args := [d1, d2, d3] }
  | _ => none }
def norClearsRow : OpenClaim := { program := "ytngmnceahhlpkaa", sum := "1bdaf754b8c525e81b2617e7f822d298251ac130230413d891f4da291843304f", func := "windhover/windhoverlaw06.NorClears", spec := "norClears", apart := false }
def NorClearsSaid : Prop := norClearsRow.holds Try.pinned (OpenSpec.ofChange norClearsSpec)

/-- ITS FALSE NEIGHBOUR: 'it returns false'. Refute it at one input. -/
def norClearsWrong : ChangeSpec := { name := "norClears", fn := fun _ => fun
  | [d1, d2, d3] => { results := [.lit (.bool false)], args := [d1, d2, d3] }
  | _ => none }
def NorClearsWrongFalsely : Prop := norClearsRow.holds Try.pinned (OpenSpec.ofChange norClearsWrong)

/-- 'windhoverlaw06.NorNil': WHATEVER THE INPUT: true; the input reads as it did. -/
def norNilSpec : ChangeSpec := { name := "norNil", fn := fun _ => fun
  | [d1, d2] => { results := [.lit (.bool true)], args := [d1, d2] }
  | _ => none }
def norNilRow : OpenClaim := { program := "ytngmnceahhlpkaa", sum := "1bdaf754b8c525e81b2617e7f822d298251ac130230413d891f4da291843304f", func := "windhover/windhoverlaw06.NorNil", spec := "norNil", apart := false }
def NorNilSaid : Prop := norNilRow.holds Try.pinned (OpenSpec.ofChange norNilSpec)

/-- ITS FALSE NEIGHBOUR: 'it returns false'. Refute it at one input. -/
def norNilWrong : ChangeSpec := { name := "norNil", fn := fun _ => fun
  | [d1, d2] => { results := [.lit (.bool false)], args := [d1, d2] }
  | _ => none }
def NorNilWrongFalsely : Prop := norNilRow.holds Try.pinned (OpenSpec.ofChange norNilWrong)

/-- 'windhoverlaw06.NorPlays': WHATEVER THE INPUT: true; the input reads as it did. -/
def norPlaysSpec : ChangeSpec := { name := "norPlays", fn := fun _ => fun
  | [d1, d2] => { results := [.lit (.bool true)], args := [d1, d2] }
  | _ => none }
def norPlaysRow : OpenClaim := { program := "ytngmnceahhlpkaa", sum := "1bdaf754b8c525e81b2617e7f822d298251ac130230413d891f4da291843304f", func := "windhover/windhoverlaw06.NorPlays", spec := "norPlays", apart := false }
def NorPlaysSaid : Prop := norPlaysRow.holds Try.pinned (OpenSpec.ofChange norPlaysSpec)

/-- ITS FALSE NEIGHBOUR: 'it returns false'. Refute it at one input. -/
def norPlaysWrong : ChangeSpec := { name := "norPlays", fn := fun _ => fun
  | [d1, d2] => { results := [.lit (.bool false)], args := [d1, d2] }
  | _ => none }
def NorPlaysWrongFalsely : Prop := norPlaysRow.holds Try.pinned (OpenSpec.ofChange norPlaysWrong)

/-- 'windhoverlaw06.NorCuts': WHATEVER THE INPUT: true; the input reads as it did. -/
def norCutsSpec : ChangeSpec := { name := "norCuts", fn := fun _ => fun
  | [d1, d2] => { results := [.lit (.bool true)], args := [d1, d2] }
  | _ => none }
def norCutsRow : OpenClaim := { program := "ytngmnceahhlpkaa", sum := "1bdaf754b8c525e81b2617e7f822d298251ac130230413d891f4da291843304f", func := "windhover/windhoverlaw06.NorCuts", spec := "norCuts", apart := false }
def NorCutsSaid : Prop := norCutsRow.holds Try.pinned (OpenSpec.ofChange norCutsSpec)

/-- ITS FALSE NEIGHBOUR: 'it returns false'. Refute it at one input. -/
def norCutsWrong : ChangeSpec := { name := "norCuts", fn := fun _ => fun
  | [d1, d2] => { results := [.lit (.bool false)], args := [d1, d2] }
  | _ => none }
def NorCutsWrongFalsely : Prop := norCutsRow.holds Try.pinned (OpenSpec.ofChange norCutsWrong)

/-- 'windhoverlaw06.NorErases': WHATEVER THE INPUT: true; the input reads as it did. -/
def norErasesSpec : ChangeSpec := { name := "norErases", fn := fun _ => fun
  | [d1, d2, d3] => { results := [.lit (.bool true)], args := [d1, d2, d3] }
  | _ => none }
def norErasesRow : OpenClaim := { program := "ytngmnceahhlpkaa", sum := "1bdaf754b8c525e81b2617e7f822d298251ac130230413d891f4da291843304f", func := "windhover/windhoverlaw06.NorErases", spec := "norErases", apart := false }
def NorErasesSaid : Prop := norErasesRow.holds Try.pinned (OpenSpec.ofChange norErasesSpec)

/-- ITS FALSE NEIGHBOUR: 'it returns false'. Refute it at one input. -/
def norErasesWrong : ChangeSpec := { name := "norErases", fn := fun _ => fun
  | [d1, d2, d3] => { results := [.lit (.bool false)], args := [d1, d2, d3] }
  | _ => none }
def NorErasesWrongFalsely : Prop := norErasesRow.holds Try.pinned (OpenSpec.ofChange norErasesWrong)

/-- 'windhoverlaw06.NorNames': WHATEVER THE INPUT: true; the input reads as it did. -/
def norNamesSpec : ChangeSpec := { name := "norNames", fn := fun _ => fun
  | [] => { results := [.lit (.bool true)], args := [] }
  | _ => none }
def norNamesRow : OpenClaim := { program := "ytngmnceahhlpkaa", sum := "1bdaf754b8c525e81b2617e7f822d298251ac130230413d891f4da291843304f", func := "windhover/windhoverlaw06.NorNames", spec := "norNames", apart := false }
def NorNamesSaid : Prop := norNamesRow.holds Try.pinned (OpenSpec.ofChange norNamesSpec)

/-- ITS FALSE NEIGHBOUR: 'it returns false'. Refute it at one input. -/
def norNamesWrong : ChangeSpec := { name := "norNames", fn := fun _ => fun
  | [] => { results := [.lit (.bool false)], args := [] }
  | _ => none }
def NorNamesWrongFalsely : Prop := norNamesRow.holds Try.pinned (OpenSpec.ofChange norNamesWrong)

/-- 'windhoverlaw07.StoreNil': WHATEVER THE INPUT: true; the input reads as it did. -/
def storeNilSpec : ChangeSpec := { name := "storeNil", fn := fun _ => fun
  | [d1, d2] => { results := [.lit (.bool true)], args := [d1, d2] }
  | _ => none }
def storeNilRow : OpenClaim := { program := "ytngmnceahhlpkaa", sum := "1bdaf754b8c525e81b2617e7f822d298251ac130230413d891f4da291843304f", func := "windhover/windhoverlaw07.StoreNil", spec := "storeNil", unfollowed := true, recurses := true, apart := false }
def StoreNilSaid : Prop := storeNilRow.holds Try.pinned (OpenSpec.ofChange storeNilSpec)

/-- ITS FALSE NEIGHBOUR: 'it returns false'. Refute it at one input. -/
def storeNilWrong : ChangeSpec := { name := "storeNil", fn := fun _ => fun
  | [d1, d2] => { results := [.lit (.bool false)], args := [d1, d2] }
  | _ => none }
def StoreNilWrongFalsely : Prop := storeNilRow.holds Try.pinned (OpenSpec.ofChange storeNilWrong)

/-- 'windhoverlaw07.StoreKeeps': WHATEVER THE INPUT: true; the input reads as it did. -/
def storeKeepsSpec : ChangeSpec := { name := "storeKeeps", fn := fun _ => fun
  | [d] => { results := [.lit (.bool true)], args := [d] }
  | _ => none }
def storeKeepsRow : OpenClaim := { program := "ytngmnceahhlpkaa", sum := "1bdaf754b8c525e81b2617e7f822d298251ac130230413d891f4da291843304f", func := "windhover/windhoverlaw07.StoreKeeps", spec := "storeKeeps", unfollowed := true, recurses := true, apart := false }
def StoreKeepsSaid : Prop := storeKeepsRow.holds Try.pinned (OpenSpec.ofChange storeKeepsSpec)

/-- ITS FALSE NEIGHBOUR: 'it returns false'. Refute it at one input. -/
def storeKeepsWrong : ChangeSpec := { name := "storeKeeps", fn := fun _ => fun
  | [d] => { results := [.lit (.bool false)], args := [d] }
  | _ => none }
def StoreKeepsWrongFalsely : Prop := storeKeepsRow.holds Try.pinned (OpenSpec.ofChange storeKeepsWrong)

/-- 'windhoverlaw07.StoreNames': WHATEVER THE INPUT: true; the input reads as it did. -/
def storeNamesSpec : ChangeSpec := { name := "storeNames", fn := fun _ => fun
  | [] => { results := [.lit (.bool true)], args := [] }
  | _ => none }
def storeNamesRow : OpenClaim := { program := "ytngmnceahhlpkaa", sum := "1bdaf754b8c525e81b2617e7f822d298251ac130230413d891f4da291843304f", func := "windhover/windhoverlaw07.StoreNames", spec := "storeNames", unfollowed := true, recurses := true, apart := false }
def StoreNamesSaid : Prop := storeNamesRow.holds Try.pinned (OpenSpec.ofChange storeNamesSpec)

/-- ITS FALSE NEIGHBOUR: 'it returns false'. Refute it at one input. -/
def storeNamesWrong : ChangeSpec := { name := "storeNames", fn := fun _ => fun
  | [] => { results := [.lit (.bool false)], args := [] }
  | _ => none }
def StoreNamesWrongFalsely : Prop := storeNamesRow.holds Try.pinned (OpenSpec.ofChange storeNamesWrong)

/-- 'windhoverlaw07.StoreFull': WHATEVER THE INPUT: true; the input reads as it did. -/
def storeFullSpec : ChangeSpec := { name := "storeFull", fn := fun _ => fun
  | [d1, d2] => { results := [.lit (.bool true)], args := [d1, d2] }
  | _ => none }
def storeFullRow : OpenClaim := { program := "ytngmnceahhlpkaa", sum := "1bdaf754b8c525e81b2617e7f822d298251ac130230413d891f4da291843304f", func := "windhover/windhoverlaw07.StoreFull", spec := "storeFull", unfollowed := true, recurses := true, apart := false }
def StoreFullSaid : Prop := storeFullRow.holds Try.pinned (OpenSpec.ofChange storeFullSpec)

/-- ITS FALSE NEIGHBOUR: 'it returns false'. Refute it at one input. -/
def storeFullWrong : ChangeSpec := { name := "storeFull", fn := fun _ => fun
  | [d1, d2] => { results := [.lit (.bool false)], args := [d1, d2] }
  | _ => none }
def StoreFullWrongFalsely : Prop := storeFullRow.holds Try.pinned (OpenSpec.ofChange storeFullWrong)

/-- 'windhoverlaw07.StoreAny': WHATEVER THE INPUT: true; the input reads as it did. -/
def storeAnySpec : ChangeSpec := { name := "storeAny", fn := fun _ => fun
  | [d1, d2, d3] => { results := [.lit (.bool true)], args := [d1, d2, d3] }
  | _ => none }
def storeAnyRow : OpenClaim := { program := "ytngmnceahhlpkaa", sum := "1bdaf754b8c525e81b2617e7f822d298251ac130230413d891f4da291843304f", func := "windhover/windhoverlaw07.StoreAny", spec := "storeAny", unfollowed := true, recurses := true, apart := false }
def StoreAnySaid : Prop := storeAnyRow.holds Try.pinned (OpenSpec.ofChange storeAnySpec)

/-- ITS FALSE NEIGHBOUR: 'it returns false'. Refute it at one input. -/
def storeAnyWrong : ChangeSpec := { name := "storeAny", fn := fun _ => fun
  | [d1, d2, d3] => { results := [.lit (.bool false)], args := [d1, d2, d3] }
  | _ => none }
def StoreAnyWrongFalsely : Prop := storeAnyRow.holds Try.pinned (OpenSpec.ofChange storeAnyWrong)

/-- 'windhoverlaw07.StoreRuns': WHATEVER THE INPUT: true; the input reads as it did. -/
def storeRunsSpec : ChangeSpec := { name := "storeRuns", fn := fun _ => fun
  | [d1, d2] => { results := [.lit (.bool true)], args := [d1, d2] }
  | _ => none }
def storeRunsRow : OpenClaim := { program := "ytngmnceahhlpkaa", sum := "1bdaf754b8c525e81b2617e7f822d298251ac130230413d891f4da291843304f", func := "windhover/windhoverlaw07.StoreRuns", spec := "storeRuns", unfollowed := true, recurses := true, apart := false }
def StoreRunsSaid : Prop := storeRunsRow.holds Try.pinned (OpenSpec.ofChange storeRunsSpec)

/-- ITS FALSE NEIGHBOUR: 'it returns false'. Refute it at one input. -/
def storeRunsWrong : ChangeSpec := { name := "storeRuns", fn := fun _ => fun
  | [d1, d2] => { results := [.lit (.bool false)], args := [d1, d2] }
  | _ => none }
def StoreRunsWrongFalsely : Prop := storeRunsRow.holds Try.pinned (OpenSpec.ofChange storeRunsWrong)

/- THE SECOND FORM. 'bulk': how many values and letters a reading holds, each counted each time it is reached (what is shared counts as often as it is met; a slice's spare places count too). A statement '..UptoSaid' is the law's where the arguments, and the package variables that the reading takes, are together of bulk at most 1048576: NARROWER than '..Said'. Prove '..Said' where nothing that the law and all that it calls make is longer than what came in: it says more and counts as full. Else prove '..UptoSaid'. A law counts once. -/
mutual
def uptoBulk {H : Type} : DataW H → Nat
  | .lit (.string bytes) => bytes.length + 1
  | .lit _ => 1
  | .nil => 1
  | .ptr d => uptoBulk d + 1
  | .slice elems spare => uptoBulkAll elems + uptoBulkAll spare + 1
  | .agg parts => uptoBulkAll parts + 1
  | .iface _ d => uptoBulk d + 1
  | .map entries => uptoBulkEntries entries + 1
  | .held _ => 1
def uptoBulkAll {H : Type} : List (DataW H) → Nat
  | [] => 0
  | d :: r => uptoBulk d + uptoBulkAll r
def uptoBulkEntries {H : Type} : List (Lit × DataW H) → Nat
  | [] => 0
  | x :: r => uptoBulkEntry x + uptoBulkEntries r
def uptoBulkEntry {H : Type} : Lit × DataW H → Nat
  | (.string bytes, d) => bytes.length + uptoBulk d + 1
  | (_, d) => uptoBulk d + 1
 end
def uptoSmall : (H : Type) → List (DataW H) → Bool := fun _ ds => decide (uptoBulkAll ds ≤ 1048576)
def OpenSpec.upto (s : _root_.Go.ChangeSpec) : _root_.Go.OpenSpec := { _root_.Go.OpenSpec.ofChange s with cond := some uptoSmall }

/-- 'windhoverlaw06.NorClears', WHERE WHAT IT READS IS OF BULK AT MOST 1048576: true; the input reads as it did. -/
def norClearsUptoRow : OpenClaim := { program := "ytngmnceahhlpkaa", sum := "1bdaf754b8c525e81b2617e7f822d298251ac130230413d891f4da291843304f", func := "windhover/windhoverlaw06.NorClears", spec := "norClears", apart := false, narrowed := true }
def NorClearsUptoSaid : Prop := norClearsUptoRow.holds Try.pinned (OpenSpec.upto norClearsSpec)

/-- 'windhoverlaw06.NorNil', WHERE WHAT IT READS IS OF BULK AT MOST 1048576: true; the input reads as it did. -/
def norNilUptoRow : OpenClaim := { program := "ytngmnceahhlpkaa", sum := "1bdaf754b8c525e81b2617e7f822d298251ac130230413d891f4da291843304f", func := "windhover/windhoverlaw06.NorNil", spec := "norNil", apart := false, narrowed := true }
def NorNilUptoSaid : Prop := norNilUptoRow.holds Try.pinned (OpenSpec.upto norNilSpec)

/-- 'windhoverlaw06.NorPlays', WHERE WHAT IT READS IS OF BULK AT MOST 1048576: true; the input reads as it did. -/
def norPlaysUptoRow : OpenClaim := { program := "ytngmnceahhlpkaa", sum := "1bdaf754b8c525e81b2617e7f822d298251ac130230413d891f4da291843304f", func := "windhover/windhoverlaw06.NorPlays", spec := "norPlays", apart := false, narrowed := true }
def NorPlaysUptoSaid : Prop := norPlaysUptoRow.holds Try.pinned (OpenSpec.upto norPlaysSpec)

/-- 'windhoverlaw06.NorCuts', WHERE WHAT IT READS IS OF BULK AT MOST 1048576: true; the input reads as it did. -/
def norCutsUptoRow : OpenClaim := { program := "ytngmnceahhlpkaa", sum := "1bdaf754b8c525e81b2617e7f822d298251ac130230413d891f4da291843304f", func := "windhover/windhoverlaw06.NorCuts", spec := "norCuts", apart := false, narrowed := true }
def NorCutsUptoSaid : Prop := norCutsUptoRow.holds Try.pinned (OpenSpec.upto norCutsSpec)

/-- 'windhoverlaw06.NorErases', WHERE WHAT IT READS IS OF BULK AT MOST 1048576: true; the input reads as it did. -/
def norErasesUptoRow : OpenClaim := { program := "ytngmnceahhlpkaa", sum := "1bdaf754b8c525e81b2617e7f822d298251ac130230413d891f4da291843304f", func := "windhover/windhoverlaw06.NorErases", spec := "norErases", apart := false, narrowed := true }
def NorErasesUptoSaid : Prop := norErasesUptoRow.holds Try.pinned (OpenSpec.upto norErasesSpec)

/-- 'windhoverlaw06.NorNames', WHERE WHAT IT READS IS OF BULK AT MOST 1048576: true; the input reads as it did. -/
def norNamesUptoRow : OpenClaim := { program := "ytngmnceahhlpkaa", sum := "1bdaf754b8c525e81b2617e7f822d298251ac130230413d891f4da291843304f", func := "windhover/windhoverlaw06.NorNames", spec := "norNames", apart := false, narrowed := true }
def NorNamesUptoSaid : Prop := norNamesUptoRow.holds Try.pinned (OpenSpec.upto norNamesSpec)

/-- 'windhoverlaw07.StoreNil', WHERE WHAT IT READS IS OF BULK AT MOST 1048576: true; the input reads as it did. -/
def storeNilUptoRow : OpenClaim := { program := "ytngmnceahhlpkaa", sum := "1bdaf754b8c525e81b2617e7f822d298251ac130230413d891f4da291843304f", func := "windhover/windhoverlaw07.StoreNil", spec := "storeNil", unfollowed := true, recurses := true, apart := false, narrowed := true }
def StoreNilUptoSaid : Prop := storeNilUptoRow.holds Try.pinned (OpenSpec.upto storeNilSpec)

/-- 'windhoverlaw07.StoreKeeps', WHERE WHAT IT READS IS OF BULK AT MOST 1048576: true; the input reads as it did. -/
def storeKeepsUptoRow : OpenClaim := { program := "ytngmnceahhlpkaa", sum := "1bdaf754b8c525e81b2617e7f822d298251ac130230413d891f4da291843304f", func := "windhover/windhoverlaw07.StoreKeeps", spec := "storeKeeps", unfollowed := true, recurses := true, apart := false, narrowed := true }
def StoreKeepsUptoSaid : Prop := storeKeepsUptoRow.holds Try.pinned (OpenSpec.upto storeKeepsSpec)

/-- 'windhoverlaw07.StoreNames', WHERE WHAT IT READS IS OF BULK AT MOST 1048576: true; the input reads as it did. -/
def storeNamesUptoRow : OpenClaim := { program := "ytngmnceahhlpkaa", sum := "1bdaf754b8c525e81b2617e7f822d298251ac130230413d891f4da291843304f", func := "windhover/windhoverlaw07.StoreNames", spec := "storeNames", unfollowed := true, recurses := true, apart := false, narrowed := true }
def StoreNamesUptoSaid : Prop := storeNamesUptoRow.holds Try.pinned (OpenSpec.upto storeNamesSpec)

/-- 'windhoverlaw07.StoreFull', WHERE WHAT IT READS IS OF BULK AT MOST 1048576: true; the input reads as it did. -/
def storeFullUptoRow : OpenClaim := { program := "ytngmnceahhlpkaa", sum := "1bdaf754b8c525e81b2617e7f822d298251ac130230413d891f4da291843304f", func := "windhover/windhoverlaw07.StoreFull", spec := "storeFull", unfollowed := true, recurses := true, apart := false, narrowed := true }
def StoreFullUptoSaid : Prop := storeFullUptoRow.holds Try.pinned (OpenSpec.upto storeFullSpec)

/-- 'windhoverlaw07.StoreAny', WHERE WHAT IT READS IS OF BULK AT MOST 1048576: true; the input reads as it did. -/
def storeAnyUptoRow : OpenClaim := { program := "ytngmnceahhlpkaa", sum := "1bdaf754b8c525e81b2617e7f822d298251ac130230413d891f4da291843304f", func := "windhover/windhoverlaw07.StoreAny", spec := "storeAny", unfollowed := true, recurses := true, apart := false, narrowed := true }
def StoreAnyUptoSaid : Prop := storeAnyUptoRow.holds Try.pinned (OpenSpec.upto storeAnySpec)

/-- 'windhoverlaw07.StoreRuns', WHERE WHAT IT READS IS OF BULK AT MOST 1048576: true; the input reads as it did. -/
def storeRunsUptoRow : OpenClaim := { program := "ytngmnceahhlpkaa", sum := "1bdaf754b8c525e81b2617e7f822d298251ac130230413d891f4da291843304f", func := "windhover/windhoverlaw07.StoreRuns", spec := "storeRuns", unfollowed := true, recurses := true, apart := false, narrowed := true }
def StoreRunsUptoSaid : Prop := storeRunsUptoRow.holds Try.pinned (OpenSpec.upto storeRunsSpec)

end Rows
end Go.Proofs.Ytngmnceahhlpkaa
