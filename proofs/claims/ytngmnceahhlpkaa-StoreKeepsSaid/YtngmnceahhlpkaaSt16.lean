/- The walk of StoreKeeps over its argument. Conditions: texts are within the reach of memory. -/
import Derived.Test.YtngmnceahhlpkaaSt14
import Derived.Test.YtngmnceahhlpkaaSt15
namespace Go.Proofs.Ytngmnceahhlpkaa
open Go.ChangeShapes Go.WideShapes Go.Deep Go.RowKit
theorem storeKeeps_walk {H : Type} {enc : TypeId × Value → H} (A : Option Addr) (len cap : Nat) (d : DataW H) (p : List MemPlace) (w : World) {ts : List TypeId} {ds : List (DataW H)} (hsz : (DataW.weightsEach Try.prog ts ds).all (· ≤ reachBytes) = true)
    (hj : ts[0]? = some 54) (hd : ds[0]? = some d) (h : DataW.Trod enc Try.prog w 0 (fun _ => true) true 54 (.slice A len cap) d p) :
    Calls Try.prog 10 #[.slice A len cap] w fun e w' => e = .returned (.bool true) ∧ Below w.heap.size w w' :=
  storeKeeps_any w A len cap (deeds_read (reach_of hsz hj hd) h)
end Go.Proofs.Ytngmnceahhlpkaa
