/- The walk of StoreAny over its arguments. Conditions: texts are within the reach of memory. -/
import Derived.Test.YtngmnceahhlpkaaSt17
import Derived.Test.YtngmnceahhlpkaaSt15
namespace Go.Proofs.Ytngmnceahhlpkaa
open Go.ChangeShapes Go.WideShapes Go.Deep Go.RowKit
theorem storeAny_walk {H : Type} {enc : TypeId × Value → H} (img : ByteArray) (B : Option Addr) (m cm : Nat) (A : Option Addr) (len cap : Nat) (d1 d2 : DataW H) (p1 p2 : List MemPlace) (w : World) {ts : List TypeId} {ds : List (DataW H)} (hsz : (DataW.weightsEach Try.prog ts ds).all (· ≤ reachBytes) = true)
    (hj1 : ts[1]? = some 62) (hd1 : ds[1]? = some d1) (hj2 : ts[2]? = some 54) (hd2 : ds[2]? = some d2) (h1 : DataW.Trod enc Try.prog w 0 (fun _ => true) true 62 (.slice B m cm) d1 p1) (h2 : DataW.Trod enc Try.prog w 0 (fun _ => true) true 54 (.slice A len cap) d2 p2) :
    Calls Try.prog 13 #[.string img, .slice B m cm, .slice A len cap] w fun e w' => e = .returned (.bool true) ∧ Below w.heap.size w w' := by
  by_cases hs : img.size = 8192
  · exact storeAny_any w img hs B m cm (cuts_read (reach_of hsz hj1 hd1) h1) A len cap (deeds_read (reach_of hsz hj2 hd2) h2)
  · exact any_not w img hs B m cm A len cap
end Go.Proofs.Ytngmnceahhlpkaa
