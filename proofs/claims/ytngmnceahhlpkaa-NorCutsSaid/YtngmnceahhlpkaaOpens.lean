/- How much the texts within a struct that came in may hold. No condition. -/
import Derived.Test.YtngmnceahhlpkaaProg
import Derived.Below
import Derived.SizedLaws
namespace Go.Proofs.Ytngmnceahhlpkaa
open Go.RowKit

theorem sized_part {H : Type} {P : Program} {ts : List TypeId} {ds : List (DataW H)} (h : (DataW.weightsEach P ts ds).all (· ≤ reachBytes) = true) {j : Nat} {t : TypeId} {fs : Array Field} {parts : List (DataW H)}
    (ht : ts[j]? = some t) (hd : ds[j]? = some (.agg parts)) (hu : P.underlying t = some (.struct fs)) : (DataW.weightsEach P (fs.toList.map (·.type)) parts).all (· ≤ reachBytes) = true :=
  List.all_eq_true.2 fun n hn => List.all_eq_true.1 h n (DataW.weights_mem_each ht hd n (by simp only [DataW.weights, hu]; exact hn))
end Go.Proofs.Ytngmnceahhlpkaa
