/- A list of numbers that can be read; a machine of the call's own with what is said of it. No condition. -/
import Derived.Test.YtgbogbmjefbkeaaAwake
import Derived.Test.YtgbogbmjefbkeaaLandP
namespace Go.Proofs.Ytgbogbmjefbkeaa
open Go.RowKit
def Ints (w : World) (v : Value) (xs : List Int) : Prop :=
  xs.length ≤ 140737488351232 ∧ ∃ A cap, v = .slice A xs.length cap ∧ (xs = [] ∨ ∃ g off, A = some ⟨g, off, none⟩ ∧ g < w.heap.size ∧ ∀ i, i < xs.length → w.cell? ⟨g, off + i, none⟩ = some (.int .i64 (xs.getD i 0)))
theorem Own.ok {w wr : World} {b : Nat} {x : Md} (h : Own w wr b x) : x.Ok := ⟨h.mach.m0, h.mach.m1, h.mach.l64⟩
end Go.Proofs.Ytgbogbmjefbkeaa
