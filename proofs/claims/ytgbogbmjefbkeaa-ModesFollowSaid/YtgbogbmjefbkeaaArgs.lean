/- How a list of numbers that came in reads. No condition. -/
import Derived.Test.YtgbogbmjefbkeaaOpen
import Derived.Test.YtgbogbmjefbkeaaBase
import Derived.Test.YtgbogbmjefbkeaaLive
import Derived.KernelRfl
import Derived.OpenShut
namespace Go.Proofs.Ytgbogbmjefbkeaa
open Go.ChangeShapes Go.WideShapes Go.Deep Go.RowKit
theorem cells3 : Try.prog.cellsOf 3 = 1 := by kernel_rfl
theorem bytes3 : Try.prog.bytesOf 3 = 8 := by kernel_rfl
section
variable {H : Type} {enc : TypeId × Value → H} {w : World}
theorem int_elem {cs : List Value} {n : Nat} {x : DataW H × List MemPlace} (h : DataW.trod enc Try.prog w 0 (fun _ => true) true n 3 cs = some x) : ∃ a : Int, cs = [.int .i64 a] := by
  obtain ⟨a, e, _, _⟩ := DataW.trod_int Try.underlying3 h
  exact ⟨a, e⟩
theorem ints_of {A : Option Addr} {len cap : Nat} {d : DataW H} {p : List MemPlace} {ts : List TypeId} {ds : List (DataW H)} {j : Nat} (hsz : (DataW.weightsEach Try.prog ts ds).all (· ≤ reachBytes) = true) (hj : ts[j]? = some 22) (hd : ds[j]? = some d)
    (h : DataW.Trod enc Try.prog w 0 (fun _ => true) true 22 (.slice A len cap) d p) : ∃ xs : List Int, xs.length = len ∧ Ints w (.slice A len cap) xs := by
  have hb := slice_sized hsz hj hd Try.underlying22 bytes3 h
  rcases slice_cells Try.underlying22 cells3 (by omega) h with h0 | ⟨b, off, rfl, hbl, _, hl, hm, hi⟩
  · subst h0
    exact ⟨[], rfl, by simp, A, cap, rfl, .inl rfl⟩
  · have hall : ∀ i, ∃ a : Int, i < len → w.cell? ⟨b, off + i, none⟩ = some (.int .i64 a) := by
      intro i
      by_cases hil : i < len
      · obtain ⟨cs, n, x, hc, hat, ht, hq⟩ := hi i hil
        obtain ⟨a, rfl⟩ := int_elem ht
        have := hat 0 (by omega)
        rw [Nat.mul_one, Nat.add_zero] at this
        exact ⟨a, fun _ => this⟩
      · exact ⟨0, fun h => absurd h hil⟩
    have hlen : ((List.range len).map fun i => Classical.choose (hall i)).length = len := by simp
    refine ⟨(List.range len).map fun i => Classical.choose (hall i), hlen, by rw [hlen]; omega, _, cap, by rw [hlen], .inr ⟨b, off, rfl, hbl, fun i hil => ?_⟩⟩
    rw [hlen] at hil
    rw [List.getD_eq_getElem?_getD, List.getElem?_map, List.getElem?_range hil]
    exact Classical.choose_spec (hall i) hil
end
end Go.Proofs.Ytgbogbmjefbkeaa
