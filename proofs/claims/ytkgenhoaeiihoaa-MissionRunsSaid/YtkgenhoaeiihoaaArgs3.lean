/- How a list of truths that came in reads. No condition. -/
import Derived.Test.YtkgenhoaeiihoaaArgs
import Derived.Test.YtkgenhoaeiihoaaRuns
namespace Go.Proofs.Ytkgenhoaeiihoaa
open Go.ChangeShapes Go.WideShapes Go.Deep Go.RowKit
theorem cells4 : Try.prog.cellsOf 4 = 1 := by kernel_rfl
theorem bytes4 : Try.prog.bytesOf 4 = 1 := by kernel_rfl
section
variable {H : Type} {enc : TypeId × Value → H} {w : World}
theorem bool_elem {cs : List Value} {n : Nat} {x : DataW H × List MemPlace} (h : DataW.trod enc Try.prog w 0 (fun _ => true) true n 4 cs = some x) : ∃ a : Bool, cs = [.bool a] := by
  obtain ⟨a, e, _⟩ := DataW.trod_bool Try.underlying4 h
  exact ⟨a, e⟩
theorem bools_of {A : Option Addr} {len cap : Nat} {d : DataW H} {p : List MemPlace} {ts : List TypeId} {ds : List (DataW H)} {j : Nat} (hsz : (DataW.weightsEach Try.prog ts ds).all (· ≤ reachBytes) = true) (hj : ts[j]? = some 34) (hd : ds[j]? = some d)
    (h : DataW.Trod enc Try.prog w 0 (fun _ => true) true 34 (.slice A len cap) d p) : ∃ bs : List Bool, bs.length = len ∧ Bools w (.slice A len cap) bs := by
  have hb := slice_sized hsz hj hd Try.underlying34 bytes4 h
  rcases slice_cells Try.underlying34 cells4 (by omega) h with h0 | ⟨b, off, rfl, hbl, _, hl, hm, hi⟩
  · subst h0
    exact ⟨[], rfl, by simp, A, cap, rfl, .inl rfl⟩
  · have hall : ∀ i, ∃ a : Bool, i < len → w.cell? ⟨b, off + i, none⟩ = some (.bool a) := by
      intro i
      by_cases hil : i < len
      · obtain ⟨cs, n, x, hc, hat, ht, hq⟩ := hi i hil
        obtain ⟨a, rfl⟩ := bool_elem ht
        have := hat 0 (by omega)
        rw [Nat.mul_one, Nat.add_zero] at this
        exact ⟨a, fun _ => this⟩
      · exact ⟨false, fun h => absurd h hil⟩
    have hlen : ((List.range len).map fun i => Classical.choose (hall i)).length = len := by simp
    refine ⟨(List.range len).map fun i => Classical.choose (hall i), hlen, by rw [hlen]; omega, _, cap, by rw [hlen], .inr ⟨b, off, rfl, hbl, fun i hil => ?_⟩⟩
    rw [hlen] at hil
    rw [List.getD_eq_getElem?_getD, List.getElem?_map, List.getElem?_range hil]
    exact Classical.choose_spec (hall i) hil
end
end Go.Proofs.Ytkgenhoaeiihoaa
