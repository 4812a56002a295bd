/- How a list of items that came in reads. No condition. -/
import Derived.Test.YtkgenhoaeiihoaaOpen
import Derived.Test.YtkgenhoaeiihoaaBase
import Derived.KernelRfl
import Derived.OpenShut
namespace Go.Proofs.Ytkgenhoaeiihoaa
open Go.ChangeShapes Go.WideShapes Go.Deep Go.RowKit

theorem list4 {α : Type} : ∀ {l : List α}, l.length = 4 → ∃ a b c d, l = [a, b, c, d]
  | [a, b, c, d], _ => ⟨a, b, c, d, rfl⟩
theorem cells45 : Try.prog.cellsOf 45 = 4 := by kernel_rfl
theorem cells43 : Try.prog.cellsOf 43 = 1 := by kernel_rfl
theorem cells3 : Try.prog.cellsOf 3 = 1 := by kernel_rfl
theorem bytes45 : Try.prog.bytesOf 45 = 32 := by kernel_rfl
section
variable {H : Type} {enc : TypeId × Value → H} {w : World} {base : Nat} {spare : Nat → Bool} {held : Bool}
theorem it_elem {cs : List Value} {n : Nat} {x : DataW H × List MemPlace} (hl : cs.length = 4) (h : DataW.trod enc Try.prog w base spare held n 45 cs = some x) : ∃ j : It, cs = itL j := by
  have hst := DataW.trod_struct Try.underlying45 h
  clear h
  obtain ⟨ys, m, _, hxd, _, hys, hf⟩ := hst
  obtain ⟨c0, c1, c2, c3, rfl⟩ := list4 hl
  have hys4 : ys.length = 4 := hys
  obtain ⟨y0, y1, y2, y3, rfl⟩ := list4 hys4
  have f0 : DataW.trod enc Try.prog w base spare held m 43 (([c0, c1, c2, c3].drop 0).take (Try.prog.cellsOf 43)) = some y0 := hf 0 _ rfl
  have f1 : DataW.trod enc Try.prog w base spare held m 3 (([c0, c1, c2, c3].drop 1).take (Try.prog.cellsOf 3)) = some y1 := hf 1 _ rfl
  have f2 : DataW.trod enc Try.prog w base spare held m 3 (([c0, c1, c2, c3].drop 2).take (Try.prog.cellsOf 3)) = some y2 := hf 2 _ rfl
  have f3 : DataW.trod enc Try.prog w base spare held m 3 (([c0, c1, c2, c3].drop 3).take (Try.prog.cellsOf 3)) = some y3 := hf 3 _ rfl
  rw [cells43] at f0
  rw [cells3] at f1 f2 f3
  obtain ⟨n0, e0, _, _⟩ := DataW.trod_int Try.underlying43 f0
  obtain ⟨n1, e1, _, _⟩ := DataW.trod_int Try.underlying3 f1
  obtain ⟨n2, e2, _, _⟩ := DataW.trod_int Try.underlying3 f2
  obtain ⟨n3, e3, _, _⟩ := DataW.trod_int Try.underlying3 f3
  simp at e0 e1 e2 e3
  subst e0 e1 e2 e3
  exact ⟨⟨n0, n1, n2, n3⟩, rfl⟩
theorem ir_of {A : Option Addr} {len cap : Nat} {d : DataW H} {p : List MemPlace} {ts : List TypeId} {ds : List (DataW H)} {j : Nat} (hsz : (DataW.weightsEach Try.prog ts ds).all (· ≤ reachBytes) = true) (hj : ts[j]? = some 22) (hd : ds[j]? = some d)
    (h : DataW.Trod enc Try.prog w 0 (fun _ => true) true 22 (.slice A len cap) d p) :
    ∃ js : List It, js.length = len ∧ IR w (.slice A len cap) js ∧ len ≤ cap ∧ cap ≤ 9223372036854775807 := by
  have hb := slice_sized hsz hj hd Try.underlying22 bytes45 h
  have hA : (A = none ∧ len = 0 ∧ cap = 0) ∨ ∃ ad, A = some ad ∧ len ≤ cap ∧ cap ≤ maxLen := by
    obtain ⟨fuel, hf⟩ := h
    rcases open_slice Try.underlying22 hf with ⟨hcs, _⟩ | ⟨ad, l, c, m, n, D, Pl, hcs, _, hl, hm, _⟩
    · simp [Value.cells] at hcs
      exact .inl hcs
    · simp [Value.cells] at hcs
      obtain ⟨rfl, rfl, rfl⟩ := hcs
      exact .inr ⟨ad, rfl, hl, hm⟩
  have hcap : len ≤ cap ∧ cap ≤ 9223372036854775807 := by
    rcases hA with ⟨_, h1, h2⟩ | ⟨_, _, h1, h2⟩
    · omega
    · unfold maxLen at h2; omega
  rcases slice_cells Try.underlying22 cells45 (by omega) h with h0 | ⟨b, off, rfl, hbl, _, hl, hm, hi⟩
  · subst h0
    refine ⟨[], rfl, ⟨by simp, ?_⟩, hcap⟩
    rcases hA with ⟨rfl, _, rfl⟩ | ⟨ad, rfl, _⟩
    · exact .inl ⟨rfl, rfl⟩
    · exact .inr ⟨ad, cap, rfl, .inl rfl⟩
  · have hall : ∀ i, ∃ c : It, i < len → (∀ j, j < 4 → w.cell? ⟨b, off + i * 4 + j, none⟩ = (itL c)[j]?) := by
      intro i
      by_cases hil : i < len
      · obtain ⟨cs, n, x, hc, hat, ht, hq⟩ := hi i hil
        obtain ⟨c, rfl⟩ := it_elem hc ht
        exact ⟨c, fun _ => hat⟩
      · exact ⟨it0, fun h => absurd h hil⟩
    have hlen : ((List.range len).map fun i => Classical.choose (hall i)).length = len := by simp
    have hget : ∀ i, i < len → ((List.range len).map fun i => Classical.choose (hall i)).getD i it0 = Classical.choose (hall i) := by
      intro i hil
      rw [List.getD_eq_getElem?_getD, List.getElem?_map, List.getElem?_range hil]
      rfl
    refine ⟨(List.range len).map fun i => Classical.choose (hall i), hlen, ⟨by rw [hlen]; exact hb, .inr ⟨_, cap, by rw [hlen], .inr ⟨b, off, rfl, hbl, fun i hil => ?_⟩⟩⟩, hcap⟩
    · rw [hlen] at hil
      rw [hget i hil]
      have hs := Classical.choose_spec (hall i) hil
      exact ⟨hs 0 (by omega), hs 1 (by omega), hs 2 (by omega), hs 3 (by omega)⟩
end
end Go.Proofs.Ytkgenhoaeiihoaa
