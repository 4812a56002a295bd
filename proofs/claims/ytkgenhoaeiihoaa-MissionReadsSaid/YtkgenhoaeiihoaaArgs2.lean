/- How rows of numbers that came in read. No condition. -/
import Derived.Test.YtkgenhoaeiihoaaArgs
import Derived.Test.YtkgenhoaeiihoaaOf
namespace Go.Proofs.Ytkgenhoaeiihoaa
open Go.ChangeShapes Go.WideShapes Go.Deep Go.RowKit

theorem cells38 : Try.prog.cellsOf 38 = 1 := by kernel_rfl
theorem bytes38 : Try.prog.bytesOf 38 = 24 := by kernel_rfl
section
variable {H : Type} {enc : TypeId × Value → H} {w : World}
theorem list1 {α : Type} : ∀ {l : List α}, l.length = 1 → ∃ a, l = [a]
  | [a], _ => ⟨a, rfl⟩
theorem int_elem {cs : List Value} {n : Nat} {x : DataW H × List MemPlace} (h : DataW.trod enc Try.prog w 0 (fun _ => true) true n 3 cs = some x) : ∃ a : Int, cs = [.int .i64 a] := by
  obtain ⟨a, e, _, _⟩ := DataW.trod_int Try.underlying3 h
  exact ⟨a, e⟩
theorem ints_of {cs : List Value} {n : Nat} {x : DataW H × List MemPlace} (h : DataW.trod enc Try.prog w 0 (fun _ => true) true n 38 cs = some x) : ∃ u r, cs = [u] ∧ Ints w u r := by
  have hu : ∃ A l c, cs = [.slice A l c] ∧ (A = none → l = 0 ∧ c = 0) := by
    rcases open_slice Try.underlying38 h with ⟨hcs, _⟩ | ⟨ad, l, c, m, n', D, Pl, hcs, _⟩
    · exact ⟨none, 0, 0, hcs, fun _ => ⟨rfl, rfl⟩⟩
    · exact ⟨some ad, l, c, hcs, fun h => nomatch h⟩
  obtain ⟨A, l, c, rfl, _⟩ := hu
  have hT : DataW.Trod enc Try.prog w 0 (fun _ => true) true 38 (.slice A l c) x.1 x.2 := ⟨n, h⟩
  rcases slice_cells Try.underlying38 cells3 (by omega) hT with h0 | ⟨b, off, rfl, hbl, _, hl, hm, hi⟩
  · subst h0
    exact ⟨_, [], rfl, A, c, rfl, .inl rfl⟩
  · have hall : ∀ i, ∃ a : Int, i < l → w.cell? ⟨b, off + i, none⟩ = some (.int .i64 a) := by
      intro i
      by_cases hil : i < l
      · obtain ⟨cs, n, x, hc, hat, ht, hq⟩ := hi i hil
        obtain ⟨a, rfl⟩ := int_elem ht
        have := hat 0 (by omega)
        rw [Nat.mul_one, Nat.add_zero] at this
        exact ⟨a, fun _ => this⟩
      · exact ⟨0, fun h => absurd h hil⟩
    have hlen : ((List.range l).map fun i => Classical.choose (hall i)).length = l := by simp
    refine ⟨_, (List.range l).map fun i => Classical.choose (hall i), rfl, _, c, by rw [hlen], .inr ⟨b, off, rfl, hbl, fun i hil => ?_⟩⟩
    rw [hlen] at hil
    rw [List.getD_eq_getElem?_getD, List.getElem?_map, List.getElem?_range hil]
    exact Classical.choose_spec (hall i) hil
theorem rr_of {A : Option Addr} {len cap : Nat} {d : DataW H} {p : List MemPlace} {ts : List TypeId} {ds : List (DataW H)} {j : Nat} (hsz : (DataW.weightsEach Try.prog ts ds).all (· ≤ reachBytes) = true) (hj : ts[j]? = some 56) (hd : ds[j]? = some d)
    (h : DataW.Trod enc Try.prog w 0 (fun _ => true) true 56 (.slice A len cap) d p) :
    ∃ rows : List (List Int), rows.length = len ∧ RR w (.slice A len cap) rows := by
  have hb := slice_sized hsz hj hd Try.underlying56 bytes38 h
  rcases slice_cells Try.underlying56 cells38 (by omega) h with h0 | ⟨b, off, rfl, hbl, _, hl, hm, hi⟩
  · subst h0
    exact ⟨[], rfl, by simp, A, cap, rfl, .inl rfl⟩
  · have hall : ∀ i, ∃ r : List Int, i < len → ∃ u, w.cell? ⟨b, off + i, none⟩ = some u ∧ Ints w u r := by
      intro i
      by_cases hil : i < len
      · obtain ⟨cs, n, x, hc, hat, ht, hq⟩ := hi i hil
        obtain ⟨u, r, rfl, hr⟩ := ints_of ht
        have := hat 0 (by omega)
        rw [Nat.mul_one, Nat.add_zero] at this
        exact ⟨r, fun _ => ⟨u, this, hr⟩⟩
      · exact ⟨[], fun h => absurd h hil⟩
    have hlen : ((List.range len).map fun i => Classical.choose (hall i)).length = len := by simp
    refine ⟨(List.range len).map fun i => Classical.choose (hall i), hlen, by rw [hlen]; exact hb, _, cap, by rw [hlen], .inr ⟨b, off, rfl, hbl, fun i hil => ?_⟩⟩
    rw [hlen] at hil
    rw [List.getD_eq_getElem?_getD, List.getElem?_map, List.getElem?_range hil]
    exact Classical.choose_spec (hall i) hil
end
end Go.Proofs.Ytkgenhoaeiihoaa
