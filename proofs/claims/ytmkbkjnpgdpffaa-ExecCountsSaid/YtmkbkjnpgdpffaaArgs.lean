/- How a list of jobs that came in reads. No condition. -/
import Derived.Test.YtmkbkjnpgdpffaaOpen
import Derived.Test.YtmkbkjnpgdpffaaNew
import Derived.KernelRfl
import Derived.OpenShut
namespace Go.Proofs.Ytmkbkjnpgdpffaa
open Go.ChangeShapes Go.WideShapes Go.Deep Go.RowKit

theorem list3 {α : Type} : ∀ {l : List α}, l.length = 3 → ∃ a b c, l = [a, b, c]
  | [a, b, c], _ => ⟨a, b, c, rfl⟩
theorem cells36 : Try.prog.cellsOf 36 = 3 := by kernel_rfl
theorem cells3 : Try.prog.cellsOf 3 = 1 := by kernel_rfl
theorem bytes36 : Try.prog.bytesOf 36 = 24 := by kernel_rfl
section
variable {H : Type} {enc : TypeId × Value → H} {w : World} {base : Nat} {spare : Nat → Bool} {held : Bool}
theorem jb_elem {cs : List Value} {n : Nat} {x : DataW H × List MemPlace} (hl : cs.length = 3) (h : DataW.trod enc Try.prog w base spare held n 36 cs = some x) : ∃ j : Jb, cs = jbL j ∧ j.period ≤ top := by
  have hst := DataW.trod_struct Try.underlying36 h
  clear h
  obtain ⟨ys, m, _, hxd, _, hys, hf⟩ := hst
  obtain ⟨c0, c1, c2, rfl⟩ := list3 hl
  have hys3 : ys.length = 3 := hys
  obtain ⟨y0, y1, y2, rfl⟩ := list3 hys3
  have f0 : DataW.trod enc Try.prog w base spare held m 3 (([c0, c1, c2].drop 0).take (Try.prog.cellsOf 3)) = some y0 := hf 0 _ rfl
  have f1 : DataW.trod enc Try.prog w base spare held m 3 (([c0, c1, c2].drop 1).take (Try.prog.cellsOf 3)) = some y1 := hf 1 _ rfl
  have f2 : DataW.trod enc Try.prog w base spare held m 3 (([c0, c1, c2].drop 2).take (Try.prog.cellsOf 3)) = some y2 := hf 2 _ rfl
  rw [cells3] at f0 f1 f2
  obtain ⟨n0, e0, _, w0⟩ := DataW.trod_int Try.underlying3 f0
  obtain ⟨n1, e1, _, _⟩ := DataW.trod_int Try.underlying3 f1
  obtain ⟨n2, e2, _, _⟩ := DataW.trod_int Try.underlying3 f2
  simp at e0 e1 e2
  subst e0 e1 e2
  exact ⟨⟨n0, n1, n2⟩, rfl, (bounds_i64 w0).2⟩
theorem jr_of {A : Option Addr} {len cap : Nat} {d : DataW H} {p : List MemPlace} {ts : List TypeId} {ds : List (DataW H)} {j : Nat} (hsz : (DataW.weightsEach Try.prog ts ds).all (· ≤ reachBytes) = true) (hj : ts[j]? = some 22) (hd : ds[j]? = some d)
    (h : DataW.Trod enc Try.prog w 0 (fun _ => true) true 22 (.slice A len cap) d p) :
    ∃ js : List Jb, js.length = len ∧ JR w (.slice A len cap) js ∧ (∀ j ∈ js, j.period ≤ top) ∧ len ≤ cap ∧ cap ≤ 9223372036854775807 := by
  have hb := slice_sized hsz hj hd Try.underlying22 bytes36 h
  have hA : (A = none ∧ len = 0 ∧ cap = 0) ∨ ∃ ad, A = some ad ∧ len ≤ cap ∧ cap ≤ maxLen := by
    obtain ⟨fuel, hf⟩ := h
    rcases open_slice Try.underlying22 hf with ⟨hcs, _⟩ | ⟨ad, l, c, m, n, D, Pl, hcs, _, hl, hm, _⟩
    · simp [Value.cells] at hcs
      exact .inl hcs
    · simp [Value.cells] at hcs
      obtain ⟨rfl, rfl, rfl⟩ := hcs
      exact .inr ⟨ad, rfl, hl, hm⟩
  have hcap : len ≤ cap ∧ cap ≤ 9223372036854775807 := by
    rcases hA with ⟨_, h1, h2⟩ | ⟨_, _, h1, h2⟩
    · omega
    · unfold maxLen at h2; omega
  rcases slice_cells Try.underlying22 cells36 (by omega) h with h0 | ⟨b, off, rfl, hbl, _, hl, hm, hi⟩
  · subst h0
    refine ⟨[], rfl, ⟨by simp, ?_⟩, (fun _ h => nomatch h), hcap⟩
    rcases hA with ⟨rfl, _, rfl⟩ | ⟨ad, rfl, _⟩
    · exact .inl ⟨rfl, rfl⟩
    · exact .inr ⟨ad, cap, rfl, .inl rfl⟩
  · have hall : ∀ i, ∃ c : Jb, i < len → (∀ j, j < 3 → w.cell? ⟨b, off + i * 3 + j, none⟩ = (jbL c)[j]?) ∧ c.period ≤ top := by
      intro i
      by_cases hil : i < len
      · obtain ⟨cs, n, x, hc, hat, ht, hq⟩ := hi i hil
        obtain ⟨c, rfl, hlo⟩ := jb_elem hc ht
        exact ⟨c, fun _ => ⟨hat, hlo⟩⟩
      · exact ⟨jd, fun h => absurd h hil⟩
    have hlen : ((List.range len).map fun i => Classical.choose (hall i)).length = len := by simp
    have hget : ∀ i, i < len → ((List.range len).map fun i => Classical.choose (hall i)).getD i jd = Classical.choose (hall i) := by
      intro i hil
      rw [List.getD_eq_getElem?_getD, List.getElem?_map, List.getElem?_range hil]
      rfl
    refine ⟨(List.range len).map fun i => Classical.choose (hall i), hlen, ⟨by rw [hlen]; exact hb, .inr ⟨_, cap, by rw [hlen], .inr ⟨b, off, rfl, hbl, fun i hil => ?_⟩⟩⟩, fun j hj => ?_, hcap⟩
    · rw [hlen] at hil
      rw [hget i hil]
      have hs := (Classical.choose_spec (hall i) hil).1
      exact ⟨hs 0 (by omega), hs 1 (by omega), hs 2 (by omega)⟩
    · obtain ⟨i, hir, rfl⟩ := List.mem_map.1 hj
      exact (Classical.choose_spec (hall i) (List.mem_range.1 hir)).2
end
end Go.Proofs.Ytmkbkjnpgdpffaa
