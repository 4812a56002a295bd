/- How lists of cuts and of deeds read. Conditions: texts are within the reach of memory. -/
import Derived.Test.YtngmnceahhlpkaaSt13
import Derived.Test.YtngmnceahhlpkaaOpen
import Derived.KernelRfl
import Derived.OpenShut
namespace Go.Proofs.Ytngmnceahhlpkaa
open Go.ChangeShapes Go.WideShapes Go.Deep Go.RowKit
theorem list2 {α : Type} : ∀ {l : List α}, l.length = 2 → ∃ a b, l = [a, b]
  | [a, b], _ => ⟨a, b, rfl⟩
theorem list5 {α : Type} : ∀ {l : List α}, l.length = 5 → ∃ a b c d e, l = [a, b, c, d, e]
  | [a, b, c, d, e], _ => ⟨a, b, c, d, e, rfl⟩
theorem list6 {α : Type} : ∀ {l : List α}, l.length = 6 → ∃ a b c d e f, l = [a, b, c, d, e, f]
  | [a, b, c, d, e, f], _ => ⟨a, b, c, d, e, f, rfl⟩
theorem cells61 : Try.prog.cellsOf 61 = 2 := by kernel_rfl
theorem cells62 : Try.prog.cellsOf 62 = 1 := by kernel_rfl
theorem cells64 : Try.prog.cellsOf 64 = 6 := by kernel_rfl
theorem cellsI : Try.prog.cellsOf 3 = 1 := by kernel_rfl
theorem cellsB : Try.prog.cellsOf 4 = 1 := by kernel_rfl
theorem cellsS : Try.prog.cellsOf 9 = 1 := by kernel_rfl
section
variable {H : Type} {enc : TypeId × Value → H} {w : World}
theorem ct_elem {cs : List Value} {n : Nat} {x : DataW H × List MemPlace} (hl : cs.length = 2) (h : DataW.trod enc Try.prog w 0 (fun _ => true) true n 61 cs = some x) :
    ∃ c : Ct, cs = [.int .i64 c.left, .string c.junk] ∧ c.left ≤ 9223372036854775807 ∧ c.junk.size ∈ x.1.weights Try.prog 61 := by
  have hst := DataW.trod_struct Try.underlying61 h
  clear h
  obtain ⟨ys, m, _, hxd, _, hys, hf⟩ := hst
  obtain ⟨c0, c1, rfl⟩ := list2 hl
  have hys2 : ys.length = 2 := hys
  obtain ⟨y0, y1, rfl⟩ := list2 hys2
  have f0 : DataW.trod enc Try.prog w 0 (fun _ => true) true m 3 (([c0, c1].drop 0).take (Try.prog.cellsOf 3)) = some y0 := hf 0 _ rfl
  have f1 : DataW.trod enc Try.prog w 0 (fun _ => true) true m 9 (([c0, c1].drop 1).take (Try.prog.cellsOf 9)) = some y1 := hf 1 _ rfl
  rw [cellsI] at f0
  rw [cellsS] at f1
  obtain ⟨n0, e0, _, w0⟩ := DataW.trod_int Try.underlying3 f0
  obtain ⟨s1, e1, d1, _⟩ := DataW.trod_string Try.underlying9 f1
  simp at e0 e1
  subst e0 e1
  refine ⟨⟨n0, s1⟩, rfl, (bounds_i64 w0).2, ?_⟩
  rw [hxd]
  show s1.size ∈ DataW.weights Try.prog 61 (.agg [y0.1, y1.1])
  simp only [DataW.weights, Try.underlying61]
  have hin : s1.size ∈ y1.1.weights Try.prog 9 := by
    rw [d1]
    simp only [DataW.weights, List.mem_singleton]
    exact Array.length_toList.symm
  exact DataW.weights_mem_each (j := 1) (t := 9) rfl rfl _ hin
theorem cuts_read {a : Option Addr} {len cap : Nat} {d : DataW H} {p : List MemPlace} (hW : ∀ q ∈ d.weights Try.prog 62, q ≤ 140737488351232) (h : DataW.Trod enc Try.prog w 0 (fun _ => true) true 62 (.slice a len cap) d p) : CutsIn w a len := by
  rcases slice_cells Try.underlying62 cells61 (by omega) h with h0 | ⟨b, off, rfl, hb, _, hl, hm, hi⟩
  · exact ⟨by omega, .inl h0⟩
  · unfold maxLen at hm
    refine ⟨by omega, .inr ⟨b, off, ?_⟩⟩
    have hall : ∀ i, ∃ c : Ct, i < len → (∀ j, j < 2 → w.cell? ⟨b, off + i * 2 + j, none⟩ = ([Value.int .i64 c.left, .string c.junk])[j]?) ∧ c.left ≤ 9223372036854775807 ∧ c.junk.size ≤ 140737488351232 := by
      intro i
      by_cases hil : i < len
      · obtain ⟨cs, n, x, hc, hat, ht, hq⟩ := hi i hil
        obtain ⟨c, rfl, hlo, hw⟩ := ct_elem hc ht
        exact ⟨c, fun _ => ⟨hat, hlo, hW _ (hq _ hw)⟩⟩
      · exact ⟨⟨0, ByteArray.empty⟩, fun h => absurd h hil⟩
    refine ⟨fun i => Classical.choose (hall i), rfl, hb, fun i h => ?_, fun i h => ?_, fun i h => ?_, fun i h => ?_⟩
    · exact (Classical.choose_spec (hall i) h).1 0 (by omega)
    · exact (Classical.choose_spec (hall i) h).1 1 (by omega)
    · exact (Classical.choose_spec (hall i) h).2.1
    · exact (Classical.choose_spec (hall i) h).2.2
theorem dd_elem {cs : List Value} {n : Nat} {x : DataW H × List MemPlace} (hl : cs.length = 6) (h : DataW.trod enc Try.prog w 0 (fun _ => true) true n 64 cs = some x) :
    ∃ d : Dd, cs = [.int .i64 d.id, .string d.val, .bool d.arm, .int .i64 d.left, .string d.junk, .slice d.boots d.nb d.cb] ∧ d.left ≤ 9223372036854775807 ∧ d.junk.size ∈ x.1.weights Try.prog 64 ∧
      ∃ y p, DataW.Trod enc Try.prog w 0 (fun _ => true) true 62 (.slice d.boots d.nb d.cb) y p ∧ ∀ q ∈ y.weights Try.prog 62, q ∈ x.1.weights Try.prog 64 := by
  have hst := DataW.trod_struct Try.underlying64 h
  clear h
  obtain ⟨ys, m, _, hxd, _, hys, hf⟩ := hst
  obtain ⟨c0, c1, c2, c3, c4, c5, rfl⟩ := list6 hl
  have hys5 : ys.length = 5 := hys
  obtain ⟨y0, y1, y2, y3, y4, rfl⟩ := list5 hys5
  have f0 : DataW.trod enc Try.prog w 0 (fun _ => true) true m 3 (([c0, c1, c2, c3, c4, c5].drop 0).take (Try.prog.cellsOf 3)) = some y0 := hf 0 _ rfl
  have f1 : DataW.trod enc Try.prog w 0 (fun _ => true) true m 9 (([c0, c1, c2, c3, c4, c5].drop 1).take (Try.prog.cellsOf 9)) = some y1 := hf 1 _ rfl
  have f2 : DataW.trod enc Try.prog w 0 (fun _ => true) true m 4 (([c0, c1, c2, c3, c4, c5].drop 2).take (Try.prog.cellsOf 4)) = some y2 := hf 2 _ rfl
  have f3 : DataW.trod enc Try.prog w 0 (fun _ => true) true m 61 (([c0, c1, c2, c3, c4, c5].drop 3).take (Try.prog.cellsOf 61)) = some y3 := hf 3 _ rfl
  have f4 : DataW.trod enc Try.prog w 0 (fun _ => true) true m 62 (([c0, c1, c2, c3, c4, c5].drop 5).take (Try.prog.cellsOf 62)) = some y4 := hf 4 _ rfl
  rw [cellsI] at f0
  rw [cellsS] at f1
  rw [cellsB] at f2
  rw [cells61] at f3
  rw [cells62] at f4
  obtain ⟨n0, e0, _, _⟩ := DataW.trod_int Try.underlying3 f0
  obtain ⟨s1, e1, _, _⟩ := DataW.trod_string Try.underlying9 f1
  obtain ⟨b2, e2, _⟩ := DataW.trod_bool Try.underlying4 f2
  have f3' : DataW.trod enc Try.prog w 0 (fun _ => true) true m 61 [c3, c4] = some y3 := f3
  obtain ⟨c, e3, hlo, hjw⟩ := ct_elem rfl f3'
  have f4' : DataW.trod enc Try.prog w 0 (fun _ => true) true m 62 [c5] = some y4 := f4
  have hsl : ∃ (a : Option Addr) (l k : Nat), c5 = .slice a l k := by
    rcases open_slice Try.underlying62 f4' with ⟨hcs, _⟩ | ⟨ad, l, k, _, _, _, _, hcs, _⟩
    · simp at hcs
      exact ⟨_, _, _, hcs⟩
    · simp at hcs
      exact ⟨_, _, _, hcs⟩
  obtain ⟨a, l, k, rfl⟩ := hsl
  simp at e0 e1 e2 e3
  obtain ⟨e3, e4⟩ := e3
  subst e0 e1 e2 e3 e4
  refine ⟨⟨n0, s1, b2, c.left, c.junk, a, l, k⟩, rfl, hlo, ?_, y4.1, y4.2, ⟨m, f4'⟩, ?_⟩
  · rw [hxd]
    show c.junk.size ∈ DataW.weights Try.prog 64 (.agg [y0.1, y1.1, y2.1, y3.1, y4.1])
    simp only [DataW.weights, Try.underlying64]
    exact DataW.weights_mem_each (j := 3) (t := 61) rfl rfl _ hjw
  · intro q hq
    rw [hxd]
    show q ∈ DataW.weights Try.prog 64 (.agg [y0.1, y1.1, y2.1, y3.1, y4.1])
    simp only [DataW.weights, Try.underlying64]
    exact DataW.weights_mem_each (j := 4) (t := 62) rfl rfl _ hq
theorem deeds_read {a : Option Addr} {len cap : Nat} {d : DataW H} {p : List MemPlace} (hW : ∀ q ∈ d.weights Try.prog 54, q ≤ 140737488351232) (h : DataW.Trod enc Try.prog w 0 (fun _ => true) true 54 (.slice a len cap) d p) : DeedsIn w a len := by
  rcases slice_cells Try.underlying54 cells64 (by omega) h with h0 | ⟨b, off, rfl, hb, _, hl, hm, hi⟩
  · exact ⟨by omega, .inl h0⟩
  · unfold maxLen at hm
    refine ⟨by omega, .inr ⟨b, off, ?_⟩⟩
    have hall : ∀ i, ∃ c : Dd, i < len → (∀ j, j < 6 → w.cell? ⟨b, off + i * 6 + j, none⟩ = ([Value.int .i64 c.id, .string c.val, .bool c.arm, .int .i64 c.left, .string c.junk, .slice c.boots c.nb c.cb])[j]?) ∧ c.left ≤ 9223372036854775807 ∧ c.junk.size ≤ 140737488351232 ∧ CutsIn w c.boots c.nb := by
      intro i
      by_cases hil : i < len
      · obtain ⟨cs, n, x, hc, hat, ht, hq⟩ := hi i hil
        obtain ⟨c, rfl, hlo, hw, y, p2, hy, hyw⟩ := dd_elem hc ht
        exact ⟨c, fun _ => ⟨hat, hlo, hW _ (hq _ hw), cuts_read (fun q hq2 => hW _ (hq _ (hyw q hq2))) hy⟩⟩
      · exact ⟨⟨0, ByteArray.empty, false, 0, ByteArray.empty, none, 0, 0⟩, fun h => absurd h hil⟩
    refine ⟨fun i => Classical.choose (hall i), rfl, hb, fun i h => ?_, fun i h => ?_, fun i h => ?_, fun i h => ?_, fun i h => ?_, fun i h => ?_, fun i h => ?_, fun i h => ?_, fun i h => ?_⟩
    · exact (Classical.choose_spec (hall i) h).1 0 (by omega)
    · exact (Classical.choose_spec (hall i) h).1 1 (by omega)
    · exact (Classical.choose_spec (hall i) h).1 2 (by omega)
    · exact (Classical.choose_spec (hall i) h).1 3 (by omega)
    · exact (Classical.choose_spec (hall i) h).1 4 (by omega)
    · exact (Classical.choose_spec (hall i) h).1 5 (by omega)
    · exact (Classical.choose_spec (hall i) h).2.1
    · exact (Classical.choose_spec (hall i) h).2.2.1
    · exact (Classical.choose_spec (hall i) h).2.2.2
theorem reach_of {ts : List TypeId} {ds : List (DataW H)} {j : Nat} {t : TypeId} {d : DataW H} (hsz : (DataW.weightsEach Try.prog ts ds).all (· ≤ reachBytes) = true) (hj : ts[j]? = some t) (hd : ds[j]? = some d) : ∀ q ∈ d.weights Try.prog t, q ≤ 140737488351232 := by
  intro q hq
  have hz : q ≤ reachBytes := by simpa using List.all_eq_true.1 hsz _ (DataW.weights_mem_each hj hd _ hq)
  exact hz
end
end Go.Proofs.Ytngmnceahhlpkaa
