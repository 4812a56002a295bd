/- How the arguments of chapter 15's laws read: a list of steps, a list of whole numbers. No condition. -/
import Derived.Test.YtdbgnchjdbjonaaOpen
import Derived.Test.YtdbgnchjdbjonaaWalks3
import Derived.KernelRfl
import Derived.OpenShut
namespace Go.Proofs.Ytdbgnchjdbjonaa
open Go.ChangeShapes Go.WideShapes Go.Deep

theorem cells26 : Try.prog.cellsOf 26 = 4 := by kernel_rfl
theorem cells3 : Try.prog.cellsOf 3 = 1 := by kernel_rfl
theorem cells4 : Try.prog.cellsOf 4 = 1 := by kernel_rfl

section
variable {H : Type} {enc : TypeId × Value → H} {w : World} {base : Nat} {spare : Nat → Bool} {held : Bool}
theorem lk_elem {cs : List Value} {n : Nat} {x : DataW H × List MemPlace} (hl : cs.length = 4) (h : DataW.trod enc Try.prog w base spare held n 26 cs = some x) :
    ∃ lk : Lk, cs = [.bool lk.falling, .int .i64 lk.climb, .int .i64 lk.fall, .int .i64 lk.times] ∧ -9223372036854775808 ≤ lk.fall ∧ lk.fall ≤ 9223372036854775807 := by
  obtain ⟨ys, m, _, _, _, hys, hf⟩ := DataW.trod_struct Try.underlying26 h
  match cs, hl with
  | [c0, c1, c2, c3], _ =>
    match ys, hys with
    | [y0, y1, y2, y3], _ =>
      have f0 : DataW.trod enc Try.prog w base spare held m 4 (([c0, c1, c2, c3].drop 0).take (Try.prog.cellsOf 4)) = some y0 := hf 0 _ rfl
      have f1 : DataW.trod enc Try.prog w base spare held m 3 (([c0, c1, c2, c3].drop 1).take (Try.prog.cellsOf 3)) = some y1 := hf 1 _ rfl
      have f2 : DataW.trod enc Try.prog w base spare held m 3 (([c0, c1, c2, c3].drop 2).take (Try.prog.cellsOf 3)) = some y2 := hf 2 _ rfl
      have f3 : DataW.trod enc Try.prog w base spare held m 3 (([c0, c1, c2, c3].drop 3).take (Try.prog.cellsOf 3)) = some y3 := hf 3 _ rfl
      rw [cells3] at f1 f2 f3
      rw [cells4] at f0
      obtain ⟨b, e0, _⟩ := DataW.trod_bool Try.underlying4 f0
      obtain ⟨n1, e1, _, _⟩ := DataW.trod_int Try.underlying3 f1
      obtain ⟨n2, e2, _, w2⟩ := DataW.trod_int Try.underlying3 f2
      obtain ⟨n3, e3, _, _⟩ := DataW.trod_int Try.underlying3 f3
      simp at e0 e1 e2 e3
      subst e0 e1 e2 e3
      exact ⟨⟨b, n1, n2, n3⟩, rfl, bounds_i64 w2⟩
theorem lks_of {a : Option Addr} {len cap : Nat} {d : DataW H} {p : List MemPlace} (h : DataW.Trod enc Try.prog w 0 (fun _ => true) true 22 (.slice a len cap) d p) :
    len = 0 ∨ ∃ b off xs, a = some ⟨b, off, none⟩ ∧ b < w.heap.size ∧ len ≤ 9223372036854775807 ∧ Lks w b off len xs := by
  rcases slice_cells Try.underlying22 cells26 (by omega) h with h0 | ⟨b, off, rfl, hb, _, hl, hm, hi⟩
  · exact .inl h0
  · right
    unfold maxLen at hm
    have hall : ∀ i, ∃ lk : Lk, i < len → (∀ j, j < 4 → w.cell? ⟨b, off + i * 4 + j, none⟩ = ([Value.bool lk.falling, .int .i64 lk.climb, .int .i64 lk.fall, .int .i64 lk.times])[j]?) ∧ -9223372036854775808 ≤ lk.fall ∧ lk.fall ≤ 9223372036854775807 := by
      intro i
      by_cases hil : i < len
      · obtain ⟨cs, n, x, hc, hat, ht⟩ := hi i hil
        obtain ⟨lk, rfl, hlo, hhi⟩ := lk_elem hc ht
        exact ⟨lk, fun _ => ⟨hat, hlo, hhi⟩⟩
      · exact ⟨⟨false, 0, 0, 0⟩, fun h => absurd h hil⟩
    refine ⟨b, off, fun i => Classical.choose (hall i), rfl, hb, by omega, ?_⟩
    refine ⟨fun i h => ?_, fun i h => ?_, fun i h => ?_, fun i h => ?_, fun i h => ?_, fun i h => ?_⟩
    · exact (Classical.choose_spec (hall i) h).1 0 (by omega)
    · exact (Classical.choose_spec (hall i) h).1 1 (by omega)
    · exact (Classical.choose_spec (hall i) h).1 2 (by omega)
    · exact (Classical.choose_spec (hall i) h).1 3 (by omega)
    · exact (Classical.choose_spec (hall i) h).2.1
    · exact (Classical.choose_spec (hall i) h).2.2
theorem ints_of {a : Option Addr} {len cap : Nat} {d : DataW H} {p : List MemPlace} (h : DataW.Trod enc Try.prog w 0 (fun _ => true) true 32 (.slice a len cap) d p) :
    len = 0 ∨ ∃ b off zs, a = some ⟨b, off, none⟩ ∧ b < w.heap.size ∧ len ≤ 9223372036854775807 ∧ Ints w b off len zs := by
  rcases slice_cells Try.underlying32 cells3 (by omega) h with h0 | ⟨b, off, rfl, hb, _, hl, hm, hi⟩
  · exact .inl h0
  · right
    unfold maxLen at hm
    have hall : ∀ i, ∃ z : Int, -9223372036854775808 ≤ z ∧ z ≤ 9223372036854775807 ∧ (i < len → w.cell? ⟨b, off + i, none⟩ = some (.int .i64 z)) := by
      intro i
      by_cases hil : i < len
      · obtain ⟨cs, n, x, hc, hat, ht⟩ := hi i hil
        obtain ⟨z, rfl, _, hw⟩ := DataW.trod_int Try.underlying3 ht
        have := hat 0 (by omega)
        simp only [Nat.mul_one, Nat.add_zero] at this
        exact ⟨z, (bounds_i64 hw).1, (bounds_i64 hw).2, fun _ => this⟩
      · exact ⟨0, by omega, by omega, fun h => absurd h hil⟩
    have hg : ∀ i, (((List.range len).map fun i => Classical.choose (hall i)).getD i 0) = if i < len then Classical.choose (hall i) else 0 := by
      intro i
      rw [List.getD_eq_getElem?_getD, List.getElem?_map]
      by_cases hil : i < len
      · rw [List.getElem?_range hil, if_pos hil]; rfl
      · rw [List.getElem?_eq_none (by simp; omega), if_neg hil]; rfl
    refine ⟨b, off, (List.range len).map fun i => Classical.choose (hall i), rfl, hb, by omega, ⟨fun i h => ?_, fun i => ?_, fun i => ?_⟩⟩
    · rw [hg, if_pos h]; exact (Classical.choose_spec (hall i)).2.2 h
    · rw [hg]; split
      · exact (Classical.choose_spec (hall i)).1
      · omega
    · rw [hg]; split
      · exact (Classical.choose_spec (hall i)).2.1
      · omega
end

theorem two_walk {H : Type} {enc : TypeId × Value → H} (a : Option Addr) (len cap : Nat) (d : DataW H) (p : List MemPlace) (w : World) (h : DataW.Trod enc Try.prog w 0 (fun _ => true) true 22 (.slice a len cap) d p) :
    Calls Try.prog 5 #[.slice a len cap] w fun e w' => e = .returned (.bool true) ∧ Go.RowKit.Below w.heap.size w w' := by
  rcases lks_of h with rfl | ⟨b, off, xs, rfl, hb, hl, hx⟩
  · exact two_empty a cap w
  · exact two_some b off len cap xs w hl hx hb
theorem never_walk {H : Type} {enc : TypeId × Value → H} (f : Int) (a : Option Addr) (len cap : Nat) (d : DataW H) (p : List MemPlace) (w : World) (h1 : f ≤ 9223372036854775807) (h : DataW.Trod enc Try.prog w 0 (fun _ => true) true 32 (.slice a len cap) d p) :
    Calls Try.prog 4 #[.int .i64 f, .slice a len cap] w fun e w' => e = .returned (.bool true) ∧ Go.RowKit.Below w.heap.size w w' := by
  by_cases hf : f < 0
  · exact never_below a len cap f w hf
  · rcases ints_of h with rfl | ⟨b, off, zs, rfl, hb, hl, hx⟩
    · exact never_empty a cap f w hf
    · exact never_some b off len cap zs f w (by omega) h1 hl hx hb
end Go.Proofs.Ytdbgnchjdbjonaa
