/- The program's run and the document's, side by side in memory. Conditions: as Both says. -/
import Derived.Test.YtkgenhoaeiihoaaRRun
import Derived.Test.YtkgenhoaeiihoaaKept
import Derived.Test.YtkgenhoaeiihoaaAwake
namespace Go.Proofs.Ytkgenhoaeiihoaa
open Go.RowKit
/-- A list of truths that can be read. -/
def Bools (w : World) (v : Value) (bs : List Bool) : Prop :=
  bs.length ≤ 140737488351232 ∧ ∃ A cap, v = .slice A bs.length cap ∧ (bs = [] ∨ ∃ g off, A = some ⟨g, off, none⟩ ∧ g < w.heap.size ∧ ∀ i, i < bs.length → w.cell? ⟨g, off + i, none⟩ = some (.bool (bs.getD i false)))
theorem Bools.below {w w1 : World} {v : Value} {bs : List Bool} (h : Bools w v bs) (hb : Below w.heap.size w w1) : Bools w1 v bs := by
  obtain ⟨h0, A, cap, hv, h1⟩ := h
  refine ⟨h0, A, cap, hv, ?_⟩
  rcases h1 with h1 | ⟨g, off, ha, hg, hc⟩
  · exact .inl h1
  · exact .inr ⟨g, off, ha, Nat.lt_of_lt_of_le hg hb.size, fun i hi => (hb.cell (p := ⟨g, off + i, none⟩) hg).trans (hc i hi)⟩
def docC (v2 : Value) (jb : Nat) (x : Rn) : Array Value := #[v2, .int .i64 (x.at_ : Int), .int .i64 x.sp, .int .i64 x.wt, .slice (some ⟨jb, 0, none⟩) x.xs.length x.xs.length]
structure Both (w wr : World) (b mb j : Nat) (v1 : Value) (jb : Nat) (v2 : Value) (xb : Nat) (r x : Rn) : Prop where
  run : RunAt wr b mb j v1 r
  doc : Doc wr v2 jb x
  cell : wr.heap[xb]? = some (.cells (docC v2 jb x) 40)
  ri : Inv r
  xi : Inv x
  xs : x.xs = r.xs
  below : Below w.heap.size w wr
  lo : w.heap.size ≤ b ∧ w.heap.size ≤ mb ∧ w.heap.size ≤ jb ∧ w.heap.size ≤ xb
  ap : jb ≠ b ∧ jb ≠ mb ∧ xb ≠ b ∧ xb ≠ mb ∧ xb ≠ jb
  v1n : r.xs ≠ [] → ∀ g, v1.ownBlock = some g → g ≠ jb ∧ g ≠ xb
  v2n : r.xs ≠ [] → ∀ g, v2.ownBlock = some g → g ≠ b ∧ g ≠ mb ∧ g ≠ xb
theorem IR.wrote' {w w1 : World} {v : Value} {xs : List It} (h : IR w v xs) {S : Nat → Prop} (hw : Wrote w w1 S) (hS : xs ≠ [] → ∀ g, v.ownBlock = some g → ¬ S g) : IR w1 v xs := by
  by_cases hx : xs = []
  · refine ⟨h.1, ?_⟩
    rcases h.2 with h1 | ⟨ad, cap, hv, _⟩
    · exact .inl h1
    · exact .inr ⟨ad, cap, hv, .inl hx⟩
  · exact h.wrote hw (hS hx)
theorem IR.lt {w : World} {v : Value} {xs : List It} (h : IR w v xs) (hx : xs ≠ []) : ∀ g, v.ownBlock = some g → g < w.heap.size := by
  intro g hg
  rcases h.2 with ⟨rfl, _⟩ | ⟨ad, cap, hv, h1⟩
  · cases hg
  · rcases h1 with h1 | ⟨g', off, ha, hl, _⟩
    · exact absurd h1 hx
    · subst hv ha
      injection hg with hg
      rw [← hg]
      exact hl
section
variable {w wr w1 : World} {b mb j jb xb : Nat} {v1 v2 : Value} {r x : Rn}
theorem Both.c0 (h : Both w wr b mb j v1 jb v2 xb r x) : wr.cell? ⟨xb, 0, none⟩ = some v2 := cell_at h.cell 0
theorem Both.c1 (h : Both w wr b mb j v1 jb v2 xb r x) : wr.cell? ⟨xb, 1, none⟩ = some (.int .i64 (x.at_ : Int)) := cell_at h.cell 1
theorem Both.c2 (h : Both w wr b mb j v1 jb v2 xb r x) : wr.cell? ⟨xb, 2, none⟩ = some (.int .i64 x.sp) := cell_at h.cell 2
theorem Both.c3 (h : Both w wr b mb j v1 jb v2 xb r x) : wr.cell? ⟨xb, 3, none⟩ = some (.int .i64 x.wt) := cell_at h.cell 3
theorem Both.c4 (h : Both w wr b mb j v1 jb v2 xb r x) : wr.cell? ⟨xb, 4, none⟩ = some (.slice (some ⟨jb, 0, none⟩) x.xs.length x.xs.length) := cell_at h.cell 4
theorem Both.quiet (h : Both w wr b mb j v1 jb v2 xb r x) (hb : Below wr.heap.size wr w1) : Both w w1 b mb j v1 jb v2 xb r x :=
  ⟨h.run.below hb, h.doc.below hb, (hb.block xb (lt_of_at h.cell)).trans h.cell, h.ri, h.xi, h.xs, below_next h.below hb, h.lo, h.ap, h.v1n, h.v2n⟩
theorem Both.step1 (h : Both w wr b mb j v1 jb v2 xb r x) {arr : Bool} (hp : RunAt w1 b mb (j + 1) v1 (r.step arr)) (hw : Wrote wr w1 (fun k => k = b ∨ k = mb)) : Both w w1 b mb (j + 1) v1 jb v2 xb (r.step arr) x := by
  obtain ⟨l1, l2, l3, l4⟩ := h.lo
  obtain ⟨a1, a2, a3, a4, a5⟩ := h.ap
  have hx := step_xs r arr
  refine ⟨hp, ⟨h.doc.items.wrote' hw fun hn g hg => ?_, h.doc.jumps.keep hw (by omega), h.doc.apart⟩, (hw.block xb (lt_of_at h.cell) (by omega)).trans h.cell, h.ri.step arr, h.xi, by rw [hx]; exact h.xs, below_wrote h.below hw (by rintro i (rfl | rfl) <;> omega) h.below.size, h.lo, h.ap, by rw [hx]; exact h.v1n, by rw [hx]; exact h.v2n⟩
  rw [h.xs] at hn
  have := h.v2n hn g hg
  omega
def xset (w1 : World) (xb : Nat) (y0 y1 y2 y3 y4 : Value) : World := ((((w1.setCell ⟨xb, 0, none⟩ y0).setCell ⟨xb, 1, none⟩ y1).setCell ⟨xb, 2, none⟩ y2).setCell ⟨xb, 3, none⟩ y3).setCell ⟨xb, 4, none⟩ y4
theorem xset_at {y0 y1 y2 y3 y4 : Value} {a0 a1 a2 a3 a4 : Value} {t : TypeId} (h : w1.heap[xb]? = some (.cells #[a0, a1, a2, a3, a4] t)) : (xset w1 xb y0 y1 y2 y3 y4).heap[xb]? = some (.cells #[y0, y1, y2, y3, y4] t) :=
  heap_setCell_at (heap_setCell_at (heap_setCell_at (heap_setCell_at (heap_setCell_at h 0 _) 1 _) 2 _) 3 _) 4 _
theorem xset_wrote (w1 : World) (xb : Nat) (y0 y1 y2 y3 y4 : Value) : Wrote w1 (xset w1 xb y0 y1 y2 y3 y4) (fun k => k = xb) :=
  (((((Wrote.refl w1 (fun k => k = xb)).set rfl 0 _).set rfl 1 _).set rfl 2 _).set rfl 3 _).set rfl 4 _
theorem Both.step2 (h : Both w wr b mb j v1 jb v2 xb r x) {arr : Bool} (hd : Doc w1 v2 jb (x.step arr)) (hw : Wrote wr w1 (fun k => k = jb)) :
    Both w (xset w1 xb v2 (.int .i64 ((x.step arr).at_ : Int)) (.int .i64 (x.step arr).sp) (.int .i64 (x.step arr).wt) (.slice (some ⟨jb, 0, none⟩) (x.step arr).xs.length (x.step arr).xs.length)) b mb j v1 jb v2 xb r (x.step arr) := by
  obtain ⟨l1, l2, l3, l4⟩ := h.lo
  obtain ⟨a1, a2, a3, a4, a5⟩ := h.ap
  have hx := step_xs x arr
  have hc1 := (hw.block xb (lt_of_at h.cell) (by omega)).trans h.cell
  have hc2 := xset_at (y0 := v2) (y1 := .int .i64 ((x.step arr).at_ : Int)) (y2 := .int .i64 (x.step arr).sp) (y3 := .int .i64 (x.step arr).wt) (y4 := .slice (some ⟨jb, 0, none⟩) (x.step arr).xs.length (x.step arr).xs.length) hc1
  have hw2 := xset_wrote w1 xb v2 (.int .i64 ((x.step arr).at_ : Int)) (.int .i64 (x.step arr).sp) (.int .i64 (x.step arr).wt) (.slice (some ⟨jb, 0, none⟩) (x.step arr).xs.length (x.step arr).xs.length)
  generalize xset w1 xb v2 (.int .i64 ((x.step arr).at_ : Int)) (.int .i64 (x.step arr).sp) (.int .i64 (x.step arr).wt) (.slice (some ⟨jb, 0, none⟩) (x.step arr).xs.length (x.step arr).xs.length) = w2 at *
  have hall : Wrote wr w2 (fun k => k = jb ∨ k = xb) := (hw.mono fun _ h => .inl h).trans (hw2.mono fun _ h => .inr h)
  have hr := h.run
  refine ⟨⟨(hall.block b hr.ptr (by omega)).trans hr.cells, hr.items.wrote' hall fun hn g hg => ?_, hr.apart, hr.map.kept hall (by omega), hr.ne⟩, ⟨hd.items.wrote' hw2 fun hn g hg => ?_, hd.jumps.keep hw2 (by omega), hd.apart⟩, hc2, h.ri, h.xi.step arr, by rw [hx]; exact h.xs, below_wrote h.below hall (by rintro i (rfl | rfl) <;> omega) h.below.size, h.lo, h.ap, h.v1n, h.v2n⟩
  · have := h.v1n hn g hg
    omega
  · rw [hx, h.xs] at hn
    have := h.v2n hn g hg
    omega
/-! ### The calls -/
theorem both_goal (h : Both w wr b mb j v1 jb v2 xb r x) : Calls Try.prog 21 #[.pointer (some ⟨b, 0, none⟩)] wr fun e w' => e = .returned r.goal ∧ Both w w' b mb j v1 jb v2 xb r x :=
  (goal_any wr b mb j v1 r h.run).mono fun _ _ hh => ⟨hh.1, h.quiet hh.2⟩
theorem both_rgoal (h : Both w wr b mb j v1 jb v2 xb r x) : Calls Try.prog 22 #[docV v2 jb x] wr fun e w' => e = .returned x.goal ∧ Both w w' b mb j v1 jb v2 xb r x :=
  (rgoal_any wr v2 (.slice (some ⟨jb, 0, none⟩) x.xs.length x.xs.length) x h.doc.items).mono fun _ _ hh => ⟨hh.1, h.quiet hh.2⟩
theorem both_index (h : Both w wr b mb j v1 jb v2 xb r x) : Calls Try.prog 23 #[.pointer (some ⟨b, 0, none⟩)] wr fun e w' => e = .returned (.int .i64 (r.at_ : Int)) ∧ Both w w' b mb j v1 jb v2 xb r x :=
  (index_any wr b mb j v1 r h.run).mono fun _ _ hh => ⟨hh.1, hh.2 ▸ h⟩
theorem both_over (h : Both w wr b mb j v1 jb v2 xb r x) : Calls Try.prog 24 #[.pointer (some ⟨b, 0, none⟩)] wr fun e w' => e = .returned (.bool (decide (r.xs.length ≤ r.at_))) ∧ Both w w' b mb j v1 jb v2 xb r x :=
  (over_any wr b mb j v1 r h.run).mono fun _ w' hh => ⟨hh.1, by obtain ⟨q, hq⟩ := hh.2; rw [hq]; exact h.quiet (below_drewN wr q)⟩
theorem both_awake (h : Both w wr b mb j v1 jb v2 xb r x) : Calls Try.prog 16 #[] wr fun e w' => e = .returned (.bool true) ∧ Both w w' b mb j v1 jb v2 xb r x :=
  (awake_any wr).mono fun _ _ hh => ⟨hh.1, h.quiet hh.2⟩
theorem both_step1 (h : Both w wr b mb j v1 jb v2 xb r x) (hj : j < maxLen) (arr : Bool) : Calls Try.prog 25 #[.pointer (some ⟨b, 0, none⟩), .bool arr] wr fun e w' => e = .returned (.tuple #[]) ∧ Both w w' b mb (j + 1) v1 jb v2 xb (r.step arr) x :=
  (step_any wr b mb j v1 r arr h.run hj h.ri).mono fun _ _ hh => ⟨hh.1, h.step1 hh.2.1 hh.2.2⟩
/-- Behind the document's Step, ahead of its store. -/
structure Half (w w1 : World) (b mb j : Nat) (v1 : Value) (jb : Nat) (v2 : Value) (xb : Nat) (r x x' : Rn) : Prop where
  old : w1.heap[xb]? = some (.cells (docC v2 jb x) 40)
  fin : Both w (xset w1 xb v2 (.int .i64 (x'.at_ : Int)) (.int .i64 x'.sp) (.int .i64 x'.wt) (.slice (some ⟨jb, 0, none⟩) x'.xs.length x'.xs.length)) b mb j v1 jb v2 xb r x'
theorem both_step2 (h : Both w wr b mb j v1 jb v2 xb r x) (arr : Bool) : Calls Try.prog 26 #[docV v2 jb x, .bool arr] wr fun e w' => e = .returned (docV v2 jb (x.step arr)) ∧ Half w w' b mb j v1 jb v2 xb r x (x.step arr) :=
  (rstep_any wr v2 jb x arr h.doc h.xi).mono fun _ w' hh => ⟨hh.1, (hh.2.2.block xb (lt_of_at h.cell) (by have := h.ap; omega)).trans h.cell, h.step2 hh.2.1 hh.2.2⟩
end
theorem goal_form (r : Rn) : ∃ k x y z s, r.goal = goalV k x y z s := by
  unfold Rn.goal
  split
  · exact ⟨_, _, _, _, _, rfl⟩
  · exact ⟨_, _, _, _, _, rfl⟩
end Go.Proofs.Ytkgenhoaeiihoaa
