/- What is known of an object then (told). Conditions: the store lies in memory; what it has is what is known, or the whole of what was cut. -/
import Derived.Test.YtngmnceahhlpkaaSt9
namespace Go.Proofs.Ytngmnceahhlpkaa
open Go.RowKit
def knV (is : Bool) (s : ByteArray) (cut : Bool) (late : ByteArray) : Value := .agg #[.bool is, .string s, .bool cut, .string late]
def ToldPost (w : World) (gis : Bool) (got : ByteArray) (e : Ending) (w' : World) : Prop := e = .returned (.tuple #[knV gis got false { data := #[] }, .bool true]) ∧ Below w.heap.size w w'
theorem told_blocks {W w1 : World} {o1 o2 : Obj} (hb : Below ((W.alloc o1).alloc o2).heap.size ((W.alloc o1).alloc o2) w1) :
    w1.heap[W.heap.size]? = some o1 ∧ w1.heap[W.heap.size + 1]? = some o2 ∧ Below W.heap.size W w1 := by
  have hs : (W.alloc o1).heap.size = W.heap.size + 1 := by simp
  have hs2 : ((W.alloc o1).alloc o2).heap.size = W.heap.size + 2 := by simp
  have h2 := heap_alloc_new (W.alloc o1) o2
  rw [hs] at h2
  have h1 : ((W.alloc o1).alloc o2).heap[W.heap.size]? = some o1 := ((below_alloc1 (W.alloc o1) o2).block _ (by rw [hs]; omega)).trans (heap_alloc_new W o1)
  exact ⟨(hb.block _ (by rw [hs2]; omega)).trans h1, (hb.block _ (by rw [hs2]; omega)).trans h2, below_next (below_next (below_alloc1 W o1) (below_alloc1 _ o2)) hb⟩
set_option maxRecDepth 100000 in
set_option maxHeartbeats 1000000 in
theorem told_any (W : World) (sb fb : Nat) (s : St) (id : Int) (gis : Bool) (got : ByteArray) (is : Bool) (old : ByteArray) (cut : Bool) (late : ByteArray) (h : StAt W sb fb s) (hg : St.get s id = (got, gis))
    (hres : (is = gis ∧ old = got) ∨ (cut = true ∧ gis = true ∧ late = got)) :
    Calls Try.prog 34 #[.pointer (some ⟨sb, 0, none⟩), .int .i64 id, knV is old cut late] W (ToldPost W gis got) := by
  have HS : Hid (StAt (((W.alloc (.cells #[.bool is, .string old, .bool cut, .string late] 58))).alloc (.cells #[.bool false, .string { data := #[] }, .bool false, .string { data := #[] }] 58)) sb fb s) := (h.below (below_alloc1 _ _)).below (below_alloc1 _ _)
  have HG := Lib.hid hg
  have HR := Lib.hid hres
  clear h hg hres
  unfold knV
  go_enter Try.func34, Try.ntmps34
  go_wp2_with fail
  refine (get_any _ sb fb s id HS.out).mono ?_
  rintro e w1 ⟨rfl, hb⟩
  rw [HG.out]
  obtain ⟨h1, h2, h3⟩ := told_blocks hb
  have HB := Lib.hid h3
  have HBB : Hid (W.heap.size ≤ W.heap.size + 1) := Nat.le_succ _
  have hab : W.heap.size ≠ W.heap.size + 1 := by omega
  have hba : ¬ W.heap.size + 1 = W.heap.size := by omega
  have c0 : w1.cell? ⟨W.heap.size, 0, none⟩ = some (.bool is) := cell_at h1 0
  have c1 : w1.cell? ⟨W.heap.size, 1, none⟩ = some (.string old) := cell_at h1 1
  have c2 : w1.cell? ⟨W.heap.size, 2, none⟩ = some (.bool cut) := cell_at h1 2
  have c3 : w1.cell? ⟨W.heap.size, 3, none⟩ = some (.string late) := cell_at h1 3
  have d0 : w1.cell? ⟨W.heap.size + 1, 0, none⟩ = some (.bool false) := cell_at h2 0
  have d1 : w1.cell? ⟨W.heap.size + 1, 1, none⟩ = some (.string { data := #[] }) := cell_at h2 1
  have d2 : w1.cell? ⟨W.heap.size + 1, 2, none⟩ = some (.bool false) := cell_at h2 2
  have d3 : w1.cell? ⟨W.heap.size + 1, 3, none⟩ = some (.string { data := #[] }) := cell_at h2 3
  have y0 := free_at h2 0
  have y1 := free_at h2 1
  have y2 := free_at h2 2
  have y3 := free_at h2 3
  have HF : Hid (ToldPost W gis got (.returned (.tuple #[.agg #[.bool gis, .string got, .bool false, .string { data := #[] }], .bool true])) ((((w1.setCell ⟨W.heap.size + 1, 0, none⟩ (.bool gis)).setCell ⟨W.heap.size + 1, 1, none⟩ (.string got)).setCell ⟨W.heap.size + 1, 2, none⟩ (.bool false)).setCell ⟨W.heap.size + 1, 3, none⟩ (.string { data := #[] }))) :=
    ⟨rfl, (((HB.out.setCell HBB.out _).setCell HBB.out _).setCell HBB.out _).setCell HBB.out _⟩
  clear hb h1 h2 h3 HB HBB HS HG
  generalize W.heap.size + 1 = b at *
  generalize W.heap.size = a at *
  by_cases hold : is = gis ∧ old = got
  · obtain ⟨rfl, rfl⟩ := hold
    clear HR
    cases is with
    | true =>
      cases cut with
      | true =>
        go_wp2_with fail
        (try simp only [Exit.inBlock, Exit.then])
        refine bodyPost_ret ?_ rfl HF.out
        rw [results_cell_tmp rfl]
        go_simp
      | false =>
        go_wp2_with fail
        (try simp only [Exit.inBlock, Exit.then])
        refine bodyPost_ret ?_ rfl HF.out
        rw [results_cell_tmp rfl]
        go_simp
    | false =>
      cases cut with
      | true =>
        go_wp2_with fail
        (try simp only [Exit.inBlock, Exit.then])
        refine bodyPost_ret ?_ rfl HF.out
        rw [results_cell_tmp rfl]
        go_simp
      | false =>
        go_wp2_with fail
        (try simp only [Exit.inBlock, Exit.then])
        refine bodyPost_ret ?_ rfl HF.out
        rw [results_cell_tmp rfl]
        go_simp
  · have hl : cut = true ∧ gis = true ∧ late = got := HR.out.resolve_left hold
    obtain ⟨rfl, rfl, rfl⟩ := hl
    clear HR
    obtain ⟨x, hx⟩ : ∃ x, (late.toList == old.toList) = x := ⟨_, rfl⟩
    cases is with
    | true =>
      have hlo : ¬ old = late := fun h => hold ⟨rfl, h⟩
      clear hold
      cases x with
      | true =>
        go_wp2_with fail
        (try simp only [Exit.inBlock, Exit.then])
        refine bodyPost_ret ?_ rfl HF.out
        rw [results_cell_tmp rfl]
        go_simp
      | false =>
        go_wp2_with fail
        (try simp only [Exit.inBlock, Exit.then])
        refine bodyPost_ret ?_ rfl HF.out
        rw [results_cell_tmp rfl]
        go_simp
    | false =>
      clear hold hx
      go_wp2_with fail
      (try simp only [Exit.inBlock, Exit.then])
      refine bodyPost_ret ?_ rfl HF.out
      rw [results_cell_tmp rfl]
      go_simp
end Go.Proofs.Ytngmnceahhlpkaa
