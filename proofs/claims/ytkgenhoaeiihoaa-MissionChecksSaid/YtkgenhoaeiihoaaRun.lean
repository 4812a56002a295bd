/- A mission that is being done, in memory; what Over, Index, next answer. Conditions: as RunAt says. -/
import Derived.Test.YtkgenhoaeiihoaaCheck
import Derived.Test.YtkgenhoaeiihoaaMap
namespace Go.Proofs.Ytkgenhoaeiihoaa
open Go.RowKit

structure Rn where
  xs : List It
  at_ : Nat
  sp : Int
  wt : Int
  f : Nat → Int
def Rn.cells (r : Rn) (v : Value) (mb : Nat) : Array Value := #[v, .int .i64 (r.at_ : Int), .int .i64 r.sp, .int .i64 r.wt, .map (some mb)]
structure RunAt (w : World) (b mb n : Nat) (v : Value) (r : Rn) : Prop where
  cells : w.heap[b]? = some (.cells (r.cells v mb) 70)
  items : IR w v r.xs
  apart : ∀ g, v.ownBlock = some g → g ≠ b ∧ g ≠ mb
  map : MapAs w mb n r.f
  ne : b ≠ mb
theorem RunAt.keep {w w' : World} {b mb n : Nat} {v : Value} {r : Rn} (h : RunAt w b mb n v r) {S : Nat → Prop} (hw : Wrote w w' S) (h1 : ¬ S b) (h2 : ¬ S mb) (h3 : ∀ g, v.ownBlock = some g → ¬ S g) : RunAt w' b mb n v r :=
  ⟨(hw.block b (lt_of_at h.cells) h1).trans h.cells, h.items.wrote hw h3, h.apart, h.map.kept hw h2, h.ne⟩
theorem RunAt.below {w w' : World} {b mb n : Nat} {v : Value} {r : Rn} (h : RunAt w b mb n v r) (hb : Below w.heap.size w w') : RunAt w' b mb n v r :=
  h.keep (Wrote.of_below hb (fun _ => False)) (fun x => x) (fun x => x) (fun _ _ x => x)
theorem RunAt.mono {w : World} {b mb n m : Nat} {v : Value} {r : Rn} (h : RunAt w b mb n v r) (hm : n ≤ m) : RunAt w b mb m v r := ⟨h.cells, h.items, h.apart, h.map.mono hm, h.ne⟩
theorem RunAt.ptr {w : World} {b mb n : Nat} {v : Value} {r : Rn} (h : RunAt w b mb n v r) : b < w.heap.size := lt_of_at h.cells
theorem RunAt.c0 {w : World} {b mb n : Nat} {v : Value} {r : Rn} (h : RunAt w b mb n v r) : w.cell? ⟨b, 0, none⟩ = some v := cell_at h.cells 0
theorem RunAt.c1 {w : World} {b mb n : Nat} {v : Value} {r : Rn} (h : RunAt w b mb n v r) : w.cell? ⟨b, 1, none⟩ = some (.int .i64 (r.at_ : Int)) := cell_at h.cells 1
theorem RunAt.c2 {w : World} {b mb n : Nat} {v : Value} {r : Rn} (h : RunAt w b mb n v r) : w.cell? ⟨b, 2, none⟩ = some (.int .i64 r.sp) := cell_at h.cells 2
theorem RunAt.c3 {w : World} {b mb n : Nat} {v : Value} {r : Rn} (h : RunAt w b mb n v r) : w.cell? ⟨b, 3, none⟩ = some (.int .i64 r.wt) := cell_at h.cells 3
theorem RunAt.c4 {w : World} {b mb n : Nat} {v : Value} {r : Rn} (h : RunAt w b mb n v r) : w.cell? ⟨b, 4, none⟩ = some (.map (some mb)) := cell_at h.cells 4

set_option maxRecDepth 100000 in
theorem over_nil (w : World) : Calls Try.prog 24 #[.pointer none] w fun e w' => e = .returned (.bool false) ∧ ∃ q, w' = w.drewN q := by
  go_enter Try.func24, Try.ntmps24
  go_wp2_with fail
  go_big_quiet (fail)
  go_wp2_with fail
  go_ret
  exact ⟨rfl, nq, rfl⟩
def OverPost (w : World) (r : Rn) (e : Ending) (w' : World) : Prop := e = .returned (.bool (decide (r.xs.length ≤ r.at_))) ∧ ∃ q, w' = w.drewN q
set_option maxRecDepth 100000 in
theorem over_any (w : World) (b mb n : Nat) (v : Value) (r : Rn) (h : RunAt w b mb n v r) : Calls Try.prog 24 #[.pointer (some ⟨b, 0, none⟩)] w (OverPost w r) := by
  obtain ⟨A, cap, rfl⟩ := h.items.form
  have c0 := cell_at h.cells 0
  have c1 := cell_at h.cells 1
  have HF : Hid (∀ B q, B = decide (r.xs.length ≤ r.at_) → OverPost w r (.returned (.bool B)) (w.drewN q)) := fun B q hB => ⟨by rw [hB], q, rfl⟩
  have hsm := h.items.small
  simp only [Rn.cells] at c0 c1
  change _ = some _ at c0
  change _ = some _ at c1
  clear h
  generalize r.xs.length = l at *
  generalize r.at_ = k at *
  by_cases hlt : l ≤ k
  · go_enter Try.func24, Try.ntmps24
    go_wp2_with fail
    go_big_quiet (fail)
    go_wp2_with fail
    go_ret
    exact HF.out _ _ (by simp [hlt])
  · go_enter Try.func24, Try.ntmps24
    go_wp2_with fail
    go_big_quiet (fail)
    go_wp2_with fail
    go_ret
    exact HF.out _ _ (by simp [hlt])
set_option maxRecDepth 100000 in
theorem index_nil (w : World) : Calls Try.prog 23 #[.pointer none] w fun e w' => e = .returned (.int .i64 0) ∧ w' = w := by
  go_enter Try.func23, Try.ntmps23
  go_wp2_with fail
  go_ret
  exact ⟨rfl, rfl⟩
set_option maxRecDepth 100000 in
theorem index_any (w : World) (b mb n : Nat) (v : Value) (r : Rn) (h : RunAt w b mb n v r) : Calls Try.prog 23 #[.pointer (some ⟨b, 0, none⟩)] w fun e w' => e = .returned (.int .i64 (r.at_ : Int)) ∧ w' = w := by
  have c1 := cell_at h.cells 1
  simp only [Rn.cells] at c1
  change _ = some _ at c1
  clear h
  go_enter Try.func23, Try.ntmps23
  go_wp2_with fail
  go_ret
  exact ⟨rfl, rfl⟩
/-- next, where the run's block lies so. -/
def NextPost (w : World) (b : Nat) (v m : Value) (k : Nat) (sp : Int) (e : Ending) (w' : World) : Prop :=
  e = .returned (.tuple #[]) ∧ w'.heap[b]? = some (.cells #[v, .int .i64 ((k + 1 : Nat) : Int), .int .i64 sp, .int .i64 0, m] 70) ∧ Wrote w w' (fun j => j = b)
set_option maxRecDepth 100000 in
theorem next_any (w : World) (b : Nat) (v m : Value) (k : Nat) (sp wt : Int) (hk : k ≤ 1000) (h : w.heap[b]? = some (.cells #[v, .int .i64 (k : Int), .int .i64 sp, .int .i64 wt, m] 70)) :
    Calls Try.prog 37 #[.pointer (some ⟨b, 0, none⟩)] w (NextPost w b v m k sp) := by
  have c1 := cell_at h 1
  have c3 := cell_at h 3
  have f1 := free_at h 1
  have f3 := free_at h 3
  change _ = some _ at c1
  change _ = some _ at c3
  have H := Lib.hid h
  clear h
  go_enter Try.func37, Try.ntmps37
  go_wp2_with fail
  go_end0
  have h1 := heap_setCell_at H.out 1 (.int .i64 ((k + 1 : Nat) : Int))
  have h2 := heap_setCell_at h1 3 (.int .i64 0)
  exact ⟨rfl, h2, ((Wrote.refl w (fun j => j = b)).set rfl 1 _).set rfl 3 _⟩
end Go.Proofs.Ytkgenhoaeiihoaa
