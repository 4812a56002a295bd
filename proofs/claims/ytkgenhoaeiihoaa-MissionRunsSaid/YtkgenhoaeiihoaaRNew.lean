/- The document's run: what New answers, in whatever world. Conditions: the items can be read. -/
import Derived.Test.YtkgenhoaeiihoaaRGoal
import Derived.Test.YtkgenhoaeiihoaaNew
import Derived.Laws.MakeOwn
import Derived.Laws.ResultCell
namespace Go.Proofs.Ytkgenhoaeiihoaa
open Go.RowKit
/-- The document's row of how often was jumped. -/
def JumpAt (w : World) (jb n : Nat) (f : Nat → Int) : Prop := ∃ cs, w.heap[jb]? = some (.cells cs 3) ∧ ∀ i, i < n → cs[i]? = some (.int .i64 (f i))
def RNewPost (w : World) (xs : List It) (sp : Int) (e : Ending) (w' : World) : Prop :=
  ∃ v jb, e = .returned (.tuple #[runV v 0 sp 0 (.slice (some ⟨jb, 0, none⟩) xs.length xs.length), .int .i64 0]) ∧ IR w' v xs ∧ JumpAt w' jb xs.length (fun _ => 0) ∧ w.heap.size ≤ jb ∧ (∀ g, v.ownBlock = some g → w.heap.size ≤ g ∧ g ≠ jb) ∧ Below w.heap.size w w'
theorem jump_made (w : World) (n : Nat) : JumpAt (w.alloc (.cells (madeCells #[.int .i64 0] n) 3)) w.heap.size n (fun _ => 0) :=
  ⟨_, heap_alloc_new w _, fun i hi => by simp [madeCells, hi, Nat.mod_one]⟩
theorem info40 : (Try.prog.info? 40).map (·.size) = some 5 := by kernel_rfl
theorem info3 : (Try.prog.info? 3).map (fun i => (i.zero, i.size, i.bytes)) = some (some (.int .i64 0), 1, 8) := by kernel_rfl
def rset (w2 : World) (B : Nat) (v : Value) (sp : Int) (n : Nat) : World := ((((w2.setCell ⟨B, 0, none⟩ v).setCell ⟨B, 1, none⟩ (.int .i64 0)).setCell ⟨B, 2, none⟩ (.int .i64 sp)).setCell ⟨B, 3, none⟩ (.int .i64 0)).setCell ⟨B, 4, none⟩ (.slice (some ⟨w2.heap.size, 0, none⟩) n n)
theorem rset_size (w2 : World) (B : Nat) (v : Value) (sp : Int) (n : Nat) : (rset w2 B v sp n).heap.size = w2.heap.size := by simp [rset, World.setCell]
theorem rset_wrote (w2 : World) (B : Nat) (v : Value) (sp : Int) (n : Nat) : Wrote w2 (rset w2 B v sp n) (fun k => k = B) :=
  (((((Wrote.refl w2 (fun k => k = B)).set rfl 0 _).set rfl 1 _).set rfl 2 _).set rfl 3 _).set rfl 4 _
theorem rset_at {w2 : World} {B : Nat} (v : Value) (sp : Int) (n : Nat) {a0 a1 a2 a3 a4 : Value} (h : w2.heap[B]? = some (.cells #[a0, a1, a2, a3, a4] 40)) :
    (rset w2 B v sp n).heap[B]? = some (.cells #[v, .int .i64 0, .int .i64 sp, .int .i64 0, .slice (some ⟨w2.heap.size, 0, none⟩) n n] 40) :=
  heap_setCell_at (heap_setCell_at (heap_setCell_at (heap_setCell_at (heap_setCell_at h 0 v) 1 _) 2 _) 3 _) 4 _
theorem rset_post {w w1 w2 : World} {v : Value} {xs : List It} {sp : Int} (n : Nat) (hn : xs.length = n) (hs : xs.length * 32 ≤ 140737488351232) (hB : w.heap.size < w1.heap.size) (hb1 : Below w.heap.size w w1) (hb2 : Below w1.heap.size w1 w2) (ho : w2.ownsRow w1.heap.size 45 4 v xs.length (xs.flatMap itL)) :
    RNewPost w xs sp (.returned (.tuple #[runV v 0 sp 0 (.slice (some ⟨w2.heap.size, 0, none⟩) n n), .int .i64 0])) ((rset w2 w.heap.size v sp n).alloc (.cells (madeCells #[.int .i64 0] n) 3)) := by
  subst hn
  have hw := rset_wrote w2 w.heap.size v sp xs.length
  have hsz := rset_size w2 w.heap.size v sp xs.length
  have hs2 := hb2.size
  have hir := ir_own ho hs
  have hlt : ∀ g, v.ownBlock = some g → w1.heap.size ≤ g ∧ g < w2.heap.size := fun g hg => ho.lt g hg
  generalize rset w2 w.heap.size v sp xs.length = w5 at *
  have hir5 : IR w5 v xs := hir.wrote hw (fun g hg h => by have := hlt g hg; omega)
  have hj := jump_made w5 xs.length
  rw [hsz] at hj
  refine ⟨v, w2.heap.size, rfl, hir5.below (below_alloc1 w5 _), hj, by omega, fun g hg => ?_, ?_⟩
  · have := hlt g hg
    omega
  · have h12 := below_next hb1 hb2
    have h5 : Below w.heap.size w w5 := below_wrote h12 hw (fun i hi => by omega) h12.size
    exact h5.alloc (by omega) _
set_option maxRecDepth 100000 in
set_option maxHeartbeats 2000000 in
theorem rnew_good (w : World) (sp : Int) (v : Value) (xs : List It) (h : IR w v xs) (hz : chk xs = 0) : Calls Try.prog 20 #[.int .i64 sp, v] w (RNewPost w xs sp) := by
  have H := Lib.hid h
  obtain ⟨i0, hi, hz0, hz1, hz2⟩ := info_parts info45
  have h64 := (chk_all hz).1
  have HS := Lib.hid h.1
  rcases h.news with ⟨rfl, rfl⟩ | ⟨ad, cap, rfl, hnews⟩
  · clear h
    obtain ⟨i3, hi3, hy0, hy1, hy2⟩ := info_parts info3
    have hmk := fun W => run_make (P := Try.prog) W 38 3 i3 (.int .i64 0) Try.underlying38 hi3 hy0 .i64 .i64 0 0 (by omega) (by omega) (by rw [hy2]; omega) (by omega)
    simp only [Int.toNat_zero, hy1, Nat.mul_one] at hmk
    go_enter Try.func20, Try.ntmps20
    go_wp2_with fail
    refine (rcheck_any _ _ [] (H.out.below (below_alloc1 w _))).mono ?_
    rintro e w1 ⟨rfl, hb1⟩
    have HB1 := Lib.hid (below_next (below_alloc1 w _) hb1)
    have HB01 := Lib.hid hb1
    rw [hz]
    clear hb1 hz h64
    have hres : w1.heap[w.heap.size]? = some (.cells #[.slice none 0 0, .int .i64 0, .int .i64 0, .int .i64 0, .slice none 0 0] 40) := by
      have hl : w.heap.size < (w.alloc (.cells #[.slice none 0 0, .int .i64 0, .int .i64 0, .int .i64 0, .slice none 0 0] 40)).heap.size := by rw [alloc_size]; omega
      exact (HB01.out.block w.heap.size hl).trans (heap_alloc_new w (.cells #[.slice none 0 0, .int .i64 0, .int .i64 0, .int .i64 0, .slice none 0 0] 40))
    have HRES := Lib.hid hres
    have hrl := lt_of_at hres
    have y0 : w1.cell? ⟨w.heap.size, 0, none⟩ = some (.slice none 0 0) := cell_at hres 0
    have y1 : w1.cell? ⟨w.heap.size, 1, none⟩ = some (.int .i64 0) := cell_at hres 1
    have y2 : w1.cell? ⟨w.heap.size, 2, none⟩ = some (.int .i64 0) := cell_at hres 2
    have y3 : w1.cell? ⟨w.heap.size, 3, none⟩ = some (.int .i64 0) := cell_at hres 3
    have y4 : w1.cell? ⟨w.heap.size, 4, none⟩ = some (.slice none 0 0) := cell_at hres 4
    have f0 := free_at hres 0
    have f1 := free_at hres 1
    have f2 := free_at hres 2
    have f3 := free_at hres 3
    have f4 := free_at hres 4
    clear hres
    go_wp2_with (at_builtin; refine wpList_append_own_none rfl _ _ 22 rfl w1.heap.size 45 i0 4 Try.underlying22 hi _ 0 [] rfl (World.ownsRow_nil _ _ _ _) rfl ?_)
    (try simp only [Exit.inBlock, Exit.then])
    refine bodyPost_ret (v := .tuple #[runV (.slice none 0 0) 0 sp 0 (.slice (some ⟨w1.heap.size, 0, none⟩) 0 0), .int .i64 0]) ?_ rfl (rset_post 0 rfl HS.out (by have := HB01.out.size; rw [alloc_size] at this; omega) HB1.out (Below.refl _ _) (World.ownsRow_nil _ _ _ _))
    rw [results_cell_tmp rfl]
    have hfin := rset_at (w2 := w1) (.slice none 0 0) sp 0 HRES.out
    have hfin2 := (Below.heap_alloc _ (.cells (madeCells #[.int .i64 0] 0) 3) _ (lt_of_at hfin)).trans hfin
    have hrun := run_loadVar_row (P := Try.prog) (ty := 40) _ w.heap.size 40 _ (0, 0) _ hfin2 Try.underlying40 rfl info40
    simp only [rset] at hrun
    simp [asAddr, Result.andThen, hrun, runV]
  · have HL : Hid ((xs.flatMap itL).length = xs.length * 4) := flat_len itL_len xs
    have H1 := Lib.hid (it_one xs)
    clear h hnews
    generalize hn : xs.length = n at *
    have HLN := Lib.hid hn
    clear hn
    obtain ⟨i3, hi3, hy0, hy1, hy2⟩ := info_parts info3
    have hmk := fun W => run_make (P := Try.prog) W 38 3 i3 (.int .i64 0) Try.underlying38 hi3 hy0 .i64 .i64 (n : Int) (n : Int) (by omega) (by omega) (by rw [hy2]; omega) (by omega)
    simp only [Int.toNat_natCast, hy1, Nat.mul_one] at hmk
    go_enter Try.func20, Try.ntmps20
    go_wp2_with fail
    refine (rcheck_any _ _ xs (H.out.below (below_alloc1 w _))).mono ?_
    rintro e w1 ⟨rfl, hb1⟩
    have HB1 := Lib.hid (below_next (below_alloc1 w _) hb1)
    have HB01 := Lib.hid hb1
    rw [hz]
    have HC := Lib.hid (H.out.below HB1.out).newsAt
    clear hb1
    go_wp2_with (at_builtin; refine wpList_append_own _ rfl _ _ 22 rfl w1.heap.size 45 i0 _ 4 32 Try.underlying22 hi hz0 hz1 hz2 rfl (by decide) _ 0 [] rfl (World.ownsRow_nil _ _ _ _) ad n cap (xs.flatMap itL) rfl HL.out HC.out H1.out (by unfold maxLen; omega) (by omega) (Nat.le_refl _) ?_)
    intro v1 w2 hown hgrow _
    have hf : ∃ A' c', v1 = .slice A' n c' := by
      rcases hown.2 with ⟨h, h0⟩ | ⟨g, c, cur, h, _⟩
      · exact ⟨none, 0, by rw [h, show n = 0 by omega]⟩
      · exact ⟨_, _, by rw [h]⟩
    obtain ⟨A', c', rfl⟩ := hf
    have HB12 : Hid (Below w1.heap.size w1 w2) := (Below.refl _ _).grown hgrow (Nat.le_refl _) (by intro k hk; cases hk)
    have hres : w2.heap[w.heap.size]? = some (.cells #[.slice none 0 0, .int .i64 0, .int .i64 0, .int .i64 0, .slice none 0 0] 40) := by
      have hl : w.heap.size < (w.alloc (.cells #[.slice none 0 0, .int .i64 0, .int .i64 0, .int .i64 0, .slice none 0 0] 40)).heap.size := by rw [alloc_size]; omega
      have h1 := (HB01.out.block w.heap.size hl).trans (heap_alloc_new w (.cells #[.slice none 0 0, .int .i64 0, .int .i64 0, .int .i64 0, .slice none 0 0] 40))
      exact (HB12.out.block w.heap.size (lt_of_at h1)).trans h1
    have HRES := Lib.hid hres
    have hrl := lt_of_at hres
    have y0 : w2.cell? ⟨w.heap.size, 0, none⟩ = some (.slice none 0 0) := cell_at hres 0
    have y1 : w2.cell? ⟨w.heap.size, 1, none⟩ = some (.int .i64 0) := cell_at hres 1
    have y2 : w2.cell? ⟨w.heap.size, 2, none⟩ = some (.int .i64 0) := cell_at hres 2
    have y3 : w2.cell? ⟨w.heap.size, 3, none⟩ = some (.int .i64 0) := cell_at hres 3
    have y4 : w2.cell? ⟨w.heap.size, 4, none⟩ = some (.slice none 0 0) := cell_at hres 4
    have f0 := free_at hres 0
    have f1 := free_at hres 1
    have f2 := free_at hres 2
    have f3 := free_at hres 3
    have f4 := free_at hres 4
    have HO1 := Lib.hid hown
    clear hown hgrow hres
    go_wp2_with fail
    (try simp only [Exit.inBlock, Exit.then])
    refine bodyPost_ret (v := .tuple #[runV (.slice A' n c') 0 sp 0 (.slice (some ⟨w2.heap.size, 0, none⟩) n n), .int .i64 0]) ?_ rfl (rset_post n HLN.out (by rw [HLN.out]; exact HS.out) (by have := HB01.out.size; rw [alloc_size] at this; omega) HB1.out HB12.out (by rw [HLN.out]; exact HO1.out))
    rw [results_cell_tmp rfl]
    have hfin := rset_at (w2 := w2) (.slice A' n c') sp n HRES.out
    have hfin2 := (Below.heap_alloc _ (.cells (madeCells #[.int .i64 0] n) 3) _ (lt_of_at hfin)).trans hfin
    have hrun := run_loadVar_row (P := Try.prog) (ty := 40) _ w.heap.size 40 _ (0, 0) _ hfin2 Try.underlying40 rfl info40
    simp only [rset] at hrun
    simp [asAddr, Result.andThen, hrun, runV]
end Go.Proofs.Ytkgenhoaeiihoaa
