/- The pair's flashes of an image. Condition: numbers are of their kinds. -/
import Derived.Test.YtngmnceahhlpkaaStR7
import Derived.Test.YtngmnceahhlpkaaRegs
import Derived.BigRegion
namespace Go.Proofs.Ytngmnceahhlpkaa
open Go.RowKit
theorem held_up {w W V : World} {b : Nat} {f : Fl} (h : Held W V b none f) (hb : Below w.heap.size w W) : Held w V b none f := ⟨h.at_, below_next hb h.below, Nat.le_trans hb.size h.new⟩
theorem Held.wrote {w W V : World} {b : Nat} {f : Fl} {S : Nat → Prop} (h : Held w W b none f) (hw : Wrote W V S) (hS : ∀ i, S i → w.heap.size ≤ i) (h1 : ¬ S b) : Held w V b none f :=
  ⟨h.at_.wrote hw h1 (fun g hg => by cases hg), Wrote.below h.below hw hS, h.new⟩
theorem Pair.wrote {w W V : World} {b r c : Nat} {f : Fl} {S : Nat → Prop} (h : Pair w W b r c none f) (hw : Wrote W V S) (hS : ∀ i, S i → w.heap.size ≤ i) (h1 : ¬ S b) (h2 : ¬ S r) (h3 : ¬ S c) : Pair w V b r c none f :=
  ⟨h.held.wrote hw hS h1, h.ref.wrote hw h2 h3, h.rn, h.cn, h.br, h.bc, h.Jr⟩
def zeroP : Obj := .cells #[.pointer none, .pointer none, .pointer none, .pointer none] 76
/-- The two blocks that a call makes. -/
structure Mk (w W : World) (v0 v2 : Value) : Prop where
  bl : Below w.heap.size w W
  res : W.heap[w.heap.size]? = some zeroP
  par : W.heap[w.heap.size + 1]? = some (.cells #[v0, .pointer none, v2, .pointer none] 76)
theorem Mk.new (w : World) : Mk w ((w.alloc zeroP).alloc zeroP) (.pointer none) (.pointer none) := by
  have hs : (w.alloc zeroP).heap.size = w.heap.size + 1 := by simp
  have h1 := heap_alloc_new w zeroP
  have h2 := heap_alloc_new (w.alloc zeroP) zeroP
  rw [hs] at h2
  exact ⟨(below_alloc1 w _).alloc (by rw [hs]; omega) _, ((below_alloc1 (w.alloc zeroP) zeroP).block _ (by rw [hs]; omega)).trans h1, h2⟩
theorem Mk.keep {w W V : World} {v0 v2 : Value} (h : Mk w W v0 v2) (hb : Below W.heap.size W V) : Mk w V v0 v2 :=
  ⟨below_next h.bl hb, (hb.block _ (lt_of_at h.res)).trans h.res, (hb.block _ (lt_of_at h.par)).trans h.par⟩
theorem Mk.wr (w W : World) (i : Nat) (v : Value) : Wrote W (W.setCell ⟨w.heap.size + 1, i, none⟩ v) (fun k => k = w.heap.size + 1) := Wrote.set (S := fun k => k = w.heap.size + 1) (b := w.heap.size + 1) (Wrote.refl W _) rfl i v
theorem Mk.set0 {w W : World} {v0 v2 : Value} (h : Mk w W v0 v2) (v : Value) : Mk w (W.setCell ⟨w.heap.size + 1, 0, none⟩ v) v v2 :=
  ⟨Wrote.below h.bl (Mk.wr w W 0 v) (fun i hi => by omega), (heap_setCell_ne (by omega) 0 v).trans h.res, heap_setCell_at h.par 0 v⟩
theorem Mk.set2 {w W : World} {v0 v2 : Value} (h : Mk w W v0 v2) (v : Value) : Mk w (W.setCell ⟨w.heap.size + 1, 2, none⟩ v) v0 v :=
  ⟨Wrote.below h.bl (Mk.wr w W 2 v) (fun i hi => by omega), (heap_setCell_ne (by omega) 2 v).trans h.res, heap_setCell_at h.par 2 v⟩
theorem Mk.cells {w W : World} {v0 v2 : Value} (h : Mk w W v0 v2) : W.cell? ⟨w.heap.size + 1, 0, none⟩ = some v0 ∧ W.cell? ⟨w.heap.size + 1, 1, none⟩ = some (.pointer none) ∧ W.cell? ⟨w.heap.size + 1, 2, none⟩ = some v2 ∧ W.cell? ⟨w.heap.size + 1, 3, none⟩ = some (.pointer none) :=
  ⟨cell_at h.par 0, cell_at h.par 1, cell_at h.par 2, cell_at h.par 3⟩
theorem Mk.free {w W : World} {v0 v2 : Value} (h : Mk w W v0 v2) : W.frozen? ⟨w.heap.size + 1, 0, none⟩ = false ∧ W.frozen? ⟨w.heap.size + 1, 2, none⟩ = false := ⟨free_at h.par 0, free_at h.par 2⟩
theorem Mk.rcells {w W : World} {v0 v2 : Value} (h : Mk w W v0 v2) : W.cell? ⟨w.heap.size, 0, none⟩ = some (.pointer none) ∧ W.cell? ⟨w.heap.size, 1, none⟩ = some (.pointer none) ∧ W.cell? ⟨w.heap.size, 2, none⟩ = some (.pointer none) ∧ W.cell? ⟨w.heap.size, 3, none⟩ = some (.pointer none) :=
  ⟨cell_at h.res 0, cell_at h.res 1, cell_at h.res 2, cell_at h.res 3⟩
theorem Mk.rfree {w W : World} {v0 v2 : Value} (h : Mk w W v0 v2) : W.frozen? ⟨w.heap.size, 0, none⟩ = false ∧ W.frozen? ⟨w.heap.size, 1, none⟩ = false ∧ W.frozen? ⟨w.heap.size, 2, none⟩ = false ∧ W.frozen? ⟨w.heap.size, 3, none⟩ = false := ⟨free_at h.res 0, free_at h.res 1, free_at h.res 2, free_at h.res 3⟩
theorem Mk.apart {w W : World} {v0 v2 : Value} (h : Mk w W v0 v2) {b : Nat} {f : Fl} (ha : At W b none f) : ¬ b = w.heap.size + 1 := fun e => (ha.ne_of h.par (by decide) (by decide)).1 e
theorem Mk.done {w W : World} {v0 v2 : Value} (h : Mk w W v0 v2) (a b c d : Value) :
    ((((((W.setCell ⟨w.heap.size, 0, none⟩ a).setCell ⟨w.heap.size, 1, none⟩ b).setCell ⟨w.heap.size, 2, none⟩ c).setCell ⟨w.heap.size, 3, none⟩ d).drew).heap[w.heap.size]? = some (.cells #[a, b, c, d] 76)) ∧
    Wrote W ((((W.setCell ⟨w.heap.size, 0, none⟩ a).setCell ⟨w.heap.size, 1, none⟩ b).setCell ⟨w.heap.size, 2, none⟩ c).setCell ⟨w.heap.size, 3, none⟩ d).drew (fun k => k = w.heap.size) :=
  ⟨heap_setCell_at (heap_setCell_at (heap_setCell_at (heap_setCell_at h.res 0 a) 1 b) 2 c) 3 d,
   ((((Wrote.refl W (fun k => k = w.heap.size)).set (b := w.heap.size) rfl 0 a).set (b := w.heap.size) rfl 1 b).set (b := w.heap.size) rfl 2 c |>.set (b := w.heap.size) rfl 3 d).drew⟩
theorem Pair.done {w W : World} {v0 v2 : Value} (m : Mk w W v0 v2) {b r c : Nat} {f : Fl} (h : Pair w W b r c none f) (x0 x1 x2 x3 : Value) :
    Pair w ((((W.setCell ⟨w.heap.size, 0, none⟩ x0).setCell ⟨w.heap.size, 1, none⟩ x1).setCell ⟨w.heap.size, 2, none⟩ x2).setCell ⟨w.heap.size, 3, none⟩ x3).drew b r c none f :=
  h.wrote (m.done x0 x1 x2 x3).2 (fun i hi => by omega) (fun e => (h.held.at_.ne_of m.res (by decide) (by decide)).1 e) (fun e => (h.ref.ne_of m.res (by decide) (by decide)).1 e.symm) (fun e => (h.ref.ne_of m.res (by decide) (by decide)).2 e.symm)
theorem Mk.done0 {w W : World} {v0 v2 : Value} (h : Mk w W v0 v2) (a b c d : Value) :
    (((((W.setCell ⟨w.heap.size, 0, none⟩ a).setCell ⟨w.heap.size, 1, none⟩ b).setCell ⟨w.heap.size, 2, none⟩ c).setCell ⟨w.heap.size, 3, none⟩ d).heap[w.heap.size]? = some (.cells #[a, b, c, d] 76)) ∧
    Wrote W ((((W.setCell ⟨w.heap.size, 0, none⟩ a).setCell ⟨w.heap.size, 1, none⟩ b).setCell ⟨w.heap.size, 2, none⟩ c).setCell ⟨w.heap.size, 3, none⟩ d) (fun k => k = w.heap.size) :=
  ⟨heap_setCell_at (heap_setCell_at (heap_setCell_at (heap_setCell_at h.res 0 a) 1 b) 2 c) 3 d,
   ((((Wrote.refl W (fun k => k = w.heap.size)).set (b := w.heap.size) rfl 0 a).set (b := w.heap.size) rfl 1 b).set (b := w.heap.size) rfl 2 c |>.set (b := w.heap.size) rfl 3 d)⟩
theorem Pair.done0 {w W : World} {v0 v2 : Value} (m : Mk w W v0 v2) {b r c : Nat} {f : Fl} (h : Pair w W b r c none f) (x0 x1 x2 x3 : Value) :
    Pair w ((((W.setCell ⟨w.heap.size, 0, none⟩ x0).setCell ⟨w.heap.size, 1, none⟩ x1).setCell ⟨w.heap.size, 2, none⟩ x2).setCell ⟨w.heap.size, 3, none⟩ x3) b r c none f :=
  h.wrote (m.done0 x0 x1 x2 x3).2 (fun i hi => by omega) (fun e => (h.held.at_.ne_of m.res (by decide) (by decide)).1 e) (fun e => (h.ref.ne_of m.res (by decide) (by decide)).1 e.symm) (fun e => (h.ref.ne_of m.res (by decide) (by decide)).2 e.symm)

set_option maxRecDepth 100000 in
set_option maxHeartbeats 1000000 in
theorem flash_empty (w : World) : Calls Try.prog 35 #[.string ByteArray.empty] w fun e w' => ∃ b r c, e = .returned (.tuple #[.agg #[.pointer (some ⟨b, 0, none⟩), .pointer none, .pointer (some ⟨r, 0, none⟩), .pointer none], .bool true]) ∧ Pair w w' b r c none Fl.new := by
  have M0 := Lib.hid (Mk.new w)
  go_enter Try.func35, Try.ntmps35
  go_wp2_with fail
  refine (new_held _).mono ?_
  rintro e w1 ⟨b, rfl, h1⟩
  have M1 : Hid (Mk w w1 (.pointer none) (.pointer none)) := M0.out.keep h1.below
  have H1 : Hid (Held w w1 b none Fl.new) := held_up h1 M0.out.bl
  clear h1 M0
  obtain ⟨c0, c1, c2, c3⟩ := M1.out.cells
  obtain ⟨g0, g2⟩ := M1.out.free
  go_wp2_with fail
  refine (rnew_any _).mono ?_
  rintro e w2 ⟨rfl, h2, b2⟩
  have M2 : Hid (Mk w w2 (.pointer (some ⟨b, 0, none⟩)) (.pointer none)) := (M1.out.set0 _).keep b2
  have H2 := Lib.hid (pair_of (H1.out.wrote (Mk.wr w w1 0 (.pointer (some ⟨b, 0, none⟩))) (fun i hi => by omega) (M1.out.apart H1.out.at_)) h2 b2 (by omega) (by omega))
  generalize (w1.setCell ⟨w.heap.size + 1, 0, none⟩ (.pointer (some ⟨b, 0, none⟩))).heap.size = n at *
  clear h2 b2 M1 H1 c0 c1 c2 c3 g0 g2
  obtain ⟨c0, c1, c2, c3⟩ := M2.out.cells
  obtain ⟨g0, g2⟩ := M2.out.free
  obtain ⟨d0, d1, d2, d3⟩ := M2.out.rcells
  obtain ⟨k0, k1, k2, k3⟩ := M2.out.rfree
  have M3 := Lib.hid (M2.out.set2 (.pointer (some ⟨n + 1, 0, none⟩)))
  have H3 : Hid (Pair w (w2.setCell ⟨w.heap.size + 1, 2, none⟩ (.pointer (some ⟨n + 1, 0, none⟩))) b (n + 1) n none Fl.new) :=
    H2.out.wrote (Mk.wr w w2 2 _) (fun i hi => by omega) (M2.out.apart H2.out.held.at_) (fun e => (H2.out.ref.ne_of M2.out.par (by decide) (by decide)).1 e.symm) (fun e => (H2.out.ref.ne_of M2.out.par (by decide) (by decide)).2 e.symm)
  go_upto_region 5 with fail
  generalize w2.setCell ⟨w.heap.size + 1, 2, none⟩ (.pointer (some ⟨n + 1, 0, none⟩)) = w3 at *
  clear M2 H2 c0 c1 c2 c3 g0 g2 d0 d1 d2 d3 k0 k1 k2 k3
  obtain ⟨c0, c1, c2, c3⟩ := M3.out.cells
  obtain ⟨g0, g2⟩ := M3.out.free
  obtain ⟨d0, d1, d2, d3⟩ := M3.out.rcells
  obtain ⟨k0, k1, k2, k3⟩ := M3.out.rfree
  go_wp2_with fail
  go_region
  have q := (M3.out.done (.pointer (some ⟨b, 0, none⟩)) (.pointer none) (.pointer (some ⟨n + 1, 0, none⟩)) (.pointer none)).1
  have HF := Lib.hid (H3.out.done M3.out (.pointer (some ⟨b, 0, none⟩)) (.pointer none) (.pointer (some ⟨n + 1, 0, none⟩)) (.pointer none))
  generalize (((((w3.setCell ⟨w.heap.size, 0, none⟩ (.pointer (some ⟨b, 0, none⟩))).setCell ⟨w.heap.size, 1, none⟩ (.pointer none)).setCell ⟨w.heap.size, 2, none⟩ (.pointer (some ⟨n + 1, 0, none⟩))).setCell ⟨w.heap.size, 3, none⟩ (.pointer none)).drew) = w4 at *
  have e0 := cell_at q 0
  have e1 := cell_at q 1
  have e2 := cell_at q 2
  have e3 := cell_at q 3
  clear M3 H3 c0 c1 c2 c3 g0 g2 d0 d1 d2 d3 k0 k1 k2 k3 q
  go_wp2_with fail
  (try simp only [Exit.inBlock, Exit.then])
  refine bodyPost_ret ?_ rfl ⟨b, n + 1, n, rfl, HF.out⟩
  rw [results_cell_tmp rfl]
  go_simp
theorem full_ne (s : ByteArray) (hs : s.size ≠ 0) : s.toList.isEmpty = false := by
  cases he : s.toList.isEmpty with
  | false => rfl
  | true =>
    exfalso
    rw [List.isEmpty_iff, Lib.toList_data] at he
    have : s.size = 0 := by show s.data.size = 0; rw [← Array.length_toList, he]; rfl
    omega
set_option maxRecDepth 100000 in
set_option maxHeartbeats 1000000 in
theorem flash_full (s : ByteArray) (w : World) (hs : s.size = 8192) : Calls Try.prog 35 #[.string s] w fun e w' => ∃ b r c, e = .returned (.tuple #[.agg #[.pointer (some ⟨b, 0, none⟩), .pointer none, .pointer (some ⟨r, 0, none⟩), .pointer none], .bool true]) ∧ Pair w w' b r c none (Fl.of (bytes s)) := by
  have M0 := Lib.hid (Mk.new w)
  have hne := full_ne s (by omega)
  have HS := Lib.hid hs
  clear hs
  go_enter Try.func35, Try.ntmps35
  go_wp2_with fail
  refine (of_held s _ HS.out).mono ?_
  rintro e w1 ⟨b, rfl, h1⟩
  have M1 : Hid (Mk w w1 (.pointer none) (.pointer none)) := M0.out.keep h1.below
  have H1 : Hid (Held w w1 b none (Fl.of (bytes s))) := held_up h1 M0.out.bl
  clear h1 M0
  go_wp2_with fail
  refine (rof_any s _ HS.out).mono ?_
  rintro e w2 ⟨rfl, h2, b2⟩
  have M2 : Hid (Mk w w2 (.pointer none) (.pointer none)) := M1.out.keep b2
  have H2 := Lib.hid (pair_of H1.out h2 b2 (by omega) (by omega))
  generalize w1.heap.size = n at *
  clear h2 b2 M1 H1
  obtain ⟨c0, c1, c2, c3⟩ := M2.out.cells
  obtain ⟨g0, g2⟩ := M2.out.free
  have hnr := (H2.out.ref.ne_of M2.out.par (by decide) (by decide)).1
  have hnc := (H2.out.ref.ne_of M2.out.par (by decide) (by decide)).2
  have M3 := Lib.hid ((M2.out.set0 (.pointer (some ⟨b, 0, none⟩))).set2 (.pointer (some ⟨n + 1, 0, none⟩)))
  have H3 : Hid (Pair w ((w2.setCell ⟨w.heap.size + 1, 0, none⟩ (.pointer (some ⟨b, 0, none⟩))).setCell ⟨w.heap.size + 1, 2, none⟩ (.pointer (some ⟨n + 1, 0, none⟩))) b (n + 1) n none (Fl.of (bytes s))) :=
    H2.out.wrote ((Mk.wr w w2 0 _).trans (Mk.wr w _ 2 _)) (fun i hi => by omega) (M2.out.apart H2.out.held.at_) (fun e => hnr e.symm) (fun e => hnc e.symm)
  clear hnr hnc
  go_upto_region 10 with fail
  generalize (w2.setCell ⟨w.heap.size + 1, 0, none⟩ (.pointer (some ⟨b, 0, none⟩))).setCell ⟨w.heap.size + 1, 2, none⟩ (.pointer (some ⟨n + 1, 0, none⟩)) = w3 at *
  clear M2 H2 c0 c1 c2 c3 g0 g2
  obtain ⟨c0, c1, c2, c3⟩ := M3.out.cells
  obtain ⟨g0, g2⟩ := M3.out.free
  obtain ⟨d0, d1, d2, d3⟩ := M3.out.rcells
  obtain ⟨k0, k1, k2, k3⟩ := M3.out.rfree
  go_wp2_with fail
  have q := (M3.out.done0 (.pointer (some ⟨b, 0, none⟩)) (.pointer none) (.pointer (some ⟨n + 1, 0, none⟩)) (.pointer none)).1
  have HF := Lib.hid (H3.out.done0 M3.out (.pointer (some ⟨b, 0, none⟩)) (.pointer none) (.pointer (some ⟨n + 1, 0, none⟩)) (.pointer none))
  generalize ((((w3.setCell ⟨w.heap.size, 0, none⟩ (.pointer (some ⟨b, 0, none⟩))).setCell ⟨w.heap.size, 1, none⟩ (.pointer none)).setCell ⟨w.heap.size, 2, none⟩ (.pointer (some ⟨n + 1, 0, none⟩))).setCell ⟨w.heap.size, 3, none⟩ (.pointer none)) = w4 at *
  have e0 := cell_at q 0
  have e1 := cell_at q 1
  have e2 := cell_at q 2
  have e3 := cell_at q 3
  clear M3 H3 c0 c1 c2 c3 g0 g2 d0 d1 d2 d3 k0 k1 k2 k3 q
  (try simp only [Exit.inBlock, Exit.then])
  refine bodyPost_ret ?_ rfl ⟨b, n + 1, n, rfl, HF.out⟩
  rw [results_cell_tmp rfl]
  go_simp
set_option maxRecDepth 100000 in
set_option maxHeartbeats 1000000 in
theorem flash_not (s : ByteArray) (w : World) (h0 : s.size ≠ 0) (hs : s.size ≠ 8192) : Calls Try.prog 35 #[.string s] w fun e w' => e = .returned (.tuple #[.agg #[.pointer none, .pointer none, .pointer none, .pointer none], .bool true]) ∧ Below w.heap.size w w' := by
  have M0 := Lib.hid (Mk.new w)
  have hne := full_ne s h0
  have HS := Lib.hid hs
  clear hs h0
  go_enter Try.func35, Try.ntmps35
  go_wp2_with fail
  refine (of_size s _ HS.out).mono ?_
  rintro e w1 ⟨rfl, rfl⟩
  go_wp2_with fail
  refine (rof_size s _ HS.out).mono ?_
  rintro e w1 ⟨rfl, rfl⟩
  go_wp2_with fail
  (try simp only [Exit.inBlock, Exit.then])
  refine bodyPost_ret ?_ rfl ⟨rfl, M0.out.bl⟩
  rw [results_cell_tmp rfl]
  go_simp
theorem flash_some (s : ByteArray) (w : World) (h : s.size = 0 ∨ s.size = 8192) : Calls Try.prog 35 #[.string s] w fun e w' => ∃ b r c, e = .returned (.tuple #[.agg #[.pointer (some ⟨b, 0, none⟩), .pointer none, .pointer (some ⟨r, 0, none⟩), .pointer none], .bool true]) ∧ Pair w w' b r c none (start s) := by
  unfold start
  by_cases h0 : s.size = 0
  · have : s = ByteArray.empty := by
      apply bytes_inj
      apply List.eq_nil_of_length_eq_zero
      rw [bytes_length, h0]
    rw [if_pos h0]
    subst this
    exact flash_empty w
  · rw [if_neg h0]
    exact flash_full s w (by omega)
end Go.Proofs.Ytngmnceahhlpkaa
