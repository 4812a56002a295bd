/- The document's run: what Step answers, in whatever world. Conditions: the items can be read, the row of jumps lies in memory. -/
import Derived.Test.YtkgenhoaeiihoaaRNew
namespace Go.Proofs.Ytkgenhoaeiihoaa
open Go.RowKit
def ROut (w0 : World) (rv : Value) (e : Ending) (w' : World) : Prop := e = .returned rv ∧ Below w0.heap.size w0 w'
theorem mid_at (w : World) (a r x : Obj) : (((w.alloc a).alloc r).alloc x).heap[w.heap.size + 1]? = some r := by
  rw [Below.heap_alloc _ _ _ (by rw [alloc_size, alloc_size]; omega)]
  exact two_new w a r
theorem two_below (w : World) (a r : Obj) : Below w.heap.size w ((w.alloc a).alloc r) := (below_alloc1 w a).alloc (by rw [alloc_size]; omega) r
theorem mid_below (w : World) (a r x : Obj) : Below w.heap.size w (((w.alloc a).alloc r).alloc x) := (two_below w a r).alloc (by rw [alloc_size, alloc_size]; omega) x
theorem mid_atN (w : World) (n : Nat) (a r x : Obj) : ((((w.alloc a).alloc r).alloc x).drewN n).heap[w.heap.size + 1]? = some r := mid_at w a r x
theorem mid_atS (w : World) (s n : Nat) (a r x : Obj) (hs : w.heap.size = s) : ((((w.alloc a).alloc r).alloc x).drewN n).heap[s + 1]? = some r := by
  subst hs
  exact mid_at w a r x
theorem set_size (w : World) (a : Addr) (v : Value) : (w.setCell a v).heap.size = w.heap.size := by simp [World.setCell]
theorem mid_belowN (w : World) (n : Nat) (a r x : Obj) : Below w.heap.size w ((((w.alloc a).alloc r).alloc x).drewN n) := below_next (mid_below w a r x) (below_drewN _ n)
set_option maxRecDepth 100000 in
set_option maxHeartbeats 1000000 in
theorem rstep_over (w : World) (A : Option Addr) (cap n k jb : Nat) (sp wt : Int) (arr : Bool) (hk : n ≤ k) (_ : k ≤ 9223372036854775807) :
    Calls Try.prog 26 #[runV (.slice A n cap) k sp wt (.slice (some ⟨jb, 0, none⟩) n n), .bool arr] w (ROut w (runV (.slice A n cap) k sp wt (.slice (some ⟨jb, 0, none⟩) n n))) := by
  unfold runV
  go_enter Try.func26, Try.ntmps26
  go_wp2_with fail
  (try simp only [Exit.inBlock, Exit.then])
  refine bodyPost_ret (results_cell_row rfl _ _ _ _ _ _ _ rfl (two_new w _ _) Try.underlying40 rfl info40) rfl ?_
  exact ⟨rfl, two_below w _ _⟩
set_option maxRecDepth 100000 in
set_option maxHeartbeats 1000000 in
theorem rstep1_yes (w : World) (g off cap n k jb : Nat) (sp wt : Int) (xa xb xc : Int) (hk : k < n) (_ : n ≤ 64) (_ : g < w.heap.size) (hi : ItAt w g (off + k * 4) ⟨1, xa, xb, xc⟩) :
    Calls Try.prog 26 #[runV (.slice (some ⟨g, off, none⟩) n cap) k sp wt (.slice (some ⟨jb, 0, none⟩) n n), .bool true] w (ROut w (runV (.slice (some ⟨g, off, none⟩) n cap) (k + 1) sp wt (.slice (some ⟨jb, 0, none⟩) n n))) := by
  obtain ⟨p0, p1, p2, p3⟩ := hi
  simp only at p0 p1 p2 p3
  unfold runV
  go_enter Try.func26, Try.ntmps26
  go_wp2_with fail
  (try simp only [Exit.inBlock, Exit.then])
  refine bodyPost_ret (results_cell_row rfl _ _ _ _ _ _ _ rfl (mid_at w _ _ _) Try.underlying40 rfl info40) rfl ?_
  exact ⟨by simp, mid_below w _ _ _⟩
set_option maxRecDepth 100000 in
set_option maxHeartbeats 1000000 in
theorem rstep1_no (w : World) (g off cap n k jb : Nat) (sp wt : Int) (xa xb xc : Int) (hk : k < n) (_ : n ≤ 64) (_ : g < w.heap.size) (hi : ItAt w g (off + k * 4) ⟨1, xa, xb, xc⟩) :
    Calls Try.prog 26 #[runV (.slice (some ⟨g, off, none⟩) n cap) k sp wt (.slice (some ⟨jb, 0, none⟩) n n), .bool false] w (ROut w (runV (.slice (some ⟨g, off, none⟩) n cap) k sp wt (.slice (some ⟨jb, 0, none⟩) n n))) := by
  obtain ⟨p0, p1, p2, p3⟩ := hi
  simp only at p0 p1 p2 p3
  unfold runV
  go_enter Try.func26, Try.ntmps26
  go_wp2_with fail
  (try simp only [Exit.inBlock, Exit.then])
  refine bodyPost_ret (results_cell_row rfl _ _ _ _ _ _ _ rfl (mid_at w _ _ _) Try.underlying40 rfl info40) rfl ?_
  exact ⟨by simp, mid_below w _ _ _⟩
set_option maxRecDepth 100000 in
set_option maxHeartbeats 1000000 in
theorem rstep2_yes (w : World) (g off cap n k jb : Nat) (sp wt : Int) (xa xb xc : Int) (hk : k < n) (_ : n ≤ 64) (_ : g < w.heap.size) (hi : ItAt w g (off + k * 4) ⟨2, xa, xb, xc⟩) :
    Calls Try.prog 26 #[runV (.slice (some ⟨g, off, none⟩) n cap) k sp wt (.slice (some ⟨jb, 0, none⟩) n n), .bool true] w (ROut w (runV (.slice (some ⟨g, off, none⟩) n cap) (k + 1) sp wt (.slice (some ⟨jb, 0, none⟩) n n))) := by
  obtain ⟨p0, p1, p2, p3⟩ := hi
  simp only at p0 p1 p2 p3
  unfold runV
  go_enter Try.func26, Try.ntmps26
  go_wp2_with fail
  (try simp only [Exit.inBlock, Exit.then])
  refine bodyPost_ret (results_cell_row rfl _ _ _ _ _ _ _ rfl (mid_at w _ _ _) Try.underlying40 rfl info40) rfl ?_
  exact ⟨by simp, mid_below w _ _ _⟩
set_option maxRecDepth 100000 in
set_option maxHeartbeats 1000000 in
theorem rstep2_no (w : World) (g off cap n k jb : Nat) (sp wt : Int) (xa xb xc : Int) (hk : k < n) (_ : n ≤ 64) (_ : g < w.heap.size) (hi : ItAt w g (off + k * 4) ⟨2, xa, xb, xc⟩) :
    Calls Try.prog 26 #[runV (.slice (some ⟨g, off, none⟩) n cap) k sp wt (.slice (some ⟨jb, 0, none⟩) n n), .bool false] w (ROut w (runV (.slice (some ⟨g, off, none⟩) n cap) k sp wt (.slice (some ⟨jb, 0, none⟩) n n))) := by
  obtain ⟨p0, p1, p2, p3⟩ := hi
  simp only at p0 p1 p2 p3
  unfold runV
  go_enter Try.func26, Try.ntmps26
  go_wp2_with fail
  (try simp only [Exit.inBlock, Exit.then])
  refine bodyPost_ret (results_cell_row rfl _ _ _ _ _ _ _ rfl (mid_at w _ _ _) Try.underlying40 rfl info40) rfl ?_
  exact ⟨by simp, mid_below w _ _ _⟩
set_option maxRecDepth 100000 in
set_option maxHeartbeats 1000000 in
theorem rstep3_on (w : World) (g off cap n k jb : Nat) (sp wt : Int) (xa xb xc : Int) (arr : Bool) (hk : k < n) (_ : n ≤ 64) (_ : g < w.heap.size) (hi : ItAt w g (off + k * 4) ⟨3, xa, xb, xc⟩) (h0 : 0 ≤ wt) (h1 : wt ≤ 1000000) (ha : xa ≤ wt + 1) :
    Calls Try.prog 26 #[runV (.slice (some ⟨g, off, none⟩) n cap) k sp wt (.slice (some ⟨jb, 0, none⟩) n n), .bool arr] w (ROut w (runV (.slice (some ⟨g, off, none⟩) n cap) (k + 1) sp 0 (.slice (some ⟨jb, 0, none⟩) n n))) := by
  obtain ⟨p0, p1, p2, p3⟩ := hi
  simp only at p0 p1 p2 p3
  unfold runV
  go_enter Try.func26, Try.ntmps26
  go_wp2_with fail
  (try simp only [Exit.inBlock, Exit.then])
  refine bodyPost_ret (results_cell_row rfl _ _ _ _ _ _ _ rfl (mid_at w _ _ _) Try.underlying40 rfl info40) rfl ?_
  exact ⟨by simp, mid_below w _ _ _⟩
set_option maxRecDepth 100000 in
set_option maxHeartbeats 1000000 in
theorem rstep3_wait (w : World) (g off cap n k jb : Nat) (sp wt : Int) (xa xb xc : Int) (arr : Bool) (hk : k < n) (_ : n ≤ 64) (_ : g < w.heap.size) (hi : ItAt w g (off + k * 4) ⟨3, xa, xb, xc⟩) (h0 : 0 ≤ wt) (h1 : wt ≤ 1000000) (ha : wt + 1 < xa) :
    Calls Try.prog 26 #[runV (.slice (some ⟨g, off, none⟩) n cap) k sp wt (.slice (some ⟨jb, 0, none⟩) n n), .bool arr] w (ROut w (runV (.slice (some ⟨g, off, none⟩) n cap) k sp (wt + 1) (.slice (some ⟨jb, 0, none⟩) n n))) := by
  obtain ⟨p0, p1, p2, p3⟩ := hi
  simp only at p0 p1 p2 p3
  unfold runV
  go_enter Try.func26, Try.ntmps26
  go_wp2_with fail
  (try simp only [Exit.inBlock, Exit.then])
  refine bodyPost_ret (results_cell_row rfl _ _ _ _ _ _ _ rfl (mid_at w _ _ _) Try.underlying40 rfl info40) rfl ?_
  exact ⟨by simp, mid_below w _ _ _⟩
set_option maxRecDepth 100000 in
set_option maxHeartbeats 1000000 in
theorem rstep5_any (w : World) (g off cap n k jb : Nat) (sp wt : Int) (xa xb xc : Int) (arr : Bool) (hk : k < n) (_ : n ≤ 64) (_ : g < w.heap.size) (hi : ItAt w g (off + k * 4) ⟨5, xa, xb, xc⟩) :
    Calls Try.prog 26 #[runV (.slice (some ⟨g, off, none⟩) n cap) k sp wt (.slice (some ⟨jb, 0, none⟩) n n), .bool arr] w (ROut w (runV (.slice (some ⟨g, off, none⟩) n cap) (k + 1) xa wt (.slice (some ⟨jb, 0, none⟩) n n))) := by
  obtain ⟨p0, p1, p2, p3⟩ := hi
  simp only at p0 p1 p2 p3
  unfold runV
  go_enter Try.func26, Try.ntmps26
  go_wp2_with fail
  (try simp only [Exit.inBlock, Exit.then])
  refine bodyPost_ret (results_cell_row rfl _ _ _ _ _ _ _ rfl (mid_at w _ _ _) Try.underlying40 rfl info40) rfl ?_
  exact ⟨by simp, mid_below w _ _ _⟩
set_option maxRecDepth 100000 in
set_option maxHeartbeats 1000000 in
theorem rstep_else (w : World) (g off cap n k jb : Nat) (sp wt : Int) (kk xa xb xc : Int) (arr : Bool) (hk : k < n) (_ : n ≤ 64) (_ : g < w.heap.size) (hi : ItAt w g (off + k * 4) ⟨kk, xa, xb, xc⟩) (h1 : kk ≠ 1) (h2 : kk ≠ 2) (h3 : kk ≠ 3) (h4 : kk ≠ 4) (h5 : kk ≠ 5) :
    Calls Try.prog 26 #[runV (.slice (some ⟨g, off, none⟩) n cap) k sp wt (.slice (some ⟨jb, 0, none⟩) n n), .bool arr] w (ROut w (runV (.slice (some ⟨g, off, none⟩) n cap) k sp wt (.slice (some ⟨jb, 0, none⟩) n n))) := by
  obtain ⟨p0, p1, p2, p3⟩ := hi
  simp only at p0 p1 p2 p3
  unfold runV
  have z1 : (kk == 1) = false := by simp [h1]
  have z2 : (kk == 2) = false := by simp [h2]
  have z3 : (kk == 3) = false := by simp [h3]
  have z4 : (kk == 4) = false := by simp [h4]
  have z5 : (kk == 5) = false := by simp [h5]
  clear h1 h2 h3 h4 h5
  go_enter Try.func26, Try.ntmps26
  go_wp2_with fail
  (try simp only [Exit.inBlock, Exit.then])
  refine bodyPost_ret (results_cell_row rfl _ _ _ _ _ _ _ rfl (mid_at w _ _ _) Try.underlying40 rfl info40) rfl ?_
  exact ⟨by simp, mid_below w _ _ _⟩
set_option maxRecDepth 100000 in
set_option maxHeartbeats 1000000 in
theorem rstep4_jump (w : World) (g off cap n k jb : Nat) (sp wt : Int) (xa xb xc : Int) (arr : Bool) (m : Nat) (hk : k < n) (_ : n ≤ 64) (_ : g < w.heap.size) (hi : ItAt w g (off + k * 4) ⟨4, xa, xb, xc⟩) (c : Int) (hjb : jb < w.heap.size) (hc : w.cell? ⟨jb, k, none⟩ = some (.int .i64 c)) (hf : w.frozen? ⟨jb, k, none⟩ = false) (hc0 : 0 ≤ c) (hc1 : c ≤ 255) (hb : c < xb) (ha : xa = (m : Int)) :
    Calls Try.prog 26 #[runV (.slice (some ⟨g, off, none⟩) n cap) k sp wt (.slice (some ⟨jb, 0, none⟩) n n), .bool arr] w (ROut (w.setCell ⟨jb, k, none⟩ (.int .i64 (c + 1))) (runV (.slice (some ⟨g, off, none⟩) n cap) m sp wt (.slice (some ⟨jb, 0, none⟩) n n))) := by
  obtain ⟨p0, p1, p2, p3⟩ := hi
  simp only at p0 p1 p2 p3
  unfold runV
  have hjb1 : jb < w.heap.size + 1 := by omega
  have hjb2 : jb < w.heap.size + 1 + 1 := by omega
  subst ha
  go_enter Try.func26, Try.ntmps26
  go_wp2_with fail
  go_region
  go_wp2_with fail
  go_region
  go_wp2_with fail
  (try simp only [Exit.inBlock, Exit.then])
  refine bodyPost_ret (results_cell_row rfl _ _ _ _ _ _ _ rfl (mid_atS _ _ 2 _ _ _ (set_size w _ _)) Try.underlying40 rfl info40) rfl ?_
  exact ⟨by simp, mid_belowN _ 2 _ _ _⟩
set_option maxRecDepth 100000 in
set_option maxHeartbeats 1000000 in
theorem rstep4_on (w : World) (g off cap n k jb : Nat) (sp wt : Int) (xa xb xc : Int) (arr : Bool) (hk : k < n) (_ : n ≤ 64) (_ : g < w.heap.size) (hi : ItAt w g (off + k * 4) ⟨4, xa, xb, xc⟩) (c : Int) (hjb : jb < w.heap.size) (hc : w.cell? ⟨jb, k, none⟩ = some (.int .i64 c)) (hf : w.frozen? ⟨jb, k, none⟩ = false) (_ : 0 ≤ c) (_ : c ≤ 255) (hb : xb ≤ c) :
    Calls Try.prog 26 #[runV (.slice (some ⟨g, off, none⟩) n cap) k sp wt (.slice (some ⟨jb, 0, none⟩) n n), .bool arr] w (ROut (w.setCell ⟨jb, k, none⟩ (.int .i64 0)) (runV (.slice (some ⟨g, off, none⟩) n cap) (k + 1) sp wt (.slice (some ⟨jb, 0, none⟩) n n))) := by
  obtain ⟨p0, p1, p2, p3⟩ := hi
  simp only at p0 p1 p2 p3
  unfold runV
  have hjb1 : jb < w.heap.size + 1 := by omega
  have hjb2 : jb < w.heap.size + 1 + 1 := by omega
  go_enter Try.func26, Try.ntmps26
  go_wp2_with fail
  go_region
  go_wp2_with fail
  (try simp only [Exit.inBlock, Exit.then])
  refine bodyPost_ret (results_cell_row rfl _ _ _ _ _ _ _ rfl (mid_atS _ _ 1 _ _ _ (set_size w _ _)) Try.underlying40 rfl info40) rfl ?_
  exact ⟨by simp, mid_belowN _ 1 _ _ _⟩
end Go.Proofs.Ytkgenhoaeiihoaa
