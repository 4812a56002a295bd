/- The document's run: what Goal answers, in whatever world. Conditions: the items can be read. -/
import Derived.Test.YtkgenhoaeiihoaaGoal
namespace Go.Proofs.Ytkgenhoaeiihoaa
open Go.RowKit
theorem four_at (w : World) (a r x y : Obj) : ((((w.alloc a).alloc r).alloc x).alloc y).heap[w.heap.size + 1]? = some r := by
  rw [Below.heap_alloc _ _ _ (by rw [alloc_size, alloc_size, alloc_size]; omega), Below.heap_alloc _ _ _ (by rw [alloc_size, alloc_size]; omega)]
  exact two_new w a r
theorem four_below (w : World) (a r x y : Obj) : Below w.heap.size w ((((w.alloc a).alloc r).alloc x).alloc y) :=
  (((below_alloc1 w a).alloc (by rw [alloc_size]; omega) r).alloc (by rw [alloc_size, alloc_size]; omega) x).alloc (by rw [alloc_size, alloc_size, alloc_size]; omega) y
def runV (v : Value) (at_ : Nat) (sp wt : Int) (jv : Value) : Value := .agg #[v, .int .i64 (at_ : Int), .int .i64 sp, .int .i64 wt, jv]
set_option maxRecDepth 100000 in
theorem rgoal_over (w : World) (v jv : Value) (r : Rn) (h : IR w v r.xs) (ho : r.xs.length ≤ r.at_) : Calls Try.prog 22 #[runV v r.at_ r.sp r.wt jv] w (GoalPost w (goalV 0 0 0 0 0)) := by
  obtain ⟨A, cap, rfl⟩ := h.form
  clear h
  unfold runV
  generalize r.xs.length = n at *
  generalize r.at_ = k at *
  go_enter Try.func22, Try.ntmps22
  go_wp2_with fail
  (try simp only [Exit.inBlock, Exit.then])
  refine bodyPost_ret (results_cell_row rfl _ _ _ _ _ _ _ rfl (two_new w _ _) Try.underlying47 rfl info47) rfl ?_
  exact ⟨rfl, (below_alloc1 w _).alloc (by rw [alloc_size]; omega) _⟩
set_option maxRecDepth 100000 in
set_option maxHeartbeats 2000000 in
theorem rgoal_at (w : World) (g off cap n k : Nat) (sp wt : Int) (jv : Value) (x : It) (hk : k < n) (_ : n ≤ 9223372036854775807) (_ : g < w.heap.size) (hi : ItAt w g (off + k * 4) x) :
    Calls Try.prog 22 #[runV (.slice (some ⟨g, off, none⟩) n cap) k sp wt jv] w (GoalPost w (goalI x sp)) := by
  obtain ⟨p0, p1, p2, p3⟩ := hi
  obtain ⟨kk, xa, xb, xc⟩ := x
  simp only at p0 p1 p2 p3
  unfold runV
  by_cases h1 : kk = 1
  · subst h1
    go_enter Try.func22, Try.ntmps22
    go_wp2_with fail
    (try simp only [Exit.inBlock, Exit.then])
    refine bodyPost_ret (results_cell_row rfl _ _ _ _ _ _ _ rfl (four_at w _ _ _ _) Try.underlying47 rfl info47) rfl ?_
    exact ⟨by simp [goalI, goalV], four_below w _ _ _ _⟩
  · by_cases h2 : kk = 2
    · subst h2
      go_enter Try.func22, Try.ntmps22
      go_wp2_with fail
      (try simp only [Exit.inBlock, Exit.then])
      refine bodyPost_ret (results_cell_row rfl _ _ _ _ _ _ _ rfl (four_at w _ _ _ _) Try.underlying47 rfl info47) rfl ?_
      exact ⟨by simp [goalI, goalV], four_below w _ _ _ _⟩
    · have HE : Hid (goalI ⟨kk, xa, xb, xc⟩ sp = goalV kk 0 0 0 sp) := by unfold Hid goalI; simp [h1, h2]
      have z1 : (kk == 1) = false := by simp [h1]
      have z2 : (kk == 2) = false := by simp [h2]
      clear h1 h2
      go_enter Try.func22, Try.ntmps22
      go_wp2_with fail
      (try simp only [Exit.inBlock, Exit.then])
      refine bodyPost_ret (results_cell_row rfl _ _ _ _ _ _ _ rfl (four_at w _ _ _ _) Try.underlying47 rfl info47) rfl ?_
      exact ⟨by rw [HE.out]; rfl, four_below w _ _ _ _⟩
theorem rgoal_any (w : World) (v jv : Value) (r : Rn) (h : IR w v r.xs) : Calls Try.prog 22 #[runV v r.at_ r.sp r.wt jv] w (GoalPost w r.goal) := by
  unfold Rn.goal
  by_cases ho : r.xs.length ≤ r.at_
  · rw [if_pos ho]
    exact rgoal_over w v jv r h ho
  · rw [if_neg ho]
    have hs := h.small
    rcases h.at with ⟨h1, _⟩ | ⟨g, off, cap, hv, hg, hc⟩
    · rw [h1] at ho
      exact absurd (Nat.zero_le _) ho
    · subst hv
      exact rgoal_at w g off cap _ _ _ _ jv _ (by omega) hs hg (hc _ (by omega))
end Go.Proofs.Ytkgenhoaeiihoaa
