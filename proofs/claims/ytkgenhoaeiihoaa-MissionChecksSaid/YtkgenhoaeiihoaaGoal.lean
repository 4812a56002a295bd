/- What Goal answers, in whatever world. Conditions: as RunAt says. -/
import Derived.Test.YtkgenhoaeiihoaaRun
import Derived.Laws.Rows
namespace Go.Proofs.Ytkgenhoaeiihoaa
open Go.RowKit

theorem info47 : (Try.prog.info? 47).map (·.size) = some 5 := by kernel_rfl
def goalV (k x y z s : Int) : Value := .agg #[.int .u8 k, .int .i64 x, .int .i64 y, .int .i64 z, .int .i64 s]
def goalI (x : It) (sp : Int) : Value := goalV x.k (if x.k = 2 then x.a else 0) (if x.k = 2 then x.b else 0) (if x.k = 1 then x.a else if x.k = 2 then x.c else 0) sp
def Rn.goal (r : Rn) : Value := if r.xs.length ≤ r.at_ then goalV 0 0 0 0 0 else goalI (r.xs.getD r.at_ it0) r.sp
def GoalPost (w : World) (gv : Value) (e : Ending) (w' : World) : Prop := e = .returned gv ∧ Below w.heap.size w w'
set_option maxRecDepth 100000 in
theorem goal_nil (w : World) : Calls Try.prog 21 #[.pointer none] w (GoalPost w (goalV 0 0 0 0 0)) := by
  go_enter Try.func21, Try.ntmps21
  go_wp2_with fail
  (try simp only [Exit.inBlock, Exit.then])
  refine bodyPost_ret (results_cell_row rfl _ _ _ _ _ _ _ rfl (heap_alloc_new _ _) Try.underlying47 rfl info47) rfl ?_
  exact ⟨rfl, below_alloc1 _ _⟩
theorem five_at {u : World} {p : Nat} {x0 x1 x2 x3 x4 : Value} (h : u.heap[p]? = some (.cells #[x0, x1, x2, x3, x4] 47)) (v0 v1 v2 v3 v4 : Value) :
    (((((u.setCell ⟨p, 0, none⟩ v0).setCell ⟨p, 1, none⟩ v1).setCell ⟨p, 2, none⟩ v2).setCell ⟨p, 3, none⟩ v3).setCell ⟨p, 4, none⟩ v4).heap[p]? = some (.cells #[v0, v1, v2, v3, v4] 47) :=
  heap_setCell_at (heap_setCell_at (heap_setCell_at (heap_setCell_at (heap_setCell_at h 0 v0) 1 v1) 2 v2) 3 v3) 4 v4
theorem five_below {B : Nat} {w u : World} {p : Nat} (h : Below B w u) (hp : B ≤ p) (v0 v1 v2 v3 v4 : Value) :
    Below B w (((((u.setCell ⟨p, 0, none⟩ v0).setCell ⟨p, 1, none⟩ v1).setCell ⟨p, 2, none⟩ v2).setCell ⟨p, 3, none⟩ v3).setCell ⟨p, 4, none⟩ v4) :=
  ((((h.setCell hp _).setCell hp _).setCell hp _).setCell hp _).setCell hp _
theorem five_new {u : World} {p : Nat} {x0 x1 x2 x3 x4 : Value} (h : u.heap[p]? = some (.cells #[x0, x1, x2, x3, x4] 47)) (v0 v1 v2 v3 v4 : Value) (o : Obj) :
    ((((((u.setCell ⟨p, 0, none⟩ v0).setCell ⟨p, 1, none⟩ v1).setCell ⟨p, 2, none⟩ v2).setCell ⟨p, 3, none⟩ v3).setCell ⟨p, 4, none⟩ v4).alloc o).drew.heap[p]? = some (.cells #[v0, v1, v2, v3, v4] 47) :=
  (Below.heap_alloc _ o p (lt_of_at (five_at h v0 v1 v2 v3 v4))).trans (five_at h v0 v1 v2 v3 v4)
theorem five_next {w u : World} (h : Below w.heap.size w u) (v0 v1 v2 v3 v4 : Value) (o : Obj) :
    Below w.heap.size w ((((((u.setCell ⟨w.heap.size, 0, none⟩ v0).setCell ⟨w.heap.size, 1, none⟩ v1).setCell ⟨w.heap.size, 2, none⟩ v2).setCell ⟨w.heap.size, 3, none⟩ v3).setCell ⟨w.heap.size, 4, none⟩ v4).alloc o).drew :=
  ((five_below h (Nat.le_refl _) v0 v1 v2 v3 v4).alloc (five_below h (Nat.le_refl _) v0 v1 v2 v3 v4).size o).drew
theorem drewN_at {u : World} {p n : Nat} {o : Obj} (h : u.heap[p]? = some o) : (u.drewN n).heap[p]? = some o := h
theorem Below_drewN {B : Nat} {w u : World} (h : Below B w u) (n : Nat) : Below B w (u.drewN n) := h.trans ⟨rfl, rfl, rfl, Nat.le_refl _, fun _ _ => rfl⟩
set_option maxRecDepth 100000 in
theorem goal_over (w : World) (b mb n : Nat) (v : Value) (r : Rn) (h : RunAt w b mb n v r) (ho : r.xs.length ≤ r.at_) : Calls Try.prog 21 #[.pointer (some ⟨b, 0, none⟩)] w (GoalPost w (goalV 0 0 0 0 0)) := by
  have HB := Lib.hid (below_alloc1 w (.cells #[.int .u8 0, .int .i64 0, .int .i64 0, .int .i64 0, .int .i64 0] 47))
  have HO := Lib.hid (over_any (w.alloc (.cells #[.int .u8 0, .int .i64 0, .int .i64 0, .int .i64 0, .int .i64 0] 47)) b mb n v r (h.below HB.out))
  clear h
  go_enter Try.func21, Try.ntmps21
  go_wp2_with fail
  refine HO.out.mono ?_
  rintro e w1 ⟨rfl, q, rfl⟩
  have hd : decide (r.xs.length ≤ r.at_) = true := decide_eq_true ho
  rw [hd]
  clear hd ho
  go_wp2_with fail
  (try simp only [Exit.inBlock, Exit.then])
  refine bodyPost_ret (results_cell_row rfl _ _ _ _ _ _ _ rfl (five_at (drewN_at (heap_alloc_new w _)) _ _ _ _ _) Try.underlying47 rfl info47) rfl ?_
  exact ⟨rfl, five_below (Below_drewN HB.out q) (Nat.le_refl _) _ _ _ _ _⟩
set_option maxRecDepth 100000 in
set_option maxHeartbeats 2000000 in
theorem goal_at (w : World) (b mb n g off cap : Nat) (r : Rn) (h : RunAt w b mb n (.slice (some ⟨g, off, none⟩) r.xs.length cap) r) (ho : r.at_ < r.xs.length) (hg : g < w.heap.size) (hi : ItAt w g (off + r.at_ * 4) (r.xs.getD r.at_ it0)) :
    Calls Try.prog 21 #[.pointer (some ⟨b, 0, none⟩)] w (GoalPost w (goalI (r.xs.getD r.at_ it0) r.sp)) := by
  have HB := Lib.hid (below_alloc1 w (.cells #[.int .u8 0, .int .i64 0, .int .i64 0, .int .i64 0, .int .i64 0] 47))
  have HO := Lib.hid (over_any (w.alloc (.cells #[.int .u8 0, .int .i64 0, .int .i64 0, .int .i64 0, .int .i64 0] 47)) b mb n _ r (h.below HB.out))
  have hsm := h.items.small
  have k0 := h.c0
  have k1 := h.c1
  have k2 := h.c2
  have hbl := h.ptr
  have HOD : Hid (decide (r.xs.length ≤ r.at_) = false) := decide_eq_false (by omega)
  clear h
  obtain ⟨p0, p1, p2, p3⟩ := hi
  have HX : Hid (r.xs.getD r.at_ it0 = ⟨(r.xs.getD r.at_ it0).k, (r.xs.getD r.at_ it0).a, (r.xs.getD r.at_ it0).b, (r.xs.getD r.at_ it0).c⟩) := rfl
  rw [HX.out]
  generalize (r.xs.getD r.at_ it0).k = kk at *
  generalize (r.xs.getD r.at_ it0).a = xa at *
  generalize (r.xs.getD r.at_ it0).b = xb at *
  generalize (r.xs.getD r.at_ it0).c = xc at *
  clear HX
  go_enter Try.func21, Try.ntmps21
  go_wp2_with fail
  refine HO.out.mono ?_
  rintro e w1 ⟨rfl, q, rfl⟩
  rw [HOD.out]
  clear HO HOD
  go_wp2_with fail
  have hbu : b < ((w.alloc (Obj.cells #[Value.int IntKind.u8 0, Value.int IntKind.i64 0, Value.int IntKind.i64 0, Value.int IntKind.i64 0, Value.int IntKind.i64 0] 47)).drewN q).heap.size := by show b < (w.alloc _).heap.size; rw [alloc_size]; omega
  go_region
  go_wp2_with fail
  have HU1 := Lib.hid (Below_drewN HB.out (q + 1))
  have HU2 := Lib.hid (HU1.out.alloc HU1.out.size (.cells #[.int .u8 kk, .int .i64 xa, .int .i64 xb, .int .i64 xc] 45))
  have HK := Lib.hid (one_new ((w.alloc (.cells #[.int .u8 0, .int .i64 0, .int .i64 0, .int .i64 0, .int .i64 0] 47)).drewN (q + 1)) (.cells #[.int .u8 kk, .int .i64 xa, .int .i64 xb, .int .i64 xc] 45))
  have HP := Lib.hid ((HU1.out.alloc HU1.out.size (.cells #[.int .u8 kk, .int .i64 xa, .int .i64 xb, .int .i64 xc] 45)).size)
  have hus : (((w.alloc (.cells #[.int .u8 0, .int .i64 0, .int .i64 0, .int .i64 0, .int .i64 0] 47)).drewN (q + 1)).alloc (.cells #[.int .u8 kk, .int .i64 xa, .int .i64 xb, .int .i64 xc] 45)).heap.size = w.heap.size + 2 := by rw [alloc_size]; show (w.alloc _).heap.size + 1 = _; rw [alloc_size]
  have HG0 : Hid ((((w.alloc (.cells #[.int .u8 0, .int .i64 0, .int .i64 0, .int .i64 0, .int .i64 0] 47)).drewN (q + 1)).alloc (.cells #[.int .u8 kk, .int .i64 xa, .int .i64 xb, .int .i64 xc] 45)).heap[w.heap.size]? = some (.cells #[.int .u8 0, .int .i64 0, .int .i64 0, .int .i64 0, .int .i64 0] 47)) := by
    refine (Below.heap_alloc _ _ _ ?_).trans (heap_alloc_new w _)
    show w.heap.size < (w.alloc _).heap.size
    rw [alloc_size]; omega
  have j2 := (HU2.out.cell (p := ⟨b, 2, none⟩) hbl).trans k2
  have HW2 : (((w.alloc (.cells #[.int .u8 0, .int .i64 0, .int .i64 0, .int .i64 0, .int .i64 0] 47)).drewN (q + 1)).alloc (.cells #[.int .u8 kk, .int .i64 xa, .int .i64 xb, .int .i64 xc] 45)).heap[w.heap.size + 1]? = some (.cells #[.int .u8 kk, .int .i64 xa, .int .i64 xb, .int .i64 xc] 45) := by
    have h := one_new ((w.alloc (.cells #[.int .u8 0, .int .i64 0, .int .i64 0, .int .i64 0, .int .i64 0] 47)).drewN (q + 1)) (.cells #[.int .u8 kk, .int .i64 xa, .int .i64 xb, .int .i64 xc] 45)
    rw [show ((w.alloc (.cells #[.int .u8 0, .int .i64 0, .int .i64 0, .int .i64 0, .int .i64 0] 47)).drewN (q + 1)).heap.size = w.heap.size + 1 from alloc_size w _] at h
    exact h
  have x0 : (((w.alloc (.cells #[.int .u8 0, .int .i64 0, .int .i64 0, .int .i64 0, .int .i64 0] 47)).drewN (q + 1)).alloc (.cells #[.int .u8 kk, .int .i64 xa, .int .i64 xb, .int .i64 xc] 45)).cell? ⟨w.heap.size + 1, 0, none⟩ = some (.int .u8 kk) := cell_at HW2 0
  have x1 : (((w.alloc (.cells #[.int .u8 0, .int .i64 0, .int .i64 0, .int .i64 0, .int .i64 0] 47)).drewN (q + 1)).alloc (.cells #[.int .u8 kk, .int .i64 xa, .int .i64 xb, .int .i64 xc] 45)).cell? ⟨w.heap.size + 1, 1, none⟩ = some (.int .i64 xa) := cell_at HW2 1
  have x2 : (((w.alloc (.cells #[.int .u8 0, .int .i64 0, .int .i64 0, .int .i64 0, .int .i64 0] 47)).drewN (q + 1)).alloc (.cells #[.int .u8 kk, .int .i64 xa, .int .i64 xb, .int .i64 xc] 45)).cell? ⟨w.heap.size + 1, 2, none⟩ = some (.int .i64 xb) := cell_at HW2 2
  have x3 : (((w.alloc (.cells #[.int .u8 0, .int .i64 0, .int .i64 0, .int .i64 0, .int .i64 0] 47)).drewN (q + 1)).alloc (.cells #[.int .u8 kk, .int .i64 xa, .int .i64 xb, .int .i64 xc] 45)).cell? ⟨w.heap.size + 1, 3, none⟩ = some (.int .i64 xc) := cell_at HW2 3
  clear k0 k1 k2 p0 p1 p2 p3 hbu HU1 HK HP HB hg hsm ho HW2
  generalize (((w.alloc (.cells #[.int .u8 0, .int .i64 0, .int .i64 0, .int .i64 0, .int .i64 0] 47)).drewN (q + 1)).alloc (.cells #[.int .u8 kk, .int .i64 xa, .int .i64 xb, .int .i64 xc] 45)) = u at *
  have hbu : b < u.heap.size := by omega
  have hxu : w.heap.size + 1 < u.heap.size := by omega
  have hxw : w.heap.size < u.heap.size := by omega
  have y0 : u.cell? ⟨w.heap.size, 0, none⟩ = some (.int .u8 0) := cell_at HG0.out 0
  have f0 := free_at HG0.out 0
  have y1 : u.cell? ⟨w.heap.size, 1, none⟩ = some (.int .i64 0) := cell_at HG0.out 1
  have f1 := free_at HG0.out 1
  have y2 : u.cell? ⟨w.heap.size, 2, none⟩ = some (.int .i64 0) := cell_at HG0.out 2
  have f2 := free_at HG0.out 2
  have y3 : u.cell? ⟨w.heap.size, 3, none⟩ = some (.int .i64 0) := cell_at HG0.out 3
  have f3 := free_at HG0.out 3
  have y4 : u.cell? ⟨w.heap.size, 4, none⟩ = some (.int .i64 0) := cell_at HG0.out 4
  have f4 := free_at HG0.out 4
  have HUS := Lib.hid hus
  clear hus
  go_region
  by_cases h1 : kk = 1
  · subst h1
    go_wp2_with fail
    (try simp only [Exit.inBlock, Exit.then])
    refine bodyPost_ret (results_cell_row rfl _ _ _ _ _ _ _ rfl (five_new HG0.out _ _ _ _ _ _) Try.underlying47 rfl info47) rfl ?_
    exact ⟨by simp [goalI, goalV], five_next HU2.out _ _ _ _ _ _⟩
  · by_cases h2 : kk = 2
    · subst h2
      go_wp2_with fail
      go_region
      go_wp2_with fail
      (try simp only [Exit.inBlock, Exit.then])
      refine bodyPost_ret (results_cell_row rfl _ _ _ _ _ _ _ rfl (five_new HG0.out _ _ _ _ _ _) Try.underlying47 rfl info47) rfl ?_
      exact ⟨by simp [goalI, goalV], (five_next HU2.out _ _ _ _ _ _).drew⟩
    · have z1 : (kk == 1) = false := by simp [h1]
      have z2 : (kk == 2) = false := by simp [h2]
      have HE : Hid (goalI ⟨kk, xa, xb, xc⟩ r.sp = goalV kk 0 0 0 r.sp) := by unfold Hid goalI; simp [h1, h2]
      clear h1 h2
      go_wp2_with fail
      (try simp only [Exit.inBlock, Exit.then])
      refine bodyPost_ret (results_cell_row rfl _ _ _ _ _ _ _ rfl (five_new HG0.out _ _ _ _ _ _) Try.underlying47 rfl info47) rfl ?_
      exact ⟨by rw [HE.out]; rfl, five_next HU2.out _ _ _ _ _ _⟩
theorem goal_any (w : World) (b mb n : Nat) (v : Value) (r : Rn) (h : RunAt w b mb n v r) : Calls Try.prog 21 #[.pointer (some ⟨b, 0, none⟩)] w (GoalPost w r.goal) := by
  unfold Rn.goal
  by_cases ho : r.xs.length ≤ r.at_
  · rw [if_pos ho]
    exact goal_over w b mb n v r h ho
  · rw [if_neg ho]
    rcases h.items.at with ⟨h1, _⟩ | ⟨g, off, cap, hv, hg, hc⟩
    · rw [h1] at ho
      exact absurd (Nat.zero_le _) ho
    · subst hv
      exact goal_at w b mb n g off cap r h (by omega) hg (hc _ (by omega))
end Go.Proofs.Ytkgenhoaeiihoaa
