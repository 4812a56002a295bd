/- The chapter's example comes out, in whatever world. No condition. -/
import Derived.Test.YtkgenhoaeiihoaaPlain
import Derived.Test.YtkgenhoaeiihoaaNew
import Derived.Test.YtkgenhoaeiihoaaGoal
import Derived.Test.YtkgenhoaeiihoaaSame
namespace Go.Proofs.Ytkgenhoaeiihoaa
open Go.RowKit

def tourL : List It := [⟨1, 2000, 0, 0⟩, ⟨2, 5000, 0, 2000⟩, ⟨4, 1, 2, 0⟩, ⟨6, 0, 0, 0⟩]
theorem chk_tour : chk tourL = 0 := by decide
theorem chk_zero : chk [it0] = 191 := by decide
theorem ir_new1 (w : World) : IR (w.alloc (.cells #[.int .u8 0, .int .i64 0, .int .i64 0, .int .i64 0] 45)) (.slice (some ⟨w.heap.size, 0, none⟩) 1 1) [it0] := by
  refine ⟨by decide, .inr ⟨_, 1, rfl, .inr ⟨w.heap.size, 0, rfl, by rw [alloc_size]; omega, fun i hi => ?_⟩⟩⟩
  have : i = 0 := by simp at hi; omega
  subst this
  exact ⟨cell_at (heap_alloc_new w _) 0, cell_at (heap_alloc_new w _) 1, cell_at (heap_alloc_new w _) 2, cell_at (heap_alloc_new w _) 3⟩
def TourPost (w : World) (e : Ending) (w' : World) : Prop := ∃ g, e = .returned (.slice (some ⟨g, 0, none⟩) 4 4) ∧ IR w' (.slice (some ⟨g, 0, none⟩) 4 4) tourL ∧ Below w.heap.size w w'
set_option maxRecDepth 100000 in
theorem tour_any (w : World) : Calls Try.prog 34 #[] w (TourPost w) := by
  go_enter Try.func34, Try.ntmps34
  go_wp2_with fail
  go_ret
  refine ⟨_, rfl, ⟨by decide, .inr ⟨_, 4, rfl, .inr ⟨_, 0, rfl, by rw [alloc_size]; omega, fun i hi => ?_⟩⟩⟩, below_alloc1 _ _⟩
  have : i = 0 ∨ i = 1 ∨ i = 2 ∨ i = 3 := by simp [tourL] at hi; omega
  rcases this with rfl | rfl | rfl | rfl <;> exact ⟨cell_at (heap_alloc_new w _) _, cell_at (heap_alloc_new w _) _, cell_at (heap_alloc_new w _) _, cell_at (heap_alloc_new w _) _⟩
theorem Made.next {w w1 w2 : World} {b mb n : Nat} {v : Value} {r r' : Rn} (h : Made w w1 b mb n v r) (hr : RunAt w2 b mb (n + 1) v r') (hw : Wrote w1 w2 (fun k => k = b ∨ k = mb)) : Made w w2 b mb (n + 1) v r' :=
  ⟨hr, below_wrote h.below hw (by rintro i (rfl | rfl); exact h.bnew; exact h.mnew) h.below.size, h.bnew, h.mnew, h.vnew⟩
theorem Made.keep {w w1 w2 : World} {b mb n : Nat} {v : Value} {r : Rn} (h : Made w w1 b mb n v r) (hb : Below w1.heap.size w1 w2) : Made w w2 b mb n v r :=
  ⟨h.run.below hb, below_next h.below hb, h.bnew, h.mnew, h.vnew⟩
def rA : Rn := rn0 tourL 16000
def rB : Rn := (((rA.step true).step true).step false)
theorem at_rB : rB.at_ = 1 := by decide
theorem le_rB : decide (rB.xs.length ≤ rB.at_) = false := by decide
theorem goal_rA : rA.goal = goalV 1 0 0 2000 16000 := by rfl
def AwakePost (w : World) (e : Ending) (w' : World) : Prop := e = .returned (.bool true) ∧ Below w.heap.size w w'
set_option maxRecDepth 100000 in
set_option maxHeartbeats 4000000 in
theorem awake_any (w : World) : Calls Try.prog 16 #[] w (AwakePost w) := by
  go_enter Try.func16, Try.ntmps16
  go_wp2_with fail
  refine (tour_any w).mono ?_
  rintro e w1 ⟨g1, rfl, hi1, hb1⟩
  have HI1 := Lib.hid hi1
  have HB1 := Lib.hid hb1
  clear hi1 hb1
  go_wp2_with fail
  refine (new_good w1 16000 _ tourL HI1.out chk_tour).mono ?_
  rintro e w2 ⟨b, mb, v, rfl, hm⟩
  have HM : Hid (Made w w2 b mb 0 v rA) := ⟨hm.run, below_next HB1.out hm.below, by have := hm.bnew; have := HB1.out.size; omega, by have := hm.mnew; have := HB1.out.size; omega, fun g hg => by have := hm.vnew g hg; have := HB1.out.size; omega⟩
  clear hm HI1 HB1
  go_wp2_with fail
  refine (tour_any w2).mono ?_
  rintro e w3 ⟨g3, rfl, hi3, hb3⟩
  have HI3 := Lib.hid hi3
  have HM3 := Lib.hid (HM.out.keep hb3)
  clear hi3 hb3 HM
  go_wp2_with fail
  refine (encode_any w3 _ tourL HI3.out).mono ?_
  rintro e w4 ⟨rfl, hb4⟩
  have HM4 := Lib.hid (HM3.out.keep hb4)
  have hen : enc tourL = strOfNums (encL tourL) := by unfold enc; rw [if_pos chk_tour]
  have hsz : (enc tourL).size = 53 := by rw [hen, strOfNums_size, encL_len]; rfl
  have HDE := Lib.hid (dec_enc chk_tour)
  rw [← hen] at HDE
  rw [chk_tour]
  clear hb4 HM3 HI3 hen
  generalize enc tourL = s at *
  go_wp2_with fail
  refine (decode_any w4 s (by rw [hsz]; decide)).mono ?_
  rintro e w5 ⟨vd, rfl, hi5, hn5, _, hb5⟩
  have HI5 := Lib.hid hi5
  rw [HDE.out.2] at HI5
  rw [HDE.out.1]
  have HM5 := Lib.hid (HM4.out.keep hb5)
  clear hi5 hn5 hb5 HM4 HDE
  go_wp2_with fail
  refine (tour_any w5).mono ?_
  rintro e w6 ⟨g6, rfl, hi6, hb6⟩
  have HI6 := Lib.hid hi6
  have HI56 := Lib.hid (HI5.out.below hb6)
  have HM6 := Lib.hid (HM5.out.keep hb6)
  clear hi6 hb6 HM5 HI5
  go_wp2_with fail
  refine (same_any w6 _ _ _ _ HI56.out HI6.out).mono ?_
  rintro e w7 ⟨rfl, q, rfl⟩
  rw [decide_eq_true rfl]
  have HM7 := Lib.hid (HM6.out.keep (below_drewN w6 q))
  clear HI56 HI6 HM6
  generalize w6.drewN q = w7 at *
  go_wp2_with fail
  refine (goal_any w7 b mb 0 v rA HM7.out.run).mono ?_
  rintro e w8 ⟨rfl, hb8⟩
  have HM8 := Lib.hid (HM7.out.keep hb8)
  rw [goal_rA]
  clear hb8 HM7
  have HM9 := Lib.hid (HM8.out.keep (below_alloc1 w8 (.cells #[.int .u8 1, .int .i64 0, .int .i64 0, .int .i64 2000, .int .i64 16000] 47)))
  have hnew := heap_alloc_new w8 (.cells #[.int .u8 1, .int .i64 0, .int .i64 0, .int .i64 2000, .int .i64 16000] 47)
  have HN9 := Lib.hid hnew
  have HB9 : Hid (b ≠ w8.heap.size ∧ mb ≠ w8.heap.size) := ⟨by have := HM8.out.run.ptr; omega, by have := HM8.out.run.map.lt; omega⟩
  clear hnew
  unfold goalV
  go_wp2_with fail
  refine (step_any _ b mb 0 v rA true HM9.out.run (by unfold maxLen; omega) (inv0 chk_tour _)).mono ?_
  rintro e w10 ⟨rfl, hr10, hw10⟩
  have HM10 := Lib.hid (HM9.out.next hr10 hw10)
  have HN10 := Lib.hid ((hw10.block _ (lt_of_at HN9.out) (by rintro (h | h); exact HB9.out.1 h.symm; exact HB9.out.2 h.symm)).trans HN9.out)
  clear hr10 hw10 HM9 HN9 HM8
  go_wp2_with fail
  refine (step_any _ b mb 1 v (rA.step true) true HM10.out.run (by unfold maxLen; omega) ((inv0 chk_tour _).step _)).mono ?_
  rintro e w11 ⟨rfl, hr11, hw11⟩
  have HM11 := Lib.hid (HM10.out.next hr11 hw11)
  have HN11 := Lib.hid ((hw11.block _ (lt_of_at HN10.out) (by rintro (h | h); exact HB9.out.1 h.symm; exact HB9.out.2 h.symm)).trans HN10.out)
  clear hr11 hw11 HM10 HN10
  go_wp2_with fail
  refine (step_any _ b mb 2 v ((rA.step true).step true) false HM11.out.run (by unfold maxLen; omega) (((inv0 chk_tour _).step _).step _)).mono ?_
  rintro e w12 ⟨rfl, hr12, hw12⟩
  have HM12 := Lib.hid (HM11.out.next hr12 hw12)
  have HN12 := Lib.hid ((hw12.block _ (lt_of_at HN11.out) (by rintro (h | h); exact HB9.out.1 h.symm; exact HB9.out.2 h.symm)).trans HN11.out)
  clear hr12 hw12 HM11 HN11
  have y0 := cell_at HN12.out 0
  have y1 := cell_at HN12.out 1
  have y2 := cell_at HN12.out 2
  have y3 := cell_at HN12.out 3
  have y4 := cell_at HN12.out 4
  change _ = some (Value.int _ _) at y0
  change _ = some (Value.int _ _) at y1
  change _ = some (Value.int _ _) at y2
  change _ = some (Value.int _ _) at y3
  change _ = some (Value.int _ _) at y4
  go_wp2_with fail
  refine (index_any _ b mb 3 v rB HM12.out.run).mono ?_
  rintro e w13 ⟨rfl, hw13⟩
  subst hw13
  rw [at_rB]
  go_wp2_with fail
  refine (over_any _ b mb 3 v rB HM12.out.run).mono ?_
  rintro e w14 ⟨rfl, q14, rfl⟩
  rw [le_rB]
  have HM14 := Lib.hid (HM12.out.keep (below_drewN w13 q14))
  clear HM12 HN12 y0 y1 y2 y3 y4
  generalize w13.drewN q14 = w14 at *
  go_wp2_with fail
  refine (check_any _ _ [it0] (ir_new1 w14)).mono ?_
  rintro e w15 ⟨rfl, hb15⟩
  have HF : Hid (Below w.heap.size w w15) := below_next HM14.out.below (below_next (below_alloc1 w14 _) hb15)
  rw [chk_zero]
  clear hb15 HM14
  go_wp2_with fail
  go_ret
  exact ⟨rfl, HF.out⟩
end Go.Proofs.Ytkgenhoaeiihoaa
