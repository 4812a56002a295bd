/- The walk of MissionRounds: true, in whatever world. No condition. -/
import Derived.Test.YtkgenhoaeiihoaaAwake
namespace Go.Proofs.Ytkgenhoaeiihoaa
open Go.RowKit

def roundsL (t p : Nat) : List It := [⟨5, 2000, 0, 0⟩, ⟨4, 0, t, 0⟩, ⟨4, 0, p, 0⟩, ⟨6, 0, 0, 0⟩]
theorem chk_rounds (t p : Nat) (ht : t ≤ 100) (hp : p ≤ 20) : chk (roundsL t p) = 0 := by
  have h1 : badAt 4 ⟨4, 0, t, 0⟩ = 0 := by
    have hr : rightB ⟨4, 0, t, 0⟩ = true := by unfold rightB; simp; omega
    unfold badAt
    rw [if_pos hr]
    rfl
  have h2 : badAt 4 ⟨4, 0, p, 0⟩ = 0 := by
    have hr : rightB ⟨4, 0, p, 0⟩ = true := by unfold rightB; simp; omega
    unfold badAt
    rw [if_pos hr]
    rfl
  have h0 : badAt 4 ⟨5, 2000, 0, 0⟩ = 0 := by decide
  have h3 : badAt 4 ⟨6, 0, 0, 0⟩ = 0 := by decide
  unfold chk roundsL
  show (if 64 < 4 then (4 : Int) else chkFrom 4 _) = 0
  rw [if_neg (by decide)]
  rw [chkFrom, if_pos h0, chkFrom, if_pos h1, chkFrom, if_pos h2, chkFrom, if_pos h3, chkFrom]
/-- Where a run stands after k steps, and how often it was at its beginning. -/
def RSt (t p : Nat) (r : Rn) (s k : Nat) : Prop :=
  r.xs = roundsL t p ∧ ∃ i j : Nat, i ≤ t ∧ j ≤ p ∧ r.f 1 = i ∧ r.f 2 = j ∧
    ((r.at_ = 0 ∧ s = j * (t + 1) + i ∧ k = 2 * (j * (t + 1) + i) + j) ∨ (r.at_ = 1 ∧ r.sp = 2000 ∧ s = j * (t + 1) + i + 1 ∧ k = 2 * (j * (t + 1) + i) + j + 1)
      ∨ (r.at_ = 2 ∧ r.sp = 2000 ∧ i = 0 ∧ s = (j + 1) * (t + 1) ∧ k = 2 * ((j + 1) * (t + 1)) + j) ∨ (r.at_ = 3 ∧ r.sp = 2000 ∧ s = (p + 1) * (t + 1) ∧ k = 2 * ((p + 1) * (t + 1)) + p + 1))
theorem rst0 (t p : Nat) (sp : Int) : RSt t p (rn0 (roundsL t p) sp) 0 0 := ⟨rfl, 0, 0, Nat.zero_le _, Nat.zero_le _, rfl, rfl, .inl ⟨rfl, by omega, by omega⟩⟩
theorem rst_step {t p : Nat} {r : Rn} {s k : Nat} (h : RSt t p r s k) (h3 : r.at_ < 3) : RSt t p (r.step false) (if r.at_ = 0 then s + 1 else s) (k + 1) := by
  obtain ⟨hx, i, j, hi, hj, h1, h2, hc⟩ := h
  obtain ⟨xs, at_, sp, wt, f⟩ := r
  subst hx
  have hl : ¬ (roundsL t p).length ≤ at_ := by show ¬ 4 ≤ at_; have : at_ < 3 := h3; omega
  unfold Rn.step
  rw [if_neg hl]
  rcases hc with ⟨ha, hs, hk⟩ | ⟨ha, hsp, hs, hk⟩ | ⟨ha, hsp, hi0, hs, hk⟩ | ⟨ha, hsp, hs, hk⟩
  · have ha : at_ = 0 := ha
    subst ha
    rw [if_pos rfl]
    exact ⟨rfl, i, j, hi, hj, h1, h2, .inr (.inl ⟨rfl, rfl, by omega, by omega⟩)⟩
  · have ha : at_ = 1 := ha
    subst ha
    rw [if_neg (show ¬ ((1 : Nat) = 0) by decide)]
    have h1 : f 1 = i := h1
    have h2 : f 2 = j := h2
    show RSt t p (if f 1 < (t : Int) then { (⟨roundsL t p, 1, sp, wt, f⟩ : Rn) with f := upd f 1 (f 1 + 1), at_ := 0 } else { (⟨roundsL t p, 2, sp, 0, f⟩ : Rn) with f := upd f 1 0 }) s (k + 1)
    by_cases hlt : i < t
    · rw [if_pos (by omega)]
      exact ⟨rfl, i + 1, j, by omega, hj, by show f 1 + 1 = ((i + 1 : Nat) : Int); omega, h2, .inl ⟨rfl, by omega, by omega⟩⟩
    · rw [if_neg (by omega)]
      have hit : i = t := by omega
      refine ⟨rfl, 0, j, Nat.zero_le _, hj, rfl, h2, .inr (.inr (.inl ⟨rfl, hsp, rfl, ?_, ?_⟩))⟩
      · rw [Nat.add_mul, Nat.one_mul]; omega
      · rw [Nat.add_mul, Nat.one_mul]; omega
  · have ha : at_ = 2 := ha
    subst ha
    rw [if_neg (show ¬ ((2 : Nat) = 0) by decide)]
    have h1 : f 1 = i := h1
    have h2 : f 2 = j := h2
    subst hi0
    show RSt t p (if f 2 < (p : Int) then { (⟨roundsL t p, 2, sp, wt, f⟩ : Rn) with f := upd f 2 (f 2 + 1), at_ := 0 } else { (⟨roundsL t p, 3, sp, 0, f⟩ : Rn) with f := upd f 2 0 }) s (k + 1)
    by_cases hlt : j < p
    · rw [if_pos (by omega)]
      exact ⟨rfl, 0, j + 1, Nat.zero_le _, by omega, h1, by show f 2 + 1 = ((j + 1 : Nat) : Int); omega, .inl ⟨rfl, by omega, by omega⟩⟩
    · rw [if_neg (by omega)]
      have hjp : j = p := by omega
      subst hjp
      exact ⟨rfl, 0, 0, Nat.zero_le _, Nat.zero_le _, h1, rfl, .inr (.inr (.inr ⟨rfl, hsp, by omega, by omega⟩))⟩
  · have ha : at_ = 3 := ha
    subst ha
    exact absurd h3 (show ¬ ((3 : Nat) < 3) by decide)
theorem rst_few {t p : Nat} {r : Rn} {s k : Nat} (h : RSt t p r s k) (ht : t ≤ 100) (hp : p ≤ 20) : k < 10000 ∧ s < 10000 ∧ r.at_ ≤ 3 := by
  obtain ⟨_, i, j, hi, hj, _, _, hc⟩ := h
  have h1 : j * (t + 1) ≤ 20 * 101 := Nat.mul_le_mul (by omega) (by omega)
  have h2 : (j + 1) * (t + 1) ≤ 21 * 101 := Nat.mul_le_mul (by omega) (by omega)
  have h3 : (p + 1) * (t + 1) ≤ 21 * 101 := Nat.mul_le_mul (by omega) (by omega)
  rcases hc with ⟨ha, hs, hk⟩ | ⟨ha, hsp, hs, hk⟩ | ⟨ha, hsp, hi0, hs, hk⟩ | ⟨ha, hsp, hs, hk⟩ <;> omega
theorem rst_end {t p : Nat} {r : Rn} {s k : Nat} (h : RSt t p r s k) (h3 : ¬ r.at_ < 3) : r.at_ = 3 ∧ s = (p + 1) * (t + 1) ∧ r.goal = goalV 6 0 0 0 2000 := by
  obtain ⟨hx, i, j, _, _, _, _, hc⟩ := h
  rcases hc with ⟨ha, hs, hk⟩ | ⟨ha, hsp, hs, hk⟩ | ⟨ha, hsp, hi0, hs, hk⟩ | ⟨ha, hsp, hs, hk⟩
  · omega
  · omega
  · omega
  · refine ⟨ha, hs, ?_⟩
    unfold Rn.goal
    rw [hx, ha, hsp]
    rfl
theorem ir_rounds (w : World) (t p : Nat) : IR (w.alloc (.cells #[.int .u8 5, .int .i64 2000, .int .i64 0, .int .i64 0, .int .u8 4, .int .i64 0, .int .i64 t, .int .i64 0, .int .u8 4, .int .i64 0, .int .i64 p, .int .i64 0, .int .u8 6, .int .i64 0, .int .i64 0, .int .i64 0] 45)) (.slice (some ⟨w.heap.size, 0, none⟩) 4 4) (roundsL t p) := by
  refine ⟨by show 4 * 32 ≤ _; decide, .inr ⟨_, 4, rfl, .inr ⟨w.heap.size, 0, rfl, by rw [alloc_size]; omega, fun i hi => ?_⟩⟩⟩
  have hi : i < 4 := hi
  have : i = 0 ∨ i = 1 ∨ i = 2 ∨ i = 3 := by omega
  rcases this with rfl | rfl | rfl | rfl <;> exact ⟨cell_at (heap_alloc_new w _) _, cell_at (heap_alloc_new w _) _, cell_at (heap_alloc_new w _) _, cell_at (heap_alloc_new w _) _⟩
set_option maxRecDepth 100000 in
theorem rounds_out (w : World) (a c : Int) (h : ¬ (0 ≤ a ∧ a ≤ 100 ∧ 1 ≤ c ∧ c ≤ 20)) : Calls Try.prog 7 #[.int .i64 a, .int .i64 c] w (AwakePost w) := by
  have HA := Lib.hid (awake_any w)
  by_cases h1 : a < 0
  · clear h
    go_enter Try.func7, Try.ntmps7
    go_wp2_with fail
    refine HA.out.mono ?_
    rintro e w1 ⟨rfl, hb⟩
    have HB := Lib.hid hb
    clear hb
    go_wp2_with fail
    go_ret
    exact ⟨rfl, HB.out⟩
  · by_cases h2 : 100 < a
    · clear h
      go_enter Try.func7, Try.ntmps7
      go_wp2_with fail
      refine HA.out.mono ?_
      rintro e w1 ⟨rfl, hb⟩
      have HB := Lib.hid hb
      clear hb
      go_wp2_with fail
      go_ret
      exact ⟨rfl, HB.out⟩
    · by_cases h3 : c < 1
      · clear h
        go_enter Try.func7, Try.ntmps7
        go_wp2_with fail
        refine HA.out.mono ?_
        rintro e w1 ⟨rfl, hb⟩
        have HB := Lib.hid hb
        clear hb
        go_wp2_with fail
        go_ret
        exact ⟨rfl, HB.out⟩
      · have h4 : 20 < c := by omega
        clear h
        go_enter Try.func7, Try.ntmps7
        go_wp2_with fail
        refine HA.out.mono ?_
        rintro e w1 ⟨rfl, hb⟩
        have HB := Lib.hid hb
        clear hb
        go_wp2_with fail
        go_ret
        exact ⟨rfl, HB.out⟩
set_option maxRecDepth 100000 in
set_option maxHeartbeats 4000000 in
theorem rounds_in (w : World) (t p : Nat) (ht : t ≤ 100) (hp1 : 1 ≤ p) (hp : p ≤ 20) : Calls Try.prog 7 #[.int .i64 (t : Int), .int .i64 (p : Int)] w (AwakePost w) := by
  have HCK := Lib.hid (chk_rounds t p ht hp)
  have i1 : ¬ ((t : Int) < 0) := by omega
  have i2 : ¬ ((100 : Int) < (t : Int)) := by omega
  have i3 : ¬ ((p : Int) < 1) := by omega
  have i4 : ¬ ((20 : Int) < (p : Int)) := by omega
  go_enter Try.func7, Try.ntmps7
  go_wp2_with fail
  refine (new_good _ 1600 _ (roundsL t p) (ir_rounds w t p) HCK.out).mono ?_
  rintro e w2 ⟨b, mb, v, rfl, hm⟩
  have HM : Hid (Made w w2 b mb 0 v (rn0 (roundsL t p) 1600)) := ⟨hm.run, below_next (below_alloc1 w _) hm.below, by have := hm.bnew; rw [alloc_size] at this; omega, by have := hm.mnew; rw [alloc_size] at this; omega, fun g hg => by have := hm.vnew g hg; rw [alloc_size] at this; omega⟩
  clear hm
  go_wp2_with fail
  go_loopg [7, 8] 10000 (fun gh sv kv wr => ∃ (k s : Nat) (r : Rn), gh = 10000 - k ∧ sv = .int .i64 s ∧ kv = .int .i64 k ∧ Made w wr b mb k v r ∧ Inv r ∧ RSt t p r s k)
  case atStart => exact ⟨0, 0, rn0 (roundsL t p) 1600, rfl, rfl, rfl, HM.out, inv0 HCK.out _, rst0 t p 1600⟩
  case round =>
    obtain ⟨k, s, r, hgk, rfl, rfl, hm, hinv, hst⟩ := hrel
    obtain ⟨hk, hs, hat⟩ := rst_few hst ht hp
    have HG := Lib.hid hgk
    have HMM := Lib.hid hm
    have HIN := Lib.hid hinv
    have HST := Lib.hid hst
    clear hgk hm hinv hst
    have hki : (k : Int) < 10000 := by omega
    go_wp2_with fail
    refine (index_any _ b mb k v r HMM.out.run).mono ?_
    rintro e w3 ⟨rfl, hw3⟩
    subst hw3
    by_cases h3 : r.at_ < 3
    · have h3i : (r.at_ : Int) < 3 := by omega
      go_wp2_with fail
      refine (index_any _ b mb k v r HMM.out.run).mono ?_
      rintro e w4 ⟨rfl, hw4⟩
      subst hw4
      have HS2 := Lib.hid (rst_step HST.out h3)
      have HI2 := Lib.hid (HIN.out.step false)
      have HSP := Lib.hid (step_any w4 b mb k v r false HMM.out.run (by unfold maxLen; omega) HIN.out)
      by_cases h0 : r.at_ = 0
      · have h0i : ((r.at_ : Int) == 0) = true := by rw [beq_iff_eq]; omega
        rw [if_pos h0] at HS2
        clear h0 h3 h3i
        go_wp2_with fail
        refine HSP.out.mono ?_
        rintro e w5 ⟨rfl, hr5, hw5⟩
        have HM5 := Lib.hid (HMM.out.next hr5 hw5)
        clear hr5 hw5 HMM HSP
        go_wp2_with fail
        go_roundg (10000 - (k + 1))
        case measure => have := HG.out; omega
        case rel => exact ⟨k + 1, s + 1, r.step false, rfl, by go_num, by go_num, HM5.out, HI2.out, HS2.out⟩
      · have h0i : ((r.at_ : Int) == 0) = false := by rw [beq_eq_false_iff_ne]; omega
        rw [if_neg h0] at HS2
        clear h0 h3 h3i
        go_wp2_with fail
        refine HSP.out.mono ?_
        rintro e w5 ⟨rfl, hr5, hw5⟩
        have HM5 := Lib.hid (HMM.out.next hr5 hw5)
        clear hr5 hw5 HMM HSP
        go_wp2_with fail
        go_roundg (10000 - (k + 1))
        case measure => have := HG.out; omega
        case rel => exact ⟨k + 1, s, r.step false, rfl, rfl, by go_num, HM5.out, HI2.out, HS2.out⟩
    · obtain ⟨ha, hss, hgo⟩ := rst_end HST.out h3
      have HGO := Lib.hid hgo
      have hmul : ((t : Int) + 1) * ((p : Int) + 1) = (s : Int) := by
        rw [hss, Nat.mul_comm, Int.natCast_mul]
        rfl
      have hmw : IntKind.i64.wrap (((t : Int) + 1) * ((p : Int) + 1)) = (s : Int) := by rw [hmul]; exact IntWalk.i64_in _ (by omega)
      have h3i : ¬ (r.at_ : Int) < 3 := by omega
      rw [ha] at h3i ⊢
      clear hgo hss hmul h3
      go_wp2_with fail
      refine (index_any _ b mb k v r HMM.out.run).mono ?_
      rintro e w4 ⟨rfl, hw4⟩
      subst hw4
      rw [ha]
      go_wp2_with fail
      refine (goal_any w4 b mb k v r HMM.out.run).mono ?_
      rintro e w5 ⟨rfl, hb5⟩
      have HB5 := Lib.hid (below_next HMM.out.below hb5)
      rw [HGO.out]
      clear hb5 HMM HGO
      unfold goalV
      go_wp2_with fail
      refine (awake_any w5).mono ?_
      rintro e w6 ⟨rfl, hb6⟩
      have HF : Hid (AwakePost w (.returned (.bool true)) w6) := ⟨rfl, below_next HB5.out hb6⟩
      clear hb6 HB5
      go_wp2_with fail
      go_ret
      exact HF.out
theorem rounds_walk (w : World) (a c : Int) : Calls Try.prog 7 #[.int .i64 a, .int .i64 c] w (AwakePost w) := by
  by_cases h : 0 ≤ a ∧ a ≤ 100 ∧ 1 ≤ c ∧ c ≤ 20
  · obtain ⟨t, rfl⟩ : ∃ t : Nat, a = t := ⟨a.toNat, by omega⟩
    obtain ⟨p, rfl⟩ : ∃ p : Nat, c = p := ⟨c.toNat, by omega⟩
    exact rounds_in w t p (by omega) (by omega) (by omega)
  · exact rounds_out w a c h
end Go.Proofs.Ytkgenhoaeiihoaa
