/- The walk of MissionOrder: true, in whatever world. Conditions: the items can be read. -/
import Derived.Test.YtkgenhoaeiihoaaOrder0
namespace Go.Proofs.Ytkgenhoaeiihoaa
open Go.RowKit
theorem land_call {w u u1 : World} {g o b mb n : Nat} {v x : Value} {r : Rn} (hb : Below u.heap.size u u1) (hg : g < w.heap.size) (h : u.cell? ⟨g, o, none⟩ = some x ∧ Made w u b mb n v r) : u1.cell? ⟨g, o, none⟩ = some x ∧ Made w u1 b mb n v r :=
  ⟨(hb.cell (p := ⟨g, o, none⟩) (Nat.lt_of_lt_of_le hg h.2.below.size)).trans h.1, h.2.keep hb⟩
theorem below_drew1 (w : World) : Below w.heap.size w w.drew := below_drewN w 1
set_option maxRecDepth 100000 in
theorem order_bad (w : World) (v : Value) (xs : List It) (hr : IR w v xs) (hz : chk xs ≠ 0) : Calls Try.prog 6 #[v] w (AwakePost w) := by
  have HR := Lib.hid hr
  obtain ⟨A, cap, hv⟩ := hr.form
  clear hr
  subst hv
  have hne : (chk xs != 0) = true := by rw [bne_iff_ne]; exact hz
  have HNB := Lib.hid (new_bad w 1600 _ xs HR.out (chk xs) rfl hz)
  have HCK := Lib.hid (fun (W : World) (h : Below w.heap.size w W) => check_any W _ xs (HR.out.below h))
  unfold ChkPost at HCK
  clear hz HR
  generalize chk xs = c at *
  go_enter Try.func6, Try.ntmps6
  go_wp2_with fail
  refine HNB.out.mono ?_
  rintro e w1 ⟨rfl, hb1⟩
  have HB1 := Lib.hid hb1
  clear hb1 HNB
  go_wp2_with fail
  refine (HCK.out w1 HB1.out).mono ?_
  rintro e w2 ⟨rfl, hb2⟩
  have HB2 := Lib.hid (below_next HB1.out hb2)
  clear hb2 HCK HB1
  go_wp2_with fail
  refine (awake_any w2).mono ?_
  rintro e w3 ⟨rfl, hb3⟩
  have HF : Hid (AwakePost w (.returned (.bool true)) w3) := ⟨rfl, below_next HB2.out hb3⟩
  clear hb3
  go_wp2_with fail
  go_ret
  exact HF.out
set_option maxRecDepth 100000 in
set_option maxHeartbeats 4000000 in
theorem order_some (w : World) (xs : List It) (g off cap : Nat) (hir : IR w (.slice (some ⟨g, off, none⟩) xs.length cap) xs) (hg : g < w.heap.size) (hc : ∀ i, i < xs.length → ItAt w g (off + i * 4) (xs.getD i it0)) (hz : chk xs = 0) :
    Calls Try.prog 6 #[.slice (some ⟨g, off, none⟩) xs.length cap] w (AwakePost w) := by
  have HC := Lib.hid hc
  have HZ := Lib.hid hz
  have HNW := Lib.hid (new_good w 1600 _ xs hir hz)
  have HL64 := Lib.hid (chk_all hz).1
  clear hc hz hir
  generalize hn : xs.length = n at *
  have HN := Lib.hid hn
  clear hn
  go_enter Try.func6, Try.ntmps6
  go_wp2_with fail
  refine HNW.out.mono ?_
  rintro e w1 ⟨b, mb, v, rfl, hm⟩
  have HM := Lib.hid hm
  clear hm HNW
  go_wp2_with fail
  go_loopg [5, 6] n (fun gh sv iv wr => ∃ (k : Nat) (s : Int), k ≤ n ∧ gh = n - k ∧ sv = .int .i64 s ∧ iv = .int .i64 k ∧ Hid (s = 1 + costs (xs.take k)) ∧ Hid (Few xs k) ∧ Hid (Made w wr b mb 0 v (rn0 xs 1600)))
  case atStart => exact ⟨0, 1, Nat.zero_le _, rfl, rfl, rfl, by unfold Hid; rw [List.take_zero, costs_nil]; rfl, fun i hi => absurd hi (Nat.not_lt_zero _), HM.out⟩
  case round =>
    obtain ⟨k, s, hk, hgk, rfl, rfl, HS, HFW, HMR⟩ := hrel
    have HG := Lib.hid hgk
    clear hgk HM
    by_cases hlt : k < n
    · obtain ⟨p0, p1, p2, p3⟩ := HC.out k hlt
      have c0 := (HMR.out.below.cell (p := ⟨g, _, none⟩) hg).trans p0
      have c1 := (HMR.out.below.cell (p := ⟨g, _, none⟩) hg).trans p1
      clear p0 p1 p2 p3
      have hlx : k < xs.length := by rw [HN.out]; exact hlt
      have HFB : Hid (fewB k (xs.getD k it0) = decide (¬ ((xs.getD k it0).k = 4 ∧ (xs.getD k it0).a ≤ (k : Int)) ∧ ¬ ((xs.getD k it0).k = 3 ∧ 1000 < (xs.getD k it0).a))) := rfl
      have HCT : Hid (costs (xs.take (k + 1)) = costs (xs.take k) + (1 + (if (xs.getD k it0).k = 3 then (xs.getD k it0).a else 0))) := costs_take k hlx
      have HF2 : Hid (fewB k (xs.getD k it0) = true → Few xs (k + 1)) := fun h i hi => by
        by_cases hik : i < k
        · exact HFW.out i hik
        · obtain rfl : i = k := by omega
          exact h
      have hlo := take_lo HZ.out (k + 1) (by omega)
      have hlo0 := take_lo HZ.out k (by omega)
      have hs0 : 1 ≤ s ∧ s ≤ 65000065 := by have := HS.out; have := HL64.out; omega
      have hs1 : 0 ≤ costs (xs.take k) + (1 + (if (xs.getD k it0).k = 3 then (xs.getD k it0).a else 0)) ∧ costs (xs.take k) + (1 + (if (xs.getD k it0).k = 3 then (xs.getD k it0).a else 0)) ≤ 65000065 := by
        rw [HCT.out] at hlo; have := HL64.out; omega
      clear hlo hlo0 hlx
      generalize (xs.getD k it0).k = kk at *
      generalize (xs.getD k it0).a = a at *
      have hw1 : IntKind.i64.wrap (s + 1) = s + 1 := IntWalk.i64_in _ (by omega)
      have hk64 : k < 64 := by have := HL64.out; omega
      by_cases h4 : kk = 4
      · subst h4
        by_cases hle : a ≤ (k : Int)
        · clear HFB HF2 HCT hs0 hs1
          go_wp2_with fail
          refine (awake_any wr).mono ?_
          rintro e w2 ⟨rfl, hb2⟩
          have HF : Hid (AwakePost w (.returned (.bool true)) w2) := ⟨rfl, below_next HMR.out.below hb2⟩
          clear hb2
          go_wp2_with fail
          go_ret
          exact HF.out
        · have HFN := Lib.hid (HF2.out (by rw [HFB.out]; exact decide_eq_true ⟨fun h => hle h.2, fun h => absurd h.1 (by decide)⟩))
          have HSN : Hid (s + 1 = 1 + costs (xs.take (k + 1))) := by unfold Hid; rw [HCT.out, if_neg (show ¬ ((4 : Int) = 3) by decide), HS.out]; omega
          clear HFB HF2 HCT hs0 hs1 HS HFW
          go_wp2_with fail
          go_roundg (n - (k + 1))
          case measure => have := HG.out; omega
          case rel => exact ⟨k + 1, s + 1, by omega, rfl, by go_num, by go_num, HSN, HFN, HMR⟩
      · by_cases h3 : kk = 3
        · subst h3
          by_cases hlong : 1000 < a
          · clear HFB HF2 HCT hs0 hs1
            go_wp2_with fail
            refine (awake_any wr).mono ?_
            rintro e w2 ⟨rfl, hb2⟩
            have HF : Hid (AwakePost w (.returned (.bool true)) w2) := ⟨rfl, below_next HMR.out.below hb2⟩
            clear hb2
            go_wp2_with fail
            go_ret
            exact HF.out
          · have hw2 : IntKind.i64.wrap (s + 1 + a) = s + 1 + a := IntWalk.i64_in _ (by rw [if_pos rfl] at hs1; have := HS.out; omega)
            have HFN := Lib.hid (HF2.out (by rw [HFB.out]; exact decide_eq_true ⟨fun h => absurd h.1 (by decide), fun h => hlong h.2⟩))
            have HSN : Hid (s + 1 + a = 1 + costs (xs.take (k + 1))) := by unfold Hid; rw [HCT.out, if_pos (show (3 : Int) = 3 from rfl), HS.out]; omega
            clear HFB HF2 HCT hs0 hs1 HS HFW
            go_wp2_with fail
            go_roundg (n - (k + 1))
            case measure => have := HG.out; omega
            case rel => exact ⟨k + 1, s + 1 + a, by omega, rfl, by go_num, by go_num, HSN, HFN, HMR⟩
        · have z4 : (kk == 4) = false := by simp [h4]
          have z3 : (kk == 3) = false := by simp [h3]
          have HFN := Lib.hid (HF2.out (by rw [HFB.out]; exact decide_eq_true ⟨fun h => h4 h.1, fun h => h3 h.1⟩))
          have HSN : Hid (s + 1 = 1 + costs (xs.take (k + 1))) := by unfold Hid; rw [HCT.out, if_neg h3, HS.out]; omega
          clear HFB HF2 HCT hs0 hs1 HS HFW h3 h4
          go_wp2_with fail
          go_roundg (n - (k + 1))
          case measure => have := HG.out; omega
          case rel => exact ⟨k + 1, s + 1, by omega, rfl, by go_num, by go_num, HSN, HFN, HMR⟩
    · obtain rfl : k = n := by omega
      have HA : Hid (Ahead (rn0 xs 1600) (-1) 0 s) := by
        have h := HS.out
        have h2 := HFW.out
        rw [← HN.out, List.take_length] at h
        rw [← HN.out] at h2
        rw [h]
        exact ahead0 HZ.out h2 1600
      have hs64 : 1 ≤ s ∧ s ≤ 65000065 := by
        have h1 := take_lo HZ.out k (by rw [HN.out]; omega)
        have h2 := HS.out
        have := HL64.out
        omega
      have hn64 : k ≤ 64 := HL64.out
      clear HS HFW hlt hk HG
      go_wp2_with fail
      go_loopg [7, 8] s.toNat (fun gh lv jv wr2 => ∃ (j : Nat) (last : Int) (r : Rn), gh = s.toNat - j ∧ lv = .int .i64 last ∧ jv = .int .i64 j ∧ Hid (Made w wr2 b mb j v r) ∧ Hid (Ahead r last j s) ∧ Hid (r.xs = xs))
      case atStart => exact ⟨0, -1, rn0 xs 1600, rfl, rfl, rfl, HMR, HA, rfl⟩
      case round =>
        obtain ⟨j, last, r, hgj, rfl, rfl, HMA, HAH, HXS⟩ := hrel
        have HGJ := Lib.hid hgj
        clear hgj HMR HA
        have hroom := HAH.out.room
        have hjs : (j : Int) < s := by omega
        have hlast := HAH.out.last
        have hle : r.at_ ≤ k := by have := HAH.out.inv.le; rw [HXS.out, HN.out] at this; exact this
        have HOV := Lib.hid (over_any wr b mb j v r HMA.out.run)
        unfold OverPost at HOV
        rw [HXS.out, HN.out] at HOV
        by_cases hov : k ≤ r.at_
        · have hat : r.at_ = k := by omega
          rw [decide_eq_true hov] at HOV
          have HGO : Hid (r.goal = goalV 0 0 0 0 0) := by unfold Hid Rn.goal; rw [if_pos (by rw [HXS.out, HN.out]; exact hov)]
          have HXS3 := HXS
          clear hov hlast hle hroom HAH HXS
          go_wp2_with fail
          refine HOV.out.mono ?_
          rintro e w3 ⟨rfl, q3, rfl⟩
          have HM3 := Lib.hid (HMA.out.keep (below_drewN wr q3))
          clear HMA HOV
          generalize wr.drewN q3 = w3 at *
          have HOV3 := Lib.hid (over_any w3 b mb j v r HM3.out.run)
          unfold OverPost at HOV3
          have hov3 : decide (r.xs.length ≤ r.at_) = true := by rw [HXS3.out, HN.out]; exact decide_eq_true (by omega)
          rw [hov3] at HOV3
          clear hov3
          go_wp2_with fail
          refine HOV3.out.mono ?_
          rintro e w4 ⟨rfl, q4, rfl⟩
          have HM4 := Lib.hid (HM3.out.keep (below_drewN w3 q4))
          clear HM3 HOV3
          generalize w3.drewN q4 = w4 at *
          go_wp2_with fail
          refine (goal_any w4 b mb j v r HM4.out.run).mono ?_
          rintro e w5 ⟨rfl, hb5⟩
          have HM5 := Lib.hid (HM4.out.keep hb5)
          rw [HGO.out]
          clear hb5 HM4 HGO
          unfold goalV
          go_wp2_with fail
          refine (index_any w5 b mb j v r HM5.out.run).mono ?_
          rintro e w6 ⟨rfl, hw6⟩
          subst hw6
          rw [hat]
          go_wp2_with fail
          refine (awake_any w6).mono ?_
          rintro e w7 ⟨rfl, hb7⟩
          have HF : Hid (AwakePost w (.returned (.bool true)) w7) := ⟨rfl, below_next HM5.out.below hb7⟩
          clear hb7
          go_wp2_with fail
          go_ret
          exact HF.out
        · rw [decide_eq_false hov] at HOV
          have hlt : r.at_ < k := by omega
          go_wp2_with fail
          refine HOV.out.mono ?_
          rintro e w3 ⟨rfl, q3, rfl⟩
          have HM3 := Lib.hid (HMA.out.keep (below_drewN wr q3))
          clear HMA HOV
          generalize wr.drewN q3 = w3 at *
          go_wp2_with fail
          refine (index_any w3 b mb j v r HM3.out.run).mono ?_
          rintro e w4 ⟨rfl, hw4⟩
          subst hw4
          obtain ⟨p0, p1, p2, p3⟩ := HC.out r.at_ hlt
          have c0 := (HM3.out.below.cell (p := ⟨g, _, none⟩) hg).trans p0
          have HC0 := Lib.hid p0
          clear p0 p1 p2 p3
          have HNX : Hid ((xs.getD r.at_ it0).k ≠ 6 ∧ (xs.getD r.at_ it0).k ≠ 7 → Ahead (r.step true) (r.at_ : Int) ((j : Int) + 1) s) := fun h => HAH.out.step (by rw [HXS.out, HN.out]; exact hlt) (by rw [HXS.out]; exact h)
          have HST := Lib.hid (step_any w4 b mb j v r true HM3.out.run (by unfold maxLen; omega) HAH.out.inv)
          have HKG : Hid (r.goal = goalI (xs.getD r.at_ it0) r.sp) := by unfold Hid Rn.goal; rw [if_neg (by rw [HXS.out, HN.out]; omega), HXS.out]
          have HSS : Hid ((xs.getD r.at_ it0).k = 6 ∨ (xs.getD r.at_ it0).k = 7 → r.step true = r) := fun h => by
            unfold Rn.step
            rw [if_neg (by rw [HXS.out, HN.out]; omega), HXS.out]
            unfold stepI
            rw [if_neg (by omega), if_neg (by omega), if_neg (by omega), if_neg (by omega)]
          have HGK : Hid (∀ sp, goalI (xs.getD r.at_ it0) sp = goalV (xs.getD r.at_ it0).k (if (xs.getD r.at_ it0).k = 2 then (xs.getD r.at_ it0).a else 0) (if (xs.getD r.at_ it0).k = 2 then (xs.getD r.at_ it0).b else 0) (if (xs.getD r.at_ it0).k = 1 then (xs.getD r.at_ it0).a else if (xs.getD r.at_ it0).k = 2 then (xs.getD r.at_ it0).c else 0) sp) := fun _ => rfl
          rw [HGK.out] at HKG
          clear HGK hov
          generalize (xs.getD r.at_ it0).k = kk at *
          by_cases h6 : kk = 6 ∨ kk = 7
          · have HRS := Lib.hid (HSS.out h6)
            rw [HRS.out] at HST
            have hb6 : (kk == 6) = true ∨ ((kk == 6) = false ∧ (kk == 7) = true) := by
              rcases h6 with rfl | rfl
              · exact .inl rfl
              · exact .inr ⟨rfl, rfl⟩
            clear h6 HNX HSS
            generalize (if kk = 2 then (xs.getD r.at_ it0).a else 0) = gx at *
            generalize (if kk = 2 then (xs.getD r.at_ it0).b else 0) = gy at *
            generalize (if kk = 1 then (xs.getD r.at_ it0).a else if kk = 2 then (xs.getD r.at_ it0).c else 0) = gz at *
            have hfl : ∀ W : World, (Instr.field 47 (.agg #[.int .u8 kk, .int .i64 gx, .int .i64 gy, .int .i64 gz, .int .i64 r.sp]) 0).run Try.prog W = .ok (.int .u8 kk) W := fun W => by kernel_rfl
            rcases hb6 with z6 | ⟨z6, z7⟩
            · go_wp2_with fail
              refine HST.out.mono ?_
              rintro e w5 ⟨rfl, hr5, hw5⟩
              have hm5 := HM3.out.next hr5 hw5
              have c5 := (hm5.below.cell (p := ⟨g, off + r.at_ * 4, none⟩) hg).trans HC0.out
              have HS5 : w5.cell? ⟨g, off + r.at_ * 4, none⟩ = some (.int .u8 kk) ∧ Made w w5 b mb (j + 1) v r := ⟨c5, hm5⟩
              clear hr5 hw5 HM3 HST hm5 c0
              go_wp2_with fail
              go_region_held3 (fun u => u.cell? ⟨g, off + r.at_ * 4, none⟩ = some (.int .u8 kk) ∧ Made w u b mb (j + 1) v r)
                (first | assumption | exact land_call (below_drew1 _) hg (by assumption) | exact land_call (by assumption) hg (by assumption))
                (first
                  | (go_at_call 23; refine (index_any _ b mb (j + 1) v r (show _ ∧ Made w _ b mb (j + 1) v r from by assumption).2.run).mono ?_; rintro e w' ⟨rfl, hw'⟩; subst hw')
                  | (go_at_call 21; refine (goal_any _ b mb (j + 1) v r (show _ ∧ Made w _ b mb (j + 1) v r from by assumption).2.run).mono ?_; rintro e w' ⟨rfl, hb'⟩; rw [HKG.out]; unfold goalV)
                  | (go_at_call 16; refine (awake_any _).mono ?_; rintro e w' ⟨rfl, hb'⟩))
              all_goals
                have HF : Hid (∀ W, (W.cell? ⟨g, off + r.at_ * 4, none⟩ = some (.int .u8 kk) ∧ Made w W b mb (j + 1) v r) → AwakePost w (.returned (.bool true)) W) := fun W h => ⟨rfl, h.2.below⟩
                go_wp2_with fail
                go_ret
                refine HF.out _ ?_
                first | assumption | exact land_call (below_drew1 _) hg (by assumption) | exact land_call (by assumption) hg (by assumption)
            · go_wp2_with fail
              refine HST.out.mono ?_
              rintro e w5 ⟨rfl, hr5, hw5⟩
              have hm5 := HM3.out.next hr5 hw5
              have c5 := (hm5.below.cell (p := ⟨g, off + r.at_ * 4, none⟩) hg).trans HC0.out
              have HS5 : w5.cell? ⟨g, off + r.at_ * 4, none⟩ = some (.int .u8 kk) ∧ Made w w5 b mb (j + 1) v r := ⟨c5, hm5⟩
              clear hr5 hw5 HM3 HST hm5 c0
              go_wp2_with fail
              go_region_held3 (fun u => u.cell? ⟨g, off + r.at_ * 4, none⟩ = some (.int .u8 kk) ∧ Made w u b mb (j + 1) v r)
                (first | assumption | exact land_call (below_drew1 _) hg (by assumption) | exact land_call (by assumption) hg (by assumption))
                (first
                  | (go_at_call 23; refine (index_any _ b mb (j + 1) v r (show _ ∧ Made w _ b mb (j + 1) v r from by assumption).2.run).mono ?_; rintro e w' ⟨rfl, hw'⟩; subst hw')
                  | (go_at_call 21; refine (goal_any _ b mb (j + 1) v r (show _ ∧ Made w _ b mb (j + 1) v r from by assumption).2.run).mono ?_; rintro e w' ⟨rfl, hb'⟩; rw [HKG.out]; unfold goalV)
                  | (go_at_call 16; refine (awake_any _).mono ?_; rintro e w' ⟨rfl, hb'⟩))
              all_goals
                have HF : Hid (∀ W, (W.cell? ⟨g, off + r.at_ * 4, none⟩ = some (.int .u8 kk) ∧ Made w W b mb (j + 1) v r) → AwakePost w (.returned (.bool true)) W) := fun W h => ⟨rfl, h.2.below⟩
                go_wp2_with fail
                go_ret
                refine HF.out _ ?_
                first | assumption | exact land_call (below_drew1 _) hg (by assumption) | exact land_call (by assumption) hg (by assumption)
          · have HN2 := Lib.hid (HNX.out ⟨fun h => h6 (.inl h), fun h => h6 (.inr h)⟩)
            have z6 : (kk == 6) = false := by rw [beq_eq_false_iff_ne]; exact fun h => h6 (.inl h)
            have z7 : (kk == 7) = false := by rw [beq_eq_false_iff_ne]; exact fun h => h6 (.inr h)
            clear h6 HNX HSS HKG
            go_wp2_with fail
            refine HST.out.mono ?_
            rintro e w5 ⟨rfl, hr5, hw5⟩
            have HM5 := Lib.hid (HM3.out.next hr5 hw5)
            clear hr5 hw5 HM3 HST
            go_wp2_with fail
            go_roundg (s.toNat - (j + 1))
            case measure => have := HGJ.out; omega
            case rel => exact ⟨j + 1, _, r.step true, rfl, rfl, by go_num, HM5, HN2, by unfold Hid; rw [step_xs]; exact HXS⟩
set_option maxRecDepth 100000 in
set_option maxHeartbeats 4000000 in
theorem order_none (w : World) (A : Option Addr) (cap : Nat) (hir : IR w (.slice A 0 cap) []) : Calls Try.prog 6 #[.slice A 0 cap] w (AwakePost w) := by
  have HNW := Lib.hid (new_good w 1600 _ [] hir (by decide))
  have hov : decide ((rn0 [] 1600).xs.length ≤ (rn0 [] 1600).at_) = true := by decide
  have hat : (rn0 [] 1600).at_ = 0 := rfl
  have HGO : Hid ((rn0 [] 1600).goal = goalV 0 0 0 0 0) := rfl
  have HAT := Lib.hid hat
  clear hir hat
  go_enter Try.func6, Try.ntmps6
  go_wp2_with fail
  refine HNW.out.mono ?_
  rintro e w1 ⟨b, mb, v, rfl, hm⟩
  have HM := Lib.hid hm
  clear hm HNW
  go_wp2_with fail
  go_loop [5, 6] (fun s i => s = .int .i64 1 ∧ i = .int .i64 0) (fun _ _ => 0)
  case atStart => exact ⟨rfl, rfl⟩
  case round =>
    obtain ⟨rfl, rfl⟩ := hrel
    go_wp2_with fail
    go_loop [7, 8] (fun l i => l = .int .i64 (-1) ∧ i = .int .i64 0) (fun _ _ => 0)
    case atStart => exact ⟨rfl, rfl⟩
    case round =>
      obtain ⟨rfl, rfl⟩ := hrel
      generalize rn0 [] 1600 = r at *
      have HOV := Lib.hid hov
      clear hov
      go_wp2_with fail
      refine (over_any w1 b mb 0 v r HM.out.run).mono ?_
      rintro e w3 ⟨rfl, q3, rfl⟩
      rw [HOV.out]
      have HM3 := Lib.hid (HM.out.keep (below_drewN w1 q3))
      clear HM
      generalize w1.drewN q3 = w3 at *
      go_wp2_with fail
      refine (over_any w3 b mb 0 v r HM3.out.run).mono ?_
      rintro e w4 ⟨rfl, q4, rfl⟩
      rw [HOV.out]
      have HM4 := Lib.hid (HM3.out.keep (below_drewN w3 q4))
      clear HM3
      generalize w3.drewN q4 = w4 at *
      go_wp2_with fail
      refine (goal_any w4 b mb 0 v r HM4.out.run).mono ?_
      rintro e w5 ⟨rfl, hb5⟩
      have HM5 := Lib.hid (HM4.out.keep hb5)
      rw [HGO.out]
      clear hb5 HM4 HGO
      unfold goalV
      go_wp2_with fail
      refine (index_any w5 b mb 0 v r HM5.out.run).mono ?_
      rintro e w6 ⟨rfl, hw6⟩
      subst hw6
      rw [HAT.out]
      go_wp2_with fail
      refine (awake_any w6).mono ?_
      rintro e w7 ⟨rfl, hb7⟩
      have HF : Hid (AwakePost w (.returned (.bool true)) w7) := ⟨rfl, below_next HM5.out.below hb7⟩
      clear hb7
      go_wp2_with fail
      go_ret
      exact HF.out
theorem order_walk (w : World) (v : Value) (xs : List It) (hr : IR w v xs) : Calls Try.prog 6 #[v] w (AwakePost w) := by
  by_cases hz : chk xs = 0
  · rcases hr.at with ⟨rfl, A, cap, rfl⟩ | ⟨g, off, cap, rfl, hg, hc⟩
    · exact order_none w A cap hr
    · exact order_some w xs g off cap hr hg hc hz
  · exact order_bad w v xs hr hz
end Go.Proofs.Ytkgenhoaeiihoaa
