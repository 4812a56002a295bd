/- The walk of MissionBack: true, in whatever world. Conditions: the items can be read; the text is within the reach of memory. -/
import Derived.Test.YtkgenhoaeiihoaaAwake
namespace Go.Proofs.Ytkgenhoaeiihoaa
open Go.RowKit
theorem enc_size (xs : List It) : (enc xs).size ≤ 140737488351232 := by
  unfold enc
  split
  · rename_i h
    have := chk_few h
    rw [strOfNums_size, encL_len]
    omega
  · exact Nat.zero_le _
set_option maxRecDepth 100000 in
set_option maxHeartbeats 4000000 in
theorem back_walk (w : World) (v : Value) (xs : List It) (s : ByteArray) (hr : IR w v xs) (hs : s.size ≤ 140737488351232) : Calls Try.prog 4 #[v, .string s] w (AwakePost w) := by
  have HR := Lib.hid hr
  obtain ⟨A, cap, hv⟩ := hr.form
  clear hr
  subst hv
  go_enter Try.func4, Try.ntmps4
  go_wp2_with fail
  refine (encode_any w _ xs HR.out).mono ?_
  rintro e w1 ⟨rfl, hb1⟩
  have HB1 := Lib.hid hb1
  have HR1 := Lib.hid (HR.out.below hb1)
  have HES := Lib.hid (enc_size xs)
  clear hb1 HR
  by_cases hz : chk xs = 0
  · have hen : enc xs = strOfNums (encL xs) := by unfold enc; rw [if_pos hz]
    have HDE := Lib.hid (dec_enc hz)
    rw [← hen] at HDE
    rw [hz]
    clear hz hen
    generalize enc xs = t at *
    go_wp2_with fail
    refine (decode_any w1 t HES.out).mono ?_
    rintro e w2 ⟨vd, rfl, hi2, _, _, hb2⟩
    have HI2 := Lib.hid hi2
    rw [HDE.out.2] at HI2
    rw [HDE.out.1]
    have HB2 := Lib.hid (below_next HB1.out hb2)
    have HR2 := Lib.hid (HR1.out.below hb2)
    clear hi2 hb2 HB1 HR1 HDE
    go_wp2_with fail
    refine (same_any w2 _ _ _ _ HI2.out HR2.out).mono ?_
    rintro e w3 ⟨rfl, q, rfl⟩
    rw [decide_eq_true rfl]
    have HBT := Lib.hid (below_next HB2.out (below_drewN w2 q))
    clear HB2 HR2 HI2
    generalize w2.drewN q = wt at *
    go_wp2_with fail
    refine (decode_any wt s hs).mono ?_
    rintro e w4 ⟨vd, rfl, hi4, _, hn4, hb4⟩
    have HB4 := Lib.hid (below_next HBT.out hb4)
    have HI4 := Lib.hid hi4
    have HN4 := Lib.hid hn4
    clear hi4 hn4 hb4 HBT
    by_cases hd : decC s = 0
    · obtain ⟨hc, he⟩ := enc_dec hd
      have hen : enc (decI s) = s := by unfold enc; rw [if_pos hc, he]
      rw [hd]
      clear hd HN4
      go_wp2_with fail
      refine (encode_any w4 _ _ HI4.out).mono ?_
      rintro e w5 ⟨rfl, hb5⟩
      have HB5 := Lib.hid (below_next HB4.out hb5)
      rw [hen, hc]
      clear hc he hen hb5 HB4 HI4
      go_wp2_with fail
      refine (awake_any w5).mono ?_
      rintro e w6 ⟨rfl, hb6⟩
      have HF : Hid (AwakePost w (.returned (.bool true)) w6) := ⟨rfl, below_next HB5.out hb6⟩
      clear hb6 HB5
      go_wp2_with fail
      go_ret
      exact HF.out
    · obtain rfl : vd = .slice none 0 0 := HN4.out hd
      have hne : (decC s != 0) = true := by rw [bne_iff_ne]; exact hd
      clear hd HN4 HI4
      generalize decC s = dc at *
      go_wp2_with fail
      refine (awake_any w4).mono ?_
      rintro e w6 ⟨rfl, hb6⟩
      have HF : Hid (AwakePost w (.returned (.bool true)) w6) := ⟨rfl, below_next HB4.out hb6⟩
      clear hb6 HB4
      go_wp2_with fail
      go_ret
      exact HF.out
  · have hen : enc xs = ByteArray.empty := by unfold enc; rw [if_neg hz]
    rw [hen]
    have hne : (chk xs != 0) = true := by rw [bne_iff_ne]; exact hz
    have hne2 : (chk xs == 0) = false := by rw [beq_eq_false_iff_ne]; exact hz
    have HCH := Lib.hid (check_any w1 _ xs HR1.out)
    unfold ChkPost at HCH
    clear hz hen HES
    generalize chk xs = c at *
    go_wp2_with fail
    refine HCH.out.mono ?_
    rintro e wt ⟨rfl, hb2⟩
    have HBT := Lib.hid (below_next HB1.out hb2)
    clear hb2 HB1 HR1 HCH
    go_wp2_with fail
    refine (decode_any wt s hs).mono ?_
    rintro e w4 ⟨vd, rfl, hi4, _, hn4, hb4⟩
    have HB4 := Lib.hid (below_next HBT.out hb4)
    have HI4 := Lib.hid hi4
    have HN4 := Lib.hid hn4
    clear hi4 hn4 hb4 HBT
    by_cases hd : decC s = 0
    · obtain ⟨hc, he⟩ := enc_dec hd
      have hen : enc (decI s) = s := by unfold enc; rw [if_pos hc, he]
      rw [hd]
      clear hd HN4
      go_wp2_with fail
      refine (encode_any w4 _ _ HI4.out).mono ?_
      rintro e w5 ⟨rfl, hb5⟩
      have HB5 := Lib.hid (below_next HB4.out hb5)
      rw [hen, hc]
      clear hc he hen hb5 HB4 HI4
      go_wp2_with fail
      refine (awake_any w5).mono ?_
      rintro e w6 ⟨rfl, hb6⟩
      have HF : Hid (AwakePost w (.returned (.bool true)) w6) := ⟨rfl, below_next HB5.out hb6⟩
      clear hb6 HB5
      go_wp2_with fail
      go_ret
      exact HF.out
    · obtain rfl : vd = .slice none 0 0 := HN4.out hd
      have hne : (decC s != 0) = true := by rw [bne_iff_ne]; exact hd
      clear hd HN4 HI4
      generalize decC s = dc at *
      go_wp2_with fail
      refine (awake_any w4).mono ?_
      rintro e w6 ⟨rfl, hb6⟩
      have HF : Hid (AwakePost w (.returned (.bool true)) w6) := ⟨rfl, below_next HB4.out hb6⟩
      clear hb6 HB4
      go_wp2_with fail
      go_ret
      exact HF.out
end Go.Proofs.Ytkgenhoaeiihoaa
