/- What the document's Decode answers, in whatever world. Conditions: the text is within the reach of memory. -/
import Derived.Test.YtkgenhoaeiihoaaDec
namespace Go.Proofs.Ytkgenhoaeiihoaa
open Go.RowKit
set_option maxRecDepth 100000 in
theorem rdecode_nil (w : World) (s : ByteArray) (h : s.size = 0) : Calls Try.prog 27 #[.string s] w (DecPost w s) := by
  have hd : decC s = 3 := by unfold decC sizedB; rw [show decide (0 < s.size) = false from by simp [h]]; rfl
  have HF : Hid (DecPost w s (.returned (.tuple #[.slice none 0 0, .int .i64 3])) w) := ⟨_, by rw [hd], ⟨by unfold decI; rw [hd]; simp, .inl ⟨rfl, by unfold decI; rw [hd]; rfl⟩⟩, (fun g hg => nomatch hg), (fun _ => rfl), Below.refl _ _⟩
  have e : s = ByteArray.empty := by
    apply ByteArray.ext
    have : s.data.size = 0 := h
    exact Array.eq_empty_of_size_eq_zero this
  clear hd
  subst e
  go_enter Try.func27, Try.ntmps27
  go_wp2_with fail
  go_ret2
  exact HF.out
set_option maxRecDepth 100000 in
theorem rdecode_not (w : World) (s : ByteArray) (h : 0 < s.size) (hne : ¬ (s.size : Int) = 1 + 13 * bt s 0) : Calls Try.prog 27 #[.string s] w (DecPost w s) := by
  have hd : decC s = 3 := by unfold decC sizedB; rw [show decide ((s.size : Int) = 1 + 13 * bt s 0) = false from by simp [hne], Bool.and_false]; rfl
  have HF : Hid (DecPost w s (.returned (.tuple #[.slice none 0 0, .int .i64 3])) w) := ⟨_, by rw [hd], ⟨by unfold decI; rw [hd]; simp, .inl ⟨rfl, by unfold decI; rw [hd]; rfl⟩⟩, (fun g hg => nomatch hg), (fun _ => rfl), Below.refl _ _⟩
  have hb := bt_eq s 0 h
  have hlo := bt_lo s 0
  rw [hb] at hne hlo
  obtain ⟨hlo1, hlo2⟩ := hlo
  have hz : ((s.size : Int) != (1 : Int) + (13 : Int) * (s[0].toNat : Int)) = true := by rw [bne_iff_ne]; exact hne
  have hl : ((s.size : Int) == 0) = false := by rw [beq_eq_false_iff_ne]; omega
  clear hb hd hne
  go_enter Try.func27, Try.ntmps27
  go_wp2_with fail
  go_ret2
  exact HF.out
set_option maxRecDepth 100000 in
set_option maxHeartbeats 4000000 in
theorem rdecode_ok (w : World) (s : ByteArray) (h : 0 < s.size) (hs : s.size ≤ 140737488351232) (he : (s.size : Int) = 1 + 13 * bt s 0) : Calls Try.prog 27 #[.string s] w (DecPost w s) := by
  have hb := bt_eq s 0 h
  have hlo := bt_lo s 0
  have hcn : (cntOf s : Int) = bt s 0 := by unfold cntOf; omega
  have hd : decC s = chk (items s (cntOf s)) := by
    unfold decC sizedB
    rw [show decide (0 < s.size) = true from by simp [h], show decide ((s.size : Int) = 1 + 13 * bt s 0) = true from by simp [he]]
    rfl
  have hsz : s.size = 1 + 13 * cntOf s := by omega
  have hn255 : cntOf s ≤ 255 := by omega
  have HD := Lib.hid hd
  rw [hb] at he hlo
  obtain ⟨hlo1, hlo2⟩ := hlo
  have hz : ((s.size : Int) != (1 : Int) + (13 : Int) * (s[0].toNat : Int)) = false := by rw [he]; simp
  have hl : ((s.size : Int) == 0) = false := by rw [beq_eq_false_iff_ne]; omega
  have HSZ := Lib.hid hsz
  obtain ⟨i0, hi, hz0, hz1, hz2⟩ := info_parts info45
  generalize hn : cntOf s = n at *
  have HCN := Lib.hid hn
  clear hb hd he hcn hn hsz
  go_enter Try.func27, Try.ntmps27
  go_wp2_with fail
  go_loopg [4, 5] n (fun gh v rv wr => ∃ (k a : Nat), k ≤ n ∧ gh = n - k ∧ a = 1 + 13 * k ∧ rv = .int .i64 a ∧ RowS w wr v (items s k))
  case atStart => exact ⟨0, 1, Nat.zero_le _, rfl, rfl, rfl, ⟨World.ownsRow_nil _ _ _ _, Below.refl _ _⟩⟩
  case round =>
    obtain ⟨k, a, hk, hgk, hak, rfl, hrow⟩ := hrel
    have HG := Lib.hid hgk
    have HW := Lib.hid hrow
    have HA := Lib.hid hak
    clear hgk hrow
    by_cases hlt : k < n
    · have ha13 : a + 13 ≤ s.size := by have := HSZ.out; omega
      have hid : (a : Int) < (s.size : Int) := by omega
      have hid2 : a < s.size := by omega
      obtain ⟨x1, hx1⟩ : ∃ x, x = (a : Int) + 1 := ⟨_, rfl⟩
      have w1 : IntKind.i64.wrap ((a : Int) + 1) = x1 := by rw [hx1]; exact IntWalk.i64_in _ (by omega)
      obtain ⟨x5, hx5⟩ : ∃ x, x = (a : Int) + 5 := ⟨_, rfl⟩
      have w5 : IntKind.i64.wrap ((a : Int) + 5) = x5 := by rw [hx5]; exact IntWalk.i64_in _ (by omega)
      obtain ⟨x9, hx9⟩ : ∃ x, x = (a : Int) + 9 := ⟨_, rfl⟩
      have w9 : IntKind.i64.wrap ((a : Int) + 9) = x9 := by rw [hx9]; exact IntWalk.i64_in _ (by omega)
      have hb := bt_eq s a hid2
      have HIT : Hid (itemAt s k = ⟨((s[a].toNat : Nat) : Int), numAt s (a + 1), numAt s (a + 5), numAt s (a + 9)⟩) := by unfold Hid; rw [← hb, hak]; rfl
      have hown := HW.out.own
      rw [items_len] at hown
      have hbl := HW.out.below.size
      have N1 : Hid (∀ W, Calls Try.prog 38 #[.string s, .int .i64 x1] W fun e w' => e = .returned (.int .i64 (numAt s (a + 1))) ∧ w' = W) := fun W => number_any W s (a + 1) _ (by rw [hx1]; omega) (by omega) hs
      have N5 : Hid (∀ W, Calls Try.prog 38 #[.string s, .int .i64 x5] W fun e w' => e = .returned (.int .i64 (numAt s (a + 5))) ∧ w' = W) := fun W => number_any W s (a + 5) _ (by rw [hx5]; omega) (by omega) hs
      have N9 : Hid (∀ W, Calls Try.prog 38 #[.string s, .int .i64 x9] W fun e w' => e = .returned (.int .i64 (numAt s (a + 9))) ∧ w' = W) := fun W => number_any W s (a + 9) _ (by rw [hx9]; omega) (by omega) hs
      clear hb hak hx1 hx5 hx9
      generalize numAt s (a + 1) = na at *
      generalize numAt s (a + 5) = nb at *
      generalize numAt s (a + 9) = nc at *
      have HXS := Lib.hid (items_succ s k)
      have HXL := Lib.hid (items_len s k)
      generalize hxx : (items s k).flatMap itL = xl at *
      have HXX := Lib.hid hxx
      clear hxx
      go_wp2_with fail
      go_region_held3 (fun u => w.heap.size ≤ u.heap.size) (first | assumption | (simp; omega))
        (first
          | (refine step_append_lies _ rfl _ _ 22 rfl w.heap.size 45 i0 _ 4 32 Try.underlying22 hi hz0 hz1 hz2 rfl (by decide) u4 k xl rfl (by have h := hown.alloc (.cells #[.int .u8 (s[a].toNat : Int), .int .i64 na, .int .i64 nb, .int .i64 nc] 45); exact ⟨h.1, h.2⟩) _ 1 1 [.int .u8 (s[a].toNat : Int), .int .i64 na, .int .i64 nb, .int .i64 nc] rfl rfl (World.news_of_block (cs := #[.int .u8 (s[a].toNat : Int), .int .i64 na, .int .i64 nb, .int .i64 nc]) (heap_alloc_new wr _)) (it_one4 _ _ _ _) (by omega) (by unfold maxLen; omega) (by omega) (by simp; omega) _ rfl ?_; intro vg vcap wx hown1 hgrow hat hlt1; have HRX : Hid (RowS w wx (.slice (some ⟨vg, 0, none⟩) (k + 1) vcap) (items s (k + 1))) := (by unfold Hid; rw [HXS.out]; refine HW.out.add (n := 1) (x := itemAt s k) hgrow ?_; rw [HIT.out, HXL.out, HXX.out]; exact hown1); have hsx := HRX.out.below.size; clear hown1 hgrow hat hlt1)
          | (go_at_call_of 38 (Value.int IntKind.i64 x1); refine (N1.out _).mono ?_; rintro e w' ⟨rfl, rfl⟩)
          | (go_at_call_of 38 (Value.int IntKind.i64 x5); refine (N5.out _).mono ?_; rintro e w' ⟨rfl, rfl⟩)
          | (go_at_call_of 38 (Value.int IntKind.i64 x9); refine (N9.out _).mono ?_; rintro e w' ⟨rfl, rfl⟩))
      all_goals
        go_wp2_with fail
        go_roundg (n - (k + 1))
        case measure => have := HG.out; omega
        case rel => exact ⟨k + 1, a + 13, by omega, rfl, by have := HA.out; omega, by go_num, HRX.out⟩
    · obtain rfl : k = n := by omega
      have hak := HA.out
      have hss : (s.size : Int) ≤ (a : Int) := by have := HSZ.out; have := HA.out; omega
      have hir : Hid (IR wr u4 (items s k)) := ir_own HW.out.own (by rw [items_len]; omega)
      have hub := fun c hc => (HW.out.own.lt c hc).1
      have HUB := Lib.hid hub
      clear hub hak
      go_wp2_with fail
      refine (rcheck_any wr _ _ hir.out).mono ?_
      rintro e w2 ⟨rfl, hb2⟩
      have HB2 := Lib.hid (below_next HW.out.below hb2)
      have hcc : decC s = chk (items s k) := HD.out
      by_cases hz : chk (items s k) = 0
      · have HF : Hid (DecPost w s (.returned (.tuple #[u4, .int .i64 0])) w2) := by
          refine ⟨_, by rw [hcc, hz], ?_, fun c hc => HUB.out c hc, fun h => absurd (hcc.trans hz) h, HB2.out⟩
          unfold decI
          rw [hcc, if_pos hz, HCN.out]
          exact hir.out.below hb2
        clear hb2 hcc
        rw [hz]
        go_wp2_with fail
        go_ret2
        exact HF.out
      · have HF : Hid (DecPost w s (.returned (.tuple #[.slice none 0 0, .int .i64 (chk (items s k))])) w2) := by
          refine ⟨_, by rw [hcc], ?_, (fun c hc => by cases hc), fun _ => rfl, HB2.out⟩
          unfold decI
          rw [hcc, if_neg hz]
          exact ⟨by simp, .inl ⟨rfl, rfl⟩⟩
        have hne : (chk (items s k) != 0) = true := by rw [bne_iff_ne]; exact hz
        clear hb2 hcc hz
        generalize chk (items s k) = cc at *
        go_wp2_with fail
        go_ret2
        exact HF.out
theorem rdecode_any (w : World) (s : ByteArray) (hs : s.size ≤ 140737488351232) : Calls Try.prog 27 #[.string s] w (DecPost w s) := by
  by_cases h0 : s.size = 0
  · exact rdecode_nil w s h0
  · by_cases he : (s.size : Int) = 1 + 13 * bt s 0
    · exact rdecode_ok w s (by omega) hs he
    · exact rdecode_not w s (by omega) he
end Go.Proofs.Ytkgenhoaeiihoaa
