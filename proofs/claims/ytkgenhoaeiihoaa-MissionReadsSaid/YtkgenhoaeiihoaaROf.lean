/- What the document's Of answers, in whatever world. Conditions: the rows can be read. -/
import Derived.Test.YtkgenhoaeiihoaaOf
namespace Go.Proofs.Ytkgenhoaeiihoaa
open Go.RowKit
set_option maxRecDepth 100000 in
set_option maxHeartbeats 4000000 in
theorem rof_some (w : World) (rows : List (List Int)) (g off cap : Nat) (hb : rows.length * 24 ≤ 140737488351232) (hg : g < w.heap.size) (hc : ∀ i, i < rows.length → ∃ u, w.cell? ⟨g, off + i, none⟩ = some u ∧ Ints w u (rows.getD i [])) :
    Calls Try.prog 29 #[.slice (some ⟨g, off, none⟩) rows.length cap] w (OfPost w rows) := by
  obtain ⟨i0, hi, hz0, hz1, hz2⟩ := info_parts info45
  have HC := Lib.hid hc
  clear hc
  generalize hn : rows.length = n at *
  have HN := Lib.hid hn
  clear hn
  go_enter Try.func29, Try.ntmps29
  go_wp2_with fail
  go_loopg [4, 5] n (fun gh v kv wr => ∃ k : Nat, k ≤ n ∧ gh = n - k ∧ kv = .int .i64 k ∧ Hid (∀ i, i < k → rowOk (rows.getD i []) = true) ∧ RowS w wr v ((rows.take k).map rowIt))
  case atStart => exact ⟨0, Nat.zero_le _, rfl, rfl, fun i hi => absurd hi (Nat.not_lt_zero _), ⟨World.ownsRow_nil _ _ _ _, Below.refl _ _⟩⟩
  case round =>
    obtain ⟨k, hk, hgk, rfl, HOK, hrow⟩ := hrel
    have HG := Lib.hid hgk
    have HW := Lib.hid hrow
    clear hgk hrow
    by_cases hlt : k < n
    · obtain ⟨u, hu, hr⟩ := HC.out k hlt
      have hcell := (HW.out.below.cell (p := ⟨g, off + k, none⟩) hg).trans hu
      obtain ⟨A, cap', rfl, hr2⟩ := hr
      have HBAD : Hid (rowOk (rows.getD k []) = false → ∀ w', Below w.heap.size w w' → OfPost w rows (.returned (.tuple #[.slice none 0 0, .int .i64 191])) w') := fun h w' hb => of_bad (by rw [HN.out]; exact hlt) h hb
      have hlt0 : k < rows.length := by rw [HN.out]; exact hlt
      have HTK := Lib.hid (take_it rows k hlt0)
      have HOKN0 : Hid (rowOk (rows.getD k []) = true → ∀ i, i < k + 1 → rowOk (rows.getD i []) = true) := fun h i hi => by
        by_cases hik : i < k
        · exact HOK.out i hik
        · obtain rfl : i = k := by omega
          exact h
      have HXL : Hid (((rows.take k).map rowIt).length = k) := by unfold Hid; rw [List.length_map, List.length_take]; omega
      generalize rows.getD k [] = r at *
      by_cases h5 : r.length = 5
      · have hr3 := hr2.resolve_left (fun h => by rw [h] at h5; cases h5)
        obtain ⟨g', off', rfl, hg', hcc⟩ := hr3
        rw [h5] at hcell hcc
        have q0 := (HW.out.below.cell (p := ⟨g', off' + 0, none⟩) hg').trans (hcc 0 (by decide))
        have q1 := (HW.out.below.cell (p := ⟨g', off' + 1, none⟩) hg').trans (hcc 1 (by decide))
        have q2 := (HW.out.below.cell (p := ⟨g', off' + 2, none⟩) hg').trans (hcc 2 (by decide))
        have q3 := (HW.out.below.cell (p := ⟨g', off' + 3, none⟩) hg').trans (hcc 3 (by decide))
        have q4 := (HW.out.below.cell (p := ⟨g', off' + 4, none⟩) hg').trans (hcc 4 (by decide))
        rw [Nat.add_zero] at q0
        have HRI : Hid (rowIt r = ⟨r.getD 0 0, r.getD 1 0, r.getD 2 0, r.getD 3 0⟩) := rfl
        have HRO : Hid (rowOk r = decide (1 ≤ r.getD 0 0 ∧ r.getD 0 0 ≤ 7 ∧ r.getD 4 0 = 0)) := by unfold Hid rowOk; simp [h5]
        clear hcc hr2 h5 hlt0
        generalize r.getD 0 0 = x0 at *
        generalize r.getD 1 0 = x1 at *
        generalize r.getD 2 0 = x2 at *
        generalize r.getD 3 0 = x3 at *
        generalize r.getD 4 0 = x4 at *
        by_cases h1 : x0 < 1
        · have HF := Lib.hid (HBAD.out (by rw [HRO.out]; exact decide_eq_false (fun h => by omega)) wr HW.out.below)
          clear HBAD HRO HTK HRI HOKN0
          go_wp2_with fail
          go_ret2
          exact HF.out
        · by_cases h7 : 7 < x0
          · have HF := Lib.hid (HBAD.out (by rw [HRO.out]; exact decide_eq_false (fun h => by omega)) wr HW.out.below)
            clear HBAD HRO HTK HRI HOKN0
            go_wp2_with fail
            go_ret2
            exact HF.out
          · by_cases h4 : x4 = 0
            · have HOK2 : Hid (rowOk r = true) := by unfold Hid; rw [HRO.out]; exact decide_eq_true ⟨by omega, by omega, h4⟩
              subst h4
              have HOKN := Lib.hid (HOKN0.out HOK2.out)
              have hown := HW.out.own
              rw [HXL.out] at hown
              have hbl := HW.out.below.size
              generalize hxx : ((rows.take k).map rowIt).flatMap itL = xl at *
              have HXX := Lib.hid hxx
              clear hxx
              have hw8 : IntKind.u8.wrap x0 = x0 := IntWalk.u8_in _ (by omega)
              clear HRO HOK2 HBAD HOKN0
              go_wp2_with fail
              go_region_law (refine step_append_wide rfl _ _ 22 rfl w.heap.size 45 i0 _ 4 32 Try.underlying22 hi hz0 hz1 hz2 rfl (by decide) u4 k xl rfl (by have h := hown.alloc (.cells #[.int .u8 x0, .int .i64 x1, .int .i64 x2, .int .i64 x3] 45); exact ⟨h.1, h.2⟩) _ 1 1 [.int .u8 x0, .int .i64 x1, .int .i64 x2, .int .i64 x3] rfl rfl (World.news_of_block (cs := #[.int .u8 x0, .int .i64 x1, .int .i64 x2, .int .i64 x3]) (heap_alloc_new wr _)) (it_one4 _ _ _ _) (by unfold maxLen; omega) (by omega) (by simp; omega) ?_; intro vx wx hown1 hgrow _; have HRX : Hid (RowS w wx vx ((rows.take (k + 1)).map rowIt)) := (by unfold Hid; rw [HTK.out]; refine HW.out.add (n := 1) (x := rowIt r) hgrow ?_; rw [HRI.out, HXL.out, HXX.out]; exact hown1); have hsx := HRX.out.below.size; clear hown1 hgrow)
              all_goals
                go_wp2_with fail
                go_roundg (n - (k + 1))
                case measure => have := HG.out; omega
                case rel => exact ⟨k + 1, by omega, rfl, by go_num, HOKN.out, HRX.out⟩
            · have h4n : (x4 != 0) = true := by rw [bne_iff_ne]; exact h4
              have HF := Lib.hid (HBAD.out (by rw [HRO.out]; exact decide_eq_false (fun h => h4 h.2.2)) wr HW.out.below)
              clear h4 HBAD HRO HTK HRI HOKN0
              go_wp2_with fail
              go_ret2
              exact HF.out
      · have hne : ((r.length : Int) != 5) = true := by rw [bne_iff_ne]; omega
        have HF := Lib.hid (HBAD.out (by unfold rowOk; exact decide_eq_false (fun h => h5 h.1)) wr HW.out.below)
        clear h5 HBAD hr2 HTK hlt0
        go_wp2_with fail
        go_ret2
        exact HF.out
    · obtain rfl : k = n := by omega
      have HR2 : Hid (RowS w wr u4 (rows.map rowIt)) := by have := HW.out; rw [← HN.out, List.take_length] at this; exact this
      have HOE := Lib.hid (fun W' hb => of_end (rows := rows) (by rw [HN.out]; exact HOK.out) HR2.out (w' := W') hb)
      have HSR := Lib.hid (rcheck_row w wr u4 _ HR2.out)
      unfold ChkPost at HSR
      clear HOK HR2 HW
      go_wp2_with fail
      refine HSR.out.mono ?_
      rintro e w2 ⟨rfl, hb2⟩
      have HF := Lib.hid (HOE.out w2 hb2)
      clear hb2 HOE HSR
      by_cases hz : chk (rows.map rowIt) = 0
      · rw [hz, if_pos rfl] at HF
        rw [hz]
        clear hz
        go_wp2_with fail
        go_ret2
        exact HF.out
      · rw [if_neg hz] at HF
        have hne : (chk (rows.map rowIt) != 0) = true := by rw [bne_iff_ne]; exact hz
        clear hz
        generalize chk (rows.map rowIt) = cc at *
        go_wp2_with fail
        go_ret2
        exact HF.out
set_option maxRecDepth 100000 in
theorem rof_none (w : World) (A : Option Addr) (cap : Nat) : Calls Try.prog 29 #[.slice A 0 cap] w (OfPost w []) := by
  have HR2 : Hid (RowS w w (.slice none 0 0) []) := ⟨World.ownsRow_nil _ _ _ _, Below.refl _ _⟩
  have HOE := Lib.hid (fun W' hb => of_end (rows := []) (fun _ hi => absurd hi (Nat.not_lt_zero _)) HR2.out (w' := W') hb)
  have HSR := Lib.hid (rcheck_row w w (.slice none 0 0) _ HR2.out)
  unfold ChkPost at HSR
  go_enter Try.func29, Try.ntmps29
  go_wp2_with fail
  go_loop [4, 5] (fun v i => v = .slice none 0 0 ∧ i = .int .i64 0) (fun _ _ => 0)
  case atStart => exact ⟨rfl, rfl⟩
  case round =>
    obtain ⟨rfl, rfl⟩ := hrel
    go_wp2_with fail
    refine HSR.out.mono ?_
    rintro e w2 ⟨rfl, hb2⟩
    have HF := Lib.hid (HOE.out w2 hb2)
    have hz : chk [] = 0 := by decide
    rw [List.map_nil, hz, if_pos rfl] at HF
    rw [hz]
    clear hb2 HOE HSR
    go_wp2_with fail
    go_ret2
    exact HF.out
theorem rof_any (w : World) (v : Value) (rows : List (List Int)) (h : RR w v rows) : Calls Try.prog 29 #[v] w (OfPost w rows) := by
  obtain ⟨h0, A, cap, rfl, h1⟩ := h
  rcases h1 with rfl | ⟨g, off, rfl, hg, hc⟩
  · exact rof_none w A cap
  · exact rof_some w rows g off cap h0 hg hc
end Go.Proofs.Ytkgenhoaeiihoaa
