/- The walk of ModesCalm: true, in whatever world. Conditions: the events can be read. -/
import Derived.Test.YtgbogbmjefbkeaaLive
import Derived.Test.YtgbogbmjefbkeaaCalmP
namespace Go.Proofs.Ytgbogbmjefbkeaa
open Go.RowKit
set_option maxRecDepth 100000 in
set_option maxHeartbeats 8000000 in
theorem calm_ss (w : World) (g1 off1 : Nat) (c1 : Nat) (g2 off2 : Nat) (c2 : Nat) (xs : List Int) (hl1 : xs.length ≤ 140737488351232) (hg1 : g1 < w.heap.size) (hc1 : ∀ i, i < xs.length → w.cell? ⟨g1, off1 + i, none⟩ = some (.int .i64 (xs.getD i 0))) (ys : List Int) (hl2 : ys.length ≤ 140737488351232) (hg2 : g2 < w.heap.size) (hc2 : ∀ i, i < ys.length → w.cell? ⟨g2, off2 + i, none⟩ = some (.int .i64 (ys.getD i 0))) : Calls Try.prog 5 #[.slice (some ⟨g1, off1, none⟩) xs.length c1, .slice (some ⟨g2, off2, none⟩) ys.length c2] w (AwakePost w) := by
  have HC1 := Lib.hid hc1
  clear hc1
  have HC2 := Lib.hid hc2
  clear hc2
  go_enter Try.func5, Try.ntmps5
  go_wp2_with fail
  refine (new_any w).mono ?_
  rintro e w1 ⟨rfl, hm1, hb1⟩
  have H1 : Hid (Own w w1 w.heap.size md0) := ⟨hm1, hb1, Nat.le_refl _⟩
  clear hm1 hb1
  obtain ⟨bl, hbl⟩ : ∃ bl, w.heap.size = bl := ⟨_, rfl⟩
  rw [hbl] at H1 ⊢
  clear hbl
  go_wp2_with fail
  go_loopg [6] xs.length (fun gh i wr => ∃ (k : Nat) (x : Md), k ≤ xs.length ∧ gh = xs.length - k ∧ i = .int .i64 k ∧ Hid (Own w wr bl x))
  case atStart => exact ⟨0, md0, Nat.zero_le _, rfl, rfl, H1⟩
  case round =>
    obtain ⟨k, x, hk, hgk, rfl, HX⟩ := hrel
    have HG := Lib.hid hgk
    clear hgk H1
    by_cases hlt : k < xs.length
    · obtain ⟨ev, hev⟩ : ∃ ev, xs.getD k 0 = ev := ⟨_, rfl⟩
      have hcell : wr.cell? ⟨g1, off1 + k, none⟩ = some (.int .i64 ev) := by
        rw [HX.out.below.cell (p := ⟨g1, off1 + k, none⟩) hg1, HC1.out k hlt, hev]
      clear hev
      go_wp2_with fail
      refine (own_step HX.out ev rfl rfl).mono ?_
      rintro e w4 ⟨rfl, ho4⟩
      have HO := Lib.hid ho4
      clear ho4 hcell HX
      go_wp2_with fail
      go_roundg (xs.length - (k + 1))
      case measure => have := HG.out; omega
      case rel => exact ⟨k + 1, x.step ev, by omega, rfl, by go_num, HO⟩
    · skip
      have HFA := Lib.hid (fly_any wr x.mode HX.out.ok.m0 (by have := HX.out.ok.m1; omega))
      cases hf : flyB x.mode with
      | false =>
        rw [hf] at HFA
        clear hf
        go_wp2_with fail
        refine (own_mode HX.out rfl).mono ?_
        rintro e w2 ⟨rfl, hw2⟩
        subst hw2
        go_wp2_with fail
        refine HFA.out.mono ?_
        rintro e w3 ⟨rfl, hw3⟩
        subst hw3
        go_wp2_with fail
        refine (awake_any w3).mono ?_
        rintro e w4 ⟨rfl, hb4⟩
        have HF : Hid (AwakePost w (.returned (.bool true)) w4) := ⟨rfl, below_next HX.out.below hb4⟩
        clear hb4
        go_wp2_with fail
        (try simp only [Exit.inBlock, Exit.then])
        go_ret
        exact HF.out
      | true =>
        have HFL : Hid (3 ≤ x.mode ∧ 0 + pot x.mode ≤ 7) := by
          have h1 := (pot_in x.mode).2
          unfold flyB at hf
          simp only [Bool.and_eq_true, decide_eq_true_eq] at hf
          exact ⟨hf.1, by omega⟩
        rw [hf] at HFA
        clear hf
        go_wp2_with fail
        refine (own_mode HX.out rfl).mono ?_
        rintro e w2 ⟨rfl, hw2⟩
        subst hw2
        go_wp2_with fail
        refine HFA.out.mono ?_
        rintro e w3 ⟨rfl, hw3⟩
        subst hw3
        clear HFA
        go_wp2_with fail
        go_loopg [7, 8] ys.length (fun gh v7 i wr => ∃ (k : Nat) (c : Int) (x : Md), k ≤ ys.length ∧ gh = ys.length - k ∧ i = .int .i64 k ∧ v7 = .int .i64 c ∧ 0 ≤ c ∧ c ≤ 7 ∧ Hid (Own w wr bl x) ∧ Hid (3 ≤ x.mode ∧ c + pot x.mode ≤ 7))
        case atStart => exact ⟨0, 0, x, Nat.zero_le _, rfl, rfl, rfl, by decide, by decide, HX, HFL⟩
        case round =>
          obtain ⟨k, c, x, hk, hgk, rfl, rfl, hc0, hc7, HX, HF3⟩ := hrel
          have HG := Lib.hid hgk
          clear hgk
          by_cases hlt : k < ys.length
          · obtain ⟨ev, hev⟩ : ∃ ev, ys.getD k 0 = ev := ⟨_, rfl⟩
            have hcell : wr.cell? ⟨g2, off2 + k, none⟩ = some (.int .i64 ev) := by
              rw [HX.out.below.cell (p := ⟨g2, off2 + k, none⟩) hg2, HC2.out k hlt, hev]
            clear hev
            obtain ⟨h127a, h127b⟩ := and127 ev
            have HCS := Lib.hid (calm_step HX.out.ok HF3.out.1 h127a h127b)
            have HST := Lib.hid (own_step HX.out (bits .and .i64 ev 127) rfl rfl)
            have HPI := Lib.hid (pot_in (x.step (bits .and .i64 ev 127)).mode)
            clear h127a h127b
            generalize hev2 : bits .and .i64 ev 127 = ev2 at *
            by_cases hd : 0 ≤ x.did ev2
            · have HCN : Hid (3 ≤ (x.step ev2).mode ∧ (c + 1) + pot (x.step ev2).mode ≤ 7) := by
                have h := HCS.out.2
                rw [if_pos hd] at h
                exact ⟨HCS.out.1, by have := HF3.out.2; omega⟩
              have hc8 : c + 1 ≤ 7 := by have := HCN.out.2; have := HPI.out.1; omega
              clear HCS HF3 HPI
              generalize x.did ev2 = d at *
              go_wp2_with fail
              refine HST.out.mono ?_
              rintro e w4 ⟨rfl, ho4⟩
              have HO := Lib.hid ho4
              clear ho4 HST hcell
              go_wp2_with fail
              go_roundg (ys.length - (k + 1))
              case measure => have := HG.out; omega
              case rel => exact ⟨k + 1, c + 1, x.step ev2, by omega, rfl, by go_num, by go_num, by omega, hc8, HO, HCN⟩
            · have HCN : Hid (3 ≤ (x.step ev2).mode ∧ c + pot (x.step ev2).mode ≤ 7) := by
                have h := HCS.out.2
                rw [if_neg hd] at h
                exact ⟨HCS.out.1, by rw [h]; exact HF3.out.2⟩
              clear HCS HF3 HPI
              generalize x.did ev2 = d at *
              go_wp2_with fail
              refine HST.out.mono ?_
              rintro e w4 ⟨rfl, ho4⟩
              have HO := Lib.hid ho4
              clear ho4 HST hcell
              go_wp2_with fail
              go_roundg (ys.length - (k + 1))
              case measure => have := HG.out; omega
              case rel => exact ⟨k + 1, c, x.step ev2, by omega, rfl, by go_num, rfl, hc0, hc7, HO, HCN⟩
          · go_wp2_with fail
            refine (awake_any wr).mono ?_
            rintro e w2 ⟨rfl, hb2⟩
            have HF : Hid (AwakePost w (.returned (.bool true)) w2) := ⟨rfl, below_next HX.out.below hb2⟩
            clear hb2
            go_wp2_with fail
            go_ret
            exact HF.out
set_option maxRecDepth 100000 in
set_option maxHeartbeats 8000000 in
theorem calm_sn (w : World) (g1 off1 : Nat) (c1 : Nat) (A2 : Option Addr) (c2 : Nat) (xs : List Int) (hl1 : xs.length ≤ 140737488351232) (hg1 : g1 < w.heap.size) (hc1 : ∀ i, i < xs.length → w.cell? ⟨g1, off1 + i, none⟩ = some (.int .i64 (xs.getD i 0))) : Calls Try.prog 5 #[.slice (some ⟨g1, off1, none⟩) xs.length c1, .slice A2 0 c2] w (AwakePost w) := by
  have HC1 := Lib.hid hc1
  clear hc1
  go_enter Try.func5, Try.ntmps5
  go_wp2_with fail
  refine (new_any w).mono ?_
  rintro e w1 ⟨rfl, hm1, hb1⟩
  have H1 : Hid (Own w w1 w.heap.size md0) := ⟨hm1, hb1, Nat.le_refl _⟩
  clear hm1 hb1
  obtain ⟨bl, hbl⟩ : ∃ bl, w.heap.size = bl := ⟨_, rfl⟩
  rw [hbl] at H1 ⊢
  clear hbl
  go_wp2_with fail
  go_loopg [6] xs.length (fun gh i wr => ∃ (k : Nat) (x : Md), k ≤ xs.length ∧ gh = xs.length - k ∧ i = .int .i64 k ∧ Hid (Own w wr bl x))
  case atStart => exact ⟨0, md0, Nat.zero_le _, rfl, rfl, H1⟩
  case round =>
    obtain ⟨k, x, hk, hgk, rfl, HX⟩ := hrel
    have HG := Lib.hid hgk
    clear hgk H1
    by_cases hlt : k < xs.length
    · obtain ⟨ev, hev⟩ : ∃ ev, xs.getD k 0 = ev := ⟨_, rfl⟩
      have hcell : wr.cell? ⟨g1, off1 + k, none⟩ = some (.int .i64 ev) := by
        rw [HX.out.below.cell (p := ⟨g1, off1 + k, none⟩) hg1, HC1.out k hlt, hev]
      clear hev
      go_wp2_with fail
      refine (own_step HX.out ev rfl rfl).mono ?_
      rintro e w4 ⟨rfl, ho4⟩
      have HO := Lib.hid ho4
      clear ho4 hcell HX
      go_wp2_with fail
      go_roundg (xs.length - (k + 1))
      case measure => have := HG.out; omega
      case rel => exact ⟨k + 1, x.step ev, by omega, rfl, by go_num, HO⟩
    · skip
      have HFA := Lib.hid (fly_any wr x.mode HX.out.ok.m0 (by have := HX.out.ok.m1; omega))
      cases hf : flyB x.mode with
      | false =>
        rw [hf] at HFA
        clear hf
        go_wp2_with fail
        refine (own_mode HX.out rfl).mono ?_
        rintro e w2 ⟨rfl, hw2⟩
        subst hw2
        go_wp2_with fail
        refine HFA.out.mono ?_
        rintro e w3 ⟨rfl, hw3⟩
        subst hw3
        go_wp2_with fail
        refine (awake_any w3).mono ?_
        rintro e w4 ⟨rfl, hb4⟩
        have HF : Hid (AwakePost w (.returned (.bool true)) w4) := ⟨rfl, below_next HX.out.below hb4⟩
        clear hb4
        go_wp2_with fail
        (try simp only [Exit.inBlock, Exit.then])
        go_ret
        exact HF.out
      | true =>
        have HFL : Hid (3 ≤ x.mode ∧ 0 + pot x.mode ≤ 7) := by
          have h1 := (pot_in x.mode).2
          unfold flyB at hf
          simp only [Bool.and_eq_true, decide_eq_true_eq] at hf
          exact ⟨hf.1, by omega⟩
        rw [hf] at HFA
        clear hf
        go_wp2_with fail
        refine (own_mode HX.out rfl).mono ?_
        rintro e w2 ⟨rfl, hw2⟩
        subst hw2
        go_wp2_with fail
        refine HFA.out.mono ?_
        rintro e w3 ⟨rfl, hw3⟩
        subst hw3
        clear HFA
        go_wp2_with fail
        go_loopg [7, 8] 0 (fun gh v7 i wr => ∃ (k : Nat) (c : Int) (x : Md), k ≤ 0 ∧ gh = 0 - k ∧ i = .int .i64 k ∧ v7 = .int .i64 c ∧ 0 ≤ c ∧ c ≤ 7 ∧ Hid (Own w wr bl x) ∧ Hid (3 ≤ x.mode ∧ c + pot x.mode ≤ 7))
        case atStart => exact ⟨0, 0, x, Nat.zero_le _, rfl, rfl, rfl, by decide, by decide, HX, HFL⟩
        case round =>
          obtain ⟨k, c, x, hk, hgk, rfl, rfl, hc0, hc7, HX, HF3⟩ := hrel
          have HG := Lib.hid hgk
          clear hgk
          obtain rfl : k = 0 := by omega
          go_wp2_with fail
          refine (awake_any wr).mono ?_
          rintro e w2 ⟨rfl, hb2⟩
          have HF : Hid (AwakePost w (.returned (.bool true)) w2) := ⟨rfl, below_next HX.out.below hb2⟩
          clear hb2
          go_wp2_with fail
          go_ret
          exact HF.out
set_option maxRecDepth 100000 in
set_option maxHeartbeats 8000000 in
theorem calm_ns (w : World) (A1 : Option Addr) (c1 : Nat) (g2 off2 : Nat) (c2 : Nat) (ys : List Int) (hl2 : ys.length ≤ 140737488351232) (hg2 : g2 < w.heap.size) (hc2 : ∀ i, i < ys.length → w.cell? ⟨g2, off2 + i, none⟩ = some (.int .i64 (ys.getD i 0))) : Calls Try.prog 5 #[.slice A1 0 c1, .slice (some ⟨g2, off2, none⟩) ys.length c2] w (AwakePost w) := by
  have HC2 := Lib.hid hc2
  clear hc2
  go_enter Try.func5, Try.ntmps5
  go_wp2_with fail
  refine (new_any w).mono ?_
  rintro e w1 ⟨rfl, hm1, hb1⟩
  have H1 : Hid (Own w w1 w.heap.size md0) := ⟨hm1, hb1, Nat.le_refl _⟩
  clear hm1 hb1
  obtain ⟨bl, hbl⟩ : ∃ bl, w.heap.size = bl := ⟨_, rfl⟩
  rw [hbl] at H1 ⊢
  clear hbl
  go_wp2_with fail
  go_loopg [6] 0 (fun gh i wr => ∃ (k : Nat) (x : Md), k ≤ 0 ∧ gh = 0 - k ∧ i = .int .i64 k ∧ Hid (Own w wr bl x))
  case atStart => exact ⟨0, md0, Nat.zero_le _, rfl, rfl, H1⟩
  case round =>
    obtain ⟨k, x, hk, hgk, rfl, HX⟩ := hrel
    have HG := Lib.hid hgk
    clear hgk H1
    obtain rfl : k = 0 := by omega
    have HFA := Lib.hid (fly_any wr x.mode HX.out.ok.m0 (by have := HX.out.ok.m1; omega))
    cases hf : flyB x.mode with
    | false =>
      rw [hf] at HFA
      clear hf
      go_wp2_with fail
      refine (own_mode HX.out rfl).mono ?_
      rintro e w2 ⟨rfl, hw2⟩
      subst hw2
      go_wp2_with fail
      refine HFA.out.mono ?_
      rintro e w3 ⟨rfl, hw3⟩
      subst hw3
      go_wp2_with fail
      refine (awake_any w3).mono ?_
      rintro e w4 ⟨rfl, hb4⟩
      have HF : Hid (AwakePost w (.returned (.bool true)) w4) := ⟨rfl, below_next HX.out.below hb4⟩
      clear hb4
      go_wp2_with fail
      (try simp only [Exit.inBlock, Exit.then])
      go_ret
      exact HF.out
    | true =>
      have HFL : Hid (3 ≤ x.mode ∧ 0 + pot x.mode ≤ 7) := by
        have h1 := (pot_in x.mode).2
        unfold flyB at hf
        simp only [Bool.and_eq_true, decide_eq_true_eq] at hf
        exact ⟨hf.1, by omega⟩
      rw [hf] at HFA
      clear hf
      go_wp2_with fail
      refine (own_mode HX.out rfl).mono ?_
      rintro e w2 ⟨rfl, hw2⟩
      subst hw2
      go_wp2_with fail
      refine HFA.out.mono ?_
      rintro e w3 ⟨rfl, hw3⟩
      subst hw3
      clear HFA
      go_wp2_with fail
      go_loopg [7, 8] ys.length (fun gh v7 i wr => ∃ (k : Nat) (c : Int) (x : Md), k ≤ ys.length ∧ gh = ys.length - k ∧ i = .int .i64 k ∧ v7 = .int .i64 c ∧ 0 ≤ c ∧ c ≤ 7 ∧ Hid (Own w wr bl x) ∧ Hid (3 ≤ x.mode ∧ c + pot x.mode ≤ 7))
      case atStart => exact ⟨0, 0, x, Nat.zero_le _, rfl, rfl, rfl, by decide, by decide, HX, HFL⟩
      case round =>
        obtain ⟨k, c, x, hk, hgk, rfl, rfl, hc0, hc7, HX, HF3⟩ := hrel
        have HG := Lib.hid hgk
        clear hgk
        by_cases hlt : k < ys.length
        · obtain ⟨ev, hev⟩ : ∃ ev, ys.getD k 0 = ev := ⟨_, rfl⟩
          have hcell : wr.cell? ⟨g2, off2 + k, none⟩ = some (.int .i64 ev) := by
            rw [HX.out.below.cell (p := ⟨g2, off2 + k, none⟩) hg2, HC2.out k hlt, hev]
          clear hev
          obtain ⟨h127a, h127b⟩ := and127 ev
          have HCS := Lib.hid (calm_step HX.out.ok HF3.out.1 h127a h127b)
          have HST := Lib.hid (own_step HX.out (bits .and .i64 ev 127) rfl rfl)
          have HPI := Lib.hid (pot_in (x.step (bits .and .i64 ev 127)).mode)
          clear h127a h127b
          generalize hev2 : bits .and .i64 ev 127 = ev2 at *
          by_cases hd : 0 ≤ x.did ev2
          · have HCN : Hid (3 ≤ (x.step ev2).mode ∧ (c + 1) + pot (x.step ev2).mode ≤ 7) := by
              have h := HCS.out.2
              rw [if_pos hd] at h
              exact ⟨HCS.out.1, by have := HF3.out.2; omega⟩
            have hc8 : c + 1 ≤ 7 := by have := HCN.out.2; have := HPI.out.1; omega
            clear HCS HF3 HPI
            generalize x.did ev2 = d at *
            go_wp2_with fail
            refine HST.out.mono ?_
            rintro e w4 ⟨rfl, ho4⟩
            have HO := Lib.hid ho4
            clear ho4 HST hcell
            go_wp2_with fail
            go_roundg (ys.length - (k + 1))
            case measure => have := HG.out; omega
            case rel => exact ⟨k + 1, c + 1, x.step ev2, by omega, rfl, by go_num, by go_num, by omega, hc8, HO, HCN⟩
          · have HCN : Hid (3 ≤ (x.step ev2).mode ∧ c + pot (x.step ev2).mode ≤ 7) := by
              have h := HCS.out.2
              rw [if_neg hd] at h
              exact ⟨HCS.out.1, by rw [h]; exact HF3.out.2⟩
            clear HCS HF3 HPI
            generalize x.did ev2 = d at *
            go_wp2_with fail
            refine HST.out.mono ?_
            rintro e w4 ⟨rfl, ho4⟩
            have HO := Lib.hid ho4
            clear ho4 HST hcell
            go_wp2_with fail
            go_roundg (ys.length - (k + 1))
            case measure => have := HG.out; omega
            case rel => exact ⟨k + 1, c, x.step ev2, by omega, rfl, by go_num, rfl, hc0, hc7, HO, HCN⟩
        · go_wp2_with fail
          refine (awake_any wr).mono ?_
          rintro e w2 ⟨rfl, hb2⟩
          have HF : Hid (AwakePost w (.returned (.bool true)) w2) := ⟨rfl, below_next HX.out.below hb2⟩
          clear hb2
          go_wp2_with fail
          go_ret
          exact HF.out
set_option maxRecDepth 100000 in
set_option maxHeartbeats 8000000 in
theorem calm_nn (w : World) (A1 : Option Addr) (c1 : Nat) (A2 : Option Addr) (c2 : Nat) : Calls Try.prog 5 #[.slice A1 0 c1, .slice A2 0 c2] w (AwakePost w) := by
  go_enter Try.func5, Try.ntmps5
  go_wp2_with fail
  refine (new_any w).mono ?_
  rintro e w1 ⟨rfl, hm1, hb1⟩
  have H1 : Hid (Own w w1 w.heap.size md0) := ⟨hm1, hb1, Nat.le_refl _⟩
  clear hm1 hb1
  obtain ⟨bl, hbl⟩ : ∃ bl, w.heap.size = bl := ⟨_, rfl⟩
  rw [hbl] at H1 ⊢
  clear hbl
  go_wp2_with fail
  go_loopg [6] 0 (fun gh i wr => ∃ (k : Nat) (x : Md), k ≤ 0 ∧ gh = 0 - k ∧ i = .int .i64 k ∧ Hid (Own w wr bl x))
  case atStart => exact ⟨0, md0, Nat.zero_le _, rfl, rfl, H1⟩
  case round =>
    obtain ⟨k, x, hk, hgk, rfl, HX⟩ := hrel
    have HG := Lib.hid hgk
    clear hgk H1
    obtain rfl : k = 0 := by omega
    have HFA := Lib.hid (fly_any wr x.mode HX.out.ok.m0 (by have := HX.out.ok.m1; omega))
    cases hf : flyB x.mode with
    | false =>
      rw [hf] at HFA
      clear hf
      go_wp2_with fail
      refine (own_mode HX.out rfl).mono ?_
      rintro e w2 ⟨rfl, hw2⟩
      subst hw2
      go_wp2_with fail
      refine HFA.out.mono ?_
      rintro e w3 ⟨rfl, hw3⟩
      subst hw3
      go_wp2_with fail
      refine (awake_any w3).mono ?_
      rintro e w4 ⟨rfl, hb4⟩
      have HF : Hid (AwakePost w (.returned (.bool true)) w4) := ⟨rfl, below_next HX.out.below hb4⟩
      clear hb4
      go_wp2_with fail
      (try simp only [Exit.inBlock, Exit.then])
      go_ret
      exact HF.out
    | true =>
      have HFL : Hid (3 ≤ x.mode ∧ 0 + pot x.mode ≤ 7) := by
        have h1 := (pot_in x.mode).2
        unfold flyB at hf
        simp only [Bool.and_eq_true, decide_eq_true_eq] at hf
        exact ⟨hf.1, by omega⟩
      rw [hf] at HFA
      clear hf
      go_wp2_with fail
      refine (own_mode HX.out rfl).mono ?_
      rintro e w2 ⟨rfl, hw2⟩
      subst hw2
      go_wp2_with fail
      refine HFA.out.mono ?_
      rintro e w3 ⟨rfl, hw3⟩
      subst hw3
      clear HFA
      go_wp2_with fail
      go_loopg [7, 8] 0 (fun gh v7 i wr => ∃ (k : Nat) (c : Int) (x : Md), k ≤ 0 ∧ gh = 0 - k ∧ i = .int .i64 k ∧ v7 = .int .i64 c ∧ 0 ≤ c ∧ c ≤ 7 ∧ Hid (Own w wr bl x) ∧ Hid (3 ≤ x.mode ∧ c + pot x.mode ≤ 7))
      case atStart => exact ⟨0, 0, x, Nat.zero_le _, rfl, rfl, rfl, by decide, by decide, HX, HFL⟩
      case round =>
        obtain ⟨k, c, x, hk, hgk, rfl, rfl, hc0, hc7, HX, HF3⟩ := hrel
        have HG := Lib.hid hgk
        clear hgk
        obtain rfl : k = 0 := by omega
        go_wp2_with fail
        refine (awake_any wr).mono ?_
        rintro e w2 ⟨rfl, hb2⟩
        have HF : Hid (AwakePost w (.returned (.bool true)) w2) := ⟨rfl, below_next HX.out.below hb2⟩
        clear hb2
        go_wp2_with fail
        go_ret
        exact HF.out
theorem calm_walk (w : World) (v1 v2 : Value) (xs ys : List Int) (h1 : Ints w v1 xs) (h2 : Ints w v2 ys) : Calls Try.prog 5 #[v1, v2] w (AwakePost w) := by
  obtain ⟨hl1, A1, c1, rfl, h1 | ⟨g1, off1, rfl, hg1, hc1⟩⟩ := h1
  · subst h1
    obtain ⟨hl2, A2, c2, rfl, h2 | ⟨g2, off2, rfl, hg2, hc2⟩⟩ := h2
    · subst h2
      exact calm_nn w A1 c1 A2 c2
    · exact calm_ns w A1 c1 g2 off2 c2 ys hl2 hg2 hc2
  · obtain ⟨hl2, A2, c2, rfl, h2 | ⟨g2, off2, rfl, hg2, hc2⟩⟩ := h2
    · subst h2
      exact calm_sn w g1 off1 c1 A2 c2 xs hl1 hg1 hc1
    · exact calm_ss w g1 off1 c1 g2 off2 c2 xs hl1 hg1 hc1 ys hl2 hg2 hc2
end Go.Proofs.Ytgbogbmjefbkeaa
