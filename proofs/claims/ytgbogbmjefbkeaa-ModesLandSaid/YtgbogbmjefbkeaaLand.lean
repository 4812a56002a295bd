/- The walk of ModesLand: true, in whatever world. Conditions: the events can be read. -/
import Derived.Test.YtgbogbmjefbkeaaLive
namespace Go.Proofs.Ytgbogbmjefbkeaa
open Go.RowKit
/-- What is known of a step's numbers. -/
structure Landed (xm ym d : Int) (xl yl : Nat) : Prop where
  p1 : flyB xm = true → flyB ym = false → ym = 14 ∧ d = 3
  p2 : bkB xm = true → ym = 12 ∨ ym = 13 ∨ ym = 14
  p3 : dryB xl = true → dryB yl = false → ym = 0 ∨ ym = 1
  p4 : dryB yl = true → bkB ym = true ∨ ym = 14
  m0 : 0 ≤ ym
  m1 : ym ≤ 14
  l64 : yl < 64
def Cut (b : Bool) (W : World) (v : Value) (wx : World) : Prop := v = .bool b ∧ wx = W
set_option maxRecDepth 100000 in
set_option maxHeartbeats 8000000 in
theorem land_some (w : World) (xs : List Int) (g off cap : Nat) (hl : xs.length ≤ 140737488351232) (hg : g < w.heap.size) (hc : ∀ i, i < xs.length → w.cell? ⟨g, off + i, none⟩ = some (.int .i64 (xs.getD i 0))) :
    Calls Try.prog 4 #[.slice (some ⟨g, off, none⟩) xs.length cap] w (AwakePost w) := by
  have HC := Lib.hid hc
  clear hc
  go_enter Try.func4, Try.ntmps4
  go_wp2_with fail
  refine (new_any w).mono ?_
  rintro e w1 ⟨rfl, hm1, hb1⟩
  have H1 : Hid (Own w w1 w.heap.size md0) := ⟨hm1, hb1, Nat.le_refl _⟩
  clear hm1 hb1
  obtain ⟨bl, hbl⟩ : ∃ bl, w.heap.size = bl := ⟨_, rfl⟩
  rw [hbl] at H1 ⊢
  clear hbl
  go_wp2_with fail
  go_loopg [4, 5] xs.length (fun gh v4 i wr => ∃ (k : Nat) (x : Md), k ≤ xs.length ∧ gh = xs.length - k ∧ i = .int .i64 k ∧ v4 = .bool (bkB x.mode) ∧ Hid (Own w wr bl x) ∧ Hid (LInv x))
  case atStart => exact ⟨0, md0, Nat.zero_le _, rfl, rfl, rfl, H1, (fun h => absurd h (by decide))⟩
  case round =>
    obtain ⟨k, x, hk, hgk, rfl, rfl, HX, HI⟩ := hrel
    have HG := Lib.hid hgk
    clear hgk H1
    by_cases hlt : k < xs.length
    · obtain ⟨ev, hev⟩ : ∃ ev, xs.getD k 0 = ev := ⟨_, rfl⟩
      have hcell : wr.cell? ⟨g, off + k, none⟩ = some (.int .i64 ev) := by
        rw [HX.out.below.cell (p := ⟨g, off + k, none⟩) hg, HC.out k hlt, hev]
      clear hev
      have HLD : Hid (Landed x.mode (x.step ev).mode (x.did ev) x.lat (x.step ev).lat) :=
        ⟨land1 HX.out.ok ev, land2 HX.out.ok ev, land3 HX.out.ok ev, land4 HX.out.ok HI.out ev, (HX.out.ok.step ev).m0, (HX.out.ok.step ev).m1, (HX.out.ok.step ev).l64⟩
      have HLI : Hid (LInv (x.step ev)) := land4 HX.out.ok HI.out ev
      have hx0 := HX.out.ok.m0
      have hx1 := HX.out.ok.m1
      have hdb := dry_bits2 HX.out.ok.l64
      have HST := Lib.hid (own_step HX.out ev (rfl : x.did ev = x.did ev) (rfl : x.step ev = x.step ev))
      have HMO := Lib.hid (own_mode HX.out (rfl : x.mode = x.mode))
      have HLA := Lib.hid (own_latches HX.out (rfl : (x.lat : Int) = (x.lat : Int)))
      have HYM : Hid (∀ W, Own w W bl (x.step ev) → Calls Try.prog 11 #[.pointer (some ⟨bl, 0, none⟩)] W fun e w' => e = .returned (.int .u8 (x.step ev).mode) ∧ w' = W) := fun W h => own_mode h rfl
      have HYL : Hid (∀ W, Own w W bl (x.step ev) → Calls Try.prog 12 #[.pointer (some ⟨bl, 0, none⟩)] W fun e w' => e = .returned (.int .i64 ((x.step ev).lat : Int)) ∧ w' = W) := fun W h => own_latches h rfl
      have HBK : Hid (bkB (x.step ev).mode = bkB (x.step ev).mode) := rfl
      have hdy := dry_bits HLD.out.l64
      have hdy2 := dry_bits2 HLD.out.l64
      have hy0 := HLD.out.m0
      have hy1 := HLD.out.m1
      clear HX HI
      have HMY0 : ∃ ym, Hid ((x.step ev).mode = ym) := ⟨_, rfl⟩
      clear HBK
      generalize hym : (x.step ev).mode = ym at *
      have HMY := Lib.hid hym
      clear hym HMY0
      generalize (x.step ev).lat = yl at *
      generalize x.did ev = d at *
      generalize x.mode = xm at *
      generalize hdx : dryB x.lat = dx at *
      have HDX := Lib.hid hdx
      clear hdx
      generalize hdyy : dryB yl = dy at *
      have HDY := Lib.hid hdyy
      clear hdyy
      generalize x.lat = xl at *
      generalize hbx : bkB xm = bx at *
      have HBX := Lib.hid hbx
      clear hbx
      obtain ⟨bY, hby⟩ : ∃ b, bkB ym = b := ⟨_, rfl⟩
      have HBY := Lib.hid hby
      clear hby
      go_wp2_with fail
      refine HMO.out.mono ?_
      rintro e w2 ⟨rfl, hw2⟩
      subst hw2
      go_wp2_with fail
      refine HLA.out.mono ?_
      rintro e w3 ⟨rfl, hw3⟩
      subst hw3
      go_wp2_with fail
      refine HST.out.mono ?_
      rintro e w4 ⟨rfl, ho4⟩
      have HO := Lib.hid ho4
      clear ho4 HST HMO HLA hcell
      go_wp2_with fail
      refine (HYM.out _ HO.out).mono ?_
      rintro e w5 ⟨rfl, hw5⟩
      subst hw5
      go_upto_region 12 with fail
      go_cut [47] from 13 to 93 (Cut false w5)
      case first =>
        have HFX := Lib.hid (fly_any w5 xm hx0 (by omega))
        cases hA : flyB xm with
        | false =>
          rw [hA] at HFX
          clear hA
          go_wp2_with fail
          refine HFX.out.mono ?_
          rintro e w6 ⟨rfl, hw6⟩
          subst hw6
          go_wp2_with fail
          go_meet
          case rel => exact ⟨rfl, rfl⟩
        | true =>
          rw [hA] at HFX
          have HFY := Lib.hid (fly_any w5 ym hy0 (by omega))
          cases hC : flyB ym with
          | true =>
            rw [hC] at HFY
            clear hA hC
            go_wp2_with fail
            refine HFX.out.mono ?_
            rintro e w6 ⟨rfl, hw6⟩
            subst hw6
            go_wp2_with fail
            refine HFY.out.mono ?_
            rintro e w7 ⟨rfl, hw7⟩
            subst hw7
            go_wp2_with fail
            go_meet
            case rel => exact ⟨rfl, rfl⟩
          | false =>
            rw [hC] at HFY
            obtain ⟨hq1, hq2⟩ := HLD.out.p1 hA hC
            have e14 : (ym != 14) = false := by rw [hq1]; rfl
            have e3 : (d != 3) = false := by rw [hq2]; rfl
            clear hA hC hq1 hq2
            go_wp2_with fail
            refine HFX.out.mono ?_
            rintro e w6 ⟨rfl, hw6⟩
            subst hw6
            go_wp2_with fail
            refine HFY.out.mono ?_
            rintro e w7 ⟨rfl, hw7⟩
            subst hw7
            go_wp2_with fail
            go_meet
            case rel => exact ⟨rfl, rfl⟩
      case rest =>
        obtain ⟨rfl, rfl⟩ := hcut
        go_upto_region 14 with fail
        go_cut [60] from 13 to 93 (Cut false wc)
        case first =>
          have HB2 : Hid (bx = true → ym = 12 ∨ ym = 13 ∨ ym = 14) := fun h => HLD.out.p2 (HBX.out.trans h)
          clear HBX
          cases bx with
          | false =>
            go_wp2_with fail
            go_meet
            case rel => exact ⟨rfl, rfl⟩
          | true =>
            have h3 := HB2.out rfl
            rcases h3 with h3 | h3 | h3
            · have e12 : (ym != 12) = false := by rw [h3]; rfl
              clear h3
              go_wp2_with fail
              go_meet
              case rel => exact ⟨rfl, rfl⟩
            · have e12 : (ym != 12) = true := by rw [h3]; rfl
              have e13 : (ym != 13) = false := by rw [h3]; rfl
              clear h3
              go_wp2_with fail
              go_meet
              case rel => exact ⟨rfl, rfl⟩
            · have e12 : (ym != 12) = true := by rw [h3]; rfl
              have e13 : (ym != 13) = true := by rw [h3]; rfl
              have e14 : (ym != 14) = false := by rw [h3]; rfl
              clear h3
              go_wp2_with fail
              go_meet
              case rel => exact ⟨rfl, rfl⟩
        case rest =>
          obtain ⟨rfl, rfl⟩ := hcut
          go_upto_region 16 with fail
          go_cut [75] from 13 to 93 (Cut false wc)
          case first =>
            cases dx with
            | false =>
              go_wp2_with fail
              go_meet
              case rel => exact ⟨rfl, rfl⟩
            | true =>
              cases dy with
              | true =>
                go_wp2_with fail
                refine (HYL.out _ HO.out).mono ?_
                rintro e w6 ⟨rfl, hw6⟩
                subst hw6
                go_wp2_with fail
                go_meet
                case rel => exact ⟨rfl, rfl⟩
              | false =>
                rcases HLD.out.p3 HDX.out HDY.out with h3 | h3
                · have e1 : (ym != 1) = true := by rw [h3]; rfl
                  have e0 : (ym != 0) = false := by rw [h3]; rfl
                  clear h3
                  go_wp2_with fail
                  refine (HYL.out _ HO.out).mono ?_
                  rintro e w6 ⟨rfl, hw6⟩
                  subst hw6
                  go_wp2_with fail
                  go_meet
                  case rel => exact ⟨rfl, rfl⟩
                · have e1 : (ym != 1) = false := by rw [h3]; rfl
                  clear h3
                  go_wp2_with fail
                  refine (HYL.out _ HO.out).mono ?_
                  rintro e w6 ⟨rfl, hw6⟩
                  subst hw6
                  go_wp2_with fail
                  go_meet
                  case rel => exact ⟨rfl, rfl⟩
          case rest =>
            obtain ⟨rfl, rfl⟩ := hcut
            go_upto_region 18 with fail
            go_cut [4] from 13 to 93 (Cut bY wc)
            case first =>
              cases h12 : (ym == 12) with
              | true =>
                have HV : Hid (bkB ym = true) := by unfold Hid bkB; rw [h12]; rfl
                go_wp2_with fail
                go_meet
                case rel => exact ⟨by rw [← HBY.out, HV.out], rfl⟩
              | false =>
                have HV : Hid (bkB ym = (ym == 13)) := by unfold Hid bkB; rw [h12]; rfl
                go_wp2_with fail
                go_meet
                case rel => exact ⟨by rw [← HBY.out, HV.out], rfl⟩
            case rest =>
              obtain ⟨rfl, rfl⟩ := hcut
              go_upto_region 19 with fail
              go_cut [93] from 13 to 93 (Cut false wc)
              case first =>
                cases dy with
                | false =>
                  go_wp2_with fail
                  refine (HYL.out _ HO.out).mono ?_
                  rintro e w6 ⟨rfl, hw6⟩
                  subst hw6
                  go_wp2_with fail
                  go_meet
                  case rel => exact ⟨rfl, rfl⟩
                | true =>
                  have HB4 : Hid (bY = true ∨ ym = 14) := by
                    have := HLD.out.p4 HDY.out
                    rw [HBY.out] at this
                    exact this
                  clear HBY
                  cases bY with
                  | true =>
                    go_wp2_with fail
                    refine (HYL.out _ HO.out).mono ?_
                    rintro e w6 ⟨rfl, hw6⟩
                    subst hw6
                    go_wp2_with fail
                    go_meet
                    case rel => exact ⟨rfl, rfl⟩
                  | false =>
                    have h14 : ym = 14 := HB4.out.resolve_left (by decide)
                    have e14 : (ym != 14) = false := by rw [h14]; rfl
                    clear h14
                    go_wp2_with fail
                    refine (HYL.out _ HO.out).mono ?_
                    rintro e w6 ⟨rfl, hw6⟩
                    subst hw6
                    go_wp2_with fail
                    go_meet
                    case rel => exact ⟨rfl, rfl⟩
              case rest =>
                obtain ⟨rfl, rfl⟩ := hcut
                go_wp2_with fail
                go_roundg (xs.length - (k + 1))
                case measure => have := HG.out; omega
                case rel => exact ⟨k + 1, x.step ev, by omega, rfl, by go_num, by rw [HMY.out, HBY.out], HO, HLI⟩
    · go_wp2_with fail
      refine (awake_any wr).mono ?_
      rintro e w2 ⟨rfl, hb2⟩
      have HF : Hid (AwakePost w (.returned (.bool true)) w2) := ⟨rfl, below_next HX.out.below hb2⟩
      clear hb2
      go_wp2_with fail
      go_ret
      exact HF.out
set_option maxRecDepth 100000 in
set_option maxHeartbeats 1000000 in
theorem land_none (w : World) (A : Option Addr) (cap : Nat) : Calls Try.prog 4 #[.slice A 0 cap] w (AwakePost w) := by
  go_enter Try.func4, Try.ntmps4
  go_wp2_with fail
  refine (new_any w).mono ?_
  rintro e w1 ⟨rfl, hm1, hb1⟩
  have HB1 := Lib.hid hb1
  clear hm1 hb1
  obtain ⟨bl, hbl⟩ : ∃ bl, w.heap.size = bl := ⟨_, rfl⟩
  have HBL := Lib.hid hbl
  rw [hbl]
  clear hbl
  go_wp2_with fail
  go_loopg [4, 5] 0 (fun gh v4 i wr => gh = 0 ∧ i = .int .i64 0 ∧ v4 = .bool false ∧ Hid (Below w.heap.size w wr))
  case atStart => exact ⟨rfl, rfl, rfl, HB1⟩
  case round =>
    obtain ⟨hgk, rfl, rfl, HX⟩ := hrel
    clear hgk HB1
    go_wp2_with fail
    refine (awake_any wr).mono ?_
    rintro e w2 ⟨rfl, hb2⟩
    have HF : Hid (AwakePost w (.returned (.bool true)) w2) := ⟨rfl, below_next HX.out hb2⟩
    clear hb2
    go_wp2_with fail
    go_ret
    exact HF.out
theorem land_walk (w : World) (v : Value) (xs : List Int) (h : Ints w v xs) : Calls Try.prog 4 #[v] w (AwakePost w) := by
  obtain ⟨hl, A, cap, rfl, h | ⟨g, off, rfl, hg, hc⟩⟩ := h
  · subst h
    exact land_none w A cap
  · exact land_some w xs g off cap hl hg hc
end Go.Proofs.Ytgbogbmjefbkeaa
