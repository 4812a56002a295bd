/- What a machine's Step answers and does, in whatever world: the walk. Conditions: the machine lies in memory. -/
import Derived.Test.YtgbogbmjefbkeaaStep
namespace Go.Proofs.Ytgbogbmjefbkeaa
open Go.RowKit
def DidV (v : Value) (o : Option Nat) : Prop := v = .int .i64 (didI o)
set_option maxRecDepth 100000 in
set_option maxHeartbeats 8000000 in
theorem step_any (w : World) (b : Nat) (x : Md) (ev : Int) (h : Mach w b x) : Calls Try.prog 9 #[.pointer (some ⟨b, 0, none⟩), .int .i64 ev] w (StepPost w b x ev) := by
  have hbl := h.lt
  have H0 : Hid (Push w (w.alloc (.cells #[.slice none 0 0] 44)) b w.heap.size x ev 0) :=
    ⟨⟨[], ⟨.slice none 0 0, heap_alloc_new w _, World.ownsRow_nil _ _ _ _⟩, fun k h0 hk => by simp at hk, List.Perm.refl _⟩, h.keep (below_alloc1 w _), Wrote.of_below (below_alloc1 w _) _, hbl, Nat.le_refl _⟩
  have HM0 : Hid (0 ≤ x.mode ∧ x.mode ≤ 14) := ⟨h.m0, h.m1⟩
  have m1 := method_len ⟨w.heap.size, 0, none⟩
  clear h
  go_enter Try.func9, Try.ntmps9
  go_wp2_with fail
  generalize hqb : w.heap.size = qb at *
  clear hqb
  go_loopg [6] 18 (fun g v wr => ∃ c : Nat, c ≤ 18 ∧ g = c ∧ v = .int .i64 ((c : Int) - 1) ∧ Hid (Push w wr b qb x ev (18 - c)))
  case atStart => exact ⟨18, Nat.le_refl _, rfl, rfl, H0⟩
  case round =>
    obtain ⟨c, hc, hg, rfl, HP⟩ := hrel
    have HG := Lib.hid hg
    clear hg H0
    by_cases hz : c = 0
    · subst hz
      have HQ : Hid (Popping w wr b qb x ev (ascF ev 0 18)) := HP.out.pop
      clear HP HG hc
      have hta : ∀ (i : Int) (u : World), (Instr.typeAssert (.iface 3 (.int .i64 i)) 20 3 true).run Try.prog u = .ok (.tuple #[.int .i64 i, .bool true]) u := fun i _ => by kernel_rfl
      go_wp2_with fail
      go_loopg [7] ((ascF ev 0 18).length + 1) (fun g v wr => ∃ rest : List Nat, (v = .int .i64 (-1) ∧ g = rest.length + 1 ∧ Hid (Popping w wr b qb x ev rest)) ∨ (∃ e : Nat, v = .int .i64 (e : Int) ∧ g = 0 ∧ Hid (Led w wr b qb x ev e)))
      case atStart => exact ⟨_, .inl ⟨rfl, rfl, HQ⟩⟩
      case round =>
        obtain ⟨rest, h⟩ := hrel
        clear HQ
        have hmm := HM0.out
        rcases h with ⟨rfl, hg, HP⟩ | ⟨e, rfl, hg, HL⟩
        · obtain ⟨ms, hq, hhp, hpm⟩ := HP.out.qu
          have HQ := Lib.hid hq
          have HHP := Lib.hid hhp
          have HPM := Lib.hid hpm
          have HG := Lib.hid hg
          clear hq hhp hpm hg
          cases rest with
          | nil =>
            have hms : Hid (ms.length = 0) := by have := HPM.out.length_eq; simpa [toI, Hid] using this
            have HE : Hid (Ends w wr b x ev none) := ⟨HP.out.first.symm, HP.out.mach, HP.out.wrote⟩
            have k0 : wr.cell? ⟨b, 0, none⟩ = some (.int .u8 x.mode) := cell_at HE.out.mach.blk 0
            have k1 : wr.cell? ⟨b, 1, none⟩ = some (.int .i64 (x.latched ev : Int)) := cell_at HE.out.mach.blk 1
            have f1 : wr.frozen? ⟨b, 1, none⟩ = false := free_at HE.out.mach.blk 1
            clear HP HHP HPM
            by_cases hlow : x.mode ≤ 1
            · have HF := Lib.hid (HE.out.clear hlow)
              clear HE
              go_wp2_with fail
              refine (len_get HQ.out hms.out).mono ?_
              rintro e2 w2 ⟨rfl, hw2⟩
              subst hw2
              go_wp2_with fail
              go_ret
              exact HF.out
            · have HF := Lib.hid (HE.out.keep hlow)
              clear HE
              go_wp2_with fail
              refine (len_get HQ.out hms.out).mono ?_
              rintro e2 w2 ⟨rfl, hw2⟩
              subst hw2
              go_wp2_with fail
              go_ret
              exact HF.out
          | cons e rest =>
            have hhead := heap_head HPM.out HP.out.asc HHP.out
            have hfew := HP.out.few
            have hlen : Hid (ms.length = rest.length + 1 ∧ ms.length ≤ 64) := by
              have := HPM.out.length_eq
              simp only [toI, List.length_map, List.length_cons] at this hfew
              exact ⟨this, by omega⟩
            have k0 : wr.cell? ⟨b, 0, none⟩ = some (.int .u8 x.mode) := cell_at HP.out.mach.blk 0
            have HPOP := Lib.hid (hpop_any wr qb ms HQ.out hhead.2 hlen.out.2 HHP.out)
            unfold HpopPost at HPOP
            rw [hhead.1] at HPOP
            have HNX := nextF_in x.mode (e : Int) hmm.1 (by omega)
            clear hhead hfew
            go_wp2_with fail
            refine (len_get HQ.out hlen.out.1).mono ?_
            rintro e2 w2 ⟨rfl, hw2⟩
            subst hw2
            go_wp2_with fail
            refine HPOP.out.mono ?_
            rintro e3 w3 ⟨rfl, l, hq3, hp3, hf3, hb3⟩
            have HQ3 := Lib.hid hq3
            have HF3 := Lib.hid hf3
            have HB3 := Lib.hid hb3
            have HP3 : Hid (l.Perm (toI rest)) := List.Perm.cons_inv (hp3.trans HPM.out)
            have k3 : w3.cell? ⟨b, 0, none⟩ = some (.int .u8 x.mode) := (hb3.cell (p := ⟨b, 0, none⟩) HP.out.lt).trans k0
            clear hq3 hp3 hf3 hb3 HPOP k0
            go_wp2_with fail
            refine (next_any w3 x.mode (e : Int) hmm.1 (by omega)).mono ?_
            rintro e4 w4 ⟨rfl, hb4⟩
            have HB4 : Hid (Below qb w2 w4) := HB3.out.trans (hb4.mono (Nat.le_of_lt HQ3.out.lt))
            have HQ4 := Lib.hid (HQ3.out.keep hb4)
            have k4 : w4.cell? ⟨b, 0, none⟩ = some (.int .u8 x.mode) := by
              rw [hb4.cell (p := ⟨b, 0, none⟩) (Nat.lt_trans HP.out.lt HQ3.out.lt)]
              exact k3
            have f4 : w4.frozen? ⟨b, 0, none⟩ = false := free_at ((HB4.out.block b HP.out.lt).trans HP.out.mach.blk) 0
            clear hb4 k3 HQ3 HB3
            cases hne : (nextF x.mode (e : Int) != x.mode) with
            | false =>
              have HN2 := Lib.hid (HP.out.next HQ4.out HP3.out HF3.out HB4.out hne)
              have hne2 := hne
              clear HP
              generalize nextF x.mode (e : Int) = nm at *
              go_wp2_with fail
              go_roundg (rest.length + 1)
              case measure => have := HG.out; simp at this; omega
              case rel => exact ⟨rest, .inl ⟨rfl, rfl, HN2⟩⟩
            | true =>
              have HN2 := Lib.hid (HP.out.led HQ4.out HB4.out hne)
              have hne2 := hne
              clear HP
              generalize nextF x.mode (e : Int) = nm at *
              go_wp2_with fail
              go_roundg 0
              case measure => have := HG.out; simp at this; omega
              case rel => exact ⟨[], .inr ⟨e, rfl, rfl, HN2⟩⟩
        · obtain ⟨ms, hq⟩ := HL.out.qu
          have HQ := Lib.hid hq
          clear hq hg
          have HE : Hid (Ends w wr b x ev (some e)) := ⟨HL.out.first, HL.out.mach, HL.out.wrote⟩
          have HNX := nextF_in x.mode (e : Int) hmm.1 (by omega)
          have k0 : wr.cell? ⟨b, 0, none⟩ = some (.int .u8 (nextF x.mode (e : Int))) := cell_at HE.out.mach.blk 0
          have k1 : wr.cell? ⟨b, 1, none⟩ = some (.int .i64 (x.latched ev : Int)) := cell_at HE.out.mach.blk 1
          have f1 : wr.frozen? ⟨b, 1, none⟩ = false := free_at HE.out.mach.blk 1
          have e0 : ¬ (e : Int) < 0 := by omega
          clear HL
          generalize hn : ms.length = n at *
          have HNN := Lib.hid hn
          clear hn
          by_cases hlow : x.goes (some e) ≤ 1
          · have HF := Lib.hid (HE.out.clear hlow)
            have hlow2 : nextF x.mode (e : Int) ≤ 1 := hlow
            clear HE hlow
            generalize nextF x.mode (e : Int) = nm at *
            by_cases hpos : 0 < n
            · go_wp2_with fail
              refine (len_get HQ.out HNN.out).mono ?_
              rintro e2 w2 ⟨rfl, hw2⟩
              subst hw2
              go_wp2_with fail
              go_ret
              exact HF.out
            · go_wp2_with fail
              refine (len_get HQ.out HNN.out).mono ?_
              rintro e2 w2 ⟨rfl, hw2⟩
              subst hw2
              go_wp2_with fail
              go_ret
              exact HF.out
          · have HF := Lib.hid (HE.out.keep hlow)
            have hlow2 : ¬ nextF x.mode (e : Int) ≤ 1 := hlow
            clear HE hlow
            generalize nextF x.mode (e : Int) = nm at *
            by_cases hpos : 0 < n
            · go_wp2_with fail
              refine (len_get HQ.out HNN.out).mono ?_
              rintro e2 w2 ⟨rfl, hw2⟩
              subst hw2
              go_wp2_with fail
              go_ret
              exact HF.out
            · go_wp2_with fail
              refine (len_get HQ.out HNN.out).mono ?_
              rintro e2 w2 ⟨rfl, hw2⟩
              subst hw2
              go_wp2_with fail
              go_ret
              exact HF.out
    · obtain ⟨e, rfl⟩ : ∃ e, c = e + 1 := ⟨c - 1, by omega⟩
      have he : e < 18 := by omega
      have HK : Hid (18 - (e + 1) = 17 - e ∧ 17 - (17 - e) = e ∧ 17 - e + 1 = 18 - e) := ⟨by omega, by omega, by omega⟩
      rw [HK.out.1] at HP
      have HN := Lib.hid (hasB_not ev e)
      have hmm := HM0.out
      cases hh : hasB ev e with
      | false =>
        have hb0 : (bits .and .i64 (ev / 2 ^ e) 1 == 0) = true := by rw [HN.out, hh]; rfl
        have HP2 : Hid (Push w wr b qb x ev (18 - e)) := by
          have := HP.out.same (by rw [HK.out.2.1]; exact hh)
          rw [HK.out.2.2] at this
          exact this
        clear hh HP HN
        have hec : (e : Int) ≤ 17 := by omega
        go_wp2_with fail
        go_roundg e
        case measure => have := HG.out; omega
        case rel => exact ⟨e, by omega, rfl, by go_num, HP2⟩
      | true =>
        have hb0 : (bits .and .i64 (ev / 2 ^ e) 1 == 0) = false := by rw [HN.out, hh]; rfl
        have HH := Lib.hid hh
        obtain ⟨ms, hq, hhp, hpm⟩ := HP.out.qu
        have HQ := Lib.hid hq
        have HHP := Lib.hid hhp
        have HPM := Lib.hid hpm
        have HL : Hid (ms.length < 64) := by
          have h1 := hpm.length_eq
          have h2 := coll_len ev (17 - e)
          unfold Hid
          omega
        clear hh hq hhp hpm HN
        have hec : (e : Int) ≤ 17 := by omega
        go_wp2_with fail
        refine (hpush_any wr qb ms (e : Int) HQ.out HL.out HHP.out).mono ?_
        rintro e1 w1 ⟨rfl, l, hq1, hl1, hf1, hb1⟩
        have HP1 : Hid (Pushed w w1 b qb x ev (17 - e)) := HP.out.push (by rw [HK.out.2.1]; exact HH.out) HPM.out hq1 (by rw [HK.out.2.1]; exact hl1) hf1 hb1
        clear hq1 hl1 hf1 hb1 HP HQ HHP HPM HL
        have k0 : w1.cell? ⟨b, 0, none⟩ = some (.int .u8 x.mode) := cell_at HP1.out.mach.blk 0
        have k1 : w1.cell? ⟨b, 1, none⟩ = some (.int .i64 (latD x.lat (flyB x.mode) ev (17 - e) : Int)) := cell_at HP1.out.mach.blk 1
        have f1 : w1.frozen? ⟨b, 1, none⟩ = false := free_at HP1.out.mach.blk 1
        have HST := Lib.hid (stays_any w1 e he)
        cases hs : staysB e with
        | false =>
          rw [hs] at HST
          have HP2 : Hid (Push w w1 b qb x ev (18 - e)) := by
            have := HP1.out.same (by rw [HK.out.2.1, hs]; rfl)
            rw [HK.out.2.2] at this
            exact this
          clear hs HP1 k0 k1 f1
          go_wp2_with fail
          refine HST.out.mono ?_
          rintro e2 w2 ⟨rfl, hw2⟩
          subst hw2
          go_wp2_with fail
          go_roundg e
          case measure => have := HG.out; omega
          case rel => exact ⟨e, by omega, rfl, by go_num, HP2⟩
        | true =>
          rw [hs] at HST
          have HS := Lib.hid hs
          clear hs
          have HFL := Lib.hid (fly_any w1 x.mode hmm.1 (by omega))
          cases hf : flyB x.mode with
          | false =>
            rw [hf] at HFL
            have HP2 : Hid (Push w w1 b qb x ev (18 - e)) := by
              have := HP1.out.same (by rw [HK.out.2.1, HS.out, hf]; rfl)
              rw [HK.out.2.2] at this
              exact this
            clear hf HP1 k1 f1
            go_wp2_with fail
            refine HST.out.mono ?_
            rintro e2 w2 ⟨rfl, hw2⟩
            subst hw2
            go_wp2_with fail
            refine HFL.out.mono ?_
            rintro e3 w3 ⟨rfl, hw3⟩
            subst hw3
            go_wp2_with fail
            go_roundg e
            case measure => have := HG.out; omega
            case rel => exact ⟨e, by omega, rfl, by go_num, HP2⟩
          | true =>
            rw [hf] at HFL
            have HP2 : Hid (∀ n l2, l2 = orL (latD x.lat (flyB x.mode) ev (17 - e)) e → Push w ((w1.setCell ⟨b, 1, none⟩ (.int .i64 (l2 : Int))).drewN n) b qb x ev (18 - e)) := by
              rintro n l2 rfl
              have := HP1.out.latch (by rw [HK.out.2.1]; exact HH.out) (by rw [HK.out.2.1]; exact HS.out) hf n
              rw [HK.out.2.2, HK.out.2.1] at this
              exact this
            have hpw := pow_wrap (e := e) (by have := stays_cases HS.out; omega)
            have hor := or_at HP1.out.mach.l64 HS.out
            have HOR := Lib.hid (rfl : orL (latD x.lat (flyB x.mode) ev (17 - e)) e = orL (latD x.lat (flyB x.mode) ev (17 - e)) e)
            simp only at hor
            clear hf HP1
            generalize hl2 : orL (latD x.lat (flyB x.mode) ev (17 - e)) e = l2 at hor
            have HPX := HP2.out 1 l2 hl2.symm
            have HPY := Lib.hid HPX
            clear HP2 HPX hl2 HOR
            generalize latD x.lat (flyB x.mode) ev (17 - e) = l1 at *
            go_wp2_with fail
            refine HST.out.mono ?_
            rintro e2 w2 ⟨rfl, hw2⟩
            subst hw2
            go_wp2_with fail
            refine HFL.out.mono ?_
            rintro e3 w3 ⟨rfl, hw3⟩
            subst hw3
            go_wp2_with fail
            go_region
            go_wp2_with fail
            go_roundg e
            case measure => have := HG.out; omega
            case rel => exact ⟨e, by omega, rfl, by go_num, HPY⟩
end Go.Proofs.Ytgbogbmjefbkeaa
