/- The walk of ExecCounts: true, in whatever world. Conditions: the jobs can be read; their numbers are of their kind. -/
import Derived.Test.YtmkbkjnpgdpffaaAwake
import Derived.Test.YtmkbkjnpgdpffaaPlan2
import Derived.Test.YtmkbkjnpgdpffaaCounts0
import Derived.Laws.MakeOwn
import Derived.Deep.DeepCutAuto
namespace Go.Proofs.Ytmkbkjnpgdpffaa
open Go.RowKit

/-- How often and when last, in memory. -/
structure CS (wr : World) (C D : Nat) (js : List Jb) (t i : Nat) : Prop where
  c : ∃ cs, wr.heap[C]? = some (.cells cs 3 (0, 0)) ∧ ∀ k, k < js.length → cs[k]? = some (.int .i64 (cvi js t i k))
  d : ∃ ds, wr.heap[D]? = some (.cells ds 3 (0, 0)) ∧ ∀ k, k < js.length → ∃ x : Int, ds[k]? = some (.int .i64 x) ∧ (0 < cvi js t i k → x = ph js k + (cvi js t i k - 1) * pr js k)
theorem CS.keep {wr w1 : World} {C D : Nat} {js : List Jb} {t i : Nat} (h : CS wr C D js t i) (h1 : w1.heap[C]? = wr.heap[C]?) (h2 : w1.heap[D]? = wr.heap[D]?) : CS w1 C D js t i := by
  obtain ⟨cs, a, b⟩ := h.c
  obtain ⟨ds, c, d⟩ := h.d
  exact ⟨⟨cs, h1.trans a, b⟩, ⟨ds, h2.trans c, d⟩⟩
theorem CS.next {wr : World} {C D : Nat} {js : List Jb} {t : Nat} (h : CS wr C D js t (due js t).length) : CS wr C D js (t + 1) 0 := by
  obtain ⟨cs, a, b⟩ := h.c
  obtain ⟨ds, c, d⟩ := h.d
  refine ⟨⟨cs, a, fun k hk => ?_⟩, ⟨ds, c, fun k hk => ?_⟩⟩
  · rw [b k hk, cvi_end js t k hk, cvi_zero]
  · obtain ⟨x, hx, hl⟩ := d k hk
    refine ⟨x, hx, fun h0 => ?_⟩
    rw [cvi_zero] at h0 ⊢
    rw [cvi_end js t k hk] at hl
    exact hl h0
theorem CS.step {wr : World} {C D : Nat} {js : List Jb} {t i k : Nat} (hg : Good js) (h : CS wr C D js t i) (hCD : C ≠ D) (hi : i < (due js t).length) (hk : (due js t).getD i 0 = k) :
    CS ((wr.setCell ⟨C, k, none⟩ (.int .i64 (cnt js t k + 1))).setCell ⟨D, k, none⟩ (.int .i64 (t : Int))) C D js t (i + 1) := by
  obtain ⟨cs, a, b⟩ := h.c
  obtain ⟨ds, c, d⟩ := h.d
  have hmem : k ∈ due js t := by rw [← hk, List.getD_eq_getElem?_getD, List.getElem?_eq_getElem hi]; exact List.getElem_mem hi
  obtain ⟨hkn, hb⟩ := (due_mem js t k).1 hmem
  obtain ⟨e1, e2⟩ := cvi_here js t i k hi hk
  have hdue := cnt_due js hg k t hkn hb
  refine ⟨⟨cs.setIfInBounds k (.int .i64 (cnt js t k + 1)), ?_, fun j hj => ?_⟩, ⟨ds.setIfInBounds k (.int .i64 (t : Int)), ?_, fun j hj => ?_⟩⟩
  · rw [heap_setCell_ne hCD]; exact heap_setCell_at a _ _
  · rw [Array.getElem?_setIfInBounds]
    by_cases e : k = j
    · subst e
      have := (Array.getElem?_eq_some_iff.1 (b k hj)).1
      rw [if_pos rfl, if_pos this, e2]
    · rw [if_neg e, b j hj, cvi_other js t i k j hi hk (Ne.symm e)]
  · have h1 : (wr.setCell ⟨C, k, none⟩ (.int .i64 (cnt js t k + 1))).heap[D]? = some (.cells ds 3 (0, 0)) := by rw [heap_setCell_ne (Ne.symm hCD)]; exact c
    exact heap_setCell_at h1 _ _
  · rw [Array.getElem?_setIfInBounds]
    by_cases e : k = j
    · subst e
      obtain ⟨x, hx, _⟩ := d k hj
      have := (Array.getElem?_eq_some_iff.1 hx).1
      rw [if_pos rfl, if_pos this]
      refine ⟨(t : Int), rfl, fun _ => ?_⟩
      rw [e2, Int.add_sub_cancel]
      exact hdue
    · rw [if_neg e, cvi_other js t i k j hi hk (Ne.symm e)]
      exact d j hj
theorem due_short (js : List Jb) (t : Int) : (due js t).length ≤ js.length := by
  have h := (dueTo_ok js t js.length).2.length_eq
  have h2 := List.length_filter_le (isB js t) (List.range js.length)
  rw [List.length_range] at h2
  unfold due
  omega
theorem made_get (v : Value) (n k : Nat) (h : k < n) : (madeCells #[v] n)[k]? = some v := by
  unfold madeCells
  rw [Array.getElem?_map, Array.getElem?_range]
  rw [if_pos h]
  simp [Nat.mod_one]
theorem cs_start {wr : World} {js : List Jb} {n : Nat} (hn : js.length = n) {C D : Nat} (h1 : wr.heap[C]? = some (.cells (madeCells #[.int .i64 0] n) 3 (0, 0))) (h2 : wr.heap[D]? = some (.cells (madeCells #[.int .i64 0] n) 3 (0, 0))) : CS wr C D js 0 0 := by
  refine ⟨⟨_, h1, fun k hk => ?_⟩, ⟨_, h2, fun k hk => ⟨0, made_get _ _ _ (by omega), fun h => ?_⟩⟩⟩
  · rw [made_get _ _ _ (by omega), cvi_zero]
    rfl
  · rw [cvi_zero] at h
    exact absurd h (Int.lt_irrefl 0)
set_option maxRecDepth 100000 in
set_option maxHeartbeats 4000000 in
theorem execCounts_walk (w : World) (A : Option Addr) (cap : Nat) (js : List Jb) (ticks : Int) (h : JR w (.slice A js.length cap) js) (hhi : ∀ j ∈ js, j.period ≤ top) :
    Calls Try.prog 4 #[.slice A js.length cap, .int .i64 ticks] w fun e w' => e = .returned (.bool true) ∧ Below w.heap.size w w' := by
  have HJR := Lib.hid h
  clear h
  have HHI := Lib.hid hhi
  clear hhi
  obtain ⟨i0, hi, hz0, hz1, hz2⟩ := info_parts info3
  go_enter Try.func4, Try.ntmps4
  go_wp2_with fail
  refine (plan_any _ _ js HJR.out).mono ?_
  rintro e w1 ⟨pv, c, rfl, ⟨hc, hmade⟩, hb1⟩
  have HB1 := Lib.hid hb1
  have HC := Lib.hid hc
  clear hb1 hc
  rcases hmade with ⟨h1, rfl⟩ | ⟨h1, b, jb, mb, rfl, hl, k1, k2, k3⟩
  · clear h1
    go_wp2_with fail
    refine (awake_any _).mono ?_
    rintro e w2 ⟨rfl, hb2⟩
    have HB2 := Lib.hid (below_next HB1.out hb2)
    clear hb2
    go_wp2_with fail
    go_ret
    exact ⟨rfl, HB2.out⟩
  · subst h1
    have HS : Hid (Sound js) := by
      rcases HC.out with ⟨_, h⟩ | ⟨h1, h2, _⟩ | ⟨_, _, h⟩
      · omega
      · exact ⟨h2, h1, HHI.out⟩
      · omega
    have HL := Lib.hid hl
    have hfew := HS.out.few
    clear hl HC
    have hmk := fun w => run_make (P := Try.prog) w 28 3 i0 (.int .i64 0) Try.underlying28 hi hz0 .i64 .i64 (js.length : Int) (js.length : Int) (by omega) (by omega) (by rw [hz2]; omega) (by omega)
    simp only [Int.toNat_natCast, hz1, Nat.mul_one] at hmk
    generalize hnn : js.length = n at *
    have HN := Lib.hid hnn
    clear hnn
    obtain ⟨T, hT1, hT2, hT3, hT4⟩ : ∃ T : Nat, T ≤ 4096 ∧ (ticks ≤ 0 → T = 0) ∧ (0 < ticks → ticks ≤ 4096 → (T : Int) = ticks) ∧ (4096 < ticks → T = 4096) := ⟨(min ticks 4096).toNat, by omega, by omega, by omega, by omega⟩
    have K2 := Lib.hid hT2
    have K3 := Lib.hid hT3
    have K4 := Lib.hid hT4
    clear hT2 hT3 hT4
    go_upto_region 8 with fail
    go_cut [9] (fun s wx => s = .int .i64 (T : Int) ∧ wx = (w1.alloc (.cells (madeCells #[.int .i64 0] n) 3)).alloc (.cells (madeCells #[.int .i64 0] n) 3))
    case first =>
      by_cases q1 : ticks ≤ 0
      · have E := Lib.hid (K2.out q1)
        go_wp2_with fail
        all_goals
          go_meet
          case rel => exact ⟨by congr 1; have := E.out; omega, rfl⟩
      · by_cases q2 : ticks ≤ 4096
        · have E := Lib.hid (K3.out (by omega) q2)
          go_wp2_with fail
          all_goals
            go_meet
            case rel => exact ⟨by congr 1; have := E.out; omega, rfl⟩
        · have E := Lib.hid (K4.out (by omega))
          go_wp2_with fail
          all_goals
            go_meet
            case rel => exact ⟨by congr 1; have := E.out; omega, rfl⟩
    case rest =>
      obtain ⟨rfl, hwc⟩ := hcut
      subst hwc
      clear K2 K3 K4 hmk
      have hlb : b < w1.heap.size := HL.out.lt
      obtain ⟨hljb, hlmb⟩ : jb < w1.heap.size ∧ mb < w1.heap.size := by obtain ⟨_, _, _, _, h1, h2⟩ := HL.out; exact ⟨h1, h2⟩
      have hsz1 := HB1.out.size
      have HT : Hid (Live ((w1.alloc (.cells (madeCells #[.int .i64 0] n) 3)).alloc (.cells (madeCells #[.int .i64 0] n) 3)) b jb mb js 0 ∧ Below w.heap.size w ((w1.alloc (.cells (madeCells #[.int .i64 0] n) 3)).alloc (.cells (madeCells #[.int .i64 0] n) 3)) ∧ CS ((w1.alloc (.cells (madeCells #[.int .i64 0] n) 3)).alloc (.cells (madeCells #[.int .i64 0] n) 3)) w1.heap.size (w1.heap.size + 1) js 0 0) := by
        refine ⟨(HL.out.below (below_alloc1 w1 _)).below (below_alloc1 _ _), below_next (below_next HB1.out (below_alloc1 w1 _)) (below_alloc1 _ _), cs_start HN.out ?_ (two_new w1 _ _)⟩
        rw [Below.heap_alloc _ _ _ (by rw [alloc_size]; omega)]
        exact heap_alloc_new w1 _
      clear HL HB1
      go_wp2_with fail
      go_loopg [10] T (fun g i wr => ∃ t : Nat, t ≤ T ∧ g = T - t ∧ i = .int .i64 t ∧ Live wr b jb mb js t ∧ Below w.heap.size w wr ∧ CS wr w1.heap.size (w1.heap.size + 1) js t 0)
      case atStart => exact ⟨0, by omega, rfl, rfl, HT.out⟩
      case round =>
        obtain ⟨t, ht, hg, rfl, hl, hb, hcs⟩ := hrel
        have HG := Lib.hid hg
        have HL := Lib.hid hl
        have HB := Lib.hid hb
        have HCS := Lib.hid hcs
        clear hg hl hb hcs HT
        by_cases hlt : t < T
        · go_wp2_with fail
          refine (due_live wr b jb mb js t HL.out HS.out (by omega)).mono ?_
          intro e w3 hd
          obtain ⟨v3, rfl, hi3, hg3, hl3, hw3⟩ := due_ints hd
          obtain ⟨A3, cap3, rfl, hcap3, hx3⟩ := hi3
          have hcsz : w1.heap.size + 1 < wr.heap.size := by obtain ⟨_, h1, _⟩ := HCS.out.d; exact lt_of_at h1
          have hws := hw3.size
          have HX3 : Hid (due js t = [] ∨ ∃ g off, A3 = some ⟨g, off, none⟩ ∧ (g < w3.heap.size ∧ wr.heap.size ≤ g) ∧ ∀ i, i < (due js t).length → w3.cell? ⟨g, off + i, none⟩ = some (.int .i64 ((due js t).getD i 0 : Int))) := by
            rcases hx3 with h1 | ⟨g, off, ha, hg, hc⟩
            · exact .inl h1
            · exact .inr ⟨g, off, ha, ⟨hg, hg3 g (by rw [ha]; rfl)⟩, hc⟩
          have HL3 := Lib.hid hl3
          have HB3 : Hid (Below w.heap.size w w3) := below_wrote HB.out hw3 (fun c hc => by rcases hc with rfl | rfl <;> omega) HB.out.size
          have HC3 : Hid (CS w3 w1.heap.size (w1.heap.size + 1) js t 0) := HCS.out.keep (hw3.block _ (by omega) (by omega)) (hw3.block _ (by omega) (by omega))
          have hLl : (due js t).length ≤ 64 := Nat.le_trans (due_short js t) HS.out.few
          clear hd hx3 hg3 hl3 hw3 HL HB HCS
          go_wp2_with fail
          go_loopg [12] (due js t).length (fun g i wq => ∃ j : Nat, j ≤ (due js t).length ∧ g = (due js t).length - j ∧ i = .int .i64 j ∧ CS wq w1.heap.size (w1.heap.size + 1) js t j ∧ Wrote w3 wq (fun c => c = w1.heap.size ∨ c = w1.heap.size + 1))
          case atStart => exact ⟨0, Nat.zero_le _, rfl, rfl, HC3.out, Wrote.refl _ _⟩
          case round =>
            obtain ⟨wo, hwo⟩ : ∃ wo : World, wo = wr := ⟨_, rfl⟩
            subst hwo
            obtain ⟨j, hj, hgj, rfl, hcs, hwq⟩ := hrel
            have HGJ := Lib.hid hgj
            have HCS := Lib.hid hcs
            have HWQ := Lib.hid hwq
            clear hgj hcs hwq HC3
            by_cases hjl : j < (due js t).length
            · obtain ⟨g3, off3, rfl, ⟨hg3a, hg3b⟩, hc3⟩ := HX3.out.resolve_left (fun h => by rw [h] at hjl; simp at hjl)
              have hbo := below_wrote HB3.out HWQ.out (fun c hc => by rcases hc with rfl | rfl <;> omega) HB3.out.size
              have cj := (HWQ.out.cell hg3a (by omega) (off3 + j)).trans (hc3 j hjl)
              have hkm : (due js t).getD j 0 ∈ due js t := by rw [List.getD_eq_getElem?_getD, List.getElem?_eq_getElem hjl]; exact List.getElem_mem hjl
              obtain ⟨hkn, hbk⟩ := (due_mem js t _).1 hkm
              obtain ⟨hv0, hv1⟩ := cvi_here js t j _ hjl rfl
              have hdue := cnt_due js HS.out.good _ t hkn hbk
              obtain ⟨hcc0, hcc1, _, _⟩ := cnt_inv js HS.out.good _ hkn t
              obtain ⟨cs, hcsb, hcv⟩ := HCS.out.c
              obtain ⟨ds, hdsb, hdv⟩ := HCS.out.d
              obtain ⟨x, hx, hxl⟩ := hdv _ hkn
              have c1 := (cell_at hcsb _).trans (hcv _ hkn)
              have d1 := (cell_at hdsb _).trans hx
              have f1 := free_at hcsb ((due js t).getD j 0)
              have f2 := free_at hdsb ((due js t).getD j 0)
              rw [hv0] at c1 hxl
              have HSTEP : Hid (∀ q, CS (((wo.drewN q).setCell ⟨w1.heap.size, (due js t).getD j 0, none⟩ (.int .i64 (cnt js t ((due js t).getD j 0) + 1))).setCell ⟨w1.heap.size + 1, (due js t).getD j 0, none⟩ (.int .i64 (t : Int))) w1.heap.size (w1.heap.size + 1) js t (j + 1)) :=
                fun q => (HCS.out.keep (w1 := wo.drewN q) rfl rfl).step HS.out.good (by omega) hjl rfl
              have HADJ : Hid (∀ i, j = i + 1 → rk js ((due js t).getD i 0) < rk js ((due js t).getD j 0) ∨ rk js ((due js t).getD i 0) = rk js ((due js t).getD j 0) ∧ (due js t).getD i 0 < (due js t).getD j 0) := by
                intro i hi
                subst hi
                exact due_adj js t i hjl
              rcases HJR.out.at with ⟨h0, _⟩ | ⟨g, off, cap', hv, hgl, hcell⟩
              · exfalso
                rw [h0] at hkn
                simp at hkn
              · injection hv with hA hnn2 hcp
                clear hnn2
                subst hA hcp
                obtain ⟨e0, e1, e2⟩ := hcell _ hkn
                have j0 := (hbo.cell (p := ⟨g, _, none⟩) hgl).trans e0
                have j1 := (hbo.cell (p := ⟨g, _, none⟩) hgl).trans e1
                have j2 := (hbo.cell (p := ⟨g, _, none⟩) hgl).trans e2
                have hpp := pr_get js _ hkn
                have hpb := HS.out.pr hkn
                rw [hpp] at hpb
                have HPB := Lib.hid hpb
                clear hpb
                have hrr := rk_getD js _ hkn
                rw [hpp] at hdue hxl
                change (t : Int) = (js.getD ((due js t).getD j 0) jd).phase + _ at hdue
                change 0 < cnt js t ((due js t).getD j 0) → x = (js.getD ((due js t).getD j 0) jd).phase + _ at hxl
                have HRR : Hid (rk js ((due js t).getD j 0) = (js.getD ((due js t).getD j 0) jd).rank) := hrr
                have HBO := Lib.hid hbo
                have HC3 := Lib.hid hc3
                have HCELL := Lib.hid hcell
                have hkn' : (due js t).getD j 0 < n := by rw [← HN.out]; exact hkn
                clear hbo hcell hc3 e0 e1 e2 hpp hrr hkm hbk hv0 hv1 hcsb hcv hdsb hdv hx hkn HCS
                generalize (due js t).getD j 0 = kk at *
                generalize (js.getD kk jd).period = p at *
                generalize (js.getD kk jd).phase = y at *
                generalize (js.getD kk jd).rank = r0 at *
                generalize cnt js t kk = cc at *
                have hper : 0 < cc → (t : Int) - x = p := by
                  intro h
                  have h1 := hxl h
                  rw [Int.sub_mul, Int.one_mul] at h1
                  omega
                have hfst : cc = 0 → (t : Int) = y := by
                  intro h
                  subst h
                  omega
                have HPER := Lib.hid hper
                have HFST := Lib.hid hfst
                clear hper hfst hxl hdue
                go_upto_region 17 with fail
                go_cut [96] (fun s wx => s = .bool false ∧ ∃ q, wx = wo.drewN q)
                case first =>
                  have b1 : decide ((kk : Int) < 0) = false := by simp
                  have b2 : decide (n ≤ kk) = false := by simp; omega
                  by_cases hc : cc = 0
                  · subst hc
                    have b3 : ((t : Int) != y) = false := by rw [HFST.out rfl]; simp
                    have b4 : decide ((0 : Int) < 0) = false := by simp
                    go_big_quiet (fail)
                    go_wp2_with fail
                    go_meet
                    case rel => exact ⟨rfl, _, rfl⟩
                  · have b3 : (cc == 0) = false := by simp [hc]
                    have b4 : decide (0 < cc) = true := by simp; omega
                    have b5 := HPER.out (by omega)
                    have b6 : IntKind.i64.wrap ((t : Int) - x) = p := by rw [b5, IntWalk.i64_in _ (by have := HPB.out; unfold top at this; omega)]
                    have b7 : ((p : Int) != p) = false := by simp
                    clear b5
                    go_big_quiet (fail)
                    go_wp2_with fail
                    go_meet
                    case rel => exact ⟨rfl, _, rfl⟩
                case rest =>
                  obtain ⟨rfl, q, hwc⟩ := hcut
                  subst hwc
                  clear HPER HFST
                  go_upto_region 19 with fail
                  go_cut [141] (fun s wx => s = .bool false ∧ ∃ q, wx = wo.drewN q)
                  case first =>
                    cases j with
                    | zero =>
                      have b0 : decide ((0 : Int) < 0) = false := by simp
                      go_big_quiet (fail)
                      go_wp2_with fail
                      go_meet
                      case rel => exact ⟨rfl, _, by rw [World.drewN_drewN]⟩
                    | succ j' =>
                      have hj'l : j' < (due js t).length := by omega
                      have ck := (HWQ.out.cell hg3a (by omega) (off3 + j')).trans (HC3.out j' hj'l)
                      have hk'm : (due js t).getD j' 0 ∈ due js t := by rw [List.getD_eq_getElem?_getD, List.getElem?_eq_getElem hj'l]; exact List.getElem_mem hj'l
                      have hk'n := ((due_mem js t _).1 hk'm).1
                      have jk := (HBO.out.cell (p := ⟨g, _, none⟩) hgl).trans (HCELL.out _ hk'n).2.2
                      have hadj := HADJ.out j' rfl
                      rw [HRR.out, rk_getD js _ hk'n] at hadj
                      have hk'n' : (due js t).getD j' 0 < n := by rw [← HN.out]; exact hk'n
                      clear hk'm hk'n HSTEP HADJ HRR HC3 HCELL HBO
                      generalize (due js t).getD j' 0 = kp at *
                      generalize (js.getD kp jd).rank = r1 at *
                      have b0 : decide ((0 : Int) < ((j' + 1 : Nat) : Int)) = true := by simp
                      have b00 : decide (0 < j' + 1) = true := by simp
                      have bw : IntKind.i64.wrap ((j' : Int) + 1 - 1) = (j' : Int) := by rw [IntWalk.i64_in _ (by omega)]; omega
                      rcases hadj with hlt2 | ⟨hre, hlt2⟩
                      · have b3 : decide (r0 < r1) = false := by simp; omega
                        have b4 : (r1 == r0) = false := by simp; omega
                        go_big_quiet (fail)
                        go_wp2_with fail
                        go_meet
                        case rel => exact ⟨rfl, _, by rw [World.drewN_drewN]⟩
                      · subst hre
                        have b3 : decide (r1 < r1) = false := by simp
                        have b4 : (r1 == r1) = true := by simp
                        have b5 : decide (kk ≤ kp) = false := by simp; omega
                        go_big_quiet (fail)
                        go_wp2_with fail
                        go_meet
                        case rel => exact ⟨rfl, _, by rw [World.drewN_drewN]⟩
                  case rest =>
                    obtain ⟨rfl, q2, hwc⟩ := hcut
                    subst hwc
                    have HS2 := Lib.hid (HSTEP.out q2)
                    clear HSTEP HADJ HRR HC3 HCELL HBO cj j0 j1 j2
                    go_wp2_with fail
                    go_roundg ((due js t).length - (j + 1))
                    case measure => have := HGJ.out; omega
                    case rel => exact ⟨j + 1, by omega, rfl, by go_num, HS2.out, ((HWQ.out.drewN q2).set (b := w1.heap.size) (Or.inl rfl) _ _).set (b := w1.heap.size + 1) (Or.inr rfl) _ _⟩
            · obtain rfl : j = (due js t).length := by omega
              have HR : Hid (Live wo b jb mb js (t + 1) ∧ Below w.heap.size w wo ∧ CS wo w1.heap.size (w1.heap.size + 1) js (t + 1) 0) :=
                ⟨HL3.out.wrote HWQ.out (by omega) (by omega) (by omega), below_wrote HB3.out HWQ.out (fun c hc => by rcases hc with rfl | rfl <;> omega) HB3.out.size, HCS.out.next⟩
              clear HCS HWQ HL3 HB3 HX3
              go_wp2_with fail
              go_roundg (T - (t + 1))
              case measure => have := HG.out; omega
              case rel => exact ⟨t + 1, by omega, rfl, by go_num, HR.out⟩
        · obtain rfl : t = T := by omega
          clear HG HL
          go_wp2_with fail
          go_loopg [14] n (fun g i wq => ∃ k : Nat, k ≤ n ∧ g = n - k ∧ i = .int .i64 k ∧ CS wq w1.heap.size (w1.heap.size + 1) js t 0 ∧ Below w.heap.size w wq)
          case atStart => exact ⟨0, Nat.zero_le _, rfl, rfl, HCS.out, HB.out⟩
          case round =>
            obtain ⟨wo, hwo⟩ : ∃ wo : World, wo = wr := ⟨_, rfl⟩
            subst hwo
            obtain ⟨k, hk, hgk, rfl, hcs, hb⟩ := hrel
            have HGK := Lib.hid hgk
            have HCS2 := Lib.hid hcs
            have HB2 := Lib.hid hb
            clear hgk hcs hb HCS HB
            by_cases hkl : k < n
            · have hkn : k < js.length := by rw [HN.out]; exact hkl
              obtain ⟨cs, hcsb, hcv⟩ := HCS2.out.c
              have c1 := (cell_at hcsb k).trans (hcv k hkn)
              rw [cvi_zero] at c1
              obtain ⟨he1, he2⟩ := cnt_end js HS.out.good k t hkn
              obtain ⟨hcc0, hcc1, _, _⟩ := cnt_inv js HS.out.good k hkn t
              have hgd := HS.out.good k hkn
              have hpb := HS.out.pr hkn
              rw [pr_get js k hkn] at hpb he1
              rcases HJR.out.at with ⟨h0, _⟩ | ⟨g, off, cap', hv, hgl, hcell⟩
              · exfalso
                rw [h0] at hkn
                simp at hkn
              · injection hv with hA hnn2 hcp
                clear hnn2
                subst hA hcp
                obtain ⟨e0, e1, _⟩ := hcell k hkn
                have j0 := (HB2.out.cell (p := ⟨g, _, none⟩) hgl).trans e0
                have j1 := (HB2.out.cell (p := ⟨g, _, none⟩) hgl).trans e1
                change (js.getD k jd).phase < (t : Int) → _ at he1
                change ((js.getD k jd).phase < (t : Int) → ((t : Int) - 1 - (js.getD k jd).phase) / _ + 1 = _) at he1
                change ¬ (js.getD k jd).phase < (t : Int) → _ at he2
                have hm : CS (wo.drewN 0) w1.heap.size (w1.heap.size + 1) js t 0 := HCS2.out.keep rfl rfl
                clear hcell e0 e1 hcsb hcv hkn hm
                have HE1 := Lib.hid he1
                have HE2 := Lib.hid he2
                have HPB := Lib.hid hpb
                clear he1 he2 hpb
                generalize (js.getD k jd).period = p at *
                generalize (js.getD k jd).phase = y at *
                generalize cnt js t k = cc at *
                obtain ⟨hp1, hy0⟩ := hgd
                have hcc : (cc != cc) = false := by simp
                by_cases hyt : y < (t : Int)
                · have a1 : IntKind.i64.wrap ((t : Int) - 1) = (t : Int) - 1 := IntWalk.i64_in _ (by omega)
                  have a2 : IntKind.i64.wrap ((t : Int) - 1 - y) = (t : Int) - 1 - y := IntWalk.i64_in _ (by omega)
                  have e3 := HE1.out hyt
                  have a3 : ((t : Int) - 1 - y).tdiv p = cc - 1 := by
                    rw [Int.tdiv_eq_ediv_of_nonneg (by omega)]
                    omega
                  have a4 : IntKind.i64.wrap (cc - 1 + 1) = cc := by rw [IntWalk.i64_in _ (by omega)]; omega
                  have a5 : (p == 0) = false := by simp; omega
                  have a6 : IntKind.i64.wrap (cc - 1) = cc - 1 := IntWalk.i64_in _ (by omega)
                  clear e3
                  go_wp2_with fail
                  go_big_quiet (fail)
                  go_wp2_with fail
                  go_roundg (n - (k + 1))
                  case measure => have := HGK.out; omega
                  case rel => exact ⟨k + 1, by omega, rfl, by go_num, HCS2.out.keep rfl rfl, HB2.out.trans ⟨rfl, rfl, rfl, Nat.le_refl _, fun _ _ => rfl⟩⟩
                · have e3 := HE2.out hyt
                  subst e3
                  go_wp2_with fail
                  go_roundg (n - (k + 1))
                  case measure => have := HGK.out; omega
                  case rel => exact ⟨k + 1, by omega, rfl, by go_num, HCS2.out, HB2.out⟩
            · clear HCS2
              go_wp2_with fail
              refine (awake_any _).mono ?_
              rintro e w2 ⟨rfl, hb2⟩
              have HB3 := Lib.hid (below_next HB2.out hb2)
              clear hb2
              go_wp2_with fail
              go_ret
              exact ⟨rfl, HB3.out⟩
end Go.Proofs.Ytmkbkjnpgdpffaa
