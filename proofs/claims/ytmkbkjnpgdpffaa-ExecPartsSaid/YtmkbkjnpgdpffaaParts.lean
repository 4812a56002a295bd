/- The walk of ExecParts: true, in whatever world. Conditions: the jobs can be read; their numbers are of their kind. -/
import Derived.Test.YtmkbkjnpgdpffaaAwake
import Derived.Test.YtmkbkjnpgdpffaaPlan2
namespace Go.Proofs.Ytmkbkjnpgdpffaa
open Go.RowKit

theorem getD_take (js : List Jb) (k i : Nat) (h : i < k) : (js.take k).getD i jd = js.getD i jd := by
  rw [List.getD_eq_getElem?_getD, List.getD_eq_getElem?_getD, List.getElem?_take, if_pos h]
theorem ph_take (js : List Jb) (k i : Nat) (h : i < k) : ph (js.take k) i = ph js i := by unfold ph; rw [getD_take js k i h]
theorem pr_take (js : List Jb) (k i : Nat) (h : i < k) : pr (js.take k) i = pr js i := by
  unfold pr
  rw [List.map_take, List.getD_eq_getElem?_getD, List.getD_eq_getElem?_getD, List.getElem?_take, if_pos h]
theorem rk_take (js : List Jb) (k i : Nat) (h : i < k) : rk (js.take k) i = rk js i := by
  unfold rk
  rw [List.map_take, List.getD_eq_getElem?_getD, List.getD_eq_getElem?_getD, List.getElem?_take, if_pos h]
theorem isB_take (js : List Jb) (t : Int) (k i : Nat) (h : i < k) : isB (js.take k) t i = isB js t i := by
  unfold isB
  rw [ph_take js k i h, pr_take js k i h]
theorem range_take (n k : Nat) (h : k ≤ n) : (List.range n).filter (fun x => decide (x < k)) = List.range k := by
  induction n with
  | zero => obtain rfl : k = 0 := by omega
            rfl
  | succ n ih =>
    rw [List.range_succ, List.filter_append]
    by_cases e : k = n + 1
    · subst e
      rw [List.filter_eq_self.2 (fun x hx => by have := List.mem_range.1 hx; simp; omega)]
      rw [show List.filter (fun x => decide (x < n + 1)) [n] = [n] from by simp, List.range_succ]
    · rw [ih (by omega), show List.filter (fun x => decide (x < k)) [n] = [] from by simp; omega, List.append_nil]
theorem due_take (js : List Jb) (t : Int) (k : Nat) (hk : k ≤ js.length) : (due js t).filter (fun x => decide (x < k)) = due (js.take k) t := by
  have h1 := dueTo_ok js t js.length
  have h2 := dueTo_ok (js.take k) t (js.take k).length
  rw [List.length_take, show min k js.length = k from by omega] at h2
  unfold due
  rw [List.length_take, show min k js.length = k from by omega]
  refine List.Perm.eq_of_pairwise (le := le2 js) ?_ (h1.1.sublist List.filter_sublist) ?_ ?_
  · intro a b _ _ h5 h6
    unfold le2 at h5 h6
    omega
  · refine h2.1.imp_of_mem (fun {a b} ha hb hab => ?_)
    have ha' := List.mem_range.1 (List.mem_filter.1 (h2.2.mem_iff.1 ha)).1
    have hb' := List.mem_range.1 (List.mem_filter.1 (h2.2.mem_iff.1 hb)).1
    unfold le2 at hab ⊢
    rw [rk_take js k a ha', rk_take js k b hb'] at hab
    exact hab
  · refine (h1.2.filter _).trans ?_
    rw [List.filter_filter]
    refine List.Perm.trans ?_ h2.2.symm
    have : (List.range js.length).filter (fun a => decide (a < k) && isB js t a) = (List.range k).filter (isB (js.take k) t) := by
      rw [← range_take js.length k hk, List.filter_filter]
      apply List.filter_congr
      intro x _
      by_cases hx : x < k
      · rw [isB_take js t k x hx, Bool.and_comm]
      · simp [hx]
    rw [this]
theorem Sound.take {js : List Jb} (h : Sound js) (k : Nat) : Sound (js.take k) := by
  refine ⟨fun i hi => ?_, ?_, fun j hj => h.hi j (List.mem_of_mem_take hj)⟩
  · rw [List.length_take] at hi
    rw [getD_take js k i (by omega)]
    exact h.good i (by omega)
  · have := h.few
    rw [List.length_take]
    omega
theorem JR.take {w : World} {A : Option Addr} {cap k : Nat} {js : List Jb} (h : JR w (.slice A js.length cap) js) (hk : k ≤ js.length) : JR w (.slice A k cap) (js.take k) := by
  have hl : (js.take k).length = k := by rw [List.length_take]; omega
  refine ⟨by rw [hl]; have := h.1; omega, ?_⟩
  rcases h.2 with ⟨hv, h1⟩ | ⟨ad, cap', hv, h1⟩
  · subst h1
    left
    simp at hk
    subst hk
    exact ⟨hv, rfl⟩
  · injection hv with h2 _ h3
    subst h2 h3
    refine .inr ⟨ad, cap, by rw [hl], ?_⟩
    rcases h1 with h1 | ⟨g, off, ha, hg, hc⟩
    · left; rw [h1]; simp
    · refine .inr ⟨g, off, ha, hg, fun i hi => ?_⟩
      rw [hl] at hi
      rw [getD_take js k i hi]
      exact hc i (by omega)
theorem due_len (js : List Jb) (t : Int) : (due js t).length ≤ js.length := by
  have h := (dueTo_ok js t js.length).2.length_eq
  have h2 := List.length_filter_le (isB js t) (List.range js.length)
  rw [List.length_range] at h2
  unfold due
  omega
/-- Of a list, those below kk, as they are gathered. -/
structure SomeS (w wq : World) (kk : Nat) (L : List Nat) (v : Value) (j : Nat) : Prop where
  own : wq.ownsRow w.heap.size 3 1 v ((L.take j).filter (fun x => decide (x < kk))).length (((L.take j).filter (fun x => decide (x < kk))).map intL)
  below : Below w.heap.size w wq
theorem take_succ_filter (L : List Nat) (kk j : Nat) (hj : j < L.length) : (L.take (j + 1)).filter (fun x => decide (x < kk)) = (L.take j).filter (fun x => decide (x < kk)) ++ (if L.getD j 0 < kk then [L.getD j 0] else []) := by
  rw [List.take_succ_eq_append_getElem hj, List.filter_append, List.getD_eq_getElem?_getD, List.getElem?_eq_getElem hj]
  show _ ++ List.filter _ [L[j]] = _ ++ if L[j] < kk then [L[j]] else []
  by_cases h : L[j] < kk <;> simp [h]
theorem SomeS.skip {w wq : World} {kk j : Nat} {L : List Nat} {v : Value} (h : SomeS w wq kk L v j) (hj : j < L.length) (hx : ¬ L.getD j 0 < kk) : SomeS w wq kk L v (j + 1) := by
  refine ⟨?_, h.below⟩
  rw [take_succ_filter L kk j hj, if_neg hx, List.append_nil]
  exact h.own
theorem SomeS.add {w wq w1 : World} {kk j : Nat} {L : List Nat} {v v1 : Value} {o : Obj} (h : SomeS w wq kk L v j) (hj : j < L.length) (hx : L.getD j 0 < kk) (hg : (wq.alloc o).grownBy w1 v.ownBlock)
    (ho : w1.ownsRow w.heap.size 3 1 v1 (((L.take j).filter (fun x => decide (x < kk))).length + 1) (((L.take j).filter (fun x => decide (x < kk))).map intL ++ [.int .i64 (L.getD j 0 : Int)])) : SomeS w w1 kk L v1 (j + 1) := by
  refine ⟨?_, (h.below.alloc h.below.size _).grown hg (by rw [alloc_size]; have := h.below.size; omega) (fun c hc => (h.own.lt c hc).1)⟩
  rw [take_succ_filter L kk j hj, if_pos hx, List.length_append, List.map_append]
  exact ho
/-- How many of the first jobs are asked for. -/
def cut (first : Int) (n : Nat) : Nat := min first.toNat n
set_option maxRecDepth 100000 in
set_option maxHeartbeats 2000000 in
theorem execParts_walk (w : World) (A : Option Addr) (cap : Nat) (js : List Jb) (first ticks : Int) (h : JR w (.slice A js.length cap) js) (hcap : js.length ≤ cap) (hhi : ∀ j ∈ js, j.period ≤ top) :
    Calls Try.prog 5 #[.slice A js.length cap, .int .i64 first, .int .i64 ticks] w fun e w' => e = .returned (.bool true) ∧ Below w.heap.size w w' := by
  have HJR := Lib.hid h
  have hs := h.small
  clear h
  have HHI := Lib.hid hhi
  clear hhi
  obtain ⟨i0, hi, hz0, hz1, hz2⟩ := info_parts info3
  go_enter Try.func5, Try.ntmps5
  go_wp2_with fail
  refine (plan_any _ _ js HJR.out).mono ?_
  rintro e w1 ⟨pv, c, rfl, ⟨hc, hmade⟩, hb1⟩
  have HB1 := Lib.hid hb1
  have HC := Lib.hid hc
  clear hb1 hc
  rcases hmade with ⟨h1, rfl⟩ | ⟨h1, b, jb, mb, rfl, hl, k1, k2, k3⟩
  · clear h1
    go_wp2_with fail
    refine (awake_any _).mono ?_
    rintro e w2 ⟨rfl, hb2⟩
    have HB2 := Lib.hid (below_next HB1.out hb2)
    clear hb2
    go_wp2_with fail
    go_ret
    exact ⟨rfl, HB2.out⟩
  · subst h1
    have HS : Hid (Sound js) := by
      rcases HC.out with ⟨_, h⟩ | ⟨h1, h2, _⟩ | ⟨_, _, h⟩
      · omega
      · exact ⟨h2, h1, HHI.out⟩
      · omega
    have HL := Lib.hid hl
    clear hl HC
    have hkl : cut first js.length ≤ js.length := by unfold cut; omega
    have hk1 : first ≤ 0 → (cut first js.length : Int) = 0 := by unfold cut; omega
    have hk2 : 0 < first → first ≤ (js.length : Int) → (cut first js.length : Int) = first := by unfold cut; omega
    have hk3 : (js.length : Int) < first → (cut first js.length : Int) = (js.length : Int) := by unfold cut; omega
    generalize cut first js.length = kk at *
    have K1 := Lib.hid hk1
    have K2 := Lib.hid hk2
    have K3 := Lib.hid hk3
    clear hk1 hk2 hk3
    go_upto_region 6 with fail
    go_cut [9] (fun s wx => s = .int .i64 (kk : Int) ∧ wx = w1)
    case first =>
      by_cases q1 : first ≤ 0
      · have E := Lib.hid (K1.out q1)
        go_wp2_with fail
        all_goals
          go_meet
          case rel => exact ⟨by congr 1; have := E.out; omega, rfl⟩
      · by_cases q2 : first ≤ (js.length : Int)
        · have E := Lib.hid (K2.out (by omega) q2)
          go_wp2_with fail
          all_goals
            go_meet
            case rel => exact ⟨by congr 1; have := E.out; omega, rfl⟩
        · have E := Lib.hid (K3.out (by omega))
          go_wp2_with fail
          all_goals
            go_meet
            case rel => exact ⟨by congr 1; have := E.out; omega, rfl⟩
    case rest =>
      obtain ⟨rfl, hwc⟩ := hcut
      subst hwc
      clear K1 K2 K3
      have HJR2 : Hid (JR wc (.slice A kk cap) (js.take kk)) := (HJR.out.below HB1.out).take hkl
      go_wp2_with fail
      refine (plan_any _ _ _ HJR2.out).mono ?_
      rintro e w2 ⟨pv, c, rfl, ⟨hc, hmade⟩, hb2⟩
      have hc0 : c = 0 := hc.one (.inr (.inl ⟨(HS.out.take kk).few, (HS.out.take kk).good, rfl⟩))
      subst hc0
      obtain ⟨_, b', jb', mb', rfl, hl', k1', k2', k3'⟩ := hmade.resolve_left (fun h => h.1 rfl)
      have hsz := HB1.out.size
      have hlb : b < wc.heap.size := HL.out.lt
      obtain ⟨hljb, hlmb⟩ : jb < wc.heap.size ∧ mb < wc.heap.size := by obtain ⟨_, _, _, _, h1, h2⟩ := HL.out; exact ⟨h1, h2⟩
      have HT : Hid (Live w2 b jb mb js 0 ∧ Live w2 b' jb' mb' (js.take kk) 0 ∧ Below w.heap.size w w2) := ⟨HL.out.below hb2, hl', below_next HB1.out hb2⟩
      clear hb2 hmade hc hl' HJR2 HL
      go_wp2_with fail
      go_loopg [12] 4096 (fun g i wr => ∃ t : Nat, t ≤ 4096 ∧ g = 4096 - t ∧ i = .int .i64 t ∧ Live wr b jb mb js t ∧ Live wr b' jb' mb' (js.take kk) t ∧ Below w.heap.size w wr)
      case atStart => exact ⟨0, by omega, rfl, rfl, HT.out⟩
      case round =>
        obtain ⟨t, ht, hg, rfl, hl1, hl2, hb⟩ := hrel
        have HG := Lib.hid hg
        have HL1 := Lib.hid hl1
        have HL2 := Lib.hid hl2
        have HB := Lib.hid hb
        clear hg hl1 hl2 hb HT
        by_cases hlt : (t : Int) < ticks ∧ t < 4096
        · obtain ⟨q1, q2⟩ := hlt
          have q3 : (t : Int) < 4096 := by omega
          go_wp2_with fail
          refine (due_live wr b jb mb js t HL1.out HS.out (by omega)).mono ?_
          intro e w3 hd
          obtain ⟨v3, rfl, hi3, hg3, hl3, hw3⟩ := due_ints hd
          obtain ⟨A3, cap3, rfl, hcap3, hx3⟩ := hi3
          have hLl : (due js t).length ≤ 64 := Nat.le_trans (due_len js t) HS.out.few
          have HDT := Lib.hid (due_take js t kk hkl)
          have HX3 := Lib.hid hx3
          have HG3 := Lib.hid hg3
          have HL3 := Lib.hid hl3
          have HW3 := Lib.hid hw3
          clear hd hx3 hg3 hl3 hw3
          have HQ3 : Hid (Live w3 b' jb' mb' (js.take kk) t) := HL2.out.wrote HW3.out (by omega) (by omega) (by omega)
          have HB3 : Hid (Below w.heap.size w w3) := below_wrote HB.out HW3.out (fun c hc => by rcases hc with rfl | rfl <;> omega) HB.out.size
          have hq1 := HQ3.out.lt
          have hq2 : mb' < w3.heap.size := by obtain ⟨_, _, _, _, _, h⟩ := HQ3.out; exact h
          clear HL1 HL2 HW3 HB HG3
          generalize hLq : due js t = L at *
          clear hLq
          go_wp2_with fail
          go_loopg [14, 15] L.length (fun g v i wq => ∃ j : Nat, j ≤ L.length ∧ g = L.length - j ∧ i = .int .i64 j ∧ SomeS w3 wq kk L v j)
          case atStart => exact ⟨0, Nat.zero_le _, rfl, rfl, World.ownsRow_nil _ _ _ _, Below.refl _ _⟩
          case round =>
            obtain ⟨j, hj, hgj, rfl, hsm⟩ := hrel
            have HGJ := Lib.hid hgj
            have HSM := Lib.hid hsm
            clear hgj hsm
            by_cases hjl : j < L.length
            · obtain ⟨g3, off3, rfl, hgl3, hc3⟩ := HX3.out.resolve_left (fun h => by rw [h] at hjl; simp at hjl)
              have cj := (HSM.out.below.cell (p := ⟨g3, off3 + j, none⟩) hgl3).trans (hc3 j hjl)
              have HSK := Lib.hid (fun hx => HSM.out.skip hjl hx)
              have hown := HSM.out.own
              have HAD : Hid (∀ (w1 : World) (v1 : Value) (o : Obj), L.getD j 0 < kk → (wr.alloc o).grownBy w1 u14.ownBlock → w1.ownsRow w3.heap.size 3 1 v1 (((L.take j).filter (fun x => decide (x < kk))).length + 1) (((L.take j).filter (fun x => decide (x < kk))).map intL ++ [.int .i64 (L.getD j 0 : Int)]) → SomeS w3 w1 kk L v1 (j + 1)) := fun w1 v1 o hx hg ho => HSM.out.add hjl hx hg ho
              have hfl : ((L.take j).filter (fun x => decide (x < kk))).length ≤ 64 := by
                have h1 := List.length_filter_le (fun x => decide (x < kk)) (L.take j)
                rw [List.length_take] at h1
                omega
              have hbl := HSM.out.below.size
              clear HSM hc3 HX3
              generalize L.getD j 0 = x at *
              generalize ((L.take j).filter (fun x => decide (x < kk))).length = fl at *
              generalize ((L.take j).filter (fun x => decide (x < kk))).map intL = fs at *
              by_cases hx : x < kk
              · have hx' : (x : Int) < (kk : Int) := by omega
                clear HSK
                go_wp2_with (at_builtin; refine wpList_append_own _ rfl (.tmp 67) (.tmp 72) 28 rfl w3.heap.size 3 i0 (.int .i64 0) 1 8 Try.underlying28 hi hz0 hz1 hz2 rfl (by decide) _ _ _ rfl (hown.alloc _) ⟨wr.heap.size, 0, none⟩ 1 1 [.int .i64 (x : Int)] rfl rfl (one_cell _ _ _) ?c2 ?c3 ?c4 ?c5 ?_)
                case c2 => simp [Value.oneCell']
                case c3 => unfold maxLen; omega
                case c4 => omega
                case c5 => rw [alloc_size]; omega
                intro v1 w1 hown1 hgrow _
                have HN := Lib.hid (HAD.out w1 v1 _ hx hgrow hown1)
                clear hown1 hgrow hown HAD
                go_wp2_with fail
                go_roundg (L.length - (j + 1))
                case measure => have := HGJ.out; omega
                case rel => exact ⟨j + 1, by omega, rfl, by go_num, HN.out⟩
              · have hx' : ¬ (x : Int) < (kk : Int) := by omega
                have HN := Lib.hid (HSK.out hx)
                clear HSK HAD
                go_wp2_with fail
                go_roundg (L.length - (j + 1))
                case measure => have := HGJ.out; omega
                case rel => exact ⟨j + 1, by omega, rfl, by go_num, HN.out⟩
            · obtain rfl : j = L.length := by omega
              have HP4 := Lib.hid (HL3.out.below HSM.out.below)
              have HQ4 := Lib.hid (HQ3.out.below HSM.out.below)
              have HB4 := Lib.hid (below_next HB3.out HSM.out.below)
              have HI4 : Hid (Ints wr u14 (due (js.take kk) t)) := by
                have h1 := ints_own HSM.out.own
                rw [List.take_length, HDT.out] at h1
                exact h1
              have hg4 : ∀ g, u14.ownBlock = some g → w3.heap.size ≤ g := fun g hg => (HSM.out.own.lt g hg).1
              have HG4 := Lib.hid hg4
              clear hg4 HSM HL3 HQ3 HB3 HX3
              go_wp2_with fail
              refine (due_live wr b' jb' mb' _ t HQ4.out (HS.out.take kk) (by omega)).mono ?_
              intro e w5 hd
              obtain ⟨v5, rfl, hi5, _, hl5, hw5⟩ := due_ints hd
              have HI5 := Lib.hid hi5
              have HI6 : Hid (Ints w5 u14 (due (js.take kk) t)) := HI4.out.wrote hw5 (fun g hg => by have := HG4.out g hg; omega)
              have HP5 : Hid (Live w5 b jb mb js (t + 1)) := HP4.out.wrote hw5 (by omega) (by omega) (by omega)
              have HQ5 := Lib.hid hl5
              have HB5 : Hid (Below w.heap.size w w5) := below_wrote HB4.out hw5 (fun c hc => by rcases hc with rfl | rfl <;> omega) HB4.out.size
              have hl6 : (due (js.take kk) t).length ≤ 9223372036854775807 := by
                have h1 := due_len (js.take kk) t
                have h2 := (HS.out.take kk).few
                omega
              clear hd hi5 hl5 hw5 HI4 HP4 HQ4 HB4 HG4
              go_wp2_with fail
              refine (same_any w5 _ _ _ HI5.out HI6.out hl6).mono ?_
              rintro e w6 ⟨rfl, hb6⟩
              have HR : Hid (Live w6 b jb mb js (t + 1) ∧ Live w6 b' jb' mb' (js.take kk) (t + 1) ∧ Below w.heap.size w w6) := ⟨HP5.out.below hb6, HQ5.out.below hb6, below_next HB5.out hb6⟩
              clear hb6 HP5 HQ5 HB5 HI5 HI6 hl6 HDT
              go_wp2_with fail
              go_roundg (4096 - (t + 1))
              case measure => have := HG.out; omega
              case rel => exact ⟨t + 1, by omega, rfl, by go_num, HR.out⟩
        · have HF : Hid (∀ (w7 : World), Below wr.heap.size wr w7 → Live w7 b jb mb js t ∧ Live w7 b' jb' mb' (js.take kk) t ∧ Below w.heap.size w w7) := fun w7 h7 => ⟨HL1.out.below h7, HL2.out.below h7, below_next HB.out h7⟩
          clear HL1 HL2 HB
          have hzz : ((t : Int) == (t : Int)) = true := by simp
          by_cases q1 : (t : Int) < ticks
          · have q3 : ¬ (t : Int) < 4096 := by omega
            clear hlt
            go_wp2_with fail
            refine (awake_any _).mono ?_
            rintro e w7 ⟨rfl, hb7⟩
            obtain ⟨h1, h2, h3⟩ := HF.out w7 hb7
            have H1 := Lib.hid h1
            have H2 := Lib.hid h2
            have H3 := Lib.hid h3
            clear h1 h2 h3 hb7 HF
            go_wp2_with fail
            refine (now_live w7 b jb mb js t H1.out).mono ?_
            rintro e w8 ⟨rfl, hw8⟩
            subst hw8
            go_wp2_with fail
            refine (now_live _ b' jb' mb' _ t H2.out).mono ?_
            rintro e w9 ⟨rfl, hw9⟩
            subst hw9
            go_wp2_with fail
            go_ret
            exact ⟨rfl, H3.out⟩
          · clear hlt
            go_wp2_with fail
            refine (awake_any _).mono ?_
            rintro e w7 ⟨rfl, hb7⟩
            obtain ⟨h1, h2, h3⟩ := HF.out w7 hb7
            have H1 := Lib.hid h1
            have H2 := Lib.hid h2
            have H3 := Lib.hid h3
            clear h1 h2 h3 hb7 HF
            go_wp2_with fail
            refine (now_live w7 b jb mb js t H1.out).mono ?_
            rintro e w8 ⟨rfl, hw8⟩
            subst hw8
            go_wp2_with fail
            refine (now_live _ b' jb' mb' _ t H2.out).mono ?_
            rintro e w9 ⟨rfl, hw9⟩
            subst hw9
            go_wp2_with fail
            go_ret
            exact ⟨rfl, H3.out⟩
end Go.Proofs.Ytmkbkjnpgdpffaa
