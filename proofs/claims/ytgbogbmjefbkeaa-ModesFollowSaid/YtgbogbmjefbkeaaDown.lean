/- What heap.down, heap.Push and heap.Pop do on a queue, in whatever world. Conditions: the queue lies in memory, the places are within it. -/
import Derived.Test.YtgbogbmjefbkeaaUp
namespace Go.Proofs.Ytgbogbmjefbkeaa
open Go.RowKit
/-- What is known of the queue while one goes down. -/
structure DownS (w wr : World) (qb : Nat) (ms l : List Int) (n i0 i : Nat) : Prop where
  qu : Qu wr qb l
  perm : l.Perm ms
  drop : l.drop n = ms.drop n
  sinks : Sinks ile 0 l n i0 i
  below : Below qb w wr
theorem DownS.len {w wr : World} {qb : Nat} {ms l : List Int} {n i0 i : Nat} (h : DownS w wr qb ms l n i0 i) : l.length = ms.length := h.perm.length_eq
theorem DownS.keep {w wr w1 : World} {qb : Nat} {ms l : List Int} {n i0 i : Nat} (h : DownS w wr qb ms l n i0 i) (hb : Below wr.heap.size wr w1) : DownS w w1 qb ms l n i0 i :=
  ⟨h.qu.keep hb, h.perm, h.drop, h.sinks, h.below.trans (hb.mono (Nat.le_of_lt h.qu.lt))⟩
theorem DownS.swap {w wr w1 : World} {qb : Nat} {ms l : List Int} {n i0 i j : Nat} (h : DownS w wr qb ms l n i0 i) (hn : n ≤ ms.length) (h0 : 0 < j) (hj : j < n) (hp : par j = i)
    (hless : ¬ ile (l.getD i 0) (l.getD j 0)) (hmin : ∀ k, 0 < k → k < n → par k = i → ile (l.getD j 0) (l.getD k 0)) (hq : Qu w1 qb (sw 0 l i j)) (hb : Below qb wr w1) : DownS w w1 qb ms (sw 0 l i j) n i0 j := by
  have hl := h.len
  have hij : i < j := by rw [← hp]; unfold par; omega
  exact ⟨hq, (sw_perm l i j (by omega) (by omega)).trans h.perm, (sw_drop l i j n (by omega) hj).trans h.drop, h.sinks.swap ile_tot (by omega) h0 hj hp hless hmin, h.below.trans hb⟩
/-- Which child is taken: the right one (r), or the left one: it is within, and not above the other. -/
def Picks (l : List Int) (n i : Nat) (r : Bool) : Prop := (r = true → 2 * i + 2 < n) ∧ ∀ k, 0 < k → k < n → par k = i → ile (l.getD (if r then 2 * i + 2 else 2 * i + 1) 0) (l.getD k 0)
theorem picks_mk (l : List Int) (n i : Nat) (r : Bool) (h2 : 2 * i + 2 < n) (hr : decide (l.getD (2 * i + 2) 0 < l.getD (2 * i + 1) 0) = r) : Picks l n i r := by
  refine ⟨fun _ => h2, fun k k0 kn kp => ?_⟩
  show l.getD (if r then 2 * i + 2 else 2 * i + 1) 0 ≤ l.getD k 0
  rcases par_kids k0 kp with rfl | rfl
  · cases r with
    | true =>
      simp only [decide_eq_true_eq] at hr
      rw [if_pos rfl]
      omega
    | false => exact Int.le_refl _
  · cases r with
    | true => exact Int.le_refl _
    | false =>
      simp only [decide_eq_false_iff_not] at hr
      rw [if_neg (by decide)]
      omega
theorem picks_one (l : List Int) (n i : Nat) (h2 : ¬ 2 * i + 2 < n) : Picks l n i false := by
  refine ⟨(fun h => nomatch h), fun k k0 kn kp => ?_⟩
  rcases par_kids k0 kp with rfl | rfl
  · exact Int.le_refl _
  · omega
def DownPost (w : World) (qb : Nat) (ms : List Int) (n i0 : Nat) (e : Ending) (w' : World) : Prop :=
  (∃ r, e = .returned (.bool r)) ∧ ∃ l, Qu w' qb l ∧ l.Perm ms ∧ l.drop n = ms.drop n ∧ HeapFrom ile 0 l n i0 ∧ Below qb w w'
def After6 (w : World) (qb : Nat) (ms l : List Int) (n i0 i : Nat) (v : Value) (wx : World) : Prop :=
  ∃ r : Bool, v = .bool r ∧ Picks l n i r ∧ DownS w wx qb ms l n i0 i
set_option maxRecDepth 100000 in
set_option maxHeartbeats 4000000 in
theorem down_any (w : World) (qb : Nat) (ms : List Int) (h : Qu w qb ms) (i0 n : Nat) (hn : n ≤ ms.length) (hbig : ms.length ≤ 64) (hi0 : i0 ≤ 64) (hh : HeapFrom ile 0 ms n (i0 + 1)) :
    Calls Try.prog 27 #[.iface 42 (.pointer (some ⟨qb, 0, none⟩)), .int .i64 (i0 : Int), .int .i64 (n : Int)] w (DownPost w qb ms n i0) := by
  have H : Hid (DownS w w qb ms ms n i0 i0) := ⟨h, List.Perm.refl _, rfl, Sinks.start hh, Below.refl _ _⟩
  have m1 := method_less ⟨qb, 0, none⟩
  have m2 := method_swap ⟨qb, 0, none⟩
  clear h hh
  go_enter Try.func27, Try.ntmps27
  go_wp2_with fail
  go_loopg [7] (n - i0) (fun g i wr => ∃ (k : Nat) (l : List Int), k ≤ 64 ∧ g = n - k ∧ i = .int .i64 k ∧ DownS w wr qb ms l n i0 k)
  case atStart => exact ⟨i0, ms, hi0, rfl, rfl, H.out⟩
  case round =>
    obtain ⟨i, l, hi, hg, rfl, hd⟩ := hrel
    have HG := Lib.hid hg
    clear hg
    have HD := Lib.hid hd
    have HL : Hid (l.length = ms.length) := hd.len
    clear hd H
    by_cases h1 : 2 * (i : Int) + 1 < (n : Int)
    · have hj1 : 2 * i + 1 < n := by omega
      go_upto_region 6 with fail
      go_cut [33] from 12 to 44 (After6 w qb ms l n i0 i)
      case first =>
        by_cases h2 : 2 * (i : Int) + 1 + 1 < (n : Int)
        · have hj2 : 2 * i + 2 < n := by omega
          cases hc : decide (l.getD (2 * i + 2) 0 < l.getD (2 * i + 1) 0) with
          | _ =>
            have HC := Lib.hid hc
            clear hc
            go_wp2_with fail
            refine (less_get HD.out.qu (2 * i + 2) (2 * i + 1) _ _ (by omega) (by omega) (by have := HL.out; omega) (by have := HL.out; omega) HC.out).mono ?_
            rintro e w4 ⟨rfl, hb4⟩
            have HD0 := Lib.hid (HD.out.keep hb4)
            clear hb4
            go_wp2_with fail
            go_meet
            case rel => exact ⟨_, rfl, picks_mk l n i _ (by omega) HC.out, HD0.out⟩
        · have hj2 : ¬ 2 * i + 2 < n := by omega
          go_wp2_with fail
          go_meet
          case rel => exact ⟨_, rfl, picks_one l n i hj2, HD.out⟩
      case rest =>
        obtain ⟨r, rfl, hp, hd⟩ := hcut
        have HP := Lib.hid hp
        clear HD hp
        have HD := Lib.hid hd
        clear hd
        cases r
        · skip
          have hpj : Hid (par (2 * i + 1) = i) := by unfold Hid par; omega
          have hin : 2 * i + 1 < n := hj1
          cases hl : decide (l.getD (2 * i + 1) 0 < l.getD i 0) with
          | false =>
            have hst : Hid (HeapFrom ile 0 l n i0) := HD.out.sinks.stop (fun k k0 kn kp => ile_tr _ _ _ (by simp only [decide_eq_false_iff_not] at hl; show l.getD i 0 ≤ l.getD (2 * i + 1) 0; omega) (HP.out.2 k k0 kn kp))
            have HL2 := Lib.hid hl
            clear hl
            go_wp2_with fail
            refine (less_get HD.out.qu (2 * i + 1) i _ _ (by omega) rfl (by have := HL.out; omega) (by have := HL.out; omega) HL2.out).mono ?_
            rintro e w2 ⟨rfl, hb2⟩
            have HD2 := Lib.hid (HD.out.keep hb2)
            clear hb2
            go_wp2_with fail
            go_ret
            exact ⟨⟨_, rfl⟩, l, HD2.out.qu, HD2.out.perm, HD2.out.drop, hst.out, HD2.out.below⟩
          | true =>
            have hnl : Hid (l.getD (2 * i + 1) 0 < l.getD i 0) := by unfold Hid; exact of_decide_eq_true hl
            have HL2 := Lib.hid hl
            clear hl
            go_wp2_with fail
            refine (less_get HD.out.qu (2 * i + 1) i _ _ (by omega) rfl (by have := HL.out; omega) (by have := HL.out; omega) HL2.out).mono ?_
            rintro e w2 ⟨rfl, hb2⟩
            have HD2 := Lib.hid (HD.out.keep hb2)
            clear hb2
            go_wp2_with fail
            refine (swap_get HD2.out.qu i (2 * i + 1) _ _ rfl (by omega) (by have := HL.out; omega) (by have := HL.out; omega)).mono ?_
            rintro e w3 ⟨rfl, hp3, hw3⟩
            have HD3 := Lib.hid (HD2.out.swap hn (by omega) (by omega) hpj.out (Int.not_le.2 hnl.out) HP.out.2 hp3 hw3)
            clear hp3 hw3
            go_wp2_with fail
            go_roundg (n - (2 * i + 1))
            case measure => have := HG.out; omega
            case rel => exact ⟨2 * i + 1, _, by omega, rfl, by go_num, HD3.out⟩
        · skip
          have hpj : Hid (par (2 * i + 2) = i) := by unfold Hid par; omega
          have hin : 2 * i + 2 < n := HP.out.1 rfl
          cases hl : decide (l.getD (2 * i + 2) 0 < l.getD i 0) with
          | false =>
            have hst : Hid (HeapFrom ile 0 l n i0) := HD.out.sinks.stop (fun k k0 kn kp => ile_tr _ _ _ (by simp only [decide_eq_false_iff_not] at hl; show l.getD i 0 ≤ l.getD (2 * i + 2) 0; omega) (HP.out.2 k k0 kn kp))
            have HL2 := Lib.hid hl
            clear hl
            go_wp2_with fail
            refine (less_get HD.out.qu (2 * i + 2) i _ _ (by omega) rfl (by have := HL.out; omega) (by have := HL.out; omega) HL2.out).mono ?_
            rintro e w2 ⟨rfl, hb2⟩
            have HD2 := Lib.hid (HD.out.keep hb2)
            clear hb2
            go_wp2_with fail
            go_ret
            exact ⟨⟨_, rfl⟩, l, HD2.out.qu, HD2.out.perm, HD2.out.drop, hst.out, HD2.out.below⟩
          | true =>
            have hnl : Hid (l.getD (2 * i + 2) 0 < l.getD i 0) := by unfold Hid; exact of_decide_eq_true hl
            have HL2 := Lib.hid hl
            clear hl
            go_wp2_with fail
            refine (less_get HD.out.qu (2 * i + 2) i _ _ (by omega) rfl (by have := HL.out; omega) (by have := HL.out; omega) HL2.out).mono ?_
            rintro e w2 ⟨rfl, hb2⟩
            have HD2 := Lib.hid (HD.out.keep hb2)
            clear hb2
            go_wp2_with fail
            refine (swap_get HD2.out.qu i (2 * i + 2) _ _ rfl (by omega) (by have := HL.out; omega) (by have := HL.out; omega)).mono ?_
            rintro e w3 ⟨rfl, hp3, hw3⟩
            have HD3 := Lib.hid (HD2.out.swap hn (by omega) (by omega) hpj.out (Int.not_le.2 hnl.out) HP.out.2 hp3 hw3)
            clear hp3 hw3
            go_wp2_with fail
            go_roundg (n - (2 * i + 2))
            case measure => have := HG.out; omega
            case rel => exact ⟨2 * i + 2, _, by omega, rfl, by go_num, HD3.out⟩
    · have hst : Hid (HeapFrom ile 0 l n i0) := HD.out.sinks.stop (fun k k0 kn kp => by
        rcases par_kids k0 kp with e | e <;> omega)
      go_wp2_with fail
      go_ret
      exact ⟨⟨_, rfl⟩, l, HD.out.qu, HD.out.perm, HD.out.drop, hst.out, HD.out.below⟩
theorem down_get {w : World} {qb : Nat} {ms : List Int} (h : Qu w qb ms) (i0 n : Nat) (x y : Int) (hx : x = (i0 : Int)) (hy : y = (n : Int)) (hn : n ≤ ms.length) (hbig : ms.length ≤ 64) (hi0 : i0 ≤ 64) (hh : HeapFrom ile 0 ms n (i0 + 1)) :
    Calls Try.prog 27 #[.iface 42 (.pointer (some ⟨qb, 0, none⟩)), .int .i64 x, .int .i64 y] w (DownPost w qb ms n i0) := by
  subst hx hy
  exact down_any w qb ms h i0 n hn hbig hi0 hh
theorem pop_perm (ms l : List Int) (n : Nat) (hn : ms.length = n) (h0 : 0 < n) (hp : l.Perm (sw 0 ms 0 (n - 1))) (hd : l.drop (n - 1) = (sw 0 ms 0 (n - 1)).drop (n - 1)) :
    l.getD (n - 1) 0 = ms.getD 0 0 ∧ (ms.getD 0 0 :: l.take (l.length - 1)).Perm ms := by
  have hl : l.length = n := by rw [hp.length_eq, sw_len, hn]
  have e : l.drop (n - 1) = [ms.getD 0 0] := by
    rw [hd, List.drop_eq_getElem_cons (by rw [sw_len]; omega), List.drop_eq_nil_of_le (by rw [sw_len]; omega)]
    have := sw_get (d := (0 : Int)) ms 0 (n - 1) (n - 1) (by omega) (by omega)
    rw [if_pos rfl, gets _ _ (by rw [sw_len]; omega)] at this
    rw [this]
  have h1 : (l.take (n - 1) ++ l.drop (n - 1)).Perm ms := by
    rw [List.take_append_drop]
    exact hp.trans (sw_perm ms 0 (n - 1) (by omega) (by omega))
  have h2 : l.getD (n - 1) 0 = ms.getD 0 0 := by
    have := congrArg (fun x : List Int => x[0]?) e
    simp only [List.getElem?_drop, Nat.add_zero, List.getElem?_cons_zero] at this
    rw [List.getD_eq_getElem?_getD, this]
    rfl
  rw [e] at h1
  rw [hl]
  exact ⟨h2, (List.perm_append_comm (l₁ := [ms.getD 0 0]) (l₂ := l.take (n - 1))).trans h1⟩
def HpopPost (w : World) (qb : Nat) (ms : List Int) (e : Ending) (w' : World) : Prop :=
  e = .returned (.iface 3 (.int .i64 (ms.getD 0 0))) ∧ ∃ l, Qu w' qb l ∧ (ms.getD 0 0 :: l).Perm ms ∧ HeapFrom ile 0 l l.length 0 ∧ Below qb w w'
set_option maxRecDepth 100000 in
set_option maxHeartbeats 2000000 in
theorem hpop_any (w : World) (qb : Nat) (ms : List Int) (h : Qu w qb ms) (h0 : 0 < ms.length) (hbig : ms.length ≤ 64) (hh : HeapFrom ile 0 ms ms.length 0) :
    Calls Try.prog 22 #[.iface 42 (.pointer (some ⟨qb, 0, none⟩))] w (HpopPost w qb ms) := by
  have H := Lib.hid h
  have HH := Lib.hid hh
  have m1 := method_len ⟨qb, 0, none⟩
  have m2 := method_swap ⟨qb, 0, none⟩
  have m3 := method_pop ⟨qb, 0, none⟩
  generalize hn : ms.length = n at *
  have HN := Lib.hid hn
  clear h hh hn
  go_enter Try.func22, Try.ntmps22
  go_wp2_with fail
  refine (len_get H.out HN.out).mono ?_
  rintro e w1 ⟨rfl, hw1⟩
  subst hw1
  go_wp2_with fail
  refine (swap_get H.out 0 (n - 1) _ _ rfl (by omega) (by rw [HN.out]; omega) (by rw [HN.out]; omega)).mono ?_
  rintro e w2 ⟨rfl, hp2, hw2⟩
  have HP2 := Lib.hid hp2
  have HW2 := Lib.hid hw2
  clear hp2 hw2
  go_wp2_with fail
  refine (down_get HP2.out 0 (n - 1) _ _ rfl (by omega) (by rw [sw_len, HN.out]; omega) (by rw [sw_len, HN.out]; omega) (by omega) (by
    have := heap_last (d := (0 : Int)) (by rw [HN.out]; exact HH.out) (by rw [HN.out]; omega)
    rw [HN.out] at this
    exact this)).mono ?_
  rintro e w3 ⟨⟨r, rfl⟩, l, hp, hperm, hdrop, hheap, hwr⟩
  have HL : Hid (l.length = n) := by unfold Hid; rw [hperm.length_eq, sw_len, HN.out]
  have HP3 := Lib.hid hp
  have HPE := Lib.hid hperm
  have HDR := Lib.hid hdrop
  have HHE := Lib.hid hheap
  have HW3 := Lib.hid hwr
  clear hp hperm hdrop hheap hwr
  go_wp2_with fail
  refine (qpop_any _ qb l HP3.out (by rw [HL.out]; omega) (by rw [HL.out]; omega)).mono ?_
  rintro e w4 ⟨rfl, hp4, hw4⟩
  have hpp := pop_perm ms l n HN.out h0 HPE.out HDR.out
  rw [HL.out, hpp.1]
  have hfin : Hid (HpopPost w1 qb ms (.returned (.iface 3 (.int .i64 (ms.getD 0 0)))) w4) := by
    refine ⟨rfl, _, hp4, hpp.2, ?_, HW2.out.trans (HW3.out.trans hw4)⟩
    rw [HL.out, List.length_take, show min (n - 1) l.length = n - 1 from by have := HL.out; omega]
    exact heap_take HHE.out rfl
  clear hp4 hw4 hpp
  generalize ms.getD 0 0 = m at *
  go_wp2_with fail
  go_ret
  exact hfin.out
def HpushPost (w : World) (qb : Nat) (ms : List Int) (x : Int) (e : Ending) (w' : World) : Prop :=
  e = .returned (.tuple #[]) ∧ ∃ l, Qu w' qb l ∧ l.Perm (ms ++ [x]) ∧ HeapFrom ile 0 l l.length 0 ∧ Below qb w w'
theorem heap_more {ms : List Int} {x : Int} (h : HeapFrom ile 0 ms ms.length 0) : HeapFrom ile 0 (ms ++ [x]) ms.length 0 := by
  intro k k0 kn kp
  have hp : par k < k := by unfold par; omega
  rw [List.getD_eq_getElem?_getD, List.getD_eq_getElem?_getD, List.getElem?_append_left (by omega), List.getElem?_append_left (by omega), ← List.getD_eq_getElem?_getD, ← List.getD_eq_getElem?_getD]
  exact h k k0 kn kp
set_option maxRecDepth 100000 in
set_option maxHeartbeats 2000000 in
theorem hpush_any (w : World) (qb : Nat) (ms : List Int) (x : Int) (h : Qu w qb ms) (hbig : ms.length < 64) (hh : HeapFrom ile 0 ms ms.length 0) :
    Calls Try.prog 20 #[.iface 42 (.pointer (some ⟨qb, 0, none⟩)), .iface 3 (.int .i64 x)] w (HpushPost w qb ms x) := by
  have H := Lib.hid (qpush_any w qb ms x h (by omega))
  have HH : Hid (Rises (ms ++ [x]) (ms.length + 1) ms.length) := Rises.start (heap_more hh)
  have m1 := method_len ⟨qb, 0, none⟩
  have m2 := method_push ⟨qb, 0, none⟩
  have HL : Hid ((ms ++ [x]).length = ms.length + 1) := by unfold Hid; simp
  generalize ms.length = n at *
  clear h hh
  go_enter Try.func20, Try.ntmps20
  go_wp2_with fail
  refine H.out.mono ?_
  rintro e w1 ⟨rfl, hq1, hb1⟩
  have HQ1 := Lib.hid hq1
  have HB1 := Lib.hid hb1
  clear hq1 hb1 H
  go_wp2_with fail
  refine (len_get HQ1.out HL.out).mono ?_
  rintro e w2 ⟨rfl, hw2⟩
  subst hw2
  have hcast : (((n + 1 : Nat) : Int)) = (n : Int) + 1 := by omega
  rw [hcast]
  clear hcast
  go_wp2_with fail
  refine (up_any w2 qb (ms ++ [x]) (n + 1) n HQ1.out HL.out (by omega) (by omega) HH.out).mono ?_
  rintro e w3 ⟨rfl, l, hq3, hp3, hh3, hb3⟩
  have HF : Hid (HpushPost w qb ms x (.returned (.tuple #[])) w3) := ⟨rfl, l, hq3, hp3, hh3, HB1.out.trans hb3⟩
  clear hq3 hp3 hh3 hb3
  go_wp2_with fail
  go_end0
  exact HF.out
end Go.Proofs.Ytgbogbmjefbkeaa
