/- What queue.Pop, heap.Fix at place 0, heap.Pop and heap.Init do on a plan's queue, in whatever world. Conditions: the plan lies in memory, the places are within it. -/
import Derived.Test.YtmkbkjnpgdpffaaDown
namespace Go.Proofs.Ytmkbkjnpgdpffaa
open Go.RowKit

theorem flat_take (ms : List Mo) (k : Nat) : (ms.flatMap moL).take (k * 2) = (ms.take k).flatMap moL := by
  induction ms generalizing k with
  | nil => simp
  | cons m ms ih =>
    cases k with
    | zero => simp
    | succ k =>
      rw [List.flatMap_cons, List.take_succ_cons, List.flatMap_cons, ← ih k, show (k + 1) * 2 = k * 2 + 1 + 1 from by omega]
      rfl
theorem Slc.cut {w : World} {g cap : Nat} {ms : List Mo} (h : Slc w (.slice (some ⟨g, 0, none⟩) ms.length cap) g 50 2 ms.length (ms.flatMap moL)) (k : Nat) (hk : k ≤ ms.length) :
    Slc w (.slice (some ⟨g, 0, none⟩) k cap) g 50 2 k ((ms.take k).flatMap moL) := by
  refine ⟨⟨by rw [flat_len moL_len, List.length_take]; omega, ?_⟩, .inr rfl⟩
  rcases h.own.2 with ⟨h1, _⟩ | ⟨g', cap', cur, h1, h2, h3, h4, h5, h6, h7⟩
  · cases h1
  · injection h1 with h1 h8 h9
    injection h1 with h1
    injection h1 with h1
    subst h1 h9
    refine .inr ⟨g, cap, cur, rfl, h2, h3, by omega, h5, h6, ?_⟩
    rw [← flat_take, ← h7, List.take_take]
    congr 1
    omega
/-- The last moment is taken off. -/
theorem Plan.cut {w w1 : World} {b jb mb cap : Nat} {js : List Jb} {ms : List Mo} {now : Int} {jv : Value} (h : Plan w b jb mb js ms now) (hb : w.heap[b]? = some (.cells #[jv, .slice (some ⟨mb, 0, none⟩) ms.length cap, .int .i64 now] 48 (0, 0)))
    (k : Nat) (hk : k ≤ ms.length) (hb1 : w1.heap[b]? = some (.cells #[jv, .slice (some ⟨mb, 0, none⟩) k cap, .int .i64 now] 48 (0, 0))) (hj : w1.heap[jb]? = w.heap[jb]?) (hm : w1.heap[mb]? = w.heap[mb]?) :
    Plan w1 b jb mb js (ms.take k) now := by
  obtain ⟨jv', mv', hb', hjs, hms⟩ := h.blk
  rw [hb] at hb'
  injection hb' with hb'
  injection hb' with hb' _ _
  have e1 : jv = jv' := by have := congrArg (fun a : Array Value => a[0]?) hb'; simpa using this
  have e2 : Value.slice (some ⟨mb, 0, none⟩) ms.length cap = mv' := by have := congrArg (fun a : Array Value => a[1]?) hb'; simpa using this
  subst e1 e2
  refine ⟨⟨_, _, hb1, hjs.kept hj, ?_⟩, fun m hm => h.jlt m (List.mem_of_mem_take hm), h.sep⟩
  have h2 := (hms.cut k hk).kept hm
  rw [show (ms.take k).length = k from by rw [List.length_take]; omega]
  exact h2
def PopPost (w : World) (b jb mb : Nat) (js : List Jb) (ms : List Mo) (now : Int) (e : Ending) (w' : World) : Prop :=
  (∃ v, e = .returned v) ∧ Plan w' b jb mb js (ms.take (ms.length - 1)) now ∧ Wrote w w' (fun k => k = b)
set_option maxRecDepth 100000 in
set_option maxHeartbeats 2000000 in
theorem pop_any (w : World) (b jb mb : Nat) (js : List Jb) (ms : List Mo) (now : Int) (h : Plan w b jb mb js ms now) (h0 : 0 < ms.length) (hbig : ms.length ≤ 64) :
    Calls Try.prog 43 #[.pointer (some ⟨b, 0, none⟩)] w (PopPost w b jb mb js ms now) := by
  have H := Lib.hid h
  obtain ⟨jv, mv, hb, hjs, hm⟩ := h.blk
  obtain ⟨mcap, rfl, hmc, hmf⟩ := hm.form (by omega)
  have hcap : ms.length ≤ mcap ∧ mcap ≤ 9223372036854775807 := by
    rcases hm.own.2 with ⟨h1, _⟩ | ⟨g', cap', cur, h1, h2, h3, h4, h5, h6, h7⟩
    · cases h1
    · injection h1 with h1 h8 h9
      subst h9
      unfold maxLen at h5
      exact ⟨h4, by omega⟩
  obtain ⟨hcap1, hcap2⟩ := hcap
  have HB := Lib.hid hb
  have HJ0 : Hid (0 < js.length) := h.jobs h0
  have hbl := lt_of_at hb
  have c1 : w.cell? ⟨b, 1, none⟩ = some (.slice (some ⟨mb, 0, none⟩) ms.length mcap) := cell_at hb 1
  have f1 : w.frozen? ⟨b, 1, none⟩ = false := free_at hb 1
  obtain ⟨a0, a1⟩ := mo_cells hmc (ms.length - 1) (by omega)
  clear hb hjs hm hmc hmf h
  generalize ms[ms.length - 1].1 = t1 at *
  generalize ms[ms.length - 1].2 = p1 at *
  generalize hn : ms.length = n at *
  have HN := Lib.hid hn
  clear hn
  have hnn : 0 ≤ (n : Int) - 1 := by omega
  go_enter Try.func43, Try.ntmps43
  go_wp2_with fail
  have hfin : Plan ((w.setCell ⟨b, 1, none⟩ (.slice (some ⟨mb, 0, none⟩) (n - 1) mcap)).alloc (.cells #[.int .i64 t1, .int .i64 (p1 : Int)] 50)) b jb mb js (ms.take (n - 1)) now := by
    have h1 := H.out.cut (w1 := w.setCell ⟨b, 1, none⟩ (.slice (some ⟨mb, 0, none⟩) (n - 1) mcap)) (by rw [HN.out]; exact HB.out) (n - 1) (by rw [HN.out]; omega)
      (heap_setCell_at HB.out 1 _) (heap_setCell_ne (Ne.symm (H.out.bj HJ0.out)) _ _) (heap_setCell_ne (Ne.symm (H.out.bm HJ0.out)) _ _)
    exact h1.below (below_alloc1 _ _)
  go_ret
  refine ⟨⟨_, rfl⟩, ?_, ?_⟩
  · rw [HN.out]; exact hfin
  · have hw : Wrote w w (fun k => k = b) := Wrote.refl w _
    exact (hw.set (b := b) rfl _ _).trans (Wrote.of_below (below_alloc1 _ _) _)

theorem len_get {w : World} {b jb mb : Nat} {js : List Jb} {ms : List Mo} {now : Int} (h : Plan w b jb mb js ms now) {n : Nat} (hn : ms.length = n) :
    Calls Try.prog 41 #[.pointer (some ⟨b, 0, none⟩)] w fun e w' => e = .returned (.int .i64 (n : Int)) ∧ w' = w := by
  subst hn
  exact len_any w b jb mb js ms now h
theorem down_get {w : World} {b jb mb : Nat} {js : List Jb} {ms : List Mo} {now : Int} (h : Plan w b jb mb js ms now) (i0 n : Nat) (x y : Int) (hx : x = (i0 : Int)) (hy : y = (n : Int)) (hn : n ≤ ms.length) (hbig : ms.length ≤ 64) (hi0 : i0 ≤ 64) (hh : HeapFrom (mle js) (0, 0) ms n (i0 + 1)) :
    Calls Try.prog 22 #[.iface 53 (.pointer (some ⟨b, 0, none⟩)), .int .i64 x, .int .i64 y] w (DownPost w b jb mb js ms now n i0) := by
  subst hx hy
  exact down_any w b jb mb js ms now h i0 n hn hbig hi0 hh
set_option maxRecDepth 100000 in
set_option maxHeartbeats 2000000 in
theorem up_zero (w : World) (v : Value) : Calls Try.prog 23 #[v, .int .i64 0] w fun e w' => e = .returned (.tuple #[]) ∧ w' = w := by
  go_enter Try.func23, Try.ntmps23
  go_wp2_with fail
  go_loop [1] (fun x => x = .int .i64 0) (fun _ => 0)
  case atStart => rfl
  case round =>
    subst hrel
    go_wp2_with fail
    go_end0
    exact ⟨rfl, rfl⟩
def FixPost (w : World) (b jb mb : Nat) (js : List Jb) (ms : List Mo) (now : Int) (e : Ending) (w' : World) : Prop :=
  e = .returned (.tuple #[]) ∧ ∃ l, Plan w' b jb mb js l now ∧ l.Perm ms ∧ HeapFrom (mle js) (0, 0) l l.length 0 ∧ Wrote w w' (fun k => k = mb)
set_option maxRecDepth 100000 in
set_option maxHeartbeats 2000000 in
theorem fix_any (w : World) (b jb mb : Nat) (js : List Jb) (ms : List Mo) (now : Int) (h : Plan w b jb mb js ms now) (hbig : ms.length ≤ 64) (hh : HeapFrom (mle js) (0, 0) ms ms.length 1) :
    Calls Try.prog 19 #[.iface 53 (.pointer (some ⟨b, 0, none⟩)), .int .i64 0] w (FixPost w b jb mb js ms now) := by
  have H := Lib.hid h
  have HH := Lib.hid hh
  have m1 := method_len ⟨b, 0, none⟩
  generalize hn : ms.length = n at hbig
  have HN := Lib.hid hn
  clear h hh hn
  go_enter Try.func19, Try.ntmps19
  go_wp2_with fail
  refine (len_get H.out HN.out).mono ?_
  rintro e w1 ⟨rfl, hw1⟩
  subst hw1
  go_wp2_with fail
  refine (down_get H.out 0 n _ _ rfl rfl (by rw [HN.out]; exact Nat.le_refl _) (by rw [HN.out]; exact hbig) (by omega) (by rw [← HN.out]; exact HH.out)).mono ?_
  rintro e w2 ⟨⟨r, rfl⟩, l, hp, hperm, _, hheap, hwr⟩
  have hfin : Hid (FixPost w1 b jb mb js ms now (.returned (.tuple #[])) w2) := ⟨rfl, l, hp, hperm, by rw [hperm.length_eq, HN.out]; exact hheap, hwr⟩
  clear hp hperm hheap hwr
  cases r
  · go_wp2_with fail
    refine (up_zero _ _).mono ?_
    rintro e w3 ⟨rfl, hw3⟩
    subst hw3
    go_wp2_with fail
    go_end0
    exact hfin.out
  · go_wp2_with fail
    go_end0
    exact hfin.out
theorem pop_perm (ms l : List Mo) (n : Nat) (hn : ms.length = n) (h0 : 0 < n) (hp : l.Perm (sw (0, 0) ms 0 (n - 1))) (hd : l.drop (n - 1) = (sw (0, 0) ms 0 (n - 1)).drop (n - 1)) :
    (ms.getD 0 (0, 0) :: l.take (l.length - 1)).Perm ms := by
  have hl : l.length = n := by rw [hp.length_eq, sw_len, hn]
  have e : l.drop (n - 1) = [ms.getD 0 (0, 0)] := by
    rw [hd, List.drop_eq_getElem_cons (by rw [sw_len]; omega), List.drop_eq_nil_of_le (by rw [sw_len]; omega)]
    have := sw_get (d := ((0, 0) : Mo)) ms 0 (n - 1) (n - 1) (by omega) (by omega)
    rw [if_pos rfl, getD_get _ _ (by rw [sw_len]; omega)] at this
    rw [this]
  have h1 : (l.take (n - 1) ++ l.drop (n - 1)).Perm ms := by
    rw [List.take_append_drop]
    exact hp.trans (sw_perm ms 0 (n - 1) (by omega) (by omega))
  rw [e] at h1
  rw [hl]
  exact (List.perm_append_comm (l₁ := [ms.getD 0 (0, 0)]) (l₂ := l.take (n - 1))).trans h1
def HpopPost (w : World) (b jb mb : Nat) (js : List Jb) (ms : List Mo) (now : Int) (e : Ending) (w' : World) : Prop :=
  (∃ v, e = .returned v) ∧ ∃ l, Plan w' b jb mb js l now ∧ (ms.getD 0 (0, 0) :: l).Perm ms ∧ HeapFrom (mle js) (0, 0) l l.length 0 ∧ Wrote w w' (fun k => k = mb ∨ k = b)
set_option maxRecDepth 100000 in
set_option maxHeartbeats 2000000 in
theorem hpop_any (w : World) (b jb mb : Nat) (js : List Jb) (ms : List Mo) (now : Int) (h : Plan w b jb mb js ms now) (h0 : 0 < ms.length) (hbig : ms.length ≤ 64) (hh : HeapFrom (mle js) (0, 0) ms ms.length 0) :
    Calls Try.prog 18 #[.iface 53 (.pointer (some ⟨b, 0, none⟩))] w (HpopPost w b jb mb js ms now) := by
  have H := Lib.hid h
  have HH := Lib.hid hh
  have m1 := method_len ⟨b, 0, none⟩
  have m2 := method_swap ⟨b, 0, none⟩
  have m3 := method_pop ⟨b, 0, none⟩
  generalize hn : ms.length = n at *
  have HN := Lib.hid hn
  clear h hh hn
  go_enter Try.func18, Try.ntmps18
  go_wp2_with fail
  refine (len_get H.out HN.out).mono ?_
  rintro e w1 ⟨rfl, hw1⟩
  subst hw1
  go_wp2_with fail
  refine (swap_get H.out 0 (n - 1) _ _ rfl (by omega) (by rw [HN.out]; omega) (by rw [HN.out]; omega) (by rw [HN.out]; omega)).mono ?_
  rintro e w2 ⟨rfl, hp2, hw2⟩
  have HP2 := Lib.hid hp2
  have HW2 := Lib.hid hw2
  clear hp2 hw2
  go_wp2_with fail
  refine (down_get HP2.out 0 (n - 1) _ _ rfl (by omega) (by rw [sw_len, HN.out]; omega) (by rw [sw_len, HN.out]; omega) (by omega) (by
    have := heap_last (d := ((0, 0) : Mo)) (by rw [HN.out]; exact HH.out) (by rw [HN.out]; omega)
    rw [HN.out] at this
    exact this)).mono ?_
  rintro e w3 ⟨⟨r, rfl⟩, l, hp, hperm, hdrop, hheap, hwr⟩
  have HL : Hid (l.length = n) := by unfold Hid; rw [hperm.length_eq, sw_len, HN.out]
  have HP3 := Lib.hid hp
  have HPE := Lib.hid hperm
  have HDR := Lib.hid hdrop
  have HHE := Lib.hid hheap
  have HW3 := Lib.hid hwr
  clear hp hperm hdrop hheap hwr
  go_wp2_with fail
  refine (pop_any _ b jb mb js l now HP3.out (by rw [HL.out]; omega) (by rw [HL.out]; omega)).mono ?_
  rintro e w4 ⟨⟨v, rfl⟩, hp4, hw4⟩
  have hfin : Hid (HpopPost w1 b jb mb js ms now (.returned v) w4) := by
    refine ⟨⟨_, rfl⟩, _, hp4, ?_, ?_, (HW2.out.mono fun _ h => .inl h).trans ((HW3.out.mono fun _ h => .inl h).trans (hw4.mono fun _ h => .inr h))⟩
    · exact pop_perm ms l n HN.out h0 HPE.out HDR.out
    · rw [HL.out, List.length_take, show min (n - 1) l.length = n - 1 from by have := HL.out; omega]
      exact heap_take HHE.out rfl
  clear hp4 hw4
  go_wp2_with fail
  go_ret
  exact hfin.out
def InitPost (w : World) (b jb mb : Nat) (js : List Jb) (ms : List Mo) (now : Int) (e : Ending) (w' : World) : Prop :=
  e = .returned (.tuple #[]) ∧ ∃ l, Plan w' b jb mb js l now ∧ l.Perm ms ∧ HeapFrom (mle js) (0, 0) l l.length 0 ∧ Wrote w w' (fun k => k = mb)
/-- What is known while all are put in order. -/
structure Inits (w wr : World) (b jb mb : Nat) (js : List Jb) (ms l : List Mo) (now : Int) (k : Nat) : Prop where
  plan : Plan wr b jb mb js l now
  perm : l.Perm ms
  heap : HeapFrom (mle js) (0, 0) l ms.length k
  wrote : Wrote w wr (fun k => k = mb)
set_option maxRecDepth 100000 in
set_option maxHeartbeats 2000000 in
theorem init_any (w : World) (b jb mb : Nat) (js : List Jb) (ms : List Mo) (now : Int) (h : Plan w b jb mb js ms now) (hbig : ms.length ≤ 64) :
    Calls Try.prog 21 #[.iface 53 (.pointer (some ⟨b, 0, none⟩))] w (InitPost w b jb mb js ms now) := by
  have m1 := method_len ⟨b, 0, none⟩
  have H : Hid (Inits w w b jb mb js ms ms now (ms.length / 2)) := ⟨h, List.Perm.refl _, heap_start ms _, Wrote.refl _ _⟩
  have HP := Lib.hid h
  generalize hn : ms.length = n at *
  have HN := Lib.hid hn
  clear h hn
  go_enter Try.func21, Try.ntmps21
  go_wp2_with fail
  refine (len_get HP.out HN.out).mono ?_
  rintro e w1 ⟨rfl, hw1⟩
  subst hw1
  clear HP
  go_wp2_with fail
  go_loopg [3] (n / 2) (fun g v wr => ∃ l, g ≤ n / 2 ∧ v = .int .i64 ((g : Int) - 1) ∧ Inits w1 wr b jb mb js ms l now g)
  case atStart => exact ⟨ms, Nat.le_refl _, by go_num, H.out⟩
  case round =>
    obtain ⟨l, hg, rfl, hi⟩ := hrel
    have HI := Lib.hid hi
    clear hi H
    by_cases h0 : gk = 0
    · subst h0
      go_wp2_with fail
      go_end0
      exact ⟨rfl, l, HI.out.plan, HI.out.perm, by rw [HI.out.perm.length_eq]; exact HI.out.heap, HI.out.wrote⟩
    · obtain ⟨g, rfl⟩ : ∃ g, gk = g + 1 := ⟨gk - 1, by omega⟩
      go_wp2_with fail
      refine (down_get HI.out.plan g n _ _ (by omega) rfl (by rw [HI.out.perm.length_eq, HN.out]; exact Nat.le_refl _) (by rw [HI.out.perm.length_eq, HN.out]; exact hbig) (by omega) (by have := HI.out.heap; rw [HN.out] at this; exact this)).mono ?_
      rintro e w2 ⟨⟨r, rfl⟩, l2, hp, hperm, _, hheap, hwr⟩
      have HI2 : Hid (Inits w1 w2 b jb mb js ms l2 now g) := ⟨hp, hperm.trans HI.out.perm, by rw [HN.out]; exact hheap, HI.out.wrote.trans hwr⟩
      clear hp hperm hheap hwr
      go_wp2_with fail
      go_roundg g
      case measure => omega
      case rel => exact ⟨l2, by omega, by go_num, HI2.out⟩
end Go.Proofs.Ytmkbkjnpgdpffaa
