/- What the queue's Len, Less, Swap and Pop do, in whatever world. Conditions: the plan lies in memory, the places are within it. -/
import Derived.Test.YtmkbkjnpgdpffaaBase
namespace Go.Proofs.Ytmkbkjnpgdpffaa
open Go.RowKit

theorem mo_cells {w : World} {mb : Nat} {ms : List Mo} (hc : ∀ j, j < ms.length * 2 → w.cell? ⟨mb, j, none⟩ = (ms.flatMap moL)[j]?) (i : Nat) (hi : i < ms.length) :
    w.cell? ⟨mb, i * 2, none⟩ = some (.int .i64 ms[i].1) ∧ w.cell? ⟨mb, i * 2 + 1, none⟩ = some (.int .i64 (ms[i].2 : Int)) := by
  constructor
  · have := hc (i * 2 + 0) (by omega)
    rw [flat_get moL_len ms i 0 (by omega), List.getElem?_eq_getElem hi] at this
    exact this
  · rw [hc (i * 2 + 1) (by omega), flat_get moL_len ms i 1 (by omega), List.getElem?_eq_getElem hi]
    rfl
theorem jb_cells {w : World} {jb : Nat} {js : List Jb} (hc : ∀ j, j < js.length * 3 → w.cell? ⟨jb, j, none⟩ = (js.flatMap jbL)[j]?) (i : Nat) (hi : i < js.length) :
    w.cell? ⟨jb, i * 3, none⟩ = some (.int .i64 js[i].period) ∧ w.cell? ⟨jb, i * 3 + 1, none⟩ = some (.int .i64 js[i].phase) ∧ w.cell? ⟨jb, i * 3 + 2, none⟩ = some (.int .i64 js[i].rank) := by
  refine ⟨?_, ?_, ?_⟩
  · have := hc (i * 3 + 0) (by omega)
    rw [flat_get jbL_len js i 0 (by omega), List.getElem?_eq_getElem hi] at this
    exact this
  · rw [hc (i * 3 + 1) (by omega), flat_get jbL_len js i 1 (by omega), List.getElem?_eq_getElem hi]
    rfl
  · rw [hc (i * 3 + 2) (by omega), flat_get jbL_len js i 2 (by omega), List.getElem?_eq_getElem hi]
    rfl
theorem rk_get (js : List Jb) (k : Nat) (hk : k < js.length) : rk js k = js[k].rank := by
  unfold rk
  rw [List.getD_eq_getElem?_getD, List.getElem?_map, List.getElem?_eq_getElem hk]
  rfl

theorem len_any (w : World) (b jb mb : Nat) (js : List Jb) (ms : List Mo) (now : Int) (h : Plan w b jb mb js ms now) :
    Calls Try.prog 41 #[.pointer (some ⟨b, 0, none⟩)] w fun e w' => e = .returned (.int .i64 (ms.length : Int)) ∧ w' = w := by
  obtain ⟨jv, mv, hb, _, hm⟩ := h.blk
  have c1 : w.cell? ⟨b, 1, none⟩ = some mv := cell_at hb 1
  have hv : ∃ A cap, mv = .slice A ms.length cap := by
    rcases hm.own.2 with ⟨h1, h2⟩ | ⟨g, cap, _, h1, _⟩
    · exact ⟨none, 0, by rw [h1, h2]⟩
    · exact ⟨_, _, h1⟩
  obtain ⟨A, cap, rfl⟩ := hv
  clear hb hm h
  generalize ms.length = n at *
  go_enter Try.func41, Try.ntmps41
  go_wp2_with fail
  go_ret
  exact ⟨rfl, rfl⟩

theorem below_two (w : World) (o1 o2 : Obj) (k : Nat) : Below w.heap.size w (((w.alloc o1).alloc o2).drewN k) :=
  ((below_alloc1 w o1).alloc (by rw [alloc_size]; omega) o2).trans ⟨rfl, rfl, rfl, Nat.le_refl _, fun _ _ => rfl⟩
set_option maxRecDepth 100000 in
set_option maxHeartbeats 2000000 in
theorem less_any (w : World) (b jb mb : Nat) (js : List Jb) (ms : List Mo) (now : Int) (h : Plan w b jb mb js ms now) (i j : Nat) (hi : i < ms.length) (hj : j < ms.length) (hbig : ms.length ≤ 64) :
    Calls Try.prog 42 #[.pointer (some ⟨b, 0, none⟩), .int .i64 (i : Int), .int .i64 (j : Int)] w fun e w' => e = .returned (.bool (mlt js ms[i] ms[j])) ∧ Below w.heap.size w w' := by
  obtain ⟨jv, mv, hb, hjs, hm⟩ := h.blk
  have k1 := h.jlt ms[i] (List.getElem_mem hi)
  have k2 := h.jlt ms[j] (List.getElem_mem hj)
  obtain ⟨mcap, rfl, hmc, _⟩ := hm.form (by omega)
  obtain ⟨jcap, rfl, hjc, _⟩ := hjs.form (by omega)
  have c0 : w.cell? ⟨b, 0, none⟩ = some (.slice (some ⟨jb, 0, none⟩) js.length jcap) := cell_at hb 0
  have c1 : w.cell? ⟨b, 1, none⟩ = some (.slice (some ⟨mb, 0, none⟩) ms.length mcap) := cell_at hb 1
  obtain ⟨a0, a1⟩ := mo_cells hmc i hi
  obtain ⟨b0, b1⟩ := mo_cells hmc j hj
  have r1 := (jb_cells hjc _ k1).2.2
  have r2 := (jb_cells hjc _ k2).2.2
  have HL : Hid (mlt js ms[i] ms[j] = if ms[i].1 = ms[j].1 then (if js[ms[i].2].rank = js[ms[j].2].rank then decide (ms[i].2 < ms[j].2) else decide (js[ms[i].2].rank < js[ms[j].2].rank)) else decide (ms[i].1 < ms[j].1)) := by
    unfold Hid mlt
    rw [rk_get js _ k1, rk_get js _ k2]
  have hbl := lt_of_at hb
  have hjl : jb < w.heap.size := by
    rcases hjs.own.lt jb rfl with ⟨_, h⟩
    exact h
  have hml : mb < w.heap.size := by
    rcases hm.own.lt mb rfl with ⟨_, h⟩
    exact h
  generalize mlt js ms[i] ms[j] = L at *
  clear hb hjs hm hmc hjc h
  generalize js[ms[i].2].rank = x at *
  generalize js[ms[j].2].rank = y at *
  generalize ms[i].1 = t1 at *
  generalize ms[j].1 = t2 at *
  generalize ms[i].2 = p1 at *
  generalize ms[j].2 = p2 at *
  generalize ms.length = n at *
  generalize js.length = m at *
  by_cases e1 : t1 = t2
  · have z1 : (t1 != t2) = false := by rw [e1]; simp
    by_cases e2 : x = y
    · have z2 : (x != y) = false := by rw [e2]; simp
      have HV : Hid (L = decide (p1 < p2)) := by unfold Hid; rw [HL.out, if_pos e1, if_pos e2]
      clear e1 e2 HL
      go_enter Try.func42, Try.ntmps42
      go_wp2_with fail
      go_region
      all_goals
        go_wp2_with fail
        go_quiet (fail)
        go_wp2_with fail
        go_ret
        exact ⟨by rw [HV.out]; rfl, below_two _ _ _ _⟩
    · have z2 : (x != y) = true := by rw [bne_iff_ne]; exact e2
      have HV : Hid (L = decide (x < y)) := by unfold Hid; rw [HL.out, if_pos e1, if_neg e2]
      clear e1 e2 HL
      go_enter Try.func42, Try.ntmps42
      go_wp2_with fail
      go_region
      all_goals
        go_wp2_with fail
        go_quiet (fail)
        go_wp2_with fail
        go_ret
        exact ⟨by rw [HV.out]; rfl, below_two _ _ _ _⟩
  · have z1 : (t1 != t2) = true := by rw [bne_iff_ne]; exact e1
    have HV : Hid (L = decide (t1 < t2)) := by unfold Hid; rw [HL.out, if_neg e1]
    clear e1 HL
    go_enter Try.func42, Try.ntmps42
    go_wp2_with fail
    go_region
    all_goals
      go_wp2_with fail
      go_quiet (fail)
      go_wp2_with fail
      go_ret
      exact ⟨by rw [HV.out]; rfl, below_two _ _ _ _⟩
end Go.Proofs.Ytmkbkjnpgdpffaa
