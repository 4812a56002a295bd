/- What the queue's Swap and Pop do, in whatever world. Conditions: the plan lies in memory, the places are within it. -/
import Derived.Test.YtmkbkjnpgdpffaaQueue
namespace Go.Proofs.Ytmkbkjnpgdpffaa
open Go.RowKit

theorem set_same {w : World} {g : Nat} {cs : Array Value} {t : TypeId} {fr : Nat × Nat} (hg : w.heap[g]? = some (.cells cs t fr)) (i j : Nat) (v u : Value) (hj : cs[j]? = some u) (he : i = j → v = u) :
    (w.setCell ⟨g, i, none⟩ v).cell? ⟨g, j, none⟩ = some u := by
  rw [cell_at (heap_setCell_at hg i v) j, Array.getElem?_setIfInBounds]
  by_cases h : i = j
  · subst h
    have := (Array.getElem?_eq_some_iff.1 hj).1
    rw [if_pos rfl, if_pos this, he rfl]
  · rw [if_neg h, hj]
theorem Plan.kept {w w1 : World} {b jb mb : Nat} {js : List Jb} {ms : List Mo} {now : Int} (h : Plan w b jb mb js ms now) (h1 : w1.heap[b]? = w.heap[b]?) (h2 : w1.heap[jb]? = w.heap[jb]?) (h3 : w1.heap[mb]? = w.heap[mb]?) : Plan w1 b jb mb js ms now := by
  obtain ⟨jv, mv, hb, hj, hm⟩ := h.blk
  exact ⟨⟨jv, mv, h1.trans hb, hj.kept h2, hm.kept h3⟩, h.jlt, h.sep⟩
theorem Plan.drewN {w : World} {b jb mb : Nat} {js : List Jb} {ms : List Mo} {now : Int} (h : Plan w b jb mb js ms now) (n : Nat) : Plan (w.drewN n) b jb mb js ms now := h.kept rfl rfl rfl
set_option maxRecDepth 100000 in
set_option maxHeartbeats 2000000 in
theorem swap_any (w : World) (b jb mb : Nat) (js : List Jb) (ms : List Mo) (now : Int) (h : Plan w b jb mb js ms now) (i j : Nat) (hi : i < ms.length) (hj : j < ms.length) (hbig : ms.length ≤ 64) :
    Calls Try.prog 44 #[.pointer (some ⟨b, 0, none⟩), .int .i64 (i : Int), .int .i64 (j : Int)] w fun e w' => e = .returned (.tuple #[]) ∧ Plan w' b jb mb js (sw (0, 0) ms i j) now ∧ Wrote w w' (fun k => k = mb) := by
  have H := Lib.hid h
  obtain ⟨jv, mv, hb, hjs, hm⟩ := h.blk
  obtain ⟨mcap, rfl, hmc, hmf⟩ := hm.form (by omega)
  have c1 : w.cell? ⟨b, 1, none⟩ = some (.slice (some ⟨mb, 0, none⟩) ms.length mcap) := cell_at hb 1
  obtain ⟨a0, a1⟩ := mo_cells hmc i hi
  obtain ⟨b0, b1⟩ := mo_cells hmc j hj
  have f0 := hmf (i * 2)
  have f1 := hmf (i * 2 + 1)
  have g0 := hmf (j * 2)
  have g1 := hmf (j * 2 + 1)
  have hrow : ∃ cs t fr, w.heap[mb]? = some (.cells cs t fr) := by
    rcases hm.own.2 with ⟨h1, _⟩ | ⟨g, cap, cur, h1, _, h2, _⟩
    · cases h1
    · injection h1 with h1
      injection h1 with h1
      injection h1 with h1
      subst h1
      exact ⟨_, _, _, h2⟩
  obtain ⟨cs, ty, fr, hrow⟩ := hrow
  have b0' : cs[j * 2]? = some (.int .i64 ms[j].1) := by rw [← cell_at hrow]; exact b0
  have b1' : cs[j * 2 + 1]? = some (.int .i64 (ms[j].2 : Int)) := by rw [← cell_at hrow]; exact b1
  have q0 := set_same hrow (i * 2) (j * 2) (.int .i64 ms[j].1) _ b0' (fun _ => rfl)
  have q1 : ((w.setCell ⟨mb, i * 2, none⟩ (.int .i64 ms[j].1)).setCell ⟨mb, i * 2 + 1, none⟩ (.int .i64 (ms[j].2 : Int))).cell? ⟨mb, j * 2 + 1, none⟩ = some (.int .i64 (ms[j].2 : Int)) :=
    set_same (heap_setCell_at hrow (i * 2) _) (i * 2 + 1) (j * 2 + 1) _ _ (by rw [Array.getElem?_setIfInBounds, if_neg (by omega)]; exact b1') (fun _ => rfl)
  have HS : Hid (ms.getD j (0, 0) = (ms[j].1, ms[j].2) ∧ ms.getD i (0, 0) = (ms[i].1, ms[i].2)) := by
    constructor
    · rw [List.getD_eq_getElem?_getD, List.getElem?_eq_getElem hj]; rfl
    · rw [List.getD_eq_getElem?_getD, List.getElem?_eq_getElem hi]; rfl
  have k1 := H.out.jlt ms[i] (List.getElem_mem hi)
  have k2 := H.out.jlt ms[j] (List.getElem_mem hj)
  clear hb hjs hm hmc hmf h hrow b0' b1'
  generalize ms[i].1 = t1 at *
  generalize ms[j].1 = t2 at *
  generalize ms[i].2 = p1 at *
  generalize ms[j].2 = p2 at *
  generalize hn : ms.length = n at *
  have HN := Lib.hid hn
  clear hn
  go_enter Try.func44, Try.ntmps44
  go_wp2_with fail
  go_region
  go_end0
  refine ⟨rfl, ?_, ?_⟩
  · have h1 := H.out.setMo i (t2, p2) (by rw [HN.out]; exact hi) k2
    have h2 := h1.setMo j (t1, p1) (by rw [List.length_set, HN.out]; exact hj) k1
    have e : sw (0, 0) ms i j = (ms.set i (t2, p2)).set j (t1, p1) := by
      unfold sw
      rw [HS.out.1, HS.out.2]
    rw [e]
    exact h2.drewN 1
  · have hw : Wrote w w (fun k => k = mb) := Wrote.refl w _
    exact ((((hw.set (b := mb) rfl _ _).set (b := mb) rfl _ _).set (b := mb) rfl _ _).set (b := mb) rfl _ _).drew
end Go.Proofs.Ytmkbkjnpgdpffaa
