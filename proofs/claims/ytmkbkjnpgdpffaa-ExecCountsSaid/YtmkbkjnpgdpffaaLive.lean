/- A plan at its tick: what Due and Now answer then; no plan; whether two lists are the same. Conditions: the plan lies in memory. -/
import Derived.Test.YtmkbkjnpgdpffaaTicks
namespace Go.Proofs.Ytmkbkjnpgdpffaa
open Go.RowKit

/-- Jobs that are sound. -/
structure Sound (js : List Jb) : Prop where
  good : Good js
  few : js.length ≤ 64
  hi : ∀ j ∈ js, j.period ≤ top
def Live (w : World) (b jb mb : Nat) (js : List Jb) (t : Nat) : Prop :=
  ∃ ms, Plan w b jb mb js ms (t : Int) ∧ HeapFrom (mle js) (0, 0) ms ms.length 0 ∧ At js t ms ∧ jb < w.heap.size ∧ mb < w.heap.size
theorem Live.below {w w1 : World} {b jb mb : Nat} {js : List Jb} {t : Nat} (h : Live w b jb mb js t) (hb : Below w.heap.size w w1) : Live w1 b jb mb js t := by
  obtain ⟨ms, h1, h2, h3, h4, h5⟩ := h
  exact ⟨ms, h1.below hb, h2, h3, Nat.lt_of_lt_of_le h4 hb.size, Nat.lt_of_lt_of_le h5 hb.size⟩
theorem Live.wrote {w w1 : World} {b jb mb : Nat} {js : List Jb} {t : Nat} (h : Live w b jb mb js t) {S : Nat → Prop} (hw : Wrote w w1 S) (h1 : ¬ S b) (h2 : ¬ S jb) (h3 : ¬ S mb) : Live w1 b jb mb js t := by
  obtain ⟨ms, k1, k2, k3, k4, k5⟩ := h
  exact ⟨ms, k1.wrote hw h1 h2 h3, k2, k3, Nat.lt_of_lt_of_le k4 hw.size, Nat.lt_of_lt_of_le k5 hw.size⟩
theorem Live.lt {w : World} {b jb mb : Nat} {js : List Jb} {t : Nat} (h : Live w b jb mb js t) : b < w.heap.size := by
  obtain ⟨ms, h1, _⟩ := h
  obtain ⟨_, _, hb, _⟩ := h1.blk
  exact lt_of_at hb
theorem Sound.pr {js : List Jb} (h : Sound js) {k : Nat} (hk : k < js.length) : 1 ≤ pr js k ∧ pr js k ≤ top := by
  rw [pr_get js k hk]
  refine ⟨(h.good k hk).1, h.hi _ ?_⟩
  rw [List.getD_eq_getElem?_getD, List.getElem?_eq_getElem hk]
  exact List.getElem_mem hk
def intL (k : Nat) : Value := .int .i64 (k : Int)
def DuesPost (w : World) (b jb mb : Nat) (js : List Jb) (t : Nat) (e : Ending) (w' : World) : Prop :=
  ∃ v, e = .returned v ∧ w'.ownsRow w.heap.size 3 1 v (due js t).length ((due js t).map intL) ∧ Live w' b jb mb js (t + 1) ∧ Wrote w w' (fun k => k = mb ∨ k = b)
theorem due_live (w : World) (b jb mb : Nat) (js : List Jb) (t : Nat) (h : Live w b jb mb js t) (hs : Sound js) (ht : t ≤ 1000000) : Calls Try.prog 10 #[.pointer (some ⟨b, 0, none⟩)] w (DuesPost w b jb mb js t) := by
  obtain ⟨ms, h1, h2, h3, h4, h5⟩ := h
  have htop : (t : Int) ≤ top := by unfold top; omega
  have hj := at_job hs.good h3
  refine (due_any w b jb mb js ms t h1 h2 (Nat.le_trans (at_len h3) hs.few) (fun x hx => (hs.pr (hj x hx).1).1) (fun x hx => (hs.pr (hj x hx).1).2) (fun x hx => (hj x hx).2) (by omega) (by omega) h4 h5).mono ?_
  rintro e w' ⟨v, o, l, rfl, ho, htold, hp, hh, hw⟩
  have hd := told_due hs.good htop h3 htold
  refine ⟨v, rfl, ?_, ⟨l, ?_, hh, told_at h3 htold, Nat.lt_of_lt_of_le h4 hw.size, Nat.lt_of_lt_of_le h5 hw.size⟩, hw⟩
  · rw [← hd, List.length_map, List.map_map]
    exact ho
  · rw [Int.natCast_add]; exact hp
theorem now_live (w : World) (b jb mb : Nat) (js : List Jb) (t : Nat) (h : Live w b jb mb js t) : Calls Try.prog 9 #[.pointer (some ⟨b, 0, none⟩)] w fun e w' => e = .returned (.int .i64 (t : Int)) ∧ w' = w := by
  obtain ⟨ms, h1, _⟩ := h
  obtain ⟨_, _, hb, _⟩ := h1.blk
  have c2 : w.cell? ⟨b, 2, none⟩ = some (.int .i64 (t : Int)) := cell_at hb 2
  clear hb h1
  go_enter Try.func9, Try.ntmps9
  go_wp2_with fail
  go_ret
  exact ⟨rfl, rfl⟩
theorem now_nil (w : World) : Calls Try.prog 9 #[.pointer none] w fun e w' => e = .returned (.int .i64 0) ∧ w' = w := by
  go_enter Try.func9, Try.ntmps9
  go_wp2_with fail
  go_ret
  exact ⟨rfl, rfl⟩
theorem due_nil (w : World) : Calls Try.prog 10 #[.pointer none] w fun e w' => e = .returned (.slice none 0 0) ∧ w' = w := by
  go_enter Try.func10, Try.ntmps10
  go_wp2_with fail
  go_ret
  exact ⟨rfl, rfl⟩
/-- A list of numbers that can be read. -/
def Ints (w : World) (v : Value) (l : List Nat) : Prop :=
  ∃ A cap, v = .slice A l.length cap ∧ l.length ≤ cap ∧ (l = [] ∨ ∃ g off, A = some ⟨g, off, none⟩ ∧ g < w.heap.size ∧ ∀ i, i < l.length → w.cell? ⟨g, off + i, none⟩ = some (.int .i64 (l.getD i 0 : Int)))
theorem Ints.below {w w1 : World} {v : Value} {l : List Nat} (h : Ints w v l) (hb : Below w.heap.size w w1) : Ints w1 v l := by
  obtain ⟨A, cap, hv, hc, h1⟩ := h
  refine ⟨A, cap, hv, hc, ?_⟩
  rcases h1 with h1 | ⟨g, off, ha, hg, h2⟩
  · exact .inl h1
  · exact .inr ⟨g, off, ha, Nat.lt_of_lt_of_le hg hb.size, fun i hi => (hb.cell (p := ⟨g, _, none⟩) hg).trans (h2 i hi)⟩
theorem Ints.wrote {w w1 : World} {v : Value} {l : List Nat} (h : Ints w v l) {S : Nat → Prop} (hw : Wrote w w1 S) (hS : ∀ g, v.ownBlock = some g → ¬ S g) : Ints w1 v l := by
  obtain ⟨A, cap, hv, hc, h1⟩ := h
  refine ⟨A, cap, hv, hc, ?_⟩
  rcases h1 with h1 | ⟨g, off, ha, hg, h2⟩
  · exact .inl h1
  · refine .inr ⟨g, off, ha, Nat.lt_of_lt_of_le hg hw.size, fun i hi => (hw.cell hg (hS g ?_) _).trans (h2 i hi)⟩
    rw [hv, ha]; rfl
theorem ints_own {w : World} {B : Nat} {v : Value} {l : List Nat} (h : w.ownsRow B 3 1 v l.length (l.map intL)) : Ints w v l := by
  rcases h.2 with ⟨hv, hn⟩ | ⟨g, cap, cur, hv, _, hg, hc, _, _, ht⟩
  · exact ⟨none, 0, by rw [hv, hn], by omega, .inl (List.eq_nil_of_length_eq_zero hn)⟩
  · refine ⟨_, cap, hv, hc, .inr ⟨g, 0, rfl, lt_of_at hg, fun i hi => ?_⟩⟩
    rw [cell_at hg, Nat.zero_add]
    have h1 : (cur.toList.take (l.length * 1))[i]? = some (intL (l.getD i 0)) := by
      rw [ht, List.getElem?_map, List.getD_eq_getElem?_getD, List.getElem?_eq_getElem hi]
      rfl
    rw [Nat.mul_one, List.getElem?_take, if_pos hi] at h1
    simpa [intL] using h1
set_option maxRecDepth 100000 in
set_option maxHeartbeats 1000000 in
theorem same_any (w : World) (v u : Value) (l : List Nat) (hv : Ints w v l) (hu : Ints w u l) (hl : l.length ≤ 9223372036854775807) : Calls Try.prog 11 #[v, u] w fun e w' => e = .returned (.bool true) ∧ Below w.heap.size w w' := by
  obtain ⟨A, cap, rfl, _, h1⟩ := hv
  obtain ⟨A', cap', rfl, _, h2⟩ := hu
  have hz : ((l.length : Int) != (l.length : Int)) = false := by simp
  by_cases h0 : l = []
  · subst h0
    clear h1 h2
    go_enter Try.func11, Try.ntmps11
    go_wp2_with fail
    go_loop [5] (fun i => i = .int .i64 0) (fun _ => 0)
    case atStart => rfl
    case round =>
      subst hrel
      go_wp2_with fail
      go_ret
      exact ⟨rfl, Below.refl _ _⟩
  · obtain ⟨g, off, rfl, hg, hc⟩ := h1.resolve_left h0
    obtain ⟨g', off', rfl, hg', hc'⟩ := h2.resolve_left h0
    have HC := Lib.hid hc
    have HC' := Lib.hid hc'
    clear h1 h2 hc hc' h0
    generalize hn : l.length = n at *
    clear hn
    go_enter Try.func11, Try.ntmps11
    go_wp2_with fail
    go_loopw [5] (fun i wr => ∃ k : Nat, k ≤ n ∧ i = .int .i64 k ∧ Below w.heap.size w wr) (fun i _ => n - (intOf i).toNat)
    case atStart => exact ⟨0, Nat.zero_le _, rfl, Below.refl _ _⟩
    case round =>
      obtain ⟨k, hk, rfl, hb⟩ := hrel
      have HB := Lib.hid hb
      clear hb
      by_cases hlt : k < n
      · have c1 := (HB.out.cell (p := ⟨g, off + k, none⟩) hg).trans (HC.out k hlt)
        have c2 := (HB.out.cell (p := ⟨g', off' + k, none⟩) hg').trans (HC'.out k hlt)
        generalize (l.getD k 0) = x at *
        have hx : ((x : Int) != (x : Int)) = false := by simp
        go_wp2_with fail
        go_quiet (fail)
        go_wp2_with fail
        go_roundw
        case rel => exact ⟨k + 1, by omega, by go_num, HB.out.trans ⟨rfl, rfl, rfl, Nat.le_refl _, fun _ _ => rfl⟩⟩
        case measure => simp [intOf]; omega
      · go_wp2_with fail
        go_ret
        exact ⟨rfl, HB.out⟩
end Go.Proofs.Ytmkbkjnpgdpffaa
