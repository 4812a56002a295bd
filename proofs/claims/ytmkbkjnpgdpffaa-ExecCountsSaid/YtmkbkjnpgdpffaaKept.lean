/- Whether lent jobs are as they were; what Check answers. Conditions: the jobs can be read. -/
import Derived.Test.YtmkbkjnpgdpffaaLent
namespace Go.Proofs.Ytmkbkjnpgdpffaa
open Go.RowKit

theorem LentRow.cells {w : World} {B g cap : Nat} {js : List Jb} (h : w.ownsRow B 36 3 (.slice (some ⟨g, 0, none⟩) (js.length + 1) cap) (js.length + 1) ((js ++ [mark]).flatMap jbL)) :
    (∀ i, i < js.length → w.cell? ⟨g, i * 3, none⟩ = some (.int .i64 (js.getD i jd).period) ∧ w.cell? ⟨g, i * 3 + 1, none⟩ = some (.int .i64 (js.getD i jd).phase) ∧ w.cell? ⟨g, i * 3 + 2, none⟩ = some (.int .i64 (js.getD i jd).rank)) ∧
    (w.cell? ⟨g, js.length * 3, none⟩ = some (.int .i64 (-77)) ∧ w.cell? ⟨g, js.length * 3 + 1, none⟩ = some (.int .i64 0) ∧ w.cell? ⟨g, js.length * 3 + 2, none⟩ = some (.int .i64 0)) := by
  have hall : ∀ i, i < js.length + 1 → w.cell? ⟨g, i * 3, none⟩ = some (.int .i64 ((js ++ [mark]).getD i jd).period) ∧ w.cell? ⟨g, i * 3 + 1, none⟩ = some (.int .i64 ((js ++ [mark]).getD i jd).phase) ∧ w.cell? ⟨g, i * 3 + 2, none⟩ = some (.int .i64 ((js ++ [mark]).getD i jd).rank) := by
    intro i hi
    obtain ⟨a, b, c⟩ := flat_at (js ++ [mark]) i (by simp; omega)
    exact ⟨(h.cellAt _ (by omega)).trans a, (h.cellAt _ (by omega)).trans b, (h.cellAt _ (by omega)).trans c⟩
  refine ⟨fun i hi => ?_, ?_⟩
  · have := hall i (by omega)
    rw [show (js ++ [mark]).getD i jd = js.getD i jd from by rw [List.getD_eq_getElem?_getD, List.getD_eq_getElem?_getD, List.getElem?_append_left hi]] at this
    exact this
  · have := hall js.length (by omega)
    rw [show (js ++ [mark]).getD js.length jd = mark from by rw [List.getD_eq_getElem?_getD, List.getElem?_append_right (Nat.le_refl _), Nat.sub_self]; rfl] at this
    exact this
theorem LentRow.caps {w : World} {B g cap : Nat} {js : List Jb} (h : w.ownsRow B 36 3 (.slice (some ⟨g, 0, none⟩) (js.length + 1) cap) (js.length + 1) ((js ++ [mark]).flatMap jbL)) : js.length + 1 ≤ cap ∧ cap ≤ 9223372036854775807 ∧ g < w.heap.size ∧ B ≤ g := by
  rcases h.2 with ⟨h1, _⟩ | ⟨g', cap', cur, h1, h2, h3, h4, h5, h6, h7⟩
  · cases h1
  · injection h1 with h1 h8 h9
    injection h1 with h1
    injection h1 with h1
    subst h1 h9
    unfold maxLen at h5
    exact ⟨h4, by omega, lt_of_at h3, h2⟩
theorem LentRow.jr {w : World} {B : Nat} {v : Value} {js : List Jb} (h : LentRow w B v js) (hb : js.length * 24 ≤ 140737488351232) : JR w v js := by
  obtain ⟨g, cap, rfl, h1⟩ := h
  refine ⟨hb, .inr ⟨_, cap, rfl, .inr ⟨g, 0, rfl, (LentRow.caps h1).2.2.1, fun i hi => ?_⟩⟩⟩
  rw [Nat.zero_add]
  exact (LentRow.cells h1).1 i hi
theorem JR.at {w : World} {v : Value} {js : List Jb} (h : JR w v js) : (js = [] ∧ ∃ A cap, v = .slice A 0 cap) ∨ ∃ g off cap, v = .slice (some ⟨g, off, none⟩) js.length cap ∧ g < w.heap.size ∧
    ∀ i, i < js.length → w.cell? ⟨g, off + i * 3, none⟩ = some (.int .i64 (js.getD i jd).period) ∧ w.cell? ⟨g, off + i * 3 + 1, none⟩ = some (.int .i64 (js.getD i jd).phase) ∧ w.cell? ⟨g, off + i * 3 + 2, none⟩ = some (.int .i64 (js.getD i jd).rank) := by
  rcases h.2 with ⟨hv, h1⟩ | ⟨ad, cap, hv, h1⟩
  · exact .inl ⟨h1, none, 0, hv⟩
  · rcases h1 with h1 | ⟨g, off, ha, hg, hc⟩
    · exact .inl ⟨h1, some ad, cap, by rw [hv, h1]; rfl⟩
    · exact .inr ⟨g, off, cap, by rw [hv, ha], hg, hc⟩
set_option maxRecDepth 100000 in
set_option maxHeartbeats 1000000 in
theorem kept_any (w : World) (v u : Value) (js : List Jb) (B : Nat) (hv : LentRow w B v js) (hu : JR w u js) : Calls Try.prog 17 #[v, u] w fun e w' => e = .returned (.bool true) ∧ Below w.heap.size w w' := by
  obtain ⟨g, cap, rfl, hrow⟩ := hv
  obtain ⟨hc1, hc2, hgl, _⟩ := LentRow.caps hrow
  obtain ⟨hcell, hm0, hm1, hm2⟩ := LentRow.cells hrow
  have hsm := hu.small
  have hsm2 := hu.1
  rcases hu.at with ⟨rfl, A, cap', rfl⟩ | ⟨g', off', cap', rfl, hgl', hcell'⟩
  · clear hu hrow hcell
    simp only [List.length_nil, Nat.zero_mul, Nat.zero_add] at *
    go_enter Try.func17, Try.ntmps17
    go_wp2_with fail
    go_loop [5] (fun i => i = .int .i64 0) (fun _ => 0)
    case atStart => rfl
    case round =>
      subst hrel
      go_wp2_with fail
      go_ret
      exact ⟨rfl, Below.refl _ _⟩
  · have HC := Lib.hid hcell
    have HC' := Lib.hid hcell'
    clear hu hrow hcell hcell'
    generalize hn : js.length = n at *
    clear hn
    go_enter Try.func17, Try.ntmps17
    go_wp2_with fail
    go_loopw [5] (fun i wr => ∃ k : Nat, k ≤ n ∧ i = .int .i64 k ∧ Below w.heap.size w wr) (fun i _ => n - (intOf i).toNat)
    case atStart => exact ⟨0, Nat.zero_le _, rfl, Below.refl _ _⟩
    case round =>
      obtain ⟨k, hk, rfl, hb⟩ := hrel
      have HB := Lib.hid hb
      clear hb
      by_cases hlt : k < n
      · obtain ⟨p0, p1, p2⟩ := HC.out k hlt
        obtain ⟨q0, q1, q2⟩ := HC'.out k hlt
        have c0 := (HB.out.cell (p := ⟨g, k * 3, none⟩) hgl).trans p0
        have c1 := (HB.out.cell (p := ⟨g, k * 3 + 1, none⟩) hgl).trans p1
        have c2 := (HB.out.cell (p := ⟨g, k * 3 + 2, none⟩) hgl).trans p2
        have d0 := (HB.out.cell (p := ⟨g', off' + k * 3, none⟩) hgl').trans q0
        have d1 := (HB.out.cell (p := ⟨g', off' + k * 3 + 1, none⟩) hgl').trans q1
        have d2 := (HB.out.cell (p := ⟨g', off' + k * 3 + 2, none⟩) hgl').trans q2
        clear p0 p1 p2 q0 q1 q2
        generalize (js.getD k jd).period = x at *
        generalize (js.getD k jd).phase = y at *
        generalize (js.getD k jd).rank = z at *
        have hx : ((x : Int) != (x : Int)) = false := by simp
        go_wp2_with fail
        go_quiet (fail)
        go_wp2_with fail
        go_roundw
        case rel => exact ⟨k + 1, by omega, by go_num, HB.out.trans ⟨rfl, rfl, rfl, Nat.le_refl _, fun _ _ => rfl⟩⟩
        case measure => simp [intOf]; omega
      · have m0 := (HB.out.cell (p := ⟨g, n * 3, none⟩) hgl).trans hm0
        have m1 := (HB.out.cell (p := ⟨g, n * 3 + 1, none⟩) hgl).trans hm1
        have m2 := (HB.out.cell (p := ⟨g, n * 3 + 2, none⟩) hgl).trans hm2
        clear hm0 hm1 hm2
        go_wp2_with fail
        go_ret
        exact ⟨rfl, HB.out⟩
end Go.Proofs.Ytmkbkjnpgdpffaa
