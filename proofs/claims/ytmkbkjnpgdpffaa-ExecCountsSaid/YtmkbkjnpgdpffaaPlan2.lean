/- The walk of a statement's own plan. Conditions: the jobs can be read. -/
import Derived.Test.YtmkbkjnpgdpffaaPlan
namespace Go.Proofs.Ytmkbkjnpgdpffaa
open Go.RowKit

theorem Made.wrote {w w1 w2 : World} {js : List Jb} {pv : Value} {c : Int} (h : Made w js pv c w1) {S : Nat → Prop} (hw : Wrote w1 w2 S) (hS : ∀ k, S k → k < w.heap.size) : Made w js pv c w2 := by
  refine ⟨h.1, ?_⟩
  rcases h.2 with h1 | ⟨h1, b, jb, mb, hp, hl, k1, k2, k3⟩
  · exact .inl h1
  · exact .inr ⟨h1, b, jb, mb, hp, hl.wrote hw (fun s => by have := hS _ s; omega) (fun s => by have := hS _ s; omega) (fun s => by have := hS _ s; omega), k1, k2, k3⟩
theorem Made.below {w w1 w2 : World} {js : List Jb} {pv : Value} {c : Int} (h : Made w js pv c w1) (hb : Below w1.heap.size w1 w2) : Made w js pv c w2 := by
  refine ⟨h.1, ?_⟩
  rcases h.2 with h1 | ⟨h1, b, jb, mb, hp, hl, k1, k2, k3⟩
  · exact .inl h1
  · exact .inr ⟨h1, b, jb, mb, hp, hl.below hb, k1, k2, k3⟩
theorem Made.from {w w0 w1 : World} {js : List Jb} {pv : Value} {c : Int} (h : Made w js pv c w1) (hle : w0.heap.size ≤ w.heap.size) : Made w0 js pv c w1 := by
  refine ⟨h.1, ?_⟩
  rcases h.2 with h1 | ⟨h1, b, jb, mb, hp, hl, k1, k2, k3⟩
  · exact .inl h1
  · exact .inr ⟨h1, b, jb, mb, hp, hl, by omega, by omega, by omega⟩
def PlanPost (w : World) (js : List Jb) (e : Ending) (w' : World) : Prop := ∃ pv c, e = .returned (.tuple #[pv, .bool true]) ∧ Made w js pv c w' ∧ Below w.heap.size w w'
/-- The lent row, from place k on as it was. -/
structure Rest (w2 wr : World) (g : Nat) (cur0 : Array Value) (k : Nat) : Prop where
  wrote : Wrote w2 wr (fun j => j = g)
  row : ∃ cur, wr.heap[g]? = some (.cells cur 36 (0, 0)) ∧ ∀ j, k * 3 ≤ j → cur[j]? = cur0[j]?
theorem Rest.step {w2 wr : World} {g : Nat} {cur0 : Array Value} {k : Nat} (h : Rest w2 wr g cur0 k) (a b c : Value) (n : Nat) :
    Rest w2 ((((wr.drewN n).setCell ⟨g, k * 3, none⟩ a).setCell ⟨g, k * 3 + 1, none⟩ b).setCell ⟨g, k * 3 + 2, none⟩ c) g cur0 (k + 1) := by
  obtain ⟨cur, h1, h2⟩ := h.row
  have h1' : (wr.drewN n).heap[g]? = some (.cells cur 36 (0, 0)) := h1
  refine ⟨(((h.wrote.drewN n).set (b := g) rfl _ _).set (b := g) rfl _ _).set (b := g) rfl _ _, _, heap_setCell_at (heap_setCell_at (heap_setCell_at h1' _ _) _ _) _ _, fun j hj => ?_⟩
  rw [Array.getElem?_setIfInBounds, if_neg (by omega), Array.getElem?_setIfInBounds, if_neg (by omega), Array.getElem?_setIfInBounds, if_neg (by omega)]
  exact h2 j (by omega)
set_option maxRecDepth 100000 in
set_option maxHeartbeats 1000000 in
theorem plan_any (w : World) (v : Value) (js : List Jb) (h : JR w v js) : Calls Try.prog 7 #[v] w (PlanPost w js) := by
  have HU := Lib.hid h
  have hs := h.small
  have hbt := h.1
  clear h
  obtain ⟨A, cap, hv⟩ := HU.out.form
  subst hv
  go_enter Try.func7, Try.ntmps7
  go_wp2_with fail
  refine (lent_any w _ js HU.out).mono ?_
  rintro e w1 ⟨v1, rfl, hrow, hb1⟩
  have HR := Lib.hid hrow
  have HB1 := Lib.hid hb1
  clear hrow hb1
  go_wp2_with fail
  refine (new_made w1 v1 js (HR.out.jr hbt)).mono ?_
  rintro e w2 ⟨pv, c, rfl, hmade, hb2⟩
  have HM := Lib.hid hmade
  have HB2 := Lib.hid hb2
  clear hmade hb2
  go_wp2_with fail
  refine (check_any w2 _ js (HU.out.below (below_next HB1.out HB2.out))).mono ?_
  rintro e w3 ⟨c', rfl, hcode, hw3⟩
  subst hw3
  have hcc : c' = c := hcode.one HM.out.1
  subst hcc
  clear hcode
  obtain ⟨g, gcap, hv1, hrow⟩ := HR.out
  subst hv1
  obtain ⟨hc1, hc2, hgl, hgb⟩ := LentRow.caps hrow
  obtain ⟨cur0, hcur⟩ : ∃ cur, w3.heap[g]? = some (.cells cur 36 (0, 0)) := by
    rcases hrow.2 with ⟨h1, _⟩ | ⟨g', cap', cur, h1, h2, h3, _⟩
    · cases h1
    · injection h1 with h1 h8 h9
      injection h1 with h1
      injection h1 with h1
      subst h1
      exact ⟨cur, (HB2.out.block g hgl).trans h3⟩
  have hown : Hid (∀ i, i < js.length → cur0[i * 3]? = some (.int .i64 (js.getD i jd).period) ∧ cur0[i * 3 + 1]? = some (.int .i64 (js.getD i jd).phase) ∧ cur0[i * 3 + 2]? = some (.int .i64 (js.getD i jd).rank)) := by
    intro i hi
    obtain ⟨p0, p1, p2⟩ := (LentRow.cells hrow).1 i hi
    rw [← cell_at hcur, ← cell_at hcur, ← cell_at hcur]
    exact ⟨(HB2.out.cell (p := ⟨g, _, none⟩) hgl).trans p0, (HB2.out.cell (p := ⟨g, _, none⟩) hgl).trans p1, (HB2.out.cell (p := ⟨g, _, none⟩) hgl).trans p2⟩
  have H0 : Hid (Rest w3 w3 g cur0 0) := ⟨Wrote.refl _ _, cur0, hcur, fun _ _ => rfl⟩
  clear hcur hrow
  go_wp2_with fail
  rcases HU.out.at with ⟨rfl, A', cap', hv2⟩ | ⟨g', off', cap', hv2, hgl', hcell'⟩
  · simp only [List.length_nil, Nat.zero_mul, Nat.zero_add] at *
    go_loop [8] (fun i => i = .int .i64 0) (fun _ => 0)
    case atStart => rfl
    case round =>
      subst hrel
      obtain ⟨wr, hwr⟩ : ∃ wr, wr = w3 := ⟨_, rfl⟩
      subst hwr
      have HW := H0
      clear H0
      have HM3 : Hid (Made w1 _ pv c' wr) := HM.out.wrote HW.out.wrote (fun j hj => by subst hj; exact hgl)
      have HBW : Hid (Below w.heap.size w wr) := below_wrote (below_next HB1.out HB2.out) HW.out.wrote (fun j hj => by subst hj; exact hgb) (Nat.le_trans HB1.out.size HB2.out.size)
      clear HM HW
      have hcc : (c' == c') = true := by simp
      rcases HM3.out.2 with ⟨h1, h2⟩ | ⟨h1, b, jb, mb, h2, _⟩
      · subst h2
        have hcn : (c' != 0) = true := by rw [bne_iff_ne]; exact h1
        have hce : (c' == 0) = false := by rw [beq_eq_false_iff_ne]; exact h1
        clear h1
        go_wp2_with fail
        refine (lent_any wr _ _ (HU.out.below HBW.out)).mono ?_
        rintro e w4 ⟨v4, rfl, hrow4, hb4⟩
        have HR4 := Lib.hid hrow4
        have HB4 := Lib.hid hb4
        clear hrow4 hb4
        go_wp2_with fail
        refine (kept_any w4 _ _ _ _ HR4.out (HU.out.below (below_next HBW.out HB4.out))).mono ?_
        rintro e w5 ⟨rfl, hb5⟩
        have HF : Hid (PlanPost w [] (.returned (.tuple #[.pointer none, .bool true])) w5) :=
          ⟨_, _, rfl, ((HM3.out.below HB4.out).below hb5).from HB1.out.size, below_next (below_next HBW.out HB4.out) hb5⟩
        clear hb5
        go_wp2_with fail
        go_ret2
        exact HF.out
      · subst h2 h1
        go_wp2_with fail
        refine (lent_any wr _ _ (HU.out.below HBW.out)).mono ?_
        rintro e w4 ⟨v4, rfl, hrow4, hb4⟩
        have HR4 := Lib.hid hrow4
        have HB4 := Lib.hid hb4
        clear hrow4 hb4
        go_wp2_with fail
        refine (kept_any w4 _ _ [] _ HR4.out (HU.out.below (below_next HBW.out HB4.out))).mono ?_
        rintro e w5 ⟨rfl, hb5⟩
        have HF : Hid (PlanPost w [] (.returned (.tuple #[.pointer (some ⟨b, 0, none⟩), .bool true])) w5) :=
          ⟨_, _, rfl, ((HM3.out.below HB4.out).below hb5).from HB1.out.size, below_next (below_next HBW.out HB4.out) hb5⟩
        clear hb5
        go_wp2_with fail
        go_ret2
        exact HF.out
  · injection hv2 with hA _ hcp
    subst hA hcp
    have HC' := Lib.hid hcell'
    clear hcell'
    generalize hn : js.length = n at *
    have HNN := Lib.hid hn
    clear hn
    go_loopw [8] (fun i wr => ∃ k : Nat, k ≤ n ∧ i = .int .i64 k ∧ Rest w3 wr g cur0 k) (fun i _ => n - (intOf i).toNat)
    case atStart => exact ⟨0, Nat.zero_le _, rfl, H0.out⟩
    case round =>
      obtain ⟨k, hk, rfl, hw⟩ := hrel
      have HW := Lib.hid hw
      clear hw H0
      by_cases hlt : k < n
      · obtain ⟨cur, hcur, hsame⟩ := HW.out.row
        obtain ⟨p0, p1, p2⟩ := hown.out k hlt
        obtain ⟨q0, q1, q2⟩ := HC'.out k hlt
        have hb := below_wrote (below_next HB1.out HB2.out) HW.out.wrote (fun j hj => by subst hj; exact hgb) (Nat.le_trans HB1.out.size HB2.out.size)
        have d0 := (hb.cell (p := ⟨g', off' + k * 3, none⟩) hgl').trans q0
        have d1 := (hb.cell (p := ⟨g', off' + k * 3 + 1, none⟩) hgl').trans q1
        have d2 := (hb.cell (p := ⟨g', off' + k * 3 + 2, none⟩) hgl').trans q2
        have c0 := (cell_at hcur (k * 3)).trans ((hsame _ (Nat.le_refl _)).trans p0)
        have c1 := (cell_at hcur (k * 3 + 1)).trans ((hsame _ (by omega)).trans p1)
        have c2 := (cell_at hcur (k * 3 + 2)).trans ((hsame _ (by omega)).trans p2)
        have f0 := free_at hcur (k * 3)
        have f1 := free_at hcur (k * 3 + 1)
        have f2 := free_at hcur (k * 3 + 2)
        clear hcur hsame p0 p1 p2 q0 q1 q2 hb
        generalize (js.getD k jd).period = x at *
        generalize (js.getD k jd).phase = y at *
        generalize (js.getD k jd).rank = z at *
        have hx : ((x : Int) != (x : Int)) = false := by simp
        go_wp2_with fail
        go_quiet (fail)
        go_wp2_with fail
        go_roundw
        case rel => exact ⟨k + 1, by omega, by go_num, HW.out.step _ _ _ _⟩
        case measure => simp [intOf]; omega
      · obtain rfl : k = n := by omega
        have HM3 : Hid (Made w1 js pv c' wr) := HM.out.wrote HW.out.wrote (fun j hj => by subst hj; exact hgl)
        have HBW : Hid (Below w.heap.size w wr) := below_wrote (below_next HB1.out HB2.out) HW.out.wrote (fun j hj => by subst hj; exact hgb) (Nat.le_trans HB1.out.size HB2.out.size)
        clear HM HW
        have hcc : (c' == c') = true := by simp
        rcases HM3.out.2 with ⟨h1, h2⟩ | ⟨h1, b, jb, mb, h2, _⟩
        · subst h2
          have hcn : (c' != 0) = true := by rw [bne_iff_ne]; exact h1
          have hce : (c' == 0) = false := by rw [beq_eq_false_iff_ne]; exact h1
          clear h1
          go_wp2_with fail
          refine (lent_any wr _ js (HU.out.below HBW.out)).mono ?_
          rintro e w4 ⟨v4, rfl, hrow4, hb4⟩
          have HR4 := Lib.hid hrow4
          have HB4 := Lib.hid hb4
          clear hrow4 hb4
          go_wp2_with fail
          refine (kept_any w4 _ _ js _ HR4.out (HU.out.below (below_next HBW.out HB4.out))).mono ?_
          rintro e w5 ⟨rfl, hb5⟩
          have HF : Hid (PlanPost w js (.returned (.tuple #[.pointer none, .bool true])) w5) :=
            ⟨_, _, rfl, ((HM3.out.below HB4.out).below hb5).from HB1.out.size, below_next (below_next HBW.out HB4.out) hb5⟩
          clear hb5
          go_wp2_with fail
          go_ret2
          exact HF.out
        · subst h2 h1
          go_wp2_with fail
          refine (lent_any wr _ js (HU.out.below HBW.out)).mono ?_
          rintro e w4 ⟨v4, rfl, hrow4, hb4⟩
          have HR4 := Lib.hid hrow4
          have HB4 := Lib.hid hb4
          clear hrow4 hb4
          go_wp2_with fail
          refine (kept_any w4 _ _ js _ HR4.out (HU.out.below (below_next HBW.out HB4.out))).mono ?_
          rintro e w5 ⟨rfl, hb5⟩
          have HF : Hid (PlanPost w js (.returned (.tuple #[.pointer (some ⟨b, 0, none⟩), .bool true])) w5) :=
            ⟨_, _, rfl, ((HM3.out.below HB4.out).below hb5).from HB1.out.size, below_next (below_next HBW.out HB4.out) hb5⟩
          clear hb5
          go_wp2_with fail
          go_ret2
          exact HF.out
end Go.Proofs.Ytmkbkjnpgdpffaa
