/- The walk of ModesFollow: true, in whatever world. Conditions: the events can be read. -/
import Derived.Test.YtgbogbmjefbkeaaRStep
namespace Go.Proofs.Ytgbogbmjefbkeaa
open Go.RowKit
/-- The program's machine and the document's. -/
structure Fo (w wr : World) (bl xb : Nat) (x y : Md) : Prop where
  own : Own w wr bl x
  cell : wr.heap[xb]? = some (.cells #[.int .u8 y.mode, .int .i64 (y.lat : Int)] 27)
  ne : xb ≠ bl
  lo : w.heap.size ≤ xb
  ok : y.Ok
section
variable {w wr w1 : World} {bl xb : Nat} {x y : Md}
theorem Fo.keep (h : Fo w wr bl xb x y) (hb : Below wr.heap.size wr w1) : Fo w w1 bl xb x y := ⟨h.own.keep hb, (hb.block xb (lt_of_at h.cell)).trans h.cell, h.ne, h.lo, h.ok⟩
theorem Fo.c0 (h : Fo w wr bl xb x y) : wr.cell? ⟨xb, 0, none⟩ = some (.int .u8 y.mode) := cell_at h.cell 0
theorem Fo.c1 (h : Fo w wr bl xb x y) : wr.cell? ⟨xb, 1, none⟩ = some (.int .i64 (y.lat : Int)) := cell_at h.cell 1
theorem fo_step (h : Fo w wr bl xb x y) (ev : Int) : Calls Try.prog 9 #[.pointer (some ⟨bl, 0, none⟩), .int .i64 ev] wr fun e w' => e = .returned (.int .i64 (x.did ev)) ∧ Fo w w' bl xb (x.step ev) y :=
  (step_any wr bl x ev h.own.mach).mono fun _ _ ⟨he, hm, hw⟩ => ⟨he, ⟨hm, below_wrote h.own.below hw (by rintro i rfl; exact h.own.lo) h.own.below.size, h.own.lo⟩, (hw.block xb (lt_of_at h.cell) h.ne).trans h.cell, h.ne, h.lo, h.ok⟩
theorem fo_rstep (h : Fo w wr bl xb x y) (ev : Int) : Calls Try.prog 10 #[mdV y.mode y.lat, .int .i64 ev] wr fun e w' => e = .returned (.tuple #[mdV (y.step ev).mode (y.step ev).lat, .int .i64 (y.did ev)]) ∧ Fo w w' bl xb x y :=
  (rstep_any wr y ev h.ok).mono fun _ _ hh => ⟨hh.1, h.keep hh.2⟩
theorem Fo.store (h : Fo w wr bl xb x y) (ev : Int) : Fo w ((wr.setCell ⟨xb, 0, none⟩ (.int .u8 (y.step ev).mode)).setCell ⟨xb, 1, none⟩ (.int .i64 ((y.step ev).lat : Int))) bl xb x (y.step ev) := by
  have hw : Wrote wr ((wr.setCell ⟨xb, 0, none⟩ (.int .u8 (y.step ev).mode)).setCell ⟨xb, 1, none⟩ (.int .i64 ((y.step ev).lat : Int))) (fun k => k = xb) := ((Wrote.refl wr (fun k => k = xb)).set rfl 0 _).set rfl 1 _
  exact ⟨⟨⟨(hw.block bl h.own.mach.lt (Ne.symm h.ne)).trans h.own.mach.blk, h.own.mach.m0, h.own.mach.m1, h.own.mach.l64⟩, below_wrote h.own.below hw (by rintro i rfl; exact h.lo) h.own.below.size, h.own.lo⟩, heap_setCell_at (heap_setCell_at h.cell 0 _) 1 _, h.ne, h.lo, h.ok.step ev⟩
theorem fo_mode (h : Fo w wr bl xb x y) : Calls Try.prog 11 #[.pointer (some ⟨bl, 0, none⟩)] wr fun e w' => e = .returned (.int .u8 x.mode) ∧ Fo w w' bl xb x y :=
  (mode_any wr bl x h.own.mach).mono fun _ _ hh => ⟨hh.1, by rw [hh.2]; exact h⟩
theorem fo_latches (h : Fo w wr bl xb x y) : Calls Try.prog 12 #[.pointer (some ⟨bl, 0, none⟩)] wr fun e w' => e = .returned (.int .i64 (x.lat : Int)) ∧ Fo w w' bl xb x y :=
  (latches_any wr bl x h.own.mach).mono fun _ _ hh => ⟨hh.1, by rw [hh.2]; exact h⟩
end
def Aft9 (w : World) (bl xb : Nat) (y x : Md) (d : Int) (v7 v8 : Value) (wx : World) : Prop := ∃ q : Nat, v7 = .pointer (some ⟨q, 0, none⟩) ∧ v8 = .int .i64 d ∧ wx.heap[q]? = some (.cells #[.int .u8 y.mode, .int .i64 (y.lat : Int)] 27) ∧ q ≠ xb ∧ Fo w wx bl xb y x
theorem Fo.aside {w wr w1 : World} {bl xb q : Nat} {x y : Md} (h : Fo w wr bl xb x y) (hw : Wrote wr w1 (fun k => k = q)) (h1 : q ≠ bl) (h2 : q ≠ xb) (h3 : w.heap.size ≤ q) : Fo w w1 bl xb x y :=
  ⟨⟨⟨(hw.block bl h.own.mach.lt (Ne.symm h1)).trans h.own.mach.blk, h.own.mach.m0, h.own.mach.m1, h.own.mach.l64⟩, below_wrote h.own.below hw (by rintro i rfl; exact h3) h.own.below.size, h.own.lo⟩, (hw.block xb (lt_of_at h.cell) (Ne.symm h2)).trans h.cell, h.ne, h.lo, h.ok⟩
theorem aft9a {w w4 : World} {bl xb : Nat} {y x : Md} {d : Int} (h : Fo w w4 bl xb y x) : Aft9 w bl xb y x d (.pointer (some ⟨w4.heap.size, 0, none⟩)) (.int .i64 d) (w4.alloc (.cells #[.int .u8 y.mode, .int .i64 (y.lat : Int)] 27)) :=
  ⟨w4.heap.size, rfl, rfl, heap_alloc_new w4 _, Ne.symm (Nat.ne_of_lt (lt_of_at h.cell)), h.keep (below_alloc1 w4 _)⟩
theorem aft9b {w w4 : World} {bl xb q : Nat} {y x : Md} {d : Int} (h : Fo w w4 bl xb y x) (hq : w4.heap[q]? = some (.cells #[.int .u8 0, .int .i64 0] 27)) (hn : xb < q ∧ bl < q ∧ w.heap.size ≤ q) :
    Aft9 w bl xb y x d (.pointer (some ⟨q, 0, none⟩)) (.int .i64 d) ((w4.setCell ⟨q, 0, none⟩ (.int .u8 y.mode)).setCell ⟨q, 1, none⟩ (.int .i64 (y.lat : Int))) :=
  ⟨q, rfl, rfl, heap_setCell_at (heap_setCell_at hq 0 _) 1 _, by omega, h.aside (((Wrote.refl w4 (fun k => k = q)).set rfl 0 _).set rfl 1 _) (by omega) (by omega) hn.2.2⟩
theorem fo_S {w u : World} {bl xb : Nat} {x : Md} (h : Fo w u bl xb x x) : u.cell? ⟨xb, 0, none⟩ = some (.int .u8 x.mode) ∧ u.cell? ⟨xb, 1, none⟩ = some (.int .i64 (x.lat : Int)) ∧ Fo w u bl xb x x := ⟨h.c0, h.c1, h⟩
theorem fo_drew {w u : World} {bl xb : Nat} {x : Md} (h : u.cell? ⟨xb, 0, none⟩ = some (.int .u8 x.mode) ∧ u.cell? ⟨xb, 1, none⟩ = some (.int .i64 (x.lat : Int)) ∧ Fo w u bl xb x x) : u.drew.cell? ⟨xb, 0, none⟩ = some (.int .u8 x.mode) ∧ u.drew.cell? ⟨xb, 1, none⟩ = some (.int .i64 (x.lat : Int)) ∧ Fo w u.drew bl xb x x := ⟨h.1, h.2.1, h.2.2.keep (below_drew1 u)⟩
set_option maxRecDepth 100000 in
set_option maxHeartbeats 8000000 in
theorem follow_some (w : World) (xs : List Int) (g off cap : Nat) (hl : xs.length ≤ 140737488351232) (hg : g < w.heap.size) (hc : ∀ i, i < xs.length → w.cell? ⟨g, off + i, none⟩ = some (.int .i64 (xs.getD i 0))) : Calls Try.prog 3 #[.slice (some ⟨g, off, none⟩) xs.length cap] w (AwakePost w) := by
  have HC := Lib.hid hc
  clear hc
  go_enter Try.func3, Try.ntmps3
  go_wp2_with fail
  refine (new_any w).mono ?_
  rintro e w1 ⟨rfl, hm1, hb1⟩
  have H1 : Hid (Fo w (w1.alloc (.cells #[.int .u8 0, .int .i64 0] 27)) w.heap.size w1.heap.size md0 md0) :=
    ⟨Own.keep ⟨hm1, hb1, Nat.le_refl _⟩ (below_alloc1 w1 _), heap_alloc_new w1 _, Ne.symm (Nat.ne_of_lt hm1.lt), hb1.size, ⟨by decide, by decide, by decide⟩⟩
  clear hm1 hb1
  obtain ⟨bl, hbl⟩ : ∃ bl, w.heap.size = bl := ⟨_, rfl⟩
  rw [hbl] at H1 ⊢
  clear hbl
  go_wp2_with fail
  obtain ⟨xb, hxb⟩ : ∃ xb, w1.heap.size = xb := ⟨_, rfl⟩
  rw [hxb] at H1 ⊢
  clear hxb
  generalize w1.alloc (.cells #[.int .u8 0, .int .i64 0] 27) = w2 at *
  go_loopg [5] xs.length (fun gh i wr => ∃ (k : Nat) (x : Md), k ≤ xs.length ∧ gh = xs.length - k ∧ i = .int .i64 k ∧ Hid (Fo w wr bl xb x x))
  case atStart => exact ⟨0, md0, Nat.zero_le _, rfl, rfl, H1⟩
  case round =>
    obtain ⟨k, x, hk, hgk, rfl, HX⟩ := hrel
    have HG := Lib.hid hgk
    clear hgk H1
    by_cases hlt : k < xs.length
    · obtain ⟨ev, HEV⟩ : ∃ ev, Hid (w.cell? ⟨g, off + k, none⟩ = some (.int .i64 ev)) := ⟨_, HC.out k hlt⟩
      have hcell : wr.cell? ⟨g, off + k, none⟩ = some (.int .i64 ev) := (HX.out.own.below.cell (p := ⟨g, off + k, none⟩) hg).trans HEV.out
      go_wp2_with fail
      refine (fo_step HX.out ev).mono ?_
      rintro e w3 ⟨rfl, h3⟩
      have H3 := Lib.hid h3
      clear h3 hcell HX
      have hcell : w3.cell? ⟨g, off + k, none⟩ = some (.int .i64 ev) := (H3.out.own.below.cell (p := ⟨g, off + k, none⟩) hg).trans HEV.out
      have c0 := H3.out.c0
      have c1 := H3.out.c1
      have hgl3 : g < w3.heap.size := Nat.lt_of_lt_of_le hg H3.out.own.below.size
      have hxl3 : xb < w3.heap.size := lt_of_at H3.out.cell
      have HQN : Hid (xb < w3.heap.size ∧ bl < w3.heap.size ∧ w.heap.size ≤ w3.heap.size) := ⟨lt_of_at H3.out.cell, H3.out.own.mach.lt, H3.out.own.below.size⟩
      have A10 : Hid (∀ W, Below w3.heap.size w3 W → Calls Try.prog 10 #[.agg #[.int .u8 x.mode, .int .i64 (x.lat : Int)], .int .i64 ev] W fun e w' => e = .returned (.tuple #[.agg #[.int .u8 (x.step ev).mode, .int .i64 ((x.step ev).lat : Int)], .int .i64 (x.did ev)]) ∧ Fo w w' bl xb (x.step ev) x) := fun W hb => fo_rstep (H3.out.keep hb) ev
      have HFS : Hid (∀ W, Fo w W bl xb (x.step ev) x → Fo w ((W.setCell ⟨xb, 0, none⟩ (.int .u8 (x.step ev).mode)).setCell ⟨xb, 1, none⟩ (.int .i64 ((x.step ev).lat : Int))) bl xb (x.step ev) (x.step ev)) := fun W h => h.store ev
      have A10r : Hid (∀ W, Below w3.heap.size w3 W → Calls Try.prog 10 #[.agg #[.int .u8 x.mode, .int .i64 (x.lat : Int)], .int .i64 ev] W fun e w' => e = .returned (.tuple #[.agg #[.int .u8 (x.step ev).mode, .int .i64 ((x.step ev).lat : Int)], .int .i64 (x.did ev)]) ∧ Fo w w' bl xb (x.step ev) x ∧ Below W.heap.size W w') := fun W hb =>
        (rstep_any W x ev H3.out.ok).mono fun _ _ hh => ⟨hh.1, (H3.out.keep hb).keep hh.2, hh.2⟩
      clear H3
      generalize x.did ev = d at *
      generalize x.step ev = y at *
      have A10b : Hid (∀ W, W = (w3.alloc (.cells #[.int .u8 0, .int .i64 0] 27)).drew → Calls Try.prog 10 #[.agg #[.int .u8 x.mode, .int .i64 (x.lat : Int)], .int .i64 ev] W fun e w' => e = .returned (.tuple #[.agg #[.int .u8 y.mode, .int .i64 (y.lat : Int)], .int .i64 d]) ∧
          Fo w w' bl xb y x ∧ w'.heap[w3.heap.size]? = some (.cells #[.int .u8 0, .int .i64 0] 27)) := by
        rintro W rfl
        exact (A10r.out _ ((below_alloc1 w3 _).drew)).mono fun _ _ hh => ⟨hh.1, hh.2.1, (hh.2.2.block w3.heap.size (by show _ < (w3.alloc _).heap.size; rw [alloc_size]; omega)).trans (heap_alloc_new w3 _)⟩
      clear A10r
      go_upto_region 9 with fail
      go_cut [7, 8] from 12 to 50 (Aft9 w bl xb y x d)
      case first =>
        go_region_with (go_at_call 10; first
          | (refine (A10.out _ (below_drew1 w3)).mono ?_; rintro e w4 ⟨rfl, h4⟩; (have H4 := Lib.hid h4; clear h4))
          | (refine (A10b.out _ rfl).mono ?_; rintro e w4 ⟨rfl, h4, hq4⟩; (have H4 := Lib.hid h4; have HQ4 := Lib.hid hq4; have y0 := cell_at hq4 0; have y1 := cell_at hq4 1; have g0 := free_at hq4 0; have g1 := free_at hq4 1; have hql := lt_of_at hq4; clear h4 hq4)))
        all_goals
          go_wp2_with fail
          go_meet
          case rel => first | exact aft9a H4.out | exact aft9b H4.out HQ4.out HQN.out
      case rest =>
        obtain ⟨q, rfl, rfl, hq, hqx, hfo⟩ := hcut
        have HFO := Lib.hid hfo
        have q0 := cell_at hq 0
        have q1 := cell_at hq 1
        have k0 := hfo.c0
        have k1 := hfo.c1
        have f0 := free_at hfo.cell 0
        have f1 := free_at hfo.cell 1
        clear hq hfo
        go_wp2_with fail
        have HY := Lib.hid (HFS.out wc HFO.out)
        clear q0 q1 k0 k1 f0 f1 HFO HFS A10 A10b
        generalize (wc.setCell ⟨xb, 0, none⟩ (.int .u8 y.mode)).setCell ⟨xb, 1, none⟩ (.int .i64 (y.lat : Int)) = w6 at *
        have A11 : Hid (∀ W, (W.cell? ⟨xb, 0, none⟩ = some (.int .u8 y.mode) ∧ W.cell? ⟨xb, 1, none⟩ = some (.int .i64 (y.lat : Int)) ∧ Fo w W bl xb y y) → Calls Try.prog 11 #[.pointer (some ⟨bl, 0, none⟩)] W fun e w' => e = .returned (.int .u8 y.mode) ∧ (w'.cell? ⟨xb, 0, none⟩ = some (.int .u8 y.mode) ∧ w'.cell? ⟨xb, 1, none⟩ = some (.int .i64 (y.lat : Int)) ∧ Fo w w' bl xb y y)) := fun W h => (fo_mode h.2.2).mono fun _ _ hh => ⟨hh.1, fo_S hh.2⟩
        have A12 : Hid (∀ W, (W.cell? ⟨xb, 0, none⟩ = some (.int .u8 y.mode) ∧ W.cell? ⟨xb, 1, none⟩ = some (.int .i64 (y.lat : Int)) ∧ Fo w W bl xb y y) → Calls Try.prog 12 #[.pointer (some ⟨bl, 0, none⟩)] W fun e w' => e = .returned (.int .i64 (y.lat : Int)) ∧ (w'.cell? ⟨xb, 0, none⟩ = some (.int .u8 y.mode) ∧ w'.cell? ⟨xb, 1, none⟩ = some (.int .i64 (y.lat : Int)) ∧ Fo w w' bl xb y y)) := fun W h => (fo_latches h.2.2).mono fun _ _ hh => ⟨hh.1, fo_S hh.2⟩
        have hS := fo_S HY.out
        clear HY
        go_region_held3 (fun u => u.cell? ⟨xb, 0, none⟩ = some (.int .u8 y.mode) ∧ u.cell? ⟨xb, 1, none⟩ = some (.int .i64 (y.lat : Int)) ∧ Fo w u bl xb y y)
          (first | assumption | exact fo_drew (by assumption))
          (first | (go_at_call 11; refine (A11.out _ (by assumption)).mono ?_; rintro e w' ⟨rfl, hs'⟩) | (go_at_call 12; refine (A12.out _ (by assumption)).mono ?_; rintro e w' ⟨rfl, hs'⟩))
        have HN : Hid (Fo w w' bl xb y y) := (show w'.cell? ⟨xb, 0, none⟩ = some (.int .u8 y.mode) ∧ w'.cell? ⟨xb, 1, none⟩ = some (.int .i64 (y.lat : Int)) ∧ Fo w w' bl xb y y from by assumption).2.2
        go_wp2_with fail
        go_roundg (xs.length - (k + 1))
        case measure => have := HG.out; omega
        case rel => exact ⟨k + 1, y, by omega, rfl, by go_num, HN⟩
    · skip
      go_wp2_with fail
      refine (awake_any wr).mono ?_
      rintro e w2 ⟨rfl, hb2⟩
      have HF : Hid (AwakePost w (.returned (.bool true)) w2) := ⟨rfl, below_next HX.out.own.below hb2⟩
      clear hb2
      go_wp2_with fail
      go_ret
      exact HF.out
set_option maxRecDepth 100000 in
set_option maxHeartbeats 8000000 in
theorem follow_none (w : World) (A : Option Addr) (cap : Nat) : Calls Try.prog 3 #[.slice A 0 cap] w (AwakePost w) := by
  go_enter Try.func3, Try.ntmps3
  go_wp2_with fail
  refine (new_any w).mono ?_
  rintro e w1 ⟨rfl, hm1, hb1⟩
  have H1 : Hid (Fo w (w1.alloc (.cells #[.int .u8 0, .int .i64 0] 27)) w.heap.size w1.heap.size md0 md0) :=
    ⟨Own.keep ⟨hm1, hb1, Nat.le_refl _⟩ (below_alloc1 w1 _), heap_alloc_new w1 _, Ne.symm (Nat.ne_of_lt hm1.lt), hb1.size, ⟨by decide, by decide, by decide⟩⟩
  clear hm1 hb1
  obtain ⟨bl, hbl⟩ : ∃ bl, w.heap.size = bl := ⟨_, rfl⟩
  rw [hbl] at H1 ⊢
  clear hbl
  go_wp2_with fail
  obtain ⟨xb, hxb⟩ : ∃ xb, w1.heap.size = xb := ⟨_, rfl⟩
  rw [hxb] at H1 ⊢
  clear hxb
  generalize w1.alloc (.cells #[.int .u8 0, .int .i64 0] 27) = w2 at *
  go_loopg [5] 0 (fun gh i wr => ∃ (k : Nat) (x : Md), k ≤ 0 ∧ gh = 0 - k ∧ i = .int .i64 k ∧ Hid (Fo w wr bl xb x x))
  case atStart => exact ⟨0, md0, Nat.zero_le _, rfl, rfl, H1⟩
  case round =>
    obtain ⟨k, x, hk, hgk, rfl, HX⟩ := hrel
    have HG := Lib.hid hgk
    clear hgk H1
    obtain rfl : k = 0 := by omega
    go_wp2_with fail
    refine (awake_any wr).mono ?_
    rintro e w2 ⟨rfl, hb2⟩
    have HF : Hid (AwakePost w (.returned (.bool true)) w2) := ⟨rfl, below_next HX.out.own.below hb2⟩
    clear hb2
    go_wp2_with fail
    go_ret
    exact HF.out
theorem follow_walk (w : World) (v : Value) (xs : List Int) (h : Ints w v xs) : Calls Try.prog 3 #[v] w (AwakePost w) := by
  obtain ⟨hl, A, cap, rfl, h | ⟨g, off, rfl, hg, hc⟩⟩ := h
  · subst h
    exact follow_none w A cap
  · exact follow_some w xs g off cap hl hg hc
end Go.Proofs.Ytgbogbmjefbkeaa
