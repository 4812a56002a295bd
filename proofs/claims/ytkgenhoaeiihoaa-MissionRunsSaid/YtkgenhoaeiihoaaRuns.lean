/- The walk of MissionRuns: true, in whatever world. Conditions: the items and the arrivals can be read. -/
import Derived.Test.YtkgenhoaeiihoaaRuns0
namespace Go.Proofs.Ytkgenhoaeiihoaa
open Go.RowKit
/-- Blocks where items may be written. -/
def Room (w : World) (g n : Nat) : Prop := ∃ cs t, w.heap[g]? = some (.cells cs t) ∧ n ≤ cs.size
theorem Lent.room {w w1 : World} {g cap : Nat} {xs : List It} (h : Lent w w1 g cap xs) : Room w1 g (xs.length * 4) := by
  have hl : ((xs ++ [mark99]).flatMap itL).length = (xs.length + 1) * 4 := by rw [flat_len itL_len]; simp
  rcases h.own.2 with ⟨h, _⟩ | ⟨g', c, cur, h, _, h2, _, _, h4, h5⟩
  · cases h
  · injection h with h
    injection h with h
    injection h with h
    subst h
    refine ⟨_, _, h2, ?_⟩
    have := congrArg List.length h5
    rw [List.length_take, hl] at this
    simp at this
    omega
theorem Room.cell {w : World} {g n : Nat} (h : Room w g n) {i : Nat} (hi : i < n) : g < w.heap.size ∧ (∃ u, w.cell? ⟨g, i, none⟩ = some u) ∧ w.frozen? ⟨g, i, none⟩ = false := by
  obtain ⟨cs, t, h1, h2⟩ := h
  exact ⟨lt_of_at h1, ⟨cs[i], by rw [cell_at h1]; exact Array.getElem?_eq_getElem (by omega)⟩, free_at h1 i⟩
theorem Room.set {w : World} {g n : Nat} (h : Room w g n) (i : Nat) (v : Value) : Room (w.setCell ⟨g, i, none⟩ v) g n := by
  obtain ⟨cs, t, h1, h2⟩ := h
  exact ⟨_, t, heap_setCell_at h1 i v, by simpa using h2⟩
theorem Room.keep {w w1 : World} {g n : Nat} (h : Room w g n) (hb : Below w.heap.size w w1) : Room w1 g n := by
  obtain ⟨cs, t, h1, h2⟩ := h
  exact ⟨cs, t, (hb.block g (lt_of_at h1)).trans h1, h2⟩
theorem Both.aside {w wr w1 : World} {b mb j jb xb g : Nat} {v1 v2 : Value} {r x : Rn} (h : Both w wr b mb j v1 jb v2 xb r x) (hw : Wrote wr w1 (fun k => k = g)) (hg : w.heap.size ≤ g) (h1 : g ≠ b ∧ g ≠ mb ∧ g ≠ jb ∧ g ≠ xb) (h2 : ∀ o, v1.ownBlock = some o → o ≠ g) (h3 : ∀ o, v2.ownBlock = some o → o ≠ g) :
    Both w w1 b mb j v1 jb v2 xb r x := by
  obtain ⟨a1, a2, a3, a4⟩ := h1
  exact ⟨h.run.keep hw (Ne.symm a1) (Ne.symm a2) h2, h.doc.keep hw (Ne.symm a3) h3, (hw.block xb (lt_of_at h.cell) (Ne.symm a4)).trans h.cell, h.ri, h.xi, h.xs, below_wrote h.below hw (by rintro i rfl; exact hg) h.below.size, h.lo, h.ap, h.v1n, h.v2n⟩
set_option maxRecDepth 100000 in
set_option maxHeartbeats 2000000 in
theorem runs_bad (w : World) (sp : Int) (v vb : Value) (xs : List It) (bs : List Bool) (hr : IR w v xs) (hb : Bools w vb bs) (hz : chk xs ≠ 0) : Calls Try.prog 5 #[.int .i64 sp, v, vb] w (AwakePost w) := by
  have HR := Lib.hid hr
  have HZ := Lib.hid hz
  obtain ⟨A, cap, hv⟩ := hr.form
  obtain ⟨_, Ab, capb, hvb, _⟩ := hb
  clear hr
  subst hv hvb
  have hne : (chk xs != 0) = true := by rw [bne_iff_ne]; exact hz
  have heq : (chk xs == 0) = false := by rw [beq_eq_false_iff_ne]; exact hz
  clear hz
  go_enter Try.func5, Try.ntmps5
  go_wp2_with fail
  refine (lent_any w _ xs HR.out).mono ?_
  rintro e w1 ⟨g, cp, rfl, hl⟩
  have HL := Lib.hid hl
  clear hl
  go_wp2_with fail
  refine (new_bad w1 sp _ xs (HL.out.ir HR.out.1) (chk xs) rfl HZ.out).mono ?_
  rintro e w2 ⟨rfl, hb2⟩
  have HL2 := Lib.hid (HL.out.keep hb2)
  clear hb2 HL
  go_wp2_with fail
  refine (rnew_bad w2 sp _ xs (HR.out.below HL2.out.below) (chk xs) rfl HZ.out).mono ?_
  rintro e w3 ⟨rfl, hb3⟩
  have HL3 := Lib.hid (HL2.out.keep hb3)
  clear hb3 HL2
  unfold runV
  have HL4 := Lib.hid (HL3.out.keep (below_alloc1 w3 (.cells #[.slice none 0 0, .int .i64 0, .int .i64 0, .int .i64 0, .slice none 0 0] 40)))
  go_wp2_with fail
  refine (kept_any w _ g cp _ xs HL4.out (HR.out.below HL4.out.below)).mono ?_
  rintro e w5 ⟨rfl, hb5⟩
  have HL5 := Lib.hid (HL4.out.keep hb5)
  clear hb5 HL4 HL3
  go_wp2_with fail
  refine (awake_any w5).mono ?_
  rintro e w6 ⟨rfl, hb6⟩
  have HF : Hid (AwakePost w (.returned (.bool true)) w6) := ⟨rfl, below_next HL5.out.below hb6⟩
  clear hb6
  go_wp2_with fail
  (try simp only [Exit.inBlock, Exit.then])
  go_ret
  exact HF.out
structure HalfX (w w1 : World) (b mb j : Nat) (v1 : Value) (jb : Nat) (A2 : Option Addr) (xs : List It) (c2 xb : Nat) (r2 r : Rn) : Prop where
  old : w1.heap[xb]? = some (.cells #[.slice A2 xs.length c2, .int .i64 (r.at_ : Int), .int .i64 r.sp, .int .i64 r.wt, .slice (some ⟨jb, 0, none⟩) r.xs.length r.xs.length] 40)
  fin : Both w (xset w1 xb (.slice A2 xs.length c2) (.int .i64 (r2.at_ : Int)) (.int .i64 r2.sp) (.int .i64 r2.wt) (.slice (some ⟨jb, 0, none⟩) xs.length xs.length)) b mb j v1 jb (.slice A2 xs.length c2) xb r2 r2
theorem halfX {w w1 : World} {b mb j : Nat} {v1 : Value} {jb : Nat} {A2 : Option Addr} {xs : List It} {c2 xb : Nat} {r2 r : Rn} (hx : r2.xs = xs) (h : Half w w1 b mb j v1 jb (.slice A2 xs.length c2) xb r2 r r2) : HalfX w w1 b mb j v1 jb A2 xs c2 xb r2 r :=
  ⟨h.old, by have := h.fin; rw [hx] at this; exact this⟩
theorem HalfX.open {w w1 : World} {b mb j : Nat} {v1 : Value} {jb : Nat} {A2 : Option Addr} {xs : List It} {c2 xb : Nat} {r2 r : Rn} (h : HalfX w w1 b mb j v1 jb A2 xs c2 xb r2 r) :
    w1.cell? ⟨xb, 0, none⟩ = some (.slice A2 xs.length c2) ∧ w1.cell? ⟨xb, 1, none⟩ = some (.int .i64 (r.at_ : Int)) ∧ w1.cell? ⟨xb, 2, none⟩ = some (.int .i64 r.sp) ∧ w1.cell? ⟨xb, 3, none⟩ = some (.int .i64 r.wt) ∧ w1.cell? ⟨xb, 4, none⟩ = some (.slice (some ⟨jb, 0, none⟩) r.xs.length r.xs.length) ∧
      w1.frozen? ⟨xb, 0, none⟩ = false ∧ w1.frozen? ⟨xb, 1, none⟩ = false ∧ w1.frozen? ⟨xb, 2, none⟩ = false ∧ w1.frozen? ⟨xb, 3, none⟩ = false ∧ w1.frozen? ⟨xb, 4, none⟩ = false ∧
      Both w (xset w1 xb (.slice A2 xs.length c2) (.int .i64 (r2.at_ : Int)) (.int .i64 r2.sp) (.int .i64 r2.wt) (.slice (some ⟨jb, 0, none⟩) xs.length xs.length)) b mb j v1 jb (.slice A2 xs.length c2) xb r2 r2 :=
  ⟨cell_at h.old 0, cell_at h.old 1, cell_at h.old 2, cell_at h.old 3, cell_at h.old 4, free_at h.old 0, free_at h.old 1, free_at h.old 2, free_at h.old 3, free_at h.old 4, h.fin⟩
theorem both_S {w u : World} {b mb k jb xb c2 : Nat} {v1 : Value} {A2 : Option Addr} {r : Rn} {xs : List It} (hx : r.xs = xs) (h : Both w u b mb k v1 jb (.slice A2 xs.length c2) xb r r) :
    u.cell? ⟨xb, 0, none⟩ = some (.slice A2 xs.length c2) ∧ u.cell? ⟨xb, 1, none⟩ = some (.int .i64 (r.at_ : Int)) ∧ u.cell? ⟨xb, 2, none⟩ = some (.int .i64 r.sp) ∧ u.cell? ⟨xb, 3, none⟩ = some (.int .i64 r.wt) ∧ u.cell? ⟨xb, 4, none⟩ = some (.slice (some ⟨jb, 0, none⟩) xs.length xs.length) ∧ Both w u b mb k v1 jb (.slice A2 xs.length c2) xb r r :=
  ⟨h.c0, h.c1, h.c2, h.c3, by rw [← hx]; exact h.c4, h⟩
theorem both_S_drew {w u : World} {b mb k jb xb c2 : Nat} {v1 : Value} {A2 : Option Addr} {r : Rn} {xs : List It} (h : u.cell? ⟨xb, 0, none⟩ = some (.slice A2 xs.length c2) ∧ u.cell? ⟨xb, 1, none⟩ = some (.int .i64 (r.at_ : Int)) ∧ u.cell? ⟨xb, 2, none⟩ = some (.int .i64 r.sp) ∧ u.cell? ⟨xb, 3, none⟩ = some (.int .i64 r.wt) ∧ u.cell? ⟨xb, 4, none⟩ = some (.slice (some ⟨jb, 0, none⟩) xs.length xs.length) ∧ Both w u b mb k v1 jb (.slice A2 xs.length c2) xb r r) :
    u.drew.cell? ⟨xb, 0, none⟩ = some (.slice A2 xs.length c2) ∧ u.drew.cell? ⟨xb, 1, none⟩ = some (.int .i64 (r.at_ : Int)) ∧ u.drew.cell? ⟨xb, 2, none⟩ = some (.int .i64 r.sp) ∧ u.drew.cell? ⟨xb, 3, none⟩ = some (.int .i64 r.wt) ∧ u.drew.cell? ⟨xb, 4, none⟩ = some (.slice (some ⟨jb, 0, none⟩) xs.length xs.length) ∧ Both w u.drew b mb k v1 jb (.slice A2 xs.length c2) xb r r := by
  obtain ⟨h0, h1, h2, h3, h4, h5⟩ := h
  exact ⟨h0, h1, h2, h3, h4, h5.quiet (below_drewN u 1)⟩
set_option maxRecDepth 100000 in
set_option maxHeartbeats 4000000 in
theorem runs_good (w : World) (sp : Int) (v : Value) (xs : List It) (bs : List Bool) (gb offb capb : Nat) (hr : IR w v xs) (hbl : bs.length ≤ 140737488351232) (hgb : gb < w.heap.size) (hcb : ∀ i, i < bs.length → w.cell? ⟨gb, offb + i, none⟩ = some (.bool (bs.getD i false))) (hz : chk xs = 0) :
    Calls Try.prog 5 #[.int .i64 sp, v, .slice (some ⟨gb, offb, none⟩) bs.length capb] w (AwakePost w) := by
  have HR := Lib.hid hr
  have HZ := Lib.hid hz
  have HCB := Lib.hid hcb
  obtain ⟨A, cap, hv⟩ := hr.form
  clear hr hcb
  subst hv
  have HL64 : Hid (xs.length ≤ 64) := (chk_all hz).1
  clear hz
  go_enter Try.func5, Try.ntmps5
  go_wp2_with fail
  refine (lent_any w _ xs HR.out).mono ?_
  rintro e w1 ⟨g, cp, rfl, hl⟩
  have HL := Lib.hid hl
  clear hl
  go_wp2_with fail
  refine (new_good w1 sp _ xs (HL.out.ir HR.out.1) HZ.out).mono ?_
  rintro e w2 ⟨b, mb, v1, rfl, hm⟩
  have HM := Lib.hid hm
  have HL2 := Lib.hid (HL.out.keep hm.below)
  clear hm
  go_wp2_with fail
  refine (rnew_good w2 sp _ xs (HR.out.below HL2.out.below) HZ.out).mono ?_
  rintro e w3 ⟨v2, jb, rfl, hi3, hj3, hjb3, hv3, hb3⟩
  obtain ⟨A2, c2, hv2⟩ := hi3.form
  subst hv2
  have HD3 : Hid (Doc w3 (.slice A2 xs.length c2) jb (rn0 xs sp)) := ⟨hi3, hj3, fun g hg => (hv3 g hg).2⟩
  have HV3 := Lib.hid hv3
  have HJB := Lib.hid hjb3
  have HB3 := Lib.hid hb3
  have HL3 := Lib.hid (HL2.out.keep hb3)
  clear hi3 hj3 hjb3 hv3 hb3
  unfold runV
  have HB4 : Hid (Below w3.heap.size w3 (w3.alloc (.cells #[.slice A2 xs.length c2, .int .i64 0, .int .i64 sp, .int .i64 0, .slice (some ⟨jb, 0, none⟩) xs.length xs.length] 40))) := below_alloc1 w3 _
  have HX4 : Hid (Both w (w3.alloc (.cells #[.slice A2 xs.length c2, .int .i64 0, .int .i64 sp, .int .i64 0, .slice (some ⟨jb, 0, none⟩) xs.length xs.length] 40)) b mb 0 v1 jb (.slice A2 xs.length c2) w3.heap.size (rn0 xs sp) (rn0 xs sp)) := by
    have h1 := HL.out.below.size
    have h2 := HM.out.bnew
    have h3 := HM.out.mnew
    have h4 := HJB.out
    have h5 := HM.out.run.ptr
    have h6 := HM.out.run.map.lt
    have h7 := HB3.out.size
    have h8 := HM.out.below.size
    have h9 : jb < w3.heap.size := by obtain ⟨cs, hc, _⟩ := HD3.out.jumps; exact lt_of_at hc
    refine ⟨(HM.out.run.below HB3.out).below HB4.out, HD3.out.below HB4.out, heap_alloc_new w3 _, inv0 HZ.out sp, inv0 HZ.out sp, rfl, below_next HL3.out.below HB4.out, ⟨by omega, by omega, by omega, by omega⟩, ⟨by omega, by omega, by omega, by omega, by omega⟩, fun hn g hg => ?_, fun hn g hg => ?_⟩
    · have := HM.out.run.items.lt hn g hg
      omega
    · have h10 := HD3.out.items.lt hn g hg
      have h11 := HV3.out g hg
      omega
  have HL4 := Lib.hid (HL3.out.keep HB4.out)
  have HCP : Hid (xs.length ≤ cp) := by have := HL.out.cap; unfold Hid; omega
  have HG4 : Hid (g < w1.heap.size ∧ w.heap.size ≤ g) := ⟨(HL.out.own.lt g rfl).2, (HL.out.own.lt g rfl).1⟩
  clear HL HL2 HL3 HB3
  go_wp2_with fail
  refine (kept_any w _ g cp _ xs HL4.out (HR.out.below HL4.out.below)).mono ?_
  rintro e w5 ⟨rfl, hb5⟩
  have HL5 := Lib.hid (HL4.out.keep hb5)
  have HX5 := Lib.hid (HX4.out.quiet hb5)
  have HA5 : Hid ((g ≠ b ∧ g ≠ mb ∧ g ≠ jb ∧ g ≠ w3.heap.size) ∧ (∀ o, v1.ownBlock = some o → o ≠ g) ∧ (∀ o, (Value.slice A2 xs.length c2).ownBlock = some o → o ≠ g)) := by
    have h1 := HG4.out
    have h2 := HM.out.bnew
    have h3 := HM.out.mnew
    have h4 := HJB.out
    have h5 := HM.out.below.size
    refine ⟨⟨by omega, by omega, by omega, ?_⟩, fun o ho => ?_, fun o ho => ?_⟩
    · have h9 : jb < w3.heap.size := by obtain ⟨cs, hc, _⟩ := HD3.out.jumps; exact lt_of_at hc
      omega
    · have := HM.out.vnew o ho
      omega
    · have := (HV3.out o ho).1
      omega
  have HR5 : Hid (Room w5 g (xs.length * 4)) := HL5.out.room
  have hn64 := HL64.out
  clear hb5 HL4 HX4 HL5 HD3 HV3 HJB HM HL64
  generalize hxb : w3.heap.size = xb at *
  clear hxb HB4
  go_wp2_with fail
  go_loopg [12] xs.length (fun gh i wr => ∃ k : Nat, k ≤ xs.length ∧ gh = xs.length - k ∧ i = .int .i64 k ∧ Hid (Both w wr b mb 0 v1 jb (.slice A2 xs.length c2) xb (rn0 xs sp) (rn0 xs sp)) ∧ Hid (Room wr g (xs.length * 4)))
  case atStart => exact ⟨0, Nat.zero_le _, rfl, rfl, HX5, HR5⟩
  case round =>
    obtain ⟨k, hk, hgk, rfl, HX, HRM⟩ := hrel
    have HG := Lib.hid hgk
    clear hgk HX5 HR5
    by_cases hlt : k < xs.length
    · obtain ⟨hgl, ⟨u0, y0⟩, f0⟩ := HRM.out.cell (i := k * 4) (by omega)
      obtain ⟨_, ⟨u1, y1⟩, f1⟩ := HRM.out.cell (i := k * 4 + 1) (by omega)
      obtain ⟨_, ⟨u2, y2⟩, f2⟩ := HRM.out.cell (i := k * 4 + 2) (by omega)
      obtain ⟨_, ⟨u3, y3⟩, f3⟩ := HRM.out.cell (i := k * 4 + 3) (by omega)
      have hcp : xs.length ≤ cp := HCP.out
      go_wp2_with fail
      have HX2 := Lib.hid (HX.out.aside (((((Wrote.refl wr (fun k => k = g)).set rfl (k * 4) (.int .u8 77)).set rfl (k * 4 + 1) (.int .i64 0)).set rfl (k * 4 + 2) (.int .i64 0)).set rfl (k * 4 + 3) (.int .i64 0)) HG4.out.2 HA5.out.1 HA5.out.2.1 HA5.out.2.2)
      have HR2 : Hid (Room ((((wr.setCell ⟨g, k * 4, none⟩ (.int .u8 77)).setCell ⟨g, k * 4 + 1, none⟩ (.int .i64 0)).setCell ⟨g, k * 4 + 2, none⟩ (.int .i64 0)).setCell ⟨g, k * 4 + 3, none⟩ (.int .i64 0)) g (xs.length * 4)) := (((HRM.out.set _ _).set _ _).set _ _).set _ _
      go_roundg (xs.length - (k + 1))
      case measure => have := HG.out; omega
      case rel => exact ⟨k + 1, by omega, rfl, by go_num, HX2, HR2⟩
    · go_wp2_with fail
      have HX0 : Hid (Both w wr b mb 0 v1 jb (.slice A2 xs.length c2) xb (rn0 xs sp) (rn0 xs sp)) := HX
      clear HX HRM HG hlt hk HA5 HG4 HCP HR
      go_loopg [13] bs.length (fun gh i wr => ∃ (k : Nat) (r : Rn), k ≤ bs.length ∧ gh = bs.length - k ∧ i = .int .i64 k ∧ Hid (Both w wr b mb k v1 jb (.slice A2 xs.length c2) xb r r) ∧ Hid (r.xs = xs))
      case atStart => exact ⟨0, rn0 xs sp, Nat.zero_le _, rfl, rfl, HX0, rfl⟩
      case round =>
        clear HX0
        obtain ⟨k, r, hk, hgk, rfl, HX, HXS⟩ := hrel
        have HG := Lib.hid hgk
        clear hgk
        obtain ⟨kk, gx, gy, gz, gs, hgl⟩ := goal_form r
        have A21 : Hid (∀ W, (W.cell? ⟨xb, 0, none⟩ = some (.slice A2 xs.length c2) ∧ W.cell? ⟨xb, 1, none⟩ = some (.int .i64 (r.at_ : Int)) ∧ W.cell? ⟨xb, 2, none⟩ = some (.int .i64 r.sp) ∧ W.cell? ⟨xb, 3, none⟩ = some (.int .i64 r.wt) ∧ W.cell? ⟨xb, 4, none⟩ = some (.slice (some ⟨jb, 0, none⟩) xs.length xs.length) ∧ Both w W b mb k v1 jb (.slice A2 xs.length c2) xb r r) → Calls Try.prog 21 #[.pointer (some ⟨b, 0, none⟩)] W fun e w' => e = .returned (goalV kk gx gy gz gs) ∧ (w'.cell? ⟨xb, 0, none⟩ = some (.slice A2 xs.length c2) ∧ w'.cell? ⟨xb, 1, none⟩ = some (.int .i64 (r.at_ : Int)) ∧ w'.cell? ⟨xb, 2, none⟩ = some (.int .i64 r.sp) ∧ w'.cell? ⟨xb, 3, none⟩ = some (.int .i64 r.wt) ∧ w'.cell? ⟨xb, 4, none⟩ = some (.slice (some ⟨jb, 0, none⟩) xs.length xs.length) ∧ Both w w' b mb k v1 jb (.slice A2 xs.length c2) xb r r)) := fun W h => (both_goal h.2.2.2.2.2).mono fun _ _ hh => ⟨by rw [hh.1, hgl], both_S HXS.out hh.2⟩
        have A22 : Hid (∀ W, (W.cell? ⟨xb, 0, none⟩ = some (.slice A2 xs.length c2) ∧ W.cell? ⟨xb, 1, none⟩ = some (.int .i64 (r.at_ : Int)) ∧ W.cell? ⟨xb, 2, none⟩ = some (.int .i64 r.sp) ∧ W.cell? ⟨xb, 3, none⟩ = some (.int .i64 r.wt) ∧ W.cell? ⟨xb, 4, none⟩ = some (.slice (some ⟨jb, 0, none⟩) xs.length xs.length) ∧ Both w W b mb k v1 jb (.slice A2 xs.length c2) xb r r) → Calls Try.prog 22 #[.agg #[.slice A2 xs.length c2, .int .i64 (r.at_ : Int), .int .i64 r.sp, .int .i64 r.wt, .slice (some ⟨jb, 0, none⟩) xs.length xs.length]] W fun e w' => e = .returned (goalV kk gx gy gz gs) ∧ (w'.cell? ⟨xb, 0, none⟩ = some (.slice A2 xs.length c2) ∧ w'.cell? ⟨xb, 1, none⟩ = some (.int .i64 (r.at_ : Int)) ∧ w'.cell? ⟨xb, 2, none⟩ = some (.int .i64 r.sp) ∧ w'.cell? ⟨xb, 3, none⟩ = some (.int .i64 r.wt) ∧ w'.cell? ⟨xb, 4, none⟩ = some (.slice (some ⟨jb, 0, none⟩) xs.length xs.length) ∧ Both w w' b mb k v1 jb (.slice A2 xs.length c2) xb r r)) := fun W h => by
          have hc := both_rgoal h.2.2.2.2.2
          unfold docV runV at hc
          rw [HXS.out] at hc
          exact hc.mono fun _ _ hh => ⟨by rw [hh.1, hgl], both_S HXS.out hh.2⟩
        have A23 : Hid (∀ W, (W.cell? ⟨xb, 0, none⟩ = some (.slice A2 xs.length c2) ∧ W.cell? ⟨xb, 1, none⟩ = some (.int .i64 (r.at_ : Int)) ∧ W.cell? ⟨xb, 2, none⟩ = some (.int .i64 r.sp) ∧ W.cell? ⟨xb, 3, none⟩ = some (.int .i64 r.wt) ∧ W.cell? ⟨xb, 4, none⟩ = some (.slice (some ⟨jb, 0, none⟩) xs.length xs.length) ∧ Both w W b mb k v1 jb (.slice A2 xs.length c2) xb r r) → Calls Try.prog 23 #[.pointer (some ⟨b, 0, none⟩)] W fun e w' => e = .returned (.int .i64 (r.at_ : Int)) ∧ (w'.cell? ⟨xb, 0, none⟩ = some (.slice A2 xs.length c2) ∧ w'.cell? ⟨xb, 1, none⟩ = some (.int .i64 (r.at_ : Int)) ∧ w'.cell? ⟨xb, 2, none⟩ = some (.int .i64 r.sp) ∧ w'.cell? ⟨xb, 3, none⟩ = some (.int .i64 r.wt) ∧ w'.cell? ⟨xb, 4, none⟩ = some (.slice (some ⟨jb, 0, none⟩) xs.length xs.length) ∧ Both w w' b mb k v1 jb (.slice A2 xs.length c2) xb r r)) := fun W h => (both_index h.2.2.2.2.2).mono fun _ _ hh => ⟨hh.1, both_S HXS.out hh.2⟩
        have A24 : Hid (∀ W, (W.cell? ⟨xb, 0, none⟩ = some (.slice A2 xs.length c2) ∧ W.cell? ⟨xb, 1, none⟩ = some (.int .i64 (r.at_ : Int)) ∧ W.cell? ⟨xb, 2, none⟩ = some (.int .i64 r.sp) ∧ W.cell? ⟨xb, 3, none⟩ = some (.int .i64 r.wt) ∧ W.cell? ⟨xb, 4, none⟩ = some (.slice (some ⟨jb, 0, none⟩) xs.length xs.length) ∧ Both w W b mb k v1 jb (.slice A2 xs.length c2) xb r r) → Calls Try.prog 24 #[.pointer (some ⟨b, 0, none⟩)] W fun e w' => e = .returned (.bool (decide (xs.length ≤ r.at_))) ∧ (w'.cell? ⟨xb, 0, none⟩ = some (.slice A2 xs.length c2) ∧ w'.cell? ⟨xb, 1, none⟩ = some (.int .i64 (r.at_ : Int)) ∧ w'.cell? ⟨xb, 2, none⟩ = some (.int .i64 r.sp) ∧ w'.cell? ⟨xb, 3, none⟩ = some (.int .i64 r.wt) ∧ w'.cell? ⟨xb, 4, none⟩ = some (.slice (some ⟨jb, 0, none⟩) xs.length xs.length) ∧ Both w w' b mb k v1 jb (.slice A2 xs.length c2) xb r r)) := fun W h => (both_over h.2.2.2.2.2).mono fun _ _ hh => ⟨by rw [hh.1, HXS.out], both_S HXS.out hh.2⟩
        have HGF : Hid (r.goal = goalV kk gx gy gz gs) := hgl
        have hat : r.at_ ≤ xs.length := by have := HX.out.ri.le; rw [HXS.out] at this; exact this
        have HS := both_S HXS.out HX.out
        clear hgl
        unfold goalV at A21 A22
        by_cases hlt : k < bs.length
        · obtain ⟨arr, HCA⟩ : ∃ arr, Hid (w.cell? ⟨gb, offb + k, none⟩ = some (.bool arr)) := ⟨_, HCB.out k hlt⟩
          have hcb : wr.cell? ⟨gb, offb + k, none⟩ = some (.bool arr) := (HX.out.below.cell (p := ⟨gb, offb + k, none⟩) hgb).trans HCA.out
          go_wp2_with fail
          go_region_held3 (fun u => u.cell? ⟨xb, 0, none⟩ = some (.slice A2 xs.length c2) ∧ u.cell? ⟨xb, 1, none⟩ = some (.int .i64 (r.at_ : Int)) ∧ u.cell? ⟨xb, 2, none⟩ = some (.int .i64 r.sp) ∧ u.cell? ⟨xb, 3, none⟩ = some (.int .i64 r.wt) ∧ u.cell? ⟨xb, 4, none⟩ = some (.slice (some ⟨jb, 0, none⟩) xs.length xs.length) ∧ Both w u b mb k v1 jb (.slice A2 xs.length c2) xb r r)
            (first | assumption | exact both_S_drew (by assumption))
            (first
              | (go_at_call 21; refine (A21.out _ (by assumption)).mono ?_; rintro e w' ⟨rfl, hs'⟩)
              | (go_at_call 22; refine (A22.out _ (by assumption)).mono ?_; rintro e w' ⟨rfl, hs'⟩)
              | (go_at_call 23; refine (A23.out _ (by assumption)).mono ?_; rintro e w' ⟨rfl, hs'⟩)
              | (go_at_call 24; refine (A24.out _ (by assumption)).mono ?_; rintro e w' ⟨rfl, hs'⟩))
          have HB : Hid (Both w w' b mb k v1 jb (.slice A2 xs.length c2) xb r r) := (show w'.cell? ⟨xb, 0, none⟩ = some (.slice A2 xs.length c2) ∧ w'.cell? ⟨xb, 1, none⟩ = some (.int .i64 (r.at_ : Int)) ∧ w'.cell? ⟨xb, 2, none⟩ = some (.int .i64 r.sp) ∧ w'.cell? ⟨xb, 3, none⟩ = some (.int .i64 r.wt) ∧ w'.cell? ⟨xb, 4, none⟩ = some (.slice (some ⟨jb, 0, none⟩) xs.length xs.length) ∧ Both w w' b mb k v1 jb (.slice A2 xs.length c2) xb r r from by assumption).2.2.2.2.2
          clear A21 A22 A23 A24 HS hcb
          have hcb : w'.cell? ⟨gb, offb + k, none⟩ = some (.bool arr) := (HB.out.below.cell (p := ⟨gb, offb + k, none⟩) hgb).trans HCA.out
          go_wp2_with fail
          refine (both_step1 HB.out (by unfold maxLen; omega) arr).mono ?_
          rintro e wq ⟨rfl, hq⟩
          have HQ := Lib.hid hq
          clear hq HB hcb
          have hcb : wq.cell? ⟨gb, offb + k, none⟩ = some (.bool arr) := (HQ.out.below.cell (p := ⟨gb, offb + k, none⟩) hgb).trans HCA.out
          have q0 := HQ.out.c0
          have q1 := HQ.out.c1
          have q2 := HQ.out.c2
          have q3 := HQ.out.c3
          have q4 := HQ.out.c4
          rw [HXS.out] at q4
          have HX2 : Hid ((r.step arr).xs = xs) := (step_xs r arr).trans HXS.out
          have A26 : Hid (∀ W, Below wq.heap.size wq W → Calls Try.prog 26 #[.agg #[.slice A2 xs.length c2, .int .i64 (r.at_ : Int), .int .i64 r.sp, .int .i64 r.wt, .slice (some ⟨jb, 0, none⟩) xs.length xs.length], .bool arr] W fun e w' => e = .returned (.agg #[.slice A2 xs.length c2, .int .i64 ((r.step arr).at_ : Int), .int .i64 (r.step arr).sp, .int .i64 (r.step arr).wt, .slice (some ⟨jb, 0, none⟩) xs.length xs.length]) ∧
              HalfX w w' b mb (k + 1) v1 jb A2 xs c2 xb (r.step arr) r) := fun W hb => by
            have hc := both_step2 (HQ.out.quiet hb) arr
            unfold docV runV at hc
            rw [HXS.out, HX2.out] at hc
            exact hc.mono fun _ _ hh => ⟨hh.1, halfX HX2.out hh.2⟩
          clear HQ
          generalize r.step arr = r2 at *
          go_wp2_with fail
          go_region_with (go_at_call 26; refine (A26.out _ (by first | exact below_drew1 _ | exact below_drewN _ _)).mono ?_; rintro e w4 ⟨rfl, hh⟩; (obtain ⟨y0, y1, y2, y3, y4, f0, f1, f2, f3, f4, hfin⟩ := hh.open; have HFIN := Lib.hid hfin; clear hfin hh))
          all_goals
            clear y0 y1 y2 y3 y4 f0 f1 f2 f3 f4 q0 q1 q2 q3 q4 A26
            have HFX : Hid (Both w _ b mb (k + 1) v1 jb (.slice A2 xs.length c2) xb r2 r2) := HFIN.out
            unfold xset at HFX
            clear HFIN
            go_wp2_with fail
            go_roundg (bs.length - (k + 1))
            case measure => have := HG.out; omega
            case rel => exact ⟨k + 1, r2, by omega, rfl, by go_num, HFX, HX2⟩
        · have A16 : Hid (∀ W, (W.cell? ⟨xb, 0, none⟩ = some (.slice A2 xs.length c2) ∧ W.cell? ⟨xb, 1, none⟩ = some (.int .i64 (r.at_ : Int)) ∧ W.cell? ⟨xb, 2, none⟩ = some (.int .i64 r.sp) ∧ W.cell? ⟨xb, 3, none⟩ = some (.int .i64 r.wt) ∧ W.cell? ⟨xb, 4, none⟩ = some (.slice (some ⟨jb, 0, none⟩) xs.length xs.length) ∧ Both w W b mb k v1 jb (.slice A2 xs.length c2) xb r r) → Calls Try.prog 16 #[] W fun e w' => e = .returned (.bool true) ∧ (w'.cell? ⟨xb, 0, none⟩ = some (.slice A2 xs.length c2) ∧ w'.cell? ⟨xb, 1, none⟩ = some (.int .i64 (r.at_ : Int)) ∧ w'.cell? ⟨xb, 2, none⟩ = some (.int .i64 r.sp) ∧ w'.cell? ⟨xb, 3, none⟩ = some (.int .i64 r.wt) ∧ w'.cell? ⟨xb, 4, none⟩ = some (.slice (some ⟨jb, 0, none⟩) xs.length xs.length) ∧ Both w w' b mb k v1 jb (.slice A2 xs.length c2) xb r r)) := fun W h => (both_awake h.2.2.2.2.2).mono fun _ _ hh => ⟨hh.1, both_S HXS.out hh.2⟩
          go_wp2_with fail
          go_region_held3 (fun u => u.cell? ⟨xb, 0, none⟩ = some (.slice A2 xs.length c2) ∧ u.cell? ⟨xb, 1, none⟩ = some (.int .i64 (r.at_ : Int)) ∧ u.cell? ⟨xb, 2, none⟩ = some (.int .i64 r.sp) ∧ u.cell? ⟨xb, 3, none⟩ = some (.int .i64 r.wt) ∧ u.cell? ⟨xb, 4, none⟩ = some (.slice (some ⟨jb, 0, none⟩) xs.length xs.length) ∧ Both w u b mb k v1 jb (.slice A2 xs.length c2) xb r r)
            (first | assumption | exact both_S_drew (by assumption))
            (first
              | (go_at_call 21; refine (A21.out _ (by assumption)).mono ?_; rintro e w' ⟨rfl, hs'⟩)
              | (go_at_call 22; refine (A22.out _ (by assumption)).mono ?_; rintro e w' ⟨rfl, hs'⟩)
              | (go_at_call 23; refine (A23.out _ (by assumption)).mono ?_; rintro e w' ⟨rfl, hs'⟩)
              | (go_at_call 16; refine (A16.out _ (by assumption)).mono ?_; rintro e w' ⟨rfl, hs'⟩))
          have HF : Hid (AwakePost w (.returned (.bool true)) w') := ⟨rfl, (show w'.cell? ⟨xb, 0, none⟩ = some (.slice A2 xs.length c2) ∧ w'.cell? ⟨xb, 1, none⟩ = some (.int .i64 (r.at_ : Int)) ∧ w'.cell? ⟨xb, 2, none⟩ = some (.int .i64 r.sp) ∧ w'.cell? ⟨xb, 3, none⟩ = some (.int .i64 r.wt) ∧ w'.cell? ⟨xb, 4, none⟩ = some (.slice (some ⟨jb, 0, none⟩) xs.length xs.length) ∧ Both w w' b mb k v1 jb (.slice A2 xs.length c2) xb r r from by assumption).2.2.2.2.2.below⟩
          go_wp2_with fail
          go_ret
          exact HF.out
set_option maxRecDepth 100000 in
set_option maxHeartbeats 4000000 in
theorem runs_none (w : World) (sp : Int) (v : Value) (xs : List It) (Ab : Option Addr) (capb : Nat) (hr : IR w v xs) (hz : chk xs = 0) :
    Calls Try.prog 5 #[.int .i64 sp, v, .slice Ab 0 capb] w (AwakePost w) := by
  have HR := Lib.hid hr
  have HZ := Lib.hid hz
  obtain ⟨A, cap, hv⟩ := hr.form
  clear hr
  subst hv
  have HL64 : Hid (xs.length ≤ 64) := (chk_all hz).1
  clear hz
  go_enter Try.func5, Try.ntmps5
  go_wp2_with fail
  refine (lent_any w _ xs HR.out).mono ?_
  rintro e w1 ⟨g, cp, rfl, hl⟩
  have HL := Lib.hid hl
  clear hl
  go_wp2_with fail
  refine (new_good w1 sp _ xs (HL.out.ir HR.out.1) HZ.out).mono ?_
  rintro e w2 ⟨b, mb, v1, rfl, hm⟩
  have HM := Lib.hid hm
  have HL2 := Lib.hid (HL.out.keep hm.below)
  clear hm
  go_wp2_with fail
  refine (rnew_good w2 sp _ xs (HR.out.below HL2.out.below) HZ.out).mono ?_
  rintro e w3 ⟨v2, jb, rfl, hi3, hj3, hjb3, hv3, hb3⟩
  obtain ⟨A2, c2, hv2⟩ := hi3.form
  subst hv2
  have HD3 : Hid (Doc w3 (.slice A2 xs.length c2) jb (rn0 xs sp)) := ⟨hi3, hj3, fun g hg => (hv3 g hg).2⟩
  have HV3 := Lib.hid hv3
  have HJB := Lib.hid hjb3
  have HB3 := Lib.hid hb3
  have HL3 := Lib.hid (HL2.out.keep hb3)
  clear hi3 hj3 hjb3 hv3 hb3
  unfold runV
  have HB4 : Hid (Below w3.heap.size w3 (w3.alloc (.cells #[.slice A2 xs.length c2, .int .i64 0, .int .i64 sp, .int .i64 0, .slice (some ⟨jb, 0, none⟩) xs.length xs.length] 40))) := below_alloc1 w3 _
  have HX4 : Hid (Both w (w3.alloc (.cells #[.slice A2 xs.length c2, .int .i64 0, .int .i64 sp, .int .i64 0, .slice (some ⟨jb, 0, none⟩) xs.length xs.length] 40)) b mb 0 v1 jb (.slice A2 xs.length c2) w3.heap.size (rn0 xs sp) (rn0 xs sp)) := by
    have h1 := HL.out.below.size
    have h2 := HM.out.bnew
    have h3 := HM.out.mnew
    have h4 := HJB.out
    have h5 := HM.out.run.ptr
    have h6 := HM.out.run.map.lt
    have h7 := HB3.out.size
    have h8 := HM.out.below.size
    have h9 : jb < w3.heap.size := by obtain ⟨cs, hc, _⟩ := HD3.out.jumps; exact lt_of_at hc
    refine ⟨(HM.out.run.below HB3.out).below HB4.out, HD3.out.below HB4.out, heap_alloc_new w3 _, inv0 HZ.out sp, inv0 HZ.out sp, rfl, below_next HL3.out.below HB4.out, ⟨by omega, by omega, by omega, by omega⟩, ⟨by omega, by omega, by omega, by omega, by omega⟩, fun hn g hg => ?_, fun hn g hg => ?_⟩
    · have := HM.out.run.items.lt hn g hg
      omega
    · have h10 := HD3.out.items.lt hn g hg
      have h11 := HV3.out g hg
      omega
  have HL4 := Lib.hid (HL3.out.keep HB4.out)
  have HCP : Hid (xs.length ≤ cp) := by have := HL.out.cap; unfold Hid; omega
  have HG4 : Hid (g < w1.heap.size ∧ w.heap.size ≤ g) := ⟨(HL.out.own.lt g rfl).2, (HL.out.own.lt g rfl).1⟩
  clear HL HL2 HL3 HB3
  go_wp2_with fail
  refine (kept_any w _ g cp _ xs HL4.out (HR.out.below HL4.out.below)).mono ?_
  rintro e w5 ⟨rfl, hb5⟩
  have HL5 := Lib.hid (HL4.out.keep hb5)
  have HX5 := Lib.hid (HX4.out.quiet hb5)
  have HA5 : Hid ((g ≠ b ∧ g ≠ mb ∧ g ≠ jb ∧ g ≠ w3.heap.size) ∧ (∀ o, v1.ownBlock = some o → o ≠ g) ∧ (∀ o, (Value.slice A2 xs.length c2).ownBlock = some o → o ≠ g)) := by
    have h1 := HG4.out
    have h2 := HM.out.bnew
    have h3 := HM.out.mnew
    have h4 := HJB.out
    have h5 := HM.out.below.size
    refine ⟨⟨by omega, by omega, by omega, ?_⟩, fun o ho => ?_, fun o ho => ?_⟩
    · have h9 : jb < w3.heap.size := by obtain ⟨cs, hc, _⟩ := HD3.out.jumps; exact lt_of_at hc
      omega
    · have := HM.out.vnew o ho
      omega
    · have := (HV3.out o ho).1
      omega
  have HR5 : Hid (Room w5 g (xs.length * 4)) := HL5.out.room
  have hn64 := HL64.out
  clear hb5 HL4 HX4 HL5 HD3 HV3 HJB HM HL64
  generalize hxb : w3.heap.size = xb at *
  clear hxb HB4
  go_wp2_with fail
  go_loopg [12] xs.length (fun gh i wr => ∃ k : Nat, k ≤ xs.length ∧ gh = xs.length - k ∧ i = .int .i64 k ∧ Hid (Both w wr b mb 0 v1 jb (.slice A2 xs.length c2) xb (rn0 xs sp) (rn0 xs sp)) ∧ Hid (Room wr g (xs.length * 4)))
  case atStart => exact ⟨0, Nat.zero_le _, rfl, rfl, HX5, HR5⟩
  case round =>
    obtain ⟨k, hk, hgk, rfl, HX, HRM⟩ := hrel
    have HG := Lib.hid hgk
    clear hgk HX5 HR5
    by_cases hlt : k < xs.length
    · obtain ⟨hgl, ⟨u0, y0⟩, f0⟩ := HRM.out.cell (i := k * 4) (by omega)
      obtain ⟨_, ⟨u1, y1⟩, f1⟩ := HRM.out.cell (i := k * 4 + 1) (by omega)
      obtain ⟨_, ⟨u2, y2⟩, f2⟩ := HRM.out.cell (i := k * 4 + 2) (by omega)
      obtain ⟨_, ⟨u3, y3⟩, f3⟩ := HRM.out.cell (i := k * 4 + 3) (by omega)
      have hcp : xs.length ≤ cp := HCP.out
      go_wp2_with fail
      have HX2 := Lib.hid (HX.out.aside (((((Wrote.refl wr (fun k => k = g)).set rfl (k * 4) (.int .u8 77)).set rfl (k * 4 + 1) (.int .i64 0)).set rfl (k * 4 + 2) (.int .i64 0)).set rfl (k * 4 + 3) (.int .i64 0)) HG4.out.2 HA5.out.1 HA5.out.2.1 HA5.out.2.2)
      have HR2 : Hid (Room ((((wr.setCell ⟨g, k * 4, none⟩ (.int .u8 77)).setCell ⟨g, k * 4 + 1, none⟩ (.int .i64 0)).setCell ⟨g, k * 4 + 2, none⟩ (.int .i64 0)).setCell ⟨g, k * 4 + 3, none⟩ (.int .i64 0)) g (xs.length * 4)) := (((HRM.out.set _ _).set _ _).set _ _).set _ _
      go_roundg (xs.length - (k + 1))
      case measure => have := HG.out; omega
      case rel => exact ⟨k + 1, by omega, rfl, by go_num, HX2, HR2⟩
    · go_wp2_with fail
      have HX0 : Hid (Both w wr b mb 0 v1 jb (.slice A2 xs.length c2) xb (rn0 xs sp) (rn0 xs sp)) := HX
      clear HX HRM HG hlt hk HA5 HG4 HCP HR
      go_loopg [13] 0 (fun gh i wr => ∃ (k : Nat) (r : Rn), k = 0 ∧ gh = 0 ∧ i = .int .i64 k ∧ Hid (Both w wr b mb k v1 jb (.slice A2 xs.length c2) xb r r) ∧ Hid (r.xs = xs))
      case atStart => exact ⟨0, rn0 xs sp, rfl, rfl, rfl, HX0, rfl⟩
      case round =>
        clear HX0
        obtain ⟨k, r, rfl, hgk, rfl, HX, HXS⟩ := hrel
        clear hgk
        obtain ⟨kk, gx, gy, gz, gs, hgl⟩ := goal_form r
        have A21 : Hid (∀ W, (W.cell? ⟨xb, 0, none⟩ = some (.slice A2 xs.length c2) ∧ W.cell? ⟨xb, 1, none⟩ = some (.int .i64 (r.at_ : Int)) ∧ W.cell? ⟨xb, 2, none⟩ = some (.int .i64 r.sp) ∧ W.cell? ⟨xb, 3, none⟩ = some (.int .i64 r.wt) ∧ W.cell? ⟨xb, 4, none⟩ = some (.slice (some ⟨jb, 0, none⟩) xs.length xs.length) ∧ Both w W b mb 0 v1 jb (.slice A2 xs.length c2) xb r r) → Calls Try.prog 21 #[.pointer (some ⟨b, 0, none⟩)] W fun e w' => e = .returned (goalV kk gx gy gz gs) ∧ (w'.cell? ⟨xb, 0, none⟩ = some (.slice A2 xs.length c2) ∧ w'.cell? ⟨xb, 1, none⟩ = some (.int .i64 (r.at_ : Int)) ∧ w'.cell? ⟨xb, 2, none⟩ = some (.int .i64 r.sp) ∧ w'.cell? ⟨xb, 3, none⟩ = some (.int .i64 r.wt) ∧ w'.cell? ⟨xb, 4, none⟩ = some (.slice (some ⟨jb, 0, none⟩) xs.length xs.length) ∧ Both w w' b mb 0 v1 jb (.slice A2 xs.length c2) xb r r)) := fun W h => (both_goal h.2.2.2.2.2).mono fun _ _ hh => ⟨by rw [hh.1, hgl], both_S HXS.out hh.2⟩
        have A22 : Hid (∀ W, (W.cell? ⟨xb, 0, none⟩ = some (.slice A2 xs.length c2) ∧ W.cell? ⟨xb, 1, none⟩ = some (.int .i64 (r.at_ : Int)) ∧ W.cell? ⟨xb, 2, none⟩ = some (.int .i64 r.sp) ∧ W.cell? ⟨xb, 3, none⟩ = some (.int .i64 r.wt) ∧ W.cell? ⟨xb, 4, none⟩ = some (.slice (some ⟨jb, 0, none⟩) xs.length xs.length) ∧ Both w W b mb 0 v1 jb (.slice A2 xs.length c2) xb r r) → Calls Try.prog 22 #[.agg #[.slice A2 xs.length c2, .int .i64 (r.at_ : Int), .int .i64 r.sp, .int .i64 r.wt, .slice (some ⟨jb, 0, none⟩) xs.length xs.length]] W fun e w' => e = .returned (goalV kk gx gy gz gs) ∧ (w'.cell? ⟨xb, 0, none⟩ = some (.slice A2 xs.length c2) ∧ w'.cell? ⟨xb, 1, none⟩ = some (.int .i64 (r.at_ : Int)) ∧ w'.cell? ⟨xb, 2, none⟩ = some (.int .i64 r.sp) ∧ w'.cell? ⟨xb, 3, none⟩ = some (.int .i64 r.wt) ∧ w'.cell? ⟨xb, 4, none⟩ = some (.slice (some ⟨jb, 0, none⟩) xs.length xs.length) ∧ Both w w' b mb 0 v1 jb (.slice A2 xs.length c2) xb r r)) := fun W h => by
          have hc := both_rgoal h.2.2.2.2.2
          unfold docV runV at hc
          rw [HXS.out] at hc
          exact hc.mono fun _ _ hh => ⟨by rw [hh.1, hgl], both_S HXS.out hh.2⟩
        have A23 : Hid (∀ W, (W.cell? ⟨xb, 0, none⟩ = some (.slice A2 xs.length c2) ∧ W.cell? ⟨xb, 1, none⟩ = some (.int .i64 (r.at_ : Int)) ∧ W.cell? ⟨xb, 2, none⟩ = some (.int .i64 r.sp) ∧ W.cell? ⟨xb, 3, none⟩ = some (.int .i64 r.wt) ∧ W.cell? ⟨xb, 4, none⟩ = some (.slice (some ⟨jb, 0, none⟩) xs.length xs.length) ∧ Both w W b mb 0 v1 jb (.slice A2 xs.length c2) xb r r) → Calls Try.prog 23 #[.pointer (some ⟨b, 0, none⟩)] W fun e w' => e = .returned (.int .i64 (r.at_ : Int)) ∧ (w'.cell? ⟨xb, 0, none⟩ = some (.slice A2 xs.length c2) ∧ w'.cell? ⟨xb, 1, none⟩ = some (.int .i64 (r.at_ : Int)) ∧ w'.cell? ⟨xb, 2, none⟩ = some (.int .i64 r.sp) ∧ w'.cell? ⟨xb, 3, none⟩ = some (.int .i64 r.wt) ∧ w'.cell? ⟨xb, 4, none⟩ = some (.slice (some ⟨jb, 0, none⟩) xs.length xs.length) ∧ Both w w' b mb 0 v1 jb (.slice A2 xs.length c2) xb r r)) := fun W h => (both_index h.2.2.2.2.2).mono fun _ _ hh => ⟨hh.1, both_S HXS.out hh.2⟩
        have A24 : Hid (∀ W, (W.cell? ⟨xb, 0, none⟩ = some (.slice A2 xs.length c2) ∧ W.cell? ⟨xb, 1, none⟩ = some (.int .i64 (r.at_ : Int)) ∧ W.cell? ⟨xb, 2, none⟩ = some (.int .i64 r.sp) ∧ W.cell? ⟨xb, 3, none⟩ = some (.int .i64 r.wt) ∧ W.cell? ⟨xb, 4, none⟩ = some (.slice (some ⟨jb, 0, none⟩) xs.length xs.length) ∧ Both w W b mb 0 v1 jb (.slice A2 xs.length c2) xb r r) → Calls Try.prog 24 #[.pointer (some ⟨b, 0, none⟩)] W fun e w' => e = .returned (.bool (decide (xs.length ≤ r.at_))) ∧ (w'.cell? ⟨xb, 0, none⟩ = some (.slice A2 xs.length c2) ∧ w'.cell? ⟨xb, 1, none⟩ = some (.int .i64 (r.at_ : Int)) ∧ w'.cell? ⟨xb, 2, none⟩ = some (.int .i64 r.sp) ∧ w'.cell? ⟨xb, 3, none⟩ = some (.int .i64 r.wt) ∧ w'.cell? ⟨xb, 4, none⟩ = some (.slice (some ⟨jb, 0, none⟩) xs.length xs.length) ∧ Both w w' b mb 0 v1 jb (.slice A2 xs.length c2) xb r r)) := fun W h => (both_over h.2.2.2.2.2).mono fun _ _ hh => ⟨by rw [hh.1, HXS.out], both_S HXS.out hh.2⟩
        have HGF : Hid (r.goal = goalV kk gx gy gz gs) := hgl
        have hat : r.at_ ≤ xs.length := by have := HX.out.ri.le; rw [HXS.out] at this; exact this
        have HS := both_S HXS.out HX.out
        clear hgl
        unfold goalV at A21 A22
        have A16 : Hid (∀ W, (W.cell? ⟨xb, 0, none⟩ = some (.slice A2 xs.length c2) ∧ W.cell? ⟨xb, 1, none⟩ = some (.int .i64 (r.at_ : Int)) ∧ W.cell? ⟨xb, 2, none⟩ = some (.int .i64 r.sp) ∧ W.cell? ⟨xb, 3, none⟩ = some (.int .i64 r.wt) ∧ W.cell? ⟨xb, 4, none⟩ = some (.slice (some ⟨jb, 0, none⟩) xs.length xs.length) ∧ Both w W b mb 0 v1 jb (.slice A2 xs.length c2) xb r r) → Calls Try.prog 16 #[] W fun e w' => e = .returned (.bool true) ∧ (w'.cell? ⟨xb, 0, none⟩ = some (.slice A2 xs.length c2) ∧ w'.cell? ⟨xb, 1, none⟩ = some (.int .i64 (r.at_ : Int)) ∧ w'.cell? ⟨xb, 2, none⟩ = some (.int .i64 r.sp) ∧ w'.cell? ⟨xb, 3, none⟩ = some (.int .i64 r.wt) ∧ w'.cell? ⟨xb, 4, none⟩ = some (.slice (some ⟨jb, 0, none⟩) xs.length xs.length) ∧ Both w w' b mb 0 v1 jb (.slice A2 xs.length c2) xb r r)) := fun W h => (both_awake h.2.2.2.2.2).mono fun _ _ hh => ⟨hh.1, both_S HXS.out hh.2⟩
        go_wp2_with fail
        go_region_held3 (fun u => u.cell? ⟨xb, 0, none⟩ = some (.slice A2 xs.length c2) ∧ u.cell? ⟨xb, 1, none⟩ = some (.int .i64 (r.at_ : Int)) ∧ u.cell? ⟨xb, 2, none⟩ = some (.int .i64 r.sp) ∧ u.cell? ⟨xb, 3, none⟩ = some (.int .i64 r.wt) ∧ u.cell? ⟨xb, 4, none⟩ = some (.slice (some ⟨jb, 0, none⟩) xs.length xs.length) ∧ Both w u b mb 0 v1 jb (.slice A2 xs.length c2) xb r r)
          (first | assumption | exact both_S_drew (by assumption))
          (first
            | (go_at_call 21; refine (A21.out _ (by assumption)).mono ?_; rintro e w' ⟨rfl, hs'⟩)
            | (go_at_call 22; refine (A22.out _ (by assumption)).mono ?_; rintro e w' ⟨rfl, hs'⟩)
            | (go_at_call 23; refine (A23.out _ (by assumption)).mono ?_; rintro e w' ⟨rfl, hs'⟩)
            | (go_at_call 16; refine (A16.out _ (by assumption)).mono ?_; rintro e w' ⟨rfl, hs'⟩))
        have HF : Hid (AwakePost w (.returned (.bool true)) w') := ⟨rfl, (show w'.cell? ⟨xb, 0, none⟩ = some (.slice A2 xs.length c2) ∧ w'.cell? ⟨xb, 1, none⟩ = some (.int .i64 (r.at_ : Int)) ∧ w'.cell? ⟨xb, 2, none⟩ = some (.int .i64 r.sp) ∧ w'.cell? ⟨xb, 3, none⟩ = some (.int .i64 r.wt) ∧ w'.cell? ⟨xb, 4, none⟩ = some (.slice (some ⟨jb, 0, none⟩) xs.length xs.length) ∧ Both w w' b mb 0 v1 jb (.slice A2 xs.length c2) xb r r from by assumption).2.2.2.2.2.below⟩
        go_wp2_with fail
        go_ret
        exact HF.out
theorem runs_walk (w : World) (sp : Int) (v vb : Value) (xs : List It) (bs : List Bool) (hr : IR w v xs) (hb : Bools w vb bs) : Calls Try.prog 5 #[.int .i64 sp, v, vb] w (AwakePost w) := by
  by_cases hz : chk xs = 0
  · obtain ⟨hl, Ab, capb, rfl, h | ⟨gb, offb, rfl, hg, hc⟩⟩ := hb
    · subst h
      exact runs_none w sp v xs Ab capb hr hz
    · exact runs_good w sp v xs bs gb offb capb hr hl hg hc hz
  · exact runs_bad w sp v vb xs bs hr hb hz
end Go.Proofs.Ytkgenhoaeiihoaa
