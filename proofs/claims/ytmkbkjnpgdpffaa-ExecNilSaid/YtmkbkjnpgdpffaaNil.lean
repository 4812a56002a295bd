/- The walk of ExecNil: true, in whatever world. No condition. -/
import Derived.Test.YtmkbkjnpgdpffaaAwake
namespace Go.Proofs.Ytmkbkjnpgdpffaa
open Go.RowKit

def jsN (k : Nat) : List Jb := (List.range k).map fun (i : Nat) => ⟨1, 0, -(i : Int)⟩
theorem jsN_len (k : Nat) : (jsN k).length = k := by simp [jsN]
theorem jsN_succ (k : Nat) : jsN (k + 1) = jsN k ++ [⟨1, 0, -(k : Int)⟩] := by simp [jsN, List.range_succ]
theorem jsN_get (k i : Nat) (h : i < k) : (jsN k).getD i jd = ⟨1, 0, -(i : Int)⟩ := by
  unfold jsN
  rw [List.getD_eq_getElem?_getD, List.getElem?_map, List.getElem?_range h]
  rfl
theorem jr_own {w : World} {B : Nat} {v : Value} {js : List Jb} (h : w.ownsRow B 36 3 v js.length (js.flatMap jbL)) (hb : js.length * 24 ≤ 140737488351232) : JR w v js := by
  refine ⟨hb, ?_⟩
  rcases h.2 with ⟨hv, hn⟩ | ⟨g, cap, cur, hv, _, hg, _⟩
  · exact .inl ⟨hv, List.eq_nil_of_length_eq_zero hn⟩
  · subst hv
    refine .inr ⟨_, cap, rfl, .inr ⟨g, 0, rfl, lt_of_at hg, fun i hi => ?_⟩⟩
    rw [Nat.zero_add]
    obtain ⟨a, b, c⟩ := flat_at js i hi
    exact ⟨(h.cellAt _ (by omega)).trans a, (h.cellAt _ (by omega)).trans b, (h.cellAt _ (by omega)).trans c⟩
theorem soundN : Sound (jsN 64) := by
  refine ⟨fun i hi => ?_, by rw [jsN_len]; omega, fun j hj => ?_⟩
  · rw [jsN_len] at hi
    rw [jsN_get 64 i hi]
    exact ⟨Int.le_refl 1, Int.le_refl 0⟩
  · unfold jsN at hj
    obtain ⟨i, _, rfl⟩ := List.mem_map.1 hj
    show (1 : Int) ≤ top
    unfold top; omega
theorem dueN : due (jsN 64) 0 = (List.range 64).reverse := by decide +kernel
theorem codeN {c : Int} (h : Code (jsN 64) c) : c = 0 := h.one (.inr (.inl ⟨by rw [jsN_len]; omega, soundN.good, rfl⟩))
theorem codeM {c : Int} (h : Code (jsN 64 ++ [⟨0, 0, 0⟩]) c) : c = 4 := h.one (.inl ⟨by rw [List.length_append, jsN_len]; decide, rfl⟩)
theorem jb_one1 (a b c : Int) : ∀ u ∈ [Value.int .i64 a, .int .i64 b, .int .i64 c], u.oneCell' = true := by
  intro u hu
  simp only [List.mem_cons, List.not_mem_nil, or_false] at hu
  rcases hu with rfl | rfl | rfl <;> rfl
def Jobs (w wr : World) (v : Value) (k : Nat) : Prop := wr.ownsRow w.heap.size 36 3 v k ((jsN k).flatMap jbL) ∧ Below w.heap.size w wr
theorem Jobs.next {w wr w1 : World} {v v1 : Value} {k : Nat} {o : Obj} (h : Jobs w wr v k) (hg : (wr.alloc o).grownBy w1 v.ownBlock) (ho : w1.ownsRow w.heap.size 36 3 v1 (k + 1) ((jsN k).flatMap jbL ++ [.int .i64 1, .int .i64 0, .int .i64 (-(k : Int))])) : Jobs w w1 v1 (k + 1) := by
  refine ⟨?_, (h.2.alloc h.2.size _).grown hg (by rw [alloc_size]; have := h.2.size; omega) (fun c hc => (h.1.lt c hc).1)⟩
  rw [jsN_succ, List.flatMap_append]
  exact ho
set_option maxRecDepth 100000 in
set_option maxHeartbeats 2000000 in
theorem execNil_walk (w : World) : Calls Try.prog 6 #[] w fun e w' => e = .returned (.bool true) ∧ Below w.heap.size w w' := by
  obtain ⟨i0, hi, hz0, hz1, hz2⟩ := info_parts info36
  go_enter Try.func6, Try.ntmps6
  go_wp2_with fail
  go_loopw [2, 3] (fun v i wr => ∃ k : Nat, k ≤ 64 ∧ i = .int .i64 k ∧ Jobs w wr v k) (fun _ i _ => 64 - (intOf i).toNat)
  case atStart => exact ⟨0, by omega, rfl, World.ownsRow_nil _ _ _ _, Below.refl _ _⟩
  case round =>
    obtain ⟨k, hk, rfl, hj⟩ := hrel
    have HJ := Lib.hid hj
    have hown := hj.1
    have hbl := hj.2.size
    clear hj
    by_cases hlt : k < 64
    · go_wp2_with (at_builtin; refine wpList_append_own _ rfl (.tmp 13) (.tmp 17) 22 rfl w.heap.size 36 i0 _ 3 24 Try.underlying22 hi hz0 hz1 hz2 rfl (by decide) _ _ _ rfl (hown.alloc _) ⟨wr.heap.size, 0, none⟩ 1 1 [.int .i64 1, .int .i64 0, .int .i64 (-(k : Int))] rfl rfl (World.news_of_block (one_new _ _)) (jb_one1 _ _ _) ?c1 ?c2 ?c3 ?_)
      case c1 => unfold maxLen; omega
      case c2 => omega
      case c3 => rw [alloc_size]; omega
      intro v1 w1 hown1 hgrow _
      have HN := Lib.hid (HJ.out.next hgrow hown1)
      clear hown1 hgrow hown
      go_wp2_with fail
      go_roundw
      case rel => exact ⟨k + 1, by omega, by go_num, HN.out⟩
      case measure => simp [intOf]; omega
    · obtain rfl : k = 64 := by omega
      have hjr := jr_own (js := jsN 64) (by rw [jsN_len]; exact hown) (by rw [jsN_len]; omega)
      have HJR := Lib.hid hjr
      clear hjr
      go_wp2_with fail
      refine (new_made _ _ (jsN 64) HJR.out).mono ?_
      rintro e w1 ⟨pv, c, rfl, ⟨hc, hmade⟩, hb1⟩
      have hc0 := codeN hc
      subst hc0
      obtain ⟨_, b, jb, mb, rfl, hl, k1, k2, k3⟩ := hmade.resolve_left (fun h => h.1 rfl)
      have HL := Lib.hid hl
      have HB1 := Lib.hid hb1
      clear hl hb1 hmade hc
      have HO1 : Hid (w1.ownsRow w.heap.size 36 3 u2 64 ((jsN 64).flatMap jbL)) := ownsRow_kept hown (Wrote.of_below HB1.out (fun _ => False)) (fun _ h => h.elim)
      clear hown HJR
      go_wp2_with (at_builtin; refine wpList_append_own _ rfl (.tmp 25) (.tmp 27) 22 rfl w.heap.size 36 i0 _ 3 24 Try.underlying22 hi hz0 hz1 hz2 rfl (by decide) _ _ _ rfl (HO1.out.alloc _) ⟨w1.heap.size, 0, none⟩ 1 1 [.int .i64 0, .int .i64 0, .int .i64 0] rfl rfl (World.news_of_block (one_new _ _)) (jb_one1 _ _ _) ?c1 ?c2 ?c3 ?_)
      case c1 => unfold maxLen; omega
      case c2 => omega
      case c3 => rw [alloc_size]; have := HB1.out.size; omega
      intro v2 w2 hown2 hgrow2 _
      have HJR2 : Hid (JR w2 v2 (jsN 64 ++ [⟨0, 0, 0⟩])) := by
        have hl : (jsN 64 ++ [(⟨0, 0, 0⟩ : Jb)]).length = 64 + 1 := by rw [List.length_append, jsN_len]; rfl
        refine jr_own (B := w.heap.size) ?_ ?_
        · rw [hl, List.flatMap_append]; exact hown2
        · rw [hl]; omega
      have hS : ∀ c, u2.ownBlock = some c → c < wr.heap.size := fun c hc => (HJ.out.1.lt c hc).2
      have HL2 : Hid (Live w2 b jb mb (jsN 64) 0) := by
        refine (HL.out.below (below_alloc1 w1 _)).wrote (S := fun k => u2.ownBlock = some k ∨ (w1.alloc (.cells #[.int .i64 0, .int .i64 0, .int .i64 0] 36)).heap.size ≤ k) ⟨hgrow2.os, hgrow2.tape, hgrow2.output, hgrow2.size, fun c hc hn => hgrow2.block c hc (fun h => hn (.inl h.symm))⟩ ?_ ?_ ?_
        · rintro (h | h)
          · have := hS _ h; omega
          · have := (HL.out.below (below_alloc1 w1 (.cells #[.int .i64 0, .int .i64 0, .int .i64 0] 36))).lt; omega
        · obtain ⟨_, _, _, _, hj, _⟩ := HL.out
          rintro (h | h)
          · have := hS _ h; omega
          · rw [alloc_size] at h; omega
        · obtain ⟨_, _, _, _, _, hm⟩ := HL.out
          rintro (h | h)
          · have := hS _ h; omega
          · rw [alloc_size] at h; omega
      have HB2 : Hid (Below w.heap.size w w2) := by
        have h1 : Below w.heap.size w w1 := HJ.out.2.trans (HB1.out.mono HJ.out.2.size)
        exact (h1.alloc h1.size _).grown hgrow2 (by rw [alloc_size]; have := h1.size; omega) (fun c hc => (HO1.out.lt c hc).1)
      have s1 := HB1.out.size
      clear hown2 hgrow2 HO1 HL HB1 hS
      go_wp2_with fail
      refine (new_made _ _ _ HJR2.out).mono ?_
      rintro e w3 ⟨pv, c, rfl, ⟨hc, hmade⟩, hb3⟩
      have hc0 := codeM hc
      subst hc0
      obtain ⟨_, rfl⟩ := hmade.resolve_right (fun h => by have := h.1; omega)
      have HL3 := Lib.hid (HL2.out.below hb3)
      have HB3 := Lib.hid (below_next HB2.out hb3)
      clear hb3 hmade hc HJR2
      go_wp2_with fail
      refine (due_live w3 b jb mb _ 0 HL3.out soundN (by omega)).mono ?_
      intro e w4 hd
      obtain ⟨v4, rfl, hi4, hg4, hl4, hw4⟩ := due_ints hd
      have HI4 : Hid (Ints w4 v4 (List.range 64).reverse) := by
        rw [show due (jsN 64) ((0 : Nat) : Int) = (List.range 64).reverse from dueN] at hi4
        exact hi4
      have HB4 : Hid (Below w.heap.size w w4) := below_wrote HB3.out hw4 (fun c hc => by rcases hc with rfl | rfl <;> omega) HB3.out.size
      clear hd hi4 hl4 hw4 hg4 HL3 HL2 HB3 HB2
      go_wp2_with fail
      refine (awake_any _).mono ?_
      rintro e w5 ⟨rfl, hb5⟩
      have HB5 := Lib.hid (below_next HB4.out hb5)
      have HI5 := Lib.hid (HI4.out.below hb5)
      clear hb5 HI4 HB4
      go_wp2_with fail
      refine (due_nil _).mono ?_
      rintro e w6 ⟨rfl, hw6⟩
      subst hw6
      go_wp2_with fail
      refine (now_nil _).mono ?_
      rintro e w7 ⟨rfl, hw7⟩
      subst hw7
      obtain ⟨A, cap, rfl, hcap, hx⟩ := HI5.out
      obtain ⟨g, off, rfl, hg, hcell⟩ := hx.resolve_left (by decide)
      have hc0 := hcell 0 (by simp)
      have hc1 := hcell 63 (by simp)
      rw [show (List.range 64).reverse.getD 0 0 = 63 from by decide +kernel, Nat.add_zero] at hc0
      rw [show (List.range 64).reverse.getD 63 0 = 0 from by decide +kernel] at hc1
      rw [show (List.range 64).reverse.length = 64 from by simp] at *
      clear hx hcell HI5
      go_wp2_with fail
      go_ret
      exact ⟨rfl, HB5.out⟩
end Go.Proofs.Ytmkbkjnpgdpffaa
