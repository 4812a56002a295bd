/- What New makes, in whatever world. Conditions: the items can be read. -/
import Derived.Test.YtkgenhoaeiihoaaInv
import Derived.Laws.AppendOwn
namespace Go.Proofs.Ytkgenhoaeiihoaa
open Go.RowKit
def rn0 (xs : List It) (sp : Int) : Rn := ⟨xs, 0, sp, 0, fun _ => 0⟩
theorem inv0 {xs : List It} (h : chk xs = 0) (sp : Int) : Inv (rn0 xs sp) := ⟨h, Nat.zero_le _, Int.le_refl 0, by show (0 : Int) ≤ 1000000; decide, fun h => absurd rfl h, fun _ => ⟨Int.le_refl 0, by show (0 : Int) ≤ 255; decide⟩⟩
/-- A run made behind w. -/
structure Made (w w' : World) (b mb n : Nat) (v : Value) (r : Rn) : Prop where
  run : RunAt w' b mb n v r
  below : Below w.heap.size w w'
  bnew : w.heap.size ≤ b
  mnew : w.heap.size ≤ mb
  vnew : ∀ g, v.ownBlock = some g → w.heap.size ≤ g
def NewGood (w : World) (r : Rn) (e : Ending) (w' : World) : Prop := ∃ b mb v, e = .returned (.tuple #[.pointer (some ⟨b, 0, none⟩), .int .i64 0]) ∧ Made w w' b mb 0 v r
theorem made_new {w w1 w2 : World} {v : Value} {xs : List It} {sp : Int} {b mb : Nat} (hmb : mb = w2.heap.size) (hb : b = w2.heap.size + 1) (hb1 : Below w.heap.size w w1) (hs : xs.length * 32 ≤ 140737488351232) (ho : w2.ownsRow w1.heap.size 45 4 v xs.length (xs.flatMap itL)) (hg : Below w1.heap.size w1 w2) :
    NewGood w (rn0 xs sp) (.returned (.tuple #[.pointer (some ⟨b, 0, none⟩), .int .i64 0])) ((w2.alloc (.map #[] 0)).alloc (.cells #[v, .int .i64 0, .int .i64 sp, .int .i64 0, .map (some mb)] 70)) := by
  subst hmb
  subst hb
  have h1 := hb1.size
  have h2 := hg.size
  have hb2 := below_next hb1 hg
  have hm := mapAs_made w2
  have hir := ir_own ho hs
  have hB : Below w2.heap.size w2 ((w2.alloc (.map #[] 0)).alloc (.cells #[v, .int .i64 0, .int .i64 sp, .int .i64 0, .map (some w2.heap.size)] 70)) :=
    (below_alloc1 w2 _).alloc (by rw [alloc_size]; omega) _
  refine ⟨_, _, v, rfl, ⟨two_new w2 _ _, hir.below hB, fun g hg => ?_, hm.kept (Wrote.of_below (below_alloc1 (w2.alloc (.map #[] 0)) _) (fun _ => False)) (fun h => h), by omega⟩, below_next hb2 hB, by omega, by omega, fun g hg => ?_⟩
  · have := (ho.lt g hg).2
    omega
  · have := (ho.lt g hg).1
    omega
theorem IR.newsAt {w : World} {ad : Addr} {n cap : Nat} {xs : List It} (h : IR w (.slice (some ad) n cap) xs) : ∀ (j : Nat) (u : Value), (xs.flatMap itL)[j]? = some u → w.cell? (ad.add j) = some u := by
  rcases h.news with ⟨hv, _⟩ | ⟨ad', cap', hv, hh⟩
  · cases hv
  · injection hv with hv
    injection hv with hv
    rw [hv]
    exact hh
set_option maxRecDepth 100000 in
set_option maxHeartbeats 2000000 in
theorem new_good (w : World) (sp : Int) (v : Value) (xs : List It) (h : IR w v xs) (hz : chk xs = 0) : Calls Try.prog 19 #[.int .i64 sp, v] w (NewGood w (rn0 xs sp)) := by
  have hmm := @run_makeMap Try.prog
  have H := Lib.hid h
  have HS := Lib.hid h.1
  obtain ⟨i0, hi, hz0, hz1, hz2⟩ := info_parts info45
  rcases h.news with ⟨rfl, rfl⟩ | ⟨ad, cap, rfl, hnews⟩
  · clear h
    go_enter Try.func19, Try.ntmps19
    go_wp2_with fail
    refine (check_any w _ [] H.out).mono ?_
    rintro e w1 ⟨rfl, hb1⟩
    have HB1 := Lib.hid hb1
    rw [hz]
    have hown : (w1.alloc (.cells #[] 45)).ownsRow w1.heap.size 45 4 (.slice (some ⟨w1.heap.size, 0, none⟩) 0 0) 0 [] := ⟨rfl, .inr ⟨w1.heap.size, 0, #[], rfl, Nat.le_refl _, heap_alloc_new _ _, Nat.le_refl _, Nat.zero_le _, rfl, rfl⟩⟩
    clear hb1
    go_wp2_with (at_builtin; refine wpList_append_own_none rfl _ _ 22 rfl w1.heap.size 45 i0 4 Try.underlying22 hi _ 0 [] rfl hown rfl ?_)
    go_ret2
    exact made_new (alloc_size w1 _).symm (by rw [alloc_size]) HB1.out HS.out hown (below_alloc1 w1 _)
  · have HN := Lib.hid hnews
    have HL : Hid ((xs.flatMap itL).length = xs.length * 4) := flat_len itL_len xs
    have H1 := Lib.hid (it_one xs)
    have hsm := h.1
    clear h hnews
    generalize hn : xs.length = n at *
    have HLN := Lib.hid hn
    clear hn
    go_enter Try.func19, Try.ntmps19
    go_wp2_with fail
    refine (check_any w _ xs H.out).mono ?_
    rintro e w1 ⟨rfl, hb1⟩
    have HB1 := Lib.hid hb1
    rw [hz]
    have hown : (w1.alloc (.cells #[] 45)).ownsRow w1.heap.size 45 4 (.slice (some ⟨w1.heap.size, 0, none⟩) 0 0) 0 [] := ⟨rfl, .inr ⟨w1.heap.size, 0, #[], rfl, Nat.le_refl _, heap_alloc_new _ _, Nat.le_refl _, Nat.zero_le _, rfl, rfl⟩⟩
    clear hb1
    go_wp2_with (at_builtin; refine wpList_append_own _ rfl _ _ 22 rfl w1.heap.size 45 i0 _ 4 32 Try.underlying22 hi hz0 hz1 hz2 rfl (by decide) _ 0 [] rfl hown ad n cap (xs.flatMap itL) rfl HL.out ?c0 H1.out ?c1 ?c2 ?c3 ?_)
    case c0 =>
      have hb2 := below_alloc1 w1 (.cells #[] 45)
      exact ((H.out.below HB1.out).below hb2).newsAt
    case c1 => unfold maxLen; omega
    case c2 => omega
    case c3 => rw [alloc_size]; omega
    intro v' w2 hown1 hgrow _
    have hf : ∃ A' c', v' = .slice A' n c' := by
      rcases hown1.2 with ⟨h, h0⟩ | ⟨g, c, cur, h, _⟩
      · exact ⟨none, 0, by rw [h, show n = 0 by omega]⟩
      · exact ⟨_, _, h⟩
    obtain ⟨A', c', rfl⟩ := hf
    have HO1 := Lib.hid hown1
    have HB2 : Hid (Below w1.heap.size w1 w2) := (below_alloc1 w1 (.cells #[] 45)).grown hgrow (by rw [alloc_size]; omega) (by intro k hk; cases hk; exact Nat.le_refl _)
    clear hown hown1 hgrow
    go_wp2_with fail
    go_ret2
    refine made_new rfl rfl HB1.out ?_ ?_ HB2.out
    · rw [HLN.out]
      exact HS.out
    · rw [HLN.out]
      exact HO1.out
set_option maxRecDepth 100000 in
theorem new_bad (w : World) (sp : Int) (v : Value) (xs : List It) (h : IR w v xs) (c : Int) (hc : chk xs = c) (hz : c ≠ 0) : Calls Try.prog 19 #[.int .i64 sp, v] w fun e w' => e = .returned (.tuple #[.pointer none, .int .i64 c]) ∧ Below w.heap.size w w' := by
  have H := Lib.hid h
  obtain ⟨A, cap, hv⟩ := h.form
  clear h
  subst hv
  go_enter Try.func19, Try.ntmps19
  go_wp2_with fail
  refine (check_any w _ xs H.out).mono ?_
  rintro e w1 ⟨rfl, hb1⟩
  have HB1 := Lib.hid hb1
  have hne : (c != 0) = true := by rw [bne_iff_ne]; exact hz
  rw [hc]
  clear hb1 hz H hc
  go_wp2_with fail
  go_ret2
  exact ⟨rfl, HB1.out⟩
end Go.Proofs.Ytkgenhoaeiihoaa
