/- What lent makes: the items, copied, and a marked one behind. Conditions: the items can be read. -/
import Derived.Test.YtkgenhoaeiihoaaNew
import Derived.Deep.DeepAppendWide
namespace Go.Proofs.Ytkgenhoaeiihoaa
open Go.RowKit
def mark99 : It := ⟨99, 0, 0, 0⟩
/-- Items of the call's own, with a marked one behind. -/
structure Lent (w w' : World) (g cap : Nat) (xs : List It) : Prop where
  own : w'.ownsRow w.heap.size 45 4 (.slice (some ⟨g, 0, none⟩) (xs.length + 1) cap) (xs.length + 1) ((xs ++ [mark99]).flatMap itL)
  below : Below w.heap.size w w'
def LentPost (w : World) (xs : List It) (e : Ending) (w' : World) : Prop := ∃ g cap, e = .returned (.slice (some ⟨g, 0, none⟩) xs.length cap) ∧ Lent w w' g cap xs
set_option maxRecDepth 100000 in
set_option maxHeartbeats 2000000 in
theorem lent_any (w : World) (v : Value) (xs : List It) (h : IR w v xs) : Calls Try.prog 10 #[v] w (LentPost w xs) := by
  obtain ⟨i0, hi, hz0, hz1, hz2⟩ := info_parts info45
  rcases h.news with ⟨rfl, rfl⟩ | ⟨ad, cap, rfl, hnews⟩
  · clear h
    go_enter Try.func10, Try.ntmps10
    go_wp2_with (at_builtin; first
      | refine wpList_append_own_none rfl _ _ 22 rfl w.heap.size 45 i0 4 Try.underlying22 hi _ 0 [] rfl (World.ownsRow_nil _ _ _ _) rfl ?_
      | refine wpList_append_lies _ rfl _ _ 22 rfl w.heap.size 45 i0 _ 4 32 Try.underlying22 hi hz0 hz1 hz2 rfl (by decide) _ 0 [] rfl (World.ownsRow_nil _ _ _ _) ⟨w.heap.size, 0, none⟩ 1 1 (itL mark99) rfl rfl (World.news_of_block (cs := #[.int .u8 99, .int .i64 0, .int .i64 0, .int .i64 0]) (heap_alloc_new w _)) (it_one [mark99]) (by decide) (by decide) (by decide) (by rw [alloc_size]; omega) _ rfl ?_)
    intro g cap w1 hown hgrow _ _
    have HO := Lib.hid hown
    have HB : Hid (Below w.heap.size w w1) := (below_alloc1 w _).grown hgrow (by rw [alloc_size]; omega) (by intro k hk; cases hk)
    clear hown hgrow
    go_wp2_with fail
    go_ret
    exact ⟨g, cap, rfl, HO.out, HB.out⟩
  · have HN := Lib.hid hnews
    have HL : Hid ((xs.flatMap itL).length = xs.length * 4) := flat_len itL_len xs
    have H1 := Lib.hid (it_one xs)
    have HXA : Hid ((xs ++ [mark99]).flatMap itL = xs.flatMap itL ++ itL mark99) := by unfold Hid; rw [List.flatMap_append]; simp
    have hsm := h.1
    have HF : Hid (∀ w' g cap, w'.ownsRow w.heap.size 45 4 (.slice (some ⟨g, 0, none⟩) (xs.length + 1) cap) (xs.length + 1) (xs.flatMap itL ++ itL mark99) → Below w.heap.size w w' → LentPost w xs (.returned (.slice (some ⟨g, 0, none⟩) xs.length cap)) w') := fun w' g cap ho hb => ⟨g, cap, rfl, by rw [HXA.out]; exact ho, hb⟩
    clear h hnews
    generalize hxx : xs.flatMap itL = xl at *
    clear hxx
    generalize hn : xs.length = n at *
    clear hn HXA
    go_enter Try.func10, Try.ntmps10
    go_wp2_with (at_builtin; refine wpList_append_own _ rfl _ _ 22 rfl w.heap.size 45 i0 _ 4 32 Try.underlying22 hi hz0 hz1 hz2 rfl (by decide) _ _ _ rfl (World.ownsRow_nil _ _ _ _) ad n cap xl rfl HL.out HN.out H1.out (by unfold maxLen; omega) (by omega) (Nat.le_refl _) ?_)
    intro v1 w1 hown hgrow _
    have HB1 : Hid (Below w.heap.size w w1) := (Below.refl _ _).grown hgrow (Nat.le_refl _) (by intro k hk; cases hk)
    have hown1 : w1.ownsRow w.heap.size 45 4 v1 n xl := by simpa using hown
    have HO1 := Lib.hid hown1
    have hbl := HB1.out.size
    clear hown hgrow
    go_wp2_with (at_builtin; refine wpList_append_lies _ rfl _ _ 22 rfl w.heap.size 45 i0 _ 4 32 Try.underlying22 hi hz0 hz1 hz2 rfl (by decide) v1 n xl rfl (hown1.alloc _) ⟨w1.heap.size, 0, none⟩ 1 1 (itL mark99) rfl rfl (World.news_of_block (cs := #[.int .u8 99, .int .i64 0, .int .i64 0, .int .i64 0]) (heap_alloc_new w1 _)) (it_one [mark99]) (by decide) (by unfold maxLen; omega) (by omega) (by rw [alloc_size]; omega) _ rfl ?_)
    intro g cap2 w2 hown2 hgrow2 _ _
    have HB2 : Hid (Below w.heap.size w w2) := (HB1.out.alloc HB1.out.size _).grown hgrow2 (by rw [alloc_size]; omega) (fun c hc => (HO1.out.lt c hc).1)
    have HO2 := Lib.hid hown2
    have hcap : n + 1 ≤ cap2 := by
      rcases hown2.2 with ⟨h, _⟩ | ⟨g', c, cur, h, _, _, hnc, _⟩
      · cases h
      · injection h with _ _ h
        omega
    clear hown2 hgrow2 hown1
    go_wp2_with fail
    go_ret
    exact HF.out _ _ _ HO2.out HB2.out
end Go.Proofs.Ytkgenhoaeiihoaa
