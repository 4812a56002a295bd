/- Jobs that are lent, and looked at; what Check answers. Conditions: the jobs can be read. -/
import Derived.Test.YtmkbkjnpgdpffaaLive
namespace Go.Proofs.Ytmkbkjnpgdpffaa
open Go.RowKit

def mark : Jb := ⟨-77, 0, 0⟩
theorem JR.news {w : World} {v : Value} {js : List Jb} (h : JR w v js) : (v = .slice none 0 0 ∧ js = []) ∨ ∃ ad cap, v = .slice (some ad) js.length cap ∧ ∀ (j : Nat) (u : Value), (js.flatMap jbL)[j]? = some u → w.cell? (ad.add j) = some u := by
  rcases h.2 with h1 | ⟨ad, cap, hv, h1⟩
  · exact .inl h1
  · refine .inr ⟨ad, cap, hv, ?_⟩
    rcases h1 with rfl | ⟨g, off, rfl, _, hc⟩
    · intro j u hu; simp at hu
    · exact jb_news hc
/-- A row that lies behind a lent list: the jobs, and the mark. -/
def LentRow (w : World) (B : Nat) (v : Value) (js : List Jb) : Prop :=
  ∃ g cap, v = .slice (some ⟨g, 0, none⟩) js.length cap ∧ w.ownsRow B 36 3 (.slice (some ⟨g, 0, none⟩) (js.length + 1) cap) (js.length + 1) ((js ++ [mark]).flatMap jbL)
def LentPost (w : World) (js : List Jb) (e : Ending) (w' : World) : Prop := ∃ v, e = .returned v ∧ LentRow w' w.heap.size v js ∧ Below w.heap.size w w'
theorem mark_one : ∀ u ∈ [Value.int .i64 (-77), .int .i64 0, .int .i64 0], u.oneCell' = true := by
  intro u hu
  simp only [List.mem_cons, List.not_mem_nil, or_false] at hu
  rcases hu with rfl | rfl | rfl <;> rfl
theorem one_new (w : World) (o : Obj) : (w.alloc o).heap[w.heap.size]? = some o := heap_alloc_new w o
set_option maxRecDepth 100000 in
set_option maxHeartbeats 1000000 in
theorem lent_any (w : World) (v : Value) (js : List Jb) (h : JR w v js) : Calls Try.prog 15 #[v] w (LentPost w js) := by
  have hb := h.1
  have H1 := Lib.hid (jb_one js)
  have HL : Hid ((js.flatMap jbL).length = js.length * 3) := flat_len jbL_len js
  have HF : Hid ((js ++ [mark]).flatMap jbL = js.flatMap jbL ++ [.int .i64 (-77), .int .i64 0, .int .i64 0]) := by unfold Hid; rw [List.flatMap_append]; rfl
  obtain ⟨i0, hi, hz0, hz1, hz2⟩ := info_parts info36
  rcases h.news with ⟨rfl, rfl⟩ | ⟨ad, cap, rfl, hn⟩
  · clear h
    go_enter Try.func15, Try.ntmps15
    go_wp2_with (at_builtin; refine wpList_append_lies _ rfl (.tmp 7) (.tmp 9) 22 rfl w.heap.size 36 i0 _ 3 24 Try.underlying22 hi hz0 hz1 hz2 rfl (by decide) _ 0 [] rfl (World.ownsRow_nil _ _ _ _) _ 1 1 _ rfl rfl (World.news_of_block (one_new _ _)) mark_one ?c0 ?c1 ?c2 ?c3 _ rfl ?_)
    case c0 => omega
    case c1 => decide
    case c2 => omega
    case c3 => simp
    intro g gcap w2 hown2 hgrow2 _ _
    have HFIN : Hid (LentPost w [] (.returned (.slice (some ⟨g, 0, none⟩) 0 gcap)) w2) := by
      refine ⟨_, rfl, ⟨g, gcap, rfl, ?_⟩, ?_⟩
      · rw [HF.out]; exact hown2
      · exact (below_alloc1 w _).grown hgrow2 (by simp) (by intro k hk; cases hk)
    clear hown2 hgrow2
    go_wp2_with fail
    go_ret
    exact HFIN.out
  · have HN := Lib.hid hn
    clear h hn
    generalize js.flatMap jbL = xs at *
    generalize hn : js.length = n at *
    have HNN := Lib.hid hn
    clear hn
    go_enter Try.func15, Try.ntmps15
    go_wp2_with (at_builtin; refine wpList_append_own _ rfl (.tmp 4) (.tmp 5) 22 rfl w.heap.size 36 i0 _ 3 24 Try.underlying22 hi hz0 hz1 hz2 rfl (by decide) _ _ _ rfl (World.ownsRow_nil _ _ _ _) ad n cap xs rfl HL.out HN.out H1.out ?c1 ?c2 ?c3 ?_)
    case c1 => unfold maxLen; omega
    case c2 => omega
    case c3 => exact Nat.le_refl _
    intro v1 w1 hown1 hgrow1 _
    have HO1 := Lib.hid hown1
    have HB1 : Hid (Below w.heap.size w w1) := (Below.refl _ _).grown hgrow1 (Nat.le_refl _) (by intro k hk; cases hk)
    clear hown1 hgrow1
    go_wp2_with (at_builtin; refine wpList_append_lies _ rfl (.tmp 7) (.tmp 9) 22 rfl w.heap.size 36 i0 _ 3 24 Try.underlying22 hi hz0 hz1 hz2 rfl (by decide) _ n xs rfl (HO1.out.alloc _) _ 1 1 _ rfl rfl (World.news_of_block (one_new _ _)) mark_one ?c0 ?c1 ?c2 ?c3 _ rfl ?_)
    case c0 => omega
    case c1 => unfold maxLen; omega
    case c2 => omega
    case c3 => have := HB1.out.size; simp; omega
    intro g gcap w2 hown2 hgrow2 _ _
    have hcap : n + 1 ≤ gcap ∧ gcap ≤ 9223372036854775807 := by
      rcases hown2.2 with ⟨h1, _⟩ | ⟨g', cap', cur, h1, h2, h3, h4, h5, h6, h7⟩
      · cases h1
      · injection h1 with h1 h8 h9
        subst h9
        unfold maxLen at h5
        omega
    obtain ⟨hc1, hc2⟩ := hcap
    have HFIN : Hid (LentPost w js (.returned (.slice (some ⟨g, 0, none⟩) n gcap)) w2) := by
      refine ⟨_, rfl, ⟨g, gcap, by rw [HNN.out], ?_⟩, ?_⟩
      · rw [HF.out, HNN.out]; exact hown2
      · refine (HB1.out.alloc HB1.out.size _).grown hgrow2 ?_ (fun k hk => (HO1.out.lt k hk).1)
        have := HB1.out.size; rw [alloc_size]; omega
    clear hown2 hgrow2
    go_wp2_with fail
    go_ret
    exact HFIN.out
end Go.Proofs.Ytmkbkjnpgdpffaa
