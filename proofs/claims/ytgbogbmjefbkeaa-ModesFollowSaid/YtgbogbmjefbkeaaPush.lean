/- What the queue's Push and Pop do, in whatever world. Conditions: the queue lies in memory. -/
import Derived.Test.YtgbogbmjefbkeaaQueue
namespace Go.Proofs.Ytgbogbmjefbkeaa
open Go.RowKit
theorem inL_snoc (ms : List Int) (e : Int) : inL (ms ++ [e]) = inL ms ++ [.int .i64 e] := by simp [inL]
def PushPost (w : World) (qb : Nat) (ms : List Int) (e : Ending) (w' : World) : Prop := e = .returned (.tuple #[]) ∧ Qu w' qb ms ∧ Below qb w w'
set_option maxRecDepth 100000 in
set_option maxHeartbeats 2000000 in
theorem qpush_any (w : World) (qb : Nat) (ms : List Int) (x : Int) (h : Qu w qb ms) (hbig : ms.length ≤ 64) :
    Calls Try.prog 47 #[.pointer (some ⟨qb, 0, none⟩), .iface 3 (.int .i64 x)] w (PushPost w qb (ms ++ [x])) := by
  obtain ⟨i0, hi, hz0, hz1, hz2⟩ := info_parts info3
  obtain ⟨mv, hb, hm⟩ := h.blk
  have c0 : w.cell? ⟨qb, 0, none⟩ = some mv := cell_at hb 0
  have f0 : w.frozen? ⟨qb, 0, none⟩ = false := free_at hb 0
  have hv : ∃ A cap, mv = .slice A ms.length cap := by
    rcases hm.2 with ⟨h1, h2⟩ | ⟨g, cap, _, h1, _⟩
    · exact ⟨none, 0, by rw [h1, h2]⟩
    · exact ⟨_, _, h1⟩
  obtain ⟨A, cap, rfl⟩ := hv
  have HB := Lib.hid hb
  have hlt := lt_of_at hb
  have HSN := Lib.hid (inL_snoc ms x)
  have HSL : Hid ((ms ++ [x]).length = ms.length + 1) := by unfold Hid; simp
  have hown := hm
  clear hb h hm
  generalize hxl : inL ms = xl at *
  clear hxl
  generalize hn : ms.length = n at *
  clear hn
  have hta : ∀ u : World, (Instr.typeAssert (.iface 3 (.int .i64 x)) 20 3 true).run Try.prog u = .ok (.tuple #[.int .i64 x, .bool true]) u := fun _ => by kernel_rfl
  go_enter Try.func47, Try.ntmps47
  go_wp2_with (at_builtin; refine wpList_append_lies _ rfl _ _ 22 rfl (qb + 1) 3 i0 (.int .i64 0) 1 8 Try.underlying22 hi hz0 hz1 hz2 rfl (by decide) _ n xl rfl (hown.alloc _) ⟨w.heap.size, 0, none⟩ 1 1 [.int .i64 x] rfl rfl (World.news_of_block (cs := #[.int .i64 x]) (heap_alloc_new w _)) (inL_one [x]) (by decide) (by unfold maxLen; omega) (by omega) (by rw [alloc_size]; omega) _ rfl ?_)
  intro g cap2 w2 hown2 hgrow2 _ _
  have HB2 : Hid (Below qb w w2 ∧ w2.heap[qb]? = w.heap[qb]?) := by
    have h1 : Below (qb + 1) w w2 := ((Below.refl _ _).alloc (by omega) _).grown hgrow2 (by rw [alloc_size]; omega) (fun c hc => (hown.lt c hc).1)
    exact ⟨h1.mono (Nat.le_succ qb), h1.block qb (Nat.lt_succ_self qb)⟩
  have hq2 := HB2.out.2.trans HB.out
  have HQ2 := Lib.hid hq2
  have c2 : w2.cell? ⟨qb, 0, none⟩ = some (.slice A n cap) := cell_at hq2 0
  have f2 : w2.frozen? ⟨qb, 0, none⟩ = false := free_at hq2 0
  have HO2 := Lib.hid hown2
  clear hown hown2 hgrow2 hq2
  go_wp2_with fail
  go_end0
  refine ⟨rfl, ⟨_, heap_setCell_at HQ2.out 0 _, ?_⟩, HB2.out.1.setCell (Nat.le_refl _) _⟩
  rw [HSL.out, HSN.out]
  exact ownsRow_kept HO2.out ((Wrote.refl w2 (fun k => k = qb)).set rfl 0 _) (fun k hk => by omega)
theorem inL_take (ms : List Int) (k : Nat) : (inL ms).take k = inL (ms.take k) := by simp [inL]
def PopPost (w : World) (qb : Nat) (ms : List Int) (e : Ending) (w' : World) : Prop := e = .returned (.iface 3 (.int .i64 (ms.getD (ms.length - 1) 0))) ∧ Qu w' qb (ms.take (ms.length - 1)) ∧ Below qb w w'
set_option maxRecDepth 100000 in
set_option maxHeartbeats 2000000 in
theorem qpop_any (w : World) (qb : Nat) (ms : List Int) (h : Qu w qb ms) (h0 : 0 < ms.length) (hbig : ms.length ≤ 64) :
    Calls Try.prog 46 #[.pointer (some ⟨qb, 0, none⟩)] w (PopPost w qb ms) := by
  obtain ⟨g, cap, hqg, hgl, hq, ho, hc, hf, hcap, hcm, cs, t, hrow⟩ := h.form h0
  have c0 : w.cell? ⟨qb, 0, none⟩ = some (.slice (some ⟨g, 0, none⟩) ms.length cap) := cell_at hq 0
  have f0 : w.frozen? ⟨qb, 0, none⟩ = false := free_at hq 0
  have cl := hc (ms.length - 1) (by omega)
  have HF : Hid (∀ x, x = ms.getD (ms.length - 1) 0 → PopPost w qb ms (.returned (.iface 3 (.int .i64 x))) (w.setCell ⟨qb, 0, none⟩ (.slice (some ⟨g, 0, none⟩) (ms.length - 1) cap))) := by
    rintro x rfl
    have hl : (ms.take (ms.length - 1)).length = ms.length - 1 := by rw [List.length_take]; omega
    refine ⟨rfl, ⟨_, heap_setCell_at hq 0 _, ?_⟩, (Below.refl qb w).setCell (Nat.le_refl _) _⟩
    refine ownsRow_kept (w := w) ?_ ((Wrote.refl w (fun k => k = qb)).set rfl 0 _) (fun k hk => by omega)
    refine ⟨by rw [inL_len, Nat.mul_one], ?_⟩
    rcases ho.2 with ⟨h1, _⟩ | ⟨g', cap', cur, h1, h2, h3, h4, h5, h6, h7⟩
    · cases h1
    · injection h1 with h1 _ h8
      injection h1 with h1
      injection h1 with h1
      subst h1 h8
      refine .inr ⟨g, cap, cur, by rw [hl], h2, h3, by omega, h5, h6, ?_⟩
      rw [hl, ← inL_take, ← h7, List.take_take]
      congr 1
      omega
  clear hq hc hf ho h hrow
  generalize ms.getD (ms.length - 1) 0 = x at *
  generalize hn : ms.length = n at *
  have hnn : 0 ≤ (n : Int) - 1 := by omega
  clear hn
  go_enter Try.func46, Try.ntmps46
  go_wp2_with fail
  go_ret
  exact HF.out _ rfl
end Go.Proofs.Ytgbogbmjefbkeaa
