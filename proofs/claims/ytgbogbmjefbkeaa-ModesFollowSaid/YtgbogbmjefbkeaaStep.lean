/- What a machine's Step does, in whatever world. Conditions: the machine lies in memory. -/
import Derived.Test.YtgbogbmjefbkeaaDown
import Derived.Test.YtgbogbmjefbkeaaNexts
import Derived.Test.YtgbogbmjefbkeaaEvs
namespace Go.Proofs.Ytgbogbmjefbkeaa
open Go.RowKit
def StepPost (w : World) (b : Nat) (x : Md) (ev : Int) (e : Ending) (w' : World) : Prop := e = .returned (.int .i64 (x.did ev)) ∧ Mach w' b (x.step ev) ∧ Wrote w w' (fun j => j = b)
/-- While the events are pushed: k of them have been looked at. -/
structure Push (w wr : World) (b qb : Nat) (x : Md) (ev : Int) (k : Nat) : Prop where
  qu : ∃ ms, Qu wr qb ms ∧ HeapFrom ile 0 ms ms.length 0 ∧ ms.Perm (coll ev k)
  mach : Mach wr b ⟨x.mode, latD x.lat (flyB x.mode) ev k⟩
  wrote : Wrote w wr (fun j => j = b)
  lt : b < qb
  new : w.heap.size ≤ qb
theorem Push.same {w wr : World} {b qb : Nat} {x : Md} {ev : Int} {k : Nat} (h : Push w wr b qb x ev k) (hn : hasB ev (17 - k) = false) : Push w wr b qb x ev (k + 1) := by
  have e1 : coll ev (k + 1) = coll ev k := by
    show (if hasB ev (17 - k) then _ else _) = _
    rw [hn]
    rfl
  have e2 : latD x.lat (flyB x.mode) ev (k + 1) = latD x.lat (flyB x.mode) ev k := by
    show latOn _ _ _ _ = _
    unfold latOn
    rw [hn]
    simp
  exact ⟨by rw [e1]; exact h.qu, by rw [e2]; exact h.mach, h.wrote, h.lt, h.new⟩
/-- One has been pushed; the latches are as before. -/
structure Pushed (w wr : World) (b qb : Nat) (x : Md) (ev : Int) (k : Nat) : Prop where
  qu : ∃ ms, Qu wr qb ms ∧ HeapFrom ile 0 ms ms.length 0 ∧ ms.Perm (coll ev (k + 1))
  mach : Mach wr b ⟨x.mode, latD x.lat (flyB x.mode) ev k⟩
  wrote : Wrote w wr (fun j => j = b)
  lt : b < qb
  new : w.heap.size ≤ qb
theorem Push.push {w wr w1 : World} {b qb : Nat} {x : Md} {ev : Int} {k : Nat} (h : Push w wr b qb x ev k) (hh : hasB ev (17 - k) = true) {ms l : List Int} (hp : ms.Perm (coll ev k)) (hq : Qu w1 qb l) (hl : l.Perm (ms ++ [((17 - k : Nat) : Int)])) (hf : HeapFrom ile 0 l l.length 0) (hb : Below qb wr w1) : Pushed w w1 b qb x ev k := by
  have e1 : coll ev (k + 1) = coll ev k ++ [((17 - k : Nat) : Int)] := by
    show (if hasB ev (17 - k) then _ else _) = _
    rw [hh]
    rfl
  refine ⟨⟨l, hq, hf, ?_⟩, ⟨(hb.block b h.lt).trans h.mach.blk, h.mach.m0, h.mach.m1, h.mach.l64⟩, ?_, h.lt, h.new⟩
  · rw [e1]
    exact hl.trans (hp.append_right _)
  · have h1 := h.wrote
    refine ⟨hb.os.trans h1.os, hb.tape.trans h1.tape, hb.output.trans h1.output, Nat.le_trans h1.size hb.size, fun i hi hn => (hb.block i (by have := h.new; omega)).trans (h1.block i hi hn)⟩
theorem Pushed.keep {w wr w1 : World} {b qb : Nat} {x : Md} {ev : Int} {k : Nat} (h : Pushed w wr b qb x ev k) (hb : Below wr.heap.size wr w1) : Pushed w w1 b qb x ev k := by
  obtain ⟨ms, h1, h2, h3⟩ := h.qu
  exact ⟨⟨ms, h1.keep hb, h2, h3⟩, h.mach.keep hb, h.wrote.trans (Wrote.of_below hb _), h.lt, h.new⟩
theorem Pushed.same {w wr : World} {b qb : Nat} {x : Md} {ev : Int} {k : Nat} (h : Pushed w wr b qb x ev k) (hn : (staysB (17 - k) && flyB x.mode) = false) : Push w wr b qb x ev (k + 1) := by
  have e2 : latD x.lat (flyB x.mode) ev (k + 1) = latD x.lat (flyB x.mode) ev k := by
    show latOn _ _ _ _ = _
    unfold latOn
    cases hs : staysB (17 - k) with
    | false => simp
    | true =>
      rw [hs] at hn
      simp only [Bool.true_and] at hn
      rw [hn]
      simp
  exact ⟨h.qu, by rw [e2]; exact h.mach, h.wrote, h.lt, h.new⟩
theorem Pushed.latch {w wr : World} {b qb : Nat} {x : Md} {ev : Int} {k : Nat} (h : Pushed w wr b qb x ev k) (hh : hasB ev (17 - k) = true) (hs : staysB (17 - k) = true) (hf : flyB x.mode = true) (n : Nat) :
    Push w ((wr.setCell ⟨b, 1, none⟩ (.int .i64 (orL (latD x.lat (flyB x.mode) ev k) (17 - k) : Int))).drewN n) b qb x ev (k + 1) := by
  have e2 : latD x.lat (flyB x.mode) ev (k + 1) = orL (latD x.lat (flyB x.mode) ev k) (17 - k) := by
    show latOn _ _ _ _ = _
    unfold latOn
    rw [hh, hs, hf]
    rfl
  have hw : Wrote wr ((wr.setCell ⟨b, 1, none⟩ (.int .i64 (orL (latD x.lat (flyB x.mode) ev k) (17 - k) : Int))).drewN n) (fun j => j = b) := ((Wrote.refl wr (fun j => j = b)).set rfl 1 _).drewN n
  obtain ⟨ms, h1, h2, h3⟩ := h.qu
  refine ⟨⟨ms, ?_, h2, h3⟩, ⟨?_, h.mach.m0, h.mach.m1, ?_⟩, h.wrote.trans hw, h.lt, h.new⟩
  · obtain ⟨mv, h4, h5⟩ := h1.blk
    exact ⟨mv, (hw.block qb (lt_of_at h4) (by have := h.lt; omega)).trans h4, ownsRow_kept h5 hw (fun j hj => by have := h.lt; omega)⟩
  · rw [e2]
    exact heap_setCell_at h.mach.blk 1 _
  · rw [e2]
    exact orL_lt h.mach.l64 hs
/-- While the events are popped: none has led away so far; those that wait are the rest. -/
structure Popping (w wr : World) (b qb : Nat) (x : Md) (ev : Int) (rest : List Nat) : Prop where
  qu : ∃ ms, Qu wr qb ms ∧ HeapFrom ile 0 ms ms.length 0 ∧ ms.Perm (toI rest)
  asc : Asc rest
  few : rest.length ≤ 18
  first : firstL x.mode rest = first x.mode ev 0 18
  mach : Mach wr b ⟨x.mode, x.latched ev⟩
  wrote : Wrote w wr (fun j => j = b)
  lt : b < qb
  new : w.heap.size ≤ qb
theorem Push.pop {w wr : World} {b qb : Nat} {x : Md} {ev : Int} (h : Push w wr b qb x ev 18) : Popping w wr b qb x ev (ascF ev 0 18) := by
  obtain ⟨ms, h1, h2, h3⟩ := h.qu
  have hp : (coll ev 18).Perm (toI (ascF ev 0 18)) := coll_perm ev 18 (Nat.le_refl _)
  refine ⟨⟨ms, h1, h2, h3.trans hp⟩, asc_sorted ev 18 0, ?_, (first_asc x.mode ev 18 0).symm, h.mach, h.wrote, h.lt, h.new⟩
  have := hp.length_eq
  have := coll_len ev 18
  simp only [toI, List.length_map] at *
  omega
theorem Popping.next {w wr w1 : World} {b qb : Nat} {x : Md} {ev : Int} {e : Nat} {rest : List Nat} (h : Popping w wr b qb x ev (e :: rest)) {l : List Int} (hq : Qu w1 qb l) (hp : l.Perm (toI rest)) (hf : HeapFrom ile 0 l l.length 0) (hb : Below qb wr w1) (hn : (nextF x.mode (e : Int) != x.mode) = false) : Popping w w1 b qb x ev rest := by
  refine ⟨⟨l, hq, hf, hp⟩, (List.pairwise_cons.1 h.asc).2, by have := h.few; simp at this; omega, ?_, ⟨(hb.block b h.lt).trans h.mach.blk, h.mach.m0, h.mach.m1, h.mach.l64⟩, ?_, h.lt, h.new⟩
  · have := h.first
    unfold firstL at this
    rw [hn] at this
    exact this
  · have h1 := h.wrote
    exact ⟨hb.os.trans h1.os, hb.tape.trans h1.tape, hb.output.trans h1.output, Nat.le_trans h1.size hb.size, fun i hi hn => (hb.block i (by have := h.new; omega)).trans (h1.block i hi hn)⟩
/-- One has led away. -/
structure Led (w wr : World) (b qb : Nat) (x : Md) (ev : Int) (e : Nat) : Prop where
  qu : ∃ ms, Qu wr qb ms
  first : first x.mode ev 0 18 = some e
  mach : Mach wr b ⟨nextF x.mode (e : Int), x.latched ev⟩
  wrote : Wrote w wr (fun j => j = b)
theorem Popping.keep {w wr w1 : World} {b qb : Nat} {x : Md} {ev : Int} {rest : List Nat} (h : Popping w wr b qb x ev rest) (hb : Below wr.heap.size wr w1) : Popping w w1 b qb x ev rest := by
  obtain ⟨ms, h1, h2, h3⟩ := h.qu
  exact ⟨⟨ms, h1.keep hb, h2, h3⟩, h.asc, h.few, h.first, h.mach.keep hb, h.wrote.trans (Wrote.of_below hb _), h.lt, h.new⟩
theorem Popping.led {w wr w1 : World} {b qb : Nat} {x : Md} {ev : Int} {e : Nat} {rest : List Nat} (h : Popping w wr b qb x ev (e :: rest)) {l : List Int} (hq : Qu w1 qb l) (hb : Below qb wr w1) (hn : (nextF x.mode (e : Int) != x.mode) = true) :
    Led w (w1.setCell ⟨b, 0, none⟩ (.int .u8 (nextF x.mode (e : Int)))) b qb x ev e := by
  have h1 := h.wrote
  have hw1 : Wrote w w1 (fun j => j = b) := ⟨hb.os.trans h1.os, hb.tape.trans h1.tape, hb.output.trans h1.output, Nat.le_trans h1.size hb.size, fun i hi hn => (hb.block i (by have := h.new; omega)).trans (h1.block i hi hn)⟩
  have hw2 : Wrote w1 (w1.setCell ⟨b, 0, none⟩ (.int .u8 (nextF x.mode (e : Int)))) (fun j => j = b) := (Wrote.refl w1 (fun j => j = b)).set rfl 0 _
  have hin := nextF_in x.mode (e : Int) h.mach.m0 (by have := h.mach.m1; simp only at this; omega)
  refine ⟨?_, ?_, ⟨heap_setCell_at ((hb.block b h.lt).trans h.mach.blk) 0 _, hin.1, hin.2.2 h.mach.m1, h.mach.l64⟩, hw1.trans hw2⟩
  · obtain ⟨mv, h4, h5⟩ := hq.blk
    exact ⟨l, mv, (hw2.block qb (lt_of_at h4) (by have := h.lt; omega)).trans h4, ownsRow_kept h5 hw2 (fun j hj => by have := h.lt; omega)⟩
  · have := h.first
    unfold firstL at this
    rw [hn] at this
    exact this.symm
/-- The end: the latches go where the vehicle is not armed. -/
structure Ends (w wr : World) (b : Nat) (x : Md) (ev : Int) (o : Option Nat) : Prop where
  first : first x.mode ev 0 18 = o
  mach : Mach wr b ⟨x.goes o, x.latched ev⟩
  wrote : Wrote w wr (fun j => j = b)
theorem Ends.keep {w wr : World} {b : Nat} {x : Md} {ev : Int} {o : Option Nat} (h : Ends w wr b x ev o) (hm : ¬ x.goes o ≤ 1) : StepPost w b x ev (.returned (.int .i64 (didI o))) wr := by
  refine ⟨by unfold Md.did; rw [h.first], ?_, h.wrote⟩
  unfold Md.step
  rw [h.first, if_neg hm]
  exact h.mach
theorem Ends.clear {w wr : World} {b : Nat} {x : Md} {ev : Int} {o : Option Nat} (h : Ends w wr b x ev o) (hm : x.goes o ≤ 1) : StepPost w b x ev (.returned (.int .i64 (didI o))) (wr.setCell ⟨b, 1, none⟩ (.int .i64 0)) := by
  refine ⟨by unfold Md.did; rw [h.first], ?_, h.wrote.set rfl 1 _⟩
  unfold Md.step
  rw [h.first, if_pos hm]
  exact ⟨heap_setCell_at h.mach.blk 1 _, h.mach.m0, h.mach.m1, by show 0 < 64; omega⟩
end Go.Proofs.Ytgbogbmjefbkeaa
