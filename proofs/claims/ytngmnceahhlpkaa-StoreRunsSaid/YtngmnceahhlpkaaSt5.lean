/- What a store's move answers: whatever is kept is programmed into the spare. Conditions: the store and its flash lie in memory, each text is no longer than may be. -/
import Derived.Test.YtngmnceahhlpkaaSt4
import Derived.Test.YtngmnceahhlpkaaRef1
import Derived.Deep.RegionHeld3
namespace Go.Proofs.Ytngmnceahhlpkaa
open Go.RowKit
def two (a b : Nat) : Nat → Prop := fun k => k = a ∨ k = b
/-- A flash and a store on it; nothing else is written behind w0. -/
structure Duet (w0 W : World) (fb sb : Nat) (J : Option Nat) (f : Fl) (s : St) : Prop where
  fl : At W fb J f
  st : StAt W sb fb s
  wr : Wrote w0 W (two fb sb)
theorem At.blkty {W : World} {b : Nat} {J : Option Nat} {f : Fl} (h : At W b J f) : ∃ cs, W.heap[b]? = some (.cells cs 91) := by
  obtain ⟨_, jv, hb, _⟩ := h
  exact ⟨_, hb⟩
theorem At.ne_of {W : World} {b sb : Nat} {J : Option Nat} {f : Fl} (h : At W b J f) {cs : Array Value} {t : TypeId} (hs : W.heap[sb]? = some (.cells cs t)) (h1 : t ≠ 91) (h2 : t ≠ 5) : b ≠ sb ∧ J ≠ some sb := by
  obtain ⟨cs2, hb⟩ := h.blkty
  refine ⟨?_, ?_⟩
  · rintro rfl
    rw [hb] at hs
    injection hs with hs
    injection hs with _ hs
    exact h1 hs.symm
  · obtain ⟨_, jv, _, hj⟩ := h
    exact hj.ne hs h2
theorem Duet.ne {w0 W : World} {fb sb : Nat} {J : Option Nat} {f : Fl} {s : St} (h : Duet w0 W fb sb J f s) : fb ≠ sb ∧ J ≠ some sb := h.fl.ne_of h.st.blk (by decide) (by decide)
theorem Duet.mine {w0 W V : World} {fb sb : Nat} {J : Option Nat} {f f' : Fl} {s : St} (h : Duet w0 W fb sb J f s) (ha : At V fb J f') (hg : W.grownBy V (some fb)) : Duet w0 V fb sb J f' s :=
  ⟨ha, h.st.kept (hg.block sb h.st.lt (fun e => h.ne.1 (Option.some.inj e).symm)), h.wr.trans ((Wrote.of_grown hg).mono fun _ e => .inl e)⟩
theorem Duet.store {w0 W V : World} {fb sb : Nat} {J : Option Nat} {f : Fl} {s s' : St} (h : Duet w0 W fb sb J f s) (hs : StAt V sb fb s') (hg : W.grownBy V (some sb)) : Duet w0 V fb sb J f s' :=
  ⟨h.fl.grown hg h.ne.1 h.ne.2, hs, h.wr.trans ((Wrote.of_grown hg).mono fun _ e => .inr e)⟩
theorem Duet.below {w0 W V : World} {fb sb : Nat} {J : Option Nat} {f : Fl} {s : St} (h : Duet w0 W fb sb J f s) (hb : Below W.heap.size W V) : Duet w0 V fb sb J f s :=
  ⟨h.fl.below hb, h.st.below hb, h.wr.trans (Wrote.of_below hb _)⟩
theorem below_drewN (W : World) (n : Nat) : Below W.heap.size W (W.drewN n) := ⟨rfl, rfl, rfl, Nat.le_refl _, fun _ _ => rfl⟩
/-- What is kept, as a value and as cells. -/
def kC (k : Kept) : Array Value := #[.bool (St.is (k 0)), .string (St.txt (k 0)), .bool (St.is (k 1)), .string (St.txt (k 1)), .bool (St.is (k 2)), .string (St.txt (k 2))]
def kV (k : Kept) : Value := .agg (kC k)
/-- The same, with a block of its own that holds what is kept. -/
structure Mv (w0 W : World) (fb sb pb : Nat) (J : Option Nat) (f : Fl) (s : St) (k : Kept) : Prop where
  d : Duet w0 W fb sb J f s
  pb : W.heap[pb]? = some (.cells (kC k) 102)
theorem Mv.below {w0 W V : World} {fb sb pb : Nat} {J : Option Nat} {f : Fl} {s : St} {k : Kept} (h : Mv w0 W fb sb pb J f s k) (hb : Below W.heap.size W V) : Mv w0 V fb sb pb J f s k :=
  ⟨h.d.below hb, (hb.block pb (lt_of_at h.pb)).trans h.pb⟩
theorem Mv.mine {w0 W V : World} {fb sb pb : Nat} {J : Option Nat} {f f' : Fl} {s : St} {k : Kept} (h : Mv w0 W fb sb pb J f s k) (ha : At V fb J f') (hg : W.grownBy V (some fb)) : Mv w0 V fb sb pb J f' s k :=
  ⟨h.d.mine ha hg, (hg.block pb (lt_of_at h.pb) (fun e => (h.d.fl.ne_of h.pb (by decide) (by decide)).1 (Option.some.inj e).symm)).trans h.pb⟩
theorem puts_none {f : Fl} {to_ : Nat} {k : Kept} {i n p : Nat} (h : k i = none) : St.puts f to_ k i (n + 1) p = St.puts f to_ k (i + 1) n p := by
  show (match k i with | none => _ | some t => _) = _
  rw [h]
theorem puts_ok {f f' : Fl} {to_ : Nat} {k : Kept} {i n p : Nat} {t : ByteArray} (h : k i = some t) (hp : f.program ((to_ * 4096 + p : Nat) : Int) (St.recL i t) = (f', 0)) :
    St.puts f to_ k i (n + 1) p = St.puts f' to_ k (i + 1) n (p + (t.size + 4)) := by
  show (match k i with | none => _ | some t => _) = _
  rw [h]
  show (match f.program ((to_ * 4096 + p : Nat) : Int) (St.recL i t) with | (f', 0) => _ | (f', e) => _) = _
  rw [hp]
  rfl
theorem puts_bad {f f' : Fl} {to_ : Nat} {k : Kept} {i n p : Nat} {t : ByteArray} {e : Int} (h : k i = some t) (hp : f.program ((to_ * 4096 + p : Nat) : Int) (St.recL i t) = (f', e)) (he : e ≠ 0) :
    St.puts f to_ k i (n + 1) p = (f', p, e) := by
  show (match k i with | none => _ | some t => _) = _
  rw [h]
  show (match f.program ((to_ * 4096 + p : Nat) : Int) (St.recL i t) with | (f', 0) => _ | (f', e) => _) = _
  rw [hp]
  split
  · rename_i h2; injection h2 with _ h2; exact absurd h2 he
  · rename_i h2; injection h2 with h3 h2; rw [h3, h2]
theorem move_bad1 {f f1 : Fl} {s : St} {k : Kept} {e : Int} (h : f.erase ((1 - s.act : Nat) : Int) = (f1, e)) (he : e ≠ 0) : St.move f s k = (f1, s, e) := by
  unfold St.move
  rw [h]
  split
  · rename_i h2; injection h2 with _ h2; exact absurd h2 he
  · rename_i h2; injection h2 with h3 h2; rw [h3, h2]
theorem move_bad2 {f f1 f2 : Fl} {s : St} {k : Kept} {e : Int} {p : Nat} (h : f.erase ((1 - s.act : Nat) : Int) = (f1, 0)) (hp : St.puts f1 (1 - s.act) k 0 3 1 = (f2, p, e)) (he : e ≠ 0) : St.move f s k = (f2, s, e) := by
  unfold St.move
  rw [h]
  show (match St.puts f1 (1 - s.act) k 0 3 1 with | (f2, p, 0) => _ | (f2, _, e) => (f2, s, e)) = _
  rw [hp]
  split
  · rename_i h2; injection h2 with _ h2; injection h2 with _ h2; exact absurd h2 he
  · rename_i h2; injection h2 with h3 h2; injection h2 with _ h2; rw [h3, h2]
theorem move_bad3 {f f1 f2 f3 : Fl} {s : St} {k : Kept} {e : Int} {p : Nat} (h : f.erase ((1 - s.act : Nat) : Int) = (f1, 0)) (hp : St.puts f1 (1 - s.act) k 0 3 1 = (f2, p, 0))
    (hq : f2.program (((1 - s.act) * 4096 : Nat) : Int) [St.folC s.code] = (f3, e)) (he : e ≠ 0) : St.move f s k = (f3, s, e) := by
  unfold St.move
  rw [h]
  show (match St.puts f1 (1 - s.act) k 0 3 1 with | (f2, p, 0) => _ | (f2, _, e) => (f2, s, e)) = _
  rw [hp]
  show (match f2.program (((1 - s.act) * 4096 : Nat) : Int) [St.folC s.code] with | (f3, 0) => _ | (f3, e) => (f3, s, e)) = _
  rw [hq]
  split
  · rename_i h2; injection h2 with _ h2; exact absurd h2 he
  · rename_i h2; injection h2 with h3 h2; rw [h3, h2]
theorem move_good {f f1 f2 f3 : Fl} {s : St} {k : Kept} {p : Nat} (h : f.erase ((1 - s.act : Nat) : Int) = (f1, 0)) (hp : St.puts f1 (1 - s.act) k 0 3 1 = (f2, p, 0))
    (hq : f2.program (((1 - s.act) * 4096 : Nat) : Int) [St.folC s.code] = (f3, 0)) : St.move f s k = (f3, { s with act := 1 - s.act, code := St.folC s.code, fin := p, k := k }, 0) := by
  unfold St.move
  rw [h]
  show (match St.puts f1 (1 - s.act) k 0 3 1 with | (f2, p, 0) => _ | (f2, _, e) => (f2, s, e)) = _
  rw [hp]
  show (match f2.program (((1 - s.act) * 4096 : Nat) : Int) [St.folC s.code] with | (f3, 0) => _ | (f3, e) => (f3, s, e)) = _
  rw [hq]
  rfl
def MovePost (w0 : World) (fb sb : Nat) (J : Option Nat) (r : Fl × St × Int) (e : Ending) (w' : World) : Prop := e = .returned (.int .i64 r.2.2) ∧ Duet w0 w' fb sb J r.1 r.2.1
theorem kV_index0 (k : Kept) (W : World) : (Instr.index 102 (kV k) (.int .i64 0)).run Try.prog W = .ok (valV (k 0)) W := by kernel_rfl
theorem kV_index1 (k : Kept) (W : World) : (Instr.index 102 (kV k) (.int .i64 1)).run Try.prog W = .ok (valV (k 1)) W := by kernel_rfl
theorem kV_index2 (k : Kept) (W : World) : (Instr.index 102 (kV k) (.int .i64 2)).run Try.prog W = .ok (valV (k 2)) W := by kernel_rfl
theorem kV_index (k : Kept) (i : Nat) (hi : i < 3) (W : World) : (Instr.index 102 (kV k) (.int .i64 (i : Int))).run Try.prog W = .ok (valV (k i)) W := by
  have hc : i = 0 ∨ i = 1 ∨ i = 2 := by omega
  rcases hc with rfl | rfl | rfl
  · exact kV_index0 k W
  · exact kV_index1 k W
  · exact kV_index2 k W
end Go.Proofs.Ytngmnceahhlpkaa
