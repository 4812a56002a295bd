/- A flash, a store and what is known of its objects, in the laws' own memory. Conditions: as each theorem says. -/
import Derived.Test.YtngmnceahhlpkaaSt11
import Derived.Test.YtngmnceahhlpkaaSt12
namespace Go.Proofs.Ytngmnceahhlpkaa
open Go.RowKit
structure K4 where
  is : Bool
  s : ByteArray
  cut : Bool
  late : ByteArray
def knL (kn : Nat → K4) : Array Value :=
  #[.bool (kn 0).is, .string (kn 0).s, .bool (kn 0).cut, .string (kn 0).late, .bool (kn 1).is, .string (kn 1).s, .bool (kn 1).cut, .string (kn 1).late, .bool (kn 2).is, .string (kn 2).s, .bool (kn 2).cut, .string (kn 2).late]
def noT : ByteArray := { data := #[] }
def clean (k : Kept) (j : Nat) : K4 := ⟨St.is (k j), St.txt (k j), false, noT⟩
/-- What is known is what is kept, or what was cut is. -/
def Fine (x : K4) (o : Option ByteArray) : Prop := (x.is = St.is o ∧ x.s = St.txt o) ∨ (x.cut = true ∧ St.is o = true ∧ x.late = St.txt o)
def knSet (kn : Nat → K4) (i : Nat) (x : K4) : Nat → K4 := fun j => if j = i then x else kn j
structure Wk (w W : World) (fb sb xb : Nat) (J : Option Nat) (f : Fl) (s : St) (kn : Nat → K4) : Prop where
  kp : Kp w W fb sb J f s
  blk : W.heap[xb]? = some (.cells (knL kn) 59)
  nx : w.heap.size ≤ xb
theorem fr_keep {w W V : World} {fb sb : Nat} {J : Option Nat} {f : Fl} {s : St} (h : Kp w W fb sb J f s) (hw : Wrote W V (two fb sb)) {b : Nat} {cs : Array Value} {t : TypeId} (hb : W.heap[b]? = some (.cells cs t)) (h1 : t ≠ 91) (h2 : t ≠ 5) (h3 : t ≠ 104) :
    V.heap[b]? = some (.cells cs t) := by
  refine (hw.block b (lt_of_at hb) (fun e => ?_)).trans hb
  rcases e with e | e
  · exact (h.duet.fl.ne_of hb h1 h2).1 e.symm
  · subst e
    rw [h.duet.st.blk] at hb
    injection hb with hb
    injection hb with _ hb
    exact h3 hb.symm
theorem Wk.step {w W V : World} {fb sb sb' xb : Nat} {J J' : Option Nat} {f f' : Fl} {s s' : St} {kn : Nat → K4} (h : Wk w W fb sb xb J f s kn) (hk : Kp w V fb sb' J' f' s') (hw : Wrote W V (two fb sb)) : Wk w V fb sb' xb J' f' s' kn :=
  ⟨hk, fr_keep h.kp hw h.blk (by decide) (by decide) (by decide), h.nx⟩
theorem Wk.keep {w W V : World} {fb sb xb : Nat} {J : Option Nat} {f : Fl} {s : St} {kn : Nat → K4} (h : Wk w W fb sb xb J f s kn) (hb : Below W.heap.size W V) : Wk w V fb sb xb J f s kn := h.step (h.kp.keep hb) (Wrote.of_below hb _)
theorem Kp.other {w W V : World} {fb sb xb : Nat} {J : Option Nat} {f : Fl} {s : St} (h : Kp w W fb sb J f s) {cs : Array Value} {t : TypeId} (hx : W.heap[xb]? = some (.cells cs t)) (h1 : t ≠ 91) (h2 : t ≠ 5) (h3 : t ≠ 104) (hn : w.heap.size ≤ xb) (hg : W.grownBy V (some xb)) : Kp w V fb sb J f s := by
  have hn1 := h.duet.fl.ne_of hx h1 h2
  have hs : sb ≠ xb := by
    rintro rfl
    rw [h.duet.st.blk] at hx
    injection hx with hx
    injection hx with _ hx
    exact h3 hx.symm
  exact ⟨⟨h.duet.fl.grown hg hn1.1 hn1.2, h.duet.st.kept (hg.block sb h.duet.st.lt (fun e => hs (Option.some.inj e))), ⟨hg.os.trans h.duet.wr.os, hg.tape.trans h.duet.wr.tape, hg.output.trans h.duet.wr.output, Nat.le_trans h.duet.wr.size hg.size, fun j hj hh => (hg.block j (Nat.lt_of_lt_of_le hj h.duet.wr.size) (fun e => by have e := Option.some.inj e; omega)).trans (h.duet.wr.block j hj hh)⟩⟩, h.nf, h.ns⟩
theorem Wk.known {w W V : World} {fb sb xb : Nat} {J : Option Nat} {f : Fl} {s : St} {kn kn' : Nat → K4} (h : Wk w W fb sb xb J f s kn) (hg : W.grownBy V (some xb)) (hx : V.heap[xb]? = some (.cells (knL kn') 59)) : Wk w V fb sb xb J f s kn' :=
  ⟨h.kp.other h.blk (by decide) (by decide) (by decide) h.nx hg, hx, h.nx⟩
theorem kn_cell {W : World} {xb : Nat} {kn : Nat → K4} (h : W.heap[xb]? = some (.cells (knL kn) 59)) (i : Nat) (hi : i < 3) :
    W.cell? ⟨xb, i * 4, none⟩ = some (.bool (kn i).is) ∧ W.cell? ⟨xb, i * 4 + 1, none⟩ = some (.string (kn i).s) ∧ W.cell? ⟨xb, i * 4 + 2, none⟩ = some (.bool (kn i).cut) ∧ W.cell? ⟨xb, i * 4 + 3, none⟩ = some (.string (kn i).late) := by
  have hc : i = 0 ∨ i = 1 ∨ i = 2 := by omega
  rcases hc with rfl | rfl | rfl
  · exact ⟨cell_at h 0, cell_at h 1, cell_at h 2, cell_at h 3⟩
  · exact ⟨cell_at h 4, cell_at h 5, cell_at h 6, cell_at h 7⟩
  · exact ⟨cell_at h 8, cell_at h 9, cell_at h 10, cell_at h 11⟩
theorem kn_set {W : World} {xb : Nat} {kn : Nat → K4} (h : W.heap[xb]? = some (.cells (knL kn) 59)) (i : Nat) (hi : i < 3) (x : K4) :
    ((((W.setCell ⟨xb, i * 4, none⟩ (.bool x.is)).setCell ⟨xb, i * 4 + 1, none⟩ (.string x.s)).setCell ⟨xb, i * 4 + 2, none⟩ (.bool x.cut)).setCell ⟨xb, i * 4 + 3, none⟩ (.string x.late)).heap[xb]? = some (.cells (knL (knSet kn i x)) 59) := by
  refine (heap_setCell_at (heap_setCell_at (heap_setCell_at (heap_setCell_at h (i * 4) _) (i * 4 + 1) _) (i * 4 + 2) _) (i * 4 + 3) _).trans ?_
  have hc : i = 0 ∨ i = 1 ∨ i = 2 := by omega
  rcases hc with rfl | rfl | rfl <;> simp [knL, knSet]
theorem kn_late {W : World} {xb : Nat} {kn : Nat → K4} (h : W.heap[xb]? = some (.cells (knL kn) 59)) (i : Nat) (hi : i < 3) (t : ByteArray) :
    ((W.setCell ⟨xb, i * 4 + 2, none⟩ (.bool true)).setCell ⟨xb, i * 4 + 3, none⟩ (.string t)).heap[xb]? = some (.cells (knL (knSet kn i ⟨(kn i).is, (kn i).s, true, t⟩)) 59) := by
  refine (heap_setCell_at (heap_setCell_at h (i * 4 + 2) _) (i * 4 + 3) _).trans ?_
  have hc : i = 0 ∨ i = 1 ∨ i = 2 := by omega
  rcases hc with rfl | rfl | rfl <;> simp [knL, knSet]
theorem cut_cell (f : Fl) (n : Int) (j : List Nat) : (f.cut n j).1.cell = f.cell := by
  unfold Fl.cut
  split
  · rfl
  · split <;> rfl
theorem cut_wk {w W : World} {fb sb xb : Nat} {J : Option Nat} {f : Fl} {s : St} {kn : Nat → K4} (h : Wk w W fb sb xb J f s kn) (a : Int) (t : ByteArray) (hi : a ≤ 9223372036854775807) (hs : t.size ≤ 140737488351232) (ho : f.off = false) (hv : Inv f s) :
    Calls Try.prog 22 #[.pointer (some ⟨fb, 0, none⟩), .int .i64 a, .string t] W fun e w' => ∃ r J' f', e = .returned (.int .i64 r) ∧ Wk w w' fb sb xb J' f' s kn ∧ f'.off = false ∧ Inv f' s ∧ Wrote W w' (two fb sb) := by
  refine (cut_any fb J f a t W h.kp.duet.fl hi hs).mono ?_
  rintro e w' ⟨rfl, ⟨J', h1, h3⟩, h2⟩
  have hw : Wrote W w' (two fb sb) := (Wrote.of_grown h2).mono fun _ e => .inl e
  refine ⟨_, J', _, rfl, h.step (h.kp.mine h1 h2) hw, ?_, hv.cells h1.ok (cut_cell _ _ _), hw⟩
  unfold Fl.cut
  rw [if_neg (by rw [ho]; decide)]
  split
  · exact ho
  · exact ho
theorem put_wk {w W : World} {fb sb xb : Nat} {J : Option Nat} {f f' : Fl} {s s' : St} {r : Int} {kn : Nat → K4} (h : Wk w W fb sb xb J f s kn) (id : Int) (t : ByteArray) (hr : St.put f s id t = (f', s', r)) :
    Calls Try.prog 32 #[.pointer (some ⟨sb, 0, none⟩), .int .i64 id, .string t] W fun e w' => e = .returned (.int .i64 r) ∧ Wk w w' fb sb xb J f' s' kn ∧ Wrote W w' (two fb sb) := by
  refine (put_any W W fb sb J f s id t ⟨h.kp.duet.fl, h.kp.duet.st, Wrote.refl _ _⟩).mono ?_
  rintro e w' ⟨rfl, h2⟩
  rw [hr] at h2 ⊢
  exact ⟨rfl, h.step ⟨⟨h2.fl, h2.st, h.kp.duet.wr.trans h2.wr⟩, h.kp.nf, h.kp.ns⟩ h2.wr, h2.wr⟩
theorem raised_wk {w W : World} {fb sb xb : Nat} {J : Option Nat} {f : Fl} {s : St} {kn : Nat → K4} (h : Wk w W fb sb xb J f s kn) (A : Option Addr) (n cap : Nat) (hc : CutsIn w A n) :
    Calls Try.prog 33 #[.pointer (some ⟨fb, 0, none⟩), .slice A n cap] W fun e w' => ∃ sb' J' f' s', e = .returned (.tuple #[.pointer (some ⟨sb', 0, none⟩), .bool true]) ∧ Wk w w' fb sb' xb J' f' s' kn ∧ Wrote W w' (two fb sb) ∧ Inv f' s' ∧ f'.off = false ∧ s'.stands = false ∧ ∀ k, Disk f k → s'.k = k := by
  refine (raised_any w W fb J f A n cap h.kp.held hc).mono ?_
  rintro e w' ⟨sb', J', f', s', rfl, h1, h2, h3, h4, h5, h6, h7⟩
  have hw : Wrote W w' (two fb sb) := (Wrote.of_grown h2).mono fun _ e => .inl e
  exact ⟨sb', J', f', s', rfl, h.step h1 hw, hw, h3, h4, h6, h7⟩
theorem told_wk {w W : World} {fb sb xb : Nat} {J : Option Nat} {f : Fl} {s : St} {kn : Nat → K4} (h : Wk w W fb sb xb J f s kn) (hst : s.stands = false) (i : Nat) (hi : i < 3) (hf : Fine (kn i) (s.k i)) :
    Calls Try.prog 34 #[.pointer (some ⟨sb, 0, none⟩), .int .i64 (i : Int), .agg #[.bool (kn i).is, .string (kn i).s, .bool (kn i).cut, .string (kn i).late]] W fun e w' =>
      e = .returned (.tuple #[.agg #[.bool (St.is (s.k i)), .string (St.txt (s.k i)), .bool false, .string { data := #[] }], .bool true]) ∧ Wk w w' fb sb xb J f s kn := by
  refine (told_any W sb fb s i (St.is (s.k i)) (St.txt (s.k i)) (kn i).is (kn i).s (kn i).cut (kn i).late h.kp.duet.st (get_k hst i hi) hf).mono ?_
  rintro e w' ⟨rfl, h2⟩
  exact ⟨rfl, h.keep h2⟩
/-- A deed. -/
structure Dd where
  id : Int
  val : ByteArray
  arm : Bool
  left : Int
  junk : ByteArray
  boots : Option Addr
  nb : Nat
  cb : Nat
def ddC (d : Dd) : Array Value := #[.int .i64 d.id, .string d.val, .bool d.arm, .int .i64 d.left, .string d.junk, .slice d.boots d.nb d.cb]
/-- Deeds in memory. -/
structure DeedL (w : World) (g off n : Nat) (xs : Nat → Dd) : Prop where
  lt : g < w.heap.size
  c0 : ∀ i, i < n → w.cell? ⟨g, off + i * 6, none⟩ = some (.int .i64 (xs i).id)
  c1 : ∀ i, i < n → w.cell? ⟨g, off + i * 6 + 1, none⟩ = some (.string (xs i).val)
  c2 : ∀ i, i < n → w.cell? ⟨g, off + i * 6 + 2, none⟩ = some (.bool (xs i).arm)
  c3 : ∀ i, i < n → w.cell? ⟨g, off + i * 6 + 3, none⟩ = some (.int .i64 (xs i).left)
  c4 : ∀ i, i < n → w.cell? ⟨g, off + i * 6 + 4, none⟩ = some (.string (xs i).junk)
  c5 : ∀ i, i < n → w.cell? ⟨g, off + i * 6 + 5, none⟩ = some (.slice (xs i).boots (xs i).nb (xs i).cb)
  ha : ∀ i, i < n → (xs i).left ≤ 9223372036854775807
  hs : ∀ i, i < n → (xs i).junk.size ≤ 140737488351232
  hb : ∀ i, i < n → CutsIn w (xs i).boots (xs i).nb
def DeedsIn (w : World) (a : Option Addr) (n : Nat) : Prop := n ≤ 9223372036854775807 ∧ (n = 0 ∨ ∃ g off xs, a = some ⟨g, off, none⟩ ∧ DeedL w g off n xs)
theorem cutsIn_nil (w : World) (a : Option Addr) : CutsIn w a 0 := ⟨by decide, .inl rfl⟩
end Go.Proofs.Ytngmnceahhlpkaa
