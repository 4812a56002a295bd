/- A queue of numbers in memory; worlds. No condition. -/
import Derived.Test.YtgbogbmjefbkeaaProg
import Derived.Test.YtgbogbmjefbkeaaHeap
import Derived.WalkKit
import Derived.Below
import Derived.WalkSpells
import Derived.WalkLawsBesides
import Derived.Outline
import Derived.Lib.Hide
import Derived.Deep.LoopGhost
import Derived.Deep.QuietTactic
import Derived.BigQuiet
import Derived.Deep.RegionHeld3
import Derived.StillTailTactics
import Derived.BigRegion
import Derived.ChangeAlike
import Derived.Deep.RegionWith
import Derived.Deep.AppendLies
import Derived.Laws.AppendOwnNone
import Derived.Deep.CutRange
import Derived.Deep.DeepCutAuto
import Derived.KernelRfl
namespace Go.Proofs.Ytgbogbmjefbkeaa
open Go.RowKit

/-! ### Worlds -/
theorem heap_setCell_at {w : World} {b : Nat} {cs : Array Value} {t : TypeId} {fr : Nat × Nat} (h : w.heap[b]? = some (.cells cs t fr)) (i : Nat) (v : Value) :
    (w.setCell ⟨b, i, none⟩ v).heap[b]? = some (.cells (cs.setIfInBounds i v) t fr) := by
  simp [World.setCell, Array.getElem?_modify, h]
theorem heap_setCell_ne {w : World} {b g : Nat} (h : b ≠ g) (i : Nat) (v : Value) : (w.setCell ⟨g, i, none⟩ v).heap[b]? = w.heap[b]? := Below.heap_setCell w ⟨g, i, none⟩ v b h
theorem cell_at {w : World} {b : Nat} {cs : Array Value} {t : TypeId} {fr : Nat × Nat} (h : w.heap[b]? = some (.cells cs t fr)) (i : Nat) : w.cell? ⟨b, i, none⟩ = cs[i]? := by
  simp [World.cell?, h]
theorem free_at {w : World} {b : Nat} {cs : Array Value} {t : TypeId} (h : w.heap[b]? = some (.cells cs t (0, 0))) (i : Nat) : w.frozen? ⟨b, i, none⟩ = false := by
  simp [World.frozen?, h]
theorem lt_of_at {w : World} {b : Nat} {o : Obj} (h : w.heap[b]? = some o) : b < w.heap.size := (Array.getElem?_eq_some_iff.1 h).1
theorem below_alloc1 (w : World) (o : Obj) : Below w.heap.size w (w.alloc o) := (Below.refl _ _).alloc (Nat.le_refl _) o
theorem below_next {w w1 w2 : World} (h1 : Below w.heap.size w w1) (h2 : Below w1.heap.size w1 w2) : Below w.heap.size w w2 := h1.trans (h2.mono h1.size)
theorem alloc_size (w : World) (o : Obj) : (w.alloc o).heap.size = w.heap.size + 1 := by simp
/-- What a call may write: blocks of S, and new ones. -/
structure Wrote (w w' : World) (S : Nat → Prop) : Prop where
  os : w'.os = w.os
  tape : w'.tape = w.tape
  output : w'.output = w.output
  size : w.heap.size ≤ w'.heap.size
  block : ∀ k, k < w.heap.size → ¬ S k → w'.heap[k]? = w.heap[k]?
theorem Wrote.refl (w : World) (S : Nat → Prop) : Wrote w w S := ⟨rfl, rfl, rfl, Nat.le_refl _, fun _ _ _ => rfl⟩
theorem Wrote.trans {w w1 w2 : World} {S : Nat → Prop} (h : Wrote w w1 S) (k : Wrote w1 w2 S) : Wrote w w2 S :=
  ⟨k.os.trans h.os, k.tape.trans h.tape, k.output.trans h.output, Nat.le_trans h.size k.size, fun i hi hn => (k.block i (Nat.lt_of_lt_of_le hi h.size) hn).trans (h.block i hi hn)⟩
theorem Wrote.mono {w w1 : World} {S T : Nat → Prop} (h : Wrote w w1 S) (k : ∀ i, S i → T i) : Wrote w w1 T :=
  ⟨h.os, h.tape, h.output, h.size, fun i hi hn => h.block i hi (fun s => hn (k i s))⟩
theorem Wrote.of_below {w w1 : World} (h : Below w.heap.size w w1) (S : Nat → Prop) : Wrote w w1 S := ⟨h.os, h.tape, h.output, h.size, fun i hi _ => h.block i hi⟩
theorem Wrote.set {w w1 : World} {S : Nat → Prop} (h : Wrote w w1 S) {b : Nat} (hb : S b) (i : Nat) (v : Value) : Wrote w (w1.setCell ⟨b, i, none⟩ v) S :=
  ⟨h.os, h.tape, h.output, by simpa [World.setCell] using h.size, fun k hk hn => (Below.heap_setCell w1 ⟨b, i, none⟩ v k (by rintro rfl; exact hn hb)).trans (h.block k hk hn)⟩
theorem Wrote.drewN {w w1 : World} {S : Nat → Prop} (h : Wrote w w1 S) (n : Nat) : Wrote w (w1.drewN n) S := ⟨h.os, h.tape, h.output, h.size, h.block⟩
theorem Wrote.drew {w w1 : World} {S : Nat → Prop} (h : Wrote w w1 S) : Wrote w w1.drew S := ⟨h.os, h.tape, h.output, h.size, h.block⟩
theorem Wrote.below {w w1 w2 : World} {S : Nat → Prop} (h : Below w.heap.size w w1) (k : Wrote w1 w2 S) (hS : ∀ i, S i → w.heap.size ≤ i) : Below w.heap.size w w2 :=
  ⟨k.os.trans h.os, k.tape.trans h.tape, k.output.trans h.output, Nat.le_trans h.size k.size, fun i hi => (k.block i (Nat.lt_of_lt_of_le hi h.size) (fun s => by have := hS i s; omega)).trans (h.block i hi)⟩

theorem below_drewN (w : World) (n : Nat) : Below w.heap.size w (w.drewN n) := ⟨rfl, rfl, rfl, Nat.le_refl _, fun _ _ => rfl⟩
theorem below_drew1 (w : World) : Below w.heap.size w w.drew := below_drewN w 1
theorem ownsRow_kept {w w' : World} {B : Nat} {e : TypeId} {size n : Nat} {v : Value} {xs : List Value} (h : w.ownsRow B e size v n xs) {S : Nat → Prop} (hw : Wrote w w' S) (hS : ∀ k, S k → k < B) : w'.ownsRow B e size v n xs := by
  refine ⟨h.1, ?_⟩
  rcases h.2 with hn | ⟨g, cap, cur, rfl, hb, hg, rest⟩
  · exact .inl hn
  · exact .inr ⟨g, cap, cur, rfl, hb, (hw.block g (lt_of_at hg) (fun s => by have := hS g s; omega)).trans hg, rest⟩
theorem ownsRow_base {w : World} {B B' : Nat} {e : TypeId} {size n : Nat} {v : Value} {xs : List Value} (h : w.ownsRow B e size v n xs) (hB : B' ≤ B) : w.ownsRow B' e size v n xs := by
  refine ⟨h.1, ?_⟩
  rcases h.2 with h1 | ⟨g, cap, cur, h1, h2, h3⟩
  · exact .inl h1
  · exact .inr ⟨g, cap, cur, h1, by omega, h3⟩
theorem one_new (w : World) (o : Obj) : (w.alloc o).heap[w.heap.size]? = some o := heap_alloc_new w o
theorem two_new (w : World) (o1 o2 : Obj) : ((w.alloc o1).alloc o2).heap[w.heap.size + 1]? = some o2 := by
  have := heap_alloc_new (w.alloc o1) o2
  rw [alloc_size] at this
  exact this

theorem below_wrote {B : Nat} {w w1 w2 : World} (h : Below B w w1) {S : Nat → Prop} (k : Wrote w1 w2 S) (hS : ∀ i, S i → B ≤ i) (hB : B ≤ w1.heap.size) : Below B w w2 :=
  h.trans ⟨k.os, k.tape, k.output, k.size, fun i hi => k.block i (by omega) (fun s => by have := hS i s; omega)⟩
/-! ### A queue -/
def inL (ms : List Int) : List Value := ms.map (.int .i64)
theorem inL_len (ms : List Int) : (inL ms).length = ms.length := by simp [inL]
theorem inL_get (ms : List Int) (i : Nat) (hi : i < ms.length) : (inL ms)[i]? = some (.int .i64 (ms.getD i 0)) := by
  rw [inL, List.getElem?_map, List.getElem?_eq_getElem hi, List.getD_eq_getElem?_getD, List.getElem?_eq_getElem hi]
  rfl
theorem inL_one (ms : List Int) : ∀ u ∈ inL ms, u.oneCell' = true := by
  intro u hu
  obtain ⟨x, _, rfl⟩ := List.mem_map.1 hu
  rfl
/-- Numbers that wait: a queue's block, and its row behind it. -/
structure Qu (w : World) (qb : Nat) (ms : List Int) : Prop where
  blk : ∃ mv, w.heap[qb]? = some (.cells #[mv] 44) ∧ w.ownsRow (qb + 1) 3 1 mv ms.length (inL ms)
theorem Qu.lt {w : World} {qb : Nat} {ms : List Int} (h : Qu w qb ms) : qb < w.heap.size := by
  obtain ⟨mv, h1, _⟩ := h.blk
  exact lt_of_at h1
theorem Qu.keep {w w1 : World} {qb : Nat} {ms : List Int} (h : Qu w qb ms) (hb : Below w.heap.size w w1) : Qu w1 qb ms := by
  obtain ⟨mv, h1, h2⟩ := h.blk
  exact ⟨mv, (hb.block qb (lt_of_at h1)).trans h1, ownsRow_kept h2 (Wrote.of_below hb (fun _ => False)) (fun _ hf => hf.elim)⟩
theorem info3 : (Try.prog.info? 3).map (fun i => (i.zero, i.size, i.bytes)) = some (some (.int .i64 0), 1, 8) := by kernel_rfl
/-- A queue that holds something: its cells. -/
theorem Qu.form {w : World} {qb : Nat} {ms : List Int} (h : Qu w qb ms) (h0 : 0 < ms.length) :
    ∃ g cap, qb < g ∧ g < w.heap.size ∧ w.heap[qb]? = some (.cells #[.slice (some ⟨g, 0, none⟩) ms.length cap] 44) ∧ w.ownsRow (qb + 1) 3 1 (.slice (some ⟨g, 0, none⟩) ms.length cap) ms.length (inL ms) ∧
      (∀ i, i < ms.length → w.cell? ⟨g, i, none⟩ = some (.int .i64 (ms.getD i 0))) ∧ (∀ i, w.frozen? ⟨g, i, none⟩ = false) ∧ ms.length ≤ cap ∧ cap ≤ 9223372036854775807 ∧ ∃ cs t, w.heap[g]? = some (.cells cs t) := by
  obtain ⟨mv, h1, h2⟩ := h.blk
  have h2' := h2
  rcases h2.2 with ⟨_, h3⟩ | ⟨g, cap, cur, h3, h4, h5, h6, h7, h8, h9⟩
  · omega
  · subst h3
    refine ⟨g, cap, by omega, lt_of_at h5, h1, h2', fun i hi => ?_, fun i => free_at h5 i, h6, by unfold maxLen at h7; omega, _, _, h5⟩
    rw [← inL_get ms i hi]
    exact h2'.cellAt i (by omega)
end Go.Proofs.Ytgbogbmjefbkeaa
