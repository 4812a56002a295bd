/- Missions in memory: their items, lists of items that can be read; worlds. No condition. -/
import Derived.Test.YtkgenhoaeiihoaaProg
import Derived.WalkKit
import Derived.Below
import Derived.WalkSpells
import Derived.WalkLawsBesides
import Derived.Outline
import Derived.Lib.Hide
import Derived.Deep.LoopGhost
import Derived.Deep.QuietTactic
import Derived.BigQuiet
import Derived.Deep.RegionHeld3
import Derived.StillTailTactics
import Derived.BigRegion
import Derived.ChangeAlike
import Derived.Deep.RegionWith
import Derived.Deep.RegionLaw
import Derived.Deep.AppendLies
import Derived.Laws.AppendOwnNone
import Derived.Deep.CutRange
import Derived.Deep.DeepCutAuto
import Derived.KernelRfl
namespace Go.Proofs.Ytkgenhoaeiihoaa
open Go.RowKit

/-! ### Worlds -/
theorem heap_setCell_at {w : World} {b : Nat} {cs : Array Value} {t : TypeId} {fr : Nat × Nat} (h : w.heap[b]? = some (.cells cs t fr)) (i : Nat) (v : Value) :
    (w.setCell ⟨b, i, none⟩ v).heap[b]? = some (.cells (cs.setIfInBounds i v) t fr) := by
  simp [World.setCell, Array.getElem?_modify, h]
theorem heap_setCell_ne {w : World} {b g : Nat} (h : b ≠ g) (i : Nat) (v : Value) : (w.setCell ⟨g, i, none⟩ v).heap[b]? = w.heap[b]? := Below.heap_setCell w ⟨g, i, none⟩ v b h
theorem cell_at {w : World} {b : Nat} {cs : Array Value} {t : TypeId} {fr : Nat × Nat} (h : w.heap[b]? = some (.cells cs t fr)) (i : Nat) : w.cell? ⟨b, i, none⟩ = cs[i]? := by
  simp [World.cell?, h]
theorem free_at {w : World} {b : Nat} {cs : Array Value} {t : TypeId} (h : w.heap[b]? = some (.cells cs t (0, 0))) (i : Nat) : w.frozen? ⟨b, i, none⟩ = false := by
  simp [World.frozen?, h]
theorem lt_of_at {w : World} {b : Nat} {o : Obj} (h : w.heap[b]? = some o) : b < w.heap.size := (Array.getElem?_eq_some_iff.1 h).1
theorem below_alloc1 (w : World) (o : Obj) : Below w.heap.size w (w.alloc o) := (Below.refl _ _).alloc (Nat.le_refl _) o
theorem below_next {w w1 w2 : World} (h1 : Below w.heap.size w w1) (h2 : Below w1.heap.size w1 w2) : Below w.heap.size w w2 := h1.trans (h2.mono h1.size)
theorem below_drewN (w : World) (n : Nat) : Below w.heap.size w (w.drewN n) := ⟨rfl, rfl, rfl, Nat.le_refl _, fun _ _ => rfl⟩
theorem alloc_size (w : World) (o : Obj) : (w.alloc o).heap.size = w.heap.size + 1 := by simp
/-- What a call may write: blocks of S, and new ones. -/
structure Wrote (w w' : World) (S : Nat → Prop) : Prop where
  os : w'.os = w.os
  tape : w'.tape = w.tape
  output : w'.output = w.output
  size : w.heap.size ≤ w'.heap.size
  block : ∀ k, k < w.heap.size → ¬ S k → w'.heap[k]? = w.heap[k]?
theorem Wrote.refl (w : World) (S : Nat → Prop) : Wrote w w S := ⟨rfl, rfl, rfl, Nat.le_refl _, fun _ _ _ => rfl⟩
theorem Wrote.trans {w w1 w2 : World} {S : Nat → Prop} (h : Wrote w w1 S) (k : Wrote w1 w2 S) : Wrote w w2 S :=
  ⟨k.os.trans h.os, k.tape.trans h.tape, k.output.trans h.output, Nat.le_trans h.size k.size, fun i hi hn => (k.block i (Nat.lt_of_lt_of_le hi h.size) hn).trans (h.block i hi hn)⟩
theorem Wrote.mono {w w1 : World} {S T : Nat → Prop} (h : Wrote w w1 S) (k : ∀ i, S i → T i) : Wrote w w1 T :=
  ⟨h.os, h.tape, h.output, h.size, fun i hi hn => h.block i hi (fun s => hn (k i s))⟩
theorem Wrote.of_below {w w1 : World} (h : Below w.heap.size w w1) (S : Nat → Prop) : Wrote w w1 S := ⟨h.os, h.tape, h.output, h.size, fun i hi _ => h.block i hi⟩
theorem Wrote.set {w w1 : World} {S : Nat → Prop} (h : Wrote w w1 S) {b : Nat} (hb : S b) (i : Nat) (v : Value) : Wrote w (w1.setCell ⟨b, i, none⟩ v) S :=
  ⟨h.os, h.tape, h.output, by simpa [World.setCell] using h.size, fun k hk hn => (Below.heap_setCell w1 ⟨b, i, none⟩ v k (by rintro rfl; exact hn hb)).trans (h.block k hk hn)⟩
theorem Wrote.drewN {w w1 : World} {S : Nat → Prop} (h : Wrote w w1 S) (n : Nat) : Wrote w (w1.drewN n) S := ⟨h.os, h.tape, h.output, h.size, h.block⟩
theorem Wrote.drew {w w1 : World} {S : Nat → Prop} (h : Wrote w w1 S) : Wrote w w1.drew S := ⟨h.os, h.tape, h.output, h.size, h.block⟩
theorem Wrote.cell {w w' : World} {S : Nat → Prop} (h : Wrote w w' S) {g : Nat} (hg : g < w.heap.size) (hS : ¬ S g) (i : Nat) : w'.cell? ⟨g, i, none⟩ = w.cell? ⟨g, i, none⟩ := by
  unfold World.cell?
  simp only [h.block g hg hS]
theorem below_wrote {B : Nat} {w w1 w2 : World} (h : Below B w w1) {S : Nat → Prop} (k : Wrote w1 w2 S) (hS : ∀ i, S i → B ≤ i) (hB : B ≤ w1.heap.size) : Below B w w2 :=
  h.trans ⟨k.os, k.tape, k.output, k.size, fun i hi => k.block i (by omega) (fun s => by have := hS i s; omega)⟩
theorem ownsRow_kept {w w' : World} {B : Nat} {e : TypeId} {size n : Nat} {v : Value} {xs : List Value} (h : w.ownsRow B e size v n xs) {S : Nat → Prop} (hw : Wrote w w' S) (hS : ∀ k, S k → k < B) : w'.ownsRow B e size v n xs := by
  refine ⟨h.1, ?_⟩
  rcases h.2 with hn | ⟨g, cap, cur, rfl, hb, hg, rest⟩
  · exact .inl hn
  · exact .inr ⟨g, cap, cur, rfl, hb, (hw.block g (lt_of_at hg) (fun s => by have := hS g s; omega)).trans hg, rest⟩
theorem ownsRow_base {w : World} {B B' : Nat} {e : TypeId} {size n : Nat} {v : Value} {xs : List Value} (h : w.ownsRow B e size v n xs) (hB : B' ≤ B) : w.ownsRow B' e size v n xs := by
  refine ⟨h.1, ?_⟩
  rcases h.2 with h1 | ⟨g, cap, cur, h1, h2, h3⟩
  · exact .inl h1
  · exact .inr ⟨g, cap, cur, h1, by omega, h3⟩
theorem one_new (w : World) (o : Obj) : (w.alloc o).heap[w.heap.size]? = some o := heap_alloc_new w o
theorem two_new (w : World) (o1 o2 : Obj) : ((w.alloc o1).alloc o2).heap[w.heap.size + 1]? = some o2 := by
  have := heap_alloc_new (w.alloc o1) o2
  rw [alloc_size] at this
  exact this

/-! ### Lists of rows -/
theorem flat_get {α β : Type} {f : α → List β} {C : Nat} (hf : ∀ a, (f a).length = C) : ∀ (l : List α) (i j : Nat), j < C → (l.flatMap f)[i * C + j]? = (l[i]?).bind fun a => (f a)[j]?
  | [], i, j, hj => by simp
  | a :: l, 0, j, hj => by
    rw [List.flatMap_cons, Nat.zero_mul, Nat.zero_add, List.getElem?_append_left (by rw [hf]; exact hj)]
    rfl
  | a :: l, i + 1, j, hj => by
    rw [List.flatMap_cons, List.getElem?_append_right (by rw [hf, Nat.add_mul]; omega), hf, Nat.add_mul, Nat.one_mul, show i * C + C + j - C = i * C + j from by omega, flat_get hf l i j hj]
    rfl
theorem flat_len {α β : Type} {f : α → List β} {C : Nat} (hf : ∀ a, (f a).length = C) : ∀ l : List α, (l.flatMap f).length = l.length * C
  | [] => by simp
  | a :: l => by rw [List.flatMap_cons, List.length_append, hf, flat_len hf l, List.length_cons, Nat.add_mul]; omega

/-! ### Items -/
structure It where
  k : Int
  a : Int
  b : Int
  c : Int
def itL (x : It) : List Value := [.int .u8 x.k, .int .i64 x.a, .int .i64 x.b, .int .i64 x.c]
theorem itL_len (x : It) : (itL x).length = 4 := rfl
def it0 : It := ⟨0, 0, 0, 0⟩
def itV (x : It) : Value := .agg #[.int .u8 x.k, .int .i64 x.a, .int .i64 x.b, .int .i64 x.c]
/-- Item i of a list lies at a place. -/
def ItAt (w : World) (g o : Nat) (x : It) : Prop := w.cell? ⟨g, o, none⟩ = some (.int .u8 x.k) ∧ w.cell? ⟨g, o + 1, none⟩ = some (.int .i64 x.a) ∧ w.cell? ⟨g, o + 2, none⟩ = some (.int .i64 x.b) ∧ w.cell? ⟨g, o + 3, none⟩ = some (.int .i64 x.c)
theorem ItAt.kept {w w' : World} {g o : Nat} {x : It} (h : ItAt w g o x) (hk : ∀ i, w'.cell? ⟨g, i, none⟩ = w.cell? ⟨g, i, none⟩) : ItAt w' g o x := by
  unfold ItAt
  rw [hk, hk, hk, hk]
  exact h
/-- What is known of each number of a list. -/
def Kinds (xs : List It) : Prop := ∀ x ∈ xs, 0 ≤ x.k ∧ x.k ≤ 255 ∧ -9223372036854775808 ≤ x.a ∧ x.a ≤ 9223372036854775807 ∧ -9223372036854775808 ≤ x.b ∧ x.b ≤ 9223372036854775807 ∧ -9223372036854775808 ≤ x.c ∧ x.c ≤ 9223372036854775807
/-- A list of items that can be read. -/
def IR (w : World) (v : Value) (xs : List It) : Prop :=
  xs.length * 32 ≤ 140737488351232 ∧ ((v = .slice none 0 0 ∧ xs = []) ∨ ∃ ad cap, v = .slice (some ad) xs.length cap ∧ (xs = [] ∨ ∃ g off, ad = ⟨g, off, none⟩ ∧ g < w.heap.size ∧ ∀ i, i < xs.length → ItAt w g (off + i * 4) (xs.getD i it0)))
theorem IR.below {w w1 : World} {v : Value} {xs : List It} (h : IR w v xs) (hb : Below w.heap.size w w1) : IR w1 v xs := by
  refine ⟨h.1, ?_⟩
  rcases h.2 with h1 | ⟨ad, cap, hv, h1⟩
  · exact .inl h1
  · refine .inr ⟨ad, cap, hv, ?_⟩
    rcases h1 with h1 | ⟨g, off, ha, hg, hc⟩
    · exact .inl h1
    · exact .inr ⟨g, off, ha, Nat.lt_of_lt_of_le hg hb.size, fun i hi => (hc i hi).kept fun j => hb.cell (p := ⟨g, j, none⟩) hg⟩
theorem IR.wrote {w w1 : World} {v : Value} {xs : List It} (h : IR w v xs) {S : Nat → Prop} (hw : Wrote w w1 S) (hS : ∀ g, v.ownBlock = some g → ¬ S g) : IR w1 v xs := by
  refine ⟨h.1, ?_⟩
  rcases h.2 with h1 | ⟨ad, cap, hv, h1⟩
  · exact .inl h1
  · refine .inr ⟨ad, cap, hv, ?_⟩
    rcases h1 with h1 | ⟨g, off, ha, hg, hc⟩
    · exact .inl h1
    · exact .inr ⟨g, off, ha, Nat.lt_of_lt_of_le hg hw.size, fun i hi => (hc i hi).kept fun j => hw.cell hg (hS g (by rw [hv, ha]; rfl)) j⟩
theorem IR.small {w : World} {v : Value} {xs : List It} (h : IR w v xs) : xs.length ≤ 9223372036854775807 := by have := h.1; omega
theorem IR.form {w : World} {v : Value} {xs : List It} (h : IR w v xs) : ∃ A cap, v = .slice A xs.length cap := by
  rcases h.2 with ⟨hv, h1⟩ | ⟨ad, cap, hv, _⟩
  · exact ⟨none, 0, by rw [hv, h1]; rfl⟩
  · exact ⟨some ad, cap, hv⟩
theorem IR.at {w : World} {v : Value} {xs : List It} (h : IR w v xs) : (xs = [] ∧ ∃ A cap, v = .slice A 0 cap) ∨ ∃ g off cap, v = .slice (some ⟨g, off, none⟩) xs.length cap ∧ g < w.heap.size ∧ ∀ i, i < xs.length → ItAt w g (off + i * 4) (xs.getD i it0) := by
  rcases h.2 with ⟨hv, h1⟩ | ⟨ad, cap, hv, h1⟩
  · exact .inl ⟨h1, none, 0, hv⟩
  · rcases h1 with h1 | ⟨g, off, ha, hg, hc⟩
    · exact .inl ⟨h1, some ad, cap, by rw [hv, h1]; rfl⟩
    · exact .inr ⟨g, off, cap, by rw [hv, ha], hg, hc⟩
theorem it_at (xs : List It) (i : Nat) (hi : i < xs.length) : (xs.flatMap itL)[i * 4]? = some (.int .u8 (xs.getD i it0).k) ∧ (xs.flatMap itL)[i * 4 + 1]? = some (.int .i64 (xs.getD i it0).a) ∧ (xs.flatMap itL)[i * 4 + 2]? = some (.int .i64 (xs.getD i it0).b) ∧ (xs.flatMap itL)[i * 4 + 3]? = some (.int .i64 (xs.getD i it0).c) := by
  have e : xs.getD i it0 = xs[i] := by rw [List.getD_eq_getElem?_getD, List.getElem?_eq_getElem hi]; rfl
  rw [e]
  refine ⟨?_, ?_, ?_, ?_⟩
  · have := flat_get itL_len xs i 0 (by omega)
    rw [Nat.add_zero, List.getElem?_eq_getElem hi] at this
    exact this
  · rw [flat_get itL_len xs i 1 (by omega), List.getElem?_eq_getElem hi]; rfl
  · rw [flat_get itL_len xs i 2 (by omega), List.getElem?_eq_getElem hi]; rfl
  · rw [flat_get itL_len xs i 3 (by omega), List.getElem?_eq_getElem hi]; rfl
theorem it_news {w : World} {g off : Nat} {xs : List It} (hc : ∀ i, i < xs.length → ItAt w g (off + i * 4) (xs.getD i it0)) : ∀ (j : Nat) (u : Value), (xs.flatMap itL)[j]? = some u → w.cell? ((⟨g, off, none⟩ : Addr).add j) = some u := by
  intro j u hu
  have hl := flat_len itL_len xs
  have hj : j < xs.length * 4 := by rw [← hl]; exact (List.getElem?_eq_some_iff.1 hu).1
  have e : (⟨g, off, none⟩ : Addr).add j = ⟨g, off + j, none⟩ := by unfold Addr.add; split <;> simp_all
  rw [e, ← hu]
  obtain ⟨a, b, c, d⟩ := hc (j / 4) (by omega)
  obtain ⟨a', b', c', d'⟩ := it_at xs (j / 4) (by omega)
  have h4 : j % 4 = 0 ∨ j % 4 = 1 ∨ j % 4 = 2 ∨ j % 4 = 3 := by omega
  rcases h4 with h4 | h4 | h4 | h4
  · have : j = j / 4 * 4 := by omega
    rw [this, a, a']
  · have : j = j / 4 * 4 + 1 := by omega
    rw [this, ← Nat.add_assoc, b, b']
  · have : j = j / 4 * 4 + 2 := by omega
    rw [this, ← Nat.add_assoc, c, c']
  · have : j = j / 4 * 4 + 3 := by omega
    rw [this, ← Nat.add_assoc, d, d']
theorem it_one (xs : List It) : ∀ u ∈ xs.flatMap itL, u.oneCell' = true := by
  intro u hu
  obtain ⟨x, _, hx⟩ := List.mem_flatMap.1 hu
  simp only [itL, List.mem_cons, List.not_mem_nil, or_false] at hx
  rcases hx with rfl | rfl | rfl | rfl <;> rfl
theorem IR.news {w : World} {v : Value} {xs : List It} (h : IR w v xs) : (v = .slice none 0 0 ∧ xs = []) ∨ ∃ ad cap, v = .slice (some ad) xs.length cap ∧ ∀ (j : Nat) (u : Value), (xs.flatMap itL)[j]? = some u → w.cell? (ad.add j) = some u := by
  rcases h.2 with h1 | ⟨ad, cap, hv, h1⟩
  · exact .inl h1
  · refine .inr ⟨ad, cap, hv, ?_⟩
    rcases h1 with rfl | ⟨g, off, rfl, _, hc⟩
    · intro j u hu; simp at hu
    · exact it_news hc
theorem ir_own {w : World} {B : Nat} {v : Value} {xs : List It} (h : w.ownsRow B 45 4 v xs.length (xs.flatMap itL)) (hb : xs.length * 32 ≤ 140737488351232) : IR w v xs := by
  refine ⟨hb, ?_⟩
  rcases h.2 with ⟨hv, hn⟩ | ⟨g, cap, cur, hv, _, hg, _⟩
  · exact .inl ⟨hv, List.eq_nil_of_length_eq_zero hn⟩
  · subst hv
    refine .inr ⟨_, cap, rfl, .inr ⟨g, 0, rfl, lt_of_at hg, fun i hi => ?_⟩⟩
    rw [Nat.zero_add]
    obtain ⟨a, b, c, d⟩ := it_at xs i hi
    exact ⟨(h.cellAt _ (by omega)).trans a, (h.cellAt _ (by omega)).trans b, (h.cellAt _ (by omega)).trans c, (h.cellAt _ (by omega)).trans d⟩
theorem info45 : (Try.prog.info? 45).map (fun i => (i.zero, i.size, i.bytes)) = some (some (.agg #[.int .u8 0, .int .i64 0, .int .i64 0, .int .i64 0]), 4, 32) := by kernel_rfl
theorem info5 : (Try.prog.info? 5).map (fun i => (i.zero, i.size, i.bytes)) = some (some (.int .u8 0), 1, 1) := by kernel_rfl
end Go.Proofs.Ytkgenhoaeiihoaa
