/- A plan in memory: its jobs, its moments, its tick; and in which order moments come. No condition. -/
import Derived.Test.YtmkbkjnpgdpffaaProg
import Derived.Test.YtmkbkjnpgdpffaaHeap
import Derived.WalkKit
import Derived.Below
import Derived.WalkSpells
import Derived.WalkLawsBesides
import Derived.Outline
import Derived.Lib.Hide
import Derived.Deep.LoopGhost
import Derived.Deep.QuietTactic
import Derived.BigQuiet
import Derived.Deep.RegionHeld3
import Derived.StillTailTactics
import Derived.BigRegion
import Derived.ChangeAlike
import Derived.Deep.RegionWith
import Derived.Deep.AppendLies
namespace Go.Proofs.Ytmkbkjnpgdpffaa
open Go.RowKit

/-! ### Worlds -/
theorem heap_setCell_at {w : World} {b : Nat} {cs : Array Value} {t : TypeId} {fr : Nat × Nat} (h : w.heap[b]? = some (.cells cs t fr)) (i : Nat) (v : Value) :
    (w.setCell ⟨b, i, none⟩ v).heap[b]? = some (.cells (cs.setIfInBounds i v) t fr) := by
  simp [World.setCell, Array.getElem?_modify, h]
theorem heap_setCell_ne {w : World} {b g : Nat} (h : b ≠ g) (i : Nat) (v : Value) : (w.setCell ⟨g, i, none⟩ v).heap[b]? = w.heap[b]? := Below.heap_setCell w ⟨g, i, none⟩ v b h
theorem cell_at {w : World} {b : Nat} {cs : Array Value} {t : TypeId} {fr : Nat × Nat} (h : w.heap[b]? = some (.cells cs t fr)) (i : Nat) : w.cell? ⟨b, i, none⟩ = cs[i]? := by
  simp [World.cell?, h]
theorem free_at {w : World} {b : Nat} {cs : Array Value} {t : TypeId} (h : w.heap[b]? = some (.cells cs t (0, 0))) (i : Nat) : w.frozen? ⟨b, i, none⟩ = false := by
  simp [World.frozen?, h]
theorem lt_of_at {w : World} {b : Nat} {o : Obj} (h : w.heap[b]? = some o) : b < w.heap.size := (Array.getElem?_eq_some_iff.1 h).1
theorem below_alloc1 (w : World) (o : Obj) : Below w.heap.size w (w.alloc o) := (Below.refl _ _).alloc (Nat.le_refl _) o
theorem below_next {w w1 w2 : World} (h1 : Below w.heap.size w w1) (h2 : Below w1.heap.size w1 w2) : Below w.heap.size w w2 := h1.trans (h2.mono h1.size)
theorem alloc_size (w : World) (o : Obj) : (w.alloc o).heap.size = w.heap.size + 1 := by simp
/-- What a call may write: blocks of S, and new ones. -/
structure Wrote (w w' : World) (S : Nat → Prop) : Prop where
  os : w'.os = w.os
  tape : w'.tape = w.tape
  output : w'.output = w.output
  size : w.heap.size ≤ w'.heap.size
  block : ∀ k, k < w.heap.size → ¬ S k → w'.heap[k]? = w.heap[k]?
theorem Wrote.refl (w : World) (S : Nat → Prop) : Wrote w w S := ⟨rfl, rfl, rfl, Nat.le_refl _, fun _ _ _ => rfl⟩
theorem Wrote.trans {w w1 w2 : World} {S : Nat → Prop} (h : Wrote w w1 S) (k : Wrote w1 w2 S) : Wrote w w2 S :=
  ⟨k.os.trans h.os, k.tape.trans h.tape, k.output.trans h.output, Nat.le_trans h.size k.size, fun i hi hn => (k.block i (Nat.lt_of_lt_of_le hi h.size) hn).trans (h.block i hi hn)⟩
theorem Wrote.mono {w w1 : World} {S T : Nat → Prop} (h : Wrote w w1 S) (k : ∀ i, S i → T i) : Wrote w w1 T :=
  ⟨h.os, h.tape, h.output, h.size, fun i hi hn => h.block i hi (fun s => hn (k i s))⟩
theorem Wrote.of_below {w w1 : World} (h : Below w.heap.size w w1) (S : Nat → Prop) : Wrote w w1 S := ⟨h.os, h.tape, h.output, h.size, fun i hi _ => h.block i hi⟩
theorem Wrote.set {w w1 : World} {S : Nat → Prop} (h : Wrote w w1 S) {b : Nat} (hb : S b) (i : Nat) (v : Value) : Wrote w (w1.setCell ⟨b, i, none⟩ v) S :=
  ⟨h.os, h.tape, h.output, by simpa [World.setCell] using h.size, fun k hk hn => (Below.heap_setCell w1 ⟨b, i, none⟩ v k (by rintro rfl; exact hn hb)).trans (h.block k hk hn)⟩
theorem Wrote.drewN {w w1 : World} {S : Nat → Prop} (h : Wrote w w1 S) (n : Nat) : Wrote w (w1.drewN n) S := ⟨h.os, h.tape, h.output, h.size, h.block⟩
theorem Wrote.drew {w w1 : World} {S : Nat → Prop} (h : Wrote w w1 S) : Wrote w w1.drew S := ⟨h.os, h.tape, h.output, h.size, h.block⟩
theorem Wrote.below {w w1 w2 : World} {S : Nat → Prop} (h : Below w.heap.size w w1) (k : Wrote w1 w2 S) (hS : ∀ i, S i → w.heap.size ≤ i) : Below w.heap.size w w2 :=
  ⟨k.os.trans h.os, k.tape.trans h.tape, k.output.trans h.output, Nat.le_trans h.size k.size, fun i hi => (k.block i (Nat.lt_of_lt_of_le hi h.size) (fun s => by have := hS i s; omega)).trans (h.block i hi)⟩

/-! ### Lists of rows -/
theorem flat_get {α β : Type} {f : α → List β} {C : Nat} (hf : ∀ a, (f a).length = C) : ∀ (l : List α) (i j : Nat), j < C → (l.flatMap f)[i * C + j]? = (l[i]?).bind fun a => (f a)[j]?
  | [], i, j, hj => by simp
  | a :: l, 0, j, hj => by
    rw [List.flatMap_cons, Nat.zero_mul, Nat.zero_add, List.getElem?_append_left (by rw [hf]; exact hj)]
    rfl
  | a :: l, i + 1, j, hj => by
    rw [List.flatMap_cons, List.getElem?_append_right (by rw [hf, Nat.add_mul]; omega), hf, Nat.add_mul, Nat.one_mul, show i * C + C + j - C = i * C + j from by omega, flat_get hf l i j hj]
    rfl
theorem flat_len {α β : Type} {f : α → List β} {C : Nat} (hf : ∀ a, (f a).length = C) : ∀ l : List α, (l.flatMap f).length = l.length * C
  | [] => by simp
  | a :: l => by rw [List.flatMap_cons, List.length_append, hf, flat_len hf l, List.length_cons, Nat.add_mul]; omega

/-! ### A plan -/
structure Jb where
  period : Int
  phase : Int
  rank : Int
abbrev Mo := Int × Nat
def jbL (j : Jb) : List Value := [.int .i64 j.period, .int .i64 j.phase, .int .i64 j.rank]
def moL (m : Mo) : List Value := [.int .i64 m.1, .int .i64 (m.2 : Int)]
theorem jbL_len (j : Jb) : (jbL j).length = 3 := rfl
theorem moL_len (m : Mo) : (moL m).length = 2 := rfl
def rk (js : List Jb) (k : Nat) : Int := (js.map Jb.rank).getD k 0
/-- Which of two moments comes first. -/
def mlt (js : List Jb) (a b : Mo) : Bool := if a.1 = b.1 then (if rk js a.2 = rk js b.2 then decide (a.2 < b.2) else decide (rk js a.2 < rk js b.2)) else decide (a.1 < b.1)
def mle (js : List Jb) (a b : Mo) : Prop := mlt js b a = false
theorem mle_tot (js : List Jb) (a b : Mo) : mle js a b ∨ mle js b a := by
  unfold mle mlt
  by_cases h1 : a.1 = b.1
  · rw [if_pos h1.symm, if_pos h1]
    by_cases h2 : rk js a.2 = rk js b.2
    · rw [if_pos h2.symm, if_pos h2]
      simp only [decide_eq_false_iff_not]
      omega
    · rw [if_neg (Ne.symm h2), if_neg h2]
      simp only [decide_eq_false_iff_not]
      omega
  · rw [if_neg (Ne.symm h1), if_neg h1]
    simp only [decide_eq_false_iff_not]
    omega
theorem mle_iff (js : List Jb) (a b : Mo) : mle js a b ↔ a.1 < b.1 ∨ a.1 = b.1 ∧ (rk js a.2 < rk js b.2 ∨ rk js a.2 = rk js b.2 ∧ a.2 ≤ b.2) := by
  unfold mle mlt
  by_cases h1 : b.1 = a.1
  · rw [if_pos h1]
    by_cases h2 : rk js b.2 = rk js a.2
    · rw [if_pos h2]
      simp only [decide_eq_false_iff_not]
      omega
    · rw [if_neg h2]
      simp only [decide_eq_false_iff_not]
      omega
  · rw [if_neg h1]
    simp only [decide_eq_false_iff_not]
    omega
theorem mle_tr (js : List Jb) (a b c : Mo) (h : mle js a b) (k : mle js b c) : mle js a c := by
  rw [mle_iff] at *
  omega
theorem mle_rf (js : List Jb) (a : Mo) : mle js a a := by
  rw [mle_iff]
  omega
/-- A slice over a row of its own. -/
structure Slc (w : World) (v : Value) (g : Nat) (e : TypeId) (size n : Nat) (xs : List Value) : Prop where
  own : w.ownsRow 0 e size v n xs
  blk : v.ownBlock = none ∨ v.ownBlock = some g
structure Plan (w : World) (b jb mb : Nat) (js : List Jb) (ms : List Mo) (now : Int) : Prop where
  blk : ∃ jv mv, w.heap[b]? = some (.cells #[jv, mv, .int .i64 now] 48 (0, 0)) ∧ Slc w jv jb 36 3 js.length (js.flatMap jbL) ∧ Slc w mv mb 50 2 ms.length (ms.flatMap moL)
  jlt : ∀ m ∈ ms, m.2 < js.length
  sep : js = [] ∨ (b ≠ jb ∧ b ≠ mb ∧ jb ≠ mb)
theorem Plan.apart {w : World} {b jb mb : Nat} {js : List Jb} {ms : List Mo} {now : Int} (h : Plan w b jb mb js ms now) (h0 : 0 < js.length) : b ≠ jb ∧ b ≠ mb ∧ jb ≠ mb := by
  rcases h.sep with h1 | h1
  · rw [h1] at h0; simp at h0
  · exact h1
theorem Plan.bj {w : World} {b jb mb : Nat} {js : List Jb} {ms : List Mo} {now : Int} (h : Plan w b jb mb js ms now) (h0 : 0 < js.length) : b ≠ jb := (h.apart h0).1
theorem Plan.bm {w : World} {b jb mb : Nat} {js : List Jb} {ms : List Mo} {now : Int} (h : Plan w b jb mb js ms now) (h0 : 0 < js.length) : b ≠ mb := (h.apart h0).2.1
theorem Plan.jm {w : World} {b jb mb : Nat} {js : List Jb} {ms : List Mo} {now : Int} (h : Plan w b jb mb js ms now) (h0 : 0 < js.length) : jb ≠ mb := (h.apart h0).2.2
theorem Plan.jobs {w : World} {b jb mb : Nat} {js : List Jb} {ms : List Mo} {now : Int} (h : Plan w b jb mb js ms now) (h0 : 0 < ms.length) : 0 < js.length := by
  have := h.jlt ms[0] (List.getElem_mem h0)
  omega
theorem Slc.kept {w w1 : World} {v : Value} {g : Nat} {e : TypeId} {size n : Nat} {xs : List Value} (h : Slc w v g e size n xs) (hk : w1.heap[g]? = w.heap[g]?) : Slc w1 v g e size n xs := by
  refine ⟨⟨h.own.1, ?_⟩, h.blk⟩
  rcases h.own.2 with hv | ⟨g', cap, cur, hv, h1, h2, h3⟩
  · exact .inl hv
  · right
    refine ⟨g', cap, cur, hv, h1, ?_, h3⟩
    have : g' = g := by
      rcases h.blk with hb | hb
      · rw [hv] at hb; cases hb
      · rw [hv] at hb; injection hb
    subst this
    rw [hk]
    exact h2
theorem Slc.form {w : World} {v : Value} {g : Nat} {e : TypeId} {size n : Nat} {xs : List Value} (h : Slc w v g e size n xs) (hn : 0 < n) :
    ∃ cap, v = .slice (some ⟨g, 0, none⟩) n cap ∧ (∀ j, j < n * size → w.cell? ⟨g, j, none⟩ = xs[j]?) ∧ (∀ j, w.frozen? ⟨g, j, none⟩ = false) := by
  obtain ⟨g', cap, hv, _, _⟩ := h.own.form hn
  have : g' = g := by
    rcases h.blk with hb | hb
    · rw [hv] at hb; cases hb
    · rw [hv] at hb; injection hb
  subst this
  have ho := h.own
  subst hv
  exact ⟨cap, rfl, fun j hj => ho.cellAt j hj, fun j => ho.frozenAt j⟩
theorem pair_set (ms : List Mo) (i : Nat) (m : Mo) (hi : i < ms.length) : ((ms.flatMap moL).set (i * 2) (.int .i64 m.1)).set (i * 2 + 1) (.int .i64 (m.2 : Int)) = (ms.set i m).flatMap moL := by
  apply List.ext_getElem?
  intro k
  have hk : k = k / 2 * 2 + k % 2 := by omega
  have h2 : k % 2 < 2 := Nat.mod_lt _ (by omega)
  have hl := flat_len moL_len ms
  rw [List.getElem?_set, List.getElem?_set, List.length_set, hl]
  have e1 : (ms.flatMap moL)[k]? = (ms[k / 2]?).bind fun a => (moL a)[k % 2]? := by
    conv => lhs; rw [hk]
    exact flat_get moL_len ms (k / 2) (k % 2) h2
  have e2 : ((ms.set i m).flatMap moL)[k]? = ((ms.set i m)[k / 2]?).bind fun a => (moL a)[k % 2]? := by
    conv => lhs; rw [hk]
    exact flat_get moL_len _ (k / 2) (k % 2) h2
  rw [e1, e2, List.getElem?_set]
  by_cases hq : i = k / 2
  · subst hq
    rw [if_pos rfl, if_pos hi]
    by_cases h0 : k % 2 = 0
    · rw [if_neg (by omega), if_pos (by omega), if_pos (by omega), h0]
      rfl
    · have h1 : k % 2 = 1 := by omega
      rw [if_pos (by omega), if_pos (by omega), h1]
      rfl
  · rw [if_neg (by omega), if_neg (by omega), if_neg hq]
/-- A moment is written. -/
theorem Plan.setMo {w : World} {b jb mb : Nat} {js : List Jb} {ms : List Mo} {now : Int} (h : Plan w b jb mb js ms now) (i : Nat) (m : Mo) (hi : i < ms.length) (hm : m.2 < js.length) :
    Plan ((w.setCell ⟨mb, i * 2, none⟩ (.int .i64 m.1)).setCell ⟨mb, i * 2 + 1, none⟩ (.int .i64 (m.2 : Int))) b jb mb js (ms.set i m) now := by
  obtain ⟨jv, mv, hb, hj, hmm⟩ := h.blk
  obtain ⟨cap, rfl, _, _⟩ := hmm.form (by omega)
  refine ⟨⟨jv, .slice (some ⟨mb, 0, none⟩) ms.length cap, ?_, hj.kept ?_, ?_⟩, ?_, h.sep⟩
  · rw [heap_setCell_ne (h.bm (by omega)), heap_setCell_ne (h.bm (by omega))]; exact hb
  · rw [heap_setCell_ne (h.jm (by omega)), heap_setCell_ne (h.jm (by omega))]
  · rw [List.length_set]
    have h1 := ((hmm.own.stored (i * 2) (.int .i64 m.1)).1.stored (i * 2 + 1) (.int .i64 (m.2 : Int))).1
    rw [pair_set ms i m hi] at h1
    exact ⟨h1, .inr rfl⟩
  · intro x hx
    rcases List.mem_or_eq_of_mem_set hx with hx | rfl
    · exact h.jlt x hx
    · exact hm
end Go.Proofs.Ytmkbkjnpgdpffaa
