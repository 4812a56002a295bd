/- A map of numbers as a function: made, looked up, written, struck. No condition but room. -/
import Derived.Test.YtkgenhoaeiihoaaBase
import Derived.Maps.OwnOps
import Derived.Maps.OwnSet
namespace Go.Proofs.Ytkgenhoaeiihoaa
open Go.RowKit Go.Maps

theorem law3 : Keyed Try.prog 3 := int_keyed Try.underlying3
theorem zero3 (w : World) : (zeroValue 3).run Try.prog w = .ok (.int .i64 0) w := by kernel_rfl
theorem small_wf (i : Nat) (h : i ≤ 64) : (Lit.int .i64 (i : Int)).wf = true := by
  simp only [Lit.wf, IntKind.min, IntKind.max, IntKind.signed, IntKind.bits, Bool.and_eq_true, decide_eq_true_eq, if_true]
  omega
theorem c_wf {c : Int} (h : -9223372036854775808 ≤ c ∧ c ≤ 9223372036854775807) : (Lit.int .i64 c).wf = true := by
  simp only [Lit.wf, IntKind.min, IntKind.max, IntKind.signed, IntKind.bits, Bool.and_eq_true, decide_eq_true_eq, if_true]
  omega
theorem key_of (i : Nat) (h : i ≤ 64) : keyOf Try.prog 3 (.int .i64 (i : Int)) = some (.int .i64 (i : Int)) := keyOf_int_mk Try.underlying3 (small_wf i h)
def MapAs (w : World) (b n : Nat) (f : Nat → Int) : Prop :=
  ∃ D : DataW Unit, w.ownsMap Try.prog 3 (plainElem Try.prog 3) b n D ∧ IsMap D ∧ ∀ i : Nat, i ≤ 64 → D.atKey (.int .i64 (i : Int)) (.lit (.int .i64 0)) = .lit (.int .i64 (f i))
def upd (f : Nat → Int) (i : Nat) (v : Int) : Nat → Int := fun j => if j = i then v else f j
theorem mapAs_made (w : World) : MapAs (w.alloc (.map #[] 0)) w.heap.size 0 (fun _ => 0) :=
  ⟨.map [], World.ownsMap_made _ _ _ _, isMap_empty, fun _ _ => rfl⟩
theorem MapAs.kept {w w' : World} {b n : Nat} {f : Nat → Int} (h : MapAs w b n f) {S : Nat → Prop} (hw : Wrote w w' S) (hS : ¬ S b) : MapAs w' b n f := by
  obtain ⟨D, ⟨es, clock, hb, r⟩, h2, h3⟩ := h
  exact ⟨D, ⟨es, clock, (hw.block b (lt_of_at hb) hS).trans hb, r⟩, h2, h3⟩
theorem MapAs.mono {w : World} {b n m : Nat} {f : Nat → Int} (h : MapAs w b n f) (hm : n ≤ m) : MapAs w b m f := by
  obtain ⟨D, h1, h2, h3⟩ := h
  exact ⟨D, h1.mono hm, h2, h3⟩
theorem MapAs.lt {w : World} {b n : Nat} {f : Nat → Int} (h : MapAs w b n f) : b < w.heap.size := by
  obtain ⟨D, h1, _⟩ := h
  exact h1.lt
theorem MapAs.look {w : World} {b n : Nat} {f : Nat → Int} (h : MapAs w b n f) (i : Nat) (hi : i ≤ 64) : (Instr.lookup 68 (.map (some b)) (.int .i64 (i : Int)) false).run Try.prog w = .ok (.int .i64 (f i)) w := by
  obtain ⟨D, h1, h2, h3⟩ := h
  obtain ⟨c, hrun, hat, _⟩ := h1.lookup_int law3 Try.underlying68 Try.underlying3 (zero3 w) (key_of i hi)
  rw [h3 i hi] at hat
  injection hat with hat
  injection hat with _ hat
  rw [hat]
  exact hrun
theorem lit_ne {i j : Nat} (h : j ≠ i) : (Lit.int .i64 (j : Int)) ≠ .int .i64 (i : Int) := by
  intro hh
  injection hh with _ hh
  omega
theorem put_as {w' : World} {b n : Nat} {D : DataW Unit} {f : Nat → Int} {i : Nat} {v : Int} (h2 : IsMap D) (h3 : ∀ i : Nat, i ≤ 64 → D.atKey (.int .i64 (i : Int)) (.lit (.int .i64 0)) = .lit (.int .i64 (f i))) (hi : i ≤ 64)
    (h : w'.ownsMap Try.prog 3 (plainElem Try.prog 3) b n (D.put (.int .i64 (i : Int)) (.lit (.int .i64 v)))) : MapAs w' b n (upd f i v) := by
  refine ⟨_, h, h2.put _ _, fun j hj => ?_⟩
  unfold upd
  by_cases hij : j = i
  · subst hij
    rw [if_pos rfl, atKey_put_same h2 (law3.key (key_of j hj))]
  · rw [if_neg hij, atKey_put_other (lit_ne hij), h3 j hj]
theorem del_as {w' : World} {b n : Nat} {D : DataW Unit} {f : Nat → Int} {i : Nat} (h2 : IsMap D) (h3 : ∀ i : Nat, i ≤ 64 → D.atKey (.int .i64 (i : Int)) (.lit (.int .i64 0)) = .lit (.int .i64 (f i))) (hi : i ≤ 64)
    (h : w'.ownsMap Try.prog 3 (plainElem Try.prog 3) b n (D.del (.int .i64 (i : Int)))) : MapAs w' b n (upd f i 0) := by
  refine ⟨_, h, h2.del _, fun j hj => ?_⟩
  unfold upd
  by_cases hij : j = i
  · subst hij
    rw [if_pos rfl, atKey_del_same]
  · rw [if_neg hij, atKey_del_other (lit_ne hij), h3 j hj]
/-- 'm[k] = v' at the operation. -/
theorem wpList_put_as (w : World) {ops : Array Oper} {rest : List Oper} {o : Oper} {a : Act} {Q : Exit → Act → World → Prop}
    (hg : o.guard = none) (m x v : Operand) (hop : o.op = Op.mapUpdate 68 m x v) {b n : Nat} {f : Nat → Int} (hown : MapAs w b n f) (hm : a.eval m = .map (some b)) (hn : n < maxLen) (i : Nat) (hi : i ≤ 64) (c : Int)
    (hx : a.eval x = .int .i64 (i : Int)) (hv : a.eval v = .int .i64 c) (hc : -9223372036854775808 ≤ c ∧ c ≤ 9223372036854775807)
    (hK : ∀ w', MapAs w' b (n + 1) (upd f i c) → w.grownBy w' (some b) → wpList Try.prog ops Q rest (a.put o.dst undef) w') :
    wpList Try.prog ops Q (o :: rest) a w := by
  obtain ⟨D, h1, h2, h3⟩ := hown
  exact wpList_mapUpdate_own (H := Unit) w hg m x v 68 hop 3 3 law3 Try.underlying68 _ b n D hm h1 hn _ _ _ hx hv (key_of i hi) _ [] (plainElem_int Try.underlying3 (c_wf hc)) fun w' ho hgr => hK w' (put_as h2 h3 hi ho) hgr
/-- 'delete(m, k)' at the operation. -/
theorem wpList_del_as (w : World) {ops : Array Oper} {rest : List Oper} {o : Oper} {a : Act} {Q : Exit → Act → World → Prop}
    (hg : o.guard = none) (m x : Operand) (hop : o.op = Op.call { callee := Callee.builtin Builtin.delete, args := #[m, x], argTypes := #[68, 3] }) {b n : Nat} {f : Nat → Int} (hown : MapAs w b n f) (hm : a.eval m = .map (some b)) (i : Nat) (hi : i ≤ 64)
    (hx : a.eval x = .int .i64 (i : Int))
    (hK : ∀ w', MapAs w' b n (upd f i 0) → w.grownBy w' (some b) → wpList Try.prog ops Q rest (a.put o.dst (.tuple #[])) w') :
    wpList Try.prog ops Q (o :: rest) a w := by
  obtain ⟨D, h1, h2, h3⟩ := hown
  exact wpList_delete_own w hg m x 68 3 hop 3 law3 Try.underlying68 _ b n D hm h1 _ _ hx (key_of i hi) fun w' ho ht => hK w' (del_as h2 h3 hi ho) ht.grown
theorem MapAs.put {w : World} {b n : Nat} {f : Nat → Int} (h : MapAs w b n f) (hn : n < maxLen) (i : Nat) (hi : i ≤ 64) (c : Int) (hc : -9223372036854775808 ≤ c ∧ c ≤ 9223372036854775807) :
    ∃ w', (Instr.mapUpdate 68 (.map (some b)) (.int .i64 (i : Int)) (.int .i64 c)).run Try.prog w = .ok () w' ∧ MapAs w' b (n + 1) (upd f i c) ∧ w.grownBy w' (some b) := by
  obtain ⟨D, h1, h2, h3⟩ := h
  obtain ⟨w', hr, ho, hg⟩ := h1.update law3 Try.underlying68 hn (key_of i hi) (plainElem_int Try.underlying3 (c_wf hc))
  exact ⟨w', hr, put_as h2 h3 hi ho, hg⟩
theorem MapAs.drop {w : World} {b n : Nat} {f : Nat → Int} (h : MapAs w b n f) (i : Nat) (hi : i ≤ 64) (ty : TypeId) :
    ∃ w', (Builtin.delete_ #[68, 3] ty #[.map (some b), .int .i64 (i : Int)]).run Try.prog w = .ok (.tuple #[]) w' ∧ MapAs w' b n (upd f i 0) ∧ w.grownBy w' (some b) := by
  obtain ⟨D, h1, h2, h3⟩ := h
  obtain ⟨w', hr, ho, ht⟩ := h1.drop law3 Try.underlying68 (key_of i hi) ty
  exact ⟨w', hr, del_as h2 h3 hi ho, ht.grown⟩
theorem Wrote.grown {w w1 w2 : World} {S : Nat → Prop} (h : Wrote w w1 S) {b : Nat} (hb : S b) (hg : w1.grownBy w2 (some b)) : Wrote w w2 S := by
  obtain ⟨h1, h2, h3, h4, h5⟩ := hg
  refine ⟨h1.trans h.os, h2.trans h.tape, h3.trans h.output, Nat.le_trans h.size h4, fun k hk hn => ?_⟩
  rw [h5 k (Nat.lt_of_lt_of_le hk h.size) (fun e => hn (by injection e with e; rw [e]; exact hb))]
  exact h.block k hk hn
end Go.Proofs.Ytkgenhoaeiihoaa
