/- The program's flash and the document's side by side, with a call's parameter in memory. Conditions: numbers are of their kinds, texts are within the reach of memory. -/
import Derived.Test.YtngmnceahhlpkaaClears
namespace Go.Proofs.Ytngmnceahhlpkaa
open Go.RowKit

structure Scene (w W : World) (b r c : Nat) (J : Option Nat) (f x : Fl) (p : Nat) (o : Obj) : Prop where
  held : Held w W b J f
  ref : RAt W r c x
  rn : w.heap.size ≤ r
  cn : w.heap.size ≤ c
  br : b ≠ r
  bc : b ≠ c
  jr : ∀ g, J = some g → g ≠ r ∧ g ≠ c ∧ w.heap.size ≤ g ∧ g ≠ b
  box : W.heap[p]? = some o
  pb : p ≠ b
  pr : p ≠ r
  pc : p ≠ c
theorem Pair.scene {w W : World} {b r c : Nat} {J : Option Nat} {f : Fl} (h : Pair w W b r c J f) (o : Obj) : Scene w (W.alloc o) b r c J f f W.heap.size o :=
  ⟨h.held.keep (below_alloc1 _ _), h.ref.wrote (Wrote.of_below (below_alloc1 _ _) (fun _ => False)) (by simp) (by simp), h.rn, h.cn, h.br, h.bc, h.Jr, heap_alloc_new _ _, by have := h.held.at_.lt; omega, by have := h.ref.lt; omega, by have := h.ref.rlt; omega⟩
theorem Scene.pair {w W : World} {b r c p : Nat} {J : Option Nat} {f : Fl} {o : Obj} (h : Scene w W b r c J f f p o) : Pair w W b r c J f :=
  ⟨h.held, h.ref, h.rn, h.cn, h.br, h.bc, h.jr⟩
theorem Scene.keep {w W V : World} {b r c p : Nat} {J : Option Nat} {f x : Fl} {o : Obj} (h : Scene w W b r c J f x p o) (hb : Below W.heap.size W V) : Scene w V b r c J f x p o :=
  ⟨h.held.keep hb, h.ref.wrote (Wrote.of_below hb (fun _ => False)) (by simp) (by simp), h.rn, h.cn, h.br, h.bc, h.jr, (hb.block p (lt_of_at h.box)).trans h.box, h.pb, h.pr, h.pc⟩
theorem Scene.drewN {w W : World} {b r c p : Nat} {J : Option Nat} {f x : Fl} {o : Obj} (h : Scene w W b r c J f x p o) (n : Nat) : Scene w (W.drewN n) b r c J f x p o := h.keep ⟨rfl, rfl, rfl, Nat.le_refl _, fun _ _ => rfl⟩
theorem Scene.mine {w W V : World} {b r c p : Nat} {J J' : Option Nat} {f f' x : Fl} {o : Obj} (h : Scene w W b r c J f x p o) (ha : At V b J' f') (hg : W.grownBy V (some b)) (hj : J' = J ∨ J' = some W.heap.size) : Scene w V b r c J' f' x p o := by
  have hw := Wrote.of_grown hg
  refine ⟨h.held.next ha hg, h.ref.wrote hw (Ne.symm h.br) (Ne.symm h.bc), h.rn, h.cn, h.br, h.bc, ?_, (hw.block p (lt_of_at h.box) h.pb).trans h.box, h.pb, h.pr, h.pc⟩
  rcases hj with rfl | rfl
  · exact h.jr
  · intro g hg
    injection hg with hg
    subst hg
    have h1 := h.ref.lt
    have h2 := h.ref.rlt
    have h3 := h.held.below.size
    have h4 := h.held.at_.lt
    omega
theorem Scene.theirs {w W V : World} {b r c p : Nat} {J : Option Nat} {f x x' : Fl} {o : Obj} (h : Scene w W b r c J f x p o) (ha : RAt V r c x') (hw : Wrote W V (fun k => k = r ∨ k = c)) : Scene w V b r c J f x' p o := by
  have hb := h.br
  have hc := h.bc
  refine ⟨⟨h.held.at_.wrote hw (by omega) (fun g hg => ?_), Wrote.below h.held.below hw (fun i hi => ?_), h.held.new⟩, ha, h.rn, h.cn, h.br, h.bc, h.jr, (hw.block p (lt_of_at h.box) (by have := h.pr; have := h.pc; omega)).trans h.box, h.pb, h.pr, h.pc⟩
  · have := h.jr g hg
    omega
  · have := h.rn
    have := h.cn
    omega

section
variable {w W : World} {b r c p : Nat} {J : Option Nat} {f x : Fl} {o : Obj} (h : Scene w W b r c J f x p o)
include h
theorem program_mine (a : Int) (s : ByteArray) : Calls Try.prog 18 #[.pointer (some ⟨b, 0, none⟩), .int .i64 a, .string s] W fun e w' => e = .returned (.int .i64 (f.program a (bytes s)).2) ∧ Scene w w' b r c J (f.program a (bytes s)).1 x p o := by
  refine (program_any b J f a s W h.held.at_).mono ?_
  rintro e w' ⟨rfl, h1, h2⟩
  exact ⟨rfl, h.mine h1 h2 (.inl rfl)⟩
theorem program_theirs (a : Int) (s : ByteArray) : Calls Try.prog 45 #[.pointer (some ⟨r, 0, none⟩), .int .i64 a, .string s] W fun e w' => e = .returned (.int .i64 (x.program a (bytes s)).2) ∧ Scene w w' b r c J f (x.program a (bytes s)).1 p o := by
  refine (rprogram_any r c x a s W h.ref).mono ?_
  rintro e w' ⟨rfl, h1, h2⟩
  exact ⟨rfl, h.theirs h1 h2⟩
theorem erase_mine (a : Int) : Calls Try.prog 21 #[.pointer (some ⟨b, 0, none⟩), .int .i64 a] W fun e w' => e = .returned (.int .i64 (f.erase a).2) ∧ Scene w w' b r c J (f.erase a).1 x p o := by
  refine (erase_any b J f a W h.held.at_).mono ?_
  rintro e w' ⟨rfl, h1, h2⟩
  exact ⟨rfl, h.mine h1 h2 (.inl rfl)⟩
theorem erase_theirs (a : Int) : Calls Try.prog 46 #[.pointer (some ⟨r, 0, none⟩), .int .i64 a] W fun e w' => e = .returned (.int .i64 (x.erase a).2) ∧ Scene w w' b r c J f (x.erase a).1 p o := by
  refine (rerase_any r c x a W h.ref).mono ?_
  rintro e w' ⟨rfl, h1, h2⟩
  exact ⟨rfl, h.theirs h1 h2⟩
theorem cut_mine (a : Int) (s : ByteArray) (hi : a ≤ 9223372036854775807) (hs : s.size ≤ 140737488351232) :
    Calls Try.prog 22 #[.pointer (some ⟨b, 0, none⟩), .int .i64 a, .string s] W fun e w' => e = .returned (.int .i64 (f.cut a (bytes s)).2) ∧ ∃ J', Scene w w' b r c J' (f.cut a (bytes s)).1 x p o := by
  refine (cut_any b J f a s W h.held.at_ hi hs).mono ?_
  rintro e w' ⟨rfl, ⟨J', h1, h3⟩, h2⟩
  exact ⟨rfl, J', h.mine h1 h2 h3⟩
theorem cut_theirs (a : Int) (s : ByteArray) (hi : a ≤ 9223372036854775807) (hs : s.size ≤ 140737488351232) :
    Calls Try.prog 47 #[.pointer (some ⟨r, 0, none⟩), .int .i64 a, .string s] W fun e w' => e = .returned (.int .i64 (x.cut a (bytes s)).2) ∧ Scene w w' b r c J f (x.cut a (bytes s)).1 p o := by
  refine (rcut_any r c x a s W h.ref hi hs).mono ?_
  rintro e w' ⟨rfl, h1, h2⟩
  exact ⟨rfl, h.theirs h1 h2⟩
theorem on_mine : Calls Try.prog 23 #[.pointer (some ⟨b, 0, none⟩)] W fun e w' => e = .returned (.tuple #[]) ∧ Scene w w' b r c J f.on x p o := by
  refine (on_any b J f W h.held.at_).mono ?_
  rintro e w' ⟨rfl, h1, h2⟩
  exact ⟨rfl, h.mine h1 h2 (.inl rfl)⟩
theorem on_theirs : Calls Try.prog 48 #[.pointer (some ⟨r, 0, none⟩)] W fun e w' => e = .returned (.tuple #[]) ∧ Scene w w' b r c J f x.on p o := by
  refine (ron_any r c x W h.ref).mono ?_
  rintro e w' ⟨rfl, h1, h2⟩
  exact ⟨rfl, h.theirs h1 h2⟩
end

/-! ### which -/
def callO (z a n : Int) (s : ByteArray) : Obj := .cells #[.int .i64 z, .int .i64 a, .int .i64 n, .string s] 39
theorem which_any (z a n : Int) (s : ByteArray) (w : World) :
    Calls Try.prog 44 #[.agg #[.int .i64 z, .int .i64 a, .int .i64 n, .string s]] w fun e w' => e = .returned (.int .i64 (z % 6)) ∧ Below w.heap.size w w' := by
  have HB := Lib.hid (below_alloc1 w (callO z a n s))
  have ht : z.tmod 6 = z % 6 - if 0 ≤ z ∨ (6 : Int) ∣ z then 0 else 6 := by
    have := Int.tmod_eq_emod (a := z) (b := 6)
    rw [this]
    split <;> rfl
  by_cases hn : z.tmod 6 < 0
  · have HE : Hid (z.tmod 6 + 6 = z % 6) := by
      unfold Hid
      split at ht <;> omega
    have hlo : -6 < z.tmod 6 := by split at ht <;> omega
    clear ht
    go_enter Try.func44, Try.ntmps44
    go_wp2_with fail
    go_ret
    exact ⟨ret_int HE.out, HB.out⟩
  · have HE : Hid (z.tmod 6 = z % 6) := by
      unfold Hid
      split at ht <;> omega
    clear ht
    go_enter Try.func44, Try.ntmps44
    go_wp2_with fail
    go_ret
    exact ⟨ret_int HE.out, HB.out⟩
end Go.Proofs.Ytngmnceahhlpkaa
