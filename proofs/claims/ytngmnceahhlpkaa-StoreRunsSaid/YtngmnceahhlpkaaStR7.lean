/- The program's store and the document's side by side, on their flashes: booting both. Conditions: numbers are of their kinds. -/
import Derived.Test.YtngmnceahhlpkaaStR6
import Derived.Test.YtngmnceahhlpkaaSP5
import Derived.Test.YtngmnceahhlpkaaDoes
namespace Go.Proofs.Ytngmnceahhlpkaa
open Go.RowKit
def pairO (b : Nat) (vs : Value) (r : Nat) (vt : Value) : Obj := .cells #[.pointer (some ⟨b, 0, none⟩), vs, .pointer (some ⟨r, 0, none⟩), vt] 76
def callP (z a : Int) (s : ByteArray) : Obj := .cells #[.int .i64 z, .int .i64 a, .string s] 81
theorem ne_type {W : World} {i j : Nat} {a b : Array Value} {s t : TypeId} {fa fb : Nat × Nat} (h : W.heap[i]? = some (.cells a s fa)) (g : W.heap[j]? = some (.cells b t fb)) (hn : s ≠ t) : i ≠ j := by
  rintro rfl
  rw [h] at g
  injection g with g
  injection g with _ g
  exact hn g
section
variable {w W V : World} {b r c q : Nat} {J J' : Option Nat} {f f' x x' : Fl} {o : Obj}
theorem Scene.off_ty (h : Scene w W b r c J f x q o) {p : Nat} {cs : Array Value} {t : TypeId} (hp : W.heap[p]? = some (.cells cs t)) (h1 : t ≠ 91) (h2 : t ≠ 5) (h3 : t ≠ 97) : p ≠ b ∧ p ≠ r ∧ p ≠ c ∧ J ≠ some p :=
  ⟨(h.held.at_.ne_of hp h1 h2).1.symm, (h.ref.ne_of hp h3 h2).1, (h.ref.ne_of hp h3 h2).2, (h.held.at_.ne_of hp h1 h2).2⟩
theorem Scene.put {cs : Array Value} {t : TypeId} (h : Scene w W b r c J f x q (.cells cs t)) (hq : w.heap.size ≤ q) (h1 : t ≠ 91) (h2 : t ≠ 5) (h3 : t ≠ 97) (i : Nat) (v : Value) :
    Scene w (W.setCell ⟨q, i, none⟩ v) b r c J f x q (.cells (cs.setIfInBounds i v) t) := by
  obtain ⟨n1, n2, n3, n4⟩ := h.off_ty h.box h1 h2 h3
  have hw : Wrote W (W.setCell ⟨q, i, none⟩ v) (fun k => k = q) := Wrote.set (S := fun k => k = q) (b := q) (Wrote.refl W _) rfl i v
  refine ⟨⟨h.held.at_.wrote hw (fun e => n1 e.symm) (fun g hg e => n4 (hg.trans (congrArg some e))), Wrote.below h.held.below hw (fun i hi => by omega), h.held.new⟩, h.ref.wrote hw (fun e => n2 e.symm) (fun e => n3 e.symm), h.rn, h.cn, h.br, h.bc, h.jr, heap_setCell_at h.box i v, h.pb, h.pr, h.pc⟩
/-- Booting, the program's. -/
theorem boot_mine (h : Scene w W b r c J f x q o) {s : St} (hr : St.boot f = (f', some s, 0)) :
    Calls Try.prog 29 #[.pointer (some ⟨b, 0, none⟩)] W fun e w' => ∃ u, e = .returned (.tuple #[.pointer (some ⟨u, 0, none⟩), .int .i64 0]) ∧ Scene w w' b r c J f' x q o ∧ StAt w' u b s ∧ w.heap.size ≤ u := by
  refine (boot_any W b J f h.held.at_).mono ?_
  rintro e w' ⟨h1, h2, h3⟩
  rw [hr] at h1 h3
  rcases h3 with ⟨_, sb, s2, h4, h5, h6, h7⟩ | ⟨h4, _⟩
  · have h4 : some s = some s2 := h4
    injection h4 with h4
    subst h4
    exact ⟨sb, h5, h.mine h1 h2 (.inl rfl), h7, Nat.le_trans h.held.below.size h6⟩
  · exact absurd rfl h4
theorem boot_mine_no (h : Scene w W b r c J f x q o) (hr : St.boot f = (f', none, 60)) :
    Calls Try.prog 29 #[.pointer (some ⟨b, 0, none⟩)] W fun e w' => e = .returned (.tuple #[.pointer none, .int .i64 60]) ∧ Scene w w' b r c J f' x q o := by
  refine (boot_any W b J f h.held.at_).mono ?_
  rintro e w' ⟨h1, h2, h3⟩
  rw [hr] at h1 h3
  rcases h3 with ⟨h4, _⟩ | ⟨_, _, h5⟩
  · exact absurd (show (60 : Int) = 0 from h4) (by decide)
  · exact ⟨h5, h.mine h1 h2 (.inl rfl)⟩
theorem boot_theirs (h : Scene w W b r c J f x q o) {s t : St} {u : Nat} (hs : StAt W u b t) (hr : St.boot x = (x', some s, 0)) :
    Calls Try.prog 58 #[.pointer (some ⟨r, 0, none⟩)] W fun e w' => ∃ v, e = .returned (.tuple #[.pointer (some ⟨v, 0, none⟩), .int .i64 0]) ∧ Scene w w' b r c J f x' q o ∧ StAt w' u b t ∧ RStAt w' v r s false ∧ w.heap.size ≤ v := by
  obtain ⟨_, n2, n3, _⟩ := h.off_ty hs.blk (by decide) (by decide) (by decide)
  refine (rboot_any W r c x h.ref).mono ?_
  rintro e w' ⟨h1, h2, h3⟩
  rw [hr] at h1 h3
  rcases h3 with ⟨_, sb, s2, h4, h5, h6, h7⟩ | ⟨h4, _⟩
  · have h4 : some s = some s2 := h4
    injection h4 with h4
    subst h4
    exact ⟨sb, h5, h.theirs h1 h2, hs.kept (h2.block u hs.lt (fun e => e.elim n2 n3)), h7, Nat.le_trans h.held.below.size h6⟩
  · exact absurd rfl h4
theorem boot_theirs_no (h : Scene w W b r c J f x q o) (hr : St.boot x = (x', none, 60)) :
    Calls Try.prog 58 #[.pointer (some ⟨r, 0, none⟩)] W fun e w' => e = .returned (.tuple #[.pointer none, .int .i64 60]) ∧ Scene w w' b r c J f x' q o := by
  refine (rboot_any W r c x h.ref).mono ?_
  rintro e w' ⟨h1, h2, h3⟩
  rw [hr] at h1 h3
  rcases h3 with ⟨h4, _⟩ | ⟨_, _, h5⟩
  · exact absurd (show (60 : Int) = 0 from h4) (by decide)
  · exact ⟨h5, h.theirs h1 h2⟩
end
/-- A store that goes on: it stands, or it lies on a flash that has power. -/
def Live (f : Fl) (s : St) : Prop := s.stands = true ∨ (Inv f s ∧ f.off = false ∧ s.stands = false)
def Sto (w W : World) (b r : Nat) (f : Fl) (vs vt : Value) : Prop :=
  (vs = .pointer none ∧ vt = .pointer none) ∨ ∃ u v s, vs = .pointer (some ⟨u, 0, none⟩) ∧ vt = .pointer (some ⟨v, 0, none⟩) ∧ StAt W u b s ∧ RStAt W v r s false ∧ w.heap.size ≤ u ∧ w.heap.size ≤ v ∧ Live f s
/-- A pair: both flashes alike, both stores alike. -/
def PS (w W : World) (b r c q : Nat) : Prop := ∃ J f vs vt, Scene w W b r c J f f q (pairO b vs r vt) ∧ Sto w W b r f vs vt
theorem pair_cells {w W : World} {b r c q : Nat} {J : Option Nat} {f x : Fl} {vs vt : Value} (h : Scene w W b r c J f x q (pairO b vs r vt)) :
    W.cell? ⟨q, 0, none⟩ = some (.pointer (some ⟨b, 0, none⟩)) ∧ W.cell? ⟨q, 1, none⟩ = some vs ∧ W.cell? ⟨q, 2, none⟩ = some (.pointer (some ⟨r, 0, none⟩)) ∧ W.cell? ⟨q, 3, none⟩ = some vt :=
  ⟨cell_at h.box 0, cell_at h.box 1, cell_at h.box 2, cell_at h.box 3⟩
theorem pair_free {w W : World} {b r c q : Nat} {J : Option Nat} {f x : Fl} {vs vt : Value} (h : Scene w W b r c J f x q (pairO b vs r vt)) :
    W.frozen? ⟨q, 1, none⟩ = false ∧ W.frozen? ⟨q, 3, none⟩ = false := ⟨free_at h.box 1, free_at h.box 3⟩
theorem Scene.both {w W : World} {b r c q : Nat} {J : Option Nat} {f x : Fl} {vs vt : Value} (h : Scene w W b r c J f x q (pairO b vs r vt)) (hq : w.heap.size ≤ q) (v1 v3 : Value) :
    Scene w ((W.setCell ⟨q, 1, none⟩ v1).setCell ⟨q, 3, none⟩ v3) b r c J f x q (pairO b v1 r v3) :=
  (h.put hq (by decide) (by decide) (by decide) 1 v1).put hq (by decide) (by decide) (by decide) 3 v3
theorem both_kept {W : World} {q u : Nat} {cs ds : Array Value} {t : TypeId} (h : W.heap[u]? = some (.cells cs t)) (g : W.heap[q]? = some (.cells ds 76)) (ht : t ≠ 76) (v1 v3 : Value) :
    ((W.setCell ⟨q, 1, none⟩ v1).setCell ⟨q, 3, none⟩ v3).heap[u]? = W.heap[u]? := by
  have hn := ne_type h g ht
  rw [heap_setCell_ne hn, heap_setCell_ne hn]
set_option maxRecDepth 100000 in
set_option maxHeartbeats 1000000 in
theorem pboot_any (w W : World) (b r c q : Nat) (J : Option Nat) (f : Fl) (vs vt : Value) (h : Scene w W b r c J f f q (pairO b vs r vt)) (hq : w.heap.size ≤ q) :
    Calls Try.prog 36 #[.pointer (some ⟨q, 0, none⟩)] W fun e w' => e = .returned (.bool true) ∧ PS w w' b r c q := by
  have H0 := Lib.hid h
  have HQ := Lib.hid hq
  obtain ⟨f', o, rr, hb, ho⟩ := boot_out (h.held.at_.ok.on) (f := f.on) rfl
  clear h hq
  rcases ho with ⟨rfl, s, rfl, hst, hi, hoff, _⟩ | ⟨rfl, rfl, _, hoff, _⟩
  · have HL : Hid (Live f' s) := .inr ⟨hi, hoff, hst⟩
    have HA : Hid (∀ W, Scene w W b r c J f.on f.on q (pairO b vs r vt) → Calls Try.prog 29 #[.pointer (some ⟨b, 0, none⟩)] W fun e w' => ∃ u, e = .returned (.tuple #[.pointer (some ⟨u, 0, none⟩), .int .i64 0]) ∧ Scene w w' b r c J f' f.on q (pairO b vs r vt) ∧ StAt w' u b s ∧ w.heap.size ≤ u) := fun W h => boot_mine h hb
    have HB : Hid (∀ W u, Scene w W b r c J f' f.on q (pairO b vs r vt) → StAt W u b s → Calls Try.prog 58 #[.pointer (some ⟨r, 0, none⟩)] W fun e w' => ∃ v, e = .returned (.tuple #[.pointer (some ⟨v, 0, none⟩), .int .i64 0]) ∧ Scene w w' b r c J f' f' q (pairO b vs r vt) ∧ StAt w' u b s ∧ RStAt w' v r s false ∧ w.heap.size ≤ v) := fun W u h hs => boot_theirs h hs hb
    clear hb hst hi hoff
    obtain ⟨c0, c1, c2, c3⟩ := pair_cells H0.out
    go_enter Try.func36, Try.ntmps36
    go_wp2_with fail
    refine (on_mine H0.out).mono ?_
    rintro e w1 ⟨rfl, h1⟩
    have H1 := Lib.hid h1
    clear h1 H0 c0 c1 c2 c3
    obtain ⟨c0, c1, c2, c3⟩ := pair_cells H1.out
    go_wp2_with fail
    refine (on_theirs H1.out).mono ?_
    rintro e w2 ⟨rfl, h2⟩
    have H2 := Lib.hid h2
    clear h2 H1 c0 c1 c2 c3
    obtain ⟨c0, c1, c2, c3⟩ := pair_cells H2.out
    go_wp2_with fail
    refine (HA.out _ H2.out).mono ?_
    rintro e w3 ⟨u, rfl, h3, s3, n3⟩
    have H3 := Lib.hid h3
    have HS3 := Lib.hid s3
    have HN3 := Lib.hid n3
    clear h3 s3 n3 H2 c0 c1 c2 c3
    obtain ⟨c0, c1, c2, c3⟩ := pair_cells H3.out
    go_wp2_with fail
    refine (HB.out _ u H3.out HS3.out).mono ?_
    rintro e w4 ⟨v, rfl, h4, s4, t4, n4⟩
    have H4 := Lib.hid h4
    have HS4 := Lib.hid s4
    have HT4 := Lib.hid t4
    have HN4 := Lib.hid n4
    clear h4 s4 t4 n4 H3 HS3 HA HB c0 c1 c2 c3
    obtain ⟨c0, c1, c2, c3⟩ := pair_cells H4.out
    obtain ⟨g1, g3⟩ := pair_free H4.out
    have HF : Hid (PS w ((w4.setCell ⟨q, 1, none⟩ (.pointer (some ⟨u, 0, none⟩))).setCell ⟨q, 3, none⟩ (.pointer (some ⟨v, 0, none⟩))) b r c q) :=
      ⟨J, f', _, _, H4.out.both HQ.out _ _, .inr ⟨u, v, s, rfl, rfl, HS4.out.kept (both_kept HS4.out.blk H4.out.box (by decide) _ _), HT4.out.kept (both_kept HT4.out.blk H4.out.box (by decide) _ _), HN3.out, HN4.out, HL.out⟩⟩
    clear H4 HS4 HT4 HN3 HN4 HL HQ
    go_wp2_with fail
    go_ret
    exact ⟨rfl, HF.out⟩
  · have HA : Hid (∀ W, Scene w W b r c J f.on f.on q (pairO b vs r vt) → Calls Try.prog 29 #[.pointer (some ⟨b, 0, none⟩)] W fun e w' => e = .returned (.tuple #[.pointer none, .int .i64 60]) ∧ Scene w w' b r c J f' f.on q (pairO b vs r vt)) := fun W h => boot_mine_no h hb
    have HB : Hid (∀ W, Scene w W b r c J f' f.on q (pairO b vs r vt) → Calls Try.prog 58 #[.pointer (some ⟨r, 0, none⟩)] W fun e w' => e = .returned (.tuple #[.pointer none, .int .i64 60]) ∧ Scene w w' b r c J f' f' q (pairO b vs r vt)) := fun W h => boot_theirs_no h hb
    clear hb hoff
    obtain ⟨c0, c1, c2, c3⟩ := pair_cells H0.out
    go_enter Try.func36, Try.ntmps36
    go_wp2_with fail
    refine (on_mine H0.out).mono ?_
    rintro e w1 ⟨rfl, h1⟩
    have H1 := Lib.hid h1
    clear h1 H0 c0 c1 c2 c3
    obtain ⟨c0, c1, c2, c3⟩ := pair_cells H1.out
    go_wp2_with fail
    refine (on_theirs H1.out).mono ?_
    rintro e w2 ⟨rfl, h2⟩
    have H2 := Lib.hid h2
    clear h2 H1 c0 c1 c2 c3
    obtain ⟨c0, c1, c2, c3⟩ := pair_cells H2.out
    go_wp2_with fail
    refine (HA.out _ H2.out).mono ?_
    rintro e w3 ⟨rfl, h3⟩
    have H3 := Lib.hid h3
    clear h3 H2 c0 c1 c2 c3
    obtain ⟨c0, c1, c2, c3⟩ := pair_cells H3.out
    go_wp2_with fail
    refine (HB.out _ H3.out).mono ?_
    rintro e w4 ⟨rfl, h4⟩
    have H4 := Lib.hid h4
    clear h4 H3 HA HB c0 c1 c2 c3
    obtain ⟨c0, c1, c2, c3⟩ := pair_cells H4.out
    obtain ⟨g1, g3⟩ := pair_free H4.out
    have HF : Hid (PS w ((w4.setCell ⟨q, 1, none⟩ (.pointer none)).setCell ⟨q, 3, none⟩ (.pointer none)) b r c q) :=
      ⟨J, f', _, _, H4.out.both HQ.out _ _, .inl ⟨rfl, rfl⟩⟩
    clear H4 HQ
    go_wp2_with fail
    go_ret
    exact ⟨rfl, HF.out⟩
end Go.Proofs.Ytngmnceahhlpkaa
