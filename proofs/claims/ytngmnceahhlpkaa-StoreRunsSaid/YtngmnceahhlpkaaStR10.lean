/- What a put and a get of a script do to a pair: both answer alike and go on alike. Conditions: numbers are of their kinds, texts are within the reach of memory. -/
import Derived.Test.YtngmnceahhlpkaaStR9
namespace Go.Proofs.Ytngmnceahhlpkaa
open Go.RowKit
theorem put_stood {f f' : Fl} {s s' : St} {id : Int} {t : ByteArray} (h : St.put f s id t = (f', s', 60)) : s'.stands = true := by
  unfold St.put at h
  split at h
  · rename_i hs
    have h2 : s = s' := congrArg (fun p => p.2.1) h
    rw [← h2]
    exact hs
  · split at h
    · exact absurd (congrArg (fun p => p.2.2) h) (by show ¬ (1 : Int) = 60; decide)
    · dsimp only at h
      split at h
      · exact absurd (congrArg (fun p => p.2.2) h) (by show ¬ (70 : Int) = 60; decide)
      · split at h
        · split at h
          · exact absurd (congrArg (fun p => p.2.2) h) (by show ¬ (0 : Int) = 60; decide)
          · have h2 := congrArg (fun p => p.2.1.stands) h
            exact h2.symm
        · split at h
          · exact absurd (congrArg (fun p => p.2.2) h) (by show ¬ (0 : Int) = 60; decide)
          · have h2 := congrArg (fun p => p.2.1.stands) h
            exact h2.symm
theorem Live.put {f f' : Fl} {s s' : St} {id : Int} {t : ByteArray} {k : Int} (h : Live f s) (hp : St.put f s id t = (f', s', k)) : Live f' s' := by
  cases hst : s.stands with
  | true =>
    rw [put_stands hst] at hp
    have h1 : f = f' := congrArg (fun p => p.1) hp
    have h2 : s = s' := congrArg (fun p => p.2.1) hp
    rw [← h1, ← h2]
    exact h
  | false =>
    rcases h with h | ⟨hi, ho, _⟩
    · rw [hst] at h
      cases h
    · obtain ⟨f2, s2, r, he, hout⟩ := put_out hi ho hst id t
      rw [he] at hp
      have e1 : f2 = f' := congrArg (fun p => p.1) hp
      have e2 : s2 = s' := congrArg (fun p => p.2.1) hp
      subst e1 e2
      rcases hout with ⟨_, _, rfl, rfl⟩ | ⟨_, _, _, ⟨_, _, rfl, rfl⟩ | ⟨_, _, h1, _, h2, h3, _⟩ | ⟨_, rfl, _⟩⟩
      · exact .inr ⟨hi, ho, hst⟩
      · exact .inr ⟨hi, ho, hst⟩
      · exact .inr ⟨h2, h1, h3⟩
      · exact .inl (put_stood he)
theorem Live.code {f : Fl} {s : St} (h : Live f s) (hst : s.stands = false) : f.cell.getD (s.act * 4096) 0 = s.code ∧ (St.fol s.code).isSome = true := by
  rcases h with h | ⟨hi, _, _⟩
  · rw [hst] at h
    cases h
  · exact ⟨hi.code, hi.rob.1⟩
/-- The pair, both stores and the call's parameter. -/
structure Quad (w W : World) (b r c : Nat) (J : Option Nat) (f x : Fl) (q u v : Nat) (s s' : St) (p : Nat) (z a : Int) (t : ByteArray) : Prop where
  sc : Scene w W b r c J f x q (pairO b (.pointer (some ⟨u, 0, none⟩)) r (.pointer (some ⟨v, 0, none⟩)))
  call : W.heap[p]? = some (callP z a t)
  mine : StAt W u b s
  theirs : RStAt W v r s' false
  un : w.heap.size ≤ u
  vn : w.heap.size ≤ v
section
variable {w W V : World} {b r c q u v p : Nat} {J : Option Nat} {f f' x x' : Fl} {s s2 s' : St} {z a : Int} {t : ByteArray} {k : Int}
theorem Quad.cells (h : Quad w W b r c J f x q u v s s' p z a t) : W.cell? ⟨q, 0, none⟩ = some (.pointer (some ⟨b, 0, none⟩)) ∧ W.cell? ⟨q, 1, none⟩ = some (.pointer (some ⟨u, 0, none⟩)) ∧ W.cell? ⟨q, 2, none⟩ = some (.pointer (some ⟨r, 0, none⟩)) ∧ W.cell? ⟨q, 3, none⟩ = some (.pointer (some ⟨v, 0, none⟩)) ∧
    W.cell? ⟨p, 0, none⟩ = some (.int .i64 z) ∧ W.cell? ⟨p, 1, none⟩ = some (.int .i64 a) ∧ W.cell? ⟨p, 2, none⟩ = some (.string t) :=
  ⟨cell_at h.sc.box 0, cell_at h.sc.box 1, cell_at h.sc.box 2, cell_at h.sc.box 3, cell_at h.call 0, cell_at h.call 1, cell_at h.call 2⟩
theorem Quad.keep (h : Quad w W b r c J f x q u v s s' p z a t) (hb : Below W.heap.size W V) : Quad w V b r c J f x q u v s s' p z a t :=
  ⟨h.sc.keep hb, (hb.block p (lt_of_at h.call)).trans h.call, h.mine.below hb, h.theirs.below hb, h.un, h.vn⟩
theorem Quad.drewN (h : Quad w W b r c J f x q u v s s' p z a t) (n : Nat) : Quad w (W.drewN n) b r c J f x q u v s s' p z a t := h.keep ⟨rfl, rfl, rfl, Nat.le_refl _, fun _ _ => rfl⟩
theorem put_mine (h : Quad w W b r c J f x q u v s s' p z a t) (hp : St.put f s a t = (f', s2, k)) :
    Calls Try.prog 32 #[.pointer (some ⟨u, 0, none⟩), .int .i64 a, .string t] W fun e w' => e = .returned (.int .i64 k) ∧ Quad w w' b r c J f' x q u v s2 s' p z a t := by
  refine (put_any W W b u J f s a t ⟨h.sc.held.at_, h.mine, Wrote.refl _ _⟩).mono ?_
  rintro e w' ⟨h1, h2⟩
  rw [hp] at h1 h2
  have hS := h.sc
  obtain ⟨m1, m2, m3, m4⟩ := hS.off_ty h.mine.blk (by decide) (by decide) (by decide)
  obtain ⟨n1, n2, n3, n4⟩ := hS.off_ty h.call (by decide) (by decide) (by decide)
  obtain ⟨k1, k2, k3, k4⟩ := hS.off_ty h.theirs.blk (by decide) (by decide) (by decide)
  have hbn := hS.held.new
  have hun := h.un
  have huv := ne_type h.mine.blk h.theirs.blk (by decide)
  have hup := ne_type h.mine.blk h.call (by decide)
  have huq := ne_type h.mine.blk hS.box (by decide)
  refine ⟨h1, ⟨⟨h2.fl, Wrote.below hS.held.below h2.wr (fun i hi => ?_), hbn⟩, hS.ref.wrote h2.wr ?_ ?_, hS.rn, hS.cn, hS.br, hS.bc, hS.jr, (h2.wr.block q (lt_of_at hS.box) ?_).trans hS.box, hS.pb, hS.pr, hS.pc⟩, (h2.wr.block p (lt_of_at h.call) ?_).trans h.call, h2.st, h.theirs.kept (h2.wr.block v h.theirs.lt ?_), h.un, h.vn⟩
  · rcases hi with rfl | rfl
    · exact hbn
    · exact hun
  · exact fun e => e.elim (fun e => hS.br e.symm) (fun e => m2 e.symm)
  · exact fun e => e.elim (fun e => hS.bc e.symm) (fun e => m3 e.symm)
  · exact fun e => e.elim hS.pb (fun e => huq e.symm)
  · exact fun e => e.elim n1 (fun e => hup e.symm)
  · exact fun e => e.elim k1 (fun e => huv e.symm)
theorem put_theirs (h : Quad w W b r c J f x q u v s s' p z a t) (hp : St.put x s' a t = (x', s2, k)) (hlive : Live x s') :
    Calls Try.prog 60 #[.pointer (some ⟨v, 0, none⟩), .int .i64 a, .string t] W fun e w' => e = .returned (.int .i64 k) ∧ Quad w w' b r c J f x' q u v s s2 p z a t := by
  refine (rput_any W W r c v x s' a t ⟨h.sc.ref, h.theirs, Wrote.refl _ _⟩ hlive.code).mono ?_
  rintro e w' ⟨h1, h2⟩
  rw [hp] at h1 h2
  have hS := h.sc
  obtain ⟨m1, m2, m3, m4⟩ := hS.off_ty h.mine.blk (by decide) (by decide) (by decide)
  obtain ⟨n1, n2, n3, n4⟩ := hS.off_ty h.call (by decide) (by decide) (by decide)
  obtain ⟨k1, k2, k3, k4⟩ := hS.off_ty h.theirs.blk (by decide) (by decide) (by decide)
  have huv := ne_type h.mine.blk h.theirs.blk (by decide)
  have hvp := ne_type h.theirs.blk h.call (by decide)
  have hvq := ne_type h.theirs.blk hS.box (by decide)
  refine ⟨h1, ⟨⟨hS.held.at_.wrote h2.wr ?_ ?_, Wrote.below hS.held.below h2.wr (fun i hi => ?_), hS.held.new⟩, h2.fl, hS.rn, hS.cn, hS.br, hS.bc, hS.jr, (h2.wr.block q (lt_of_at hS.box) ?_).trans hS.box, hS.pb, hS.pr, hS.pc⟩, (h2.wr.block p (lt_of_at h.call) ?_).trans h.call, h.mine.kept (h2.wr.block u h.mine.lt ?_), h2.st, h.un, h.vn⟩
  · exact fun e => e.elim hS.br fun e => e.elim hS.bc fun e => k1 e.symm
  · exact fun g hg e => by
      obtain ⟨j1, j2, _, _⟩ := hS.jr g hg
      exact e.elim j1 fun e => e.elim j2 fun e => k4 (hg.trans (congrArg some e))
  · rcases hi with rfl | rfl | rfl
    · exact hS.rn
    · exact hS.cn
    · exact h.vn
  · exact fun e => e.elim hS.pr fun e => e.elim hS.pc fun e => hvq e.symm
  · exact fun e => e.elim n2 fun e => e.elim n3 fun e => hvp e.symm
  · exact fun e => e.elim m2 fun e => e.elim m3 fun e => huv e
theorem get_mine (h : Quad w W b r c J f x q u v s s' p z a t) (i : Int) :
    Calls Try.prog 30 #[.pointer (some ⟨u, 0, none⟩), .int .i64 i] W fun e w' => e = .returned (.tuple #[.string (St.get s i).1, .bool (St.get s i).2]) ∧ Quad w w' b r c J f x q u v s s' p z a t := by
  refine (get_any W u b s i h.mine).mono ?_
  rintro e w' ⟨h1, h2⟩
  exact ⟨h1, h.keep h2⟩
theorem get_theirs (h : Quad w W b r c J f x q u v s s' p z a t) (i : Int) :
    Calls Try.prog 61 #[.pointer (some ⟨v, 0, none⟩), .int .i64 i] W fun e w' => e = .returned (.tuple #[.string (St.get s' i).1, .bool (St.get s' i).2]) ∧ Quad w w' b r c J f x q u v s s' p z a t := by
  refine (rget_any W v r s' false i h.theirs).mono ?_
  rintro e w' ⟨h1, h2⟩
  exact ⟨h1, h.keep h2⟩
end
theorem quad_new {w W : World} {b r c q u v : Nat} {J : Option Nat} {f : Fl} {s : St} (h : Scene w W b r c J f f q (pairO b (.pointer (some ⟨u, 0, none⟩)) r (.pointer (some ⟨v, 0, none⟩)))) (h1 : StAt W u b s) (h2 : RStAt W v r s false) (h3 : w.heap.size ≤ u) (h4 : w.heap.size ≤ v) (z a : Int) (t : ByteArray) :
    Quad w (W.alloc (callP z a t)) b r c J f f q u v s s W.heap.size z a t :=
  ⟨h.keep (below_alloc1 _ _), heap_alloc_new _ _, h1.below (below_alloc1 _ _), h2.below (below_alloc1 _ _), h3, h4⟩
set_option maxRecDepth 100000 in
set_option maxHeartbeats 1000000 in
theorem pdoes_put (w W : World) (b r c q u v : Nat) (J : Option Nat) (f : Fl) (s : St) (h : Scene w W b r c J f f q (pairO b (.pointer (some ⟨u, 0, none⟩)) r (.pointer (some ⟨v, 0, none⟩)))) (h1 : StAt W u b s) (h2 : RStAt W v r s false) (h3 : w.heap.size ≤ u) (h4 : w.heap.size ≤ v) (hlive : Live f s)
    (z a : Int) (t : ByteArray) (hz : z % 5 = 0) :
    Calls Try.prog 37 #[.pointer (some ⟨q, 0, none⟩), .agg #[.int .i64 z, .int .i64 a, .string t]] W fun e w' => e = .returned (.bool true) ∧ PS w w' b r c q := by
  have H1 := Lib.hid (quad_new h h1 h2 h3 h4 z a t)
  have HW := Lib.hid (which5_any z a t)
  rw [hz] at HW
  obtain ⟨f', s', k, hp⟩ : ∃ f' s' k, St.put f s a t = (f', s', k) := ⟨_, _, _, rfl⟩
  have HL := Lib.hid (hlive.put hp)
  have HA : Hid (∀ W p, Quad w W b r c J f f q u v s s p z a t → Calls Try.prog 32 #[.pointer (some ⟨u, 0, none⟩), .int .i64 a, .string t] W fun e w' => e = .returned (.int .i64 k) ∧ Quad w w' b r c J f' f q u v s' s p z a t) := fun W p h => put_mine h hp
  have HB : Hid (∀ W p, Quad w W b r c J f' f q u v s' s p z a t → Calls Try.prog 60 #[.pointer (some ⟨v, 0, none⟩), .int .i64 a, .string t] W fun e w' => e = .returned (.int .i64 k) ∧ Quad w w' b r c J f' f' q u v s' s' p z a t) := fun W p h => put_theirs h hp hlive
  clear h h1 h2 h3 h4 hlive hp hz
  go_enter Try.func37, Try.ntmps37
  go_wp2_with fail
  refine (HW.out _).mono ?_
  rintro e w2 ⟨rfl, h2⟩
  have H2 : Hid (Quad w w2 b r c J f f q u v s s W.heap.size z a t) := H1.out.keep h2
  clear h2 H1
  generalize W.heap.size = p at *
  clear W
  obtain ⟨c0, c1, c2, c3, c4, c5, c6⟩ := H2.out.cells
  go_wp2_with fail
  refine (HW.out _).mono ?_
  rintro e w3 ⟨rfl, h3⟩
  have H3 : Hid (Quad w w3 b r c J f f q u v s s p z a t) := H2.out.keep h3
  clear h3 H2 HW c0 c1 c2 c3 c4 c5 c6 w2
  obtain ⟨c0, c1, c2, c3, c4, c5, c6⟩ := H3.out.cells
  go_wp2_with fail
  go_region_held3 (fun V => V.cell? ⟨q, 0, none⟩ = some (.pointer (some ⟨b, 0, none⟩)) ∧ V.cell? ⟨q, 1, none⟩ = some (.pointer (some ⟨u, 0, none⟩)) ∧ V.cell? ⟨q, 2, none⟩ = some (.pointer (some ⟨r, 0, none⟩)) ∧ V.cell? ⟨q, 3, none⟩ = some (.pointer (some ⟨v, 0, none⟩)) ∧ V.cell? ⟨p, 0, none⟩ = some (.int .i64 z) ∧ V.cell? ⟨p, 1, none⟩ = some (.int .i64 a) ∧ V.cell? ⟨p, 2, none⟩ = some (.string t))
    (first | exact ⟨c0, c1, c2, c3, c4, c5, c6⟩ | exact Quad.cells (by assumption))
    (first | (go_at_call 32; refine (HA.out _ _ (H3.out.drewN 1)).mono ?_; rintro e w4 ⟨rfl, h4⟩) | (go_at_call 60; refine (HB.out _ _ h4).mono ?_; rintro e w5 ⟨rfl, h5⟩))
  go_wp2_with fail
  go_ret
  exact ⟨rfl, J, f', _, _, h5.sc, .inr ⟨u, v, s', rfl, rfl, h5.mine, h5.theirs, h5.un, h5.vn, HL.out⟩⟩
set_option maxRecDepth 100000 in
set_option maxHeartbeats 1000000 in
theorem pdoes_get (w W : World) (b r c q u v : Nat) (J : Option Nat) (f : Fl) (s : St) (h : Scene w W b r c J f f q (pairO b (.pointer (some ⟨u, 0, none⟩)) r (.pointer (some ⟨v, 0, none⟩)))) (h1 : StAt W u b s) (h2 : RStAt W v r s false) (h3 : w.heap.size ≤ u) (h4 : w.heap.size ≤ v) (hlive : Live f s)
    (z a : Int) (t : ByteArray) (hz : z % 5 = 1) :
    Calls Try.prog 37 #[.pointer (some ⟨q, 0, none⟩), .agg #[.int .i64 z, .int .i64 a, .string t]] W fun e w' => e = .returned (.bool true) ∧ PS w w' b r c q := by
  have H1 := Lib.hid (quad_new h h1 h2 h3 h4 z a t)
  have HW := Lib.hid (which5_any z a t)
  rw [hz] at HW
  have HL := Lib.hid hlive
  obtain ⟨g1, g2, hg⟩ : ∃ g1 g2, St.get s a = (g1, g2) := ⟨_, _, rfl⟩
  have HA : Hid (∀ W p, Quad w W b r c J f f q u v s s p z a t → Calls Try.prog 30 #[.pointer (some ⟨u, 0, none⟩), .int .i64 a] W fun e w' => e = .returned (.tuple #[.string g1, .bool g2]) ∧ Quad w w' b r c J f f q u v s s p z a t) := fun W p h => by
    have := get_mine h a
    rw [hg] at this
    exact this
  have HB : Hid (∀ W p, Quad w W b r c J f f q u v s s p z a t → Calls Try.prog 61 #[.pointer (some ⟨v, 0, none⟩), .int .i64 a] W fun e w' => e = .returned (.tuple #[.string g1, .bool g2]) ∧ Quad w w' b r c J f f q u v s s p z a t) := fun W p h => by
    have := get_theirs h a
    rw [hg] at this
    exact this
  clear h h1 h2 h3 h4 hlive hg hz
  go_enter Try.func37, Try.ntmps37
  go_wp2_with fail
  refine (HW.out _).mono ?_
  rintro e w2 ⟨rfl, h2⟩
  have H2 : Hid (Quad w w2 b r c J f f q u v s s W.heap.size z a t) := H1.out.keep h2
  clear h2 H1
  generalize W.heap.size = p at *
  clear W
  obtain ⟨c0, c1, c2, c3, c4, c5, c6⟩ := H2.out.cells
  go_wp2_with fail
  refine (HW.out _).mono ?_
  rintro e w3 ⟨rfl, h3⟩
  have H3 : Hid (Quad w w3 b r c J f f q u v s s p z a t) := H2.out.keep h3
  clear h3 H2 HW c0 c1 c2 c3 c4 c5 c6 w2
  obtain ⟨c0, c1, c2, c3, c4, c5, c6⟩ := H3.out.cells
  go_wp2_with fail
  go_region_held3 (fun V => V.cell? ⟨q, 0, none⟩ = some (.pointer (some ⟨b, 0, none⟩)) ∧ V.cell? ⟨q, 1, none⟩ = some (.pointer (some ⟨u, 0, none⟩)) ∧ V.cell? ⟨q, 2, none⟩ = some (.pointer (some ⟨r, 0, none⟩)) ∧ V.cell? ⟨q, 3, none⟩ = some (.pointer (some ⟨v, 0, none⟩)) ∧ V.cell? ⟨p, 0, none⟩ = some (.int .i64 z) ∧ V.cell? ⟨p, 1, none⟩ = some (.int .i64 a) ∧ V.cell? ⟨p, 2, none⟩ = some (.string t))
    (first | exact ⟨c0, c1, c2, c3, c4, c5, c6⟩ | exact Quad.cells (by assumption))
    (first | (go_at_call 30; refine (HA.out _ _ (H3.out.drewN 1)).mono ?_; rintro e w4 ⟨rfl, h4⟩))
  have H4 := Lib.hid h4
  clear h4 H3 HA c0 c1 c2 c3 c4 c5 c6
  obtain ⟨c0, c1, c2, c3, c4, c5, c6⟩ := H4.out.cells
  go_wp2_with fail
  go_region_held3 (fun V => V.cell? ⟨q, 0, none⟩ = some (.pointer (some ⟨b, 0, none⟩)) ∧ V.cell? ⟨q, 1, none⟩ = some (.pointer (some ⟨u, 0, none⟩)) ∧ V.cell? ⟨q, 2, none⟩ = some (.pointer (some ⟨r, 0, none⟩)) ∧ V.cell? ⟨q, 3, none⟩ = some (.pointer (some ⟨v, 0, none⟩)) ∧ V.cell? ⟨p, 0, none⟩ = some (.int .i64 z) ∧ V.cell? ⟨p, 1, none⟩ = some (.int .i64 a) ∧ V.cell? ⟨p, 2, none⟩ = some (.string t))
    (first | exact ⟨c0, c1, c2, c3, c4, c5, c6⟩ | exact Quad.cells (by assumption))
    (first | (go_at_call 61; refine (HB.out _ _ (H4.out.drewN 1)).mono ?_; rintro e w5 ⟨rfl, h5⟩))
  have H5 := Lib.hid h5
  clear h5 H4 HB c0 c1 c2 c3 c4 c5 c6
  go_wp2_with fail
  go_ret
  exact ⟨rfl, J, f, _, _, H5.out.sc, .inr ⟨u, v, s, rfl, rfl, H5.out.mine, H5.out.theirs, H5.out.un, H5.out.vn, HL.out⟩⟩
/-- Any call. -/
theorem pdoes_any (w W : World) (b r c q : Nat) (h : PS w W b r c q) (hq : w.heap.size ≤ q) (z a : Int) (s : ByteArray) (ha : a ≤ 9223372036854775807) (hs : s.size ≤ 140737488351232) :
    Calls Try.prog 37 #[.pointer (some ⟨q, 0, none⟩), .agg #[.int .i64 z, .int .i64 a, .string s]] W fun e w' => e = .returned (.bool true) ∧ PS w w' b r c q := by
  have hc : z % 5 = 0 ∨ z % 5 = 1 ∨ z % 5 = 2 ∨ z % 5 = 3 ∨ z % 5 = 4 := by omega
  rcases hc with h0 | h0 | h0 | h0 | h0
  · obtain ⟨J, f, vs, vt, h1, ⟨rfl, rfl⟩ | ⟨u, v, t, rfl, rfl, h2, h3, h4, h5, h6⟩⟩ := h
    · exact pdoes_none w W b r c q J f h1 z a s 0 h0 (.inl rfl)
    · exact pdoes_put w W b r c q u v J f t h1 h2 h3 h4 h5 h6 z a s h0
  · obtain ⟨J, f, vs, vt, h1, ⟨rfl, rfl⟩ | ⟨u, v, t, rfl, rfl, h2, h3, h4, h5, h6⟩⟩ := h
    · exact pdoes_none w W b r c q J f h1 z a s 1 h0 (.inr rfl)
    · exact pdoes_get w W b r c q u v J f t h1 h2 h3 h4 h5 h6 z a s h0
  · exact pdoes_cut w W b r c q h z a s h0 ha hs
  · exact pdoes_boot w W b r c q h hq z a s h0
  · exact pdoes_image w W b r c q h z a s h0
end Go.Proofs.Ytngmnceahhlpkaa
