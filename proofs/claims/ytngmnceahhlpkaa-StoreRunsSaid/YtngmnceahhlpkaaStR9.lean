/- What one call of a script does to a pair: both answer alike and go on alike. Conditions: numbers are of their kinds, texts are within the reach of memory. -/
import Derived.Test.YtngmnceahhlpkaaStR7
namespace Go.Proofs.Ytngmnceahhlpkaa
open Go.RowKit
theorem which5_any (z a : Int) (s : ByteArray) (w : World) :
    Calls Try.prog 59 #[.agg #[.int .i64 z, .int .i64 a, .string s]] w fun e w' => e = .returned (.int .i64 (z % 5)) ∧ Below w.heap.size w w' := by
  have HB := Lib.hid (below_alloc1 w (callP z a s))
  have ht : z.tmod 5 = z % 5 - if 0 ≤ z ∨ (5 : Int) ∣ z then 0 else 5 := by
    have := Int.tmod_eq_emod (a := z) (b := 5)
    rw [this]
    split <;> rfl
  by_cases hn : z.tmod 5 < 0
  · have HE : Hid (z.tmod 5 + 5 = z % 5) := by
      unfold Hid
      split at ht <;> omega
    have hlo : -5 < z.tmod 5 := by split at ht <;> omega
    clear ht
    go_enter Try.func59, Try.ntmps59
    go_wp2_with fail
    go_ret
    exact ⟨ret_int HE.out, HB.out⟩
  · have HE : Hid (z.tmod 5 = z % 5) := by
      unfold Hid
      split at ht <;> omega
    clear ht
    go_enter Try.func59, Try.ntmps59
    go_wp2_with fail
    go_ret
    exact ⟨ret_int HE.out, HB.out⟩

/-! ### The cut -/
theorem fl_cut_cell (f : Fl) (n : Int) (j : List Nat) : (f.cut n j).1.cell = f.cell := by
  unfold Fl.cut
  split
  · rfl
  · split <;> rfl
theorem fl_cut_off {f : Fl} (a : Int) (j : List Nat) : (f.cut a j).1.off = f.off := by
  unfold Fl.cut
  split
  · rfl
  · split <;> rfl
theorem Live.cells {f g : Fl} {s : St} (h : Live f s) (hok : g.Ok) (hc : g.cell = f.cell) (ho : g.off = f.off) : Live g s := by
  rcases h with h | ⟨h1, h2, h3⟩
  · exact .inl h
  · exact .inr ⟨h1.cells hok hc, ho.trans h2, h3⟩
/-- The pair and the call's parameter. -/
structure Sit (w W0 W : World) (b r c : Nat) (J : Option Nat) (f x : Fl) (q : Nat) (vs vt : Value) (p : Nat) (z a : Int) (s : ByteArray) : Prop where
  sc : Scene w W b r c J f x q (pairO b vs r vt)
  call : W.heap[p]? = some (callP z a s)
  wr : Wrote W0 W (fun k => k = b ∨ k = r ∨ k = c)
section
variable {w W0 W V : World} {b r c q p : Nat} {J : Option Nat} {f x : Fl} {vs vt : Value} {z a : Int} {s : ByteArray}
theorem Sit.cells (h : Sit w W0 W b r c J f x q vs vt p z a s) : W.cell? ⟨q, 0, none⟩ = some (.pointer (some ⟨b, 0, none⟩)) ∧ W.cell? ⟨q, 1, none⟩ = some vs ∧ W.cell? ⟨q, 2, none⟩ = some (.pointer (some ⟨r, 0, none⟩)) ∧ W.cell? ⟨q, 3, none⟩ = some vt ∧
    W.cell? ⟨p, 1, none⟩ = some (.int .i64 a) ∧ W.cell? ⟨p, 2, none⟩ = some (.string s) :=
  ⟨cell_at h.sc.box 0, cell_at h.sc.box 1, cell_at h.sc.box 2, cell_at h.sc.box 3, cell_at h.call 1, cell_at h.call 2⟩
theorem Sit.keep (h : Sit w W0 W b r c J f x q vs vt p z a s) (hb : Below W.heap.size W V) : Sit w W0 V b r c J f x q vs vt p z a s :=
  ⟨h.sc.keep hb, (hb.block p (lt_of_at h.call)).trans h.call, h.wr.trans (Wrote.of_below hb _)⟩
theorem Sit.drewN (h : Sit w W0 W b r c J f x q vs vt p z a s) (n : Nat) : Sit w W0 (W.drewN n) b r c J f x q vs vt p z a s := h.keep ⟨rfl, rfl, rfl, Nat.le_refl _, fun _ _ => rfl⟩
theorem cut_sit (h : Sit w W0 W b r c J f x q vs vt p z a s) (hi : a ≤ 9223372036854775807) (hs : s.size ≤ 140737488351232) :
    Calls Try.prog 22 #[.pointer (some ⟨b, 0, none⟩), .int .i64 a, .string s] W fun e w' => e = .returned (.int .i64 (f.cut a (bytes s)).2) ∧ ∃ J', Sit w W0 w' b r c J' (f.cut a (bytes s)).1 x q vs vt p z a s := by
  obtain ⟨n1, n2, n3, _⟩ := h.sc.off_ty h.call (by decide) (by decide) (by decide)
  refine (cut_any b J f a s W h.sc.held.at_ hi hs).mono ?_
  rintro e w' ⟨rfl, ⟨J', h1, h3⟩, h2⟩
  have hw := Wrote.of_grown h2
  exact ⟨rfl, J', h.sc.mine h1 h2 h3, (hw.block p (lt_of_at h.call) n1).trans h.call, h.wr.trans (hw.mono fun _ e => .inl e)⟩
theorem cut_sit2 (h : Sit w W0 W b r c J f x q vs vt p z a s) (hi : a ≤ 9223372036854775807) (hs : s.size ≤ 140737488351232) :
    Calls Try.prog 47 #[.pointer (some ⟨r, 0, none⟩), .int .i64 a, .string s] W fun e w' => e = .returned (.int .i64 (x.cut a (bytes s)).2) ∧ Sit w W0 w' b r c J f (x.cut a (bytes s)).1 q vs vt p z a s := by
  obtain ⟨n1, n2, n3, _⟩ := h.sc.off_ty h.call (by decide) (by decide) (by decide)
  refine (rcut_any r c x a s W h.sc.ref hi hs).mono ?_
  rintro e w' ⟨rfl, h1, hw⟩
  exact ⟨rfl, h.sc.theirs h1 hw, (hw.block p (lt_of_at h.call) (fun e => e.elim n2 n3)).trans h.call, h.wr.trans (hw.mono fun _ e => .inr e)⟩
/-- What stands beside the flashes stays. -/
theorem Sto.kept {g : Fl} (h : Sto w W b r f vs vt) (hS : Scene w W b r c J f x q (pairO b vs r vt)) (hw : Wrote W V (fun k => k = b ∨ k = r ∨ k = c)) (hL : ∀ s, Live f s → Live g s) : Sto w V b r g vs vt := by
  rcases h with h | ⟨u, v, t, h1, h2, h3, h4, h5, h6, h7⟩
  · exact .inl h
  · obtain ⟨m1, m2, m3, _⟩ := hS.off_ty h3.blk (by decide) (by decide) (by decide)
    obtain ⟨n1, n2, n3, _⟩ := hS.off_ty h4.blk (by decide) (by decide) (by decide)
    exact .inr ⟨u, v, t, h1, h2, h3.kept (hw.block u h3.lt (fun e => e.elim m1 fun e => e.elim m2 m3)), h4.kept (hw.block v h4.lt (fun e => e.elim n1 fun e => e.elim n2 n3)), h5, h6, hL t h7⟩
theorem Sto.below (h : Sto w W b r f vs vt) (hb : Below W.heap.size W V) : Sto w V b r f vs vt := by
  rcases h with h | ⟨u, v, t, h1, h2, h3, h4, h5, h6, h7⟩
  · exact .inl h
  · exact .inr ⟨u, v, t, h1, h2, h3.below hb, h4.below hb, h5, h6, h7⟩
end
theorem sit_new {w W : World} {b r c q : Nat} {J : Option Nat} {f : Fl} {vs vt : Value} (h : Scene w W b r c J f f q (pairO b vs r vt)) (z a : Int) (s : ByteArray) :
    Sit w (W.alloc (callP z a s)) (W.alloc (callP z a s)) b r c J f f q vs vt W.heap.size z a s :=
  ⟨h.keep (below_alloc1 _ _), heap_alloc_new _ _, Wrote.refl _ _⟩
set_option maxRecDepth 100000 in
set_option maxHeartbeats 1000000 in
theorem pdoes_cut (w W : World) (b r c q : Nat) (h : PS w W b r c q) (z a : Int) (s : ByteArray) (hz : z % 5 = 2) (ha : a ≤ 9223372036854775807) (hs : s.size ≤ 140737488351232) :
    Calls Try.prog 37 #[.pointer (some ⟨q, 0, none⟩), .agg #[.int .i64 z, .int .i64 a, .string s]] W fun e w' => e = .returned (.bool true) ∧ PS w w' b r c q := by
  obtain ⟨J, f, vs, vt, h, hst⟩ := h
  have H1 := Lib.hid (sit_new h z a s)
  have HST := Lib.hid (hst.below (below_alloc1 W (callP z a s)))
  have HS0 := Lib.hid (h.keep (below_alloc1 W (callP z a s)))
  have HW := Lib.hid (which5_any z a s)
  rw [hz] at HW
  have HLV : Hid (∀ t, Live f t → ∀ g, Fl.Ok g → g = (f.cut a (bytes s)).1 → Live g t) := fun t ht g hg e => ht.cells hg (by rw [e]; exact fl_cut_cell _ _ _) (by rw [e]; exact fl_cut_off _ _)
  obtain ⟨f', t, hr⟩ : ∃ f' t, f.cut a (bytes s) = (f', t) := ⟨_, _, rfl⟩
  rw [hr] at HLV
  have HA : Hid (∀ W0 W p, Sit w W0 W b r c J f f q vs vt p z a s → Calls Try.prog 22 #[.pointer (some ⟨b, 0, none⟩), .int .i64 a, .string s] W fun e w' => e = .returned (.int .i64 t) ∧ ∃ J', Sit w W0 w' b r c J' f' f q vs vt p z a s) := by
    intro W0 W p h
    have := cut_sit h ha hs
    rw [hr] at this
    exact this
  have HB : Hid (∀ W0 W p J', Sit w W0 W b r c J' f' f q vs vt p z a s → Calls Try.prog 47 #[.pointer (some ⟨r, 0, none⟩), .int .i64 a, .string s] W fun e w' => e = .returned (.int .i64 t) ∧ Sit w W0 w' b r c J' f' f' q vs vt p z a s) := by
    intro W0 W p J' h
    have := cut_sit2 h ha hs
    rw [hr] at this
    exact this
  clear h hst hz hr ha hs
  go_enter Try.func37, Try.ntmps37
  go_wp2_with fail
  refine (HW.out _).mono ?_
  rintro e w2 ⟨rfl, h2⟩
  have H2 : Hid (Sit w (W.alloc (callP z a s)) w2 b r c J f f q vs vt W.heap.size z a s) := H1.out.keep h2
  clear h2 H1 HW
  generalize W.alloc (callP z a s) = W0 at *
  generalize W.heap.size = p at *
  have hc := H2.out.cells
  obtain ⟨c0, c1, c2, c3, c4, c5⟩ := hc
  go_wp2_with fail
  go_region_held3 (fun V => V.cell? ⟨q, 0, none⟩ = some (.pointer (some ⟨b, 0, none⟩)) ∧ V.cell? ⟨q, 1, none⟩ = some vs ∧ V.cell? ⟨q, 2, none⟩ = some (.pointer (some ⟨r, 0, none⟩)) ∧ V.cell? ⟨q, 3, none⟩ = some vt ∧ V.cell? ⟨p, 1, none⟩ = some (.int .i64 a) ∧ V.cell? ⟨p, 2, none⟩ = some (.string s))
    (first | exact ⟨c0, c1, c2, c3, c4, c5⟩ | exact Sit.cells (by assumption))
    (first | (go_at_call 22; refine (HA.out _ _ _ (H2.out.drewN 1)).mono ?_; rintro e w3 ⟨rfl, J', h3⟩) | (go_at_call 47; refine (HB.out _ _ _ _ h3).mono ?_; rintro e w4 ⟨rfl, h4⟩))
  go_wp2_with fail
  go_ret
  exact ⟨rfl, J', f', vs, vt, h4.sc, HST.out.kept HS0.out h4.wr (fun t ht => HLV.out t ht f' h4.sc.held.at_.ok rfl)⟩

set_option maxRecDepth 100000 in
set_option maxHeartbeats 1000000 in
theorem pdoes_boot (w W : World) (b r c q : Nat) (h : PS w W b r c q) (hq : w.heap.size ≤ q) (z a : Int) (s : ByteArray) (hz : z % 5 = 3) :
    Calls Try.prog 37 #[.pointer (some ⟨q, 0, none⟩), .agg #[.int .i64 z, .int .i64 a, .string s]] W fun e w' => e = .returned (.bool true) ∧ PS w w' b r c q := by
  obtain ⟨J, f, vs, vt, h, hst⟩ := h
  have H1 := Lib.hid (sit_new h z a s)
  have HQ := Lib.hid hq
  have HW := Lib.hid (which5_any z a s)
  rw [hz] at HW
  clear h hst hz hq
  go_enter Try.func37, Try.ntmps37
  go_wp2_with fail
  refine (HW.out _).mono ?_
  rintro e w2 ⟨rfl, h2⟩
  have H2 : Hid (Sit w (W.alloc (callP z a s)) w2 b r c J f f q vs vt W.heap.size z a s) := H1.out.keep h2
  clear h2 H1 HW
  go_wp2_with fail
  refine (pboot_any w w2 b r c q J f vs vt H2.out.sc HQ.out).mono ?_
  rintro e w3 ⟨rfl, h3⟩
  have H3 := Lib.hid h3
  clear h3 H2
  go_wp2_with fail
  go_ret
  exact ⟨rfl, H3.out⟩

/-! ### The image -/
set_option maxRecDepth 100000 in
set_option maxHeartbeats 1000000 in
theorem pdoes_image (w W : World) (b r c q : Nat) (h : PS w W b r c q) (z a : Int) (s : ByteArray) (hz : z % 5 = 4) :
    Calls Try.prog 37 #[.pointer (some ⟨q, 0, none⟩), .agg #[.int .i64 z, .int .i64 a, .string s]] W fun e w' => e = .returned (.bool true) ∧ PS w w' b r c q := by
  obtain ⟨J, f, vs, vt, h, hst⟩ := h
  have H1 := Lib.hid (sit_new h z a s)
  have HST := Lib.hid (hst.below (below_alloc1 W (callP z a s)))
  have HW := Lib.hid (which5_any z a s)
  rw [hz] at HW
  have HSZ : Hid (∀ V, Below (W.alloc (callP z a s)).heap.size (W.alloc (callP z a s)) V → Sto w V b r f vs vt) := fun V hb => HST.out.below hb
  clear h hst hz HST
  go_enter Try.func37, Try.ntmps37
  go_wp2_with fail
  refine (HW.out _).mono ?_
  rintro e w2 ⟨rfl, h2⟩
  have H2 : Hid (Sit w (W.alloc (callP z a s)) w2 b r c J f f q vs vt W.heap.size z a s) := H1.out.keep h2
  have HST : Hid (Sto w w2 b r f vs vt) := HSZ.out w2 h2
  clear h2 H1 HW HSZ
  generalize W.alloc (callP z a s) = W0 at *
  generalize W.heap.size = p at *
  obtain ⟨c0, c1, c2, c3, c4, c5⟩ := H2.out.cells
  have hstp := H2.out.sc.ref.steps
  have HA := Lib.hid (image_mine (H2.out.drewN 1).sc)
  have HB := Lib.hid (image_theirs (H2.out.drewN 1).sc)
  have HC := Lib.hid (steps_mine (H2.out.drewN 1).sc)
  generalize str f.cell = q1 at *
  generalize hq2 : f.steps = q2 at *
  go_wp2_with fail
  refine wp_region_still_lit (by kernel_rfl) (by kernel_rfl) ?_
  repeat still_step
  still_call (HA.out)
  repeat still_step
  still_call (HB.out)
  repeat still_step
  still_call (HC.out)
  repeat still_step
  refine wpStill_nil ?_
  change Exit.then _ _ _ _ (w2.drewN 1)
  have H5 := Lib.hid (H2.out.drewN 1)
  have HST5 := Lib.hid (HST.out.below (below_drewN w2 1))
  clear H2 HST hstp HA HB HC c0 c1 c2 c3 c4 c5 hq2
  generalize w2.drewN 1 = w5 at *
  go_wp2_with fail
  go_ret
  exact ⟨rfl, J, f, vs, vt, H5.out.sc, HST5.out⟩

/-! ### No store -/
set_option maxRecDepth 100000 in
set_option maxHeartbeats 1000000 in
theorem pdoes_none (w W : World) (b r c q : Nat) (J : Option Nat) (f : Fl) (h : Scene w W b r c J f f q (pairO b (.pointer none) r (.pointer none))) (z a : Int) (s : ByteArray) (k : Int) (hz : z % 5 = k) (hk : k = 0 ∨ k = 1) :
    Calls Try.prog 37 #[.pointer (some ⟨q, 0, none⟩), .agg #[.int .i64 z, .int .i64 a, .string s]] W fun e w' => e = .returned (.bool true) ∧ PS w w' b r c q := by
  have H1 := Lib.hid (sit_new h z a s)
  have HW := Lib.hid (which5_any z a s)
  rw [hz] at HW
  clear h hz
  rcases hk with rfl | rfl <;>
  · go_enter Try.func37, Try.ntmps37
    go_wp2_with fail
    refine (HW.out _).mono ?_
    rintro e w2 ⟨rfl, h2⟩
    have H2 : Hid (Sit w (W.alloc (callP z a s)) w2 b r c J f f q (.pointer none) (.pointer none) W.heap.size z a s) := H1.out.keep h2
    clear h2 H1 HW
    generalize W.alloc (callP z a s) = W0 at *
    generalize W.heap.size = p at *
    obtain ⟨c0, c1, c2, c3, c4, c5⟩ := H2.out.cells
    go_wp2_with fail
    go_ret
    exact ⟨rfl, J, f, _, _, H2.out.sc, .inl ⟨rfl, rfl⟩⟩
end Go.Proofs.Ytngmnceahhlpkaa
