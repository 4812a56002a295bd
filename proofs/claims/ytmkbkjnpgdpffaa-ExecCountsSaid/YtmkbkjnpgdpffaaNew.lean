/- What New does, in whatever world. Conditions: the jobs can be read, and are within the reach of memory. -/
import Derived.Test.YtmkbkjnpgdpffaaDue
import Derived.Laws.AppendOwnNone
import Derived.Deep.RegionLaw
import Derived.Deep.CutRange
import Derived.Deep.DeepCutAuto
namespace Go.Proofs.Ytmkbkjnpgdpffaa
open Go.RowKit

theorem info36 : (Try.prog.info? 36).map (fun i => (i.zero, i.size, i.bytes)) = some (some (.agg #[.int .i64 0, .int .i64 0, .int .i64 0]), 3, 24) := by kernel_rfl
theorem info50 : (Try.prog.info? 50).map (fun i => (i.zero, i.size, i.bytes)) = some (some (.agg #[.int .i64 0, .int .i64 0]), 2, 16) := by kernel_rfl
def jd : Jb := ⟨0, 0, 0⟩
/-- A list of jobs that can be read. -/
def JR (w : World) (v : Value) (js : List Jb) : Prop :=
  js.length * 24 ≤ 140737488351232 ∧ ((v = .slice none 0 0 ∧ js = []) ∨ ∃ ad cap, v = .slice (some ad) js.length cap ∧ (js = [] ∨ ∃ g off, ad = ⟨g, off, none⟩ ∧ g < w.heap.size ∧
    ∀ i, i < js.length → w.cell? ⟨g, off + i * 3, none⟩ = some (.int .i64 (js.getD i jd).period) ∧ w.cell? ⟨g, off + i * 3 + 1, none⟩ = some (.int .i64 (js.getD i jd).phase) ∧ w.cell? ⟨g, off + i * 3 + 2, none⟩ = some (.int .i64 (js.getD i jd).rank)))
theorem JR.below {w w1 : World} {v : Value} {js : List Jb} (h : JR w v js) (hb : Below w.heap.size w w1) : JR w1 v js := by
  refine ⟨h.1, ?_⟩
  rcases h.2 with h1 | ⟨ad, cap, hv, h1⟩
  · exact .inl h1
  · refine .inr ⟨ad, cap, hv, ?_⟩
    rcases h1 with h1 | ⟨g, off, ha, hg, hc⟩
    · exact .inl h1
    · refine .inr ⟨g, off, ha, Nat.lt_of_lt_of_le hg hb.size, fun i hi => ?_⟩
      obtain ⟨a, b, c⟩ := hc i hi
      exact ⟨(hb.cell (p := ⟨g, _, none⟩) hg).trans a, (hb.cell (p := ⟨g, _, none⟩) hg).trans b, (hb.cell (p := ⟨g, _, none⟩) hg).trans c⟩
theorem JR.small {w : World} {v : Value} {js : List Jb} (h : JR w v js) : js.length ≤ 9223372036854775807 := by have := h.1; omega
theorem JR.form {w : World} {v : Value} {js : List Jb} (h : JR w v js) : ∃ A cap, v = .slice A js.length cap := by
  rcases h.2 with ⟨hv, h1⟩ | ⟨ad, cap, hv, _⟩
  · exact ⟨none, 0, by rw [hv, h1]; rfl⟩
  · exact ⟨some ad, cap, hv⟩
theorem flat_at (js : List Jb) (i : Nat) (hi : i < js.length) : (js.flatMap jbL)[i * 3]? = some (.int .i64 (js.getD i jd).period) ∧ (js.flatMap jbL)[i * 3 + 1]? = some (.int .i64 (js.getD i jd).phase) ∧ (js.flatMap jbL)[i * 3 + 2]? = some (.int .i64 (js.getD i jd).rank) := by
  have e : js.getD i jd = js[i] := by rw [List.getD_eq_getElem?_getD, List.getElem?_eq_getElem hi]; rfl
  rw [e]
  refine ⟨?_, ?_, ?_⟩
  · have := flat_get jbL_len js i 0 (by omega)
    rw [Nat.add_zero, List.getElem?_eq_getElem hi] at this
    exact this
  · rw [flat_get jbL_len js i 1 (by omega), List.getElem?_eq_getElem hi]; rfl
  · rw [flat_get jbL_len js i 2 (by omega), List.getElem?_eq_getElem hi]; rfl
theorem jb_news {w : World} {g off : Nat} {js : List Jb} (hc : ∀ i, i < js.length → w.cell? ⟨g, off + i * 3, none⟩ = some (.int .i64 (js.getD i jd).period) ∧ w.cell? ⟨g, off + i * 3 + 1, none⟩ = some (.int .i64 (js.getD i jd).phase) ∧ w.cell? ⟨g, off + i * 3 + 2, none⟩ = some (.int .i64 (js.getD i jd).rank)) :
    ∀ (j : Nat) (u : Value), (js.flatMap jbL)[j]? = some u → w.cell? ((⟨g, off, none⟩ : Addr).add j) = some u := by
  intro j u hu
  have hl := flat_len jbL_len js
  have hj : j < js.length * 3 := by rw [← hl]; exact (List.getElem?_eq_some_iff.1 hu).1
  have e : (⟨g, off, none⟩ : Addr).add j = ⟨g, off + j, none⟩ := by unfold Addr.add; split <;> simp_all
  rw [e, ← hu]
  obtain ⟨a, b, c⟩ := hc (j / 3) (by omega)
  obtain ⟨a', b', c'⟩ := flat_at js (j / 3) (by omega)
  have h3 : j % 3 = 0 ∨ j % 3 = 1 ∨ j % 3 = 2 := by omega
  rcases h3 with h3 | h3 | h3
  · have : j = j / 3 * 3 := by omega
    rw [this, a, a']
  · have : j = j / 3 * 3 + 1 := by omega
    rw [this, ← Nat.add_assoc, b, b']
  · have : j = j / 3 * 3 + 2 := by omega
    rw [this, ← Nat.add_assoc, c, c']
theorem jb_one (js : List Jb) : ∀ u ∈ js.flatMap jbL, u.oneCell' = true := by
  intro u hu
  obtain ⟨j, _, hj⟩ := List.mem_flatMap.1 hu
  simp only [jbL, List.mem_cons, List.not_mem_nil, or_false] at hj
  rcases hj with rfl | rfl | rfl <;> rfl
def Good (js : List Jb) : Prop := ∀ i, i < js.length → 1 ≤ (js.getD i jd).period ∧ 0 ≤ (js.getD i jd).phase
/-- The moments at the beginning. -/
def ms0 (js : List Jb) (k : Nat) : List Mo := (List.range k).map fun i => ((js.getD i jd).phase, i)
theorem ms0_len (js : List Jb) (k : Nat) : (ms0 js k).length = k := by simp [ms0]
theorem ms0_succ (js : List Jb) (k : Nat) : ms0 js (k + 1) = ms0 js k ++ [((js.getD k jd).phase, k)] := by simp [ms0, List.range_succ]
def NewPost (w : World) (js : List Jb) (e : Ending) (w' : World) : Prop :=
  Below w.heap.size w w' ∧ ((Good js ∧ ∃ b jb mb l, e = .returned (.tuple #[.pointer (some ⟨b, 0, none⟩), .int .i64 0]) ∧ Plan w' b jb mb js l 0 ∧ HeapFrom (mle js) (0, 0) l l.length 0 ∧ l.Perm (ms0 js js.length) ∧
      w.heap.size ≤ b ∧ w.heap.size ≤ jb ∧ w.heap.size ≤ mb ∧ jb < w'.heap.size ∧ mb < w'.heap.size) ∨
    (¬ Good js ∧ e = .returned (.tuple #[.pointer none, .int .i64 1])))
theorem new_many (w : World) (v : Value) (js : List Jb) (h : JR w v js) (h64 : 64 < js.length) : Calls Try.prog 14 #[v] w fun e w' => e = .returned (.tuple #[.pointer none, .int .i64 4]) ∧ w' = w := by
  obtain ⟨A, cap, rfl⟩ := h.form
  have hs := h.small
  clear h
  generalize js.length = n at *
  go_enter Try.func14, Try.ntmps14
  go_wp2_with fail
  go_ret2
  exact ⟨rfl, rfl⟩
theorem two_new (w : World) (o1 o2 : Obj) : ((w.alloc o1).alloc o2).heap[w.heap.size + 1]? = some o2 := by
  have := heap_alloc_new (w.alloc o1) o2
  rw [alloc_size] at this
  exact this
theorem two_new_drew (w : World) (o1 o2 : Obj) : ((w.alloc o1).alloc o2).drew.heap[w.heap.size + 1]? = some o2 := two_new w o1 o2
theorem mo_one (y : Int) (k : Nat) : ∀ u ∈ [Value.int .i64 y, .int .i64 (k : Int)], u.oneCell' = true := by
  intro u hu
  simp only [List.mem_cons, List.not_mem_nil, or_false] at hu
  rcases hu with rfl | rfl <;> rfl
/-- What is known while the moments are made. -/
structure NewS (w wr : World) (b jb : Nat) (js : List Jb) (k : Nat) : Prop where
  blk : ∃ jv mv, wr.heap[b]? = some (.cells #[jv, mv, .int .i64 0] 48 (0, 0)) ∧ Slc wr jv jb 36 3 js.length (js.flatMap jbL) ∧ wr.ownsRow (b + 1) 50 2 mv k ((ms0 js k).flatMap moL)
  below : Below w.heap.size w wr
  good : ∀ i, i < k → 1 ≤ (js.getD i jd).period ∧ 0 ≤ (js.getD i jd).phase
  lo : w.heap.size ≤ jb ∧ jb ≤ b
  sep : js = [] ∨ jb < b
  bl : b < wr.heap.size
theorem new_far {wr wx : World} {b : Nat} {o1 o2 : Obj} {e : TypeId} {size n : Nat} {v : Value} {xs : List Value} (hown : wr.ownsRow (b + 1) e size v n xs) (hg : ((wr.alloc o1).alloc o2).drew.grownBy wx v.ownBlock) : ∀ c, c ≤ b → c < wr.heap.size → wx.heap[c]? = wr.heap[c]? := by
  intro c hc hcl
  have hne : v.ownBlock ≠ some c := fun h => by have := (hown.lt c h).1; omega
  have h1 : c < ((wr.alloc o1).alloc o2).drew.heap.size := by
    show c < ((wr.alloc o1).alloc o2).heap.size
    rw [alloc_size, alloc_size]; omega
  have h2 := hg.block c h1 (fun h => hne h.symm)
  rw [h2]
  show ((wr.alloc o1).alloc o2).heap[c]? = _
  rw [Below.heap_alloc (wr.alloc o1) o2 c (by rw [alloc_size]; omega), Below.heap_alloc wr o1 c hcl]
theorem NewS.next {w wr wx : World} {b jb k : Nat} {js : List Jb} (h : NewS w wr b jb js k) {jv mv : Value} {o1 o2 : Obj} (hb : wr.heap[b]? = some (.cells #[jv, mv, .int .i64 0] 48 (0, 0))) (hj : Slc wr jv jb 36 3 js.length (js.flatMap jbL))
    (hm : wr.ownsRow (b + 1) 50 2 mv k ((ms0 js k).flatMap moL)) (hg : ((wr.alloc o1).alloc o2).drew.grownBy wx mv.ownBlock) (hx : 1 ≤ (js.getD k jd).period) (hy : 0 ≤ (js.getD k jd).phase)
    {v : Value} (hown : wx.ownsRow (b + 1) 50 2 v (k + 1) ((ms0 js k).flatMap moL ++ [.int .i64 (js.getD k jd).phase, .int .i64 (k : Int)])) : NewS w (wx.setCell ⟨b, 1, none⟩ v) b jb js (k + 1) := by
  have hfar := new_far hm hg
  have hbl := lt_of_at hb
  have hbx : wx.heap[b]? = some (.cells #[jv, mv, .int .i64 0] 48 (0, 0)) := (hfar b (Nat.le_refl _) hbl).trans hb
  refine ⟨⟨jv, v, heap_setCell_at hbx 1 _, (hj.kept (hfar jb h.lo.2 (by have := h.lo.2; omega))).other hbx (by decide) 1 v, ?_⟩, ?_, ?_, h.lo, h.sep, ?_⟩
  · rw [ms0_succ, List.flatMap_append]
    exact ownsRow_kept hown ((Wrote.refl wx (fun k => k = b)).set rfl _ _) (fun k hk => by subst hk; omega)
  · have h1 : Below w.heap.size w ((wr.alloc o1).alloc o2).drew := ((h.below.alloc h.below.size _).alloc (by rw [alloc_size]; have := h.below.size; omega) _).drew
    have h2 : w.heap.size ≤ ((wr.alloc o1).alloc o2).drew.heap.size := h1.size
    refine (h1.grown hg h2 (fun c hc => ?_)).setCell (p := ⟨b, 1, none⟩) ?_ _
    · have := (hm.lt c hc).1; have := h.lo; omega
    · have := h.lo; show w.heap.size ≤ b; omega
  · intro i hi
    rcases Nat.lt_or_ge i k with h1 | h1
    · exact h.good i h1
    · have : i = k := by omega
      subst this
      exact ⟨hx, hy⟩
  · have h2 := lt_of_at hbx
    show b < (wx.setCell ⟨b, 1, none⟩ v).heap.size
    simpa [World.setCell] using h2
theorem NewS.plan {w wr : World} {b jb k : Nat} {js : List Jb} (h : NewS w wr b jb js k) (hk : js.length = k) (h0 : 0 < k) : ∃ mb, Plan wr b jb mb js (ms0 js k) 0 ∧ b < mb ∧ mb < wr.heap.size := by
  obtain ⟨jv, mv, hb, hj, hm⟩ := h.blk
  obtain ⟨mb, cap, rfl, h1, h2⟩ := hm.form h0
  refine ⟨mb, ⟨⟨jv, _, hb, hj, ⟨⟨?_, ?_⟩, .inr rfl⟩⟩, ?_, ?_⟩, by omega, h2⟩
  · rw [ms0_len]; exact hm.1
  · rw [ms0_len]
    rcases hm.2 with h3 | ⟨g', c', cur, h3, h4, h5⟩
    · exact .inl h3
    · exact .inr ⟨g', c', cur, h3, Nat.zero_le _, h5⟩
  · intro m hm
    unfold ms0 at hm
    obtain ⟨i, hi, rfl⟩ := List.mem_map.1 hm
    have := List.mem_range.1 hi
    simp only
    omega
  · rcases h.sep with h3 | h3
    · exact .inl h3
    · exact .inr (by omega)
set_option maxRecDepth 100000 in
set_option maxHeartbeats 4000000 in
theorem new_some (w : World) (js : List Jb) (g off cap : Nat) (hg : g < w.heap.size) (h0 : 0 < js.length) (h64 : js.length ≤ 64) (hbytes : js.length * 24 ≤ 140737488351232)
    (hc : ∀ i, i < js.length → w.cell? ⟨g, off + i * 3, none⟩ = some (.int .i64 (js.getD i jd).period) ∧ w.cell? ⟨g, off + i * 3 + 1, none⟩ = some (.int .i64 (js.getD i jd).phase) ∧ w.cell? ⟨g, off + i * 3 + 2, none⟩ = some (.int .i64 (js.getD i jd).rank)) :
    Calls Try.prog 14 #[.slice (some ⟨g, off, none⟩) js.length cap] w (NewPost w js) := by
  have HN := Lib.hid (jb_news hc)
  have H1 := Lib.hid (jb_one js)
  have HL : Hid ((js.flatMap jbL).length = js.length * 3) := flat_len jbL_len js
  have HC := Lib.hid hc
  obtain ⟨i0, hi, hz0, hz1, hz2⟩ := info_parts info36
  clear hc
  generalize hxs : js.flatMap jbL = xs at *
  have HX := Lib.hid hxs
  clear hxs
  generalize hn : js.length = n at *
  have HNN := Lib.hid hn
  clear hn
  go_enter Try.func14, Try.ntmps14
  go_wp2_with (at_builtin; refine wpList_append_lies _ rfl _ _ 22 rfl w.heap.size 36 i0 _ 3 24 Try.underlying22 hi hz0 hz1 hz2 rfl (by decide) _ _ _ rfl (World.ownsRow_nil _ _ _ _) ⟨g, off, none⟩ n cap xs rfl HL.out HN.out H1.out ?c0 ?c1 ?c2 ?c3 w.heap.size rfl ?_)
  case c0 => exact h0
  case c1 => unfold maxLen; omega
  case c2 => omega
  case c3 => exact Nat.le_refl _
  intro jb jcap w1 hown1 hgrow hat hlt
  have hjb : jb = w.heap.size := by
    rcases hat with h | h
    · cases h
    · exact h
  have HO1 := Lib.hid hown1
  have HB1 : Hid (Below w.heap.size w w1) := (Below.refl _ _).grown hgrow (Nat.le_refl _) (by intro k hk; cases hk)
  clear hown1 hgrow hat
  have hsz : w.heap.size ≤ w1.heap.size := HB1.out.size
  have H : Hid (NewS w (w1.alloc (.cells #[.slice (some ⟨jb, 0, none⟩) n jcap, .slice none 0 0, .int .i64 0] 48)) w1.heap.size jb js 0) := by
    refine ⟨⟨_, _, heap_alloc_new _ _, ⟨?_, .inr rfl⟩, World.ownsRow_nil _ _ _ _⟩, HB1.out.alloc HB1.out.size _, fun i hi => absurd hi (Nat.not_lt_zero _), ⟨by omega, by omega⟩, .inr hlt, by rw [alloc_size]; omega⟩
    have := HO1.out.alloc (.cells #[.slice (some ⟨jb, 0, none⟩) n jcap, .slice none 0 0, .int .i64 0] 48)
    rw [HNN.out, HX.out]
    exact ⟨this.1, (by
      rcases this.2 with h | ⟨g', c', cur, h1, h2, h3⟩
      · exact .inl h
      · exact .inr ⟨g', c', cur, h1, Nat.zero_le _, h3⟩)⟩
  clear hjb
  go_wp2_with fail
  have HB0 : Hid (w1.heap.size = w1.heap.size) := rfl
  generalize hbb : w1.heap.size = b at H
  clear HB0
  have HBB := Lib.hid hbb
  clear hbb HB1 HO1 hsz hlt
  go_loopw [17] (fun i wr => ∃ k : Nat, k ≤ n ∧ i = .int .i64 k ∧ NewS w wr b jb js k) (fun i _ => n - (intOf i).toNat)
  case atStart => exact ⟨0, Nat.zero_le _, rfl, H.out⟩
  case round =>
    obtain ⟨k, hk, rfl, hs⟩ := hrel
    have HS := Lib.hid hs
    clear hs H
    by_cases hlt : k < n
    · obtain ⟨p0, p1, p2⟩ := HC.out k hlt
      have c0 := (HS.out.below.cell (p := ⟨g, off + k * 3, none⟩) hg).trans p0
      have c1 := (HS.out.below.cell (p := ⟨g, off + k * 3 + 1, none⟩) hg).trans p1
      have c2 := (HS.out.below.cell (p := ⟨g, off + k * 3 + 2, none⟩) hg).trans p2
      clear p0 p1 p2
      have HJD : Hid (js.getD k jd = ⟨(js.getD k jd).period, (js.getD k jd).phase, (js.getD k jd).rank⟩) := rfl
      generalize (js.getD k jd).period = x at *
      generalize (js.getD k jd).phase = y at *
      generalize (js.getD k jd).rank = z at *
      obtain ⟨jv, mv, hb, hj, hm⟩ := HS.out.blk
      have HM := Lib.hid hm
      have b1 : wr.cell? ⟨b, 1, none⟩ = some mv := cell_at hb 1
      have f1 : wr.frozen? ⟨b, 1, none⟩ = false := free_at hb 1
      have hbl := HS.out.bl
      have HBK := Lib.hid hb
      have HJV := Lib.hid hj
      obtain ⟨i1, hi1, hy0, hy1, hy2⟩ := info_parts info50
      clear hb hj hm
      by_cases hx : x < 1
      · have HF : Hid (NewPost w js (.returned (.tuple #[.pointer none, .int .i64 1])) (wr.alloc (.cells #[.int .i64 x, .int .i64 y, .int .i64 z] 36))) := by
          refine ⟨HS.out.below.alloc HS.out.below.size _, .inr ⟨fun h => ?_, rfl⟩⟩
          have := (h k (by rw [HNN.out]; exact hlt)).1
          rw [HJD.out] at this
          simp only at this
          omega
        go_wp2_with fail
        go_ret2
        exact HF.out
      · by_cases hy : y < 0
        · have HF : Hid (NewPost w js (.returned (.tuple #[.pointer none, .int .i64 1])) (wr.alloc (.cells #[.int .i64 x, .int .i64 y, .int .i64 z] 36))) := by
            refine ⟨HS.out.below.alloc HS.out.below.size _, .inr ⟨fun h => ?_, rfl⟩⟩
            have := (h k (by rw [HNN.out]; exact hlt)).2
            rw [HJD.out] at this
            simp only at this
            omega
          go_wp2_with fail
          go_ret2
          exact HF.out
        · go_wp2_with fail
          go_region_law (refine step_append_lies _ rfl _ _ 44 rfl (b + 1) 50 i1 _ 2 16 Try.underlying44 hi1 hy0 hy1 hy2 rfl (by decide) mv k ((ms0 js k).flatMap moL) rfl (by have h := (HM.out.alloc (.cells #[.int .i64 x, .int .i64 y, .int .i64 z] 36)).alloc (.cells #[.int .i64 y, .int .i64 (k : Int)] 50); exact ⟨h.1, h.2⟩) _ 1 1 [.int .i64 y, .int .i64 (k : Int)] rfl rfl (World.news_of_block (cs := #[.int .i64 y, .int .i64 (k : Int)]) (two_new_drew _ _ _)) (mo_one y k) (by omega) (by unfold maxLen; omega) (by omega) (by simp; omega) _ rfl ?_; intro mg mcap wx hown1 hgrow hat hlt1; have HXB : Hid (wx.heap[b]? = some (.cells #[jv, mv, .int .i64 0] 48 (0, 0))) := (new_far HM.out hgrow b (Nat.le_refl _) hbl).trans HBK.out; have b2 : wx.cell? ⟨b, 1, none⟩ = some mv := cell_at HXB.out 1; have f2 : wx.frozen? ⟨b, 1, none⟩ = false := free_at HXB.out 1; have HNX : Hid (NewS w (wx.setCell ⟨b, 1, none⟩ (.slice (some ⟨mg, 0, none⟩) (k + 1) mcap)) b jb js (k + 1)) := HS.out.next HBK.out HJV.out HM.out hgrow (by rw [HJD.out]; show 1 ≤ x; omega) (by rw [HJD.out]; show 0 ≤ y; omega) (by rw [HJD.out]; exact hown1); clear hown1 hgrow hat hlt1)
          all_goals
            go_wp2_with fail
            go_roundw
            case rel => exact ⟨k + 1, by omega, by go_num, HNX.out⟩
            case measure => simp [intOf]; omega
    · obtain rfl : k = n := by omega
      obtain ⟨mb, hp0, hmb0⟩ := HS.out.plan HNN.out h0
      have HP := Lib.hid hp0
      have HMB := Lib.hid hmb0
      clear hp0 hmb0
      go_wp2_with fail
      refine (init_any _ b jb mb js (ms0 js k) 0 HP.out (by rw [ms0_len]; exact h64)).mono ?_
      rintro e w2 ⟨rfl, l, hp2, hperm2, hh2, hw2⟩
      have HF : Hid (NewPost w js (.returned (.tuple #[.pointer (some ⟨b, 0, none⟩), .int .i64 0])) w2) := by
        refine ⟨?_, .inl ⟨fun i hi => HS.out.good i (by rw [HNN.out] at hi; exact hi), b, jb, mb, l, rfl, hp2, hh2, by rw [HNN.out]; exact hperm2, ?_, HS.out.lo.1, ?_, ?_, ?_⟩⟩
        · refine Wrote.below HS.out.below hw2 (fun c hc => ?_)
          have := HS.out.lo; have := HMB.out.1; omega
        · have := HS.out.lo; omega
        · have := HS.out.lo; have := HMB.out.1; omega
        · have := HS.out.lo; have := HS.out.bl; have := hw2.size; omega
        · have := HMB.out.2; have := hw2.size; omega
      clear hp2 hperm2 hh2 hw2
      go_wp2_with fail
      go_ret2
      exact HF.out

theorem below_wrote {B : Nat} {w w1 w2 : World} (h : Below B w w1) {S : Nat → Prop} (k : Wrote w1 w2 S) (hS : ∀ i, S i → B ≤ i) (hB : B ≤ w1.heap.size) : Below B w w2 :=
  h.trans ⟨k.os, k.tape, k.output, k.size, fun i hi => k.block i (by omega) (fun s => by have := hS i s; omega)⟩
theorem plan_none (w : World) : Plan (w.alloc (.cells #[.slice none 0 0, .slice none 0 0, .int .i64 0] 48)) w.heap.size w.heap.size w.heap.size [] [] 0 :=
  ⟨⟨_, _, heap_alloc_new _ _, ⟨World.ownsRow_nil _ _ _ _, .inl rfl⟩, ⟨World.ownsRow_nil _ _ _ _, .inl rfl⟩⟩, (fun _ hm => nomatch hm), .inl rfl⟩
theorem new_none_fin (w w1 w2 : World) (hb1 : Below w.heap.size w w1) (hi : InitPost (w1.alloc (.cells #[.slice none 0 0, .slice none 0 0, .int .i64 0] 48)) w1.heap.size w1.heap.size w1.heap.size [] [] 0 (.returned (.tuple #[])) w2) :
    NewPost w [] (.returned (.tuple #[.pointer (some ⟨w1.heap.size, 0, none⟩), .int .i64 0])) w2 := by
  obtain ⟨_, l, hp2, hperm2, hh2, hw2⟩ := hi
  have hsz := hb1.size
  have hs2 := hw2.size
  rw [alloc_size] at hs2
  exact ⟨below_wrote (hb1.alloc hsz _) hw2 (fun c hc => by omega) (by rw [alloc_size]; omega), .inl ⟨fun i hi => absurd hi (Nat.not_lt_zero _), _, _, _, l, rfl, hp2, hh2, hperm2, hsz, hsz, hsz, by omega, by omega⟩⟩
set_option maxRecDepth 100000 in
set_option maxHeartbeats 4000000 in
theorem new_nil (w : World) : Calls Try.prog 14 #[.slice none 0 0] w (NewPost w []) := by
  go_enter Try.func14, Try.ntmps14
  go_wp2_with fail
  go_loop [17] (fun i => i = .int .i64 0) (fun _ => 0)
  case atStart => rfl
  case round =>
    subst hrel
    go_wp2_with fail
    refine (init_any _ _ _ _ [] [] 0 (plan_none w) (by simp)).mono ?_
    rintro e w2 hi
    have HF : Hid (NewPost w [] (.returned (.tuple #[.pointer (some ⟨(w).heap.size, 0, none⟩), .int .i64 0])) w2) := new_none_fin w _ w2 (Below.refl _ _) (by obtain ⟨he, hi⟩ := hi; exact ⟨rfl, hi⟩)
    obtain ⟨rfl, _⟩ := hi
    go_wp2_with fail
    go_ret2
    exact HF.out
set_option maxRecDepth 100000 in
set_option maxHeartbeats 4000000 in
theorem new_empty (w : World) (ad : Addr) (cap : Nat) : Calls Try.prog 14 #[.slice (some ad) 0 cap] w (NewPost w []) := by
  obtain ⟨i0, hi, hz0, hz1, hz2⟩ := info_parts info36
  go_enter Try.func14, Try.ntmps14
  go_wp2_with (at_builtin; refine wpList_append_own _ rfl _ _ 22 rfl w.heap.size 36 i0 _ 3 24 Try.underlying22 hi hz0 hz1 hz2 rfl (by decide) _ _ _ rfl (World.ownsRow_nil _ _ _ _) ad 0 cap [] rfl rfl (fun j u h => by simp at h) (fun u h => nomatch h) (by decide) (by decide) (Nat.le_refl _) ?_)
  intro v1 w1 hown1 hgrow hnil
  subst hnil
  have HB1 : Hid (Below w.heap.size w w1) := (Below.refl _ _).grown hgrow (Nat.le_refl _) (by intro k hk; cases hk)
  clear hown1 hgrow
  go_wp2_with fail
  go_loop [17] (fun i => i = .int .i64 0) (fun _ => 0)
  case atStart => rfl
  case round =>
    subst hrel
    go_wp2_with fail
    refine (init_any _ _ _ _ [] [] 0 (plan_none w1) (by simp)).mono ?_
    rintro e w2 hi
    have HF : Hid (NewPost w [] (.returned (.tuple #[.pointer (some ⟨(w1).heap.size, 0, none⟩), .int .i64 0])) w2) := new_none_fin w _ w2 HB1.out (by obtain ⟨he, hi⟩ := hi; exact ⟨rfl, hi⟩)
    obtain ⟨rfl, _⟩ := hi
    go_wp2_with fail
    go_ret2
    exact HF.out
theorem new_any (w : World) (v : Value) (js : List Jb) (h : JR w v js) (h64 : js.length ≤ 64) : Calls Try.prog 14 #[v] w (NewPost w js) := by
  rcases h.2 with ⟨rfl, rfl⟩ | ⟨ad, cap, rfl, h1⟩
  · exact new_nil w
  · rcases h1 with rfl | ⟨g, off, rfl, hg, hc⟩
    · exact new_empty w ad cap
    · by_cases h0 : js.length = 0
      · obtain rfl := List.eq_nil_of_length_eq_zero h0
        exact new_empty w _ cap
      · exact new_some w js g off cap hg (by omega) h64 h.1 hc
end Go.Proofs.Ytmkbkjnpgdpffaa
