/- What Of answers, in whatever world. Conditions: the rows can be read. -/
import Derived.Test.YtkgenhoaeiihoaaDec
import Derived.Deep.DeepAppendWide
namespace Go.Proofs.Ytkgenhoaeiihoaa
open Go.RowKit

theorem step_append_wide {P : Program} {w : World} {ops : Array Oper} {o : Oper} {a : Act} {K : Act → World → Prop} {Q : Exit → Act → World → Prop} {E : Prop} (hgd : o.guard = none) (s x : Operand) (t : TypeId)
    (ho : o.op = .call { callee := .builtin .append, args := #[s, x], argTypes := #[t, t] })
    (base : Nat) (e : TypeId) (i : TypeInfo) (z : Value) (size bytes : Nat) (ht : P.underlying t = some (.slice e)) (hi : P.info? e = some i) (hz : i.zero = some z)
    (hsize : i.size = size) (hby : i.bytes = bytes) (hzs : z.cells.size = size) (hsz : 0 < size)
    (v : Value) (n : Nat) (xs : List Value) (hs : a.eval s = v) (hown : w.ownsRow base e size v n xs)
    (ad : Addr) (m c : Nat) (news : List Value) (hx : a.eval x = .slice (some ad) m c) (hl : news.length = m * size) (hnews : ∀ j u, news[j]? = some u → w.cell? (ad.add j) = some u) (h1 : ∀ u ∈ news, u.oneCell' = true)
    (h63 : n + m ≤ maxLen) (hbytes : ((n + m) + (n + m) / 4 + 192) * bytes ≤ 281474976710656) (hbase : base ≤ w.heap.size)
    (h : ∀ v' w', w'.ownsRow base e size v' (n + m) (xs ++ news) → w.grownBy w' v.ownBlock → (v' = .slice none 0 0 ↔ v = .slice none 0 0 ∧ m = 0) → K (a.put o.dst v') w') :
    if Region.wanted o (yielded ops a.tmps) = true then Oper.wp P o a w K Q else E := by
  have hw : Region.wanted o (yielded ops a.tmps) = true := by simp [Region.wanted, hgd]
  rw [if_pos hw]
  exact wp_append_own_wide w s x t ho base e i z size bytes ht hi hz hsize hby hzs hsz v n xs hs hown ad m c news hx hl hnews h1 h63 hbytes hbase h
/-- A list of numbers that can be read. -/
def Ints (w : World) (v : Value) (r : List Int) : Prop := ∃ A cap, v = .slice A r.length cap ∧ (r = [] ∨ ∃ g off, A = some ⟨g, off, none⟩ ∧ g < w.heap.size ∧ ∀ i, i < r.length → w.cell? ⟨g, off + i, none⟩ = some (.int .i64 (r.getD i 0)))
/-- Rows of numbers that can be read. -/
def RR (w : World) (v : Value) (rows : List (List Int)) : Prop := rows.length * 24 ≤ 140737488351232 ∧ ∃ A cap, v = .slice A rows.length cap ∧ (rows = [] ∨ ∃ g off, A = some ⟨g, off, none⟩ ∧ g < w.heap.size ∧ ∀ i, i < rows.length → ∃ u, w.cell? ⟨g, off + i, none⟩ = some u ∧ Ints w u (rows.getD i []))
theorem Ints.below {w w1 : World} {v : Value} {r : List Int} (h : Ints w v r) (hb : Below w.heap.size w w1) : Ints w1 v r := by
  obtain ⟨A, cap, hv, h1⟩ := h
  refine ⟨A, cap, hv, ?_⟩
  rcases h1 with h1 | ⟨g, off, ha, hg, hc⟩
  · exact .inl h1
  · exact .inr ⟨g, off, ha, Nat.lt_of_lt_of_le hg hb.size, fun i hi => (hb.cell (p := ⟨g, off + i, none⟩) hg).trans (hc i hi)⟩
theorem RR.below {w w1 : World} {v : Value} {rows : List (List Int)} (h : RR w v rows) (hb : Below w.heap.size w w1) : RR w1 v rows := by
  obtain ⟨h0, A, cap, hv, h1⟩ := h
  refine ⟨h0, A, cap, hv, ?_⟩
  rcases h1 with h1 | ⟨g, off, ha, hg, hc⟩
  · exact .inl h1
  · refine .inr ⟨g, off, ha, Nat.lt_of_lt_of_le hg hb.size, fun i hi => ?_⟩
    obtain ⟨u, hu, hr⟩ := hc i hi
    exact ⟨u, (hb.cell (p := ⟨g, off + i, none⟩) hg).trans hu, hr.below hb⟩
theorem chk_many {xs : List It} (h : 64 < xs.length) : chk xs = 4 := by unfold chk; rw [if_pos h]
def rowOk (r : List Int) : Bool := decide (r.length = 5 ∧ 1 ≤ r.getD 0 0 ∧ r.getD 0 0 ≤ 7 ∧ r.getD 4 0 = 0)
def rowIt (r : List Int) : It := ⟨r.getD 0 0, r.getD 1 0, r.getD 2 0, r.getD 3 0⟩
def ofC (rows : List (List Int)) : Int := if rows.all rowOk then chk (rows.map rowIt) else 191
def ofI (rows : List (List Int)) : List It := if ofC rows = 0 then rows.map rowIt else []
def OfPost (w : World) (rows : List (List Int)) (e : Ending) (w' : World) : Prop := ∃ v, e = .returned (.tuple #[v, .int .i64 (ofC rows)]) ∧ IR w' v (ofI rows) ∧ Below w.heap.size w w'
theorem of_bad {w w' : World} {rows : List (List Int)} {k : Nat} (hk : k < rows.length) (hr : rowOk (rows.getD k []) = false) (hb : Below w.heap.size w w') : OfPost w rows (.returned (.tuple #[.slice none 0 0, .int .i64 191])) w' := by
  have hall : rows.all rowOk = false := by
    rw [List.all_eq_false]
    refine ⟨rows[k], List.getElem_mem hk, ?_⟩
    rw [List.getD_eq_getElem?_getD, List.getElem?_eq_getElem hk] at hr
    rw [show rowOk rows[k] = false from hr]
    decide
  have hc : ofC rows = 191 := by unfold ofC; rw [hall]; rfl
  refine ⟨_, by rw [hc], ?_, hb⟩
  unfold ofI
  rw [hc, if_neg (by decide)]
  exact ⟨by simp, .inl ⟨rfl, rfl⟩⟩
theorem of_end {w w2 w' : World} {rows : List (List Int)} {v : Value} (hall : ∀ i, i < rows.length → rowOk (rows.getD i []) = true) (hr : RowS w w2 v (rows.map rowIt)) (hb : Below w2.heap.size w2 w') :
    OfPost w rows (.returned (.tuple #[if chk (rows.map rowIt) = 0 then v else .slice none 0 0, .int .i64 (chk (rows.map rowIt))])) w' := by
  have ha : rows.all rowOk = true := by
    rw [List.all_eq_true]
    intro r hm
    obtain ⟨i, hi, rfl⟩ := List.getElem_of_mem hm
    have := hall i hi
    rw [List.getD_eq_getElem?_getD, List.getElem?_eq_getElem hi] at this
    exact this
  have hc : ofC rows = chk (rows.map rowIt) := by unfold ofC; rw [ha]; rfl
  refine ⟨_, by rw [hc], ?_, below_next hr.below hb⟩
  unfold ofI
  rw [hc]
  by_cases hz : chk (rows.map rowIt) = 0
  · rw [if_pos hz, if_pos hz]
    have hl : (rows.map rowIt).length ≤ 64 := by
      by_cases h : 64 < (rows.map rowIt).length
      · rw [chk_many h] at hz; exact absurd hz (by decide)
      · omega
    exact (ir_own hr.own (by omega)).below hb
  · rw [if_neg hz, if_neg hz]
    exact ⟨by simp, .inl ⟨rfl, rfl⟩⟩
theorem take_it (rows : List (List Int)) (k : Nat) (hk : k < rows.length) : (rows.take (k + 1)).map rowIt = (rows.take k).map rowIt ++ [rowIt (rows.getD k [])] := by
  rw [List.take_succ_eq_append_getElem hk, List.map_append, List.getD_eq_getElem?_getD, List.getElem?_eq_getElem hk]
  rfl
set_option maxRecDepth 100000 in
theorem check_many (w : World) (A : Option Addr) (n cap : Nat) (h : 64 < n) : Calls Try.prog 11 #[.slice A n cap] w fun e w' => e = .returned (.int .i64 4) ∧ w' = w := by
  go_enter Try.func11, Try.ntmps11
  go_wp2_with fail
  go_ret
  exact ⟨rfl, rfl⟩
set_option maxRecDepth 100000 in
theorem rcheck_many (w : World) (A : Option Addr) (n cap : Nat) (h : 64 < n) : Calls Try.prog 14 #[.slice A n cap] w fun e w' => e = .returned (.int .i64 4) ∧ w' = w := by
  go_enter Try.func14, Try.ntmps14
  go_wp2_with fail
  go_ret
  exact ⟨rfl, rfl⟩
theorem RowS.form {w wr : World} {v : Value} {xs : List It} (h : RowS w wr v xs) : ∃ A cap, v = .slice A xs.length cap := by
  rcases h.own.2 with ⟨hv, hn⟩ | ⟨g, cap, cur, hv, _⟩
  · exact ⟨none, 0, by rw [hv, hn]⟩
  · exact ⟨_, cap, hv⟩
/-- Check, of what was just made: however many. -/
theorem check_row (w wr : World) (v : Value) (xs : List It) (h : RowS w wr v xs) : Calls Try.prog 11 #[v] wr (ChkPost wr xs) := by
  by_cases h64 : 64 < xs.length
  · obtain ⟨A, cap, rfl⟩ := h.form
    refine (check_many wr A _ cap h64).mono ?_
    rintro e w1 ⟨rfl, rfl⟩
    exact ⟨by rw [chk_many h64], Below.refl _ _⟩
  · exact check_any wr v xs (ir_own h.own (by omega))
theorem rcheck_row (w wr : World) (v : Value) (xs : List It) (h : RowS w wr v xs) : Calls Try.prog 14 #[v] wr (ChkPost wr xs) := by
  by_cases h64 : 64 < xs.length
  · obtain ⟨A, cap, rfl⟩ := h.form
    refine (rcheck_many wr A _ cap h64).mono ?_
    rintro e w1 ⟨rfl, rfl⟩
    exact ⟨by rw [chk_many h64], Below.refl _ _⟩
  · exact rcheck_any wr v xs (ir_own h.own (by omega))
set_option maxRecDepth 100000 in
theorem sound_row (w wr : World) (v : Value) (xs : List It) (h : RowS w wr v xs) : Calls Try.prog 36 #[v] wr (SoundPost wr v xs) := by
  have HC := Lib.hid (check_row w wr v xs h)
  obtain ⟨A, cap, hv⟩ := h.form
  clear h
  subst hv
  go_enter Try.func36, Try.ntmps36
  go_wp2_with fail
  refine HC.out.mono ?_
  rintro e w1 ⟨rfl, hb1⟩
  have HF : Hid (SoundPost wr (.slice A xs.length cap) xs (.returned (.tuple #[if chk xs = 0 then (.slice A xs.length cap) else .slice none 0 0, .int .i64 (chk xs)])) w1) := ⟨rfl, hb1⟩
  clear hb1 HC
  by_cases hck : chk xs = 0
  · rw [hck] at HF ⊢
    rw [if_pos rfl] at HF
    go_wp2_with fail
    go_ret2
    exact HF.out
  · rw [if_neg hck] at HF
    have hne : (chk xs != 0) = true := by rw [bne_iff_ne]; exact hck
    clear hck
    generalize chk xs = c at *
    go_wp2_with fail
    go_ret2
    exact HF.out
set_option maxRecDepth 100000 in
set_option maxHeartbeats 4000000 in
theorem of_some (w : World) (rows : List (List Int)) (g off cap : Nat) (hb : rows.length * 24 ≤ 140737488351232) (hg : g < w.heap.size) (hc : ∀ i, i < rows.length → ∃ u, w.cell? ⟨g, off + i, none⟩ = some u ∧ Ints w u (rows.getD i [])) :
    Calls Try.prog 28 #[.slice (some ⟨g, off, none⟩) rows.length cap] w (OfPost w rows) := by
  obtain ⟨i0, hi, hz0, hz1, hz2⟩ := info_parts info45
  have HC := Lib.hid hc
  clear hc
  generalize hn : rows.length = n at *
  have HN := Lib.hid hn
  clear hn
  go_enter Try.func28, Try.ntmps28
  go_wp2_with fail
  go_loopg [4, 9] n (fun gh v kv wr => ∃ k : Nat, k ≤ n ∧ gh = n - k ∧ kv = .int .i64 k ∧ Hid (∀ i, i < k → rowOk (rows.getD i []) = true) ∧ RowS w wr v ((rows.take k).map rowIt))
  case atStart => exact ⟨0, Nat.zero_le _, rfl, rfl, fun i hi => absurd hi (Nat.not_lt_zero _), ⟨World.ownsRow_nil _ _ _ _, Below.refl _ _⟩⟩
  case round =>
    obtain ⟨k, hk, hgk, rfl, HOK, hrow⟩ := hrel
    have HG := Lib.hid hgk
    have HW := Lib.hid hrow
    clear hgk hrow
    by_cases hlt : k < n
    · obtain ⟨u, hu, hr⟩ := HC.out k hlt
      have hcell := (HW.out.below.cell (p := ⟨g, off + k, none⟩) hg).trans hu
      obtain ⟨A, cap', rfl, hr2⟩ := hr
      have HBAD : Hid (rowOk (rows.getD k []) = false → ∀ w', Below w.heap.size w w' → OfPost w rows (.returned (.tuple #[.slice none 0 0, .int .i64 191])) w') := fun h w' hb => of_bad (by rw [HN.out]; exact hlt) h hb
      have hlt0 : k < rows.length := by rw [HN.out]; exact hlt
      have HTK := Lib.hid (take_it rows k hlt0)
      have HOKN0 : Hid (rowOk (rows.getD k []) = true → ∀ i, i < k + 1 → rowOk (rows.getD i []) = true) := fun h i hi => by
        by_cases hik : i < k
        · exact HOK.out i hik
        · obtain rfl : i = k := by omega
          exact h
      have HXL : Hid (((rows.take k).map rowIt).length = k) := by unfold Hid; rw [List.length_map, List.length_take]; omega
      generalize rows.getD k [] = r at *
      by_cases h5 : r.length = 5
      · have hr3 := hr2.resolve_left (fun h => by rw [h] at h5; cases h5)
        obtain ⟨g', off', rfl, hg', hcc⟩ := hr3
        rw [h5] at hcell hcc
        have q0 := (HW.out.below.cell (p := ⟨g', off' + 0, none⟩) hg').trans (hcc 0 (by decide))
        have q1 := (HW.out.below.cell (p := ⟨g', off' + 1, none⟩) hg').trans (hcc 1 (by decide))
        have q2 := (HW.out.below.cell (p := ⟨g', off' + 2, none⟩) hg').trans (hcc 2 (by decide))
        have q3 := (HW.out.below.cell (p := ⟨g', off' + 3, none⟩) hg').trans (hcc 3 (by decide))
        have q4 := (HW.out.below.cell (p := ⟨g', off' + 4, none⟩) hg').trans (hcc 4 (by decide))
        rw [Nat.add_zero] at q0
        have HRI : Hid (rowIt r = ⟨r.getD 0 0, r.getD 1 0, r.getD 2 0, r.getD 3 0⟩) := rfl
        have HRO : Hid (rowOk r = decide (1 ≤ r.getD 0 0 ∧ r.getD 0 0 ≤ 7 ∧ r.getD 4 0 = 0)) := by unfold Hid rowOk; simp [h5]
        clear hcc hr2 h5 hlt0
        generalize r.getD 0 0 = x0 at *
        generalize r.getD 1 0 = x1 at *
        generalize r.getD 2 0 = x2 at *
        generalize r.getD 3 0 = x3 at *
        generalize r.getD 4 0 = x4 at *
        by_cases h17 : 1 ≤ x0 ∧ x0 ≤ 7
        · by_cases h4 : x4 = 0
          · have HOK2 : Hid (rowOk r = true) := by unfold Hid; rw [HRO.out]; exact decide_eq_true ⟨h17.1, h17.2, h4⟩
            subst h4
            have HOKN := Lib.hid (HOKN0.out HOK2.out)
            have hown := HW.out.own
            rw [HXL.out] at hown
            have hbl := HW.out.below.size
            generalize hxx : ((rows.take k).map rowIt).flatMap itL = xl at *
            have HXX := Lib.hid hxx
            clear hxx
            have HFT := Lib.hid (from_t wr x0 1 7 h17)
            have hw8 : IntKind.u8.wrap x0 = x0 := IntWalk.u8_in _ (by omega)
            clear h17 HRO HOK2 HBAD HOKN0
            go_wp2_with fail
            refine HFT.out.mono ?_
            rintro e w2 ⟨rfl, hw2⟩
            subst hw2
            go_wp2_with fail
            go_region_law (refine step_append_wide rfl _ _ 22 rfl w.heap.size 45 i0 _ 4 32 Try.underlying22 hi hz0 hz1 hz2 rfl (by decide) u4 k xl rfl (by have h := hown.alloc (.cells #[.int .u8 x0, .int .i64 x1, .int .i64 x2, .int .i64 x3] 45); exact ⟨h.1, h.2⟩) _ 1 1 [.int .u8 x0, .int .i64 x1, .int .i64 x2, .int .i64 x3] rfl rfl (World.news_of_block (cs := #[.int .u8 x0, .int .i64 x1, .int .i64 x2, .int .i64 x3]) (heap_alloc_new w2 _)) (it_one4 _ _ _ _) (by unfold maxLen; omega) (by omega) (by simp; omega) ?_; intro vx wx hown1 hgrow _; have HRX : Hid (RowS w wx vx ((rows.take (k + 1)).map rowIt)) := (by unfold Hid; rw [HTK.out]; refine HW.out.add (n := 1) (x := rowIt r) hgrow ?_; rw [HRI.out, HXL.out, HXX.out]; exact hown1); have hsx := HRX.out.below.size; clear hown1 hgrow)
            all_goals
              go_wp2_with fail
              go_roundg (n - (k + 1))
              case measure => have := HG.out; omega
              case rel => exact ⟨k + 1, by omega, rfl, by go_num, HOKN.out, HRX.out⟩
          · have h4n : (x4 != 0) = true := by rw [bne_iff_ne]; exact h4
            have HF := Lib.hid (HBAD.out (by rw [HRO.out]; exact decide_eq_false (fun h => h4 h.2.2)) wr HW.out.below)
            have HFT := Lib.hid (from_t wr x0 1 7 h17)
            clear h4 h17 HBAD HRO HTK HRI
            go_wp2_with fail
            refine HFT.out.mono ?_
            rintro e w2 ⟨rfl, hw2⟩
            subst hw2
            go_wp2_with fail
            go_ret2
            exact HF.out
        · have HF := Lib.hid (HBAD.out (by rw [HRO.out]; exact decide_eq_false (fun h => h17 ⟨h.1, h.2.1⟩)) wr HW.out.below)
          have HFT := Lib.hid (from_f wr x0 1 7 h17)
          clear h17 HBAD HRO HTK HRI
          go_wp2_with fail
          refine HFT.out.mono ?_
          rintro e w2 ⟨rfl, hw2⟩
          subst hw2
          go_wp2_with fail
          go_ret2
          exact HF.out
      · have hne : ((r.length : Int) != 5) = true := by rw [bne_iff_ne]; omega
        have HF := Lib.hid (HBAD.out (by unfold rowOk; exact decide_eq_false (fun h => h5 h.1)) wr HW.out.below)
        clear h5 HBAD hr2 HTK hlt0
        go_wp2_with fail
        go_ret2
        exact HF.out
    · obtain rfl : k = n := by omega
      have HR2 : Hid (RowS w wr u4 (rows.map rowIt)) := by have := HW.out; rw [← HN.out, List.take_length] at this; exact this
      have HOE := Lib.hid (fun W' hb => of_end (rows := rows) (by rw [HN.out]; exact HOK.out) HR2.out (w' := W') hb)
      have HSR := Lib.hid (sound_row w wr u4 _ HR2.out)
      clear HOK HR2 HW
      go_wp2_with fail
      refine HSR.out.mono ?_
      rintro e w2 ⟨rfl, hb2⟩
      have HF := Lib.hid (HOE.out w2 hb2)
      clear hb2 HOE HSR
      generalize (if chk (rows.map rowIt) = 0 then u4 else Value.slice none 0 0) = vv at *
      generalize chk (rows.map rowIt) = cc at *
      go_wp2_with fail
      go_ret2
      exact HF.out
set_option maxRecDepth 100000 in
theorem of_none (w : World) (A : Option Addr) (cap : Nat) : Calls Try.prog 28 #[.slice A 0 cap] w (OfPost w []) := by
  have HR2 : Hid (RowS w w (.slice none 0 0) []) := ⟨World.ownsRow_nil _ _ _ _, Below.refl _ _⟩
  have HOE := Lib.hid (fun W' hb => of_end (rows := []) (fun _ hi => absurd hi (Nat.not_lt_zero _)) HR2.out (w' := W') hb)
  have HSR := Lib.hid (sound_row w w (.slice none 0 0) _ HR2.out)
  go_enter Try.func28, Try.ntmps28
  go_wp2_with fail
  go_loop [4, 9] (fun v i => v = .slice none 0 0 ∧ i = .int .i64 0) (fun _ _ => 0)
  case atStart => exact ⟨rfl, rfl⟩
  case round =>
    obtain ⟨rfl, rfl⟩ := hrel
    go_wp2_with fail
    refine HSR.out.mono ?_
    rintro e w2 ⟨rfl, hb2⟩
    have HF := Lib.hid (HOE.out w2 hb2)
    have hz : chk [] = 0 := by decide
    rw [List.map_nil, hz, if_pos rfl] at HF
    rw [hz, if_pos rfl]
    clear hb2 HOE HSR
    go_wp2_with fail
    go_ret2
    exact HF.out
theorem of_any (w : World) (v : Value) (rows : List (List Int)) (h : RR w v rows) : Calls Try.prog 28 #[v] w (OfPost w rows) := by
  obtain ⟨h0, A, cap, rfl, h1⟩ := h
  rcases h1 with rfl | ⟨g, off, rfl, hg, hc⟩
  · exact of_none w A cap
  · exact of_some w rows g off cap h0 hg hc
end Go.Proofs.Ytkgenhoaeiihoaa
