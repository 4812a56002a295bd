/- What the document's Due answers, in whatever world. Conditions: the jobs can be read, and are sound. -/
import Derived.Test.YtmkbkjnpgdpffaaKept
namespace Go.Proofs.Ytmkbkjnpgdpffaa
open Go.RowKit

set_option maxRecDepth 100000 in
theorem is_any (w : World) (p q r t : Int) (hp : 1 ≤ p) (hq : 0 ≤ q) (ht0 : 0 ≤ t) (ht : t ≤ 1000000) : Calls Try.prog 20 #[.agg #[.int .i64 p, .int .i64 q, .int .i64 r], .int .i64 t] w fun e w' => e = .returned (.bool (decide (q ≤ t) && decide ((t - q) % p = 0))) ∧ Below w.heap.size w w' := by
  by_cases h : q ≤ t
  · have hr1 := Int.emod_nonneg (t - q) (show p ≠ 0 by omega)
    by_cases h2 : (t - q) % p = 0
    · have hz : ((t - q) % p == 0) = true := by simp [h2]
      have HF : Hid ((decide (q ≤ t) && decide ((t - q) % p = 0)) = true) := by unfold Hid; simp [h, h2]
      clear h2
      go_enter Try.func20, Try.ntmps20
      go_wp2_with fail
      go_ret
      exact ⟨by rw [HF.out]; rfl, below_alloc1 _ _⟩
    · have hz : ((t - q) % p == 0) = false := by simp [h2]
      have HF : Hid ((decide (q ≤ t) && decide ((t - q) % p = 0)) = false) := by unfold Hid; simp [h2]
      clear h2
      go_enter Try.func20, Try.ntmps20
      go_wp2_with fail
      go_ret
      exact ⟨by rw [HF.out]; rfl, below_alloc1 _ _⟩
  · have HF : Hid ((decide (q ≤ t) && decide ((t - q) % p = 0)) = false) := by unfold Hid; simp [h]
    go_enter Try.func20, Try.ntmps20
    go_wp2_with fail
    go_ret
    exact ⟨by rw [HF.out]; rfl, below_alloc1 _ _⟩
theorem ownsRow_base {w : World} {B B' : Nat} {e : TypeId} {size n : Nat} {v : Value} {xs : List Value} (h : w.ownsRow B e size v n xs) (hB : B' ≤ B) : w.ownsRow B' e size v n xs := by
  refine ⟨h.1, ?_⟩
  rcases h.2 with h1 | ⟨g, cap, cur, h1, h2, h3⟩
  · exact .inl h1
  · exact .inr ⟨g, cap, cur, h1, by omega, h3⟩
theorem isB_of (js : List Jb) (t : Int) (k : Nat) (hk : k < js.length) (x y z : Int) (h : js.getD k jd = ⟨x, y, z⟩) : isB js t k = (decide (y ≤ t) && decide ((t - y) % x = 0)) := by
  unfold isB ph
  rw [pr_get js k hk, h]
theorem dueTo_len (js : List Jb) (t : Int) (i : Nat) : (dueTo js t i).length ≤ i := by
  have h := (dueTo_ok js t i).2.length_eq
  have h2 := List.length_filter_le (isB js t) (List.range i)
  rw [List.length_range] at h2
  omega
theorem dueTo_lt (js : List Jb) (t : Int) (i : Nat) : ∀ x ∈ dueTo js t i, x < i := fun _ hx => List.mem_range.1 (List.mem_filter.1 ((dueTo_ok js t i).2.mem_iff.1 hx)).1
structure OutS (w wr : World) (js : List Jb) (t : Int) (v : Value) (i : Nat) : Prop where
  own : wr.ownsRow w.heap.size 3 1 v (dueTo js t i).length ((dueTo js t i).map intL)
  below : Below w.heap.size w wr
theorem OutS.skip {w wr w1 : World} {js : List Jb} {t : Int} {v : Value} {i : Nat} (h : OutS w wr js t v i) (hb : Below wr.heap.size wr w1) (hi : isB js t i = false) : OutS w w1 js t v (i + 1) := by
  have e : dueTo js t (i + 1) = dueTo js t i := by conv => lhs; unfold dueTo
                                                   rw [if_neg (by rw [hi]; decide)]
  refine ⟨?_, below_next h.below hb⟩
  rw [e]
  exact ownsRow_kept h.own (Wrote.of_below hb (fun _ => False)) (fun _ hf => hf.elim)
theorem take_news {w : World} {B g cap : Nat} {L : List Nat} (h : w.ownsRow B 3 1 (.slice (some ⟨g, 0, none⟩) L.length cap) L.length (L.map intL)) (m : Nat) : ∀ (j : Nat) (u : Value), ((L.map intL).take m)[j]? = some u → w.cell? ((⟨g, 0, none⟩ : Addr).add j) = some u := by
  intro j u hu
  rw [List.getElem?_take] at hu
  split at hu
  · exact h.cells rfl j u hu
  · cases hu
theorem drop_news {w w1 : World} {B g cap : Nat} {L : List Nat} (h : w.ownsRow B 3 1 (.slice (some ⟨g, 0, none⟩) L.length cap) L.length (L.map intL)) (hb : Below w.heap.size w w1) (m : Nat) : ∀ (j : Nat) (u : Value), ((L.map intL).drop m)[j]? = some u → w1.cell? ((⟨g, m, none⟩ : Addr).add j) = some u := by
  intro j u hu
  rw [List.getElem?_drop] at hu
  have h1 := h.cells rfl (m + j) u hu
  have e1 : (⟨g, 0, none⟩ : Addr).add (m + j) = ⟨g, m + j, none⟩ := by unfold Addr.add; split <;> simp_all
  have e2 : (⟨g, m, none⟩ : Addr).add j = ⟨g, m + j, none⟩ := by unfold Addr.add; split <;> simp_all
  rw [e1] at h1
  rw [e2]
  exact (hb.cell (p := ⟨g, m + j, none⟩) (h.lt g rfl).2).trans h1
theorem int_ones (L : List Nat) : ∀ u ∈ L.map intL, u.oneCell' = true := by
  intro u hu
  obtain ⟨a, _, rfl⟩ := List.mem_map.1 hu
  rfl
theorem take_ones (L : List Nat) (m : Nat) : ∀ u ∈ (L.map intL).take m, u.oneCell' = true := fun u hu => int_ones L u (List.mem_of_mem_take hu)
theorem drop_ones (L : List Nat) (m : Nat) : ∀ u ∈ (L.map intL).drop m, u.oneCell' = true := fun u hu => int_ones L u (List.mem_of_mem_drop hu)
theorem OutS.next {w wq wc : World} {js : List Jb} {t : Int} {v : Value} {k m : Nat} {L : List Nat} (hb : Below w.heap.size w wq) (hc : Below wq.heap.size wq wc) (hi : isB js t k = true) (hL : dueTo js t k = L) (hm : place js L (rk js k) L.length = m) (hml : m ≤ L.length)
    (ho : wc.ownsRow wq.heap.size 3 1 v (m + 1 + (L.length - m)) ((L.map intL).take m ++ [.int .i64 (k : Int)] ++ (L.map intL).drop m)) : OutS w wc js t v (k + 1) := by
  have e : dueTo js t (k + 1) = L.take m ++ k :: L.drop m := by
    conv => lhs; unfold dueTo
    rw [if_pos hi, hL]
    unfold ins
    rw [hm]
  refine ⟨?_, below_next hb hc⟩
  have e1 : (dueTo js t (k + 1)).length = m + 1 + (L.length - m) := by
    rw [e, List.length_append, List.length_cons, List.length_take, List.length_drop]
    omega
  have e2 : (dueTo js t (k + 1)).map intL = (L.map intL).take m ++ [.int .i64 (k : Int)] ++ (L.map intL).drop m := by
    rw [e, List.map_append, List.map_cons, List.map_take, List.map_drop, List.append_assoc]
    rfl
  rw [e1, e2]
  exact ownsRow_base ho hb.size
set_option maxRecDepth 100000 in
set_option maxHeartbeats 4000000 in
theorem refDue_some (w : World) (js : List Jb) (g off cap : Nat) (t : Nat) (hg : g < w.heap.size) (hs : Sound js) (ht : t ≤ 1000000)
    (hc : ∀ i, i < js.length → w.cell? ⟨g, off + i * 3, none⟩ = some (.int .i64 (js.getD i jd).period) ∧ w.cell? ⟨g, off + i * 3 + 1, none⟩ = some (.int .i64 (js.getD i jd).phase) ∧ w.cell? ⟨g, off + i * 3 + 2, none⟩ = some (.int .i64 (js.getD i jd).rank)) :
    Calls Try.prog 12 #[.slice (some ⟨g, off, none⟩) js.length cap, .int .i64 (t : Int)] w fun e w' => ∃ v, e = .returned v ∧ OutS w w' js t v js.length := by
  have HC := Lib.hid hc
  have HS := Lib.hid hs
  have hfew := hs.few
  obtain ⟨i0, hi, hz0, hz1, hz2⟩ := info_parts info3
  clear hc hs
  generalize hn : js.length = n at *
  have HN := Lib.hid hn
  clear hn
  go_enter Try.func12, Try.ntmps12
  go_wp2_with fail
  go_loopg [5, 6] n (fun gh u i wr => ∃ k : Nat, k ≤ n ∧ gh = n - k ∧ i = .int .i64 k ∧ OutS w wr js t u k)
  case atStart => exact ⟨0, Nat.zero_le _, rfl, rfl, World.ownsRow_nil _ _ _ _, Below.refl _ _⟩
  case round =>
    obtain ⟨k, hk, hgk, rfl, ho⟩ := hrel
    have HO := Lib.hid ho
    have HG := Lib.hid hgk
    clear ho hgk
    by_cases hlt : k < n
    · obtain ⟨p0, p1, p2⟩ := HC.out k hlt
      have c0 := (HO.out.below.cell (p := ⟨g, off + k * 3, none⟩) hg).trans p0
      have c1 := (HO.out.below.cell (p := ⟨g, off + k * 3 + 1, none⟩) hg).trans p1
      have c2 := (HO.out.below.cell (p := ⟨g, off + k * 3 + 2, none⟩) hg).trans p2
      have hgood := HS.out.good k (by rw [HN.out]; exact hlt)
      have HJD : Hid (js.getD k jd = ⟨(js.getD k jd).period, (js.getD k jd).phase, (js.getD k jd).rank⟩) := rfl
      clear p0 p1 p2
      generalize (js.getD k jd).period = x at *
      generalize (js.getD k jd).phase = y at *
      generalize (js.getD k jd).rank = z at *
      obtain ⟨hx, hy⟩ := hgood
      have HI : Hid (isB js t k = (decide (y ≤ (t : Int)) && decide (((t : Int) - y) % x = 0))) := isB_of js t k (by rw [HN.out]; exact hlt) x y z HJD.out
      go_wp2_with fail
      refine (is_any wr x y z t hx hy (by omega) (by omega)).mono ?_
      rintro e w1 ⟨rfl, hb1⟩
      have HB1 := Lib.hid hb1
      clear hb1
      rw [← HI.out]
      cases hib : isB js t k with
      | false =>
        have HNX := Lib.hid (HO.out.skip HB1.out hib)
        clear hib
        go_wp2_with fail
        go_roundg (n - (k + 1))
        case measure => have := HG.out; omega
        case rel => exact ⟨k + 1, by omega, rfl, by go_num, HNX.out⟩
      | true =>
        have HIB := Lib.hid hib
        clear hib HI
        have HBW1 := Lib.hid (below_next HO.out.below HB1.out)
        have HOW : Hid (w1.ownsRow w.heap.size 3 1 u5 (dueTo js t k).length ((dueTo js t k).map intL)) := ownsRow_kept HO.out.own (Wrote.of_below HB1.out (fun _ => False)) (fun _ h => h.elim)
        have hLl : (dueTo js t k).length ≤ 64 := Nat.le_trans (dueTo_len js t k) (by omega)
        have HLT : Hid (∀ x ∈ dueTo js t k, x < k) := dueTo_lt js t k
        have HRK : Hid (∀ i, i < js.length → rk js i = (js.getD i jd).rank) := fun i hi => rk_getD js i hi
        have HRZ : Hid (rk js k = z) := by
          have := HRK.out k (by rw [HN.out]; exact hlt)
          rw [HJD.out] at this
          exact this
        clear HO HB1 HJD c0 c1 c2
        obtain ⟨L, HLQ⟩ : ∃ L, Hid (dueTo js t k = L) := ⟨_, rfl⟩
        rw [HLQ.out] at HOW hLl HLT
        rcases HOW.out.2 with ⟨hu, hL0⟩ | ⟨g5, cap5, cur5, hu, hgb5, hcur5, hcap5, hcm5, _⟩
        · subst hu
          have hL0' : L = [] := List.eq_nil_of_length_eq_zero hL0
          subst hL0'
          go_wp2_with fail
          go_loopw [7] (fun a wr => a = .int .i64 0 ∧ Below w1.heap.size w1 wr) (fun _ _ => 0)
          case atStart => exact ⟨rfl, Below.refl _ _⟩
          case round =>
            obtain ⟨rfl, hbq⟩ := hrel
            have HBQ := Lib.hid hbq
            clear hbq
            have hd : decide ((0 : Int) < 0) = false := by simp
            go_wp2_with fail
            go_quiet (fail)
            generalize hwq : wr.drewN nq = wq
            have HBW : Hid (Below w.heap.size w wq) := by
              rw [← hwq]
              exact (below_next HBW1.out HBQ.out).trans ⟨rfl, rfl, rfl, Nat.le_refl _, fun _ _ => rfl⟩
            clear hwq HOW HBQ
            go_wp2_with (at_builtin; refine wpList_append_own _ rfl (.tmp 50) (.tmp 52) 28 rfl wq.heap.size 3 i0 (.int .i64 0) 1 8 Try.underlying28 hi hz0 hz1 hz2 rfl (by decide) _ 0 _ rfl (World.ownsRow_nil _ _ _ _) ⟨wq.heap.size, 0, none⟩ 1 1 [.int .i64 (k : Int)] rfl rfl (one_cell _ _ _) ?c0 ?c1 ?c2 ?c3 ?_)
            case c0 => simp [Value.oneCell']
            case c1 => decide
            case c2 => omega
            case c3 => rw [alloc_size]; omega
            intro vb wb hown2 hgrow2 _
            have HO2 := Lib.hid hown2
            have HB3 : Hid (Below wq.heap.size wq wb) := (below_alloc1 wq _).grown hgrow2 (by rw [alloc_size]; omega) (by intro c hc; cases hc)
            clear hown2 hgrow2
            go_wp2_with (at_builtin; refine wpList_append_own_none rfl (.tmp 54) (.tmp 57) 28 rfl wq.heap.size 3 i0 1 Try.underlying28 hi _ _ _ rfl HO2.out rfl ?_)
            have HNX : Hid (OutS w wb js t vb (k + 1)) := OutS.next (m := 0) (L := []) HBW.out HB3.out HIB.out HLQ.out rfl (Nat.le_refl _) HO2.out
            clear HO2 HB3
            go_wp2_with fail
            go_roundg (n - (k + 1))
            case measure => have := HG.out; omega
            case rel => exact ⟨k + 1, by omega, rfl, by go_num, HNX.out⟩
        · subst hu
          have hgl5 := lt_of_at hcur5
          clear hcur5
          go_wp2_with fail
          go_loopw [7] (fun a wr => ∃ m : Nat, m ≤ L.length ∧ a = .int .i64 m ∧ Hid (place js L (rk js k) L.length = place js L (rk js k) m) ∧ Below w1.heap.size w1 wr) (fun a _ => (intOf a).toNat)
          case atStart => exact ⟨_, Nat.le_refl _, rfl, rfl, Below.refl _ _⟩
          case round =>
            obtain ⟨m, hm, rfl, HPL, hbq⟩ := hrel
            have HBQ := Lib.hid hbq
            clear hbq
            by_cases h0 : m = 0
            · subst h0
              have hd : decide ((0 : Int) < 0) = false := by simp
              have HM : Hid (place js L (rk js k) L.length = 0) := HPL.out
              go_wp2_with fail
              go_quiet (fail)
              generalize hwq : wr.drewN nq = wq
              have HOQ : Hid (wq.ownsRow w.heap.size 3 1 (.slice (some ⟨g5, 0, none⟩) L.length cap5) L.length (L.map intL)) := by
                have h1 := ownsRow_kept HOW.out (Wrote.of_below HBQ.out (fun _ => False)) (fun _ h => h.elim)
                rw [← hwq]
                exact ⟨h1.1, h1.2⟩
              have HBW : Hid (Below w.heap.size w wq) := by
                rw [← hwq]
                exact (below_next HBW1.out HBQ.out).trans ⟨rfl, rfl, rfl, Nat.le_refl _, fun _ _ => rfl⟩
              clear hwq HOW HBQ HPL

              have hcap5i : L.length ≤ cap5 := hcap5
              have hcap5j : cap5 ≤ 9223372036854775807 := by unfold maxLen at hcm5; omega
              go_wp2_with (at_builtin; refine wpList_append_own _ rfl (.tmp 45) (.tmp 48) 28 rfl wq.heap.size 3 i0 (.int .i64 0) 1 8 Try.underlying28 hi hz0 hz1 hz2 rfl (by decide) _ 0 _ rfl (World.ownsRow_nil _ _ _ _) ⟨g5, 0, none⟩ 0 cap5 ((L.map intL).take 0) rfl ?l1 (take_news HOQ.out 0) (take_ones L 0) ?c1 ?c2 ?c3 ?_)
              case l1 => rw [List.length_take, List.length_map]; omega
              case c1 => unfold maxLen; omega
              case c2 => omega
              case c3 => exact Nat.le_refl _
              intro va wa hown1 hgrow1 _
              have HO1 := Lib.hid hown1
              have HB2 : Hid (Below wq.heap.size wq wa) := (Below.refl _ _).grown hgrow1 (Nat.le_refl _) (by intro k hk; cases hk)
              clear hown1 hgrow1
              go_wp2_with (at_builtin; refine wpList_append_own _ rfl (.tmp 50) (.tmp 52) 28 rfl wq.heap.size 3 i0 (.int .i64 0) 1 8 Try.underlying28 hi hz0 hz1 hz2 rfl (by decide) _ 0 _ rfl (HO1.out.alloc _) ⟨wa.heap.size, 0, none⟩ 1 1 [.int .i64 (k : Int)] rfl rfl (one_cell _ _ _) ?c0 ?c1 ?c2 ?c3 ?_)
              case c0 => simp [Value.oneCell']
              case c1 => unfold maxLen; omega
              case c2 => omega
              case c3 => have := HB2.out.size; rw [alloc_size]; omega
              intro vb wb hown2 hgrow2 _
              have HO2 := Lib.hid hown2
              have HB3 : Hid (Below wq.heap.size wq wb) := (HB2.out.alloc HB2.out.size _).grown hgrow2 (by have := HB2.out.size; rw [alloc_size]; omega) (by intro c hc; first | exact (HO1.out.lt c hc).1 | cases hc)
              clear hown2 hgrow2 HO1 HB2
              go_wp2_with (at_builtin; refine wpList_append_own _ rfl (.tmp 54) (.tmp 57) 28 rfl wq.heap.size 3 i0 (.int .i64 0) 1 8 Try.underlying28 hi hz0 hz1 hz2 rfl (by decide) _ 1 _ rfl HO2.out ⟨g5, 0, none⟩ L.length cap5 ((L.map intL).drop 0) rfl ?l1 (drop_news HOQ.out HB3.out 0) (drop_ones L 0) ?c1 ?c2 ?c3 ?_)
              case l1 => rw [List.length_drop, List.length_map]; omega
              case c1 => unfold maxLen; omega
              case c2 => omega
              case c3 => exact HB3.out.size
              intro vc wc hown3 hgrow3 _
              have HNX : Hid (OutS w wc js t vc (k + 1)) := OutS.next (m := 0) HBW.out (HB3.out.grown hgrow3 HB3.out.size (fun c hc => (HO2.out.lt c hc).1)) HIB.out HLQ.out HM.out (Nat.zero_le _) (by rw [Nat.sub_zero]; exact hown3)
              clear hown3 hgrow3 HO2 HB3
              go_wp2_with fail
              go_roundg (n - (k + 1))
              case measure => have := HG.out; omega
              case rel => exact ⟨k + 1, by omega, rfl, by go_num, HNX.out⟩
            · obtain ⟨m', rfl⟩ : ∃ m', m = m' + 1 := ⟨m - 1, by omega⟩
              have hd : decide ((0 : Int) < ((m' + 1 : Nat) : Int)) = true := by simp
              have hm' : m' < L.length := by omega
              have hxk : L.getD m' 0 < k := HLT.out _ (by rw [List.getD_eq_getElem?_getD, List.getElem?_eq_getElem hm']; exact List.getElem_mem hm')
              have d0 : wr.cell? ⟨g5, m', none⟩ = some (.int .i64 (L.getD m' 0 : Int)) := by
                have h1 := (HBQ.out.cell (p := ⟨g5, m', none⟩) hgl5).trans (HOW.out.cellAt m' (by omega))
                rw [List.getElem?_map, List.getElem?_eq_getElem hm'] at h1
                rw [List.getD_eq_getElem?_getD, List.getElem?_eq_getElem hm']
                exact h1
              have d1 := ((below_next HBW1.out HBQ.out).cell (p := ⟨g, off + L.getD m' 0 * 3 + 2, none⟩) hg).trans (HC.out (L.getD m' 0) (by omega)).2.2
              have d2 := ((below_next HBW1.out HBQ.out).cell (p := ⟨g, off + k * 3 + 2, none⟩) hg).trans (HC.out k (by omega)).2.2
              have HR1 := Lib.hid (HRK.out (L.getD m' 0) (by rw [HN.out]; omega))
              have hz3 : (js.getD k jd).rank = z := (HRK.out k (by rw [HN.out]; exact hlt)).symm.trans HRZ.out
              rw [hz3] at d2
              clear hz3
              have HPS : Hid (place js L (rk js k) (m' + 1) = if z < (js.getD (L.getD m' 0) jd).rank then place js L (rk js k) m' else m' + 1) := by
                have e : place js L (rk js k) (m' + 1) = if rk js k < rk js (L.getD m' 0) then place js L (rk js k) m' else m' + 1 := by rw [place]
                unfold Hid
                rw [e, HR1.out, HRZ.out]
              clear HR1
              generalize L.getD m' 0 = xx at *
              generalize (js.getD xx jd).rank = zz at *
              by_cases hzz : z < zz
              · have HPM : Hid (place js L (rk js k) L.length = place js L (rk js k) m') := by
                  unfold Hid
                  rw [HPL.out, HPS.out, if_pos hzz]
                clear HPS HPL
                go_wp2_with fail
                go_quiet (fail)
                go_wp2_with fail
                go_roundw
                case rel => exact ⟨m', by omega, by go_num, HPM, HBQ.out.trans ⟨rfl, rfl, rfl, Nat.le_refl _, fun _ _ => rfl⟩⟩
                case measure => simp [intOf]
              · have HM : Hid (place js L (rk js k) L.length = m' + 1) := by
                  unfold Hid
                  rw [HPL.out, HPS.out, if_neg hzz]
                clear HPS
                go_wp2_with fail
                go_quiet (fail)
                generalize hwq : wr.drewN nq = wq
                have HOQ : Hid (wq.ownsRow w.heap.size 3 1 (.slice (some ⟨g5, 0, none⟩) L.length cap5) L.length (L.map intL)) := by
                  have h1 := ownsRow_kept HOW.out (Wrote.of_below HBQ.out (fun _ => False)) (fun _ h => h.elim)
                  rw [← hwq]
                  exact ⟨h1.1, h1.2⟩
                have HBW : Hid (Below w.heap.size w wq) := by
                  rw [← hwq]
                  exact (below_next HBW1.out HBQ.out).trans ⟨rfl, rfl, rfl, Nat.le_refl _, fun _ _ => rfl⟩
                clear hwq HOW HBQ HPL

                by_cases hmc : m' + 1 < cap5
                · have hcap5i : L.length ≤ cap5 := hcap5
                  have hcap5j : cap5 ≤ 9223372036854775807 := by unfold maxLen at hcm5; omega
                  go_wp2_with (at_builtin; refine wpList_append_own _ rfl (.tmp 45) (.tmp 48) 28 rfl wq.heap.size 3 i0 (.int .i64 0) 1 8 Try.underlying28 hi hz0 hz1 hz2 rfl (by decide) _ 0 _ rfl (World.ownsRow_nil _ _ _ _) ⟨g5, 0, none⟩ (m' + 1) cap5 ((L.map intL).take (m' + 1)) rfl ?l1 (take_news HOQ.out (m' + 1)) (take_ones L (m' + 1)) ?c1 ?c2 ?c3 ?_)
                  case l1 => rw [List.length_take, List.length_map]; omega
                  case c1 => unfold maxLen; omega
                  case c2 => omega
                  case c3 => exact Nat.le_refl _
                  intro va wa hown1 hgrow1 _
                  have HO1 := Lib.hid hown1
                  have HB2 : Hid (Below wq.heap.size wq wa) := (Below.refl _ _).grown hgrow1 (Nat.le_refl _) (by intro k hk; cases hk)
                  clear hown1 hgrow1
                  go_wp2_with (at_builtin; refine wpList_append_own _ rfl (.tmp 50) (.tmp 52) 28 rfl wq.heap.size 3 i0 (.int .i64 0) 1 8 Try.underlying28 hi hz0 hz1 hz2 rfl (by decide) _ (m' + 1) _ rfl (HO1.out.alloc _) ⟨wa.heap.size, 0, none⟩ 1 1 [.int .i64 (k : Int)] rfl rfl (one_cell _ _ _) ?c0 ?c1 ?c2 ?c3 ?_)
                  case c0 => simp [Value.oneCell']
                  case c1 => unfold maxLen; omega
                  case c2 => omega
                  case c3 => have := HB2.out.size; rw [alloc_size]; omega
                  intro vb wb hown2 hgrow2 _
                  have HO2 := Lib.hid hown2
                  have HB3 : Hid (Below wq.heap.size wq wb) := (HB2.out.alloc HB2.out.size _).grown hgrow2 (by have := HB2.out.size; rw [alloc_size]; omega) (by intro c hc; first | exact (HO1.out.lt c hc).1 | cases hc)
                  clear hown2 hgrow2 HO1 HB2
                  go_wp2_with (at_builtin; refine wpList_append_own _ rfl (.tmp 54) (.tmp 57) 28 rfl wq.heap.size 3 i0 (.int .i64 0) 1 8 Try.underlying28 hi hz0 hz1 hz2 rfl (by decide) _ (m' + 1 + 1) _ rfl HO2.out ⟨g5, m' + 1, none⟩ (L.length - (m' + 1)) (cap5 - (m' + 1)) ((L.map intL).drop (m' + 1)) rfl ?l1 (drop_news HOQ.out HB3.out (m' + 1)) (drop_ones L (m' + 1)) ?c1 ?c2 ?c3 ?_)
                  case l1 => rw [List.length_drop, List.length_map]; omega
                  case c1 => unfold maxLen; omega
                  case c2 => omega
                  case c3 => exact HB3.out.size
                  intro vc wc hown3 hgrow3 _
                  have HNX : Hid (OutS w wc js t vc (k + 1)) := OutS.next HBW.out (HB3.out.grown hgrow3 HB3.out.size (fun c hc => (HO2.out.lt c hc).1)) HIB.out HLQ.out HM.out hm (by rw [List.append_assoc]; exact hown3)
                  clear hown3 hgrow3 HO2 HB3
                  go_wp2_with fail
                  go_roundg (n - (k + 1))
                  case measure => have := HG.out; omega
                  case rel => exact ⟨k + 1, by omega, rfl, by go_num, HNX.out⟩
                · obtain rfl : cap5 = m' + 1 := by omega
                  have hcap5i := hcap5
                  go_wp2_with (at_builtin; refine wpList_append_own _ rfl (.tmp 45) (.tmp 48) 28 rfl wq.heap.size 3 i0 (.int .i64 0) 1 8 Try.underlying28 hi hz0 hz1 hz2 rfl (by decide) _ 0 _ rfl (World.ownsRow_nil _ _ _ _) ⟨g5, 0, none⟩ (m' + 1) (m' + 1) ((L.map intL).take (m' + 1)) rfl ?l1 (take_news HOQ.out (m' + 1)) (take_ones L (m' + 1)) ?c1 ?c2 ?c3 ?_)
                  case l1 => rw [List.length_take, List.length_map]; omega
                  case c1 => unfold maxLen; omega
                  case c2 => omega
                  case c3 => exact Nat.le_refl _
                  intro va wa hown1 hgrow1 _
                  have HO1 := Lib.hid hown1
                  have HB2 : Hid (Below wq.heap.size wq wa) := (Below.refl _ _).grown hgrow1 (Nat.le_refl _) (by intro k hk; cases hk)
                  clear hown1 hgrow1
                  go_wp2_with (at_builtin; refine wpList_append_own _ rfl (.tmp 50) (.tmp 52) 28 rfl wq.heap.size 3 i0 (.int .i64 0) 1 8 Try.underlying28 hi hz0 hz1 hz2 rfl (by decide) _ (m' + 1) _ rfl (HO1.out.alloc _) ⟨wa.heap.size, 0, none⟩ 1 1 [.int .i64 (k : Int)] rfl rfl (one_cell _ _ _) ?c0 ?c1 ?c2 ?c3 ?_)
                  case c0 => simp [Value.oneCell']
                  case c1 => unfold maxLen; omega
                  case c2 => omega
                  case c3 => have := HB2.out.size; rw [alloc_size]; omega
                  intro vb wb hown2 hgrow2 _
                  have HO2 := Lib.hid hown2
                  have HB3 : Hid (Below wq.heap.size wq wb) := (HB2.out.alloc HB2.out.size _).grown hgrow2 (by have := HB2.out.size; rw [alloc_size]; omega) (by intro c hc; first | exact (HO1.out.lt c hc).1 | cases hc)
                  clear hown2 hgrow2 HO1 HB2
                  go_wp2_with (at_builtin; refine wpList_append_own _ rfl (.tmp 54) (.tmp 57) 28 rfl wq.heap.size 3 i0 (.int .i64 0) 1 8 Try.underlying28 hi hz0 hz1 hz2 rfl (by decide) _ (m' + 1 + 1) _ rfl HO2.out _ _ _ ((L.map intL).drop (m' + 1)) rfl ?l1 (fun j u h => by rw [List.drop_eq_nil_of_le (by rw [List.length_map]; omega)] at h; simp at h) (drop_ones L (m' + 1)) ?c1 ?c2 ?c3 ?_)
                  case l1 => rw [List.length_drop, List.length_map]; omega
                  case c1 => unfold maxLen; omega
                  case c2 => omega
                  case c3 => exact HB3.out.size
                  intro vc wc hown3 hgrow3 _
                  have HNX : Hid (OutS w wc js t vc (k + 1)) := OutS.next HBW.out (HB3.out.grown hgrow3 HB3.out.size (fun c hc => (HO2.out.lt c hc).1)) HIB.out HLQ.out HM.out hm (by rw [List.append_assoc, show m' + 1 + 1 + (L.length - (m' + 1)) = m' + 2 from by omega]; exact hown3)
                  clear hown3 hgrow3 HO2 HB3
                  go_wp2_with fail
                  go_roundg (n - (k + 1))
                  case measure => have := HG.out; omega
                  case rel => exact ⟨k + 1, by omega, rfl, by go_num, HNX.out⟩
    · obtain rfl : k = n := by omega
      go_wp2_with fail
      go_ret
      exact ⟨_, rfl, HO.out⟩
set_option maxRecDepth 100000 in
theorem refDue_none (w : World) (A : Option Addr) (cap : Nat) (t : Int) : Calls Try.prog 12 #[.slice A 0 cap, .int .i64 t] w fun e w' => e = .returned (.slice none 0 0) ∧ w' = w := by
  go_enter Try.func12, Try.ntmps12
  go_wp2_with fail
  go_loop [5, 6] (fun u i => u = .slice none 0 0 ∧ i = .int .i64 0) (fun _ _ => 0)
  case atStart => exact ⟨rfl, rfl⟩
  case round =>
    obtain ⟨rfl, rfl⟩ := hrel
    go_wp2_with fail
    go_ret
    exact ⟨rfl, rfl⟩
def RefPost (w : World) (js : List Jb) (t : Nat) (e : Ending) (w' : World) : Prop := ∃ v, e = .returned v ∧ Ints w' v (due js t) ∧ Below w.heap.size w w'
theorem refDue_any (w : World) (v : Value) (js : List Jb) (t : Nat) (h : JR w v js) (hs : Sound js) (ht : t ≤ 1000000) : Calls Try.prog 12 #[v, .int .i64 (t : Int)] w (RefPost w js t) := by
  rcases h.at with ⟨rfl, A, cap, rfl⟩ | ⟨g, off, cap, rfl, hg, hc⟩
  · refine (refDue_none w A cap t).mono ?_
    rintro e w' ⟨rfl, rfl⟩
    exact ⟨_, rfl, ⟨none, 0, rfl, Nat.le_refl _, .inl rfl⟩, Below.refl _ _⟩
  · refine (refDue_some w js g off cap t hg hs ht hc).mono ?_
    rintro e w' ⟨v, rfl, ho⟩
    exact ⟨v, rfl, ints_own ho.own, ho.below⟩
end Go.Proofs.Ytmkbkjnpgdpffaa
