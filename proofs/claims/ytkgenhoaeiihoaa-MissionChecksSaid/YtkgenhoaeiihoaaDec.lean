/- What Decode answers, in whatever world. Conditions: the text is within the reach of memory. -/
import Derived.Test.YtkgenhoaeiihoaaCheck
import Derived.Test.YtkgenhoaeiihoaaWord
import Derived.Laws.Closers25b
namespace Go.Proofs.Ytkgenhoaeiihoaa
open Go.RowKit

/-- Item i of a mission's bytes. -/
def itemAt (s : ByteArray) (i : Nat) : It := ⟨bt s (1 + 13 * i), numAt s (1 + 13 * i + 1), numAt s (1 + 13 * i + 5), numAt s (1 + 13 * i + 9)⟩
def items (s : ByteArray) (k : Nat) : List It := (List.range k).map (itemAt s)
theorem items_len (s : ByteArray) (k : Nat) : (items s k).length = k := by simp [items]
theorem items_succ (s : ByteArray) (k : Nat) : items s (k + 1) = items s k ++ [itemAt s k] := by simp [items, List.range_succ]
/-- Is it as long as its first byte says? -/
def sizedB (s : ByteArray) : Bool := decide (0 < s.size) && decide ((s.size : Int) = 1 + 13 * bt s 0)
def cntOf (s : ByteArray) : Nat := (bt s 0).toNat
/-- What a mission's bytes say: what is wrong, and their items. -/
def decC (s : ByteArray) : Int := if sizedB s then chk (items s (cntOf s)) else 3
def decI (s : ByteArray) : List It := if decC s = 0 then items s (cntOf s) else []
theorem not_empty (s : ByteArray) (h : 0 < s.size) : s.toList.isEmpty = false := by
  cases hh : s.toList with
  | nil =>
    rw [toList_nil_iff_emptyBytes] at hh
    subst hh
    exact absurd h (Nat.lt_irrefl 0)
  | cons a l => rfl
def SoundPost (w : World) (v : Value) (xs : List It) (e : Ending) (w' : World) : Prop := e = .returned (.tuple #[if chk xs = 0 then v else .slice none 0 0, .int .i64 (chk xs)]) ∧ Below w.heap.size w w'
set_option maxRecDepth 100000 in
theorem sound_any (w : World) (v : Value) (xs : List It) (h : IR w v xs) : Calls Try.prog 36 #[v] w (SoundPost w v xs) := by
  have H := Lib.hid h
  obtain ⟨A, cap, hv⟩ := h.form
  clear h
  subst hv
  go_enter Try.func36, Try.ntmps36
  go_wp2_with fail
  refine (check_any w _ xs H.out).mono ?_
  rintro e w1 ⟨rfl, hb1⟩
  have HF : Hid (SoundPost w (.slice A xs.length cap) xs (.returned (.tuple #[if chk xs = 0 then (.slice A xs.length cap) else .slice none 0 0, .int .i64 (chk xs)])) w1) := ⟨rfl, hb1⟩
  clear hb1
  by_cases hck : chk xs = 0
  · rw [hck] at HF ⊢
    rw [if_pos rfl] at HF
    go_wp2_with fail
    go_ret2
    exact HF.out
  · rw [if_neg hck] at HF
    have hne : (chk xs != 0) = true := by rw [bne_iff_ne]; exact hck
    clear hck
    generalize chk xs = c at *
    go_wp2_with fail
    go_ret2
    exact HF.out
def DecPost (w : World) (s : ByteArray) (e : Ending) (w' : World) : Prop := ∃ v, e = .returned (.tuple #[v, .int .i64 (decC s)]) ∧ IR w' v (decI s) ∧ (∀ g, v.ownBlock = some g → w.heap.size ≤ g) ∧ (decC s ≠ 0 → v = .slice none 0 0) ∧ Below w.heap.size w w'
set_option maxRecDepth 100000 in
theorem decode_nil (w : World) (s : ByteArray) (h : s.size = 0) : Calls Try.prog 17 #[.string s] w (DecPost w s) := by
  have hd : decC s = 3 := by unfold decC sizedB; rw [show decide (0 < s.size) = false from by simp [h]]; rfl
  have HF : Hid (DecPost w s (.returned (.tuple #[.slice none 0 0, .int .i64 3])) w) := ⟨_, by rw [hd], ⟨by unfold decI; rw [hd]; simp, .inl ⟨rfl, by unfold decI; rw [hd]; rfl⟩⟩, (fun g hg => nomatch hg), (fun _ => rfl), Below.refl _ _⟩
  have e : s = ByteArray.empty := by
    apply ByteArray.ext
    have : s.data.size = 0 := h
    exact Array.eq_empty_of_size_eq_zero this
  clear hd
  subst e
  go_enter Try.func17, Try.ntmps17
  go_wp2_with fail
  go_ret2
  exact HF.out
set_option maxRecDepth 100000 in
theorem decode_not (w : World) (s : ByteArray) (h : 0 < s.size) (hne : ¬ (s.size : Int) = 1 + 13 * bt s 0) : Calls Try.prog 17 #[.string s] w (DecPost w s) := by
  have hd : decC s = 3 := by unfold decC sizedB; rw [show decide ((s.size : Int) = 1 + 13 * bt s 0) = false from by simp [hne], Bool.and_false]; rfl
  have HF : Hid (DecPost w s (.returned (.tuple #[.slice none 0 0, .int .i64 3])) w) := ⟨_, by rw [hd], ⟨by unfold decI; rw [hd]; simp, .inl ⟨rfl, by unfold decI; rw [hd]; rfl⟩⟩, (fun g hg => nomatch hg), (fun _ => rfl), Below.refl _ _⟩
  have hb := bt_eq s 0 h
  have hlo := bt_lo s 0
  rw [hb] at hne hlo
  obtain ⟨hlo1, hlo2⟩ := hlo
  have hz : ((s.size : Int) != 1 + 13 * ((s[0].toNat : Nat) : Int)) = true := by rw [bne_iff_ne]; exact hne
  have hl := not_empty s h
  clear hb hd hne
  go_enter Try.func17, Try.ntmps17
  go_wp2_with fail
  go_ret2
  exact HF.out
/-- A rest of a text, from a place on. -/
def RestOf (s r : ByteArray) (a : Nat) : Prop := r.size + a = s.size ∧ ∀ i, i < r.size → bt r i = bt s (a + i)
theorem RestOf.cut {s r : ByteArray} {a : Nat} (h : RestOf s r a) (j : Nat) (hj : j ≤ r.size) : RestOf s (r.extract j r.size) (a + j) := by
  have hsz : (r.extract j r.size).size = r.size - j := by simp
  refine ⟨by rw [hsz]; have := h.1; omega, fun i hi => ?_⟩
  rw [hsz] at hi
  have h1 := h.2 (j + i) (by omega)
  rw [← Nat.add_assoc] at h1
  rw [← h1, bt_eq _ i (by rw [hsz]; exact hi), bt_eq r (j + i) (by omega)]
  rw [ByteArray.getElem_extract]
theorem RestOf.num {s r : ByteArray} {a : Nat} (h : RestOf s r a) (h4 : 4 ≤ r.size) : numAt r 0 = numAt s a := by
  unfold numAt
  rw [h.2 0 (by omega), h.2 (0 + 1) (by omega), h.2 (0 + 2) (by omega), h.2 (0 + 3) (by omega)]
  simp
theorem it_one4 (k a b c : Int) : ∀ u ∈ [Value.int .u8 k, .int .i64 a, .int .i64 b, .int .i64 c], u.oneCell' = true := by
  intro u hu
  simp only [List.mem_cons, List.not_mem_nil, or_false] at hu
  rcases hu with rfl | rfl | rfl | rfl <;> rfl
structure RowS (w wr : World) (v : Value) (xs : List It) : Prop where
  own : wr.ownsRow w.heap.size 45 4 v xs.length (xs.flatMap itL)
  below : Below w.heap.size w wr
theorem RowS.add {w wr w1 : World} {v v1 : Value} {xs : List It} {x : It} {o : Obj} (h : RowS w wr v xs) {n : Nat} (hg : ((wr.drewN n).alloc o).grownBy w1 v.ownBlock) (ho : w1.ownsRow w.heap.size 45 4 v1 (xs.length + 1) (xs.flatMap itL ++ itL x)) : RowS w w1 v1 (xs ++ [x]) := by
  refine ⟨?_, ((h.below.trans ⟨rfl, rfl, rfl, Nat.le_refl _, fun _ _ => rfl⟩ : Below w.heap.size w (wr.drewN n)).alloc h.below.size _).grown hg (by rw [alloc_size]; have := h.below.size; show w.heap.size ≤ wr.heap.size + 1; omega) (fun c hc => (h.own.lt c hc).1)⟩
  rw [List.length_append, List.flatMap_append]
  simpa using ho
set_option maxRecDepth 100000 in
set_option maxHeartbeats 4000000 in
theorem decode_ok (w : World) (s : ByteArray) (h : 0 < s.size) (hs : s.size ≤ 140737488351232) (he : (s.size : Int) = 1 + 13 * bt s 0) : Calls Try.prog 17 #[.string s] w (DecPost w s) := by
  have hb := bt_eq s 0 h
  have hlo := bt_lo s 0
  have hcn : (cntOf s : Int) = bt s 0 := by unfold cntOf; omega
  have hd : decC s = chk (items s (cntOf s)) := by
    unfold decC sizedB
    rw [show decide (0 < s.size) = true from by simp [h], show decide ((s.size : Int) = 1 + 13 * bt s 0) = true from by simp [he]]
    rfl
  have hsz : s.size = 1 + 13 * cntOf s := by omega
  have hn255 : cntOf s ≤ 255 := by omega
  have HD := Lib.hid hd
  rw [hb] at he hlo
  obtain ⟨hlo1, hlo2⟩ := hlo
  have hz : ((s.size : Int) != (1 : Int) + (13 : Int) * (s[0].toNat : Int)) = false := by rw [he]; simp
  have hl := not_empty s h
  have HSZ := Lib.hid hsz
  obtain ⟨i0, hi, hz0, hz1, hz2⟩ := info_parts info45
  generalize hn : cntOf s = n at *
  have HCN := Lib.hid hn
  clear hb hd he hcn hn hsz
  have hR0 : Hid (RestOf s (s.extract 1 s.size) 1) := by
    have := (show RestOf s s 0 from ⟨by omega, fun i _ => by rw [Nat.zero_add]⟩).cut 1 (by omega)
    rw [Nat.zero_add] at this
    exact this
  go_enter Try.func17, Try.ntmps17
  go_wp2_with fail
  go_loopg [4, 5] n (fun gh v rv wr => ∃ (k : Nat) (r : ByteArray), k ≤ n ∧ gh = n - k ∧ rv = .string r ∧ RestOf s r (1 + 13 * k) ∧ RowS w wr v (items s k))
  case atStart => exact ⟨0, _, Nat.zero_le _, rfl, rfl, hR0.out, ⟨World.ownsRow_nil _ _ _ _, Below.refl _ _⟩⟩
  case round =>
    obtain ⟨k, r, hk, hgk, rfl, hr, hrow⟩ := hrel
    have HG := Lib.hid hgk
    have HR := Lib.hid hr
    have HW := Lib.hid hrow
    have hrs := hr.1
    clear hgk hr hrow hR0
    by_cases hlt : k < n
    · have hr13 : 13 ≤ r.size := by have := HSZ.out; omega
      have hr0 : 0 < r.size := by omega
      have hrx : r.size ≤ 140737488351232 := by omega
      have hre := not_empty r hr0
      have i1 : (1 : Int) ≤ (r.size : Int) := by omega
      have i5 : (5 : Int) ≤ (r.size : Int) := by omega
      have i9 : (9 : Int) ≤ (r.size : Int) := by omega
      have i13 : (13 : Int) ≤ (r.size : Int) := by omega
      have z1 : (r.extract 1 r.size).size = r.size - 1 := by simp
      have z5 : (r.extract 5 r.size).size = r.size - 5 := by simp
      have z9 : (r.extract 9 r.size).size = r.size - 9 := by simp
      have HC13 := Lib.hid (HR.out.cut 13 hr13)
      have e1 : numAt (r.extract 1 r.size) 0 = numAt s (1 + 13 * k + 1) := (HR.out.cut 1 (by omega)).num (by omega)
      have e5 : numAt (r.extract 5 r.size) 0 = numAt s (1 + 13 * k + 5) := (HR.out.cut 5 (by omega)).num (by omega)
      have e9 : numAt (r.extract 9 r.size) 0 = numAt s (1 + 13 * k + 9) := (HR.out.cut 9 (by omega)).num (by omega)
      have hk0 : ((r[0].toNat : Nat) : Int) = bt s (1 + 13 * k) := by rw [← bt_eq r 0 hr0]; have := HR.out.2 0 hr0; rw [Nat.add_zero] at this; exact this
      have HIT : Hid (itemAt s k = ⟨((r[0].toNat : Nat) : Int), numAt s (1 + 13 * k + 1), numAt s (1 + 13 * k + 5), numAt s (1 + 13 * k + 9)⟩) := by unfold Hid; rw [hk0]; rfl
      have hown := HW.out.own
      rw [items_len] at hown
      have hbl := HW.out.below.size
      have P1 : Hid (4 ≤ (r.extract 1 r.size).size ∧ (r.extract 1 r.size).size ≤ 9223372036854775807) := ⟨by omega, by omega⟩
      have P5 : Hid (4 ≤ (r.extract 5 r.size).size ∧ (r.extract 5 r.size).size ≤ 9223372036854775807) := ⟨by omega, by omega⟩
      have P9 : Hid (4 ≤ (r.extract 9 r.size).size ∧ (r.extract 9 r.size).size ≤ 9223372036854775807) := ⟨by omega, by omega⟩
      clear hk0 z1 z5 z9
      generalize numAt s (1 + 13 * k + 1) = na at *
      generalize numAt s (1 + 13 * k + 5) = nb at *
      generalize numAt s (1 + 13 * k + 9) = nc at *
      have HXS := Lib.hid (items_succ s k)
      have HXL := Lib.hid (items_len s k)
      generalize hxx : (items s k).flatMap itL = xl at *
      have HXX := Lib.hid hxx
      clear hxx
      go_wp2_with fail
      go_region_held3 (fun u => w.heap.size ≤ u.heap.size) (first | assumption | (simp; omega))
        (first
          | (refine step_append_lies _ rfl _ _ 22 rfl w.heap.size 45 i0 _ 4 32 Try.underlying22 hi hz0 hz1 hz2 rfl (by decide) u4 k xl rfl (by have h := hown.alloc (.cells #[.int .u8 (r[0].toNat : Int), .int .i64 na, .int .i64 nb, .int .i64 nc] 45); exact ⟨h.1, h.2⟩) _ 1 1 [.int .u8 (r[0].toNat : Int), .int .i64 na, .int .i64 nb, .int .i64 nc] rfl rfl (World.news_of_block (cs := #[.int .u8 (r[0].toNat : Int), .int .i64 na, .int .i64 nb, .int .i64 nc]) (heap_alloc_new wr _)) (it_one4 _ _ _ _) (by omega) (by unfold maxLen; omega) (by omega) (by simp; omega) _ rfl ?_; intro vg vcap wx hown1 hgrow hat hlt1; have HRX : Hid (RowS w wx (.slice (some ⟨vg, 0, none⟩) (k + 1) vcap) (items s (k + 1))) := (by unfold Hid; rw [HXS.out]; refine HW.out.add (x := itemAt s k) hgrow ?_; rw [HIT.out, HXL.out, HXX.out]; exact hown1); have hsx := HRX.out.below.size; clear hown1 hgrow hat hlt1)
          | (go_at_call_of 35 (Value.string (r.extract 1 r.size)); refine (pnum_any _ _ P1.out.1 P1.out.2).mono ?_; rintro e w' ⟨rfl, q, rfl⟩)
          | (go_at_call_of 35 (Value.string (r.extract 5 r.size)); refine (pnum_any _ _ P5.out.1 P5.out.2).mono ?_; rintro e w' ⟨rfl, q, rfl⟩)
          | (go_at_call_of 35 (Value.string (r.extract 9 r.size)); refine (pnum_any _ _ P9.out.1 P9.out.2).mono ?_; rintro e w' ⟨rfl, q, rfl⟩))
      all_goals
        go_wp2_with fail
        go_roundg (n - (k + 1))
        case measure => have := HG.out; omega
        case rel => exact ⟨k + 1, _, by omega, rfl, rfl, HC13.out, HRX.out⟩
    · obtain rfl : k = n := by omega
      have hr0 : r.size = 0 := by have := HSZ.out; omega
      have hre : r = ByteArray.empty := by
        apply ByteArray.ext
        exact Array.eq_empty_of_size_eq_zero hr0
      subst hre
      have hir : Hid (IR wr u4 (items s k)) := ir_own HW.out.own (by rw [items_len]; omega)
      have hub := fun c hc => (HW.out.own.lt c hc).1
      have HUB := Lib.hid hub
      clear hub hr0 hrs HR
      go_wp2_with fail
      refine (sound_any wr _ _ hir.out).mono ?_
      rintro e w2 ⟨rfl, hb2⟩
      have HB2 := Lib.hid (below_next HW.out.below hb2)
      have HF : Hid (DecPost w s (.returned (.tuple #[if chk (items s k) = 0 then u4 else .slice none 0 0, .int .i64 (chk (items s k))])) w2) := by
        have hcc : decC s = chk (items s k) := HD.out
        refine ⟨_, by rw [hcc], ?_, ?_, ?_, HB2.out⟩
        · unfold decI
          rw [hcc]
          by_cases hz : chk (items s k) = 0
          · rw [if_pos hz, if_pos hz, HCN.out]
            exact hir.out.below hb2
          · rw [if_neg hz, if_neg hz]
            exact ⟨by simp, .inl ⟨rfl, rfl⟩⟩
        · intro c hc
          by_cases hz : chk (items s k) = 0
          · rw [if_pos hz] at hc
            exact HUB.out c hc
          · rw [if_neg hz] at hc
            cases hc
        · intro hz
          rw [hcc] at hz
          rw [if_neg hz]
      clear hb2
      generalize (if chk (items s k) = 0 then u4 else Value.slice none 0 0) = vv at *
      generalize chk (items s k) = cc at *
      go_wp2_with fail
      go_ret2
      exact HF.out
theorem decode_any (w : World) (s : ByteArray) (hs : s.size ≤ 140737488351232) : Calls Try.prog 17 #[.string s] w (DecPost w s) := by
  by_cases h0 : s.size = 0
  · exact decode_nil w s h0
  · by_cases he : (s.size : Int) = 1 + 13 * bt s 0
    · exact decode_ok w s (by omega) hs he
    · exact decode_not w s (by omega) he
end Go.Proofs.Ytkgenhoaeiihoaa
