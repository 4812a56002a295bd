/- What Put answers: a value of an object is kept. Conditions: the store and its flash lie in memory. -/
import Derived.Test.YtngmnceahhlpkaaSt7
namespace Go.Proofs.Ytngmnceahhlpkaa
open Go.RowKit
set_option maxRecDepth 100000 in
theorem put_nil (w : World) (id : Int) (t : ByteArray) : Calls Try.prog 32 #[.pointer none, .int .i64 id, .string t] w fun e w' => e = .returned (.int .i64 2) ∧ w = w' := by
  go_enter Try.func32, Try.ntmps32
  go_wp2_with fail
  (try simp only [Exit.inBlock, Exit.then])
  go_ret
  exact ⟨rfl, rfl⟩
theorem put_stands {f : Fl} {s : St} {id : Int} {t : ByteArray} (h : s.stands = true) : St.put f s id t = (f, s, 60) := by
  unfold St.put
  rw [if_pos h]
theorem put_arg {f : Fl} {s : St} {id : Int} {t : ByteArray} (h : s.stands = false) (h1 : id < 0 ∨ 3 ≤ id ∨ 2000 < t.size) : St.put f s id t = (f, s, 1) := by
  unfold St.put
  rw [if_neg (by rw [h]; decide), if_pos h1]
theorem put_full {f : Fl} {s : St} {i : Nat} {t : ByteArray} (h : s.stands = false) (h1 : i < 3) (h2 : t.size ≤ 2000) (h3 : 4096 < St.all (St.keep s.k i t)) : St.put f s (i : Int) t = (f, s, 70) := by
  unfold St.put
  rw [if_neg (by rw [h]; decide), if_neg (by omega)]
  exact if_pos h3
theorem put_here {f f1 : Fl} {s : St} {i : Nat} {t : ByteArray} {r : Int} (h : s.stands = false) (h1 : i < 3) (h2 : t.size ≤ 2000) (h3 : ¬ 4096 < St.all (St.keep s.k i t)) (h4 : s.fin + (t.size + 4) ≤ 4096)
    (h5 : f.program ((s.act * 4096 + s.fin : Nat) : Int) (St.recL i t) = (f1, r)) :
    St.put f s (i : Int) t = if r = 0 then (f1, { s with k := St.keep s.k i t, fin := s.fin + (t.size + 4), stands := false }, 0) else (f1, { s with stands := true }, r) := by
  unfold St.put
  rw [if_neg (by rw [h]; decide), if_neg (by omega)]
  show (if 4096 < St.all (St.keep s.k i t) then _ else if s.fin + (t.size + 4) ≤ 4096 then (match f.program ((s.act * 4096 + s.fin : Nat) : Int) (St.recL i t) with | (f1, 0) => _ | (f1, e) => _) else _) = _
  rw [if_neg h3, if_pos h4, h5]
  by_cases he : r = 0
  · subst he
    rw [if_pos rfl]
    rfl
  · rw [if_neg he]
    split
    · rename_i h7; injection h7 with _ h7; exact absurd h7 he
    · rename_i h7; injection h7 with h8 h7; rw [h8, h7]
theorem put_there {f f1 : Fl} {s s1 : St} {i : Nat} {t : ByteArray} {r : Int} (h : s.stands = false) (h1 : i < 3) (h2 : t.size ≤ 2000) (h3 : ¬ 4096 < St.all (St.keep s.k i t)) (h4 : ¬ s.fin + (t.size + 4) ≤ 4096)
    (h5 : St.move f s (St.keep s.k i t) = (f1, s1, r)) :
    St.put f s (i : Int) t = if r = 0 then (f1, { s1 with stands := false }, 0) else (f1, { s1 with stands := true }, r) := by
  unfold St.put
  rw [if_neg (by rw [h]; decide), if_neg (by omega)]
  show (if 4096 < St.all (St.keep s.k i t) then _ else if s.fin + (t.size + 4) ≤ 4096 then _ else (match St.move f s (St.keep s.k i t) with | (f1, s1, 0) => _ | (f1, s1, e) => _)) = _
  rw [if_neg h3, if_neg h4, h5]
  by_cases he : r = 0
  · subst he
    rw [if_pos rfl]
    rfl
  · rw [if_neg he]
    split
    · rename_i h7; injection h7 with _ h7; injection h7 with _ h7; exact absurd h7 he
    · rename_i h7; injection h7 with h8 h7; injection h7 with h9 h7; rw [h8, h9, h7]
def PutPost (w0 : World) (fb sb : Nat) (J : Option Nat) (r : Fl × St × Int) (e : Ending) (w' : World) : Prop := e = .returned (.int .i64 r.2.2) ∧ Duet w0 w' fb sb J r.1 r.2.1
theorem kC_set (W : World) (kb : Nat) (k : Kept) (i : Nat) (hi : i < 3) (t : ByteArray) (h : W.heap[kb]? = some (.cells (kC k) 102)) :
    ((W.setCell ⟨kb, i * 2, none⟩ (.bool true)).setCell ⟨kb, i * 2 + 1, none⟩ (.string t)).heap[kb]? = some (.cells (kC (St.keep k i t)) 102) := by
  refine (heap_setCell_at (heap_setCell_at h (i * 2) (.bool true)) (i * 2 + 1) (.string t)).trans ?_
  have hc : i = 0 ∨ i = 1 ∨ i = 2 := by omega
  rcases hc with rfl | rfl | rfl
  · simp [kC, keep_is, keep_txt]
  · simp [kC, keep_is, keep_txt]
  · simp [kC, keep_is, keep_txt]
theorem kC_cell {W : World} {kb : Nat} {k : Kept} (h : W.heap[kb]? = some (.cells (kC k) 102)) (i : Nat) (hi : i < 3) :
    W.cell? ⟨kb, i * 2, none⟩ = some (.bool (St.is (k i))) ∧ W.cell? ⟨kb, i * 2 + 1, none⟩ = some (.string (St.txt (k i))) := by
  have hc : i = 0 ∨ i = 1 ∨ i = 2 := by omega
  rcases hc with rfl | rfl | rfl
  · exact ⟨cell_at h 0, cell_at h 1⟩
  · exact ⟨cell_at h 2, cell_at h 3⟩
  · exact ⟨cell_at h 4, cell_at h 5⟩
theorem keep_self (k : Kept) (i : Nat) (t : ByteArray) : St.keep k i t i = some t := if_pos rfl
theorem StAt.put {w : World} {sb fb : Nat} {s : St} (h : StAt w sb fb s) (k : Kept) (p : Nat) (hp : p ≤ 4096) (hk : ∀ i t, k i = some t → t.size ≤ 2000) :
    StAt (((((((w.setCell ⟨sb, 4, none⟩ (.bool (St.is (k 0)))).setCell ⟨sb, 5, none⟩ (.string (St.txt (k 0)))).setCell ⟨sb, 6, none⟩ (.bool (St.is (k 1)))).setCell ⟨sb, 7, none⟩ (.string (St.txt (k 1)))).setCell ⟨sb, 8, none⟩ (.bool (St.is (k 2)))).setCell ⟨sb, 9, none⟩ (.string (St.txt (k 2)))).setCell ⟨sb, 3, none⟩ (.int .i64 (p : Int))) sb fb { s with fin := p, k := k } :=
  ⟨(heap_setCell_at (heap_setCell_at (heap_setCell_at (heap_setCell_at (heap_setCell_at (heap_setCell_at (heap_setCell_at h.blk 4 _) 5 _) 6 _) 7 _) 8 _) 9 _) 3 _).trans (by simp [stA]), ⟨h.ok.act, h.ok.code, hp, hk⟩⟩
theorem Duet.stand {w0 W : World} {fb sb : Nat} {J : Option Nat} {f : Fl} {s : St} (h : Duet w0 W fb sb J f s) (b : Bool) : Duet w0 (W.setCell ⟨sb, 10, none⟩ (.bool b)) fb sb J f { s with stands := b } :=
  h.store ⟨(heap_setCell_at h.st.blk 10 _).trans (by simp [stA]), ⟨h.st.ok.act, h.st.ok.code, h.st.ok.fin, h.st.ok.k⟩⟩ (grown_set (grown_refl W (some sb)) _ _)
theorem mv_st {w0 W : World} {fb sb pb : Nat} {J : Option Nat} {f : Fl} {s : St} {k : Kept} (h : Mv w0 W fb sb pb J f s k) :
    W.cell? ⟨sb, 0, none⟩ = some (.pointer (some ⟨fb, 0, none⟩)) ∧ W.cell? ⟨sb, 1, none⟩ = some (.int .i64 (s.act : Int)) ∧ W.cell? ⟨sb, 3, none⟩ = some (.int .i64 (s.fin : Int)) := ⟨cell_at h.d.st.blk 0, cell_at h.d.st.blk 1, cell_at h.d.st.blk 3⟩
theorem Mv.move {w0 W V : World} {fb sb pb : Nat} {J : Option Nat} {f f' : Fl} {s s' : St} {k : Kept} (h : Mv w0 W fb sb pb J f s k) (hd : Duet w0 V fb sb J f' s') (hb : V.heap[pb]? = W.heap[pb]?) : Mv w0 V fb sb pb J f' s' k := ⟨hd, hb.trans h.pb⟩
def Put1 (w0 : World) (fb sb kb : Nat) (J : Option Nat) (f : Fl) (s : St) (k : Kept) (wx : World) : Prop := Mv w0 wx fb sb kb J f s k
theorem put1_of {w0 W : World} {fb sb kb : Nat} {J : Option Nat} {f : Fl} {s : St} {k : Kept} (h : Mv w0 W fb sb kb J f s k) (i : Nat) (hi : i < 3) (t : ByteArray) (hw : w0.heap.size ≤ kb) :
    Put1 w0 fb sb kb J f s (St.keep k i t) ((W.setCell ⟨kb, i * 2, none⟩ (.bool true)).setCell ⟨kb, i * 2 + 1, none⟩ (.string t)) := by
  have hg : W.grownBy ((W.setCell ⟨kb, i * 2, none⟩ (.bool true)).setCell ⟨kb, i * 2 + 1, none⟩ (.string t)) (some kb) := grown_set (grown_set (grown_refl W (some kb)) _ _) _ _
  have hn := h.d.fl.ne_of h.pb (by decide) (by decide)
  have hs : sb ≠ kb := by
    rintro rfl
    have hh := h.pb
    rw [h.d.st.blk] at hh
    injection hh with hh
    injection hh with _ hh
    exact absurd hh (by decide)
  refine ⟨⟨h.d.fl.grown hg hn.1 hn.2, h.d.st.kept (hg.block sb h.d.st.lt (fun e => hs (Option.some.inj e))), ⟨hg.os.trans h.d.wr.os, hg.tape.trans h.d.wr.tape, hg.output.trans h.d.wr.output, Nat.le_trans h.d.wr.size hg.size, fun j hj hh => (hg.block j (Nat.lt_of_lt_of_le hj h.d.wr.size) (fun e => by have e := Option.some.inj e; omega)).trans (h.d.wr.block j hj hh)⟩⟩, kC_set W kb k i hi t h.pb⟩
set_option maxRecDepth 100000 in
set_option maxHeartbeats 1000000 in
theorem put_any (w0 w : World) (fb sb : Nat) (J : Option Nat) (f : Fl) (s : St) (id : Int) (t : ByteArray) (h : Duet w0 w fb sb J f s) :
    Calls Try.prog 32 #[.pointer (some ⟨sb, 0, none⟩), .int .i64 id, .string t] w (PutPost w0 fb sb J (St.put f s id t)) := by
  have HD := Lib.hid h
  have q5 : w.cell? ⟨sb, 10, none⟩ = some (.bool s.stands) := cell_at h.st.blk 10
  have HOUT : Hid (∀ f' s' r, St.put f s id t = (f', s', r) → ∀ w', Duet w0 w' fb sb J f' s' → PutPost w0 fb sb J (St.put f s id t) (.returned (.int .i64 r)) w') := by
    intro f' s' r hp w' hd
    rw [hp]
    exact ⟨rfl, hd⟩
  clear h
  cases hst : s.stands with
  | true =>
    rw [hst] at q5
    have HF := Lib.hid (HOUT.out _ _ _ (put_stands hst) w HD.out)
    clear hst HOUT
    go_enter Try.func32, Try.ntmps32
    go_wp2_with fail
    (try simp only [Exit.inBlock, Exit.then])
    go_ret
    exact HF.out
  | false =>
    rw [hst] at q5
    by_cases hbad : id < 0 ∨ 3 ≤ id ∨ 2000 < t.size
    · have HF := Lib.hid (HOUT.out _ _ _ (put_arg hst hbad) w HD.out)
      clear hst HOUT
      by_cases h0 : id < 0
      · clear hbad
        go_enter Try.func32, Try.ntmps32
        go_wp2_with fail
        (try simp only [Exit.inBlock, Exit.then])
        go_ret
        exact HF.out
      · by_cases h3 : 3 ≤ id
        · clear hbad
          go_enter Try.func32, Try.ntmps32
          go_wp2_with fail
          (try simp only [Exit.inBlock, Exit.then])
          go_ret
          exact HF.out
        · have h2 : (2000 : Int) < (t.size : Int) := by omega
          clear hbad
          go_enter Try.func32, Try.ntmps32
          go_wp2_with fail
          (try simp only [Exit.inBlock, Exit.then])
          go_ret
          exact HF.out
    · obtain ⟨i, rfl⟩ : ∃ i : Nat, id = (i : Int) := ⟨id.toNat, by omega⟩
      have hi : i < 3 := by omega
      have hts : t.size ≤ 2000 := by omega
      clear hbad
      have HI := Lib.hid hi
      have HTS := Lib.hid hts
      have HST := Lib.hid hst
      have h0 : ¬ (i : Int) < 0 := by omega
      have h3 : ¬ (3 : Int) ≤ (i : Int) := by omega
      have h2 : ¬ (2000 : Int) < (t.size : Int) := by omega
      have r4 : w.cell? ⟨sb, 4, none⟩ = some (.bool (St.is (s.k 0))) := cell_at HD.out.st.blk 4
      have r5 : w.cell? ⟨sb, 5, none⟩ = some (.string (St.txt (s.k 0))) := cell_at HD.out.st.blk 5
      have r6 : w.cell? ⟨sb, 6, none⟩ = some (.bool (St.is (s.k 1))) := cell_at HD.out.st.blk 6
      have r7 : w.cell? ⟨sb, 7, none⟩ = some (.string (St.txt (s.k 1))) := cell_at HD.out.st.blk 7
      have r8 : w.cell? ⟨sb, 8, none⟩ = some (.bool (St.is (s.k 2))) := cell_at HD.out.st.blk 8
      have r9 : w.cell? ⟨sb, 9, none⟩ = some (.string (St.txt (s.k 2))) := cell_at HD.out.st.blk 9
      have HM : Hid (Mv w0 (w.alloc (.cells (kC s.k) 102)) fb sb w.heap.size J f s s.k) := ⟨HD.out.below (below_alloc1 w _), heap_alloc_new w _⟩
      have HLE : Hid (w0.heap.size ≤ w.heap.size) := HD.out.wr.size
      clear hst hi hts HD
      unfold kC at HM
      go_enter Try.func32, Try.ntmps32
      go_upto_region 8 with fail
      generalize hkb : w.heap.size = kb at *
      clear hkb q5 r4 r5 r6 r7 r8 r9
      generalize (w.alloc (.cells #[.bool (St.is (s.k 0)), .string (St.txt (s.k 0)), .bool (St.is (s.k 1)), .string (St.txt (s.k 1)), .bool (St.is (s.k 2)), .string (St.txt (s.k 2))] 102)) = w1 at *
      have HM1 : Hid (Mv w0 w1 fb sb kb J f s s.k) := HM.out
      clear HM
      go_cut [8] (fun v wx => v = undef ∧ Put1 w0 fb sb kb J f s (St.keep s.k i t) wx)
      case first =>
        have hlt : (i : Int) < 3 := by omega
        have hge : (0 : Int) ≤ (i : Int) := by omega
        have htn : ((i : Int)).toNat = i := by omega
        have c0 := (kC_cell HM1.out.pb i HI.out).1
        have c1 := (kC_cell HM1.out.pb i HI.out).2
        have y0 := free_at HM1.out.pb (i * 2)
        have y1 := free_at HM1.out.pb (i * 2 + 1)
        have HP := Lib.hid (put1_of HM1.out i HI.out t HLE.out)
        clear HM1 HOUT
        go_wp2_with fail
        go_meet
        case rel => exact ⟨rfl, HP.out⟩
      case rest =>
        obtain ⟨rfl, hP⟩ := hcut
        have HK : Hid (∀ j u, St.keep s.k i t j = some u → u.size ≤ 2000) := by
          have h1 := HM1.out.d.st.ok.keep i HTS.out
          exact h1.k
        have HKI : Hid (St.keep s.k i t i = some t) := keep_self _ _ _
        have HPH := Lib.hid (fun f1 r h3 h4 h5 => put_here (f := f) (f1 := f1) (s := s) (i := i) (t := t) (r := r) HST.out HI.out HTS.out h3 h4 h5)
        have HPT := Lib.hid (fun f1 s1 r h3 h4 h5 => put_there (f := f) (f1 := f1) (s := s) (s1 := s1) (i := i) (t := t) (r := r) HST.out HI.out HTS.out h3 h4 h5)
        have HPF := Lib.hid (fun h3 => put_full (f := f) (s := s) (i := i) (t := t) HST.out HI.out HTS.out h3)
        have HMK : Hid (Mv w0 wc fb sb kb J f s (St.keep s.k i t)) := hP
        generalize St.keep s.k i t = k at *
        clear hP HM1
        have p0 : wc.cell? ⟨kb, 0, none⟩ = some (.bool (St.is (k 0))) := cell_at HMK.out.pb 0
        have p1 : wc.cell? ⟨kb, 1, none⟩ = some (.string (St.txt (k 0))) := cell_at HMK.out.pb 1
        have p2 : wc.cell? ⟨kb, 2, none⟩ = some (.bool (St.is (k 1))) := cell_at HMK.out.pb 2
        have p3 : wc.cell? ⟨kb, 3, none⟩ = some (.string (St.txt (k 1))) := cell_at HMK.out.pb 3
        have p4 : wc.cell? ⟨kb, 4, none⟩ = some (.bool (St.is (k 2))) := cell_at HMK.out.pb 4
        have p5 : wc.cell? ⟨kb, 5, none⟩ = some (.string (St.txt (k 2))) := cell_at HMK.out.pb 5
        go_wp2_with fail
        clear p0 p1 p2 p3 p4 p5
        have hkv : Value.agg #[.bool (St.is (k 0)), .string (St.txt (k 0)), .bool (St.is (k 1)), .string (St.txt (k 1)), .bool (St.is (k 2)), .string (St.txt (k 2))] = kV k := rfl
        rw [hkv]
        clear hkv
        go_loopg [42, 8] 3 (fun gh i v wr => ∃ (n p : Nat), n ≤ 3 ∧ gh = 3 - n ∧ i = .int .i64 n ∧ v = .int .i64 p ∧ (p : Int) ≤ 6100 ∧ Hid (p = St.pos k n ∧ p ≤ 1 + n * 2004) ∧ Hid (Mv w0 wr fb sb kb J f s k))
        case atStart => exact ⟨0, 1, by omega, rfl, rfl, rfl, by omega, ⟨rfl, by omega⟩, HMK⟩
        case round =>
          clear HMK
          obtain ⟨n, p, hn, hg, rfl, rfl, hp, HPB, HM2⟩ := hrel
          have HG := Lib.hid hg
          clear hg
          by_cases h3 : n < 3
          · have hlt : (n : Int) < 3 := by omega
            have hix := kV_index k n h3
            generalize kV k = kv at *
            have HSZ := Lib.hid (fun W => size_any W (k n) (HK.out n))
            have hz := St.size (k n)
            have hzs : (St.size (k n) : Int) ≤ 2004 := by
              cases hkn : k n with
              | none => decide
              | some u =>
                have := HK.out n u hkn
                show ((u.size + 4 : Nat) : Int) ≤ 2004
                omega
            rw [show valV (k n) = .agg #[.bool (St.is (k n)), .string (St.txt (k n))] from rfl] at hix
            have HSV : Hid (∀ W, Calls Try.prog 56 #[.agg #[.bool (St.is (k n)), .string (St.txt (k n))]] W (SizePost W (k n))) := HSZ.out
            have HBE : Hid (Below wr.heap.size wr (wr.alloc (.cells #[.bool (St.is (k n)), .string (St.txt (k n))] 101))) := below_alloc1 wr _
            go_wp2_with fail
            refine (HSV.out _).mono ?_
            rintro e w2 ⟨rfl, hb2⟩
            have HM3 := Lib.hid ((HM2.out.below HBE.out).below hb2)
            have HPN : Hid (p + St.size (k n) = St.pos k (n + 1)) := by unfold Hid; rw [St.pos, ← HPB.out.1]
            have HPM : Hid (p + St.size (k n) ≤ 1 + (n + 1) * 2004) := by have := HPB.out.2; unfold Hid; omega
            have hzz : (p : Int) + (St.size (k n) : Int) ≤ 6100 := by have := HPM.out; omega
            clear HM2 hb2 hix HSV HSZ HBE
            generalize St.size (k n) = z at *
            go_wp2_with fail
            go_roundg (3 - (n + 1))
            case measure => have := HG.out; omega
            case rel => exact ⟨n + 1, p + z, by omega, rfl, rfl, by go_num, by omega, ⟨HPN.out, HPM.out⟩, HM3⟩
          · obtain rfl : n = 3 := by omega
            have HPA : Hid (p = St.all k) := HPB.out.1
            clear h3 HG HPB hn
            generalize kV k = kv at *
            by_cases hfull : 4096 < St.all k
            · have hf : (4096 : Int) < (p : Int) := by have := HPA.out; omega
              have HF := Lib.hid (HOUT.out _ _ _ (HPF.out hfull) _ HM2.out.d)
              clear HOUT HPF HPT HPH HPA
              go_wp2_with fail
              (try simp only [Exit.inBlock, Exit.then])
              go_ret
              exact HF.out
            · have hf : ¬ (4096 : Int) < (p : Int) := by have := HPA.out; omega
              have c0 : wr.cell? ⟨kb, i * 2, none⟩ = some (.bool true) := by rw [(kC_cell HM2.out.pb i HI.out).1, HKI.out]; rfl
              have c1 : wr.cell? ⟨kb, i * 2 + 1, none⟩ = some (.string t) := by rw [(kC_cell HM2.out.pb i HI.out).2, HKI.out]; rfl
              have hge : (0 : Int) ≤ (i : Int) := by omega
              have hlt : (i : Int) < 3 := by have := HI.out; omega
              have htn : ((i : Int)).toNat = i := by omega
              have HSZ : Hid (∀ w, Calls Try.prog 56 #[.agg #[.bool true, .string t]] w fun e w' => e = .returned (.int .i64 ((t.size + 4 : Nat) : Int)) ∧ Below w.heap.size w w') := fun w => size_any w (some t) (fun t' h' => by injection h' with h'; rw [← h']; exact HTS.out)
              go_wp2_with fail
              refine (HSZ.out _).mono ?_
              rintro e w2 ⟨rfl, hb2⟩
              have HM3 := Lib.hid (HM2.out.below hb2)
              clear HM2 hb2 c0 c1 HSZ
              obtain ⟨z, hz⟩ : ∃ z : Nat, t.size + 4 = z := ⟨_, rfl⟩
              have HZ := Lib.hid hz
              have hzz : (z : Int) ≤ 2004 := by have := HTS.out; omega
              rw [hz] at HPH HPT ⊢
              clear hz
              have k0 := (mv_st HM3.out).1
              have k1 := (mv_st HM3.out).2.1
              have k3 := (mv_st HM3.out).2.2
              have hact : (s.act : Int) ≤ 1 := by have := HM3.out.d.st.ok.act; omega
              have hfin : (s.fin : Int) ≤ 4096 := by have := HM3.out.d.st.ok.fin; omega
              by_cases hroom : s.fin + z ≤ 4096
              · have hr : (s.fin : Int) + (z : Int) ≤ 4096 := by omega
                obtain ⟨f1, r, hp1⟩ : ∃ f1 r, f.program ((s.act * 4096 + s.fin : Nat) : Int) (St.recL i t) = (f1, r) := ⟨_, _, rfl⟩
                have HQ := Lib.hid (HPH.out f1 r hfull hroom hp1)
                have HP1 := Lib.hid hp1
                have HFR : Hid (s.fin + z ≤ 4096) := hroom
                clear hp1 hfull hroom HPH HPT HPF HPA
                have HW : Hid (IntKind.i64.wrap (IntKind.i64.wrap ((s.act : Int) * 4096) + (s.fin : Int)) = ((s.act * 4096 + s.fin : Nat) : Int)) := by
                  unfold Hid
                  rw [IntKind.wrap_i64, IntKind.wrap_i64]
                  omega
                go_wp2_with fail
                have hS := mv_st HM3.out
                have hm0 := HM3.out
                go_region_held3 (fun u => u.cell? ⟨sb, 0, none⟩ = some (.pointer (some ⟨fb, 0, none⟩)) ∧ u.cell? ⟨sb, 1, none⟩ = some (.int .i64 (s.act : Int)) ∧ u.cell? ⟨sb, 3, none⟩ = some (.int .i64 (s.fin : Int)))
                  (first | assumption)
                  (first
                    | (go_at_call 57; refine (record_any _ i t HI.out HTS.out).mono ?_; rintro e w3 ⟨rfl, hb3⟩; have hm3 := (hm0.below (below_drewN w2 1)).below hb3; have hs3 := mv_st hm3)
                    | (go_at_call 18; refine (program_any fb J f _ _ _ (show Mv w0 _ fb sb kb J f s k from by assumption).d.fl).mono ?_; rintro e w4 ⟨rfl, h4, g4⟩; have hm4 := hm3.mine h4 g4; have hs4 := mv_st hm4))
                rw [HW.out, bytes_str _ (recL_byte i t), HP1.out] at hm4 ⊢
                have HM4 := Lib.hid hm4
                clear hS hm0 hb3 hm3 hs3 h4 g4 hm4 hs4 HW HP1 HM3 k0 k1 k3
                (try clear hHeld)
                by_cases hq : r = 0
                · subst hq
                  have HQ0 := Lib.hid (HQ.out.trans (if_pos rfl))
                  clear HQ
                  have q0 : w4.cell? ⟨kb, 0, none⟩ = some (.bool (St.is (k 0))) := cell_at HM4.out.pb 0
                  have q1 : w4.cell? ⟨kb, 1, none⟩ = some (.string (St.txt (k 0))) := cell_at HM4.out.pb 1
                  have q2 : w4.cell? ⟨kb, 2, none⟩ = some (.bool (St.is (k 1))) := cell_at HM4.out.pb 2
                  have q3 : w4.cell? ⟨kb, 3, none⟩ = some (.string (St.txt (k 1))) := cell_at HM4.out.pb 3
                  have q4 : w4.cell? ⟨kb, 4, none⟩ = some (.bool (St.is (k 2))) := cell_at HM4.out.pb 4
                  have q5 : w4.cell? ⟨kb, 5, none⟩ = some (.string (St.txt (k 2))) := cell_at HM4.out.pb 5
                  have r3 : w4.cell? ⟨sb, 3, none⟩ = some (.int .i64 (s.fin : Int)) := cell_at HM4.out.d.st.blk 3
                  have r4 : w4.cell? ⟨sb, 4, none⟩ = some (.bool (St.is (s.k 0))) := cell_at HM4.out.d.st.blk 4
                  have r5 : w4.cell? ⟨sb, 5, none⟩ = some (.string (St.txt (s.k 0))) := cell_at HM4.out.d.st.blk 5
                  have r6 : w4.cell? ⟨sb, 6, none⟩ = some (.bool (St.is (s.k 1))) := cell_at HM4.out.d.st.blk 6
                  have r7 : w4.cell? ⟨sb, 7, none⟩ = some (.string (St.txt (s.k 1))) := cell_at HM4.out.d.st.blk 7
                  have r8 : w4.cell? ⟨sb, 8, none⟩ = some (.bool (St.is (s.k 2))) := cell_at HM4.out.d.st.blk 8
                  have r9 : w4.cell? ⟨sb, 9, none⟩ = some (.string (St.txt (s.k 2))) := cell_at HM4.out.d.st.blk 9
                  have y3 := free_at HM4.out.d.st.blk 3
                  have y4 := free_at HM4.out.d.st.blk 4
                  have y5 := free_at HM4.out.d.st.blk 5
                  have y6 := free_at HM4.out.d.st.blk 6
                  have y7 := free_at HM4.out.d.st.blk 7
                  have y8 := free_at HM4.out.d.st.blk 8
                  have y9 := free_at HM4.out.d.st.blk 9
                  have hpb : kb ≠ sb := by
                    rintro rfl
                    have hh := HM4.out.pb
                    rw [HM4.out.d.st.blk] at hh
                    injection hh with hh
                    injection hh with _ hh
                    exact absurd hh (by decide)
                  have hpb2 : ¬ sb = kb := fun e => hpb e.symm
                  have HD := Lib.hid HM4.out.d
                  clear HM4
                  go_wp2_with fail
                  go_region
                  have hst := HD.out.st.put k (s.fin + z) HFR.out HK.out
                  rw [Int.natCast_add] at hst
                  have hgr : w4.grownBy (((((((w4.setCell ⟨sb, 4, none⟩ (.bool (St.is (k 0)))).setCell ⟨sb, 5, none⟩ (.string (St.txt (k 0)))).setCell ⟨sb, 6, none⟩ (.bool (St.is (k 1)))).setCell ⟨sb, 7, none⟩ (.string (St.txt (k 1)))).setCell ⟨sb, 8, none⟩ (.bool (St.is (k 2)))).setCell ⟨sb, 9, none⟩ (.string (St.txt (k 2)))).setCell ⟨sb, 3, none⟩ (.int .i64 ((s.fin : Int) + (z : Int)))) (some sb) := grown_set (grown_set (grown_set (grown_set (grown_set (grown_set (grown_set (grown_refl w4 (some sb)) _ _) _ _) _ _) _ _) _ _) _ _) _ _
                  have HD5 : Hid (Duet w0 (((((((w4.setCell ⟨sb, 4, none⟩ (.bool (St.is (k 0)))).setCell ⟨sb, 5, none⟩ (.string (St.txt (k 0)))).setCell ⟨sb, 6, none⟩ (.bool (St.is (k 1)))).setCell ⟨sb, 7, none⟩ (.string (St.txt (k 1)))).setCell ⟨sb, 8, none⟩ (.bool (St.is (k 2)))).setCell ⟨sb, 9, none⟩ (.string (St.txt (k 2)))).setCell ⟨sb, 3, none⟩ (.int .i64 ((s.fin : Int) + (z : Int)))).drew fb sb J f1 { s with fin := s.fin + z, k := k }) := (HD.out.store hst hgr).below (below_drewN _ 1)
                  clear q0 q1 q2 q3 q4 q5 r3 r4 r5 r6 r7 r8 r9 y3 y4 y5 y6 y7 y8 y9 hpb hpb2 hst hgr HD
                  generalize (((((((w4.setCell ⟨sb, 4, none⟩ (.bool (St.is (k 0)))).setCell ⟨sb, 5, none⟩ (.string (St.txt (k 0)))).setCell ⟨sb, 6, none⟩ (.bool (St.is (k 1)))).setCell ⟨sb, 7, none⟩ (.string (St.txt (k 1)))).setCell ⟨sb, 8, none⟩ (.bool (St.is (k 2)))).setCell ⟨sb, 9, none⟩ (.string (St.txt (k 2)))).setCell ⟨sb, 3, none⟩ (.int .i64 ((s.fin : Int) + (z : Int)))).drew = w9 at *
                  have HF := Lib.hid (HOUT.out _ _ _ HQ0.out _ (HD5.out.stand false))
                  have r10 : w9.cell? ⟨sb, 10, none⟩ = some (.bool s.stands) := cell_at HD5.out.st.blk 10
                  have y10 := free_at HD5.out.st.blk 10
                  clear HOUT HQ0 HD5
                  go_wp2_with fail
                  (try simp only [Exit.inBlock, Exit.then])
                  go_ret
                  exact HF.out
                · have hz : (r != 0) = true := by simp [hq]
                  have hz2 : (r == 0) = false := by simp [hq]
                  have HF := Lib.hid (HOUT.out _ _ _ (HQ.out.trans (if_neg hq)) _ (HM4.out.d.stand true))
                  have r10 : w4.cell? ⟨sb, 10, none⟩ = some (.bool s.stands) := cell_at HM4.out.d.st.blk 10
                  have y10 := free_at HM4.out.d.st.blk 10
                  clear HOUT HQ HM4
                  go_wp2_with fail
                  (try simp only [Exit.inBlock, Exit.then])
                  go_ret
                  exact HF.out
              · have hr : ¬ (s.fin : Int) + (z : Int) ≤ 4096 := by omega
                obtain ⟨f1, s1, r, hp1⟩ : ∃ f1 s1 r, St.move f s k = (f1, s1, r) := ⟨_, _, _, rfl⟩
                have HQ := Lib.hid (HPT.out f1 s1 r hfull hroom hp1)
                have HMV := Lib.hid (move_any w0 w2 fb sb J f s k HM3.out.d HK.out (Nat.le_of_not_lt hfull))
                rw [hp1] at HMV
                have q0 : w2.cell? ⟨kb, 0, none⟩ = some (.bool (St.is (k 0))) := cell_at HM3.out.pb 0
                have q1 : w2.cell? ⟨kb, 1, none⟩ = some (.string (St.txt (k 0))) := cell_at HM3.out.pb 1
                have q2 : w2.cell? ⟨kb, 2, none⟩ = some (.bool (St.is (k 1))) := cell_at HM3.out.pb 2
                have q3 : w2.cell? ⟨kb, 3, none⟩ = some (.string (St.txt (k 1))) := cell_at HM3.out.pb 3
                have q4 : w2.cell? ⟨kb, 4, none⟩ = some (.bool (St.is (k 2))) := cell_at HM3.out.pb 4
                have q5 : w2.cell? ⟨kb, 5, none⟩ = some (.string (St.txt (k 2))) := cell_at HM3.out.pb 5
                clear hp1 hfull hroom HPH HPT HPF HPA
                go_wp2_with fail
                refine HMV.out.mono ?_
                rintro e w5 ⟨rfl, hD5⟩
                have HD5 : Hid (Duet w0 w5 fb sb J f1 s1) := hD5
                clear q0 q1 q2 q3 q4 q5 HMV HM3 hD5 k0 k1 k3
                have r10 : w5.cell? ⟨sb, 10, none⟩ = some (.bool s1.stands) := cell_at HD5.out.st.blk 10
                have y10 := free_at HD5.out.st.blk 10
                by_cases hq : r = 0
                · subst hq
                  have HF := Lib.hid (HOUT.out _ _ _ (HQ.out.trans (if_pos rfl)) _ (HD5.out.stand false))
                  clear HOUT HQ HD5
                  go_wp2_with fail
                  (try simp only [Exit.inBlock, Exit.then])
                  go_ret
                  exact HF.out
                · have hz : (r != 0) = true := by simp [hq]
                  have hz2 : (r == 0) = false := by simp [hq]
                  have HF := Lib.hid (HOUT.out _ _ _ (HQ.out.trans (if_neg hq)) _ (HD5.out.stand true))
                  clear HOUT HQ HD5
                  go_wp2_with fail
                  (try simp only [Exit.inBlock, Exit.then])
                  go_ret
                  exact HF.out
end Go.Proofs.Ytngmnceahhlpkaa
