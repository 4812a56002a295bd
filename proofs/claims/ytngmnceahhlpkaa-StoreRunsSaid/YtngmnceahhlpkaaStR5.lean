/- What the document's Put answers. Conditions: the store and its flash lie in memory; while it does not stand the active sector bears its code. -/
import Derived.Test.YtngmnceahhlpkaaStR4
namespace Go.Proofs.Ytngmnceahhlpkaa
open Go.RowKit
def RPutPost (w0 : World) (r c rb : Nat) (res : Fl × St × Int) (e : Ending) (w' : World) : Prop := e = .returned (.int .i64 res.2.2) ∧ RDuet w0 w' r c rb res.1 res.2.1 false
theorem rk_keep (W : World) (kb : Nat) (k : Kept) (p i : Nat) (d : Bool) (hi : i < 3) (t : ByteArray) (h : W.heap[kb]? = some (.cells (rkC k p d) 122)) :
    ((W.setCell ⟨kb, i, none⟩ (.bool true)).setCell ⟨kb, 3 + i, none⟩ (.string t)).heap[kb]? = some (.cells (rkC (St.keep k i t) p d) 122) := by
  refine (heap_setCell_at (heap_setCell_at h i (.bool true)) (3 + i) (.string t)).trans ?_
  have hc : i = 0 ∨ i = 1 ∨ i = 2 := by omega
  rcases hc with rfl | rfl | rfl
  · simp [rkC, keep_is, keep_txt]
  · simp [rkC, keep_is, keep_txt]
  · simp [rkC, keep_is, keep_txt]
theorem RStAt.put {w : World} {rb r : Nat} {s : St} {d : Bool} (h : RStAt w rb r s d) (k : Kept) (p : Nat) (hp : p ≤ 4096) (hk : ∀ i t, k i = some t → t.size ≤ 2000) :
    RStAt ((((((((w.setCell ⟨rb, 2, none⟩ (.bool (St.is (k 0)))).setCell ⟨rb, 3, none⟩ (.bool (St.is (k 1)))).setCell ⟨rb, 4, none⟩ (.bool (St.is (k 2)))).setCell ⟨rb, 5, none⟩ (.string (St.txt (k 0)))).setCell ⟨rb, 6, none⟩ (.string (St.txt (k 1)))).setCell ⟨rb, 7, none⟩ (.string (St.txt (k 2)))).setCell ⟨rb, 8, none⟩ (.int .i64 (p : Int))).setCell ⟨rb, 9, none⟩ (.bool false)) rb r { s with fin := p, k := k } false :=
  ⟨(heap_setCell_at (heap_setCell_at (heap_setCell_at (heap_setCell_at (heap_setCell_at (heap_setCell_at (heap_setCell_at (heap_setCell_at h.blk 2 _) 3 _) 4 _) 5 _) 6 _) 7 _) 8 _) 9 _).trans (by simp [rstA]), ⟨h.ok.act, h.ok.code, hp, hk⟩⟩
theorem RDuet.stand {w0 W : World} {r c rb : Nat} {x : Fl} {s : St} {d : Bool} (h : RDuet w0 W r c rb x s d) (b : Bool) : RDuet w0 (W.setCell ⟨rb, 10, none⟩ (.bool b)) r c rb x { s with stands := b } d :=
  h.store ⟨(heap_setCell_at h.st.blk 10 _).trans (by simp [rstA]), ⟨h.st.ok.act, h.st.ok.code, h.st.ok.fin, h.st.ok.k⟩⟩ (grown_set (grown_refl W (some rb)) _ _)
theorem rst_put {W : World} {r rb : Nat} {s : St} {d : Bool} (h : RStAt W rb r s d) : W.cell? ⟨rb, 0, none⟩ = some (.pointer (some ⟨r, 0, none⟩)) ∧ W.cell? ⟨rb, 1, none⟩ = some (.int .i64 (s.act : Int)) ∧ W.cell? ⟨rb, 8, none⟩ = some (.int .i64 (s.fin : Int)) := ⟨cell_at h.blk 0, cell_at h.blk 1, cell_at h.blk 8⟩
theorem rk_end2 (k : Kept) (p0 p : Nat) (d0 : Bool) : (rkC k p0 d0).setIfInBounds 6 (.int .i64 (p : Int)) = rkC k p d0 := by simp [rkC]
set_option maxRecDepth 100000 in
set_option maxHeartbeats 1600000 in
theorem rput_any (w0 w : World) (r c rb : Nat) (x : Fl) (s : St) (id : Int) (t : ByteArray) (h : RDuet w0 w r c rb x s false) (hlive : s.stands = false → x.cell.getD (s.act * 4096) 0 = s.code ∧ (St.fol s.code).isSome = true) :
    Calls Try.prog 60 #[.pointer (some ⟨rb, 0, none⟩), .int .i64 id, .string t] w (RPutPost w0 r c rb (St.put x s id t)) := by
  have HD := Lib.hid h
  have q5 : w.cell? ⟨rb, 10, none⟩ = some (.bool s.stands) := cell_at h.st.blk 10
  have HOUT : Hid (∀ f' s' rr, St.put x s id t = (f', s', rr) → ∀ w', RDuet w0 w' r c rb f' s' false → RPutPost w0 r c rb (St.put x s id t) (.returned (.int .i64 rr)) w') := by
    intro f' s' rr hp w' hd
    rw [hp]
    exact ⟨rfl, hd⟩
  have HLV := Lib.hid hlive
  clear h hlive
  cases hst : s.stands with
  | true =>
    rw [hst] at q5
    have HF := Lib.hid (HOUT.out _ _ _ (put_stands hst) w HD.out)
    clear hst HOUT
    go_enter Try.func60, Try.ntmps60
    go_wp2_with fail
    (try simp only [Exit.inBlock, Exit.then])
    go_ret
    exact HF.out
  | false =>
    rw [hst] at q5
    by_cases hbad : id < 0 ∨ 3 ≤ id ∨ 2000 < t.size
    · have HF := Lib.hid (HOUT.out _ _ _ (put_arg hst hbad) w HD.out)
      clear hst HOUT
      by_cases h0 : id < 0
      · clear hbad
        go_enter Try.func60, Try.ntmps60
        go_wp2_with fail
        (try simp only [Exit.inBlock, Exit.then])
        go_ret
        exact HF.out
      · by_cases h3 : 3 ≤ id
        · have h32 : (2 : Int) < id := by omega
          clear hbad
          go_enter Try.func60, Try.ntmps60
          go_wp2_with fail
          (try simp only [Exit.inBlock, Exit.then])
          go_ret
          exact HF.out
        · have h2 : (2000 : Int) < (t.size : Int) := by omega
          have h32 : ¬ (2 : Int) < id := by omega
          clear hbad
          go_enter Try.func60, Try.ntmps60
          go_wp2_with fail
          (try simp only [Exit.inBlock, Exit.then])
          go_ret
          exact HF.out
    · obtain ⟨i, rfl⟩ : ∃ i : Nat, id = (i : Int) := ⟨id.toNat, by omega⟩
      have hi : i < 3 := by omega
      have hts : t.size ≤ 2000 := by omega
      clear hbad
      have HI := Lib.hid hi
      have HTS := Lib.hid hts
      have HST := Lib.hid hst
      have h0 : ¬ (i : Int) < 0 := by omega
      have h3 : ¬ (2 : Int) < (i : Int) := by omega
      have h2 : ¬ (2000 : Int) < (t.size : Int) := by omega
      have r2 : w.cell? ⟨rb, 2, none⟩ = some (.bool (St.is (s.k 0))) := cell_at HD.out.st.blk 2
      have r3 : w.cell? ⟨rb, 3, none⟩ = some (.bool (St.is (s.k 1))) := cell_at HD.out.st.blk 3
      have r4 : w.cell? ⟨rb, 4, none⟩ = some (.bool (St.is (s.k 2))) := cell_at HD.out.st.blk 4
      have r5 : w.cell? ⟨rb, 5, none⟩ = some (.string (St.txt (s.k 0))) := cell_at HD.out.st.blk 5
      have r6 : w.cell? ⟨rb, 6, none⟩ = some (.string (St.txt (s.k 1))) := cell_at HD.out.st.blk 6
      have r7 : w.cell? ⟨rb, 7, none⟩ = some (.string (St.txt (s.k 2))) := cell_at HD.out.st.blk 7
      have r8 : w.cell? ⟨rb, 8, none⟩ = some (.int .i64 (s.fin : Int)) := cell_at HD.out.st.blk 8
      have r9 : w.cell? ⟨rb, 9, none⟩ = some (.bool false) := cell_at HD.out.st.blk 9
      have HM : Hid (RMv w0 (w.alloc (.cells #[.bool (St.is (s.k 0)), .bool (St.is (s.k 1)), .bool (St.is (s.k 2)), .string (St.txt (s.k 0)), .string (St.txt (s.k 1)), .string (St.txt (s.k 2)), .int .i64 (s.fin : Int), .bool false] 122)) r c rb w.heap.size x s false (rkC s.k s.fin false)) := ⟨HD.out.below (below_alloc1 w _), heap_alloc_new w _⟩
      have HLE : Hid (w0.heap.size ≤ w.heap.size) := HD.out.wr.size
      clear hst hi hts HD
      go_enter Try.func60, Try.ntmps60
      go_upto_region 6 with fail
      generalize (w.alloc (.cells #[.bool (St.is (s.k 0)), .bool (St.is (s.k 1)), .bool (St.is (s.k 2)), .string (St.txt (s.k 0)), .string (St.txt (s.k 1)), .string (St.txt (s.k 2)), .int .i64 (s.fin : Int), .bool false] 122)) = w1 at *
      generalize w.heap.size = kb at *
      clear q5 r2 r3 r4 r5 r6 r7 r8 r9
      obtain ⟨c0, c1⟩ := rk_has HM.out.pb i HI.out
      have y0 := free_at HM.out.pb i
      have y1 := free_at HM.out.pb (3 + i)
      have c1' : (w1.setCell ⟨kb, i, none⟩ (.bool true)).cell? ⟨kb, 3 + i, none⟩ = some (.string (St.txt (s.k i))) := (cell_set_ne w1 kb i (3 + i) (by omega) _).trans c1
      have HMK : Hid (RMv w0 ((w1.setCell ⟨kb, i, none⟩ (.bool true)).setCell ⟨kb, 3 + i, none⟩ (.string t)) r c rb kb x s false (rkC (St.keep s.k i t) s.fin false)) :=
        HM.out.own HLE.out (grown_set (grown_set (grown_refl w1 (some kb)) _ _) _ _) (rk_keep w1 kb s.k s.fin i false HI.out t HM.out.pb)
      have HK : Hid (∀ j u, St.keep s.k i t j = some u → u.size ≤ 2000) := (HM.out.d.st.ok.keep i HTS.out).k
      have hlt : (i : Int) < 3 := by have := HI.out; omega
      have hge : (0 : Int) ≤ (i : Int) := by omega
      have htn : ((i : Int)).toNat = i := Int.toNat_natCast i
      have HPH := Lib.hid (fun f1 rr h3 h4 h5 => put_here (f := x) (f1 := f1) (s := s) (i := i) (t := t) (r := rr) HST.out HI.out HTS.out h3 h4 h5)
      have HPT := Lib.hid (fun f1 s1 rr h3 h4 h5 => put_there (f := x) (f1 := f1) (s := s) (s1 := s1) (i := i) (t := t) (r := rr) HST.out HI.out HTS.out h3 h4 h5)
      have HPF := Lib.hid (fun h3 => put_full (f := x) (s := s) (i := i) (t := t) HST.out HI.out HTS.out h3)
      go_upto_region 8 with fail
      clear c0 c1 y0 y1 c1' HM
      generalize ((w1.setCell ⟨kb, i, none⟩ (.bool true)).setCell ⟨kb, 3 + i, none⟩ (.string t)) = w2 at *
      generalize St.keep s.k i t = k at *
      have p0 : w2.cell? ⟨kb, 0, none⟩ = some (.bool (St.is (k 0))) := cell_at HMK.out.pb 0
      have p1 : w2.cell? ⟨kb, 1, none⟩ = some (.bool (St.is (k 1))) := cell_at HMK.out.pb 1
      have p2 : w2.cell? ⟨kb, 2, none⟩ = some (.bool (St.is (k 2))) := cell_at HMK.out.pb 2
      have p3 : w2.cell? ⟨kb, 3, none⟩ = some (.string (St.txt (k 0))) := cell_at HMK.out.pb 3
      have p4 : w2.cell? ⟨kb, 4, none⟩ = some (.string (St.txt (k 1))) := cell_at HMK.out.pb 4
      have p5 : w2.cell? ⟨kb, 5, none⟩ = some (.string (St.txt (k 2))) := cell_at HMK.out.pb 5
      have p6 : w2.cell? ⟨kb, 6, none⟩ = some (.int .i64 (s.fin : Int)) := cell_at HMK.out.pb 6
      have p7 : w2.cell? ⟨kb, 7, none⟩ = some (.bool false) := cell_at HMK.out.pb 7
      have HSZ : Hid (∀ W, Calls Try.prog 70 #[.agg #[.bool (St.is (k 0)), .bool (St.is (k 1)), .bool (St.is (k 2)), .string (St.txt (k 0)), .string (St.txt (k 1)), .string (St.txt (k 2)), .int .i64 (s.fin : Int), .bool false]] W fun e w' => e = .returned (.int .i64 (St.all k : Int)) ∧ Below W.heap.size W w') := fun W => rsize_any W k s.fin false HK.out
      go_wp2_with fail
      refine (HSZ.out _).mono ?_
      rintro e w3 ⟨rfl, hb3⟩
      have HM3 := Lib.hid (HMK.out.below hb3)
      clear hb3 HMK HSZ p0 p1 p2 p3 p4 p5 p6 p7
      by_cases hfull : 4096 < St.all k
      · have hf : (4096 : Int) < (St.all k : Int) := by omega
        have HF := Lib.hid (HOUT.out _ _ _ (HPF.out hfull) _ HM3.out.d)
        clear HOUT HPF HPT HPH
        go_wp2_with fail
        (try simp only [Exit.inBlock, Exit.then])
        go_ret
        exact HF.out
      · have hf : ¬ (4096 : Int) < (St.all k : Int) := by omega
        have HAL : Hid (St.all k ≤ 4096) := by unfold Hid; omega
        go_wp2_with fail
        refine (rrec_any _ i t HI.out HTS.out).mono ?_
        rintro e w4 ⟨rfl, hb4⟩
        have HM4 := Lib.hid (HM3.out.below hb4)
        have hrs := rec_size i t
        have HBB : Hid (bytes (str (St.recL i t)) = St.recL i t) := bytes_str _ (recL_byte i t)
        clear hb4 HM3
        generalize str (St.recL i t) = rs at *
        obtain ⟨z, hz⟩ : ∃ z : Nat, rs.size = z := ⟨_, rfl⟩
        have HZ : Hid (t.size + 4 = z) := by unfold Hid; omega
        have hzi : (z : Int) ≤ 2004 := by have := HTS.out; omega
        rw [HZ.out] at HPH HPT
        clear hrs
        obtain ⟨k0, k1, k8⟩ := rst_put HM4.out.d.st
        have hact : (s.act : Int) ≤ 1 := by have := HM4.out.d.st.ok.act; omega
        have hfin : (s.fin : Int) ≤ 4096 := by have := HM4.out.d.st.ok.fin; omega
        by_cases hroom : s.fin + z ≤ 4096
        · have hr : (s.fin : Int) + (z : Int) ≤ 4096 := by omega
          obtain ⟨f1, rr, hp1⟩ : ∃ f1 rr, x.program ((s.act * 4096 + s.fin : Nat) : Int) (St.recL i t) = (f1, rr) := ⟨_, _, rfl⟩
          have HQ := Lib.hid (HPH.out f1 rr hfull hroom hp1)
          have HP1 := Lib.hid hp1
          have HFR : Hid (s.fin + z ≤ 4096) := hroom
          clear hp1 hfull hroom HPH HPT HPF
          have HW : Hid (IntKind.i64.wrap (IntKind.i64.wrap ((s.act : Int) * 4096) + (s.fin : Int)) = ((s.act * 4096 + s.fin : Nat) : Int)) := by
            unfold Hid
            rw [IntKind.wrap_i64, IntKind.wrap_i64]
            omega
          go_wp2_with fail
          have hS := rst_put HM4.out.d.st
          have hm0 := HM4.out
          go_region_held3 (fun u => u.cell? ⟨rb, 0, none⟩ = some (.pointer (some ⟨r, 0, none⟩)) ∧ u.cell? ⟨rb, 1, none⟩ = some (.int .i64 (s.act : Int)) ∧ u.cell? ⟨rb, 8, none⟩ = some (.int .i64 (s.fin : Int)))
            (first | assumption)
            (first
              | (go_at_call 45; refine (rprogram_any r c x _ _ _ (hm0.below (below_drewN w4 1)).d.fl).mono ?_; rintro e w5 ⟨rfl, h5, g5⟩; have hm5 := (hm0.below (below_drewN w4 1)).mine h5 g5; have hs5 := rst_put hm5.d.st))
          rw [HW.out, HBB.out, HP1.out] at hm5 ⊢
          have HM5 := Lib.hid hm5
          clear hS hm0 h5 g5 hm5 hs5 HW HP1 HM4 k0 k1 k8
          (try clear hHeld)
          have x6 : w5.cell? ⟨kb, 6, none⟩ = some (.int .i64 (s.fin : Int)) := cell_at HM5.out.pb 6
          have z6 := free_at HM5.out.pb 6
          have HPE : ((s.fin + z : Nat) : Int) = (s.fin : Int) + (z : Int) := by omega
          have hm6 := HM5.out.own HLE.out (grown_set (grown_refl w5 (some kb)) 6 (.int .i64 ((s.fin + z : Nat) : Int))) ((heap_setCell_at HM5.out.pb 6 _).trans (by rw [rk_end2]))
          rw [HPE] at hm6
          have HM6 : Hid (RMv w0 (w5.setCell ⟨kb, 6, none⟩ (.int .i64 ((s.fin : Int) + (z : Int)))) r c rb kb f1 s false (rkC k (s.fin + z) false)) := hm6
          clear hm6 HM5 HPE
          go_upto_region 15 with fail
          clear x6 z6
          generalize (w5.setCell ⟨kb, 6, none⟩ (.int .i64 ((s.fin : Int) + (z : Int)))) = w6 at *
          by_cases hq : rr = 0
          · subst hq
            have HQ0 := Lib.hid (HQ.out.trans (if_pos rfl))
            clear HQ
            have q0 : w6.cell? ⟨kb, 0, none⟩ = some (.bool (St.is (k 0))) := cell_at HM6.out.pb 0
            have q1 : w6.cell? ⟨kb, 1, none⟩ = some (.bool (St.is (k 1))) := cell_at HM6.out.pb 1
            have q2 : w6.cell? ⟨kb, 2, none⟩ = some (.bool (St.is (k 2))) := cell_at HM6.out.pb 2
            have q3 : w6.cell? ⟨kb, 3, none⟩ = some (.string (St.txt (k 0))) := cell_at HM6.out.pb 3
            have q4 : w6.cell? ⟨kb, 4, none⟩ = some (.string (St.txt (k 1))) := cell_at HM6.out.pb 4
            have q5 : w6.cell? ⟨kb, 5, none⟩ = some (.string (St.txt (k 2))) := cell_at HM6.out.pb 5
            have q6 : w6.cell? ⟨kb, 6, none⟩ = some (.int .i64 (((s.fin + z : Nat) : Int))) := cell_at HM6.out.pb 6
            rw [Int.natCast_add] at q6
            have q7 : w6.cell? ⟨kb, 7, none⟩ = some (.bool false) := cell_at HM6.out.pb 7
            have r2 : w6.cell? ⟨rb, 2, none⟩ = some (.bool (St.is (s.k 0))) := cell_at HM6.out.d.st.blk 2
            have r3 : w6.cell? ⟨rb, 3, none⟩ = some (.bool (St.is (s.k 1))) := cell_at HM6.out.d.st.blk 3
            have r4 : w6.cell? ⟨rb, 4, none⟩ = some (.bool (St.is (s.k 2))) := cell_at HM6.out.d.st.blk 4
            have r5 : w6.cell? ⟨rb, 5, none⟩ = some (.string (St.txt (s.k 0))) := cell_at HM6.out.d.st.blk 5
            have r6 : w6.cell? ⟨rb, 6, none⟩ = some (.string (St.txt (s.k 1))) := cell_at HM6.out.d.st.blk 6
            have r7 : w6.cell? ⟨rb, 7, none⟩ = some (.string (St.txt (s.k 2))) := cell_at HM6.out.d.st.blk 7
            have r8 : w6.cell? ⟨rb, 8, none⟩ = some (.int .i64 (s.fin : Int)) := cell_at HM6.out.d.st.blk 8
            have r9 : w6.cell? ⟨rb, 9, none⟩ = some (.bool false) := cell_at HM6.out.d.st.blk 9
            have y2 := free_at HM6.out.d.st.blk 2
            have y3 := free_at HM6.out.d.st.blk 3
            have y4 := free_at HM6.out.d.st.blk 4
            have y5 := free_at HM6.out.d.st.blk 5
            have y6 := free_at HM6.out.d.st.blk 6
            have y7 := free_at HM6.out.d.st.blk 7
            have y8 := free_at HM6.out.d.st.blk 8
            have y9 := free_at HM6.out.d.st.blk 9
            have hst := HM6.out.d.st.put k (s.fin + z) HFR.out HK.out
            rw [Int.natCast_add] at hst
            have hgr : w6.grownBy ((((((((w6.setCell ⟨rb, 2, none⟩ (.bool (St.is (k 0)))).setCell ⟨rb, 3, none⟩ (.bool (St.is (k 1)))).setCell ⟨rb, 4, none⟩ (.bool (St.is (k 2)))).setCell ⟨rb, 5, none⟩ (.string (St.txt (k 0)))).setCell ⟨rb, 6, none⟩ (.string (St.txt (k 1)))).setCell ⟨rb, 7, none⟩ (.string (St.txt (k 2)))).setCell ⟨rb, 8, none⟩ (.int .i64 ((s.fin : Int) + (z : Int)))).setCell ⟨rb, 9, none⟩ (.bool false)) (some rb) := grown_set (grown_set (grown_set (grown_set (grown_set (grown_set (grown_set (grown_set (grown_refl w6 (some rb)) _ _) _ _) _ _) _ _) _ _) _ _) _ _) _ _
            have HD5 : Hid (RDuet w0 ((((((((w6.setCell ⟨rb, 2, none⟩ (.bool (St.is (k 0)))).setCell ⟨rb, 3, none⟩ (.bool (St.is (k 1)))).setCell ⟨rb, 4, none⟩ (.bool (St.is (k 2)))).setCell ⟨rb, 5, none⟩ (.string (St.txt (k 0)))).setCell ⟨rb, 6, none⟩ (.string (St.txt (k 1)))).setCell ⟨rb, 7, none⟩ (.string (St.txt (k 2)))).setCell ⟨rb, 8, none⟩ (.int .i64 ((s.fin : Int) + (z : Int)))).setCell ⟨rb, 9, none⟩ (.bool false)) r c rb f1 { s with fin := s.fin + z, k := k } false) := HM6.out.d.store hst hgr
            clear HM6 hst hgr
            go_upto_region 18 with fail
            clear q0 q1 q2 q3 q4 q5 q6 q7 r2 r3 r4 r5 r6 r7 r8 r9 y2 y3 y4 y5 y6 y7 y8 y9
            generalize ((((((((w6.setCell ⟨rb, 2, none⟩ (.bool (St.is (k 0)))).setCell ⟨rb, 3, none⟩ (.bool (St.is (k 1)))).setCell ⟨rb, 4, none⟩ (.bool (St.is (k 2)))).setCell ⟨rb, 5, none⟩ (.string (St.txt (k 0)))).setCell ⟨rb, 6, none⟩ (.string (St.txt (k 1)))).setCell ⟨rb, 7, none⟩ (.string (St.txt (k 2)))).setCell ⟨rb, 8, none⟩ (.int .i64 ((s.fin : Int) + (z : Int)))).setCell ⟨rb, 9, none⟩ (.bool false)) = w9 at *
            have HF := Lib.hid (HOUT.out _ _ _ HQ0.out _ (HD5.out.stand false))
            have r10 : w9.cell? ⟨rb, 10, none⟩ = some (.bool s.stands) := cell_at HD5.out.st.blk 10
            have y10 := free_at HD5.out.st.blk 10
            clear HOUT HQ0 HD5
            go_wp2_with fail
            (try simp only [Exit.inBlock, Exit.then])
            go_ret
            exact HF.out
          · have hz : (rr != 0) = true := by simp [hq]
            have hz2 : (rr == 0) = false := by simp [hq]
            have HF := Lib.hid (HOUT.out _ _ _ (HQ.out.trans (if_neg hq)) _ (HM6.out.d.stand true))
            have r10 : w6.cell? ⟨rb, 10, none⟩ = some (.bool s.stands) := cell_at HM6.out.d.st.blk 10
            have y10 := free_at HM6.out.d.st.blk 10
            clear HOUT HQ HM6
            go_wp2_with fail
            (try simp only [Exit.inBlock, Exit.then])
            go_ret
            exact HF.out
        · have hr : ¬ (s.fin : Int) + (z : Int) ≤ 4096 := by omega
          obtain ⟨f1, s1, rr, hp1⟩ : ∃ f1 s1 rr, St.move x s k = (f1, s1, rr) := ⟨_, _, _, rfl⟩
          have HQ := Lib.hid (HPT.out f1 s1 rr hfull hroom hp1)
          obtain ⟨hcd, hic⟩ := HLV.out HST.out
          have HMV : Hid (Calls Try.prog 68 #[.pointer (some ⟨rb, 0, none⟩), .agg #[.bool (St.is (k 0)), .bool (St.is (k 1)), .bool (St.is (k 2)), .string (St.txt (k 0)), .string (St.txt (k 1)), .string (St.txt (k 2)), .int .i64 (s.fin : Int), .bool false]] w4 (RMovePost w0 r c rb false (f1, s1, rr))) := by
            have h := rmove_any w0 w4 r c rb x s false k s.fin false HM4.out.d HK.out HAL.out hcd hic
            rw [hp1] at h
            exact h
          have q0 : w4.cell? ⟨kb, 0, none⟩ = some (.bool (St.is (k 0))) := cell_at HM4.out.pb 0
          have q1 : w4.cell? ⟨kb, 1, none⟩ = some (.bool (St.is (k 1))) := cell_at HM4.out.pb 1
          have q2 : w4.cell? ⟨kb, 2, none⟩ = some (.bool (St.is (k 2))) := cell_at HM4.out.pb 2
          have q3 : w4.cell? ⟨kb, 3, none⟩ = some (.string (St.txt (k 0))) := cell_at HM4.out.pb 3
          have q4 : w4.cell? ⟨kb, 4, none⟩ = some (.string (St.txt (k 1))) := cell_at HM4.out.pb 4
          have q5 : w4.cell? ⟨kb, 5, none⟩ = some (.string (St.txt (k 2))) := cell_at HM4.out.pb 5
          have q6 : w4.cell? ⟨kb, 6, none⟩ = some (.int .i64 (s.fin : Int)) := cell_at HM4.out.pb 6
          have q7 : w4.cell? ⟨kb, 7, none⟩ = some (.bool false) := cell_at HM4.out.pb 7
          clear hp1 hfull hroom HPH HPT HPF hcd hic
          go_wp2_with fail
          refine HMV.out.mono ?_
          rintro e w5 ⟨rfl, d', hD5, hd1, hd2⟩
          have hd' : d' = false := by
            by_cases hq : rr = 0
            · exact hd1 hq
            · exact hd2 hq
          subst hd'
          have HD5 : Hid (RDuet w0 w5 r c rb f1 s1 false) := hD5
          clear q0 q1 q2 q3 q4 q5 q6 q7 HMV HM4 hD5 k0 k1 k8 hd1 hd2
          have r10 : w5.cell? ⟨rb, 10, none⟩ = some (.bool s1.stands) := cell_at HD5.out.st.blk 10
          have y10 := free_at HD5.out.st.blk 10
          by_cases hq : rr = 0
          · subst hq
            have HF := Lib.hid (HOUT.out _ _ _ (HQ.out.trans (if_pos rfl)) _ (HD5.out.stand false))
            clear HOUT HQ HD5
            go_wp2_with fail
            (try simp only [Exit.inBlock, Exit.then])
            go_ret
            exact HF.out
          · have hz : (rr != 0) = true := by simp [hq]
            have hz2 : (rr == 0) = false := by simp [hq]
            have HF := Lib.hid (HOUT.out _ _ _ (HQ.out.trans (if_neg hq)) _ (HD5.out.stand true))
            clear HOUT HQ HD5
            go_wp2_with fail
            (try simp only [Exit.inBlock, Exit.then])
            go_ret
            exact HF.out
end Go.Proofs.Ytngmnceahhlpkaa
