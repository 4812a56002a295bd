/- The document's store in memory; what its Get, Active and format answer. Conditions: the store and its flash lie in memory. -/
import Derived.Test.YtngmnceahhlpkaaStR1
namespace Go.Proofs.Ytngmnceahhlpkaa
open Go.RowKit
def rstA (r : Nat) (s : St) (d : Bool) : Array Value :=
  #[.pointer (some ⟨r, 0, none⟩), .int .i64 (s.act : Int), .bool (St.is (s.k 0)), .bool (St.is (s.k 1)), .bool (St.is (s.k 2)), .string (St.txt (s.k 0)), .string (St.txt (s.k 1)), .string (St.txt (s.k 2)), .int .i64 (s.fin : Int), .bool d, .bool s.stands]
structure RStAt (w : World) (rb r : Nat) (s : St) (d : Bool) : Prop where
  blk : w.heap[rb]? = some (.cells (rstA r s d) 124)
  ok : s.Ok
theorem RStAt.lt {w : World} {rb r : Nat} {s : St} {d : Bool} (h : RStAt w rb r s d) : rb < w.heap.size := lt_of_at h.blk
theorem RStAt.kept {w w1 : World} {rb r : Nat} {s : St} {d : Bool} (h : RStAt w rb r s d) (hb : w1.heap[rb]? = w.heap[rb]?) : RStAt w1 rb r s d := ⟨hb.trans h.blk, h.ok⟩
theorem RStAt.below {w w1 : World} {rb r : Nat} {s : St} {d : Bool} (h : RStAt w rb r s d) (hb : Below w.heap.size w w1) : RStAt w1 rb r s d := h.kept (hb.block rb h.lt)
theorem RAt.ne_of {W : World} {r c b : Nat} {f : Fl} (h : RAt W r c f) {cs : Array Value} {t : TypeId} (hs : W.heap[b]? = some (.cells cs t)) (h1 : t ≠ 97) (h2 : t ≠ 5) : b ≠ r ∧ b ≠ c := by
  obtain ⟨_, _, _, hb⟩ := h.blk
  obtain ⟨_, _, hc, _⟩ := h.row
  refine ⟨?_, ?_⟩
  · rintro rfl
    rw [hb] at hs
    injection hs with hs
    injection hs with _ hs
    exact h1 hs.symm
  · rintro rfl
    rw [hc] at hs
    injection hs with hs
    injection hs with _ hs
    exact h2 hs.symm
def three (a b c : Nat) : Nat → Prop := fun k => k = a ∨ k = b ∨ k = c
/-- The document's flash and store; nothing else is written behind w0. -/
structure RDuet (w0 W : World) (r c rb : Nat) (x : Fl) (s : St) (d : Bool) : Prop where
  fl : RAt W r c x
  st : RStAt W rb r s d
  wr : Wrote w0 W (three r c rb)
theorem RDuet.mine {w0 W V : World} {r c rb : Nat} {x x' : Fl} {s : St} {d : Bool} (h : RDuet w0 W r c rb x s d) (ha : RAt V r c x') (hg : Wrote W V (fun k => k = r ∨ k = c)) : RDuet w0 V r c rb x' s d := by
  have hn := h.fl.ne_of h.st.blk (by decide) (by decide)
  exact ⟨ha, h.st.kept (hg.block rb h.st.lt (fun e => e.elim hn.1 hn.2)), h.wr.trans (hg.mono fun _ e => e.elim .inl fun e => .inr (.inl e))⟩
theorem RDuet.store {w0 W V : World} {r c rb : Nat} {x : Fl} {s s' : St} {d d' : Bool} (h : RDuet w0 W r c rb x s d) (hs : RStAt V rb r s' d') (hg : W.grownBy V (some rb)) : RDuet w0 V r c rb x s' d' := by
  have hn := h.fl.ne_of h.st.blk (by decide) (by decide)
  exact ⟨h.fl.kept (hg.block r h.fl.lt (fun e => hn.1 (Option.some.inj e).symm)) (hg.block c h.fl.rlt (fun e => hn.2 (Option.some.inj e).symm)), hs, h.wr.trans ((Wrote.of_grown hg).mono fun _ e => .inr (.inr e))⟩
theorem RAt.below {W V : World} {r c : Nat} {x : Fl} (h : RAt W r c x) (hb : Below W.heap.size W V) : RAt V r c x := h.kept (hb.block r h.lt) (hb.block c h.rlt)
theorem RDuet.below {w0 W V : World} {r c rb : Nat} {x : Fl} {s : St} {d : Bool} (h : RDuet w0 W r c rb x s d) (hb : Below W.heap.size W V) : RDuet w0 V r c rb x s d := ⟨h.fl.below hb, h.st.below hb, h.wr.trans (Wrote.of_below hb _)⟩
set_option maxRecDepth 100000 in
set_option maxHeartbeats 1000000 in
theorem rget_any (w : World) (rb r : Nat) (s : St) (d : Bool) (id : Int) (h : RStAt w rb r s d) : Calls Try.prog 61 #[.pointer (some ⟨rb, 0, none⟩), .int .i64 id] w (GetPost w s id) := by
  have k2 : w.cell? ⟨rb, 2, none⟩ = some (.bool (St.is (s.k 0))) := cell_at h.blk 2
  have k3 : w.cell? ⟨rb, 3, none⟩ = some (.bool (St.is (s.k 1))) := cell_at h.blk 3
  have k4 : w.cell? ⟨rb, 4, none⟩ = some (.bool (St.is (s.k 2))) := cell_at h.blk 4
  have k5 : w.cell? ⟨rb, 5, none⟩ = some (.string (St.txt (s.k 0))) := cell_at h.blk 5
  have k6 : w.cell? ⟨rb, 6, none⟩ = some (.string (St.txt (s.k 1))) := cell_at h.blk 6
  have k7 : w.cell? ⟨rb, 7, none⟩ = some (.string (St.txt (s.k 2))) := cell_at h.blk 7
  have k10 : w.cell? ⟨rb, 10, none⟩ = some (.bool s.stands) := cell_at h.blk 10
  have HF : Hid (∀ a b, (St.get s id) = (a, b) → ∀ w', Below w.heap.size w w' → GetPost w s id (.returned (.tuple #[.string a, .bool b])) w') := fun a b hab w' hw => by
    unfold GetPost
    rw [hab]
    exact ⟨rfl, hw⟩
  clear h
  cases hs : s.stands with
  | true =>
    have HG := Lib.hid (HF.out ByteArray.empty false (by unfold St.get; rw [hs]; simp))
    rw [hs] at k10
    clear hs HF
    go_enter Try.func61, Try.ntmps61
    go_wp2_with fail
    (try simp only [Exit.inBlock, Exit.then])
    go_ret2
    exact HG.out _ (Below.refl _ _)
  | false =>
    rw [hs] at k10
    by_cases h0 : id < 0
    · have HG := Lib.hid (HF.out ByteArray.empty false (by unfold St.get; rw [if_pos (by simp [h0])]))
      clear hs HF
      go_enter Try.func61, Try.ntmps61
      go_wp2_with fail
      (try simp only [Exit.inBlock, Exit.then])
      go_ret2
      exact HG.out _ (Below.refl _ _)
    · by_cases h3 : 3 ≤ id
      · have HG := Lib.hid (HF.out ByteArray.empty false (by unfold St.get; rw [if_pos (by simp [h3])]))
        have h2 : (2 : Int) < id := by omega
        clear hs HF
        go_enter Try.func61, Try.ntmps61
        go_wp2_with fail
        (try simp only [Exit.inBlock, Exit.then])
        go_ret2
        exact HG.out _ (Below.refl _ _)
      · have hc : id = 0 ∨ id = 1 ∨ id = 2 := by omega
        rcases hc with rfl | rfl | rfl
        · have HG := Lib.hid (HF.out (St.txt (s.k 0)) (St.is (s.k 0)) (by unfold St.get; rw [hs]; rfl))
          generalize St.txt (s.k 0) = t at *
          generalize St.is (s.k 0) = i at *
          clear hs HF
          go_enter Try.func61, Try.ntmps61
          go_wp2_with fail
          go_region
          go_wp2_with fail
          go_ret2
          exact HG.out _ (Below.refl _ _).drew
        · have HG := Lib.hid (HF.out (St.txt (s.k 1)) (St.is (s.k 1)) (by unfold St.get; rw [hs]; rfl))
          generalize St.txt (s.k 1) = t at *
          generalize St.is (s.k 1) = i at *
          clear hs HF
          go_enter Try.func61, Try.ntmps61
          go_wp2_with fail
          go_region
          go_wp2_with fail
          go_ret2
          exact HG.out _ (Below.refl _ _).drew
        · have HG := Lib.hid (HF.out (St.txt (s.k 2)) (St.is (s.k 2)) (by unfold St.get; rw [hs]; rfl))
          generalize St.txt (s.k 2) = t at *
          generalize St.is (s.k 2) = i at *
          clear hs HF
          go_enter Try.func61, Try.ntmps61
          go_wp2_with fail
          go_region
          go_wp2_with fail
          go_ret2
          exact HG.out _ (Below.refl _ _).drew
/-- The active sector's number; -1: none. -/
def actN (f : Fl) : Int := match St.active f with | none => -1 | some (a, _, _) => (a : Int)
set_option maxRecDepth 100000 in
set_option maxHeartbeats 1000000 in
theorem ractive_any (w : World) (f : Fl) (img : ByteArray) (hb : bytes img = f.cell) (hs : img.size = 8192) : Calls Try.prog 65 #[.string img] w fun e w' => e = .returned (.int .i64 (actN f)) ∧ w = w' := by
  have h0 : 0 < img.size := by omega
  have h4 : 4096 < img.size := by omega
  have h4i : (4096 : Int) < (img.size : Int) := by omega
  have hg0 := bytes_get img 0 h0
  have hg4 := bytes_get img 4096 h4
  rw [hb] at hg0 hg4
  obtain ⟨a, ha⟩ : ∃ a, f.cell.getD 0 0 = a := ⟨_, rfl⟩
  obtain ⟨b, hbb⟩ : ∃ b, f.cell.getD 4096 0 = b := ⟨_, rfl⟩
  have HAA := Lib.hid ha
  have HBB := Lib.hid hbb
  have hs0 : img[0].toNat = a := by rw [← hg0, ha]
  have hs4 : img[4096].toNat = b := by rw [← hg4, hbb]
  clear hg0 hg4 ha hbb hb hs
  have HCA := Lib.hid (fun W => code_any W a)
  have HCB := Lib.hid (fun W => code_any W b)
  cases hfa : St.fol a with
  | none =>
    rw [hfa] at HCA
    cases hfb : St.fol b with
    | none =>
      rw [hfb] at HCB
      have HN : Hid (actN f = -1) := by unfold Hid actN; rw [active_nn HAA.out HBB.out hfa hfb]
      clear hfa hfb
      rw [HN.out]
      go_enter Try.func65, Try.ntmps65
      go_wp2_with fail
      refine (HCA.out _).mono ?_
      rintro e w1 ⟨rfl, rfl⟩
      go_wp2_with fail
      refine (HCA.out _).mono ?_
      rintro e w1 ⟨rfl, rfl⟩
      go_wp2_with fail
      refine (HCB.out _).mono ?_
      rintro e w1 ⟨rfl, rfl⟩
      go_wp2_with fail
      (try simp only [Exit.inBlock, Exit.then])
      go_ret
      exact ⟨rfl, rfl⟩
    | some y =>
      rw [hfb] at HCB
      have HN : Hid (actN f = 1) := by unfold Hid actN; rw [active_ns HAA.out HBB.out hfa hfb]; rfl
      clear hfa hfb
      rw [HN.out]
      go_enter Try.func65, Try.ntmps65
      go_wp2_with fail
      refine (HCA.out _).mono ?_
      rintro e w1 ⟨rfl, rfl⟩
      go_wp2_with fail
      refine (HCA.out _).mono ?_
      rintro e w1 ⟨rfl, rfl⟩
      go_wp2_with fail
      refine (HCB.out _).mono ?_
      rintro e w1 ⟨rfl, rfl⟩
      go_wp2_with fail
      (try simp only [Exit.inBlock, Exit.then])
      go_ret
      exact ⟨rfl, rfl⟩
  | some x =>
    have HX : Hid (St.folC a = x) := by unfold Hid St.folC; rw [hfa]; rfl
    have HNX := Lib.hid (fun W => next_any W a (by rw [hfa]; rfl))
    rw [HX.out] at HNX
    rw [hfa] at HCA
    cases hfb : St.fol b with
    | none =>
      rw [hfb] at HCB
      have HN : Hid (actN f = 0) := by unfold Hid actN; rw [active_sn HAA.out HBB.out hfa hfb]; rfl
      clear hfa hfb
      rw [HN.out]
      go_enter Try.func65, Try.ntmps65
      go_wp2_with fail
      refine (HCA.out _).mono ?_
      rintro e w1 ⟨rfl, rfl⟩
      go_wp2_with fail
      refine (HCB.out _).mono ?_
      rintro e w1 ⟨rfl, rfl⟩
      go_wp2_with fail
      refine (HCA.out _).mono ?_
      rintro e w1 ⟨rfl, rfl⟩
      go_wp2_with fail
      (try simp only [Exit.inBlock, Exit.then])
      go_ret
      exact ⟨rfl, rfl⟩
    | some y =>
      rw [hfb] at HCB
      by_cases hbx : b = x
      · have HN : Hid (actN f = 1) := by unfold Hid actN; rw [active_s1 HAA.out HBB.out hfa hfb hbx]; rfl
        have hcmp : ((b : Int) == (x : Int)) = true := by rw [hbx, beq_iff_eq]
        clear hfa hfb hbx
        rw [HN.out]
        go_enter Try.func65, Try.ntmps65
        go_wp2_with fail
        refine (HCA.out _).mono ?_
        rintro e w1 ⟨rfl, rfl⟩
        go_wp2_with fail
        refine (HCB.out _).mono ?_
        rintro e w1 ⟨rfl, rfl⟩
        go_wp2_with fail
        refine (HNX.out _).mono ?_
        rintro e w1 ⟨rfl, rfl⟩
        go_wp2_with fail
        (try simp only [Exit.inBlock, Exit.then])
        go_ret
        exact ⟨rfl, rfl⟩
      · have HN : Hid (actN f = 0) := by unfold Hid actN; rw [active_s0 HAA.out HBB.out hfa hfb hbx]; rfl
        have hcmp : ((b : Int) == (x : Int)) = false := by rw [beq_eq_false_iff_ne]; omega
        clear hfa hfb hbx
        rw [HN.out]
        go_enter Try.func65, Try.ntmps65
        go_wp2_with fail
        refine (HCA.out _).mono ?_
        rintro e w1 ⟨rfl, rfl⟩
        go_wp2_with fail
        refine (HCB.out _).mono ?_
        rintro e w1 ⟨rfl, rfl⟩
        go_wp2_with fail
        refine (HNX.out _).mono ?_
        rintro e w1 ⟨rfl, rfl⟩
        go_wp2_with fail
        (try simp only [Exit.inBlock, Exit.then])
        go_ret
        exact ⟨rfl, rfl⟩
def RFormPost (w : World) (r c : Nat) (res : Fl × Int) (e : Ending) (w' : World) : Prop := e = .returned (.int .i64 res.2) ∧ RAt w' r c res.1 ∧ Wrote w w' (fun k => k = r ∨ k = c)
set_option maxRecDepth 100000 in
set_option maxHeartbeats 1000000 in
theorem rformat_any (w : World) (r c : Nat) (x : Fl) (h : RAt w r c x) : Calls Try.prog 66 #[.pointer (some ⟨r, 0, none⟩)] w (RFormPost w r c (St.format x)) := by
  have HA0 := Lib.hid h
  obtain ⟨cap, hcap, hcap2, c0⟩ := h.slice
  have hci : (8192 : Int) ≤ (cap : Int) := by omega
  have c4 := h.cell 4096 (by decide)
  obtain ⟨b, hb⟩ : ∃ b, x.cell.getD 4096 0 = b := ⟨_, rfl⟩
  rw [hb] at c4
  have HW0 := Lib.hid (Wrote.refl w (fun k => k = r ∨ k = c))
  have HOUT : Hid (∀ x' e' w', St.format x = (x', e') → RAt w' r c x' → Wrote w w' (fun k => k = r ∨ k = c) → RFormPost w r c (St.format x) (.returned (.int .i64 e')) w') := by
    intro x' e' w' hf h1 h2
    rw [hf]
    exact ⟨rfl, h1, h2⟩
  have HB := Lib.hid hb
  clear h hb hcap hcap2
  by_cases h255 : b = 255
  · have hbq : ((b : Int) == 255) = true := by rw [beq_iff_eq]; omega
    have hbn : ((b : Int) != 255) = false := by
      show (!((b : Int) == 255)) = false
      rw [hbq]
      rfl
    have HFM := Lib.hid (format_skip (f := x) (HB.out.trans h255))
    clear h255
    go_enter Try.func66, Try.ntmps66
    go_wp2_with fail
    refine (rerase_any r c x 0 _ HA0.out).mono ?_
    rintro e w1 ⟨rfl, h1, g1⟩
    have HW1 := Lib.hid (HW0.out.trans g1)
    have HA1 := Lib.hid h1
    clear h1 g1 c0 c4
    obtain ⟨x2, e2, he⟩ : ∃ x2 e2, x.erase 0 = (x2, e2) := ⟨_, _, rfl⟩
    rw [he] at HFM HA1 ⊢
    by_cases hq : e2 = 0
    · subst hq
      have HFM2 : Hid (St.format x = x2.program 0 [15]) := HFM
      clear HFM he
      go_wp2_with fail
      refine (rprogram_any r c x2 0 _ _ HA1.out).mono ?_
      rintro e w2 ⟨rfl, h2, g2⟩
      rw [b15] at h2 ⊢
      have HF := Lib.hid (HOUT.out _ _ _ HFM2.out h2 (HW1.out.trans g2))
      clear h2 g2 HOUT
      go_wp2_with fail
      (try simp only [Exit.inBlock, Exit.then])
      go_ret
      exact HF.out
    · have hz : (e2 != 0) = true := by simp [hq]
      have hz2 : (e2 == 0) = false := by simp [hq]
      have HF := Lib.hid (HOUT.out _ _ _ (HFM.out.trans (match_bad x2 e2 hq)) HA1.out HW1.out)
      clear HFM HOUT
      go_wp2_with fail
      (try simp only [Exit.inBlock, Exit.then])
      go_ret
      exact HF.out
  · have hbq : ((b : Int) == 255) = false := by rw [beq_eq_false_iff_ne]; omega
    have hbn : ((b : Int) != 255) = true := by
      show (!((b : Int) == 255)) = true
      rw [hbq]
      rfl
    have HNB : Hid (x.cell.getD 4096 0 ≠ 255) := fun h => h255 (HB.out.symm.trans h)
    clear h255
    go_enter Try.func66, Try.ntmps66
    go_wp2_with fail
    refine (rerase_any r c x 1 _ HA0.out).mono ?_
    rintro e w1 ⟨rfl, h1, g1⟩
    have HW1 := Lib.hid (HW0.out.trans g1)
    have HA1 := Lib.hid h1
    clear h1 g1 c0 c4
    obtain ⟨x1, e1, he1⟩ : ∃ x2 e2, x.erase 1 = (x2, e2) := ⟨_, _, rfl⟩
    rw [he1] at HA1 ⊢
    by_cases hq : e1 = 0
    · subst hq
      have HFM := Lib.hid (format_go HNB.out he1)
      clear he1
      go_wp2_with fail
      refine (rerase_any r c x1 0 _ HA1.out).mono ?_
      rintro e w2 ⟨rfl, h1, g1⟩
      have HW2 := Lib.hid (HW1.out.trans g1)
      have HA2 := Lib.hid h1
      clear h1 g1
      obtain ⟨x2, e2, he⟩ : ∃ x2 e2, x1.erase 0 = (x2, e2) := ⟨_, _, rfl⟩
      rw [he] at HFM HA2 ⊢
      by_cases hq2 : e2 = 0
      · subst hq2
        have HFM2 : Hid (St.format x = x2.program 0 [15]) := HFM
        clear HFM he
        go_wp2_with fail
        refine (rprogram_any r c x2 0 _ _ HA2.out).mono ?_
        rintro e w3 ⟨rfl, h2, g2⟩
        rw [b15] at h2 ⊢
        have HF := Lib.hid (HOUT.out _ _ _ HFM2.out h2 (HW2.out.trans g2))
        clear h2 g2 HOUT
        go_wp2_with fail
        (try simp only [Exit.inBlock, Exit.then])
        go_ret
        exact HF.out
      · have hz : (e2 != 0) = true := by simp [hq2]
        have hz2 : (e2 == 0) = false := by simp [hq2]
        have HF := Lib.hid (HOUT.out _ _ _ (HFM.out.trans (match_bad x2 e2 hq2)) HA2.out HW2.out)
        clear HFM HOUT
        go_wp2_with fail
        (try simp only [Exit.inBlock, Exit.then])
        go_ret
        exact HF.out
    · have hz : (e1 != 0) = true := by simp [hq]
      have hz2 : (e1 == 0) = false := by simp [hq]
      have HF := Lib.hid (HOUT.out _ _ _ (format_bad HNB.out he1 hq) HA1.out HW1.out)
      clear HOUT
      go_wp2_with fail
      (try simp only [Exit.inBlock, Exit.then])
      go_ret
      exact HF.out
end Go.Proofs.Ytngmnceahhlpkaa
