/- What the document's move answers. Conditions: the store and its flash lie in memory, the active sector bears its code, each text is no longer than may be. -/
import Derived.Test.YtngmnceahhlpkaaStR4a
namespace Go.Proofs.Ytngmnceahhlpkaa
open Go.RowKit
theorem program_far {f : Fl} (hl : f.cell.length = 8192) (a : Nat) (ds : List Nat) (x : Nat) (hx : x < a ∨ a + ds.length ≤ x) : (f.program (a : Int) ds).1.cell.getD x 0 = f.cell.getD x 0 := by
  unfold Fl.program
  split
  · rfl
  · split
    · rename_i hf
      have hb : a + ds.length ≤ 8192 := by
        unfold Fl.fits at hf
        simp at hf
        omega
      obtain ⟨f', r, e, _, h2, _⟩ := prog_out ds f a (by rw [hl]; exact hb)
      rw [Int.toNat_natCast, e]
      exact h2 x hx
    · rfl
theorem erase_far {f : Fl} (hl : f.cell.length = 8192) (s : Nat) (hs : s ≤ 1) (x : Nat) (hx : x < s * 4096 ∨ s * 4096 + 4096 ≤ x) : (f.erase (s : Int)).1.cell.getD x 0 = f.cell.getD x 0 := by
  cases ho : f.off with
  | true =>
    unfold Fl.erase
    rw [if_pos ho]
  | false =>
    obtain ⟨f', r, e, _, h2, _⟩ := erase_out ho hl s hs
    rw [e]
    exact h2 x hx
theorem RStAt.keptK {w w1 : World} {rb r : Nat} {s : St} {d : Bool} (h : RStAt w rb r s d) (hb : w1.heap[rb]? = w.heap[rb]?) : RStAt w1 rb r s d := h.kept hb
/-- The same, with a block of its own that holds what is kept. -/
structure RMv (w0 W : World) (r c rb pb : Nat) (x : Fl) (s : St) (d : Bool) (cs : Array Value) : Prop where
  d : RDuet w0 W r c rb x s d
  pb : W.heap[pb]? = some (.cells cs 122)
theorem RMv.below {w0 W V : World} {r c rb pb : Nat} {x : Fl} {s : St} {d : Bool} {cs : Array Value} (h : RMv w0 W r c rb pb x s d cs) (hb : Below W.heap.size W V) : RMv w0 V r c rb pb x s d cs := ⟨h.d.below hb, (hb.block pb (lt_of_at h.pb)).trans h.pb⟩
theorem RMv.mine {w0 W V : World} {r c rb pb : Nat} {x x' : Fl} {s : St} {d : Bool} {cs : Array Value} (h : RMv w0 W r c rb pb x s d cs) (ha : RAt V r c x') (hg : Wrote W V (fun k => k = r ∨ k = c)) : RMv w0 V r c rb pb x' s d cs := by
  have hn := h.d.fl.ne_of h.pb (by decide) (by decide)
  exact ⟨h.d.mine ha hg, (hg.block pb (lt_of_at h.pb) (fun e => e.elim hn.1 hn.2)).trans h.pb⟩
theorem RMv.st {w0 W : World} {r c rb pb : Nat} {x : Fl} {s : St} {d : Bool} {cs : Array Value} (h : RMv w0 W r c rb pb x s d cs) : W.cell? ⟨rb, 0, none⟩ = some (.pointer (some ⟨r, 0, none⟩)) ∧ W.cell? ⟨rb, 1, none⟩ = some (.int .i64 (s.act : Int)) := ⟨cell_at h.d.st.blk 0, cell_at h.d.st.blk 1⟩
def RMovePost (w0 : World) (r c rb : Nat) (d : Bool) (res : Fl × St × Int) (e : Ending) (w' : World) : Prop := e = .returned (.int .i64 res.2.2) ∧ ∃ d', RDuet w0 w' r c rb res.1 res.2.1 d' ∧ (res.2.2 = 0 → d' = false) ∧ (res.2.2 ≠ 0 → d' = d)
def RMv3 (w0 : World) (r c rb pb : Nat) (g : Fl) (s : St) (d : Bool) (cs : Array Value) (to_ cc : Nat) (v : Value) (wx : World) : Prop :=
  ∃ g3 e3, v = .int .i64 e3 ∧ g.program ((to_ * 4096 : Nat) : Int) [cc] = (g3, e3) ∧ RMv w0 wx r c rb pb g3 s d cs
theorem rec_size (n : Nat) (t : ByteArray) : (str (St.recL n t)).size = t.size + 4 := by rw [str_size, rec_len]
theorem RStAt.moved {w : World} {rb r : Nat} {s : St} {d : Bool} (h : RStAt w rb r s d) (k : Kept) (a p : Nat) (cc : Nat) (ha : a ≤ 1) (hcc : cc < 256) (hp : p ≤ 4096) (hk : ∀ i t, k i = some t → t.size ≤ 2000) :
    RStAt (((((((((w.setCell ⟨rb, 2, none⟩ (.bool (St.is (k 0)))).setCell ⟨rb, 3, none⟩ (.bool (St.is (k 1)))).setCell ⟨rb, 4, none⟩ (.bool (St.is (k 2)))).setCell ⟨rb, 5, none⟩ (.string (St.txt (k 0)))).setCell ⟨rb, 6, none⟩ (.string (St.txt (k 1)))).setCell ⟨rb, 7, none⟩ (.string (St.txt (k 2)))).setCell ⟨rb, 8, none⟩ (.int .i64 (p : Int))).setCell ⟨rb, 9, none⟩ (.bool false)).setCell ⟨rb, 1, none⟩ (.int .i64 (a : Int))) rb r { s with act := a, code := cc, fin := p, k := k } false :=
  ⟨(heap_setCell_at (heap_setCell_at (heap_setCell_at (heap_setCell_at (heap_setCell_at (heap_setCell_at (heap_setCell_at (heap_setCell_at (heap_setCell_at h.blk 2 _) 3 _) 4 _) 5 _) 6 _) 7 _) 8 _) 9 _) 1 _).trans (by simp [rstA]), ⟨ha, hcc, hp, hk⟩⟩
theorem RMv.own {w0 W V : World} {r c rb pb : Nat} {x : Fl} {s : St} {d : Bool} {cs cs' : Array Value} (h : RMv w0 W r c rb pb x s d cs) (hn : w0.heap.size ≤ pb) (hg : W.grownBy V (some pb)) (hb : V.heap[pb]? = some (.cells cs' 122)) : RMv w0 V r c rb pb x s d cs' := by
  have hnn := h.d.fl.ne_of h.pb (by decide) (by decide)
  have hs : rb ≠ pb := by
    rintro rfl
    have hh := h.pb
    rw [h.d.st.blk] at hh
    injection hh with hh
    injection hh with _ hh
    exact absurd hh (by decide)
  exact ⟨⟨h.d.fl.kept (hg.block r h.d.fl.lt (fun e => hnn.1 (Option.some.inj e).symm)) (hg.block c h.d.fl.rlt (fun e => hnn.2 (Option.some.inj e).symm)), h.d.st.kept (hg.block rb h.d.st.lt (fun e => hs (Option.some.inj e))), ⟨hg.os.trans h.d.wr.os, hg.tape.trans h.d.wr.tape, hg.output.trans h.d.wr.output, Nat.le_trans h.d.wr.size hg.size, fun j hj hh => (hg.block j (Nat.lt_of_lt_of_le hj h.d.wr.size) (fun e => by have e := Option.some.inj e; omega)).trans (h.d.wr.block j hj hh)⟩⟩, hb⟩
theorem rk_end (k : Kept) (p0 p : Nat) (d0 : Bool) : ((rkC k p0 d0).setIfInBounds 6 (.int .i64 (p : Int))).setIfInBounds 7 (.bool false) = rkC k p false := by simp [rkC]
set_option maxRecDepth 100000 in
set_option maxHeartbeats 4000000 in
theorem rmove_any (w0 w : World) (r c rb : Nat) (x : Fl) (s : St) (d : Bool) (k : Kept) (p0 : Nat) (d0 : Bool) (h : RDuet w0 w r c rb x s d) (hk : ∀ i t, k i = some t → t.size ≤ 2000) (hall : St.all k ≤ 4096) (hcode : x.cell.getD (s.act * 4096) 0 = s.code) (hisc : (St.fol s.code).isSome = true) :
    Calls Try.prog 68 #[.pointer (some ⟨rb, 0, none⟩), rkV k p0 d0] w (RMovePost w0 r c rb d (St.move x s k)) := by
  have HK := Lib.hid hk
  have HALL := Lib.hid hall
  have HIS := Lib.hid hisc
  have hact : (s.act : Int) ≤ 1 := by have := h.st.ok.act; omega
  have HAC : Hid (s.act ≤ 1) := h.st.ok.act
  have HM : Hid (RMv w0 (w.alloc (.cells (rkC k p0 d0) 122)) r c rb w.heap.size x s d (rkC k p0 d0)) := ⟨h.below (below_alloc1 w _), heap_alloc_new w _⟩
  have HNP : Hid (w0.heap.size ≤ w.heap.size) := h.wr.size
  have HBAD : Hid (∀ w' x' e, St.move x s k = (x', s, e) → e ≠ 0 → RDuet w0 w' r c rb x' s d → RMovePost w0 r c rb d (St.move x s k) (.returned (.int .i64 e)) w') := by
    intro w' x' e hm hq hd
    rw [hm]
    exact ⟨rfl, d, hd, fun h => absurd h hq, fun _ => rfl⟩
  have HCO : Hid ((x.erase ((1 - s.act : Nat) : Int)).1.cell.getD (s.act * 4096) 0 = s.code) := by
    unfold Hid
    rw [erase_far h.fl.ok.len _ (by omega) _ (by omega), hcode]
  have hkv : (rkV k p0 d0) = .agg #[.bool (St.is (k 0)), .bool (St.is (k 1)), .bool (St.is (k 2)), .string (St.txt (k 0)), .string (St.txt (k 1)), .string (St.txt (k 2)), .int .i64 (p0 : Int), .bool d0] := rfl
  have k0 := HM.out.st.1
  have k1 := HM.out.st.2
  clear h hk hall hcode hisc
  rw [hkv]
  clear hkv
  unfold rkC at k0 k1
  have HM0 : Hid (RMv w0 (w.alloc (.cells #[.bool (St.is (k 0)), .bool (St.is (k 1)), .bool (St.is (k 2)), .string (St.txt (k 0)), .string (St.txt (k 1)), .string (St.txt (k 2)), .int .i64 (p0 : Int), .bool d0] 122)) r c rb w.heap.size x s d (rkC k p0 d0)) := HM
  clear HM
  go_enter Try.func68, Try.ntmps68
  go_wp2_with fail
  refine (rerase_any r c x _ _ HM0.out.d.fl).mono ?_
  rintro e w1 ⟨rfl, h1, g1⟩
  have HM1 := Lib.hid (HM0.out.mine h1 g1)
  clear h1 g1 k0 k1 HM0
  generalize w.heap.size = pb at *
  obtain ⟨to_, hto⟩ : ∃ n : Nat, (1 - (s.act : Int)) = (n : Int) := ⟨1 - s.act, by omega⟩
  rw [hto] at HM1 ⊢
  have HTO : Hid (to_ = 1 - s.act) := by unfold Hid; omega
  have htl : (to_ : Int) ≤ 1 := by omega
  clear hto
  obtain ⟨f1, e1, he⟩ : ∃ f1 e1, x.erase (to_ : Int) = (f1, e1) := ⟨_, _, rfl⟩
  have HE1 : Hid (x.erase ((1 - s.act : Nat) : Int) = (f1, e1)) := by unfold Hid; rw [← HTO.out]; exact he
  rw [he] at HM1 ⊢
  have HCO1 : Hid (f1.cell.getD (s.act * 4096) 0 = s.code) := by
    have h := HCO.out
    rw [HE1.out] at h
    exact h
  clear he HCO
  by_cases hq : e1 = 0
  · subst hq
    have HM2 : Hid (RMv w0 w1 r c rb pb f1 s d (rkC k p0 d0)) := HM1.out
    clear HM1
    go_wp2_with fail
    go_loopg [8, 7] 3 (fun gh i v wr => ∃ (n p : Nat) (g : Fl), n ≤ 3 ∧ gh = 3 - n ∧ i = .int .i64 n ∧ v = .int .i64 p ∧ (p : Int) ≤ 4096 ∧ Hid (p = St.pos k n) ∧ Hid (RMv w0 wr r c rb pb g s d (rkC k p0 d0)) ∧ Hid (St.puts f1 (1 - s.act) k 0 3 1 = St.puts g (1 - s.act) k n (3 - n) p) ∧ Hid (g.cell.getD (s.act * 4096) 0 = s.code))
    case atStart => exact ⟨0, 1, f1, by omega, rfl, rfl, rfl, by omega, rfl, HM2, rfl, HCO1⟩
    case round =>
      clear HM2 HCO1
      obtain ⟨n, p, g, hn, hg, rfl, rfl, hp, HPB, HM2, HPU, HCG⟩ := hrel
      have HG := Lib.hid hg
      clear hg
      by_cases h3 : n < 3
      · have hlt : (n : Int) < 3 := by omega
        have hge : (0 : Int) ≤ (n : Int) := by omega
        have htn : ((n : Int)).toNat = n := Int.toNat_natCast n
        obtain ⟨c0, c1⟩ := rk_has HM2.out.pb n h3
        cases hkn : k n with
        | none =>
          have HKN := Lib.hid hkn
          rw [hkn] at c0
          replace c0 : wr.cell? ⟨pb, n, none⟩ = some (.bool false) := c0
          clear hkn c1
          go_wp2_with fail
          go_roundg (3 - (n + 1))
          case measure => have := HG.out; omega
          case rel => exact ⟨n + 1, p, g, by omega, rfl, by go_num, rfl, hp, by have := HPB.out; unfold Hid; rw [this, St.pos, HKN.out]; rfl, HM2, by unfold Hid; rw [HPU.out, show 3 - n = (3 - (n + 1)) + 1 by omega]; exact puts_none HKN.out, HCG⟩
        | some t =>
          have HKN := Lib.hid hkn
          have hts := HK.out n t hkn
          rw [hkn] at c0 c1
          replace c0 : wr.cell? ⟨pb, n, none⟩ = some (.bool true) := c0
          replace c1 : wr.cell? ⟨pb, 3 + n, none⟩ = some (.string t) := c1
          have hfits : p + (t.size + 4) ≤ 4096 := by
            have h1 := HPB.out
            have h2 := pos_le k (n + 1) (by omega)
            have h4 := HALL.out
            rw [St.pos, hkn] at h2
            have h5 : St.size (some t) = t.size + 4 := rfl
            omega
          have HFT := Lib.hid hfits
          have hp1 : 1 ≤ p := by
            have h1 := HPB.out
            have h6 : ∀ j, 1 ≤ St.pos k j := fun j => by
              induction j with
              | zero => exact Nat.le_refl _
              | succ j ih => exact Nat.le_trans ih (Nat.le_add_right _ _)
            rw [h1]
            exact h6 n
          have HP1 := Lib.hid hp1
          clear hkn hfits hp1
          go_wp2_with fail
          refine (rrec_any _ n t h3 hts).mono ?_
          rintro e w2 ⟨rfl, hb2⟩
          have HM3 := Lib.hid (HM2.out.below hb2)
          have hrs := rec_size n t
          have HBB : Hid (bytes (str (St.recL n t)) = St.recL n t) := bytes_str _ (recL_byte n t)
          clear hb2 HM2 c0 c1
          generalize str (St.recL n t) = rs at *
          obtain ⟨k0, k1⟩ := HM3.out.st
          have HW : Hid ((to_ : Int) * 4096 + (p : Int) = ((to_ * 4096 + p : Nat) : Int)) := by unfold Hid; omega
          go_wp2_with fail
          refine (rprogram_any r c g _ _ _ HM3.out.d.fl).mono ?_
          rintro e w4 ⟨rfl, h4, g4⟩
          rw [HW.out, HBB.out] at h4 ⊢
          have HM4 := Lib.hid (HM3.out.mine h4 g4)
          have HCG4 : Hid ((g.program ((to_ * 4096 + p : Nat) : Int) (St.recL n t)).1.cell.getD (s.act * 4096) 0 = s.code) := by
            unfold Hid
            rw [program_far HM3.out.d.fl.ok.len _ _ _ (by rw [rec_len]; have h1 := HFT.out; have h2 := HP1.out; have h5 := HTO.out; have h6 := HAC.out; omega), HCG.out]
          clear h4 g4 HM3 HW k0 k1 HCG
          obtain ⟨g2, e2, he⟩ : ∃ g2 e2, g.program ((to_ * 4096 + p : Nat) : Int) (St.recL n t) = (g2, e2) := ⟨_, _, rfl⟩
          rw [he] at HM4 HCG4 ⊢
          have HE2 : Hid (g.program (((1 - s.act) * 4096 + p : Nat) : Int) (St.recL n t) = (g2, e2)) := by unfold Hid; rw [← HTO.out]; exact he
          clear he
          by_cases hq : e2 = 0
          · subst hq
            have hrsi : (rs.size : Int) = (t.size : Int) + 4 := by omega
            obtain ⟨z, hz⟩ : ∃ z : Nat, rs.size = z := ⟨_, rfl⟩
            have HZ : Hid (z = t.size + 4) := by unfold Hid; omega
            have hpz : (p : Int) + (z : Int) ≤ 4096 := by have := HFT.out; omega
            clear hrsi hrs
            go_wp2_with fail
            go_roundg (3 - (n + 1))
            case measure => have := HG.out; omega
            case rel => exact ⟨n + 1, p + rs.size, g2, by omega, rfl, by go_num, by go_num, by omega, by have h1 := HPB.out; have h5 := HZ.out; unfold Hid; rw [St.pos, HKN.out, ← h1, hz, h5]; rfl, HM4, by unfold Hid; rw [HPU.out, show 3 - n = (3 - (n + 1)) + 1 by omega, hz, HZ.out]; exact puts_ok HKN.out HE2.out, HCG4⟩
          · have hz : (e2 != 0) = true := by simp [hq]
            have hz2 : (e2 == 0) = false := by simp [hq]
            have HF := Lib.hid (HBAD.out w4 g2 e2 (move_bad2 HE1.out (by rw [HPU.out, show 3 - n = (3 - (n + 1)) + 1 by omega]; exact puts_bad HKN.out HE2.out hq) hq) hq HM4.out.d)
            clear HBAD HM4 HE1 HPU
            go_wp2_with fail
            (try simp only [Exit.inBlock, Exit.then])
            go_ret
            exact HF.out
      · obtain rfl : n = 3 := by omega
        have HPF : Hid (p ≤ 4096) := by unfold Hid; omega
        have HPU2 : Hid (St.puts f1 (1 - s.act) k 0 3 1 = (g, p, 0)) := HPU.out
        clear HG HPU HPB HALL hn h3
        obtain ⟨cc, hcc⟩ : ∃ cc, St.folC s.code = cc := ⟨_, rfl⟩
        have HC := Lib.hid hcc
        have HNX := Lib.hid (fun W => next_any W s.code HIS.out)
        rw [hcc] at HNX
        clear hcc
        go_upto_region 15 with fail
        go_cut [6] (RMv3 w0 r c rb pb g s d (rkC k p0 d0) to_ cc)
        case first =>
          obtain ⟨k0, k1⟩ := HM2.out.st
          obtain ⟨cap, hcap, hcap2, q0⟩ := HM2.out.d.fl.slice
          have hci : (8192 : Int) ≤ (cap : Int) := by omega
          have q1 := HM2.out.d.fl.cell (s.act * 4096) (by have := HAC.out; omega)
          rw [HCG.out] at q1
          have hx0 : (0 : Int) ≤ (s.act : Int) * 4096 := by omega
          have hx1 : (s.act : Int) * 4096 < 8192 := by omega
          have hx2 : ((s.act : Int) * 4096).toNat = s.act * 4096 := by omega
          have hwr : IntKind.i64.wrap ((s.act : Int) * 4096) = (s.act : Int) * 4096 := by rw [IntKind.wrap_i64]; omega
          have hcl : r < wr.heap.size := HM2.out.d.fl.lt
          have hcl2 : c < wr.heap.size := HM2.out.d.fl.rlt
          have hcl3 : rb < wr.heap.size := HM2.out.d.st.lt
          have hcv : (convert 86 9 (.slice (some ⟨wr.heap.size, 0, none⟩) 1 1)).run Try.prog (wr.alloc (.cells #[.int .u8 (cc : Int)] 5)).drew = .ok (.string (str [cc])) (wr.alloc (.cells #[.int .u8 (cc : Int)] 5)).drew := conv_list (wr.alloc (.cells #[.int .u8 (cc : Int)] 5)).drew [(cc : Int)] 1 rfl wr.heap.size (heap_alloc_new wr _)
          have HBS : Hid (bytes (str [cc]) = [cc]) := bytes_str _ (fun x hx => by
            rw [List.mem_singleton.1 hx, ← HC.out]
            exact folC_lt _)
          have HM5 : Hid (RMv w0 (wr.alloc (.cells #[.int .u8 (cc : Int)] 5)).drew r c rb pb g s d (rkC k p0 d0)) := (HM2.out.below (below_alloc1 wr _)).below (below_drewN _ 1)
          have d1 : (wr.alloc (.cells #[.int .u8 (cc : Int)] 5)).drew.cell? ⟨rb, 0, none⟩ = some (.pointer (some ⟨r, 0, none⟩)) := HM5.out.st.1
          have HW1 : Hid (IntKind.i64.wrap ((to_ : Int) * 4096) = ((to_ * 4096 : Nat) : Int)) := by
            unfold Hid
            rw [IntKind.wrap_i64]
            omega
          have HW2 : Hid ((to_ : Int) * 4096 = ((to_ * 4096 : Nat) : Int)) := by
            unfold Hid
            omega
          obtain ⟨g3, e3, he3⟩ : ∃ g3 e3, g.program ((to_ * 4096 : Nat) : Int) [cc] = (g3, e3) := ⟨_, _, rfl⟩
          have HQ : Hid (RMv w0 wr.drew r c rb pb g s d (rkC k p0 d0)) := HM2.out.below (below_drewN wr 1)
          have HA : Hid (RMv w0 (wr.drew.alloc (.cells #[.int .u8 (cc : Int)] 5)) r c rb pb g s d (rkC k p0 d0)) := HQ.out.below (below_alloc1 _ _)
          have HHA : Hid ((wr.drew.alloc (.cells #[.int .u8 (cc : Int)] 5)).heap[wr.heap.size]? = some (.cells #[.int .u8 (cc : Int)] 5)) := heap_alloc_new wr.drew _
          have hq0a : (wr.drew.alloc (.cells #[.int .u8 (cc : Int)] 5)).cell? ⟨r, 0, none⟩ = some (.slice (some ⟨c, 0, none⟩) 8192 cap) := ((below_alloc1 wr.drew (.cells #[.int .u8 (cc : Int)] 5)).cell (p := ⟨r, 0, none⟩) (show r < wr.heap.size from hcl)).trans q0
          have hq1a : (wr.drew.alloc (.cells #[.int .u8 (cc : Int)] 5)).cell? ⟨c, s.act * 4096, none⟩ = some (.int .u8 (s.code : Int)) := ((below_alloc1 wr.drew (.cells #[.int .u8 (cc : Int)] 5)).cell (p := ⟨c, s.act * 4096, none⟩) (show c < wr.heap.size from hcl2)).trans q1
          have HCEL : Hid (∀ u, u = wr.drew ∨ u = wr.drew.alloc (.cells #[.int .u8 (cc : Int)] 5) → u.cell? ⟨rb, 0, none⟩ = some (.pointer (some ⟨r, 0, none⟩)) ∧ u.cell? ⟨rb, 1, none⟩ = some (.int .i64 (s.act : Int)) ∧ u.cell? ⟨r, 0, none⟩ = some (.slice (some ⟨c, 0, none⟩) 8192 cap) ∧ u.cell? ⟨c, s.act * 4096, none⟩ = some (.int .u8 (s.code : Int))) := by
            rintro u (rfl | rfl)
            · exact ⟨HQ.out.st.1, HQ.out.st.2, q0, q1⟩
            · exact ⟨HA.out.st.1, HA.out.st.2, hq0a, hq1a⟩
          have hw5 : IntKind.i64.wrap ((to_ : Int) * 4096) = (to_ : Int) * 4096 := by rw [IntKind.wrap_i64]; omega
          have hcvA : (convert 86 9 (.slice (some ⟨wr.heap.size, 0, none⟩) 1 1)).run Try.prog (wr.drew.alloc (.cells #[.int .u8 (cc : Int)] 5)) = .ok (.string (str [cc])) (wr.drew.alloc (.cells #[.int .u8 (cc : Int)] 5)) := conv_list (wr.drew.alloc (.cells #[.int .u8 (cc : Int)] 5)) [(cc : Int)] 1 rfl wr.heap.size HHA.out
          clear k0 k1 q0 q1 hq0a hq1a d1 HM5 HBAD HM2
          refine region15 (V15 r c rb to_ s.act s.code cc cap wr.heap.size e3) (wr.drew.alloc (.cells #[.int .u8 (cc : Int)] 5)) (fun u => RMv w0 u r c rb pb g3 s d (rkC k p0 d0)) (by kernel_rfl) rfl ?_ ?_
          · intro listed gg u i hI hi K hK
            have hlt := ready_lt hi
            have hcases : i = 0 ∨ i = 1 ∨ i = 2 ∨ i = 3 ∨ i = 4 ∨ i = 5 ∨ i = 6 ∨ i = 7 ∨ i = 8 ∨ i = 9 ∨ i = 10 ∨ i = 11 ∨ i = 12 ∨ i = 13 ∨ i = 14 ∨ i = 15 ∨ i = 16 ∨ i = 17 ∨ i = 18 ∨ i = 19 ∨ i = 20 ∨ i = 21 ∨ i = 22 ∨ i = 23 ∨ i = 24 := by
              have : i < 25 := hlt
              omega
            clear hlt
            rcases hcases with rfl | rfl | rfl | rfl | rfl | rfl | rfl | rfl | rfl | rfl | rfl | rfl | rfl | rfl | rfl | rfl | rfl | rfl | rfl | rfl | rfl | rfl | rfl | rfl | rfl
            · refine wpOp_step rfl (fun K hK' => ?_)
              simp only [Fr, ds15, List.foldl_cons, List.foldl_nil, Act.put, List.setIfInBounds_toArray, List.set_cons_zero, List.set_cons_succ]
              go_simp
              refine hK' _ _ ?_
              have h9 := hK _ _ (hI.step 0 (by decide) hi (.pointer (some ⟨rb, 0, none⟩)) rfl (fun _ _ => rfl) (fun h => absurd h (by decide)) (fun h => absurd h (by decide)))
              simp only [Fr, ds15, List.foldl_cons, List.foldl_nil, Act.put, List.setIfInBounds_toArray, List.set_cons_zero, List.set_cons_succ, putS, sl15, reduceIte, Nat.reduceEqDiff, Nat.reduceAdd] at h9
              exact h9
            · have ee0 := hI.val 0 (by decide) (ready_dep hi (by kernel_rfl))
              simp only [V15, sl15, reduceIte, Nat.reduceEqDiff, Nat.reduceAdd] at ee0
              refine wpOp_step rfl (fun K hK' => ?_)
              simp only [Fr, ds15, List.foldl_cons, List.foldl_nil, Act.put, List.setIfInBounds_toArray, List.set_cons_zero, List.set_cons_succ]
              go_simp
              refine hK' _ _ ?_
              have h9 := hK _ _ (hI.step 1 (by decide) hi (.pointer (some ⟨rb, 0, none⟩)) rfl (fun _ _ => rfl) (fun h => absurd h (by decide)) (fun h => absurd h (by decide)))
              simp only [Fr, ds15, List.foldl_cons, List.foldl_nil, Act.put, List.setIfInBounds_toArray, List.set_cons_zero, List.set_cons_succ, putS, sl15, reduceIte, Nat.reduceEqDiff, Nat.reduceAdd, ee0] at h9
              exact h9
            · have ee1 := hI.val 1 (by decide) (ready_dep hi (by kernel_rfl))
              simp only [V15, sl15, reduceIte, Nat.reduceEqDiff, Nat.reduceAdd] at ee1
              refine wpOp_step rfl (fun K hK' => ?_)
              simp only [Fr, ds15, List.foldl_cons, List.foldl_nil, Act.put, List.setIfInBounds_toArray, List.set_cons_zero, List.set_cons_succ]
              go_simp
              refine hK' _ _ ?_
              have h9 := hK _ _ (hI.step 2 (by decide) hi (.pointer (some ⟨rb, 0, none⟩)) rfl (fun _ _ => rfl) (fun h => absurd h (by decide)) (fun h => absurd h (by decide)))
              simp only [Fr, ds15, List.foldl_cons, List.foldl_nil, Act.put, List.setIfInBounds_toArray, List.set_cons_zero, List.set_cons_succ, putS, sl15, reduceIte, Nat.reduceEqDiff, Nat.reduceAdd, ee1] at h9
              exact h9
            · have ee2 := hI.val 2 (by decide) (ready_dep hi (by kernel_rfl))
              simp only [V15, sl15, reduceIte, Nat.reduceEqDiff, Nat.reduceAdd] at ee2
              have hno := hI.not23 (ready_off hi hI.size (by decide)) (fun h23 => (hI.cl 23 3 h23 (by kernel_rfl)))
              obtain ⟨hk0, hk1, hq0, hq1⟩ := HCEL.out u (hI.world hno)
              refine wpOp_step rfl (fun K hK' => ?_)
              simp only [Fr, ds15, List.foldl_cons, List.foldl_nil, Act.put, List.setIfInBounds_toArray, List.set_cons_zero, List.set_cons_succ]
              go_simp
              refine hK' _ _ ?_
              have h9 := hK _ _ (hI.step 3 (by decide) hi (.pointer (some ⟨r, 0, none⟩)) rfl (fun _ _ => rfl) (fun h => absurd h (by decide)) (fun h => absurd h (by decide)))
              simp only [Fr, ds15, List.foldl_cons, List.foldl_nil, Act.put, List.setIfInBounds_toArray, List.set_cons_zero, List.set_cons_succ, putS, sl15, reduceIte, Nat.reduceEqDiff, Nat.reduceAdd, ee2] at h9
              exact h9
            · refine wpOp_step rfl (fun K hK' => ?_)
              simp only [Fr, ds15, List.foldl_cons, List.foldl_nil, Act.put, List.setIfInBounds_toArray, List.set_cons_zero, List.set_cons_succ]
              go_simp
              refine hK' _ _ ?_
              have h9 := hK _ _ (hI.step 4 (by decide) hi (.int .i64 (to_ : Int)) rfl (fun _ _ => rfl) (fun h => absurd h (by decide)) (fun h => absurd h (by decide)))
              simp only [Fr, ds15, List.foldl_cons, List.foldl_nil, Act.put, List.setIfInBounds_toArray, List.set_cons_zero, List.set_cons_succ, putS, sl15, reduceIte, Nat.reduceEqDiff, Nat.reduceAdd] at h9
              exact h9
            · have ee4 := hI.val 4 (by decide) (ready_dep hi (by kernel_rfl))
              simp only [V15, sl15, reduceIte, Nat.reduceEqDiff, Nat.reduceAdd] at ee4
              refine wpOp_step rfl (fun K hK' => ?_)
              simp only [Fr, ds15, List.foldl_cons, List.foldl_nil, Act.put, List.setIfInBounds_toArray, List.set_cons_zero, List.set_cons_succ]
              go_simp
              refine hK' _ _ ?_
              have h9 := hK _ _ (hI.step 5 (by decide) hi (.int .i64 ((to_ : Int) * 4096)) rfl (fun _ _ => rfl) (fun h => absurd h (by decide)) (fun h => absurd h (by decide)))
              simp only [Fr, ds15, List.foldl_cons, List.foldl_nil, Act.put, List.setIfInBounds_toArray, List.set_cons_zero, List.set_cons_succ, putS, sl15, reduceIte, Nat.reduceEqDiff, Nat.reduceAdd, ee4] at h9
              exact h9
            · refine wpOp_step rfl (fun K hK' => ?_)
              simp only [Fr, ds15, List.foldl_cons, List.foldl_nil, Act.put, List.setIfInBounds_toArray, List.set_cons_zero, List.set_cons_succ]
              go_simp
              refine hK' _ _ ?_
              have h9 := hK _ _ (hI.step 6 (by decide) hi (.pointer (some ⟨rb, 0, none⟩)) rfl (fun _ _ => rfl) (fun h => absurd h (by decide)) (fun h => absurd h (by decide)))
              simp only [Fr, ds15, List.foldl_cons, List.foldl_nil, Act.put, List.setIfInBounds_toArray, List.set_cons_zero, List.set_cons_succ, putS, sl15, reduceIte, Nat.reduceEqDiff, Nat.reduceAdd] at h9
              exact h9
            · have ee6 := hI.val 6 (by decide) (ready_dep hi (by kernel_rfl))
              simp only [V15, sl15, reduceIte, Nat.reduceEqDiff, Nat.reduceAdd] at ee6
              refine wpOp_step rfl (fun K hK' => ?_)
              simp only [Fr, ds15, List.foldl_cons, List.foldl_nil, Act.put, List.setIfInBounds_toArray, List.set_cons_zero, List.set_cons_succ]
              go_simp
              refine hK' _ _ ?_
              have h9 := hK _ _ (hI.step 7 (by decide) hi (.pointer (some ⟨rb, 0, none⟩)) rfl (fun _ _ => rfl) (fun h => absurd h (by decide)) (fun h => absurd h (by decide)))
              simp only [Fr, ds15, List.foldl_cons, List.foldl_nil, Act.put, List.setIfInBounds_toArray, List.set_cons_zero, List.set_cons_succ, putS, sl15, reduceIte, Nat.reduceEqDiff, Nat.reduceAdd, ee6] at h9
              exact h9
            · have ee7 := hI.val 7 (by decide) (ready_dep hi (by kernel_rfl))
              simp only [V15, sl15, reduceIte, Nat.reduceEqDiff, Nat.reduceAdd] at ee7
              refine wpOp_step rfl (fun K hK' => ?_)
              simp only [Fr, ds15, List.foldl_cons, List.foldl_nil, Act.put, List.setIfInBounds_toArray, List.set_cons_zero, List.set_cons_succ]
              go_simp
              refine hK' _ _ ?_
              have h9 := hK _ _ (hI.step 8 (by decide) hi (.pointer (some ⟨rb, 0, none⟩)) rfl (fun _ _ => rfl) (fun h => absurd h (by decide)) (fun h => absurd h (by decide)))
              simp only [Fr, ds15, List.foldl_cons, List.foldl_nil, Act.put, List.setIfInBounds_toArray, List.set_cons_zero, List.set_cons_succ, putS, sl15, reduceIte, Nat.reduceEqDiff, Nat.reduceAdd, ee7] at h9
              exact h9
            · have ee8 := hI.val 8 (by decide) (ready_dep hi (by kernel_rfl))
              simp only [V15, sl15, reduceIte, Nat.reduceEqDiff, Nat.reduceAdd] at ee8
              have hno := hI.not23 (ready_off hi hI.size (by decide)) (fun h23 => (hI.cl 10 9 (hI.cl 11 10 (hI.cl 12 11 (hI.cl 18 12 (hI.cl 19 18 (hI.cl 20 19 (hI.cl 21 20 (hI.cl 22 21 (hI.cl 23 22 h23 (by kernel_rfl)) (by kernel_rfl)) (by kernel_rfl)) (by kernel_rfl)) (by kernel_rfl)) (by kernel_rfl)) (by kernel_rfl)) (by kernel_rfl)) (by kernel_rfl)))
              obtain ⟨hk0, hk1, hq0, hq1⟩ := HCEL.out u (hI.world hno)
              refine wpOp_step rfl (fun K hK' => ?_)
              simp only [Fr, ds15, List.foldl_cons, List.foldl_nil, Act.put, List.setIfInBounds_toArray, List.set_cons_zero, List.set_cons_succ]
              go_simp
              refine hK' _ _ ?_
              have h9 := hK _ _ (hI.step 9 (by decide) hi (.pointer (some ⟨r, 0, none⟩)) rfl (fun _ _ => rfl) (fun h => absurd h (by decide)) (fun h => absurd h (by decide)))
              simp only [Fr, ds15, List.foldl_cons, List.foldl_nil, Act.put, List.setIfInBounds_toArray, List.set_cons_zero, List.set_cons_succ, putS, sl15, reduceIte, Nat.reduceEqDiff, Nat.reduceAdd, ee8] at h9
              exact h9
            · have ee9 := hI.val 9 (by decide) (ready_dep hi (by kernel_rfl))
              simp only [V15, sl15, reduceIte, Nat.reduceEqDiff, Nat.reduceAdd] at ee9
              refine wpOp_step rfl (fun K hK' => ?_)
              simp only [Fr, ds15, List.foldl_cons, List.foldl_nil, Act.put, List.setIfInBounds_toArray, List.set_cons_zero, List.set_cons_succ]
              go_simp
              refine hK' _ _ ?_
              have h9 := hK _ _ (hI.step 10 (by decide) hi (.pointer (some ⟨r, 0, none⟩)) rfl (fun _ _ => rfl) (fun h => absurd h (by decide)) (fun h => absurd h (by decide)))
              simp only [Fr, ds15, List.foldl_cons, List.foldl_nil, Act.put, List.setIfInBounds_toArray, List.set_cons_zero, List.set_cons_succ, putS, sl15, reduceIte, Nat.reduceEqDiff, Nat.reduceAdd, ee9] at h9
              exact h9
            · have ee10 := hI.val 10 (by decide) (ready_dep hi (by kernel_rfl))
              simp only [V15, sl15, reduceIte, Nat.reduceEqDiff, Nat.reduceAdd] at ee10
              refine wpOp_step rfl (fun K hK' => ?_)
              simp only [Fr, ds15, List.foldl_cons, List.foldl_nil, Act.put, List.setIfInBounds_toArray, List.set_cons_zero, List.set_cons_succ]
              go_simp
              refine hK' _ _ ?_
              have h9 := hK _ _ (hI.step 11 (by decide) hi (.pointer (some ⟨r, 0, none⟩)) rfl (fun _ _ => rfl) (fun h => absurd h (by decide)) (fun h => absurd h (by decide)))
              simp only [Fr, ds15, List.foldl_cons, List.foldl_nil, Act.put, List.setIfInBounds_toArray, List.set_cons_zero, List.set_cons_succ, putS, sl15, reduceIte, Nat.reduceEqDiff, Nat.reduceAdd, ee10] at h9
              exact h9
            · have ee11 := hI.val 11 (by decide) (ready_dep hi (by kernel_rfl))
              simp only [V15, sl15, reduceIte, Nat.reduceEqDiff, Nat.reduceAdd] at ee11
              have hno := hI.not23 (ready_off hi hI.size (by decide)) (fun h23 => (hI.cl 18 12 (hI.cl 19 18 (hI.cl 20 19 (hI.cl 21 20 (hI.cl 22 21 (hI.cl 23 22 h23 (by kernel_rfl)) (by kernel_rfl)) (by kernel_rfl)) (by kernel_rfl)) (by kernel_rfl)) (by kernel_rfl)))
              obtain ⟨hk0, hk1, hq0, hq1⟩ := HCEL.out u (hI.world hno)
              refine wpOp_step rfl (fun K hK' => ?_)
              simp only [Fr, ds15, List.foldl_cons, List.foldl_nil, Act.put, List.setIfInBounds_toArray, List.set_cons_zero, List.set_cons_succ]
              go_simp
              refine hK' _ _ ?_
              have h9 := hK _ _ (hI.step 12 (by decide) hi (.slice (some ⟨c, 0, none⟩) 8192 cap) rfl (fun _ _ => rfl) (fun h => absurd h (by decide)) (fun h => absurd h (by decide)))
              simp only [Fr, ds15, List.foldl_cons, List.foldl_nil, Act.put, List.setIfInBounds_toArray, List.set_cons_zero, List.set_cons_succ, putS, sl15, reduceIte, Nat.reduceEqDiff, Nat.reduceAdd, ee11] at h9
              exact h9
            · refine wpOp_step rfl (fun K hK' => ?_)
              simp only [Fr, ds15, List.foldl_cons, List.foldl_nil, Act.put, List.setIfInBounds_toArray, List.set_cons_zero, List.set_cons_succ]
              go_simp
              refine hK' _ _ ?_
              have h9 := hK _ _ (hI.step 13 (by decide) hi (.pointer (some ⟨rb, 0, none⟩)) rfl (fun _ _ => rfl) (fun h => absurd h (by decide)) (fun h => absurd h (by decide)))
              simp only [Fr, ds15, List.foldl_cons, List.foldl_nil, Act.put, List.setIfInBounds_toArray, List.set_cons_zero, List.set_cons_succ, putS, sl15, reduceIte, Nat.reduceEqDiff, Nat.reduceAdd] at h9
              exact h9
            · have ee13 := hI.val 13 (by decide) (ready_dep hi (by kernel_rfl))
              simp only [V15, sl15, reduceIte, Nat.reduceEqDiff, Nat.reduceAdd] at ee13
              refine wpOp_step rfl (fun K hK' => ?_)
              simp only [Fr, ds15, List.foldl_cons, List.foldl_nil, Act.put, List.setIfInBounds_toArray, List.set_cons_zero, List.set_cons_succ]
              go_simp
              refine hK' _ _ ?_
              have h9 := hK _ _ (hI.step 14 (by decide) hi (.pointer (some ⟨rb, 0, none⟩)) rfl (fun _ _ => rfl) (fun h => absurd h (by decide)) (fun h => absurd h (by decide)))
              simp only [Fr, ds15, List.foldl_cons, List.foldl_nil, Act.put, List.setIfInBounds_toArray, List.set_cons_zero, List.set_cons_succ, putS, sl15, reduceIte, Nat.reduceEqDiff, Nat.reduceAdd, ee13] at h9
              exact h9
            · have ee14 := hI.val 14 (by decide) (ready_dep hi (by kernel_rfl))
              simp only [V15, sl15, reduceIte, Nat.reduceEqDiff, Nat.reduceAdd] at ee14
              refine wpOp_step rfl (fun K hK' => ?_)
              simp only [Fr, ds15, List.foldl_cons, List.foldl_nil, Act.put, List.setIfInBounds_toArray, List.set_cons_zero, List.set_cons_succ]
              go_simp
              refine hK' _ _ ?_
              have h9 := hK _ _ (hI.step 15 (by decide) hi (.pointer (some ⟨rb, 1, none⟩)) rfl (fun _ _ => rfl) (fun h => absurd h (by decide)) (fun h => absurd h (by decide)))
              simp only [Fr, ds15, List.foldl_cons, List.foldl_nil, Act.put, List.setIfInBounds_toArray, List.set_cons_zero, List.set_cons_succ, putS, sl15, reduceIte, Nat.reduceEqDiff, Nat.reduceAdd, ee14] at h9
              exact h9
            · have ee15 := hI.val 15 (by decide) (ready_dep hi (by kernel_rfl))
              simp only [V15, sl15, reduceIte, Nat.reduceEqDiff, Nat.reduceAdd] at ee15
              have hno := hI.not23 (ready_off hi hI.size (by decide)) (fun h23 => (hI.cl 17 16 (hI.cl 18 17 (hI.cl 19 18 (hI.cl 20 19 (hI.cl 21 20 (hI.cl 22 21 (hI.cl 23 22 h23 (by kernel_rfl)) (by kernel_rfl)) (by kernel_rfl)) (by kernel_rfl)) (by kernel_rfl)) (by kernel_rfl)) (by kernel_rfl)))
              obtain ⟨hk0, hk1, hq0, hq1⟩ := HCEL.out u (hI.world hno)
              refine wpOp_step rfl (fun K hK' => ?_)
              simp only [Fr, ds15, List.foldl_cons, List.foldl_nil, Act.put, List.setIfInBounds_toArray, List.set_cons_zero, List.set_cons_succ]
              go_simp
              refine hK' _ _ ?_
              have h9 := hK _ _ (hI.step 16 (by decide) hi (.int .i64 (s.act : Int)) rfl (fun _ _ => rfl) (fun h => absurd h (by decide)) (fun h => absurd h (by decide)))
              simp only [Fr, ds15, List.foldl_cons, List.foldl_nil, Act.put, List.setIfInBounds_toArray, List.set_cons_zero, List.set_cons_succ, putS, sl15, reduceIte, Nat.reduceEqDiff, Nat.reduceAdd, ee15] at h9
              exact h9
            · have ee16 := hI.val 16 (by decide) (ready_dep hi (by kernel_rfl))
              simp only [V15, sl15, reduceIte, Nat.reduceEqDiff, Nat.reduceAdd] at ee16
              refine wpOp_step rfl (fun K hK' => ?_)
              simp only [Fr, ds15, List.foldl_cons, List.foldl_nil, Act.put, List.setIfInBounds_toArray, List.set_cons_zero, List.set_cons_succ]
              go_simp
              refine hK' _ _ ?_
              have h9 := hK _ _ (hI.step 17 (by decide) hi (.int .i64 ((s.act : Int) * 4096)) rfl (fun _ _ => rfl) (fun h => absurd h (by decide)) (fun h => absurd h (by decide)))
              simp only [Fr, ds15, List.foldl_cons, List.foldl_nil, Act.put, List.setIfInBounds_toArray, List.set_cons_zero, List.set_cons_succ, putS, sl15, reduceIte, Nat.reduceEqDiff, Nat.reduceAdd, ee16] at h9
              exact h9
            · have ee12 := hI.val 12 (by decide) (ready_dep hi (by kernel_rfl))
              simp only [V15, sl15, reduceIte, Nat.reduceEqDiff, Nat.reduceAdd] at ee12
              have ee17 := hI.val 17 (by decide) (ready_dep hi (by kernel_rfl))
              simp only [V15, sl15, reduceIte, Nat.reduceEqDiff, Nat.reduceAdd] at ee17
              refine wpOp_step rfl (fun K hK' => ?_)
              simp only [Fr, ds15, List.foldl_cons, List.foldl_nil, Act.put, List.setIfInBounds_toArray, List.set_cons_zero, List.set_cons_succ]
              go_simp
              refine hK' _ _ ?_
              have h9 := hK _ _ (hI.step 18 (by decide) hi (.pointer (some ⟨c, s.act * 4096, none⟩)) rfl (fun _ _ => rfl) (fun h => absurd h (by decide)) (fun h => absurd h (by decide)))
              simp only [Fr, ds15, List.foldl_cons, List.foldl_nil, Act.put, List.setIfInBounds_toArray, List.set_cons_zero, List.set_cons_succ, putS, sl15, reduceIte, Nat.reduceEqDiff, Nat.reduceAdd, ee12, ee17] at h9
              exact h9
            · have ee18 := hI.val 18 (by decide) (ready_dep hi (by kernel_rfl))
              simp only [V15, sl15, reduceIte, Nat.reduceEqDiff, Nat.reduceAdd] at ee18
              have hno := hI.not23 (ready_off hi hI.size (by decide)) (fun h23 => (hI.cl 20 19 (hI.cl 21 20 (hI.cl 22 21 (hI.cl 23 22 h23 (by kernel_rfl)) (by kernel_rfl)) (by kernel_rfl)) (by kernel_rfl)))
              obtain ⟨hk0, hk1, hq0, hq1⟩ := HCEL.out u (hI.world hno)
              refine wpOp_step rfl (fun K hK' => ?_)
              simp only [Fr, ds15, List.foldl_cons, List.foldl_nil, Act.put, List.setIfInBounds_toArray, List.set_cons_zero, List.set_cons_succ]
              go_simp
              refine hK' _ _ ?_
              have h9 := hK _ _ (hI.step 19 (by decide) hi (.int .u8 (s.code : Int)) rfl (fun _ _ => rfl) (fun h => absurd h (by decide)) (fun h => absurd h (by decide)))
              simp only [Fr, ds15, List.foldl_cons, List.foldl_nil, Act.put, List.setIfInBounds_toArray, List.set_cons_zero, List.set_cons_succ, putS, sl15, reduceIte, Nat.reduceEqDiff, Nat.reduceAdd, ee18] at h9
              exact h9
            · have ee19 := hI.val 19 (by decide) (ready_dep hi (by kernel_rfl))
              simp only [V15, sl15, reduceIte, Nat.reduceEqDiff, Nat.reduceAdd] at ee19
              refine wpOp_step rfl (fun K hK' => ?_)
              simp only [Fr, ds15, List.foldl_cons, List.foldl_nil, Act.put, List.setIfInBounds_toArray, List.set_cons_zero, List.set_cons_succ]
              go_simp
              refine (HNX.out _).mono ?_
              rintro e w9 ⟨rfl, rfl⟩
              refine hK' _ _ ?_
              have h9 := hK _ _ (hI.step 20 (by decide) hi (.int .u8 (cc : Int)) rfl (fun _ _ => rfl) (fun h => absurd h (by decide)) (fun h => absurd h (by decide)))
              simp only [Fr, ds15, List.foldl_cons, List.foldl_nil, Act.put, List.setIfInBounds_toArray, List.set_cons_zero, List.set_cons_succ, putS, sl15, reduceIte, Nat.reduceEqDiff, Nat.reduceAdd, ee19] at h9
              exact h9
            · have ee20 := hI.val 20 (by decide) (ready_dep hi (by kernel_rfl))
              simp only [V15, sl15, reduceIte, Nat.reduceEqDiff, Nat.reduceAdd] at ee20
              have hno := hI.not23 (ready_off hi hI.size (by decide)) (fun h23 => (hI.cl 22 21 (hI.cl 23 22 h23 (by kernel_rfl)) (by kernel_rfl)))
              have hu := hI.w0 (ready_off hi hI.size (by decide))
              subst hu
              refine wpOp_step rfl (fun K hK' => ?_)
              simp only [Fr, ds15, List.foldl_cons, List.foldl_nil, Act.put, List.setIfInBounds_toArray, List.set_cons_zero, List.set_cons_succ]
              go_simp
              refine hK' _ _ ?_
              have h9 := hK _ _ (hI.step 21 (by decide) hi (.slice (some ⟨wr.heap.size, 0, none⟩) 1 1) rfl (fun h => absurd rfl h) (fun _ => ⟨rfl, hno⟩) (fun h => absurd h (by decide)))
              simp only [Fr, ds15, List.foldl_cons, List.foldl_nil, Act.put, List.setIfInBounds_toArray, List.set_cons_zero, List.set_cons_succ, putS, sl15, reduceIte, Nat.reduceEqDiff, Nat.reduceAdd, ee20] at h9
              exact h9
            · have ee21 := hI.val 21 (by decide) (ready_dep hi (by kernel_rfl))
              simp only [V15, sl15, reduceIte, Nat.reduceEqDiff, Nat.reduceAdd] at ee21
              have hno := hI.not23 (ready_off hi hI.size (by decide)) (fun h23 => (hI.cl 23 22 h23 (by kernel_rfl)))
              have hu := hI.w1 (ready_dep hi (by kernel_rfl)) hno
              subst hu
              refine wpOp_step rfl (fun K hK' => ?_)
              simp only [Fr, ds15, List.foldl_cons, List.foldl_nil, Act.put, List.setIfInBounds_toArray, List.set_cons_zero, List.set_cons_succ]
              go_simp
              refine hK' _ _ ?_
              have h9 := hK _ _ (hI.step 22 (by decide) hi (.string (str [cc])) rfl (fun _ _ => rfl) (fun h => absurd h (by decide)) (fun h => absurd h (by decide)))
              simp only [Fr, ds15, List.foldl_cons, List.foldl_nil, Act.put, List.setIfInBounds_toArray, List.set_cons_zero, List.set_cons_succ, putS, sl15, reduceIte, Nat.reduceEqDiff, Nat.reduceAdd, ee21] at h9
              exact h9
            · have ee3 := hI.val 3 (by decide) (ready_dep hi (by kernel_rfl))
              simp only [V15, sl15, reduceIte, Nat.reduceEqDiff, Nat.reduceAdd] at ee3
              have ee5 := hI.val 5 (by decide) (ready_dep hi (by kernel_rfl))
              simp only [V15, sl15, reduceIte, Nat.reduceEqDiff, Nat.reduceAdd] at ee5
              have ee22 := hI.val 22 (by decide) (ready_dep hi (by kernel_rfl))
              simp only [V15, sl15, reduceIte, Nat.reduceEqDiff, Nat.reduceAdd] at ee22
              have hu := hI.w1 (hI.cl 22 21 (ready_dep hi (by kernel_rfl)) (by kernel_rfl)) (ready_off hi hI.size (by decide))
              subst hu
              refine wpOp_step rfl (fun K hK' => ?_)
              simp only [Fr, ds15, List.foldl_cons, List.foldl_nil, Act.put, List.setIfInBounds_toArray, List.set_cons_zero, List.set_cons_succ]
              go_simp
              refine (rprogram_any r c g _ _ _ HA.out.d.fl).mono ?_
              rintro e w9 ⟨rfl, h4, g4⟩
              first | rw [HW1.out, HBS.out, he3] at h4 ⊢ | rw [HW2.out, HBS.out, he3] at h4 ⊢
              refine hK' _ _ ?_
              have h9 := hK _ _ (hI.step 23 (by decide) hi (.int .i64 e3) rfl (fun _ h => absurd rfl h) (fun h => absurd h (by decide)) (fun _ => ⟨HA.out.mine h4 g4, hI.cl 22 21 (ready_dep hi (by kernel_rfl)) (by kernel_rfl)⟩))
              simp only [Fr, ds15, List.foldl_cons, List.foldl_nil, Act.put, List.setIfInBounds_toArray, List.set_cons_zero, List.set_cons_succ, putS, sl15, reduceIte, Nat.reduceEqDiff, Nat.reduceAdd, ee3, ee5, ee22] at h9
              exact h9
            · have ee23 := hI.val 23 (by decide) (ready_dep hi (by kernel_rfl))
              simp only [V15, sl15, reduceIte, Nat.reduceEqDiff, Nat.reduceAdd] at ee23
              refine wpOp_step rfl (fun K hK' => ?_)
              simp only [Fr, ds15, List.foldl_cons, List.foldl_nil, Act.put, List.setIfInBounds_toArray, List.set_cons_zero, List.set_cons_succ]
              go_simp
              refine hK' _ _ ?_
              have h9 := hK _ _ (hI.step 24 (by decide) hi (.int .i64 e3) rfl (fun _ _ => rfl) (fun h => absurd h (by decide)) (fun h => absurd h (by decide)))
              simp only [Fr, ds15, List.foldl_cons, List.foldl_nil, Act.put, List.setIfInBounds_toArray, List.set_cons_zero, List.set_cons_succ, putS, sl15, reduceIte, Nat.reduceEqDiff, Nat.reduceAdd, ee23] at h9
              exact h9
          · intro listed gg u hI hr
            have hal := all_listed (by kernel_rfl) hr
            have h24 := hal 24 (by decide)
            have h23 := hal 23 (by decide)
            have h24' : listed.getD 24 false = true := by have := hI.size; simp [this] at h24 ⊢; exact h24
            have h23' : listed.getD 23 false = true := by have := hI.size; simp [this] at h23 ⊢; exact h23
            have e6 := hI.val 24 (by decide) h24'
            simp only [V15, sl15, reduceIte] at e6
            have HR := Lib.hid (hI.w2 h23')
            clear hal h24 h23 h24' h23' hI hr
            simp only [Fr, ds15, List.foldl_cons, List.foldl_nil, Act.put, List.setIfInBounds_toArray, List.set_cons_zero, List.set_cons_succ]
            rw [e6]
            go_wp2_with fail
            go_meet
            case rel => exact ⟨g3, e3, rfl, he3, HR.out⟩
        case rest =>
          obtain ⟨g3, e3, rfl, he, hm6⟩ := hcut
          have HM6 := Lib.hid hm6
          clear hm6 HM2 HNX HCG
          have HE3 : Hid (g.program (((1 - s.act) * 4096 : Nat) : Int) [St.folC s.code] = (g3, e3)) := by unfold Hid; rw [← HTO.out, HC.out]; exact he
          clear he
          generalize wc = w4 at *
          by_cases hq : e3 = 0
          · subst hq
            have HMG := Lib.hid (move_good HE1.out HPU2.out HE3.out)
            have HM7 : Hid (RMv w0 ((w4.setCell ⟨pb, 6, none⟩ (.int .i64 (p : Int))).setCell ⟨pb, 7, none⟩ (.bool false)) r c rb pb g3 s d (rkC k p false)) :=
              HM6.out.own HNP.out (grown_set (grown_set (grown_refl w4 (some pb)) _ _) _ _) ((heap_setCell_at (heap_setCell_at HM6.out.pb 6 _) 7 _).trans (by rw [rk_end]))
            have x6 : w4.cell? ⟨pb, 6, none⟩ = some (.int .i64 (p0 : Int)) := cell_at HM6.out.pb 6
            have x7 : w4.cell? ⟨pb, 7, none⟩ = some (.bool d0) := cell_at HM6.out.pb 7
            have z6 := free_at HM6.out.pb 6
            have z7 := free_at HM6.out.pb 7
            clear HBAD HE3 HE1 HPU2 HM6
            go_upto_region 20 with fail
            clear x6 x7 z6 z7
            generalize ((w4.setCell ⟨pb, 6, none⟩ (.int .i64 (p : Int))).setCell ⟨pb, 7, none⟩ (.bool false)) = w5 at *
            have q0 : w5.cell? ⟨pb, 0, none⟩ = some (.bool (St.is (k 0))) := cell_at HM7.out.pb 0
            have q1 : w5.cell? ⟨pb, 1, none⟩ = some (.bool (St.is (k 1))) := cell_at HM7.out.pb 1
            have q2 : w5.cell? ⟨pb, 2, none⟩ = some (.bool (St.is (k 2))) := cell_at HM7.out.pb 2
            have q3 : w5.cell? ⟨pb, 3, none⟩ = some (.string (St.txt (k 0))) := cell_at HM7.out.pb 3
            have q4 : w5.cell? ⟨pb, 4, none⟩ = some (.string (St.txt (k 1))) := cell_at HM7.out.pb 4
            have q5 : w5.cell? ⟨pb, 5, none⟩ = some (.string (St.txt (k 2))) := cell_at HM7.out.pb 5
            have q6 : w5.cell? ⟨pb, 6, none⟩ = some (.int .i64 (p : Int)) := cell_at HM7.out.pb 6
            have q7 : w5.cell? ⟨pb, 7, none⟩ = some (.bool false) := cell_at HM7.out.pb 7
            have r1 : w5.cell? ⟨rb, 1, none⟩ = some (.int .i64 (s.act : Int)) := cell_at HM7.out.d.st.blk 1
            have r2 : w5.cell? ⟨rb, 2, none⟩ = some (.bool (St.is (s.k 0))) := cell_at HM7.out.d.st.blk 2
            have r3 : w5.cell? ⟨rb, 3, none⟩ = some (.bool (St.is (s.k 1))) := cell_at HM7.out.d.st.blk 3
            have r4 : w5.cell? ⟨rb, 4, none⟩ = some (.bool (St.is (s.k 2))) := cell_at HM7.out.d.st.blk 4
            have r5 : w5.cell? ⟨rb, 5, none⟩ = some (.string (St.txt (s.k 0))) := cell_at HM7.out.d.st.blk 5
            have r6 : w5.cell? ⟨rb, 6, none⟩ = some (.string (St.txt (s.k 1))) := cell_at HM7.out.d.st.blk 6
            have r7 : w5.cell? ⟨rb, 7, none⟩ = some (.string (St.txt (s.k 2))) := cell_at HM7.out.d.st.blk 7
            have r8 : w5.cell? ⟨rb, 8, none⟩ = some (.int .i64 (s.fin : Int)) := cell_at HM7.out.d.st.blk 8
            have r9 : w5.cell? ⟨rb, 9, none⟩ = some (.bool d) := cell_at HM7.out.d.st.blk 9
            have y1 := free_at HM7.out.d.st.blk 1
            have y2 := free_at HM7.out.d.st.blk 2
            have y3 := free_at HM7.out.d.st.blk 3
            have y4 := free_at HM7.out.d.st.blk 4
            have y5 := free_at HM7.out.d.st.blk 5
            have y6 := free_at HM7.out.d.st.blk 6
            have y7 := free_at HM7.out.d.st.blk 7
            have y8 := free_at HM7.out.d.st.blk 8
            have y9 := free_at HM7.out.d.st.blk 9
            have hmv := HM7.out.d.st.moved k to_ p cc (by omega) (by rw [← HC.out]; exact folC_lt _) HPF.out HK.out
            have hgr : w5.grownBy (((((((((w5.setCell ⟨rb, 2, none⟩ (.bool (St.is (k 0)))).setCell ⟨rb, 3, none⟩ (.bool (St.is (k 1)))).setCell ⟨rb, 4, none⟩ (.bool (St.is (k 2)))).setCell ⟨rb, 5, none⟩ (.string (St.txt (k 0)))).setCell ⟨rb, 6, none⟩ (.string (St.txt (k 1)))).setCell ⟨rb, 7, none⟩ (.string (St.txt (k 2)))).setCell ⟨rb, 8, none⟩ (.int .i64 (p : Int))).setCell ⟨rb, 9, none⟩ (.bool false)).setCell ⟨rb, 1, none⟩ (.int .i64 (to_ : Int))) (some rb) := grown_set (grown_set (grown_set (grown_set (grown_set (grown_set (grown_set (grown_set (grown_set (grown_refl w5 (some rb)) _ _) _ _) _ _) _ _) _ _) _ _) _ _) _ _) _ _
            have HF : Hid (RMovePost w0 r c rb d (St.move x s k) (.returned (.int .i64 0)) (((((((((w5.setCell ⟨rb, 2, none⟩ (.bool (St.is (k 0)))).setCell ⟨rb, 3, none⟩ (.bool (St.is (k 1)))).setCell ⟨rb, 4, none⟩ (.bool (St.is (k 2)))).setCell ⟨rb, 5, none⟩ (.string (St.txt (k 0)))).setCell ⟨rb, 6, none⟩ (.string (St.txt (k 1)))).setCell ⟨rb, 7, none⟩ (.string (St.txt (k 2)))).setCell ⟨rb, 8, none⟩ (.int .i64 (p : Int))).setCell ⟨rb, 9, none⟩ (.bool false)).setCell ⟨rb, 1, none⟩ (.int .i64 (to_ : Int)))) := by
              unfold Hid
              rw [HMG.out, ← HTO.out, HC.out]
              exact ⟨rfl, false, HM7.out.d.store hmv hgr, fun _ => rfl, fun h => absurd rfl h⟩
            clear hmv hgr HM7 HMG
            go_wp2_with fail
            (try simp only [Exit.inBlock, Exit.then])
            go_ret
            exact HF.out
          · have hz : (e3 != 0) = true := by simp [hq]
            have hz2 : (e3 == 0) = false := by simp [hq]
            have HF := Lib.hid (HBAD.out w4 g3 e3 (move_bad3 HE1.out HPU2.out HE3.out hq) hq HM6.out.d)
            clear HBAD HM6 HE1 HPU2 HE3
            go_wp2_with fail
            (try simp only [Exit.inBlock, Exit.then])
            go_ret
            exact HF.out
  · have hz : (e1 != 0) = true := by simp [hq]
    have hz2 : (e1 == 0) = false := by simp [hq]
    have HF := Lib.hid (HBAD.out w1 f1 e1 (move_bad1 HE1.out hq) hq HM1.out.d)
    clear HBAD HM1 HE1
    go_wp2_with fail
    (try simp only [Exit.inBlock, Exit.then])
    go_ret
    exact HF.out
end Go.Proofs.Ytngmnceahhlpkaa
