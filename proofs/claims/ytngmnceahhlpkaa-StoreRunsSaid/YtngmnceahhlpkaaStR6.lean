/- What the document's Boot answers. Conditions: the flash lies in memory. -/
import Derived.Test.YtngmnceahhlpkaaStR5
namespace Go.Proofs.Ytngmnceahhlpkaa
open Go.RowKit
def RBootPost (w : World) (r c : Nat) (res : Fl × Option St × Int) (e : Ending) (w' : World) : Prop :=
  RAt w' r c res.1 ∧ Wrote w w' (fun k => k = r ∨ k = c) ∧
    ((res.2.2 = 0 ∧ ∃ rb s, res.2.1 = some s ∧ e = .returned (.tuple #[.pointer (some ⟨rb, 0, none⟩), .int .i64 0]) ∧ w.heap.size ≤ rb ∧ RStAt w' rb r s false) ∨ (res.2.2 ≠ 0 ∧ res.2.1 = none ∧ e = .returned (.tuple #[.pointer none, .int .i64 res.2.2])))
theorem rformat_boot {w w' w0 : World} {r c : Nat} {x : Fl} {e : Ending} (ho : x.off = false) (h : St.active x = none) (hg : Wrote w0 w (fun k => k = r ∨ k = c)) (hp : RFormPost w r c (St.format x) e w') :
    ∃ f1 rr, St.format x = (f1, rr) ∧ e = .returned (.int .i64 rr) ∧ RAt w' r c f1 ∧ Wrote w0 w' (fun k => k = r ∨ k = c) ∧ St.boot x = if rr = 0 then (f1, some St.st0, 0) else (f1, none, rr) := by
  obtain ⟨f1, rr, hr⟩ : ∃ f1 r, St.format x = (f1, r) := ⟨_, _, rfl⟩
  rw [hr] at hp
  obtain ⟨h1, h2, h3⟩ := hp
  refine ⟨f1, rr, hr, h1, h2, hg.trans h3, ?_⟩
  rw [boot_none ho h, hr]
  by_cases hq : rr = 0
  · subst hq
    rw [if_pos rfl]
    rfl
  · rw [if_neg hq]
    split
    · rename_i h7; injection h7 with _ h7; exact absurd h7 hq
    · rename_i h7; injection h7 with h8 h7; rw [h8, h7]
theorem wrote_fresh {w w1 w2 : World} {r c rb : Nat} (h : Wrote w w1 (fun k => k = r ∨ k = c)) (g : Wrote w1 w2 (three r c rb)) (hs : w.heap.size ≤ rb) : Wrote w w2 (fun k => k = r ∨ k = c) :=
  ⟨g.os.trans h.os, g.tape.trans h.tape, g.output.trans h.output, Nat.le_trans h.size g.size, fun i hi hj => (g.block i (Nat.lt_of_lt_of_le hi h.size) (fun e => by
    rcases e with e | e | e
    · exact hj (.inl e)
    · exact hj (.inr e)
    · omega)).trans (h.block i hi hj)⟩
set_option maxRecDepth 100000 in
set_option maxHeartbeats 1000000 in
theorem rboot_off (w : World) (r c : Nat) (x : Fl) (h : RAt w r c x) (ho : x.off = true) : Calls Try.prog 58 #[.pointer (some ⟨r, 0, none⟩)] w (RBootPost w r c (St.boot x)) := by
  have HB : Hid (St.boot x = (x, none, 60)) := by unfold Hid St.boot; rw [if_pos ho]
  have HA := Lib.hid h
  have a1 := h.off
  rw [ho] at a1
  clear h ho
  go_enter Try.func58, Try.ntmps58
  go_wp2_with fail
  (try simp only [Exit.inBlock, Exit.then])
  go_ret2
  rw [HB.out]
  exact ⟨HA.out, Wrote.refl _ _, .inr ⟨show (60 : Int) ≠ 0 by decide, rfl, rfl⟩⟩
set_option maxRecDepth 100000 in
set_option maxHeartbeats 1600000 in
theorem rboot_on (w : World) (r c : Nat) (x : Fl) (h : RAt w r c x) (ho : x.off = false) : Calls Try.prog 58 #[.pointer (some ⟨r, 0, none⟩)] w (RBootPost w r c (St.boot x)) := by
  have HA := Lib.hid h
  have HO := Lib.hid ho
  have a1 := h.off
  rw [ho] at a1
  obtain ⟨img, himg⟩ : ∃ img, img = str x.cell := ⟨_, rfl⟩
  have HB : Hid (bytes img = x.cell) := by unfold Hid; rw [himg]; exact bytes_str _ h.ok.byte
  have hsz : img.size = 8192 := by rw [himg, str_size]; exact h.ok.len
  have HSZ := Lib.hid hsz
  have HAC := Lib.hid (fun W => ractive_any W x img HB.out hsz)
  have HI := Lib.hid himg
  have h4i : (4096 : Int) < (img.size : Int) := by omega
  have h0i : (0 : Int) < (img.size : Int) := by omega
  have hl1 : (4096 : Int) ≤ (img.size : Int) := by omega
  have hl2 : (8192 : Int) ≤ (img.size : Int) := by omega
  have h0 : 0 < img.size := by omega
  have h4 : 4096 < img.size := by omega
  have HG0 : Hid ((x.cell).getD 0 0 = img[0].toNat) := by have := bytes_get img 0 h0; rw [HB.out] at this; exact this
  have HG4 : Hid ((x.cell).getD 4096 0 = img[4096].toNat) := by have := bytes_get img 4096 h4; rw [HB.out] at this; exact this
  clear h ho himg hsz
  cases hac : St.active x with
  | none =>
    have HN := Lib.hid hac
    have HAN : Hid (actN x = -1) := by unfold Hid actN; rw [hac]
    rw [HAN.out] at HAC
    clear hac
    go_enter Try.func58, Try.ntmps58
    go_wp2_with fail
    refine (rimage_any r c x _ HA.out).mono ?_
    rintro e w1 ⟨rfl, rfl⟩
    rw [← HI.out]
    go_wp2_with fail
    refine (HAC.out _).mono ?_
    rintro e w1 ⟨rfl, rfl⟩
    go_wp2_with fail
    refine (rformat_any _ r c x HA.out).mono ?_
    intro e w2 hF
    obtain ⟨f1, rr, _, rfl, h2, hw2, hb2⟩ := rformat_boot HO.out HN.out (Wrote.refl _ _) hF
    have HBT := Lib.hid hb2
    by_cases hq : rr = 0
    · subst hq
      have HF : Hid (RBootPost w r c (St.boot x) (.returned (.tuple #[.pointer (some ⟨w2.heap.size, 0, none⟩), .int .i64 0])) (w2.alloc (.cells #[.pointer (some ⟨r, 0, none⟩), .int .i64 0, .bool false, .bool false, .bool false, .string { data := #[] }, .string { data := #[] }, .string { data := #[] }, .int .i64 1, .bool false, .bool false] 124))) := by
        unfold Hid
        rw [HBT.out, if_pos rfl]
        exact ⟨h2.below (below_alloc1 _ _), hw2.trans (Wrote.of_below (below_alloc1 _ _) _), .inl ⟨rfl, w2.heap.size, St.st0, rfl, rfl, hw2.size, ⟨heap_alloc_new w2 _, St.Ok.st0⟩⟩⟩
      clear hF h2 hw2 hb2 HBT
      go_wp2_with fail
      (try simp only [Exit.inBlock, Exit.then])
      go_ret2
      exact HF.out
    · have hz : (rr != 0) = true := by simp [hq]
      have hz2 : (rr == 0) = false := by simp [hq]
      have HF : Hid (RBootPost w r c (St.boot x) (.returned (.tuple #[.pointer none, .int .i64 rr])) w2) := by
        unfold Hid
        rw [HBT.out, if_neg hq]
        exact ⟨h2, hw2, .inr ⟨hq, rfl, rfl⟩⟩
      clear hF h2 hw2 hb2 HBT
      go_wp2_with fail
      (try simp only [Exit.inBlock, Exit.then])
      go_ret2
      exact HF.out
  | some y =>
    obtain ⟨act, cd, sp⟩ := y
    obtain ⟨hact, hcell, hspc, hic, _, _⟩ := active_inv hac
    have hok := HA.out.ok
    obtain ⟨k, p, d, hr⟩ : ∃ k p d, St.read (St.sector x act) = (k, p, d) := ⟨_, _, _, rfl⟩
    have hfit := read_fits (St.sector x act) (by rw [sector_len hok act hact]; decide)
    rw [hr, sector_len hok act hact] at hfit
    have HFIT := Lib.hid hfit
    have HBT := Lib.hid (boot_some HO.out hac hr)
    have HCE := Lib.hid hcell
    have HIC := Lib.hid hic
    have HSP := Lib.hid hspc
    have hcd : cd < 256 := by rw [← hcell]; exact Fl.getD_lt hok.byte _
    have HCD := Lib.hid hcd
    have hsp256 : sp < 256 := by rw [← hspc]; exact Fl.getD_lt hok.byte _
    have HAN : Hid (actN x = (act : Int)) := by unfold Hid actN; rw [hac]
    rw [HAN.out] at HAC
    have HRD : Hid (∀ lo hi sec, lo = act * 4096 → hi = act * 4096 + 4096 → sec = img.extract lo hi → ∀ W, Calls Try.prog 67 #[.string sec] W fun e w' => e = .returned (.agg #[.bool (St.is (k 0)), .bool (St.is (k 1)), .bool (St.is (k 2)), .string (St.txt (k 0)), .string (St.txt (k 1)), .string (St.txt (k 2)), .int .i64 (p : Int), .bool (!d)]) ∧ Below W.heap.size W w') := by
      rintro lo hi sec rfl rfl rfl W
      have h1 := sector_of HB.out HSZ.out act hact
      refine (rRead_any W _ (by rw [← bytes_length, h1, sector_len hok act hact])).mono ?_
      rintro e w' ⟨he, h2⟩
      rw [h1, hr] at he
      exact ⟨he, h2⟩
    have hc : act = 0 ∨ act = 1 := by omega
    clear hcell hspc hic hr hac hfit hok
    rcases hc with rfl | rfl
    · have HRC := Lib.hid (HRD.out 0 4096 _ rfl rfl rfl)
      have hsi : img[4096].toNat = sp := by have := HSP.out; rw [← HG4.out]; exact this
      clear HRD hact
      have HACZ : Hid (∀ W, Calls Try.prog 65 #[.string img] W fun e w' => e = .returned (.int .i64 0) ∧ W = w') := HAC.out
      clear HAC HAN
      go_enter Try.func58, Try.ntmps58
      go_wp2_with fail
      refine (rimage_any r c x _ HA.out).mono ?_
      rintro e w1 ⟨rfl, rfl⟩
      rw [← HI.out]
      go_wp2_with fail
      refine (HACZ.out _).mono ?_
      rintro e w1 ⟨rfl, rfl⟩
      go_wp2_with fail
      refine (HRC.out _).mono ?_
      rintro e w1 ⟨rfl, hb1⟩
      have HA1 := Lib.hid (HA.out.below hb1)
      have HW1 : Hid (Wrote w w1 (fun k => k = r ∨ k = c)) := Wrote.of_below hb1 _
      clear hb1 HA HRC HACZ a1
      cases d with
      | false =>
        obtain ⟨f1, s1, rr, hm⟩ : ∃ f1 s1 rr, St.move x ⟨0, cd, p, k, false⟩ k = (f1, s1, rr) := ⟨_, _, _, rfl⟩
        have HB2 : Hid (St.boot x = if rr = 0 then (f1, some s1, 0) else (f1, none, rr)) := by
          unfold Hid
          rw [HBT.out, if_pos rfl]
          exact move_st hm
        have HST : Hid (RStAt (w1.alloc (.cells #[.pointer (some ⟨r, 0, none⟩), .int .i64 0, .bool (St.is (k 0)), .bool (St.is (k 1)), .bool (St.is (k 2)), .string (St.txt (k 0)), .string (St.txt (k 1)), .string (St.txt (k 2)), .int .i64 (p : Int), .bool true, .bool false] 124)) w1.heap.size r ⟨0, cd, p, k, false⟩ true) := ⟨heap_alloc_new w1 _, ⟨Nat.le_of_ble_eq_true rfl, HCD.out, HFIT.out.1, HFIT.out.2.2⟩⟩
        have HLE : Hid (w.heap.size ≤ w1.heap.size) := HW1.out.size
        have HD : Hid (RDuet (w1.alloc (.cells #[.pointer (some ⟨r, 0, none⟩), .int .i64 0, .bool (St.is (k 0)), .bool (St.is (k 1)), .bool (St.is (k 2)), .string (St.txt (k 0)), .string (St.txt (k 1)), .string (St.txt (k 2)), .int .i64 (p : Int), .bool true, .bool false] 124)) (w1.alloc (.cells #[.pointer (some ⟨r, 0, none⟩), .int .i64 0, .bool (St.is (k 0)), .bool (St.is (k 1)), .bool (St.is (k 2)), .string (St.txt (k 0)), .string (St.txt (k 1)), .string (St.txt (k 2)), .int .i64 (p : Int), .bool true, .bool false] 124)) r c w1.heap.size x ⟨0, cd, p, k, false⟩ true) := ⟨HA1.out.below (below_alloc1 _ _), HST.out, Wrote.refl _ _⟩
        have HW2 : Hid (Wrote w (w1.alloc (.cells #[.pointer (some ⟨r, 0, none⟩), .int .i64 0, .bool (St.is (k 0)), .bool (St.is (k 1)), .bool (St.is (k 2)), .string (St.txt (k 0)), .string (St.txt (k 1)), .string (St.txt (k 2)), .int .i64 (p : Int), .bool true, .bool false] 124)) (fun k => k = r ∨ k = c)) := HW1.out.trans (Wrote.of_below (below_alloc1 _ _) _)
        have hmv := rmove_any (w1.alloc (.cells #[.pointer (some ⟨r, 0, none⟩), .int .i64 0, .bool (St.is (k 0)), .bool (St.is (k 1)), .bool (St.is (k 2)), .string (St.txt (k 0)), .string (St.txt (k 1)), .string (St.txt (k 2)), .int .i64 (p : Int), .bool true, .bool false] 124)) (w1.alloc (.cells #[.pointer (some ⟨r, 0, none⟩), .int .i64 0, .bool (St.is (k 0)), .bool (St.is (k 1)), .bool (St.is (k 2)), .string (St.txt (k 0)), .string (St.txt (k 1)), .string (St.txt (k 2)), .int .i64 (p : Int), .bool true, .bool false] 124)) r c w1.heap.size x ⟨0, cd, p, k, false⟩ true k p true HD.out HFIT.out.2.2 (Nat.le_trans HFIT.out.2.1 HFIT.out.1) HCE.out HIC.out
        rw [hm] at hmv
        have HMV : Hid (Calls Try.prog 68 #[.pointer (some ⟨w1.heap.size, 0, none⟩), .agg #[.bool (St.is (k 0)), .bool (St.is (k 1)), .bool (St.is (k 2)), .string (St.txt (k 0)), .string (St.txt (k 1)), .string (St.txt (k 2)), .int .i64 (p : Int), .bool true]] (w1.alloc (.cells #[.pointer (some ⟨r, 0, none⟩), .int .i64 0, .bool (St.is (k 0)), .bool (St.is (k 1)), .bool (St.is (k 2)), .string (St.txt (k 0)), .string (St.txt (k 1)), .string (St.txt (k 2)), .int .i64 (p : Int), .bool true, .bool false] 124)) (RMovePost (w1.alloc (.cells #[.pointer (some ⟨r, 0, none⟩), .int .i64 0, .bool (St.is (k 0)), .bool (St.is (k 1)), .bool (St.is (k 2)), .string (St.txt (k 0)), .string (St.txt (k 1)), .string (St.txt (k 2)), .int .i64 (p : Int), .bool true, .bool false] 124)) r c w1.heap.size true (f1, s1, rr))) := hmv
        clear hm hmv HBT HFIT HD HA1 HW1
        go_wp2_with fail
        refine HMV.out.mono ?_
        rintro e w7 ⟨rfl, d', hD7, hd1, hd2⟩
        have HW7 := Lib.hid (wrote_fresh HW2.out hD7.wr HLE.out)
        by_cases hq : rr = 0
        · subst hq
          have hd := hd1 rfl
          subst hd
          have HF : Hid (RBootPost w r c (St.boot x) (.returned (.tuple #[.pointer (some ⟨w1.heap.size, 0, none⟩), .int .i64 0])) w7) := by
            unfold Hid
            rw [HB2.out, if_pos rfl]
            exact ⟨hD7.fl, HW7.out, .inl ⟨rfl, _, s1, rfl, rfl, HLE.out, hD7.st⟩⟩
          clear hD7 hd1 hd2 HMV HB2 HW2
          go_wp2_with fail
          (try simp only [Exit.inBlock, Exit.then])
          go_ret2
          exact HF.out
        · have hz : (rr != 0) = true := by simp [hq]
          have hz2 : (rr == 0) = false := by simp [hq]
          have HF : Hid (RBootPost w r c (St.boot x) (.returned (.tuple #[.pointer none, .int .i64 rr])) w7) := by
            unfold Hid
            rw [HB2.out, if_neg hq]
            exact ⟨hD7.fl, HW7.out, .inr ⟨hq, rfl, rfl⟩⟩
          clear hD7 hd1 hd2 HMV HB2 HW2
          go_wp2_with fail
          (try simp only [Exit.inBlock, Exit.then])
          go_ret2
          exact HF.out
      | true =>
        have HST : Hid (RStAt (w1.alloc (.cells #[.pointer (some ⟨r, 0, none⟩), .int .i64 0, .bool (St.is (k 0)), .bool (St.is (k 1)), .bool (St.is (k 2)), .string (St.txt (k 0)), .string (St.txt (k 1)), .string (St.txt (k 2)), .int .i64 (p : Int), .bool false, .bool false] 124)) w1.heap.size r ⟨0, cd, p, k, false⟩ false) := ⟨heap_alloc_new w1 _, ⟨Nat.le_of_ble_eq_true rfl, HCD.out, HFIT.out.1, HFIT.out.2.2⟩⟩
        have HLE : Hid (w.heap.size ≤ w1.heap.size) := HW1.out.size
        have HA2 : Hid (RAt (w1.alloc (.cells #[.pointer (some ⟨r, 0, none⟩), .int .i64 0, .bool (St.is (k 0)), .bool (St.is (k 1)), .bool (St.is (k 2)), .string (St.txt (k 0)), .string (St.txt (k 1)), .string (St.txt (k 2)), .int .i64 (p : Int), .bool false, .bool false] 124)) r c x) := HA1.out.below (below_alloc1 _ _)
        have HW2 : Hid (Wrote w (w1.alloc (.cells #[.pointer (some ⟨r, 0, none⟩), .int .i64 0, .bool (St.is (k 0)), .bool (St.is (k 1)), .bool (St.is (k 2)), .string (St.txt (k 0)), .string (St.txt (k 1)), .string (St.txt (k 2)), .int .i64 (p : Int), .bool false, .bool false] 124)) (fun k => k = r ∨ k = c)) := HW1.out.trans (Wrote.of_below (below_alloc1 _ _) _)
        have HFO : Hid (¬ (sp ≠ 255 ∧ St.fol sp = none) → RBootPost w r c (St.boot x) (.returned (.tuple #[.pointer (some ⟨w1.heap.size, 0, none⟩), .int .i64 0])) (w1.alloc (.cells #[.pointer (some ⟨r, 0, none⟩), .int .i64 0, .bool (St.is (k 0)), .bool (St.is (k 1)), .bool (St.is (k 2)), .string (St.txt (k 0)), .string (St.txt (k 1)), .string (St.txt (k 2)), .int .i64 (p : Int), .bool false, .bool false] 124))) := by
          intro hh
          rw [HBT.out, if_neg (by decide), if_neg hh]
          exact ⟨HA2.out, HW2.out, .inl ⟨rfl, _, _, rfl, rfl, HLE.out, HST.out⟩⟩
        by_cases h255 : sp = 255
        · have HF := Lib.hid (HFO.out (fun h => h.1 h255))
          have hc1 : ((sp : Int) == 255) = true := by rw [beq_iff_eq]; omega
          have hc2 : ((sp : Int) != 255) = false := by
            show (!((sp : Int) == 255)) = false
            rw [hc1]
            rfl
          clear HBT HFIT h255 HA1 HW1
          go_wp2_with fail
          (try simp only [Exit.inBlock, Exit.then])
          go_ret2
          exact HF.out
        · have hc1 : ((sp : Int) == 255) = false := by rw [beq_eq_false_iff_ne]; omega
          have hc2 : ((sp : Int) != 255) = true := by
            show (!((sp : Int) == 255)) = true
            rw [hc1]
            rfl
          have HCS := Lib.hid (fun W => code_any W sp)
          cases his : (St.fol sp).isSome with
          | true =>
            have HF := Lib.hid (HFO.out (fun h => by rw [h.2] at his; cases his))
            rw [his] at HCS
            clear HBT HFIT h255 HA1 HW1 his
            go_wp2_with fail
            refine (HCS.out _).mono ?_
            rintro e w3 ⟨rfl, rfl⟩
            go_wp2_with fail
            (try simp only [Exit.inBlock, Exit.then])
            go_ret2
            exact HF.out
          | false =>
            rw [his] at HCS
            obtain ⟨f1, rr, hm⟩ : ∃ f1 rr, x.erase 1 = (f1, rr) := ⟨_, _, rfl⟩
            have HB2 : Hid (St.boot x = if rr = 0 then (f1, some ⟨0, cd, p, k, false⟩, 0) else (f1, none, rr)) := by
              unfold Hid
              rw [HBT.out, if_neg (by decide), if_pos ⟨h255, none_of his⟩]
              exact erase_st hm
            clear HBT HFIT h255 HFO HA1 HW1 his
            go_wp2_with fail
            refine (HCS.out _).mono ?_
            rintro e w3 ⟨rfl, rfl⟩
            go_wp2_with fail
            refine (rerase_any r c x _ _ HA2.out).mono ?_
            rintro e w7 ⟨rfl, h7, g7⟩
            rw [hm] at h7 ⊢
            have hn := HA2.out.ne_of HST.out.blk (by decide) (by decide)
            have HS7 : Hid (RStAt w7 w1.heap.size r ⟨0, cd, p, k, false⟩ false) := HST.out.kept (g7.block _ HST.out.lt (fun e => e.elim hn.1 hn.2))
            have HW7 := Lib.hid (HW2.out.trans g7)
            have HA7 := Lib.hid h7
            clear h7 g7 hn hm HA2 HST HW2
            by_cases hq : rr = 0
            · subst hq
              have HF : Hid (RBootPost w r c (St.boot x) (.returned (.tuple #[.pointer (some ⟨w1.heap.size, 0, none⟩), .int .i64 0])) w7) := by
                unfold Hid
                rw [HB2.out, if_pos rfl]
                exact ⟨HA7.out, HW7.out, .inl ⟨rfl, _, _, rfl, rfl, HLE.out, HS7.out⟩⟩
              clear HB2 HA7 HW7 HS7
              go_wp2_with fail
              (try simp only [Exit.inBlock, Exit.then])
              go_ret2
              exact HF.out
            · have hz : (rr != 0) = true := by simp [hq]
              have hz2 : (rr == 0) = false := by simp [hq]
              have HF : Hid (RBootPost w r c (St.boot x) (.returned (.tuple #[.pointer none, .int .i64 rr])) w7) := by
                unfold Hid
                rw [HB2.out, if_neg hq]
                exact ⟨HA7.out, HW7.out, .inr ⟨hq, rfl, rfl⟩⟩
              clear HB2 HA7 HW7 HS7
              go_wp2_with fail
              (try simp only [Exit.inBlock, Exit.then])
              go_ret2
              exact HF.out
    · have HRC := Lib.hid (HRD.out 4096 8192 _ rfl rfl rfl)
      have hsi : img[0].toNat = sp := by have := HSP.out; rw [← HG0.out]; exact this
      clear HRD hact
      have HACZ : Hid (∀ W, Calls Try.prog 65 #[.string img] W fun e w' => e = .returned (.int .i64 1) ∧ W = w') := HAC.out
      clear HAC HAN
      go_enter Try.func58, Try.ntmps58
      go_wp2_with fail
      refine (rimage_any r c x _ HA.out).mono ?_
      rintro e w1 ⟨rfl, rfl⟩
      rw [← HI.out]
      go_wp2_with fail
      refine (HACZ.out _).mono ?_
      rintro e w1 ⟨rfl, rfl⟩
      go_wp2_with fail
      refine (HRC.out _).mono ?_
      rintro e w1 ⟨rfl, hb1⟩
      have HA1 := Lib.hid (HA.out.below hb1)
      have HW1 : Hid (Wrote w w1 (fun k => k = r ∨ k = c)) := Wrote.of_below hb1 _
      clear hb1 HA HRC HACZ a1
      cases d with
      | false =>
        obtain ⟨f1, s1, rr, hm⟩ : ∃ f1 s1 rr, St.move x ⟨1, cd, p, k, false⟩ k = (f1, s1, rr) := ⟨_, _, _, rfl⟩
        have HB2 : Hid (St.boot x = if rr = 0 then (f1, some s1, 0) else (f1, none, rr)) := by
          unfold Hid
          rw [HBT.out, if_pos rfl]
          exact move_st hm
        have HST : Hid (RStAt (w1.alloc (.cells #[.pointer (some ⟨r, 0, none⟩), .int .i64 1, .bool (St.is (k 0)), .bool (St.is (k 1)), .bool (St.is (k 2)), .string (St.txt (k 0)), .string (St.txt (k 1)), .string (St.txt (k 2)), .int .i64 (p : Int), .bool true, .bool false] 124)) w1.heap.size r ⟨1, cd, p, k, false⟩ true) := ⟨heap_alloc_new w1 _, ⟨Nat.le_of_ble_eq_true rfl, HCD.out, HFIT.out.1, HFIT.out.2.2⟩⟩
        have HLE : Hid (w.heap.size ≤ w1.heap.size) := HW1.out.size
        have HD : Hid (RDuet (w1.alloc (.cells #[.pointer (some ⟨r, 0, none⟩), .int .i64 1, .bool (St.is (k 0)), .bool (St.is (k 1)), .bool (St.is (k 2)), .string (St.txt (k 0)), .string (St.txt (k 1)), .string (St.txt (k 2)), .int .i64 (p : Int), .bool true, .bool false] 124)) (w1.alloc (.cells #[.pointer (some ⟨r, 0, none⟩), .int .i64 1, .bool (St.is (k 0)), .bool (St.is (k 1)), .bool (St.is (k 2)), .string (St.txt (k 0)), .string (St.txt (k 1)), .string (St.txt (k 2)), .int .i64 (p : Int), .bool true, .bool false] 124)) r c w1.heap.size x ⟨1, cd, p, k, false⟩ true) := ⟨HA1.out.below (below_alloc1 _ _), HST.out, Wrote.refl _ _⟩
        have HW2 : Hid (Wrote w (w1.alloc (.cells #[.pointer (some ⟨r, 0, none⟩), .int .i64 1, .bool (St.is (k 0)), .bool (St.is (k 1)), .bool (St.is (k 2)), .string (St.txt (k 0)), .string (St.txt (k 1)), .string (St.txt (k 2)), .int .i64 (p : Int), .bool true, .bool false] 124)) (fun k => k = r ∨ k = c)) := HW1.out.trans (Wrote.of_below (below_alloc1 _ _) _)
        have hmv := rmove_any (w1.alloc (.cells #[.pointer (some ⟨r, 0, none⟩), .int .i64 1, .bool (St.is (k 0)), .bool (St.is (k 1)), .bool (St.is (k 2)), .string (St.txt (k 0)), .string (St.txt (k 1)), .string (St.txt (k 2)), .int .i64 (p : Int), .bool true, .bool false] 124)) (w1.alloc (.cells #[.pointer (some ⟨r, 0, none⟩), .int .i64 1, .bool (St.is (k 0)), .bool (St.is (k 1)), .bool (St.is (k 2)), .string (St.txt (k 0)), .string (St.txt (k 1)), .string (St.txt (k 2)), .int .i64 (p : Int), .bool true, .bool false] 124)) r c w1.heap.size x ⟨1, cd, p, k, false⟩ true k p true HD.out HFIT.out.2.2 (Nat.le_trans HFIT.out.2.1 HFIT.out.1) HCE.out HIC.out
        rw [hm] at hmv
        have HMV : Hid (Calls Try.prog 68 #[.pointer (some ⟨w1.heap.size, 0, none⟩), .agg #[.bool (St.is (k 0)), .bool (St.is (k 1)), .bool (St.is (k 2)), .string (St.txt (k 0)), .string (St.txt (k 1)), .string (St.txt (k 2)), .int .i64 (p : Int), .bool true]] (w1.alloc (.cells #[.pointer (some ⟨r, 0, none⟩), .int .i64 1, .bool (St.is (k 0)), .bool (St.is (k 1)), .bool (St.is (k 2)), .string (St.txt (k 0)), .string (St.txt (k 1)), .string (St.txt (k 2)), .int .i64 (p : Int), .bool true, .bool false] 124)) (RMovePost (w1.alloc (.cells #[.pointer (some ⟨r, 0, none⟩), .int .i64 1, .bool (St.is (k 0)), .bool (St.is (k 1)), .bool (St.is (k 2)), .string (St.txt (k 0)), .string (St.txt (k 1)), .string (St.txt (k 2)), .int .i64 (p : Int), .bool true, .bool false] 124)) r c w1.heap.size true (f1, s1, rr))) := hmv
        clear hm hmv HBT HFIT HD HA1 HW1
        go_wp2_with fail
        refine HMV.out.mono ?_
        rintro e w7 ⟨rfl, d', hD7, hd1, hd2⟩
        have HW7 := Lib.hid (wrote_fresh HW2.out hD7.wr HLE.out)
        by_cases hq : rr = 0
        · subst hq
          have hd := hd1 rfl
          subst hd
          have HF : Hid (RBootPost w r c (St.boot x) (.returned (.tuple #[.pointer (some ⟨w1.heap.size, 0, none⟩), .int .i64 0])) w7) := by
            unfold Hid
            rw [HB2.out, if_pos rfl]
            exact ⟨hD7.fl, HW7.out, .inl ⟨rfl, _, s1, rfl, rfl, HLE.out, hD7.st⟩⟩
          clear hD7 hd1 hd2 HMV HB2 HW2
          go_wp2_with fail
          (try simp only [Exit.inBlock, Exit.then])
          go_ret2
          exact HF.out
        · have hz : (rr != 0) = true := by simp [hq]
          have hz2 : (rr == 0) = false := by simp [hq]
          have HF : Hid (RBootPost w r c (St.boot x) (.returned (.tuple #[.pointer none, .int .i64 rr])) w7) := by
            unfold Hid
            rw [HB2.out, if_neg hq]
            exact ⟨hD7.fl, HW7.out, .inr ⟨hq, rfl, rfl⟩⟩
          clear hD7 hd1 hd2 HMV HB2 HW2
          go_wp2_with fail
          (try simp only [Exit.inBlock, Exit.then])
          go_ret2
          exact HF.out
      | true =>
        have HST : Hid (RStAt (w1.alloc (.cells #[.pointer (some ⟨r, 0, none⟩), .int .i64 1, .bool (St.is (k 0)), .bool (St.is (k 1)), .bool (St.is (k 2)), .string (St.txt (k 0)), .string (St.txt (k 1)), .string (St.txt (k 2)), .int .i64 (p : Int), .bool false, .bool false] 124)) w1.heap.size r ⟨1, cd, p, k, false⟩ false) := ⟨heap_alloc_new w1 _, ⟨Nat.le_of_ble_eq_true rfl, HCD.out, HFIT.out.1, HFIT.out.2.2⟩⟩
        have HLE : Hid (w.heap.size ≤ w1.heap.size) := HW1.out.size
        have HA2 : Hid (RAt (w1.alloc (.cells #[.pointer (some ⟨r, 0, none⟩), .int .i64 1, .bool (St.is (k 0)), .bool (St.is (k 1)), .bool (St.is (k 2)), .string (St.txt (k 0)), .string (St.txt (k 1)), .string (St.txt (k 2)), .int .i64 (p : Int), .bool false, .bool false] 124)) r c x) := HA1.out.below (below_alloc1 _ _)
        have HW2 : Hid (Wrote w (w1.alloc (.cells #[.pointer (some ⟨r, 0, none⟩), .int .i64 1, .bool (St.is (k 0)), .bool (St.is (k 1)), .bool (St.is (k 2)), .string (St.txt (k 0)), .string (St.txt (k 1)), .string (St.txt (k 2)), .int .i64 (p : Int), .bool false, .bool false] 124)) (fun k => k = r ∨ k = c)) := HW1.out.trans (Wrote.of_below (below_alloc1 _ _) _)
        have HFO : Hid (¬ (sp ≠ 255 ∧ St.fol sp = none) → RBootPost w r c (St.boot x) (.returned (.tuple #[.pointer (some ⟨w1.heap.size, 0, none⟩), .int .i64 0])) (w1.alloc (.cells #[.pointer (some ⟨r, 0, none⟩), .int .i64 1, .bool (St.is (k 0)), .bool (St.is (k 1)), .bool (St.is (k 2)), .string (St.txt (k 0)), .string (St.txt (k 1)), .string (St.txt (k 2)), .int .i64 (p : Int), .bool false, .bool false] 124))) := by
          intro hh
          rw [HBT.out, if_neg (by decide), if_neg hh]
          exact ⟨HA2.out, HW2.out, .inl ⟨rfl, _, _, rfl, rfl, HLE.out, HST.out⟩⟩
        by_cases h255 : sp = 255
        · have HF := Lib.hid (HFO.out (fun h => h.1 h255))
          have hc1 : ((sp : Int) == 255) = true := by rw [beq_iff_eq]; omega
          have hc2 : ((sp : Int) != 255) = false := by
            show (!((sp : Int) == 255)) = false
            rw [hc1]
            rfl
          clear HBT HFIT h255 HA1 HW1
          go_wp2_with fail
          (try simp only [Exit.inBlock, Exit.then])
          go_ret2
          exact HF.out
        · have hc1 : ((sp : Int) == 255) = false := by rw [beq_eq_false_iff_ne]; omega
          have hc2 : ((sp : Int) != 255) = true := by
            show (!((sp : Int) == 255)) = true
            rw [hc1]
            rfl
          have HCS := Lib.hid (fun W => code_any W sp)
          cases his : (St.fol sp).isSome with
          | true =>
            have HF := Lib.hid (HFO.out (fun h => by rw [h.2] at his; cases his))
            rw [his] at HCS
            clear HBT HFIT h255 HA1 HW1 his
            go_wp2_with fail
            refine (HCS.out _).mono ?_
            rintro e w3 ⟨rfl, rfl⟩
            go_wp2_with fail
            (try simp only [Exit.inBlock, Exit.then])
            go_ret2
            exact HF.out
          | false =>
            rw [his] at HCS
            obtain ⟨f1, rr, hm⟩ : ∃ f1 rr, x.erase 0 = (f1, rr) := ⟨_, _, rfl⟩
            have HB2 : Hid (St.boot x = if rr = 0 then (f1, some ⟨1, cd, p, k, false⟩, 0) else (f1, none, rr)) := by
              unfold Hid
              rw [HBT.out, if_neg (by decide), if_pos ⟨h255, none_of his⟩]
              exact erase_st hm
            clear HBT HFIT h255 HFO HA1 HW1 his
            go_wp2_with fail
            refine (HCS.out _).mono ?_
            rintro e w3 ⟨rfl, rfl⟩
            go_wp2_with fail
            refine (rerase_any r c x _ _ HA2.out).mono ?_
            rintro e w7 ⟨rfl, h7, g7⟩
            rw [hm] at h7 ⊢
            have hn := HA2.out.ne_of HST.out.blk (by decide) (by decide)
            have HS7 : Hid (RStAt w7 w1.heap.size r ⟨1, cd, p, k, false⟩ false) := HST.out.kept (g7.block _ HST.out.lt (fun e => e.elim hn.1 hn.2))
            have HW7 := Lib.hid (HW2.out.trans g7)
            have HA7 := Lib.hid h7
            clear h7 g7 hn hm HA2 HST HW2
            by_cases hq : rr = 0
            · subst hq
              have HF : Hid (RBootPost w r c (St.boot x) (.returned (.tuple #[.pointer (some ⟨w1.heap.size, 0, none⟩), .int .i64 0])) w7) := by
                unfold Hid
                rw [HB2.out, if_pos rfl]
                exact ⟨HA7.out, HW7.out, .inl ⟨rfl, _, _, rfl, rfl, HLE.out, HS7.out⟩⟩
              clear HB2 HA7 HW7 HS7
              go_wp2_with fail
              (try simp only [Exit.inBlock, Exit.then])
              go_ret2
              exact HF.out
            · have hz : (rr != 0) = true := by simp [hq]
              have hz2 : (rr == 0) = false := by simp [hq]
              have HF : Hid (RBootPost w r c (St.boot x) (.returned (.tuple #[.pointer none, .int .i64 rr])) w7) := by
                unfold Hid
                rw [HB2.out, if_neg hq]
                exact ⟨HA7.out, HW7.out, .inr ⟨hq, rfl, rfl⟩⟩
              clear HB2 HA7 HW7 HS7
              go_wp2_with fail
              (try simp only [Exit.inBlock, Exit.then])
              go_ret2
              exact HF.out
theorem rboot_any (w : World) (r c : Nat) (x : Fl) (h : RAt w r c x) : Calls Try.prog 58 #[.pointer (some ⟨r, 0, none⟩)] w (RBootPost w r c (St.boot x)) := by
  cases ho : x.off with
  | true => exact rboot_off w r c x h ho
  | false => exact rboot_on w r c x h ho
end Go.Proofs.Ytngmnceahhlpkaa
