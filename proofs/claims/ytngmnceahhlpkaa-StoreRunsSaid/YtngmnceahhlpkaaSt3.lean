/- What a store reads in a sector: each. Conditions: the store lies in memory, the sector has 4096 bytes. -/
import Derived.Test.YtngmnceahhlpkaaSt2
namespace Go.Proofs.Ytngmnceahhlpkaa
open Go.RowKit
theorem or16 (x y : Nat) (hx : x < 256) (hy : y < 256) : bits .or .i64 (x : Int) ((y : Int) * 256) = (x : Int) + 256 * (y : Int) := by
  have h0 : (BitVec.ofInt IntKind.i64.bits (x : Int) ||| BitVec.ofInt IntKind.i64.bits ((y : Int) * 256)).toNat = x + 256 * y := by
    show (BitVec.ofInt 64 (x : Int) ||| BitVec.ofInt 64 ((y : Int) * 256)).toNat = _
    rw [BitVec.toNat_or]
    have e1 : (BitVec.ofInt 64 (x : Int)).toNat = x := by
      rw [BitVec.toNat_ofInt]
      omega
    have e2 : (BitVec.ofInt 64 ((y : Int) * 256)).toNat = y <<< 8 := by
      rw [BitVec.toNat_ofInt, Nat.shiftLeft_eq]
      omega
    rw [e1, e2, Nat.or_comm, ← Nat.shiftLeft_add_eq_or_of_lt (show x < 2 ^ 8 by omega), Nat.shiftLeft_eq]
    omega
  unfold bits
  simp only [h0]
  rw [IntKind.wrap_i64]
  omega
theorem lastOf_le (l : List Nat) : ∀ n, St.lastOf l n ≤ n
  | 0 => Nat.le_refl _
  | n + 1 => by
    unfold St.lastOf
    split
    · exact Nat.le_succ_of_le (lastOf_le l n)
    · exact Nat.le_refl _
theorem extract_text (s : ByteArray) (p n : Nat) (_ : p + n ≤ s.size) : s.extract p (p + n) = str (((bytes s).drop p).take n) := by
  apply bytes_inj
  rw [bytes_str _ (fun x hx => bytes_byte s x (List.mem_of_mem_drop (List.mem_of_mem_take hx)))]
  unfold bytes
  have e : (s.extract p (p + n)).data.toList = (s.data.toList.drop p).take n := by
    rw [Lib.extract_data]
    simp
  rw [e, List.map_take, List.map_drop]
def EachPost (w : World) (sb fb : Nat) (s : St) (l : List Nat) (e : Ending) (w' : World) : Prop :=
  e = .returned (.tuple #[.int .i64 ((St.scan l (St.lastOf l l.length) l.length 1 s.k).2.1 : Int), .bool (St.scan l (St.lastOf l l.length) l.length 1 s.k).2.2]) ∧
    StAt w' sb fb { s with k := (St.scan l (St.lastOf l l.length) l.length 1 s.k).1 } ∧ w.grownBy w' (some sb)
theorem scan_step (l : List Nat) (last n p : Nat) (k : Kept) (h : p < last) : St.scan l last (n + 1) p k = if St.recOk l p then St.scan l last n (p + St.lenAt l p + 4) (St.keep k (l.getD p 0) (St.textAt l p)) else (k, p, false) := by
  show (if p < last then _ else _) = _
  rw [if_pos h]
theorem scan_end (l : List Nat) (last n p : Nat) (k : Kept) (h : ¬ p < last) : St.scan l last n p k = (k, p, true) := by
  cases n with
  | zero => rfl
  | succ n =>
    show (if p < last then _ else _) = _
    rw [if_neg h]
theorem lastOf_more (l : List Nat) (n : Nat) (h1 : 1 < n + 1) (h2 : l.getD n 0 = 255) : St.lastOf l (n + 1) = St.lastOf l n := by
  show (if _ then _ else _) = _
  rw [if_pos ⟨h1, h2⟩]
theorem lastOf_stop (l : List Nat) (n : Nat) (h : ¬ (1 < n ∧ l.getD (n - 1) 0 = 255)) : St.lastOf l n = n := by
  cases n with
  | zero => rfl
  | succ n =>
    show (if _ then _ else _) = _
    rw [if_neg (show ¬ (1 < n + 1 ∧ l.getD n 0 = 255) from h)]
/-- Behind the first loop of each. -/
def Each1 (l : List Nat) (w : World) (v : Value) (wx : World) : Prop := v = .int .i64 (St.lastOf l l.length : Int) ∧ wx = w
set_option maxRecDepth 100000 in
set_option maxHeartbeats 1600000 in
theorem each_any (w : World) (vb sb fb : Nat) (s : St) (sec : ByteArray) (h : StAt w sb fb s) (hv : VarAt w vb sb) (hne : vb ≠ sb) (hs : sec.size = 4096) :
    Calls Try.prog 53 #[.string sec, .func (.func 54) #[] #[.pointer (some ⟨vb, 0, none⟩)]] w (EachPost w sb fb s (bytes sec)) := by
  have H := Lib.hid h
  have HV := Lib.hid hv
  have hsl : Hid ((bytes sec).length = 4096) := by unfold Hid; rw [bytes_length, hs]
  have HBY := Lib.hid (bytes_byte sec)
  clear h hv
  go_enter Try.func53, Try.ntmps53
  go_upto_block 0 with fail
  go_cut [6] from 11 to 21 (Each1 (bytes sec) w)
  case first =>
    go_wp2_with fail
    go_loopg [6] 4096 (fun gh v wr => ∃ n : Nat, n ≤ 4096 ∧ gh = n ∧ v = .int .i64 n ∧ wr = w ∧ Hid (St.lastOf (bytes sec) 4096 = St.lastOf (bytes sec) n))
    case atStart => exact ⟨4096, Nat.le_refl _, rfl, rfl, rfl, rfl⟩
    case round =>
      obtain ⟨n, hn, hg, rfl, rfl, HL⟩ := hrel
      have HG := Lib.hid hg
      clear hg
      by_cases h1 : 1 < n
      · have hk : n - 1 < sec.size := by omega
        have hgd := bytes_get sec (n - 1) hk
        by_cases h255 : (bytes sec).getD (n - 1) 0 = 255
        · have hb : ((sec[n - 1].toNat : Int) == 255) = true := by rw [← hgd, h255]; rfl
          have HL2 : Hid (St.lastOf (bytes sec) 4096 = St.lastOf (bytes sec) (n - 1)) := by
            unfold Hid
            rw [HL.out]
            obtain ⟨m, rfl⟩ : ∃ m, n = m + 1 := ⟨n - 1, by omega⟩
            exact lastOf_more _ m h1 h255
          have hn1 : (1 : Int) < (n : Int) := by omega
          clear hgd h255 HL
          go_wp2_with fail
          go_roundg (n - 1)
          case measure => have := HG.out; omega
          case rel => exact ⟨n - 1, by omega, rfl, by go_num, rfl, HL2⟩
        · have hb : ((sec[n - 1].toNat : Int) == 255) = false := by rw [← hgd, beq_eq_false_iff_ne]; omega
          have HL2 : Hid (St.lastOf (bytes sec) (bytes sec).length = n) := by
            unfold Hid
            rw [hsl.out, HL.out]
            exact lastOf_stop _ _ (fun h => h255 h.2)
          clear hgd h255 HL
          go_wp2_with fail
          go_meet
          case rel => exact ⟨by rw [HL2.out], rfl⟩
      · have HL2 : Hid (St.lastOf (bytes sec) (bytes sec).length = n) := by
          unfold Hid
          rw [hsl.out, HL.out]
          exact lastOf_stop _ _ (fun h => h1 h.1)
        clear HL
        go_wp2_with fail
        go_meet
        case rel => exact ⟨by rw [HL2.out], rfl⟩
  case rest =>
    obtain ⟨rfl, rfl⟩ := hcut
    have HSZ := Lib.hid hs
    have HLE : St.lastOf (bytes sec) (bytes sec).length ≤ 4096 := by
      have := lastOf_le (bytes sec) (bytes sec).length
      rw [hsl.out] at this
      rw [hsl.out]
      exact this
    have HPO : Hid (∀ k p c, St.scan (bytes sec) (St.lastOf (bytes sec) (bytes sec).length) (bytes sec).length 1 s.k = (k, p, c) → ∀ w', StAt w' sb fb { s with k := k } → wc.grownBy w' (some sb) → EachPost wc sb fb s (bytes sec) (.returned (.tuple #[.int .i64 (p : Int), .bool c])) w') := by
      intro k p c hk w' h1 h2
      unfold EachPost
      rw [hk]
      exact ⟨rfl, h1, h2⟩
    rw [hsl.out] at HPO HLE ⊢
    generalize St.lastOf (bytes sec) 4096 = last at *
    go_wp2_with fail
    go_loopg [7] 4095 (fun gh v wr => ∃ (p n : Nat) (k : Kept), v = .int .i64 p ∧ gh = 4096 - p ∧ 1 ≤ p ∧ p ≤ 4096 ∧ Hid (4096 - p < n) ∧ Hid (St.scan (bytes sec) last n p k = St.scan (bytes sec) last 4096 1 s.k) ∧ Hid (StAt wr sb fb { s with k := k }) ∧ Hid (wc.grownBy wr (some sb)))
    case atStart => exact ⟨1, 4096, s.k, rfl, rfl, Nat.le_refl _, by omega, by unfold Hid; omega, rfl, H.out, grown_refl wc _⟩
    case round =>
      obtain ⟨p, n, k, rfl, hg, hp1, hp2, HN, HSC, HST, HGR⟩ := hrel
      have HG := Lib.hid hg
      clear hg H
      by_cases hlt : p < last
      · obtain ⟨m, hm⟩ : ∃ m, n = m + 1 := ⟨n - 1, by have := HN.out; omega⟩
        subst hm
        have HS1 := Lib.hid (scan_step (bytes sec) last m p k hlt)
        have HRK : Hid (St.recOk (bytes sec) p = (decide (p + 4 ≤ (bytes sec).length) && decide ((bytes sec).getD p 0 < 3) && decide (St.lenAt (bytes sec) p ≤ 2000) && decide (p + St.lenAt (bytes sec) p + 4 ≤ (bytes sec).length) && decide ((bytes sec).getD (p + St.lenAt (bytes sec) p + 3) 0 = 0))) := rfl
        have HBAD : Hid (St.recOk (bytes sec) p = false → EachPost wc sb fb s (bytes sec) (.returned (.tuple #[.int .i64 (p : Int), .bool false])) wr) := fun hr => by
          refine HPO.out k p false ?_ wr HST.out HGR.out
          rw [← HSC.out, HS1.out, hr]
          rfl
        have hz0 : 0 ≤ (p : Int) := by omega
        by_cases h4 : p + 4 ≤ sec.size
        · have hk0 : p < sec.size := by omega
          have hk1 : p + 1 < sec.size := by omega
          have hk2 : p + 2 < sec.size := by omega
          have hi4 : ¬ (sec.size : Int) < (p : Int) + 4 := by omega
          have HG0 := Lib.hid (bytes_get sec p hk0)
          have HG1 := Lib.hid (bytes_get sec (p + 1) hk1)
          have HG2 := Lib.hid (bytes_get sec (p + 2) hk2)
          have HLN : Hid (St.lenAt (bytes sec) p = (bytes sec).getD (p + 1) 0 + 256 * (bytes sec).getD (p + 2) 0) := rfl
          have HBD : Hid (∀ i, (bytes sec).getD i 0 < 256) := Fl.getD_lt (bytes_byte sec)
          have hc0b : ((bytes sec).getD p 0 : Int) ≤ 255 := by have := HBD.out p; omega
          have hc1b : ((bytes sec).getD (p + 1) 0 : Int) ≤ 255 := by have := HBD.out (p + 1); omega
          have hc2b : ((bytes sec).getD (p + 2) 0 : Int) ≤ 255 := by have := HBD.out (p + 2); omega
          obtain ⟨c0, hc0⟩ : ∃ c, (bytes sec).getD p 0 = c := ⟨_, rfl⟩
          obtain ⟨c1, hc1⟩ : ∃ c, (bytes sec).getD (p + 1) 0 = c := ⟨_, rfl⟩
          obtain ⟨c2, hc2⟩ : ∃ c, (bytes sec).getD (p + 2) 0 = c := ⟨_, rfl⟩
          rw [hc0] at HG0 hc0b
          rw [hc1] at HG1 HLN hc1b
          rw [hc2] at HG2 HLN hc2b
          have hs0 : sec[p].toNat = c0 := HG0.out.symm
          have hs1 : sec[p + 1].toNat = c1 := HG1.out.symm
          have hs2 : sec[p + 2].toNat = c2 := HG2.out.symm
          have HC0 := Lib.hid hc0
          have HC1 := Lib.hid hc1
          have HC2 := Lib.hid hc2
          have HSQ := Lib.hid hs
          clear hc0 hc1 hc2 HG0 HG1 HG2 hs
          by_cases h3 : c0 < 3
          · have hi3 : ¬ (3 : Int) ≤ (c0 : Int) := by omega
            have hor : bits .or .i64 (c1 : Int) ((c2 : Int) * 256) = (c1 : Int) + 256 * (c2 : Int) := or16 c1 c2 (by omega) (by omega)
            obtain ⟨n, hn⟩ : ∃ n : Nat, c1 + 256 * c2 = n := ⟨_, rfl⟩
            have hni : (c1 : Int) + 256 * (c2 : Int) = (n : Int) := by omega
            rw [hni] at hor
            rw [hn] at HLN
            have HNN := Lib.hid hni
            clear hn hni
            have hn64 : (n : Int) ≤ 65535 := by have := HNN.out; omega
            have hi1 : (p : Int) + 1 < (sec.size : Int) := by omega
            have hi2 : (p : Int) + 2 < (sec.size : Int) := by omega
            have hy1 : 0 ≤ (p : Int) + 1 := by omega
            have hy2 : 0 ≤ (p : Int) + 2 := by omega
            have ht1 : ((p : Int) + 1).toNat = p + 1 := by omega
            have ht2 : ((p : Int) + 2).toNat = p + 2 := by omega
            have hz3 : 0 ≤ (p : Int) + (n : Int) + 3 := by omega
            have ht3 : ((p : Int) + (n : Int) + 3).toNat = p + n + 3 := by omega
            by_cases h20 : n ≤ 2000
            · have hj20 : ¬ (2000 : Int) < (n : Int) := by omega
              by_cases hfit : p + n + 4 ≤ sec.size
              · have hjf : ¬ (sec.size : Int) < (p : Int) + (n : Int) + 4 := by omega
                have hk3 : p + n + 3 < sec.size := by omega
                have hi5 : (p : Int) + (n : Int) + 3 < (sec.size : Int) := by omega
                have HG3 := Lib.hid (bytes_get sec (p + n + 3) hk3)
                by_cases hend : (bytes sec).getD (p + n + 3) 0 = 0
                · have hs3 : sec[p + n + 3].toNat = 0 := by rw [← HG3.out, hend]
                  clear HG3
                  have HTX : Hid (sec.extract (p + 3) (p + 3 + n) = St.textAt (bytes sec) p) := by
                    unfold Hid
                    rw [extract_text sec (p + 3) n (by omega)]
                    unfold St.textAt
                    rw [HLN.out]
                  have HTS : Hid ((sec.extract (p + 3) (p + 3 + n)).size ≤ 2000) := by
                    unfold Hid
                    simp only [ByteArray.size_extract]
                    omega
                  have HVR : Hid (VarAt wr vb sb) := by
                    unfold Hid VarAt
                    rw [HGR.out.block vb (lt_of_at HV.out) (by intro hh; exact hne (Option.some.inj hh))]
                    exact HV.out
                  have HFA : Hid (∀ (W : World) (t : ByteArray), W.heap = wr.heap → t = sec.extract (p + 3) (p + 3 + n) → Calls Try.prog 54 #[.int .i64 (c0 : Int), .string t, .pointer (some ⟨vb, 0, none⟩)] W (FoundPost W sb fb { s with k := k } c0 (sec.extract (p + 3) (p + 3 + n)))) := fun W t hW ht => by subst ht; exact found_any W vb sb fb _ c0 _ (HST.out.kept (by rw [hW])) (by unfold VarAt; rw [hW]; exact HVR.out) h3 HTS.out
                  have HOKR : Hid (St.recOk (bytes sec) p = true) := by
                    unfold Hid
                    rw [HRK.out, hsl.out, HC0.out, HLN.out, decide_eq_true (show p + 4 ≤ 4096 by have := HSQ.out; omega), decide_eq_true h3, decide_eq_true h20, decide_eq_true (show p + n + 4 ≤ 4096 by have := HSQ.out; omega), decide_eq_true hend]
                    rfl
                  have HNX : Hid (St.scan (bytes sec) last m (p + n + 4) (St.keep k c0 (sec.extract (p + 3) (p + 3 + n))) = St.scan (bytes sec) last 4096 1 s.k) := by
                    unfold Hid
                    rw [← HSC.out, HS1.out, HOKR.out, HTX.out, HLN.out, HC0.out]
                    rfl
                  have hl1 : (p : Int) + 3 ≤ (p : Int) + 3 + (n : Int) := by omega
                  have hl2 : (p : Int) + 3 + (n : Int) ≤ (sec.size : Int) := by omega
                  have hl0 : 0 ≤ (p : Int) + 3 := by omega
                  have hl4 : 0 ≤ (p : Int) + 3 + (n : Int) := by omega
                  have ht5 : ((p : Int) + 3).toNat = p + 3 := by omega
                  have ht6 : ((p : Int) + 3 + (n : Int)).toNat = p + 3 + n := by omega
                  have hw0 : IntKind.i64.wrap (c0 : Int) = (c0 : Int) := by rw [IntKind.wrap_i64]; omega
                  have hw1 : IntKind.i64.wrap ((p : Int) + 3) = (p : Int) + 3 := by rw [IntKind.wrap_i64]; omega
                  have hw2 : IntKind.i64.wrap ((p : Int) + 3 + (n : Int)) = (p : Int) + 3 + (n : Int) := by rw [IntKind.wrap_i64]; omega
                  go_wp2_with fail
                  go_region
                  go_wp2_with fail
                  go_region_with (first | (go_at_call 54; (try rw [hw0]); refine (HFA.out _ _ (show World.heap wr.drew.drew = wr.heap from rfl) rfl).mono ?_; rintro e w3 ⟨rfl, HS3, HG3⟩) | (rw [hw1, hw2, if_pos ⟨hl4, hl2⟩, if_pos ⟨hl0, hl1⟩]))
                  all_goals
                    have HA4 : Hid (StAt w3 sb fb { s with k := St.keep k c0 (sec.extract (p + 3) (p + 3 + n)) }) := HS3
                    have HG4 : Hid (wc.grownBy w3 (some sb)) := grown_trans HGR.out ⟨HG3.os, HG3.tape, HG3.output, HG3.size, HG3.block⟩
                    clear HS3 HG3
                    go_wp2_with fail
                    go_roundg (4096 - (p + n + 4))
                    case measure => have := HG.out; omega
                    case rel => exact ⟨p + n + 4, m, _, by go_num, rfl, by omega, by have := HSQ.out; omega, by have := HN.out; unfold Hid; omega, HNX.out, HA4.out, HG4.out⟩
                · have hs3 : ((sec[p + n + 3].toNat : Int) == 0) = false := by
                    rw [← HG3.out, beq_eq_false_iff_ne]
                    omega
                  have hs3' : ((sec[p + n + 3].toNat : Int) != 0) = true := by
                    show (!((sec[p + n + 3].toNat : Int) == 0)) = true
                    rw [hs3]
                    rfl
                  have HF := Lib.hid (HBAD.out (by rw [HRK.out, HLN.out, decide_eq_false hend]; simp))
                  clear HG3 HBAD HRK HS1
                  go_wp2_with fail
                  go_region
                  go_wp2_with fail
                  (try simp only [Exit.inBlock, Exit.then])
                  go_ret2
                  exact ⟨HF.out.1, HF.out.2.1.kept rfl, grown_drew HF.out.2.2⟩
              · have hjf : (sec.size : Int) < (p : Int) + (n : Int) + 4 := by omega
                have HF := Lib.hid (HBAD.out (by rw [HRK.out, HLN.out, hsl.out, decide_eq_false (show ¬ p + n + 4 ≤ 4096 by rw [← HSQ.out]; exact hfit)]; simp))
                clear HBAD HRK HS1
                go_wp2_with fail
                go_region
                go_wp2_with fail
                (try simp only [Exit.inBlock, Exit.then])
                go_ret2
                exact ⟨HF.out.1, HF.out.2.1.kept rfl, grown_drew HF.out.2.2⟩
            · have hj20 : (2000 : Int) < (n : Int) := by omega
              have HF := Lib.hid (HBAD.out (by rw [HRK.out, HLN.out, decide_eq_false h20]; simp))
              clear HBAD HRK HS1
              go_wp2_with fail
              go_region
              go_wp2_with fail
              (try simp only [Exit.inBlock, Exit.then])
              go_ret2
              exact ⟨HF.out.1, HF.out.2.1.kept rfl, grown_drew HF.out.2.2⟩
          · have hi3 : (3 : Int) ≤ (c0 : Int) := by omega
            have HF := Lib.hid (HBAD.out (by rw [HRK.out, HC0.out, decide_eq_false h3]; simp))
            clear HBAD HRK HS1
            go_wp2_with fail
            (try simp only [Exit.inBlock, Exit.then])
            go_ret2
            exact HF.out
        · have hi4 : (sec.size : Int) < (p : Int) + 4 := by omega
          have HSQ := Lib.hid hs
          clear hs
          have HF := Lib.hid (HBAD.out (by rw [HRK.out, hsl.out, decide_eq_false (by rw [← HSQ.out]; exact h4)]; rfl))
          clear HBAD HRK HS1
          go_wp2_with fail
          (try simp only [Exit.inBlock, Exit.then])
          go_ret2
          exact HF.out
      · have HF : Hid (EachPost wc sb fb s (bytes sec) (.returned (.tuple #[.int .i64 (p : Int), .bool true])) wr) := by
          refine HPO.out k p true ?_ wr HST.out HGR.out
          rw [← HSC.out]
          exact scan_end _ _ _ _ _ hlt
        go_wp2_with fail
        (try simp only [Exit.inBlock, Exit.then])
        go_ret2
        exact HF.out
end Go.Proofs.Ytngmnceahhlpkaa
