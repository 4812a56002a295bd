/- What the document's Read answers: a sector's records. Conditions: the sector has 4096 bytes. -/
import Derived.Test.YtngmnceahhlpkaaStR2
namespace Go.Proofs.Ytngmnceahhlpkaa
open Go.RowKit
def RReadPost (w : World) (l : List Nat) (e : Ending) (w' : World) : Prop := e = .returned (rkV (St.read l).1 (St.read l).2.1 (!(St.read l).2.2)) ∧ Below w.heap.size w w'
/-- The block of the result and that of what was read so far. -/
structure RK (w W : World) (a b : Nat) (cs : Array Value) : Prop where
  bel : Below w.heap.size w W
  za : W.heap[a]? = some (.cells (rkC St.none_ 0 false) 122)
  zb : W.heap[b]? = some (.cells cs 122)
  na : w.heap.size ≤ a
  nb : w.heap.size ≤ b
  ne : a ≠ b
theorem RK.set {w W : World} {a b : Nat} {cs : Array Value} (h : RK w W a b cs) (i : Nat) (v : Value) : RK w (W.setCell ⟨b, i, none⟩ v) a b (cs.setIfInBounds i v) :=
  ⟨h.bel.setCell h.nb v, (heap_setCell_ne h.ne i v).trans h.za, heap_setCell_at h.zb i v, h.na, h.nb, h.ne⟩
theorem RK.drew {w W : World} {a b : Nat} {cs : Array Value} (h : RK w W a b cs) : RK w W.drew a b cs := ⟨h.bel.drew, h.za, h.zb, h.na, h.nb, h.ne⟩
theorem RK.to {w W : World} {a b : Nat} {cs cs' : Array Value} (h : RK w W a b cs) (e : cs = cs') : RK w W a b cs' := e ▸ h
theorem rk_put (k : Kept) (p p' i : Nat) (hi : i < 3) (t : ByteArray) : (((rkC k p false).setIfInBounds i (.bool true)).setIfInBounds (3 + i) (.string t)).setIfInBounds 6 (.int .i64 (p' : Int)) = rkC (St.keep k i t) p' false := by
  have hc : i = 0 ∨ i = 1 ∨ i = 2 := by omega
  rcases hc with rfl | rfl | rfl
  · simp [rkC, keep_is, keep_txt]
  · simp [rkC, keep_is, keep_txt]
  · simp [rkC, keep_is, keep_txt]
theorem rk_dirty (k : Kept) (p : Nat) : (rkC k p false).setIfInBounds 7 (.bool true) = rkC k p true := by simp [rkC]
set_option maxRecDepth 100000 in
set_option maxHeartbeats 2000000 in
theorem rRead_any (w : World) (sec : ByteArray) (hs : sec.size = 4096) : Calls Try.prog 67 #[.string sec] w (RReadPost w (bytes sec)) := by
  have hsl : Hid ((bytes sec).length = 4096) := by unfold Hid; rw [bytes_length, hs]
  have HBY := Lib.hid (bytes_byte sec)
  have HOUT : Hid (∀ k p c, St.read (bytes sec) = (k, p, c) → ∀ w', Below w.heap.size w w' → RReadPost w (bytes sec) (.returned (.agg #[.bool (St.is (k 0)), .bool (St.is (k 1)), .bool (St.is (k 2)), .string (St.txt (k 0)), .string (St.txt (k 1)), .string (St.txt (k 2)), .int .i64 (p : Int), .bool (!c)])) w') := by
    intro k p c h w' hb
    unfold RReadPost
    rw [h]
    exact ⟨rfl, hb⟩
  have hres : Try.f67.results = #[.cell 2 122] := by kernel_rfl
  have HK0 : Hid (RK w ((w.alloc (.cells (rkC St.none_ 0 false) 122)).alloc (.cells (rkC St.none_ 1 false) 122)) w.heap.size (w.heap.size + 1) (rkC St.none_ 1 false)) := by
    have h2 := heap_alloc_new (w.alloc (.cells (rkC St.none_ 0 false) 122)) (.cells (rkC St.none_ 1 false) 122)
    rw [show (w.alloc (.cells (rkC St.none_ 0 false) 122)).heap.size = w.heap.size + 1 by simp] at h2
    exact ⟨below_next (below_alloc1 w _) (below_alloc1 _ _), ((below_alloc1 (w.alloc (.cells (rkC St.none_ 0 false) 122)) _).block _ (by simp)).trans (heap_alloc_new w _), h2, Nat.le_refl _, Nat.le_succ _, by omega⟩
  have e1 : rkC St.none_ 0 false = #[.bool false, .bool false, .bool false, .string { data := #[] }, .string { data := #[] }, .string { data := #[] }, .int .i64 0, .bool false] := rfl
  have e2 : rkC St.none_ 1 false = #[.bool false, .bool false, .bool false, .string { data := #[] }, .string { data := #[] }, .string { data := #[] }, .int .i64 1, .bool false] := rfl
  have HK : Hid (RK w ((w.alloc (.cells #[.bool false, .bool false, .bool false, .string { data := #[] }, .string { data := #[] }, .string { data := #[] }, .int .i64 0, .bool false] 122)).alloc (.cells #[.bool false, .bool false, .bool false, .string { data := #[] }, .string { data := #[] }, .string { data := #[] }, .int .i64 1, .bool false] 122)) w.heap.size (w.heap.size + 1) (rkC St.none_ 1 false)) := HK0
  clear HK0 e1 e2
  obtain ⟨last, hlast⟩ : ∃ x, St.lastOf (bytes sec) (bytes sec).length = x := ⟨_, rfl⟩
  have HLA := Lib.hid hlast
  have HSC0 : Hid (St.read (bytes sec) = St.scan (bytes sec) last 4096 1 St.none_) := by
    unfold Hid St.read
    rw [hlast, hsl.out]
  have hll : last ≤ 4096 := by
    have := lastOf_le (bytes sec) (bytes sec).length
    rw [hlast, hsl.out] at this
    exact this
  clear hlast
  go_enter Try.func67, Try.ntmps67
  go_wp2_with fail
  generalize ((w.alloc (.cells #[.bool false, .bool false, .bool false, .string { data := #[] }, .string { data := #[] }, .string { data := #[] }, .int .i64 0, .bool false] 122)).alloc (.cells #[.bool false, .bool false, .bool false, .string { data := #[] }, .string { data := #[] }, .string { data := #[] }, .int .i64 1, .bool false] 122)) = w1 at *
  obtain ⟨ra, hra⟩ : ∃ x, w.heap.size = x := ⟨_, rfl⟩
  obtain ⟨kb, hkb⟩ : ∃ x, w.heap.size + 1 = x := ⟨_, rfl⟩
  rw [hkb] at HK ⊢
  have HK1 : Hid (RK w w1 ra kb (rkC St.none_ 1 false)) := by unfold Hid; rw [← hra]; exact HK.out
  rw [hra]
  clear HK hra hkb
  go_loopg [] 4096 (fun gh wr => ∃ (p n : Nat) (k : Kept), gh = 4096 - p + 1 ∧ 1 ≤ p ∧ p ≤ 4096 ∧ Hid (4096 - p < n) ∧ Hid (St.read (bytes sec) = St.scan (bytes sec) last n p k) ∧ Hid (RK w wr ra kb (rkC k p false)))
  case atStart => exact ⟨1, 4096, St.none_, rfl, Nat.le_refl _, by omega, by unfold Hid; omega, HSC0, HK1⟩
  case round =>
    clear HK1 HSC0
    obtain ⟨p, n, k, hg, hp1, hp2, HN, HSC, HKR⟩ := hrel
    have HG := Lib.hid hg
    clear hg
    have c6 : wr.cell? ⟨kb, 6, none⟩ = some (.int .i64 (p : Int)) := cell_at HKR.out.zb 6
    by_cases hlt : p < last
    · have HBL : Hid (∀ W, Calls Try.prog 73 #[.string sec, .int .i64 (p : Int)] W fun e w' => e = .returned (.bool false) ∧ W = w') := fun W =>
        blank_any W sec p hs hp2 false ⟨fun h => (by cases h), fun h => by
          exfalso
          have h2 := lastOf_upto (bytes sec) p hp1 4096 h
          have h3 := HLA.out
          rw [hsl.out] at h3
          omega⟩
      obtain ⟨m, hm⟩ : ∃ m, n = m + 1 := ⟨n - 1, by have := HN.out; omega⟩
      subst hm
      have HS1 := Lib.hid (scan_step (bytes sec) last m p k hlt)
      have HDIRTY : Hid (St.recOk (bytes sec) p = false → St.read (bytes sec) = (k, p, false)) := fun hr => by
        rw [HSC.out, HS1.out, hr]
        rfl
      have c7 : wr.cell? ⟨kb, 7, none⟩ = some (.bool false) := cell_at HKR.out.zb 7
      have y7 := free_at HKR.out.zb 7
      by_cases h4 : p + 4 ≤ sec.size
      · have hk0 : p < sec.size := by omega
        have hk1 : p + 1 < sec.size := by omega
        have hk2 : p + 2 < sec.size := by omega
        have hi4 : ¬ (sec.size : Int) < (p : Int) + 4 := by omega
        have hi0 : (p : Int) < (sec.size : Int) := by omega
        have hz0 : 0 ≤ (p : Int) := by omega
        have HG0 := Lib.hid (bytes_get sec p hk0)
        have HG1 := Lib.hid (bytes_get sec (p + 1) hk1)
        have HG2 := Lib.hid (bytes_get sec (p + 2) hk2)
        have HLN : Hid (St.lenAt (bytes sec) p = (bytes sec).getD (p + 1) 0 + 256 * (bytes sec).getD (p + 2) 0) := rfl
        have HBD : Hid (∀ i, (bytes sec).getD i 0 < 256) := Fl.getD_lt (bytes_byte sec)
        have hc0b : ((bytes sec).getD p 0 : Int) ≤ 255 := by have := HBD.out p; omega
        have hc1b : ((bytes sec).getD (p + 1) 0 : Int) ≤ 255 := by have := HBD.out (p + 1); omega
        have hc2b : ((bytes sec).getD (p + 2) 0 : Int) ≤ 255 := by have := HBD.out (p + 2); omega
        obtain ⟨c0, hc0⟩ : ∃ c, (bytes sec).getD p 0 = c := ⟨_, rfl⟩
        obtain ⟨c1, hc1⟩ : ∃ c, (bytes sec).getD (p + 1) 0 = c := ⟨_, rfl⟩
        obtain ⟨c2, hc2⟩ : ∃ c, (bytes sec).getD (p + 2) 0 = c := ⟨_, rfl⟩
        rw [hc0] at HG0 hc0b
        rw [hc1] at HG1 HLN hc1b
        rw [hc2] at HG2 HLN hc2b
        have hs0 : sec[p].toNat = c0 := HG0.out.symm
        have hs1 : sec[p + 1].toNat = c1 := HG1.out.symm
        have hs2 : sec[p + 2].toNat = c2 := HG2.out.symm
        have HC0 := Lib.hid hc0
        have HRK : Hid (St.recOk (bytes sec) p = (decide (p + 4 ≤ 4096) && decide (c0 < 3) && decide (St.lenAt (bytes sec) p ≤ 2000) && decide (p + St.lenAt (bytes sec) p + 4 ≤ 4096) && decide ((bytes sec).getD (p + St.lenAt (bytes sec) p + 3) 0 = 0))) := by
          unfold Hid St.recOk
          rw [hsl.out, hc0]
        have HSQ := Lib.hid hs
        clear hc0 hc1 hc2 HG0 HG1 HG2 hs
        by_cases h3 : c0 < 3
        · have hi3 : ¬ (2 : Int) < (c0 : Int) := by omega
          obtain ⟨q, hq⟩ : ∃ q : Nat, c1 + 256 * c2 = q := ⟨_, rfl⟩
          have HQI : Hid ((c1 : Int) + 256 * (c2 : Int) = (q : Int)) := by unfold Hid; omega
          rw [hq] at HLN
          have hqb : (q : Int) ≤ 65535 := by omega
          clear hq
          have hi1 : (p : Int) + 1 < (sec.size : Int) := by omega
          have hi2 : (p : Int) + 2 < (sec.size : Int) := by omega
          have hy1 : 0 ≤ (p : Int) + 1 := by omega
          have hy2 : 0 ≤ (p : Int) + 2 := by omega
          have ht1 : ((p : Int) + 1).toNat = p + 1 := by omega
          have ht2 : ((p : Int) + 2).toNat = p + 2 := by omega
          go_upto_region 7 with (first | (go_at_call 73; refine (HBL.out _).mono ?_; rintro e w2 ⟨rfl, rfl⟩))
          go_region
          rw [HQI.out]
          have HKR2 := Lib.hid HKR.out.drew
          clear HKR c6 c7 y7
          generalize wr.drew = wq at *
          have c6 : wq.cell? ⟨kb, 6, none⟩ = some (.int .i64 (p : Int)) := cell_at HKR2.out.zb 6
          have c7 : wq.cell? ⟨kb, 7, none⟩ = some (.bool false) := cell_at HKR2.out.zb 7
          have y7 := free_at HKR2.out.zb 7
          by_cases h20 : q ≤ 2000
          · have hj20 : ¬ (2000 : Int) < (q : Int) := by omega
            by_cases hfit : p + q + 4 ≤ 4096
            · have hsz := HSQ.out
              have hjf : ¬ (sec.size : Int) < (p : Int) + 4 + (q : Int) := by omega
              have hk3 : p + q + 3 < sec.size := by omega
              have hi5 : (p : Int) + 3 + (q : Int) < (sec.size : Int) := by omega
              have hz3 : 0 ≤ (p : Int) + 3 + (q : Int) := by omega
              have ht3 : ((p : Int) + 3 + (q : Int)).toNat = p + q + 3 := by omega
              have HG3 := Lib.hid (bytes_get sec (p + q + 3) hk3)
              by_cases hend : (bytes sec).getD (p + q + 3) 0 = 0
              · have hs3 : sec[p + q + 3].toNat = 0 := by rw [← HG3.out, hend]
                clear HG3
                have HTX : Hid (sec.extract (p + 3) (p + 3 + q) = St.textAt (bytes sec) p) := by
                  unfold Hid
                  rw [extract_text sec (p + 3) q (by omega)]
                  unfold St.textAt
                  rw [HLN.out]
                have HOKR : Hid (St.recOk (bytes sec) p = true) := by
                  unfold Hid
                  rw [HRK.out, HLN.out, decide_eq_true (show p + 4 ≤ 4096 by omega), decide_eq_true h3, decide_eq_true h20, decide_eq_true (show p + q + 4 ≤ 4096 by omega), decide_eq_true hend]
                  rfl
                have HNX : Hid (St.read (bytes sec) = St.scan (bytes sec) last m (p + q + 4) (St.keep k c0 (sec.extract (p + 3) (p + 3 + q)))) := by
                  unfold Hid
                  rw [HSC.out, HS1.out, HOKR.out, HTX.out, HLN.out, HC0.out]
                  rfl
                have HPE : ((p + q + 4 : Nat) : Int) = (p : Int) + 4 + (q : Int) := by omega
                have hkn := ((((HKR2.out.set c0 (.bool true)).set (3 + c0) (.string (sec.extract (p + 3) (p + 3 + q)))).set 6 (.int .i64 ((p + q + 4 : Nat) : Int))).to (rk_put k p (p + q + 4) c0 h3 _)).drew
                rw [HPE] at hkn
                have HKN := Lib.hid hkn
                clear hkn HPE
                obtain ⟨x0, x1⟩ := rk_has HKR2.out.zb c0 h3
                have y0 := free_at HKR2.out.zb c0
                have y1 := free_at HKR2.out.zb (3 + c0)
                have y6 := free_at HKR2.out.zb 6
                have h3i : (c0 : Int) < 3 := by omega
                have h3g : (0 : Int) ≤ (c0 : Int) := by omega
                have h3t : ((c0 : Int)).toNat = c0 := Int.toNat_natCast c0
                have hl0 : 0 ≤ (p : Int) + 3 := by omega
                have hl1 : (p : Int) + 3 ≤ (p : Int) + 3 + (q : Int) := by omega
                have hl2 : (p : Int) + 3 + (q : Int) ≤ (sec.size : Int) := by omega
                have ht5 : ((p : Int) + 3).toNat = p + 3 := by omega
                have hsl3 : ∀ W : World, (Instr.sliceAt 9 (.string sec) (some (.int .i64 ((p : Int) + 3))) (some (.int .i64 ((p : Int) + 3 + (q : Int)))) none).run Try.prog W = .ok (.string (sec.extract (p + 3) (p + 3 + q))) W := by
                  intro W
                  rw [run_sliceAt_string W 9 _ _ _ _ Try.underlying9, run_slice_string W 9 sec .i64 .i64 _ _ Try.underlying9 hl0 hl1 hl2, ht5, show ((p : Int) + 3 + (q : Int)).toNat = p + 3 + q by omega]
                have HFI : Hid (p + q + 4 ≤ 4096) := hfit
                have HK11 := Lib.hid (HKR2.out.set c0 (.bool true))
                clear HDIRTY HS1 HSC HRK HOKR HTX HKR2 h20 hfit hend hsz
                go_upto_region 12 with fail
                have x1' : (wq.setCell ⟨kb, c0, none⟩ (.bool true)).cell? ⟨kb, 3 + c0, none⟩ = some (.string (St.txt (k c0))) := (cell_set_ne wq kb c0 (3 + c0) (by omega) _).trans x1
                have y1' := free_at HK11.out.zb (3 + c0)
                have x6' := (cell_set_ne wq kb c0 6 (by omega) (.bool true)).trans c6
                have y6' := free_at HK11.out.zb 6
                have hc3 : ¬ 3 + c0 = 6 := by omega
                have hc6 : ¬ (6 : Nat) = 3 + c0 := by omega
                clear x0 x1 y0 y1 y6 c6 c7 y7 HK11
                generalize (wq.setCell ⟨kb, c0, none⟩ (.bool true)) = w11 at *
                have hl4 : 0 ≤ (p : Int) + 3 + (q : Int) := by omega
                have ht6 : ((p : Int) + 3 + (q : Int)).toNat = p + 3 + q := by omega
                have hw1 : IntKind.i64.wrap ((p : Int) + 3) = (p : Int) + 3 := by rw [IntKind.wrap_i64]; omega
                have hw2 : IntKind.i64.wrap ((p : Int) + 3 + (q : Int)) = (p : Int) + 3 + (q : Int) := by rw [IntKind.wrap_i64]; omega
                clear hsl3 ht3
                go_region_with (first | (rw [hw1, hw2, if_pos ⟨hl4, hl2⟩, if_pos ⟨hl0, hl1⟩]))
                all_goals
                  go_wp2_with fail
                  go_roundg (4096 - (p + q + 4) + 1)
                  case measure => have := HG.out; omega
                  case rel => exact ⟨p + q + 4, m, _, rfl, by omega, HFI.out, by have := HN.out; unfold Hid; omega, HNX, HKN⟩
              · have hs3 : ((sec[p + q + 3].toNat : Int) == 0) = false := by
                  rw [← HG3.out, beq_eq_false_iff_ne]
                  omega
                have hs3' : ((sec[p + q + 3].toNat : Int) != 0) = true := by
                  show (!((sec[p + q + 3].toNat : Int) == 0)) = true
                  rw [hs3]
                  rfl
                have HRD := Lib.hid (HDIRTY.out (by rw [HRK.out, HLN.out, decide_eq_false hend]; simp))
                clear HG3 hend hsz
                have HKD : Hid (RK w (wq.setCell ⟨kb, 7, none⟩ (.bool true)) ra kb (rkC k p true)) := (HKR2.out.set 7 (.bool true)).to (rk_dirty k p)
                clear HDIRTY HS1 HSC HRK HKR2
                go_upto_region 10 with fail
                have hab := HKD.out.ne
                have hba : ¬ kb = ra := fun e => hab e.symm
                generalize (wq.setCell ⟨kb, 7, none⟩ (.bool true)) = wD at *
                have a0 : wD.cell? ⟨kb, 0, none⟩ = some (.bool (St.is (k 0))) := cell_at HKD.out.zb 0
                have a1 : wD.cell? ⟨kb, 1, none⟩ = some (.bool (St.is (k 1))) := cell_at HKD.out.zb 1
                have a2 : wD.cell? ⟨kb, 2, none⟩ = some (.bool (St.is (k 2))) := cell_at HKD.out.zb 2
                have a3 : wD.cell? ⟨kb, 3, none⟩ = some (.string (St.txt (k 0))) := cell_at HKD.out.zb 3
                have a4 : wD.cell? ⟨kb, 4, none⟩ = some (.string (St.txt (k 1))) := cell_at HKD.out.zb 4
                have a5 : wD.cell? ⟨kb, 5, none⟩ = some (.string (St.txt (k 2))) := cell_at HKD.out.zb 5
                have a6 : wD.cell? ⟨kb, 6, none⟩ = some (.int .i64 (p : Int)) := cell_at HKD.out.zb 6
                have a7 : wD.cell? ⟨kb, 7, none⟩ = some (.bool true) := cell_at HKD.out.zb 7
                have z0 : wD.cell? ⟨ra, 0, none⟩ = some (.bool false) := cell_at HKD.out.za 0
                have z1 : wD.cell? ⟨ra, 1, none⟩ = some (.bool false) := cell_at HKD.out.za 1
                have z2 : wD.cell? ⟨ra, 2, none⟩ = some (.bool false) := cell_at HKD.out.za 2
                have z3 : wD.cell? ⟨ra, 3, none⟩ = some (.string { data := #[] }) := cell_at HKD.out.za 3
                have z4 : wD.cell? ⟨ra, 4, none⟩ = some (.string { data := #[] }) := cell_at HKD.out.za 4
                have z5 : wD.cell? ⟨ra, 5, none⟩ = some (.string { data := #[] }) := cell_at HKD.out.za 5
                have z6 : wD.cell? ⟨ra, 6, none⟩ = some (.int .i64 0) := cell_at HKD.out.za 6
                have z7 : wD.cell? ⟨ra, 7, none⟩ = some (.bool false) := cell_at HKD.out.za 7
                have y0 := free_at HKD.out.za 0
                have y1 := free_at HKD.out.za 1
                have y2 := free_at HKD.out.za 2
                have y3 := free_at HKD.out.za 3
                have y4 := free_at HKD.out.za 4
                have y5 := free_at HKD.out.za 5
                have y6 := free_at HKD.out.za 6
                have y7 := free_at HKD.out.za 7
                have HF : Hid (RReadPost w (bytes sec) (.returned (.agg #[.bool (St.is (k 0)), .bool (St.is (k 1)), .bool (St.is (k 2)), .string (St.txt (k 0)), .string (St.txt (k 1)), .string (St.txt (k 2)), .int .i64 (p : Int), .bool true])) ((((((((wD.setCell ⟨ra, 0, none⟩ (.bool (St.is (k 0)))).setCell ⟨ra, 1, none⟩ (.bool (St.is (k 1)))).setCell ⟨ra, 2, none⟩ (.bool (St.is (k 2)))).setCell ⟨ra, 3, none⟩ (.string (St.txt (k 0)))).setCell ⟨ra, 4, none⟩ (.string (St.txt (k 1)))).setCell ⟨ra, 5, none⟩ (.string (St.txt (k 2)))).setCell ⟨ra, 6, none⟩ (.int .i64 (p : Int))).setCell ⟨ra, 7, none⟩ (.bool true))) := HOUT.out k p false HRD.out _ ((((((((HKD.out.bel.setCell HKD.out.na (.bool (St.is (k 0)))).setCell HKD.out.na (.bool (St.is (k 1)))).setCell HKD.out.na (.bool (St.is (k 2)))).setCell HKD.out.na (.string (St.txt (k 0)))).setCell HKD.out.na (.string (St.txt (k 1)))).setCell HKD.out.na (.string (St.txt (k 2)))).setCell HKD.out.na (.int .i64 (p : Int))).setCell HKD.out.na (.bool true))
                clear HKD HOUT HRD
                go_wp2_with fail
                (try simp only [Exit.inBlock, Exit.then])
                refine bodyPost_ret ?_ rfl HF.out
                simp only [results, hres]
                go_simp
            · have hjf : (sec.size : Int) < (p : Int) + 4 + (q : Int) := by have := HSQ.out; omega
              have HRD := Lib.hid (HDIRTY.out (by rw [HRK.out, HLN.out, decide_eq_false hfit]; simp))
              have HKD : Hid (RK w (wq.setCell ⟨kb, 7, none⟩ (.bool true)) ra kb (rkC k p true)) := (HKR2.out.set 7 (.bool true)).to (rk_dirty k p)
              clear HDIRTY HS1 HSC HRK HKR2
              go_upto_region 10 with fail
              have hab := HKD.out.ne
              have hba : ¬ kb = ra := fun e => hab e.symm
              generalize (wq.setCell ⟨kb, 7, none⟩ (.bool true)) = wD at *
              have a0 : wD.cell? ⟨kb, 0, none⟩ = some (.bool (St.is (k 0))) := cell_at HKD.out.zb 0
              have a1 : wD.cell? ⟨kb, 1, none⟩ = some (.bool (St.is (k 1))) := cell_at HKD.out.zb 1
              have a2 : wD.cell? ⟨kb, 2, none⟩ = some (.bool (St.is (k 2))) := cell_at HKD.out.zb 2
              have a3 : wD.cell? ⟨kb, 3, none⟩ = some (.string (St.txt (k 0))) := cell_at HKD.out.zb 3
              have a4 : wD.cell? ⟨kb, 4, none⟩ = some (.string (St.txt (k 1))) := cell_at HKD.out.zb 4
              have a5 : wD.cell? ⟨kb, 5, none⟩ = some (.string (St.txt (k 2))) := cell_at HKD.out.zb 5
              have a6 : wD.cell? ⟨kb, 6, none⟩ = some (.int .i64 (p : Int)) := cell_at HKD.out.zb 6
              have a7 : wD.cell? ⟨kb, 7, none⟩ = some (.bool true) := cell_at HKD.out.zb 7
              have z0 : wD.cell? ⟨ra, 0, none⟩ = some (.bool false) := cell_at HKD.out.za 0
              have z1 : wD.cell? ⟨ra, 1, none⟩ = some (.bool false) := cell_at HKD.out.za 1
              have z2 : wD.cell? ⟨ra, 2, none⟩ = some (.bool false) := cell_at HKD.out.za 2
              have z3 : wD.cell? ⟨ra, 3, none⟩ = some (.string { data := #[] }) := cell_at HKD.out.za 3
              have z4 : wD.cell? ⟨ra, 4, none⟩ = some (.string { data := #[] }) := cell_at HKD.out.za 4
              have z5 : wD.cell? ⟨ra, 5, none⟩ = some (.string { data := #[] }) := cell_at HKD.out.za 5
              have z6 : wD.cell? ⟨ra, 6, none⟩ = some (.int .i64 0) := cell_at HKD.out.za 6
              have z7 : wD.cell? ⟨ra, 7, none⟩ = some (.bool false) := cell_at HKD.out.za 7
              have y0 := free_at HKD.out.za 0
              have y1 := free_at HKD.out.za 1
              have y2 := free_at HKD.out.za 2
              have y3 := free_at HKD.out.za 3
              have y4 := free_at HKD.out.za 4
              have y5 := free_at HKD.out.za 5
              have y6 := free_at HKD.out.za 6
              have y7 := free_at HKD.out.za 7
              have HF : Hid (RReadPost w (bytes sec) (.returned (.agg #[.bool (St.is (k 0)), .bool (St.is (k 1)), .bool (St.is (k 2)), .string (St.txt (k 0)), .string (St.txt (k 1)), .string (St.txt (k 2)), .int .i64 (p : Int), .bool true])) ((((((((wD.setCell ⟨ra, 0, none⟩ (.bool (St.is (k 0)))).setCell ⟨ra, 1, none⟩ (.bool (St.is (k 1)))).setCell ⟨ra, 2, none⟩ (.bool (St.is (k 2)))).setCell ⟨ra, 3, none⟩ (.string (St.txt (k 0)))).setCell ⟨ra, 4, none⟩ (.string (St.txt (k 1)))).setCell ⟨ra, 5, none⟩ (.string (St.txt (k 2)))).setCell ⟨ra, 6, none⟩ (.int .i64 (p : Int))).setCell ⟨ra, 7, none⟩ (.bool true))) := HOUT.out k p false HRD.out _ ((((((((HKD.out.bel.setCell HKD.out.na (.bool (St.is (k 0)))).setCell HKD.out.na (.bool (St.is (k 1)))).setCell HKD.out.na (.bool (St.is (k 2)))).setCell HKD.out.na (.string (St.txt (k 0)))).setCell HKD.out.na (.string (St.txt (k 1)))).setCell HKD.out.na (.string (St.txt (k 2)))).setCell HKD.out.na (.int .i64 (p : Int))).setCell HKD.out.na (.bool true))
              clear HKD HOUT HRD
              go_wp2_with fail
              (try simp only [Exit.inBlock, Exit.then])
              refine bodyPost_ret ?_ rfl HF.out
              simp only [results, hres]
              go_simp
          · have hj20 : (2000 : Int) < (q : Int) := by omega
            have HRD := Lib.hid (HDIRTY.out (by rw [HRK.out, HLN.out, decide_eq_false h20]; simp))
            have HKD : Hid (RK w (wq.setCell ⟨kb, 7, none⟩ (.bool true)) ra kb (rkC k p true)) := (HKR2.out.set 7 (.bool true)).to (rk_dirty k p)
            clear HDIRTY HS1 HSC HRK HKR2
            go_upto_region 10 with fail
            have hab := HKD.out.ne
            have hba : ¬ kb = ra := fun e => hab e.symm
            generalize (wq.setCell ⟨kb, 7, none⟩ (.bool true)) = wD at *
            have a0 : wD.cell? ⟨kb, 0, none⟩ = some (.bool (St.is (k 0))) := cell_at HKD.out.zb 0
            have a1 : wD.cell? ⟨kb, 1, none⟩ = some (.bool (St.is (k 1))) := cell_at HKD.out.zb 1
            have a2 : wD.cell? ⟨kb, 2, none⟩ = some (.bool (St.is (k 2))) := cell_at HKD.out.zb 2
            have a3 : wD.cell? ⟨kb, 3, none⟩ = some (.string (St.txt (k 0))) := cell_at HKD.out.zb 3
            have a4 : wD.cell? ⟨kb, 4, none⟩ = some (.string (St.txt (k 1))) := cell_at HKD.out.zb 4
            have a5 : wD.cell? ⟨kb, 5, none⟩ = some (.string (St.txt (k 2))) := cell_at HKD.out.zb 5
            have a6 : wD.cell? ⟨kb, 6, none⟩ = some (.int .i64 (p : Int)) := cell_at HKD.out.zb 6
            have a7 : wD.cell? ⟨kb, 7, none⟩ = some (.bool true) := cell_at HKD.out.zb 7
            have z0 : wD.cell? ⟨ra, 0, none⟩ = some (.bool false) := cell_at HKD.out.za 0
            have z1 : wD.cell? ⟨ra, 1, none⟩ = some (.bool false) := cell_at HKD.out.za 1
            have z2 : wD.cell? ⟨ra, 2, none⟩ = some (.bool false) := cell_at HKD.out.za 2
            have z3 : wD.cell? ⟨ra, 3, none⟩ = some (.string { data := #[] }) := cell_at HKD.out.za 3
            have z4 : wD.cell? ⟨ra, 4, none⟩ = some (.string { data := #[] }) := cell_at HKD.out.za 4
            have z5 : wD.cell? ⟨ra, 5, none⟩ = some (.string { data := #[] }) := cell_at HKD.out.za 5
            have z6 : wD.cell? ⟨ra, 6, none⟩ = some (.int .i64 0) := cell_at HKD.out.za 6
            have z7 : wD.cell? ⟨ra, 7, none⟩ = some (.bool false) := cell_at HKD.out.za 7
            have y0 := free_at HKD.out.za 0
            have y1 := free_at HKD.out.za 1
            have y2 := free_at HKD.out.za 2
            have y3 := free_at HKD.out.za 3
            have y4 := free_at HKD.out.za 4
            have y5 := free_at HKD.out.za 5
            have y6 := free_at HKD.out.za 6
            have y7 := free_at HKD.out.za 7
            have HF : Hid (RReadPost w (bytes sec) (.returned (.agg #[.bool (St.is (k 0)), .bool (St.is (k 1)), .bool (St.is (k 2)), .string (St.txt (k 0)), .string (St.txt (k 1)), .string (St.txt (k 2)), .int .i64 (p : Int), .bool true])) ((((((((wD.setCell ⟨ra, 0, none⟩ (.bool (St.is (k 0)))).setCell ⟨ra, 1, none⟩ (.bool (St.is (k 1)))).setCell ⟨ra, 2, none⟩ (.bool (St.is (k 2)))).setCell ⟨ra, 3, none⟩ (.string (St.txt (k 0)))).setCell ⟨ra, 4, none⟩ (.string (St.txt (k 1)))).setCell ⟨ra, 5, none⟩ (.string (St.txt (k 2)))).setCell ⟨ra, 6, none⟩ (.int .i64 (p : Int))).setCell ⟨ra, 7, none⟩ (.bool true))) := HOUT.out k p false HRD.out _ ((((((((HKD.out.bel.setCell HKD.out.na (.bool (St.is (k 0)))).setCell HKD.out.na (.bool (St.is (k 1)))).setCell HKD.out.na (.bool (St.is (k 2)))).setCell HKD.out.na (.string (St.txt (k 0)))).setCell HKD.out.na (.string (St.txt (k 1)))).setCell HKD.out.na (.string (St.txt (k 2)))).setCell HKD.out.na (.int .i64 (p : Int))).setCell HKD.out.na (.bool true))
            clear HKD HOUT HRD
            go_wp2_with fail
            (try simp only [Exit.inBlock, Exit.then])
            refine bodyPost_ret ?_ rfl HF.out
            simp only [results, hres]
            go_simp
        · have hi3 : (2 : Int) < (c0 : Int) := by omega
          have HRD := Lib.hid (HDIRTY.out (by rw [HRK.out, decide_eq_false h3]; simp))
          have HKD : Hid (RK w (wr.setCell ⟨kb, 7, none⟩ (.bool true)) ra kb (rkC k p true)) := (HKR.out.set 7 (.bool true)).to (rk_dirty k p)
          clear HDIRTY HS1 HSC HRK HKR
          go_upto_region 6 with (first | (go_at_call 73; refine (HBL.out _).mono ?_; rintro e w2 ⟨rfl, rfl⟩))
          have hab := HKD.out.ne
          have hba : ¬ kb = ra := fun e => hab e.symm
          generalize (wr.setCell ⟨kb, 7, none⟩ (.bool true)) = wD at *
          have a0 : wD.cell? ⟨kb, 0, none⟩ = some (.bool (St.is (k 0))) := cell_at HKD.out.zb 0
          have a1 : wD.cell? ⟨kb, 1, none⟩ = some (.bool (St.is (k 1))) := cell_at HKD.out.zb 1
          have a2 : wD.cell? ⟨kb, 2, none⟩ = some (.bool (St.is (k 2))) := cell_at HKD.out.zb 2
          have a3 : wD.cell? ⟨kb, 3, none⟩ = some (.string (St.txt (k 0))) := cell_at HKD.out.zb 3
          have a4 : wD.cell? ⟨kb, 4, none⟩ = some (.string (St.txt (k 1))) := cell_at HKD.out.zb 4
          have a5 : wD.cell? ⟨kb, 5, none⟩ = some (.string (St.txt (k 2))) := cell_at HKD.out.zb 5
          have a6 : wD.cell? ⟨kb, 6, none⟩ = some (.int .i64 (p : Int)) := cell_at HKD.out.zb 6
          have a7 : wD.cell? ⟨kb, 7, none⟩ = some (.bool true) := cell_at HKD.out.zb 7
          have z0 : wD.cell? ⟨ra, 0, none⟩ = some (.bool false) := cell_at HKD.out.za 0
          have z1 : wD.cell? ⟨ra, 1, none⟩ = some (.bool false) := cell_at HKD.out.za 1
          have z2 : wD.cell? ⟨ra, 2, none⟩ = some (.bool false) := cell_at HKD.out.za 2
          have z3 : wD.cell? ⟨ra, 3, none⟩ = some (.string { data := #[] }) := cell_at HKD.out.za 3
          have z4 : wD.cell? ⟨ra, 4, none⟩ = some (.string { data := #[] }) := cell_at HKD.out.za 4
          have z5 : wD.cell? ⟨ra, 5, none⟩ = some (.string { data := #[] }) := cell_at HKD.out.za 5
          have z6 : wD.cell? ⟨ra, 6, none⟩ = some (.int .i64 0) := cell_at HKD.out.za 6
          have z7 : wD.cell? ⟨ra, 7, none⟩ = some (.bool false) := cell_at HKD.out.za 7
          have y0 := free_at HKD.out.za 0
          have y1 := free_at HKD.out.za 1
          have y2 := free_at HKD.out.za 2
          have y3 := free_at HKD.out.za 3
          have y4 := free_at HKD.out.za 4
          have y5 := free_at HKD.out.za 5
          have y6 := free_at HKD.out.za 6
          have y7 := free_at HKD.out.za 7
          have HF : Hid (RReadPost w (bytes sec) (.returned (.agg #[.bool (St.is (k 0)), .bool (St.is (k 1)), .bool (St.is (k 2)), .string (St.txt (k 0)), .string (St.txt (k 1)), .string (St.txt (k 2)), .int .i64 (p : Int), .bool true])) ((((((((wD.setCell ⟨ra, 0, none⟩ (.bool (St.is (k 0)))).setCell ⟨ra, 1, none⟩ (.bool (St.is (k 1)))).setCell ⟨ra, 2, none⟩ (.bool (St.is (k 2)))).setCell ⟨ra, 3, none⟩ (.string (St.txt (k 0)))).setCell ⟨ra, 4, none⟩ (.string (St.txt (k 1)))).setCell ⟨ra, 5, none⟩ (.string (St.txt (k 2)))).setCell ⟨ra, 6, none⟩ (.int .i64 (p : Int))).setCell ⟨ra, 7, none⟩ (.bool true))) := HOUT.out k p false HRD.out _ ((((((((HKD.out.bel.setCell HKD.out.na (.bool (St.is (k 0)))).setCell HKD.out.na (.bool (St.is (k 1)))).setCell HKD.out.na (.bool (St.is (k 2)))).setCell HKD.out.na (.string (St.txt (k 0)))).setCell HKD.out.na (.string (St.txt (k 1)))).setCell HKD.out.na (.string (St.txt (k 2)))).setCell HKD.out.na (.int .i64 (p : Int))).setCell HKD.out.na (.bool true))
          clear HKD HOUT HRD
          go_wp2_with fail
          (try simp only [Exit.inBlock, Exit.then])
          refine bodyPost_ret ?_ rfl HF.out
          simp only [results, hres]
          go_simp
      · have hi4 : (sec.size : Int) < (p : Int) + 4 := by omega
        have HRD := Lib.hid (HDIRTY.out (by unfold St.recOk; rw [hsl.out, decide_eq_false (show ¬ p + 4 ≤ 4096 by omega)]; rfl))
        have HKD : Hid (RK w (wr.setCell ⟨kb, 7, none⟩ (.bool true)) ra kb (rkC k p true)) := (HKR.out.set 7 (.bool true)).to (rk_dirty k p)
        clear HDIRTY HS1 HSC HKR
        go_upto_region 6 with (first | (go_at_call 73; refine (HBL.out _).mono ?_; rintro e w2 ⟨rfl, rfl⟩))
        have hab := HKD.out.ne
        have hba : ¬ kb = ra := fun e => hab e.symm
        generalize (wr.setCell ⟨kb, 7, none⟩ (.bool true)) = wD at *
        have a0 : wD.cell? ⟨kb, 0, none⟩ = some (.bool (St.is (k 0))) := cell_at HKD.out.zb 0
        have a1 : wD.cell? ⟨kb, 1, none⟩ = some (.bool (St.is (k 1))) := cell_at HKD.out.zb 1
        have a2 : wD.cell? ⟨kb, 2, none⟩ = some (.bool (St.is (k 2))) := cell_at HKD.out.zb 2
        have a3 : wD.cell? ⟨kb, 3, none⟩ = some (.string (St.txt (k 0))) := cell_at HKD.out.zb 3
        have a4 : wD.cell? ⟨kb, 4, none⟩ = some (.string (St.txt (k 1))) := cell_at HKD.out.zb 4
        have a5 : wD.cell? ⟨kb, 5, none⟩ = some (.string (St.txt (k 2))) := cell_at HKD.out.zb 5
        have a6 : wD.cell? ⟨kb, 6, none⟩ = some (.int .i64 (p : Int)) := cell_at HKD.out.zb 6
        have a7 : wD.cell? ⟨kb, 7, none⟩ = some (.bool true) := cell_at HKD.out.zb 7
        have z0 : wD.cell? ⟨ra, 0, none⟩ = some (.bool false) := cell_at HKD.out.za 0
        have z1 : wD.cell? ⟨ra, 1, none⟩ = some (.bool false) := cell_at HKD.out.za 1
        have z2 : wD.cell? ⟨ra, 2, none⟩ = some (.bool false) := cell_at HKD.out.za 2
        have z3 : wD.cell? ⟨ra, 3, none⟩ = some (.string { data := #[] }) := cell_at HKD.out.za 3
        have z4 : wD.cell? ⟨ra, 4, none⟩ = some (.string { data := #[] }) := cell_at HKD.out.za 4
        have z5 : wD.cell? ⟨ra, 5, none⟩ = some (.string { data := #[] }) := cell_at HKD.out.za 5
        have z6 : wD.cell? ⟨ra, 6, none⟩ = some (.int .i64 0) := cell_at HKD.out.za 6
        have z7 : wD.cell? ⟨ra, 7, none⟩ = some (.bool false) := cell_at HKD.out.za 7
        have y0 := free_at HKD.out.za 0
        have y1 := free_at HKD.out.za 1
        have y2 := free_at HKD.out.za 2
        have y3 := free_at HKD.out.za 3
        have y4 := free_at HKD.out.za 4
        have y5 := free_at HKD.out.za 5
        have y6 := free_at HKD.out.za 6
        have y7 := free_at HKD.out.za 7
        have HF : Hid (RReadPost w (bytes sec) (.returned (.agg #[.bool (St.is (k 0)), .bool (St.is (k 1)), .bool (St.is (k 2)), .string (St.txt (k 0)), .string (St.txt (k 1)), .string (St.txt (k 2)), .int .i64 (p : Int), .bool true])) ((((((((wD.setCell ⟨ra, 0, none⟩ (.bool (St.is (k 0)))).setCell ⟨ra, 1, none⟩ (.bool (St.is (k 1)))).setCell ⟨ra, 2, none⟩ (.bool (St.is (k 2)))).setCell ⟨ra, 3, none⟩ (.string (St.txt (k 0)))).setCell ⟨ra, 4, none⟩ (.string (St.txt (k 1)))).setCell ⟨ra, 5, none⟩ (.string (St.txt (k 2)))).setCell ⟨ra, 6, none⟩ (.int .i64 (p : Int))).setCell ⟨ra, 7, none⟩ (.bool true))) := HOUT.out k p false HRD.out _ ((((((((HKD.out.bel.setCell HKD.out.na (.bool (St.is (k 0)))).setCell HKD.out.na (.bool (St.is (k 1)))).setCell HKD.out.na (.bool (St.is (k 2)))).setCell HKD.out.na (.string (St.txt (k 0)))).setCell HKD.out.na (.string (St.txt (k 1)))).setCell HKD.out.na (.string (St.txt (k 2)))).setCell HKD.out.na (.int .i64 (p : Int))).setCell HKD.out.na (.bool true))
        clear HKD HOUT HRD
        go_wp2_with fail
        (try simp only [Exit.inBlock, Exit.then])
        refine bodyPost_ret ?_ rfl HF.out
        simp only [results, hres]
        go_simp
    · have HBL : Hid (∀ W, Calls Try.prog 73 #[.string sec, .int .i64 (p : Int)] W fun e w' => e = .returned (.bool true) ∧ W = w') := fun W =>
        blank_any W sec p hs hp2 true ⟨fun _ i h1 h2 => lastOf_blank (bytes sec) 4096 i (by
          have h3 := HLA.out
          rw [hsl.out] at h3
          omega) h2 (by omega), fun _ => rfl⟩
      have HRD : Hid (St.read (bytes sec) = (k, p, true)) := by
        unfold Hid
        rw [HSC.out]
        exact scan_end _ _ _ _ _ hlt
      have HKD : Hid (RK w wr ra kb (rkC k p false)) := HKR
      clear HSC HKR
      go_upto_region 14 with (first | (go_at_call 73; refine (HBL.out _).mono ?_; rintro e w2 ⟨rfl, rfl⟩))
      have hab := HKD.out.ne
      have hba : ¬ kb = ra := fun e => hab e.symm
      have hwd := hab
      have a0 : wr.cell? ⟨kb, 0, none⟩ = some (.bool (St.is (k 0))) := cell_at HKD.out.zb 0
      have a1 : wr.cell? ⟨kb, 1, none⟩ = some (.bool (St.is (k 1))) := cell_at HKD.out.zb 1
      have a2 : wr.cell? ⟨kb, 2, none⟩ = some (.bool (St.is (k 2))) := cell_at HKD.out.zb 2
      have a3 : wr.cell? ⟨kb, 3, none⟩ = some (.string (St.txt (k 0))) := cell_at HKD.out.zb 3
      have a4 : wr.cell? ⟨kb, 4, none⟩ = some (.string (St.txt (k 1))) := cell_at HKD.out.zb 4
      have a5 : wr.cell? ⟨kb, 5, none⟩ = some (.string (St.txt (k 2))) := cell_at HKD.out.zb 5
      have a6 : wr.cell? ⟨kb, 6, none⟩ = some (.int .i64 (p : Int)) := cell_at HKD.out.zb 6
      have a7 : wr.cell? ⟨kb, 7, none⟩ = some (.bool false) := cell_at HKD.out.zb 7
      have z0 : wr.cell? ⟨ra, 0, none⟩ = some (.bool false) := cell_at HKD.out.za 0
      have z1 : wr.cell? ⟨ra, 1, none⟩ = some (.bool false) := cell_at HKD.out.za 1
      have z2 : wr.cell? ⟨ra, 2, none⟩ = some (.bool false) := cell_at HKD.out.za 2
      have z3 : wr.cell? ⟨ra, 3, none⟩ = some (.string { data := #[] }) := cell_at HKD.out.za 3
      have z4 : wr.cell? ⟨ra, 4, none⟩ = some (.string { data := #[] }) := cell_at HKD.out.za 4
      have z5 : wr.cell? ⟨ra, 5, none⟩ = some (.string { data := #[] }) := cell_at HKD.out.za 5
      have z6 : wr.cell? ⟨ra, 6, none⟩ = some (.int .i64 0) := cell_at HKD.out.za 6
      have z7 : wr.cell? ⟨ra, 7, none⟩ = some (.bool false) := cell_at HKD.out.za 7
      have y0 := free_at HKD.out.za 0
      have y1 := free_at HKD.out.za 1
      have y2 := free_at HKD.out.za 2
      have y3 := free_at HKD.out.za 3
      have y4 := free_at HKD.out.za 4
      have y5 := free_at HKD.out.za 5
      have y6 := free_at HKD.out.za 6
      have y7 := free_at HKD.out.za 7
      have HF : Hid (RReadPost w (bytes sec) (.returned (.agg #[.bool (St.is (k 0)), .bool (St.is (k 1)), .bool (St.is (k 2)), .string (St.txt (k 0)), .string (St.txt (k 1)), .string (St.txt (k 2)), .int .i64 (p : Int), .bool false])) ((((((((wr.setCell ⟨ra, 0, none⟩ (.bool (St.is (k 0)))).setCell ⟨ra, 1, none⟩ (.bool (St.is (k 1)))).setCell ⟨ra, 2, none⟩ (.bool (St.is (k 2)))).setCell ⟨ra, 3, none⟩ (.string (St.txt (k 0)))).setCell ⟨ra, 4, none⟩ (.string (St.txt (k 1)))).setCell ⟨ra, 5, none⟩ (.string (St.txt (k 2)))).setCell ⟨ra, 6, none⟩ (.int .i64 (p : Int))).setCell ⟨ra, 7, none⟩ (.bool false))) := HOUT.out k p true HRD.out _ ((((((((HKD.out.bel.setCell HKD.out.na (.bool (St.is (k 0)))).setCell HKD.out.na (.bool (St.is (k 1)))).setCell HKD.out.na (.bool (St.is (k 2)))).setCell HKD.out.na (.string (St.txt (k 0)))).setCell HKD.out.na (.string (St.txt (k 1)))).setCell HKD.out.na (.string (St.txt (k 2)))).setCell HKD.out.na (.int .i64 (p : Int))).setCell HKD.out.na (.bool false))
      clear HKD HOUT HRD
      go_wp2_with fail
      (try simp only [Exit.inBlock, Exit.then])
      refine bodyPost_ret ?_ rfl HF.out
      simp only [results, hres]
      go_simp
end Go.Proofs.Ytngmnceahhlpkaa
