/- The walk of StoreAny: true, in whatever world. Conditions: the cuts and the deeds lie in memory. -/
import Derived.Test.YtngmnceahhlpkaaSt14
namespace Go.Proofs.Ytngmnceahhlpkaa
open Go.RowKit
theorem get_wk {w W : World} {fb sb xb : Nat} {J : Option Nat} {f : Fl} {s : St} {kn : Nat → K4} (h : Wk w W fb sb xb J f s kn) (hst : s.stands = false) (i : Nat) (hi : i < 3) :
    Calls Try.prog 30 #[.pointer (some ⟨sb, 0, none⟩), .int .i64 (i : Int)] W fun e w' => e = .returned (.tuple #[.string (St.txt (s.k i)), .bool (St.is (s.k i))]) ∧ Wk w w' fb sb xb J f s kn := by
  refine (get_any W sb fb s i h.kp.duet.st).mono ?_
  rintro e w' ⟨rfl, h2⟩
  rw [get_k hst i hi]
  exact ⟨rfl, h.keep h2⟩
set_option maxRecDepth 100000 in
theorem any_not (w : World) (img : ByteArray) (hs : img.size ≠ 8192) (B : Option Addr) (m cm : Nat) (A : Option Addr) (n cap : Nat) : Calls Try.prog 13 #[.string img, .slice B m cm, .slice A n cap] w fun e w' => e = .returned (.bool true) ∧ Below w.heap.size w w' := by
  have HS := Lib.hid hs
  clear hs
  go_enter Try.func13, Try.ntmps13
  go_wp2_with fail
  refine (of_size img _ HS.out).mono ?_
  rintro e w1 ⟨rfl, rfl⟩
  go_wp2_with fail
  refine (stAwake_any _).mono ?_
  rintro e w1 ⟨rfl, h1⟩
  have H1 := Lib.hid h1
  clear h1
  go_wp2_with fail
  (try simp only [Exit.inBlock, Exit.then])
  go_ret
  exact ⟨rfl, H1.out⟩
/-- Behind the first question on a put's answer. -/
def Any1 (w : World) (fb sb xb db : Nat) (J : Option Nat) (f : Fl) (s : St) (k : Kept) (d : Dd) (r : Int) (wx : World) : Prop :=
  ∃ kn, Wk w wx fb sb xb J f s kn ∧ wx.heap[db]? = some (.cells (ddC d) 64) ∧ (r ≠ 60 → ∀ j, j < 3 → Fine (kn j) (s.k j)) ∧ (r = 60 → ∀ j, j < 3 → kn j = clean k j)
theorem db_keep {w W V : World} {fb sb xb db : Nat} {J : Option Nat} {f : Fl} {s : St} {kn : Nat → K4} (h : Wk w W fb sb xb J f s kn) {cs : Array Value} (hb : W.heap[db]? = some (.cells cs 64)) (hg : W.grownBy V (some xb)) : V.heap[db]? = some (.cells cs 64) :=
  (hg.block db (lt_of_at hb) (fun e => by
    have e := Option.some.inj e
    subst e
    rw [h.blk] at hb
    injection hb with hb
    injection hb with _ hb
    exact absurd hb (by decide))).trans hb
set_option maxRecDepth 100000 in
set_option maxHeartbeats 2000000 in
theorem storeAny_any (w : World) (img : ByteArray) (hs : img.size = 8192) (B : Option Addr) (m cm : Nat) (hc : CutsIn w B m) (A : Option Addr) (n cap : Nat) (hd : DeedsIn w A n) : Calls Try.prog 13 #[.string img, .slice B m cm, .slice A n cap] w fun e w' => e = .returned (.bool true) ∧ Below w.heap.size w w' := by
  have HD := Lib.hid hd
  have HC := Lib.hid hc
  have HSZ := Lib.hid hs
  have hn := hd.1
  have hn2 : (n : Int) ≤ 9223372036854775807 := by omega
  clear hd hc hs
  go_enter Try.func13, Try.ntmps13
  go_wp2_with fail
  refine (of_any img _ HSZ.out).mono ?_
  rintro e w1 ⟨rfl, h1, h2⟩
  have H1 : Hid (Held w w1 w.heap.size none (Fl.of (bytes img))) := ⟨h1, h2, Nat.le_refl _⟩
  clear h1 h2
  generalize Fl.of (bytes img) = f at *
  obtain ⟨fb, hfb⟩ : ∃ b, w.heap.size = b := ⟨_, rfl⟩
  rw [hfb] at H1 ⊢
  clear hfb
  go_wp2_with fail
  refine (raised_any w w1 fb none f B m cm H1.out HC.out).mono ?_
  rintro e w2 ⟨sb, J0, f0, s0, rfl, h2, _, hi0, ho0, _, hs0, _⟩
  have H2 := Lib.hid h2
  have HI0 := Lib.hid hi0
  have HO0 := Lib.hid ho0
  have HS0 := Lib.hid hs0
  clear h2 hi0 ho0 hs0 H1 HC
  go_wp2_with fail
  have HK : Hid (Wk w (w2.alloc (.cells (knL (clean St.none_)) 59)) fb sb w2.heap.size J0 f0 s0 (clean St.none_)) :=
    ⟨H2.out.keep (below_alloc1 w2 _), heap_alloc_new w2 _, H2.out.duet.wr.size⟩
  have hkl : knL (clean St.none_) = #[.bool false, .string { data := #[] }, .bool false, .string { data := #[] }, .bool false, .string { data := #[] }, .bool false, .string { data := #[] }, .bool false, .string { data := #[] }, .bool false, .string { data := #[] }] := rfl
  rw [hkl] at HK
  clear hkl H2
  generalize (w2.alloc (.cells #[.bool false, .string { data := #[] }, .bool false, .string { data := #[] }, .bool false, .string { data := #[] }, .bool false, .string { data := #[] }, .bool false, .string { data := #[] }, .bool false, .string { data := #[] }] 59)) = w3 at *
  generalize w2.heap.size = xb at *
  go_loopg [12] 3 (fun gh v wr => ∃ (q : Nat) (kn : Nat → K4), q ≤ 3 ∧ gh = 3 - q ∧ v = .int .i64 q ∧ Hid (Wk w wr fb sb xb J0 f0 s0 kn) ∧ Hid (∀ j, j < q → kn j = clean s0.k j))
  case atStart => exact ⟨0, _, by omega, rfl, rfl, HK, fun j hj => absurd hj (Nat.not_lt_zero _)⟩
  case round =>
  clear HK
  obtain ⟨q, kn, hq, hgq, rfl, HKQ, HCQ⟩ := hrel
  have HGQ := Lib.hid hgq
  clear hgq
  by_cases hq3 : q < 3
  · have hqi : (q : Int) < 3 := by omega
    have hqg : (0 : Int) ≤ (q : Int) := by omega
    have hqt : ((q : Int)).toNat = q := Int.toNat_natCast q
    have HGT := Lib.hid (get_wk HKQ.out HS0.out q hq3)
    go_wp2_with fail
    refine HGT.out.mono ?_
    rintro e w4 ⟨rfl, h4⟩
    have HK4 := Lib.hid h4
    clear h4 HGT HKQ
    obtain ⟨x0, x1, x2, x3⟩ := kn_cell HK4.out.blk q hq3
    have y0 := free_at HK4.out.blk (q * 4)
    have y1 := free_at HK4.out.blk (q * 4 + 1)
    have y2 := free_at HK4.out.blk (q * 4 + 2)
    have y3 := free_at HK4.out.blk (q * 4 + 3)
    have HKN : Hid (Wk w ((((w4.setCell ⟨xb, q * 4, none⟩ (.bool (St.is (s0.k q)))).setCell ⟨xb, q * 4 + 1, none⟩ (.string (St.txt (s0.k q)))).setCell ⟨xb, q * 4 + 2, none⟩ (.bool false)).setCell ⟨xb, q * 4 + 3, none⟩ (.string { data := #[] })) fb sb xb J0 f0 s0 (knSet kn q (clean s0.k q))) :=
      HK4.out.known (grown_set (grown_set (grown_set (grown_set (grown_refl _ (some xb)) _ _) _ _) _ _) _ _) (kn_set HK4.out.blk q hq3 (clean s0.k q))
    have HCN : Hid (∀ j, j < q + 1 → knSet kn q (clean s0.k q) j = clean s0.k j) := fun j hj => by
      by_cases hjm : j = q
      · subst hjm
        rw [knSet_self]
      · rw [knSet_ne _ _ _ _ hjm]
        exact HCQ.out j (by omega)
    clear HK4 HCQ
    go_wp2_with fail
    go_roundg (3 - (q + 1))
    case measure => have := HGQ.out; omega
    case rel => exact ⟨q + 1, _, by omega, rfl, by go_num, HKN, HCN⟩
  have HKC : Hid (Wk w wr fb sb xb J0 f0 s0 (clean s0.k)) := HKQ.out.same (fun j hj => HCQ.out j (by omega))
  have hqn : ¬ (q : Int) < 3 := by omega
  clear HKQ HCQ HGQ
  go_wp2_with fail
  generalize wr = w3b at *
  go_loopg [15, 9] n (fun gh v sv wr => ∃ (k : Nat) (J : Option Nat) (f : Fl) (s : St) (sb : Nat), k ≤ n ∧ gh = n - k ∧ v = .int .i64 k ∧ sv = .pointer (some ⟨sb, 0, none⟩) ∧ Hid (Wk w wr fb sb xb J f s (clean s.k)) ∧ Hid (Inv f s) ∧ Hid (f.off = false) ∧ Hid (s.stands = false))
  case atStart => exact ⟨0, J0, f0, s0, sb, Nat.zero_le _, rfl, rfl, rfl, HKC, HI0, HO0, HS0⟩
  case round =>
    clear HKC HI0 HO0 HS0
    obtain ⟨k, J, f, s, sb, hk, hg, rfl, rfl, HK, HI, HO, HS⟩ := hrel
    have HG := Lib.hid hg
    clear hg
    by_cases hlt : k < n
    · obtain ⟨g, off, xs, hA, hL⟩ : ∃ g off xs, A = some ⟨g, off, none⟩ ∧ DeedL w g off n xs := by
        rcases HD.out.2 with h0 | h0
        · omega
        · exact h0
      subst hA
      have hlo := hL.ha k hlt
      have hjs := hL.hs k hlt
      have hbc := hL.hb k hlt
      have c0 := (HK.out.kp.below.cell (p := ⟨g, off + k * 6, none⟩) hL.lt).trans (hL.c0 k hlt)
      have c1 := (HK.out.kp.below.cell (p := ⟨g, off + k * 6 + 1, none⟩) hL.lt).trans (hL.c1 k hlt)
      have c2 := (HK.out.kp.below.cell (p := ⟨g, off + k * 6 + 2, none⟩) hL.lt).trans (hL.c2 k hlt)
      have c3 := (HK.out.kp.below.cell (p := ⟨g, off + k * 6 + 3, none⟩) hL.lt).trans (hL.c3 k hlt)
      have c4 := (HK.out.kp.below.cell (p := ⟨g, off + k * 6 + 4, none⟩) hL.lt).trans (hL.c4 k hlt)
      have c5 := (HK.out.kp.below.cell (p := ⟨g, off + k * 6 + 5, none⟩) hL.lt).trans (hL.c5 k hlt)
      clear hL
      generalize xs k = d at *
      obtain ⟨did, val, arm, lf, jk, bo, nb, cb⟩ := d
      replace c0 : wr.cell? ⟨g, off + k * 6, none⟩ = some (.int .i64 did) := c0
      replace c1 : wr.cell? ⟨g, off + k * 6 + 1, none⟩ = some (.string val) := c1
      replace c2 : wr.cell? ⟨g, off + k * 6 + 2, none⟩ = some (.bool arm) := c2
      replace c3 : wr.cell? ⟨g, off + k * 6 + 3, none⟩ = some (.int .i64 lf) := c3
      replace c4 : wr.cell? ⟨g, off + k * 6 + 4, none⟩ = some (.string jk) := c4
      replace c5 : wr.cell? ⟨g, off + k * 6 + 5, none⟩ = some (.slice bo nb cb) := c5
      have HLO : Hid (lf ≤ 9223372036854775807) := hlo
      have HJS : Hid (jk.size ≤ 140737488351232) := hjs
      have HBC : Hid (CutsIn w bo nb) := hbc
      clear hlo hjs hbc
      have HK1 : Hid (Wk w (wr.alloc (.cells #[.int .i64 did, .string val, .bool arm, .int .i64 lf, .string jk, .slice bo nb cb] 64)) fb sb xb J f s (clean s.k)) := HK.out.keep (below_alloc1 wr _)
      have HDB : Hid ((wr.alloc (.cells #[.int .i64 did, .string val, .bool arm, .int .i64 lf, .string jk, .slice bo nb cb] 64)).heap[wr.heap.size]? = some (.cells #[.int .i64 did, .string val, .bool arm, .int .i64 lf, .string jk, .slice bo nb cb] 64)) := heap_alloc_new wr _
      clear HK
      go_upto_region 17 with fail
      generalize (wr.alloc (.cells #[.int .i64 did, .string val, .bool arm, .int .i64 lf, .string jk, .slice bo nb cb] 64)) = w4 at *
      generalize wr.heap.size = db at *
      clear c0 c1 c2 c3 c4 c5
      obtain ⟨d0, d1, d2, d3, d4, d5⟩ := dd_cells HDB.out
      go_upto_if 77 with fail
      go_cut [17] (fun _ wx => Put0 w fb sb xb db s (clean s.k) ⟨did, val, arm, lf, jk, bo, nb, cb⟩ wx)
      case first =>
        cases arm with
        | true =>
          have HCU := Lib.hid (cut_wk HK1.out lf jk HLO.out HJS.out HO.out HI.out)
          go_wp2_with fail
          refine HCU.out.mono ?_
          rintro e w5 ⟨r, J5, f5, rfl, h5, ho5, hi5, hw5⟩
          have HP : Hid (Put0 w fb sb xb db s (clean s.k) ⟨did, val, true, lf, jk, bo, nb, cb⟩ w5) := ⟨J5, f5, h5, ho5, hi5, fr_keep HK1.out.kp hw5 HDB.out (by decide) (by decide) (by decide)⟩
          clear h5 ho5 hi5 hw5 HCU
          go_wp2_with fail
          go_meet
          case rel => exact HP.out
        | false =>
          go_wp2_with fail
          go_meet
          case rel => exact ⟨J, f, HK1.out, HO.out, HI.out, HDB.out⟩
      case rest =>
        clear HK1 HDB HO HI d0 d1 d2 d3 d4 d5
        obtain ⟨J5, f5, h5, ho5, hi5, hb5⟩ := hcut
        have HK5 := Lib.hid h5
        have HO5 := Lib.hid ho5
        have HI5 := Lib.hid hi5
        have HDB : Hid (wc.heap[db]? = some (.cells #[.int .i64 did, .string val, .bool arm, .int .i64 lf, .string jk, .slice bo nb cb] 64)) := hb5
        clear h5 ho5 hi5 hb5
        obtain ⟨d0, d1, d2, d3, d4, d5⟩ := dd_cells HDB.out
        obtain ⟨f6, s6, r6, hp6, hout6⟩ := put_out HI5.out HO5.out HS.out did val
        have HPW := Lib.hid (put_wk HK5.out did val hp6)
        clear hp6
        go_wp2_with fail
        refine HPW.out.mono ?_
        rintro e w6 ⟨rfl, h6, hw6⟩
        have HK6 := Lib.hid h6
        have HDB6 := Lib.hid (fr_keep HK5.out.kp hw6 HDB.out (by decide) (by decide) (by decide))
        clear h6 hw6 HPW HDB d0 d1 d2 d3 d4 d5 HK5
        obtain ⟨d0, d1, d2, d3, d4, d5⟩ := dd_cells HDB6.out
        have HPO := Lib.hid hout6
        clear hout6
        go_upto_if 93 with fail
        go_cut [9] (fun v wx => v = .pointer (some ⟨sb, 0, none⟩) ∧ Any1 w fb sb xb db J5 f6 s6 s.k ⟨did, val, arm, lf, jk, bo, nb, cb⟩ r6 wx)
        case first =>
          rcases HPO.out with ⟨_, rfl, rfl, rfl⟩ | ⟨hid0, hid3, _, ⟨_, rfl, rfl, rfl⟩ | ⟨_, rfl, _, _, _, _, hk6⟩ | ⟨_, rfl, _, _, _⟩⟩
          · have HP : Hid (Any1 w fb sb xb db J5 f6 s6 s6.k ⟨did, val, arm, lf, jk, bo, nb, cb⟩ 1 w6) := ⟨_, HK6.out, HDB6.out, fun _ j _ => fine_clean _ j, fun h => absurd h (by decide)⟩
            clear HK6
            go_wp2_with fail
            go_meet
            case rel => exact ⟨rfl, HP.out⟩
          · have HP : Hid (Any1 w fb sb xb db J5 f6 s6 s6.k ⟨did, val, arm, lf, jk, bo, nb, cb⟩ 70 w6) := ⟨_, HK6.out, HDB6.out, fun _ j _ => fine_clean _ j, fun h => absurd h (by decide)⟩
            clear HK6
            go_wp2_with fail
            go_meet
            case rel => exact ⟨rfl, HP.out⟩
          · obtain ⟨i, rfl⟩ : ∃ i : Nat, did = (i : Int) := ⟨did.toNat, by omega⟩
            rw [Int.toNat_natCast] at hk6
            have hi3 : i < 3 := by omega
            have hlt3 : (i : Int) < 3 := by omega
            have hit : ((i : Int)).toNat = i := Int.toNat_natCast i
            have hi2 : ¬ (2 : Int) < (i : Int) := by omega
            have hi0' : ¬ (i : Int) < 0 := by omega
            obtain ⟨x0, x1, x2, x3⟩ := kn_cell HK6.out.blk i hi3
            have y0 := free_at HK6.out.blk (i * 4)
            have y1 := free_at HK6.out.blk (i * 4 + 1)
            have y2 := free_at HK6.out.blk (i * 4 + 2)
            have y3 := free_at HK6.out.blk (i * 4 + 3)
            have hgr : w6.grownBy ((((w6.setCell ⟨xb, i * 4, none⟩ (.bool true)).setCell ⟨xb, i * 4 + 1, none⟩ (.string val)).setCell ⟨xb, i * 4 + 2, none⟩ (.bool false)).setCell ⟨xb, i * 4 + 3, none⟩ (.string { data := #[] })) (some xb) := grown_set (grown_set (grown_set (grown_set (grown_refl w6 (some xb)) _ _) _ _) _ _) _ _
            have HP : Hid (Any1 w fb sb xb db J5 f6 s6 s.k ⟨(i : Int), val, arm, lf, jk, bo, nb, cb⟩ 0 ((((w6.setCell ⟨xb, i * 4, none⟩ (.bool true)).setCell ⟨xb, i * 4 + 1, none⟩ (.string val)).setCell ⟨xb, i * 4 + 2, none⟩ (.bool false)).setCell ⟨xb, i * 4 + 3, none⟩ (.string { data := #[] }))) :=
              ⟨_, HK6.out.known hgr (kn_set HK6.out.blk i hi3 ⟨true, val, false, noT⟩), db_keep HK6.out HDB6.out hgr, fun _ j _ => by rw [hk6]; exact fine_ok s.k i val j, fun h => absurd h (by decide)⟩
            clear HK6 hk6 hgr HPO
            go_wp2_with fail
            go_meet
            case rel => exact ⟨rfl, HP.out⟩
          · have HP : Hid (Any1 w fb sb xb db J5 f6 s6 s.k ⟨did, val, arm, lf, jk, bo, nb, cb⟩ 60 w6) := ⟨_, HK6.out, HDB6.out, fun h => absurd rfl h, fun _ j _ => rfl⟩
            clear HK6
            go_wp2_with fail
            go_meet
            case rel => exact ⟨rfl, HP.out⟩
        case rest =>
        obtain ⟨rfl, kn1, h1, hb1, hf1, he1⟩ := hcut
        have HK9 := Lib.hid h1
        have HDB9 : Hid (wc.heap[db]? = some (.cells #[.int .i64 did, .string val, .bool arm, .int .i64 lf, .string jk, .slice bo nb cb] 64)) := hb1
        have HF9 := Lib.hid hf1
        have HE9 := Lib.hid he1
        clear h1 hb1 hf1 he1 HK6 HDB6 d0 d1 d2 d3 d4 d5
        generalize wc = w7 at *
        obtain ⟨d0, d1, d2, d3, d4, d5⟩ := dd_cells HDB9.out
        go_upto_if 109 with fail
        go_cut [9] (fun v wx => Put9 w fb xb v wx)
        case first =>
          rcases HPO.out with ⟨_, rfl, rfl, rfl⟩ | ⟨hid0, hid3, _, ⟨_, rfl, rfl, rfl⟩ | ⟨_, rfl, ho6, _, hi6, hs6, _⟩ | ⟨_, rfl, _, _, hdk⟩⟩
          · have HP : Hid (Put9 w fb xb (.pointer (some ⟨sb, 0, none⟩)) w7) := ⟨sb, J5, f6, s6, kn1, rfl, HK9.out, HO5.out, HS.out, HI5.out, HF9.out (by decide)⟩
            clear HK9 HPO
            go_wp2_with fail
            go_meet
            case rel => exact HP.out
          · have HP : Hid (Put9 w fb xb (.pointer (some ⟨sb, 0, none⟩)) w7) := ⟨sb, J5, f6, s6, kn1, rfl, HK9.out, HO5.out, HS.out, HI5.out, HF9.out (by decide)⟩
            clear HK9 HPO
            go_wp2_with fail
            go_meet
            case rel => exact HP.out
          · have HP : Hid (Put9 w fb xb (.pointer (some ⟨sb, 0, none⟩)) w7) := ⟨sb, J5, f6, s6, kn1, rfl, HK9.out, ho6, hs6, hi6, HF9.out (by decide)⟩
            clear HK9 HPO ho6 hs6 hi6
            go_wp2_with fail
            go_meet
            case rel => exact HP.out
          · obtain ⟨i, rfl⟩ : ∃ i : Nat, did = (i : Int) := ⟨did.toNat, by omega⟩
            rw [Int.toNat_natCast] at hdk
            have hi3 : i < 3 := by omega
            have hlt3 : (i : Int) < 3 := by omega
            have hit : ((i : Int)).toNat = i := Int.toNat_natCast i
            have hi2 : ¬ (2 : Int) < (i : Int) := by omega
            have hi0' : ¬ (i : Int) < 0 := by omega
            have HKK : Hid (Wk w w7 fb sb xb J5 f6 s6 (clean s.k)) := HK9.out.same (HE9.out rfl)
            obtain ⟨x0, x1, x2, x3⟩ := kn_cell HKK.out.blk i hi3
            have y0 := free_at HKK.out.blk (i * 4)
            have y1 := free_at HKK.out.blk (i * 4 + 1)
            have y2 := free_at HKK.out.blk (i * 4 + 2)
            have y3 := free_at HKK.out.blk (i * 4 + 3)
            have HK7 : Hid (Wk w ((w7.setCell ⟨xb, i * 4 + 2, none⟩ (.bool true)).setCell ⟨xb, i * 4 + 3, none⟩ (.string val)) fb sb xb J5 f6 s6 (knSet (clean s.k) i ⟨(clean s.k i).is, (clean s.k i).s, true, val⟩)) :=
              HKK.out.known (grown_set (grown_set (grown_refl w7 (some xb)) _ _) _ _) (kn_late HKK.out.blk i hi3 val)
            have HRW := Lib.hid (raised_wk HK7.out bo nb cb HBC.out)
            have HDK : Hid (Disk f6 s.k ∨ Disk f6 (St.keep s.k i val)) := hdk
            have hdx : ¬ xb = db := by
              rintro rfl
              have hh := HDB9.out
              rw [HKK.out.blk] at hh
              injection hh with hh
              injection hh with _ hh
              exact absurd hh (by decide)
            have hdx2 : ¬ db = xb := fun e => hdx e.symm
            clear HPO HK9 HKK hdk HE9 HF9
            go_wp2_with fail
            refine HRW.out.mono ?_
            rintro e w8 ⟨sb8, J8, f8, s8, rfl, h8, _, hi8, ho8, hs8, hk8⟩
            have HP : Hid (Put9 w fb xb (.pointer (some ⟨sb8, 0, none⟩)) w8) := ⟨sb8, J8, f8, s8, _, rfl, h8, ho8, hs8, hi8, fun j _ => fine_cut s.k s8.k i val (by
              rcases HDK.out with h | h
              · exact .inl (hk8 _ h)
              · exact .inr (hk8 _ h)) j⟩
            clear h8 hi8 ho8 hs8 hk8 HRW HK7 HDK
            go_wp2_with fail
            go_meet
            case rel => exact HP.out
        case rest =>
            obtain ⟨sb7, J7, f7, s7, kn7, rfl, h7, ho7, hs7, hi7, hf7⟩ := hcut
            clear HK9 HDB9 HF9 HE9 HPO HI5 HO5 HS d0 d1 d2 d3 d4 d5
            have HK7 := Lib.hid h7
            have HO7 := Lib.hid ho7
            have HS7 := Lib.hid hs7
            have HI7 := Lib.hid hi7
            have HF7 := Lib.hid hf7
            clear h7 ho7 hs7 hi7 hf7
            go_wp2_with fail
            go_loopg [20] 3 (fun gh v wx => ∃ (m : Nat) (kn : Nat → K4), m ≤ 3 ∧ gh = 3 - m ∧ v = .int .i64 m ∧ Hid (Wk w wx fb sb7 xb J7 f7 s7 kn) ∧ Hid (∀ j, j < 3 → Fine (kn j) (s7.k j)) ∧ Hid (∀ j, j < m → kn j = clean s7.k j))
            case atStart => exact ⟨0, kn7, by omega, rfl, rfl, HK7, HF7, fun j hj => absurd hj (Nat.not_lt_zero _)⟩
            case round =>
              clear HK7 HF7
              obtain ⟨m, kn, hm, hgm, rfl, HKM, HFM, HCM⟩ := hrel
              have HGM := Lib.hid hgm
              clear hgm
              by_cases hm3 : m < 3
              · have hmi : (m : Int) < 3 := by omega
                have hmg : (0 : Int) ≤ (m : Int) := by omega
                have hmt : ((m : Int)).toNat = m := Int.toNat_natCast m
                have HTD := Lib.hid (told_wk HKM.out HS7.out m hm3 (HFM.out m hm3))
                obtain ⟨x0, x1, x2, x3⟩ := kn_cell HKM.out.blk m hm3
                go_wp2_with fail
                refine HTD.out.mono ?_
                rintro e w9 ⟨rfl, h9⟩
                have HK9 : Hid (Wk w (w9.alloc (.cells #[.bool (St.is (s7.k m)), .string (St.txt (s7.k m)), .bool false, .string { data := #[] }] 58)) fb sb7 xb J7 f7 s7 kn) := h9.keep (below_alloc1 w9 _)
                clear h9 HTD x0 x1 x2 x3 HKM
                obtain ⟨x0, x1, x2, x3⟩ := kn_cell HK9.out.blk m hm3
                have y0 := free_at HK9.out.blk (m * 4)
                have y1 := free_at HK9.out.blk (m * 4 + 1)
                have y2 := free_at HK9.out.blk (m * 4 + 2)
                have y3 := free_at HK9.out.blk (m * 4 + 3)
                have HKN : Hid (Wk w (((((w9.alloc (.cells #[.bool (St.is (s7.k m)), .string (St.txt (s7.k m)), .bool false, .string { data := #[] }] 58)).setCell ⟨xb, m * 4, none⟩ (.bool (St.is (s7.k m)))).setCell ⟨xb, m * 4 + 1, none⟩ (.string (St.txt (s7.k m)))).setCell ⟨xb, m * 4 + 2, none⟩ (.bool false)).setCell ⟨xb, m * 4 + 3, none⟩ (.string { data := #[] })) fb sb7 xb J7 f7 s7 (knSet kn m (clean s7.k m))) :=
                  HK9.out.known (grown_set (grown_set (grown_set (grown_set (grown_refl _ (some xb)) _ _) _ _) _ _) _ _) (kn_set HK9.out.blk m hm3 (clean s7.k m))
                have HFN : Hid (∀ j, j < 3 → Fine (knSet kn m (clean s7.k m) j) (s7.k j)) := fun j hj => by
                  by_cases hjm : j = m
                  · subst hjm
                    rw [knSet_self]
                    exact fine_clean _ _
                  · rw [knSet_ne _ _ _ _ hjm]
                    exact HFM.out j hj
                have HCN : Hid (∀ j, j < m + 1 → knSet kn m (clean s7.k m) j = clean s7.k j) := fun j hj => by
                  by_cases hjm : j = m
                  · subst hjm
                    rw [knSet_self]
                  · rw [knSet_ne _ _ _ _ hjm]
                    exact HCM.out j (by omega)
                clear HK9 HFM HCM
                go_wp2_with fail
                go_roundg (3 - (m + 1))
                case measure => have := HGM.out; omega
                case rel => exact ⟨m + 1, _, by omega, rfl, by go_num, HKN, HFN, HCN⟩
              · have HKE : Hid (Wk w wr fb sb7 xb J7 f7 s7 (clean s7.k)) := HKM.out.same (fun j hj => HCM.out j (by omega))
                have hmn : ¬ (m : Int) < 3 := by omega
                clear HKM HFM HCM
                go_wp2_with fail
                go_roundg (n - (k + 1))
                case measure => have := HG.out; omega
                case rel => exact ⟨k + 1, J7, f7, s7, sb7, by omega, rfl, by go_num, rfl, HKE, HI7, HO7, HS7⟩
    · go_wp2_with fail
      refine (stAwake_any _).mono ?_
      rintro e w4 ⟨rfl, h4⟩
      have H4 := Lib.hid (below_next HK.out.kp.below h4)
      clear h4
      go_wp2_with fail
      (try simp only [Exit.inBlock, Exit.then])
      go_ret
      exact ⟨rfl, H4.out⟩
end Go.Proofs.Ytngmnceahhlpkaa
