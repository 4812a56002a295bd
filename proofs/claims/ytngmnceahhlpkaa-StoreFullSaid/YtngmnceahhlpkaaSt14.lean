/- The walk of StoreKeeps: true, in whatever world. Conditions: the deeds lie in memory. -/
import Derived.Test.YtngmnceahhlpkaaSt13
namespace Go.Proofs.Ytngmnceahhlpkaa
open Go.RowKit
set_option maxRecDepth 100000 in
theorem raised_nil {w W : World} {fb : Nat} {J : Option Nat} {f f' : Fl} {s : St} (h : Held w W fb J f) (hb : St.boot f.on = (f', some s, 0)) :
    Calls Try.prog 33 #[.pointer (some ⟨fb, 0, none⟩), .slice none 0 0] W fun e w' => ∃ sb, e = .returned (.tuple #[.pointer (some ⟨sb, 0, none⟩), .bool true]) ∧ Kp w w' fb sb J f'.on s := by
  have H := Lib.hid h
  have HB := Lib.hid hb
  clear h hb
  go_enter Try.func33, Try.ntmps33
  go_wp2_with fail
  go_loopg [6] 1 (fun gh v wr => gh = 1 ∧ v = .int .i64 0 ∧ wr = W)
  case atStart => exact ⟨rfl, rfl, rfl⟩
  case round =>
    obtain ⟨hg, rfl, rfl⟩ := hrel
    clear hg
    go_wp2_with fail
    refine (on_held H.out).mono ?_
    rintro e w1 ⟨rfl, h1⟩
    have H1 := Lib.hid h1
    clear h1 H
    go_wp2_with fail
    refine (boot_kp H1.out HB.out).mono ?_
    rintro e w2 ⟨sb, rfl, h2⟩
    have H2 := Lib.hid h2
    clear h2 H1
    go_wp2_with fail
    refine (on_kp H2.out).mono ?_
    rintro e w3 ⟨rfl, h3⟩
    have H3 := Lib.hid h3
    clear h3 H2
    go_wp2_with fail
    (try simp only [Exit.inBlock, Exit.then])
    go_ret2
    exact ⟨sb, rfl, H3.out⟩
/-- Behind the arming of a deed's cut. -/
def Put0 (w : World) (fb sb xb db : Nat) (s : St) (kn : Nat → K4) (d : Dd) (wx : World) : Prop :=
  ∃ J f, Wk w wx fb sb xb J f s kn ∧ f.off = false ∧ Inv f s ∧ wx.heap[db]? = some (.cells (ddC d) 64)
theorem dd_cells {W : World} {db : Nat} {did lf : Int} {val jk : ByteArray} {arm : Bool} {bo : Option Addr} {nb cb : Nat} (h : W.heap[db]? = some (.cells #[.int .i64 did, .string val, .bool arm, .int .i64 lf, .string jk, .slice bo nb cb] 64)) :
    W.cell? ⟨db, 0, none⟩ = some (.int .i64 did) ∧ W.cell? ⟨db, 1, none⟩ = some (.string val) ∧ W.cell? ⟨db, 2, none⟩ = some (.bool arm) ∧ W.cell? ⟨db, 3, none⟩ = some (.int .i64 lf) ∧ W.cell? ⟨db, 4, none⟩ = some (.string jk) ∧ W.cell? ⟨db, 5, none⟩ = some (.slice bo nb cb) :=
  ⟨cell_at h 0, cell_at h 1, cell_at h 2, cell_at h 3, cell_at h 4, cell_at h 5⟩
theorem fine_clean (k : Kept) (j : Nat) : Fine (clean k j) (k j) := .inl ⟨rfl, rfl⟩
theorem fine_ok (k : Kept) (i : Nat) (t : ByteArray) (j : Nat) : Fine (knSet (clean k) i ⟨true, t, false, noT⟩ j) (St.keep k i t j) := by
  unfold knSet St.keep
  by_cases h : j = i
  · rw [if_pos h, if_pos h]
    exact .inl ⟨rfl, rfl⟩
  · rw [if_neg h, if_neg h]
    exact fine_clean k j
theorem fine_cut (k k' : Kept) (i : Nat) (t : ByteArray) (h : k' = k ∨ k' = St.keep k i t) (j : Nat) : Fine (knSet (clean k) i ⟨(clean k i).is, (clean k i).s, true, t⟩ j) (k' j) := by
  unfold knSet
  by_cases hj : j = i
  · subst hj
    rw [if_pos rfl]
    rcases h with rfl | rfl
    · exact .inl ⟨rfl, rfl⟩
    · refine .inr ⟨rfl, ?_, ?_⟩
      · rw [keep_self]
        rfl
      · rw [keep_self]
        rfl
  · rw [if_neg hj]
    rcases h with rfl | rfl
    · exact fine_clean _ j
    · have e : St.keep k i t j = k j := if_neg hj
      rw [e]
      exact fine_clean k j
theorem Wk.same {w W : World} {fb sb xb : Nat} {J : Option Nat} {f : Fl} {s : St} {kn kn' : Nat → K4} (h : Wk w W fb sb xb J f s kn) (he : ∀ j, j < 3 → kn j = kn' j) : Wk w W fb sb xb J f s kn' :=
  ⟨h.kp, by rw [h.blk]; unfold knL; rw [he 0 (by decide), he 1 (by decide), he 2 (by decide)], h.nx⟩
theorem knSet_self (kn : Nat → K4) (i : Nat) (x : K4) : knSet kn i x i = x := if_pos rfl
theorem knSet_ne (kn : Nat → K4) (i j : Nat) (x : K4) (h : j ≠ i) : knSet kn i x j = kn j := if_neg h
/-- Behind a deed's put. -/
def Put9 (w : World) (fb xb : Nat) (v : Value) (wx : World) : Prop :=
  ∃ sb J f s kn, v = .pointer (some ⟨sb, 0, none⟩) ∧ Wk w wx fb sb xb J f s kn ∧ f.off = false ∧ s.stands = false ∧ Inv f s ∧ ∀ j, j < 3 → Fine (kn j) (s.k j)
set_option maxRecDepth 100000 in
set_option maxHeartbeats 1600000 in
theorem storeKeeps_any (w : World) (A : Option Addr) (n cap : Nat) (hd : DeedsIn w A n) : Calls Try.prog 10 #[.slice A n cap] w fun e w' => e = .returned (.bool true) ∧ Below w.heap.size w w' := by
  have HD := Lib.hid hd
  have hn := hd.1
  have hn2 : (n : Int) ≤ 9223372036854775807 := by omega
  clear hd
  obtain ⟨f0, e0, hi0, ho0, _⟩ := boot_new
  have HB0 : Hid (St.boot Fl.new.on = (f0, some St.st0, 0)) := e0
  have HI0 : Hid (Inv f0.on St.st0) := hi0.cells hi0.ok.on rfl
  clear e0 hi0 ho0
  go_enter Try.func10, Try.ntmps10
  go_wp2_with fail
  refine (new_held _).mono ?_
  rintro e w1 ⟨fb, rfl, h1⟩
  have H1 := Lib.hid h1
  clear h1
  go_wp2_with fail
  refine (raised_nil H1.out HB0.out).mono ?_
  rintro e w2 ⟨sb, rfl, h2⟩
  have H2 := Lib.hid h2
  clear h2 H1
  go_wp2_with fail
  have HK : Hid (Wk w (w2.alloc (.cells (knL (clean St.none_)) 59)) fb sb w2.heap.size none f0.on St.st0 (clean St.none_)) :=
    ⟨H2.out.keep (below_alloc1 w2 _), heap_alloc_new w2 _, H2.out.duet.wr.size⟩
  have hkl : knL (clean St.none_) = #[.bool false, .string { data := #[] }, .bool false, .string { data := #[] }, .bool false, .string { data := #[] }, .bool false, .string { data := #[] }, .bool false, .string { data := #[] }, .bool false, .string { data := #[] }] := rfl
  rw [hkl] at HK
  clear hkl H2
  generalize (w2.alloc (.cells #[.bool false, .string { data := #[] }, .bool false, .string { data := #[] }, .bool false, .string { data := #[] }, .bool false, .string { data := #[] }, .bool false, .string { data := #[] }, .bool false, .string { data := #[] }] 59)) = w3 at *
  generalize w2.heap.size = xb at *
  go_loopg [7, 4] n (fun gh v sv wr => ∃ (k : Nat) (J : Option Nat) (f : Fl) (s : St) (sb : Nat), k ≤ n ∧ gh = n - k ∧ v = .int .i64 k ∧ sv = .pointer (some ⟨sb, 0, none⟩) ∧ Hid (Wk w wr fb sb xb J f s (clean s.k)) ∧ Hid (Inv f s) ∧ Hid (f.off = false) ∧ Hid (s.stands = false))
  case atStart => exact ⟨0, none, f0.on, St.st0, sb, Nat.zero_le _, rfl, rfl, rfl, HK, HI0, rfl, rfl⟩
  case round =>
    clear HK HI0 HB0
    obtain ⟨k, J, f, s, sb, hk, hg, rfl, rfl, HK, HI, HO, HS⟩ := hrel
    have HG := Lib.hid hg
    clear hg
    by_cases hlt : k < n
    · obtain ⟨g, off, xs, hA, hL⟩ : ∃ g off xs, A = some ⟨g, off, none⟩ ∧ DeedL w g off n xs := by
        rcases HD.out.2 with h0 | h0
        · omega
        · exact h0
      subst hA
      have hlo := hL.ha k hlt
      have hjs := hL.hs k hlt
      have hbc := hL.hb k hlt
      have c0 := (HK.out.kp.below.cell (p := ⟨g, off + k * 6, none⟩) hL.lt).trans (hL.c0 k hlt)
      have c1 := (HK.out.kp.below.cell (p := ⟨g, off + k * 6 + 1, none⟩) hL.lt).trans (hL.c1 k hlt)
      have c2 := (HK.out.kp.below.cell (p := ⟨g, off + k * 6 + 2, none⟩) hL.lt).trans (hL.c2 k hlt)
      have c3 := (HK.out.kp.below.cell (p := ⟨g, off + k * 6 + 3, none⟩) hL.lt).trans (hL.c3 k hlt)
      have c4 := (HK.out.kp.below.cell (p := ⟨g, off + k * 6 + 4, none⟩) hL.lt).trans (hL.c4 k hlt)
      have c5 := (HK.out.kp.below.cell (p := ⟨g, off + k * 6 + 5, none⟩) hL.lt).trans (hL.c5 k hlt)
      clear hL
      generalize xs k = d at *
      obtain ⟨did, val, arm, lf, jk, bo, nb, cb⟩ := d
      replace c0 : wr.cell? ⟨g, off + k * 6, none⟩ = some (.int .i64 did) := c0
      replace c1 : wr.cell? ⟨g, off + k * 6 + 1, none⟩ = some (.string val) := c1
      replace c2 : wr.cell? ⟨g, off + k * 6 + 2, none⟩ = some (.bool arm) := c2
      replace c3 : wr.cell? ⟨g, off + k * 6 + 3, none⟩ = some (.int .i64 lf) := c3
      replace c4 : wr.cell? ⟨g, off + k * 6 + 4, none⟩ = some (.string jk) := c4
      replace c5 : wr.cell? ⟨g, off + k * 6 + 5, none⟩ = some (.slice bo nb cb) := c5
      have HLO : Hid (lf ≤ 9223372036854775807) := hlo
      have HJS : Hid (jk.size ≤ 140737488351232) := hjs
      have HBC : Hid (CutsIn w bo nb) := hbc
      clear hlo hjs hbc
      have HK1 : Hid (Wk w (wr.alloc (.cells #[.int .i64 did, .string val, .bool arm, .int .i64 lf, .string jk, .slice bo nb cb] 64)) fb sb xb J f s (clean s.k)) := HK.out.keep (below_alloc1 wr _)
      have HDB : Hid ((wr.alloc (.cells #[.int .i64 did, .string val, .bool arm, .int .i64 lf, .string jk, .slice bo nb cb] 64)).heap[wr.heap.size]? = some (.cells #[.int .i64 did, .string val, .bool arm, .int .i64 lf, .string jk, .slice bo nb cb] 64)) := heap_alloc_new wr _
      clear HK
      go_upto_region 12 with fail
      generalize (wr.alloc (.cells #[.int .i64 did, .string val, .bool arm, .int .i64 lf, .string jk, .slice bo nb cb] 64)) = w4 at *
      generalize wr.heap.size = db at *
      clear c0 c1 c2 c3 c4 c5
      obtain ⟨d0, d1, d2, d3, d4, d5⟩ := dd_cells HDB.out
      go_upto_if 37 with fail
      go_cut [9] (fun _ wx => Put0 w fb sb xb db s (clean s.k) ⟨did, val, arm, lf, jk, bo, nb, cb⟩ wx)
      case first =>
        cases arm with
        | true =>
          have HCU := Lib.hid (cut_wk HK1.out lf jk HLO.out HJS.out HO.out HI.out)
          go_wp2_with fail
          refine HCU.out.mono ?_
          rintro e w5 ⟨r, J5, f5, rfl, h5, ho5, hi5, hw5⟩
          have HP : Hid (Put0 w fb sb xb db s (clean s.k) ⟨did, val, true, lf, jk, bo, nb, cb⟩ w5) := ⟨J5, f5, h5, ho5, hi5, fr_keep HK1.out.kp hw5 HDB.out (by decide) (by decide) (by decide)⟩
          clear h5 ho5 hi5 hw5 HCU
          go_wp2_with fail
          go_meet
          case rel => exact HP.out
        | false =>
          go_wp2_with fail
          go_meet
          case rel => exact ⟨J, f, HK1.out, HO.out, HI.out, HDB.out⟩
      case rest =>
        clear HK1 HDB HO HI d0 d1 d2 d3 d4 d5
        obtain ⟨J5, f5, h5, ho5, hi5, hb5⟩ := hcut
        have HK5 := Lib.hid h5
        have HO5 := Lib.hid ho5
        have HI5 := Lib.hid hi5
        have HDB : Hid (wc.heap[db]? = some (.cells #[.int .i64 did, .string val, .bool arm, .int .i64 lf, .string jk, .slice bo nb cb] 64)) := hb5
        clear h5 ho5 hi5 hb5
        obtain ⟨d0, d1, d2, d3, d4, d5⟩ := dd_cells HDB.out
        obtain ⟨f6, s6, r6, hp6, hout6⟩ := put_out HI5.out HO5.out HS.out did val
        have HPW := Lib.hid (put_wk HK5.out did val hp6)
        clear hp6
        go_wp2_with fail
        refine HPW.out.mono ?_
        rintro e w6 ⟨rfl, h6, hw6⟩
        have HK6 := Lib.hid h6
        have HDB6 := Lib.hid (fr_keep HK5.out.kp hw6 HDB.out (by decide) (by decide) (by decide))
        clear h6 hw6 HPW HDB d0 d1 d2 d3 d4 d5 HK5
        obtain ⟨d0, d1, d2, d3, d4, d5⟩ := dd_cells HDB6.out
        rcases hout6 with ⟨hbad, rfl, rfl, rfl⟩ | ⟨hid0, hid3, hvs, hgood⟩
        · have HKE : Hid (Wk w w6 fb sb xb J5 f6 s6 (clean s6.k)) := HK6.out
          by_cases h0 : did < 0
          · have hn0 : ¬ (0 : Int) ≤ did := by omega
            clear hbad
            go_wp2_with fail
            go_roundg (n - (k + 1))
            case measure => have := HG.out; omega
            case rel => exact ⟨k + 1, J5, f6, s6, sb, by omega, rfl, by go_num, rfl, HKE, HI5, HO5, HS⟩
          · have hn0 : (0 : Int) ≤ did := by omega
            by_cases h3 : 3 ≤ did
            · have hn3 : ¬ did ≤ 2 := by omega
              clear hbad
              go_wp2_with fail
              go_roundg (n - (k + 1))
              case measure => have := HG.out; omega
              case rel => exact ⟨k + 1, J5, f6, s6, sb, by omega, rfl, by go_num, rfl, HKE, HI5, HO5, HS⟩
            · have hn3 : did ≤ 2 := by omega
              have hnv : ¬ (val.size : Int) ≤ 2000 := by omega
              have hnd : decide ((val.size : Int) ≤ 2000) = false := decide_eq_false hnv
              clear hbad
              go_wp2_with fail
              go_roundg (n - (k + 1))
              case measure => have := HG.out; omega
              case rel => exact ⟨k + 1, J5, f6, s6, sb, by omega, rfl, by go_num, rfl, HKE, HI5, HO5, HS⟩
        · obtain ⟨i, rfl⟩ : ∃ i : Nat, did = (i : Int) := ⟨did.toNat, by omega⟩
          rw [Int.toNat_natCast] at hgood
          have hi3 : i < 3 := by omega
          have HI3 := Lib.hid hi3
          have hi2 : (i : Int) ≤ 2 := by omega
          have hv2 : (val.size : Int) ≤ 2000 := by omega
          have hit : ((i : Int)).toNat = i := Int.toNat_natCast i
          have HGD := Lib.hid hgood
          have HIF : Hid (r6 = 70 → Inv f6 s6) := fun h => by
            rcases hgood with ⟨_, _, rfl, rfl⟩ | ⟨_, h2, _⟩ | ⟨_, h2, _⟩
            · exact HI5.out
            · rw [h2] at h; cases h
            · rw [h2] at h; cases h
          have HOF : Hid (r6 = 70 → f6.off = false) := fun h => by
            rcases hgood with ⟨_, _, rfl, rfl⟩ | ⟨_, h2, _⟩ | ⟨_, h2, _⟩
            · exact HO5.out
            · rw [h2] at h; cases h
            · rw [h2] at h; cases h
          clear hgood hvs hi3 HI5 HO5
          go_upto_if 71 with fail
          go_cut [4] (fun v wx => Put9 w fb xb v wx)
          case first =>
            have hlt3 : (i : Int) < 3 := by omega
            obtain ⟨x0, x1, x2, x3⟩ := kn_cell HK6.out.blk i HI3.out
            have y0 := free_at HK6.out.blk (i * 4)
            have y1 := free_at HK6.out.blk (i * 4 + 1)
            have y2 := free_at HK6.out.blk (i * 4 + 2)
            have y3 := free_at HK6.out.blk (i * 4 + 3)
            rcases HGD.out with ⟨_, rfl, rfl, rfl⟩ | ⟨_, rfl, ho6, _, hi6, hs6, hk6⟩ | ⟨_, rfl, _, _, hdk⟩
            · have HP : Hid (Put9 w fb xb (.pointer (some ⟨sb, 0, none⟩)) w6) := ⟨sb, J5, f6, s6, clean s6.k, rfl, HK6.out, HOF.out rfl, HS.out, HIF.out rfl, fun j _ => fine_clean _ j⟩
              clear HGD HK6
              go_wp2_with fail
              go_meet
              case rel => exact HP.out
            · have HP : Hid (Put9 w fb xb (.pointer (some ⟨sb, 0, none⟩)) ((((w6.setCell ⟨xb, i * 4, none⟩ (.bool true)).setCell ⟨xb, i * 4 + 1, none⟩ (.string val)).setCell ⟨xb, i * 4 + 2, none⟩ (.bool false)).setCell ⟨xb, i * 4 + 3, none⟩ (.string { data := #[] }))) :=
                ⟨sb, J5, f6, s6, knSet (clean s.k) i ⟨true, val, false, noT⟩, rfl, HK6.out.known (grown_set (grown_set (grown_set (grown_set (grown_refl w6 (some xb)) _ _) _ _) _ _) _ _) (kn_set HK6.out.blk i HI3.out ⟨true, val, false, noT⟩), ho6, hs6, hi6, fun j _ => by rw [hk6]; exact fine_ok s.k i val j⟩
              clear HGD HK6 ho6 hi6 hs6 hk6
              go_wp2_with fail
              go_meet
              case rel => exact HP.out
            · have HK7 : Hid (Wk w ((w6.setCell ⟨xb, i * 4 + 2, none⟩ (.bool true)).setCell ⟨xb, i * 4 + 3, none⟩ (.string val)) fb sb xb J5 f6 s6 (knSet (clean s.k) i ⟨(clean s.k i).is, (clean s.k i).s, true, val⟩)) :=
                HK6.out.known (grown_set (grown_set (grown_refl w6 (some xb)) _ _) _ _) (kn_late HK6.out.blk i HI3.out val)
              have HRW := Lib.hid (raised_wk HK7.out bo nb cb HBC.out)
              have HDK : Hid (Disk f6 s.k ∨ Disk f6 (St.keep s.k i val)) := hdk
              have hdx : ¬ xb = db := by
                rintro rfl
                have hh := HDB6.out
                rw [HK6.out.blk] at hh
                injection hh with hh
                injection hh with _ hh
                exact absurd hh (by decide)
              have hdx2 : ¬ db = xb := fun e => hdx e.symm
              clear HGD HK6 hdk
              go_wp2_with fail
              refine HRW.out.mono ?_
              rintro e w8 ⟨sb8, J8, f8, s8, rfl, h8, _, hi8, ho8, hs8, hk8⟩
              have HP : Hid (Put9 w fb xb (.pointer (some ⟨sb8, 0, none⟩)) w8) := ⟨sb8, J8, f8, s8, _, rfl, h8, ho8, hs8, hi8, fun j _ => fine_cut s.k s8.k i val (by
                rcases HDK.out with h | h
                · exact .inl (hk8 _ h)
                · exact .inr (hk8 _ h)) j⟩
              clear h8 hi8 ho8 hs8 hk8 HRW HK7 HDK
              go_wp2_with fail
              go_meet
              case rel => exact HP.out
          case rest =>
            obtain ⟨sb7, J7, f7, s7, kn7, rfl, h7, ho7, hs7, hi7, hf7⟩ := hcut
            have HK7 := Lib.hid h7
            have HO7 := Lib.hid ho7
            have HS7 := Lib.hid hs7
            have HI7 := Lib.hid hi7
            have HF7 := Lib.hid hf7
            clear h7 ho7 hs7 hi7 hf7 HGD HK6 HDB6 d0 d1 d2 d3 d4 d5 HIF HOF HS
            go_wp2_with fail
            go_loopg [13] 3 (fun gh v wx => ∃ (m : Nat) (kn : Nat → K4), m ≤ 3 ∧ gh = 3 - m ∧ v = .int .i64 m ∧ Hid (Wk w wx fb sb7 xb J7 f7 s7 kn) ∧ Hid (∀ j, j < 3 → Fine (kn j) (s7.k j)) ∧ Hid (∀ j, j < m → kn j = clean s7.k j))
            case atStart => exact ⟨0, kn7, by omega, rfl, rfl, HK7, HF7, fun j hj => absurd hj (Nat.not_lt_zero _)⟩
            case round =>
              clear HK7 HF7
              obtain ⟨m, kn, hm, hgm, rfl, HKM, HFM, HCM⟩ := hrel
              have HGM := Lib.hid hgm
              clear hgm
              by_cases hm3 : m < 3
              · have hmi : (m : Int) < 3 := by omega
                have hmg : (0 : Int) ≤ (m : Int) := by omega
                have hmt : ((m : Int)).toNat = m := Int.toNat_natCast m
                have HTD := Lib.hid (told_wk HKM.out HS7.out m hm3 (HFM.out m hm3))
                obtain ⟨x0, x1, x2, x3⟩ := kn_cell HKM.out.blk m hm3
                go_wp2_with fail
                refine HTD.out.mono ?_
                rintro e w9 ⟨rfl, h9⟩
                have HK9 : Hid (Wk w (w9.alloc (.cells #[.bool (St.is (s7.k m)), .string (St.txt (s7.k m)), .bool false, .string { data := #[] }] 58)) fb sb7 xb J7 f7 s7 kn) := h9.keep (below_alloc1 w9 _)
                clear h9 HTD x0 x1 x2 x3 HKM
                obtain ⟨x0, x1, x2, x3⟩ := kn_cell HK9.out.blk m hm3
                have y0 := free_at HK9.out.blk (m * 4)
                have y1 := free_at HK9.out.blk (m * 4 + 1)
                have y2 := free_at HK9.out.blk (m * 4 + 2)
                have y3 := free_at HK9.out.blk (m * 4 + 3)
                have HKN : Hid (Wk w (((((w9.alloc (.cells #[.bool (St.is (s7.k m)), .string (St.txt (s7.k m)), .bool false, .string { data := #[] }] 58)).setCell ⟨xb, m * 4, none⟩ (.bool (St.is (s7.k m)))).setCell ⟨xb, m * 4 + 1, none⟩ (.string (St.txt (s7.k m)))).setCell ⟨xb, m * 4 + 2, none⟩ (.bool false)).setCell ⟨xb, m * 4 + 3, none⟩ (.string { data := #[] })) fb sb7 xb J7 f7 s7 (knSet kn m (clean s7.k m))) :=
                  HK9.out.known (grown_set (grown_set (grown_set (grown_set (grown_refl _ (some xb)) _ _) _ _) _ _) _ _) (kn_set HK9.out.blk m hm3 (clean s7.k m))
                have HFN : Hid (∀ j, j < 3 → Fine (knSet kn m (clean s7.k m) j) (s7.k j)) := fun j hj => by
                  by_cases hjm : j = m
                  · subst hjm
                    rw [knSet_self]
                    exact fine_clean _ _
                  · rw [knSet_ne _ _ _ _ hjm]
                    exact HFM.out j hj
                have HCN : Hid (∀ j, j < m + 1 → knSet kn m (clean s7.k m) j = clean s7.k j) := fun j hj => by
                  by_cases hjm : j = m
                  · subst hjm
                    rw [knSet_self]
                  · rw [knSet_ne _ _ _ _ hjm]
                    exact HCM.out j (by omega)
                clear HK9 HFM HCM
                go_wp2_with fail
                go_roundg (3 - (m + 1))
                case measure => have := HGM.out; omega
                case rel => exact ⟨m + 1, _, by omega, rfl, by go_num, HKN, HFN, HCN⟩
              · have HKE : Hid (Wk w wr fb sb7 xb J7 f7 s7 (clean s7.k)) := HKM.out.same (fun j hj => HCM.out j (by omega))
                have hmn : ¬ (m : Int) < 3 := by omega
                clear HKM HFM HCM
                go_wp2_with fail
                go_roundg (n - (k + 1))
                case measure => have := HG.out; omega
                case rel => exact ⟨k + 1, J7, f7, s7, sb7, by omega, rfl, by go_num, rfl, HKE, HI7, HO7, HS7⟩
    · go_wp2_with fail
      refine (stAwake_any _).mono ?_
      rintro e w4 ⟨rfl, h4⟩
      have H4 := Lib.hid (below_next HK.out.kp.below h4)
      clear h4
      go_wp2_with fail
      (try simp only [Exit.inBlock, Exit.then])
      go_ret
      exact ⟨rfl, H4.out⟩
end Go.Proofs.Ytngmnceahhlpkaa
