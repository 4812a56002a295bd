/- What a store's move answers: the walk. Conditions: the store and its flash lie in memory, each text is no longer than may be. -/
import Derived.Test.YtngmnceahhlpkaaSt5
import Derived.Deep.DeepCutAuto
namespace Go.Proofs.Ytngmnceahhlpkaa
open Go.RowKit
theorem recL_byte (i : Nat) (t : ByteArray) : ∀ x ∈ St.recL i t, x < 256 := by
  intro x hx
  unfold St.recL at hx
  simp only [List.mem_cons, List.mem_append, List.mem_nil_iff, or_false] at hx
  rcases hx with rfl | rfl | rfl | hx | rfl
  · omega
  · omega
  · omega
  · exact bytes_byte t x hx
  · omega
def St.pos (k : Kept) : Nat → Nat
  | 0 => 1
  | n + 1 => St.pos k n + St.size (k n)
theorem pos_all (k : Kept) : St.pos k 3 = St.all k := rfl
theorem pos_le (k : Kept) (n : Nat) (hn : n ≤ 3) : St.pos k n ≤ St.all k := by
  have hc : n = 0 ∨ n = 1 ∨ n = 2 ∨ n = 3 := by omega
  rw [← pos_all]
  rcases hc with rfl | rfl | rfl | rfl <;> simp only [St.pos] <;> omega
theorem StAt.moved {w : World} {sb fb : Nat} {s : St} (h : StAt w sb fb s) (k : Kept) (a c p : Nat) (ha : a ≤ 1) (hc : c < 256) (hp : p ≤ 4096) (hk : ∀ i t, k i = some t → t.size ≤ 2000) :
    StAt (((((((((w.setCell ⟨sb, 1, none⟩ (.int .i64 (a : Int))).setCell ⟨sb, 2, none⟩ (.int .u8 (c : Int))).setCell ⟨sb, 3, none⟩ (.int .i64 (p : Int))).setCell ⟨sb, 4, none⟩ (.bool (St.is (k 0)))).setCell ⟨sb, 5, none⟩ (.string (St.txt (k 0)))).setCell ⟨sb, 6, none⟩ (.bool (St.is (k 1)))).setCell ⟨sb, 7, none⟩ (.string (St.txt (k 1)))).setCell ⟨sb, 8, none⟩ (.bool (St.is (k 2)))).setCell ⟨sb, 9, none⟩ (.string (St.txt (k 2)))) sb fb { s with act := a, code := c, fin := p, k := k } :=
  ⟨(heap_setCell_at (heap_setCell_at (heap_setCell_at (heap_setCell_at (heap_setCell_at (heap_setCell_at (heap_setCell_at (heap_setCell_at (heap_setCell_at h.blk 1 _) 2 _) 3 _) 4 _) 5 _) 6 _) 7 _) 8 _) 9 _).trans (by simp [stA]), ⟨ha, hc, hp, hk⟩⟩
theorem folC_lt (b : Nat) : St.folC b < 256 := by
  unfold St.folC St.fol
  split
  · decide
  · split
    · decide
    · split <;> decide
theorem mv_cells {w0 W : World} {fb sb pb tb : Nat} {J : Option Nat} {f : Fl} {s : St} {k : Kept} {t : ByteArray} (h : Mv w0 W fb sb pb J f s k ∧ W.heap[tb]? = some (.cells #[.bool true, .string t] 101)) :
    W.cell? ⟨sb, 0, none⟩ = some (.pointer (some ⟨fb, 0, none⟩)) ∧ W.cell? ⟨tb, 1, none⟩ = some (.string t) := ⟨cell_at h.1.d.st.blk 0, cell_at h.2 1⟩
theorem mv_below {w0 W V : World} {fb sb pb tb : Nat} {J : Option Nat} {f : Fl} {s : St} {k : Kept} {t : ByteArray} (h : Mv w0 W fb sb pb J f s k ∧ W.heap[tb]? = some (.cells #[.bool true, .string t] 101)) (hb : Below W.heap.size W V) :
    Mv w0 V fb sb pb J f s k ∧ V.heap[tb]? = some (.cells #[.bool true, .string t] 101) := ⟨h.1.below hb, (hb.block tb (lt_of_at h.2)).trans h.2⟩
theorem mv_mine {w0 W V : World} {fb sb pb tb : Nat} {J : Option Nat} {f f' : Fl} {s : St} {k : Kept} {t : ByteArray} (h : Mv w0 W fb sb pb J f s k ∧ W.heap[tb]? = some (.cells #[.bool true, .string t] 101)) (ha : At V fb J f') (hg : W.grownBy V (some fb)) :
    Mv w0 V fb sb pb J f' s k ∧ V.heap[tb]? = some (.cells #[.bool true, .string t] 101) := ⟨h.1.mine ha hg, (hg.block tb (lt_of_at h.2) (fun e => (h.1.d.fl.ne_of h.2 (by decide) (by decide)).1 (Option.some.inj e).symm)).trans h.2⟩
def Mv3 (w0 : World) (fb sb pb : Nat) (J : Option Nat) (g : Fl) (s : St) (k : Kept) (to_ c : Nat) (v : Value) (wx : World) : Prop :=
  ∃ g3 e3, v = .int .i64 e3 ∧ g.program ((to_ * 4096 : Nat) : Int) [c] = (g3, e3) ∧ Mv w0 wx fb sb pb J g3 s k
set_option maxRecDepth 100000 in
set_option maxHeartbeats 1000000 in
theorem move_any (w0 w : World) (fb sb : Nat) (J : Option Nat) (f : Fl) (s : St) (k : Kept) (h : Duet w0 w fb sb J f s) (hk : ∀ i t, k i = some t → t.size ≤ 2000) (hall : St.all k ≤ 4096) :
    Calls Try.prog 55 #[.pointer (some ⟨sb, 0, none⟩), kV k] w (MovePost w0 fb sb J (St.move f s k)) := by
  have HK := Lib.hid hk
  have HALL := Lib.hid hall
  have HOK := Lib.hid h.st.ok
  have hact : (s.act : Int) ≤ 1 := by have := h.st.ok.act; omega
  have HM : Hid (Mv w0 (w.alloc (.cells (kC k) 102)) fb sb w.heap.size J f s k) := ⟨h.below (below_alloc1 w _), heap_alloc_new w _⟩
  have HBAD : Hid (∀ w' f' e, St.move f s k = (f', s, e) → Duet w0 w' fb sb J f' s → MovePost w0 fb sb J (St.move f s k) (.returned (.int .i64 e)) w') := by
    intro w' f' e hm hd
    rw [hm]
    exact ⟨rfl, hd⟩
  have HKC : Hid (kV k = .agg (kC k)) := rfl
  have hkv : (kV k) = .agg #[.bool (St.is (k 0)), .string (St.txt (k 0)), .bool (St.is (k 1)), .string (St.txt (k 1)), .bool (St.is (k 2)), .string (St.txt (k 2))] := rfl
  have k0 := cell_at HM.out.d.st.blk 0
  have k1 := cell_at HM.out.d.st.blk 1
  replace k0 : (w.alloc (.cells (kC k) 102)).cell? ⟨sb, 0, none⟩ = some (.pointer (some ⟨fb, 0, none⟩)) := k0
  replace k1 : (w.alloc (.cells (kC k) 102)).cell? ⟨sb, 1, none⟩ = some (.int .i64 (s.act : Int)) := k1
  clear h hk hall
  rw [hkv]
  clear hkv
  unfold kC at k0 k1 HM
  go_enter Try.func55, Try.ntmps55
  go_wp2_with fail
  refine (erase_any fb J f _ _ HM.out.d.fl).mono ?_
  rintro e w1 ⟨rfl, h1, g1⟩
  have HM1 := Lib.hid (HM.out.mine h1 g1)
  clear h1 g1 k0 k1 HM
  generalize w.heap.size = pb at *
  obtain ⟨to_, hto⟩ : ∃ n : Nat, (1 - (s.act : Int)) = (n : Int) := ⟨1 - s.act, by omega⟩
  rw [hto] at HM1 ⊢
  have HTO : Hid (to_ = 1 - s.act) := by unfold Hid; omega
  have htl : (to_ : Int) ≤ 1 := by omega
  clear hto hact
  obtain ⟨f1, e1, he⟩ : ∃ f1 e1, f.erase (to_ : Int) = (f1, e1) := ⟨_, _, rfl⟩
  have HE1 : Hid (f.erase ((1 - s.act : Nat) : Int) = (f1, e1)) := by unfold Hid; rw [← HTO.out]; exact he
  rw [he] at HM1 ⊢
  clear he
  by_cases hq : e1 = 0
  · subst hq
    have HM2 : Hid (Mv w0 w1 fb sb pb J f1 s k) := HM1.out
    clear HM1
    have p0 : w1.cell? ⟨pb, 0, none⟩ = some (.bool (St.is (k 0))) := cell_at HM2.out.pb 0
    have p1 : w1.cell? ⟨pb, 1, none⟩ = some (.string (St.txt (k 0))) := cell_at HM2.out.pb 1
    have p2 : w1.cell? ⟨pb, 2, none⟩ = some (.bool (St.is (k 1))) := cell_at HM2.out.pb 2
    have p3 : w1.cell? ⟨pb, 3, none⟩ = some (.string (St.txt (k 1))) := cell_at HM2.out.pb 3
    have p4 : w1.cell? ⟨pb, 4, none⟩ = some (.bool (St.is (k 2))) := cell_at HM2.out.pb 4
    have p5 : w1.cell? ⟨pb, 5, none⟩ = some (.string (St.txt (k 2))) := cell_at HM2.out.pb 5
    go_wp2_with fail
    clear p0 p1 p2 p3 p4 p5
    have hkv : Value.agg #[.bool (St.is (k 0)), .string (St.txt (k 0)), .bool (St.is (k 1)), .string (St.txt (k 1)), .bool (St.is (k 2)), .string (St.txt (k 2))] = kV k := rfl
    rw [hkv]
    clear hkv HKC
    go_loopg [29, 7] 3 (fun gh i v wr => ∃ (n p : Nat) (g : Fl), n ≤ 3 ∧ gh = 3 - n ∧ i = .int .i64 n ∧ v = .int .i64 p ∧ (p : Int) ≤ 6100 ∧ Hid (p = St.pos k n) ∧ Hid (Mv w0 wr fb sb pb J g s k) ∧ Hid (St.puts f1 (1 - s.act) k 0 3 1 = St.puts g (1 - s.act) k n (3 - n) p))
    case atStart => exact ⟨0, 1, f1, by omega, rfl, rfl, rfl, by omega, rfl, HM2, rfl⟩
    case round =>
      clear HM2
      obtain ⟨n, p, g, hn, hg, rfl, rfl, hp, HPB, HM2, HPU⟩ := hrel
      have HG := Lib.hid hg
      clear hg
      by_cases h3 : n < 3
      · have hlt : (n : Int) < 3 := by omega
        have hix := kV_index k n h3
        generalize kV k = kv at *
        cases hkn : k n with
        | none =>
          have HKN := Lib.hid hkn
          rw [show valV (k n) = .agg #[.bool false, .string ByteArray.empty] by rw [hkn]; rfl] at hix
          clear hkn
          go_wp2_with fail
          go_roundg (3 - (n + 1))
          case measure => have := HG.out; omega
          case rel => exact ⟨n + 1, p, g, by omega, rfl, rfl, rfl, hp, by have := HPB.out; unfold Hid; rw [this, St.pos, HKN.out]; rfl, HM2.out.below (below_alloc1 wr _), by unfold Hid; rw [HPU.out, show 3 - n = (3 - (n + 1)) + 1 by omega]; exact puts_none HKN.out⟩
        | some t =>
          have HKN := Lib.hid hkn
          have hts := HK.out n t hkn
          rw [show valV (k n) = .agg #[.bool true, .string t] by rw [hkn]; rfl] at hix
          clear hkn
          have HMA : Hid (Mv w0 (wr.alloc (.cells #[.bool true, .string t] 101)) fb sb pb J g s k) := HM2.out.below (below_alloc1 wr _)
          have c0 : (wr.alloc (.cells #[.bool true, .string t] 101)).cell? ⟨sb, 0, none⟩ = some (.pointer (some ⟨fb, 0, none⟩)) := cell_at HMA.out.d.st.blk 0
          have c1 : (wr.alloc (.cells #[.bool true, .string t] 101)).cell? ⟨wr.heap.size, 1, none⟩ = some (.string t) := cell_at (heap_alloc_new wr _) 1
          have c2 : (wr.alloc (.cells #[.bool true, .string t] 101)).cell? ⟨wr.heap.size, 0, none⟩ = some (.bool true) := cell_at (heap_alloc_new wr _) 0
          have HBT : Hid ((wr.alloc (.cells #[.bool true, .string t] 101)).heap[wr.heap.size]? = some (.cells #[.bool true, .string t] 101)) := heap_alloc_new wr _
          go_wp2_with fail
          clear HM2 hix
          generalize wr.heap.size = tb at *
          generalize (wr.alloc (.cells #[.bool true, .string t] 101)) = wA at *
          have HW : Hid (IntKind.i64.wrap (IntKind.i64.wrap ((to_ : Int) * 4096) + (p : Int)) = ((to_ * 4096 + p : Nat) : Int)) := by
            unfold Hid
            rw [IntKind.wrap_i64, IntKind.wrap_i64]
            omega
          have hS : wA.cell? ⟨sb, 0, none⟩ = some (.pointer (some ⟨fb, 0, none⟩)) ∧ wA.cell? ⟨tb, 1, none⟩ = some (.string t) := ⟨c0, c1⟩
          clear c0 c1 c2
          have hm0 : Mv w0 wA fb sb pb J g s k ∧ wA.heap[tb]? = some (.cells #[.bool true, .string t] 101) := ⟨HMA.out, HBT.out⟩
          clear HMA HBT
          go_region_held3 (fun u => u.cell? ⟨sb, 0, none⟩ = some (.pointer (some ⟨fb, 0, none⟩)) ∧ u.cell? ⟨tb, 1, none⟩ = some (.string t))
            (first | assumption)
            (first
              | (go_at_call 57; refine (record_any _ n t h3 hts).mono ?_; rintro e w3 ⟨rfl, hb3⟩; have hm3 := mv_below (mv_below hm0 (below_drewN wA 1)) hb3; have hs3 := mv_cells hm3)
              | (go_at_call 18; refine (program_any fb J g _ _ _ (show Mv w0 _ fb sb pb J g s k ∧ _ from by assumption).1.d.fl).mono ?_; rintro e w4 ⟨rfl, h4, g4⟩; have hm4 := mv_mine hm3 h4 g4; have hs4 := mv_cells hm4))
          rw [HW.out, bytes_str _ (recL_byte n t)] at hm4 ⊢
          have HM4 := Lib.hid hm4
          clear hS hm0 hb3 hm3 hs3 h4 g4 hm4 hs4 HW
          (try clear hHeld)
          obtain ⟨g2, e2, he⟩ : ∃ g2 e2, g.program ((to_ * 4096 + p : Nat) : Int) (St.recL n t) = (g2, e2) := ⟨_, _, rfl⟩
          rw [he] at HM4 ⊢
          have HE2 : Hid (g.program (((1 - s.act) * 4096 + p : Nat) : Int) (St.recL n t) = (g2, e2)) := by unfold Hid; rw [← HTO.out]; exact he
          clear he
          by_cases hq : e2 = 0
          · subst hq
            have HSZ : Hid (∀ w, Calls Try.prog 56 #[.agg #[.bool true, .string t]] w fun e w' => e = .returned (.int .i64 ((t.size + 4 : Nat) : Int)) ∧ Below w.heap.size w w') := fun w => size_any w (some t) (fun t' h' => by injection h' with h'; rw [← h']; exact hts)
            have t0 : w4.cell? ⟨tb, 0, none⟩ = some (.bool true) := cell_at HM4.out.2 0
            have t1 : w4.cell? ⟨tb, 1, none⟩ = some (.string t) := cell_at HM4.out.2 1
            go_wp2_with fail
            refine (HSZ.out _).mono ?_
            rintro e w5 ⟨rfl, hb5⟩
            have HM5 : Hid (Mv w0 w5 fb sb pb J g2 s k) := HM4.out.1.below hb5
            clear t0 t1 hb5 HM4
            obtain ⟨z, hz⟩ : ∃ z : Nat, t.size + 4 = z := ⟨_, rfl⟩
            rw [hz]
            have HZ := Lib.hid hz
            have hzz : (z : Int) ≤ 2004 := by omega
            clear hz
            have hp' : (p : Int) + (z : Int) ≤ 6100 := by have h1 := HPB.out; have h2 := pos_le k (n + 1) (by omega); have h3 := HALL.out; rw [St.pos, HKN.out] at h2; have h4 : St.size (some t) = t.size + 4 := rfl; have h5 := HZ.out; omega
            go_wp2_with fail
            go_roundg (3 - (n + 1))
            case measure => have := HG.out; omega
            case rel => exact ⟨n + 1, p + z, g2, by omega, rfl, rfl, by go_num, by omega, by have h1 := HPB.out; have h5 := HZ.out; unfold Hid; rw [St.pos, HKN.out, ← h1, ← h5]; rfl, HM5, by unfold Hid; rw [HPU.out, show 3 - n = (3 - (n + 1)) + 1 by omega, ← HZ.out]; exact puts_ok HKN.out HE2.out⟩
          · have hz : (e2 != 0) = true := by simp [hq]
            have hz2 : (e2 == 0) = false := by simp [hq]
            have HF := Lib.hid (HBAD.out w4 g2 e2 (move_bad2 HE1.out (by rw [HPU.out, show 3 - n = (3 - (n + 1)) + 1 by omega]; exact puts_bad HKN.out HE2.out hq) hq) HM4.out.1.d)
            clear HBAD HM4 HE1 HPU
            go_wp2_with fail
            (try simp only [Exit.inBlock, Exit.then])
            go_ret
            exact HF.out
      · obtain rfl : n = 3 := by omega
        have HPF : Hid (p ≤ 4096) := by
          have h1 := HPB.out
          have h2 := pos_le k 3 (by omega)
          have h3 := HALL.out
          unfold Hid
          omega
        have HPU2 : Hid (St.puts f1 (1 - s.act) k 0 3 1 = (g, p, 0)) := HPU.out
        have c2 : wr.cell? ⟨sb, 2, none⟩ = some (.int .u8 (s.code : Int)) := cell_at HM2.out.d.st.blk 2
        clear h3 HG HPU HPB HALL hn
        generalize kV k = kv at *
        go_wp2_with fail
        refine (follows_any _ s.code HOK.out.code).mono ?_
        rintro e w2 ⟨rfl, hb2⟩
        have HM3 : Hid (Mv w0 w2 fb sb pb J g s k) := HM2.out.below hb2
        clear HM2 c2 hb2
        obtain ⟨c, hc⟩ : ∃ c, St.folC s.code = c := ⟨_, rfl⟩
        have HC := Lib.hid hc
        rw [hc]
        clear hc
        generalize (St.fol s.code).isSome = iss at *
        have d0 : w2.cell? ⟨sb, 0, none⟩ = some (.pointer (some ⟨fb, 0, none⟩)) := cell_at HM3.out.d.st.blk 0
        have hcv : (convert 86 9 (.slice (some ⟨w2.heap.size, 0, none⟩) 1 1)).run Try.prog (w2.alloc (.cells #[.int .u8 (c : Int)] 5)).drew = .ok (.string (str [c])) (w2.alloc (.cells #[.int .u8 (c : Int)] 5)).drew := conv_list (w2.alloc (.cells #[.int .u8 (c : Int)] 5)).drew [(c : Int)] 1 rfl w2.heap.size (heap_alloc_new w2 _)
        have HBS : Hid (bytes (str [c]) = [c]) := bytes_str _ (fun x hx => by
          rw [List.mem_singleton.1 hx, ← HC.out]
          exact folC_lt _)
        have HM5 : Hid (Mv w0 (w2.alloc (.cells #[.int .u8 (c : Int)] 5)).drew fb sb pb J g s k) := (HM3.out.below (below_alloc1 w2 _)).below (below_drewN _ 1)
        have d1 : (w2.alloc (.cells #[.int .u8 (c : Int)] 5)).drew.cell? ⟨sb, 0, none⟩ = some (.pointer (some ⟨fb, 0, none⟩)) := cell_at HM5.out.d.st.blk 0
        have hsb := HM3.out.d.st.lt
        clear HM3
        go_upto_region 16 with fail
        go_cut [13] (Mv3 w0 fb sb pb J g s k to_ c)
        case first =>
          have HW1 : Hid (IntKind.i64.wrap ((to_ : Int) * 4096) = ((to_ * 4096 : Nat) : Int)) := by
            unfold Hid
            rw [IntKind.wrap_i64]
            omega
          have HW2 : Hid ((to_ : Int) * 4096 = ((to_ * 4096 : Nat) : Int)) := by
            unfold Hid
            omega
          clear HBAD
          go_wp2_with fail
          go_region_with (first | (go_at_call 18; refine (program_any fb J g _ _ _ HM5.out.d.fl).mono ?_; rintro e w4 ⟨rfl, h4, g4⟩) | (rw [hcv]))
          all_goals
            have hm6 := HM5.out.mine h4 g4
            first | rw [HW1.out, HBS.out] at hm6 ⊢ | rw [HW2.out, HBS.out] at hm6 ⊢
            have HM6 := Lib.hid hm6
            clear hm6 h4 g4 HM5 hcv HBS HW1 HW2 d0 d1
            go_wp2_with fail
            go_meet
            case rel => exact ⟨_, _, rfl, rfl, HM6.out⟩
        case rest =>
        obtain ⟨g3, e3, rfl, he, hm6⟩ := hcut
        have HM6 := Lib.hid hm6
        clear hm6 HM5 hcv HBS d0 d1
        have HE3 : Hid (g.program (((1 - s.act) * 4096 : Nat) : Int) [St.folC s.code] = (g3, e3)) := by unfold Hid; rw [← HTO.out, HC.out]; exact he
        clear he
        generalize wc = w4 at *
        by_cases hq : e3 = 0
        · subst hq
          have HMG := Lib.hid (move_good HE1.out HPU2.out HE3.out)
          have q0 : w4.cell? ⟨pb, 0, none⟩ = some (.bool (St.is (k 0))) := cell_at HM6.out.pb 0
          have q1 : w4.cell? ⟨pb, 1, none⟩ = some (.string (St.txt (k 0))) := cell_at HM6.out.pb 1
          have q2 : w4.cell? ⟨pb, 2, none⟩ = some (.bool (St.is (k 1))) := cell_at HM6.out.pb 2
          have q3 : w4.cell? ⟨pb, 3, none⟩ = some (.string (St.txt (k 1))) := cell_at HM6.out.pb 3
          have q4 : w4.cell? ⟨pb, 4, none⟩ = some (.bool (St.is (k 2))) := cell_at HM6.out.pb 4
          have q5 : w4.cell? ⟨pb, 5, none⟩ = some (.string (St.txt (k 2))) := cell_at HM6.out.pb 5
          have r1 : w4.cell? ⟨sb, 1, none⟩ = some (.int .i64 (s.act : Int)) := cell_at HM6.out.d.st.blk 1
          have r2 : w4.cell? ⟨sb, 2, none⟩ = some (.int .u8 (s.code : Int)) := cell_at HM6.out.d.st.blk 2
          have r3 : w4.cell? ⟨sb, 3, none⟩ = some (.int .i64 (s.fin : Int)) := cell_at HM6.out.d.st.blk 3
          have r4 : w4.cell? ⟨sb, 4, none⟩ = some (.bool (St.is (s.k 0))) := cell_at HM6.out.d.st.blk 4
          have r5 : w4.cell? ⟨sb, 5, none⟩ = some (.string (St.txt (s.k 0))) := cell_at HM6.out.d.st.blk 5
          have r6 : w4.cell? ⟨sb, 6, none⟩ = some (.bool (St.is (s.k 1))) := cell_at HM6.out.d.st.blk 6
          have r7 : w4.cell? ⟨sb, 7, none⟩ = some (.string (St.txt (s.k 1))) := cell_at HM6.out.d.st.blk 7
          have r8 : w4.cell? ⟨sb, 8, none⟩ = some (.bool (St.is (s.k 2))) := cell_at HM6.out.d.st.blk 8
          have r9 : w4.cell? ⟨sb, 9, none⟩ = some (.string (St.txt (s.k 2))) := cell_at HM6.out.d.st.blk 9
          have y1 := free_at HM6.out.d.st.blk 1
          have y2 := free_at HM6.out.d.st.blk 2
          have y3 := free_at HM6.out.d.st.blk 3
          have y4 := free_at HM6.out.d.st.blk 4
          have y5 := free_at HM6.out.d.st.blk 5
          have y6 := free_at HM6.out.d.st.blk 6
          have y7 := free_at HM6.out.d.st.blk 7
          have y8 := free_at HM6.out.d.st.blk 8
          have y9 := free_at HM6.out.d.st.blk 9
          have HTL : Hid (to_ ≤ 1) := by unfold Hid; omega
          have HCL : Hid (c < 256) := by unfold Hid; rw [← HC.out]; exact folC_lt _
          have HD := Lib.hid HM6.out.d
          have hpb : pb ≠ sb := by
            rintro rfl
            have hh := HM6.out.pb
            rw [HM6.out.d.st.blk] at hh
            injection hh with hh
            injection hh with _ hh
            exact absurd hh (by decide)
          have hpb2 : ¬ sb = pb := fun e => hpb e.symm
          clear HBAD HE3 HE1 HPU2 HM6
          go_wp2_with fail
          go_region
          have HST := Lib.hid (HD.out.st.moved k to_ c p HTL.out HCL.out HPF.out HK.out)
          have HGR : Hid (w4.grownBy (((((((((w4.setCell ⟨sb, 1, none⟩ (.int .i64 (to_ : Int))).setCell ⟨sb, 2, none⟩ (.int .u8 (c : Int))).setCell ⟨sb, 3, none⟩ (.int .i64 (p : Int))).setCell ⟨sb, 4, none⟩ (.bool (St.is (k 0)))).setCell ⟨sb, 5, none⟩ (.string (St.txt (k 0)))).setCell ⟨sb, 6, none⟩ (.bool (St.is (k 1)))).setCell ⟨sb, 7, none⟩ (.string (St.txt (k 1)))).setCell ⟨sb, 8, none⟩ (.bool (St.is (k 2)))).setCell ⟨sb, 9, none⟩ (.string (St.txt (k 2)))) (some sb)) :=
            grown_set (grown_set (grown_set (grown_set (grown_set (grown_set (grown_set (grown_set (grown_set (grown_refl w4 (some sb)) _ _) _ _) _ _) _ _) _ _) _ _) _ _) _ _) _ _
          have HF : Hid (MovePost w0 fb sb J (St.move f s k) (.returned (.int .i64 0)) (((((((((w4.setCell ⟨sb, 1, none⟩ (.int .i64 (to_ : Int))).setCell ⟨sb, 2, none⟩ (.int .u8 (c : Int))).setCell ⟨sb, 3, none⟩ (.int .i64 (p : Int))).setCell ⟨sb, 4, none⟩ (.bool (St.is (k 0)))).setCell ⟨sb, 5, none⟩ (.string (St.txt (k 0)))).setCell ⟨sb, 6, none⟩ (.bool (St.is (k 1)))).setCell ⟨sb, 7, none⟩ (.string (St.txt (k 1)))).setCell ⟨sb, 8, none⟩ (.bool (St.is (k 2)))).setCell ⟨sb, 9, none⟩ (.string (St.txt (k 2)))).drew) := by
            unfold Hid
            rw [HMG.out, ← HTO.out, HC.out]
            exact ⟨rfl, (HD.out.store HST.out HGR.out).below (below_drewN _ 1)⟩
          clear q0 q1 q2 q3 q4 q5 r1 r2 r3 r4 r5 r6 r7 r8 r9 y1 y2 y3 y4 y5 y6 y7 y8 y9 hpb hpb2 HST HGR HD HMG
          generalize ((((((((w4.setCell ⟨sb, 1, none⟩ (.int .i64 (to_ : Int))).setCell ⟨sb, 2, none⟩ (.int .u8 (c : Int))).setCell ⟨sb, 3, none⟩ (.int .i64 (p : Int))).setCell ⟨sb, 4, none⟩ (.bool (St.is (k 0)))).setCell ⟨sb, 5, none⟩ (.string (St.txt (k 0)))).setCell ⟨sb, 6, none⟩ (.bool (St.is (k 1)))).setCell ⟨sb, 7, none⟩ (.string (St.txt (k 1)))).setCell ⟨sb, 8, none⟩ (.bool (St.is (k 2)))).setCell ⟨sb, 9, none⟩ (.string (St.txt (k 2))) = w9 at *
          go_wp2_with fail
          (try simp only [Exit.inBlock, Exit.then])
          go_ret
          exact HF.out
        · have hz : (e3 != 0) = true := by simp [hq]
          have hz2 : (e3 == 0) = false := by simp [hq]
          have HF := Lib.hid (HBAD.out w4 g3 e3 (move_bad3 HE1.out HPU2.out HE3.out hq) HM6.out.d)
          clear HBAD HM6 HE1 HPU2 HE3
          go_wp2_with fail
          (try simp only [Exit.inBlock, Exit.then])
          go_ret
          exact HF.out
  · have hz : (e1 != 0) = true := by simp [hq]
    have hz2 : (e1 == 0) = false := by simp [hq]
    have HF := Lib.hid (HBAD.out w1 f1 e1 (move_bad1 HE1.out hq) HM1.out.d)
    clear HBAD HM1 HE1
    go_wp2_with fail
    (try simp only [Exit.inBlock, Exit.then])
    go_ret
    exact HF.out
end Go.Proofs.Ytngmnceahhlpkaa
