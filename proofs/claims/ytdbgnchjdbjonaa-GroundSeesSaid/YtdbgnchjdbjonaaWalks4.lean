/- The walk of GroundSees: it returns true and writes nothing that was there. Conditions: the numbers are of their kinds, the list lies in memory. -/
import Derived.Test.YtdbgnchjdbjonaaRef
import Derived.Test.YtdbgnchjdbjonaaOpens
namespace Go.Proofs.Ytdbgnchjdbjonaa
open Go.RowKit

/-- A step's own copy, block g. -/
structure Copy (w : World) (g : Nat) (x : Lk) : Prop where
  c0 : w.cell? ⟨g, 0, none⟩ = some (.bool x.falling)
  c1 : w.cell? ⟨g, 1, none⟩ = some (.int .i64 x.climb)
  c2 : w.cell? ⟨g, 2, none⟩ = some (.int .i64 x.fall)
  c3 : w.cell? ⟨g, 3, none⟩ = some (.int .i64 x.times)
  lt : g < w.heap.size
theorem Copy.kept {w w1 : World} {g : Nat} {x : Lk} (h : Copy w g x) (hb : w1.heap[g]? = w.heap[g]?) (hz : w.heap.size ≤ w1.heap.size) : Copy w1 g x := by
  have hc : ∀ o, w1.cell? ⟨g, o, none⟩ = w.cell? ⟨g, o, none⟩ := fun o => by simp [World.cell?, hb]
  exact ⟨(hc 0).trans h.c0, (hc 1).trans h.c1, (hc 2).trans h.c2, (hc 3).trans h.c3, Nat.lt_of_lt_of_le h.lt hz⟩

set_option maxRecDepth 100000 in
set_option maxHeartbeats 2000000 in
theorem sees_some (b off len cap : Nat) (xs : Nat → Lk) (w : World) (hlen : len ≤ 9223372036854775807) (hz : Lks w b off len xs) (hblt : b < w.heap.size) :
    Calls Try.prog 3 #[.slice (some ⟨b, off, none⟩) len cap] w fun e w' => e = .returned (.bool true) ∧ Below w.heap.size w w' := by
  go_enter Try.func3, Try.ntmps3
  go_wp2_with fail
  refine (new_any _).mono ?_
  rintro e w1 ⟨rfl, hd, hb, hlt⟩
  have HD := Lib.hid hd
  clear hd
  go_wp2_with fail
  go_loopw [4, 5] (fun q i wr => ∃ (k : Nat) (s : Int), k ≤ len ∧ i = .int .i64 k ∧ q = .int .i64 s ∧ Det wr w.heap.size s ∧ Below w.heap.size w wr) (fun _ i _ => len - (intOf i).toNat)
  case atStart => exact ⟨0, 0, by omega, rfl, rfl, HD.out, hb⟩
  case round =>
    obtain ⟨k, s, hk, rfl, rfl, hdr, hbr⟩ := hrel
    obtain ⟨wo, rfl⟩ : ∃ wo : World, wo = wr := ⟨_, rfl⟩
    have HDR := Lib.hid hdr
    clear hdr HD
    by_cases hkl : k < len
    · have e0 : wo.cell? ⟨b, off + k * 4, none⟩ = some (.bool (xs k).falling) := by rw [hbr.cell (p := ⟨b, off + k * 4, none⟩) hblt]; exact hz.c0 k hkl
      have e1 : wo.cell? ⟨b, off + k * 4 + 1, none⟩ = some (.int .i64 (xs k).climb) := by rw [hbr.cell (p := ⟨b, off + k * 4 + 1, none⟩) hblt]; exact hz.c1 k hkl
      have e2 : wo.cell? ⟨b, off + k * 4 + 2, none⟩ = some (.int .i64 (xs k).fall) := by rw [hbr.cell (p := ⟨b, off + k * 4 + 2, none⟩) hblt]; exact hz.c2 k hkl
      have e3 : wo.cell? ⟨b, off + k * 4 + 3, none⟩ = some (.int .i64 (xs k).times) := by rw [hbr.cell (p := ⟨b, off + k * 4 + 3, none⟩) hblt]; exact hz.c3 k hkl
      have hlo := hz.lo k hkl
      have hhi := hz.hi k hkl
      generalize xs k = x at *
      have HC : Hid (Copy (wo.alloc (.cells #[.bool x.falling, .int .i64 x.climb, .int .i64 x.fall, .int .i64 x.times] 26)) wo.heap.size x) :=
        ⟨by simp [go_sem], by simp [go_sem], by simp [go_sem], by simp [go_sem], by simp⟩
      have HDA := Lib.hid (det_alloc HDR.out (.cells #[.bool x.falling, .int .i64 x.climb, .int .i64 x.fall, .int .i64 x.times] 26))
      have HBA := Lib.hid (hbr.alloc hbr.size (.cells #[.bool x.falling, .int .i64 x.climb, .int .i64 x.fall, .int .i64 x.times] 26))
      have hne : w.heap.size < wo.heap.size := HDR.out.lt
      go_wp2_with fail
      clear e0 e1 e2 e3
      go_loopw [4, 7] (fun q i wi => ∃ (n : Nat) (s : Int), n ≤ 100 ∧ i = .int .i64 n ∧ q = .int .i64 s ∧ Det wi w.heap.size s ∧ Copy wi wo.heap.size x ∧ Below w.heap.size w wi) (fun _ i _ => 100 - (intOf i).toNat)
      case atStart => exact ⟨0, s, by omega, rfl, rfl, HDA.out, HC.out, HBA.out⟩
      case round =>
        clear HDA HC HBA HDR
        obtain ⟨n, s1, hn, rfl, rfl, hdi, hci, hbi⟩ := hrel
        have i0 := hci.c0
        have i1 := hci.c1
        have i2 := hci.c2
        have i3 := hci.c3
        have s0 := hdi.lo
        have s9 := hdi.hi
        have hgl := hci.lt
        have HDI := Lib.hid hdi
        have HCI := Lib.hid hci
        clear hdi hci
        by_cases hc : (n : Int) < x.times ∧ (n : Int) < 100
        · have hc1 := hc.1
          have hc2 := hc.2
          clear hc
          go_wp2_with fail
          refine (step_any w.heap.size s1 x.falling x.climb x.fall _ HDI.out hlo hhi).mono ?_
          rintro e w3 ⟨rfl, hd3, hg3⟩
          have HC3 := Lib.hid (HCI.out.kept (hg3.block _ HCI.out.lt (by simp; omega)) hg3.size)
          have hb3 := below_grown hbi hg3 (Nat.le_refl _)
          have HD3 := Lib.hid hd3
          have j0 := HC3.out.c0
          have j1 := HC3.out.c1
          have j2 := HC3.out.c2
          clear hd3 hg3 HDI HCI i0 i1 i2 i3
          go_wp2_with fail
          clear j0 j1 j2
          refine (rstep_any s1 x.falling x.climb x.fall s0 s9 hlo hhi _).mono ?_
          rintro e w4 ⟨rfl, hb4⟩
          have HC4 := Lib.hid (HC3.out.kept (hb4.block _ HC3.out.lt) hb4.size)
          have HD4 := Lib.hid (det_below HD3.out hb4)
          have hb5 := below_next hb3 hb4
          clear HC3 HD3 hb4 hb3 hbi
          generalize next s1 x.falling x.climb x.fall = s2 at *
          go_wp2_with fail
          refine (seen_any w.heap.size s2 _ HD4.out).mono ?_
          rintro e w5 ⟨rfl, rfl⟩
          go_wp2_with fail
          go_roundw
          case rel => exact ⟨n + 1, s2, by omega, by go_num, rfl, HD4.out, HC4.out, hb5⟩
          case measure => simp [intOf]; omega
        · rcases Int.lt_or_le (n : Int) x.times with h1 | h1
          · have h2 : ¬ (n : Int) < 100 := fun h => hc ⟨h1, h⟩
            clear hc
            go_wp2_with fail
            go_roundw
            case rel => exact ⟨k + 1, s1, by omega, by go_num, rfl, HDI.out, hbi⟩
            case measure => simp [intOf]; omega
          · have h2 : ¬ (n : Int) < x.times := by omega
            clear hc
            go_wp2_with fail
            go_roundw
            case rel => exact ⟨k + 1, s1, by omega, by go_num, rfl, HDI.out, hbi⟩
            case measure => simp [intOf]; omega
    · go_wp2_with fail
      refine (awake_any _).mono ?_
      rintro e w2 ⟨rfl, hb2⟩
      go_wp2_with fail
      go_ret
      exact ⟨rfl, below_next hbr hb2⟩

theorem sees_empty (a : Option Addr) (cap : Nat) (w : World) :
    Calls Try.prog 3 #[.slice a 0 cap] w fun e w' => e = .returned (.bool true) ∧ Below w.heap.size w w' := by
  go_enter Try.func3, Try.ntmps3
  go_wp2_with fail
  refine (new_any _).mono ?_
  rintro e w1 ⟨rfl, _, hb, _⟩
  go_wp2_with fail
  go_loop [5] (fun i => i = .int .i64 0) (fun _ => 0)
  case atStart => exact rfl
  case round =>
    subst hrel
    go_wp2_with fail
    refine (awake_any _).mono ?_
    rintro e w3 ⟨rfl, hb3⟩
    go_wp2_with fail
    go_ret
    exact ⟨rfl, below_next hb hb3⟩
open Go.ChangeShapes Go.WideShapes in
theorem sees_walk {H : Type} {enc : TypeId × Value → H} (a : Option Addr) (len cap : Nat) (d : DataW H) (p : List MemPlace) (w : World) (h : DataW.Trod enc Try.prog w 0 (fun _ => true) true 22 (.slice a len cap) d p) :
    Calls Try.prog 3 #[.slice a len cap] w fun e w' => e = .returned (.bool true) ∧ Below w.heap.size w w' := by
  rcases lks_of h with rfl | ⟨b, off, xs, rfl, hb, hl, hx⟩
  · exact sees_empty a cap w
  · exact sees_some b off len cap xs w hl hx hb
end Go.Proofs.Ytdbgnchjdbjonaa
