/- The walk of GroundTwo: it returns true and writes nothing that was there. Conditions: the numbers are of their kinds, the list lies in memory. -/
import Derived.Test.YtdbgnchjdbjonaaWalks2
namespace Go.Proofs.Ytdbgnchjdbjonaa
open Go.RowKit

/-- A step as the laws have it. -/
structure Lk where
  falling : Bool
  climb : Int
  fall : Int
  times : Int
/-- The list of steps is given by its cells. -/
structure Lks (w : World) (b off len : Nat) (xs : Nat → Lk) : Prop where
  c0 : ∀ i, i < len → w.cell? ⟨b, off + i * 4, none⟩ = some (.bool (xs i).falling)
  c1 : ∀ i, i < len → w.cell? ⟨b, off + i * 4 + 1, none⟩ = some (.int .i64 (xs i).climb)
  c2 : ∀ i, i < len → w.cell? ⟨b, off + i * 4 + 2, none⟩ = some (.int .i64 (xs i).fall)
  c3 : ∀ i, i < len → w.cell? ⟨b, off + i * 4 + 3, none⟩ = some (.int .i64 (xs i).times)
  lo : ∀ i, i < len → -9223372036854775808 ≤ (xs i).fall
  hi : ∀ i, i < len → (xs i).fall ≤ 9223372036854775807

theorem next_grows (s : Int) (f : Bool) (c l : Int) (h : 0 ≤ s) : next s f c l ≤ s + 1 := by unfold next; split <;> (try split) <;> omega

theorem det_alloc {w : World} {b : Nat} {s : Int} (h : Det w b s) (o : Obj) : Det (w.alloc o) b s :=
  det_below h ((Below.refl _ _).alloc (Nat.le_refl _) o)

set_option maxRecDepth 100000 in
set_option maxHeartbeats 1000000 in
theorem two_some (b off len cap : Nat) (xs : Nat → Lk) (w : World) (hlen : len ≤ 9223372036854775807) (hz : Lks w b off len xs) (hblt : b < w.heap.size) :
    Calls Try.prog 5 #[.slice (some ⟨b, off, none⟩) len cap] w fun e w' => e = .returned (.bool true) ∧ Below w.heap.size w w' := by
  go_enter Try.func5, Try.ntmps5
  go_wp2_with fail
  refine (new_any _).mono ?_
  rintro e w1 ⟨rfl, hd, hb, hlt⟩
  have HD := Lib.hid hd
  clear hd
  go_wp2_with fail
  refine (new_any _).mono ?_
  rintro e w2 ⟨rfl, hd2, hb2, hlt2⟩
  have HD2 := Lib.hid hd2
  clear hd2
  have HB := below_next hb hb2
  go_wp2_with fail
  go_loopw [5] (fun i wr => ∃ (k : Nat) (s : Int), k ≤ len ∧ i = .int .i64 k ∧ s ≤ k ∧ Det wr w.heap.size s ∧ Det wr w1.heap.size 0 ∧ Below w.heap.size w wr) (fun i _ => len - (intOf i).toNat)
  case atStart => exact ⟨0, 0, by omega, rfl, by omega, det_below HD.out hb2, HD2.out, HB⟩
  case round =>
    obtain ⟨k, s, hk, rfl, hs, hdr, hde, hbr⟩ := hrel
    have hs0 := hdr.lo
    have HDR := Lib.hid hdr
    have HDE := Lib.hid hde
    clear hdr hde HD HD2
    by_cases hkl : k < len
    · have e0 : wr.cell? ⟨b, off + k * 4, none⟩ = some (.bool (xs k).falling) := by rw [hbr.cell (p := ⟨b, off + k * 4, none⟩) hblt]; exact hz.c0 k hkl
      have e1 : wr.cell? ⟨b, off + k * 4 + 1, none⟩ = some (.int .i64 (xs k).climb) := by rw [hbr.cell (p := ⟨b, off + k * 4 + 1, none⟩) hblt]; exact hz.c1 k hkl
      have e2 : wr.cell? ⟨b, off + k * 4 + 2, none⟩ = some (.int .i64 (xs k).fall) := by rw [hbr.cell (p := ⟨b, off + k * 4 + 2, none⟩) hblt]; exact hz.c2 k hkl
      have e3 : wr.cell? ⟨b, off + k * 4 + 3, none⟩ = some (.int .i64 (xs k).times) := by rw [hbr.cell (p := ⟨b, off + k * 4 + 3, none⟩) hblt]; exact hz.c3 k hkl
      have hlo := hz.lo k hkl
      have hhi := hz.hi k hkl
      generalize (xs k).fall = l at *
      generalize (xs k).climb = c at *
      generalize (xs k).falling = f at *
      generalize (xs k).times = tm at *
      have hgr := next_grows s f c l hs0
      go_wp2_with fail
      clear e0 e1 e2 e3
      refine (step_any w.heap.size s f c l _ (det_alloc HDR.out _) (by omega) (by omega)).mono ?_
      rintro e w3 ⟨rfl, hd3, hg3⟩
      have HD3 := Lib.hid hd3
      have HE3 := Lib.hid (det_grown (det_alloc HDE.out _) hg3 (by omega))
      have HB3 := below_grown (hbr.alloc hbr.size _) hg3 (Nat.le_refl _)
      clear hd3 hg3 HDR HDE
      generalize next s f c l = s1 at *
      go_wp2_with fail
      refine (step_any w1.heap.size 0 false 0 0 _ HE3.out (by omega) (by omega)).mono ?_
      rintro e w4 ⟨rfl, hd4, hg4⟩
      rw [next_false 0 (show looks false 0 0 = false from rfl)] at hd4 ⊢
      have HE4 := Lib.hid hd4
      have HD4 := Lib.hid (det_grown HD3.out hg4 (by omega))
      have HB4 := below_grown HB3 hg4 (by omega)
      clear hd4 hg4 HD3 HE3 HB3
      go_wp2_with fail
      refine (seen_any w1.heap.size 0 _ HE4.out).mono ?_
      rintro e w5 ⟨rfl, rfl⟩
      go_wp2_with fail
      refine (seen_any w.heap.size s1 _ HD4.out).mono ?_
      rintro e w5 ⟨rfl, rfl⟩
      have hne : ¬ (k : Int) + 1 < s1 := by omega
      go_wp2_with fail
      go_roundw
      case rel => exact ⟨k + 1, s1, by omega, by go_num, by omega, HD4.out, HE4.out, HB4⟩
      case measure => simp [intOf]; omega
    · go_wp2_with fail
      refine (awake_any _).mono ?_
      rintro e w3 ⟨rfl, hb3⟩
      go_wp2_with fail
      go_ret
      exact ⟨rfl, below_next hbr hb3⟩

theorem two_empty (a : Option Addr) (cap : Nat) (w : World) :
    Calls Try.prog 5 #[.slice a 0 cap] w fun e w' => e = .returned (.bool true) ∧ Below w.heap.size w w' := by
  go_enter Try.func5, Try.ntmps5
  go_wp2_with fail
  refine (new_any _).mono ?_
  rintro e w1 ⟨rfl, _, hb, _⟩
  go_wp2_with fail
  refine (new_any _).mono ?_
  rintro e w2 ⟨rfl, _, hb2, _⟩
  have HB := below_next hb hb2
  go_wp2_with fail
  go_loop [5] (fun i => i = .int .i64 0) (fun _ => 0)
  case atStart => exact rfl
  case round =>
    subst hrel
    go_wp2_with fail
    refine (awake_any _).mono ?_
    rintro e w3 ⟨rfl, hb3⟩
    go_wp2_with fail
    go_ret
    exact ⟨rfl, below_next HB hb3⟩
end Go.Proofs.Ytdbgnchjdbjonaa
