/- The walk of GroundNever: it returns true and writes nothing that was there. Conditions: the numbers are of their kinds, the list lies in memory. -/
import Derived.Test.YtdbgnchjdbjonaaWalks1
namespace Go.Proofs.Ytdbgnchjdbjonaa
open Go.RowKit

theorem next_false {f : Bool} {c l : Int} (s : Int) (h : looks f c l = false) : next s f c l = 0 := by unfold next; rw [h]; rfl

/-- Nothing falls: the rest is awake's. -/
theorem never_below (a : Option Addr) (len cap : Nat) (fall : Int) (w : World) (h : fall < 0) :
    Calls Try.prog 4 #[.int .i64 fall, .slice a len cap] w fun e w' => e = .returned (.bool true) ∧ Below w.heap.size w w' := by
  go_enter Try.func4, Try.ntmps4
  go_wp2_with fail
  refine (new_any _).mono ?_
  rintro e w1 ⟨rfl, _, hb, _⟩
  go_wp2_with fail
  refine (awake_any _).mono ?_
  rintro e w2 ⟨rfl, hb2⟩
  go_wp2_with fail
  go_ret
  exact ⟨rfl, below_next hb hb2⟩

/-- The list is given by its cells. -/
structure Ints (w : World) (b off len : Nat) (zs : List Int) : Prop where
  cell : ∀ i, i < len → w.cell? ⟨b, off + i, none⟩ = some (.int .i64 (zs.getD i 0))
  lo : ∀ i, -9223372036854775808 ≤ zs.getD i 0
  hi : ∀ i, zs.getD i 0 ≤ 9223372036854775807

theorem never_empty (a : Option Addr) (cap : Nat) (fall : Int) (w : World) (h : ¬ fall < 0) :
    Calls Try.prog 4 #[.int .i64 fall, .slice a 0 cap] w fun e w' => e = .returned (.bool true) ∧ Below w.heap.size w w' := by
  go_enter Try.func4, Try.ntmps4
  go_wp2_with fail
  refine (new_any _).mono ?_
  rintro e w1 ⟨rfl, _, hb, _⟩
  go_wp2_with fail
  go_loop [6] (fun i => i = .int .i64 0) (fun _ => 0)
  case atStart => exact rfl
  case round =>
    subst hrel
    go_wp2_with fail
    refine (awake_any _).mono ?_
    rintro e w2 ⟨rfl, hb2⟩
    go_wp2_with fail
    go_ret
    exact ⟨rfl, below_next hb hb2⟩

set_option maxRecDepth 100000 in
set_option maxHeartbeats 1000000 in
theorem never_some (b off len cap : Nat) (zs : List Int) (fall : Int) (w : World) (h0 : 0 ≤ fall) (h1 : fall ≤ 9223372036854775807) (hlen : len ≤ 9223372036854775807) (hz : Ints w b off len zs) (hblt : b < w.heap.size) :
    Calls Try.prog 4 #[.int .i64 fall, .slice (some ⟨b, off, none⟩) len cap] w fun e w' => e = .returned (.bool true) ∧ Below w.heap.size w w' := by
  go_enter Try.func4, Try.ntmps4
  go_wp2_with fail
  refine (new_any _).mono ?_
  rintro e w1 ⟨rfl, hd, hb, hlt⟩
  have HD := Lib.hid hd
  clear hd
  go_wp2_with fail
  go_loopw [6] (fun i wr => ∃ k : Nat, k ≤ len ∧ i = .int .i64 k ∧ Det wr w.heap.size 0 ∧ Below w.heap.size w wr) (fun i _ => len - (intOf i).toNat)
  case atStart => exact ⟨0, by omega, rfl, HD.out, hb⟩
  case round =>
    obtain ⟨k, hk, rfl, hdr, hbr⟩ := hrel
    have HDR := Lib.hid hdr
    clear hdr
    by_cases hkl : k < len
    · have hcell : wr.cell? ⟨b, off + k, none⟩ = some (.int .i64 (zs.getD k 0)) := by rw [hbr.cell (p := ⟨b, off + k, none⟩) hblt]; exact hz.cell k hkl
      have hlo := hz.lo k
      have hhi := hz.hi k
      generalize zs.getD k 0 = c at *
      by_cases hc : -(fall / 2) ≤ c
      · go_wp2_with fail
        refine (step_any w.heap.size 0 false c fall _ HDR.out (by omega) (by omega)).mono ?_
        rintro e w2 ⟨rfl, hd2, hg2⟩
        rw [next_false 0 (show looks false c fall = false from rfl)] at hd2 ⊢
        have HD2 := Lib.hid hd2
        have HG2 := Lib.hid hg2
        clear hd2 hg2
        go_wp2_with fail
        refine (seen_any w.heap.size 0 _ HD2.out).mono ?_
        rintro e w3 ⟨rfl, rfl⟩
        go_wp2_with fail
        go_roundw
        case rel => exact ⟨k + 1, by omega, by go_num, HD2.out, below_grown hbr HG2.out (Nat.le_refl _)⟩
        case measure => simp [intOf]; omega
      · have HL : Hid (looks true c fall = false) := by
          unfold Hid looks
          rw [Int.tdiv_eq_ediv_of_nonneg h0]
          simp
          omega
        go_wp2_with fail
        refine (step_any w.heap.size 0 true c fall _ HDR.out (by omega) (by omega)).mono ?_
        rintro e w2 ⟨rfl, hd2, hg2⟩
        rw [next_false 0 HL.out] at hd2 ⊢
        have HD2 := Lib.hid hd2
        have HG2 := Lib.hid hg2
        clear hd2 hg2
        go_wp2_with fail
        refine (seen_any w.heap.size 0 _ HD2.out).mono ?_
        rintro e w3 ⟨rfl, rfl⟩
        go_wp2_with fail
        go_roundw
        case rel => exact ⟨k + 1, by omega, by go_num, HD2.out, below_grown hbr HG2.out (Nat.le_refl _)⟩
        case measure => simp [intOf]; omega
    · go_wp2_with fail
      refine (awake_any _).mono ?_
      rintro e w2 ⟨rfl, hb2⟩
      go_wp2_with fail
      go_ret
      exact ⟨rfl, below_next hbr hb2⟩
end Go.Proofs.Ytdbgnchjdbjonaa
