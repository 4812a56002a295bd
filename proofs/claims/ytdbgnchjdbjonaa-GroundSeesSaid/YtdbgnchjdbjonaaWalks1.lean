/- The walks of GroundNil and GroundNever, and of awake: each returns true and writes nothing that was there. Conditions: the numbers are of their kinds, the list lies in memory. -/
import Derived.Test.YtdbgnchjdbjonaaDet
namespace Go.Proofs.Ytdbgnchjdbjonaa
open Go.RowKit

theorem ret_bool {a b : Bool} (h : a = b) : Ending.returned (.bool a) = .returned (.bool b) := by rw [h]
theorem below_next {w w1 w2 : World} (h1 : Below w.heap.size w w1) (h2 : Below w1.heap.size w1 w2) : Below w.heap.size w w2 := h1.trans (h2.mono h1.size)
/-- A step of a block that lies from w's end on. -/
theorem below_grown {w w1 w2 : World} {b : Nat} (h1 : Below w.heap.size w w1) (h2 : w1.grownBy w2 (some b)) (hb : w.heap.size ≤ b) : Below w.heap.size w w2 :=
  h1.grown h2 h1.size (fun k hk => by injection hk with hk; omega)
theorem det_below {w w1 : World} {b : Nat} {s : Int} (h : Det w b s) (hb : Below w.heap.size w w1) : Det w1 b s := h.kept (hb.block b h.lt)
theorem det_grown {w w1 : World} {b g : Nat} {s : Int} (h : Det w b s) (hb : w.grownBy w1 (some g)) (hne : b ≠ g) : Det w1 b s := h.kept (hb.block b h.lt (by simpa using hne))

theorem next_yes (s : Int) : next s true 0 8000 = if 65535 < s + 1 then 65535 else s + 1 := rfl
theorem next_no (s c l : Int) : next s false c l = 0 := rfl

set_option maxRecDepth 100000 in
set_option maxHeartbeats 1000000 in
theorem awake_any (w : World) : Calls Try.prog 11 #[] w fun e w' => e = .returned (.bool true) ∧ Below w.heap.size w w' := by
  go_enter Try.func11, Try.ntmps11
  go_wp2_with fail
  refine (new_any _).mono ?_
  rintro e w1 ⟨rfl, hd, hb, hlt⟩
  have HD := Lib.hid hd
  clear hd
  go_wp2_with fail
  go_loopw [2] (fun i wr => ∃ k : Nat, k ≤ 39 ∧ i = .int .i64 k ∧ Det wr w.heap.size (k : Int) ∧ Below w.heap.size w wr) (fun i _ => 39 - (intOf i).toNat)
  case atStart => exact ⟨0, by omega, rfl, HD.out, hb⟩
  case round =>
    obtain ⟨k, hk, rfl, hdr, hbr⟩ := hrel
    by_cases h39 : (k : Int) < 39
    · have HN : Hid (next (k : Int) true 0 8000 = (k : Int) + 1) := by
        unfold Hid; rw [next_yes, if_neg (by omega)]
      have HDR := Lib.hid hdr
      clear hdr
      go_wp2_with fail
      refine (step_any w.heap.size k true 0 8000 _ HDR.out (by omega) (by omega)).mono ?_
      rintro e w2 ⟨rfl, hd2, hg2⟩
      rw [HN.out] at hd2 ⊢
      rw [show decide ((40 : Int) ≤ (k : Int) + 1) = false from by simp; omega]
      have HD2 := Lib.hid hd2
      have HG2 := Lib.hid hg2
      clear hd2 hg2
      go_wp2_with fail
      go_roundw
      case rel => exact ⟨k + 1, by omega, by go_num, by have := HD2.out; simpa using this, below_grown hbr HG2.out (Nat.le_refl _)⟩
      case measure => simp [intOf]; omega
    · obtain rfl : k = 39 := by omega
      have HDR := Lib.hid hdr
      clear hdr
      go_wp2_with fail
      refine (step_any w.heap.size (39 : Nat) true 0 8000 _ HDR.out (by omega) (by omega)).mono ?_
      rintro e w2 ⟨rfl, hd2, hg2⟩
      rw [show next ((39 : Nat) : Int) true 0 8000 = 40 from rfl] at hd2 ⊢
      have HD2 := Lib.hid hd2
      have HG2 := Lib.hid hg2
      clear hd2 hg2
      go_wp2_with fail
      refine (step_any w.heap.size 40 false 0 8000 _ HD2.out (by omega) (by omega)).mono ?_
      rintro e w3 ⟨rfl, hd3, hg3⟩
      rw [show next 40 false 0 8000 = 0 from rfl] at hd3 ⊢
      have HD3 := Lib.hid hd3
      have HG3 := Lib.hid hg3
      clear hd3 hg3
      go_wp2_with fail
      refine (seen_any w.heap.size 0 _ HD3.out).mono ?_
      rintro e w4 ⟨rfl, rfl⟩
      go_wp2_with fail
      go_ret
      exact ⟨rfl, below_grown (below_grown hbr HG2.out (Nat.le_refl _)) HG3.out (Nat.le_refl _)⟩

set_option maxHeartbeats 1000000 in
theorem nil_walk (c : Int) (w : World) : Calls Try.prog 6 #[.int .i64 c] w fun e w' => e = .returned (.bool true) ∧ Below w.heap.size w w' := by
  go_enter Try.func6, Try.ntmps6
  go_wp2_with fail
  refine (step_nil true c 0 _).mono ?_
  rintro e w1 ⟨rfl, rfl⟩
  go_wp2_with fail
  refine (seen_nil _).mono ?_
  rintro e w1 ⟨rfl, rfl⟩
  go_wp2_with fail
  refine (awake_any _).mono ?_
  rintro e w1 ⟨rfl, hb⟩
  go_wp2_with fail
  go_ret
  exact ⟨rfl, hb⟩
end Go.Proofs.Ytdbgnchjdbjonaa
