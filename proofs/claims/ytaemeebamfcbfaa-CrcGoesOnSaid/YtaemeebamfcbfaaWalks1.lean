/- The walks of CrcAdds, CrcSums and CrcLosesNothing: each returns true and writes nothing that was there. Conditions: as the parameters' types have them. -/
import Derived.Test.YtaemeebamfcbfaaCrc
import Derived.BigQuiet
import Derived.Deep.QuietTactic
namespace Go.Proofs.Ytaemeebamfcbfaa
open Go.RowKit

theorem ret_bool {a b : Bool} (h : a = b) : Ending.returned (.bool a) = .returned (.bool b) := by rw [h]
theorem below_next {w w1 w2 : World} (h1 : Below w.heap.size w w1) (h2 : Below w1.heap.size w1 w2) : Below w.heap.size w w2 := h1.trans (h2.mono h1.size)

set_option maxHeartbeats 400000 in
theorem adds_walk (c b : Int) (h0 : 0 ≤ c) (h1 : c < 65536) (h2 : 0 ≤ b) (h3 : b < 256) (w : World) :
    Calls Try.prog 3 #[.int .u16 c, .int .u8 b] w fun e w' => e = .returned (.bool true) ∧ Below w.heap.size w w' := by
  go_enter Try.func3, Try.ntmps3
  go_wp2_with fail
  refine (awake_any _).mono ?_
  rintro e w1 ⟨rfl, hb1⟩
  go_wp2_with fail
  refine (add_any _ _ h0 h1 h2 h3 _).mono ?_
  rintro e w2 ⟨rfl, hb2⟩
  go_wp2_with fail
  refine (radd_any _ _ h0 h1 h2 h3 _).mono ?_
  rintro e w3 ⟨rfl, rfl⟩
  rw [Crc.add_radd]
  go_wp2_with fail
  go_ret
  exact ⟨ret_bool (by simp), below_next hb1 hb2⟩

set_option maxHeartbeats 400000 in
theorem sums_walk (s : ByteArray) (hs : s.size ≤ maxLen) (w : World) :
    Calls Try.prog 4 #[.string s] w fun e w' => e = .returned (.bool true) ∧ Below w.heap.size w w' := by
  go_enter Try.func4, Try.ntmps4
  go_wp2_with fail
  refine (awake_any _).mono ?_
  rintro e w1 ⟨rfl, hb1⟩
  go_wp2_with fail
  refine (sum_any _ hs _).mono ?_
  rintro e w2 ⟨rfl, hb2⟩
  go_wp2_with fail
  refine (rsum_any _ hs _).mono ?_
  rintro e w3 ⟨rfl, rfl⟩
  go_wp2_with fail
  go_ret
  exact ⟨ret_bool (by simp), below_next hb1 hb2⟩

set_option maxHeartbeats 400000 in
theorem loses_walk (c d a b : Int) (c0 : 0 ≤ c) (c1 : c < 65536) (d0 : 0 ≤ d) (d1 : d < 65536) (a0 : 0 ≤ a) (a1 : a < 256) (b0 : 0 ≤ b) (b1 : b < 256) (w : World) :
    Calls Try.prog 6 #[.agg #[.int .u16 c, .int .u8 a], .agg #[.int .u16 d, .int .u8 b]] w fun e w' => e = .returned (.bool true) ∧ Below w.heap.size w w' := by
  have HA : Hid (((Crc.add c.toNat a.toNat : Int) == (Crc.add c.toNat b.toNat : Int)) = (a == b)) := by
    have := Crc.add_byte (c := c.toNat) (a := a.toNat) (b := b.toNat) (by omega) (by omega) (by omega)
    have h : ((Crc.add c.toNat a.toNat : Int) = (Crc.add c.toNat b.toNat : Int)) ↔ (a = b) := by
      rw [Int.ofNat_inj, this]; omega
    unfold Hid
    rw [Bool.eq_iff_iff]
    simpa using h
  have HC : Hid (((Crc.add c.toNat a.toNat : Int) == (Crc.add d.toNat a.toNat : Int)) = (c == d)) := by
    have := Crc.add_from (c := c.toNat) (d := d.toNat) (a := a.toNat) (by omega) (by omega) (by omega)
    have h : ((Crc.add c.toNat a.toNat : Int) = (Crc.add d.toNat a.toNat : Int)) ↔ (c = d) := by
      rw [Int.ofNat_inj, this]; omega
    unfold Hid
    rw [Bool.eq_iff_iff]
    simpa using h
  go_enter Try.func6, Try.ntmps6
  go_wp2_with fail
  refine (add_any _ _ c0 c1 a0 a1 _).mono ?_
  rintro e w1 ⟨rfl, hb1⟩
  go_wp2_with fail
  refine (add_any _ _ c0 c1 b0 b1 _).mono ?_
  rintro e w2 ⟨rfl, hb2⟩
  have HA' := HA.out
  go_wp2_with fail
  clear HA'
  refine (add_any _ _ c0 c1 a0 a1 _).mono ?_
  rintro e w3 ⟨rfl, hb3⟩
  go_wp2_with fail
  refine (add_any _ _ d0 d1 a0 a1 _).mono ?_
  rintro e w4 ⟨rfl, hb4⟩
  have HC' := HC.out
  go_wp2_with fail
  clear HC'
  refine (awake_any _).mono ?_
  rintro e w5 ⟨rfl, hb5⟩
  go_wp2_with fail
  go_ret
  refine ⟨rfl, ?_⟩
  exact ((((Below.refl _ _).alloc (Nat.le_refl _) _).alloc (by simp) _).trans (hb1.mono (by simp; omega))).trans ((below_next hb2 (below_next hb3 (below_next hb4 hb5))).mono (by have := hb1.size; simp at this; omega))
end Go.Proofs.Ytaemeebamfcbfaa
