/- What each function of the check of 16 bits computes, in whatever world: half, Add, Sum, the document's Add and Sum, and awake. Conditions: each number is of its kind, a text is no longer than may be. -/
import Derived.Test.YtaemeebamfcbfaaProg
import Derived.Test.YtaemeebamfcbfaaPlain
import Derived.WalkKit
import Derived.Below
import Derived.WalkSpells
import Derived.WalkLawsBesides
import Derived.Outline
import Derived.Lib.Hide
import Derived.Laws.BitsAllLaws
namespace Go.Proofs.Ytaemeebamfcbfaa
open Go.RowKit

theorem and15 (n : Nat) (h : n < 65536) : bits .and .u16 (n : Int) 15 = ((n % 16 : Nat) : Int) := by
  have := u16_and_nat n 15 h (by omega)
  rw [show ((15 : Nat) : Int) = 15 from rfl] at this
  rw [this, nat_mask4]
theorem row16 (i : Nat) (h : i < 16) : [Value.int IntKind.u16 0, Value.int IntKind.u16 4225, Value.int IntKind.u16 8450,
                Value.int IntKind.u16 12675, Value.int IntKind.u16 16900, Value.int IntKind.u16 21125,
                Value.int IntKind.u16 25350, Value.int IntKind.u16 29575, Value.int IntKind.u16 33800,
                Value.int IntKind.u16 38025, Value.int IntKind.u16 42250, Value.int IntKind.u16 46475,
                Value.int IntKind.u16 50700, Value.int IntKind.u16 54925, Value.int IntKind.u16 59150,
                Value.int IntKind.u16 63375][i]'h = .int .u16 ((Crc.tab.getD i 0 : Nat) : Int) := by
  have : i = 0 ∨ i = 1 ∨ i = 2 ∨ i = 3 ∨ i = 4 ∨ i = 5 ∨ i = 6 ∨ i = 7 ∨ i = 8 ∨ i = 9 ∨ i = 10 ∨ i = 11 ∨ i = 12 ∨ i = 13 ∨ i = 14 ∨ i = 15 := by omega
  rcases this with rfl | rfl | rfl | rfl | rfl | rfl | rfl | rfl | rfl | rfl | rfl | rfl | rfl | rfl | rfl | rfl <;> rfl
theorem ret_int {k : IntKind} {a b : Int} (h : a = b) : Ending.returned (.int k a) = .returned (.int k b) := by rw [h]

set_option maxHeartbeats 400000 in
theorem half_any (c : Int) (h0 : 0 ≤ c) (h1 : c < 65536) (w : World) :
    Calls Try.prog 13 #[.int .u16 c] w fun e w' => e = .returned (.int .u16 ((Crc.half c.toNat : Nat) : Int)) ∧ Below w.heap.size w w' := by
  obtain ⟨n, rfl⟩ := Int.eq_ofNat_of_zero_le h0
  have hand := and15 n (by omega)
  have hrow := row16
  have hlt : n % 16 < 16 := by omega
  go_enter Try.func13, Try.ntmps13
  go_wp2
  go_ret
  refine ⟨ret_int ?_, (Below.refl _ _).alloc (Nat.le_refl _) _⟩
  have h := u16_xor_nat (n / 16) (Crc.tab.getD (n % 16) 0) (by omega) (Crc.tab_lt _)
  simpa [Crc.half] using h

/-- What a function that computes, and may lay blocks of its own, answers. -/
def Gives (v : Value) (w : World) (e : Ending) (w' : World) : Prop := e = .returned v ∧ Below w.heap.size w w'

set_option maxHeartbeats 400000 in
theorem add_any (c b : Int) (h0 : 0 ≤ c) (h1 : c < 65536) (h2 : 0 ≤ b) (h3 : b < 256) (w : World) :
    Calls Try.prog 9 #[.int .u16 c, .int .u8 b] w fun e w' => e = .returned (.int .u16 ((Crc.add c.toNat b.toNat : Nat) : Int)) ∧ Below w.heap.size w w' := by
  obtain ⟨n, rfl⟩ := Int.eq_ofNat_of_zero_le h0
  obtain ⟨m, rfl⟩ := Int.eq_ofNat_of_zero_le h2
  have hx := u16_xor_nat n m (by omega) (by omega)
  have hlt : n ^^^ m < 65536 := Nat.xor_lt_two_pow (n := 16) (by omega) (by omega)
  have hh := Crc.half_lt hlt
  go_enter Try.func9, Try.ntmps9
  go_wp2_with fail
  refine (half_any _ (by omega) (by omega) _).mono ?_
  rintro e w1 ⟨rfl, hb1⟩
  go_wp2_with fail
  refine (half_any _ (by omega) (by omega) _).mono ?_
  rintro e w2 ⟨rfl, hb2⟩
  go_wp2_with fail
  go_ret
  refine ⟨ret_int (by simp [Crc.add]), ?_⟩
  exact hb1.trans (hb2.mono hb1.size)

set_option maxHeartbeats 400000 in
theorem radd_any (c b : Int) (h0 : 0 ≤ c) (h1 : c < 65536) (h2 : 0 ≤ b) (h3 : b < 256) (w : World) :
    Calls Try.prog 10 #[.int .u16 c, .int .u8 b] w fun e w' => e = .returned (.int .u16 ((Crc.radd c.toNat b.toNat : Nat) : Int)) ∧ w = w' := by
  obtain ⟨n, rfl⟩ := Int.eq_ofNat_of_zero_le h0
  obtain ⟨m, rfl⟩ := Int.eq_ofNat_of_zero_le h2
  have hx := u16_xor_nat n m (by omega) (by omega)
  have hlt : n ^^^ m < 65536 := Nat.xor_lt_two_pow (n := 16) (by omega) (by omega)
  go_enter Try.func10, Try.ntmps10
  go_wp2
  clear hx
  go_loop [0, 5] (fun c i => ∃ (k x : Nat), k ≤ 8 ∧ x < 65536 ∧ i = .int .i64 k ∧ c = .int .u16 x ∧ Hid (Crc.bits (8 - k) x = Crc.bits 8 (n ^^^ m))) (fun _ i => 8 - (intOf i).toNat)
  case atStart => exact ⟨0, n ^^^ m, by omega, hlt, rfl, rfl, Lib.hid rfl⟩
  case round =>
    obtain ⟨k, x, hk, hx, rfl, rfl, HB⟩ := hrel
    by_cases hk8 : (k : Int) < 8
    · have hbit : Hid (Crc.bits (8 - (k + 1)) (Crc.bit x) = Crc.bits 8 (n ^^^ m)) := by
        have := HB.out
        rw [show 8 - k = (8 - (k + 1)) + 1 from by omega] at this
        exact this
      have hbl := Crc.bit_lt hx
      by_cases hodd : x % 2 = 1
      · have hxx : bits .xor .u16 ((x : Int) / 2) 33800 = (((x / 2) ^^^ 33800 : Nat) : Int) := u16_xor_nat (x / 2) 33800 (by omega) (by omega)
        have ho : ((x : Int) % 2 == 1) = true := by simp; omega
        have HE : Hid ((x / 2) ^^^ 33800 = Crc.bit x) := by unfold Hid Crc.bit; rw [if_pos hodd]
        clear hodd
        go_wp2
        go_round
        case rel => exact ⟨k + 1, Crc.bit x, by omega, hbl, by go_num, by rw [← HE.out], hbit⟩
        case measure => simp [intOf]; omega
      · have ho : ((x : Int) % 2 == 1) = false := by simp; omega
        have HE : Hid (x / 2 = Crc.bit x) := by unfold Hid Crc.bit; rw [if_neg hodd]
        clear hodd
        go_wp2
        go_round
        case rel => exact ⟨k + 1, Crc.bit x, by omega, hbl, by go_num, by rw [← HE.out]; rfl, hbit⟩
        case measure => simp [intOf]; omega
    · have he : Hid (x = Crc.bits 8 (n ^^^ m)) := by
        have := HB.out
        rw [show 8 - k = 0 from by omega] at this
        exact this
      go_wp2
      go_ret
      exact ⟨ret_int (by rw [he.out]; simp [Crc.radd]), rfl⟩

/-! ### Sums -/
def bytes (s : ByteArray) : List Nat := s.data.toList.map UInt8.toNat
theorem bytes_bytes (s : ByteArray) : Crc.Bytes (bytes s) := by
  intro b hb
  simp only [bytes, List.mem_map] at hb
  obtain ⟨u, _, rfl⟩ := hb
  exact u.toNat_lt
theorem bytes_length (s : ByteArray) : (bytes s).length = s.size := by simp [bytes]
theorem bytes_take (s : ByteArray) (k : Nat) (h : k < s.size) : (bytes s).take (k + 1) = (bytes s).take k ++ [s[k].toNat] := by
  rw [List.take_succ_eq_append_getElem (by rw [bytes_length]; exact h)]
  simp [bytes]
  rfl
theorem take_bytes (s : ByteArray) (k : Nat) : Crc.Bytes ((bytes s).take k) := fun b hb => bytes_bytes s b (List.mem_of_mem_take hb)
theorem sum_take (s : ByteArray) (c k : Nat) (h : k < s.size) : Crc.sum c ((bytes s).take (k + 1)) = Crc.add (Crc.sum c ((bytes s).take k)) s[k].toNat := by
  rw [bytes_take s k h, Crc.sum_snoc]
theorem take_all (s : ByteArray) (k : Nat) (h : s.size ≤ k) : (bytes s).take k = bytes s := List.take_of_length_le (by rw [bytes_length]; exact h)

set_option maxHeartbeats 400000 in
theorem sum_any (s : ByteArray) (hs : s.size ≤ maxLen) (w : World) :
    Calls Try.prog 11 #[.string s] w fun e w' => e = .returned (.int .u16 ((Crc.sum 65535 (bytes s) : Nat) : Int)) ∧ Below w.heap.size w w' := by
  unfold maxLen at hs
  go_enter Try.func11, Try.ntmps11
  go_wp2
  go_loopw [3, 7] (fun c i wr => ∃ (k x : Nat), k ≤ s.size ∧ x < 65536 ∧ i = .int .i64 k ∧ c = .int .u16 x ∧ Hid (x = Crc.sum 65535 ((bytes s).take k)) ∧ Below w.heap.size w wr) (fun _ i _ => s.size - (intOf i).toNat)
  case atStart => exact ⟨0, 65535, by omega, by omega, rfl, rfl, Lib.hid rfl, Below.refl _ _⟩
  case round =>
    obtain ⟨k, x, hk, hx, rfl, rfl, HB, hbel⟩ := hrel
    by_cases hlt : k < s.size
    · have hb := s[k].toNat_lt
      have HN : Hid (Crc.add x s[k].toNat = Crc.sum 65535 ((bytes s).take (k + 1))) := by
        rw [sum_take s 65535 k hlt, ← HB.out]; exact rfl
      clear HB
      have hal := Crc.add_lt hx hb
      go_wp2_with (go_at_call 9; refine (add_any _ _ (by omega) (by omega) (by omega) (by omega) _).mono ?_; rintro e w1 ⟨rfl, hb1⟩)
      go_roundw
      case rel => exact ⟨k + 1, Crc.add x s[k].toNat, by omega, hal, by go_num, by simp, HN, hbel.trans (hb1.mono hbel.size)⟩
      case measure => simp [intOf]; omega
    · have HE : Hid (x = Crc.sum 65535 (bytes s)) := by
        rw [← take_all s k (by omega)]; exact HB.out
      clear HB
      go_wp2
      go_ret
      exact ⟨ret_int (by rw [← HE.out]), hbel⟩

set_option maxHeartbeats 400000 in
theorem rsum_any (s : ByteArray) (hs : s.size ≤ maxLen) (w : World) :
    Calls Try.prog 12 #[.string s] w fun e w' => e = .returned (.int .u16 ((Crc.sum 65535 (bytes s) : Nat) : Int)) ∧ w = w' := by
  unfold maxLen at hs
  go_enter Try.func12, Try.ntmps12
  go_wp2
  go_loop [3, 4] (fun c i => ∃ (k x : Nat), k ≤ s.size ∧ x < 65536 ∧ i = .int .i64 k ∧ c = .int .u16 x ∧ Hid (x = Crc.sum 65535 ((bytes s).take k))) (fun _ i => s.size - (intOf i).toNat)
  case atStart => exact ⟨0, 65535, by omega, by omega, rfl, rfl, Lib.hid rfl⟩
  case round =>
    obtain ⟨k, x, hk, hx, rfl, rfl, HB⟩ := hrel
    by_cases hlt : k < s.size
    · have hb := s[k].toNat_lt
      have HN : Hid (Crc.radd x s[k].toNat = Crc.sum 65535 ((bytes s).take (k + 1))) := by
        rw [sum_take s 65535 k hlt, ← HB.out]; exact (Crc.add_radd _ _).symm
      clear HB
      have hal : Crc.radd x s[k].toNat < 65536 := by rw [← Crc.add_radd]; exact Crc.add_lt hx hb
      go_wp2_with (go_at_call 10; refine (radd_any _ _ (by omega) (by omega) (by omega) (by omega) _).mono ?_; rintro e w1 ⟨rfl, rfl⟩)
      go_round
      case rel => exact ⟨k + 1, Crc.radd x s[k].toNat, by omega, hal, by go_num, by simp, HN⟩
      case measure => simp [intOf]; omega
    · have HE : Hid (x = Crc.sum 65535 (bytes s)) := by
        rw [← take_all s k (by omega)]; exact HB.out
      clear HB
      go_wp2
      go_ret
      exact ⟨ret_int (by rw [← HE.out]), rfl⟩

set_option maxHeartbeats 400000 in
theorem awake_any (w : World) : Calls Try.prog 8 #[] w fun e w' => e = .returned (.bool true) ∧ Below w.heap.size w w' := by
  have e1 : Hid (Crc.sum 65535 (bytes ⟨#[]⟩) = 65535) := Lib.hid (by decide)
  have e2 : Hid (Crc.add 0 1 = 4489) := Lib.hid (by decide)
  have e3 : Hid (Crc.sum 65535 (bytes ⟨#[49, 50, 51, 52, 53, 54, 55, 56, 57]⟩) = 28561) := Lib.hid (by decide +kernel)
  go_enter Try.func8, Try.ntmps8
  go_wp2_with fail
  refine (sum_any _ (by decide) _).mono ?_
  rintro e w1 ⟨rfl, hb1⟩
  rw [e1.out]
  go_wp2_with fail
  refine (add_any _ _ (by omega) (by omega) (by omega) (by omega) _).mono ?_
  rintro e w2 ⟨rfl, hb2⟩
  rw [show Crc.add (0 : Int).toNat (1 : Int).toNat = 4489 from e2.out]
  go_wp2_with fail
  refine (sum_any _ (by decide) _).mono ?_
  rintro e w3 ⟨rfl, hb3⟩
  rw [e3.out]
  go_wp2_with fail
  go_ret
  exact ⟨rfl, hb1.trans ((hb2.trans (hb3.mono hb2.size)).mono hb1.size)⟩
end Go.Proofs.Ytaemeebamfcbfaa
