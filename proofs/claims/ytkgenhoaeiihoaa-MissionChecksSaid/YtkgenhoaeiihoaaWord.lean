/- What Word, word and Number answer, in whatever world. No condition. -/
import Derived.Test.YtkgenhoaeiihoaaBase
import Derived.Laws.BytesArg
namespace Go.Proofs.Ytkgenhoaeiihoaa
open Go.RowKit

/-- A number of four bytes, the highest first. -/
def num (b0 b1 b2 b3 : Int) : Int := if 2147483648 ≤ b0 * 16777216 + b1 * 65536 + b2 * 256 + b3 then b0 * 16777216 + b1 * 65536 + b2 * 256 + b3 - 4294967296 else b0 * 16777216 + b1 * 65536 + b2 * 256 + b3
/-- Its bytes. -/
def wordL (n : Int) : List Int := [n / 16777216 % 256, n / 65536 % 256, n / 256 % 256, n % 256]
theorem or_add (A y i : Nat) (hA : 2 ^ i * A + y < 4294967296) (hy : y < 2 ^ i) : bits BinOp.or IntKind.u32 ((2 ^ i * A : Nat) : Int) (y : Int) = ((2 ^ i * A + y : Nat) : Int) := by
  unfold bits
  have e1 : (BitVec.ofInt IntKind.u32.bits ((2 ^ i * A : Nat) : Int)).toNat = 2 ^ i * A := by
    rw [show (IntKind.u32.bits) = 32 from rfl, BitVec.toNat_ofInt]
    omega
  have e2 : (BitVec.ofInt IntKind.u32.bits (y : Int)).toNat = y := by
    rw [show (IntKind.u32.bits) = 32 from rfl, BitVec.toNat_ofInt]
    omega
  simp only [BitVec.toNat_or, e1, e2]
  rw [← Nat.two_pow_add_eq_or_of_lt hy]
  exact IntWalk.u32_in _ ⟨by omega, by omega⟩
theorem num_eq (b0 b1 b2 b3 : Nat) (h0 : b0 < 256) (h1 : b1 < 256) (h2 : b2 < 256) (h3 : b3 < 256) :
    wrap64 (wrap32 (bits BinOp.or IntKind.u32 (bits BinOp.or IntKind.u32 (bits BinOp.or IntKind.u32 ((b0 : Int) * 16777216) ((b1 : Int) * 65536)) ((b2 : Int) * 256)) (b3 : Int))) = num b0 b1 b2 b3 := by
  have s1 := or_add b0 (b1 * 65536) 24 (by omega) (by omega)
  have s2 := or_add (b0 * 256 + b1) (b2 * 256) 16 (by omega) (by omega)
  have s3 := or_add (b0 * 65536 + b1 * 256 + b2) b3 8 (by omega) (by omega)
  rw [show (b0 : Int) * 16777216 = ((2 ^ 24 * b0 : Nat) : Int) by omega, show (b1 : Int) * 65536 = ((b1 * 65536 : Nat) : Int) by omega, s1,
    show ((2 ^ 24 * b0 + b1 * 65536 : Nat) : Int) = ((2 ^ 16 * (b0 * 256 + b1) : Nat) : Int) by omega, show (b2 : Int) * 256 = ((b2 * 256 : Nat) : Int) by omega, s2,
    show ((2 ^ 16 * (b0 * 256 + b1) + b2 * 256 : Nat) : Int) = ((2 ^ 8 * (b0 * 65536 + b1 * 256 + b2) : Nat) : Int) by omega, s3]
  unfold num wrap32 wrap64
  omega
theorem num_lo (b0 b1 b2 b3 : Int) (h0 : 0 ≤ b0 ∧ b0 < 256) (h1 : 0 ≤ b1 ∧ b1 < 256) (h2 : 0 ≤ b2 ∧ b2 < 256) (h3 : 0 ≤ b3 ∧ b3 < 256) : -2147483648 ≤ num b0 b1 b2 b3 ∧ num b0 b1 b2 b3 < 2147483648 := by
  unfold num
  split <;> omega
theorem num_word (n : Int) (h : -2147483648 ≤ n ∧ n < 2147483648) : num (n / 16777216 % 256) (n / 65536 % 256) (n / 256 % 256) (n % 256) = n := by
  unfold num
  split <;> omega
theorem word_num (b0 b1 b2 b3 : Int) (h0 : 0 ≤ b0 ∧ b0 < 256) (h1 : 0 ≤ b1 ∧ b1 < 256) (h2 : 0 ≤ b2 ∧ b2 < 256) (h3 : 0 ≤ b3 ∧ b3 < 256) : wordL (num b0 b1 b2 b3) = [b0, b1, b2, b3] := by
  unfold wordL
  have e0 : num b0 b1 b2 b3 / 16777216 % 256 = b0 := by unfold num; split <;> omega
  have e1 : num b0 b1 b2 b3 / 65536 % 256 = b1 := by unfold num; split <;> omega
  have e2 : num b0 b1 b2 b3 / 256 % 256 = b2 := by unfold num; split <;> omega
  have e3 : num b0 b1 b2 b3 % 256 = b3 := by unfold num; split <;> omega
  rw [e0, e1, e2, e3]
theorem word_lo (n : Int) : ∀ x ∈ wordL n, 0 ≤ x ∧ x ≤ 255 := by
  intro x hx
  simp only [wordL, List.mem_cons, List.not_mem_nil, or_false] at hx
  rcases hx with rfl | rfl | rfl | rfl <;> omega
set_option maxRecDepth 100000 in
theorem word_any (w : World) (n : Int) : Calls Try.prog 32 #[.int .i64 n] w fun e w' => e = .returned (.string (strOfNums (wordL n))) ∧ Below w.heap.size w w' := by
  have hcv : ∀ u : World, (convert 61 9 (.slice (some ⟨u.heap.size, 0, none⟩) 4 4)).run Try.prog (u.alloc (.cells #[.int .u8 (n / 16777216 % 256), .int .u8 (n / 65536 % 256), .int .u8 (n / 256 % 256), .int .u8 (n % 256)] 5)) = .ok (.string (strOfNums (wordL n))) (u.alloc (.cells #[.int .u8 (n / 16777216 % 256), .int .u8 (n / 65536 % 256), .int .u8 (n / 256 % 256), .int .u8 (n % 256)] 5)) := by
    intro u
    refine run_convert_bytes_arg (P := Try.prog) _ 61 5 Try.underlying61 Try.underlying5 u.heap.size 0 4 4 (wordL n) rfl (fun i hi => ?_) 9 Try.underlying9
    rw [Nat.zero_add, cell_at (one_new u _)]
    have : i = 0 ∨ i = 1 ∨ i = 2 ∨ i = 3 := by omega
    rcases this with rfl | rfl | rfl | rfl <;> rfl
  go_enter Try.func32, Try.ntmps32
  go_wp2_with fail
  go_ret
  exact ⟨rfl, below_alloc1 _ _⟩
set_option maxRecDepth 100000 in
theorem pword_any (w : World) (s : ByteArray) (h : 4 ≤ s.size) (hs : s.size ≤ 9223372036854775807) : Calls Try.prog 35 #[.string s] w fun e w' => e = .returned (.int .i64 (num (s[0].toNat : Int) (s[1].toNat : Int) (s[2].toNat : Int) (s[3].toNat : Int))) ∧ ∃ n, w' = w.drewN n := by
  have h0 : 0 < s.size := by omega
  have i1 : (1 : Int) < (s.size : Int) := by omega
  have i2 : (2 : Int) < (s.size : Int) := by omega
  have i3 : (3 : Int) < (s.size : Int) := by omega
  have b0 : (s[0].toNat : Int) < 256 := by have := s[0].toNat_lt; omega
  have b1 : (s[1].toNat : Int) < 256 := by have := s[1].toNat_lt; omega
  have b2 : (s[2].toNat : Int) < 256 := by have := s[2].toNat_lt; omega
  have b3 : (s[3].toNat : Int) < 256 := by have := s[3].toNat_lt; omega
  have HN := Lib.hid (num_eq s[0].toNat s[1].toNat s[2].toNat s[3].toNat s[0].toNat_lt s[1].toNat_lt s[2].toNat_lt s[3].toNat_lt)
  go_enter Try.func35, Try.ntmps35
  go_wp2_with fail
  go_big_quiet (fail)
  go_wp2_with fail
  go_ret
  exact ⟨by rw [← HN.out]; rfl, _, rfl⟩
/-- A byte of a text. -/
def bt (s : ByteArray) (i : Nat) : Int := if h : i < s.size then (s[i].toNat : Int) else 0
theorem bt_eq (s : ByteArray) (i : Nat) (h : i < s.size) : bt s i = (s[i].toNat : Int) := by unfold bt; rw [dif_pos h]
theorem bt_lo (s : ByteArray) (i : Nat) : 0 ≤ bt s i ∧ bt s i < 256 := by
  unfold bt
  split
  · rename_i h
    have := s[i].toNat_lt
    omega
  · omega
def nf (s : ByteArray) (a : Nat) : Nat → Int
  | 0 => 0
  | k + 1 => nf s a k * 256 + bt s (a + k)
theorem nf_lo (s : ByteArray) (a : Nat) : ∀ k, k ≤ 4 → 0 ≤ nf s a k ∧ nf s a k ≤ 4294967295 ∧ (k ≤ 3 → nf s a k ≤ 16777215)
  | 0, _ => by unfold nf; omega
  | 1, _ => by have := bt_lo s (a + 0); simp only [nf]; omega
  | 2, _ => by have := bt_lo s (a + 0); have := bt_lo s (a + 1); simp only [nf]; omega
  | 3, _ => by have := bt_lo s (a + 0); have := bt_lo s (a + 1); have := bt_lo s (a + 2); simp only [nf]; omega
  | 4, _ => by have := bt_lo s (a + 0); have := bt_lo s (a + 1); have := bt_lo s (a + 2); have := bt_lo s (a + 3); simp only [nf]; omega
  | k + 5, h => by omega
def numAt (s : ByteArray) (a : Nat) : Int := num (bt s a) (bt s (a + 1)) (bt s (a + 2)) (bt s (a + 3))
theorem nf_num (s : ByteArray) (a : Nat) : numAt s a = if 2147483648 ≤ nf s a 4 then nf s a 4 - 4294967296 else nf s a 4 := by
  have e : nf s a 4 = bt s a * 16777216 + bt s (a + 1) * 65536 + bt s (a + 2) * 256 + bt s (a + 3) := by
    simp only [nf, Nat.add_zero]
    omega
  rw [e]
  rfl
set_option maxRecDepth 100000 in
theorem pnum_any (w : World) (s : ByteArray) (h : 4 ≤ s.size) (hs : s.size ≤ 9223372036854775807) : Calls Try.prog 35 #[.string s] w fun e w' => e = .returned (.int .i64 (numAt s 0)) ∧ ∃ n, w' = w.drewN n := by
  refine (pword_any w s h hs).mono ?_
  rintro e w' ⟨rfl, hw⟩
  refine ⟨?_, hw⟩
  unfold numAt
  rw [bt_eq s 0 (by omega), bt_eq s (0 + 1) (by omega), bt_eq s (0 + 2) (by omega), bt_eq s (0 + 3) (by omega)]
set_option maxRecDepth 100000 in
set_option maxHeartbeats 1000000 in
theorem number_any (w : World) (s : ByteArray) (a : Nat) (x : Int) (hx : x = (a : Int)) (h : a + 4 ≤ s.size) (hs : s.size ≤ 140737488351232) : Calls Try.prog 38 #[.string s, .int .i64 x] w fun e w' => e = .returned (.int .i64 (numAt s a)) ∧ w' = w := by
  subst hx
  have HNN := Lib.hid (nf_num s a)
  go_enter Try.func38, Try.ntmps38
  go_wp2_with fail
  go_loop [5, 6] (fun n i => ∃ k : Nat, k ≤ 4 ∧ i = .int .i64 k ∧ n = .int .i64 (nf s a k)) (fun _ i => 4 - (intOf i).toNat)
  case atStart => exact ⟨0, Nat.zero_le _, rfl, rfl⟩
  case round =>
    obtain ⟨k, hk, rfl, rfl⟩ := hrel
    obtain ⟨hn0, hn1, hn2⟩ := nf_lo s a k hk
    by_cases hlt : k < 4
    · have hn3 := hn2 (by omega)
      have hi : a + k < s.size := by omega
      have hbb := bt_eq s (a + k) hi
      have hb0 := bt_lo s (a + k)
      have HS : Hid (nf s a (k + 1) = nf s a k * 256 + ((s[a + k].toNat : Nat) : Int)) := by unfold Hid; rw [← hbb]; rfl
      rw [hbb] at hb0
      obtain ⟨hb0, hb1⟩ := hb0
      clear hn2 hbb
      generalize hnf : nf s a k = q at *
      clear hnf
      go_wp2_with fail
      go_round
      case rel => exact ⟨k + 1, by omega, by go_num, by rw [HS.out]⟩
      case measure => simp [intOf]; omega
    · obtain rfl : k = 4 := by omega
      clear hn2
      generalize nf s a 4 = q at *
      by_cases hq : 2147483648 ≤ q
      · have HF : Hid (numAt s a = q - 4294967296) := by unfold Hid; rw [HNN.out, if_pos hq]
        clear HNN
        go_wp2_with fail
        go_ret
        exact ⟨by rw [HF.out]; rfl, rfl⟩
      · have HF : Hid (numAt s a = q) := by unfold Hid; rw [HNN.out, if_neg hq]
        clear HNN
        go_wp2_with fail
        go_ret
        exact ⟨by rw [HF.out]; rfl, rfl⟩
end Go.Proofs.Ytkgenhoaeiihoaa
