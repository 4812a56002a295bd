/- The walk of CrcGoesOn, and of CrcTells where the place is none of the bytes. Conditions: texts within the reach of memory. -/
import Derived.Test.YtaemeebamfcbfaaWalks1
import Derived.Laws.BytesArg
namespace Go.Proofs.Ytaemeebamfcbfaa
open Go.RowKit

theorem below_boxed {w w' : World} {o : Obj} (h : Below (w.alloc o).heap.size (w.alloc o) w') : Below w.heap.size w w' :=
  ((Below.refl _ _).alloc (Nat.le_refl _) _).trans (h.mono (by simp))
theorem bytes_append (a b : ByteArray) : bytes (a ++ b) = bytes a ++ bytes b := by simp [bytes]

theorem conv2 (W : World) (x y : Int) : (convert 28 9 (.slice (some ⟨W.heap.size, 0, none⟩) 2 2)).run Try.prog (W.alloc (.cells #[.int .u8 x, .int .u8 y] 5)) = .ok (.string (strOfNums [x, y])) (W.alloc (.cells #[.int .u8 x, .int .u8 y] 5)) := by
  refine run_convert_bytes_arg (P := Try.prog) _ 28 5 Try.underlying28 Try.underlying5 W.heap.size 0 2 2 [x, y] rfl (fun i hi => ?_) 9 Try.underlying9
  have : i = 0 ∨ i = 1 := by omega
  rcases this with rfl | rfl <;> simp [go_sem]
theorem bytes_two (x y : Nat) (hx : x < 256) (hy : y < 256) : bytes (strOfNums [(x : Int), (y : Int)]) = [x, y] := by
  simp [bytes, strOfNums]
  omega

set_option maxHeartbeats 400000 in
theorem goes_walk (a b : ByteArray) (ha : a.size ≤ 140737488351232) (hb : b.size ≤ 140737488351232) (w : World) :
    Calls Try.prog 5 #[.string a, .string b] w fun e w' => e = .returned (.bool true) ∧ Below w.heap.size w w' := by
  have hma : a.size ≤ maxLen := by unfold maxLen; omega
  have hmb : b.size ≤ maxLen := by unfold maxLen; omega
  have hS : Crc.sum 65535 (bytes a) < 65536 := Crc.sum_lt _ _ (by omega) (bytes_bytes a)
  go_enter Try.func5, Try.ntmps5
  go_wp2_with fail
  refine (sum_any _ hma _).mono ?_
  rintro e w1 ⟨rfl, hb1⟩
  go_wp2_with fail
  go_loopw [5, 6] (fun c i wr => ∃ (k x : Nat), k ≤ b.size ∧ x < 65536 ∧ i = .int .i64 k ∧ c = .int .u16 x ∧ Hid (x = Crc.sum (Crc.sum 65535 (bytes a)) ((bytes b).take k)) ∧ Below w.heap.size w wr) (fun _ i _ => b.size - (intOf i).toNat)
  case atStart => exact ⟨0, _, by omega, hS, rfl, rfl, Lib.hid rfl, hb1⟩
  case round =>
    obtain ⟨k, x, hk, hx, rfl, rfl, HB, hbel⟩ := hrel
    by_cases hlt : k < b.size
    · have hb := b[k].toNat_lt
      have HN : Hid (Crc.add x b[k].toNat = Crc.sum (Crc.sum 65535 (bytes a)) ((bytes b).take (k + 1))) := by
        rw [sum_take b _ k hlt, ← HB.out]; exact rfl
      clear HB
      have hal := Crc.add_lt hx hb
      go_wp2_with (go_at_call 9; refine (add_any _ _ (by omega) (by omega) (by omega) (by omega) _).mono ?_; rintro e w1 ⟨rfl, hb1⟩)
      go_roundw
      case rel => exact ⟨k + 1, Crc.add x b[k].toNat, by omega, hal, by go_num, by simp, HN, hbel.trans (hb1.mono hbel.size)⟩
      case measure => simp [intOf]; omega
    · have HE : Hid (x = Crc.sum 65535 (bytes (a ++ b))) := by
        rw [bytes_append, Crc.sum_append, ← take_all b k (by omega)]; exact HB.out
      clear HB hk
      go_wp2_with fail
      refine (sum_any _ hma _).mono ?_
      rintro e w2 ⟨rfl, hb2⟩
      go_wp2_with fail
      refine (awake_any _).mono ?_
      rintro e w3 ⟨rfl, hb3⟩
      go_wp2_with fail
      refine (sum_any _ (by unfold maxLen; simp; omega) _).mono ?_
      rintro e w4 ⟨rfl, hb4⟩
      rw [← HE.out]
      have hcv := conv2
      have hz2 : (strOfNums [((Crc.sum 65535 (bytes a) : Nat) : Int) % 256, ((Crc.sum 65535 (bytes a) : Nat) : Int) / 256]).size ≤ 2 := by rw [strOfNums_size]; simp
      go_wp2_with fail
      clear hcv
      have HZ : Hid (Crc.sum 65535 (bytes (a ++ strOfNums [((Crc.sum 65535 (bytes a) : Nat) : Int) % 256, ((Crc.sum 65535 (bytes a) : Nat) : Int) / 256])) = 0) := by
        have := Crc.self_zero (Crc.sum 65535 (bytes a) % 256) (Crc.sum 65535 (bytes a) / 256) (by omega) (by omega)
        rw [show Crc.sum 65535 (bytes a) % 256 + 256 * (Crc.sum 65535 (bytes a) / 256) = Crc.sum 65535 (bytes a) from by omega] at this
        have h2 := bytes_two (Crc.sum 65535 (bytes a) % 256) (Crc.sum 65535 (bytes a) / 256) (by omega) (by omega)
        rw [Int.natCast_emod, Int.natCast_ediv] at h2
        have h2' : bytes (strOfNums [((Crc.sum 65535 (bytes a) : Nat) : Int) % 256, ((Crc.sum 65535 (bytes a) : Nat) : Int) / 256]) = [Crc.sum 65535 (bytes a) % 256, Crc.sum 65535 (bytes a) / 256] := h2
        unfold Hid
        rw [bytes_append, Crc.sum_append, h2']
        exact this
      have hsz : (a ++ strOfNums [((Crc.sum 65535 (bytes a) : Nat) : Int) % 256, ((Crc.sum 65535 (bytes a) : Nat) : Int) / 256]).size ≤ maxLen := by
        unfold maxLen; rw [ByteArray.size_append, strOfNums_size]; simp; omega
      refine (sum_any _ hsz _).mono ?_
      rintro e w5 ⟨rfl, hb5⟩
      rw [HZ.out]
      go_wp2_with fail
      go_ret
      exact ⟨rfl, hbel.trans ((below_next hb2 (below_next hb3 (below_next hb4 (below_boxed hb5)))).mono hbel.size)⟩

theorem size_data (s : ByteArray) : s.data.toList.length = s.size := by rw [Array.length_toList]; rfl

/-- CrcTells, no place in the bytes. -/
theorem tells_out (s : ByteArray) (at_ turn : Int) (h : at_ < 0 ∨ (s.size : Int) ≤ at_) (w : World) :
    Calls Try.prog 7 #[.string s, .int .i64 at_, .int .u16 turn] w fun e w' => e = .returned (.bool true) ∧ Below w.heap.size w w' := by
  rcases h with h | h
  · go_enter Try.func7, Try.ntmps7
    go_wp2_with fail
    refine (awake_any _).mono ?_
    rintro e w1 ⟨rfl, hb1⟩
    go_wp2_with fail
    go_ret
    exact ⟨rfl, hb1⟩
  · have h' : ¬ at_ < (s.size : Int) := by omega
    by_cases hn : at_ < 0
    · go_enter Try.func7, Try.ntmps7
      go_wp2_with fail
      refine (awake_any _).mono ?_
      rintro e w1 ⟨rfl, hb1⟩
      go_wp2_with fail
      go_ret
      exact ⟨rfl, hb1⟩
    · go_enter Try.func7, Try.ntmps7
      go_wp2_with fail
      refine (awake_any _).mono ?_
      rintro e w1 ⟨rfl, hb1⟩
      go_wp2_with fail
      go_ret
      exact ⟨rfl, hb1⟩

end Go.Proofs.Ytaemeebamfcbfaa
