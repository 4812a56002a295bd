/- The walk of CrcTells: it returns true and writes nothing that was there. Conditions: texts within the reach of memory. -/
import Derived.Test.YtaemeebamfcbfaaWalks2
import Derived.Lib.ConvBytes
import Derived.Deep.RegionHeld3
import Derived.Lib.Strings
namespace Go.Proofs.Ytaemeebamfcbfaa
open Go.RowKit

theorem getD_lt (l : List Nat) (h : ∀ x ∈ l, x < 256) (i : Nat) : l.getD i 0 < 256 := by
  rw [List.getD_eq_getElem?_getD]
  cases e : l[i]? with
  | none => simp
  | some x => exact h x (List.mem_of_getElem? e)
/-- Block b is a row of bytes that is the call's own. -/
structure Own (w : World) (b : Nat) (xs : List Nat) : Prop where
  lt : ∀ x ∈ xs, x < 256
  cell : ∀ j, j < xs.length → w.cell? ⟨b, j, none⟩ = some (.int .u8 ((xs.getD j 0 : Nat) : Int))
  free : ∀ j, j < xs.length → w.frozen? ⟨b, j, none⟩ = false
theorem Own.made (w : World) (s : ByteArray) : Own (Lib.bytesWorld w 5 s) w.heap.size (bytes s) := by
  refine ⟨bytes_bytes s, fun j hj => ?_, fun j hj => ?_⟩
  · rw [bytes_length] at hj
    rw [Lib.bytesWorld_cell w 5 s j hj]
    have h' : j < s.data.toList.length := by rw [size_data]; exact hj
    simp [bytes, List.getD_eq_getElem?_getD, List.getElem?_eq_getElem h']
  · rw [bytes_length] at hj
    have hz : s.size ≤ (Lib.bytesCells w 5 s).size := by rw [Lib.bytesCells, Array.size_append, Array.size_map]; exact Nat.le_add_right _ _
    simp [World.frozen?, Lib.bytesWorld_at_new]
    omega
theorem Own.set {w : World} {b : Nat} {xs : List Nat} (h : Own w b xs) (i x : Nat) (hi : i < xs.length) (hx : x < 256) : Own (w.setCell ⟨b, i, none⟩ (.int .u8 (x : Int))) b (xs.set i x) := by
  refine ⟨fun y hy => ?_, fun j hj => ?_, fun j hj => ?_⟩
  · rcases List.mem_or_eq_of_mem_set hy with hy | rfl
    · exact h.lt y hy
    · exact hx
  · rw [List.length_set] at hj
    have hc := h.cell j hj
    by_cases e : j = i
    · subst e
      rw [World.cell?_setCell_same _ _ _ hc]
      simp [List.getD_eq_getElem?_getD, hi]
    · rw [World.cell?_setCell_other _ _ _ _ (by intro h; exact e (by injection h with _ h; exact h.symm)), hc]
      simp [List.getD_eq_getElem?_getD, List.getElem?_set_ne (Ne.symm e)]
  · rw [List.length_set] at hj
    rw [World.frozen?_setCell]
    exact h.free j hj


theorem below_bytes (w : World) (s : ByteArray) : Below w.heap.size w (Lib.bytesWorld w 5 s) :=
  ⟨rfl, rfl, rfl, by rw [Lib.bytesWorld_size]; omega, fun i hi => Lib.bytesWorld_at_old w 5 s i (by omega)⟩
/-- What a row of bytes is as a text. -/
theorem Own.conv {w : World} {b : Nat} {xs : List Nat} (h : Own w b xs) (cp : Nat) :
    (convert 28 9 (.slice (some ⟨b, 0, none⟩) xs.length cp)).run Try.prog w = .ok (.string (strOfNums (xs.map fun x : Nat => (x : Int)))) w := by
  refine run_convert_bytes_arg (P := Try.prog) w 28 5 Try.underlying28 Try.underlying5 b 0 xs.length cp (xs.map fun x : Nat => (x : Int)) (by simp) (fun i hi => ?_) 9 Try.underlying9
  rw [Nat.zero_add, h.cell i hi]
  simp [List.getD_eq_getElem?_getD, hi]
theorem Own.below {w w' : World} {b : Nat} {xs : List Nat} (h : Own w b xs) (hb : Below w.heap.size w w') (hlt : b < w.heap.size) : Own w' b xs :=
  ⟨h.lt, fun j hj => by rw [hb.cell (p := ⟨b, j, none⟩) hlt]; exact h.cell j hj, fun j hj => by rw [hb.frozen (p := ⟨b, j, none⟩) hlt]; exact h.free j hj⟩
theorem bytes_str (xs : List Nat) (h : ∀ x ∈ xs, x < 256) : bytes (strOfNums (xs.map fun x : Nat => (x : Int))) = xs := by
  simp only [bytes, strOfNums, List.map_map, List.toList_toArray]
  conv => rhs; rw [← List.map_id xs]
  apply List.map_congr_left
  intro x hx
  have := h x hx
  simp
  omega

/-- What is kept of the row through the last statement: it reads as the text T. -/
structure Good (b n : Nat) (T : ByteArray) (w : World) : Prop where
  own : Own w b (bytes T)
  len : (bytes T).length = n
  lt : b < w.heap.size
theorem str_bytes (T : ByteArray) : strOfNums ((bytes T).map fun x : Nat => (x : Int)) = T := by
  obtain ⟨⟨l⟩⟩ := T
  simp only [bytes, strOfNums, List.map_map, ByteArray.mk.injEq]
  congr 1
  conv => rhs; rw [← List.map_id l]
  apply List.map_congr_left
  intro x _
  simp
theorem Good.conv {b cp n : Nat} {T : ByteArray} {w : World} (h : Good b n T w) :
    (convert 28 9 (.slice (some ⟨b, 0, none⟩) n cp)).run Try.prog w = .ok (.string T) w := by
  rw [← h.len, h.own.conv cp, str_bytes]
def Held (b cp n : Nat) (T : ByteArray) (w : World) : Prop :=
  (convert 28 9 (.slice (some ⟨b, 0, none⟩) n cp)).run Try.prog w = .ok (.string T) w ∧ Good b n T w
theorem Good.next {b cp n : Nat} {T : ByteArray} {w w' : World} (hb : Below w.heap.size w w')
    (h : (convert 28 9 (.slice (some ⟨b, 0, none⟩) n cp)).run Try.prog w = .ok (.string T) w ∧ Good b n T w) :
    (convert 28 9 (.slice (some ⟨b, 0, none⟩) n cp)).run Try.prog w' = .ok (.string T) w' ∧ Good b n T w' := by
  have g : Good b n T w' := ⟨h.2.own.below hb h.2.lt, h.2.len, Nat.lt_of_lt_of_le h.2.lt hb.size⟩
  exact ⟨g.conv, g⟩
theorem Good.drew {b cp n : Nat} {T : ByteArray} {w : World} (h : Good b n T w) :
    (convert 28 9 (.slice (some ⟨b, 0, none⟩) n cp)).run Try.prog w.drew = .ok (.string T) w.drew ∧ Good b n T w.drew := by
  have g : Good b n T w.drew := ⟨⟨h.own.lt, h.own.cell, h.own.free⟩, h.len, h.lt⟩
  exact ⟨g.conv, g⟩


theorem good_of {w : World} {b n : Nat} {xs : List Nat} (h : Own w b xs) (hl : xs.length = n) (hlt : b < w.heap.size) :
    ∃ T, Good b n T w ∧ bytes T = xs := by
  have e := bytes_str xs h.lt
  exact ⟨strOfNums (xs.map fun x : Nat => (x : Int)), ⟨by rw [e]; exact h, by rw [e]; exact hl, hlt⟩, e⟩
theorem bytes_inj {a b : ByteArray} (h : bytes a = bytes b) : a = b := by rw [← str_bytes a, ← str_bytes b, h]
theorem size_of_bytes (T : ByteArray) : T.size = (bytes T).length := (bytes_length T).symm
theorem toList_eq (a b : ByteArray) : (a.toList == b.toList) = decide (a = b) := by
  have h : a.toList = b.toList ↔ a = b := by
    constructor
    · intro h
      obtain ⟨⟨x⟩⟩ := a
      obtain ⟨⟨y⟩⟩ := b
      rw [Lib.toList_data, Lib.toList_data] at h
      simpa using h
    · rintro rfl; rfl
  rw [Bool.eq_iff_iff]
  simp [h]
/-- The last test of CrcTells. -/
theorem tells_test {s T : ByteArray} (h : Crc.sum 65535 (bytes T) = Crc.sum 65535 (bytes s) ↔ bytes T = bytes s) :
    ((((Crc.sum 65535 (bytes T) : Nat) : Int) == ((Crc.sum 65535 (bytes s) : Nat) : Int)) == (T.toList == s.toList)) = true := by
  have h1 : (((Crc.sum 65535 (bytes T) : Nat) : Int) == ((Crc.sum 65535 (bytes s) : Nat) : Int)) = decide (T = s) := by
    rw [Bool.eq_iff_iff]
    simp only [beq_iff_eq, decide_eq_true_eq]
    rw [Int.ofNat_inj, h]
    exact ⟨bytes_inj, fun e => by rw [e]⟩
  rw [h1, toList_eq]
  simp

theorem tells_same {s T : ByteArray} {i x turn : Nat} (hi : i < s.size) (hx1 : x < 256) (hT : bytes T = (bytes s).set i (x ^^^ turn % 256)) :
    Crc.sum 65535 (bytes T) = Crc.sum 65535 (bytes s) ↔ bytes T = bytes s := by
  rw [hT]
  exact Crc.one_turn _ _ _ (bytes_bytes s) (by rw [bytes_length]; exact hi) (Nat.xor_lt_two_pow (n := 8) hx1 (by omega))
theorem tells_same2 {s T : ByteArray} {i x y turn : Nat} (hi : i + 1 < s.size) (hx1 : x < 256) (hy1 : y < 256) (ht : turn < 65536) (hT : bytes T = ((bytes s).set i (x ^^^ turn % 256)).set (i + 1) (y ^^^ turn / 256)) :
    Crc.sum 65535 (bytes T) = Crc.sum 65535 (bytes s) ↔ bytes T = bytes s := by
  rw [hT]
  exact Crc.two_turn _ _ _ _ (bytes_bytes s) (by rw [bytes_length]; exact hi) (Nat.xor_lt_two_pow (n := 8) hx1 (by omega)) (Nat.xor_lt_two_pow (n := 8) hy1 (by omega))

set_option maxRecDepth 100000 in
set_option maxHeartbeats 1000000 in
theorem tells_one (s : ByteArray) (hs : s.size ≤ 140737488351232) (i turn : Nat) (hi : i < s.size) (hl : ¬ i + 1 < s.size) (t1 : turn < 65536) (w : World) :
    Calls Try.prog 7 #[.string s, .int .i64 (i : Int), .int .u16 (turn : Int)] w fun e w' => e = .returned (.bool true) ∧ Below w.heap.size w w' := by
  have hkb := Lib.run_convert_string_bytes (P := Try.prog) w 9 28 5 s Try.underlying9 Try.underlying28 Try.underlying5
  have hown := Own.made w s
  have hbel := below_bytes w s
  have hsz : w.heap.size < (Lib.bytesWorld w 5 s).heap.size := by rw [Lib.bytesWorld_size]; omega
  have hlen := bytes_length s
  obtain ⟨x, hx⟩ : ∃ x, x = (bytes s).getD i 0 := ⟨_, rfl⟩
  have hx1 : x < 256 := by rw [hx]; exact getD_lt _ (bytes_bytes s) i
  have hc := hown.cell i (by omega)
  have hf := hown.free i (by omega)
  have hset := hown.set i (x ^^^ (turn % 256)) (by omega) (Nat.xor_lt_two_pow (n := 8) hx1 (by omega))
  rw [← hx] at hc
  have hxx : bits .xor .u8 (x : Int) ((turn : Int) % 256) = ((x ^^^ (turn % 256) : Nat) : Int) := u8_xor_nat x (turn % 256) hx1 (by omega)
  generalize hW1 : Lib.bytesWorld w 5 s = w1 at *
  generalize hC : grownCap w s.size 0 5 = cp at *
  have HL := Lib.hid hlen
  have HX := Lib.hid hx
  have HO := Lib.hid hset
  clear hlen hx hset hW1 hC hown
  go_enter Try.func7, Try.ntmps7
  go_wp2_with fail
  clear hkb hxx hc hf
  have hB2 := hbel.setCell (p := ⟨w.heap.size, i, none⟩) (Nat.le_refl _) (.int .u8 ((x ^^^ (turn % 256) : Nat) : Int))
  have hS2 : w.heap.size < (w1.setCell ⟨w.heap.size, i, none⟩ (.int .u8 ((x ^^^ (turn % 256) : Nat) : Int))).heap.size := by simpa using hsz
  generalize w1.setCell ⟨w.heap.size, i, none⟩ (.int .u8 ((x ^^^ (turn % 256) : Nat) : Int)) = w2 at *
  have hbase : Below w.heap.size w w2 := hB2
  clear hB2
  have hsz2 : w.heap.size < w2.heap.size := hS2
  clear hS2
  obtain ⟨T, hg, hTb⟩ := good_of (n := s.size) HO.out (by rw [List.length_set]; exact HL.out) hsz2
  have HT := Lib.hid hTb
  have hT : T.size ≤ maxLen := by rw [size_of_bytes, hTb, List.length_set, HL.out]; unfold maxLen; omega
  clear hTb HO
  have hsm : s.size ≤ maxLen := by unfold maxLen; omega
  go_region_held3 (fun W => (convert 28 9 (.slice (some ⟨w.heap.size, 0, none⟩) s.size cp)).run Try.prog W = .ok (.string T) W ∧ Good w.heap.size s.size T W)
    (first | exact hg.drew | exact Good.next (by assumption) (by assumption))
    (first | (go_at_call 8; refine (awake_any _).mono ?_; rintro e w' ⟨rfl, hb1⟩) | (go_at_call 11; refine (sum_any _ (by assumption) _).mono ?_; rintro e w' ⟨rfl, hb2⟩))
  have HE := Lib.hid (tells_test (tells_same hi hx1 HT.out))
  go_wp2
  go_ret
  refine ⟨ret_bool HE.out, ?_⟩
  refine below_next (w1 := ?_) ?_ (by assumption)
  refine below_next (w1 := ?_) ?_ (by assumption)
  refine below_next (w1 := ?_) ?_ (by assumption)
  exact hbase.drew

set_option maxRecDepth 100000 in
set_option maxHeartbeats 1000000 in
theorem tells_two (s : ByteArray) (hs : s.size ≤ 140737488351232) (i turn : Nat) (hi : i < s.size) (hl : (i : Int) + 1 < (s.size : Int)) (t1 : turn < 65536) (w : World) :
    Calls Try.prog 7 #[.string s, .int .i64 (i : Int), .int .u16 (turn : Int)] w fun e w' => e = .returned (.bool true) ∧ Below w.heap.size w w' := by
  have hkb := Lib.run_convert_string_bytes (P := Try.prog) w 9 28 5 s Try.underlying9 Try.underlying28 Try.underlying5
  have hown := Own.made w s
  have hbel := below_bytes w s
  have hsz : w.heap.size < (Lib.bytesWorld w 5 s).heap.size := by rw [Lib.bytesWorld_size]; omega
  have hlen := bytes_length s
  obtain ⟨x, hx⟩ : ∃ x, x = (bytes s).getD i 0 := ⟨_, rfl⟩
  have hx1 : x < 256 := by rw [hx]; exact getD_lt _ (bytes_bytes s) i
  have hc := hown.cell i (by omega)
  have hf := hown.free i (by omega)
  have hset := hown.set i (x ^^^ (turn % 256)) (by omega) (Nat.xor_lt_two_pow (n := 8) hx1 (by omega))
  rw [← hx] at hc
  obtain ⟨y, hy⟩ : ∃ y, y = (bytes s).getD (i + 1) 0 := ⟨_, rfl⟩
  have hy1 : y < 256 := by rw [hy]; exact getD_lt _ (bytes_bytes s) (i + 1)
  have hset2 := hset.set (i + 1) (y ^^^ (turn / 256)) (by rw [List.length_set]; omega) (Nat.xor_lt_two_pow (n := 8) hy1 (by omega))
  have hc2 := hset.cell (i + 1) (by rw [List.length_set]; omega)
  have hf2 := hset.free (i + 1) (by rw [List.length_set]; omega)
  rw [show ((bytes s).set i (x ^^^ turn % 256)).getD (i + 1) 0 = y from by rw [hy]; simp [List.getD_eq_getElem?_getD]] at hc2
  have hyy : bits .xor .u8 (y : Int) ((turn : Int) / 256) = ((y ^^^ (turn / 256) : Nat) : Int) := u8_xor_nat y (turn / 256) hy1 (by omega)
  have hxx : bits .xor .u8 (x : Int) ((turn : Int) % 256) = ((x ^^^ (turn % 256) : Nat) : Int) := u8_xor_nat x (turn % 256) hx1 (by omega)
  generalize hW1 : Lib.bytesWorld w 5 s = w1 at *
  generalize hC : grownCap w s.size 0 5 = cp at *
  have HL := Lib.hid hlen
  have HX := Lib.hid hx
  have HO := Lib.hid hset2
  clear hlen hx hy hset hset2 hW1 hC hown
  go_enter Try.func7, Try.ntmps7
  go_wp2_with fail
  clear hkb hxx hc hf hyy hc2 hf2
  have hB2 := (hbel.setCell (p := ⟨w.heap.size, i, none⟩) (Nat.le_refl _) (.int .u8 ((x ^^^ (turn % 256) : Nat) : Int))).setCell (p := ⟨w.heap.size, i + 1, none⟩) (Nat.le_refl _) (.int .u8 ((y ^^^ (turn / 256) : Nat) : Int))
  have hS2 : w.heap.size < ((w1.setCell ⟨w.heap.size, i, none⟩ (.int .u8 ((x ^^^ (turn % 256) : Nat) : Int))).setCell ⟨w.heap.size, i + 1, none⟩ (.int .u8 ((y ^^^ (turn / 256) : Nat) : Int))).heap.size := by simpa using hsz
  generalize (w1.setCell ⟨w.heap.size, i, none⟩ (.int .u8 ((x ^^^ (turn % 256) : Nat) : Int))).setCell ⟨w.heap.size, i + 1, none⟩ (.int .u8 ((y ^^^ (turn / 256) : Nat) : Int)) = w2 at *
  have hbase : Below w.heap.size w w2 := hB2
  clear hB2
  have hsz2 : w.heap.size < w2.heap.size := hS2
  clear hS2
  obtain ⟨T, hg, hTb⟩ := good_of (n := s.size) HO.out (by rw [List.length_set, List.length_set]; exact HL.out) hsz2
  have HT := Lib.hid hTb
  have hT : T.size ≤ maxLen := by rw [size_of_bytes, hTb, List.length_set, List.length_set, HL.out]; unfold maxLen; omega
  clear hTb HO
  have hsm : s.size ≤ maxLen := by unfold maxLen; omega
  go_region_held3 (fun W => (convert 28 9 (.slice (some ⟨w.heap.size, 0, none⟩) s.size cp)).run Try.prog W = .ok (.string T) W ∧ Good w.heap.size s.size T W)
    (first | exact hg.drew | exact Good.next (by assumption) (by assumption))
    (first | (go_at_call 8; refine (awake_any _).mono ?_; rintro e w' ⟨rfl, hb1⟩) | (go_at_call 11; refine (sum_any _ (by assumption) _).mono ?_; rintro e w' ⟨rfl, hb2⟩))
  have HE := Lib.hid (tells_test (tells_same2 (by omega) hx1 hy1 t1 HT.out))
  go_wp2
  go_ret
  refine ⟨ret_bool HE.out, ?_⟩
  refine below_next (w1 := ?_) ?_ (by assumption)
  refine below_next (w1 := ?_) ?_ (by assumption)
  refine below_next (w1 := ?_) ?_ (by assumption)
  exact hbase.drew

theorem tells_walk (s : ByteArray) (hs : s.size ≤ 140737488351232) (at_ turn : Int) (t0 : 0 ≤ turn) (t1 : turn < 65536) (w : World) :
    Calls Try.prog 7 #[.string s, .int .i64 at_, .int .u16 turn] w fun e w' => e = .returned (.bool true) ∧ Below w.heap.size w w' := by
  by_cases h : at_ < 0 ∨ (s.size : Int) ≤ at_
  · exact tells_out s at_ turn h w
  · obtain ⟨i, rfl⟩ := Int.eq_ofNat_of_zero_le (show 0 ≤ at_ by omega)
    obtain ⟨k, rfl⟩ := Int.eq_ofNat_of_zero_le t0
    by_cases hl : i + 1 < s.size
    · exact tells_two s hs i k (by omega) (by omega) (by omega) w
    · exact tells_one s hs i k (by omega) hl (by omega) w
end Go.Proofs.Ytaemeebamfcbfaa
