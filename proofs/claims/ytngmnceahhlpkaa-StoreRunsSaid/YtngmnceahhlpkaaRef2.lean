/- What New, Of and Read of the document's flash do, in whatever world. Conditions: the flash lies in memory; numbers are of their kinds, texts are within the reach of memory. -/
import Derived.Test.YtngmnceahhlpkaaRef1
namespace Go.Proofs.Ytngmnceahhlpkaa
open Go.RowKit

theorem made_zero (n : Nat) : madeCells #[Value.int .u8 0] n = ((List.replicate n 0).map byteV ++ []).toArray := by
  rw [List.append_nil, List.map_replicate]
  apply Array.ext_getElem?
  intro i
  have h1 : i % 1 = 0 := by omega
  by_cases h : i < n <;> simp [madeCells, byteV, h, h1]
theorem alloc_size (w : World) (o : Obj) : (w.alloc o).heap.size = w.heap.size + 1 := by simp
theorem str_nil : str [] = ByteArray.empty := rfl
set_option maxRecDepth 100000 in
set_option maxHeartbeats 1000000 in
theorem rnew_any (w : World) : Calls Try.prog 38 #[] w fun e w' => e = .returned (.pointer (some ⟨w.heap.size + 1, 0, none⟩)) ∧ RAt w' (w.heap.size + 1) w.heap.size Fl.new ∧ Below w.heap.size w w' := by
  have hm0 := run_make_row' (P := Try.prog) 86 5 (.int .u8 0) 1 Try.underlying86 zeroInfo5 rfl .i64 .i64 8192 (by omega) (by omega)
  have hm : ∀ w : World, (Instr.makeSlice 86 (.int .i64 8192) (.int .i64 8192)).run Try.prog w = .ok (.slice (some ⟨w.heap.size, 0, none⟩) 8192 8192) (w.alloc (.cells (madeCells #[.int .u8 0] 8192) 5)) := hm0
  clear hm0
  have hA : Hid (RAt ((w.alloc (.cells (madeCells #[.int .u8 0] 8192) 5)).alloc (.cells #[.slice (some ⟨w.heap.size, 0, none⟩) 8192 8192, .bool false, .bool false, .int .i64 0, .string { data := #[] }, .int .i64 0] 97)) (w.heap.size + 1) w.heap.size Fl.zero) := by
    refine ⟨Fl.Ok.zero, ⟨8192, by omega, by omega, ?_⟩, ⟨[], (0, 0), ?_, .inl rfl⟩⟩
    · have := heap_alloc_new (w.alloc (.cells (madeCells #[.int .u8 0] 8192) 5)) (.cells #[.slice (some ⟨w.heap.size, 0, none⟩) 8192 8192, .bool false, .bool false, .int .i64 0, .string { data := #[] }, .int .i64 0] 97)
      have e : (w.alloc (.cells (madeCells #[.int .u8 0] 8192) 5)).heap.size = w.heap.size + 1 := alloc_size _ _
      rw [e] at this
      exact this
    · have e := (below_alloc1 (w.alloc (.cells (madeCells #[.int .u8 0] 8192) 5)) (.cells #[.slice (some ⟨w.heap.size, 0, none⟩) 8192 8192, .bool false, .bool false, .int .i64 0, .string { data := #[] }, .int .i64 0] 97)).block w.heap.size (by rw [alloc_size]; omega)
      rw [e, heap_alloc_new, made_zero]
      rfl
  have hB : Hid (Below w.heap.size w ((w.alloc (.cells (madeCells #[.int .u8 0] 8192) 5)).alloc (.cells #[.slice (some ⟨w.heap.size, 0, none⟩) 8192 8192, .bool false, .bool false, .int .i64 0, .string { data := #[] }, .int .i64 0] 97))) :=
    (below_alloc1 w _).alloc (by rw [alloc_size]; omega) _
  go_enter Try.func38, Try.ntmps38
  go_wp2_with fail
  clear hm
  generalize (w.alloc (.cells (madeCells #[.int .u8 0] 8192) 5)).alloc (.cells #[.slice (some ⟨w.heap.size, 0, none⟩) 8192 8192, .bool false, .bool false, .int .i64 0, .string { data := #[] }, .int .i64 0] 97) = w1 at *
  go_loopw [2] (fun i wr => ∃ k : Nat, k ≤ 8192 ∧ i = .int .i64 k ∧ RAt wr (w.heap.size + 1) w.heap.size (Fl.fill k) ∧ Below w.heap.size w wr) (fun i _ => 8192 - (intOf i).toNat)
  case atStart => exact ⟨0, by omega, rfl, by rw [Fl.fill_zero]; exact hA.out, hB.out⟩
  case round =>
    obtain ⟨k, hk, rfl, hat, hbe⟩ := hrel
    have HAT := Lib.hid hat
    have HBT := Lib.hid hbe
    clear hat hbe hA hB
    by_cases hlt : (k : Int) < 8192
    · have hlt' : k < 8192 := by omega
      have hcell := HAT.out.cell k hlt'
      have hfree := HAT.out.rfree k hlt'
      obtain ⟨cap, _, _, hs0⟩ := HAT.out.slice
      go_wp2_with fail
      have HA3 : Hid (RAt (wr.setCell ⟨w.heap.size, k, none⟩ (.int .u8 255)) (w.heap.size + 1) w.heap.size (Fl.fill (k + 1))) := by
        have := HAT.out.set k 255 hlt' (by omega)
        unfold Hid
        rw [Fl.fill_next k hlt']
        exact this
      have HB3 : Hid (Below w.heap.size w (wr.setCell ⟨w.heap.size, k, none⟩ (.int .u8 255))) := HBT.out.setCell (Nat.le_refl _) _
      go_roundw
      case rel => exact ⟨k + 1, by omega, by go_num, HA3.out, HB3.out⟩
      case measure => simp [intOf]; omega
    · have e : k = 8192 := by omega
      have HE : Hid (RAt wr (w.heap.size + 1) w.heap.size Fl.new) := by rw [← Fl.fill_all, ← e]; exact HAT.out
      clear e HAT
      go_wp2_with fail
      go_ret
      exact ⟨rfl, HE.out, HBT.out⟩

theorem rof_size (s : ByteArray) (w : World) (hs : s.size ≠ 8192) : Calls Try.prog 39 #[.string s] w fun e w' => e = .returned (.tuple #[.pointer none, .int .i64 3]) ∧ w = w' := by
  have hb : ((s.size : Int) == 8192) = false := by rw [beq_eq_false_iff_ne]; omega
  clear hs
  go_enter Try.func39, Try.ntmps39
  go_wp2_with fail
  go_ret2
  exact ⟨rfl, rfl⟩
theorem bytesCells_eq (w : World) (s : ByteArray) : Lib.bytesCells w 5 s = ((bytes s).map byteV ++ List.replicate (grownCap w s.size 0 5 - s.size) (Value.int .u8 0)).toArray := by
  apply Array.toList_inj.1
  simp [Lib.bytesCells, bytes]
  exact fun _ _ => rfl
set_option maxRecDepth 100000 in
set_option maxHeartbeats 1000000 in
theorem rof_any (s : ByteArray) (w : World) (hs : s.size = 8192) :
    Calls Try.prog 39 #[.string s] w fun e w' => e = .returned (.tuple #[.pointer (some ⟨w.heap.size + 1, 0, none⟩), .int .i64 0]) ∧ RAt w' (w.heap.size + 1) w.heap.size (Fl.of (bytes s)) ∧ Below w.heap.size w w' := by
  have hb : ((s.size : Int) == 8192) = true := by rw [beq_iff_eq]; omega
  have hcv := Lib.run_convert_string_bytes (P := Try.prog) w 9 86 5 s Try.underlying9 Try.underlying86 Try.underlying5
  have hz : (Lib.bytesWorld w 5 s).heap.size = w.heap.size + 1 := Lib.bytesWorld_size w 5 s
  have hc1 := grownCap_ge w s.size 0 5
  have hc2 := grownCap_le_maxLen w s.size 0 5 (by rw [hs]; decide)
  have hA : Hid (RAt ((Lib.bytesWorld w 5 s).alloc (.cells #[.slice (some ⟨w.heap.size, 0, none⟩) s.size (grownCap w s.size 0 5), .bool false, .bool false, .int .i64 0, .string { data := #[] }, .int .i64 0] 97)) (w.heap.size + 1) w.heap.size (Fl.of (bytes s))) := by
    refine ⟨Fl.Ok.of (by rw [bytes_length, hs]) (bytes_byte s), ⟨grownCap w s.size 0 5, by omega, by exact hc2, ?_⟩, ⟨List.replicate (grownCap w s.size 0 5 - s.size) (.int .u8 0), ((Lib.bytesCells w 5 s).size, (Lib.bytesCells w 5 s).size + 1), ?_, .inr ?_⟩⟩
    · have := heap_alloc_new (Lib.bytesWorld w 5 s) (.cells #[.slice (some ⟨w.heap.size, 0, none⟩) s.size (grownCap w s.size 0 5), .bool false, .bool false, .int .i64 0, .string { data := #[] }, .int .i64 0] 97)
      rw [hz] at this
      rw [this, refL, hs]
      rfl
    · have e := (below_alloc1 (Lib.bytesWorld w 5 s) (.cells #[.slice (some ⟨w.heap.size, 0, none⟩) s.size (grownCap w s.size 0 5), .bool false, .bool false, .int .i64 0, .string { data := #[] }, .int .i64 0] 97)).block w.heap.size (by rw [hz]; omega)
      rw [e, Lib.bytesWorld_at_new, bytesCells_eq]
      rfl
    · rw [bytesCells_eq]
      simp [bytes_length, hs]
  have hB : Hid (Below w.heap.size w ((Lib.bytesWorld w 5 s).alloc (.cells #[.slice (some ⟨w.heap.size, 0, none⟩) s.size (grownCap w s.size 0 5), .bool false, .bool false, .int .i64 0, .string { data := #[] }, .int .i64 0] 97))) := by
    have h1 : Below w.heap.size w (Lib.bytesWorld w 5 s) := ⟨rfl, rfl, rfl, by rw [hz]; omega, fun k hk => Lib.bytesWorld_at_old w 5 s k hk⟩
    exact h1.alloc (by rw [hz]; omega) _
  clear hs hc1 hc2
  go_enter Try.func39, Try.ntmps39
  go_wp2_with fail
  go_ret2
  exact ⟨rfl, hA.out, hB.out⟩

/-- A slice of a row of cells: where it begins (behind the last one: at the first one). -/
theorem rslice_run (c i k cap : Nat) (hs : i + k ≤ cap) : ∃ o, (o = i ∨ k = 0 ∧ o = 0) ∧ ∀ w : World, (Instr.sliceAt 86 (.slice (some ⟨c, 0, none⟩) 8192 cap) (some (.int .i64 (i : Int))) (some (.int .i64 ((i : Int) + (k : Int)))) none).run Try.prog w = .ok (.slice (some ⟨c, o, none⟩) k (cap - i)) w := by
  have hE : Try.prog.elem 86 = 5 := by kernel_rfl
  have hu : Try.prog.underlying 86 = some (.slice (Try.prog.elem 86)) := by rw [hE]; exact Try.underlying86
  have hz : ∀ w : World, (sizeOf (Try.prog.elem 86)).run Try.prog w = .ok 1 w := fun w => by kernel_rfl
  have hr : ∀ w : World, (Instr.sliceAt 86 (.slice (some ⟨c, 0, none⟩) 8192 cap) (some (.int .i64 (i : Int))) (some (.int .i64 ((i : Int) + (k : Int)))) none).run Try.prog w = .ok (sliced (some ⟨c, 0, none⟩) i (i + k) cap 1) w := by
    intro w
    rw [run_sliceAt_slice (P := Try.prog) (w := w) 86 _ _ _ _ hu, run_slice_lh (P := Try.prog) w 86 (some ⟨c, 0, none⟩) 8192 cap hu .i64 .i64 (i : Int) ((i : Int) + (k : Int)) (by omega) (by omega) (by omega), hz]
    simp only [Result.andThen, Int.toNat_natCast, show ((i : Int) + (k : Int)).toNat = i + k from by omega]
  by_cases hi : cap = i
  · refine ⟨0, .inr ⟨by omega, rfl⟩, fun w => ?_⟩
    rw [hr, sliced, if_pos hi, show i + k - i = k from by omega]
  · refine ⟨i, .inl rfl, fun w => ?_⟩
    rw [hr, sliced, if_neg hi, show i + k - i = k from by omega, Nat.mul_one, Option.map_some, Addr.add_lit, Nat.zero_add]
theorem rread_any (b c : Nat) (f : Fl) (a n : Int) (w : World) (h : RAt w b c f) :
    Calls Try.prog 49 #[.pointer (some ⟨b, 0, none⟩), .int .i64 a, .int .i64 n] w fun e w' => e = .returned (.tuple #[.string (str (f.read a n).1), .int .i64 (f.read a n).2]) ∧ w = w' := by
  have a1 := h.off
  obtain ⟨cap, c1, c2, a0⟩ := h.slice
  have H := Lib.hid h
  clear h
  cases ho : f.off with
  | true =>
    have HR : Hid (f.read a n = ([], 60)) := by unfold Hid Fl.read; rw [ho]; rfl
    rw [ho] at a1
    clear ho
    go_enter Try.func49, Try.ntmps49
    go_wp2_with fail
    go_ret2
    exact ⟨by rw [HR.out]; rfl, rfl⟩
  | false =>
    rw [ho] at a1
    cases hf : Fl.fits a n with
    | false =>
      have HR : Hid (f.read a n = ([], 1)) := by unfold Hid Fl.read; rw [ho, hf]; rfl
      have HF := Lib.hid hf
      clear ho hf
      go_enter Try.func49, Try.ntmps49
      go_wp2_with fail
      refine (rrange_any a n _).mono ?_
      rintro e w1 ⟨rfl, rfl⟩
      rw [HF.out]
      go_wp2_with fail
      go_ret2
      exact ⟨by rw [HR.out]; rfl, rfl⟩
    | true =>
      have HR : Hid (f.read a n = ((f.cell.drop a.toNat).take n.toNat, 0)) := by unfold Hid Fl.read; rw [ho, hf]; rfl
      have hb : 0 ≤ a ∧ 0 ≤ n ∧ a ≤ 8192 ∧ n ≤ 8192 - a := by unfold Fl.fits at hf; simpa using hf
      have HF := Lib.hid hf
      obtain ⟨a0', n0, a1', n1⟩ := hb
      obtain ⟨i, rfl⟩ := Int.eq_ofNat_of_zero_le a0'
      obtain ⟨k, rfl⟩ := Int.eq_ofNat_of_zero_le n0
      have hs : (i : Int) + (k : Int) ≤ 8192 := by omega
      obtain ⟨o, ho', hsl⟩ := rslice_run c i k cap (by omega)
      have HC : Hid ((convert 86 9 (.slice (some ⟨c, o, none⟩) k (cap - i))).run Try.prog w = .ok (.string (str ((f.cell.drop i).take k))) w) := by
        rcases ho' with rfl | ⟨rfl, rfl⟩
        · exact rconv H.out _ k _ (by omega)
        · exact rconv H.out 0 0 _ (by omega)
      clear ho'
      clear ho hf n1 a1' a0' n0
      go_enter Try.func49, Try.ntmps49
      go_wp2_with fail
      refine (rrange_any _ _ _).mono ?_
      rintro e w1 ⟨rfl, rfl⟩
      rw [HF.out]
      have hc := HC.out
      go_wp2_with fail
      go_ret2
      exact ⟨by rw [HR.out]; rfl, rfl⟩
end Go.Proofs.Ytngmnceahhlpkaa
