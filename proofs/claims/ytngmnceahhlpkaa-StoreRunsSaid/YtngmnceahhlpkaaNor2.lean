/- What Image, Read and Program of a flash do, in whatever world. Conditions: the flash lies in memory, or is nil; numbers are of their kinds, texts are within the reach of memory. -/
import Derived.Test.YtngmnceahhlpkaaNor1
namespace Go.Proofs.Ytngmnceahhlpkaa
open Go.RowKit

/-- Cells of a flash as a text. -/
theorem conv_cells (b : Nat) (J : Option Nat) (f : Fl) (w : World) (h : At w b J f) (a n c : Nat) (hn : a + n ≤ 8192) :
    (convert 86 9 (.slice (some ⟨b, 5 + a, none⟩) n c)).run Try.prog w = .ok (.string (str ((f.cell.drop a).take n))) w := by
  obtain ⟨hok, jv, hb, _⟩ := h
  have hl : ((f.cell.drop a).take n).length = n := by rw [List.length_take, List.length_drop, hok.len]; omega
  refine run_convert_bytes_arg (P := Try.prog) w 86 5 Try.underlying86 Try.underlying5 b (5 + a) n c (((f.cell.drop a).take n).map fun x : Nat => (x : Int)) (by rw [List.length_map, hl]) (fun i hi => ?_) 9 Try.underlying9
  rw [cell_at hb, Nat.add_assoc, flashL_get f jv (a + i) (by rw [hok.len]; omega)]
  have e : ((f.cell.drop a).take n)[i]? = f.cell[a + i]? := by rw [List.getElem?_take, if_pos hi, List.getElem?_drop]
  have hlt : a + i < f.cell.length := by rw [hok.len]; omega
  rw [List.getD_eq_getElem?_getD, List.getD_eq_getElem?_getD, List.getElem?_map, e, List.getElem?_eq_getElem hlt]
  rfl

theorem image_any (b : Nat) (J : Option Nat) (f : Fl) (w : World) (h : At w b J f) :
    Calls Try.prog 17 #[.pointer (some ⟨b, 0, none⟩)] w fun e w' => e = .returned (.string (str f.cell)) ∧ w = w' := by
  have hc := conv_cells b J f w h 0 8192 8192 (by omega)
  have hl := h.ok.len
  have e : (f.cell.drop 0).take 8192 = f.cell := by rw [List.drop_zero, List.take_of_length_le (by omega)]
  rw [e] at hc
  have HC := Lib.hid hc
  clear hc hl e
  go_enter Try.func17, Try.ntmps17
  have hc := HC.out
  go_wp2_with fail
  go_ret
  exact ⟨rfl, rfl⟩
theorem image_nil (w : World) : Calls Try.prog 17 #[.pointer none] w fun e w' => e = .returned (.string ByteArray.empty) ∧ w = w' := by
  go_enter Try.func17, Try.ntmps17
  go_wp2_with fail
  go_ret
  exact ⟨rfl, rfl⟩

/-- A slice of a flash's cells: where it begins (behind the last one: at the first one). -/
theorem slice_cells_run (b i k : Nat) (hs : i + k ≤ 8192) : ∃ o, (o = 5 + i ∨ k = 0 ∧ o = 5) ∧ ∀ w : World, (Instr.sliceAt 89 (.pointer (some ⟨b, 5, none⟩)) (some (.int .i64 (i : Int))) (some (.int .i64 ((i : Int) + (k : Int)))) none).run Try.prog w = .ok (.slice (some ⟨b, o, none⟩) k (8192 - i)) w := by
  have hA : Try.prog.arrayLen 89 = 8192 := by kernel_rfl
  have hE : Try.prog.elem 89 = 5 := by kernel_rfl
  have hu : Try.prog.underlying 89 = some (.array (Try.prog.arrayLen 89) (Try.prog.elem 89)) := by rw [hA, hE]; exact Try.underlying89
  have hz : ∀ w : World, (sizeOf (Try.prog.elem 89)).run Try.prog w = .ok 1 w := fun w => by kernel_rfl
  have hr : ∀ w : World, (Instr.sliceAt 89 (.pointer (some ⟨b, 5, none⟩)) (some (.int .i64 (i : Int))) (some (.int .i64 ((i : Int) + (k : Int)))) none).run Try.prog w = .ok (slicedAt ⟨b, 5, none⟩ i (i + k) 8192 1) w := by
    intro w
    rw [run_sliceAt_array_lh (P := Try.prog) w 89 ⟨b, 5, none⟩ hu .i64 .i64 (i : Int) ((i : Int) + (k : Int)) (by omega) (by omega) (by rw [hA]; omega), hz, hA]
    simp only [Result.andThen, Int.toNat_natCast, show ((i : Int) + (k : Int)).toNat = i + k from by omega]
  by_cases hi : 8192 = i
  · refine ⟨5, .inr ⟨by omega, rfl⟩, fun w => ?_⟩
    rw [hr, slicedAt, if_pos hi, show i + k - i = k from by omega]
  · refine ⟨5 + i, .inl rfl, fun w => ?_⟩
    rw [hr, slicedAt, if_neg hi, show i + k - i = k from by omega, Nat.mul_one, Addr.add_lit]
theorem read_any (b : Nat) (J : Option Nat) (f : Fl) (a n : Int) (w : World) (h : At w b J f) :
    Calls Try.prog 20 #[.pointer (some ⟨b, 0, none⟩), .int .i64 a, .int .i64 n] w fun e w' => e = .returned (.tuple #[.string (str (f.read a n).1), .int .i64 (f.read a n).2]) ∧ w = w' := by
  have H := Lib.hid h
  clear h
  cases ho : f.off with
  | true =>
    have HR : Hid (f.read a n = ([], 60)) := by unfold Hid Fl.read; rw [ho]; rfl
    have HY : Hid (readyOf f = 60) := by unfold Hid readyOf; rw [ho]; rfl
    clear ho
    go_enter Try.func20, Try.ntmps20
    go_wp2_with fail
    refine (ready_any b J f _ H.out).mono ?_
    rintro e w1 ⟨rfl, rfl⟩
    rw [HY.out]
    go_wp2_with fail
    go_ret2
    exact ⟨by rw [HR.out]; rfl, rfl⟩
  | false =>
    have HY : Hid (readyOf f = 0) := by unfold Hid readyOf; rw [ho]; rfl
    cases hf : Fl.fits a n with
    | false =>
      have HR : Hid (f.read a n = ([], 1)) := by unfold Hid Fl.read; rw [ho, hf]; rfl
      have HF := Lib.hid hf
      clear ho hf
      go_enter Try.func20, Try.ntmps20
      go_wp2_with fail
      refine (ready_any b J f _ H.out).mono ?_
      rintro e w1 ⟨rfl, rfl⟩
      rw [HY.out]
      go_wp2_with fail
      refine (fits_any a n _).mono ?_
      rintro e w1 ⟨rfl, rfl⟩
      rw [HF.out]
      go_wp2_with fail
      go_ret2
      exact ⟨by rw [HR.out]; rfl, rfl⟩
    | true =>
      have HR : Hid (f.read a n = ((f.cell.drop a.toNat).take n.toNat, 0)) := by unfold Hid Fl.read; rw [ho, hf]; rfl
      have hb : 0 ≤ a ∧ 0 ≤ n ∧ a ≤ 8192 ∧ n ≤ 8192 - a := by unfold Fl.fits at hf; simpa using hf
      have HF := Lib.hid hf
      obtain ⟨a0, n0, a1, n1⟩ := hb
      obtain ⟨i, rfl⟩ := Int.eq_ofNat_of_zero_le a0
      obtain ⟨k, rfl⟩ := Int.eq_ofNat_of_zero_le n0
      obtain ⟨o, ho', hsl⟩ := slice_cells_run b i k (by omega)
      have HC : Hid ((convert 86 9 (.slice (some ⟨b, o, none⟩) k (8192 - i))).run Try.prog w = .ok (.string (str ((f.cell.drop i).take k))) w) := by
        rcases ho' with rfl | ⟨rfl, rfl⟩
        · exact conv_cells b J f w H.out i k _ (by omega)
        · exact conv_cells b J f w H.out 0 0 _ (by omega)
      clear ho'
      have hs : (i : Int) + (k : Int) ≤ 8192 := by omega
      clear ho hf n1 a1 a0 n0
      go_enter Try.func20, Try.ntmps20
      go_wp2_with fail
      refine (ready_any b J f _ H.out).mono ?_
      rintro e w1 ⟨rfl, rfl⟩
      rw [HY.out]
      go_wp2_with fail
      refine (fits_any _ _ _).mono ?_
      rintro e w1 ⟨rfl, rfl⟩
      rw [HF.out]
      have hc := HC.out
      go_wp2_with fail
      go_ret2
      exact ⟨by rw [HR.out]; rfl, rfl⟩
theorem read_nil (a n : Int) (w : World) : Calls Try.prog 20 #[.pointer none, .int .i64 a, .int .i64 n] w fun e w' => e = .returned (.tuple #[.string ByteArray.empty, .int .i64 2]) ∧ w = w' := by
  go_enter Try.func20, Try.ntmps20
  go_wp2_with fail
  refine (ready_nil _).mono ?_
  rintro e w1 ⟨rfl, rfl⟩
  go_wp2_with fail
  go_ret2
  exact ⟨rfl, rfl⟩
end Go.Proofs.Ytngmnceahhlpkaa
