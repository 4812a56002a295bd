/- The walks of NorNil and NorNames: both are true, in whatever world. No condition. -/
import Derived.Test.YtngmnceahhlpkaaAwake
namespace Go.Proofs.Ytngmnceahhlpkaa
open Go.RowKit

set_option maxHeartbeats 1000000 in
theorem norNil_walk (a : Int) (s : ByteArray) (w : World) : Calls Try.prog 4 #[.int .i64 a, .string s] w fun e w' => e = .returned (.bool true) ∧ Below w.heap.size w w' := by
  go_enter Try.func4, Try.ntmps4
  go_wp2_with fail
  refine (read_nil a a _).mono ?_
  rintro e w1 ⟨rfl, rfl⟩
  go_wp2_with fail
  refine (prog_nil a s _).mono ?_
  rintro e w1 ⟨rfl, rfl⟩
  go_wp2_with fail
  refine (erase_nil a _).mono ?_
  rintro e w1 ⟨rfl, rfl⟩
  go_wp2_with fail
  refine (cut_nil a s _).mono ?_
  rintro e w1 ⟨rfl, rfl⟩
  go_wp2_with fail
  refine (on_nil _).mono ?_
  rintro e w1 ⟨rfl, rfl⟩
  go_wp2_with fail
  refine (image_nil _).mono ?_
  rintro e w1 ⟨rfl, rfl⟩
  go_wp2_with fail
  refine (steps_nil _).mono ?_
  rintro e w1 ⟨rfl, rfl⟩
  go_wp2_with fail
  refine (awake_any _).mono ?_
  rintro e w1 ⟨rfl, h1⟩
  have H1 := Lib.hid h1
  clear h1
  go_wp2_with fail
  go_ret
  exact ⟨rfl, H1.out⟩

theorem bytes_extract (a : ByteArray) (i j : Nat) : bytes (a.extract i j) = ((bytes a).drop i).take (j - i) := by
  simp [bytes, List.map_take, List.map_drop, List.extract_eq_take_drop]
theorem nn_e1 : Fl.new.program 8191 (bytes { data := #[97, 98] }) = (Fl.new, 1) := by kernel_rfl
theorem nn_e2 : Fl.new.program 8192 (bytes { data := #[] }) = (Fl.new, 0) := by kernel_rfl
theorem nn_e3 : Fl.new.erase 2 = (Fl.new, 1) := by kernel_rfl
def nnf : Fl := (Fl.new.cut 0 []).1
theorem nn_e4 : Fl.new.cut 0 (bytes { data := #[] }) = (nnf, 0) := pair_eq (by kernel_rfl)
theorem nn_e5 : nnf.program 9223372036854775807 (bytes { data := #[97] }) = (nnf, 1) := by kernel_rfl
def nng : Fl := (nnf.program 0 [0]).1
theorem nn_e6 : nnf.program 0 (bytes { data := #[0] }) = (nng, 60) := pair_eq (by kernel_rfl)
theorem nn_e7 : nng.program 9999 (bytes { data := #[97] }) = (nng, 60) := by kernel_rfl
theorem nn_e8 : nng.cell.take 1 = [0] := by kernel_rfl
set_option maxHeartbeats 1000000 in
theorem norNames_walk (w : World) : Calls Try.prog 8 #[] w fun e w' => e = .returned (.bool true) ∧ Below w.heap.size w w' := by
  go_enter Try.func8, Try.ntmps8
  go_wp2_with fail
  refine (new_held _).mono ?_
  rintro e w1 ⟨b, rfl, h1⟩
  have H1 := Lib.hid h1
  clear h1
  go_wp2_with fail
  refine (program_held H1.out 8191 _ nn_e1).mono ?_
  rintro e w2 ⟨rfl, h2⟩
  have H2 := Lib.hid h2
  clear h2 H1
  go_wp2_with fail
  refine (program_held H2.out 8192 _ nn_e2).mono ?_
  rintro e w3 ⟨rfl, h3⟩
  have H3 := Lib.hid h3
  clear h3 H2
  go_wp2_with fail
  refine (erase_held H3.out 2 nn_e3).mono ?_
  rintro e w4 ⟨rfl, h4⟩
  have H4 := Lib.hid h4
  clear h4 H3
  go_wp2_with fail
  refine (of_size _ _ (by decide)).mono ?_
  rintro e w5 ⟨rfl, rfl⟩
  go_wp2_with fail
  refine (cut_held H4.out 0 _ (by omega) (by decide) nn_e4).mono ?_
  rintro e w5 ⟨rfl, J, _, h5⟩
  have H5 := Lib.hid h5
  clear h5 H4
  go_wp2_with fail
  refine (program_held H5.out 9223372036854775807 _ nn_e5).mono ?_
  rintro e w6 ⟨rfl, h6⟩
  have H6 := Lib.hid h6
  clear h6 H5
  go_wp2_with fail
  refine (program_held H6.out 0 _ nn_e6).mono ?_
  rintro e w7 ⟨rfl, h7⟩
  have H7 := Lib.hid h7
  clear h7 H6
  go_wp2_with fail
  refine (program_held H7.out 9999 _ nn_e7).mono ?_
  rintro e w8 ⟨rfl, h8⟩
  have H8 := Lib.hid h8
  clear h8 H7
  go_wp2_with fail
  refine (awake_any _).mono ?_
  rintro e w9 ⟨rfl, h9⟩
  have H9 := Lib.hid (H8.out.keep h9)
  clear h9 H8
  go_wp2_with fail
  refine (image_any b J nng _ H9.out.at_).mono ?_
  rintro e w10 ⟨rfl, rfl⟩
  have hl : (str nng.cell).size = 8192 := by rw [str_size]; exact H9.out.ok.len
  have hx : (str nng.cell).extract 0 1 = { data := #[0] } := by
    apply bytes_inj
    rw [bytes_extract, bytes_str _ H9.out.ok.byte]
    exact nn_e8
  have HI : Hid (∀ W, At W b J nng → Calls Try.prog 17 #[.pointer (some ⟨b, 0, none⟩)] W fun e w' => e = .returned (.string (str nng.cell)) ∧ W = w') := fun W h => image_any b J nng W h
  generalize str nng.cell = im at *
  go_wp2_with fail
  refine (HI.out _ H9.out.at_).mono ?_
  rintro e w10 ⟨rfl, rfl⟩
  clear HI
  go_wp2_with fail
  go_ret
  exact ⟨rfl, H9.out.below⟩
end Go.Proofs.Ytngmnceahhlpkaa
