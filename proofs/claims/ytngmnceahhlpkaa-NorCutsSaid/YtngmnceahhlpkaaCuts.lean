/- The walk of NorCuts: true, in whatever world. Condition: numbers are of their kinds, texts are within the reach of memory. -/
import Derived.Test.YtngmnceahhlpkaaErases
import Derived.Test.YtngmnceahhlpkaaPlain3
namespace Go.Proofs.Ytngmnceahhlpkaa
open Go.RowKit

/-- The parameter, laid in memory. -/
def partO (a : Int) (s : ByteArray) (L : Int) (j : ByteArray) : Obj := .cells #[.int .i64 a, .string s, .int .i64 L, .string j] 42
theorem part_in {w w1 : World} {a : Int} {s : ByteArray} {L : Int} {j : ByteArray} (h : Below (w.alloc (partO a s L j)).heap.size (w.alloc (partO a s L j)) w1) :
    w1.cell? ⟨w.heap.size, 0, none⟩ = some (.int .i64 a) ∧ w1.cell? ⟨w.heap.size, 1, none⟩ = some (.string s) ∧ w1.cell? ⟨w.heap.size, 2, none⟩ = some (.int .i64 L) ∧ w1.cell? ⟨w.heap.size, 3, none⟩ = some (.string j) := by
  have hb : w1.heap[w.heap.size]? = some (partO a s L j) := by
    rw [h.block w.heap.size (by rw [alloc_size]; omega), heap_alloc_new]
  exact ⟨cell_at hb 0, cell_at hb 1, cell_at hb 2, cell_at hb 3⟩
theorem below_part {w w1 : World} {a : Int} {s : ByteArray} {L : Int} {j : ByteArray} (h : Below (w.alloc (partO a s L j)).heap.size (w.alloc (partO a s L j)) w1) : Below w.heap.size w w1 :=
  (below_alloc1 w _).trans (h.mono (by rw [alloc_size]; omega))

set_option maxRecDepth 100000 in
theorem cuts_not (img : ByteArray) (a : Int) (s : ByteArray) (L : Int) (j : ByteArray) (w : World) (h0 : img.size ≠ 0) (h1 : img.size ≠ 8192) :
    Calls Try.prog 6 #[.string img, .agg #[.int .i64 a, .string s, .int .i64 L, .string j]] w fun e w' => e = .returned (.bool true) ∧ Below w.heap.size w w' := by
  have H := Lib.hid (fun w => made_not img w h0 h1)
  have HB := Lib.hid (below_alloc1 w (partO a s L j))
  clear h0 h1
  go_enter Try.func6, Try.ntmps6
  go_wp2_with fail
  refine (H.out _).mono ?_
  rintro e w1 ⟨rfl, rfl⟩
  go_wp2_with fail
  refine (H.out _).mono ?_
  rintro e w1 ⟨rfl, rfl⟩
  clear H
  go_wp2_with fail
  refine (awake_any _).mono ?_
  rintro e w1 ⟨rfl, h1⟩
  have H1 : Hid (Below w.heap.size w w1) := below_part h1
  clear h1
  go_wp2_with fail
  go_ret
  exact ⟨rfl, H1.out⟩

set_option maxRecDepth 100000 in
set_option maxHeartbeats 1000000 in
theorem cuts_minus (img : ByteArray) (a : Int) (s : ByteArray) (L : Int) (j : ByteArray) (w : World) (hi : img.size = 0 ∨ img.size = 8192) (hL : L < 0) (hj : j.size ≤ 140737488351232) :
    Calls Try.prog 6 #[.string img, .agg #[.int .i64 a, .string s, .int .i64 L, .string j]] w fun e w' => e = .returned (.bool true) ∧ Below w.heap.size w w' := by
  have H := Lib.hid (fun w => made_some img w hi)
  have HC := Lib.hid (cuts_out (start img) L (bytes j) (start_off img) hL)
  have hLh : L ≤ 9223372036854775807 := by omega
  clear hi
  generalize start img = f at *
  go_enter Try.func6, Try.ntmps6
  go_wp2_with fail
  refine (H.out _).mono ?_
  rintro e w1 ⟨b, r, c, rfl, h1'⟩
  have H1 := Lib.hid h1'.held
  clear h1'
  go_wp2_with fail
  refine (H.out _).mono ?_
  rintro e w2 ⟨d, r2, c2, rfl, h2'⟩
  have H2 : Hid (Duo (w.alloc (partO a s L j)) w2 b none f d none f) := duo_of H1.out h2'.held
  clear h2' H1 H
  obtain ⟨c0, c1, c2', c3⟩ := part_in H2.out.one.below
  go_wp2_with fail
  refine (cut_one H2.out L j hLh hj HC.out).mono ?_
  rintro e w3 ⟨rfl, J, h3⟩
  have H3 := Lib.hid h3
  clear h3 H2 c0 c1 c2' c3
  go_wp2_with fail
  refine (awake_duo H3.out).mono ?_
  rintro e w4 ⟨rfl, h4⟩
  have H4 := Lib.hid h4
  clear h4 H3
  obtain ⟨c0, c1, c2', c3⟩ := part_in H4.out.one.below
  go_wp2_with fail
  go_ret
  exact ⟨rfl, below_part H4.out.one.below⟩

set_option maxRecDepth 100000 in
set_option maxHeartbeats 1000000 in
theorem cuts_arg (img : ByteArray) (a : Int) (s : ByteArray) (L : Int) (j : ByteArray) (w : World) (hi : img.size = 0 ∨ img.size = 8192) (hL : 0 ≤ L) (hLh : L ≤ 9223372036854775807) (hj : j.size ≤ 140737488351232) (hf : Fl.fits a s.size = false) :
    Calls Try.prog 6 #[.string img, .agg #[.int .i64 a, .string s, .int .i64 L, .string j]] w fun e w' => e = .returned (.bool true) ∧ Below w.heap.size w w' := by
  have H := Lib.hid (fun w => made_some img w hi)
  obtain ⟨f1, hf1⟩ : ∃ f1 : Fl, f1 = { start img with armed := true, left := L, junk := bytes j } := ⟨_, rfl⟩
  have HC0 := cut_in (start img) L (bytes j) (start_off img) hL
  rw [← hf1] at HC0
  have HC := Lib.hid HC0
  have HO : Hid (f1.off = false) := by unfold Hid; rw [hf1]; exact start_off img
  have HP := Lib.hid (program_out f1 a (bytes s) HO.out (by rw [bytes_length]; exact hf))
  have HE : Hid (f1.cell = (start img).cell) := by unfold Hid; rw [hf1]
  clear hi hf1 hf HC0
  generalize start img = f at *
  go_enter Try.func6, Try.ntmps6
  go_wp2_with fail
  refine (H.out _).mono ?_
  rintro e w1 ⟨b, r, c, rfl, h1'⟩
  have H1 := Lib.hid h1'.held
  clear h1'
  go_wp2_with fail
  refine (H.out _).mono ?_
  rintro e w2 ⟨d, r2, c2, rfl, h2'⟩
  have H2 : Hid (Duo (w.alloc (partO a s L j)) w2 b none f d none f) := duo_of H1.out h2'.held
  clear h2' H1 H
  obtain ⟨c0, c1, c2', c3⟩ := part_in H2.out.one.below
  go_wp2_with fail
  refine (cut_one H2.out L j hLh hj HC.out).mono ?_
  rintro e w3 ⟨rfl, J, h3⟩
  have H3 := Lib.hid h3
  clear h3 H2 c0 c1 c2' c3
  obtain ⟨c0, c1, c2', c3⟩ := part_in H3.out.one.below
  go_wp2_with fail
  refine (program_one H3.out a s HP.out).mono ?_
  rintro e w4 ⟨rfl, h4⟩
  have H4 := Lib.hid h4
  clear h4 H3 c0 c1 c2' c3
  obtain ⟨c0, c1, c2', c3⟩ := part_in H4.out.one.below
  go_wp2_with fail
  refine (awake_duo H4.out).mono ?_
  rintro e w5 ⟨rfl, h5⟩
  have H5 := Lib.hid h5
  clear h5 H4 c0 c1 c2' c3
  obtain ⟨c0, c1, c2', c3⟩ := part_in H5.out.one.below
  go_wp2_with fail
  refine (powered_one H5.out).mono ?_
  rintro e w6 ⟨rfl, rfl⟩
  rw [HO.out]
  go_wp2_with fail
  refine (image_one H5.out).mono ?_
  rintro e w6 ⟨rfl, rfl⟩
  rw [HE.out]
  go_wp2_with fail
  refine (image_two H5.out).mono ?_
  rintro e w6 ⟨rfl, rfl⟩
  go_wp2_with fail
  go_ret
  exact ⟨rfl, below_part H5.out.one.below⟩

set_option maxRecDepth 100000 in
set_option maxHeartbeats 1000000 in
theorem cuts_all (img : ByteArray) (a : Nat) (s : ByteArray) (L : Int) (j : ByteArray) (w : World) (hi : img.size = 0 ∨ img.size = 8192) (hL : (s.size : Int) ≤ L) (hLh : L ≤ 9223372036854775807) (hj : j.size ≤ 140737488351232) (hf : (a : Int) + s.size ≤ 8192) :
    Calls Try.prog 6 #[.string img, .agg #[.int .i64 (a : Int), .string s, .int .i64 L, .string j]] w fun e w' => e = .returned (.bool true) ∧ Below w.heap.size w w' := by
  have H := Lib.hid (fun w => made_some img w hi)
  obtain ⟨f1, f2, g1, e1, e2, e3, e4, e5⟩ := cuts_enough (start img) (start_off img) (start_armed img) (start_steps img) a (bytes s) (bytes j) L (by rw [bytes_length]; exact hL) (by rw [bytes_length]; exact hf)
  have E1 := Lib.hid e1
  have E2 := Lib.hid e2
  have E3 := Lib.hid e3
  have E4 := Lib.hid e4
  have E5 := Lib.hid e5
  have hL0 : 0 ≤ L := by omega
  clear hi e1 e2 e3 e4 e5 hf
  generalize start img = f at *
  go_enter Try.func6, Try.ntmps6
  go_wp2_with fail
  refine (H.out _).mono ?_
  rintro e w1 ⟨b, r, c, rfl, h1'⟩
  have H1 := Lib.hid h1'.held
  clear h1'
  go_wp2_with fail
  refine (H.out _).mono ?_
  rintro e w2 ⟨d, r2, c2, rfl, h2'⟩
  have H2 : Hid (Duo (w.alloc (partO a s L j)) w2 b none f d none f) := duo_of H1.out h2'.held
  clear h2' H1 H
  obtain ⟨c0, c1, c2', c3⟩ := part_in H2.out.one.below
  go_wp2_with fail
  refine (cut_one H2.out L j hLh hj E1.out).mono ?_
  rintro e w3 ⟨rfl, J, h3⟩
  have H3 := Lib.hid h3
  clear h3 H2 c0 c1 c2' c3
  obtain ⟨c0, c1, c2', c3⟩ := part_in H3.out.one.below
  go_wp2_with fail
  refine (program_one H3.out a s E2.out).mono ?_
  rintro e w4 ⟨rfl, h4⟩
  have H4 := Lib.hid h4
  clear h4 H3 c0 c1 c2' c3
  obtain ⟨c0, c1, c2', c3⟩ := part_in H4.out.one.below
  go_wp2_with fail
  refine (awake_duo H4.out).mono ?_
  rintro e w5 ⟨rfl, h5⟩
  have H5 := Lib.hid h5
  clear h5 H4 c0 c1 c2' c3
  obtain ⟨c0, c1, c2', c3⟩ := part_in H5.out.one.below
  go_wp2_with fail
  refine (powered_one H5.out).mono ?_
  rintro e w6 ⟨rfl, rfl⟩
  rw [E3.out]
  go_wp2_with fail
  refine (program_two H5.out a s E4.out).mono ?_
  rintro e w6 ⟨rfl, h6⟩
  have H6 := Lib.hid h6
  clear h6 H5 c0 c1 c2' c3
  go_wp2_with fail
  refine (image_one H6.out).mono ?_
  rintro e w7 ⟨rfl, rfl⟩
  rw [E5.out]
  go_wp2_with fail
  refine (image_two H6.out).mono ?_
  rintro e w7 ⟨rfl, rfl⟩
  go_wp2_with fail
  go_ret
  exact ⟨rfl, below_part H6.out.one.below⟩
end Go.Proofs.Ytngmnceahhlpkaa
