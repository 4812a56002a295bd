/- What one call of a script does: the program's flash answers what the document's does, and both go on alike. Conditions: numbers are of their kinds, texts are within the reach of memory. -/
import Derived.Test.YtngmnceahhlpkaaScene
import Derived.Deep.RegionHeld3
namespace Go.Proofs.Ytngmnceahhlpkaa
open Go.RowKit

theorem call_cells {w W : World} {b r c p : Nat} {J : Option Nat} {f x : Fl} {z a n : Int} {s : ByteArray} (h : Scene w W b r c J f x p (callO z a n s)) :
    W.cell? ⟨p, 0, none⟩ = some (.int .i64 z) ∧ W.cell? ⟨p, 1, none⟩ = some (.int .i64 a) ∧ W.cell? ⟨p, 2, none⟩ = some (.int .i64 n) ∧ W.cell? ⟨p, 3, none⟩ = some (.string s) :=
  ⟨cell_at h.box 0, cell_at h.box 1, cell_at h.box 2, cell_at h.box 3⟩
theorem call13 {w W : World} {b r c p : Nat} {J : Option Nat} {f x : Fl} {z a n : Int} {s : ByteArray} (h : Scene w W b r c J f x p (callO z a n s)) :
    W.cell? ⟨p, 1, none⟩ = some (.int .i64 a) ∧ W.cell? ⟨p, 3, none⟩ = some (.string s) := ⟨cell_at h.box 1, cell_at h.box 3⟩
theorem call1 {w W : World} {b r c p : Nat} {J : Option Nat} {f x : Fl} {z a n : Int} {s : ByteArray} (h : Scene w W b r c J f x p (callO z a n s)) :
    W.cell? ⟨p, 1, none⟩ = some (.int .i64 a) := cell_at h.box 1

set_option maxRecDepth 100000 in
set_option maxHeartbeats 1000000 in
theorem does_program (w w1 : World) (b r c : Nat) (J : Option Nat) (f : Fl) (h : Pair w w1 b r c J f) (z a n : Int) (s : ByteArray) (hz : z % 6 = 0) :
    Calls Try.prog 24 #[.pointer (some ⟨b, 0, none⟩), .pointer (some ⟨r, 0, none⟩), .agg #[.int .i64 z, .int .i64 a, .int .i64 n, .string s]] w1 fun e w' => e = .returned (.bool true) ∧ ∃ J' f', Pair w w' b r c J' f' := by
  have H1 := Lib.hid (h.scene (callO z a n s))
  have HW := Lib.hid (which_any z a n s)
  rw [hz] at HW
  obtain ⟨f', t, hr⟩ : ∃ f' t, f.program a (bytes s) = (f', t) := ⟨_, _, rfl⟩
  have HA : Hid (∀ W, Scene w W b r c J f f w1.heap.size (callO z a n s) → Calls Try.prog 18 #[.pointer (some ⟨b, 0, none⟩), .int .i64 a, .string s] W fun e w' => e = .returned (.int .i64 t) ∧ Scene w w' b r c J f' f w1.heap.size (callO z a n s)) := by
    intro W h
    have := program_mine h a s
    rw [hr] at this
    exact this
  have HB : Hid (∀ W, Scene w W b r c J f' f w1.heap.size (callO z a n s) → Calls Try.prog 45 #[.pointer (some ⟨r, 0, none⟩), .int .i64 a, .string s] W fun e w' => e = .returned (.int .i64 t) ∧ Scene w w' b r c J f' f' w1.heap.size (callO z a n s)) := by
    intro W h
    have := program_theirs h a s
    rw [hr] at this
    exact this
  clear h hz hr
  go_enter Try.func24, Try.ntmps24
  go_wp2_with fail
  refine (HW.out _).mono ?_
  rintro e w2 ⟨rfl, h2⟩
  have H2 : Hid (Scene w w2 b r c J f f w1.heap.size (callO z a n s)) := H1.out.keep h2
  clear h2 H1 HW
  obtain ⟨c1, c3⟩ := call13 H2.out
  generalize w1.heap.size = p at *
  go_wp2_with fail
  go_region_held3 (fun W => W.cell? ⟨p, 1, none⟩ = some (.int .i64 a) ∧ W.cell? ⟨p, 3, none⟩ = some (.string s))
    (first | exact ⟨c1, c3⟩ | exact call13 (by assumption))
    (first | (go_at_call 18; refine (HA.out _ (H2.out.drewN 1)).mono ?_; rintro e w3 ⟨rfl, h3⟩) | (go_at_call 45; refine (HB.out _ h3).mono ?_; rintro e w4 ⟨rfl, h4⟩))
  go_wp2_with fail
  go_ret
  exact ⟨rfl, J, f', h4.pair⟩

set_option maxRecDepth 100000 in
set_option maxHeartbeats 1000000 in
theorem does_erase (w w1 : World) (b r c : Nat) (J : Option Nat) (f : Fl) (h : Pair w w1 b r c J f) (z a n : Int) (s : ByteArray) (hz : z % 6 = 1) :
    Calls Try.prog 24 #[.pointer (some ⟨b, 0, none⟩), .pointer (some ⟨r, 0, none⟩), .agg #[.int .i64 z, .int .i64 a, .int .i64 n, .string s]] w1 fun e w' => e = .returned (.bool true) ∧ ∃ J' f', Pair w w' b r c J' f' := by
  have H1 := Lib.hid (h.scene (callO z a n s))
  have HW := Lib.hid (which_any z a n s)
  rw [hz] at HW
  obtain ⟨f', t, hr⟩ : ∃ f' t, f.erase a = (f', t) := ⟨_, _, rfl⟩
  have HA : Hid (∀ W, Scene w W b r c J f f w1.heap.size (callO z a n s) → Calls Try.prog 21 #[.pointer (some ⟨b, 0, none⟩), .int .i64 a] W fun e w' => e = .returned (.int .i64 t) ∧ Scene w w' b r c J f' f w1.heap.size (callO z a n s)) := by
    intro W h
    have := erase_mine h a
    rw [hr] at this
    exact this
  have HB : Hid (∀ W, Scene w W b r c J f' f w1.heap.size (callO z a n s) → Calls Try.prog 46 #[.pointer (some ⟨r, 0, none⟩), .int .i64 a] W fun e w' => e = .returned (.int .i64 t) ∧ Scene w w' b r c J f' f' w1.heap.size (callO z a n s)) := by
    intro W h
    have := erase_theirs h a
    rw [hr] at this
    exact this
  clear h hz hr
  go_enter Try.func24, Try.ntmps24
  go_wp2_with fail
  refine (HW.out _).mono ?_
  rintro e w2 ⟨rfl, h2⟩
  have H2 : Hid (Scene w w2 b r c J f f w1.heap.size (callO z a n s)) := H1.out.keep h2
  clear h2 H1 HW
  have c1 := call1 H2.out
  generalize w1.heap.size = p at *
  go_wp2_with fail
  go_region_held3 (fun W => W.cell? ⟨p, 1, none⟩ = some (.int .i64 a))
    (first | exact c1 | exact call1 (by assumption))
    (first | (go_at_call 21; refine (HA.out _ (H2.out.drewN 1)).mono ?_; rintro e w3 ⟨rfl, h3⟩) | (go_at_call 46; refine (HB.out _ h3).mono ?_; rintro e w4 ⟨rfl, h4⟩))
  go_wp2_with fail
  go_ret
  exact ⟨rfl, J, f', h4.pair⟩

set_option maxRecDepth 100000 in
set_option maxHeartbeats 1000000 in
theorem does_cut (w w1 : World) (b r c : Nat) (J : Option Nat) (f : Fl) (h : Pair w w1 b r c J f) (z a n : Int) (s : ByteArray) (hz : z % 6 = 2) (ha : a ≤ 9223372036854775807) (hs : s.size ≤ 140737488351232) :
    Calls Try.prog 24 #[.pointer (some ⟨b, 0, none⟩), .pointer (some ⟨r, 0, none⟩), .agg #[.int .i64 z, .int .i64 a, .int .i64 n, .string s]] w1 fun e w' => e = .returned (.bool true) ∧ ∃ J' f', Pair w w' b r c J' f' := by
  have H1 := Lib.hid (h.scene (callO z a n s))
  have HW := Lib.hid (which_any z a n s)
  rw [hz] at HW
  obtain ⟨f', t, hr⟩ : ∃ f' t, f.cut a (bytes s) = (f', t) := ⟨_, _, rfl⟩
  have HA : Hid (∀ W, Scene w W b r c J f f w1.heap.size (callO z a n s) → Calls Try.prog 22 #[.pointer (some ⟨b, 0, none⟩), .int .i64 a, .string s] W fun e w' => e = .returned (.int .i64 t) ∧ ∃ J', Scene w w' b r c J' f' f w1.heap.size (callO z a n s)) := by
    intro W h
    have := cut_mine h a s ha hs
    rw [hr] at this
    exact this
  have HB : Hid (∀ W J', Scene w W b r c J' f' f w1.heap.size (callO z a n s) → Calls Try.prog 47 #[.pointer (some ⟨r, 0, none⟩), .int .i64 a, .string s] W fun e w' => e = .returned (.int .i64 t) ∧ Scene w w' b r c J' f' f' w1.heap.size (callO z a n s)) := by
    intro W J' h
    have := cut_theirs h a s ha hs
    rw [hr] at this
    exact this
  clear h hz hr ha hs
  go_enter Try.func24, Try.ntmps24
  go_wp2_with fail
  refine (HW.out _).mono ?_
  rintro e w2 ⟨rfl, h2⟩
  have H2 : Hid (Scene w w2 b r c J f f w1.heap.size (callO z a n s)) := H1.out.keep h2
  clear h2 H1 HW
  obtain ⟨c1, c3⟩ := call13 H2.out
  generalize w1.heap.size = p at *
  go_wp2_with fail
  go_region_held3 (fun W => W.cell? ⟨p, 1, none⟩ = some (.int .i64 a) ∧ W.cell? ⟨p, 3, none⟩ = some (.string s))
    (first | exact ⟨c1, c3⟩ | exact call13 (by assumption))
    (first | (go_at_call 22; refine (HA.out _ (H2.out.drewN 1)).mono ?_; rintro e w3 ⟨rfl, J', h3⟩) | (go_at_call 47; refine (HB.out _ _ h3).mono ?_; rintro e w4 ⟨rfl, h4⟩))
  go_wp2_with fail
  go_ret
  exact ⟨rfl, J', f', h4.pair⟩

theorem on_powered {w W : World} {b r c p : Nat} {J : Option Nat} {f x : Fl} {o : Obj} (h : Scene w W b r c J f x p o) : Calls Try.prog 25 #[.pointer (some ⟨b, 0, none⟩)] W fun e w' => e = .returned (.bool (!f.off)) ∧ w' = W :=
  (powered_any b J f W h.held.at_).mono fun _ _ x => ⟨x.1, x.2.symm⟩
set_option maxRecDepth 100000 in
set_option maxHeartbeats 1000000 in
theorem does_on (w w1 : World) (b r c : Nat) (J : Option Nat) (f : Fl) (h : Pair w w1 b r c J f) (z a n : Int) (s : ByteArray) (hz : z % 6 = 3) :
    Calls Try.prog 24 #[.pointer (some ⟨b, 0, none⟩), .pointer (some ⟨r, 0, none⟩), .agg #[.int .i64 z, .int .i64 a, .int .i64 n, .string s]] w1 fun e w' => e = .returned (.bool true) ∧ ∃ J' f', Pair w w' b r c J' f' := by
  have H1 := Lib.hid (h.scene (callO z a n s))
  have HW := Lib.hid (which_any z a n s)
  rw [hz] at HW
  clear h hz
  go_enter Try.func24, Try.ntmps24
  go_wp2_with fail
  refine (HW.out _).mono ?_
  rintro e w2 ⟨rfl, h2⟩
  have H2 : Hid (Scene w w2 b r c J f f w1.heap.size (callO z a n s)) := H1.out.keep h2
  clear h2 H1 HW
  generalize w1.heap.size = p at *
  go_wp2_with fail
  refine (on_mine H2.out).mono ?_
  rintro e w3 ⟨rfl, h3⟩
  have H3 := Lib.hid h3
  clear h3 H2
  go_wp2_with fail
  refine (on_theirs H3.out).mono ?_
  rintro e w4 ⟨rfl, h4⟩
  have H4 := Lib.hid h4
  clear h4 H3
  have hoff : w4.cell? ⟨r, 1, none⟩ = some (.bool false) := H4.out.ref.off
  go_wp2_with fail
  refine wp_region_still_lit (by kernel_rfl) (by kernel_rfl) ?_
  repeat still_step
  still_call (on_powered (H4.out.drewN 1))
  repeat still_step
  refine wpStill_nil ?_
  change Exit.then _ _ _ _ (w4.drewN 1)
  have H5 := Lib.hid (H4.out.drewN 1)
  clear H4 hoff
  generalize w4.drewN 1 = w5 at *
  go_wp2_with fail
  go_ret
  exact ⟨rfl, J, _, H5.out.pair⟩

set_option maxRecDepth 100000 in
set_option maxHeartbeats 1000000 in
theorem does_read (w w1 : World) (b r c : Nat) (J : Option Nat) (f : Fl) (h : Pair w w1 b r c J f) (z a n : Int) (s : ByteArray) (hz : z % 6 = 4) :
    Calls Try.prog 24 #[.pointer (some ⟨b, 0, none⟩), .pointer (some ⟨r, 0, none⟩), .agg #[.int .i64 z, .int .i64 a, .int .i64 n, .string s]] w1 fun e w' => e = .returned (.bool true) ∧ ∃ J' f', Pair w w' b r c J' f' := by
  have H1 := Lib.hid (h.scene (callO z a n s))
  have HW := Lib.hid (which_any z a n s)
  rw [hz] at HW
  clear h hz
  go_enter Try.func24, Try.ntmps24
  go_wp2_with fail
  refine (HW.out _).mono ?_
  rintro e w2 ⟨rfl, h2⟩
  have H2 : Hid (Scene w w2 b r c J f f w1.heap.size (callO z a n s)) := H1.out.keep h2
  clear h2 H1 HW
  generalize w1.heap.size = p at *
  obtain ⟨c0, c1, c2, c3⟩ := call_cells H2.out
  have HA := Lib.hid (read_any b J f a n w2 H2.out.held.at_)
  have HB := Lib.hid (rread_any r c f a n w2 H2.out.ref)
  generalize f.read a n = q at *
  generalize str q.1 = q1 at *
  generalize q.2 = q2 at *
  go_wp2_with fail
  refine HA.out.mono ?_
  rintro e w3 ⟨rfl, rfl⟩
  go_wp2_with fail
  refine HB.out.mono ?_
  rintro e w3 ⟨rfl, rfl⟩
  go_wp2_with fail
  go_ret
  exact ⟨rfl, J, f, H2.out.pair⟩

theorem image_mine {w W : World} {b r c p : Nat} {J : Option Nat} {f x : Fl} {o : Obj} (h : Scene w W b r c J f x p o) : Calls Try.prog 17 #[.pointer (some ⟨b, 0, none⟩)] W fun e w' => e = .returned (.string (str f.cell)) ∧ w' = W :=
  (image_any b J f W h.held.at_).mono fun _ _ x => ⟨x.1, x.2.symm⟩
theorem image_theirs {w W : World} {b r c p : Nat} {J : Option Nat} {f x : Fl} {o : Obj} (h : Scene w W b r c J f x p o) : Calls Try.prog 50 #[.pointer (some ⟨r, 0, none⟩)] W fun e w' => e = .returned (.string (str x.cell)) ∧ w' = W :=
  (rimage_any r c x W h.ref).mono fun _ _ x => ⟨x.1, x.2.symm⟩
theorem steps_mine {w W : World} {b r c p : Nat} {J : Option Nat} {f x : Fl} {o : Obj} (h : Scene w W b r c J f x p o) : Calls Try.prog 19 #[.pointer (some ⟨b, 0, none⟩)] W fun e w' => e = .returned (.int .i64 f.steps) ∧ w' = W :=
  (steps_any b J f W h.held.at_).mono fun _ _ x => ⟨x.1, x.2.symm⟩
set_option maxRecDepth 100000 in
set_option maxHeartbeats 1000000 in
theorem does_image (w w1 : World) (b r c : Nat) (J : Option Nat) (f : Fl) (h : Pair w w1 b r c J f) (z a n : Int) (s : ByteArray) (hz : z % 6 = 5) :
    Calls Try.prog 24 #[.pointer (some ⟨b, 0, none⟩), .pointer (some ⟨r, 0, none⟩), .agg #[.int .i64 z, .int .i64 a, .int .i64 n, .string s]] w1 fun e w' => e = .returned (.bool true) ∧ ∃ J' f', Pair w w' b r c J' f' := by
  have H1 := Lib.hid (h.scene (callO z a n s))
  have HW := Lib.hid (which_any z a n s)
  rw [hz] at HW
  clear h hz
  go_enter Try.func24, Try.ntmps24
  go_wp2_with fail
  refine (HW.out _).mono ?_
  rintro e w2 ⟨rfl, h2⟩
  have H2 : Hid (Scene w w2 b r c J f f w1.heap.size (callO z a n s)) := H1.out.keep h2
  clear h2 H1 HW
  generalize w1.heap.size = p at *
  have hoff := H2.out.ref.off
  have hstp := H2.out.ref.steps
  have HA := Lib.hid (image_mine (H2.out.drewN 1))
  have HB := Lib.hid (image_theirs (H2.out.drewN 1))
  have HC := Lib.hid (steps_mine (H2.out.drewN 1))
  have HD := Lib.hid (on_powered (H2.out.drewN 1))
  generalize str f.cell = q1 at *
  generalize f.steps = q2 at *
  generalize f.off = q3 at *
  cases q3 <;>
  · go_wp2_with fail
    refine wp_region_still_lit (by kernel_rfl) (by kernel_rfl) ?_
    repeat still_step
    still_call (HA.out)
    repeat still_step
    still_call (HB.out)
    repeat still_step
    still_call (HC.out)
    repeat still_step
    still_call (HD.out)
    repeat still_step
    refine wpStill_nil ?_
    change Exit.then _ _ _ _ (w2.drewN 1)
    have H5 := Lib.hid (H2.out.drewN 1)
    clear H2 hoff hstp HA HB HC HD
    generalize w2.drewN 1 = w5 at *
    go_wp2_with fail
    go_ret
    exact ⟨rfl, J, f, H5.out.pair⟩

/-- One call of a script. -/
theorem does_any (w w1 : World) (b r c : Nat) (J : Option Nat) (f : Fl) (h : Pair w w1 b r c J f) (z a n : Int) (s : ByteArray) (ha : a ≤ 9223372036854775807) (hs : s.size ≤ 140737488351232) :
    Calls Try.prog 24 #[.pointer (some ⟨b, 0, none⟩), .pointer (some ⟨r, 0, none⟩), .agg #[.int .i64 z, .int .i64 a, .int .i64 n, .string s]] w1 fun e w' => e = .returned (.bool true) ∧ ∃ J' f', Pair w w' b r c J' f' := by
  have h6 : z % 6 = 0 ∨ z % 6 = 1 ∨ z % 6 = 2 ∨ z % 6 = 3 ∨ z % 6 = 4 ∨ z % 6 = 5 := by omega
  rcases h6 with hz | hz | hz | hz | hz | hz
  · exact does_program w w1 b r c J f h z a n s hz
  · exact does_erase w w1 b r c J f h z a n s hz
  · exact does_cut w w1 b r c J f h z a n s hz ha hs
  · exact does_on w w1 b r c J f h z a n s hz
  · exact does_read w w1 b r c J f h z a n s hz
  · exact does_image w w1 b r c J f h z a n s hz
end Go.Proofs.Ytngmnceahhlpkaa
