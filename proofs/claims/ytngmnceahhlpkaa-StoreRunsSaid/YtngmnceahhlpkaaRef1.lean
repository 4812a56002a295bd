/- The document's flash in memory, and what its New, Of, step, junk, Range, Image, On and Cut do, in whatever world. Conditions: the flash lies in memory; numbers are of their kinds, texts are within the reach of memory. -/
import Derived.Test.YtngmnceahhlpkaaAwake
import Derived.Lib.ConvBytes
namespace Go.Proofs.Ytngmnceahhlpkaa
open Go.RowKit

/-- What a call may write: blocks of S, and new ones. -/
structure Wrote (w w' : World) (S : Nat → Prop) : Prop where
  os : w'.os = w.os
  tape : w'.tape = w.tape
  output : w'.output = w.output
  size : w.heap.size ≤ w'.heap.size
  block : ∀ k, k < w.heap.size → ¬ S k → w'.heap[k]? = w.heap[k]?
theorem Wrote.refl (w : World) (S : Nat → Prop) : Wrote w w S := ⟨rfl, rfl, rfl, Nat.le_refl _, fun _ _ _ => rfl⟩
theorem Wrote.trans {w w1 w2 : World} {S : Nat → Prop} (h : Wrote w w1 S) (k : Wrote w1 w2 S) : Wrote w w2 S :=
  ⟨k.os.trans h.os, k.tape.trans h.tape, k.output.trans h.output, Nat.le_trans h.size k.size, fun i hi hn => (k.block i (Nat.lt_of_lt_of_le hi h.size) hn).trans (h.block i hi hn)⟩
theorem Wrote.mono {w w1 : World} {S T : Nat → Prop} (h : Wrote w w1 S) (k : ∀ i, S i → T i) : Wrote w w1 T :=
  ⟨h.os, h.tape, h.output, h.size, fun i hi hn => h.block i hi (fun s => hn (k i s))⟩
theorem Wrote.of_grown {w w1 : World} {b : Nat} (h : w.grownBy w1 (some b)) : Wrote w w1 (fun k => k = b) :=
  ⟨h.os, h.tape, h.output, h.size, fun i hi hn => h.block i hi (fun e => by injection e with e; exact hn e)⟩
theorem Wrote.of_below {w w1 : World} (h : Below w.heap.size w w1) (S : Nat → Prop) : Wrote w w1 S := ⟨h.os, h.tape, h.output, h.size, fun i hi _ => h.block i hi⟩
theorem Wrote.set {w w1 : World} {S : Nat → Prop} (h : Wrote w w1 S) {b : Nat} (hb : S b) (i : Nat) (v : Value) : Wrote w (w1.setCell ⟨b, i, none⟩ v) S :=
  ⟨h.os, h.tape, h.output, by simpa [World.setCell] using h.size, fun k hk hn => (Below.heap_setCell w1 ⟨b, i, none⟩ v k (by rintro rfl; exact hn hb)).trans (h.block k hk hn)⟩
theorem Wrote.drewN {w w1 : World} {S : Nat → Prop} (h : Wrote w w1 S) (n : Nat) : Wrote w (w1.drewN n) S := ⟨h.os, h.tape, h.output, h.size, h.block⟩
theorem Wrote.drew {w w1 : World} {S : Nat → Prop} (h : Wrote w w1 S) : Wrote w w1.drew S := ⟨h.os, h.tape, h.output, h.size, h.block⟩
theorem Wrote.below {w w1 w2 : World} {S : Nat → Prop} (h : Below w.heap.size w w1) (k : Wrote w1 w2 S) (hS : ∀ i, S i → w.heap.size ≤ i) : Below w.heap.size w w2 :=
  ⟨k.os.trans h.os, k.tape.trans h.tape, k.output.trans h.output, Nat.le_trans h.size k.size, fun i hi => (k.block i (Nat.lt_of_lt_of_le hi h.size) (fun s => by have := hS i s; omega)).trans (h.block i hi)⟩
theorem At.wrote {w w1 : World} {b : Nat} {J : Option Nat} {f : Fl} {S : Nat → Prop} (h : At w b J f) (hw : Wrote w w1 S) (hb : ¬ S b) (hJ : ∀ g, J = some g → ¬ S g) : At w1 b J f :=
  h.kept (hw.block b h.lt hb) (fun g e => hw.block g (h.jlt g e) (hJ g e))

/-! ### The document's flash -/
def refL (f : Fl) (c cap : Nat) : List Value := [.slice (some ⟨c, 0, none⟩) 8192 cap, .bool f.off, .bool f.armed, .int .i64 f.left, .string (str f.junk), .int .i64 f.steps]
structure RAt (w : World) (b c : Nat) (f : Fl) : Prop where
  ok : f.Ok
  blk : ∃ cap, 8192 ≤ cap ∧ cap ≤ 9223372036854775807 ∧ w.heap[b]? = some (.cells (refL f c cap).toArray 97 (0, 0))
  row : ∃ sp fr, w.heap[c]? = some (.cells (f.cell.map byteV ++ sp).toArray 5 fr) ∧ (fr = (0, 0) ∨ 8192 ≤ fr.1)
theorem RAt.lt {w : World} {b c : Nat} {f : Fl} (h : RAt w b c f) : b < w.heap.size := by
  obtain ⟨_, _, _, hb⟩ := h.blk
  exact lt_of_at hb
theorem RAt.rlt {w : World} {b c : Nat} {f : Fl} (h : RAt w b c f) : c < w.heap.size := by
  obtain ⟨_, _, hb, _⟩ := h.row
  exact lt_of_at hb
theorem RAt.ne {w : World} {b c : Nat} {f : Fl} (h : RAt w b c f) : b ≠ c := by
  obtain ⟨_, _, _, hb⟩ := h.blk
  obtain ⟨_, _, hc, _⟩ := h.row
  rintro rfl
  rw [hb] at hc
  injection hc with hc
  injection hc with _ hc _
  cases hc
theorem RAt.kept {w w1 : World} {b c : Nat} {f : Fl} (h : RAt w b c f) (hb : w1.heap[b]? = w.heap[b]?) (hc : w1.heap[c]? = w.heap[c]?) : RAt w1 b c f := by
  obtain ⟨cap, k1, k2, k3⟩ := h.blk
  obtain ⟨sp, fr, k4, k5⟩ := h.row
  exact ⟨h.ok, ⟨cap, k1, k2, hb.trans k3⟩, ⟨sp, fr, hc.trans k4, k5⟩⟩
theorem RAt.wrote {w w1 : World} {b c : Nat} {f : Fl} {S : Nat → Prop} (h : RAt w b c f) (hw : Wrote w w1 S) (hb : ¬ S b) (hc : ¬ S c) : RAt w1 b c f := h.kept (hw.block b h.lt hb) (hw.block c h.rlt hc)
theorem RAt.drewN {w : World} {b c : Nat} {f : Fl} (h : RAt w b c f) (n : Nat) : RAt (w.drewN n) b c f := h.kept rfl rfl
theorem RAt.drew {w : World} {b c : Nat} {f : Fl} (h : RAt w b c f) : RAt w.drew b c f := h.kept rfl rfl
theorem RAt.slice {w : World} {b c : Nat} {f : Fl} (h : RAt w b c f) : ∃ cap, 8192 ≤ cap ∧ cap ≤ 9223372036854775807 ∧ w.cell? ⟨b, 0, none⟩ = some (.slice (some ⟨c, 0, none⟩) 8192 cap) := by
  obtain ⟨cap, k1, k2, hb⟩ := h.blk
  exact ⟨cap, k1, k2, cell_at hb 0⟩
theorem RAt.off {w : World} {b c : Nat} {f : Fl} (h : RAt w b c f) : w.cell? ⟨b, 1, none⟩ = some (.bool f.off) := by
  obtain ⟨_, _, _, hb⟩ := h.blk
  exact cell_at hb 1
theorem RAt.armed {w : World} {b c : Nat} {f : Fl} (h : RAt w b c f) : w.cell? ⟨b, 2, none⟩ = some (.bool f.armed) := by
  obtain ⟨_, _, _, hb⟩ := h.blk
  exact cell_at hb 2
theorem RAt.left {w : World} {b c : Nat} {f : Fl} (h : RAt w b c f) : w.cell? ⟨b, 3, none⟩ = some (.int .i64 f.left) := by
  obtain ⟨_, _, _, hb⟩ := h.blk
  exact cell_at hb 3
theorem RAt.junk {w : World} {b c : Nat} {f : Fl} (h : RAt w b c f) : w.cell? ⟨b, 4, none⟩ = some (.string (str f.junk)) := by
  obtain ⟨_, _, _, hb⟩ := h.blk
  exact cell_at hb 4
theorem RAt.steps {w : World} {b c : Nat} {f : Fl} (h : RAt w b c f) : w.cell? ⟨b, 5, none⟩ = some (.int .i64 f.steps) := by
  obtain ⟨_, _, _, hb⟩ := h.blk
  exact cell_at hb 5
theorem RAt.free {w : World} {b c : Nat} {f : Fl} (h : RAt w b c f) (i : Nat) : w.frozen? ⟨b, i, none⟩ = false := by
  obtain ⟨_, _, _, hb⟩ := h.blk
  exact free_at hb i
theorem RAt.cell {w : World} {b c : Nat} {f : Fl} (h : RAt w b c f) (i : Nat) (hi : i < 8192) : w.cell? ⟨c, i, none⟩ = some (.int .u8 ((f.cell.getD i 0 : Nat) : Int)) := by
  obtain ⟨sp, fr, hc, _⟩ := h.row
  have hl : i < f.cell.length := by rw [h.ok.len]; exact hi
  rw [cell_at hc, List.getElem?_toArray, List.getElem?_append_left (by rw [List.length_map]; exact hl), List.getElem?_map, List.getElem?_eq_getElem hl]
  simp [List.getD_eq_getElem?_getD, hl, byteV]
theorem RAt.rfree {w : World} {b c : Nat} {f : Fl} (h : RAt w b c f) (i : Nat) (hi : i < 8192) : w.frozen? ⟨c, i, none⟩ = false := by
  obtain ⟨sp, fr, hc, hf⟩ := h.row
  obtain ⟨lo, hi'⟩ := fr
  unfold World.frozen?
  rw [hc]
  rcases hf with hf | hf
  · injection hf with h1 h2
    subst h1 h2
    simp
  · simp only at hf ⊢
    simp
    omega
/-- A cell is written. -/
theorem RAt.set {w : World} {b c : Nat} {f : Fl} (h : RAt w b c f) (i v : Nat) (hi : i < 8192) (hv : v < 256) : RAt (w.setCell ⟨c, i, none⟩ (.int .u8 (v : Int))) b c (f.put i v) := by
  obtain ⟨cap, k1, k2, k3⟩ := h.blk
  obtain ⟨sp, fr, k4, k5⟩ := h.row
  refine ⟨h.ok.put hv, ⟨cap, k1, k2, (heap_setCell_ne h.ne i _).trans k3⟩, ⟨sp, fr, ?_, k5⟩⟩
  rw [heap_setCell_at k4, List.setIfInBounds_toArray, List.set_append_left _ _ (by rw [List.length_map, h.ok.len]; exact hi)]
  simp [Fl.put, List.map_set, byteV]
/-- A field is written. -/
theorem RAt.field {w : World} {b c : Nat} {f f' : Fl} (h : RAt w b c f) (hok : f'.Ok) (hc : f'.cell = f.cell) (i : Nat) (v : Value) (hv : ∀ cap, (refL f c cap).set i v = refL f' c cap) : RAt (w.setCell ⟨b, i, none⟩ v) b c f' := by
  obtain ⟨cap, k1, k2, k3⟩ := h.blk
  obtain ⟨sp, fr, k4, k5⟩ := h.row
  refine ⟨hok, ⟨cap, k1, k2, ?_⟩, ⟨sp, fr, ?_, k5⟩⟩
  · rw [heap_setCell_at k3, List.setIfInBounds_toArray, hv]
  · rw [hc]
    exact (heap_setCell_ne (Ne.symm h.ne) i v).trans k4

theorem rstep_any (b c : Nat) (f : Fl) (w : World) (h : RAt w b c f) :
    Calls Try.prog 63 #[.pointer (some ⟨b, 0, none⟩)] w fun e w' => e = .returned (.bool f.whole) ∧ RAt w' b c f.step ∧ Wrote w w' (fun k => k = b ∨ k = c) := by
  have H := Lib.hid h
  have a1 := h.off
  have a2 := h.armed
  have a3 := h.left
  have a5 := h.steps
  have g1 := h.free 1
  have g2 := h.free 2
  have g3 := h.free 3
  have g5 := h.free 5
  have hlo := h.ok.lo
  have hhi := h.ok.hi
  have HO := Lib.hid h.ok
  clear h
  cases ha : f.armed with
  | false =>
    have HS : Hid (f.step = { f with steps := f.more }) := by unfold Hid Fl.step; rw [ha]; rfl
    have HW : Hid (f.whole = true) := by unfold Hid Fl.whole; rw [ha]; rfl
    rw [ha] at a2
    clear ha
    go_enter Try.func63, Try.ntmps63
    go_wp2_with fail
    go_ret
    refine ⟨by rw [HW.out]; rfl, ?_, (Wrote.refl _ _).set (.inl rfl) 5 _⟩
    rw [HS.out]
    exact H.out.field (f' := { f with steps := f.more }) ⟨HO.out.len, HO.out.byte, HO.out.junk, HO.out.lo, HO.out.hi, HO.out.jlen⟩ rfl 5 _ (fun cap => rfl)
  | true =>
    rw [ha] at a2
    by_cases h0 : f.left = 0
    · have HS : Hid (f.step = { f with off := true, armed := false }) := by unfold Hid Fl.step; rw [ha, if_pos rfl, if_pos h0]
      have HW : Hid (f.whole = false) := by unfold Hid Fl.whole; rw [ha, h0]; rfl
      have hb0 : (f.left == 0) = true := by simpa using h0
      clear ha h0
      go_enter Try.func63, Try.ntmps63
      go_wp2_with fail
      go_ret
      refine ⟨by rw [HW.out]; rfl, ?_, ((Wrote.refl _ _).set (.inl rfl) 1 _).set (.inl rfl) 2 _⟩
      rw [HS.out]
      have k1 := H.out.field (f' := { f with off := true }) ⟨HO.out.len, HO.out.byte, HO.out.junk, HO.out.lo, HO.out.hi, HO.out.jlen⟩ rfl 1 (.bool true) (fun cap => rfl)
      exact k1.field (f' := { f with off := true, armed := false }) ⟨HO.out.len, HO.out.byte, HO.out.junk, HO.out.lo, HO.out.hi, HO.out.jlen⟩ rfl 2 _ (fun cap => rfl)
    · have HS : Hid (f.step = { f with left := f.left - 1, steps := f.more }) := by unfold Hid Fl.step; rw [ha, if_pos rfl, if_neg h0]
      have HW : Hid (f.whole = true) := by unfold Hid Fl.whole; rw [ha]; simp [h0]
      have hb0 : (f.left == 0) = false := by simpa using h0
      clear ha h0
      go_enter Try.func63, Try.ntmps63
      go_wp2_with fail
      go_ret
      refine ⟨by rw [HW.out]; rfl, ?_, ((Wrote.refl _ _).set (.inl rfl) 3 _).set (.inl rfl) 5 _⟩
      have hok2 : ({ f with left := f.left - 1, steps := f.more } : Fl).Ok := by rw [← HS.out]; exact HO.out.step
      rw [HS.out]
      have k1 := H.out.field (f' := { f with left := f.left - 1 }) ⟨HO.out.len, HO.out.byte, HO.out.junk, hok2.lo, hok2.hi, HO.out.jlen⟩ rfl 3 (.int .i64 (f.left - 1)) (fun cap => rfl)
      exact k1.field (f' := { f with left := f.left - 1, steps := f.more }) hok2 rfl 5 _ (fun cap => rfl)

set_option maxHeartbeats 1000000 in
theorem rjunk_any (l : List Nat) (i : Nat) (w : World) (hl : ∀ x ∈ l, x < 256) (hi : i ≤ 9223372036854775807) (hn : l.length ≤ 140737488351232) :
    Calls Try.prog 64 #[.string (str l), .int .i64 (i : Int)] w fun e w' => e = .returned (.int .u8 (((if l.length = 0 then 0 else l.getD (i % l.length) 0) : Nat) : Int)) ∧ w = w' := by
  have hsz : (str l).size = l.length := str_size l
  by_cases h0 : l.length = 0
  · rw [if_pos h0]
    have hb : ((str l).size : Int) == 0 := by rw [hsz, h0]; rfl
    clear hl hn h0 hsz
    generalize str l = s at *
    go_enter Try.func64, Try.ntmps64
    go_wp2_with fail
    go_ret
    exact ⟨rfl, rfl⟩
  · rw [if_neg h0]
    have hlt : i % l.length < (str l).size := by rw [hsz]; exact Nat.mod_lt _ (by omega)
    have hg : Hid (l.getD (i % l.length) 0 = (str l)[i % l.length].toNat) := by
      have := bytes_get (str l) (i % l.length) hlt
      rw [bytes_str l hl] at this
      exact this
    have hb : (((str l).size : Int) == 0) = false := by rw [beq_eq_false_iff_ne]; omega
    have hr : (i : Int) % ((str l).size : Int) = ((i % l.length : Nat) : Int) := by rw [hsz, Int.natCast_emod]
    clear h0 hsz hl hn
    generalize l.getD (i % l.length) 0 = x at *
    generalize i % l.length = m at *
    generalize str l = s at *
    go_enter Try.func64, Try.ntmps64
    go_wp2_with fail
    go_ret
    exact ⟨by rw [hg.out]; rfl, rfl⟩
theorem rrange_any (a n : Int) (w : World) : Calls Try.prog 62 #[.int .i64 a, .int .i64 n] w fun e w' => e = .returned (.bool (Fl.fits a n)) ∧ w = w' := by
  by_cases h1 : 0 ≤ a
  · by_cases h2 : 0 ≤ n
    · by_cases h3 : a ≤ 8192
      · have HF : Hid (Fl.fits a n = decide (n ≤ 8192 - a)) := by unfold Hid Fl.fits; simp [h1, h2, h3]
        go_enter Try.func62, Try.ntmps62
        go_wp2_with fail
        go_ret
        exact ⟨by rw [HF.out]; rfl, rfl⟩
      · have HF : Hid (Fl.fits a n = false) := by unfold Hid Fl.fits; simp [h3]
        go_enter Try.func62, Try.ntmps62
        go_wp2_with fail
        go_ret
        exact ⟨by rw [HF.out]; rfl, rfl⟩
    · have HF : Hid (Fl.fits a n = false) := by unfold Hid Fl.fits; simp [h2]
      go_enter Try.func62, Try.ntmps62
      go_wp2_with fail
      go_ret
      exact ⟨by rw [HF.out]; rfl, rfl⟩
  · have HF : Hid (Fl.fits a n = false) := by unfold Hid Fl.fits; simp [h1]
    go_enter Try.func62, Try.ntmps62
    go_wp2_with fail
    go_ret
    exact ⟨by rw [HF.out]; rfl, rfl⟩
theorem rconv {w : World} {b c : Nat} {f : Fl} (h : RAt w b c f) (a n cap : Nat) (hn : a + n ≤ 8192) :
    (convert 86 9 (.slice (some ⟨c, a, none⟩) n cap)).run Try.prog w = .ok (.string (str ((f.cell.drop a).take n))) w := by
  have hl : ((f.cell.drop a).take n).length = n := by rw [List.length_take, List.length_drop, h.ok.len]; omega
  refine run_convert_bytes_arg (P := Try.prog) w 86 5 Try.underlying86 Try.underlying5 c a n cap (((f.cell.drop a).take n).map fun x : Nat => (x : Int)) (by rw [List.length_map, hl]) (fun i hi => ?_) 9 Try.underlying9
  rw [h.cell (a + i) (by omega)]
  have e : ((f.cell.drop a).take n)[i]? = f.cell[a + i]? := by rw [List.getElem?_take, if_pos hi, List.getElem?_drop]
  have hlt : a + i < f.cell.length := by rw [h.ok.len]; omega
  rw [List.getD_eq_getElem?_getD, List.getD_eq_getElem?_getD, List.getElem?_map, e, List.getElem?_eq_getElem hlt]
  rfl
theorem rimage_any (b c : Nat) (f : Fl) (w : World) (h : RAt w b c f) : Calls Try.prog 50 #[.pointer (some ⟨b, 0, none⟩)] w fun e w' => e = .returned (.string (str f.cell)) ∧ w = w' := by
  obtain ⟨cap, _, _, a0⟩ := h.slice
  have hc := rconv h 0 8192 cap (by omega)
  rw [List.drop_zero, List.take_of_length_le (by rw [h.ok.len]; omega)] at hc
  clear h
  go_enter Try.func50, Try.ntmps50
  go_wp2_with fail
  go_ret
  exact ⟨rfl, rfl⟩
theorem ron_any (b c : Nat) (f : Fl) (w : World) (h : RAt w b c f) :
    Calls Try.prog 48 #[.pointer (some ⟨b, 0, none⟩)] w fun e w' => e = .returned (.tuple #[]) ∧ RAt w' b c f.on ∧ Wrote w w' (fun k => k = b ∨ k = c) := by
  have H := Lib.hid h
  have a1 := h.off
  have a2 := h.armed
  have g1 := h.free 1
  have g2 := h.free 2
  have HO := Lib.hid h.ok
  clear h
  go_enter Try.func48, Try.ntmps48
  go_wp2_with fail
  go_end0
  refine ⟨rfl, ?_, ((Wrote.refl _ _).set (.inl rfl) 1 _).set (.inl rfl) 2 _⟩
  have k1 := H.out.field (f' := { f with off := false }) ⟨HO.out.len, HO.out.byte, HO.out.junk, HO.out.lo, HO.out.hi, HO.out.jlen⟩ rfl 1 (.bool false) (fun cap => rfl)
  exact k1.field (f' := f.on) HO.out.on rfl 2 _ (fun cap => rfl)
theorem rcut_any (b c : Nat) (f : Fl) (n : Int) (s : ByteArray) (w : World) (h : RAt w b c f) (hi : n ≤ 9223372036854775807) (hs : s.size ≤ 140737488351232) :
    Calls Try.prog 47 #[.pointer (some ⟨b, 0, none⟩), .int .i64 n, .string s] w fun e w' => e = .returned (.int .i64 (f.cut n (bytes s)).2) ∧ RAt w' b c (f.cut n (bytes s)).1 ∧ Wrote w w' (fun k => k = b ∨ k = c) := by
  have H := Lib.hid h
  have a1 := h.off
  have a2 := h.armed
  have a3 := h.left
  have a4 := h.junk
  have g2 := h.free 2
  have g3 := h.free 3
  have g4 := h.free 4
  have HO := Lib.hid h.ok
  clear h
  cases ho : f.off with
  | true =>
    have HS : Hid (f.cut n (bytes s) = (f, 60)) := by unfold Hid Fl.cut; rw [ho]; rfl
    rw [ho] at a1
    clear ho
    go_enter Try.func47, Try.ntmps47
    go_wp2_with fail
    go_ret
    exact ⟨by rw [HS.out]; rfl, by rw [HS.out]; exact H.out, Wrote.refl _ _⟩
  | false =>
    by_cases hn : n < 0
    · have HS : Hid (f.cut n (bytes s) = (f, 1)) := by unfold Hid Fl.cut; rw [ho, if_neg (by simp), if_pos hn]
      rw [ho] at a1
      clear ho
      go_enter Try.func47, Try.ntmps47
      go_wp2_with fail
      go_ret
      exact ⟨by rw [HS.out]; rfl, by rw [HS.out]; exact H.out, Wrote.refl _ _⟩
    · have HS : Hid (f.cut n (bytes s) = ({ f with armed := true, left := n, junk := bytes s }, 0)) := by unfold Hid Fl.cut; rw [ho, if_neg (by simp), if_neg hn]
      rw [ho] at a1
      clear ho
      go_enter Try.func47, Try.ntmps47
      go_wp2_with fail
      go_ret
      refine ⟨by rw [HS.out]; rfl, ?_, (((Wrote.refl _ _).set (.inl rfl) 2 _).set (.inl rfl) 3 _).set (.inl rfl) 4 _⟩
      rw [HS.out]
      have k1 := H.out.field (f' := { f with armed := true }) ⟨HO.out.len, HO.out.byte, HO.out.junk, HO.out.lo, HO.out.hi, HO.out.jlen⟩ rfl 2 (.bool true) (fun cap => rfl)
      have k2 := k1.field (f' := { f with armed := true, left := n }) ⟨HO.out.len, HO.out.byte, HO.out.junk, by show 0 ≤ n; omega, hi, HO.out.jlen⟩ rfl 3 (.int .i64 n) (fun cap => rfl)
      refine k2.field (f' := { f with armed := true, left := n, junk := bytes s }) ⟨HO.out.len, HO.out.byte, bytes_byte s, by show 0 ≤ n; omega, hi, by show (bytes s).length ≤ _; rw [bytes_length]; exact hs⟩ rfl 4 _ (fun cap => ?_)
      show (refL _ c cap).set 4 _ = _
      unfold refL
      rw [str_bytes]
      rfl
end Go.Proofs.Ytngmnceahhlpkaa
