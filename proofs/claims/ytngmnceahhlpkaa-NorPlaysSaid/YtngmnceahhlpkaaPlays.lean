/- The walk of NorPlays: true, in whatever world; and how a script reads. Conditions: numbers are of their kinds, texts are within the reach of memory. -/
import Derived.Test.YtngmnceahhlpkaaDoes
import Derived.Test.YtngmnceahhlpkaaOpen
import Derived.KernelRfl
import Derived.OpenShut
namespace Go.Proofs.Ytngmnceahhlpkaa
open Go.ChangeShapes Go.WideShapes Go.Deep Go.RowKit

structure Cl where
  z : Int
  a : Int
  n : Int
  s : ByteArray
/-- A script in memory. -/
structure Script (w : World) (g off n : Nat) (xs : Nat → Cl) : Prop where
  c0 : ∀ i, i < n → w.cell? ⟨g, off + i * 4, none⟩ = some (.int .i64 (xs i).z)
  c1 : ∀ i, i < n → w.cell? ⟨g, off + i * 4 + 1, none⟩ = some (.int .i64 (xs i).a)
  c2 : ∀ i, i < n → w.cell? ⟨g, off + i * 4 + 2, none⟩ = some (.int .i64 (xs i).n)
  c3 : ∀ i, i < n → w.cell? ⟨g, off + i * 4 + 3, none⟩ = some (.string (xs i).s)
  ha : ∀ i, i < n → (xs i).a ≤ 9223372036854775807
  hs : ∀ i, i < n → (xs i).s.size ≤ 140737488351232
theorem list4 {α : Type} : ∀ {l : List α}, l.length = 4 → ∃ a b c d, l = [a, b, c, d]
  | [a, b, c, d], _ => ⟨a, b, c, d, rfl⟩
theorem cells39 : Try.prog.cellsOf 39 = 4 := by kernel_rfl
theorem cells3 : Try.prog.cellsOf 3 = 1 := by kernel_rfl
theorem cells9 : Try.prog.cellsOf 9 = 1 := by kernel_rfl

section
variable {H : Type} {enc : TypeId × Value → H} {w : World} {base : Nat} {spare : Nat → Bool} {held : Bool}
theorem cl_elem {cs : List Value} {n : Nat} {x : DataW H × List MemPlace} (hl : cs.length = 4) (h : DataW.trod enc Try.prog w base spare held n 39 cs = some x) :
    ∃ c : Cl, cs = [.int .i64 c.z, .int .i64 c.a, .int .i64 c.n, .string c.s] ∧ c.a ≤ 9223372036854775807 ∧ c.s.size ∈ x.1.weights Try.prog 39 := by
  have hst := DataW.trod_struct Try.underlying39 h
  clear h
  obtain ⟨ys, m, _, hxd, _, hys, hf⟩ := hst
  obtain ⟨c0, c1, c2, c3, rfl⟩ := list4 hl
  have hys4 : ys.length = 4 := hys
  obtain ⟨y0, y1, y2, y3, rfl⟩ := list4 hys4
  have f0 : DataW.trod enc Try.prog w base spare held m 3 (([c0, c1, c2, c3].drop 0).take (Try.prog.cellsOf 3)) = some y0 := hf 0 _ rfl
  have f1 : DataW.trod enc Try.prog w base spare held m 3 (([c0, c1, c2, c3].drop 1).take (Try.prog.cellsOf 3)) = some y1 := hf 1 _ rfl
  have f2 : DataW.trod enc Try.prog w base spare held m 3 (([c0, c1, c2, c3].drop 2).take (Try.prog.cellsOf 3)) = some y2 := hf 2 _ rfl
  have f3 : DataW.trod enc Try.prog w base spare held m 9 (([c0, c1, c2, c3].drop 3).take (Try.prog.cellsOf 9)) = some y3 := hf 3 _ rfl
  rw [cells3] at f0 f1 f2
  rw [cells9] at f3
  obtain ⟨n0, e0, _, _⟩ := DataW.trod_int Try.underlying3 f0
  obtain ⟨n1, e1, _, w1⟩ := DataW.trod_int Try.underlying3 f1
  obtain ⟨n2, e2, _, _⟩ := DataW.trod_int Try.underlying3 f2
  obtain ⟨s3, e3, d3, _⟩ := DataW.trod_string Try.underlying9 f3
  simp at e0 e1 e2 e3
  subst e0 e1 e2 e3
  refine ⟨⟨n0, n1, n2, s3⟩, rfl, (bounds_i64 w1).2, ?_⟩
  rw [hxd]
  show s3.size ∈ DataW.weights Try.prog 39 (.agg [y0.1, y1.1, y2.1, y3.1])
  simp only [DataW.weights, Try.underlying39]
  have hin : s3.size ∈ y3.1.weights Try.prog 9 := by
    rw [d3]
    simp only [DataW.weights, List.mem_singleton]
    exact Array.length_toList.symm
  exact DataW.weights_mem_each (j := 3) (t := 9) rfl rfl _ hin
theorem script_of {a : Option Addr} {len cap : Nat} {d : DataW H} {p : List MemPlace} {ts : List TypeId} {ds : List (DataW H)} {j : Nat} (hsz : (DataW.weightsEach Try.prog ts ds).all (· ≤ reachBytes) = true) (hj : ts[j]? = some 36) (hd : ds[j]? = some d)
    (h : DataW.Trod enc Try.prog w 0 (fun _ => true) true 36 (.slice a len cap) d p) :
    len = 0 ∨ ∃ b off xs, a = some ⟨b, off, none⟩ ∧ b < w.heap.size ∧ len ≤ 9223372036854775807 ∧ Script w b off len xs := by
  rcases slice_cells Try.underlying36 cells39 (by omega) h with h0 | ⟨b, off, rfl, hb, _, hl, hm, hi⟩
  · exact .inl h0
  · right
    unfold maxLen at hm
    have hall : ∀ i, ∃ c : Cl, i < len → (∀ j, j < 4 → w.cell? ⟨b, off + i * 4 + j, none⟩ = ([Value.int .i64 c.z, .int .i64 c.a, .int .i64 c.n, .string c.s])[j]?) ∧ c.a ≤ 9223372036854775807 ∧ c.s.size ≤ 140737488351232 := by
      intro i
      by_cases hil : i < len
      · obtain ⟨cs, n, x, hc, hat, ht, hq⟩ := hi i hil
        obtain ⟨c, rfl, hlo, hw⟩ := cl_elem hc ht
        refine ⟨c, fun _ => ⟨hat, hlo, ?_⟩⟩
        have hz : c.s.size ≤ reachBytes := by simpa using List.all_eq_true.1 hsz _ (DataW.weights_mem_each hj hd _ (hq _ hw))
        exact hz
      · exact ⟨⟨0, 0, 0, ByteArray.empty⟩, fun h => absurd h hil⟩
    refine ⟨b, off, fun i => Classical.choose (hall i), rfl, hb, by omega, ?_⟩
    refine ⟨fun i h => ?_, fun i h => ?_, fun i h => ?_, fun i h => ?_, fun i h => ?_, fun i h => ?_⟩
    · exact (Classical.choose_spec (hall i) h).1 0 (by omega)
    · exact (Classical.choose_spec (hall i) h).1 1 (by omega)
    · exact (Classical.choose_spec (hall i) h).1 2 (by omega)
    · exact (Classical.choose_spec (hall i) h).1 3 (by omega)
    · exact (Classical.choose_spec (hall i) h).2.1
    · exact (Classical.choose_spec (hall i) h).2.2
end

theorem awake_pair {w W : World} {b r c : Nat} {J : Option Nat} {f : Fl} (h : Pair w W b r c J f) : Calls Try.prog 16 #[] W fun e w' => e = .returned (.bool true) ∧ Pair w w' b r c J f := by
  refine (awake_any W).mono ?_
  rintro e w' ⟨rfl, hb⟩
  exact ⟨rfl, h.held.keep hb, h.ref.wrote (Wrote.of_below hb (fun _ => False)) (by simp) (by simp), h.rn, h.cn, h.br, h.bc, h.Jr⟩
set_option maxRecDepth 100000 in
theorem plays_not (img : ByteArray) (A : Option Addr) (len cap : Nat) (w : World) (h0 : img.size ≠ 0) (h1 : img.size ≠ 8192) :
    Calls Try.prog 5 #[.string img, .slice A len cap] w fun e w' => e = .returned (.bool true) ∧ Below w.heap.size w w' := by
  have H := Lib.hid (made_not img w h0 h1)
  clear h0 h1
  go_enter Try.func5, Try.ntmps5
  go_wp2_with fail
  refine H.out.mono ?_
  rintro e w1 ⟨rfl, rfl⟩
  clear H
  go_wp2_with fail
  refine (awake_any _).mono ?_
  rintro e w1 ⟨rfl, h1⟩
  have H1 := Lib.hid h1
  clear h1
  go_wp2_with fail
  go_ret
  exact ⟨rfl, H1.out⟩
set_option maxRecDepth 100000 in
theorem plays_none (img : ByteArray) (A : Option Addr) (cap : Nat) (w : World) (hi : img.size = 0 ∨ img.size = 8192) :
    Calls Try.prog 5 #[.string img, .slice A 0 cap] w fun e w' => e = .returned (.bool true) ∧ Below w.heap.size w w' := by
  have H := Lib.hid (made_some img w hi)
  clear hi
  generalize start img = f at *
  go_enter Try.func5, Try.ntmps5
  go_wp2_with fail
  refine H.out.mono ?_
  rintro e w1 ⟨b, r, c, rfl, h1⟩
  have H1 := Lib.hid h1
  clear H h1
  go_wp2_with fail
  go_loop [8] (fun i => i = .int .i64 0) (fun _ => 0)
  case atStart => rfl
  case round =>
    subst hrel
    go_wp2_with fail
    refine (awake_pair H1.out).mono ?_
    rintro e w2 ⟨rfl, h2⟩
    have H2 := Lib.hid h2
    clear h2
    go_wp2_with fail
    refine (does_any w w2 b r c none f H2.out 5 0 0 ByteArray.empty (by omega) (by decide)).mono ?_
    rintro e w3 ⟨rfl, J', f', h3⟩
    have H3 := Lib.hid h3
    clear h3
    go_wp2_with fail
    go_ret
    exact ⟨rfl, H3.out.held.below⟩
set_option maxRecDepth 100000 in
set_option maxHeartbeats 1000000 in
theorem plays_some (img : ByteArray) (g off len cap : Nat) (xs : Nat → Cl) (w : World) (hi : img.size = 0 ∨ img.size = 8192) (hg : g < w.heap.size) (hl : len ≤ 9223372036854775807) (hx : Script w g off len xs) :
    Calls Try.prog 5 #[.string img, .slice (some ⟨g, off, none⟩) len cap] w fun e w' => e = .returned (.bool true) ∧ Below w.heap.size w w' := by
  have H := Lib.hid (made_some img w hi)
  have HX := Lib.hid hx
  clear hi hx
  generalize start img = f at *
  go_enter Try.func5, Try.ntmps5
  go_wp2_with fail
  refine H.out.mono ?_
  rintro e w1 ⟨b, r, c, rfl, h1⟩
  have H1 := Lib.hid h1
  clear H h1
  go_wp2_with fail
  go_loopw [8] (fun i wr => ∃ (k : Nat) (J' : Option Nat) (f' : Fl), k ≤ len ∧ i = .int .i64 k ∧ Pair w wr b r c J' f') (fun i _ => len - (intOf i).toNat)
  case atStart => exact ⟨0, none, f, by omega, rfl, H1.out⟩
  case round =>
    obtain ⟨k, J', f', hk, rfl, hp⟩ := hrel
    have HP := Lib.hid hp
    clear hp H1
    by_cases hlt : k < len
    · have c0 := (HP.out.held.below.cell (p := ⟨g, off + k * 4, none⟩) hg).trans (HX.out.c0 k hlt)
      have c1 := (HP.out.held.below.cell (p := ⟨g, off + k * 4 + 1, none⟩) hg).trans (HX.out.c1 k hlt)
      have c2 := (HP.out.held.below.cell (p := ⟨g, off + k * 4 + 2, none⟩) hg).trans (HX.out.c2 k hlt)
      have c3 := (HP.out.held.below.cell (p := ⟨g, off + k * 4 + 3, none⟩) hg).trans (HX.out.c3 k hlt)
      have HA : Hid (∀ W, Pair w W b r c J' f' → Calls Try.prog 24 #[.pointer (some ⟨b, 0, none⟩), .pointer (some ⟨r, 0, none⟩), .agg #[.int .i64 (xs k).z, .int .i64 (xs k).a, .int .i64 (xs k).n, .string (xs k).s]] W fun e w' => e = .returned (.bool true) ∧ ∃ J2 f2, Pair w w' b r c J2 f2) :=
        fun W h => does_any w W b r c J' f' h _ _ _ _ (HX.out.ha k hlt) (HX.out.hs k hlt)
      generalize (xs k).z = z at *
      generalize (xs k).a = a at *
      generalize (xs k).n = n at *
      generalize (xs k).s = s at *
      go_wp2_with fail
      refine (HA.out _ HP.out).mono ?_
      rintro e w3 ⟨rfl, J2, f2, h3⟩
      have H3 := Lib.hid h3
      clear h3 HP HA c0 c1 c2 c3
      go_wp2_with fail
      go_roundw
      case rel => exact ⟨k + 1, J2, f2, by omega, by go_num, H3.out⟩
      case measure => simp [intOf]; omega
    · go_wp2_with fail
      refine (awake_pair HP.out).mono ?_
      rintro e w2 ⟨rfl, h2⟩
      have H2 := Lib.hid h2
      clear h2
      go_wp2_with fail
      refine (does_any w w2 b r c J' f' H2.out 5 0 0 ByteArray.empty (by omega) (by decide)).mono ?_
      rintro e w3 ⟨rfl, J2, f2, h3⟩
      have H3 := Lib.hid h3
      clear h3
      go_wp2_with fail
      go_ret
      exact ⟨rfl, H3.out.held.below⟩
theorem norPlays_walk {H : Type} {enc : TypeId × Value → H} (img : ByteArray) (A : Option Addr) (len cap : Nat) (d : DataW H) (p : List MemPlace) (w : World) {ts : List TypeId} {ds : List (DataW H)} (hsz : (DataW.weightsEach Try.prog ts ds).all (· ≤ reachBytes) = true)
    (hj : ts[1]? = some 36) (hd : ds[1]? = some d) (h : DataW.Trod enc Try.prog w 0 (fun _ => true) true 36 (.slice A len cap) d p) :
    Calls Try.prog 5 #[.string img, .slice A len cap] w fun e w' => e = .returned (.bool true) ∧ Below w.heap.size w w' := by
  by_cases hi : img.size = 0 ∨ img.size = 8192
  · rcases script_of hsz hj hd h with rfl | ⟨g, off, xs, rfl, hg, hl, hx⟩
    · exact plays_none img A cap w hi
    · exact plays_some img g off len cap xs w hi hg hl hx
  · exact plays_not img A len cap w (by omega) (by omega)
end Go.Proofs.Ytngmnceahhlpkaa
