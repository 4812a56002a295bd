/- The walk of StoreRuns: true, in whatever world; and how a script reads. Conditions: numbers are of their kinds, texts are within the reach of memory. -/
import Derived.Test.YtngmnceahhlpkaaStR10
import Derived.Test.YtngmnceahhlpkaaStR8
import Derived.Test.YtngmnceahhlpkaaSt9
import Derived.Test.YtngmnceahhlpkaaOpen
import Derived.KernelRfl
import Derived.OpenShut
namespace Go.Proofs.Ytngmnceahhlpkaa
open Go.ChangeShapes Go.WideShapes Go.Deep Go.RowKit

structure Cp where
  z : Int
  a : Int
  s : ByteArray
/-- A script in memory. -/
structure Plan (w : World) (g off n : Nat) (xs : Nat → Cp) : Prop where
  c0 : ∀ i, i < n → w.cell? ⟨g, off + i * 3, none⟩ = some (.int .i64 (xs i).z)
  c1 : ∀ i, i < n → w.cell? ⟨g, off + i * 3 + 1, none⟩ = some (.int .i64 (xs i).a)
  c2 : ∀ i, i < n → w.cell? ⟨g, off + i * 3 + 2, none⟩ = some (.string (xs i).s)
  ha : ∀ i, i < n → (xs i).a ≤ 9223372036854775807
  hs : ∀ i, i < n → (xs i).s.size ≤ 140737488351232
theorem list3 {α : Type} : ∀ {l : List α}, l.length = 3 → ∃ a b c, l = [a, b, c]
  | [a, b, c], _ => ⟨a, b, c, rfl⟩
theorem cells81 : Try.prog.cellsOf 81 = 3 := by kernel_rfl
theorem cell3 : Try.prog.cellsOf 3 = 1 := by kernel_rfl
theorem cell9 : Try.prog.cellsOf 9 = 1 := by kernel_rfl

section
variable {H : Type} {enc : TypeId × Value → H} {w : World} {base : Nat} {spare : Nat → Bool} {held : Bool}
theorem cp_elem {cs : List Value} {n : Nat} {x : DataW H × List MemPlace} (hl : cs.length = 3) (h : DataW.trod enc Try.prog w base spare held n 81 cs = some x) :
    ∃ c : Cp, cs = [.int .i64 c.z, .int .i64 c.a, .string c.s] ∧ c.a ≤ 9223372036854775807 ∧ c.s.size ∈ x.1.weights Try.prog 81 := by
  have hst := DataW.trod_struct Try.underlying81 h
  clear h
  obtain ⟨ys, m, _, hxd, _, hys, hf⟩ := hst
  obtain ⟨c0, c1, c2, rfl⟩ := list3 hl
  have hys3 : ys.length = 3 := hys
  obtain ⟨y0, y1, y2, rfl⟩ := list3 hys3
  have f0 : DataW.trod enc Try.prog w base spare held m 3 (([c0, c1, c2].drop 0).take (Try.prog.cellsOf 3)) = some y0 := hf 0 _ rfl
  have f1 : DataW.trod enc Try.prog w base spare held m 3 (([c0, c1, c2].drop 1).take (Try.prog.cellsOf 3)) = some y1 := hf 1 _ rfl
  have f2 : DataW.trod enc Try.prog w base spare held m 9 (([c0, c1, c2].drop 2).take (Try.prog.cellsOf 9)) = some y2 := hf 2 _ rfl
  rw [cell3] at f0 f1
  rw [cell9] at f2
  obtain ⟨n0, e0, _, _⟩ := DataW.trod_int Try.underlying3 f0
  obtain ⟨n1, e1, _, w1⟩ := DataW.trod_int Try.underlying3 f1
  obtain ⟨s2, e2, d2, _⟩ := DataW.trod_string Try.underlying9 f2
  simp at e0 e1 e2
  subst e0 e1 e2
  refine ⟨⟨n0, n1, s2⟩, rfl, (bounds_i64 w1).2, ?_⟩
  rw [hxd]
  show s2.size ∈ DataW.weights Try.prog 81 (.agg [y0.1, y1.1, y2.1])
  simp only [DataW.weights, Try.underlying81]
  have hin : s2.size ∈ y2.1.weights Try.prog 9 := by
    rw [d2]
    simp only [DataW.weights, List.mem_singleton]
    exact Array.length_toList.symm
  exact DataW.weights_mem_each (j := 2) (t := 9) rfl rfl _ hin
theorem plan_of {a : Option Addr} {len cap : Nat} {d : DataW H} {p : List MemPlace} {ts : List TypeId} {ds : List (DataW H)} {j : Nat} (hsz : (DataW.weightsEach Try.prog ts ds).all (· ≤ reachBytes) = true) (hj : ts[j]? = some 73) (hd : ds[j]? = some d)
    (h : DataW.Trod enc Try.prog w 0 (fun _ => true) true 73 (.slice a len cap) d p) :
    len = 0 ∨ ∃ b off xs, a = some ⟨b, off, none⟩ ∧ b < w.heap.size ∧ len ≤ 9223372036854775807 ∧ Plan w b off len xs := by
  rcases slice_cells Try.underlying73 cells81 (by omega) h with h0 | ⟨b, off, rfl, hb, _, hl, hm, hi⟩
  · exact .inl h0
  · right
    unfold maxLen at hm
    have hall : ∀ i, ∃ c : Cp, i < len → (∀ j, j < 3 → w.cell? ⟨b, off + i * 3 + j, none⟩ = ([Value.int .i64 c.z, .int .i64 c.a, .string c.s])[j]?) ∧ c.a ≤ 9223372036854775807 ∧ c.s.size ≤ 140737488351232 := by
      intro i
      by_cases hil : i < len
      · obtain ⟨cs, n, x, hc, hat, ht, hq⟩ := hi i hil
        obtain ⟨c, rfl, hlo, hw⟩ := cp_elem hc ht
        refine ⟨c, fun _ => ⟨hat, hlo, ?_⟩⟩
        have hz : c.s.size ≤ reachBytes := by simpa using List.all_eq_true.1 hsz _ (DataW.weights_mem_each hj hd _ (hq _ hw))
        exact hz
      · exact ⟨⟨0, 0, ByteArray.empty⟩, fun h => absurd h hil⟩
    refine ⟨b, off, fun i => Classical.choose (hall i), rfl, hb, by omega, ?_⟩
    refine ⟨fun i h => ?_, fun i h => ?_, fun i h => ?_, fun i h => ?_, fun i h => ?_⟩
    · exact (Classical.choose_spec (hall i) h).1 0 (by omega)
    · exact (Classical.choose_spec (hall i) h).1 1 (by omega)
    · exact (Classical.choose_spec (hall i) h).1 2 (by omega)
    · exact (Classical.choose_spec (hall i) h).2.1
    · exact (Classical.choose_spec (hall i) h).2.2
end

section
variable {w W V : World} {b r c q : Nat}
theorem PS.below (h : PS w W b r c q) : Below w.heap.size w W := by
  obtain ⟨_, _, _, _, h, _⟩ := h
  exact h.held.below
theorem PS.keep (h : PS w W b r c q) (hb : Below W.heap.size W V) : PS w V b r c q := by
  obtain ⟨J, f, vs, vt, h, hs⟩ := h
  exact ⟨J, f, vs, vt, h.keep hb, hs.below hb⟩
end
theorem awake_ps {w W : World} {b r c q : Nat} (h : PS w W b r c q) : Calls Try.prog 31 #[] W fun e w' => e = .returned (.bool true) ∧ PS w w' b r c q := by
  refine (stAwake_any W).mono ?_
  rintro e w' ⟨rfl, hb⟩
  exact ⟨rfl, h.keep hb⟩
set_option maxRecDepth 100000 in
theorem runs_not (img : ByteArray) (A : Option Addr) (len cap : Nat) (w : World) (h0 : img.size ≠ 0) (h1 : img.size ≠ 8192) :
    Calls Try.prog 14 #[.string img, .slice A len cap] w fun e w' => e = .returned (.bool true) ∧ Below w.heap.size w w' := by
  have H := Lib.hid (flash_not img w h0 h1)
  clear h0 h1
  go_enter Try.func14, Try.ntmps14
  go_wp2_with fail
  refine H.out.mono ?_
  rintro e w1 ⟨rfl, h1⟩
  have H1 := Lib.hid h1
  clear H h1
  go_wp2_with fail
  refine (stAwake_any _).mono ?_
  rintro e w2 ⟨rfl, h2⟩
  have H2 := Lib.hid h2
  clear h2
  go_wp2_with fail
  go_ret
  exact ⟨rfl, below_next (below_next H1.out (below_alloc1 _ _)) H2.out⟩
set_option maxRecDepth 100000 in
set_option maxHeartbeats 1000000 in
theorem runs_some (img : ByteArray) (A : Option Addr) (g off len cap : Nat) (xs : Nat → Cp) (w : World) (hi : img.size = 0 ∨ img.size = 8192) (hl : len ≤ 9223372036854775807) (hA : len = 0 ∨ (A = some ⟨g, off, none⟩ ∧ g < w.heap.size ∧ Plan w g off len xs)) :
    Calls Try.prog 14 #[.string img, .slice A len cap] w fun e w' => e = .returned (.bool true) ∧ Below w.heap.size w w' := by
  have H := Lib.hid (flash_some img w hi)
  have HX := Lib.hid hA
  clear hi hA
  generalize start img = f at *
  go_enter Try.func14, Try.ntmps14
  go_wp2_with fail
  refine H.out.mono ?_
  rintro e w1 ⟨b, r, c, rfl, h1⟩
  have H1 := Lib.hid (h1.scene (pairO b (.pointer none) r (.pointer none)))
  have HQ : Hid (w.heap.size ≤ w1.heap.size) := h1.held.below.size
  clear H h1
  go_wp2_with fail
  refine (pboot_any w _ b r c w1.heap.size none f _ _ H1.out HQ.out).mono ?_
  rintro e w2 ⟨rfl, h2⟩
  have H2 := Lib.hid h2
  clear h2 H1
  generalize w1.heap.size = q at *
  clear w1
  go_wp2_with fail
  go_loopw [7] (fun i wr => ∃ (k : Nat), k ≤ len ∧ i = .int .i64 k ∧ PS w wr b r c q) (fun i _ => len - (intOf i).toNat)
  case atStart => exact ⟨0, by omega, rfl, H2.out⟩
  case round =>
    obtain ⟨k, hk, rfl, hp⟩ := hrel
    have HP := Lib.hid hp
    clear hp H2
    by_cases hlt : k < len
    · rcases HX.out with h0 | ⟨rfl, hg, hx⟩
      · omega
      have c0 := (HP.out.below.cell (p := ⟨g, off + k * 3, none⟩) hg).trans (hx.c0 k hlt)
      have c1 := (HP.out.below.cell (p := ⟨g, off + k * 3 + 1, none⟩) hg).trans (hx.c1 k hlt)
      have c2 := (HP.out.below.cell (p := ⟨g, off + k * 3 + 2, none⟩) hg).trans (hx.c2 k hlt)
      have HA : Hid (∀ W, PS w W b r c q → Calls Try.prog 37 #[.pointer (some ⟨q, 0, none⟩), .agg #[.int .i64 (xs k).z, .int .i64 (xs k).a, .string (xs k).s]] W fun e w' => e = .returned (.bool true) ∧ PS w w' b r c q) :=
        fun W h => pdoes_any w W b r c q h HQ.out _ _ _ (hx.ha k hlt) (hx.hs k hlt)
      clear hx hg
      generalize (xs k).z = z at *
      generalize (xs k).a = a at *
      generalize (xs k).s = s at *
      go_wp2_with fail
      refine (HA.out _ HP.out).mono ?_
      rintro e w3 ⟨rfl, h3⟩
      have H3 := Lib.hid h3
      clear h3 HP HA c0 c1 c2
      go_wp2_with fail
      go_roundw
      case rel => exact ⟨k + 1, by omega, by go_num, H3.out⟩
      case measure => simp [intOf]; omega
    · have HG : Hid (∀ W i, i < (4 : Int) → PS w W b r c q → Calls Try.prog 37 #[.pointer (some ⟨q, 0, none⟩), .agg #[.int .i64 1, .int .i64 i, .string ByteArray.empty]] W fun e w' => e = .returned (.bool true) ∧ PS w w' b r c q) :=
        fun W i hi h => pdoes_any w W b r c q h HQ.out _ _ _ (by omega) (by decide)
      have HI : Hid (∀ W, PS w W b r c q → Calls Try.prog 37 #[.pointer (some ⟨q, 0, none⟩), .agg #[.int .i64 4, .int .i64 0, .string ByteArray.empty]] W fun e w' => e = .returned (.bool true) ∧ PS w w' b r c q) :=
        fun W h => pdoes_any w W b r c q h HQ.out _ _ _ (by omega) (by decide)
      clear HX HQ
      go_wp2_with fail
      go_loopw [8] (fun i wr => ∃ (j : Int), -1 ≤ j ∧ j ≤ 4 ∧ i = .int .i64 j ∧ PS w wr b r c q) (fun i _ => (4 - intOf i).toNat)
      case atStart => exact ⟨-1, by omega, by omega, rfl, HP.out⟩
      case round =>
        obtain ⟨j, hj1, hj4, rfl, hp⟩ := hrel
        have H3 := Lib.hid hp
        clear hp HP
        by_cases hlt2 : j < 4
        · go_wp2_with fail
          refine (HG.out _ j hlt2 H3.out).mono ?_
          rintro e w4 ⟨rfl, h4⟩
          have H4 := Lib.hid h4
          clear h4 H3
          go_wp2_with fail
          go_roundw
          case rel => exact ⟨j + 1, by omega, by omega, by go_num, H4.out⟩
          case measure => simp [intOf]; omega
        · go_wp2_with fail
          refine (awake_ps H3.out).mono ?_
          rintro e w4 ⟨rfl, h4⟩
          have H4 := Lib.hid h4
          clear h4 H3
          go_wp2_with fail
          refine (HI.out _ H4.out).mono ?_
          rintro e w5 ⟨rfl, h5⟩
          have H5 := Lib.hid h5
          clear h5 H4
          go_wp2_with fail
          go_ret
          exact ⟨rfl, H5.out.below⟩
theorem storeRuns_walk {H : Type} {enc : TypeId × Value → H} (img : ByteArray) (A : Option Addr) (len cap : Nat) (d : DataW H) (p : List MemPlace) (w : World) {ts : List TypeId} {ds : List (DataW H)} (hsz : (DataW.weightsEach Try.prog ts ds).all (· ≤ reachBytes) = true)
    (hj : ts[1]? = some 73) (hd : ds[1]? = some d) (h : DataW.Trod enc Try.prog w 0 (fun _ => true) true 73 (.slice A len cap) d p) :
    Calls Try.prog 14 #[.string img, .slice A len cap] w fun e w' => e = .returned (.bool true) ∧ Below w.heap.size w w' := by
  by_cases hi : img.size = 0 ∨ img.size = 8192
  · rcases plan_of hsz hj hd h with rfl | ⟨g, off, xs, rfl, hg, hl, hx⟩
    · exact runs_some img A 0 0 0 cap (fun _ => ⟨0, 0, ByteArray.empty⟩) w hi (by omega) (.inl rfl)
    · exact runs_some img _ g off len cap xs w hi hl (.inr ⟨rfl, hg, hx⟩)
  · exact runs_not img A len cap w (by omega) (by omega)
end Go.Proofs.Ytngmnceahhlpkaa
