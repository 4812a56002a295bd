/- The plain law of the document's difference 0 - x over numbers of any length: it is -x. Condition: x within 2^62 either way. -/
import Derived.Test.YtdbgnchjdbjonaaPGroundSeesx7
namespace Go.Proofs.Ytdbgnchjdbjonaa
open Go.RowKit Go.Proofs.YtdbgnchjdbjonaaW.PrintWords Go.Proofs.YtdbgnchjdbjonaaW.PrintLast Go.Proofs.YtdbgnchjdbjonaaW.PrintMore
open Go.Proofs.Ytdbgnchjdbjonaa.PGroundSees

theorem w64 {x : Int} (h0 : -9223372036854775808 ≤ x) (h1 : x < 9223372036854775808) : wrap64 x = x := by unfold wrap64; omega
theorem tm {x : Int} (h : 0 ≤ x) : Int.tmod x 1073741824 = x % 1073741824 := Int.tmod_eq_emod_of_nonneg h
theorem td {x : Int} (h : 0 ≤ x) : Int.tdiv x 1073741824 = x / 1073741824 := Int.tdiv_eq_ediv_of_nonneg h
theorem tmn (x : Int) : Int.tmod (-x) 1073741824 = -(Int.tmod x 1073741824) := Int.neg_tmod ..
theorem tdn (x : Int) : Int.tdiv (-x) 1073741824 = -(Int.tdiv x 1073741824) := Int.neg_tdiv ..

/-- The digits of a number that has at most three. -/
inductive Dig : Int → List Int → Prop
  | zero : Dig 0 []
  | one (a : Int) : 0 < a → a < 1073741824 → Dig a [a]
  | two (a b : Int) : 0 ≤ a → a < 1073741824 → 0 < b → b < 1073741824 → Dig (a + 1073741824 * b) [a, b]
  | three (a b c : Int) : 0 ≤ a → a < 1073741824 → 0 ≤ b → b < 1073741824 → 0 < c → c ≤ 4 → Dig (a + 1073741824 * (b + 1073741824 * c)) [a, b, c]
theorem dig_of {x : Int} (h0 : 0 ≤ x) (h1 : x ≤ 4611686018427387904) : ∃ l, Dig x l := by
  rcases Int.lt_or_le x 1 with h | h
  · have : x = 0 := by omega
    subst this
    exact ⟨_, .zero⟩
  · rcases Int.lt_or_le x 1073741824 with h2 | h2
    · exact ⟨_, .one x (by omega) h2⟩
    · rcases Int.lt_or_le x 1152921504606846976 with h3 | h3
      · have := Dig.two (x % 1073741824) (x / 1073741824) (by omega) (by omega) (by omega) (by omega)
        rw [show x % 1073741824 + 1073741824 * (x / 1073741824) = x from by omega] at this
        exact ⟨_, this⟩
      · have := Dig.three (x % 1073741824) (x / 1073741824 % 1073741824) (x / 1073741824 / 1073741824) (by omega) (by omega) (by omega) (by omega) (by omega) (by omega)
        rw [show x % 1073741824 + 1073741824 * (x / 1073741824 % 1073741824 + 1073741824 * (x / 1073741824 / 1073741824)) = x from by omega] at this
        exact ⟨_, this⟩

theorem of_step {k : Nat} {x : Int} {s : Bool} {l : List Int} (hx : 0 < x) (hb : x < 9223372036854775808) (hl : l.length < 17592186044416) :
    windhoverref00_Of.l0 (k + 1) x s l = windhoverref00_Of.l0 k (x / 1073741824) s (l ++ [x % 1073741824]) := by
  simp only [windhoverref00_Of.l0]
  rw [if_neg (by omega), tm (by omega), td (by omega), if_neg (by omega), if_pos hl, w64 (by omega) (by omega)]
theorem of_stepn {k : Nat} {x : Int} {s : Bool} {l : List Int} (hx : 0 < x) (hb : x < 9223372036854775808) (hl : l.length < 17592186044416) :
    windhoverref00_Of.l0 (k + 1) (-x) s l = windhoverref00_Of.l0 k (-(x / 1073741824)) s (l ++ [x % 1073741824]) := by
  simp only [windhoverref00_Of.l0]
  rw [if_neg (by omega), tmn, tdn, tm (by omega), td (by omega)]
  by_cases h : -(x % 1073741824) < 0
  · rw [if_pos h, if_pos hl, w64 (by omega) (by omega), Int.neg_neg, w64 (by omega) (by omega)]
  · rw [if_neg h, if_pos hl, w64 (by omega) (by omega), show x % 1073741824 = 0 from by omega]
    rfl
theorem of_end {k : Nat} {s : Bool} {l : List Int} : windhoverref00_Of.l0 (k + 1) 0 s l = some (s, l) := by
  simp only [windhoverref00_Of.l0]; rw [if_pos trivial]
theorem of_dig {x : Int} {l : List Int} (h : Dig x l) : windhoverref00_Of.f 20 x = some (false, l) := by
  unfold windhoverref00_Of.f
  cases h with
  | zero => exact of_end
  | one a h0 h1 =>
    rw [show decide (x < 0) = false from by simp; omega, of_step (by omega) (by omega) (by simp), show x / 1073741824 = 0 from by omega, of_end, show x % 1073741824 = x from by omega]
    rfl
  | two a b h0 h1 h2 h3 =>
    rw [show decide (a + 1073741824 * b < 0) = false from by simp; omega, of_step (by omega) (by omega) (by simp), show (a + 1073741824 * b) / 1073741824 = b from by omega, show (a + 1073741824 * b) % 1073741824 = a from by omega,
      of_step (by omega) (by omega) (by simp), show b / 1073741824 = 0 from by omega, of_end, show b % 1073741824 = b from by omega]
    rfl
  | three a b c h0 h1 h2 h3 h4 h5 =>
    rw [show decide (a + 1073741824 * (b + 1073741824 * c) < 0) = false from by simp; omega, of_step (by omega) (by omega) (by simp), show (a + 1073741824 * (b + 1073741824 * c)) / 1073741824 = b + 1073741824 * c from by omega,
      show (a + 1073741824 * (b + 1073741824 * c)) % 1073741824 = a from by omega,
      of_step (by omega) (by omega) (by simp), show (b + 1073741824 * c) / 1073741824 = c from by omega, show (b + 1073741824 * c) % 1073741824 = b from by omega,
      of_step (by omega) (by omega) (by simp), show c / 1073741824 = 0 from by omega, of_end, show c % 1073741824 = c from by omega]
    rfl
theorem of_dign {x : Int} {l : List Int} (h : Dig x l) (hx : 0 < x) : windhoverref00_Of.f 20 (-x) = some (true, l) := by
  unfold windhoverref00_Of.f
  rw [show decide (-x < 0) = true from by simp; omega]
  cases h with
  | zero => omega
  | one a h0 h1 =>
    rw [of_stepn (by omega) (by omega) (by simp), show x / 1073741824 = 0 from by omega, show x % 1073741824 = x from by omega, Int.neg_zero, of_end]
    rfl
  | two a b h0 h1 h2 h3 =>
    rw [of_stepn (by omega) (by omega) (by simp), show (a + 1073741824 * b) / 1073741824 = b from by omega, show (a + 1073741824 * b) % 1073741824 = a from by omega,
      of_stepn (by omega) (by omega) (by simp), show b / 1073741824 = 0 from by omega, show b % 1073741824 = b from by omega, Int.neg_zero, of_end]
    rfl
  | three a b c h0 h1 h2 h3 h4 h5 =>
    rw [of_stepn (by omega) (by omega) (by simp), show (a + 1073741824 * (b + 1073741824 * c)) / 1073741824 = b + 1073741824 * c from by omega,
      show (a + 1073741824 * (b + 1073741824 * c)) % 1073741824 = a from by omega,
      of_stepn (by omega) (by omega) (by simp), show (b + 1073741824 * c) / 1073741824 = c from by omega, show (b + 1073741824 * c) % 1073741824 = b from by omega,
      of_stepn (by omega) (by omega) (by simp), show c / 1073741824 = 0 from by omega, show c % 1073741824 = c from by omega, Int.neg_zero, of_end]
    rfl

/-! ### Sums with nothing, differences from nothing -/
theorem trim_top {k : Nat} {l : List Int} (hl : l.length < 1000) (h : l = [] ∨ rd l ((l.length : Int) - 1) ≠ 0) : windhoverref00_trim.f (k + 1) l = some l := by
  unfold windhoverref00_trim.f
  simp only [windhoverref00_trim.l0]
  rcases h with rfl | h
  · simp
  · by_cases h0 : (l.length : Int) > 0
    · rw [if_pos h0, w64 (by omega) (by omega), if_pos (by omega), if_pos (by omega), if_neg h, if_pos (by omega), if_pos (by omega)]
      simp
    · have : l = [] := List.eq_nil_of_length_eq_zero (by omega)
      subst this
      simp
theorem add_step {k : Nat} {d out : List Int} {i : Int} (h0 : 0 ≤ i) (h1 : i < (d.length : Int)) (hd : d.length < 1000) (ho : out.length < 1000) (hr0 : 0 ≤ rd d i) (hr1 : rd d i < 1073741824) :
    windhoverref00_add.l0 (k + 2) [] d out 0 i = windhoverref00_add.l0 k [] d (out ++ [rd d i]) 0 (i + 1) := by
  simp only [windhoverref00_add.l0, windhoverref00_add.j1]
  rw [if_neg (by simp; omega), if_pos h1, if_pos trivial, if_neg (by simp; omega), if_pos h1, if_pos h0, if_pos (by omega), Int.zero_add, w64 (by omega) (by omega), tm hr0, td hr0,
    show rd d i / 1073741824 = 0 from by omega, show rd d i % 1073741824 = rd d i from by omega, w64 (by omega) (by omega), w64 (by omega) (by omega)]
theorem add_end {k : Nat} {d out : List Int} {i : Int} (h0 : 0 ≤ i) (h1 : i = (d.length : Int)) : windhoverref00_add.l0 (k + 2) [] d out 0 i = (windhoverref00_trim.f k out).bind fun t => some t := by
  simp only [windhoverref00_add.l0, windhoverref00_add.j1]
  rw [if_neg (by simp; omega), if_neg (by omega), if_neg (by simp)]
theorem less_step {k : Nat} {d out : List Int} {i : Int} (h0 : 0 ≤ i) (h1 : i < (d.length : Int)) (hd : d.length < 1000) (ho : out.length < 1000) (hr0 : 0 ≤ rd d i) (hr1 : rd d i < 1073741824) :
    windhoverref00_less.l0 (k + 1) d [] out 0 i = windhoverref00_less.l0 k d [] (out ++ [rd d i]) 0 (i + 1) := by
  simp only [windhoverref00_less.l0]
  rw [if_pos h1, if_pos h0, if_neg (by simp; omega), Int.sub_zero, w64 (by omega) (by omega), if_neg (by omega), if_pos (by omega), w64 (by omega) (by omega)]
theorem less_end {k : Nat} {d out : List Int} {i : Int} (h1 : i = (d.length : Int)) : windhoverref00_less.l0 (k + 1) d [] out 0 i = (windhoverref00_trim.f k out).bind fun t => some t := by
  simp only [windhoverref00_less.l0]
  rw [if_neg (by omega)]
theorem dig_top {x : Int} {l : List Int} (h : Dig x l) : l = [] ∨ rd l ((l.length : Int) - 1) ≠ 0 := by
  cases h with
  | zero => exact .inl rfl
  | one a h0 h1 => right; show x ≠ 0; omega
  | two a b h0 h1 h2 h3 => right; show b ≠ 0; omega
  | three a b c h0 h1 h2 h3 h4 h5 => right; show c ≠ 0; omega
theorem dig_len {x : Int} {l : List Int} (h : Dig x l) : l.length ≤ 3 := by cases h <;> simp
theorem dig_rd {x : Int} {l : List Int} (h : Dig x l) (i : Int) : 0 ≤ rd l i ∧ rd l i < 1073741824 := by
  have hn : ∀ j : Nat, 0 ≤ l.getD j 0 ∧ l.getD j 0 < 1073741824 := by
    intro j
    cases h with
    | zero => simp
    | one a h0 h1 =>
      match j with
      | 0 => exact ⟨by show 0 ≤ x; omega, h1⟩
      | n + 1 => simp
    | two a b h0 h1 h2 h3 =>
      match j with
      | 0 => exact ⟨h0, h1⟩
      | 1 => exact ⟨by show 0 ≤ b; omega, h3⟩
      | n + 2 => simp
    | three a b c h0 h1 h2 h3 h4 h5 =>
      match j with
      | 0 => exact ⟨h0, h1⟩
      | 1 => exact ⟨h2, h3⟩
      | 2 => exact ⟨by show 0 ≤ c; omega, by show c < 1073741824; omega⟩
      | n + 3 => simp
  exact hn _
theorem add_dig {x : Int} {l : List Int} (h : Dig x l) : windhoverref00_add.f 20 [] l = some l := by
  have hr := dig_rd h
  have ht := dig_top h
  unfold windhoverref00_add.f
  cases h with
  | zero => rw [add_end (by omega) (by simp), trim_top (by simp) ht]; rfl
  | one a h0 h1 =>
    rw [add_step (by omega) (by simp) (by simp) (by simp) (hr _).1 (hr _).2, add_end (by omega) (by simp)]
    exact congrArg (fun z => z.bind fun t => some t) (trim_top (k := 15) (l := [x]) (by simp) ht)
  | two a b h0 h1 h2 h3 =>
    rw [add_step (by omega) (by simp) (by simp) (by simp) (hr _).1 (hr _).2, add_step (by omega) (by simp) (by simp) (by simp) (hr _).1 (hr _).2, add_end (by omega) (by simp)]
    exact congrArg (fun z => z.bind fun t => some t) (trim_top (k := 13) (l := [a, b]) (by simp) ht)
  | three a b c h0 h1 h2 h3 h4 h5 =>
    rw [add_step (by omega) (by simp) (by simp) (by simp) (hr _).1 (hr _).2, add_step (by omega) (by simp) (by simp) (by simp) (hr _).1 (hr _).2, add_step (by omega) (by simp) (by simp) (by simp) (hr _).1 (hr _).2, add_end (by omega) (by simp)]
    exact congrArg (fun z => z.bind fun t => some t) (trim_top (k := 11) (l := [a, b, c]) (by simp) ht)
theorem less_dig {x : Int} {l : List Int} (h : Dig x l) : windhoverref00_less.f 20 l [] = some l := by
  have hr := dig_rd h
  have ht := dig_top h
  unfold windhoverref00_less.f
  cases h with
  | zero => rw [less_end (by simp), trim_top (by simp) ht]; rfl
  | one a h0 h1 =>
    rw [less_step (by omega) (by simp) (by simp) (by simp) (hr _).1 (hr _).2, less_end (by simp)]
    exact congrArg (fun z => z.bind fun t => some t) (trim_top (k := 17) (l := [x]) (by simp) ht)
  | two a b h0 h1 h2 h3 =>
    rw [less_step (by omega) (by simp) (by simp) (by simp) (hr _).1 (hr _).2, less_step (by omega) (by simp) (by simp) (by simp) (hr _).1 (hr _).2, less_end (by simp)]
    exact congrArg (fun z => z.bind fun t => some t) (trim_top (k := 16) (l := [a, b]) (by simp) ht)
  | three a b c h0 h1 h2 h3 h4 h5 =>
    rw [less_step (by omega) (by simp) (by simp) (by simp) (hr _).1 (hr _).2, less_step (by omega) (by simp) (by simp) (by simp) (hr _).1 (hr _).2, less_step (by omega) (by simp) (by simp) (by simp) (hr _).1 (hr _).2, less_end (by simp)]
    exact congrArg (fun z => z.bind fun t => some t) (trim_top (k := 15) (l := [a, b, c]) (by simp) ht)

/-! ### Back to an int -/
theorem of_least : windhoverref00_Of.f 20 (-9223372036854775808) = some (true, [0, 0, 8]) := by decide +kernel
theorem of_greatest : windhoverref00_Of.f 20 9223372036854775807 = some (false, [1073741823, 1073741823, 7]) := by decide +kernel
theorem size_small {x : Int} {l : List Int} (h : Dig x l) (p q r : Int) (hr : 4 < r) : windhoverref00_size.f 20 l [p, q, r] = some (-1) := by
  unfold windhoverref00_size.f
  cases h with
  | zero => simp
  | one a h0 h1 => simp
  | two a b h0 h1 h2 h3 => simp
  | three a b c h0 h1 h2 h3 h4 h5 =>
    rw [if_pos (by simp), w64 (by simp) (by simp)]
    simp only [windhoverref00_size.l0]
    rw [if_pos (by simp), if_pos (by simp), if_pos (by simp), if_pos (by simp), if_pos (show rd [a, b, c] (([a, b, c].length : Int) - 1) < rd [p, q, r] (([a, b, c].length : Int) - 1) from by show c < r; omega)]
theorem int_step_pos {k : Nat} {v i : Int} {l : List Int} (h0 : 0 ≤ i) (h1 : i < (l.length : Int)) (hl : l.length ≤ 3) (hv0 : 0 ≤ v) (hv1 : v ≤ 8589934591) (hr0 : 0 ≤ rd l i) (hr1 : rd l i < 1073741824) :
    windhoverref00_Int.l0 (k + 1) v i false l = windhoverref00_Int.l0 k (v * 1073741824 + rd l i) (i - 1) false l := by
  simp only [windhoverref00_Int.l0]
  rw [if_pos h0, if_neg (by simp), if_pos h0, if_pos h1, w64 (x := v * 1073741824) (by omega) (by omega), w64 (by omega) (by omega), w64 (by omega) (by omega)]
theorem int_step_neg {k : Nat} {v i : Int} {l : List Int} (h0 : 0 ≤ i) (h1 : i < (l.length : Int)) (hl : l.length ≤ 3) (hv0 : v ≤ 0) (hv1 : -8589934591 ≤ v) (hr0 : 0 ≤ rd l i) (hr1 : rd l i < 1073741824) :
    windhoverref00_Int.l0 (k + 1) v i true l = windhoverref00_Int.l0 k (v * 1073741824 - rd l i) (i - 1) true l := by
  simp only [windhoverref00_Int.l0]
  rw [if_pos h0, if_pos trivial, if_pos h0, if_pos h1, w64 (x := v * 1073741824) (by omega) (by omega), w64 (by omega) (by omega), w64 (by omega) (by omega)]
theorem int_end {k : Nat} {v i : Int} {s : Bool} {l : List Int} (h0 : i < 0) : windhoverref00_Int.l0 (k + 1) v i s l = some (v, true) := by
  simp only [windhoverref00_Int.l0]
  rw [if_neg (by omega)]
theorem int_pos {x : Int} {l : List Int} (h : Dig x l) : windhoverref00_Int.l0 19 0 (wrap64 ((l.length : Int) - 1)) false l = some (x, true) := by
  have hr := dig_rd h
  have hl := dig_len h
  rw [w64 (by omega) (by omega)]
  cases h with
  | zero => exact int_end (by simp)
  | one a h0 h1 => 
    rw [int_step_pos (by simp) (by simp) hl (by omega) (by omega) (hr _).1 (hr _).2, int_end (by simp)]
    simp [rd]
  | two a b h0 h1 h2 h3 =>
    rw [int_step_pos (by simp) (by simp) hl (by omega) (by omega) (hr _).1 (hr _).2, int_step_pos (by simp) (by simp) hl (by simp [rd]; omega) (by simp [rd]; omega) (hr _).1 (hr _).2, int_end (by simp)]
    simp [rd]
    omega
  | three a b c h0 h1 h2 h3 h4 h5 =>
    rw [int_step_pos (by simp) (by simp) hl (by omega) (by omega) (hr _).1 (hr _).2, int_step_pos (by simp) (by simp) hl (by simp [rd]; omega) (by simp [rd]; omega) (hr _).1 (hr _).2,
      int_step_pos (by simp) (by simp) hl (by simp [rd]; omega) (by simp [rd]; omega) (hr _).1 (hr _).2, int_end (by simp)]
    simp [rd]
    omega
theorem int_neg {x : Int} {l : List Int} (h : Dig x l) : windhoverref00_Int.l0 19 0 (wrap64 ((l.length : Int) - 1)) true l = some (-x, true) := by
  have hr := dig_rd h
  have hl := dig_len h
  rw [w64 (by omega) (by omega)]
  cases h with
  | zero => exact int_end (by simp)
  | one a h0 h1 =>
    rw [int_step_neg (by simp) (by simp) hl (by omega) (by omega) (hr _).1 (hr _).2, int_end (by simp)]
    simp [rd]
  | two a b h0 h1 h2 h3 =>
    rw [int_step_neg (by simp) (by simp) hl (by omega) (by omega) (hr _).1 (hr _).2, int_step_neg (by simp) (by simp) hl (by simp [rd]; omega) (by simp [rd]; omega) (hr _).1 (hr _).2, int_end (by simp)]
    simp [rd]
    omega
  | three a b c h0 h1 h2 h3 h4 h5 =>
    rw [int_step_neg (by simp) (by simp) hl (by omega) (by omega) (hr _).1 (hr _).2, int_step_neg (by simp) (by simp) hl (by simp [rd]; omega) (by simp [rd]; omega) (hr _).1 (hr _).2,
      int_step_neg (by simp) (by simp) hl (by simp [rd]; omega) (by simp [rd]; omega) (hr _).1 (hr _).2, int_end (by simp)]
    simp [rd]
    omega
theorem kept_pos {x : Int} {l : List Int} (h : Dig x l) : windhoverref01_kept.f 20 false l = some x := by
  have h1 : windhoverref00_Int.f 20 false l = some (x, true) := by
    unfold windhoverref00_Int.f
    rw [of_least]
    simp only [Option.bind_some]
    rw [show windhoverref00_Cmp.f 20 false l true [0, 0, 8] = some 1 from rfl]
    simp only [Option.bind_some]
    rw [if_neg (by omega), of_greatest]
    simp only [Option.bind_some]
    have hc : windhoverref00_Cmp.f 20 false l false [1073741823, 1073741823, 7] = some (-1) := by
      unfold windhoverref00_Cmp.f
      rw [if_neg (by simp), size_small h _ _ _ (by omega)]
      rfl
    rw [hc]
    exact int_pos h
  unfold windhoverref01_kept.f
  rw [h1]
  rfl
theorem kept_neg {x : Int} {l : List Int} (h : Dig x l) : windhoverref01_kept.f 20 true l = some (-x) := by
  have h1 : windhoverref00_Int.f 20 true l = some (-x, true) := by
    unfold windhoverref00_Int.f
    rw [of_least]
    simp only [Option.bind_some]
    have hc : windhoverref00_Cmp.f 20 true l true [0, 0, 8] = some 1 := by
      unfold windhoverref00_Cmp.f
      rw [if_neg (by simp), size_small h _ _ _ (by omega)]
      simp only [Option.bind_some, if_true]
      rw [w64 (by omega) (by omega)]
      rfl
    rw [hc]
    simp only [Option.bind_some]
    rw [if_neg (by omega), of_greatest]
    simp only [Option.bind_some]
    rw [show windhoverref00_Cmp.f 20 true l false [1073741823, 1073741823, 7] = some (-1) from rfl]
    exact int_neg h
  unfold windhoverref01_kept.f
  rw [h1]
  rfl

/-- The whole of it. -/
theorem sub_zero {x : Int} (h0 : -4611686018427387904 ≤ x) (h1 : x ≤ 4611686018427387904) : ∃ (s t : Bool) (l r : List Int), windhoverref00_Of.f 20 x = some (s, l) ∧
    windhoverref00_Plus.f 20 false [] (if s then false else decide (0 < l.length)) l = some (t, r) ∧ windhoverref01_kept.f 20 t r = some (-x) := by
  rcases Int.lt_or_le x 0 with h | h
  · obtain ⟨l, hl⟩ := dig_of (x := -x) (by omega) (by omega)
    have e := of_dign hl (by omega)
    rw [Int.neg_neg] at e
    refine ⟨true, false, l, l, e, ?_, kept_pos hl⟩
    unfold windhoverref00_Plus.f
    rw [if_pos (by simp)]
    rw [add_dig hl]
    rfl
  · obtain ⟨l, hl⟩ := dig_of h h1
    have e := of_dig hl
    rcases Nat.eq_zero_or_pos l.length with hz | hz
    · have hn : l = [] := List.eq_nil_of_length_eq_zero hz
      subst hn
      have hx : x = 0 := by cases hl; rfl
      subst hx
      refine ⟨false, false, [], [], e, ?_, by have := kept_pos hl; simpa using this⟩
      unfold windhoverref00_Plus.f
      rw [if_pos (by simp), add_dig hl]
      rfl
    · refine ⟨false, true, l, l, e, ?_, kept_neg hl⟩
      unfold windhoverref00_Plus.f
      have hs : windhoverref00_size.f 20 [] l = some (-1) := by
        unfold windhoverref00_size.f
        rw [if_neg (by simp; omega), if_pos (by simp; omega)]
      have hd : decide (0 < l.length) = true := decide_eq_true hz
      rw [hd]
      rw [if_neg (by simp), hs]
      simp only [Option.bind_some]
      rw [if_neg (by omega), if_neg (by omega), less_dig hl]
      rfl
end Go.Proofs.Ytdbgnchjdbjonaa
