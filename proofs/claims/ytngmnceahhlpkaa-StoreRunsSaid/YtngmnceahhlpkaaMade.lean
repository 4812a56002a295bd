/- What the laws' helpers made, powered and between answer, in whatever world. Condition: numbers are of their kinds. -/
import Derived.Test.YtngmnceahhlpkaaRef4
import Derived.Test.YtngmnceahhlpkaaLaws1
namespace Go.Proofs.Ytngmnceahhlpkaa
open Go.RowKit

def start (s : ByteArray) : Fl := if s.size = 0 then Fl.new else Fl.of (bytes s)
/-- Two flashes made behind w: the program's and the document's. -/
structure Pair (w w' : World) (b r c : Nat) (J : Option Nat) (f : Fl) : Prop where
  held : Held w w' b J f
  ref : RAt w' r c f
  rn : w.heap.size ≤ r
  cn : w.heap.size ≤ c
  br : b ≠ r
  bc : b ≠ c
  Jr : ∀ g, J = some g → g ≠ r ∧ g ≠ c ∧ w.heap.size ≤ g ∧ g ≠ b
theorem of_held (s : ByteArray) (w : World) (hs : s.size = 8192) :
    Calls Try.prog 28 #[.string s] w fun e w' => ∃ b, e = .returned (.tuple #[.pointer (some ⟨b, 0, none⟩), .int .i64 0]) ∧ Held w w' b none (Fl.of (bytes s)) := by
  refine (of_any s w hs).mono ?_
  rintro e w' ⟨rfl, h1, h2⟩
  exact ⟨_, rfl, h1, h2, Nat.le_refl _⟩
theorem pair_of {w w1 w2 : World} {b r c : Nat} {f : Fl} (h : Held w w1 b none f) (hr : RAt w2 r c f) (hb : Below w1.heap.size w1 w2) (h1 : w1.heap.size ≤ r) (h2 : w1.heap.size ≤ c) : Pair w w2 b r c none f :=
  ⟨h.keep hb, hr, Nat.le_trans h.below.size h1, Nat.le_trans h.below.size h2, by have := h.at_.lt; omega, by have := h.at_.lt; omega, fun g hg => by cases hg⟩

set_option maxHeartbeats 1000000 in
theorem made_empty (w : World) : Calls Try.prog 15 #[.string ByteArray.empty] w fun e w' => ∃ b r c, e = .returned (.tuple #[.pointer (some ⟨b, 0, none⟩), .pointer (some ⟨r, 0, none⟩), .bool true]) ∧ Pair w w' b r c none Fl.new := by
  go_enter Try.func15, Try.ntmps15
  go_wp2_with fail
  refine (new_held _).mono ?_
  rintro e w1 ⟨b, rfl, h1⟩
  have H1 := Lib.hid h1
  clear h1
  go_wp2_with fail
  refine (rnew_any _).mono ?_
  rintro e w2 ⟨rfl, h2, b2⟩
  have H2 := Lib.hid (pair_of H1.out h2 b2 (by omega) (by omega))
  clear h2 b2 H1
  go_wp2_with fail
  refine bodyPost_ret (v := .tuple #[.pointer (some ⟨b, 0, none⟩), .pointer (some ⟨w1.heap.size + 1, 0, none⟩), .bool true]) (by simp [results, Try.results15, go_sem]) rfl ?_
  exact ⟨_, _, _, rfl, H2.out⟩
set_option maxHeartbeats 1000000 in
theorem made_full (s : ByteArray) (w : World) (hs : s.size = 8192) : Calls Try.prog 15 #[.string s] w fun e w' => ∃ b r c, e = .returned (.tuple #[.pointer (some ⟨b, 0, none⟩), .pointer (some ⟨r, 0, none⟩), .bool true]) ∧ Pair w w' b r c none (Fl.of (bytes s)) := by
  have hne : s.toList.isEmpty = false := by
    cases he : s.toList.isEmpty with
    | false => rfl
    | true =>
      exfalso
      rw [List.isEmpty_iff, Lib.toList_data] at he
      have : s.size = 0 := by show s.data.size = 0; rw [← Array.length_toList, he]; rfl
      omega
  have HS := Lib.hid hs
  clear hs
  go_enter Try.func15, Try.ntmps15
  go_wp2_with fail
  refine (of_held s _ HS.out).mono ?_
  rintro e w1 ⟨b, rfl, h1⟩
  have H1 := Lib.hid h1
  clear h1
  go_wp2_with fail
  refine (rof_any s _ HS.out).mono ?_
  rintro e w2 ⟨rfl, h2, b2⟩
  have H2 := Lib.hid (pair_of H1.out h2 b2 (by omega) (by omega))
  clear h2 b2 H1
  go_wp2_with fail
  refine bodyPost_ret (v := .tuple #[.pointer (some ⟨b, 0, none⟩), .pointer (some ⟨w1.heap.size + 1, 0, none⟩), .bool true]) (by simp [results, Try.results15, go_sem]) rfl ?_
  exact ⟨_, _, _, rfl, H2.out⟩
set_option maxHeartbeats 1000000 in
theorem made_not (s : ByteArray) (w : World) (h0 : s.size ≠ 0) (hs : s.size ≠ 8192) : Calls Try.prog 15 #[.string s] w fun e w' => e = .returned (.tuple #[.pointer none, .pointer none, .bool true]) ∧ w = w' := by
  have hne : s.toList.isEmpty = false := by
    cases he : s.toList.isEmpty with
    | false => rfl
    | true =>
      exfalso
      rw [List.isEmpty_iff, Lib.toList_data] at he
      have : s.size = 0 := by show s.data.size = 0; rw [← Array.length_toList, he]; rfl
      omega
  have HS := Lib.hid hs
  clear hs h0
  go_enter Try.func15, Try.ntmps15
  go_wp2_with fail
  refine (of_size s _ HS.out).mono ?_
  rintro e w1 ⟨rfl, rfl⟩
  go_wp2_with fail
  refine (rof_size s _ HS.out).mono ?_
  rintro e w1 ⟨rfl, rfl⟩
  go_wp2_with fail
  refine bodyPost_ret (v := .tuple #[.pointer none, .pointer none, .bool true]) (by simp [results, Try.results15, go_sem]) rfl ?_
  exact ⟨rfl, rfl⟩
theorem start_ok (s : ByteArray) (h : s.size = 0 ∨ s.size = 8192) : (start s).Ok := by
  unfold start
  split
  · exact Fl.Ok.new
  · exact Fl.Ok.of (by rw [bytes_length]; omega) (bytes_byte s)
/-- made, of an image that may be. -/
theorem made_some (s : ByteArray) (w : World) (h : s.size = 0 ∨ s.size = 8192) : Calls Try.prog 15 #[.string s] w fun e w' => ∃ b r c, e = .returned (.tuple #[.pointer (some ⟨b, 0, none⟩), .pointer (some ⟨r, 0, none⟩), .bool true]) ∧ Pair w w' b r c none (start s) := by
  unfold start
  by_cases h0 : s.size = 0
  · have : s = ByteArray.empty := by
      apply bytes_inj
      apply List.eq_nil_of_length_eq_zero
      rw [bytes_length, h0]
    rw [if_pos h0]
    subst this
    exact made_empty w
  · rw [if_neg h0]
    exact made_full s w (by omega)

theorem powered_any (b : Nat) (J : Option Nat) (f : Fl) (w : World) (h : At w b J f) : Calls Try.prog 25 #[.pointer (some ⟨b, 0, none⟩)] w fun e w' => e = .returned (.bool (!f.off)) ∧ w = w' := by
  have hr : (f.read 0 0).2 = if f.off then 60 else 0 := by
    unfold Fl.read
    cases f.off <;> rfl
  have HC := Lib.hid (read_any b J f 0 0 w h)
  rw [hr] at HC
  clear h hr
  cases ho : f.off with
  | true =>
    rw [ho] at HC
    clear ho
    go_enter Try.func25, Try.ntmps25
    go_wp2_with fail
    refine HC.out.mono ?_
    rintro e w1 ⟨rfl, rfl⟩
    go_wp2_with fail
    go_ret
    exact ⟨rfl, rfl⟩
  | false =>
    rw [ho] at HC
    clear ho
    go_enter Try.func25, Try.ntmps25
    go_wp2_with fail
    refine HC.out.mono ?_
    rintro e w1 ⟨rfl, rfl⟩
    go_wp2_with fail
    go_ret
    exact ⟨rfl, rfl⟩

theorem between_any (a b c : Nat) (ha : a < 256) (hb : b < 256) (hc : c < 256) (w : World) :
    Calls Try.prog 26 #[.int .u8 (a : Int), .int .u8 (b : Int), .int .u8 (c : Int)] w fun e w' => e = .returned (.bool (decide (c &&& (a &&& b) = a &&& b ∧ c ||| (a ||| b) = a ||| b))) ∧ w = w' := by
  have h1 := u8_and_nat a b ha hb
  have h2 := u8_and_nat c (a &&& b) hc (Fl.and_lt ha)
  have h3 := u8_or_nat a b ha hb
  have h4 := u8_or_nat c (a ||| b) hc (Fl.or_lt ha hb)
  generalize a &&& b = ab at *
  generalize a ||| b = ob at *
  generalize c &&& ab = x at *
  generalize c ||| ob = y at *
  by_cases e1 : x = ab
  · subst e1
    by_cases e2 : y = ob
    · subst e2
      go_enter Try.func26, Try.ntmps26
      go_wp2_with fail
      go_ret
      exact ⟨by simp, rfl⟩
    · have hz : ((y : Int) == (ob : Int)) = false := by rw [beq_eq_false_iff_ne]; omega
      have HE : Hid (y ≠ ob) := e2
      clear e2
      go_enter Try.func26, Try.ntmps26
      go_wp2_with fail
      go_ret
      exact ⟨by simp [HE.out], rfl⟩
  · have hz : ((x : Int) == (ab : Int)) = false := by rw [beq_eq_false_iff_ne]; omega
    have HE : Hid (x ≠ ab) := e1
    clear e1
    go_enter Try.func26, Try.ntmps26
    go_wp2_with fail
    go_ret
    exact ⟨by simp [HE.out], rfl⟩
end Go.Proofs.Ytngmnceahhlpkaa
