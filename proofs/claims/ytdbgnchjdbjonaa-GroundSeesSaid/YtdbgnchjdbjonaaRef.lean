/- The document's look and step of chapter 15 answer as the code's do. Conditions: the numbers are of their kinds, the count is one that a detector may have. -/
import Derived.Test.YtdbgnchjdbjonaaSub
import Derived.Test.YtdbgnchjdbjonaaDigits
import Derived.Test.YtdbgnchjdbjonaaDet
namespace Go.Proofs.Ytdbgnchjdbjonaa
open Go.RowKit Go.Proofs.YtdbgnchjdbjonaaW.PrintWords Go.Proofs.YtdbgnchjdbjonaaW.PrintLast Go.Proofs.YtdbgnchjdbjonaaW.PrintMore
open Go.Proofs.Ytdbgnchjdbjonaa.PGroundSees

theorem of_any {x : Int} {s : Bool} {l : List Int} (h : windhoverref00_Of.f 20 x = some (s, l)) (w : World) :
    Calls Try.prog 17 #[.int .i64 x] w fun e w' => ∃ A c, e = .returned (.agg #[.bool s, .slice A l.length c]) ∧ Rd w' A c l ∧ Below w.heap.size w w' := by
  refine (windhoverref00_Of.calls 20 x s l w h).mono ?_
  rintro e w' ⟨v, rfl, hr, hb⟩
  obtain ⟨A, c, rfl, hl, hc⟩ := Kd.R_reads hr
  exact ⟨A, c, rfl, ⟨hc, hl⟩, hb⟩
theorem of_zero : windhoverref00_Of.f 20 0 = some (false, []) := by decide +kernel

set_option maxHeartbeats 1000000 in
theorem sub_any (x : Int) (h0 : -4611686018427387904 ≤ x) (h1 : x ≤ 4611686018427387904) (w : World) :
    Calls Try.prog 14 #[.int .i64 0, .int .i64 x] w fun e w' => e = .returned (.int .i64 (-x)) ∧ Below w.heap.size w w' := by
  obtain ⟨s, t, l, r, hof, hp, hk⟩ := sub_zero h0 h1
  have HO := Lib.hid hof
  have HP := Lib.hid hp
  have HK := Lib.hid hk
  clear hof hp hk
  go_enter Try.func14, Try.ntmps14
  go_wp2_with fail
  refine (of_any of_zero _).mono ?_
  rintro e w1 ⟨A, c, rfl, hA, hb1⟩
  have HA := Lib.hid hA
  clear hA
  go_wp2_with fail
  refine (of_any HO.out _).mono ?_
  rintro e w2 ⟨B, d, rfl, hB, hb2⟩
  have HB := Lib.hid hB
  clear hB
  go_wp2_with fail
  refine (minus_any 20 false s A B c d [] l t r _ (HA.out.next hb2) HB.out HP.out).mono ?_
  rintro e w3 ⟨C, n, rfl, hC, hb3⟩
  have HC := Lib.hid hC
  clear hC
  go_wp2_with fail
  refine (windhoverref01_kept.calls 20 t C n r (-x) _ HC.out.1 HC.out.2 HK.out).mono ?_
  rintro e w4 ⟨rfl, hb4⟩
  go_wp2_with fail
  go_ret
  exact ⟨rfl, hb1.trans ((hb2.trans ((hb3.trans (hb4.mono hb3.size)).mono hb2.size)).mono hb1.size)⟩

theorem rlooks_any (f : Bool) (c l : Int) (l0 : -9223372036854775808 ≤ l) (l1 : l ≤ 9223372036854775807) (w : World) :
    Calls Try.prog 13 #[.bool f, .int .i64 c, .int .i64 l] w fun e w' => e = .returned (.bool (looks f c l)) ∧ Below w.heap.size w w' := by
  have hq := tdiv_bounds l l0 l1
  have q0 := hq.1
  have q1 := hq.2
  clear hq
  cases f with
  | false =>
    go_enter Try.func13, Try.ntmps13
    go_wp2_with fail
    go_ret
    exact ⟨by simp [looks], Below.refl _ _⟩
  | true =>
    go_enter Try.func13, Try.ntmps13
    go_wp2_with fail
    refine (sub_any _ (by omega) (by omega) _).mono ?_
    rintro e w1 ⟨rfl, hb1⟩
    go_wp2_with fail
    go_ret
    exact ⟨by simp [looks], hb1⟩

theorem rstep_any (s : Int) (f : Bool) (c l : Int) (s0 : 0 ≤ s) (s1 : s ≤ 65535) (l0 : -9223372036854775808 ≤ l) (l1 : l ≤ 9223372036854775807) (w : World) :
    Calls Try.prog 9 #[.int .i64 s, .bool f, .int .i64 c, .int .i64 l] w fun e w' => e = .returned (.int .i64 (next s f c l)) ∧ Below w.heap.size w w' := by
  cases hb : looks f c l with
  | false =>
    have HN : Hid (next s f c l = 0) := by unfold Hid next; rw [hb]; rfl
    have HB := Lib.hid hb
    clear hb
    go_enter Try.func9, Try.ntmps9
    go_wp2_with fail
    refine (rlooks_any f c l l0 l1 _).mono ?_
    rintro e w1 ⟨rfl, hb1⟩
    rw [HB.out]
    go_wp2_with fail
    go_ret
    exact ⟨by rw [HN.out]; rfl, hb1⟩
  | true =>
    have HN : Hid (next s f c l = if 65535 < s + 1 then 65535 else s + 1) := by unfold Hid next; rw [hb]; rfl
    have HB := Lib.hid hb
    clear hb
    go_enter Try.func9, Try.ntmps9
    go_wp2_with fail
    refine (rlooks_any f c l l0 l1 _).mono ?_
    rintro e w1 ⟨rfl, hb1⟩
    rw [HB.out]
    go_wp2_with fail
    · have hlt : 65535 < s + 1 := by assumption
      go_ret
      exact ⟨by rw [HN.out, if_pos hlt]; rfl, hb1⟩
    · have hlt : ¬ 65535 < s + 1 := by omega
      go_ret
      exact ⟨by rw [HN.out, if_neg hlt]; rfl, hb1⟩
end Go.Proofs.Ytdbgnchjdbjonaa
