/- What heap.up, heap.down, heap.Push and heap.Pop do on a queue, in whatever world. Conditions: the queue lies in memory, the places are within it. -/
import Derived.Test.YtgbogbmjefbkeaaPush
namespace Go.Proofs.Ytgbogbmjefbkeaa
open Go.RowKit
theorem method_len (a : Addr) (w : World) : (method 178 42 (.pointer (some a)) "Len").run Try.prog w = .ok (44, .pointer (some a)) w := by kernel_rfl
theorem method_less (a : Addr) (w : World) : (method 178 42 (.pointer (some a)) "Less").run Try.prog w = .ok (45, .pointer (some a)) w := by kernel_rfl
theorem method_pop (a : Addr) (w : World) : (method 178 42 (.pointer (some a)) "Pop").run Try.prog w = .ok (46, .pointer (some a)) w := by kernel_rfl
theorem method_push (a : Addr) (w : World) : (method 178 42 (.pointer (some a)) "Push").run Try.prog w = .ok (47, .pointer (some a)) w := by kernel_rfl
theorem method_swap (a : Addr) (w : World) : (method 178 42 (.pointer (some a)) "Swap").run Try.prog w = .ok (48, .pointer (some a)) w := by kernel_rfl
abbrev ile : Int → Int → Prop := fun a b => a ≤ b
theorem ile_tot (a b : Int) : ile a b ∨ ile b a := by unfold ile; omega
theorem ile_tr (a b c : Int) (h : ile a b) (k : ile b c) : ile a c := Int.le_trans h k
theorem less_get {w : World} {qb : Nat} {ms : List Int} (h : Qu w qb ms) (i j : Nat) (x y : Int) (hx : x = (i : Int)) (hy : y = (j : Int)) (hi : i < ms.length) (hj : j < ms.length) {r : Bool} (hr : decide (ms.getD i 0 < ms.getD j 0) = r) :
    Calls Try.prog 45 #[.pointer (some ⟨qb, 0, none⟩), .int .i64 x, .int .i64 y] w fun e w' => e = .returned (.bool r) ∧ Below w.heap.size w w' := by
  subst hx hy hr
  exact less_any w qb ms h i j hi hj
theorem swap_get {w : World} {qb : Nat} {ms : List Int} (h : Qu w qb ms) (i j : Nat) (x y : Int) (hx : x = (i : Int)) (hy : y = (j : Int)) (hi : i < ms.length) (hj : j < ms.length) :
    Calls Try.prog 48 #[.pointer (some ⟨qb, 0, none⟩), .int .i64 x, .int .i64 y] w fun e w' => e = .returned (.tuple #[]) ∧ Qu w' qb (sw 0 ms i j) ∧ Below qb w w' := by
  subst hx hy
  exact swap_any w qb ms h i j hi hj
theorem len_get {w : World} {qb : Nat} {ms : List Int} (h : Qu w qb ms) {n : Nat} (hn : ms.length = n) : Calls Try.prog 44 #[.pointer (some ⟨qb, 0, none⟩)] w fun e w' => e = .returned (.int .i64 (n : Int)) ∧ w' = w := by
  subst hn
  exact len_any w qb ms h
/-! ### One that rises -/
structure Rises (l : List Int) (n j : Nat) : Prop where
  apart : ∀ k, 0 < k → k < n → k ≠ j → ile (l.getD (par k) 0) (l.getD k 0)
  kids : 0 < j → ∀ k, 0 < k → k < n → par k = j → ile (l.getD (par j) 0) (l.getD k 0)
theorem Rises.start {l : List Int} {n : Nat} (h : HeapFrom ile 0 l n 0) : Rises l (n + 1) n :=
  ⟨fun k k0 kn kj => h k k0 (by omega) (Nat.zero_le _), fun _ k k0 kn kp => by unfold par at kp; omega⟩
theorem Rises.swap {l : List Int} {n i j : Nat} (h : Rises l n j) (hn : n ≤ l.length) (h0 : 0 < j) (hj : j < n) (hp : par j = i) (hless : ile (l.getD j 0) (l.getD i 0)) : Rises (sw 0 l i j) n i := by
  have hij : i < j := by rw [← hp]; unfold par; omega
  have g := fun k => sw_get (d := (0 : Int)) l i j k (by omega) (by omega)
  refine ⟨fun k k0 kn ki => ?_, fun i0 k k0 kn kp => ?_⟩
  · have hk : par k < k := by unfold par; omega
    rw [g, g]
    by_cases e1 : k = j
    · subst e1
      rw [if_pos rfl, if_neg (by omega), if_pos hp]
      exact hless
    · rw [if_neg e1, if_neg ki]
      by_cases e2 : par k = j
      · rw [if_pos e2]
        have := h.kids h0 k k0 kn e2
        rw [hp] at this
        exact this
      · rw [if_neg e2]
        by_cases e3 : par k = i
        · rw [if_pos e3]
          have := h.apart k k0 kn e1
          rw [e3] at this
          exact ile_tr _ _ _ hless this
        · rw [if_neg e3]
          exact h.apart k k0 kn e1
  · have hk : par k < k := by unfold par; omega
    have hpi : par i < i := by unfold par; omega
    have h1 := h.apart i i0 (by omega) (by omega)
    rw [g, g, if_neg (by omega), if_neg (by omega)]
    by_cases e1 : k = j
    · rw [if_pos e1]
      exact h1
    · rw [if_neg e1, if_neg (by omega)]
      have := h.apart k k0 kn e1
      rw [kp] at this
      exact ile_tr _ _ _ h1 this
theorem Rises.stop {l : List Int} {n j : Nat} (h : Rises l n j) (hs : 0 < j → ile (l.getD (par j) 0) (l.getD j 0)) : HeapFrom ile 0 l n 0 := by
  intro k k0 kn _
  by_cases e : k = j
  · subst e
    exact hs k0
  · exact h.apart k k0 kn e
structure UpS (w wr : World) (qb : Nat) (ms l : List Int) (n j : Nat) : Prop where
  qu : Qu wr qb l
  perm : l.Perm ms
  len : l.length = n
  rises : Rises l n j
  below : Below qb w wr
theorem UpS.keep {w wr w1 : World} {qb : Nat} {ms l : List Int} {n j : Nat} (h : UpS w wr qb ms l n j) (hb : Below wr.heap.size wr w1) : UpS w w1 qb ms l n j :=
  ⟨h.qu.keep hb, h.perm, h.len, h.rises, h.below.trans (hb.mono (Nat.le_of_lt h.qu.lt))⟩
def UpPost (w : World) (qb : Nat) (ms : List Int) (e : Ending) (w' : World) : Prop := e = .returned (.tuple #[]) ∧ ∃ l, Qu w' qb l ∧ l.Perm ms ∧ HeapFrom ile 0 l l.length 0 ∧ Below qb w w'
theorem UpS.fin {w wr : World} {qb : Nat} {ms l : List Int} {n j : Nat} (h : UpS w wr qb ms l n j) (hs : 0 < j → ile (l.getD (par j) 0) (l.getD j 0)) : UpPost w qb ms (.returned (.tuple #[])) wr :=
  ⟨rfl, l, h.qu, h.perm, by rw [h.len]; exact h.rises.stop hs, h.below⟩
set_option maxRecDepth 100000 in
set_option maxHeartbeats 4000000 in
theorem up_any (w : World) (qb : Nat) (ms : List Int) (n j0 : Nat) (h : Qu w qb ms) (hn : ms.length = n) (hj : j0 < n) (hbig : n ≤ 64) (hr : Rises ms n j0) :
    Calls Try.prog 26 #[.iface 42 (.pointer (some ⟨qb, 0, none⟩)), .int .i64 (j0 : Int)] w (UpPost w qb ms) := by
  have H : Hid (UpS w w qb ms ms n j0) := ⟨h, List.Perm.refl _, hn, hr, Below.refl _ _⟩
  have m1 := method_less ⟨qb, 0, none⟩
  have m2 := method_swap ⟨qb, 0, none⟩
  clear h hr hn
  go_enter Try.func26, Try.ntmps26
  go_wp2_with fail
  go_loopg [1] j0 (fun g v wr => ∃ (j : Nat) (l : List Int), j < n ∧ g = j ∧ v = .int .i64 (j : Int) ∧ UpS w wr qb ms l n j)
  case atStart => exact ⟨j0, ms, hj, rfl, rfl, H.out⟩
  case round =>
    obtain ⟨j, l, hjn, hg, rfl, hd⟩ := hrel
    have HG := Lib.hid hg
    have HD := Lib.hid hd
    clear hd H hg hj
    by_cases hz : j = 0
    · subst hz
      have HF := Lib.hid (HD.out.fin (fun h => absurd h (Nat.lt_irrefl _)))
      clear HD
      go_wp2_with fail
      go_end0
      exact HF.out
    · obtain ⟨i, hi⟩ : ∃ i : Nat, par j = i := ⟨_, rfl⟩
      have HI := Lib.hid hi
      have hin : i < j := by rw [← hi]; unfold par; omega
      have hv : ((j : Int) - 1) / 2 = (i : Int) := by rw [← hi]; unfold par; omega
      have hj1 : (0 : Int) ≤ (j : Int) - 1 := by omega
      have hne : ((i : Int) == (j : Int)) = false := by rw [beq_eq_false_iff_ne]; omega
      have HV := Lib.hid hv
      clear hi hz
      cases hc : decide (l.getD j 0 < l.getD i 0) with
      | false =>
        have HL2 := Lib.hid hc
        have HF : Hid (∀ w4, Below wr.heap.size wr w4 → UpPost w qb ms (.returned (.tuple #[])) w4) := fun w4 hb => (HD.out.keep hb).fin (fun _ => by
          rw [HI.out]
          have := HL2.out
          simp only [decide_eq_false_iff_not] at this
          show l.getD i 0 ≤ l.getD j 0
          omega)
        clear hc
        go_wp2_with fail
        refine (less_get HD.out.qu j i _ _ rfl (by have := HV.out; omega) (by have := HD.out.len; omega) (by have := HD.out.len; omega) HL2.out).mono ?_
        rintro e w4 ⟨rfl, hb4⟩
        have HF2 := Lib.hid (HF.out w4 hb4)
        clear hb4 HF HD
        go_wp2_with fail
        go_end0
        exact HF2.out
      | true =>
        have HL2 := Lib.hid hc
        clear hc
        go_wp2_with fail
        refine (less_get HD.out.qu j i _ _ rfl (by have := HV.out; omega) (by have := HD.out.len; omega) (by have := HD.out.len; omega) HL2.out).mono ?_
        rintro e w4 ⟨rfl, hb4⟩
        have HD4 := Lib.hid (HD.out.keep hb4)
        clear hb4 HD
        go_wp2_with fail
        refine (swap_get HD4.out.qu i j _ _ (by have := HV.out; omega) rfl (by have := HD4.out.len; omega) (by have := HD4.out.len; omega)).mono ?_
        rintro e w5 ⟨rfl, hq5, hb5⟩
        have HD5 : Hid (UpS w w5 qb ms (sw 0 l i j) n i) := by
          have hl := HD4.out.len
          have := HL2.out
          simp only [decide_eq_true_eq] at this
          exact ⟨hq5, (sw_perm l i j (by omega) (by omega)).trans HD4.out.perm, by rw [sw_len]; exact hl, HD4.out.rises.swap (by omega) (by omega) hjn HI.out (by show l.getD j 0 ≤ l.getD i 0; omega), HD4.out.below.trans hb5⟩
        clear hq5 hb5 HD4
        go_wp2_with fail
        go_roundg i
        case measure => have := HG.out; omega
        case rel => exact ⟨i, _, by omega, rfl, by go_num, HD5.out⟩
end Go.Proofs.Ytgbogbmjefbkeaa
