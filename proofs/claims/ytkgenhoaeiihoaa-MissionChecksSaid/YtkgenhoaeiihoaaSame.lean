/- What Same answers, in whatever world. Conditions: the items can be read. -/
import Derived.Test.YtkgenhoaeiihoaaBase
namespace Go.Proofs.Ytkgenhoaeiihoaa
open Go.RowKit
deriving instance DecidableEq for It
theorem ext_getD {xs ys : List It} (hl : xs.length = ys.length) (h : ∀ i, i < xs.length → xs.getD i it0 = ys.getD i it0) : xs = ys := by
  apply List.ext_getElem hl
  intro i h1 h2
  have := h i h1
  rw [List.getD_eq_getElem?_getD, List.getD_eq_getElem?_getD, List.getElem?_eq_getElem h1, List.getElem?_eq_getElem h2] at this
  exact this
def SamePost (w : World) (xs ys : List It) (e : Ending) (w' : World) : Prop := e = .returned (.bool (decide (xs = ys))) ∧ ∃ q, w' = w.drewN q
theorem same_t {w : World} {xs ys : List It} (q : Nat) (h : xs = ys) : SamePost w xs ys (.returned (.bool true)) (w.drewN q) := ⟨by rw [decide_eq_true h], q, rfl⟩
theorem same_f {w : World} {xs ys : List It} (q : Nat) (h : xs ≠ ys) : SamePost w xs ys (.returned (.bool false)) (w.drewN q) := ⟨by rw [decide_eq_false h], q, rfl⟩
set_option maxRecDepth 100000 in
set_option maxHeartbeats 4000000 in
theorem same_some (w : World) (xs ys : List It) (g off cap g' off' cap' : Nat) (hlen : xs.length = ys.length) (hsm : xs.length ≤ 9223372036854775807) (_ : g < w.heap.size) (_ : g' < w.heap.size)
    (hc : ∀ i, i < xs.length → ItAt w g (off + i * 4) (xs.getD i it0)) (hc' : ∀ i, i < ys.length → ItAt w g' (off' + i * 4) (ys.getD i it0)) :
    Calls Try.prog 18 #[.slice (some ⟨g, off, none⟩) xs.length cap, .slice (some ⟨g', off', none⟩) ys.length cap'] w (SamePost w xs ys) := by
  rw [← hlen] at hc' ⊢
  have HC := Lib.hid hc
  have HC' := Lib.hid hc'
  have HL := Lib.hid hlen
  clear hc hc' hlen
  generalize hn : xs.length = n at *
  have HN := Lib.hid hn
  clear hn
  go_enter Try.func18, Try.ntmps18
  go_wp2_with fail
  go_loopw [5] (fun i wr => ∃ k q : Nat, k ≤ n ∧ i = .int .i64 k ∧ wr = w.drewN q ∧ Hid (∀ i, i < k → xs.getD i it0 = ys.getD i it0)) (fun i _ => n - (intOf i).toNat)
  case atStart => exact ⟨0, 0, Nat.zero_le _, rfl, rfl, fun i hi => absurd hi (Nat.not_lt_zero _)⟩
  case round =>
    obtain ⟨k, q, hk, rfl, rfl, HE⟩ := hrel
    by_cases hlt : k < n
    · have c := HC.out k hlt
      have c' := HC'.out k hlt
      obtain ⟨p0, p1, p2, p3⟩ := c
      obtain ⟨r0, r1, r2, r3⟩ := c'
      have HX : Hid (xs.getD k it0 = ⟨(xs.getD k it0).k, (xs.getD k it0).a, (xs.getD k it0).b, (xs.getD k it0).c⟩) := rfl
      have HY : Hid (ys.getD k it0 = ⟨(ys.getD k it0).k, (ys.getD k it0).a, (ys.getD k it0).b, (ys.getD k it0).c⟩) := rfl
      have HNE : Hid (xs.getD k it0 ≠ ys.getD k it0 → xs ≠ ys) := fun h hh => h (by rw [hh])
      generalize (xs.getD k it0).k = k1 at *
      generalize (xs.getD k it0).a = a1 at *
      generalize (xs.getD k it0).b = b1 at *
      generalize (xs.getD k it0).c = c1 at *
      generalize (ys.getD k it0).k = k2 at *
      generalize (ys.getD k it0).a = a2 at *
      generalize (ys.getD k it0).b = b2 at *
      generalize (ys.getD k it0).c = c2 at *
      by_cases heq : k1 = k2 ∧ a1 = a2 ∧ b1 = b2 ∧ c1 = c2
      · obtain ⟨rfl, rfl, rfl, rfl⟩ := heq
        have HE2 : Hid (∀ i, i < k + 1 → xs.getD i it0 = ys.getD i it0) := fun i hi => by
          by_cases hik : i < k
          · exact HE.out i hik
          · obtain rfl : i = k := by omega
            rw [HX.out, HY.out]
        clear HX HY HNE
        go_wp2_with fail
        go_region
        go_wp2_with fail
        go_roundw
        case rel => exact ⟨k + 1, q + 1, by omega, by go_num, rfl, HE2⟩
        case measure => simp [intOf]; omega
      · have HF : Hid (xs ≠ ys) := HNE.out (by rw [HX.out, HY.out]; intro h; injection h with h1 h2 h3 h4; exact heq ⟨h1, h2, h3, h4⟩)
        clear HX HY HNE
        by_cases e1 : k1 = k2
        · subst e1
          by_cases e2 : a1 = a2
          · subst e2
            by_cases e3 : b1 = b2
            · subst e3
              have e4 : ¬ c1 = c2 := fun h => heq ⟨rfl, rfl, rfl, h⟩
              clear heq
              go_wp2_with fail
              go_region
              go_wp2_with fail
              go_ret
              exact same_f _ HF.out
            · clear heq
              go_wp2_with fail
              go_region
              go_wp2_with fail
              go_ret
              exact same_f _ HF.out
          · clear heq
            go_wp2_with fail
            go_region
            go_wp2_with fail
            go_ret
            exact same_f _ HF.out
        · clear heq
          go_wp2_with fail
          go_region
          go_wp2_with fail
          go_ret
          exact same_f _ HF.out
    · obtain rfl : k = n := by omega
      have HF : Hid (xs = ys) := ext_getD (HN.out.trans HL.out) (by rw [HN.out]; exact HE.out)
      clear HE
      go_wp2_with fail
      go_ret
      exact same_t _ HF.out
set_option maxRecDepth 100000 in
theorem same_len (w : World) (xs ys : List It) (A A' : Option Addr) (cap cap' : Nat) (hlen : xs.length ≠ ys.length) (_ : xs.length ≤ 9223372036854775807) (_ : ys.length ≤ 9223372036854775807) :
    Calls Try.prog 18 #[.slice A xs.length cap, .slice A' ys.length cap'] w (SamePost w xs ys) := by
  have HF := Lib.hid (same_f (w := w) 0 (show xs ≠ ys from fun h => hlen (by rw [h])))
  generalize xs.length = n at *
  generalize ys.length = m at *
  have hne : ((n : Int) != (m : Int)) = true := by rw [bne_iff_ne]; omega
  go_enter Try.func18, Try.ntmps18
  go_wp2_with fail
  go_ret
  exact HF.out
set_option maxRecDepth 100000 in
theorem same_none (w : World) (A A' : Option Addr) (cap cap' : Nat) : Calls Try.prog 18 #[.slice A 0 cap, .slice A' 0 cap'] w (SamePost w [] []) := by
  go_enter Try.func18, Try.ntmps18
  go_wp2_with fail
  go_loop [5] (fun i => i = .int .i64 0) (fun _ => 0)
  case atStart => rfl
  case round =>
    subst hrel
    go_wp2_with fail
    go_ret
    exact same_t 0 rfl
theorem same_any (w : World) (v v' : Value) (xs ys : List It) (h : IR w v xs) (h' : IR w v' ys) : Calls Try.prog 18 #[v, v'] w (SamePost w xs ys) := by
  by_cases hlen : xs.length = ys.length
  · rcases h.at with ⟨rfl, A, cap, rfl⟩ | ⟨g, off, cap, rfl, hg, hc⟩
    · have hy : ys = [] := List.eq_nil_of_length_eq_zero hlen.symm
      subst hy
      obtain ⟨A', cap', rfl⟩ := h'.form
      exact same_none w A A' cap cap'
    · rcases h'.at with ⟨rfl, A', cap', rfl⟩ | ⟨g', off', cap', rfl, hg', hc'⟩
      · have hx : xs = [] := List.eq_nil_of_length_eq_zero hlen
        subst hx
        exact same_none w _ A' cap cap'
      · exact same_some w xs ys g off cap g' off' cap' hlen h.small hg hg' hc hc'
  · obtain ⟨A, cap, rfl⟩ := h.form
    obtain ⟨A', cap', rfl⟩ := h'.form
    exact same_len w xs ys A A' cap cap' hlen h.small h'.small
end Go.Proofs.Ytkgenhoaeiihoaa
