/- What a statement's own plan is: the jobs' plan, or none, as the document says. Conditions: the jobs can be read. -/
import Derived.Test.YtmkbkjnpgdpffaaKept
namespace Go.Proofs.Ytmkbkjnpgdpffaa
open Go.RowKit

def Code (js : List Jb) (c : Int) : Prop := (64 < js.length ∧ c = 4) ∨ (js.length ≤ 64 ∧ Good js ∧ c = 0) ∨ (js.length ≤ 64 ∧ ¬ Good js ∧ c = 1)
theorem Code.one {js : List Jb} {a b : Int} (h : Code js a) (k : Code js b) : a = b := by
  rcases h with ⟨h1, rfl⟩ | ⟨h1, h2, rfl⟩ | ⟨h1, h2, rfl⟩ <;> rcases k with ⟨k1, rfl⟩ | ⟨k1, k2, rfl⟩ | ⟨k1, k2, rfl⟩ <;> first | rfl | omega | exact absurd k2 h2 | exact absurd h2 k2
def CheckPost (w : World) (js : List Jb) (e : Ending) (w' : World) : Prop := ∃ c, e = .returned (.int .i64 c) ∧ Code js c ∧ w' = w
set_option maxRecDepth 100000 in
set_option maxHeartbeats 1000000 in
theorem check_any (w : World) (v : Value) (js : List Jb) (h : JR w v js) : Calls Try.prog 16 #[v] w (CheckPost w js) := by
  have hs := h.small
  by_cases h64 : 64 < js.length
  · have HF : Hid (CheckPost w js (.returned (.int .i64 4)) w) := ⟨4, rfl, .inl ⟨h64, rfl⟩, rfl⟩
    obtain ⟨A, cap, rfl⟩ := h.form
    clear h
    generalize js.length = n at *
    go_enter Try.func16, Try.ntmps16
    go_wp2_with fail
    go_ret
    exact HF.out
  · rcases h.at with ⟨rfl, A, cap, rfl⟩ | ⟨g, off, cap, rfl, hg, hc⟩
    · have HF : Hid (CheckPost w [] (.returned (.int .i64 0)) w) := ⟨0, rfl, .inr (.inl ⟨by simp, fun i hi => absurd hi (Nat.not_lt_zero _), rfl⟩), rfl⟩
      clear h hs h64
      go_enter Try.func16, Try.ntmps16
      go_wp2_with fail
      go_loop [3] (fun i => i = .int .i64 0) (fun _ => 0)
      case atStart => rfl
      case round =>
        subst hrel
        go_wp2_with fail
        go_ret
        exact HF.out
    · have HC := Lib.hid hc
      clear h hc
      generalize hn : js.length = n at *
      have HN := Lib.hid hn
      clear hn
      go_enter Try.func16, Try.ntmps16
      go_wp2_with fail
      go_loop [3] (fun i => ∃ k : Nat, k ≤ n ∧ i = .int .i64 k ∧ Hid (∀ i, i < k → 1 ≤ (js.getD i jd).period ∧ 0 ≤ (js.getD i jd).phase)) (fun i => n - (intOf i).toNat)
      case atStart => exact ⟨0, Nat.zero_le _, rfl, fun i hi => absurd hi (Nat.not_lt_zero _)⟩
      case round =>
        obtain ⟨k, hk, rfl, HG⟩ := hrel
        by_cases hlt : k < n
        · obtain ⟨c0, c1, c2⟩ := HC.out k hlt
          have HJD : Hid (js.getD k jd = ⟨(js.getD k jd).period, (js.getD k jd).phase, (js.getD k jd).rank⟩) := rfl
          generalize (js.getD k jd).period = x at *
          generalize (js.getD k jd).phase = y at *
          generalize (js.getD k jd).rank = z at *
          by_cases hx : x < 1
          · have HF : Hid (CheckPost w js (.returned (.int .i64 1)) w) := by
              refine ⟨1, rfl, .inr (.inr ⟨by rw [HN.out]; omega, fun h => ?_, rfl⟩), rfl⟩
              have := (h k (by rw [HN.out]; exact hlt)).1
              rw [HJD.out] at this
              simp only at this
              omega
            go_wp2_with fail
            go_ret
            exact HF.out
          · by_cases hy : y < 0
            · have HF : Hid (CheckPost w js (.returned (.int .i64 1)) w) := by
                refine ⟨1, rfl, .inr (.inr ⟨by rw [HN.out]; omega, fun h => ?_, rfl⟩), rfl⟩
                have := (h k (by rw [HN.out]; exact hlt)).2
                rw [HJD.out] at this
                simp only at this
                omega
              go_wp2_with fail
              go_ret
              exact HF.out
            · have HG2 : Hid (∀ i, i < k + 1 → 1 ≤ (js.getD i jd).period ∧ 0 ≤ (js.getD i jd).phase) := by
                intro i hi
                rcases Nat.lt_or_ge i k with h1 | h1
                · exact HG.out i h1
                · obtain rfl : i = k := by omega
                  rw [HJD.out]
                  show 1 ≤ x ∧ 0 ≤ y
                  omega
              go_wp2_with fail
              go_round
              case rel => exact ⟨k + 1, by omega, by go_num, HG2⟩
              case measure => simp [intOf]; omega
        · obtain rfl : k = n := by omega
          have HF : Hid (CheckPost w js (.returned (.int .i64 0)) w) := ⟨0, rfl, .inr (.inl ⟨by rw [HN.out]; omega, fun i hi => HG.out i (by rw [HN.out] at hi; exact hi), rfl⟩), rfl⟩
          go_wp2_with fail
          go_ret
          exact HF.out
/-- What a made plan is, or is not. -/
def Made (w : World) (js : List Jb) (pv : Value) (c : Int) (w' : World) : Prop :=
  Code js c ∧ ((c ≠ 0 ∧ pv = .pointer none) ∨ (c = 0 ∧ ∃ b jb mb, pv = .pointer (some ⟨b, 0, none⟩) ∧ Live w' b jb mb js 0 ∧ w.heap.size ≤ b ∧ w.heap.size ≤ jb ∧ w.heap.size ≤ mb))
def MadePost (w : World) (js : List Jb) (e : Ending) (w' : World) : Prop := ∃ pv c, e = .returned (.tuple #[pv, .int .i64 c]) ∧ Made w js pv c w' ∧ Below w.heap.size w w'
theorem new_made (w : World) (v : Value) (js : List Jb) (h : JR w v js) : Calls Try.prog 14 #[v] w (MadePost w js) := by
  by_cases h64 : 64 < js.length
  · refine (new_many w v js h h64).mono ?_
    rintro e w' ⟨rfl, rfl⟩
    exact ⟨_, _, rfl, ⟨.inl ⟨h64, rfl⟩, .inl ⟨by omega, rfl⟩⟩, Below.refl _ _⟩
  · refine (new_any w v js h (by omega)).mono ?_
    rintro e w' ⟨hb, ⟨hg, b, jb, mb, l, rfl, hp, hh, hperm, h1, h2, h3, h4, h5⟩ | ⟨hg, rfl⟩⟩
    · exact ⟨_, _, rfl, ⟨.inr (.inl ⟨by omega, hg, rfl⟩), .inr ⟨rfl, b, jb, mb, rfl, ⟨l, hp, hh, hperm.trans (at_zero js), h4, h5⟩, h1, h2, h3⟩⟩, hb⟩
    · exact ⟨_, _, rfl, ⟨.inr (.inr ⟨by omega, hg, rfl⟩), .inl ⟨by omega, rfl⟩⟩, hb⟩
end Go.Proofs.Ytmkbkjnpgdpffaa
