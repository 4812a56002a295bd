/- What Check answers, in both texts, in whatever world. Conditions: the items can be read. -/
import Derived.Test.YtkgenhoaeiihoaaRight
namespace Go.Proofs.Ytkgenhoaeiihoaa
open Go.RowKit

def badAt (n : Int) (x : It) : Int := if rightB x = true then (if x.k = 4 ∧ ¬ (0 ≤ x.a ∧ x.a ≤ n - 1) then 190 else 0) else 191
def chkFrom (n : Int) : List It → Int
  | [] => 0
  | x :: xs => if badAt n x = 0 then chkFrom n xs else badAt n x
def chk (xs : List It) : Int := if 64 < xs.length then 4 else chkFrom xs.length xs
theorem drop_at (xs : List It) (k : Nat) (h : k < xs.length) : xs.drop k = xs.getD k it0 :: xs.drop (k + 1) := by
  rw [List.drop_eq_getElem_cons h, List.getD_eq_getElem?_getD, List.getElem?_eq_getElem h]
  rfl
def ChkPost (w : World) (xs : List It) (e : Ending) (w' : World) : Prop := e = .returned (.int .i64 (chk xs)) ∧ Below w.heap.size w w'
theorem chk_next {xs : List It} {n : Int} {k : Nat} (h : chkFrom n xs = chkFrom n (xs.drop k)) (hk : k < xs.length) (hb : badAt n (xs.getD k it0) = 0) : chkFrom n xs = chkFrom n (xs.drop (k + 1)) := by
  rw [h, drop_at xs k hk, chkFrom, if_pos hb]
theorem chk_stop {xs : List It} {k : Nat} {c : Int} (h : chkFrom xs.length xs = chkFrom xs.length (xs.drop k)) (hk : k < xs.length) (h64 : ¬ 64 < xs.length) (hb : badAt xs.length (xs.getD k it0) = c) (hc : c ≠ 0) : chk xs = c := by
  unfold chk
  rw [if_neg h64, h, drop_at xs k hk, chkFrom, if_neg (by rw [hb]; exact hc), hb]
theorem chk_end {xs : List It} (h : chkFrom xs.length xs = chkFrom xs.length (xs.drop xs.length)) (h64 : ¬ 64 < xs.length) : chk xs = 0 := by
  unfold chk
  rw [if_neg h64, h, List.drop_length, chkFrom]
set_option maxRecDepth 100000 in
set_option maxHeartbeats 2000000 in
theorem check_any (w : World) (v : Value) (xs : List It) (h : IR w v xs) : Calls Try.prog 11 #[v] w (ChkPost w xs) := by
  have hs := h.small
  by_cases h64 : 64 < xs.length
  · have HF : Hid (ChkPost w xs (.returned (.int .i64 4)) w) := ⟨by unfold chk; rw [if_pos h64], Below.refl _ _⟩
    obtain ⟨A, cap, rfl⟩ := h.form
    clear h
    generalize xs.length = n at *
    go_enter Try.func11, Try.ntmps11
    go_wp2_with fail
    go_ret
    exact HF.out
  · rcases h.at with ⟨rfl, A, cap, rfl⟩ | ⟨g, off, cap, rfl, hg, hc⟩
    · have HF : Hid (ChkPost w [] (.returned (.int .i64 0)) w) := ⟨rfl, Below.refl _ _⟩
      clear h hs h64
      go_enter Try.func11, Try.ntmps11
      go_wp2_with fail
      go_loop [10] (fun i => i = .int .i64 0) (fun _ => 0)
      case atStart => rfl
      case round =>
        subst hrel
        go_wp2_with fail
        go_ret
        exact HF.out
    · have HC := Lib.hid hc
      have H64 := Lib.hid h64
      clear h hc
      generalize hn : xs.length = n at *
      have HN := Lib.hid hn
      clear hn
      go_enter Try.func11, Try.ntmps11
      go_wp2_with fail
      go_loopw [10] (fun i wr => ∃ k : Nat, k ≤ n ∧ i = .int .i64 k ∧ Hid (chkFrom n xs = chkFrom n (xs.drop k)) ∧ Below w.heap.size w wr) (fun i _ => n - (intOf i).toNat)
      case atStart => exact ⟨0, Nat.zero_le _, rfl, rfl, Below.refl _ _⟩
      case round =>
        obtain ⟨k, hk, rfl, HG, hb⟩ := hrel
        have HB := Lib.hid hb
        clear hb
        by_cases hlt : k < n
        · obtain ⟨p0, p1, p2, p3⟩ := HC.out k hlt
          have c0 := (HB.out.cell (p := ⟨g, _, none⟩) hg).trans p0
          have c1 := (HB.out.cell (p := ⟨g, _, none⟩) hg).trans p1
          have c2 := (HB.out.cell (p := ⟨g, _, none⟩) hg).trans p2
          have c3 := (HB.out.cell (p := ⟨g, _, none⟩) hg).trans p3
          have HX : Hid (xs.getD k it0 = ⟨(xs.getD k it0).k, (xs.getD k it0).a, (xs.getD k it0).b, (xs.getD k it0).c⟩) := rfl
          clear p0 p1 p2 p3
          generalize (xs.getD k it0).k = kk at *
          generalize (xs.getD k it0).a = a at *
          generalize (xs.getD k it0).b = b at *
          generalize (xs.getD k it0).c = c at *
          have HRW : Hid (∀ W, Calls Try.prog 30 #[.agg #[.int .u8 kk, .int .i64 a, .int .i64 b, .int .i64 c]] W (RightPost W ⟨kk, a, b, c⟩)) := fun W => right_p_any W ⟨kk, a, b, c⟩
          have HST : Hid (∀ x, badAt n (xs.getD k it0) = x → x ≠ 0 → chk xs = x) := by
            intro x hx hx0
            have := HG.out
            rw [← HN.out] at this hx
            exact chk_stop this (by rw [HN.out]; exact hlt) (by rw [HN.out]; exact H64.out) hx hx0
          have HNX : Hid (badAt n (xs.getD k it0) = 0 → chkFrom n xs = chkFrom n (xs.drop (k + 1))) := fun h => chk_next HG.out (by rw [HN.out]; exact hlt) h
          go_wp2_with fail
          refine (HRW.out _).mono ?_
          rintro e w1 ⟨rfl, hb1⟩
          have HB1 := Lib.hid (below_next (HB.out.alloc HB.out.size _) hb1)
          have hcell := fun i => hb1.cell (p := ⟨wr.heap.size, i, none⟩) (by rw [alloc_size]; exact Nat.lt_succ_self _)
          have d0 : w1.cell? ⟨wr.heap.size, 0, none⟩ = some (.int .u8 kk) := (hcell 0).trans ((cell_at (one_new wr _) 0))
          have d1 : w1.cell? ⟨wr.heap.size, 1, none⟩ = some (.int .i64 a) := (hcell 1).trans ((cell_at (one_new wr _) 1))
          clear hb1 hcell HRW
          cases hr : rightB ⟨kk, a, b, c⟩ with
          | false =>
            have HF : Hid (ChkPost w xs (.returned (.int .i64 191)) w1) := ⟨by rw [HST.out 191 (by rw [HX.out]; unfold badAt; rw [if_neg (by rw [hr]; decide)]) (by decide)], HB1.out⟩
            clear hr HST HNX HG
            go_wp2_with fail
            go_ret
            exact HF.out
          | true =>
            by_cases h4 : kk = 4
            · subst h4
              by_cases hf : 0 ≤ a ∧ a ≤ (n : Int) - 1
              · have HN2 := Lib.hid (HNX.out (by rw [HX.out]; unfold badAt; rw [if_pos hr, if_neg (fun h => h.2 hf)]))
                clear hr HST HNX HG
                go_wp2_with fail
                refine (from_t _ _ _ _ hf).mono ?_
                rintro e w2 ⟨rfl, hw2⟩
                subst hw2
                go_wp2_with fail
                go_roundw
                case rel => exact ⟨k + 1, by omega, by go_num, HN2, HB1.out⟩
                case measure => simp [intOf]; omega
              · have HF : Hid (ChkPost w xs (.returned (.int .i64 190)) w1) := ⟨by rw [HST.out 190 (by rw [HX.out]; unfold badAt; rw [if_pos hr, if_pos ⟨rfl, hf⟩]) (by decide)], HB1.out⟩
                clear hr HST HNX HG
                go_wp2_with fail
                refine (from_f _ _ _ _ hf).mono ?_
                rintro e w2 ⟨rfl, hw2⟩
                subst hw2
                go_wp2_with fail
                go_ret
                exact HF.out
            · have HN2 := Lib.hid (HNX.out (by rw [HX.out]; unfold badAt; rw [if_pos hr, if_neg (fun h => h4 h.1)]))
              have z4 : (kk == 4) = false := by simp [h4]
              clear hr HST HNX HG h4
              go_wp2_with fail
              go_roundw
              case rel => exact ⟨k + 1, by omega, by go_num, HN2, HB1.out⟩
              case measure => simp [intOf]; omega
        · obtain rfl : k = n := by omega
          have HF : Hid (ChkPost w xs (.returned (.int .i64 0)) wr) := by
            have := HG.out
            rw [← HN.out] at this
            exact ⟨by rw [chk_end this (by rw [HN.out]; exact H64.out)], HB.out⟩
          clear HG
          go_wp2_with fail
          go_ret
          exact HF.out
set_option maxRecDepth 100000 in
set_option maxHeartbeats 2000000 in
theorem rcheck_any (w : World) (v : Value) (xs : List It) (h : IR w v xs) : Calls Try.prog 14 #[v] w (ChkPost w xs) := by
  have hs := h.small
  by_cases h64 : 64 < xs.length
  · have HF : Hid (ChkPost w xs (.returned (.int .i64 4)) w) := ⟨by unfold chk; rw [if_pos h64], Below.refl _ _⟩
    obtain ⟨A, cap, rfl⟩ := h.form
    clear h
    generalize xs.length = n at *
    go_enter Try.func14, Try.ntmps14
    go_wp2_with fail
    go_ret
    exact HF.out
  · rcases h.at with ⟨rfl, A, cap, rfl⟩ | ⟨g, off, cap, rfl, hg, hc⟩
    · have HF : Hid (ChkPost w [] (.returned (.int .i64 0)) w) := ⟨rfl, Below.refl _ _⟩
      clear h hs h64
      go_enter Try.func14, Try.ntmps14
      go_wp2_with fail
      go_loop [3] (fun i => i = .int .i64 0) (fun _ => 0)
      case atStart => rfl
      case round =>
        subst hrel
        go_wp2_with fail
        go_ret
        exact HF.out
    · have HC := Lib.hid hc
      have H64 := Lib.hid h64
      clear h hc
      generalize hn : xs.length = n at *
      have HN := Lib.hid hn
      clear hn
      go_enter Try.func14, Try.ntmps14
      go_wp2_with fail
      go_loopw [3] (fun i wr => ∃ k : Nat, k ≤ n ∧ i = .int .i64 k ∧ Hid (chkFrom n xs = chkFrom n (xs.drop k)) ∧ Below w.heap.size w wr) (fun i _ => n - (intOf i).toNat)
      case atStart => exact ⟨0, Nat.zero_le _, rfl, rfl, Below.refl _ _⟩
      case round =>
        obtain ⟨k, hk, rfl, HG, hb⟩ := hrel
        have HB := Lib.hid hb
        clear hb
        by_cases hlt : k < n
        · obtain ⟨p0, p1, p2, p3⟩ := HC.out k hlt
          have c0 := (HB.out.cell (p := ⟨g, _, none⟩) hg).trans p0
          have c1 := (HB.out.cell (p := ⟨g, _, none⟩) hg).trans p1
          have c2 := (HB.out.cell (p := ⟨g, _, none⟩) hg).trans p2
          have c3 := (HB.out.cell (p := ⟨g, _, none⟩) hg).trans p3
          have HX : Hid (xs.getD k it0 = ⟨(xs.getD k it0).k, (xs.getD k it0).a, (xs.getD k it0).b, (xs.getD k it0).c⟩) := rfl
          clear p0 p1 p2 p3
          generalize (xs.getD k it0).k = kk at *
          generalize (xs.getD k it0).a = a at *
          generalize (xs.getD k it0).b = b at *
          generalize (xs.getD k it0).c = c at *
          have HRW : Hid (∀ W, Calls Try.prog 33 #[.agg #[.int .u8 kk, .int .i64 a, .int .i64 b, .int .i64 c]] W (RightPost W ⟨kk, a, b, c⟩)) := fun W => right_r_any W ⟨kk, a, b, c⟩
          have HST : Hid (∀ x, badAt n (xs.getD k it0) = x → x ≠ 0 → chk xs = x) := by
            intro x hx hx0
            have := HG.out
            rw [← HN.out] at this hx
            exact chk_stop this (by rw [HN.out]; exact hlt) (by rw [HN.out]; exact H64.out) hx hx0
          have HNX : Hid (badAt n (xs.getD k it0) = 0 → chkFrom n xs = chkFrom n (xs.drop (k + 1))) := fun h => chk_next HG.out (by rw [HN.out]; exact hlt) h
          go_wp2_with fail
          refine (HRW.out _).mono ?_
          rintro e w1 ⟨rfl, hb1⟩
          have HB1 := Lib.hid (below_next HB.out hb1)
          have d0 : w1.cell? ⟨g, off + k * 4, none⟩ = some (.int .u8 kk) := (hb1.cell (p := ⟨g, _, none⟩) (Nat.lt_of_lt_of_le hg HB.out.size)).trans c0
          have d1 : w1.cell? ⟨g, off + k * 4 + 1, none⟩ = some (.int .i64 a) := (hb1.cell (p := ⟨g, _, none⟩) (Nat.lt_of_lt_of_le hg HB.out.size)).trans c1
          clear hb1 HRW
          cases hr : rightB ⟨kk, a, b, c⟩ with
          | false =>
            have HF : Hid (ChkPost w xs (.returned (.int .i64 191)) w1) := ⟨by rw [HST.out 191 (by rw [HX.out]; unfold badAt; rw [if_neg (by rw [hr]; decide)]) (by decide)], HB1.out⟩
            clear hr HST HNX HG
            go_wp2_with fail
            go_ret
            exact HF.out
          | true =>
            by_cases h4 : kk = 4
            · subst h4
              by_cases hf : 0 ≤ a ∧ a ≤ (n : Int) - 1
              · have HN2 := Lib.hid (HNX.out (by rw [HX.out]; unfold badAt; rw [if_pos hr, if_neg (fun h => h.2 hf)]))
                clear hr HST HNX HG
                obtain ⟨hf1, hf2⟩ := hf
                have hf3 : a < (n : Int) := by omega
                go_wp2_with fail
                go_roundw
                case rel => exact ⟨k + 1, by omega, by go_num, HN2, HB1.out⟩
                case measure => simp [intOf]; omega
              · have HF : Hid (ChkPost w xs (.returned (.int .i64 190)) w1) := ⟨by rw [HST.out 190 (by rw [HX.out]; unfold badAt; rw [if_pos hr, if_pos ⟨rfl, hf⟩]) (by decide)], HB1.out⟩
                clear hr HST HNX HG
                by_cases hf1 : 0 ≤ a
                · have hf2 : ¬ a < (n : Int) := fun h => hf ⟨hf1, by omega⟩
                  clear hf
                  go_wp2_with fail
                  go_ret
                  exact HF.out
                · clear hf
                  go_wp2_with fail
                  go_ret
                  exact HF.out
            · have HN2 := Lib.hid (HNX.out (by rw [HX.out]; unfold badAt; rw [if_pos hr, if_neg (fun h => h4 h.1)]))
              have z4 : (kk == 4) = false := by simp [h4]
              clear hr HST HNX HG h4
              go_wp2_with fail
              go_roundw
              case rel => exact ⟨k + 1, by omega, by go_num, HN2, HB1.out⟩
              case measure => simp [intOf]; omega
        · obtain rfl : k = n := by omega
          have HF : Hid (ChkPost w xs (.returned (.int .i64 0)) wr) := by
            have := HG.out
            rw [← HN.out] at this
            exact ⟨by rw [chk_end this (by rw [HN.out]; exact H64.out)], HB.out⟩
          clear HG
          go_wp2_with fail
          go_ret
          exact HF.out
end Go.Proofs.Ytkgenhoaeiihoaa
