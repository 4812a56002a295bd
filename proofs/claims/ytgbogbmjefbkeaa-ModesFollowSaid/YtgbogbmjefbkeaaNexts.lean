/- What Next and the document's Next answer, in whatever world. Conditions: a mode is one of 256, an event is a number. -/
import Derived.Test.YtgbogbmjefbkeaaSmall
namespace Go.Proofs.Ytgbogbmjefbkeaa
open Go.RowKit
def rowB (e : Nat) : ByteArray := ⟨(toS.getD e []).toArray⟩
theorem cases18 {e : Int} (h0 : 0 ≤ e) (h1 : e < 18) : e = 0 ∨ e = 1 ∨ e = 2 ∨ e = 3 ∨ e = 4 ∨ e = 5 ∨ e = 6 ∨ e = 7 ∨ e = 8 ∨ e = 9 ∨ e = 10 ∨ e = 11 ∨ e = 12 ∨ e = 13 ∨ e = 14 ∨ e = 15 ∨ e = 16 ∨ e = 17 := by omega
theorem cases15 {m : Int} (h0 : 0 ≤ m) (h1 : m ≤ 14) : m = 0 ∨ m = 1 ∨ m = 2 ∨ m = 3 ∨ m = 4 ∨ m = 5 ∨ m = 6 ∨ m = 7 ∨ m = 8 ∨ m = 9 ∨ m = 10 ∨ m = 11 ∨ m = 12 ∨ m = 13 ∨ m = 14 := by omega
theorem row_at (e : Int) (h0 : 0 ≤ e) (h1 : e < 18) (w : World) : (Instr.index 51 (.agg toA) (.int .i64 e)).run Try.prog w = .ok (.string (rowB e.toNat)) w := by
  rcases cases18 h0 h1 with rfl | rfl | rfl | rfl | rfl | rfl | rfl | rfl | rfl | rfl | rfl | rfl | rfl | rfl | rfl | rfl | rfl | rfl <;> kernel_rfl
theorem chr_at (e m : Int) (h0 : 0 ≤ e) (h1 : e < 18) (h2 : 0 ≤ m) (h3 : m ≤ 14) (w : World) : (Instr.index 9 (.string (rowB e.toNat)) (.int .u8 m)).run Try.prog w = .ok (.int .u8 (chr e.toNat m.toNat)) w := by
  rcases cases18 h0 h1 with rfl | rfl | rfl | rfl | rfl | rfl | rfl | rfl | rfl | rfl | rfl | rfl | rfl | rfl | rfl | rfl | rfl | rfl <;>
    (rcases cases15 h2 h3 with rfl | rfl | rfl | rfl | rfl | rfl | rfl | rfl | rfl | rfl | rfl | rfl | rfl | rfl | rfl <;> kernel_rfl)
def NextPost (w : World) (v : Int) (e : Ending) (w' : World) : Prop := e = .returned (.int .u8 v) ∧ Below w.heap.size w w'
theorem next_far (w : World) (m e : Int) (_ : 0 ≤ m) (_ : m ≤ 255) (h : 14 < m ∨ e < 0 ∨ 18 ≤ e) : Calls Try.prog 15 #[.int .u8 m, .int .i64 e] w (NextPost w m) := by
  by_cases h1 : 14 < m
  · go_enter Try.func15, Try.ntmps15
    go_wp2_with fail
    (try simp only [Exit.inBlock, Exit.then])
    go_ret
    exact ⟨rfl, Below.refl _ _⟩
  · by_cases h2 : e < 0
    · go_enter Try.func15, Try.ntmps15
      go_wp2_with fail
      (try simp only [Exit.inBlock, Exit.then])
      go_ret
      exact ⟨rfl, Below.refl _ _⟩
    · have h3 : 18 ≤ e := by omega
      go_enter Try.func15, Try.ntmps15
      go_wp2_with fail
      (try simp only [Exit.inBlock, Exit.then])
      go_ret
      exact ⟨rfl, Below.refl _ _⟩
set_option maxRecDepth 100000 in
set_option maxHeartbeats 1000000 in
theorem next_near (w : World) (m e c : Int) (h2 : 0 ≤ m) (h3 : m ≤ 14) (h0 : 0 ≤ e) (h1 : e < 18) (hc : chr e.toNat m.toNat = c) (_ : 0 ≤ c) (_ : c ≤ 69) : Calls Try.prog 15 #[.int .u8 m, .int .i64 e] w (NextPost w (nx c m)) := by
  have r1 := fun u => row_at e h0 h1 u
  have r2 := fun u => chr_at e m h0 h1 h2 h3 u
  rw [hc] at r2
  clear hc
  unfold nx
  generalize rowB e.toNat = s at *
  generalize hA : toA = A at *
  have HA := Lib.hid hA
  clear hA
  have g1 : ¬ 14 < m := by omega
  have g2 : ¬ e < 0 := by omega
  have g3 : ¬ 18 ≤ e := by omega
  by_cases c1 : 65 ≤ c
  · go_enter Try.func15, Try.ntmps15
    go_wp2_with fail
    refine (to_any w).mono ?_
    rintro e1 w1 ⟨rfl, hb1⟩
    rw [HA.out]
    have HB1 := Lib.hid hb1
    clear hb1
    go_wp2_with fail
    (try simp only [Exit.inBlock, Exit.then])
    go_ret
    exact ⟨by simp, HB1.out⟩
  · by_cases c2 : 48 ≤ c
    · go_enter Try.func15, Try.ntmps15
      go_wp2_with fail
      refine (to_any w).mono ?_
      rintro e1 w1 ⟨rfl, hb1⟩
      rw [HA.out]
      have HB1 := Lib.hid hb1
      clear hb1
      go_wp2_with fail
      (try simp only [Exit.inBlock, Exit.then])
      go_ret
      exact ⟨by simp, HB1.out⟩
    · go_enter Try.func15, Try.ntmps15
      go_wp2_with fail
      refine (to_any w).mono ?_
      rintro e1 w1 ⟨rfl, hb1⟩
      rw [HA.out]
      have HB1 := Lib.hid hb1
      clear hb1
      go_wp2_with fail
      (try simp only [Exit.inBlock, Exit.then])
      go_ret
      exact ⟨by simp, HB1.out⟩
theorem next_any (w : World) (m e : Int) (h2 : 0 ≤ m) (h3 : m ≤ 255) : Calls Try.prog 15 #[.int .u8 m, .int .i64 e] w (NextPost w (nextF m e)) := by
  unfold nextF
  cases hb : inB m e with
  | false =>
    refine next_far w m e h2 h3 ?_
    by_cases h : 14 < m ∨ e < 0 ∨ 18 ≤ e
    · exact h
    · exfalso
      have : inB m e = true := by unfold inB; simp; omega
      rw [hb] at this
      cases this
  | true =>
    have hb' : m ≤ 14 ∧ 0 ≤ e ∧ e < 18 := by unfold inB at hb; simp at hb; omega
    have := (next_table ⟨e.toNat, by omega⟩ ⟨m.toNat, by omega⟩).2.2.2
    rw [if_pos rfl]
    exact next_near w m e _ h2 hb'.1 hb'.2.1 hb'.2.2 rfl this.1 this.2
/-! ### The document's -/
theorem rowL_len (r : Rw) : (rowL r).length = 4 := rfl
def rowsA : Array Value := #[.int .i64 0, .int .u8 3, .int .u8 11, .int .u8 12, .int .i64 1, .int .u8 3, .int .u8 11, .int .u8 12, .int .i64 2, .int .u8 3, .int .u8 11, .int .u8 12, .int .i64 3, .int .u8 10, .int .u8 11, .int .u8 14, .int .i64 3, .int .u8 13, .int .u8 13, .int .u8 14, .int .i64 4, .int .u8 3, .int .u8 7, .int .u8 8, .int .i64 5, .int .u8 3, .int .u8 7, .int .u8 8, .int .i64 6, .int .u8 3, .int .u8 3, .int .u8 4, .int .i64 6, .int .u8 8, .int .u8 8, .int .u8 9, .int .i64 6, .int .u8 9, .int .u8 9, .int .u8 10, .int .i64 6, .int .u8 12, .int .u8 12, .int .u8 13, .int .i64 7, .int .u8 2, .int .u8 2, .int .u8 1, .int .i64 8, .int .u8 1, .int .u8 1, .int .u8 2, .int .i64 9, .int .u8 2, .int .u8 2, .int .u8 3, .int .i64 10, .int .u8 3, .int .u8 3, .int .u8 4, .int .i64 10, .int .u8 5, .int .u8 11, .int .u8 4, .int .i64 11, .int .u8 4, .int .u8 4, .int .u8 5, .int .i64 11, .int .u8 6, .int .u8 11, .int .u8 5, .int .i64 12, .int .u8 4, .int .u8 5, .int .u8 6, .int .i64 12, .int .u8 7, .int .u8 11, .int .u8 6, .int .i64 13, .int .u8 2, .int .u8 2, .int .u8 7, .int .i64 13, .int .u8 4, .int .u8 6, .int .u8 7, .int .i64 14, .int .u8 3, .int .u8 7, .int .u8 8, .int .i64 14, .int .u8 11, .int .u8 11, .int .u8 8, .int .i64 15, .int .u8 3, .int .u8 10, .int .u8 11, .int .i64 16, .int .u8 0, .int .u8 0, .int .u8 1, .int .i64 16, .int .u8 14, .int .u8 14, .int .u8 1, .int .i64 17, .int .u8 1, .int .u8 1, .int .u8 0, .int .i64 17, .int .u8 14, .int .u8 14, .int .u8 0]
theorem rowsA_eq : rowsA = (rowsL.flatMap rowL).toArray := by kernel_rfl
def RowsAt (w : World) (g : Nat) : Prop := w.heap[g]? = some (.cells rowsA 56)
set_option maxRecDepth 100000 in
set_option maxHeartbeats 4000000 in
theorem rows_any (w : World) : Calls Try.prog 25 #[] w fun e w' => e = .returned (.slice (some ⟨w.heap.size, 0, none⟩) 29 29) ∧ RowsAt w' w.heap.size ∧ Below w.heap.size w w' := by
  go_enter Try.func25, Try.ntmps25
  go_wp2_with fail
  go_ret
  refine ⟨rfl, ?_, ?_⟩
  · exact heap_alloc_new w _
  · exact below_alloc1 w _
theorem flat_get {α β : Type} {f : α → List β} {C : Nat} (hf : ∀ a, (f a).length = C) : ∀ (l : List α) (i j : Nat), j < C → (l.flatMap f)[i * C + j]? = (l[i]?).bind fun a => (f a)[j]?
  | [], i, j, hj => by simp
  | a :: l, 0, j, hj => by
    rw [List.flatMap_cons, Nat.zero_mul, Nat.zero_add, List.getElem?_append_left (by rw [hf]; exact hj)]
    rfl
  | a :: l, i + 1, j, hj => by
    rw [List.flatMap_cons, List.getElem?_append_right (by rw [hf, Nat.add_mul]; omega), hf, Nat.add_mul, Nat.one_mul, show i * C + C + j - C = i * C + j from by omega, flat_get hf l i j hj]
    rfl
theorem rows_len : rowsL.length = 29 := by decide
theorem RowsAt.at {w : World} {g : Nat} (h : RowsAt w g) (i : Nat) (hi : i < 29) :
    w.cell? ⟨g, i * 4, none⟩ = some (.int .i64 (rowsL.getD i rw0).ev) ∧ w.cell? ⟨g, i * 4 + 1, none⟩ = some (.int .u8 (rowsL.getD i rw0).lo) ∧ w.cell? ⟨g, i * 4 + 2, none⟩ = some (.int .u8 (rowsL.getD i rw0).hi) ∧ w.cell? ⟨g, i * 4 + 3, none⟩ = some (.int .u8 (rowsL.getD i rw0).nxt) := by
  have hl : i < rowsL.length := by rw [rows_len]; exact hi
  have e : rowsL.getD i rw0 = rowsL[i] := by rw [List.getD_eq_getElem?_getD, List.getElem?_eq_getElem hl]; rfl
  have hc : ∀ k, w.cell? ⟨g, k, none⟩ = (rowsL.flatMap rowL)[k]? := fun k => by
    rw [cell_at h k, rowsA_eq, List.getElem?_toArray]
  rw [e, hc, hc, hc, hc]
  have h0 := flat_get rowL_len rowsL i 0 (by omega)
  rw [Nat.add_zero] at h0
  rw [h0, flat_get rowL_len rowsL i 1 (by omega), flat_get rowL_len rowsL i 2 (by omega), flat_get rowL_len rowsL i 3 (by omega), List.getElem?_eq_getElem hl]
  exact ⟨rfl, rfl, rfl, rfl⟩
theorem rnextL_drop (m e : Int) (i : Nat) (hi : i < 29) : rnextL m e (rowsL.drop i) = if fits m e (rowsL.getD i rw0) then (rowsL.getD i rw0).nxt else rnextL m e (rowsL.drop (i + 1)) := by
  have hl : i < rowsL.length := by rw [rows_len]; exact hi
  have e1 : rowsL.getD i rw0 = rowsL[i] := by rw [List.getD_eq_getElem?_getD, List.getElem?_eq_getElem hl]; rfl
  rw [List.drop_eq_getElem_cons hl, e1]
  rfl
theorem rows_u8 : ∀ r ∈ rowsL, 0 ≤ r.lo ∧ r.lo ≤ 255 ∧ 0 ≤ r.hi ∧ r.hi ≤ 255 ∧ 0 ≤ r.nxt ∧ r.nxt ≤ 14 := by decide
theorem row_u8 (i : Nat) (hi : i < 29) : 0 ≤ (rowsL.getD i rw0).lo ∧ (rowsL.getD i rw0).lo ≤ 255 ∧ 0 ≤ (rowsL.getD i rw0).hi ∧ (rowsL.getD i rw0).hi ≤ 255 := by
  have hl : i < rowsL.length := by rw [rows_len]; exact hi
  have e1 : rowsL.getD i rw0 = rowsL[i] := by rw [List.getD_eq_getElem?_getD, List.getElem?_eq_getElem hl]; rfl
  have := rows_u8 rowsL[i] (List.getElem_mem hl)
  rw [e1]
  omega
set_option maxRecDepth 100000 in
set_option maxHeartbeats 2000000 in
theorem rnext_any (w : World) (m e : Int) (_ : 0 ≤ m) (_ : m ≤ 255) : Calls Try.prog 16 #[.int .u8 m, .int .i64 e] w (NextPost w (rnext m e)) := by
  have H0 : Hid (rnextL m e (rowsL.drop 0) = rnext m e) := rfl
  go_enter Try.func16, Try.ntmps16
  go_wp2_with fail
  refine (rows_any w).mono ?_
  rintro e1 w1 ⟨rfl, hr1, hb1⟩
  have HR1 := Lib.hid hr1
  have HB1 := Lib.hid hb1
  clear hr1 hb1
  generalize w.heap.size = g at HR1 ⊢
  go_wp2_with fail
  go_loop [6] (fun i => ∃ k : Nat, k ≤ 29 ∧ i = .int .i64 k ∧ Hid (rnextL m e (rowsL.drop k) = rnext m e)) (fun i => 29 - (intOf i).toNat)
  case atStart => exact ⟨0, by omega, rfl, H0⟩
  case round =>
    obtain ⟨k, hk, rfl, HN⟩ := hrel
    clear H0
    by_cases hlt : k < 29
    · obtain ⟨p0, p1, p2, p3⟩ := HR1.out.at k hlt
      have HD := Lib.hid (rnextL_drop m e k hlt)
      have hu := row_u8 k hlt
      have HF : Hid (fits m e (rowsL.getD k rw0) = ((rowsL.getD k rw0).ev == e && decide ((rowsL.getD k rw0).lo ≤ m) && decide (m ≤ (rowsL.getD k rw0).hi))) := rfl
      generalize (rowsL.getD k rw0).ev = re at *
      generalize (rowsL.getD k rw0).lo = rl at *
      generalize (rowsL.getD k rw0).hi = rh at *
      generalize (rowsL.getD k rw0).nxt = rn at *
      by_cases h1 : re = e
      · subst h1
        by_cases h2 : rl ≤ m
        · by_cases h3 : m ≤ rh
          · have HX : Hid (rnext m re = rn) := by unfold Hid; rw [← HN.out, HD.out, HF.out]; simp [h2, h3]
            have d2 := decide_eq_true h2
            have d3 := decide_eq_true h3
            clear HD HF HN
            go_wp2_with fail
            (try simp only [Exit.inBlock, Exit.then])
            go_ret
            exact ⟨by rw [HX.out]; rfl, HB1.out⟩
          · have HX : Hid (rnextL m re (rowsL.drop (k + 1)) = rnext m re) := by unfold Hid; rw [← HN.out, HD.out, HF.out]; simp [h3]
            have d2 := decide_eq_true h2
            have d3 := decide_eq_false h3
            clear HD HF HN
            go_wp2_with fail
            go_round
            case rel => exact ⟨k + 1, by omega, by go_num, HX⟩
            case measure => simp [intOf]; omega
        · have HX : Hid (rnextL m re (rowsL.drop (k + 1)) = rnext m re) := by unfold Hid; rw [← HN.out, HD.out, HF.out]; simp [h2]
          have d2 := decide_eq_false h2
          clear HD HF HN
          go_wp2_with fail
          go_round
          case rel => exact ⟨k + 1, by omega, by go_num, HX⟩
          case measure => simp [intOf]; omega
      · have HX : Hid (rnextL m e (rowsL.drop (k + 1)) = rnext m e) := by unfold Hid; rw [← HN.out, HD.out, HF.out]; simp [h1]
        have d1 : (re == e) = false := by rw [beq_eq_false_iff_ne]; exact h1
        clear HD HF HN h1
        go_wp2_with fail
        go_round
        case rel => exact ⟨k + 1, by omega, by go_num, HX⟩
        case measure => simp [intOf]; omega
    · obtain rfl : k = 29 := by omega
      have HX : Hid (rnext m e = m) := by unfold Hid; rw [← HN.out]; rfl
      clear HN
      go_wp2_with fail
      (try simp only [Exit.inBlock, Exit.then])
      go_ret
      exact ⟨by rw [HX.out]; rfl, HB1.out⟩
end Go.Proofs.Ytgbogbmjefbkeaa
