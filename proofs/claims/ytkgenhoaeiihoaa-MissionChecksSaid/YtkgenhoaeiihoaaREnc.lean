/- What the document's Encode answers, in whatever world. Conditions: the items can be read. -/
import Derived.Test.YtkgenhoaeiihoaaEnc
import Derived.Test.YtkgenhoaeiihoaaRegs
namespace Go.Proofs.Ytkgenhoaeiihoaa
open Go.RowKit
theorem str_append (a b : List Int) : strOfNums a ++ strOfNums b = strOfNums (a ++ b) := by
  apply ByteArray.ext
  simp [strOfNums]
def After9 (w : World) (xs : List It) (k : Nat) (v : Value) (wx : World) : Prop := v = .string (strOfNums (preL xs (k + 1))) ∧ Below w.heap.size w wx
/-! ### The region: what each operation has left -/
def slot9 (i : Nat) : Nat := if i = 18 then 5 else 28 + i
/-- What operation i leaves: p the text so far, q the item's place, kk, a, b, c its numbers. -/
def V9 (p : ByteArray) (q : Nat) (kk a b c : Int) : Nat → World → Value → Prop
  | 0, _, v => v = .string p
  | 1, _, v => v = .pointer (some ⟨q, 0, none⟩)
  | 2, _, v => v = .int .u8 kk
  | 3, u, v => ∃ B, v = .slice (some ⟨B, 0, none⟩) 1 1 ∧ u.cell? ⟨B, 0, none⟩ = some (.int .u8 kk)
  | 4, _, v => v = .string (strOfNums [kk])
  | 5, _, v => v = .string (p ++ strOfNums [kk])
  | 6, _, v => v = .pointer (some ⟨q, 1, none⟩)
  | 7, _, v => v = .int .i64 a
  | 8, _, v => v = .string (strOfNums (wordL a))
  | 9, _, v => v = .string (p ++ strOfNums [kk] ++ strOfNums (wordL a))
  | 10, _, v => v = .pointer (some ⟨q, 2, none⟩)
  | 11, _, v => v = .int .i64 b
  | 12, _, v => v = .string (strOfNums (wordL b))
  | 13, _, v => v = .string (p ++ strOfNums [kk] ++ strOfNums (wordL a) ++ strOfNums (wordL b))
  | 14, _, v => v = .pointer (some ⟨q, 3, none⟩)
  | 15, _, v => v = .int .i64 c
  | 16, _, v => v = .string (strOfNums (wordL c))
  | 17, _, v => v = .string (p ++ strOfNums [kk] ++ strOfNums (wordL a) ++ strOfNums (wordL b) ++ strOfNums (wordL c))
  | 18, _, v => v = .string (p ++ strOfNums [kk] ++ strOfNums (wordL a) ++ strOfNums (wordL b) ++ strOfNums (wordL c))
  | _, _, _ => True
structure S9 (w u : World) (q : Nat) (kk a b c : Int) : Prop where
  lt : q < u.heap.size
  below : Below w.heap.size w u
  c0 : u.cell? ⟨q, 0, none⟩ = some (.int .u8 kk)
  c1 : u.cell? ⟨q, 1, none⟩ = some (.int .i64 a)
  c2 : u.cell? ⟨q, 2, none⟩ = some (.int .i64 b)
  c3 : u.cell? ⟨q, 3, none⟩ = some (.int .i64 c)
theorem S9.keep {w u u1 : World} {q : Nat} {kk a b c : Int} (h : S9 w u q kk a b c) (hb : Below u.heap.size u u1) : S9 w u1 q kk a b c :=
  ⟨Nat.lt_of_lt_of_le h.lt hb.size, below_next h.below hb, (hb.cell (p := ⟨q, _, none⟩) h.lt).trans h.c0, (hb.cell (p := ⟨q, _, none⟩) h.lt).trans h.c1, (hb.cell (p := ⟨q, _, none⟩) h.lt).trans h.c2, (hb.cell (p := ⟨q, _, none⟩) h.lt).trans h.c3⟩
theorem V9.keep {p : ByteArray} {q : Nat} {kk a b c : Int} {u u1 : World} (hb : Below u.heap.size u u1) : ∀ (i : Nat) (v : Value), V9 p q kk a b c i u v → V9 p q kk a b c i u1 v
  | 3, v, h => by
    obtain ⟨B, hv, hc⟩ := h
    exact ⟨B, hv, (hb.cell (p := ⟨B, 0, none⟩) (World.block_lt_of_cell? u _ hc)).trans hc⟩
  | 0, _, h => h
  | 1, _, h => h
  | 2, _, h => h
  | 4, _, h => h
  | 5, _, h => h
  | 6, _, h => h
  | 7, _, h => h
  | 8, _, h => h
  | 9, _, h => h
  | 10, _, h => h
  | 11, _, h => h
  | 12, _, h => h
  | 13, _, h => h
  | 14, _, h => h
  | 15, _, h => h
  | 16, _, h => h
  | 17, _, h => h
  | 18, _, h => h
  | _ + 19, _, h => h
structure I9 (w : World) (p : ByteArray) (q : Nat) (kk a b c : Int) (listed : Array Bool) (g : Nat → Value) (u : World) : Prop where
  size : listed.size = 19
  st : S9 w u q kk a b c
  val : ∀ i, i < 19 → listed.getD i false = true → V9 p q kk a b c i u (g (slot9 i))
  old : listed.getD 18 false = false → g 5 = .string p
  dn : listed.getD 18 false = true → listed.getD 0 false = true
theorem I9.step {w u u1 : World} {p : ByteArray} {q : Nat} {kk a b c : Int} {listed : Array Bool} {g : Nat → Value} (h : I9 w p q kk a b c listed g u) (hb : Below u.heap.size u u1) (i : Nat) (hi : i < 19) (v : Value) (hv : V9 p q kk a b c i u1 v) (h18 : i = 18 → listed.getD 0 false = true) :
    I9 w p q kk a b c (listed.setIfInBounds i true) (putS g (slot9 i) v) u1 := by
  have hinj : ∀ j, j < 19 → slot9 j = slot9 i → j = i := by
    intro j hj he
    unfold slot9 at he
    split at he <;> split at he <;> omega
  refine ⟨by simp [h.size], h.st.keep hb, fun j hj hl => ?_, fun hl => ?_, fun hl => ?_⟩
  · by_cases e : j = i
    · subst e
      unfold putS
      rw [if_pos rfl]
      exact hv
    · unfold putS
      rw [if_neg (fun he => e (hinj j hj he))]
      refine V9.keep hb j _ (h.val j hj ?_)
      rw [getD_set_ne false (Ne.symm e)] at hl
      exact hl
  · by_cases e : i = 18
    · subst e
      have : (listed.setIfInBounds 18 true).getD 18 false = true := by simp [h.size]
      rw [this] at hl
      cases hl
    · unfold putS
      have h5 : 5 ≠ slot9 i := by unfold slot9; rw [if_neg e]; omega
      rw [if_neg h5]
      refine h.old ?_
      rw [getD_set_ne false e] at hl
      exact hl
  · by_cases e : i = 18
    · exact getD_set_true (h18 e)
    · rw [getD_set_ne false e] at hl
      exact getD_set_true (h.dn hl)
theorem I9.first {w u : World} {p : ByteArray} {q : Nat} {kk a b c : Int} {listed : Array Bool} {g : Nat → Value} (h : I9 w p q kk a b c listed g u) (h0 : listed.getD 0 true = false) : g 5 = .string p := by
  refine h.old ?_
  cases hl : listed.getD 18 false with
  | false => rfl
  | true =>
    have h1 := h.dn hl
    have hs := h.size
    simp [hs] at h0 h1
    rw [h0] at h1
    cases h1
def ds9 : List Nat := [28, 29, 30, 31, 32, 33, 34, 35, 36, 37, 38, 39, 40, 41, 42, 43, 44, 45, 5]
set_option maxRecDepth 100000 in
set_option maxHeartbeats 4000000 in
theorem rencode_some (w : World) (xs : List It) (g off cap : Nat) (hg : g < w.heap.size) (hc : ∀ i, i < xs.length → ItAt w g (off + i * 4) (xs.getD i it0)) (hr : IR w (.slice (some ⟨g, off, none⟩) xs.length cap) xs) :
    Calls Try.prog 13 #[.slice (some ⟨g, off, none⟩) xs.length cap] w (EncPost w xs) := by
  have HC := Lib.hid hc
  have HR := Lib.hid hr
  clear hc hr
  have hcv : ∀ (u : World) (x : Int), (convert 61 9 (.slice (some ⟨u.heap.size, 0, none⟩) 1 1)).run Try.prog (u.alloc (.cells #[.int .u8 x] 5)) = .ok (.string (strOfNums [x])) (u.alloc (.cells #[.int .u8 x] 5)) := by
    intro u x
    refine run_convert_bytes_arg (P := Try.prog) _ 61 5 Try.underlying61 Try.underlying5 u.heap.size 0 1 1 [x] rfl (fun i hi => ?_) 9 Try.underlying9
    rw [Nat.zero_add, cell_at (one_new u _)]
    have : i = 0 := by omega
    subst this
    rfl
  generalize hn : xs.length = n at *
  have HN := Lib.hid hn
  clear hn
  go_enter Try.func13, Try.ntmps13
  go_wp2_with fail
  refine (rcheck_any w _ xs HR.out).mono ?_
  rintro e w1 ⟨rfl, hb1⟩
  have HB1 := Lib.hid hb1
  clear hb1
  by_cases hck : chk xs = 0
  · have HCK := Lib.hid hck
    have hfew := chk_few hck
    rw [HN.out] at hfew
    have hne : (chk xs != 0) = false := by rw [hck]; rfl
    clear hck
    go_wp2_with fail
    have H0 : Hid (strOfNums [(n : Int)] = strOfNums (preL xs 0)) := by unfold Hid preL; rw [HN.out]; rfl
    go_loopg [5, 6] n (fun gh v i wr => ∃ k : Nat, k ≤ n ∧ gh = n - k ∧ i = .int .i64 k ∧ v = .string (strOfNums (preL xs k)) ∧ Below w.heap.size w wr)
    case atStart => exact ⟨0, Nat.zero_le _, rfl, rfl, by rw [← H0.out], HB1.out.alloc HB1.out.size _⟩
    case round =>
      obtain ⟨k, hk, hgk, rfl, rfl, hb⟩ := hrel
      have HG := Lib.hid hgk
      have HB := Lib.hid hb
      clear hgk hb H0 HB1
      by_cases hlt : k < n
      · obtain ⟨p0, p1, p2, p3⟩ := HC.out k hlt
        have c0 := (HB.out.cell (p := ⟨g, _, none⟩) hg).trans p0
        have c1 := (HB.out.cell (p := ⟨g, _, none⟩) hg).trans p1
        have c2 := (HB.out.cell (p := ⟨g, _, none⟩) hg).trans p2
        have c3 := (HB.out.cell (p := ⟨g, _, none⟩) hg).trans p3
        have HX : Hid (encIt (xs.getD k it0) = (xs.getD k it0).k :: (wordL (xs.getD k it0).a ++ wordL (xs.getD k it0).b ++ wordL (xs.getD k it0).c)) := rfl
        clear p0 p1 p2 p3
        generalize (xs.getD k it0).k = kk at *
        generalize (xs.getD k it0).a = a at *
        generalize (xs.getD k it0).b = b at *
        generalize (xs.getD k it0).c = c at *
        go_upto_region 9 with fail
        have HPS : Hid (preL xs (k + 1) = preL xs k ++ (kk :: (wordL a ++ wordL b ++ wordL c))) := by
          unfold Hid
          rw [preL_succ xs k (by rw [HN.out]; exact hlt), HX.out]
        have H9 : Hid (S9 w (wr.alloc (.cells #[.int .u8 kk, .int .i64 a, .int .i64 b, .int .i64 c] 45)).drew wr.heap.size kk a b c) :=
          ⟨by show _ < (wr.alloc _).heap.size; rw [alloc_size]; omega, (HB.out.alloc HB.out.size _).drew, cell_at (one_new wr _) 0, cell_at (one_new wr _) 1, cell_at (one_new wr _) 2, cell_at (one_new wr _) 3⟩
        have hcvk : ∀ (W : World) (B : Nat), W.cell? ⟨B, 0, none⟩ = some (.int .u8 kk) → (convert 61 9 (.slice (some ⟨B, 0, none⟩) 1 1)).run Try.prog W = .ok (.string (strOfNums [kk])) W := by
          intro W B hB
          refine run_convert_bytes_arg (P := Try.prog) _ 61 5 Try.underlying61 Try.underlying5 B 0 1 1 [kk] rfl (fun i hi => ?_) 9 Try.underlying9
          have : i = 0 := by omega
          subst this
          exact hB
        have HPS : Hid (preL xs (k + 1) = preL xs k ++ (kk :: (wordL a ++ wordL b ++ wordL c))) := by
          unfold Hid
          rw [preL_succ xs k (by rw [HN.out]; exact hlt), HX.out]
        clear hcv
        have z0 : (strOfNums (preL xs k)).size ≤ 1000 := by rw [strOfNums_size, preL_len xs k (by rw [HN.out]; omega)]; omega
        have z1 : (strOfNums [kk]).size = 1 := strOfNums_size _
        have z2 : (strOfNums (wordL a)).size = 4 := strOfNums_size _
        have z3 : (strOfNums (wordL b)).size = 4 := strOfNums_size _
        have z4 : (strOfNums (wordL c)).size = 4 := strOfNums_size _
        refine wp_region_fr ds9 (I9 w (strOfNums (preL xs k)) wr.heap.size kk a b c) (by kernel_rfl) ⟨rfl, H9.out, fun i hi hl => ?_, fun _ => rfl, fun hl => ?_⟩ ?_ ?_
        · have : (Array.replicate 19 false).getD i false = false := by simp [hi]
          exact absurd (this ▸ hl) (by decide)
        · exact absurd hl (by decide)
        · intro listed g u i hI hi K hK
          have hlt19 := ready_lt hi
          have hcases : i = 0 ∨ i = 1 ∨ i = 2 ∨ i = 3 ∨ i = 4 ∨ i = 5 ∨ i = 6 ∨ i = 7 ∨ i = 8 ∨ i = 9 ∨ i = 10 ∨ i = 11 ∨ i = 12 ∨ i = 13 ∨ i = 14 ∨ i = 15 ∨ i = 16 ∨ i = 17 ∨ i = 18 := by
            have : i < 19 := hlt19
            omega
          clear hlt19
          rcases hcases with rfl | rfl | rfl | rfl | rfl | rfl | rfl | rfl | rfl | rfl | rfl | rfl | rfl | rfl | rfl | rfl | rfl | rfl | rfl
          · have e5 := hI.first (mem_ready.1 hi).1
            refine wpOp_step rfl (fun K hK' => ?_)
            simp only [Fr, ds9, List.foldl_cons, List.foldl_nil, Act.put, List.setIfInBounds_toArray, List.set_cons_zero, List.set_cons_succ]
            go_simp
            refine hK' _ _ ?_
            have h9 := hK _ _ (hI.step (Below.refl _ _) 0 (by decide) (.string (strOfNums (preL xs k))) rfl (fun h => absurd h (by decide)))
            simp only [Fr, ds9, List.foldl_cons, List.foldl_nil, Act.put, List.setIfInBounds_toArray, List.set_cons_zero, List.set_cons_succ, putS, slot9, reduceIte, Nat.reduceEqDiff, Nat.reduceAdd, e5] at h9
            exact h9
          · refine wpOp_step rfl (fun K hK' => ?_)
            simp only [Fr, ds9, List.foldl_cons, List.foldl_nil, Act.put, List.setIfInBounds_toArray, List.set_cons_zero, List.set_cons_succ]
            go_simp
            refine hK' _ _ ?_
            have h9 := hK _ _ (hI.step (Below.refl _ _) 1 (by decide) (.pointer (some ⟨wr.heap.size, 0, none⟩)) rfl (fun h => absurd h (by decide)))
            simp only [Fr, ds9, List.foldl_cons, List.foldl_nil, Act.put, List.setIfInBounds_toArray, List.set_cons_zero, List.set_cons_succ, putS, slot9, reduceIte, Nat.reduceEqDiff, Nat.reduceAdd] at h9
            exact h9
          · have e1 := hI.val 1 (by decide) (ready_dep hi (by kernel_rfl))
            simp only [V9, slot9, reduceIte, Nat.reduceEqDiff, Nat.reduceAdd] at e1
            refine wpOp_step rfl (fun K hK' => ?_)
            simp only [Fr, ds9, List.foldl_cons, List.foldl_nil, Act.put, List.setIfInBounds_toArray, List.set_cons_zero, List.set_cons_succ]
            have hc := hI.st.c0
            go_simp
            refine hK' _ _ ?_
            have h9 := hK _ _ (hI.step (Below.refl _ _) 2 (by decide) (.int .u8 kk) rfl (fun h => absurd h (by decide)))
            simp only [Fr, ds9, List.foldl_cons, List.foldl_nil, Act.put, List.setIfInBounds_toArray, List.set_cons_zero, List.set_cons_succ, putS, slot9, reduceIte, Nat.reduceEqDiff, Nat.reduceAdd, e1] at h9
            exact h9
          · have e2 := hI.val 2 (by decide) (ready_dep hi (by kernel_rfl))
            simp only [V9, slot9, reduceIte, Nat.reduceEqDiff, Nat.reduceAdd] at e2
            refine wpOp_step rfl (fun K hK' => ?_)
            simp only [Fr, ds9, List.foldl_cons, List.foldl_nil, Act.put, List.setIfInBounds_toArray, List.set_cons_zero, List.set_cons_succ]
            go_simp
            refine hK' _ _ ?_
            have h9 := hK _ _ (hI.step (below_alloc1 u (.cells #[.int .u8 kk] 5)) 3 (by decide) (.slice (some ⟨u.heap.size, 0, none⟩) 1 1) ⟨u.heap.size, rfl, cell_at (one_new u _) 0⟩ (fun h => absurd h (by decide)))
            simp only [Fr, ds9, List.foldl_cons, List.foldl_nil, Act.put, List.setIfInBounds_toArray, List.set_cons_zero, List.set_cons_succ, putS, slot9, reduceIte, Nat.reduceEqDiff, Nat.reduceAdd, e2] at h9
            exact h9
          · obtain ⟨B, e3, hB⟩ := hI.val 3 (by decide) (ready_dep hi (by kernel_rfl))
            simp only [slot9, reduceIte, Nat.reduceEqDiff, Nat.reduceAdd] at e3
            refine wpOp_step rfl (fun K hK' => ?_)
            simp only [Fr, ds9, List.foldl_cons, List.foldl_nil, Act.put, List.setIfInBounds_toArray, List.set_cons_zero, List.set_cons_succ]
            have hcv1 := hcvk u B hB
            go_simp
            refine hK' _ _ ?_
            have h9 := hK _ _ (hI.step (Below.refl _ _) 4 (by decide) (.string (strOfNums [kk])) rfl (fun h => absurd h (by decide)))
            simp only [Fr, ds9, List.foldl_cons, List.foldl_nil, Act.put, List.setIfInBounds_toArray, List.set_cons_zero, List.set_cons_succ, putS, slot9, reduceIte, Nat.reduceEqDiff, Nat.reduceAdd, e3] at h9
            exact h9
          · have e0 := hI.val 0 (by decide) (ready_dep hi (by kernel_rfl))
            simp only [V9, slot9, reduceIte, Nat.reduceEqDiff, Nat.reduceAdd] at e0
            have e4 := hI.val 4 (by decide) (ready_dep hi (by kernel_rfl))
            simp only [V9, slot9, reduceIte, Nat.reduceEqDiff, Nat.reduceAdd] at e4
            refine wpOp_step rfl (fun K hK' => ?_)
            simp only [Fr, ds9, List.foldl_cons, List.foldl_nil, Act.put, List.setIfInBounds_toArray, List.set_cons_zero, List.set_cons_succ]
            have hadd := run_string_add_sum (P := Try.prog) u (strOfNums (preL xs k)) (strOfNums [kk]) (by (try simp only [ByteArray.size_append]); omega)
            go_simp
            refine hK' _ _ ?_
            have h9 := hK _ _ (hI.step (Below.refl _ _) 5 (by decide) (.string (strOfNums (preL xs k) ++ strOfNums [kk])) rfl (fun h => absurd h (by decide)))
            simp only [Fr, ds9, List.foldl_cons, List.foldl_nil, Act.put, List.setIfInBounds_toArray, List.set_cons_zero, List.set_cons_succ, putS, slot9, reduceIte, Nat.reduceEqDiff, Nat.reduceAdd, e0, e4] at h9
            exact h9
          · refine wpOp_step rfl (fun K hK' => ?_)
            simp only [Fr, ds9, List.foldl_cons, List.foldl_nil, Act.put, List.setIfInBounds_toArray, List.set_cons_zero, List.set_cons_succ]
            go_simp
            refine hK' _ _ ?_
            have h9 := hK _ _ (hI.step (Below.refl _ _) 6 (by decide) (.pointer (some ⟨wr.heap.size, 1, none⟩)) rfl (fun h => absurd h (by decide)))
            simp only [Fr, ds9, List.foldl_cons, List.foldl_nil, Act.put, List.setIfInBounds_toArray, List.set_cons_zero, List.set_cons_succ, putS, slot9, reduceIte, Nat.reduceEqDiff, Nat.reduceAdd] at h9
            exact h9
          · have e6 := hI.val 6 (by decide) (ready_dep hi (by kernel_rfl))
            simp only [V9, slot9, reduceIte, Nat.reduceEqDiff, Nat.reduceAdd] at e6
            refine wpOp_step rfl (fun K hK' => ?_)
            simp only [Fr, ds9, List.foldl_cons, List.foldl_nil, Act.put, List.setIfInBounds_toArray, List.set_cons_zero, List.set_cons_succ]
            have hc := hI.st.c1
            go_simp
            refine hK' _ _ ?_
            have h9 := hK _ _ (hI.step (Below.refl _ _) 7 (by decide) (.int .i64 a) rfl (fun h => absurd h (by decide)))
            simp only [Fr, ds9, List.foldl_cons, List.foldl_nil, Act.put, List.setIfInBounds_toArray, List.set_cons_zero, List.set_cons_succ, putS, slot9, reduceIte, Nat.reduceEqDiff, Nat.reduceAdd, e6] at h9
            exact h9
          · have e7 := hI.val 7 (by decide) (ready_dep hi (by kernel_rfl))
            simp only [V9, slot9, reduceIte, Nat.reduceEqDiff, Nat.reduceAdd] at e7
            refine wpOp_step rfl (fun K hK' => ?_)
            simp only [Fr, ds9, List.foldl_cons, List.foldl_nil, Act.put, List.setIfInBounds_toArray, List.set_cons_zero, List.set_cons_succ]
            go_simp
            refine (word_any _ _).mono ?_
            rintro e w' ⟨rfl, hb'⟩
            refine hK' _ _ ?_
            have h9 := hK _ _ (hI.step hb' 8 (by decide) (.string (strOfNums (wordL a))) rfl (fun h => absurd h (by decide)))
            simp only [Fr, ds9, List.foldl_cons, List.foldl_nil, Act.put, List.setIfInBounds_toArray, List.set_cons_zero, List.set_cons_succ, putS, slot9, reduceIte, Nat.reduceEqDiff, Nat.reduceAdd, e7] at h9
            exact h9
          · have e5 := hI.val 5 (by decide) (ready_dep hi (by kernel_rfl))
            simp only [V9, slot9, reduceIte, Nat.reduceEqDiff, Nat.reduceAdd] at e5
            have e8 := hI.val 8 (by decide) (ready_dep hi (by kernel_rfl))
            simp only [V9, slot9, reduceIte, Nat.reduceEqDiff, Nat.reduceAdd] at e8
            refine wpOp_step rfl (fun K hK' => ?_)
            simp only [Fr, ds9, List.foldl_cons, List.foldl_nil, Act.put, List.setIfInBounds_toArray, List.set_cons_zero, List.set_cons_succ]
            have hadd := run_string_add_sum (P := Try.prog) u (strOfNums (preL xs k) ++ strOfNums [kk]) (strOfNums (wordL a)) (by (try simp only [ByteArray.size_append]); omega)
            go_simp
            refine hK' _ _ ?_
            have h9 := hK _ _ (hI.step (Below.refl _ _) 9 (by decide) (.string (strOfNums (preL xs k) ++ strOfNums [kk] ++ strOfNums (wordL a))) rfl (fun h => absurd h (by decide)))
            simp only [Fr, ds9, List.foldl_cons, List.foldl_nil, Act.put, List.setIfInBounds_toArray, List.set_cons_zero, List.set_cons_succ, putS, slot9, reduceIte, Nat.reduceEqDiff, Nat.reduceAdd, e5, e8] at h9
            exact h9
          · refine wpOp_step rfl (fun K hK' => ?_)
            simp only [Fr, ds9, List.foldl_cons, List.foldl_nil, Act.put, List.setIfInBounds_toArray, List.set_cons_zero, List.set_cons_succ]
            go_simp
            refine hK' _ _ ?_
            have h9 := hK _ _ (hI.step (Below.refl _ _) 10 (by decide) (.pointer (some ⟨wr.heap.size, 2, none⟩)) rfl (fun h => absurd h (by decide)))
            simp only [Fr, ds9, List.foldl_cons, List.foldl_nil, Act.put, List.setIfInBounds_toArray, List.set_cons_zero, List.set_cons_succ, putS, slot9, reduceIte, Nat.reduceEqDiff, Nat.reduceAdd] at h9
            exact h9
          · have e10 := hI.val 10 (by decide) (ready_dep hi (by kernel_rfl))
            simp only [V9, slot9, reduceIte, Nat.reduceEqDiff, Nat.reduceAdd] at e10
            refine wpOp_step rfl (fun K hK' => ?_)
            simp only [Fr, ds9, List.foldl_cons, List.foldl_nil, Act.put, List.setIfInBounds_toArray, List.set_cons_zero, List.set_cons_succ]
            have hc := hI.st.c2
            go_simp
            refine hK' _ _ ?_
            have h9 := hK _ _ (hI.step (Below.refl _ _) 11 (by decide) (.int .i64 b) rfl (fun h => absurd h (by decide)))
            simp only [Fr, ds9, List.foldl_cons, List.foldl_nil, Act.put, List.setIfInBounds_toArray, List.set_cons_zero, List.set_cons_succ, putS, slot9, reduceIte, Nat.reduceEqDiff, Nat.reduceAdd, e10] at h9
            exact h9
          · have e11 := hI.val 11 (by decide) (ready_dep hi (by kernel_rfl))
            simp only [V9, slot9, reduceIte, Nat.reduceEqDiff, Nat.reduceAdd] at e11
            refine wpOp_step rfl (fun K hK' => ?_)
            simp only [Fr, ds9, List.foldl_cons, List.foldl_nil, Act.put, List.setIfInBounds_toArray, List.set_cons_zero, List.set_cons_succ]
            go_simp
            refine (word_any _ _).mono ?_
            rintro e w' ⟨rfl, hb'⟩
            refine hK' _ _ ?_
            have h9 := hK _ _ (hI.step hb' 12 (by decide) (.string (strOfNums (wordL b))) rfl (fun h => absurd h (by decide)))
            simp only [Fr, ds9, List.foldl_cons, List.foldl_nil, Act.put, List.setIfInBounds_toArray, List.set_cons_zero, List.set_cons_succ, putS, slot9, reduceIte, Nat.reduceEqDiff, Nat.reduceAdd, e11] at h9
            exact h9
          · have e9 := hI.val 9 (by decide) (ready_dep hi (by kernel_rfl))
            simp only [V9, slot9, reduceIte, Nat.reduceEqDiff, Nat.reduceAdd] at e9
            have e12 := hI.val 12 (by decide) (ready_dep hi (by kernel_rfl))
            simp only [V9, slot9, reduceIte, Nat.reduceEqDiff, Nat.reduceAdd] at e12
            refine wpOp_step rfl (fun K hK' => ?_)
            simp only [Fr, ds9, List.foldl_cons, List.foldl_nil, Act.put, List.setIfInBounds_toArray, List.set_cons_zero, List.set_cons_succ]
            have hadd := run_string_add_sum (P := Try.prog) u (strOfNums (preL xs k) ++ strOfNums [kk] ++ strOfNums (wordL a)) (strOfNums (wordL b)) (by (try simp only [ByteArray.size_append]); omega)
            go_simp
            refine hK' _ _ ?_
            have h9 := hK _ _ (hI.step (Below.refl _ _) 13 (by decide) (.string (strOfNums (preL xs k) ++ strOfNums [kk] ++ strOfNums (wordL a) ++ strOfNums (wordL b))) rfl (fun h => absurd h (by decide)))
            simp only [Fr, ds9, List.foldl_cons, List.foldl_nil, Act.put, List.setIfInBounds_toArray, List.set_cons_zero, List.set_cons_succ, putS, slot9, reduceIte, Nat.reduceEqDiff, Nat.reduceAdd, e9, e12] at h9
            exact h9
          · refine wpOp_step rfl (fun K hK' => ?_)
            simp only [Fr, ds9, List.foldl_cons, List.foldl_nil, Act.put, List.setIfInBounds_toArray, List.set_cons_zero, List.set_cons_succ]
            go_simp
            refine hK' _ _ ?_
            have h9 := hK _ _ (hI.step (Below.refl _ _) 14 (by decide) (.pointer (some ⟨wr.heap.size, 3, none⟩)) rfl (fun h => absurd h (by decide)))
            simp only [Fr, ds9, List.foldl_cons, List.foldl_nil, Act.put, List.setIfInBounds_toArray, List.set_cons_zero, List.set_cons_succ, putS, slot9, reduceIte, Nat.reduceEqDiff, Nat.reduceAdd] at h9
            exact h9
          · have e14 := hI.val 14 (by decide) (ready_dep hi (by kernel_rfl))
            simp only [V9, slot9, reduceIte, Nat.reduceEqDiff, Nat.reduceAdd] at e14
            refine wpOp_step rfl (fun K hK' => ?_)
            simp only [Fr, ds9, List.foldl_cons, List.foldl_nil, Act.put, List.setIfInBounds_toArray, List.set_cons_zero, List.set_cons_succ]
            have hc := hI.st.c3
            go_simp
            refine hK' _ _ ?_
            have h9 := hK _ _ (hI.step (Below.refl _ _) 15 (by decide) (.int .i64 c) rfl (fun h => absurd h (by decide)))
            simp only [Fr, ds9, List.foldl_cons, List.foldl_nil, Act.put, List.setIfInBounds_toArray, List.set_cons_zero, List.set_cons_succ, putS, slot9, reduceIte, Nat.reduceEqDiff, Nat.reduceAdd, e14] at h9
            exact h9
          · have e15 := hI.val 15 (by decide) (ready_dep hi (by kernel_rfl))
            simp only [V9, slot9, reduceIte, Nat.reduceEqDiff, Nat.reduceAdd] at e15
            refine wpOp_step rfl (fun K hK' => ?_)
            simp only [Fr, ds9, List.foldl_cons, List.foldl_nil, Act.put, List.setIfInBounds_toArray, List.set_cons_zero, List.set_cons_succ]
            go_simp
            refine (word_any _ _).mono ?_
            rintro e w' ⟨rfl, hb'⟩
            refine hK' _ _ ?_
            have h9 := hK _ _ (hI.step hb' 16 (by decide) (.string (strOfNums (wordL c))) rfl (fun h => absurd h (by decide)))
            simp only [Fr, ds9, List.foldl_cons, List.foldl_nil, Act.put, List.setIfInBounds_toArray, List.set_cons_zero, List.set_cons_succ, putS, slot9, reduceIte, Nat.reduceEqDiff, Nat.reduceAdd, e15] at h9
            exact h9
          · have e13 := hI.val 13 (by decide) (ready_dep hi (by kernel_rfl))
            simp only [V9, slot9, reduceIte, Nat.reduceEqDiff, Nat.reduceAdd] at e13
            have e16 := hI.val 16 (by decide) (ready_dep hi (by kernel_rfl))
            simp only [V9, slot9, reduceIte, Nat.reduceEqDiff, Nat.reduceAdd] at e16
            refine wpOp_step rfl (fun K hK' => ?_)
            simp only [Fr, ds9, List.foldl_cons, List.foldl_nil, Act.put, List.setIfInBounds_toArray, List.set_cons_zero, List.set_cons_succ]
            have hadd := run_string_add_sum (P := Try.prog) u (strOfNums (preL xs k) ++ strOfNums [kk] ++ strOfNums (wordL a) ++ strOfNums (wordL b)) (strOfNums (wordL c)) (by (try simp only [ByteArray.size_append]); omega)
            go_simp
            refine hK' _ _ ?_
            have h9 := hK _ _ (hI.step (Below.refl _ _) 17 (by decide) (.string (strOfNums (preL xs k) ++ strOfNums [kk] ++ strOfNums (wordL a) ++ strOfNums (wordL b) ++ strOfNums (wordL c))) rfl (fun h => absurd h (by decide)))
            simp only [Fr, ds9, List.foldl_cons, List.foldl_nil, Act.put, List.setIfInBounds_toArray, List.set_cons_zero, List.set_cons_succ, putS, slot9, reduceIte, Nat.reduceEqDiff, Nat.reduceAdd, e13, e16] at h9
            exact h9
          · have e17 := hI.val 17 (by decide) (ready_dep hi (by kernel_rfl))
            simp only [V9, slot9, reduceIte, Nat.reduceEqDiff, Nat.reduceAdd] at e17
            refine wpOp_step rfl (fun K hK' => ?_)
            simp only [Fr, ds9, List.foldl_cons, List.foldl_nil, Act.put, List.setIfInBounds_toArray, List.set_cons_zero, List.set_cons_succ]
            go_simp
            refine hK' _ _ ?_
            have h9 := hK _ _ (hI.step (Below.refl _ _) 18 (by decide) (.string (strOfNums (preL xs k) ++ strOfNums [kk] ++ strOfNums (wordL a) ++ strOfNums (wordL b) ++ strOfNums (wordL c))) rfl (fun _ => ready_dep hi (by kernel_rfl)))
            simp only [Fr, ds9, List.foldl_cons, List.foldl_nil, Act.put, List.setIfInBounds_toArray, List.set_cons_zero, List.set_cons_succ, putS, slot9, reduceIte, Nat.reduceEqDiff, Nat.reduceAdd, e17] at h9
            exact h9
        · intro listed g u hI hr
          have hall := all_listed (by kernel_rfl) hr
          have hL : ∀ i, i < 19 → listed.getD i false = true := fun i hi => by
            have h1 := hall i hi
            have hs := hI.size
            simp [hs, hi] at h1 ⊢
            exact h1
          have e5 := hI.val 18 (by decide) (hL 18 (by decide))
          have HA9 : Hid (After9 w xs k (.string (strOfNums (preL xs k) ++ strOfNums [kk] ++ strOfNums (wordL a) ++ strOfNums (wordL b) ++ strOfNums (wordL c))) u) := by
            refine ⟨?_, hI.st.below⟩
            rw [str_append, str_append, str_append, str_append, HPS.out]
            simp
          simp only [V9, slot9, reduceIte] at e5
          clear hI hL hall hr
          simp only [Fr, ds9, List.foldl_cons, List.foldl_nil, Act.put, List.setIfInBounds_toArray, List.set_cons_zero, List.set_cons_succ, e5]
          go_wp2_with fail
          go_roundg (n - (k + 1))
          case measure => have := HG.out; omega
          case rel => exact ⟨k + 1, by omega, rfl, by go_num, HA9.out.1, HA9.out.2⟩
      · obtain rfl : k = n := by omega
        have HF : Hid (EncPost w xs (.returned (.tuple #[.string (strOfNums (preL xs k)), .int .i64 0])) wr) := by
          have := preL_all xs
          rw [HN.out] at this
          refine ⟨?_, HB.out⟩
          unfold enc
          rw [if_pos HCK.out, HCK.out, this]
        generalize preL xs k = pl at *
        go_wp2_with fail
        go_ret2
        exact HF.out
  · have HF : Hid (EncPost w xs (.returned (.tuple #[.string ByteArray.empty, .int .i64 (chk xs)])) w1) := ⟨by unfold enc; rw [if_neg hck], HB1.out⟩
    have hne : (chk xs != 0) = true := by rw [bne_iff_ne]; exact hck
    clear hck
    generalize chk xs = c at *
    go_wp2_with fail
    go_ret2
    exact HF.out
set_option maxRecDepth 100000 in
set_option maxHeartbeats 1000000 in
theorem rencode_none (w : World) (A : Option Addr) (cap : Nat) (hr : IR w (.slice A 0 cap) []) : Calls Try.prog 13 #[.slice A 0 cap] w (EncPost w []) := by
  have HR := Lib.hid hr
  clear hr
  have hcv : ∀ u : World, (convert 61 9 (.slice (some ⟨u.heap.size, 0, none⟩) 1 1)).run Try.prog (u.alloc (.cells #[.int .u8 0] 5)) = .ok (.string (strOfNums [0])) (u.alloc (.cells #[.int .u8 0] 5)) := by
    intro u
    refine run_convert_bytes_arg (P := Try.prog) _ 61 5 Try.underlying61 Try.underlying5 u.heap.size 0 1 1 [0] rfl (fun i hi => ?_) 9 Try.underlying9
    rw [Nat.zero_add, cell_at (one_new u _)]
    have : i = 0 := by omega
    subst this
    rfl
  go_enter Try.func13, Try.ntmps13
  go_wp2_with fail
  refine (rcheck_any w _ [] HR.out).mono ?_
  rintro e w1 ⟨rfl, hb1⟩
  have HF : Hid (EncPost w [] (.returned (.tuple #[.string (strOfNums [0]), .int .i64 0])) (w1.alloc (.cells #[.int .u8 0] 5))) := ⟨rfl, hb1.alloc hb1.size _⟩
  rw [show chk [] = 0 from rfl]
  clear hb1
  go_wp2_with fail
  go_loop [5, 6] (fun v i => v = .string (strOfNums [0]) ∧ i = .int .i64 0) (fun _ _ => 0)
  case atStart => exact ⟨rfl, rfl⟩
  case round =>
    obtain ⟨rfl, rfl⟩ := hrel
    go_wp2_with fail
    go_ret2
    exact HF.out
theorem rencode_any (w : World) (v : Value) (xs : List It) (h : IR w v xs) : Calls Try.prog 13 #[v] w (EncPost w xs) := by
  rcases h.at with ⟨rfl, A, cap, rfl⟩ | ⟨g, off, cap, rfl, hg, hc⟩
  · exact rencode_none w A cap h
  · exact rencode_some w xs g off cap hg hc h
end Go.Proofs.Ytkgenhoaeiihoaa
