/- What is written is read again, and what is read was written so: plain laws. No program in sight. -/
import Derived.Test.YtkgenhoaeiihoaaEnc
import Derived.Test.YtkgenhoaeiihoaaDec
import Derived.Test.YtkgenhoaeiihoaaInv
namespace Go.Proofs.Ytkgenhoaeiihoaa
open Go.RowKit

theorem bt_str (l : List Int) (i : Nat) (h : i < l.length) (hb : 0 ≤ l.getD i 0 ∧ l.getD i 0 ≤ 255) : bt (strOfNums l) i = l.getD i 0 := by
  have hs : i < (strOfNums l).size := by rw [strOfNums_size]; exact h
  rw [bt_eq _ _ hs]
  have e : (strOfNums l)[i] = UInt8.ofNat (l.getD i 0).toNat := by
    show (strOfNums l).data[i] = _
    have : (strOfNums l).data.toList[i]'(by simpa [strOfNums] using h) = UInt8.ofNat (l.getD i 0).toNat := by
      simp only [strOfNums_data, List.getElem_map]
      rw [List.getD_eq_getElem?_getD, List.getElem?_eq_getElem h]
      rfl
    rw [← this]
    rfl
  rw [e]
  generalize l.getD i 0 = x at *
  have : (UInt8.ofNat x.toNat).toNat = x.toNat := by
    simp
    omega
  rw [this]
  omega
theorem encL_len (xs : List It) : (encL xs).length = 1 + 13 * xs.length := by
  unfold encL
  rw [List.length_cons, flat_len encIt_len]
  omega
theorem encL_at (xs : List It) (i j : Nat) (hj : j < 13) (hi : i < xs.length) : (encL xs).getD (1 + 13 * i + j) 0 = (encIt (xs.getD i it0)).getD j 0 := by
  unfold encL
  have h := flat_get encIt_len xs i j hj
  rw [List.getD_eq_getElem?_getD, show 1 + 13 * i + j = (i * 13 + j) + 1 by omega, List.getElem?_cons_succ, h, List.getElem?_eq_getElem hi, List.getD_eq_getElem?_getD, List.getD_eq_getElem?_getD, List.getElem?_eq_getElem hi]
  rfl
theorem right_kind {x : It} (h : rightB x = true) : 1 ≤ x.k ∧ x.k ≤ 7 := by
  unfold rightB at h
  by_cases h1 : x.k = 1
  · omega
  · rw [if_neg h1] at h
    by_cases h2 : x.k = 2
    · omega
    · rw [if_neg h2] at h
      by_cases h3 : x.k = 3
      · omega
      · rw [if_neg h3] at h
        by_cases h4 : x.k = 4
        · omega
        · rw [if_neg h4] at h
          by_cases h5 : x.k = 5
          · omega
          · rw [if_neg h5] at h
            by_cases h6 : x.k = 6 ∨ x.k = 7
            · omega
            · rw [if_neg h6] at h
              cases h
theorem ok_small {n : Int} {x : It} (h : badAt n x = 0) (hn : n ≤ 64) : (-2147483648 ≤ x.a ∧ x.a < 2147483648) ∧ (-2147483648 ≤ x.b ∧ x.b < 2147483648) ∧ (-2147483648 ≤ x.c ∧ x.c < 2147483648) := by
  obtain ⟨hr, hj⟩ := badAt_ok h
  have hk := right_kind hr
  unfold rightB at hr
  have : x.k = 1 ∨ x.k = 2 ∨ x.k = 3 ∨ x.k = 4 ∨ x.k = 5 ∨ x.k = 6 ∨ x.k = 7 := by omega
  rcases this with hh | hh | hh | hh | hh | hh | hh <;> rw [hh] at hr hj <;> simp at hr hj <;> omega
theorem encIt_lo {x : It} (h : 0 ≤ x.k ∧ x.k ≤ 255) (j : Nat) (hj : j < 13) : 0 ≤ (encIt x).getD j 0 ∧ (encIt x).getD j 0 ≤ 255 := by
  have hm : (encIt x).getD j 0 ∈ encIt x := by
    rw [List.getD_eq_getElem?_getD, List.getElem?_eq_getElem (by rw [encIt_len]; exact hj)]
    exact List.getElem_mem _
  unfold encIt at hm ⊢
  rcases List.mem_cons.1 hm with hm | hm
  · rw [hm]; exact h
  · rcases List.mem_append.1 hm with hm | hm
    · rcases List.mem_append.1 hm with hm | hm
      · exact word_lo _ _ hm
      · exact word_lo _ _ hm
    · exact word_lo _ _ hm
theorem item_enc (xs : List It) (i : Nat) (hi : i < xs.length) (h64 : xs.length ≤ 64) (hb : badAt xs.length (xs.getD i it0) = 0) : itemAt (strOfNums (encL xs)) i = xs.getD i it0 := by
  have hk := right_kind (badAt_ok hb).1
  obtain ⟨ha, hb2, hc⟩ := ok_small hb (by omega)
  have hbt : ∀ j, j < 13 → bt (strOfNums (encL xs)) (1 + 13 * i + j) = (encIt (xs.getD i it0)).getD j 0 := fun j hj => by
    have hl := encIt_lo (x := xs.getD i it0) (by omega) j hj
    rw [bt_str _ _ (by rw [encL_len]; omega) (by rw [encL_at xs i j hj hi]; exact hl), encL_at xs i j hj hi]
  unfold itemAt numAt
  generalize xs.getD i it0 = x at *
  have h0 := hbt 0 (by omega)
  rw [Nat.add_zero] at h0
  simp only [Nat.add_assoc] at *
  rw [h0, hbt 1 (by omega), hbt (1 + 1) (by omega), hbt (1 + 2) (by omega), hbt (1 + 3) (by omega), hbt 5 (by omega), hbt (5 + 1) (by omega), hbt (5 + 2) (by omega), hbt (5 + 3) (by omega), hbt 9 (by omega), hbt (9 + 1) (by omega), hbt (9 + 2) (by omega), hbt (9 + 3) (by omega)]
  have e1 := num_word x.a ha
  have e2 := num_word x.b hb2
  have e3 := num_word x.c hc
  show It.mk x.k (num (x.a / 16777216 % 256) (x.a / 65536 % 256) (x.a / 256 % 256) (x.a % 256)) (num (x.b / 16777216 % 256) (x.b / 65536 % 256) (x.b / 256 % 256) (x.b % 256)) (num (x.c / 16777216 % 256) (x.c / 65536 % 256) (x.c / 256 % 256) (x.c % 256)) = x
  rw [e1, e2, e3]
theorem dec_enc {xs : List It} (h : chk xs = 0) : decC (strOfNums (encL xs)) = 0 ∧ decI (strOfNums (encL xs)) = xs := by
  obtain ⟨h64, hall⟩ := chk_all h
  have h0 : bt (strOfNums (encL xs)) 0 = xs.length := by
    rw [bt_str _ _ (by rw [encL_len]; omega) (by unfold encL; simp; omega)]
    rfl
  have hcn : cntOf (strOfNums (encL xs)) = xs.length := by unfold cntOf; rw [h0]; rfl
  have hs : (strOfNums (encL xs)).size = 1 + 13 * xs.length := by rw [strOfNums_size, encL_len]
  have hsz : sizedB (strOfNums (encL xs)) = true := by
    unfold sizedB
    rw [hs, h0]
    simp
    omega
  have hit : items (strOfNums (encL xs)) xs.length = xs := by
    refine List.ext_getElem (by rw [items_len]) fun i h1 h2 => ?_
    have e : xs.getD i it0 = xs[i] := by rw [List.getD_eq_getElem?_getD, List.getElem?_eq_getElem h2]; rfl
    rw [← e, ← item_enc xs i h2 h64 (hall _ (getD_mem h2))]
    simp [items]
  have hc : decC (strOfNums (encL xs)) = 0 := by
    unfold decC
    rw [if_pos hsz, hcn, hit, h]
  refine ⟨hc, ?_⟩
  unfold decI
  rw [if_pos hc, hcn, hit]
theorem enc_item (s : ByteArray) (i j : Nat) (hj : j < 13) : (encIt (itemAt s i)).getD j 0 = bt s (1 + 13 * i + j) := by
  have hw : ∀ a, wordL (numAt s a) = [bt s a, bt s (a + 1), bt s (a + 2), bt s (a + 3)] := fun a => word_num _ _ _ _ (bt_lo _ _) (bt_lo _ _) (bt_lo _ _) (bt_lo _ _)
  unfold encIt itemAt
  simp only [hw]
  have : j = 0 ∨ j = 1 ∨ j = 2 ∨ j = 3 ∨ j = 4 ∨ j = 5 ∨ j = 6 ∨ j = 7 ∨ j = 8 ∨ j = 9 ∨ j = 10 ∨ j = 11 ∨ j = 12 := by omega
  rcases this with rfl | rfl | rfl | rfl | rfl | rfl | rfl | rfl | rfl | rfl | rfl | rfl | rfl <;> rfl
theorem enc_dec {s : ByteArray} (h : decC s = 0) : chk (decI s) = 0 ∧ strOfNums (encL (decI s)) = s := by
  have hz : sizedB s = true := by
    unfold decC at h
    by_cases hz : sizedB s = true
    · exact hz
    · rw [if_neg hz] at h
      exact absurd h (by decide)
  have hi : decI s = items s (cntOf s) := by unfold decI; rw [if_pos h]
  have hc : chk (items s (cntOf s)) = 0 := by
    unfold decC at h
    rw [if_pos hz] at h
    exact h
  rw [hi]
  refine ⟨hc, ?_⟩
  unfold sizedB at hz
  simp only [Bool.and_eq_true, decide_eq_true_eq] at hz
  have hb0 := bt_lo s 0
  have hcn : (cntOf s : Int) = bt s 0 := by unfold cntOf; omega
  have hsz : s.size = 1 + 13 * cntOf s := by omega
  have hlen : (encL (items s (cntOf s))).length = 1 + 13 * cntOf s := by rw [encL_len, items_len]
  have hget : ∀ i, i < s.size → (encL (items s (cntOf s))).getD i 0 = bt s i := by
    intro i hi
    by_cases h0 : i = 0
    · subst h0
      unfold encL
      rw [items_len]
      exact hcn
    · have e : i = 1 + 13 * ((i - 1) / 13) + (i - 1) % 13 := by omega
      have hk : (i - 1) / 13 < (items s (cntOf s)).length := by rw [items_len]; omega
      rw [e, encL_at _ _ _ (Nat.mod_lt _ (by decide)) hk, ← enc_item s _ _ (Nat.mod_lt _ (by decide))]
      congr 2
      rw [List.getD_eq_getElem?_getD, List.getElem?_eq_getElem hk]
      simp [items]
  apply ByteArray.ext
  apply Array.ext
  · show (strOfNums _).size = s.size
    rw [strOfNums_size, hlen, hsz]
  · intro i h1 h2
    have hi : i < s.size := h2
    have hb := bt_str (encL (items s (cntOf s))) i (by rw [hlen]; omega) (by rw [hget i hi]; have := bt_lo s i; omega)
    rw [hget i hi, bt_eq _ i (by rw [strOfNums_size, hlen]; omega), bt_eq s i hi] at hb
    have h3 : (strOfNums (encL (items s (cntOf s))))[i]'(by rw [strOfNums_size, hlen]; omega) = s[i] := by
      apply UInt8.toNat_inj.1
      omega
    exact h3
end Go.Proofs.Ytkgenhoaeiihoaa
