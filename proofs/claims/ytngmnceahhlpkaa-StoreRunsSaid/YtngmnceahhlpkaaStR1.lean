/- What the document's small functions of a store answer: code, next, blank, size, record, Get, Active. Conditions: each number is of its kind, a text is no longer than may be. -/
import Derived.Test.YtngmnceahhlpkaaSP5
import Derived.Test.YtngmnceahhlpkaaRef4
namespace Go.Proofs.Ytngmnceahhlpkaa
open Go.RowKit
set_option maxRecDepth 100000 in
theorem code_any (w : World) (b : Nat) : Calls Try.prog 69 #[.int .u8 (b : Int)] w fun e w' => e = .returned (.bool (St.fol b).isSome) ∧ w = w' := by
  rcases fol_in b with rfl | rfl | rfl | ⟨h1, h2, h3⟩
  · go_enter Try.func69, Try.ntmps69
    go_wp2_with fail
    go_ret
    exact ⟨rfl, rfl⟩
  · go_enter Try.func69, Try.ntmps69
    go_wp2_with fail
    go_ret
    exact ⟨rfl, rfl⟩
  · go_enter Try.func69, Try.ntmps69
    go_wp2_with fail
    go_ret
    exact ⟨rfl, rfl⟩
  · have z1 : ((b : Int) == 15) = false := by rw [beq_eq_false_iff_ne]; omega
    have z2 : ((b : Int) == 51) = false := by rw [beq_eq_false_iff_ne]; omega
    have z3 : ((b : Int) == 85) = false := by rw [beq_eq_false_iff_ne]; omega
    have HN : Hid ((St.fol b).isSome = false) := by unfold Hid St.fol; rw [if_neg h1, if_neg h2, if_neg h3]; rfl
    clear h1 h2 h3
    rw [HN.out]
    go_enter Try.func69, Try.ntmps69
    go_wp2_with fail
    go_ret
    exact ⟨rfl, rfl⟩
set_option maxRecDepth 100000 in
theorem next_any (w : World) (b : Nat) (h : (St.fol b).isSome = true) : Calls Try.prog 72 #[.int .u8 (b : Int)] w fun e w' => e = .returned (.int .u8 (St.folC b : Int)) ∧ w = w' := by
  rcases fol_cases h with rfl | rfl | rfl
  · clear h
    go_enter Try.func72, Try.ntmps72
    go_wp2_with fail
    go_ret
    exact ⟨rfl, rfl⟩
  · clear h
    go_enter Try.func72, Try.ntmps72
    go_wp2_with fail
    go_ret
    exact ⟨rfl, rfl⟩
  · clear h
    go_enter Try.func72, Try.ntmps72
    go_wp2_with fail
    go_ret
    exact ⟨rfl, rfl⟩
set_option maxRecDepth 100000 in
theorem blank_any (w : World) (sec : ByteArray) (p : Nat) (_ : sec.size = 4096) (hp : p ≤ 4096) (b : Bool) (hb : b = true ↔ ∀ i, p ≤ i → i < 4096 → (bytes sec).getD i 0 = 255) :
    Calls Try.prog 73 #[.string sec, .int .i64 (p : Int)] w fun e w' => e = .returned (.bool b) ∧ w = w' := by
  have HB := Lib.hid hb
  rename_i hs
  clear hb
  go_enter Try.func73, Try.ntmps73
  go_wp2_with fail
  go_loopg [5] (4096 - p) (fun gh v wr => ∃ k : Nat, p ≤ k ∧ k ≤ 4096 ∧ gh = 4096 - k ∧ v = .int .i64 k ∧ wr = w ∧ Hid (∀ i, p ≤ i → i < k → (bytes sec).getD i 0 = 255))
  case atStart => exact ⟨p, Nat.le_refl _, hp, rfl, rfl, rfl, fun i h1 h2 => by omega⟩
  case round =>
    obtain ⟨k, hk1, hk2, hg, rfl, rfl, HA⟩ := hrel
    have HG := Lib.hid hg
    clear hg
    by_cases hlt : k < 4096
    · have hks : k < sec.size := by omega
      have hgd := bytes_get sec k hks
      by_cases h255 : (bytes sec).getD k 0 = 255
      · have hbq : ((sec[k].toNat : Int) == 255) = true := by rw [← hgd, h255]; rfl
        have hbn : ((sec[k].toNat : Int) != 255) = false := by
          show (!((sec[k].toNat : Int) == 255)) = false
          rw [hbq]
          rfl
        have HA2 : Hid (∀ i, p ≤ i → i < k + 1 → (bytes sec).getD i 0 = 255) := fun i h1 h2 => by
          by_cases hik : i = k
          · rw [hik]
            exact h255
          · exact HA.out i h1 (by omega)
        clear hgd h255 HA
        go_wp2_with fail
        go_roundg (4096 - (k + 1))
        case measure => have := HG.out; omega
        case rel => exact ⟨k + 1, by omega, by omega, rfl, by go_num, rfl, HA2⟩
      · have hbq : ((sec[k].toNat : Int) == 255) = false := by rw [← hgd, beq_eq_false_iff_ne]; omega
        have hbn : ((sec[k].toNat : Int) != 255) = true := by
          show (!((sec[k].toNat : Int) == 255)) = true
          rw [hbq]
          rfl
        have hbf : b = false := by
          cases b with
          | false => rfl
          | true => exact absurd (HB.out.1 rfl k hk1 hlt) h255
        subst hbf
        clear hgd h255 HA HB
        go_wp2_with fail
        (try simp only [Exit.inBlock, Exit.then])
        go_ret
        exact ⟨rfl, rfl⟩
    · have hbt : b = true := HB.out.2 (fun i h1 h2 => HA.out i h1 (by omega))
      have hns : ¬ k < sec.size := by omega
      subst hbt
      clear HB HA
      go_wp2_with fail
      (try simp only [Exit.inBlock, Exit.then])
      go_ret
      exact ⟨rfl, rfl⟩
/-- The document's Kept, as a value and as cells. -/
def rkC (k : Kept) (p : Nat) (d : Bool) : Array Value := #[.bool (St.is (k 0)), .bool (St.is (k 1)), .bool (St.is (k 2)), .string (St.txt (k 0)), .string (St.txt (k 1)), .string (St.txt (k 2)), .int .i64 (p : Int), .bool d]
def rkV (k : Kept) (p : Nat) (d : Bool) : Value := .agg (rkC k p d)
theorem rk_has {W : World} {b : Nat} {k : Kept} {p : Nat} {d : Bool} (h : W.heap[b]? = some (.cells (rkC k p d) 122)) (i : Nat) (hi : i < 3) :
    W.cell? ⟨b, i, none⟩ = some (.bool (St.is (k i))) ∧ W.cell? ⟨b, 3 + i, none⟩ = some (.string (St.txt (k i))) := by
  have hc : i = 0 ∨ i = 1 ∨ i = 2 := by omega
  rcases hc with rfl | rfl | rfl
  · exact ⟨cell_at h 0, cell_at h 3⟩
  · exact ⟨cell_at h 1, cell_at h 4⟩
  · exact ⟨cell_at h 2, cell_at h 5⟩
set_option maxRecDepth 100000 in
set_option maxHeartbeats 1000000 in
theorem rsize_any (w : World) (k : Kept) (p : Nat) (d : Bool) (hk : ∀ i t, k i = some t → t.size ≤ 2000) : Calls Try.prog 70 #[rkV k p d] w fun e w' => e = .returned (.int .i64 (St.all k : Int)) ∧ Below w.heap.size w w' := by
  have HK := Lib.hid hk
  have HX : Hid ((w.alloc (.cells (rkC k p d) 122)).heap[w.heap.size]? = some (.cells (rkC k p d) 122)) := heap_alloc_new w _
  have HB : Hid (Below w.heap.size w (w.alloc (.cells (rkC k p d) 122))) := below_alloc1 w _
  clear hk
  unfold rkV
  unfold rkC at HX HB ⊢
  go_enter Try.func70, Try.ntmps70
  go_wp2_with fail
  generalize (w.alloc (.cells #[.bool (St.is (k 0)), .bool (St.is (k 1)), .bool (St.is (k 2)), .string (St.txt (k 0)), .string (St.txt (k 1)), .string (St.txt (k 2)), .int .i64 (p : Int), .bool d] 122)) = w1 at *
  have HX1 : Hid (w1.heap[w.heap.size]? = some (.cells (rkC k p d) 122)) := HX.out
  clear HX
  generalize hxb : w.heap.size = xb at *
  go_loopg [4, 3] 3 (fun gh v sv wr => ∃ (n q : Nat), n ≤ 3 ∧ gh = 3 - n ∧ v = .int .i64 n ∧ sv = .int .i64 q ∧ (q : Int) ≤ 6100 ∧ wr = w1 ∧ Hid (q = St.pos k n ∧ q ≤ 1 + n * 2004))
  case atStart => exact ⟨0, 1, by omega, rfl, rfl, rfl, by omega, rfl, rfl, by omega⟩
  case round =>
    obtain ⟨n, q, hn, hg, rfl, rfl, hq, rfl, HP⟩ := hrel
    have HG := Lib.hid hg
    clear hg
    by_cases h3 : n < 3
    · have hlt : (n : Int) < 3 := by omega
      have hge : (0 : Int) ≤ (n : Int) := by omega
      have htn : ((n : Int)).toNat = n := Int.toNat_natCast n
      obtain ⟨c0, c1⟩ := rk_has HX1.out n h3
      cases hkn : k n with
      | none =>
        rw [hkn] at c0
        replace c0 : wr.cell? ⟨xb, n, none⟩ = some (.bool false) := c0
        have HP2 : Hid (q = St.pos k (n + 1) ∧ q ≤ 1 + (n + 1) * 2004) := ⟨by rw [St.pos, hkn, ← HP.out.1]; rfl, by have := HP.out.2; omega⟩
        clear hkn HP
        go_wp2_with fail
        go_roundg (3 - (n + 1))
        case measure => have := HG.out; omega
        case rel => exact ⟨n + 1, q, by omega, rfl, by go_num, rfl, hq, rfl, HP2⟩
      | some t =>
        rw [hkn] at c0 c1
        replace c0 : wr.cell? ⟨xb, n, none⟩ = some (.bool true) := c0
        replace c1 : wr.cell? ⟨xb, 3 + n, none⟩ = some (.string t) := c1
        have ht := HK.out n t hkn
        have hti : (t.size : Int) ≤ 2000 := by omega
        have HP2 : Hid (q + (t.size + 4) = St.pos k (n + 1) ∧ q + (t.size + 4) ≤ 1 + (n + 1) * 2004) := ⟨by rw [St.pos, hkn, ← HP.out.1]; rfl, by have := HP.out.2; omega⟩
        have hq2 : (q : Int) + 4 + (t.size : Int) ≤ 6100 := by have := HP2.out.2; omega
        clear hkn HP
        go_wp2_with fail
        go_roundg (3 - (n + 1))
        case measure => have := HG.out; omega
        case rel => exact ⟨n + 1, q + (t.size + 4), by omega, rfl, by go_num, by go_num, by omega, rfl, HP2⟩
    · obtain rfl : n = 3 := by omega
      have HQ : Hid (q = St.all k) := HP.out.1
      clear HP
      go_wp2_with fail
      (try simp only [Exit.inBlock, Exit.then])
      go_ret
      rw [HQ.out]
      exact ⟨rfl, by rw [hxb]; exact HB.out⟩
set_option maxRecDepth 100000 in
set_option maxHeartbeats 1000000 in
theorem rrec_any (w : World) (id : Nat) (t : ByteArray) (hid : id < 3) (ht : t.size ≤ 2000) : Calls Try.prog 71 #[.int .i64 (id : Int), .string t] w (RecPost w id t) := by
  have HF : Hid (∀ w', Below w.heap.size w w' → RecPost w id t (.returned (.string (strOfNums [(id : Int), (t.size : Int) % 256, (t.size : Int) / 256] ++ t ++ strOfNums [0]))) w') := fun w' hb => ⟨by rw [rec_str id t hid ht], hb⟩
  have hc1 := conv_list (w.alloc (.cells #[.int .u8 (id : Int), .int .u8 ((t.size : Int) % 256), .int .u8 ((t.size : Int) / 256)] 5)) [(id : Int), (t.size : Int) % 256, (t.size : Int) / 256] 3 rfl w.heap.size (heap_alloc_new w _)
  have z3 : (strOfNums [(id : Int), (t.size : Int) % 256, (t.size : Int) / 256]).size = 3 := strOfNums_size _
  have z1 : strOfNums [0] = { data := #[0] } := rfl
  have HB : Hid (Below w.heap.size w (w.alloc (.cells #[.int .u8 (id : Int), .int .u8 ((t.size : Int) % 256), .int .u8 ((t.size : Int) / 256)] 5))) := below_alloc1 w _
  rw [z1] at HF
  generalize strOfNums [(id : Int), (t.size : Int) % 256, (t.size : Int) / 256] = s3 at *
  have ha1 := fun u => run_string_add_sum (P := Try.prog) u s3 t (by omega)
  have ha2 := fun u => run_string_add_sum (P := Try.prog) u (s3 ++ t) { data := #[0] } (by simp only [ByteArray.size_append]; have : (ByteArray.mk #[0]).size = 1 := rfl; omega)
  clear z1
  go_enter Try.func71, Try.ntmps71
  go_wp2_with fail
  go_ret
  exact HF.out _ HB.out
end Go.Proofs.Ytngmnceahhlpkaa
