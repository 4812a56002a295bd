/- What a store's small functions answer, in whatever world: follows, size, record, Get. Conditions: each number is of its kind, a text is no longer than may be. -/
import Derived.Test.YtngmnceahhlpkaaStSpec
import Derived.Test.YtngmnceahhlpkaaNor5
import Derived.Laws.Rows
import Derived.Laws.ResultCell
import Derived.BigRegion
namespace Go.Proofs.Ytngmnceahhlpkaa
open Go.RowKit
def FolPost (w : World) (b : Nat) (e : Ending) (w' : World) : Prop := e = .returned (.tuple #[.int .u8 (St.folC b : Int), .bool (St.fol b).isSome]) ∧ Below w.heap.size w w'
theorem fol_in (b : Nat) : b = 15 ∨ b = 51 ∨ b = 85 ∨ (b ≠ 15 ∧ b ≠ 51 ∧ b ≠ 85) := by omega
set_option maxRecDepth 100000 in
set_option maxHeartbeats 1000000 in
theorem follows_any (w : World) (b : Nat) (_ : b < 256) : Calls Try.prog 51 #[.int .u8 (b : Int)] w (FolPost w b) := by
  have HF : Hid (∀ c r, c = St.folC b → r = (St.fol b).isSome → FolPost w b (.returned (.tuple #[.int .u8 (c : Int), .bool r])) (w.alloc (.cells #[.int .u8 15, .int .u8 51, .int .u8 85] 5))) := by
    rintro c r rfl rfl
    exact ⟨rfl, below_alloc1 w _⟩
  have y0 : (w.alloc (.cells #[.int .u8 15, .int .u8 51, .int .u8 85] 5)).cell? ⟨w.heap.size, 0, none⟩ = some (.int .u8 15) := cell_at (heap_alloc_new w _) 0
  rcases fol_in b with rfl | rfl | rfl | ⟨h1, h2, h3⟩
  · go_enter Try.func51, Try.ntmps51
    go_wp2_with fail
    go_loopg [10] 3 (fun gh i wr => ∃ k : Nat, k ≤ 0 ∧ gh = 3 - k ∧ i = .int .i64 k ∧ wr = w.alloc (.cells #[.int .u8 15, .int .u8 51, .int .u8 85] 5))
    case atStart => exact ⟨0, Nat.le_refl _, rfl, rfl, rfl⟩
    case round =>
      obtain ⟨k, hk, hgk, rfl, rfl⟩ := hrel
      obtain rfl : k = 0 := by omega
      clear hgk
      go_wp2_with fail
      (try simp only [Exit.inBlock, Exit.then])
      go_ret2
      exact HF.out 51 true rfl rfl
  · go_enter Try.func51, Try.ntmps51
    go_wp2_with fail
    go_loopg [10] 3 (fun gh i wr => ∃ k : Nat, k ≤ 1 ∧ gh = 3 - k ∧ i = .int .i64 k ∧ wr = w.alloc (.cells #[.int .u8 15, .int .u8 51, .int .u8 85] 5))
    case atStart => exact ⟨0, by omega, rfl, rfl, rfl⟩
    case round =>
      obtain ⟨k, hk, hgk, rfl, rfl⟩ := hrel
      have HG := Lib.hid hgk
      clear hgk
      have hc : k = 0 ∨ k = 1 := by omega
      rcases hc with rfl | rfl
      · go_wp2_with fail
        go_roundg 2
        case measure => have := HG.out; omega
        case rel => exact ⟨1, by omega, rfl, rfl, rfl⟩
      · go_wp2_with fail
        (try simp only [Exit.inBlock, Exit.then])
        go_ret2
        exact HF.out 85 true rfl rfl
  · go_enter Try.func51, Try.ntmps51
    go_wp2_with fail
    go_loopg [10] 3 (fun gh i wr => ∃ k : Nat, k ≤ 2 ∧ gh = 3 - k ∧ i = .int .i64 k ∧ wr = w.alloc (.cells #[.int .u8 15, .int .u8 51, .int .u8 85] 5))
    case atStart => exact ⟨0, by omega, rfl, rfl, rfl⟩
    case round =>
      obtain ⟨k, hk, hgk, rfl, rfl⟩ := hrel
      have HG := Lib.hid hgk
      clear hgk
      have hc : k = 0 ∨ k = 1 ∨ k = 2 := by omega
      rcases hc with rfl | rfl | rfl
      · go_wp2_with fail
        go_roundg 2
        case measure => have := HG.out; omega
        case rel => exact ⟨1, by omega, rfl, rfl, rfl⟩
      · go_wp2_with fail
        go_roundg 1
        case measure => have := HG.out; omega
        case rel => exact ⟨2, by omega, rfl, rfl, rfl⟩
      · go_wp2_with fail
        (try simp only [Exit.inBlock, Exit.then])
        go_ret2
        exact HF.out 15 true rfl rfl
  · have z1 : ((15 : Int) == (b : Int)) = false := by rw [beq_eq_false_iff_ne]; omega
    have z2 : ((51 : Int) == (b : Int)) = false := by rw [beq_eq_false_iff_ne]; omega
    have z3 : ((85 : Int) == (b : Int)) = false := by rw [beq_eq_false_iff_ne]; omega
    have HN : Hid (St.fol b = none) := by unfold Hid St.fol; rw [if_neg h1, if_neg h2, if_neg h3]
    have HFN := Lib.hid (HF.out 0 false (by unfold St.folC; rw [HN.out]; rfl) (by rw [HN.out]; rfl))
    clear h1 h2 h3 HF
    go_enter Try.func51, Try.ntmps51
    go_wp2_with fail
    go_loopg [10] 3 (fun gh i wr => ∃ k : Nat, k ≤ 3 ∧ gh = 3 - k ∧ i = .int .i64 k ∧ wr = w.alloc (.cells #[.int .u8 15, .int .u8 51, .int .u8 85] 5))
    case atStart => exact ⟨0, by omega, rfl, rfl, rfl⟩
    case round =>
      obtain ⟨k, hk, hgk, rfl, rfl⟩ := hrel
      have HG := Lib.hid hgk
      clear hgk
      have hc : k = 0 ∨ k = 1 ∨ k = 2 ∨ k = 3 := by omega
      rcases hc with rfl | rfl | rfl | rfl
      · go_wp2_with fail
        go_roundg 2
        case measure => have := HG.out; omega
        case rel => exact ⟨1, by omega, rfl, rfl, rfl⟩
      · go_wp2_with fail
        go_roundg 1
        case measure => have := HG.out; omega
        case rel => exact ⟨2, by omega, rfl, rfl, rfl⟩
      · go_wp2_with fail
        go_roundg 0
        case measure => have := HG.out; omega
        case rel => exact ⟨3, by omega, rfl, rfl, rfl⟩
      · go_wp2_with fail
        (try simp only [Exit.inBlock, Exit.then])
        go_ret2
        exact HFN.out
def valV (o : Option ByteArray) : Value := .agg #[.bool (St.is o), .string (St.txt o)]
def SizePost (w : World) (o : Option ByteArray) (e : Ending) (w' : World) : Prop := e = .returned (.int .i64 (St.size o : Int)) ∧ Below w.heap.size w w'
set_option maxRecDepth 100000 in
theorem size_any (w : World) (o : Option ByteArray) (ho : ∀ t, o = some t → t.size ≤ 2000) : Calls Try.prog 56 #[valV o] w (SizePost w o) := by
  cases o with
  | none =>
    unfold valV St.is St.txt
    go_enter Try.func56, Try.ntmps56
    go_wp2_with fail
    (try simp only [Exit.inBlock, Exit.then])
    go_ret
    exact ⟨rfl, below_alloc1 w _⟩
  | some t =>
    have hs := ho t rfl
    have HF : Hid (∀ w', Below w.heap.size w w' → SizePost w (some t) (.returned (.int .i64 ((t.size : Int) + 4))) w') := fun w' hb => ⟨rfl, hb⟩
    unfold valV St.is St.txt
    simp only [Option.isSome_some, Option.getD_some]
    clear ho
    go_enter Try.func56, Try.ntmps56
    go_wp2_with fail
    (try simp only [Exit.inBlock, Exit.then])
    go_ret
    exact HF.out _ (below_alloc1 w _)
def RecPost (w : World) (id : Nat) (t : ByteArray) (e : Ending) (w' : World) : Prop := e = .returned (.string (str (St.recL id t))) ∧ Below w.heap.size w w'
theorem rec_str (id : Nat) (t : ByteArray) (hid : id < 3) (ht : t.size ≤ 2000) : str (St.recL id t) = strOfNums [(id : Int), (t.size : Int) % 256, (t.size : Int) / 256] ++ t ++ strOfNums [0] := by
  have h : ∀ a b c : List Nat, str (a ++ b ++ c) = str a ++ str b ++ str c := by
    intro a b c
    apply ByteArray.ext
    simp [str, strOfNums]
  have e : St.recL id t = [id % 256, t.size % 256, t.size / 256 % 256] ++ bytes t ++ [0] := by simp [St.recL]
  rw [e, h, str_bytes]
  have e1 : ((id % 256 : Nat) : Int) = (id : Int) := by omega
  have e2 : ((t.size % 256 : Nat) : Int) = (t.size : Int) % 256 := by omega
  have e3 : ((t.size / 256 % 256 : Nat) : Int) = (t.size : Int) / 256 := by omega
  simp only [str, List.map_cons, List.map_nil, e1, e2, e3]
  rfl
theorem conv_list (u : World) (xs : List Int) (n : Nat) (hn : xs.length = n) (B : Nat) (h : u.heap[B]? = some (.cells (xs.map fun x => Value.int .u8 x).toArray 5)) :
    (convert 86 9 (.slice (some ⟨B, 0, none⟩) n n)).run Try.prog u = .ok (.string (strOfNums xs)) u := by
  refine run_convert_bytes_arg (P := Try.prog) _ 86 5 Try.underlying86 Try.underlying5 B 0 n n xs hn (fun i hi => ?_) 9 Try.underlying9
  rw [Nat.zero_add, cell_at h, List.getElem?_toArray, List.getElem?_map, List.getElem?_eq_getElem (by omega), List.getD_eq_getElem?_getD, List.getElem?_eq_getElem (by omega)]
  rfl
set_option maxRecDepth 100000 in
set_option maxHeartbeats 1000000 in
theorem record_any (w : World) (id : Nat) (t : ByteArray) (hid : id < 3) (ht : t.size ≤ 2000) : Calls Try.prog 57 #[.int .i64 (id : Int), .string t] w (RecPost w id t) := by
  have HF : Hid (∀ w', Below w.heap.size w w' → RecPost w id t (.returned (.string (strOfNums [(id : Int), (t.size : Int) % 256, (t.size : Int) / 256] ++ t ++ strOfNums [0]))) w') := fun w' hb => ⟨by rw [rec_str id t hid ht], hb⟩
  have hc1 := conv_list (w.alloc (.cells #[.int .u8 (id : Int), .int .u8 ((t.size : Int) % 256), .int .u8 ((t.size : Int) / 256)] 5)) [(id : Int), (t.size : Int) % 256, (t.size : Int) / 256] 3 rfl w.heap.size (heap_alloc_new w _)
  have hc2 : ∀ u : World, (convert 86 9 (.slice (some ⟨u.heap.size, 0, none⟩) 1 1)).run Try.prog (u.alloc (.cells #[.int .u8 0] 5)) = .ok (.string (strOfNums [0])) (u.alloc (.cells #[.int .u8 0] 5)) := fun u => conv_list (u.alloc (.cells #[.int .u8 0] 5)) [0] 1 rfl u.heap.size (heap_alloc_new u _)
  have hc3 := hc2 (w.alloc (.cells #[.int .u8 (id : Int), .int .u8 ((t.size : Int) % 256), .int .u8 ((t.size : Int) / 256)] 5))
  rw [show (w.alloc (.cells #[.int .u8 (id : Int), .int .u8 ((t.size : Int) % 256), .int .u8 ((t.size : Int) / 256)] 5)).heap.size = w.heap.size + 1 by simp] at hc3
  have z3 : (strOfNums [(id : Int), (t.size : Int) % 256, (t.size : Int) / 256]).size = 3 := strOfNums_size _
  have z1 : (strOfNums [0]).size = 1 := strOfNums_size _
  have HB : Hid (Below w.heap.size w ((w.alloc (.cells #[.int .u8 (id : Int), .int .u8 ((t.size : Int) % 256), .int .u8 ((t.size : Int) / 256)] 5)).alloc (.cells #[.int .u8 0] 5))) := (below_alloc1 w _).alloc (by simp) _
  clear hc2
  generalize strOfNums [(id : Int), (t.size : Int) % 256, (t.size : Int) / 256] = s3 at *
  generalize strOfNums [0] = s1 at *
  have ha1 := fun u => run_string_add_sum (P := Try.prog) u s3 t (by omega)
  have ha2 := fun u => run_string_add_sum (P := Try.prog) u (s3 ++ t) s1 (by simp only [ByteArray.size_append]; omega)
  go_enter Try.func57, Try.ntmps57
  go_wp2_with fail
  go_ret
  exact HF.out _ HB.out
def GetPost (w : World) (s : St) (id : Int) (e : Ending) (w' : World) : Prop := e = .returned (.tuple #[.string (St.get s id).1, .bool (St.get s id).2]) ∧ Below w.heap.size w w'
theorem get_nil (w : World) (id : Int) : Calls Try.prog 30 #[.pointer none, .int .i64 id] w fun e w' => e = .returned (.tuple #[.string ByteArray.empty, .bool false]) ∧ w' = w := by
  go_enter Try.func30, Try.ntmps30
  go_wp2_with fail
  (try simp only [Exit.inBlock, Exit.then])
  go_ret2
  exact ⟨rfl, rfl⟩
set_option maxRecDepth 100000 in
set_option maxHeartbeats 1000000 in
theorem get_any (w : World) (sb fb : Nat) (s : St) (id : Int) (h : StAt w sb fb s) : Calls Try.prog 30 #[.pointer (some ⟨sb, 0, none⟩), .int .i64 id] w (GetPost w s id) := by
  have k4 : w.cell? ⟨sb, 4, none⟩ = some (.bool (St.is (s.k 0))) := cell_at h.blk 4
  have k5 : w.cell? ⟨sb, 5, none⟩ = some (.string (St.txt (s.k 0))) := cell_at h.blk 5
  have k6 : w.cell? ⟨sb, 6, none⟩ = some (.bool (St.is (s.k 1))) := cell_at h.blk 6
  have k7 : w.cell? ⟨sb, 7, none⟩ = some (.string (St.txt (s.k 1))) := cell_at h.blk 7
  have k8 : w.cell? ⟨sb, 8, none⟩ = some (.bool (St.is (s.k 2))) := cell_at h.blk 8
  have k9 : w.cell? ⟨sb, 9, none⟩ = some (.string (St.txt (s.k 2))) := cell_at h.blk 9
  have k10 : w.cell? ⟨sb, 10, none⟩ = some (.bool s.stands) := cell_at h.blk 10
  have HF : Hid (∀ a b, (St.get s id) = (a, b) → ∀ w', Below w.heap.size w w' → GetPost w s id (.returned (.tuple #[.string a, .bool b])) w') := fun a b hab w' hw => by
    unfold GetPost
    rw [hab]
    exact ⟨rfl, hw⟩
  clear h
  cases hs : s.stands with
  | true =>
    have HG := Lib.hid (HF.out ByteArray.empty false (by unfold St.get; rw [hs]; simp))
    rw [hs] at k10
    clear hs HF
    go_enter Try.func30, Try.ntmps30
    go_wp2_with fail
    (try simp only [Exit.inBlock, Exit.then])
    go_ret2
    exact HG.out _ (Below.refl _ _)
  | false =>
    rw [hs] at k10
    by_cases h0 : id < 0
    · have HG := Lib.hid (HF.out ByteArray.empty false (by unfold St.get; rw [if_pos (by simp [h0])]))
      clear hs HF
      go_enter Try.func30, Try.ntmps30
      go_wp2_with fail
      (try simp only [Exit.inBlock, Exit.then])
      go_ret2
      exact HG.out _ (Below.refl _ _)
    · by_cases h3 : 3 ≤ id
      · have HG := Lib.hid (HF.out ByteArray.empty false (by unfold St.get; rw [if_pos (by simp [h3])]))
        clear hs HF
        go_enter Try.func30, Try.ntmps30
        go_wp2_with fail
        (try simp only [Exit.inBlock, Exit.then])
        go_ret2
        exact HG.out _ (Below.refl _ _)
      · have hc : id = 0 ∨ id = 1 ∨ id = 2 := by omega
        rcases hc with rfl | rfl | rfl
        · have HG := Lib.hid (HF.out (St.txt (s.k 0)) (St.is (s.k 0)) (by unfold St.get; rw [hs]; rfl))
          generalize St.txt (s.k 0) = t at *
          generalize St.is (s.k 0) = i at *
          clear hs HF
          go_enter Try.func30, Try.ntmps30
          go_wp2_with fail
          go_region
          go_wp2_with fail
          go_ret2
          exact HG.out _ (Below.refl _ _).drew
        · have HG := Lib.hid (HF.out (St.txt (s.k 1)) (St.is (s.k 1)) (by unfold St.get; rw [hs]; rfl))
          generalize St.txt (s.k 1) = t at *
          generalize St.is (s.k 1) = i at *
          clear hs HF
          go_enter Try.func30, Try.ntmps30
          go_wp2_with fail
          go_region
          go_wp2_with fail
          go_ret2
          exact HG.out _ (Below.refl _ _).drew
        · have HG := Lib.hid (HF.out (St.txt (s.k 2)) (St.is (s.k 2)) (by unfold St.get; rw [hs]; rfl))
          generalize St.txt (s.k 2) = t at *
          generalize St.is (s.k 2) = i at *
          clear hs HF
          go_enter Try.func30, Try.ntmps30
          go_wp2_with fail
          go_region
          go_wp2_with fail
          go_ret2
          exact HG.out _ (Below.refl _ _).drew
end Go.Proofs.Ytngmnceahhlpkaa
