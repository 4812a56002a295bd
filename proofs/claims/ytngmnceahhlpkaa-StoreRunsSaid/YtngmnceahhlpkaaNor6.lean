/- What Of and Cut of a flash do, in whatever world. Conditions: the flash lies in memory, or is nil; numbers are of their kinds, texts are within the reach of memory. -/
import Derived.Test.YtngmnceahhlpkaaNor5
import Derived.Deep.OwnRows
import Derived.Laws.CopyOwn
namespace Go.Proofs.Ytngmnceahhlpkaa
open Go.RowKit

/-- copy of a text into a row that is known whole. -/
theorem run_copy_str {P : Program} (w : World) (dT sT ty elem : TypeId) (g o dLen dCap : Nat) (s : ByteArray) (cur : Array Value) (t : TypeId)
    (hu : P.underlying dT = some (.slice elem)) (hs : (P.info? elem).map (·.size) = some 1) (hg : w.heap[g]? = some (.cells cur t (0, 0))) (hn : s.size ≤ dLen) (hfit : o + s.size ≤ cur.size) :
    (Builtin.copy_ #[dT, sT] ty #[.slice (some ⟨g, o, none⟩) dLen dCap, .string s]).run P w =
      .ok (goInt s.size) (w.setRow g (cur.toList.take o ++ ((bytes s).map byteV ++ cur.toList.drop (o + s.size))).toArray) := by
  have hl : ((bytes s).map byteV).length = s.size := by rw [List.length_map, bytes_length]
  have hst := run_storeCells_at P g o t ((bytes s).map byteV) 0 cur w hg (by rw [hl]; simpa using hfit) (fun v hv => by
    obtain ⟨x, _, rfl⟩ := List.mem_map.1 hv
    rfl)
  rw [hl, List.append_assoc] at hst
  have hx : s.extract 0 s.size = s := by simp
  have hm : Nat.min s.size dLen = s.size := Nat.min_eq_left hn
  have hcells : ((s.extract 0 s.size).data.map fun b => Value.int .u8 b.toNat).toList = (bytes s).map byteV := by
    rw [hx]
    simp [bytes, byteV]
  cases hq : P.info? elem with
  | none => simp [hq] at hs
  | some i =>
    simp only [Nat.add_zero] at hst
    simp only [Builtin.copy_, Builtin.lenOf, Builtin.firstCells, sizeOf, typeInfo, hm, List.getElem?_toArray, List.getElem?_cons_zero, List.getElem?_cons_succ, Sem.run_bind, run_underlying hu, Result.andThen_ok, Sem.run_pure, hcells]
    simp [hq, hst]
theorem zero_of (l : List Nat) (jv : Value) : (flashL Fl.zero jv).take 5 ++ l.map byteV ++ (flashL Fl.zero jv).drop (5 + 8192) = flashL (Fl.of l) jv := by
  have h2 : (flashL Fl.zero jv).drop (5 + 8192) = [] := by
    apply List.drop_eq_nil_of_le
    rw [flashL, List.length_append, List.length_map, Fl.Ok.zero.len]
    exact Nat.le_refl _
  rw [h2, List.append_nil]
  rfl
theorem slice_all (b : Nat) (w : World) : (Instr.sliceAt 89 (.pointer (some ⟨b, 5, none⟩)) none none none).run Try.prog w = .ok (.slice (some ⟨b, 5, none⟩) 8192 8192) w := by kernel_rfl
theorem info5 : (Try.prog.info? 5).map (·.size) = some 1 := by kernel_rfl
theorem of_size (s : ByteArray) (w : World) (hs : s.size ≠ 8192) : Calls Try.prog 28 #[.string s] w fun e w' => e = .returned (.tuple #[.pointer none, .int .i64 3]) ∧ w = w' := by
  have hb : ((s.size : Int) == 8192) = false := by rw [beq_eq_false_iff_ne]; omega
  clear hs
  go_enter Try.func28, Try.ntmps28
  go_wp2_with fail
  go_ret2
  exact ⟨rfl, rfl⟩

set_option maxRecDepth 100000 in
set_option maxHeartbeats 1000000 in
theorem of_any (s : ByteArray) (w : World) (hs : s.size = 8192) :
    Calls Try.prog 28 #[.string s] w fun e w' => e = .returned (.tuple #[.pointer (some ⟨w.heap.size, 0, none⟩), .int .i64 0]) ∧ At w' w.heap.size none (Fl.of (bytes s)) ∧ Below w.heap.size w w' := by
  have hb : ((s.size : Int) == 8192) = true := by rw [beq_iff_eq]; omega
  have hcp := run_copy_str (P := Try.prog) (w.alloc (.cells (flashL Fl.zero (.slice none 0 0)).toArray 91)) 86 9 3 5 w.heap.size 5 8192 8192 s _ 91 Try.underlying86 info5 (heap_alloc_new w _) (by omega) (by rw [List.size_toArray, flashL, List.length_append, List.length_map, Fl.Ok.zero.len]; simp only [List.length_cons, List.length_nil]; omega)
  rw [List.toList_toArray, hs, ← List.append_assoc, zero_of] at hcp
  have HCP := Lib.hid hcp
  have HAT : Hid (At ((w.alloc (.cells (flashL Fl.zero (.slice none 0 0)).toArray 91)).setRow w.heap.size (flashL (Fl.of (bytes s)) (.slice none 0 0)).toArray) w.heap.size none (Fl.of (bytes s))) :=
    ⟨Fl.Ok.of (by rw [bytes_length, hs]) (bytes_byte s), _, setRow_heap _ _ _ _ _ _ (heap_alloc_new w _), ⟨.inl ⟨rfl, rfl, rfl⟩⟩⟩
  have HBE : Hid (Below w.heap.size w ((w.alloc (.cells (flashL Fl.zero (.slice none 0 0)).toArray 91)).setRow w.heap.size (flashL (Fl.of (bytes s)) (.slice none 0 0)).toArray)) := below_setRow (below_alloc1 w _) (Nat.le_refl _) _
  have hsl := slice_all w.heap.size
  clear hs hcp
  go_enter Try.func28, Try.ntmps28
  go_wp2_with (refine wpList_run rfl (build_run _ _ _ _ _ _) ?_; refine wpList_run rfl (box_run _ _ _ _ _ _ _ rfl) ?_)
  rw [HCP.out]
  generalize (w.alloc (.cells (flashL Fl.zero (.slice none 0 0)).toArray 91)).setRow w.heap.size (flashL (Fl.of (bytes s)) (.slice none 0 0)).toArray = w2 at *
  clear HCP
  generalize zeroV = zv
  go_wp2_with fail
  go_ret2
  exact ⟨rfl, HAT.out, HBE.out⟩

theorem cut_nil (n : Int) (s : ByteArray) (w : World) : Calls Try.prog 22 #[.pointer none, .int .i64 n, .string s] w fun e w' => e = .returned (.int .i64 2) ∧ w = w' := by
  go_enter Try.func22, Try.ntmps22
  go_wp2_with fail
  refine (ready_nil _).mono ?_
  rintro e w1 ⟨rfl, rfl⟩
  go_wp2_with fail
  go_ret
  exact ⟨rfl, rfl⟩
theorem cut_off (b : Nat) (J : Option Nat) (f : Fl) (n : Int) (s : ByteArray) (w : World) (h : At w b J f) (ho : f.off = true) :
    Calls Try.prog 22 #[.pointer (some ⟨b, 0, none⟩), .int .i64 n, .string s] w fun e w' => e = .returned (.int .i64 60) ∧ w = w' := by
  have HY : Hid (readyOf f = 60) := by unfold Hid readyOf; rw [ho]; rfl
  have H := Lib.hid h
  clear ho h
  go_enter Try.func22, Try.ntmps22
  go_wp2_with fail
  refine (ready_any b J f _ H.out).mono ?_
  rintro e w1 ⟨rfl, rfl⟩
  rw [HY.out]
  go_wp2_with fail
  go_ret
  exact ⟨rfl, rfl⟩
theorem cut_arg (b : Nat) (J : Option Nat) (f : Fl) (n : Int) (s : ByteArray) (w : World) (h : At w b J f) (ho : f.off = false) (hn : n < 0) :
    Calls Try.prog 22 #[.pointer (some ⟨b, 0, none⟩), .int .i64 n, .string s] w fun e w' => e = .returned (.int .i64 1) ∧ w = w' := by
  have HY : Hid (readyOf f = 0) := by unfold Hid readyOf; rw [ho]; rfl
  have H := Lib.hid h
  clear ho h
  go_enter Try.func22, Try.ntmps22
  go_wp2_with fail
  refine (ready_any b J f _ H.out).mono ?_
  rintro e w1 ⟨rfl, rfl⟩
  rw [HY.out]
  go_wp2_with fail
  go_ret
  exact ⟨rfl, rfl⟩
theorem zeroInfo5 : (Try.prog.info? 5).map (fun i => (i.zero, i.size, i.bytes)) = some (some (.int .u8 0), 1, 1) := by kernel_rfl
theorem made_splice (l : List Nat) : ((madeCells #[Value.int .u8 0] l.length).toList.take 0 ++ (l.map byteV ++ (madeCells #[Value.int .u8 0] l.length).toList.drop (0 + l.length))).toArray = (l.map byteV).toArray := by
  rw [List.take_zero, List.nil_append, List.drop_of_length_le (by simp [madeCells]), List.append_nil]
set_option maxRecDepth 100000 in
set_option maxHeartbeats 1000000 in
theorem cut_does (b : Nat) (J : Option Nat) (f : Fl) (n : Int) (s : ByteArray) (w : World) (h : At w b J f) (ho : f.off = false) (hn : 0 ≤ n) (hi : n ≤ 9223372036854775807) (hs : s.size ≤ 140737488351232) :
    Calls Try.prog 22 #[.pointer (some ⟨b, 0, none⟩), .int .i64 n, .string s] w fun e w' => e = .returned (.int .i64 0) ∧ At w' b (some w.heap.size) { f with armed := true, left := n, junk := bytes s } ∧ w.grownBy w' (some b) := by
  have HY : Hid (readyOf f = 0) := by unfold Hid readyOf; rw [ho]; rfl
  have hm := run_make_row' (P := Try.prog) 86 5 (.int .u8 0) 1 Try.underlying86 zeroInfo5 rfl .i64 .i64 s.size (by omega) (by omega)
  have hsz : (madeCells #[Value.int .u8 0] s.size).size = s.size := by simp [madeCells]
  have hcp := run_copy_str (P := Try.prog) (w.alloc (.cells (madeCells #[Value.int .u8 0] s.size) 5)) 86 9 3 5 w.heap.size 0 s.size s.size s _ 5 Try.underlying86 info5 (heap_alloc_new w _) (by omega) (by omega)
  have ha : At (w.alloc (.cells (madeCells #[Value.int .u8 0] s.size) 5)) b J f := h.below (below_alloc1 w _)
  have hg1 := heap_alloc_new w (.cells (madeCells #[Value.int .u8 0] s.size) 5)
  have hbe := below_setRow (below_alloc1 w (.cells (madeCells #[Value.int .u8 0] s.size) 5)) (Nat.le_refl _) ((bytes s).map byteV).toArray
  have hsp := made_splice (bytes s)
  rw [bytes_length] at hsp
  rw [hsp] at hcp
  have hg2 := setRow_heap _ _ _ ((bytes s).map byteV).toArray _ _ hg1
  have H := Lib.hid h
  have hat2 := h.below hbe
  have hs0 : w.heap.size ≠ b := by have := h.lt; omega
  have HCP := Lib.hid hcp
  have HG2 := Lib.hid hg2
  have HBE := Lib.hid hbe
  obtain ⟨hok, jv, hb, hj⟩ := hat2
  have g1 := free_at hb 1
  have g2 := free_at hb 2
  have g3 := free_at hb 3
  have c1 := cell_at hb 1
  have c2 := cell_at hb 2
  have c3 := cell_at hb 3
  have HB := Lib.hid hb
  have HO := Lib.hid hok
  have e1 : (flashL f jv).toArray[1]? = some (.bool f.armed) := rfl
  have e2 : (flashL f jv).toArray[2]? = some (.int .i64 f.left) := rfl
  have e3 : (flashL f jv).toArray[3]? = some jv := rfl
  rw [e1] at c1
  rw [e2] at c2
  rw [e3] at c3
  have hjv : ∃ A l c, jv = .slice A l c := by
    rcases hj.val with ⟨_, h2, _⟩ | ⟨g, _, h2, _⟩
    · exact ⟨_, _, _, h2⟩
    · exact ⟨_, _, _, h2⟩
  obtain ⟨A, l, c, rfl⟩ := hjv
  clear ho h hcp hg1 hg2 hsp ha hbe hb hj hok hsz e1 e2 e3
  go_enter Try.func22, Try.ntmps22
  go_wp2_with fail
  refine (ready_any b J f _ H.out).mono ?_
  rintro e w1 ⟨rfl, rfl⟩
  rw [HY.out]
  go_wp2_with fail
  rw [HCP.out]
  clear hm
  generalize (w.alloc (.cells (madeCells #[Value.int .u8 0] s.size) 5)).setRow w.heap.size ((bytes s).map byteV).toArray = w2 at *
  clear HCP
  go_wp2_with fail
  go_ret
  refine ⟨rfl, ⟨⟨HO.out.len, HO.out.byte, bytes_byte s, hn, hi, by show (bytes s).length ≤ _; rw [bytes_length]; exact hs⟩, .slice (some ⟨w.heap.size, 0, none⟩) s.size s.size, ?_, ⟨.inr ⟨w.heap.size, rfl, by show _ = Value.slice _ (bytes s).length (bytes s).length; rw [bytes_length], ?_⟩⟩⟩, grown_set (grown_set (grown_set (grown_of_below HBE.out _) 1 _) 2 _) 3 _⟩
  · rw [heap_setCell_at (heap_setCell_at (heap_setCell_at HB.out 1 _) 2 _) 3, set_flash (f' := { f with armed := true }) (jv' := .slice A l c) rfl, set_flash (f' := { f with armed := true, left := n }) (jv' := .slice A l c) rfl,
      set_flash (f' := { f with armed := true, left := n, junk := bytes s }) (jv' := .slice (some ⟨w.heap.size, 0, none⟩) s.size s.size)]
    rfl
  · rw [heap_setCell_ne hs0, heap_setCell_ne hs0, heap_setCell_ne hs0]
    exact HG2.out

/-- Cut, of whatever number and text. -/
theorem cut_any (b : Nat) (J : Option Nat) (f : Fl) (n : Int) (s : ByteArray) (w : World) (h : At w b J f) (hi : n ≤ 9223372036854775807) (hs : s.size ≤ 140737488351232) :
    Calls Try.prog 22 #[.pointer (some ⟨b, 0, none⟩), .int .i64 n, .string s] w fun e w' =>
      e = .returned (.int .i64 (f.cut n (bytes s)).2) ∧ (∃ J', At w' b J' (f.cut n (bytes s)).1 ∧ (J' = J ∨ J' = some w.heap.size)) ∧ w.grownBy w' (some b) := by
  unfold Fl.cut
  cases ho : f.off with
  | true =>
    refine (cut_off b J f n s w h ho).mono ?_
    rintro e w' ⟨rfl, rfl⟩
    exact ⟨rfl, ⟨J, h, .inl rfl⟩, World.grownBy.refl _ _⟩
  | false =>
    by_cases hn : n < 0
    · rw [if_neg (by simp), if_pos hn]
      refine (cut_arg b J f n s w h ho hn).mono ?_
      rintro e w' ⟨rfl, rfl⟩
      exact ⟨rfl, ⟨J, h, .inl rfl⟩, World.grownBy.refl _ _⟩
    · rw [if_neg (by simp), if_neg hn]
      refine (cut_does b J f n s w h ho (by omega) hi hs).mono ?_
      rintro e w' ⟨rfl, hat, hg⟩
      exact ⟨rfl, ⟨_, by rw [← ho]; exact hat, .inr rfl⟩, hg⟩
end Go.Proofs.Ytngmnceahhlpkaa
