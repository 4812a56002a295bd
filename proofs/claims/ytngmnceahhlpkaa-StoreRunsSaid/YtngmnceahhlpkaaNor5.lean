/- What New of a flash does, in whatever world: a flash all of whose cells hold FF, in new memory. No condition. -/
import Derived.Test.YtngmnceahhlpkaaNor4
namespace Go.Proofs.Ytngmnceahhlpkaa
open Go.RowKit

theorem wpList_run {P : Program} {ops : Array Oper} {rest : List Oper} {o : Oper} {a : Act} {Q : Exit → Act → World → Prop} {w w1 : World} {v : Value} (hg : o.guard = none)
    (hrun : (execOp a.eval o).run P w = .ok (.value v) w1) (h : wpList P ops Q rest (a.put o.dst v) w1) : wpList P ops Q (o :: rest) a w := by
  refine wpList_plain hg fun K hK => ?_
  unfold Oper.wp
  rw [hrun, Oper.upon_value]
  exact hK _ _ h
def Fl.zero : Fl := ⟨false, false, 0, [], 0, List.replicate 8192 0⟩
noncomputable def zeroCs : Array Value := ((Try.prog.info? 91).bind TypeInfo.zero).elim #[] Value.cells
def zeroByte : Value → Bool
  | .int .u8 0 => true
  | _ => false
def zeroBytes : List Value → Bool
  | [] => true
  | v :: l => zeroByte v && zeroBytes l
theorem zeroCs_size : zeroCs.size = 8197 := by kernel_rfl
theorem zeroCs_tail : zeroBytes (zeroCs.toList.drop 5) = true := by kernel_rfl
theorem zeroCs_head : zeroCs.toList.take 5 = [.bool false, .bool false, .int .i64 0, .slice none 0 0, .int .i64 0] := by kernel_rfl
theorem zeroByte_eq {v : Value} (h : zeroByte v = true) : v = byteV 0 := by
  unfold zeroByte at h
  split at h
  · rfl
  · cases h
theorem zeroBytes_eq : ∀ l : List Value, zeroBytes l = true → l = List.replicate l.length (byteV 0)
  | [], _ => rfl
  | v :: l, h => by
    rw [zeroBytes, Bool.and_eq_true] at h
    rw [List.length_cons, List.replicate_succ, ← zeroBytes_eq l h.2, zeroByte_eq h.1]
theorem zeroCs_eq : zeroCs = (flashL Fl.zero (.slice none 0 0)).toArray := by
  apply Array.toList_inj.1
  rw [List.toList_toArray, ← List.take_append_drop 5 zeroCs.toList, zeroCs_head, zeroBytes_eq _ zeroCs_tail, List.length_drop, Array.length_toList, zeroCs_size, flashL]
  show _ = _ ++ (List.replicate 8192 0).map byteV
  rw [List.map_replicate]
  rfl
noncomputable def zeroV : Value := .agg zeroCs
theorem build_run (a : Act) (w : World) (d : Option Tmp) (ty : TypeId) (p : String) (af : Array Edge) : (execOp a.eval { dst := d, op := .build 91 #[], type := ty, pos := p, after := af, guard := none }).run Try.prog w = .ok (.value zeroV) w := by kernel_rfl
theorem box_run (a : Act) (w : World) (x : Operand) (d : Option Tmp) (ty : TypeId) (p : String) (af : Array Edge) (hx : a.eval x = zeroV) :
    (execOp a.eval { dst := d, op := .box 91 x, type := ty, pos := p, after := af, guard := none }).run Try.prog w = .ok (.value (.pointer (some ⟨w.heap.size, 0, none⟩))) (w.alloc (.cells (flashL Fl.zero (.slice none 0 0)).toArray 91)) := by
  rw [← zeroCs_eq]
  unfold zeroV at hx
  generalize zeroCs = cs at *
  simp only [execOp, hx]
  rfl
theorem Fl.Ok.zero : Fl.zero.Ok := ⟨List.length_replicate, fun x hx => by have := List.eq_of_mem_replicate hx; omega, fun x hx => (List.not_mem_nil hx).elim, Int.le_refl _, by show (0 : Int) ≤ _; omega, Nat.zero_le _⟩
theorem at_zero (w : World) : At (w.alloc (.cells (flashL Fl.zero (.slice none 0 0)).toArray 91)) w.heap.size none Fl.zero :=
  ⟨Fl.Ok.zero, _, heap_alloc_new w _, ⟨.inl ⟨rfl, rfl, rfl⟩⟩⟩
theorem below_alloc1 (w : World) (o : Obj) : Below w.heap.size w (w.alloc o) := (Below.refl _ _).alloc (Nat.le_refl _) o

def Fl.fill (k : Nat) : Fl := ⟨false, false, 0, [], 0, List.replicate k 255 ++ List.replicate (8192 - k) 0⟩
theorem Fl.fill_zero : Fl.fill 0 = Fl.zero := by unfold Fl.fill Fl.zero; rw [List.replicate_zero, List.nil_append]
theorem Fl.fill_all : Fl.fill 8192 = Fl.new := by unfold Fl.fill Fl.new; rw [Nat.sub_self, List.replicate_zero, List.append_nil]
theorem Fl.fill_next (k : Nat) (hk : k < 8192) : Fl.fill (k + 1) = (Fl.fill k).put k 255 := by
  unfold Fl.fill Fl.put
  congr 1
  rw [List.set_append_right _ _ (by rw [List.length_replicate]; omega), List.length_replicate, Nat.sub_self, show List.replicate (8192 - k) 0 = 0 :: List.replicate (8192 - (k + 1)) 0 from by rw [← List.replicate_succ]; congr 1; omega]
  rw [List.set_cons_zero, List.replicate_succ', List.append_assoc]
  rfl

set_option maxRecDepth 100000 in
set_option maxHeartbeats 1000000 in
theorem new_any (w : World) : Calls Try.prog 27 #[] w fun e w' => e = .returned (.pointer (some ⟨w.heap.size, 0, none⟩)) ∧ At w' w.heap.size none Fl.new ∧ Below w.heap.size w w' := by
  go_enter Try.func27, Try.ntmps27
  iterate 11 go_step
  refine wpList_run rfl (build_run _ _ _ _ _ _) ?_
  refine wpList_run rfl (box_run _ _ _ _ _ _ _ rfl) ?_
  have HA := Lib.hid (at_zero w)
  have HB := Lib.hid (below_alloc1 w (.cells (flashL Fl.zero (.slice none 0 0)).toArray 91))
  generalize w.alloc (.cells (flashL Fl.zero (.slice none 0 0)).toArray 91) = w1 at *
  generalize zeroV = zv
  go_wp2_with fail
  go_loopw [5] (fun i wr => ∃ k : Nat, k ≤ 8192 ∧ i = .int .i64 k ∧ At wr w.heap.size none (Fl.fill k) ∧ Below w.heap.size w wr) (fun i _ => 8192 - (intOf i).toNat)
  case atStart => exact ⟨0, by omega, rfl, by rw [Fl.fill_zero]; exact HA.out, HB.out⟩
  case round =>
    obtain ⟨k, hk, rfl, hat, hbe⟩ := hrel
    have HAT := Lib.hid hat
    have HBT := Lib.hid hbe
    clear hat hbe HA HB
    by_cases hlt : (k : Int) < 8192
    · have hlt' : k < 8192 := by omega
      have hcell := HAT.out.cell k hlt'
      have hfree := HAT.out.free (5 + k)
      go_wp2_with fail
      have HA3 : Hid (At (wr.setCell ⟨w.heap.size, 5 + k, none⟩ (.int .u8 255)) w.heap.size none (Fl.fill (k + 1))) := by
        have := HAT.out.set k 255 (by omega)
        unfold Hid
        rw [Fl.fill_next k hlt']
        exact this
      have HB3 : Hid (Below w.heap.size w (wr.setCell ⟨w.heap.size, 5 + k, none⟩ (.int .u8 255))) := HBT.out.setCell (Nat.le_refl _) _
      go_roundw
      case rel => exact ⟨k + 1, by omega, by go_num, HA3.out, HB3.out⟩
      case measure => simp [intOf]; omega
    · have e : k = 8192 := by omega
      have HE : Hid (At wr w.heap.size none Fl.new) := by rw [← Fl.fill_all, ← e]; exact HAT.out
      clear e HAT
      go_wp2_with fail
      go_ret
      exact ⟨rfl, HE.out, HBT.out⟩
end Go.Proofs.Ytngmnceahhlpkaa
