/- Words for the walks of this seat: texts as lists of bytes, worlds in which one block is known whole, a flash in memory. No condition. -/
import Derived.Test.YtngmnceahhlpkaaProg
import Derived.Test.YtngmnceahhlpkaaSpec
import Derived.WalkKit
import Derived.Below
import Derived.WalkSpells
import Derived.WalkLawsBesides
import Derived.Outline
import Derived.Lib.Hide
import Derived.Lib.Strings
import Derived.Laws.BytesArg
import Derived.Laws.BitsAllLaws
import Derived.Deep.LoopGhost
import Derived.Deep.QuietTactic
import Derived.BigQuiet
import Derived.Deep.RegionHeld3
namespace Go.Proofs.Ytngmnceahhlpkaa
open Go.RowKit

/-! ### Texts -/
def bytes (s : ByteArray) : List Nat := s.data.toList.map UInt8.toNat
def str (l : List Nat) : ByteArray := strOfNums (l.map fun x : Nat => (x : Int))
theorem bytes_byte (s : ByteArray) : ∀ b ∈ bytes s, b < 256 := by
  intro b hb
  simp only [bytes, List.mem_map] at hb
  obtain ⟨u, _, rfl⟩ := hb
  exact u.toNat_lt
theorem bytes_length (s : ByteArray) : (bytes s).length = s.size := by simp [bytes]
theorem bytes_get (s : ByteArray) (k : Nat) (h : k < s.size) : (bytes s).getD k 0 = s[k].toNat := by
  have h' : k < s.data.toList.length := by rw [Array.length_toList]; exact h
  simp [bytes, List.getD_eq_getElem?_getD, List.getElem?_eq_getElem h']
  rfl
theorem bytes_append (a b : ByteArray) : bytes (a ++ b) = bytes a ++ bytes b := by simp [bytes]
theorem bytes_str (xs : List Nat) (h : ∀ x ∈ xs, x < 256) : bytes (str xs) = xs := by
  simp only [bytes, str, strOfNums, List.map_map, List.toList_toArray]
  conv => rhs; rw [← List.map_id xs]
  apply List.map_congr_left
  intro x hx
  have := h x hx
  simp
  omega
theorem str_bytes (T : ByteArray) : str (bytes T) = T := by
  obtain ⟨⟨l⟩⟩ := T
  simp only [bytes, str, strOfNums, List.map_map, ByteArray.mk.injEq]
  congr 1
  conv => rhs; rw [← List.map_id l]
  apply List.map_congr_left
  intro x _
  simp
theorem str_size (l : List Nat) : (str l).size = l.length := by rw [str, strOfNums_size, List.length_map]
theorem bytes_inj {a b : ByteArray} (h : bytes a = bytes b) : a = b := by rw [← str_bytes a, ← str_bytes b, h]
theorem toList_eq (a b : ByteArray) : (a.toList == b.toList) = decide (a = b) := by
  have h : a.toList = b.toList ↔ a = b := by
    constructor
    · intro h
      obtain ⟨⟨x⟩⟩ := a
      obtain ⟨⟨y⟩⟩ := b
      rw [Lib.toList_data, Lib.toList_data] at h
      simpa using h
    · rintro rfl; rfl
  rw [Bool.eq_iff_iff]
  simp [h]

/-! ### Worlds -/
theorem heap_setCell_at {w : World} {b : Nat} {cs : Array Value} {t : TypeId} {fr : Nat × Nat} (h : w.heap[b]? = some (.cells cs t fr)) (i : Nat) (v : Value) :
    (w.setCell ⟨b, i, none⟩ v).heap[b]? = some (.cells (cs.setIfInBounds i v) t fr) := by
  simp [World.setCell, Array.getElem?_modify, h]
theorem heap_setCell_ne {w : World} {b g : Nat} (h : b ≠ g) (i : Nat) (v : Value) : (w.setCell ⟨g, i, none⟩ v).heap[b]? = w.heap[b]? := Below.heap_setCell w ⟨g, i, none⟩ v b h
theorem cell_at {w : World} {b : Nat} {cs : Array Value} {t : TypeId} {fr : Nat × Nat} (h : w.heap[b]? = some (.cells cs t fr)) (i : Nat) : w.cell? ⟨b, i, none⟩ = cs[i]? := by
  simp [World.cell?, h]
theorem free_at {w : World} {b : Nat} {cs : Array Value} {t : TypeId} (h : w.heap[b]? = some (.cells cs t (0, 0))) (i : Nat) : w.frozen? ⟨b, i, none⟩ = false := by
  simp [World.frozen?, h]
theorem lt_of_at {w : World} {b : Nat} {o : Obj} (h : w.heap[b]? = some o) : b < w.heap.size := (Array.getElem?_eq_some_iff.1 h).1
theorem grown_set {w w1 : World} {b : Nat} (h : w.grownBy w1 (some b)) (i : Nat) (v : Value) : w.grownBy (w1.setCell ⟨b, i, none⟩ v) (some b) :=
  ⟨h.os, h.tape, h.output, by simpa [World.setCell] using h.size, fun k hk hne => (Below.heap_setCell w1 ⟨b, i, none⟩ v k (by rintro rfl; exact hne rfl)).trans (h.block k hk hne)⟩
theorem grown_drewN {w w1 : World} {r : Option Nat} (h : w.grownBy w1 r) (n : Nat) : w.grownBy (w1.drewN n) r := ⟨h.os, h.tape, h.output, h.size, h.block⟩
theorem grown_drew {w w1 : World} {r : Option Nat} (h : w.grownBy w1 r) : w.grownBy w1.drew r := ⟨h.os, h.tape, h.output, h.size, h.block⟩
theorem grown_trans {w w1 w2 : World} {r : Option Nat} (h : w.grownBy w1 r) (k : w1.grownBy w2 r) : w.grownBy w2 r :=
  ⟨k.os.trans h.os, k.tape.trans h.tape, k.output.trans h.output, Nat.le_trans h.size k.size, fun i hi hne => (k.block i (Nat.lt_of_lt_of_le hi h.size) hne).trans (h.block i hi hne)⟩
theorem grown_of_below {w w1 : World} (h : Below w.heap.size w w1) (r : Option Nat) : w.grownBy w1 r := ⟨h.os, h.tape, h.output, h.size, fun i hi _ => h.block i hi⟩
theorem below_next {w w1 w2 : World} (h1 : Below w.heap.size w w1) (h2 : Below w1.heap.size w1 w2) : Below w.heap.size w w2 := h1.trans (h2.mono h1.size)
theorem below_grown {w w1 w2 : World} {b : Nat} (h1 : Below w.heap.size w w1) (h2 : w1.grownBy w2 (some b)) (hb : w.heap.size ≤ b) : Below w.heap.size w w2 :=
  h1.grown h2 h1.size (fun k hk => by injection hk with hk; omega)
theorem ret_bool {a b : Bool} (h : a = b) : Ending.returned (.bool a) = .returned (.bool b) := by rw [h]
theorem ret_int {k : IntKind} {a b : Int} (h : a = b) : Ending.returned (.int k a) = .returned (.int k b) := by rw [h]

/-! ### A flash in memory -/
def byteV (x : Nat) : Value := .int .u8 (x : Int)
def flashL (f : Fl) (jv : Value) : List Value := [.bool f.off, .bool f.armed, .int .i64 f.left, jv, .int .i64 f.steps] ++ f.cell.map byteV
/-- The junk, as a slice of bytes: block J (none: there is none). -/
structure Junk (w : World) (J : Option Nat) (jv : Value) (l : List Nat) : Prop where
  val : (J = none ∧ jv = .slice none 0 0 ∧ l = []) ∨ ∃ g, J = some g ∧ jv = .slice (some ⟨g, 0, none⟩) l.length l.length ∧ w.heap[g]? = some (.cells (l.map byteV).toArray 5 (0, 0))
structure At (w : World) (b : Nat) (J : Option Nat) (f : Fl) : Prop where
  ok : f.Ok
  blk : ∃ jv, w.heap[b]? = some (.cells (flashL f jv).toArray 91 (0, 0)) ∧ Junk w J jv f.junk
theorem At.lt {w : World} {b : Nat} {J : Option Nat} {f : Fl} (h : At w b J f) : b < w.heap.size := by
  obtain ⟨jv, hb, _⟩ := h.blk
  exact lt_of_at hb
theorem Junk.lt {w : World} {J : Option Nat} {jv : Value} {l : List Nat} (h : Junk w J jv l) : ∀ g, J = some g → g < w.heap.size := by
  rcases h.val with ⟨rfl, _, _⟩ | ⟨g, rfl, _, hb⟩
  · intro g hg; cases hg
  · intro g' hg; injection hg with hg; subst hg; exact lt_of_at hb
theorem Junk.ne {w : World} {J : Option Nat} {jv : Value} {l : List Nat} (h : Junk w J jv l) {b : Nat} {cs : Array Value} {t : TypeId} {fr : Nat × Nat} (hb : w.heap[b]? = some (.cells cs t fr)) (ht : t ≠ 5) : J ≠ some b := by
  rcases h.val with ⟨rfl, _, _⟩ | ⟨g, rfl, _, hg⟩
  · simp
  · intro e
    injection e with e
    subst e
    rw [hg] at hb
    injection hb with hb
    injection hb with _ hb _
    exact ht hb.symm
theorem Junk.kept {w w1 : World} {J : Option Nat} {jv : Value} {l : List Nat} (h : Junk w J jv l) (hk : ∀ g, J = some g → w1.heap[g]? = w.heap[g]?) : Junk w1 J jv l := by
  rcases h.val with h | ⟨g, e, hv, hg⟩
  · exact ⟨.inl h⟩
  · exact ⟨.inr ⟨g, e, hv, (hk g e).trans hg⟩⟩
theorem At.kept {w w1 : World} {b : Nat} {J : Option Nat} {f : Fl} (h : At w b J f) (hb : w1.heap[b]? = w.heap[b]?) (hk : ∀ g, J = some g → w1.heap[g]? = w.heap[g]?) : At w1 b J f := by
  obtain ⟨jv, h1, h2⟩ := h.blk
  exact ⟨h.ok, jv, hb.trans h1, h2.kept hk⟩
theorem At.jlt {w : World} {b : Nat} {J : Option Nat} {f : Fl} (h : At w b J f) : ∀ g, J = some g → g < w.heap.size := by
  obtain ⟨jv, _, h2⟩ := h.blk
  exact h2.lt
theorem At.below {w w1 : World} {b : Nat} {J : Option Nat} {f : Fl} (h : At w b J f) (hb : Below w.heap.size w w1) : At w1 b J f :=
  h.kept (hb.block b h.lt) (fun g hg => hb.block g (h.jlt g hg))
/-- Another block is written. -/
theorem At.grown {w w1 : World} {b r : Nat} {J : Option Nat} {f : Fl} (h : At w b J f) (hg : w.grownBy w1 (some r)) (hb : b ≠ r) (hJ : J ≠ some r) : At w1 b J f :=
  h.kept (hg.block b h.lt (by simpa using hb)) (fun g e => hg.block g (h.jlt g e) (by rw [← e]; exact hJ))
theorem flashL_get (f : Fl) (jv : Value) (i : Nat) (hi : i < f.cell.length) : (flashL f jv).toArray[5 + i]? = some (byteV (f.cell.getD i 0)) := by
  have : (flashL f jv)[5 + i]? = (f.cell.map byteV)[i]? := by
    rw [flashL, List.getElem?_append_right (by simp)]
    simp
  rw [List.getElem?_toArray, this, List.getElem?_map, List.getElem?_eq_getElem hi]
  simp [List.getD_eq_getElem?_getD, hi]
end Go.Proofs.Ytngmnceahhlpkaa
