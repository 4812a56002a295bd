/- What a store does with a record that it has found: Boot's closure. Conditions: the store lies in memory. -/
import Derived.Test.YtngmnceahhlpkaaSt1
import Derived.Deep.CutBlock
import Derived.Deep.RegionWith
namespace Go.Proofs.Ytngmnceahhlpkaa
open Go.RowKit
theorem keep_is (k : Kept) (i j : Nat) (t : ByteArray) : St.is (St.keep k i t j) = if j = i then true else St.is (k j) := by
  unfold St.keep
  split <;> rfl
theorem keep_txt (k : Kept) (i j : Nat) (t : ByteArray) : St.txt (St.keep k i t j) = if j = i then t else St.txt (k j) := by
  unfold St.keep
  split <;> rfl
theorem St.Ok.keep {s : St} (h : s.Ok) (i : Nat) {t : ByteArray} (ht : t.size ≤ 2000) : ({ s with k := St.keep s.k i t } : St).Ok :=
  ⟨h.act, h.code, h.fin, fun j u hu => by
    have hu2 : (if j = i then some t else s.k j) = some u := hu
    split at hu2
    · injection hu2 with hu2
      rw [← hu2]
      exact ht
    · exact h.k j u hu2⟩
/-- The variable that Boot's closure holds. -/
def VarAt (w : World) (vb sb : Nat) : Prop := w.heap[vb]? = some (.cells #[.pointer (some ⟨sb, 0, none⟩)] 49)
def FoundPost (w : World) (sb fb : Nat) (s : St) (i : Nat) (t : ByteArray) (e : Ending) (w' : World) : Prop :=
  e = .returned (.tuple #[]) ∧ StAt w' sb fb { s with k := St.keep s.k i t } ∧ w.grownBy w' (some sb)
theorem grown_refl (w : World) (r : Option Nat) : w.grownBy w r := ⟨rfl, rfl, rfl, Nat.le_refl _, fun _ _ _ => rfl⟩
theorem StAt.found {w : World} {sb fb : Nat} {s : St} (h : StAt w sb fb s) (i : Nat) (hi : i < 3) (t : ByteArray) (ht : t.size ≤ 2000) :
    StAt ((w.setCell ⟨sb, 4 + 2 * i, none⟩ (.bool true)).setCell ⟨sb, 4 + 2 * i + 1, none⟩ (.string t)) sb fb { s with k := St.keep s.k i t } := by
  have h1 := heap_setCell_at (heap_setCell_at h.blk (4 + 2 * i) (.bool true)) (4 + 2 * i + 1) (.string t)
  refine ⟨h1.trans ?_, h.ok.keep i ht⟩
  have hc : i = 0 ∨ i = 1 ∨ i = 2 := by omega
  rcases hc with rfl | rfl | rfl
  · simp [stA, keep_is, keep_txt]
  · simp [stA, keep_is, keep_txt]
  · simp [stA, keep_is, keep_txt]
set_option maxRecDepth 100000 in
set_option maxHeartbeats 1000000 in
theorem found_any (w : World) (vb sb fb : Nat) (s : St) (i : Nat) (t : ByteArray) (h : StAt w sb fb s) (hv : VarAt w vb sb) (hi : i < 3) (ht : t.size ≤ 2000) :
    Calls Try.prog 54 #[.int .i64 (i : Int), .string t, .pointer (some ⟨vb, 0, none⟩)] w (FoundPost w sb fb s i t) := by
  have HF : Hid (FoundPost w sb fb s i t (.returned (.tuple #[])) ((w.setCell ⟨sb, 4 + 2 * i, none⟩ (.bool true)).setCell ⟨sb, 4 + 2 * i + 1, none⟩ (.string t))) :=
    ⟨rfl, h.found i hi t ht, grown_set (grown_set (grown_refl w (some sb)) _ _) _ _⟩
  have v0 : w.cell? ⟨vb, 0, none⟩ = some (.pointer (some ⟨sb, 0, none⟩)) := cell_at hv 0
  have k4 : w.cell? ⟨sb, 4, none⟩ = some (.bool (St.is (s.k 0))) := cell_at h.blk 4
  have k5 : w.cell? ⟨sb, 5, none⟩ = some (.string (St.txt (s.k 0))) := cell_at h.blk 5
  have k6 : w.cell? ⟨sb, 6, none⟩ = some (.bool (St.is (s.k 1))) := cell_at h.blk 6
  have k7 : w.cell? ⟨sb, 7, none⟩ = some (.string (St.txt (s.k 1))) := cell_at h.blk 7
  have k8 : w.cell? ⟨sb, 8, none⟩ = some (.bool (St.is (s.k 2))) := cell_at h.blk 8
  have k9 : w.cell? ⟨sb, 9, none⟩ = some (.string (St.txt (s.k 2))) := cell_at h.blk 9
  have f4 := free_at h.blk 4
  have f5 := free_at h.blk 5
  have f6 := free_at h.blk 6
  have f7 := free_at h.blk 7
  have f8 := free_at h.blk 8
  have f9 := free_at h.blk 9
  clear h hv
  have hc : i = 0 ∨ i = 1 ∨ i = 2 := by omega
  rcases hc with rfl | rfl | rfl
  · go_enter Try.func54, Try.ntmps54
    go_wp2_with fail
    go_end0
    exact HF.out
  · go_enter Try.func54, Try.ntmps54
    go_wp2_with fail
    go_end0
    exact HF.out
  · go_enter Try.func54, Try.ntmps54
    go_wp2_with fail
    go_end0
    exact HF.out
end Go.Proofs.Ytngmnceahhlpkaa
