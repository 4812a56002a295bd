/- Which events wait, in their order; the first one that leads away: lists alone. No condition. -/
import Derived.Test.YtgbogbmjefbkeaaPlain
import Derived.Test.YtgbogbmjefbkeaaHeap
namespace Go.Proofs.Ytgbogbmjefbkeaa
open Go.RowKit
/-- The events of the k highest places, as they are pushed. -/
def coll (ev : Int) : Nat → List Int
  | 0 => []
  | k + 1 => if hasB ev (17 - k) then coll ev k ++ [((17 - k : Nat) : Int)] else coll ev k
theorem coll_len (ev : Int) : ∀ k, (coll ev k).length ≤ k
  | 0 => Nat.le_refl _
  | k + 1 => by
    have := coll_len ev k
    unfold coll
    split
    · rw [List.length_append]
      simp only [List.length_singleton]
      omega
    · omega
/-- Events from e on, n places, ascending. -/
def ascF (ev : Int) : Nat → Nat → List Nat
  | _, 0 => []
  | e, n + 1 => if hasB ev e then e :: ascF ev (e + 1) n else ascF ev (e + 1) n
theorem asc_lo (ev : Int) : ∀ (n e : Nat), ∀ y ∈ ascF ev e n, e ≤ y
  | 0, _, y, h => by cases h
  | n + 1, e, y, h => by
    unfold ascF at h
    split at h
    · rcases List.mem_cons.1 h with rfl | h
      · exact Nat.le_refl _
      · have := asc_lo ev n (e + 1) y h
        omega
    · have := asc_lo ev n (e + 1) y h
      omega
theorem asc_hi (ev : Int) : ∀ (n e : Nat), ∀ y ∈ ascF ev e n, y < e + n
  | 0, _, y, h => by cases h
  | n + 1, e, y, h => by
    unfold ascF at h
    split at h
    · rcases List.mem_cons.1 h with rfl | h
      · omega
      · have := asc_hi ev n (e + 1) y h
        omega
    · have := asc_hi ev n (e + 1) y h
      omega
def Asc (l : List Nat) : Prop := l.Pairwise (fun a b => a ≤ b)
theorem asc_sorted (ev : Int) : ∀ (n e : Nat), Asc (ascF ev e n)
  | 0, _ => List.Pairwise.nil
  | n + 1, e => by
    unfold ascF
    split
    · exact List.pairwise_cons.2 ⟨fun y hy => by have := asc_lo ev n (e + 1) y hy; omega, asc_sorted ev n (e + 1)⟩
    · exact asc_sorted ev n (e + 1)
def toI (l : List Nat) : List Int := l.map fun (n : Nat) => (n : Int)
theorem coll_perm (ev : Int) : ∀ k, k ≤ 18 → (coll ev k).Perm (toI (ascF ev (18 - k) k))
  | 0, _ => List.Perm.refl _
  | k + 1, h => by
    have ih := coll_perm ev k (by omega)
    have e1 : 18 - (k + 1) = 17 - k := by omega
    have e2 : 17 - k + 1 = 18 - k := by omega
    rw [e1]
    unfold coll ascF
    rw [e2]
    split
    · exact (List.perm_append_comm (l₂ := [((17 - k : Nat) : Int)])).trans (List.Perm.cons _ ih)
    · exact ih
def firstL (m : Int) : List Nat → Option Nat
  | [] => none
  | e :: es => if nextF m (e : Int) != m then some e else firstL m es
theorem first_asc (m ev : Int) : ∀ (n e : Nat), first m ev e n = firstL m (ascF ev e n)
  | 0, _ => rfl
  | n + 1, e => by
    unfold first ascF
    cases hh : hasB ev e with
    | false =>
      simp only [Bool.false_and, Bool.false_eq_true, if_false]
      exact first_asc m ev n (e + 1)
    | true =>
      simp only [Bool.true_and, if_true]
      unfold firstL
      split
      · rfl
      · exact first_asc m ev n (e + 1)
/-- The least of a heap is the first of the sorted list. -/
theorem heap_head {ms : List Int} {e : Nat} {rest : List Nat} (hp : ms.Perm (toI (e :: rest))) (hs : Asc (e :: rest)) (hh : HeapFrom (fun (a b : Int) => a ≤ b) 0 ms ms.length 0) : ms.getD 0 0 = (e : Int) ∧ 0 < ms.length := by
  have hl : ms.length = rest.length + 1 := by rw [hp.length_eq]; simp [toI]
  have h0 : 0 < ms.length := by omega
  have hmin := heap_least (d := (0 : Int)) (le := fun (a b : Int) => a ≤ b) (fun a b c => Int.le_trans) (fun a => Int.le_refl a) hh
  have hm0 : ms.getD 0 0 ∈ ms := by
    rw [List.getD_eq_getElem?_getD, List.getElem?_eq_getElem h0]
    exact List.getElem_mem h0
  have h1 : (e : Int) ≤ ms.getD 0 0 := by
    have := hp.mem_iff.1 hm0
    obtain ⟨y, hy, he⟩ := List.mem_map.1 this
    rw [← he]
    rcases List.mem_cons.1 hy with rfl | hy
    · exact Int.le_refl _
    · have := (List.pairwise_cons.1 hs).1 y hy
      omega
  have h2 : ms.getD 0 0 ≤ (e : Int) := by
    have hin : (e : Int) ∈ ms := hp.mem_iff.2 (List.mem_map.2 ⟨e, List.mem_cons_self .., rfl⟩)
    obtain ⟨k, hk, hek⟩ := List.getElem_of_mem hin
    have := hmin k hk
    rw [List.getD_eq_getElem?_getD (l := ms) (i := k), List.getElem?_eq_getElem hk, Option.getD_some, hek] at this
    exact this
  exact ⟨by omega, h0⟩
theorem pow_wrap {e : Nat} (h : e ≤ 5) : IntKind.i64.wrap ((2 : Int) ^ e) = (2 : Int) ^ e := by
  have : e = 0 ∨ e = 1 ∨ e = 2 ∨ e = 3 ∨ e = 4 ∨ e = 5 := by omega
  rcases this with rfl | rfl | rfl | rfl | rfl | rfl <;> decide
theorem or_at0 : ∀ l : Fin 64, bits .or .i64 (l.val : Int) ((2 : Int) ^ 0) = (orL l.val 0 : Int) := by decide +kernel
theorem or_at1 : ∀ l : Fin 64, bits .or .i64 (l.val : Int) ((2 : Int) ^ 1) = (orL l.val 1 : Int) := by decide +kernel
theorem or_at2 : ∀ l : Fin 64, bits .or .i64 (l.val : Int) ((2 : Int) ^ 2) = (orL l.val 2 : Int) := by decide +kernel
theorem or_at4 : ∀ l : Fin 64, bits .or .i64 (l.val : Int) ((2 : Int) ^ 4) = (orL l.val 4 : Int) := by decide +kernel
theorem or_at5 : ∀ l : Fin 64, bits .or .i64 (l.val : Int) ((2 : Int) ^ 5) = (orL l.val 5 : Int) := by decide +kernel
theorem stays_cases {e : Nat} (h : staysB e = true) : e = 0 ∨ e = 1 ∨ e = 2 ∨ e = 4 ∨ e = 5 := by
  unfold staysB at h
  simp only [Bool.or_eq_true, beq_iff_eq] at h
  omega
theorem or_at {l e : Nat} (hl : l < 64) (h : staysB e = true) : bits .or .i64 (l : Int) ((2 : Int) ^ e) = (orL l e : Int) := by
  rcases stays_cases h with rfl | rfl | rfl | rfl | rfl
  · exact or_at0 ⟨l, hl⟩
  · exact or_at1 ⟨l, hl⟩
  · exact or_at2 ⟨l, hl⟩
  · exact or_at4 ⟨l, hl⟩
  · exact or_at5 ⟨l, hl⟩
theorem orL_lt0 : ∀ l : Fin 64, orL l.val 0 < 64 ∧ orL l.val 1 < 64 ∧ orL l.val 2 < 64 ∧ orL l.val 4 < 64 ∧ orL l.val 5 < 64 := by decide +kernel
theorem orL_lt {l e : Nat} (hl : l < 64) (h : staysB e = true) : orL l e < 64 := by
  have := orL_lt0 ⟨l, hl⟩
  rcases stays_cases h with rfl | rfl | rfl | rfl | rfl
  · exact this.1
  · exact this.2.1
  · exact this.2.2.1
  · exact this.2.2.2.1
  · exact this.2.2.2.2
theorem latOn_lt {l e : Nat} {f : Bool} {ev : Int} (hl : l < 64) : latOn l f ev e < 64 := by
  unfold latOn
  split
  · rename_i h
    simp only [Bool.and_eq_true] at h
    exact orL_lt hl h.2
  · exact hl
theorem latD_lt {l : Nat} {f : Bool} {ev : Int} (hl : l < 64) : ∀ k, latD l f ev k < 64
  | 0 => hl
  | k + 1 => latOn_lt (latD_lt hl k)
end Go.Proofs.Ytgbogbmjefbkeaa
