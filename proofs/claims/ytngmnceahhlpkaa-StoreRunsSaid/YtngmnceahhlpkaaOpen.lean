/- How an argument that is a list reads: no element, or its cells, element by element; and how long it may be. Plain lemmas over any program; no condition. -/
import Derived.SizedLaws
import Derived.ChangeSlices
import Derived.Deep.Slices
import Derived.Deep.Fields
namespace Go.Proofs.Ytngmnceahhlpkaa
open Go.ChangeShapes Go.WideShapes Go.Deep

theorem plain_add {a : Addr} (h : a.spot = none) (j : Nat) : a.add j = ⟨a.block, a.off + j, none⟩ := by
  unfold Addr.add
  split
  · rename_i h0; subst h0; cases a; simp_all
  · rfl

theorem weights_in {H : Type} {P : Program} {e : TypeId} : ∀ {l : List (DataW H)} {d : DataW H}, d ∈ l → ∀ q ∈ d.weights P e, q ∈ DataW.weightsAll P e l
  | x :: l, d, h, q, hq => by
    simp only [DataW.weightsAll, List.mem_append]
    rcases List.mem_cons.1 h with rfl | h
    · exact .inl hq
    · exact .inr (weights_in h q hq)
/-- A list that is read: its values, element by element. -/
theorem slice_cells {H : Type} {enc : TypeId × Value → H} {P : Program} {w : World} {t e : TypeId} {C : Nat} {a : Option Addr} {len cap : Nat} {d : DataW H} {p : List MemPlace}
    (ht : P.underlying t = some (.slice e)) (hC : P.cellsOf e = C) (hC0 : 0 < C) (h : DataW.Trod enc P w 0 (fun _ => true) true t (.slice a len cap) d p) :
    len = 0 ∨ ∃ b off, a = some ⟨b, off, none⟩ ∧ b < w.heap.size ∧ 0 < len ∧ len ≤ cap ∧ cap ≤ maxLen ∧
      ∀ i, i < len → ∃ (cs : List Value) (n : Nat) (x : DataW H × List MemPlace), cs.length = C ∧ (∀ j, j < C → w.cell? ⟨b, off + i * C + j, none⟩ = cs[j]?) ∧ DataW.trod enc P w 0 (fun _ => true) true n e cs = some x ∧ ∀ q ∈ x.1.weights P e, q ∈ d.weights P t := by
  obtain ⟨fuel, hf⟩ := h
  rcases open_slice ht hf with ⟨hcs, _⟩ | ⟨ad, l, c, m, n, D, Pl, hcs, _, hl, hm, hmm, hx, hi⟩
  · simp [Value.cells] at hcs
    exact .inl hcs.2.1
  · simp [Value.cells] at hcs
    obtain ⟨rfl, rfl, rfl⟩ := hcs
    rcases Nat.eq_zero_or_pos len with h0 | h0
    · exact .inl h0
    · right
      have hle : len ≤ m := by rw [hmm]; simp; exact hl
      have hall : ∀ i, i < len → ∃ (cs : List Value), cs.length = C ∧ (∀ j, j < C → w.cell? ((ad.add (i * C)).add j) = cs[j]?) ∧ DataW.trod enc P w 0 (fun _ => true) true n e cs = some (D i, Pl i) := by
        intro i hil
        obtain ⟨cs, hc, hd⟩ := hi i (by omega)
        obtain ⟨_, hlen, hat⟩ := World.cells?_some hc
        rw [hC] at hlen hat
        exact ⟨cs, hlen, hat, hd⟩
      have hsp : ad.spot = none := by
        obtain ⟨cs, hlen, hat, _⟩ := hall 0 h0
        have h1 := hat 0 hC0
        rw [List.getElem?_eq_getElem (by omega)] at h1
        simp only [Nat.zero_mul] at h1
        have h2 : ((ad.add 0).add 0) = ad := by simp [Addr.add]
        rw [h2] at h1
        exact World.cell?_spot h1
      obtain ⟨b, off, spot⟩ := ad
      simp only at hsp
      subst hsp
      have hb : b < w.heap.size := by
        obtain ⟨cs, hlen, hat, _⟩ := hall 0 h0
        have h1 := hat 0 hC0
        rw [List.getElem?_eq_getElem (by omega)] at h1
        have := World.block_lt_of_cell? _ _ h1
        simpa [Addr.add] using this
      refine ⟨b, off, rfl, hb, h0, hl, hm, fun i hil => ?_⟩
      obtain ⟨cs, hlen, hat, hd⟩ := hall i hil
      refine ⟨cs, n, _, hlen, fun j hj => ?_, hd, fun q hq => ?_⟩
      rotate_left
      · obtain ⟨hx, _⟩ := Prod.mk.inj hx
        subst hx
        simp only [DataW.weights, ht, List.mem_cons, List.mem_append]
        exact .inr (.inl (weights_in (List.mem_map.2 ⟨i, List.mem_range.2 hil, rfl⟩) q hq))
      have := hat j hj
      rw [plain_add (a := ⟨b, off, none⟩) rfl, plain_add (a := ⟨b, off + i * C, none⟩) rfl] at this
      exact this

/-- How long a list may be that lies in memory. -/
theorem slice_sized {H : Type} {enc : TypeId × Value → H} {P : Program} {w : World} {t e : TypeId} {a : Option Addr} {len cap : Nat} {d : DataW H} {p : List MemPlace} {ts : List TypeId} {ds : List (DataW H)} {j : Nat}
    (hsz : (DataW.weightsEach P ts ds).all (· ≤ reachBytes) = true) (hj : ts[j]? = some t) (hd : ds[j]? = some d) (ht : P.underlying t = some (.slice e)) {B : Nat} (hB : P.bytesOf e = B)
    (h : DataW.Trod enc P w 0 (fun _ => true) true t (.slice a len cap) d p) : len * B ≤ 140737488351232 := by
  obtain ⟨fuel, hf⟩ := h
  rcases open_slice ht hf with ⟨hcs, _⟩ | ⟨ad, l, c, m, n, D, Pl, hcs, _, hl, hm, hmm, hx, _⟩
  · simp [Value.cells] at hcs
    obtain ⟨rfl, rfl, rfl⟩ := hcs
    simp
  · simp [Value.cells] at hcs
    obtain ⟨rfl, rfl, rfl⟩ := hcs
    obtain ⟨hx, _⟩ := Prod.mk.inj hx
    subst hx
    have z := sized_slice hsz hj hd ht
    rw [hB] at z
    have hle : len ≤ ((List.range len).map D).length + ((List.range (m - len)).map fun j => D (len + j)).length := by simp
    exact Nat.le_trans (Nat.mul_le_mul_right _ hle) z
end Go.Proofs.Ytngmnceahhlpkaa
