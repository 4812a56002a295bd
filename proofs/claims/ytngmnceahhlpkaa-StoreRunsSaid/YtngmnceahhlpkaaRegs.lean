/- A region that draws its order, by an invariant: whichever operation comes up keeps it; at the end all have come up. Plain lemmas over any program; no condition. -/
import Derived.StillTail
import Derived.RegionTactic
namespace Go.Proofs.Ytngmnceahhlpkaa
section
variable {P : Program} {ops : Array Oper} {Q : Exit → Act → World → Prop} {md : Region.Mode}
/-- Each operation waits for earlier ones alone. -/
def sortedB (ops : Array Oper) : Bool := (List.range ops.size).all fun j => ((ops[j]?).map fun o => o.after.all fun e => decide (e.on < j)).getD true
theorem all_listed (hs : sortedB ops = true) {listed : Array Bool} (hr : Region.ready md ops listed = []) : ∀ j, j < ops.size → listed.getD j true = true := by
  intro j
  induction j using Nat.strongRecOn with
  | ind j ih =>
    intro hj
    cases hl : listed.getD j true with
    | true => rfl
    | false =>
      exfalso
      have hm : j ∈ Region.ready md ops listed := by
        rw [mem_ready]
        refine ⟨hl, ops[j], Array.getElem?_eq_getElem hj, fun e he _ => ?_⟩
        have h1 := List.all_eq_true.1 hs j (List.mem_range.2 hj)
        rw [Array.getElem?_eq_getElem hj] at h1
        simp only [Option.map_some, Option.getD_some, Array.all_eq_true_iff_forall_mem, decide_eq_true_eq] at h1
        have he2 := h1 e he
        have h2 := ih e.on he2 (by omega)
        rcases Nat.lt_or_ge e.on listed.size with h' | h'
        · simp [h'] at h2 ⊢
          exact h2
        · exfalso
          have h3 : listed.getD j true = true := by simp [Array.getElem?_eq_none (show listed.size ≤ j by omega)]
          rw [h3] at hl
          cases hl
      rw [hr] at hm
      cases hm
theorem ready_dep {j i : Nat} {listed : Array Bool} (h : j ∈ Region.ready md ops listed) (hw : Region.waitsFor md ops j i = true) : listed.getD i false = true := by
  obtain ⟨oj, ho, e, he, hb, hi⟩ := Region.waitsFor_spec hw
  obtain ⟨_, o, ho2, hall⟩ := mem_ready.1 h
  rw [ho] at ho2
  injection ho2 with ho2
  subst ho2
  rw [← hi]
  exact hall e he hb
theorem ready_lt {j : Nat} {listed : Array Bool} (h : j ∈ Region.ready md ops listed) : j < ops.size := by
  obtain ⟨_, o, ho, _⟩ := mem_ready.1 h
  exact (Array.getElem?_eq_some_iff.1 ho).1
/-- How many have not come up. -/
def undone (listed : Array Bool) : Nat := (listed.toList.filter fun b => !b).length
theorem undone_set {listed : Array Bool} {i : Nat} (hi : listed.getD i true = false) : undone (listed.setIfInBounds i true) + 1 = undone listed := by
  have hlt : i < listed.size := by
    rcases Nat.lt_or_ge i listed.size with h | h
    · exact h
    · simp [Array.getElem?_eq_none h] at hi
  unfold undone
  rw [Array.toList_setIfInBounds]
  have hl : i < listed.toList.length := by simpa using hlt
  have hv : listed.toList[i] = false := by
    simp [hlt] at hi
    simpa using hi
  have h1 : listed.toList.set i true = listed.toList.take i ++ true :: listed.toList.drop (i + 1) := List.set_eq_take_append_cons_drop ▸ (if_pos hl)
  have h2 : listed.toList = listed.toList.take i ++ listed.toList[i] :: listed.toList.drop (i + 1) := by
    rw [List.getElem_cons_drop, List.take_append_drop]
  rw [h1]
  conv => rhs; rw [h2]
  rw [List.filter_append, List.filter_append, List.length_append, List.length_append, List.filter_cons, List.filter_cons, hv]
  simp
  omega
theorem wpAny_inv (I : Array Bool → Act → World → Prop)
    (step : ∀ listed a w i, I listed a w → i ∈ Region.ready md ops listed → wpOp P ops Q i (I (listed.setIfInBounds i true)) a w)
    (fin : ∀ listed a w, I listed a w → Region.ready md ops listed = [] → Q .normal a w) :
    ∀ (fuel : Nat) (listed : Array Bool) (a : Act) (w : World), undone listed ≤ fuel → I listed a w → wpAny P md ops Q fuel listed a w
  | 0, listed, a, w, hu, h => by
    have hr : Region.ready md ops listed = [] := by
      cases hc : Region.ready md ops listed with
      | nil => rfl
      | cons i l =>
        exfalso
        have hm : i ∈ Region.ready md ops listed := by rw [hc]; exact List.mem_cons_self ..
        have := undone_set (mem_ready.1 hm).1
        omega
    exact ⟨hr, fin _ _ _ h hr⟩
  | fuel + 1, listed, a, w, hu, h => by
    refine ⟨fin _ _ _ h, fun i hi => ?_⟩
    refine wpOp_mono (fun a' w' h' => wpAny_inv I step fin fuel _ a' w' ?_ h') (step listed a w i h hi)
    have := undone_set (mem_ready.1 hi).1
    omega
theorem undone_start (n : Nat) : undone (Array.replicate n false) = n := by
  unfold undone
  simp
/-- The region: from what holds behind the draw, by an invariant. -/
theorem wp_region_inv {id : Nat} {a : Act} {w : World} (I : Array Bool → Act → World → Prop) (hm : P.follows .mixedOrders = true) (h0 : I (Array.replicate ops.size false) a w.drew)
    (step : ∀ listed a w i, I listed a w → i ∈ Region.ready .any ops listed → wpOp P ops Q i (I (listed.setIfInBounds i true)) a w)
    (fin : ∀ listed a w, I listed a w → Region.ready .any ops listed = [] → Q .normal a w) : (Code.region id ops true).wp P Q a w :=
  wp_region_any hm (wpAny_inv I step fin ops.size _ a _ (by rw [undone_start]; exact Nat.le_refl _) h0)
/-! ### The frame, slot by slot -/
def Fr (ds : List Nat) (a : Act) (g : Nat → Value) : Act := ds.foldl (fun a d => a.put (some d) (g d)) a
def putS (g : Nat → Value) (d : Nat) (v : Value) : Nat → Value := fun n => if n = d then v else g n
theorem put_back (a : Act) (d : Nat) : a.put (some d) (a.tmps.getD d undef) = a := by
  unfold Act.put
  obtain ⟨tmps, defers⟩ := a
  simp only [Act.mk.injEq, and_true]
  apply Array.ext_getElem?
  intro i
  rw [Array.getElem?_setIfInBounds]
  by_cases h : d = i
  · subst h
    rw [if_pos rfl]
    by_cases hl : d < tmps.size
    · rw [if_pos hl]
      simp [hl]
    · rw [if_neg hl]
      simp [Array.getElem?_eq_none (Nat.le_of_not_lt hl)]
  · rw [if_neg h]
theorem fr_back (a : Act) : ∀ ds : List Nat, Fr ds a (fun d => a.tmps.getD d undef) = a
  | [] => rfl
  | d :: ds => by
    show Fr ds (a.put (some d) (a.tmps.getD d undef)) (fun d => a.tmps.getD d undef) = a
    rw [put_back]
    exact fr_back a ds
theorem wp_region_fr {id : Nat} {a : Act} {w : World} (ds : List Nat) (I : Array Bool → (Nat → Value) → World → Prop) (hm : P.follows .mixedOrders = true) (h0 : I (Array.replicate ops.size false) (fun d => a.tmps.getD d undef) w.drew)
    (step : ∀ listed g u i, I listed g u → i ∈ Region.ready .any ops listed → ∀ K : Act → World → Prop, (∀ g' u', I (listed.setIfInBounds i true) g' u' → K (Fr ds a g') u') → wpOp P ops Q i K (Fr ds a g) u)
    (fin : ∀ listed g u, I listed g u → Region.ready .any ops listed = [] → Q .normal (Fr ds a g) u) : (Code.region id ops true).wp P Q a w := by
  refine wp_region_inv (fun listed a' u => ∃ g, a' = Fr ds a g ∧ I listed g u) hm ⟨_, (fr_back a ds).symm, h0⟩ ?_ ?_
  · rintro listed _ u i ⟨g, rfl, h⟩ hi
    exact step listed g u i h hi _ (fun g' u' h' => ⟨g', rfl, h'⟩)
  · rintro listed _ u ⟨g, rfl, h⟩ hr
    exact fin listed g u h hr
end
end Go.Proofs.Ytngmnceahhlpkaa
