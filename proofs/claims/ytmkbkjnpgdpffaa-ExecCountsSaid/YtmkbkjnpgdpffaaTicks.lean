/- Which jobs are due in a tick, as plain lists: what a plan tells is what the document says. Conditions: each period is 1 at least, each phase 0 at least. -/
import Derived.Test.YtmkbkjnpgdpffaaNew
namespace Go.Proofs.Ytmkbkjnpgdpffaa

def ph (js : List Jb) (k : Nat) : Int := (js.getD k jd).phase
theorem pr_get (js : List Jb) (k : Nat) (h : k < js.length) : pr js k = (js.getD k jd).period := by
  unfold pr
  rw [List.getD_eq_getElem?_getD, List.getD_eq_getElem?_getD, List.getElem?_map, List.getElem?_eq_getElem h]
  rfl
theorem rk_getD (js : List Jb) (k : Nat) (h : k < js.length) : rk js k = (js.getD k jd).rank := by
  unfold rk
  rw [List.getD_eq_getElem?_getD, List.getD_eq_getElem?_getD, List.getElem?_map, List.getElem?_eq_getElem h]
  rfl
/-- A job's next moment, ahead of a tick. -/
def nextAt (js : List Jb) : Nat → Nat → Option Mo
  | 0, k => some (ph js k, k)
  | t + 1, k => (nextAt js t k).bind fun m => if m.1 = (t : Int) then nx js m else some m
/-- What waits ahead of a tick. -/
def At (js : List Jb) (t : Nat) (ms : List Mo) : Prop := ms.Perm ((List.range js.length).filterMap (nextAt js t))
def isB (js : List Jb) (t : Int) (k : Nat) : Bool := decide (ph js k ≤ t) && decide ((t - ph js k) % pr js k = 0)
def Inv (js : List Jb) (t : Nat) (k : Nat) : Option Mo → Prop
  | some m => m.2 = k ∧ (t : Int) ≤ m.1 ∧ pr js k ∣ (m.1 - ph js k) ∧ ph js k ≤ m.1 ∧ (m.1 = ph js k ∨ m.1 < (t : Int) + pr js k)
  | none => ∃ m0, pr js k ∣ (m0 - ph js k) ∧ m0 < (t : Int) ∧ top < m0 + pr js k
theorem inv_all (js : List Jb) (hg : Good js) (k : Nat) (hk : k < js.length) : ∀ t, Inv js t k (nextAt js t k)
  | 0 => by
    have h := hg k hk
    refine ⟨rfl, ?_, ⟨0, by simp⟩, Int.le_refl _, .inl rfl⟩
    exact h.2
  | t + 1 => by
    have h := hg k hk
    have hp := pr_get js k hk
    have ih := inv_all js hg k hk t
    show Inv js (t + 1) k ((nextAt js t k).bind fun m => if m.1 = (t : Int) then nx js m else some m)
    cases hn : nextAt js t k with
    | none =>
      rw [hn] at ih
      obtain ⟨m0, h1, h2, h3⟩ := ih
      exact ⟨m0, h1, by omega, h3⟩
    | some m =>
      rw [hn] at ih
      obtain ⟨h1, h2, h3, h4, h5⟩ := ih
      show Inv js (t + 1) k (if m.1 = (t : Int) then nx js m else some m)
      by_cases e : m.1 = (t : Int)
      · rw [if_pos e]
        unfold nx
        rw [h1]
        by_cases hf : m.1 + pr js k ≤ top
        · rw [if_pos hf]
          refine ⟨rfl, ?_, ?_, ?_, ?_⟩
          · simp only; omega
          · simp only
            rw [show m.1 + pr js k - ph js k = (m.1 - ph js k) + pr js k from by omega]
            exact Int.dvd_add h3 (Int.dvd_refl _)
          · simp only; omega
          · right; simp only; omega
        · rw [if_neg hf]
          exact ⟨m.1, h3, by omega, by omega⟩
      · rw [if_neg e]
        exact ⟨h1, by omega, h3, h4, by omega⟩
theorem dvd_lt {p x : Int} (h : p ∣ x) (h0 : 0 ≤ x) (h1 : x < p) : x = 0 := by
  have e1 := Int.emod_eq_zero_of_dvd h
  have e2 := Int.emod_eq_of_lt h0 h1
  omega
theorem isB_iff (js : List Jb) (t : Int) (k : Nat) : isB js t k = true ↔ ph js k ≤ t ∧ pr js k ∣ (t - ph js k) := by
  unfold isB
  rw [Bool.and_eq_true, decide_eq_true_eq, decide_eq_true_eq]
  exact ⟨fun h => ⟨h.1, Int.dvd_of_emod_eq_zero h.2⟩, fun h => ⟨h.1, Int.emod_eq_zero_of_dvd h.2⟩⟩
theorem next_is (js : List Jb) (hg : Good js) (t k : Nat) (hk : k < js.length) (ht : (t : Int) ≤ top) : (nextAt js t k).bind (fun m => if m.1 = (t : Int) then some m.2 else none) = if isB js t k then some k else none := by
  have hi := inv_all js hg k hk t
  have h := hg k hk
  have hp := pr_get js k hk
  cases hn : nextAt js t k with
  | none =>
    rw [hn] at hi
    obtain ⟨m0, h1, h2, h3⟩ := hi
    rw [if_neg]
    · rfl
    · intro hb
      rw [isB_iff] at hb
      have hd : pr js k ∣ ((t : Int) - m0) := by
        have := Int.dvd_sub hb.2 h1
        rw [show (t : Int) - ph js k - (m0 - ph js k) = (t : Int) - m0 from by omega] at this
        exact this
      have := dvd_lt hd (by omega) (by omega)
      omega
  | some m =>
    rw [hn] at hi
    obtain ⟨h1, h2, h3, h4, h5⟩ := hi
    show (if m.1 = (t : Int) then some m.2 else none) = _
    by_cases hb : isB js t k = true
    · rw [if_pos hb]
      rw [isB_iff] at hb
      rw [if_pos, h1]
      rcases h5 with h5 | h5
      · omega
      · have hd : pr js k ∣ (m.1 - (t : Int)) := by
          have := Int.dvd_sub h3 hb.2
          rw [show m.1 - ph js k - ((t : Int) - ph js k) = m.1 - (t : Int) from by omega] at this
          exact this
        have := dvd_lt hd (by omega) (by omega)
        omega
    · rw [if_neg hb, if_neg]
      intro e
      apply hb
      rw [isB_iff]
      rw [e] at h3 h4
      exact ⟨h4, h3⟩

/-! ### What the document says -/
def place (js : List Jb) (out : List Nat) (r : Int) : Nat → Nat
  | 0 => 0
  | n + 1 => if r < rk js (out.getD n 0) then place js out r n else n + 1
def ins (js : List Jb) (out : List Nat) (i : Nat) : List Nat := out.take (place js out (rk js i) out.length) ++ i :: out.drop (place js out (rk js i) out.length)
def dueTo (js : List Jb) (t : Int) : Nat → List Nat
  | 0 => []
  | i + 1 => if isB js t i then ins js (dueTo js t i) i else dueTo js t i
def due (js : List Jb) (t : Int) : List Nat := dueTo js t js.length
def le2 (js : List Jb) (a b : Nat) : Prop := rk js a < rk js b ∨ rk js a = rk js b ∧ a ≤ b
theorem place_le (js : List Jb) (out : List Nat) (r : Int) : ∀ n, place js out r n ≤ n
  | 0 => Nat.le_refl _
  | n + 1 => by
    unfold place
    split
    · exact Nat.le_trans (place_le js out r n) (by omega)
    · exact Nat.le_refl _
theorem place_spec (js : List Jb) (out : List Nat) (r : Int) : ∀ n, n ≤ out.length → (∀ i, place js out r n ≤ i → i < n → r < rk js (out.getD i 0)) ∧ (0 < place js out r n → rk js (out.getD (place js out r n - 1) 0) ≤ r)
  | 0, _ => ⟨fun i _ h => absurd h (Nat.not_lt_zero _), fun h => absurd h (Nat.lt_irrefl _)⟩
  | n + 1, hn => by
    have ih := place_spec js out r n (by omega)
    by_cases h : r < rk js (out.getD n 0)
    · have e : place js out r (n + 1) = place js out r n := by conv => lhs; unfold place
                                                               rw [if_pos h]
      rw [e]
      refine ⟨fun i h1 h2 => ?_, ih.2⟩
      by_cases e : i = n
      · rw [e]; exact h
      · exact ih.1 i h1 (by omega)
    · have e : place js out r (n + 1) = n + 1 := by conv => lhs; unfold place
                                                    rw [if_neg h]
      rw [e]
      refine ⟨fun i h1 h2 => by omega, fun _ => ?_⟩
      rw [Nat.add_sub_cancel]
      omega
theorem le2_tr {js : List Jb} {a b c : Nat} (h : le2 js a b) (k : le2 js b c) : le2 js a c := by
  unfold le2 at *
  omega
theorem ins_sorted (js : List Jb) (out : List Nat) (i : Nat) (h : out.Pairwise (le2 js)) (hlt : ∀ x ∈ out, x < i) : (ins js out i).Pairwise (le2 js) := by
  have hs := place_spec js out (rk js i) out.length (Nat.le_refl _)
  have hle := place_le js out (rk js i) out.length
  unfold ins
  generalize place js out (rk js i) out.length = p at *
  have hg : ∀ j (hj : j < out.length), out.getD j 0 = out[j] := fun j hj => by rw [List.getD_eq_getElem?_getD, List.getElem?_eq_getElem hj]; rfl
  have hpair := List.pairwise_iff_getElem.1 h
  rw [List.pairwise_append]
  refine ⟨h.sublist (List.take_sublist _ _), ?_, ?_⟩
  · rw [List.pairwise_cons]
    refine ⟨fun x hx => ?_, h.sublist (List.drop_sublist _ _)⟩
    obtain ⟨j, hj, rfl⟩ := List.mem_iff_getElem.1 hx
    rw [List.length_drop] at hj
    rw [List.getElem_drop]
    have := hs.1 (p + j) (by omega) (by omega)
    rw [hg _ (by omega)] at this
    exact .inl this
  · intro x hx y hy
    have hxi : le2 js x i := by
      obtain ⟨j, hj, rfl⟩ := List.mem_iff_getElem.1 hx
      rw [List.length_take] at hj
      rw [List.getElem_take]
      have h1 := hs.2 (by omega)
      rw [hg _ (by omega)] at h1
      have h2 := hlt out[j] (List.getElem_mem _)
      rcases Nat.lt_or_ge j (p - 1) with h3 | h3
      · have h4 := hpair j (p - 1) (by omega) (by omega) h3
        unfold le2 at h4 ⊢
        omega
      · have : j = p - 1 := by omega
        subst this
        unfold le2
        omega
    rcases List.mem_cons.1 hy with rfl | hy
    · exact hxi
    · have hyo : y ∈ out := List.mem_of_mem_drop hy
      obtain ⟨j, hj, rfl⟩ := List.mem_iff_getElem.1 hy
      rw [List.length_drop] at hj
      rw [List.getElem_drop]
      have := hs.1 (p + j) (by omega) (by omega)
      rw [hg _ (by omega)] at this
      exact le2_tr hxi (.inl this)
theorem ins_perm (js : List Jb) (out : List Nat) (i : Nat) : (ins js out i).Perm (out ++ [i]) := by
  unfold ins
  generalize place js out (rk js i) out.length = p
  have h1 : (out.take p ++ i :: out.drop p).Perm (i :: (out.take p ++ out.drop p)) := List.perm_middle
  rw [List.take_append_drop] at h1
  exact h1.trans (List.perm_append_comm (l₁ := [i]) (l₂ := out))
theorem dueTo_ok (js : List Jb) (t : Int) : ∀ i, (dueTo js t i).Pairwise (le2 js) ∧ (dueTo js t i).Perm ((List.range i).filter (isB js t))
  | 0 => ⟨List.Pairwise.nil, List.Perm.refl _⟩
  | i + 1 => by
    have ih := dueTo_ok js t i
    have hlt : ∀ x ∈ dueTo js t i, x < i := fun x hx => List.mem_range.1 (List.mem_filter.1 (ih.2.mem_iff.1 hx)).1
    rw [List.range_succ, List.filter_append]
    by_cases h : isB js t i = true
    · have e : dueTo js t (i + 1) = ins js (dueTo js t i) i := by conv => lhs; unfold dueTo
                                                                  rw [if_pos h]
      rw [e]
      refine ⟨ins_sorted js _ i ih.1 hlt, (ins_perm js _ i).trans ?_⟩
      rw [show List.filter (isB js t) [i] = [i] from by simp [h]]
      exact ih.2.append_right _
    · have e : dueTo js t (i + 1) = dueTo js t i := by conv => lhs; unfold dueTo
                                                       rw [if_neg h]
      rw [e, show List.filter (isB js t) [i] = [] from by simp [h], List.append_nil]
      exact ih

/-! ### What a plan tells -/
theorem filter_map_some {α β : Type} (p : α → Bool) (f : α → β) (l : List α) : (l.filter p).map f = l.filterMap fun a => if p a then some (f a) else none := by
  induction l with
  | nil => rfl
  | cons a l ih =>
    rw [List.filter_cons, List.filterMap_cons]
    by_cases h : p a = true
    · rw [if_pos h, if_pos h, List.map_cons, ih]
    · rw [if_neg h, if_neg h, ih]
theorem fm_congr {α β : Type} {f g : α → Option β} {l : List α} (h : ∀ a ∈ l, f a = g a) : l.filterMap f = l.filterMap g := by
  induction l with
  | nil => rfl
  | cons a l ih =>
    rw [List.filterMap_cons, List.filterMap_cons, h a List.mem_cons_self, ih fun b hb => h b (List.mem_cons_of_mem _ hb)]
theorem range_filter (n : Nat) (p : Nat → Bool) : (List.range n).filter p = (List.range n).filterMap fun k => if p k then some k else none := by
  have := filter_map_some p (fun k : Nat => k) (List.range n)
  rw [List.map_id' ] at this
  exact this
theorem told_due {js : List Jb} (hg : Good js) {t : Nat} (ht : (t : Int) ≤ top) {ms o l : List Mo} (ha : At js t ms) (h : Told js t ms o l) : o.map Prod.snd = due js t := by
  obtain ⟨h1, h2, r, h3, h4, _⟩ := h
  have hd := dueTo_ok js t js.length
  have hf : (ms.filter fun m => decide (m.1 = (t : Int))).Perm o := by
    have := (h3.filter (fun m => decide (m.1 = (t : Int)))).symm
    have eo : o.filter (fun m => decide (m.1 = (t : Int))) = o := List.filter_eq_self.2 (fun x hx => by simp [h2 x hx])
    have er : r.filter (fun m => decide (m.1 = (t : Int))) = [] := List.filter_eq_nil_iff.2 (fun x hx => by have := h4 x hx; simp; omega)
    rw [List.filter_append, eo, er, List.append_nil] at this
    exact this
  have hp : (o.map Prod.snd).Perm ((List.range js.length).filter (isB js t)) := by
    have e1 : ((ms.filter fun m => decide (m.1 = (t : Int))).map Prod.snd).Perm ((((List.range js.length).filterMap (nextAt js t)).filter fun m => decide (m.1 = (t : Int))).map Prod.snd) := (ha.filter _).map _
    rw [filter_map_some, filter_map_some, List.filterMap_filterMap] at e1
    have e2 : (List.range js.length).filterMap (fun k => (nextAt js t k).bind fun a : Mo => if decide (a.1 = (t : Int)) = true then some a.2 else none) = (List.range js.length).filter (isB js t) := by
      rw [range_filter]
      apply fm_congr
      intro k hk
      have := next_is js hg t k (List.mem_range.1 hk) ht
      simp only [decide_eq_true_eq]
      exact this
    rw [e2] at e1
    refine ((hf.map Prod.snd).symm).trans ?_
    rw [filter_map_some]
    exact e1
  refine List.Perm.eq_of_pairwise (le := le2 js) ?_ ?_ hd.1 (hp.trans hd.2.symm)
  · intro a b _ _ h5 h6
    unfold le2 at h5 h6
    omega
  · rw [List.pairwise_map]
    refine h1.imp_of_mem (fun {a b} ha hb hab => ?_)
    rw [mle_iff, h2 a ha, h2 b hb] at hab
    unfold le2
    omega
theorem told_at {js : List Jb} {t : Nat} {ms o l : List Mo} (ha : At js t ms) (h : Told js t ms o l) : At js (t + 1) l := by
  obtain ⟨_, h2, r, h3, h4, h5⟩ := h
  have e1 : (ms.filterMap fun m => if m.1 = (t : Int) then nx js m else some m).Perm l := by
    have e := (h3.filterMap (fun m : Mo => if m.1 = (t : Int) then nx js m else some m)).symm
    rw [List.filterMap_append] at e
    have eo : o.filterMap (fun m : Mo => if m.1 = (t : Int) then nx js m else some m) = o.filterMap (nx js) := fm_congr fun m hm => by rw [if_pos (h2 m hm)]
    have er : r.filterMap (fun m : Mo => if m.1 = (t : Int) then nx js m else some m) = r := by
      have : r.filterMap (fun m : Mo => if m.1 = (t : Int) then nx js m else some m) = r.filterMap some := fm_congr fun m hm => by rw [if_neg (by have := h4 m hm; omega)]
      rw [this, List.filterMap_some]
    rw [eo, er] at e
    exact e.trans (List.perm_append_comm.trans h5.symm)
  have e2 := ha.filterMap (fun m : Mo => if m.1 = (t : Int) then nx js m else some m)
  rw [List.filterMap_filterMap] at e2
  exact e1.symm.trans e2
theorem at_zero (js : List Jb) : At js 0 (ms0 js js.length) := by
  unfold At ms0
  have : (List.range js.length).filterMap (nextAt js 0) = (List.range js.length).map fun i => ((js.getD i jd).phase, i) := by
    rw [← List.filterMap_eq_map]
    rfl
  rw [this]
theorem at_job {js : List Jb} (hg : Good js) {t : Nat} {ms : List Mo} (ha : At js t ms) : ∀ m ∈ ms, m.2 < js.length ∧ (t : Int) ≤ m.1 := by
  intro m hm
  obtain ⟨k, hk, he⟩ := List.mem_filterMap.1 (ha.mem_iff.1 hm)
  have hk := List.mem_range.1 hk
  have hi := inv_all js hg k hk t
  rw [he] at hi
  obtain ⟨h1, h2, _⟩ := hi
  exact ⟨by omega, h2⟩
theorem at_len {js : List Jb} {t : Nat} {ms : List Mo} (ha : At js t ms) : ms.length ≤ js.length := by
  have := List.length_filterMap_le (nextAt js t) (List.range js.length)
  rw [← ha.length_eq, List.length_range] at this
  exact this
end Go.Proofs.Ytmkbkjnpgdpffaa
