/- What a tick does to a plan's moments, as plain lists. No condition. -/
import Derived.Test.YtmkbkjnpgdpffaaBase
import Derived.IntWalk
namespace Go.Proofs.Ytmkbkjnpgdpffaa

def pr (js : List Jb) (k : Nat) : Int := (js.map Jb.period).getD k 0
def top : Int := 9223372036854775807
/-- A job's next moment, if there is one. -/
def nx (js : List Jb) (m : Mo) : Option Mo := if m.1 + pr js m.2 ≤ top then some (m.1 + pr js m.2, m.2) else none
/-- o has been told, of ms; l is what waits. -/
def Sim (js : List Jb) (now : Int) (ms o l : List Mo) : Prop :=
  (∃ r, (o ++ r).Perm ms ∧ l.Perm (r ++ o.filterMap (nx js)) ∧ ∀ x ∈ o, ∀ y ∈ r, mle js x y) ∧ o.Pairwise (mle js) ∧ ∀ x ∈ o, x.1 = now
theorem Sim.start (js : List Jb) (now : Int) (ms : List Mo) : Sim js now ms [] ms :=
  ⟨⟨ms, List.Perm.refl _, by simp, fun x hx => nomatch hx⟩, List.Pairwise.nil, fun x hx => nomatch hx⟩
theorem nx_some {js : List Jb} {m x : Mo} (h : nx js m = some x) : x = (m.1 + pr js m.2, m.2) := by
  unfold nx at h
  split at h
  · injection h with h; exact h.symm
  · cases h
/-- A round: the first one is due. -/
theorem Sim.step {js : List Jb} {now : Int} {ms o l : List Mo} {m : Mo} (h : Sim js now ms o l) (hpos : ∀ x ∈ ms, 1 ≤ pr js x.2) (hm : m ∈ l) (hnow : m.1 = now) (hmin : ∀ x ∈ l, mle js m x)
    {l2 : List Mo} (hl2 : ∃ s, (m :: s).Perm l ∧ l2.Perm (s ++ (nx js m).toList)) : Sim js now ms (o ++ [m]) l2 ∧ o.length < ms.length ∧ 1 ≤ pr js m.2 := by
  obtain ⟨⟨r, h1, h2, h3⟩, h4, h5⟩ := h
  have hmr : m ∈ r := by
    rcases List.mem_append.1 (h2.mem_iff.1 hm) with h | h
    · exact h
    · exfalso
      obtain ⟨x, hx, he⟩ := List.mem_filterMap.1 h
      have e := nx_some he
      have h6 := h5 x hx
      have h7 := hpos x (h1.mem_iff.1 (List.mem_append_left _ hx))
      rw [e] at hnow
      simp only at hnow
      omega
  obtain ⟨s, hs1, hs2⟩ := hl2
  have hr : r.Perm (m :: r.erase m) := List.perm_cons_erase hmr
  have hlr : ∀ x ∈ r, x ∈ l := fun x hx => h2.mem_iff.2 (List.mem_append_left _ hx)
  have hs : s.Perm (r.erase m ++ o.filterMap (nx js)) := by
    have : (m :: s).Perm (m :: (r.erase m ++ o.filterMap (nx js))) := (hs1.trans h2).trans (hr.append_right _)
    exact List.Perm.cons_inv this
  refine ⟨⟨⟨r.erase m, ?_, ?_, ?_⟩, ?_, ?_⟩, ?_, hpos m (h1.mem_iff.1 (List.mem_append_right _ hmr))⟩
  · rw [List.append_assoc]
    exact (List.Perm.append_left o hr.symm).trans h1
  · rw [List.filterMap_append]
    have : l2.Perm ((r.erase m ++ o.filterMap (nx js)) ++ (nx js m).toList) := hs2.trans (hs.append_right _)
    rw [List.append_assoc] at this
    have e : List.filterMap (nx js) [m] = (nx js m).toList := by
      cases h : nx js m <;> simp [h]
    rw [e]
    exact this
  · intro x hx y hy
    have hy' : y ∈ r := List.mem_of_mem_erase hy
    rcases List.mem_append.1 hx with hx | hx
    · exact h3 x hx y hy'
    · rw [List.mem_singleton.1 hx]
      exact hmin y (hlr y hy')
  · rw [List.pairwise_append]
    refine ⟨h4, List.pairwise_singleton _ _, fun x hx y hy => ?_⟩
    rw [List.mem_singleton.1 hy]
    exact h3 x hx m hmr
  · intro x hx
    rcases List.mem_append.1 hx with hx | hx
    · exact h5 x hx
    · rw [List.mem_singleton.1 hx]; exact hnow
  · have := h1.length_eq
    rw [List.length_append] at this
    have h0 : 0 < r.length := List.length_pos_of_mem hmr
    omega
/-- What a tick tells, and what waits behind it. -/
def Told (js : List Jb) (now : Int) (ms o l : List Mo) : Prop :=
  o.Pairwise (mle js) ∧ (∀ x ∈ o, x.1 = now) ∧ ∃ r, (o ++ r).Perm ms ∧ (∀ x ∈ r, now < x.1) ∧ l.Perm (r ++ o.filterMap (nx js))
theorem Sim.told {js : List Jb} {now : Int} {ms o l : List Mo} (h : Sim js now ms o l) (hend : ∀ x ∈ l, now < x.1) : Told js now ms o l := by
  obtain ⟨⟨r, h1, h2, _⟩, h4, h5⟩ := h
  exact ⟨h4, h5, r, h1, fun x hx => hend x (h2.mem_iff.2 (List.mem_append_left _ hx)), h2⟩
theorem Sim.later {js : List Jb} {now : Int} {ms o l : List Mo} (h : Sim js now ms o l) (hpos : ∀ x ∈ ms, 1 ≤ pr js x.2) (hge : ∀ x ∈ ms, now ≤ x.1) : ∀ x ∈ l, now ≤ x.1 := by
  obtain ⟨⟨r, h1, h2, _⟩, _, h5⟩ := h
  intro x hx
  rcases List.mem_append.1 (h2.mem_iff.1 hx) with h | h
  · exact hge x (h1.mem_iff.1 (List.mem_append_right _ h))
  · obtain ⟨y, hy, he⟩ := List.mem_filterMap.1 h
    have h6 := h5 y hy
    have h7 := hpos y (h1.mem_iff.1 (List.mem_append_left _ hy))
    rw [nx_some he]
    simp only
    omega
theorem Sim.pos {js : List Jb} {now : Int} {ms o l : List Mo} (h : Sim js now ms o l) : ∀ x ∈ l, ∃ y ∈ ms, y.2 = x.2 := by
  obtain ⟨⟨r, h1, h2, _⟩, _, h5⟩ := h
  intro x hx
  rcases List.mem_append.1 (h2.mem_iff.1 hx) with h | h
  · exact ⟨x, h1.mem_iff.1 (List.mem_append_right _ h), rfl⟩
  · obtain ⟨y, hy, he⟩ := List.mem_filterMap.1 h
    exact ⟨y, h1.mem_iff.1 (List.mem_append_left _ hy), by rw [nx_some he]⟩
theorem Sim.len {js : List Jb} {now : Int} {ms o l : List Mo} (h : Sim js now ms o l) : l.length ≤ ms.length ∧ o.length ≤ ms.length := by
  obtain ⟨⟨r, h1, h2, _⟩, _, _⟩ := h
  have e1 := h1.length_eq
  have e2 := h2.length_eq
  have e3 := List.length_filterMap_le (nx js) o
  rw [List.length_append] at e1 e2
  omega
theorem next_wrap (t p : Int) (h0 : 0 ≤ t) (h1 : t ≤ 1000000) (h2 : 1 ≤ p) (h3 : p ≤ top) : (t + p ≤ top ∧ IntKind.i64.wrap (t + p) = t + p) ∨ (¬ t + p ≤ top ∧ IntKind.i64.wrap (t + p) < t) := by
  unfold top at *
  by_cases h : t + p ≤ 9223372036854775807
  · exact .inl ⟨h, IntWalk.i64_in _ (by omega)⟩
  · refine .inr ⟨h, ?_⟩
    have e : IntKind.i64.wrap (t + p) = RowKit.wrap64 (t + p) := IntWalk.i64_left _
    rw [e]
    unfold RowKit.wrap64
    omega
theorem least_mem {js : List Jb} {l : List Mo} (hh : HeapFrom (mle js) (0, 0) l l.length 0) : ∀ x ∈ l, mle js (l.getD 0 (0, 0)) x := by
  intro x hx
  obtain ⟨k, hk, rfl⟩ := List.mem_iff_getElem.1 hx
  have := heap_least (mle_tr js) (mle_rf js) hh k hk
  rw [List.getD_eq_getElem?_getD (l := l) (i := k), List.getElem?_eq_getElem hk] at this
  exact this
theorem mle_fst {js : List Jb} {a b : Mo} (h : mle js a b) : a.1 ≤ b.1 := by
  rw [mle_iff] at h
  omega
end Go.Proofs.Ytmkbkjnpgdpffaa
