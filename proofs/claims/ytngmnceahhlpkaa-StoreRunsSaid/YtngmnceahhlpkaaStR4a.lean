/- A region of the document's move, by an invariant: which operations have come up, and what each left. No condition. -/
import Derived.Test.YtngmnceahhlpkaaRegs
import Derived.Test.YtngmnceahhlpkaaStR3
namespace Go.Proofs.Ytngmnceahhlpkaa
open Go.RowKit
def sl15 (i : Nat) : Nat := if i = 24 then 6 else i + 55
def ds15 : List Nat := [55, 56, 57, 58, 59, 60, 61, 62, 63, 64, 65, 66, 67, 68, 69, 70, 71, 72, 73, 74, 75, 76, 77, 78, 6]
def V15 (r c rb to_ act cd cc cap sz : Nat) (e3 : Int) : Nat → Value
  | 0 => .pointer (some ⟨rb, 0, none⟩)
  | 1 => .pointer (some ⟨rb, 0, none⟩)
  | 2 => .pointer (some ⟨rb, 0, none⟩)
  | 3 => .pointer (some ⟨r, 0, none⟩)
  | 4 => .int .i64 (to_ : Int)
  | 5 => .int .i64 ((to_ : Int) * 4096)
  | 6 => .pointer (some ⟨rb, 0, none⟩)
  | 7 => .pointer (some ⟨rb, 0, none⟩)
  | 8 => .pointer (some ⟨rb, 0, none⟩)
  | 9 => .pointer (some ⟨r, 0, none⟩)
  | 10 => .pointer (some ⟨r, 0, none⟩)
  | 11 => .pointer (some ⟨r, 0, none⟩)
  | 12 => .slice (some ⟨c, 0, none⟩) 8192 cap
  | 13 => .pointer (some ⟨rb, 0, none⟩)
  | 14 => .pointer (some ⟨rb, 0, none⟩)
  | 15 => .pointer (some ⟨rb, 1, none⟩)
  | 16 => .int .i64 (act : Int)
  | 17 => .int .i64 ((act : Int) * 4096)
  | 18 => .pointer (some ⟨c, act * 4096, none⟩)
  | 19 => .int .u8 (cd : Int)
  | 20 => .int .u8 (cc : Int)
  | 21 => .slice (some ⟨sz, 0, none⟩) 1 1
  | 22 => .string (str [cc])
  | 23 => .int .i64 e3
  | _ => .int .i64 e3
theorem getD_set_t {l : Array Bool} {i : Nat} (h : i < l.size) : (l.setIfInBounds i true).getD i false = true := by simp [h]
theorem getD_set_n {l : Array Bool} {i j : Nat} (h : j ≠ i) : (l.setIfInBounds i true).getD j false = l.getD j false := by
  simp [Ne.symm h]
structure I15 (ops : Array Oper) (V : Nat → Value) (wq wa : World) (R : World → Prop) (listed : Array Bool) (g : Nat → Value) (u : World) : Prop where
  size : listed.size = 25
  val : ∀ i, i < 25 → listed.getD i false = true → g (sl15 i) = V i
  cl : ∀ j i, listed.getD j false = true → Region.waitsFor .any ops j i = true → listed.getD i false = true
  w0 : listed.getD 21 false = false → u = wq
  w1 : listed.getD 21 false = true → listed.getD 23 false = false → u = wa
  w2 : listed.getD 23 false = true → R u
theorem I15.step {ops : Array Oper} {V : Nat → Value} {wq wa : World} {R : World → Prop} {listed : Array Bool} {g : Nat → Value} {u u1 : World} (h : I15 ops V wq wa R listed g u) (i : Nat) (hi : i < 25) (hr : i ∈ Region.ready .any ops listed) (v : Value) (hv : v = V i)
    (h0 : i ≠ 21 → i ≠ 23 → u1 = u) (h1 : i = 21 → u1 = wa ∧ listed.getD 23 false = false) (h2 : i = 23 → R u1 ∧ listed.getD 21 false = true) : I15 ops V wq wa R (listed.setIfInBounds i true) (putS g (sl15 i) v) u1 := by
  have hinj : ∀ j, j < 25 → sl15 j = sl15 i → j = i := by
    intro j hj he
    unfold sl15 at he
    split at he <;> split at he <;> omega
  have hsz : i < listed.size := by rw [h.size]; exact hi
  refine ⟨by simp [h.size], fun j hj hl => ?_, fun j k hl hw => ?_, fun hl => ?_, fun hl hl2 => ?_, fun hl => ?_⟩
  · by_cases e : j = i
    · subst e
      unfold putS
      rw [if_pos rfl]
      exact hv
    · unfold putS
      rw [if_neg (fun he => e (hinj j hj he))]
      rw [getD_set_n e] at hl
      exact h.val j hj hl
  · have hk : listed.getD k false = true → (listed.setIfInBounds i true).getD k false = true := fun hh => by
      by_cases e : k = i
      · subst e
        exact getD_set_t hsz
      · rw [getD_set_n e]
        exact hh
    by_cases e : j = i
    · subst e
      exact hk (ready_dep hr hw)
    · rw [getD_set_n e] at hl
      exact hk (h.cl j k hl hw)
  · by_cases e : i = 21
    · subst e
      rw [getD_set_t hsz] at hl
      cases hl
    · rw [getD_set_n (Ne.symm e)] at hl
      by_cases e3 : i = 23
      · have := (h2 e3).2
        rw [this] at hl
        cases hl
      · exact (h0 e e3).trans (h.w0 hl)
  · by_cases e : i = 21
    · exact (h1 e).1
    · rw [getD_set_n (Ne.symm e)] at hl
      by_cases e3 : i = 23
      · subst e3
        rw [getD_set_t hsz] at hl2
        cases hl2
      · rw [getD_set_n (Ne.symm e3)] at hl2
        exact (h0 e e3).trans (h.w1 hl hl2)
  · by_cases e3 : i = 23
    · exact (h2 e3).1
    · rw [getD_set_n (Ne.symm e3)] at hl
      by_cases e : i = 21
      · have := (h1 e).2
        rw [this] at hl
        cases hl
      · rw [h0 e e3]
        exact h.w2 hl
theorem region15 {P : Program} {ops : Array Oper} {Q : Exit → Act → World → Prop} {id : Nat} {a : Act} {w : World} (V : Nat → Value) (wa : World) (R : World → Prop) (hm : P.follows .mixedOrders = true) (hs : ops.size = 25)
    (step : ∀ listed g u i, I15 ops V w.drew wa R listed g u → i ∈ Region.ready .any ops listed → ∀ K : Act → World → Prop, (∀ g' u', I15 ops V w.drew wa R (listed.setIfInBounds i true) g' u' → K (Fr ds15 a g') u') → wpOp P ops Q i K (Fr ds15 a g) u)
    (fin : ∀ listed g u, I15 ops V w.drew wa R listed g u → Region.ready .any ops listed = [] → Q .normal (Fr ds15 a g) u) : (Code.region id ops true).wp P Q a w := by
  refine wp_region_fr ds15 (I15 ops V w.drew wa R) hm ⟨by simp [hs], fun i hi hl => ?_, fun j i hl _ => ?_, fun _ => rfl, fun hl _ => ?_, fun hl => ?_⟩ step fin
  · have : (Array.replicate ops.size false).getD i false = false := by simp [hs, hi]
    rw [this] at hl
    cases hl
  · have : (Array.replicate ops.size false).getD j false = false := by
      by_cases hj : j < ops.size
      · simp [hj]
      · simp [hj]
    rw [this] at hl
    cases hl
  · have : (Array.replicate ops.size false).getD 21 false = false := by simp [hs]
    rw [this] at hl
    cases hl
  · have : (Array.replicate ops.size false).getD 23 false = false := by simp [hs]
    rw [this] at hl
    cases hl
theorem I15.not23 {ops : Array Oper} {V : Nat → Value} {wq wa : World} {R : World → Prop} {listed : Array Bool} {g : Nat → Value} {u : World} (_ : I15 ops V wq wa R listed g u) {i : Nat} (hi : listed.getD i false = false) (hc : listed.getD 23 false = true → listed.getD i false = true) : listed.getD 23 false = false := by
  cases h23 : listed.getD 23 false with
  | false => rfl
  | true =>
    rw [hc h23] at hi
    cases hi
theorem I15.world {ops : Array Oper} {V : Nat → Value} {wq wa : World} {R : World → Prop} {listed : Array Bool} {g : Nat → Value} {u : World} (h : I15 ops V wq wa R listed g u) (h23 : listed.getD 23 false = false) : u = wq ∨ u = wa := by
  cases h21 : listed.getD 21 false with
  | false => exact .inl (h.w0 h21)
  | true => exact .inr (h.w1 h21 h23)
theorem ready_off {ops : Array Oper} {listed : Array Bool} {i : Nat} (h : i ∈ Region.ready .any ops listed) (hs : listed.size = 25) (hi : i < 25) : listed.getD i false = false := by
  have h1 := (mem_ready.1 h).1
  simp [hs, hi] at h1 ⊢
  exact h1
end Go.Proofs.Ytngmnceahhlpkaa
