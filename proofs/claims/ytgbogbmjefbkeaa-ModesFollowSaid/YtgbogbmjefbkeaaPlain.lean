/- Modes as plain numbers: where an event leads, which events stay, a step; the document's table beside the program's. No condition. -/
import Derived.Test.YtgbogbmjefbkeaaBase
namespace Go.Proofs.Ytgbogbmjefbkeaa
open Go.RowKit
/-! ### Bits -/
theorem and1 (x : Int) : bits .and .i64 x 1 = 0 ∨ bits .and .i64 x 1 = 1 := by
  unfold bits
  have h : ((BitVec.ofInt IntKind.i64.bits x) &&& (BitVec.ofInt IntKind.i64.bits 1)).toNat = (BitVec.ofInt 64 x).toNat % 2 := by
    show (BitVec.ofInt 64 x &&& BitVec.ofInt 64 1).toNat = _
    rw [BitVec.toNat_and]
    exact Nat.and_one_is_mod _
  simp only [h]
  rcases Nat.mod_two_eq_zero_or_one (BitVec.ofInt 64 x).toNat with h1 | h1 <;> rw [h1]
  · left; decide
  · right; decide
def hasB (ev : Int) (i : Nat) : Bool := bits .and .i64 (ev / 2 ^ i) 1 == 1
theorem hasB_not (ev : Int) (i : Nat) : (bits .and .i64 (ev / 2 ^ i) 1 == 0) = !hasB ev i := by
  unfold hasB
  rcases and1 (ev / 2 ^ i) with h | h <;> rw [h] <;> rfl
/-! ### The tables -/
structure Rw where
  ev : Int
  lo : Int
  hi : Int
  nxt : Int
def rowsL : List Rw := [⟨0, 3, 11, 12⟩, ⟨1, 3, 11, 12⟩, ⟨2, 3, 11, 12⟩, ⟨3, 10, 11, 14⟩, ⟨3, 13, 13, 14⟩, ⟨4, 3, 7, 8⟩, ⟨5, 3, 7, 8⟩, ⟨6, 3, 3, 4⟩, ⟨6, 8, 8, 9⟩, ⟨6, 9, 9, 10⟩, ⟨6, 12, 12, 13⟩, ⟨7, 2, 2, 1⟩, ⟨8, 1, 1, 2⟩, ⟨9, 2, 2, 3⟩, ⟨10, 3, 3, 4⟩, ⟨10, 5, 11, 4⟩, ⟨11, 4, 4, 5⟩, ⟨11, 6, 11, 5⟩, ⟨12, 4, 5, 6⟩, ⟨12, 7, 11, 6⟩, ⟨13, 2, 2, 7⟩, ⟨13, 4, 6, 7⟩, ⟨14, 3, 7, 8⟩, ⟨14, 11, 11, 8⟩, ⟨15, 3, 10, 11⟩, ⟨16, 0, 0, 1⟩, ⟨16, 14, 14, 1⟩, ⟨17, 1, 1, 0⟩, ⟨17, 14, 14, 0⟩]
def rowL (r : Rw) : List Value := [.int .i64 r.ev, .int .u8 r.lo, .int .u8 r.hi, .int .u8 r.nxt]
def rw0 : Rw := ⟨0, 0, 0, 0⟩
def fits (m e : Int) (r : Rw) : Bool := r.ev == e && decide (r.lo ≤ m) && decide (m ≤ r.hi)
/-- Of rows from a place on: where the first one leads that fits. -/
def rnextL (m e : Int) : List Rw → Int
  | [] => m
  | r :: rs => if fits m e r then r.nxt else rnextL m e rs
def rnext (m e : Int) : Int := rnextL m e rowsL
def toS : List (List UInt8) := [
  [46, 46, 46, 67, 67, 67, 67, 67, 67, 67, 67, 67, 46, 46, 46], [46, 46, 46, 67, 67, 67, 67, 67, 67, 67, 67, 67, 46, 46, 46], [46, 46, 46, 67, 67, 67, 67, 67, 67, 67, 67, 67, 46, 46, 46],
  [46, 46, 46, 46, 46, 46, 46, 46, 46, 46, 69, 69, 46, 69, 46], [46, 46, 46, 56, 56, 56, 56, 56, 46, 46, 46, 46, 46, 46, 46], [46, 46, 46, 56, 56, 56, 56, 56, 46, 46, 46, 46, 46, 46, 46],
  [46, 46, 46, 52, 46, 46, 46, 46, 57, 65, 46, 46, 68, 46, 46], [46, 46, 49, 46, 46, 46, 46, 46, 46, 46, 46, 46, 46, 46, 46], [46, 50, 46, 46, 46, 46, 46, 46, 46, 46, 46, 46, 46, 46, 46],
  [46, 46, 51, 46, 46, 46, 46, 46, 46, 46, 46, 46, 46, 46, 46], [46, 46, 46, 52, 46, 52, 52, 52, 52, 52, 52, 52, 46, 46, 46], [46, 46, 46, 46, 53, 46, 53, 53, 53, 53, 53, 53, 46, 46, 46],
  [46, 46, 46, 46, 54, 54, 46, 54, 54, 54, 54, 54, 46, 46, 46], [46, 46, 55, 46, 55, 55, 55, 46, 46, 46, 46, 46, 46, 46, 46], [46, 46, 46, 56, 56, 56, 56, 56, 46, 46, 46, 56, 46, 46, 46],
  [46, 46, 46, 66, 66, 66, 66, 66, 66, 66, 66, 46, 46, 46, 46], [49, 46, 46, 46, 46, 46, 46, 46, 46, 46, 46, 46, 46, 46, 49], [46, 48, 46, 46, 46, 46, 46, 46, 46, 46, 46, 46, 46, 46, 48]]
def chr (e m : Nat) : Int := (((toS.getD e []).getD m 0).toNat : Int)
def nx (c m : Int) : Int := if 65 ≤ c then c - 65 + 10 else if 48 ≤ c then c - 48 else m
def inB (m e : Int) : Bool := decide (m ≤ 14) && decide (0 ≤ e) && decide (e < 18)
def nextF (m e : Int) : Int := if inB m e then nx (chr e.toNat m.toNat) m else m
theorem next_table : ∀ e : Fin 18, ∀ m : Fin 15, nx (chr e.val m.val) (m.val : Int) = rnext (m.val : Int) (e.val : Int) ∧ 0 ≤ nx (chr e.val m.val) (m.val : Int) ∧ nx (chr e.val m.val) (m.val : Int) ≤ 14 ∧ 0 ≤ chr e.val m.val ∧ chr e.val m.val ≤ 69 := by decide +kernel
theorem rnextL_far (m e : Int) : ∀ rs : List Rw, (∀ r ∈ rs, 0 ≤ r.ev ∧ r.ev < 18 ∧ r.hi ≤ 14) → inB m e = false → rnextL m e rs = m
  | [], _, _ => rfl
  | r :: rs, h, hb => by
    have hr := h r (List.mem_cons_self ..)
    unfold rnextL
    have hf : fits m e r = false := by
      unfold inB at hb
      unfold fits
      by_cases h1 : r.ev = e
      · by_cases h2 : m ≤ r.hi
        · exfalso
          have : (decide (m ≤ 14) && decide (0 ≤ e) && decide (e < 18)) = true := by simp; omega
          rw [hb] at this
          cases this
        · simp [h2]
      · simp [h1]
    rw [hf]
    exact rnextL_far m e rs (fun x hx => h x (List.mem_cons_of_mem _ hx)) hb
theorem rows_in : ∀ r ∈ rowsL, 0 ≤ r.ev ∧ r.ev < 18 ∧ r.hi ≤ 14 := by decide
theorem nextF_eq (m e : Int) (hm : 0 ≤ m) : nextF m e = rnext m e := by
  unfold nextF
  cases hb : inB m e with
  | false => exact (rnextL_far m e rowsL rows_in hb).symm
  | true =>
    have hb' : m ≤ 14 ∧ 0 ≤ e ∧ e < 18 := by unfold inB at hb; simp at hb; omega
    have := (next_table ⟨e.toNat, by omega⟩ ⟨m.toNat, by omega⟩).1
    simp only [Int.toNat_of_nonneg hm, Int.toNat_of_nonneg hb'.2.1] at this
    rw [if_pos rfl]
    exact this
theorem nextF_in (m e : Int) (hm : 0 ≤ m) (hm2 : m ≤ 255) : 0 ≤ nextF m e ∧ nextF m e ≤ 255 ∧ (m ≤ 14 → nextF m e ≤ 14) := by
  unfold nextF
  cases hb : inB m e with
  | false => exact ⟨hm, hm2, fun h => h⟩
  | true =>
    have hb' : m ≤ 14 ∧ 0 ≤ e ∧ e < 18 := by unfold inB at hb; simp at hb; omega
    have := (next_table ⟨e.toNat, by omega⟩ ⟨m.toNat, by omega⟩).2
    simp only [Int.toNat_of_nonneg hm] at this
    rw [if_pos rfl]
    omega
def armedB (m : Int) : Bool := decide (2 ≤ m) && decide (m ≤ 13)
def flyB (m : Int) : Bool := decide (3 ≤ m) && decide (m ≤ 13)
def staysB (e : Nat) : Bool := e == 0 || e == 1 || e == 2 || e == 4 || e == 5
/-! ### A step -/
/-- A latch is set, among the 64 that there are. -/
def orL (l e : Nat) : Nat := if l / 2 ^ e % 2 = 1 then l else l + 2 ^ e
/-- The first event that leads away, of those from e on, n of them. -/
def first (m ev : Int) : Nat → Nat → Option Nat
  | _, 0 => none
  | e, n + 1 => if hasB ev e && nextF m (e : Int) != m then some e else first m ev (e + 1) n
structure Md where
  mode : Int
  lat : Nat
def latOn (l : Nat) (f : Bool) (ev : Int) (e : Nat) : Nat := if f && hasB ev e && staysB e then orL l e else l
/-- The latches behind the k highest events. -/
def latD (l : Nat) (f : Bool) (ev : Int) : Nat → Nat
  | 0 => l
  | k + 1 => latOn (latD l f ev k) f ev (17 - k)
def Md.latched (x : Md) (ev : Int) : Nat := latD x.lat (flyB x.mode) ev 18
def didI : Option Nat → Int
  | none => -1
  | some e => (e : Int)
def Md.goes (x : Md) : Option Nat → Int
  | none => x.mode
  | some e => nextF x.mode (e : Int)
def Md.step (x : Md) (ev : Int) : Md := ⟨x.goes (first x.mode ev 0 18), if x.goes (first x.mode ev 0 18) ≤ 1 then 0 else x.latched ev⟩
def Md.did (x : Md) (ev : Int) : Int := didI (first x.mode ev 0 18)
/-! ### The document's latches -/
def rlat (l : Nat) (f : Bool) (h0 h1 h2 h4 h5 : Bool) : Nat :=
  let on := fun (l : Nat) (e : Nat) (h : Bool) => if f && h then orL l e else l
  on (on (on (on (on l 0 h0) 1 h1) 2 h2) 4 h4) 5 h5
def plat (l : Nat) (f : Bool) (h0 h1 h2 h4 h5 : Bool) : Nat :=
  let on := fun (l : Nat) (e : Nat) (h : Bool) => if f && h then orL l e else l
  on (on (on (on (on l 5 h5) 4 h4) 2 h2) 1 h1) 0 h0
theorem lat_eq : ∀ (l : Fin 64) (f h0 h1 h2 h4 h5 : Bool), rlat l.val f h0 h1 h2 h4 h5 = plat l.val f h0 h1 h2 h4 h5 ∧ plat l.val f h0 h1 h2 h4 h5 < 64 := by decide +kernel
theorem latOn_skip {l : Nat} {f : Bool} {ev : Int} {e : Nat} (h : staysB e = false) : latOn l f ev e = l := by
  unfold latOn
  rw [h]
  simp
theorem latOn_at {l : Nat} {f : Bool} {ev : Int} {e : Nat} (h : staysB e = true) : latOn l f ev e = if f && hasB ev e then orL l e else l := by
  unfold latOn
  rw [h, Bool.and_true]
theorem latched_eq (l : Nat) (f : Bool) (ev : Int) : latD l f ev 18 = plat l f (hasB ev 0) (hasB ev 1) (hasB ev 2) (hasB ev 4) (hasB ev 5) := by
  simp only [latD]
  rw [latOn_at (e := 17 - 17) (by decide), latOn_at (e := 17 - 16) (by decide), latOn_at (e := 17 - 15) (by decide), latOn_skip (e := 17 - 14) (by decide), latOn_at (e := 17 - 13) (by decide), latOn_at (e := 17 - 12) (by decide)]
  rw [latOn_skip (e := 17 - 11) (by decide), latOn_skip (e := 17 - 10) (by decide), latOn_skip (e := 17 - 9) (by decide), latOn_skip (e := 17 - 8) (by decide), latOn_skip (e := 17 - 7) (by decide), latOn_skip (e := 17 - 6) (by decide), latOn_skip (e := 17 - 5) (by decide), latOn_skip (e := 17 - 4) (by decide), latOn_skip (e := 17 - 3) (by decide), latOn_skip (e := 17 - 2) (by decide), latOn_skip (e := 17 - 1) (by decide), latOn_skip (e := 17 - 0) (by decide)]
  rfl
end Go.Proofs.Ytgbogbmjefbkeaa
