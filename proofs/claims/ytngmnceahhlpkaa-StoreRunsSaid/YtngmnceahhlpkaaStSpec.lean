/- What a store does, as plain functions on a flash's numbers: codes, records, reading a sector, moving, booting, putting. No condition. -/
import Derived.Test.YtngmnceahhlpkaaBase
namespace Go.Proofs.Ytngmnceahhlpkaa
open Go.RowKit

abbrev Kept := Nat → Option ByteArray
structure St where
  act : Nat
  code : Nat
  fin : Nat
  k : Kept
  stands : Bool
namespace St
def none_ : Kept := fun _ => none
def keep (k : Kept) (i : Nat) (t : ByteArray) : Kept := fun j => if j = i then some t else k j
def is (o : Option ByteArray) : Bool := o.isSome
def txt (o : Option ByteArray) : ByteArray := o.getD ByteArray.empty
/-- The code that follows; none: it is none. -/
def fol (b : Nat) : Option Nat := if b = 15 then some 51 else if b = 51 then some 85 else if b = 85 then some 15 else none
def folC (b : Nat) : Nat := (fol b).getD 0
def size (o : Option ByteArray) : Nat := match o with | none => 0 | some t => t.size + 4
def all (k : Kept) : Nat := 1 + size (k 0) + size (k 1) + size (k 2)
def recL (id : Nat) (t : ByteArray) : List Nat := id % 256 :: t.size % 256 :: t.size / 256 % 256 :: (bytes t ++ [0])
/-- Where the sector's last cell that is not blank ends. -/
def lastOf (l : List Nat) : Nat → Nat
  | 0 => 0
  | n + 1 => if 1 < n + 1 ∧ l.getD n 0 = 255 then lastOf l n else n + 1
def lenAt (l : List Nat) (p : Nat) : Nat := l.getD (p + 1) 0 + 256 * l.getD (p + 2) 0
/-- Does a record stand there wholly? -/
def recOk (l : List Nat) (p : Nat) : Bool := decide (p + 4 ≤ l.length) && decide (l.getD p 0 < 3) && decide (lenAt l p ≤ 2000) && decide (p + lenAt l p + 4 ≤ l.length) && decide (l.getD (p + lenAt l p + 3) 0 = 0)
def textAt (l : List Nat) (p : Nat) : ByteArray := str ((l.drop (p + 3)).take (lenAt l p))
/-- Records from a place on: what is kept, where they end, whether cleanly. -/
def scan (l : List Nat) (last : Nat) : Nat → Nat → Kept → Kept × Nat × Bool
  | 0, p, k => (k, p, true)
  | n + 1, p, k => if p < last then (if recOk l p then scan l last n (p + lenAt l p + 4) (keep k (l.getD p 0) (textAt l p)) else (k, p, false)) else (k, p, true)
def read (l : List Nat) : Kept × Nat × Bool := scan l (lastOf l l.length) l.length 1 none_
def sector (f : Fl) (s : Nat) : List Nat := (f.cell.drop (s * 4096)).take 4096
/-- Records are programmed, those of ids from i on (n of them); where they end, the answer. -/
def puts (f : Fl) (to_ : Nat) (k : Kept) : Nat → Nat → Nat → Fl × Nat × Int
  | _, 0, p => (f, p, 0)
  | i, n + 1, p =>
    match k i with
    | none => puts f to_ k (i + 1) n p
    | some t =>
      match f.program ((to_ * 4096 + p : Nat) : Int) (recL i t) with
      | (f', 0) => puts f' to_ k (i + 1) n (p + (t.size + 4))
      | (f', e) => (f', p, e)
/-- What is kept is moved into the spare. -/
def move (f : Fl) (s : St) (k : Kept) : Fl × St × Int :=
  match f.erase ((1 - s.act : Nat) : Int) with
  | (f1, 0) =>
    match puts f1 (1 - s.act) k 0 3 1 with
    | (f2, p, 0) =>
      match f2.program (((1 - s.act) * 4096 : Nat) : Int) [folC s.code] with
      | (f3, 0) => (f3, { s with act := 1 - s.act, code := folC s.code, fin := p, k := k }, 0)
      | (f3, e) => (f3, s, e)
    | (f2, _, e) => (f2, s, e)
  | (f1, e) => (f1, s, e)
def format (f : Fl) : Fl × Int :=
  match (if f.cell.getD 4096 0 = 255 then (f, 0) else f.erase 1) with
  | (f1, 0) =>
    match f1.erase 0 with
    | (f2, 0) => f2.program 0 [15]
    | (f2, e) => (f2, e)
  | (f1, e) => (f1, e)
def st0 : St := ⟨0, 15, 1, none_, false⟩
/-- Which sector is the active one, its code, the spare's first byte; none: neither has a code. -/
def active (f : Fl) : Option (Nat × Nat × Nat) :=
  let a := f.cell.getD 0 0
  let b := f.cell.getD 4096 0
  match fol a, fol b with
  | none, none => none
  | none, some _ => some (1, b, a)
  | some _, none => some (0, a, b)
  | some x, some _ => if b = x then some (1, b, a) else some (0, a, b)
/-- Boot: the flash behind it, the store (where the answer is 0), the answer. -/
def boot (f : Fl) : Fl × Option St × Int :=
  if f.off then (f, none, 60) else
  match active f with
  | none =>
    match format f with
    | (f1, 0) => (f1, some st0, 0)
    | (f1, e) => (f1, none, e)
  | some (a, c, b) =>
    let r := read (sector f a)
    let s : St := ⟨a, c, r.2.1, r.1, false⟩
    if r.2.2 = false then
      match move f s r.1 with
      | (f1, s1, 0) => (f1, some s1, 0)
      | (f1, _, e) => (f1, none, e)
    else if b ≠ 255 ∧ fol b = none then
      match f.erase ((1 - a : Nat) : Int) with
      | (f1, 0) => (f1, some s, 0)
      | (f1, e) => (f1, none, e)
    else (f, some s, 0)
def get (s : St) (id : Int) : ByteArray × Bool := if s.stands ∨ id < 0 ∨ 3 ≤ id then (ByteArray.empty, false) else (txt (s.k id.toNat), is (s.k id.toNat))
def put (f : Fl) (s : St) (id : Int) (t : ByteArray) : Fl × St × Int :=
  if s.stands then (f, s, 60) else
  if id < 0 ∨ 3 ≤ id ∨ 2000 < t.size then (f, s, 1) else
  let k := keep s.k id.toNat t
  if 4096 < all k then (f, s, 70) else
  if s.fin + (t.size + 4) ≤ 4096 then
    match f.program ((s.act * 4096 + s.fin : Nat) : Int) (recL id.toNat t) with
    | (f1, 0) => (f1, { s with k := k, fin := s.fin + (t.size + 4), stands := false }, 0)
    | (f1, e) => (f1, { s with stands := true }, e)
  else
    match move f s k with
    | (f1, s1, 0) => (f1, { s1 with stands := false }, 0)
    | (f1, s1, e) => (f1, { s1 with stands := true }, e)
/-- A store that may be. -/
structure Ok (s : St) : Prop where
  act : s.act ≤ 1
  code : s.code < 256
  fin : s.fin ≤ 4096
  k : ∀ i t, s.k i = some t → t.size ≤ 2000
end St
/-- A store in memory: its cells; its flash lies in block fb. -/
def stA (fb : Nat) (s : St) : Array Value :=
  #[.pointer (some ⟨fb, 0, none⟩), .int .i64 (s.act : Int), .int .u8 (s.code : Int), .int .i64 (s.fin : Int), .bool (St.is (s.k 0)), .string (St.txt (s.k 0)), .bool (St.is (s.k 1)), .string (St.txt (s.k 1)), .bool (St.is (s.k 2)), .string (St.txt (s.k 2)), .bool s.stands]
structure StAt (w : World) (sb fb : Nat) (s : St) : Prop where
  blk : w.heap[sb]? = some (.cells (stA fb s) 104)
  ok : s.Ok
theorem StAt.lt {w : World} {sb fb : Nat} {s : St} (h : StAt w sb fb s) : sb < w.heap.size := lt_of_at h.blk
theorem StAt.kept {w w1 : World} {sb fb : Nat} {s : St} (h : StAt w sb fb s) (hb : w1.heap[sb]? = w.heap[sb]?) : StAt w1 sb fb s := ⟨hb.trans h.blk, h.ok⟩
theorem StAt.below {w w1 : World} {sb fb : Nat} {s : St} (h : StAt w sb fb s) (hb : Below w.heap.size w w1) : StAt w1 sb fb s := h.kept (hb.block sb h.lt)
end Go.Proofs.Ytngmnceahhlpkaa
