/- What Boot answers: a flash is read and put in order. Conditions: the flash lies in memory. -/
import Derived.Test.YtngmnceahhlpkaaSt6
namespace Go.Proofs.Ytngmnceahhlpkaa
open Go.RowKit
def BootPost (w : World) (fb : Nat) (J : Option Nat) (r : Fl × Option St × Int) (e : Ending) (w' : World) : Prop :=
  At w' fb J r.1 ∧ w.grownBy w' (some fb) ∧
    ((r.2.2 = 0 ∧ ∃ sb s, r.2.1 = some s ∧ e = .returned (.tuple #[.pointer (some ⟨sb, 0, none⟩), .int .i64 0]) ∧ w.heap.size ≤ sb ∧ StAt w' sb fb s) ∨ (r.2.2 ≠ 0 ∧ r.2.1 = none ∧ e = .returned (.tuple #[.pointer none, .int .i64 r.2.2])))
set_option maxRecDepth 100000 in
theorem boot_nil (w : World) : Calls Try.prog 29 #[.pointer none] w fun e w' => e = .returned (.tuple #[.pointer none, .int .i64 2]) ∧ w = w' := by
  go_enter Try.func29, Try.ntmps29
  go_wp2_with fail
  refine (read_nil _ _ _).mono ?_
  rintro e w1 ⟨rfl, rfl⟩
  go_wp2_with fail
  (try simp only [Exit.inBlock, Exit.then])
  go_ret2
  exact ⟨rfl, rfl⟩
set_option maxRecDepth 100000 in
set_option maxHeartbeats 1000000 in
theorem boot_off (w : World) (fb : Nat) (J : Option Nat) (f : Fl) (h : At w fb J f) (ho : f.off = true) : Calls Try.prog 29 #[.pointer (some ⟨fb, 0, none⟩)] w (BootPost w fb J (St.boot f)) := by
  have HR : Hid (f.read 0 8192 = ([], 60)) := by unfold Hid Fl.read; rw [if_pos ho]
  have HB : Hid (St.boot f = (f, none, 60)) := by unfold Hid St.boot; rw [if_pos ho]
  have HA := Lib.hid h
  clear h ho
  go_enter Try.func29, Try.ntmps29
  go_wp2_with fail
  refine (read_any fb J f _ _ _ HA.out).mono ?_
  rintro e w1 ⟨rfl, rfl⟩
  rw [HR.out]
  go_wp2_with fail
  (try simp only [Exit.inBlock, Exit.then])
  go_ret2
  rw [HB.out]
  exact ⟨HA.out, grown_refl _ _, .inr ⟨show (60 : Int) ≠ 0 by decide, rfl, rfl⟩⟩
theorem active_nn {f : Fl} {a b : Nat} (ha : f.cell.getD 0 0 = a) (hb : f.cell.getD 4096 0 = b) (h1 : St.fol a = none) (h2 : St.fol b = none) : St.active f = none := by
  unfold St.active
  simp only [ha, hb, h1, h2]
theorem active_ns {f : Fl} {a b y : Nat} (ha : f.cell.getD 0 0 = a) (hb : f.cell.getD 4096 0 = b) (h1 : St.fol a = none) (h2 : St.fol b = some y) : St.active f = some (1, b, a) := by
  unfold St.active
  simp only [ha, hb, h1, h2]
theorem active_sn {f : Fl} {a b x : Nat} (ha : f.cell.getD 0 0 = a) (hb : f.cell.getD 4096 0 = b) (h1 : St.fol a = some x) (h2 : St.fol b = none) : St.active f = some (0, a, b) := by
  unfold St.active
  simp only [ha, hb, h1, h2]
theorem active_s1 {f : Fl} {a b x y : Nat} (ha : f.cell.getD 0 0 = a) (hb : f.cell.getD 4096 0 = b) (h1 : St.fol a = some x) (h2 : St.fol b = some y) (h : b = x) : St.active f = some (1, b, a) := by
  unfold St.active
  simp only [ha, hb, h1, h2]
  exact if_pos h
theorem active_s0 {f : Fl} {a b x y : Nat} (ha : f.cell.getD 0 0 = a) (hb : f.cell.getD 4096 0 = b) (h1 : St.fol a = some x) (h2 : St.fol b = some y) (h : b ≠ x) : St.active f = some (0, a, b) := by
  unfold St.active
  simp only [ha, hb, h1, h2]
  exact if_neg h
theorem some_of {o : Option Nat} (h : o.isSome = true) : ∃ x, o = some x := Option.isSome_iff_exists.1 h
theorem none_of {o : Option Nat} (h : o.isSome = false) : o = none := by
  cases o with
  | none => rfl
  | some x => cases h
theorem boot_none {f : Fl} (ho : f.off = false) (h : St.active f = none) : St.boot f = match St.format f with | (f1, 0) => (f1, some St.st0, 0) | (f1, e) => (f1, none, e) := by
  unfold St.boot
  rw [if_neg (by rw [ho]; decide), h]
  rfl
theorem StAt.chosen {w : World} {sb fb a : Nat} (h : StAt w sb fb ⟨0, a, 0, St.none_, false⟩) (b : Nat) (hb : b < 256) :
    StAt ((w.setCell ⟨sb, 1, none⟩ (.int .i64 1)).setCell ⟨sb, 2, none⟩ (.int .u8 (b : Int))) sb fb ⟨1, b, 0, St.none_, false⟩ :=
  ⟨(heap_setCell_at (heap_setCell_at h.blk 1 _) 2 _).trans (by simp [stA]), ⟨Nat.le_refl _, hb, Nat.zero_le _, h.ok.k⟩⟩
theorem format_boot {w w' : World} {fb : Nat} {J : Option Nat} {f : Fl} {e : Ending} (ho : f.off = false) (h : St.active f = none) {w0 : World} (hg : w0.grownBy w (some fb)) (hp : FormatPost w fb J (St.format f) e w') :
    BootPost w0 fb J (St.boot f) e w' ∧ ∃ x y, e = .returned (.tuple #[x, y]) := by
  rw [boot_none ho h]
  obtain ⟨f1, r, hr⟩ : ∃ f1 r, St.format f = (f1, r) := ⟨_, _, rfl⟩
  rw [hr] at hp ⊢
  obtain ⟨h1, h2, h3⟩ := hp
  rcases h3 with ⟨h3, sb, h4, h5, h6⟩ | ⟨h3, h4⟩
  · have h3 : r = 0 := h3
    subst h3
    exact ⟨⟨h1, grown_trans hg h2, .inl ⟨rfl, sb, St.st0, rfl, h4, Nat.le_trans hg.size h5, h6⟩⟩, _, _, h4⟩
  · have h3 : r ≠ 0 := h3
    have h4 : e = .returned (.tuple #[.pointer none, .int .i64 r]) := h4
    refine ⟨?_, _, _, h4⟩
    split
    · rename_i h7; injection h7 with _ h7; exact absurd h7 h3
    · rename_i h7; injection h7 with h8 h7; subst h8; subst h7; exact ⟨h1, grown_trans hg h2, .inr ⟨h3, rfl, h4⟩⟩
theorem sector_of {img : ByteArray} {f : Fl} (hb : bytes img = f.cell) (hs : img.size = 8192) (a : Nat) (ha : a ≤ 1) : bytes (img.extract (a * 4096) (a * 4096 + 4096)) = St.sector f a := by
  rw [extract_text img _ _ (by omega), bytes_str _ (fun x hx => bytes_byte img x (List.mem_of_mem_drop (List.mem_of_mem_take hx))), hb]
  rfl
theorem text_size (l : List Nat) (p : Nat) : (St.textAt l p).size ≤ St.lenAt l p := by
  unfold St.textAt
  rw [str_size, List.length_take]
  exact Nat.min_le_left _ _
theorem all_keep (k : Kept) (i : Nat) (t : ByteArray) : St.all (St.keep k i t) ≤ St.all k + (t.size + 4) := by
  have h : ∀ j, St.size (St.keep k i t j) = if j = i then t.size + 4 else St.size (k j) := fun j => by
    unfold St.keep
    split <;> rfl
  unfold St.all
  rw [h 0, h 1, h 2]
  split
  · split
    · omega
    · split <;> omega
  · split
    · split <;> omega
    · split <;> omega
theorem recOk_end {l : List Nat} {p : Nat} (h : St.recOk l p = true) : p + St.lenAt l p + 4 ≤ l.length := by
  unfold St.recOk at h
  simp only [Bool.and_eq_true, decide_eq_true_eq] at h
  exact h.1.2
theorem recOk_len {l : List Nat} {p : Nat} (h : St.recOk l p = true) : St.lenAt l p ≤ 2000 := by
  unfold St.recOk at h
  simp only [Bool.and_eq_true, decide_eq_true_eq] at h
  exact h.1.1.2
theorem scan_fits (l : List Nat) (last : Nat) : ∀ n p k, p ≤ l.length → St.all k ≤ p → (∀ i t, k i = some t → t.size ≤ 2000) →
    (St.scan l last n p k).2.1 ≤ l.length ∧ St.all (St.scan l last n p k).1 ≤ (St.scan l last n p k).2.1 ∧ (∀ i t, (St.scan l last n p k).1 i = some t → t.size ≤ 2000)
  | 0, p, k, hp, hk, ht => ⟨hp, hk, ht⟩
  | n + 1, p, k, hp, hk, ht => by
    by_cases h : p < last
    · rw [scan_step _ _ _ _ _ h]
      by_cases hr : St.recOk l p = true
      · rw [if_pos hr]
        have h1 := all_keep k (l.getD p 0) (St.textAt l p)
        have h2 := text_size l p
        refine scan_fits l last n _ _ (recOk_end hr) (by omega) (fun i t hi => ?_)
        unfold St.keep at hi
        split at hi
        · injection hi with hi
          rw [← hi]
          exact Nat.le_trans h2 (recOk_len hr)
        · exact ht i t hi
      · rw [if_neg hr]
        exact ⟨hp, hk, ht⟩
    · rw [scan_end _ _ _ _ _ h]
      exact ⟨hp, hk, ht⟩
theorem read_fits (l : List Nat) (h : 1 ≤ l.length) : (St.read l).2.1 ≤ l.length ∧ St.all (St.read l).1 ≤ (St.read l).2.1 ∧ (∀ i t, (St.read l).1 i = some t → t.size ≤ 2000) :=
  scan_fits l _ _ 1 St.none_ h (Nat.le_refl _) (fun _ _ h => by cases h)
theorem sector_len {f : Fl} (h : f.Ok) (a : Nat) (ha : a ≤ 1) : (St.sector f a).length = 4096 := by
  unfold St.sector
  rw [List.length_take, List.length_drop, h.len]
  omega
theorem boot_some {f : Fl} (ho : f.off = false) {a c b : Nat} (h : St.active f = some (a, c, b)) {k : Kept} {p : Nat} {d : Bool} (hr : St.read (St.sector f a) = (k, p, d)) :
    St.boot f = if d = false then (match St.move f ⟨a, c, p, k, false⟩ k with | (f1, s1, 0) => (f1, some s1, 0) | (f1, _, e) => (f1, none, e))
      else if b ≠ 255 ∧ St.fol b = none then (match f.erase ((1 - a : Nat) : Int) with | (f1, 0) => (f1, some ⟨a, c, p, k, false⟩, 0) | (f1, e) => (f1, none, e))
      else (f, some ⟨a, c, p, k, false⟩, 0) := by
  unfold St.boot
  rw [if_neg (by rw [ho]; decide), h]
  show (if (St.read (St.sector f a)).2.2 = false then _ else _) = _
  rw [hr]
  rfl
theorem wrote_grown {w w1 w2 : World} {fb sb : Nat} (h : w.grownBy w1 (some fb)) (g : Wrote w1 w2 (two fb sb)) (hs : w.heap.size ≤ sb) : w.grownBy w2 (some fb) :=
  ⟨g.os.trans h.os, g.tape.trans h.tape, g.output.trans h.output, Nat.le_trans h.size g.size, fun i hi hj => (g.block i (Nat.lt_of_lt_of_le hi h.size) (fun e => by
    rcases e with e | e
    · exact hj (by rw [e])
    · omega)).trans (h.block i hi hj)⟩
theorem move_st {f f1 : Fl} {s s1 : St} {k : Kept} {e : Int} (h : St.move f s k = (f1, s1, e)) : (match St.move f s k with | (f1, s1, 0) => (f1, some s1, (0 : Int)) | (f1, _, e) => (f1, none, e)) = if e = 0 then (f1, some s1, 0) else (f1, none, e) := by
  rw [h]
  by_cases he : e = 0
  · subst he
    rw [if_pos rfl]
    rfl
  · rw [if_neg he]
    split
    · rename_i h2; injection h2 with _ h2; injection h2 with _ h2; exact absurd h2 he
    · rename_i h2; injection h2 with h3 h2; injection h2 with _ h2; rw [h3, h2]
theorem erase_st {f f1 : Fl} {s : St} {a e : Int} (h : f.erase a = (f1, e)) : (match f.erase a with | (f1, 0) => (f1, some s, (0 : Int)) | (f1, e) => (f1, none, e)) = if e = 0 then (f1, some s, 0) else (f1, none, e) := by
  rw [h]
  by_cases he : e = 0
  · subst he
    rw [if_pos rfl]
    rfl
  · rw [if_neg he]
    split
    · rename_i h2; injection h2 with _ h2; exact absurd h2 he
    · rename_i h2; injection h2 with h3 h2; rw [h3, h2]
/-- Behind the reading of the active sector. -/
def Boot2 (w : World) (fb sb vb : Nat) (J : Option Nat) (f : Fl) (act c : Nat) (k : Kept) (p : Nat) (d : Bool) (v : Value) (wx : World) : Prop :=
  v = .bool d ∧ At wx fb J f ∧ w.grownBy wx (some fb) ∧ StAt wx sb fb ⟨act, c, p, k, false⟩ ∧ VarAt wx vb sb
theorem StAt.ended {w : World} {sb fb : Nat} {s : St} (h : StAt w sb fb s) (p : Nat) (hp : p ≤ 4096) : StAt (w.setCell ⟨sb, 3, none⟩ (.int .i64 (p : Int))) sb fb { s with fin := p } :=
  ⟨(heap_setCell_at h.blk 3 _).trans (by simp [stA]), ⟨h.ok.act, h.ok.code, hp, h.ok.k⟩⟩
theorem grown_fresh {w w1 w2 : World} {fb sb : Nat} (h : w.grownBy w1 (some fb)) (g : w1.grownBy w2 (some sb)) (hs : w.heap.size ≤ sb) : w.grownBy w2 (some fb) :=
  ⟨g.os.trans h.os, g.tape.trans h.tape, g.output.trans h.output, Nat.le_trans h.size g.size, fun i hi hj => (g.block i (Nat.lt_of_lt_of_le hi h.size) (fun e => by have e := Option.some.inj e; omega)).trans (h.block i hi hj)⟩
theorem boot2_of {w wc w5 : World} {fb sb vb : Nat} {J : Option Nat} {f : Fl} {act c : Nat} {k : Kept} {p : Nat} {d : Bool} (hA : At wc fb J f) (hG : w.grownBy wc (some fb)) (hV : VarAt wc vb sb) (hS0 : StAt wc sb fb ⟨act, c, 0, St.none_, false⟩) (hle : w.heap.size ≤ sb) (hne : vb ≠ sb) (hp : p ≤ 4096)
    (hS : StAt w5 sb fb ⟨act, c, 0, k, false⟩) (hg : wc.grownBy w5 (some sb)) : Boot2 w fb sb vb J f act c k p d (.bool d) (w5.setCell ⟨sb, 3, none⟩ (.int .i64 (p : Int))) := by
  have hn := hA.ne_of hS0.blk (by decide) (by decide)
  have hg2 := grown_set hg 3 (.int .i64 (p : Int))
  exact ⟨rfl, hA.grown hg2 hn.1 hn.2, grown_fresh hG hg2 hle, hS.ended p hp, (hg2.block vb (lt_of_at hV) (fun e => hne (Option.some.inj e))).trans hV⟩
theorem cell_set_ne (u : World) (b i j : Nat) (h : j ≠ i) (v : Value) : (u.setCell ⟨b, i, none⟩ v).cell? ⟨b, j, none⟩ = u.cell? ⟨b, j, none⟩ := by
  unfold World.cell?
  simp only [World.setCell, Array.getElem?_modify]
  cases hb : u.heap[b]? with
  | none => simp
  | some o =>
    cases o with
    | cells cs t fr => simp [Ne.symm h]
    | _ => simp
theorem keep3 {u : World} {vb sb : Nat} {x y v : Value} (h : u.cell? ⟨vb, 0, none⟩ = some x ∧ u.cell? ⟨sb, 1, none⟩ = some y) (hne : vb ≠ sb) :
    (u.setCell ⟨sb, 3, none⟩ v).cell? ⟨vb, 0, none⟩ = some x ∧ (u.setCell ⟨sb, 3, none⟩ v).cell? ⟨sb, 1, none⟩ = some y := by
  constructor
  · show (u.setCell ⟨sb, 3, none⟩ v).cell? ⟨vb, 0, none⟩ = some x
    rw [← h.1]
    exact World.cell?_of_block (heap_setCell_ne hne 3 v)
  · rw [cell_set_ne u sb 3 1 (by decide) v]
    exact h.2
/-- Behind the choice of the active sector. -/
def Boot1 (w : World) (fb sb vb : Nat) (J : Option Nat) (f : Fl) (v : Value) (wx : World) : Prop :=
  ∃ act c sp : Nat, St.active f = some (act, c, sp) ∧ act ≤ 1 ∧ sp < 256 ∧ v = .int .u8 (sp : Int) ∧ At wx fb J f ∧ w.grownBy wx (some fb) ∧ StAt wx sb fb ⟨act, c, 0, St.none_, false⟩ ∧ VarAt wx vb sb
set_option maxRecDepth 100000 in
set_option maxHeartbeats 1000000 in
theorem boot_on (w : World) (fb : Nat) (J : Option Nat) (f : Fl) (h : At w fb J f) (ho : f.off = false) : Calls Try.prog 29 #[.pointer (some ⟨fb, 0, none⟩)] w (BootPost w fb J (St.boot f)) := by
  have HR : Hid (f.read 0 8192 = (f.cell, 0)) := by
    unfold Hid Fl.read
    rw [if_neg (by rw [ho]; decide), if_pos (by decide)]
    show (List.take 8192 (List.drop 0 f.cell), (0 : Int)) = _
    rw [List.drop_zero, List.take_of_length_le (by rw [h.ok.len]; exact Nat.le_refl _)]
  have HA := Lib.hid h
  obtain ⟨img, himg⟩ : ∃ img, img = str f.cell := ⟨_, rfl⟩
  have HB : Hid (bytes img = f.cell) := by unfold Hid; rw [himg]; exact bytes_str _ h.ok.byte
  have hsz : img.size = 8192 := by rw [himg, str_size]; exact h.ok.len
  have h0 : 0 < img.size := by omega
  have h4 : 4096 < img.size := by omega
  have h4i : (4096 : Int) < (img.size : Int) := by omega
  have hg0 := bytes_get img 0 h0
  have hg4 := bytes_get img 4096 h4
  rw [HB.out] at hg0 hg4
  obtain ⟨a, ha⟩ : ∃ a, f.cell.getD 0 0 = a := ⟨_, rfl⟩
  obtain ⟨b, hb⟩ : ∃ b, f.cell.getD 4096 0 = b := ⟨_, rfl⟩
  have HAA := Lib.hid ha
  have HBB := Lib.hid hb
  have hal : a < 256 := by rw [← ha]; exact Fl.getD_lt h.ok.byte 0
  have hbl : b < 256 := by rw [← hb]; exact Fl.getD_lt h.ok.byte 4096
  have hs0 : img[0].toNat = a := by rw [← hg0, ha]
  have hs4 : img[4096].toNat = b := by rw [← hg4, hb]
  have HSZ := Lib.hid hsz
  have HI := Lib.hid himg
  clear h hg0 hg4 ha hb himg hsz
  go_enter Try.func29, Try.ntmps29
  go_wp2_with fail
  refine (read_any fb J f _ _ _ HA.out).mono ?_
  rintro e w1 ⟨rfl, rfl⟩
  rw [HR.out]
  show _
  rw [← HI.out]
  go_wp2_with fail
  go_region
  go_wp2_with fail
  refine (follows_any _ a hal).mono ?_
  rintro e w1 ⟨rfl, hb1⟩
  go_wp2_with fail
  refine (follows_any _ b hbl).mono ?_
  rintro e w2 ⟨rfl, hb2⟩
  have HA2 : Hid (At w2 fb J f) := (HA.out.drew.below hb1).below hb2
  have HG2 : Hid (w.grownBy w2 (some fb)) := grown_trans (grown_trans (grown_drew (grown_refl w _)) (grown_of_below hb1 _)) (grown_of_below hb2 _)
  clear hb1 hb2
  have hsl : Hid (∀ a, stA fb ⟨0, a, 0, St.none_, false⟩ = #[.pointer (some ⟨fb, 0, none⟩), .int .i64 0, .int .u8 (a : Int), .int .i64 0, .bool false, .string { data := #[] }, .bool false, .string { data := #[] }, .bool false, .string { data := #[] }, .bool false]) := fun _ => rfl
  have HS3 : Hid (StAt ((w2.alloc (.cells (stA fb ⟨0, a, 0, St.none_, false⟩) 104)).alloc (.cells #[.pointer (some ⟨w2.heap.size, 0, none⟩)] 49)) w2.heap.size fb ⟨0, a, 0, St.none_, false⟩) :=
    StAt.below (w := w2.alloc (.cells (stA fb ⟨0, a, 0, St.none_, false⟩) 104)) ⟨heap_alloc_new w2 _, ⟨Nat.zero_le _, hal, Nat.zero_le _, fun _ _ h => by cases h⟩⟩ (below_alloc1 _ _)
  have HV3 : Hid (VarAt ((w2.alloc (.cells (stA fb ⟨0, a, 0, St.none_, false⟩) 104)).alloc (.cells #[.pointer (some ⟨w2.heap.size, 0, none⟩)] 49)) (w2.heap.size + 1) w2.heap.size) := by
    have h1 := heap_alloc_new (w2.alloc (.cells (stA fb ⟨0, a, 0, St.none_, false⟩) 104)) (.cells #[.pointer (some ⟨w2.heap.size, 0, none⟩)] 49)
    rw [show (w2.alloc (.cells (stA fb ⟨0, a, 0, St.none_, false⟩) 104)).heap.size = w2.heap.size + 1 by simp] at h1
    exact h1
  have HA3 : Hid (At ((w2.alloc (.cells (stA fb ⟨0, a, 0, St.none_, false⟩) 104)).alloc (.cells #[.pointer (some ⟨w2.heap.size, 0, none⟩)] 49)) fb J f) := (HA2.out.below (below_alloc1 _ _)).below (below_alloc1 _ _)
  have HG3 : Hid (w.grownBy ((w2.alloc (.cells (stA fb ⟨0, a, 0, St.none_, false⟩) 104)).alloc (.cells #[.pointer (some ⟨w2.heap.size, 0, none⟩)] 49)) (some fb)) := grown_trans (grown_trans HG2.out (grown_of_below (below_alloc1 _ _) _)) (grown_of_below (below_alloc1 _ _) _)
  have HLE : Hid (w.heap.size ≤ w2.heap.size) := HG2.out.size
  clear HA2 HG2
  go_upto_region 8 with fail
  rw [hsl.out] at HS3 HV3 HA3 HG3
  clear hsl
  have hne : w2.heap.size + 1 ≠ w2.heap.size := by omega
  generalize w2.heap.size + 1 = vb at *
  generalize w2.heap.size = sb at *
  generalize ((w2.alloc (Obj.cells #[.pointer (some ⟨fb, 0, none⟩), .int .i64 0, .int .u8 (a : Int), .int .i64 0, .bool false, .string { data := #[] }, .bool false, .string { data := #[] }, .bool false, .string { data := #[] }, .bool false] 104)).alloc (Obj.cells #[.pointer (some ⟨sb, 0, none⟩)] 49)) = w3 at *
  obtain ⟨ia, hia⟩ : ∃ x, (St.fol a).isSome = x := ⟨_, rfl⟩
  obtain ⟨ib, hib⟩ : ∃ x, (St.fol b).isSome = x := ⟨_, rfl⟩
  obtain ⟨fa, hfa⟩ : ∃ x, St.folC a = x := ⟨_, rfl⟩
  obtain ⟨fbb, hfbb⟩ : ∃ x, St.folC b = x := ⟨_, rfl⟩
  rw [hia, hib, hfa, hfbb]
  have HIA := Lib.hid hia
  have HIB := Lib.hid hib
  have HFA := Lib.hid hfa
  clear hia hib hfa hfbb
  go_upto_block 0 with fail
  go_cut [13] (Boot1 w fb sb vb J f)
  case first =>
    have HO := Lib.hid ho
    have HLA : Hid (a < 256) := hal
    have HLB : Hid (b < 256) := hbl
    clear ho HR HA hs0 hs4
    cases ia with
    | false =>
      cases ib with
      | false =>
        have HN := Lib.hid (active_nn HAA.out HBB.out (none_of HIA.out) (none_of HIB.out))
        go_wp2_with fail
        refine (format_any _ fb J f img HA3.out HB.out HSZ.out).mono ?_
        intro e w4 hF
        obtain ⟨hB, x, y, rfl⟩ := format_boot HO.out HN.out HG3.out hF
        have HF := Lib.hid hB
        clear hB hF
        go_wp2_with fail
        (try simp only [Exit.inBlock, Exit.then])
        go_ret2
        exact HF.out
      | true =>
        obtain ⟨y, hy⟩ := some_of HIB.out
        have HN := Lib.hid (active_ns HAA.out HBB.out (none_of HIA.out) hy)
        have HS4 := Lib.hid (HS3.out.chosen b HLB.out)
        have v0 : w3.cell? ⟨vb, 0, none⟩ = some (.pointer (some ⟨sb, 0, none⟩)) := cell_at HV3.out 0
        have k1 : w3.cell? ⟨sb, 1, none⟩ = some (.int .i64 0) := cell_at HS3.out.blk 1
        have k2 : w3.cell? ⟨sb, 2, none⟩ = some (.int .u8 (a : Int)) := cell_at HS3.out.blk 2
        have y1 := free_at HS3.out.blk 1
        have y2 := free_at HS3.out.blk 2
        have hne2 : ¬ sb = vb := fun e => hne e.symm
        have HFB : Hid (Boot1 w fb sb vb J f (.int .u8 (a : Int)) ((w3.setCell ⟨sb, 1, none⟩ (.int .i64 1)).setCell ⟨sb, 2, none⟩ (.int .u8 (b : Int))).drew) := by
          have hg : w3.grownBy ((w3.setCell ⟨sb, 1, none⟩ (.int .i64 1)).setCell ⟨sb, 2, none⟩ (.int .u8 (b : Int))) (some sb) := grown_set (grown_set (grown_refl w3 (some sb)) _ _) _ _
          have hn := HA3.out.ne_of HS3.out.blk (by decide) (by decide)
          refine ⟨1, b, a, HN.out, Nat.le_refl _, HLA.out, rfl, ((HA3.out.grown hg hn.1 hn.2).drewN 1), ⟨hg.os.trans HG3.out.os, hg.tape.trans HG3.out.tape, hg.output.trans HG3.out.output, Nat.le_trans HG3.out.size hg.size, fun i hi hj => (hg.block i (Nat.lt_of_lt_of_le hi HG3.out.size) (fun e => ?_)).trans (HG3.out.block i hi hj)⟩, HS4.out.kept rfl, ?_⟩
          · have := HLE.out
            have e := Option.some.inj e
            omega
          · exact (hg.block vb (lt_of_at HV3.out) (fun e => hne (Option.some.inj e))).trans HV3.out
        go_wp2_with fail
        go_region
        go_wp2_with fail
        go_meet
        case rel => exact HFB.out
    | true =>
      obtain ⟨x, hx⟩ := some_of HIA.out
      have HX : Hid (fa = x) := by unfold Hid; rw [← HFA.out]; unfold St.folC; rw [hx]; rfl
      cases ib with
      | false =>
        have HN := Lib.hid (active_sn HAA.out HBB.out hx (none_of HIB.out))
        have HFB : Hid (Boot1 w fb sb vb J f (.int .u8 (b : Int)) w3) := ⟨0, a, b, HN.out, Nat.zero_le _, HLB.out, rfl, HA3.out, HG3.out, HS3.out, HV3.out⟩
        go_wp2_with fail
        go_meet
        case rel => exact HFB.out
      | true =>
        obtain ⟨y, hy⟩ := some_of HIB.out
        by_cases hbx : b = x
        · have HN := Lib.hid (active_s1 HAA.out HBB.out hx hy hbx)
          have hcmp : ((b : Int) == (fa : Int)) = true := by rw [HX.out, hbx, beq_iff_eq]
          clear hx hy hbx HX
          have HS4 := Lib.hid (HS3.out.chosen b HLB.out)
          have v0 : w3.cell? ⟨vb, 0, none⟩ = some (.pointer (some ⟨sb, 0, none⟩)) := cell_at HV3.out 0
          have k1 : w3.cell? ⟨sb, 1, none⟩ = some (.int .i64 0) := cell_at HS3.out.blk 1
          have k2 : w3.cell? ⟨sb, 2, none⟩ = some (.int .u8 (a : Int)) := cell_at HS3.out.blk 2
          have y1 := free_at HS3.out.blk 1
          have y2 := free_at HS3.out.blk 2
          have hne2 : ¬ sb = vb := fun e => hne e.symm
          have HFB : Hid (Boot1 w fb sb vb J f (.int .u8 (a : Int)) ((w3.setCell ⟨sb, 1, none⟩ (.int .i64 1)).setCell ⟨sb, 2, none⟩ (.int .u8 (b : Int))).drew) := by
            have hg : w3.grownBy ((w3.setCell ⟨sb, 1, none⟩ (.int .i64 1)).setCell ⟨sb, 2, none⟩ (.int .u8 (b : Int))) (some sb) := grown_set (grown_set (grown_refl w3 (some sb)) _ _) _ _
            have hn := HA3.out.ne_of HS3.out.blk (by decide) (by decide)
            refine ⟨1, b, a, HN.out, Nat.le_refl _, HLA.out, rfl, ((HA3.out.grown hg hn.1 hn.2).drewN 1), ⟨hg.os.trans HG3.out.os, hg.tape.trans HG3.out.tape, hg.output.trans HG3.out.output, Nat.le_trans HG3.out.size hg.size, fun i hi hj => (hg.block i (Nat.lt_of_lt_of_le hi HG3.out.size) (fun e => ?_)).trans (HG3.out.block i hi hj)⟩, HS4.out.kept rfl, ?_⟩
            · have := HLE.out
              have e := Option.some.inj e
              omega
            · exact (hg.block vb (lt_of_at HV3.out) (fun e => hne (Option.some.inj e))).trans HV3.out
          go_wp2_with fail
          go_region
          go_wp2_with fail
          go_meet
          case rel => exact HFB.out
        · have HN := Lib.hid (active_s0 HAA.out HBB.out hx hy hbx)
          have hcmp : ((b : Int) == (fa : Int)) = false := by rw [HX.out, beq_eq_false_iff_ne]; omega
          have HFB : Hid (Boot1 w fb sb vb J f (.int .u8 (b : Int)) w3) := ⟨0, a, b, HN.out, Nat.zero_le _, HLB.out, rfl, HA3.out, HG3.out, HS3.out, HV3.out⟩
          clear hx hy hbx HX
          go_wp2_with fail
          go_meet
          case rel => exact HFB.out
  case rest =>
    obtain ⟨act, c, sp, hac, hact, hsp, rfl, hA, hG, hS, hV⟩ := hcut
    obtain ⟨k, p, d, hr⟩ : ∃ k p d, St.read (St.sector f act) = (k, p, d) := ⟨_, _, _, rfl⟩
    have hfit := read_fits (St.sector f act) (by rw [sector_len hA.ok act hact]; decide)
    rw [hr, sector_len hA.ok act hact] at hfit
    have HFIT := Lib.hid hfit
    have HBT := Lib.hid (boot_some ho hac hr)
    have hac1 : (act : Int) ≤ 1 := by omega
    have HAC : Hid (act ≤ 1) := hact
    have HSC : Hid (∀ lo hi sec, lo = act * 4096 → hi = act * 4096 + 4096 → sec = img.extract lo hi → Calls Try.prog 53 #[.string sec, .func (.func 54) #[] #[.pointer (some ⟨vb, 0, none⟩)]] wc.drew fun e w' => e = .returned (.tuple #[.int .i64 (p : Int), .bool d]) ∧ StAt w' sb fb ⟨act, c, 0, k, false⟩ ∧ wc.grownBy w' (some sb)) := by
      rintro lo hi sec rfl rfl rfl
      have h1 := sector_of HB.out HSZ.out act hact
      refine (each_any wc.drew vb sb fb _ _ (hS.kept rfl) hV hne ?_).mono ?_
      · rw [← bytes_length, h1, sector_len hA.ok act hact]
      · rintro e w' ⟨rfl, h2, h3⟩
        rw [h1] at h2 ⊢
        have e1 : St.scan (St.sector f act) (St.lastOf (St.sector f act) (St.sector f act).length) (St.sector f act).length 1 St.none_ = (k, p, d) := hr
        have h2' : StAt w' sb fb ⟨act, c, 0, (St.scan (St.sector f act) (St.lastOf (St.sector f act) (St.sector f act).length) (St.sector f act).length 1 St.none_).1, false⟩ := h2
        show Ending.returned (.tuple #[.int .i64 (((St.scan (St.sector f act) (St.lastOf (St.sector f act) (St.sector f act).length) (St.sector f act).length 1 St.none_).2.1 : Nat) : Int), .bool (St.scan (St.sector f act) (St.lastOf (St.sector f act) (St.sector f act).length) (St.sector f act).length 1 St.none_).2.2]) = _ ∧ _
        rw [e1] at h2' ⊢
        exact ⟨rfl, h2', ⟨h3.os, h3.tape, h3.output, h3.size, h3.block⟩⟩
    have HA4 := Lib.hid hA
    have HG4 := Lib.hid hG
    have HS4 := Lib.hid hS
    have HV4 := Lib.hid hV
    have hp4' : p ≤ 4096 := hfit.1
    have hp4 : (p : Int) ≤ 4096 := by omega
    clear hfit hact hac hr hA hG hS hV HS3 HV3 HA3 HG3 HA HR ho hs0 hs4
    go_upto_region 15 with fail
    go_cut [14] (Boot2 w fb sb vb J f act c k p d)
    case first =>
      have v0 : wc.cell? ⟨vb, 0, none⟩ = some (.pointer (some ⟨sb, 0, none⟩)) := cell_at HV4.out 0
      have k1 : wc.cell? ⟨sb, 1, none⟩ = some (.int .i64 (act : Int)) := cell_at HS4.out.blk 1
      have hsz1 : (4096 : Int) ≤ (img.size : Int) := by have := HSZ.out; omega
      have hsz2 : (8192 : Int) ≤ (img.size : Int) := by have := HSZ.out; omega
      have hc : act = 0 ∨ act = 1 := by have := HAC.out; omega
      rcases hc with rfl | rfl
      · replace k1 : wc.cell? ⟨sb, 1, none⟩ = some (.int .i64 0) := k1
        have hwa : IntKind.i64.wrap (0 : Int) = 0 := rfl
        have hwb : IntKind.i64.wrap (1 : Int) = 1 := rfl
        have hwc : IntKind.i64.wrap (4096 : Int) = 4096 := rfl
        have hwd : IntKind.i64.wrap (IntKind.i64.wrap (1 : Int) * 4096) = 4096 := rfl
        have HCL := Lib.hid (HSC.out 0 4096 _ rfl rfl rfl)
        clear HSC
        go_wp2_with fail
        have hS0 : wc.cell? ⟨vb, 0, none⟩ = some (.pointer (some ⟨sb, 0, none⟩)) ∧ wc.cell? ⟨sb, 1, none⟩ = some (.int .i64 0) := ⟨v0, k1⟩
        go_region_held3 (fun u => u.cell? ⟨vb, 0, none⟩ = some (.pointer (some ⟨sb, 0, none⟩)) ∧ u.cell? ⟨sb, 1, none⟩ = some (.int .i64 0))
          (first | assumption | exact keep3 (by assumption) hne)
          (first | (go_at_call 53; refine HCL.out.mono ?_; rintro e w5 ⟨rfl, hS5, hG5⟩; have v5 : w5.cell? ⟨vb, 0, none⟩ = some (.pointer (some ⟨sb, 0, none⟩)) ∧ w5.cell? ⟨sb, 1, none⟩ = some (.int .i64 0) := ⟨cell_at ((hG5.block vb (lt_of_at HV4.out) (fun e => hne (Option.some.inj e))).trans HV4.out) 0, cell_at hS5.blk 1⟩; have k5 : w5.cell? ⟨sb, 3, none⟩ = some (.int .i64 0) := cell_at hS5.blk 3; have y5 := free_at hS5.blk 3))
        have HF : Hid (Boot2 w fb sb vb J f 0 c k p d (.bool d) (w5.setCell ⟨sb, 3, none⟩ (.int .i64 (p : Int)))) := boot2_of HA4.out HG4.out HV4.out HS4.out HLE.out hne hp4' hS5 hG5
        clear hS5 hG5 v5 k5 y5 v0 k1 hS0
        go_wp2_with fail
        go_meet
        case rel => exact HF.out
      · replace k1 : wc.cell? ⟨sb, 1, none⟩ = some (.int .i64 1) := k1
        have hwa : IntKind.i64.wrap (4096 : Int) = 4096 := rfl
        have hwb : IntKind.i64.wrap (2 : Int) = 2 := rfl
        have hwc : IntKind.i64.wrap (8192 : Int) = 8192 := rfl
        have hwd : IntKind.i64.wrap (IntKind.i64.wrap (2 : Int) * 4096) = 8192 := rfl
        have HCL := Lib.hid (HSC.out 4096 8192 _ rfl rfl rfl)
        clear HSC
        go_wp2_with fail
        have hS0 : wc.cell? ⟨vb, 0, none⟩ = some (.pointer (some ⟨sb, 0, none⟩)) ∧ wc.cell? ⟨sb, 1, none⟩ = some (.int .i64 1) := ⟨v0, k1⟩
        go_region_held3 (fun u => u.cell? ⟨vb, 0, none⟩ = some (.pointer (some ⟨sb, 0, none⟩)) ∧ u.cell? ⟨sb, 1, none⟩ = some (.int .i64 1))
          (first | assumption | exact keep3 (by assumption) hne)
          (first | (go_at_call 53; refine HCL.out.mono ?_; rintro e w5 ⟨rfl, hS5, hG5⟩; have v5 : w5.cell? ⟨vb, 0, none⟩ = some (.pointer (some ⟨sb, 0, none⟩)) ∧ w5.cell? ⟨sb, 1, none⟩ = some (.int .i64 1) := ⟨cell_at ((hG5.block vb (lt_of_at HV4.out) (fun e => hne (Option.some.inj e))).trans HV4.out) 0, cell_at hS5.blk 1⟩; have k5 : w5.cell? ⟨sb, 3, none⟩ = some (.int .i64 0) := cell_at hS5.blk 3; have y5 := free_at hS5.blk 3))
        have HF : Hid (Boot2 w fb sb vb J f 1 c k p d (.bool d) (w5.setCell ⟨sb, 3, none⟩ (.int .i64 (p : Int)))) := boot2_of HA4.out HG4.out HV4.out HS4.out HLE.out hne hp4' hS5 hG5
        clear hS5 hG5 v5 k5 y5 v0 k1 hS0
        go_wp2_with fail
        go_meet
        case rel => exact HF.out
    case rest =>
      obtain ⟨rfl, hA, hG, hS, hV⟩ := hcut
      clear HSC HA4 HG4 HS4 HV4
      have HA5 := Lib.hid hA
      have HG5 := Lib.hid hG
      have HS5 := Lib.hid hS
      have HV5 := Lib.hid hV
      clear hA hG hS hV
      go_wp2_with fail
      refine (follows_any _ sp hsp).mono ?_
      rintro e w6 ⟨rfl, hb6⟩
      have HA6 := Lib.hid (HA5.out.below hb6)
      have HG6 : Hid (w.grownBy w6 (some fb)) := grown_trans HG5.out (grown_of_below hb6 _)
      have HS6 := Lib.hid (HS5.out.below hb6)
      have HV6 : Hid (VarAt w6 vb sb) := (hb6.block vb (lt_of_at HV5.out)).trans HV5.out
      clear hb6 HA5 HG5 HS5 HV5
      obtain ⟨fs, hfs⟩ : ∃ x, St.folC sp = x := ⟨_, rfl⟩
      obtain ⟨is, his⟩ : ∃ x, (St.fol sp).isSome = x := ⟨_, rfl⟩
      rw [hfs, his]
      have HIS := Lib.hid his
      clear hfs his
      have v0 : w6.cell? ⟨vb, 0, none⟩ = some (.pointer (some ⟨sb, 0, none⟩)) := cell_at HV6.out 0
      have q1 : w6.cell? ⟨sb, 1, none⟩ = some (.int .i64 (act : Int)) := cell_at HS6.out.blk 1
      have q4 : w6.cell? ⟨sb, 4, none⟩ = some (.bool (St.is (k 0))) := cell_at HS6.out.blk 4
      have q5 : w6.cell? ⟨sb, 5, none⟩ = some (.string (St.txt (k 0))) := cell_at HS6.out.blk 5
      have q6 : w6.cell? ⟨sb, 6, none⟩ = some (.bool (St.is (k 1))) := cell_at HS6.out.blk 6
      have q7 : w6.cell? ⟨sb, 7, none⟩ = some (.string (St.txt (k 1))) := cell_at HS6.out.blk 7
      have q8 : w6.cell? ⟨sb, 8, none⟩ = some (.bool (St.is (k 2))) := cell_at HS6.out.blk 8
      have q9 : w6.cell? ⟨sb, 9, none⟩ = some (.string (St.txt (k 2))) := cell_at HS6.out.blk 9
      cases d with
      | false =>
        obtain ⟨f1, s1, r, hm⟩ : ∃ f1 s1 r, St.move f ⟨act, c, p, k, false⟩ k = (f1, s1, r) := ⟨_, _, _, rfl⟩
        have HB2 : Hid (St.boot f = if r = 0 then (f1, some s1, 0) else (f1, none, r)) := by
          unfold Hid
          rw [HBT.out, if_pos rfl]
          exact move_st hm
        have HD : Hid (Duet w6 w6.drew fb sb J f ⟨act, c, p, k, false⟩) := ⟨HA6.out.drew, HS6.out.kept rfl, (Wrote.refl w6 _).drew⟩
        have HMV := Lib.hid (move_any w6 w6.drew fb sb J f ⟨act, c, p, k, false⟩ k HD.out HFIT.out.2.2 (Nat.le_trans HFIT.out.2.1 hp4'))
        rw [hm] at HMV
        clear hm HBT HFIT HD
        go_wp2_with fail
        go_region_with (first | (go_at_call 55; refine HMV.out.mono ?_; rintro e w7 ⟨rfl, hD7⟩))
        all_goals
          have HV7 : Hid (VarAt w7 vb sb) := (hD7.wr.block vb (lt_of_at HV6.out) (fun e => by
            rcases e with e | e
            · exact (HA6.out.ne_of HV6.out (by decide) (by decide)).1 e.symm
            · exact hne e)).trans HV6.out
          have HG7 : Hid (w.grownBy w7 (some fb)) := wrote_grown HG6.out hD7.wr HLE.out
          have HD7 := Lib.hid hD7
          have v7 : w7.cell? ⟨vb, 0, none⟩ = some (.pointer (some ⟨sb, 0, none⟩)) := cell_at HV7.out 0
          clear hD7 HMV q1 q4 q5 q6 q7 q8 q9 v0
          by_cases hq : r = 0
          · subst hq
            have HF : Hid (BootPost w fb J (St.boot f) (.returned (.tuple #[.pointer (some ⟨sb, 0, none⟩), .int .i64 0])) w7) := by
              unfold Hid
              rw [HB2.out, if_pos rfl]
              exact ⟨HD7.out.fl, HG7.out, .inl ⟨rfl, sb, s1, rfl, rfl, HLE.out, HD7.out.st⟩⟩
            go_wp2_with fail
            (try simp only [Exit.inBlock, Exit.then])
            go_ret2
            exact HF.out
          · have hz : (r != 0) = true := by simp [hq]
            have hz2 : (r == 0) = false := by simp [hq]
            have HF : Hid (BootPost w fb J (St.boot f) (.returned (.tuple #[.pointer none, .int .i64 r])) w7) := by
              unfold Hid
              rw [HB2.out, if_neg hq]
              exact ⟨HD7.out.fl, HG7.out, .inr ⟨hq, rfl, rfl⟩⟩
            go_wp2_with fail
            (try simp only [Exit.inBlock, Exit.then])
            go_ret2
            exact HF.out
      | true =>
        have HFO : Hid (¬ (sp ≠ 255 ∧ St.fol sp = none) → BootPost w fb J (St.boot f) (.returned (.tuple #[.pointer (some ⟨sb, 0, none⟩), .int .i64 0])) w6) := by
          intro hh
          rw [HBT.out, if_neg (by decide), if_neg hh]
          exact ⟨HA6.out, HG6.out, .inl ⟨rfl, sb, _, rfl, rfl, HLE.out, HS6.out⟩⟩
        by_cases h255 : sp = 255
        · have HF := Lib.hid (HFO.out (fun h => h.1 h255))
          have hc1 : ((sp : Int) == 255) = true := by rw [beq_iff_eq]; omega
          have hc2 : ((sp : Int) != 255) = false := by
            show (!((sp : Int) == 255)) = false
            rw [hc1]
            rfl
          clear HBT HFIT h255
          go_wp2_with fail
          (try simp only [Exit.inBlock, Exit.then])
          go_ret2
          exact HF.out
        · have hc1 : ((sp : Int) == 255) = false := by rw [beq_eq_false_iff_ne]; omega
          have hc2 : ((sp : Int) != 255) = true := by
            show (!((sp : Int) == 255)) = true
            rw [hc1]
            rfl
          cases is with
          | true =>
            have HF := Lib.hid (HFO.out (fun h => by have := HIS.out; rw [h.2] at this; cases this))
            clear HBT HFIT h255
            go_wp2_with fail
            (try simp only [Exit.inBlock, Exit.then])
            go_ret2
            exact HF.out
          | false =>
            obtain ⟨f1, r, hm⟩ : ∃ f1 r, f.erase (1 - (act : Int)) = (f1, r) := ⟨_, _, rfl⟩
            have HB2 : Hid (St.boot f = if r = 0 then (f1, some ⟨act, c, p, k, false⟩, 0) else (f1, none, r)) := by
              unfold Hid
              rw [HBT.out, if_neg (by decide), if_pos ⟨h255, none_of HIS.out⟩]
              rw [show (1 - (act : Int)) = ((1 - act : Nat) : Int) by omega] at hm
              exact erase_st hm
            clear HBT HFIT h255 HFO
            go_wp2_with fail
            refine (erase_any fb J f _ _ HA6.out).mono ?_
            rintro e w7 ⟨rfl, h7, g7⟩
            rw [hm] at h7 ⊢
            have hn := HA6.out.ne_of HS6.out.blk (by decide) (by decide)
            have HS7 : Hid (StAt w7 sb fb ⟨act, c, p, k, false⟩) := HS6.out.kept (g7.block sb HS6.out.lt (fun e => hn.1 (Option.some.inj e).symm))
            have HV7 : Hid (VarAt w7 vb sb) := (g7.block vb (lt_of_at HV6.out) (fun e => (HA6.out.ne_of HV6.out (by decide) (by decide)).1 (Option.some.inj e).symm)).trans HV6.out
            have HG7 : Hid (w.grownBy w7 (some fb)) := grown_trans HG6.out ⟨g7.os, g7.tape, g7.output, g7.size, g7.block⟩
            have HA7 := Lib.hid h7
            have v7 : w7.cell? ⟨vb, 0, none⟩ = some (.pointer (some ⟨sb, 0, none⟩)) := cell_at HV7.out 0
            clear h7 g7 hn q1 q4 q5 q6 q7 q8 q9 v0 hm
            by_cases hq : r = 0
            · subst hq
              have HF : Hid (BootPost w fb J (St.boot f) (.returned (.tuple #[.pointer (some ⟨sb, 0, none⟩), .int .i64 0])) w7) := by
                unfold Hid
                rw [HB2.out, if_pos rfl]
                exact ⟨HA7.out, HG7.out, .inl ⟨rfl, sb, _, rfl, rfl, HLE.out, HS7.out⟩⟩
              go_wp2_with fail
              (try simp only [Exit.inBlock, Exit.then])
              go_ret2
              exact HF.out
            · have hz : (r != 0) = true := by simp [hq]
              have hz2 : (r == 0) = false := by simp [hq]
              have HF : Hid (BootPost w fb J (St.boot f) (.returned (.tuple #[.pointer none, .int .i64 r])) w7) := by
                unfold Hid
                rw [HB2.out, if_neg hq]
                exact ⟨HA7.out, HG7.out, .inr ⟨hq, rfl, rfl⟩⟩
              go_wp2_with fail
              (try simp only [Exit.inBlock, Exit.then])
              go_ret2
              exact HF.out
theorem boot_any (w : World) (fb : Nat) (J : Option Nat) (f : Fl) (h : At w fb J f) : Calls Try.prog 29 #[.pointer (some ⟨fb, 0, none⟩)] w (BootPost w fb J (St.boot f)) := by
  cases ho : f.off with
  | true => exact boot_off w fb J f h ho
  | false => exact boot_on w fb J f h ho
end Go.Proofs.Ytngmnceahhlpkaa
