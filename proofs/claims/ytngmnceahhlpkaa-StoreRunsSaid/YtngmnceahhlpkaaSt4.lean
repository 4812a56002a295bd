/- A flash made new for a store: format. Conditions: the flash lies in memory, the image is its cells. -/
import Derived.Test.YtngmnceahhlpkaaSt3
namespace Go.Proofs.Ytngmnceahhlpkaa
open Go.RowKit
def FormatPost (w : World) (fb : Nat) (J : Option Nat) (r : Fl × Int) (e : Ending) (w' : World) : Prop :=
  At w' fb J r.1 ∧ w.grownBy w' (some fb) ∧
    ((r.2 = 0 ∧ ∃ sb, e = .returned (.tuple #[.pointer (some ⟨sb, 0, none⟩), .int .i64 0]) ∧ w.heap.size ≤ sb ∧ StAt w' sb fb St.st0) ∨ (r.2 ≠ 0 ∧ e = .returned (.tuple #[.pointer none, .int .i64 r.2])))
theorem b15 : bytes { data := #[15] } = [15] := rfl
theorem match_bad (f : Fl) (e : Int) (h : e ≠ 0) : (match (f, e) with | (f2, 0) => f2.program 0 [15] | (f2, e) => (f2, e)) = (f, e) := by
  split
  · rename_i h2; injection h2 with _ h2; exact absurd h2 h
  · rename_i h2; rw [h2]
theorem St.Ok.st0 : St.st0.Ok := ⟨by decide, by decide, by decide, fun _ _ h => by cases h⟩
def stL (fb : Nat) : List Value := [.pointer (some ⟨fb, 0, none⟩), .int .i64 0, .int .u8 15, .int .i64 1, .bool false, .string ByteArray.empty, .bool false, .string ByteArray.empty, .bool false, .string ByteArray.empty, .bool false]
theorem format_good (w w1 : World) (fb : Nat) (J : Option Nat) (f : Fl) (hA : At w1 fb J f) (hg : w.grownBy w1 (some fb)) (r : Fl × Int) (hr : r = (f, 0)) :
    FormatPost w fb J r (.returned (.tuple #[.pointer (some ⟨w1.heap.size, 0, none⟩), .int .i64 0])) (w1.alloc (.cells (stL fb).toArray 104)) := by
  subst hr
  exact ⟨hA.below (below_alloc1 w1 _), grown_trans hg (grown_of_below (below_alloc1 w1 _) _), .inl ⟨rfl, w1.heap.size, rfl, hg.size, heap_alloc_new w1 _, St.Ok.st0⟩⟩
set_option maxRecDepth 100000 in
set_option maxHeartbeats 1000000 in
theorem format_any (w : World) (fb : Nat) (J : Option Nat) (f : Fl) (img : ByteArray) (h : At w fb J f) (hi : bytes img = f.cell) (hs : img.size = 8192) :
    Calls Try.prog 52 #[.pointer (some ⟨fb, 0, none⟩), .string img] w (FormatPost w fb J (St.format f)) := by
  have HA0 := Lib.hid h
  have HG0 := Lib.hid (grown_refl w (some fb))
  have hlt : (4096 : Int) < (img.size : Int) := by omega
  have hlt2 : 4096 < img.size := by omega
  have hgd := bytes_get img 4096 hlt2
  rw [hi] at hgd
  have HBAD : Hid (∀ f' : Fl, ∀ e' : Int, e' ≠ 0 → St.format f = (f', e') → ∀ w', At w' fb J f' → w.grownBy w' (some fb) → FormatPost w fb J (St.format f) (.returned (.tuple #[.pointer none, .int .i64 e'])) w') := by
    intro f' e' hq hf w' h1 h2
    rw [hf]
    exact ⟨h1, h2, .inr ⟨hq, rfl⟩⟩
  have HBAD : Hid (∀ e' : Int, e' ≠ 0 → ∀ {f' : Fl}, St.format f = (f', e') → ∀ w', At w' fb J f' → w.grownBy w' (some fb) → FormatPost w fb J (St.format f) (.returned (.tuple #[.pointer none, .int .i64 e'])) w') := fun e' hq f' => HBAD.out f' e' hq
  have HGOOD : Hid (∀ f' : Fl, St.format f = (f', 0) → ∀ w', At w' fb J f' → w.grownBy w' (some fb) → FormatPost w fb J (St.format f) (.returned (.tuple #[.pointer (some ⟨w'.heap.size, 0, none⟩), .int .i64 0])) (w'.alloc (.cells (stL fb).toArray 104))) :=
    fun f' hf w' h1 h2 => format_good w w' fb J f' h1 h2 _ hf
  have HFM : Hid (St.format f = match (if f.cell.getD 4096 0 = 255 then (f, 0) else f.erase 1) with | (f1, 0) => (match f1.erase 0 with | (f2, 0) => f2.program 0 [15] | (f2, e) => (f2, e)) | (f1, e) => (f1, e)) := rfl
  clear h hi hs
  by_cases hb : f.cell.getD 4096 0 = 255
  · have hn : img[4096].toNat = 255 := by omega
    have HFM0 : Hid (St.format f = (match f.erase 0 with | (f2, 0) => f2.program 0 [15] | (f2, e) => (f2, e))) := by
      unfold Hid
      rw [HFM.out, if_pos hb]
      rfl
    clear HFM hgd hb
    have HFM := HFM0
    clear HFM0
    go_enter Try.func52, Try.ntmps52
    go_wp2_with fail
    refine (erase_any fb J f 0 _ HA0.out).mono ?_
    rintro e w1 ⟨rfl, h1, g1⟩
    have HG1 := Lib.hid (grown_trans HG0.out ⟨g1.os, g1.tape, g1.output, g1.size, g1.block⟩)
    have HA1 := Lib.hid h1
    clear h1 g1
    obtain ⟨f2, e2, he⟩ : ∃ f2 e2, f.erase 0 = (f2, e2) := ⟨_, _, rfl⟩
    rw [he] at HFM HA1 ⊢
    by_cases hq : e2 = 0
    · subst hq
      have HFM2 : Hid (St.format f = f2.program 0 [15]) := HFM
      clear HFM he
      go_wp2_with fail
      refine (program_any fb J f2 0 _ _ HA1.out).mono ?_
      rintro e w2 ⟨rfl, h2, g2⟩
      have HG2 := Lib.hid (grown_trans HG1.out ⟨g2.os, g2.tape, g2.output, g2.size, g2.block⟩)
      have HA2 := Lib.hid h2
      clear h2 g2
      rw [b15] at HA2 ⊢
      obtain ⟨f3, e3, he⟩ : ∃ f3 e3, f2.program 0 [15] = (f3, e3) := ⟨_, _, rfl⟩
      rw [he] at HFM2 HA2 ⊢
      by_cases hq : e3 = 0
      · subst hq
        have HEND := Lib.hid (HGOOD.out _ HFM2.out _ HA2.out HG2.out)
        clear HBAD HGOOD he
        go_wp2_with fail
        (try simp only [Exit.inBlock, Exit.then])
        go_ret2
        exact HEND.out
      · have HFM : Hid (St.format f = (f3, e3)) := HFM2
        have hz : (e3 != 0) = true := by simp [hq]
        have hz2 : (e3 == 0) = false := by simp [hq]
        go_wp2_with fail
        (try simp only [Exit.inBlock, Exit.then])
        go_ret2
        exact HBAD.out _ hq HFM.out _ HA2.out HG2.out
    · have HFM3 : Hid (St.format f = (f2, e2)) := HFM.out.trans (match_bad f2 e2 hq)
      clear HFM
      have HFM := HFM3
      clear HFM3
      have hz : (e2 != 0) = true := by simp [hq]
      have hz2 : (e2 == 0) = false := by simp [hq]
      go_wp2_with fail
      (try simp only [Exit.inBlock, Exit.then])
      go_ret2
      exact HBAD.out _ hq HFM.out _ HA1.out HG1.out
  · have hn1 : ((img[4096].toNat : Int) == 255) = false := by
      rw [← hgd, beq_eq_false_iff_ne]
      omega
    have hn2 : ((img[4096].toNat : Int) != 255) = true := by
      show (!((img[4096].toNat : Int) == 255)) = true
      rw [hn1]
      rfl
    rw [if_neg hb] at HFM
    clear hgd hb
    go_enter Try.func52, Try.ntmps52
    go_wp2_with fail
    refine (erase_any fb J f 1 _ HA0.out).mono ?_
    rintro e w1 ⟨rfl, h1, g1⟩
    have HG1 := Lib.hid (grown_trans HG0.out ⟨g1.os, g1.tape, g1.output, g1.size, g1.block⟩)
    have HA1 := Lib.hid h1
    clear h1 g1
    obtain ⟨f1, e1, he⟩ : ∃ f1 e1, f.erase 1 = (f1, e1) := ⟨_, _, rfl⟩
    rw [he] at HFM HA1 ⊢
    by_cases hq : e1 = 0
    · subst hq
      clear he
      go_wp2_with fail
      refine (erase_any fb J f1 0 _ HA1.out).mono ?_
      rintro e w2 ⟨rfl, h2, g2⟩
      have HG2 := Lib.hid (grown_trans HG1.out ⟨g2.os, g2.tape, g2.output, g2.size, g2.block⟩)
      have HA2 := Lib.hid h2
      clear h2 g2
      obtain ⟨f2, e2, he⟩ : ∃ f2 e2, f1.erase 0 = (f2, e2) := ⟨_, _, rfl⟩
      rw [he] at HFM HA2 ⊢
      by_cases hq : e2 = 0
      · subst hq
        have HFM2 : Hid (St.format f = f2.program 0 [15]) := HFM
        clear HFM he
        go_wp2_with fail
        refine (program_any fb J f2 0 _ _ HA2.out).mono ?_
        rintro e w3 ⟨rfl, h3, g3⟩
        have HG3 := Lib.hid (grown_trans HG2.out ⟨g3.os, g3.tape, g3.output, g3.size, g3.block⟩)
        have HA3 := Lib.hid h3
        clear h3 g3
        rw [b15] at HA3 ⊢
        obtain ⟨f3, e3, he⟩ : ∃ f3 e3, f2.program 0 [15] = (f3, e3) := ⟨_, _, rfl⟩
        rw [he] at HFM2 HA3 ⊢
        by_cases hq : e3 = 0
        · subst hq
          have HEND := Lib.hid (HGOOD.out _ HFM2.out _ HA3.out HG3.out)
          clear HBAD HGOOD he
          go_wp2_with fail
          (try simp only [Exit.inBlock, Exit.then])
          go_ret2
          exact HEND.out
        · have HFM : Hid (St.format f = (f3, e3)) := HFM2
          have hz : (e3 != 0) = true := by simp [hq]
          have hz2 : (e3 == 0) = false := by simp [hq]
          go_wp2_with fail
          (try simp only [Exit.inBlock, Exit.then])
          go_ret2
          exact HBAD.out _ hq HFM.out _ HA3.out HG3.out
      · have HFM3 : Hid (St.format f = (f2, e2)) := HFM.out.trans (match_bad f2 e2 hq)
        clear HFM
        have HFM := HFM3
        clear HFM3
        have hz : (e2 != 0) = true := by simp [hq]
        have hz2 : (e2 == 0) = false := by simp [hq]
        go_wp2_with fail
        (try simp only [Exit.inBlock, Exit.then])
        go_ret2
        exact HBAD.out _ hq HFM.out _ HA2.out HG2.out
    · have HFM3 : Hid (St.format f = (f1, e1)) := by
        unfold Hid
        rw [HFM.out]
        split
        · rename_i h2; injection h2 with _ h2; exact absurd h2 hq
        · rename_i h2; rw [h2]
      clear HFM
      have HFM := HFM3
      clear HFM3
      have hz : (e1 != 0) = true := by simp [hq]
      have hz2 : (e1 == 0) = false := by simp [hq]
      go_wp2_with fail
      (try simp only [Exit.inBlock, Exit.then])
      go_ret2
      exact HBAD.out _ hq HFM.out _ HA1.out HG1.out
end Go.Proofs.Ytngmnceahhlpkaa
