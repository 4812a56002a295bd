/- The plain law of a program that is cut: ahead of the cut, behind it, and the cell between. Conditions: the bytes lie within the flash, texts within the reach of memory. -/
import Derived.Test.YtngmnceahhlpkaaPlain2
import Derived.Test.YtngmnceahhlpkaaClears
namespace Go.Proofs.Ytngmnceahhlpkaa
open Go.RowKit

theorem cuts_enough (f : Fl) (ho : f.off = false) (ha : f.armed = false) (hs : f.steps = 0) (a : Nat) (ds junk : List Nat) (L : Int) (hL : (ds.length : Int) ≤ L) (hf : (a : Int) + ds.length ≤ 8192) :
    ∃ f1 f2 g1 : Fl, f.cut L junk = (f1, 0) ∧ f1.program a ds = (f2, 0) ∧ f2.off = false ∧ f.program a ds = (g1, 0) ∧ f2.cell = g1.cell := by
  have e1 := Fl.prog_enough ds ({ f with armed := true, left := L, junk := junk } : Fl) a rfl hL (by show 0 ≤ f.steps; omega) (by show f.steps + _ ≤ _; omega)
  have e2 := Fl.prog_calm ds f a ha (by omega) (by omega)
  refine ⟨{ f with armed := true, left := L, junk := junk }, { f with armed := true, left := L - ds.length, junk := junk, steps := f.steps + ds.length, cell := andAt f.cell a ds }, { f with steps := f.steps + ds.length, cell := andAt f.cell a ds }, cut_in f L junk ho (by omega), ?_, ho, ?_, rfl⟩
  · exact (program_in ({ f with armed := true, left := L, junk := junk } : Fl) a ds ho hf).trans e1
  · exact (program_in f a ds ho hf).trans e2
theorem cuts_short (f : Fl) (hok : f.Ok) (ho : f.off = false) (ha : f.armed = false) (hs : f.steps = 0) (a : Nat) (s : ByteArray) (junk : List Nat) (L : Nat) (hL : L < s.size) (hf : (a : Int) + s.size ≤ 8192)
    (hjb : ∀ x ∈ junk, x < 256) (hjl : junk.length ≤ 140737488351232) :
    ∃ f1 f2 g1 : Fl, f.cut L junk = (f1, 0) ∧ f1.program a (bytes s) = (f2, 60) ∧ f2.off = true ∧ f2.steps = L ∧ f.program a (bytes (s.extract 0 L)) = (g1, 0) ∧
      (str f2.cell).size = 8192 ∧ (str g1.cell).size = 8192 ∧ (str f2.cell).extract 0 (a + L) = (str g1.cell).extract 0 (a + L) ∧ (str f2.cell).extract (a + L + 1) 8192 = (str g1.cell).extract (a + L + 1) 8192 ∧
      ∀ (h2 : a + L < (str f2.cell).size) (h1 : a + L < (str g1.cell).size),
        decide ((str f2.cell)[a + L].toNat &&& ((str g1.cell)[a + L].toNat &&& ((str g1.cell)[a + L].toNat &&& s[L].toNat)) = (str g1.cell)[a + L].toNat &&& ((str g1.cell)[a + L].toNat &&& s[L].toNat) ∧
          (str f2.cell)[a + L].toNat ||| ((str g1.cell)[a + L].toNat ||| ((str g1.cell)[a + L].toNat &&& s[L].toNat)) = (str g1.cell)[a + L].toNat ||| ((str g1.cell)[a + L].toNat &&& s[L].toNat)) = true := by
  obtain ⟨f1, hf1⟩ : ∃ f1 : Fl, f1 = { f with armed := true, left := (L : Int), junk := junk } := ⟨_, rfl⟩
  have hf1k : f1.Ok := by rw [hf1]; exact ⟨hok.len, hok.byte, hjb, Int.natCast_nonneg _, by show (L : Int) ≤ _; omega, hjl⟩
  have e2 : f1.program a (bytes s) = f1.prog a (bytes s) := program_in _ _ _ (by rw [hf1]; exact ho) (by rw [bytes_length]; exact hf)
  have e3 := Fl.prog_short L (bytes s) f1 a (by rw [hf1]) (by rw [hf1]) (by rw [bytes_length]; exact hL) (by rw [hf1]; show 0 ≤ f.steps; omega) (by rw [hf1, bytes_length]; show f.steps + _ ≤ _; omega)
  have hx : bytes (s.extract 0 L) = (bytes s).take L := by rw [bytes_extract, List.drop_zero, Nat.sub_zero]
  have hxl : ((bytes s).take L).length = L := by rw [List.length_take, bytes_length]; omega
  have e4 : f.program a ((bytes s).take L) = f.prog a ((bytes s).take L) := program_in _ _ _ ho (by rw [hxl]; omega)
  have e5 := Fl.prog_calm ((bytes s).take L) f a ha (by omega) (by omega)
  have hc1 : f1.cell = f.cell := by rw [hf1]
  rw [hc1] at e3
  obtain ⟨l, hl⟩ : ∃ l, l = andAt f.cell a ((bytes s).take L) := ⟨_, rfl⟩
  rw [← hl] at e3 e5
  obtain ⟨v, hv⟩ : ∃ v, v = l.getD (a + L) 0 &&& ((bytes s).getD L 0 ||| f1.at_ 0) := ⟨_, rfl⟩
  rw [← hv] at e3
  have k2 := Fl.Ok.prog (bytes s) a hf1k
  rw [e3] at k2
  have kl2 : (l.set (a + L) v).length = 8192 := k2.len
  have kb2 : ∀ x ∈ l.set (a + L) v, x < 256 := k2.byte
  have k5 := Fl.Ok.prog ((bytes s).take L) a hok
  rw [e5] at k5
  have kl5 : l.length = 8192 := k5.len
  have kb5 : ∀ x ∈ l, x < 256 := k5.byte
  refine ⟨f1, _, _, by rw [cut_in f L junk ho (by omega), hf1], e2.trans e3, rfl, ?_, by rw [hx]; exact e4.trans e5, ?_, ?_, ?_, ?_, ?_⟩
  · show f1.steps + (L : Int) = L
    rw [hf1]
    show f.steps + _ = _
    omega
  · show (str (l.set (a + L) v)).size = 8192
    rw [str_size]; exact kl2
  · show (str l).size = 8192
    rw [str_size]; exact kl5
  · show (str (l.set (a + L) v)).extract 0 (a + L) = (str l).extract 0 (a + L)
    apply bytes_inj
    rw [bytes_extract, bytes_extract, bytes_str _ kb2, bytes_str _ kb5, List.drop_zero, List.drop_zero, List.take_set_of_le (by omega)]
  · show (str (l.set (a + L) v)).extract (a + L + 1) 8192 = (str l).extract (a + L + 1) 8192
    apply bytes_inj
    rw [bytes_extract, bytes_extract, bytes_str _ kb2, bytes_str _ kb5, List.drop_set_of_lt (by omega)]
  · show ∀ (h2 : a + L < (str (l.set (a + L) v)).size) (h1 : a + L < (str l).size), _
    intro h2 h1
    show decide ((str (l.set (a + L) v))[a + L].toNat &&& ((str l)[a + L].toNat &&& ((str l)[a + L].toNat &&& s[L].toNat)) = (str l)[a + L].toNat &&& ((str l)[a + L].toNat &&& s[L].toNat) ∧
          (str (l.set (a + L) v))[a + L].toNat ||| ((str l)[a + L].toNat ||| ((str l)[a + L].toNat &&& s[L].toNat)) = (str l)[a + L].toNat ||| ((str l)[a + L].toNat &&& s[L].toNat)) = true
    have b2 := bytes_get (str (l.set (a + L) v)) (a + L) h2
    rw [bytes_str _ kb2] at b2
    have b1 := bytes_get (str l) (a + L) h1
    rw [bytes_str _ kb5] at b1
    have b3 := bytes_get s L hL
    have hlt : a + L < l.length := by rw [kl5]; omega
    have hv2 : (l.set (a + L) v).getD (a + L) 0 = v := by
      rw [List.getD_eq_getElem?_getD, List.getElem?_set]
      simp [hlt]
    rw [← b2, ← b1, ← b3, hv2, hv]
    have := between_bits (l.getD (a + L) 0) ((bytes s).getD L 0) (f1.at_ 0)
    exact decide_eq_true this
end Go.Proofs.Ytngmnceahhlpkaa
