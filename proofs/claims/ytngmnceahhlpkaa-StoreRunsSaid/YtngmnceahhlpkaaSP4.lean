/- The plain law of a store over a flash that may be cut: moving, booting, putting. Conditions: as each theorem says. -/
import Derived.Test.YtngmnceahhlpkaaSP3
namespace Go.Proofs.Ytngmnceahhlpkaa
open Go.RowKit
/-- A flash on which a store stands. -/
structure Inv (f : Fl) (s : St) : Prop where
  ok : f.Ok
  act : s.act ≤ 1
  code : f.cell.getD (s.act * 4096) 0 = s.code
  rob : Rob s.act s.code (f.cell.getD ((1 - s.act) * 4096) 0)
  read : St.read (St.sector f s.act) = (s.k, s.fin, true)
/-- What a flash will be found to keep, whatever junk comes over its spare. -/
def Disk (f : Fl) (k : Kept) : Prop := ∃ act c, act ≤ 1 ∧ f.cell.getD (act * 4096) 0 = c ∧ Rob act c (f.cell.getD ((1 - act) * 4096) 0) ∧ (St.read (St.sector f act)).1 = k
theorem Inv.disk {f : Fl} {s : St} (h : Inv f s) : Disk f s.k := ⟨s.act, s.code, h.act, h.code, h.rob, by rw [h.read]⟩
theorem Inv.cells {f g : Fl} {s : St} (h : Inv f s) (hg : g.Ok) (hc : g.cell = f.cell) : Inv g s :=
  ⟨hg, h.act, by rw [hc]; exact h.code, by rw [hc]; exact h.rob, by rw [show St.sector g s.act = St.sector f s.act by unfold St.sector; rw [hc]]; exact h.read⟩
theorem Disk.cells {f g : Fl} {k : Kept} (h : Disk f k) (hc : g.cell = f.cell) : Disk g k := by
  obtain ⟨act, c, h1, h2, h3, h4⟩ := h
  exact ⟨act, c, h1, by rw [hc]; exact h2, by rw [hc]; exact h3, by rw [show St.sector g act = St.sector f act by unfold St.sector; rw [hc]]; exact h4⟩
theorem Disk.found {f : Fl} {k : Kept} (h : Disk f k) {act c sp : Nat} (ha : St.active f = some (act, c, sp)) : act ≤ 1 ∧ Rob act c sp ∧ (St.read (St.sector f act)).1 = k := by
  obtain ⟨a, d, h1, h2, h3, h4⟩ := h
  rw [h3.active h1 h2 rfl] at ha
  injection ha with ha
  injection ha with e1 ha
  injection ha with e2 e3
  subst e1; subst e2; subst e3
  exact ⟨h1, h3, h4⟩
theorem steps_k3 {l : List Nat} {p p' : Nat} {k k' : Kept} (h : Steps l p k p' k') (h3 : ∀ i, 3 ≤ i → k i = none) : ∀ i, 3 ≤ i → k' i = none := by
  induction h with
  | refl => exact h3
  | step hr _ ih =>
    refine ih fun i hi => ?_
    have := recOk_id hr
    show (if i = _ then _ else _) = _
    rw [if_neg (by omega)]
    exact h3 i hi
theorem read_k3 {l : List Nat} {k : Kept} {p : Nat} {c : Bool} (h : St.read l = (k, p, c)) : ∀ i, 3 ≤ i → k i = none := steps_k3 (read_steps h).1 (fun _ _ => rfl)
theorem keep_k3 {k : Kept} (h : ∀ i, 3 ≤ i → k i = none) {i : Nat} (hi : i < 3) (t : ByteArray) : ∀ j, 3 ≤ j → St.keep k i t j = none := fun j hj => by
  show (if j = i then _ else _) = _
  rw [if_neg (by omega)]
  exact h j hj
set_option maxRecDepth 100000 in
theorem move_out {f : Fl} (hok : f.Ok) (ho : f.off = false) (s : St) (ha : s.act ≤ 1) (hcode : f.cell.getD (s.act * 4096) 0 = s.code) (hc : (St.fol s.code).isSome = true) (k : Kept) (hk : ∀ i t, k i = some t → t.size ≤ 2000) (hall : St.all k ≤ 4096) (h3 : ∀ i, 3 ≤ i → k i = none) :
    ∃ f' s' r, St.move f s k = (f', s', r) ∧
      ((r = 0 ∧ f'.off = false ∧ f'.armed = f.armed ∧ Inv f' s' ∧ s'.k = k ∧ s'.stands = s.stands) ∨
       (r = 60 ∧ f.armed = true ∧ f'.off = true ∧ s' = s ∧ (Rob s.act s.code (f.cell.getD ((1 - s.act) * 4096) 0) → Disk f' k ∨ Disk f' (St.read (St.sector f s.act)).1))) := by
  have hl := hok.len
  have hto : 1 - s.act ≤ 1 := by omega
  obtain ⟨f1, r1, e1, hl1, hfar1, hc1⟩ := erase_out ho hl (1 - s.act) hto
  have hok1 : f1.Ok := by
    have h := hok.erase ((1 - s.act : Nat) : Int)
    rw [e1] at h
    exact h
  have hact1 : ∀ x, s.act * 4096 ≤ x → x < s.act * 4096 + 4096 → f1.cell.getD x 0 = f.cell.getD x 0 := fun x h1 h2 => hfar1 x (by omega)
  have hcode1 : f1.cell.getD (s.act * 4096) 0 = s.code := by rw [hact1 _ (Nat.le_refl _) (by omega), hcode]
  have hsec1 : St.sector f1 s.act = St.sector f s.act := sector_same hl hl1 _ hact1
  rcases hc1 with ⟨rfl, ho1, ha1, hb1⟩ | ⟨rfl, ha1, ho1, hsp1⟩
  · have hb1' : Blank f1 (1 - s.act) 1 := fun x _ hx2 => hb1 x hx2
    have hsp0 : f1.cell.getD ((1 - s.act) * 4096) 0 = 255 := hb1 0 (by decide)
    obtain ⟨f2, p, r2, e2, hok2, hfar2, hc2⟩ := puts_out (1 - s.act) hto k hk 3 0 1 f1 St.none_ (by omega) hok1 ho1 (Nat.le_refl _) (by rw [rest_all]; exact hall) hb1' (.refl _ _)
    have hl2 := hok2.len
    have hact2 : ∀ x, s.act * 4096 ≤ x → x < s.act * 4096 + 4096 → f2.cell.getD x 0 = f1.cell.getD x 0 := fun x h1 h2 => hfar2 x (by omega)
    have hcode2 : f2.cell.getD (s.act * 4096) 0 = s.code := by rw [hact2 _ (Nat.le_refl _) (by omega), hcode1]
    have hsec2 : St.sector f2 s.act = St.sector f s.act := (sector_same hl1 hl2 _ hact2).trans hsec1
    have hsp2 : f2.cell.getD ((1 - s.act) * 4096) 0 = 255 := by rw [hfar2 _ (by omega), hsp0]
    have hold2 : Disk f2 (St.read (St.sector f s.act)).1 := ⟨s.act, s.code, ha, hcode2, by rw [hsp2]; exact rob_blank hc, by rw [hsec2]⟩
    rcases hc2 with ⟨rfl, ho2, ha2, hp2, hs2, hb2⟩ | ⟨rfl, ha2, ho2⟩
    · rw [fill_all k h3] at hs2
      rw [rest_all] at hp2
      have hp1 : 1 ≤ p := hs2.le
      have hfc : St.folC s.code < 256 := folC_lt _
      obtain ⟨f3, r3, e3, hl3, hfar3, hc3⟩ := prog_out [St.folC s.code] f2 ((1 - s.act) * 4096) (by rw [hl2]; show _ + 1 ≤ 8192; omega)
      rw [hl2] at hl3
      have hok3 : f3.Ok := by
        have h := Fl.Ok.prog [St.folC s.code] ((1 - s.act) * 4096) hok2
        rw [e3] at h
        exact h
      have e3' : f2.program (((1 - s.act) * 4096 : Nat) : Int) [St.folC s.code] = (f3, r3) := by
        rw [program_out2 ho2 _ _ (by show _ + 1 ≤ 8192; omega)]
        exact e3
      have hlen1 : [St.folC s.code].length = 1 := rfl
      rw [hlen1] at hfar3 hc3
      have hact3 : ∀ x, s.act * 4096 ≤ x → x < s.act * 4096 + 4096 → f3.cell.getD x 0 = f2.cell.getD x 0 := fun x h1 h2 => hfar3 x (by omega)
      have hcode3 : f3.cell.getD (s.act * 4096) 0 = s.code := by rw [hact3 _ (Nat.le_refl _) (by omega), hcode2]
      have hsec3 : St.sector f3 s.act = St.sector f s.act := (sector_same hl2 hl3 _ hact3).trans hsec2
      have hn2 := sector_len2 hl2 (1 - s.act) hto
      have hn3 := sector_len2 hl3 (1 - s.act) hto
      have hs3 : Steps (St.sector f3 (1 - s.act)) 1 St.none_ p k := hs2.same (hn3.trans hn2.symm) (fun x hx hx2 => by
        rw [sector_get f3 _ x (by omega), sector_get f2 _ x (by omega)]
        exact hfar3 _ (by omega))
      have hb3 : Blank f3 (1 - s.act) p := fun x hx hx2 => by
        rw [hfar3 _ (by omega)]
        exact hb2 x hx hx2
      have hread3 := hb3.read hl3 hto hp1 hs3
      have hback : (1 - (1 - s.act)) = s.act := Nat.sub_sub_self ha
      have hrob3 : Rob (1 - s.act) (St.folC s.code) s.code := rob_code (folC_is hc) hc (fun _ => folC_two hc) (fun _ => rfl)
      rcases hc3 with ⟨rfl, ho3, ha3, hd3, _⟩ | ⟨rfl, ha3, ho3, m, hm, _, hd3, hd4, hd5⟩
      · have hc0 : f3.cell.getD ((1 - s.act) * 4096) 0 = St.folC s.code := by
          have h := hd3 0 (by omega)
          rw [Nat.add_zero, hsp2] at h
          rw [h]
          exact and255 _ hfc
        refine ⟨f3, _, 0, move_good e1 e2 e3', .inl ⟨rfl, ho3.trans ho2, ha3.trans (ha2.trans ha1), ⟨hok3, hto, hc0, ?_, hread3⟩, rfl, rfl⟩⟩
        show Rob (1 - s.act) (St.folC s.code) (f3.cell.getD ((1 - (1 - s.act)) * 4096) 0)
        rw [hback, hcode3]
        exact hrob3
      · obtain rfl : m = 0 := by omega
        have hj := Fl.at_lt hok2 0
        have hc0 : f3.cell.getD ((1 - s.act) * 4096) 0 = St.folC s.code ||| f2.at_ 0 := by
          rw [Nat.add_zero, hsp2] at hd4
          rw [hd4]
          exact and255 _ (Fl.or_lt hfc hj)
        refine ⟨f3, s, 60, move_bad3 e1 e2 e3' (by decide), .inr ⟨rfl, ha1 ▸ ha2 ▸ ha3, ho3, rfl, fun _ => ?_⟩⟩
        by_cases hn : St.folC s.code ||| f2.at_ 0 = St.folC s.code
        · refine .inl ⟨1 - s.act, St.folC s.code, hto, hc0.trans hn, ?_, by rw [hread3]⟩
          rw [hback, hcode3]
          exact hrob3
        · refine .inr ⟨s.act, s.code, ha, hcode3, ?_, by rw [hsec3]⟩
          rw [hc0]
          exact rob_part hc hj hn
    · exact ⟨f2, s, 60, move_bad2 e1 e2 (by decide), .inr ⟨rfl, ha1 ▸ ha2, ho2, rfl, fun _ => .inr hold2⟩⟩
  · refine ⟨f1, s, 60, move_bad1 e1 (by decide), .inr ⟨rfl, ha1, ho1, rfl, fun hr => .inr ⟨s.act, s.code, ha, hcode1, ?_, by rw [hsec1]⟩⟩⟩
    rw [hsp1]
    exact hr.or _ (Fl.at_lt hok 0)
end Go.Proofs.Ytngmnceahhlpkaa
