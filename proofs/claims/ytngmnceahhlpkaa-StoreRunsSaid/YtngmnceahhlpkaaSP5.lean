/- The plain law of a store over a flash that may be cut: booting and putting. Conditions: as each theorem says. -/
import Derived.Test.YtngmnceahhlpkaaSP4
namespace Go.Proofs.Ytngmnceahhlpkaa
open Go.RowKit
theorem active_inv {f : Fl} {act c sp : Nat} (h : St.active f = some (act, c, sp)) : act ≤ 1 ∧ f.cell.getD (act * 4096) 0 = c ∧ f.cell.getD ((1 - act) * 4096) 0 = sp ∧ (St.fol c).isSome = true ∧ (act = 0 → (St.fol sp).isSome = true → sp ≠ St.folC c) ∧ (act = 1 → (St.fol sp).isSome = true → c = St.folC sp) := by
  obtain ⟨a, ha⟩ : ∃ a, f.cell.getD 0 0 = a := ⟨_, rfl⟩
  obtain ⟨b, hb⟩ : ∃ b, f.cell.getD 4096 0 = b := ⟨_, rfl⟩
  cases h1 : St.fol a with
  | none =>
    cases h2 : St.fol b with
    | none => rw [active_nn ha hb h1 h2] at h; cases h
    | some y =>
      rw [active_ns ha hb h1 h2] at h
      injection h with h
      injection h with e1 h
      injection h with e2 e3
      subst e1; subst e2; subst e3
      exact ⟨Nat.le_refl _, hb, ha, by rw [h2]; rfl, fun h => absurd h (by decide), fun _ h => by rw [h1] at h; cases h⟩
  | some x =>
    have hx : St.folC a = x := by unfold St.folC; rw [h1]; rfl
    cases h2 : St.fol b with
    | none =>
      rw [active_sn ha hb h1 h2] at h
      injection h with h
      injection h with e1 h
      injection h with e2 e3
      subst e1; subst e2; subst e3
      exact ⟨Nat.zero_le _, ha, hb, by rw [h1]; rfl, fun _ h => by (rw [h2] at h; cases h), fun h => absurd h (by decide)⟩
    | some y =>
      by_cases hbx : b = x
      · rw [active_s1 ha hb h1 h2 hbx] at h
        injection h with h
        injection h with e1 h
        injection h with e2 e3
        subst e1; subst e2; subst e3
        exact ⟨Nat.le_refl _, hb, ha, by rw [h2]; rfl, fun h => absurd h (by decide), fun _ _ => by rw [hx, hbx]⟩
      · rw [active_s0 ha hb h1 h2 hbx] at h
        injection h with h
        injection h with e1 h
        injection h with e2 e3
        subst e1; subst e2; subst e3
        exact ⟨Nat.zero_le _, ha, hb, by rw [h1]; rfl, fun _ _ => by rw [hx]; exact hbx, fun h => absurd h (by decide)⟩
theorem format_skip {f : Fl} (h : f.cell.getD 4096 0 = 255) : St.format f = match f.erase 0 with | (f2, 0) => f2.program 0 [15] | (f2, e) => (f2, e) := by
  unfold St.format
  rw [if_pos h]
  rfl
theorem format_bad {f f1 : Fl} {e : Int} (h : f.cell.getD 4096 0 ≠ 255) (he : f.erase 1 = (f1, e)) (hq : e ≠ 0) : St.format f = (f1, e) := by
  unfold St.format
  rw [if_neg h, he]
  split
  · rename_i h2; injection h2 with _ h2; exact absurd h2 hq
  · rename_i h2; rw [h2]
theorem format_go {f f1 : Fl} (h : f.cell.getD 4096 0 ≠ 255) (he : f.erase 1 = (f1, 0)) : St.format f = match f1.erase 0 with | (f2, 0) => f2.program 0 [15] | (f2, e) => (f2, e) := by
  unfold St.format
  rw [if_neg h, he]
  rfl
set_option maxRecDepth 100000 in
theorem format_end {f : Fl} (hok : f.Ok) (ho : f.off = false) (hb : f.cell.getD 4096 0 = 255) :
    ∃ f' r, (match f.erase 0 with | (f2, 0) => f2.program 0 [15] | (f2, e) => (f2, e)) = (f', r) ∧ ((r = 0 ∧ f'.off = false ∧ f'.armed = f.armed ∧ Inv f' St.st0) ∨ (r = 60 ∧ f.armed = true ∧ f'.off = true)) := by
  have hl := hok.len
  obtain ⟨f1, r1, e1, hl1, hfar1, hc1⟩ := erase_out ho hl 0 (by decide)
  have e1 : f.erase 0 = (f1, r1) := e1
  have hok1 : f1.Ok := by
    have h := hok.erase 0
    rw [e1] at h
    exact h
  rw [e1]
  rcases hc1 with ⟨rfl, ho1, ha1, hb1⟩ | ⟨rfl, ha1, ho1, _⟩
  · show ∃ f' r, f1.program 0 [15] = (f', r) ∧ _
    obtain ⟨f3, r3, e3, hl3, hfar3, hc3⟩ := prog_out [15] f1 0 (by rw [hl1]; decide)
    rw [hl1] at hl3
    have hok3 : f3.Ok := by
      have h := Fl.Ok.prog [15] 0 hok1
      rw [e3] at h
      exact h
    have e3' : f1.program 0 [15] = (f3, r3) := by
      have h := program_out2 ho1 0 [15] (by decide)
      rw [e3] at h
      exact h
    refine ⟨f3, r3, e3', ?_⟩
    have hlen1 : [15].length = 1 := rfl
    rw [hlen1] at hfar3 hc3
    rcases hc3 with ⟨rfl, ho3, ha3, hd3, _⟩ | ⟨rfl, ha3, ho3, _⟩
    · refine .inl ⟨rfl, ho3.trans ho1, ha3.trans ha1, ⟨hok3, by decide, ?_, ?_, ?_⟩⟩
      · have h := hd3 0 (by decide)
        have h0 := hb1 0 (by decide)
        rw [show 0 * 4096 + 0 = 0 + 0 by decide] at h0
        rw [h0] at h
        exact h
      · show Rob 0 15 (f3.cell.getD ((1 - 0) * 4096) 0)
        rw [hfar3 _ (by omega), hfar1 _ (by omega)]
        show Rob 0 15 (f.cell.getD 4096 0)
        rw [hb]
        exact rob_blank (by decide)
      · have hbl : Blank f3 0 1 := fun x hx hx2 => by
          rw [hfar3 _ (by omega)]
          exact hb1 x hx2
        exact hbl.read hl3 (by decide) (Nat.le_refl _) (.refl _ _)
    · exact .inr ⟨rfl, ha1 ▸ ha3, ho3⟩
  · exact ⟨f1, 60, rfl, .inr ⟨rfl, ha1, ho1⟩⟩
theorem format_out {f : Fl} (hok : f.Ok) (ho : f.off = false) : ∃ f' r, St.format f = (f', r) ∧ ((r = 0 ∧ f'.off = false ∧ f'.armed = f.armed ∧ Inv f' St.st0) ∨ (r = 60 ∧ f.armed = true ∧ f'.off = true)) := by
  by_cases hb : f.cell.getD 4096 0 = 255
  · rw [format_skip hb]
    exact format_end hok ho hb
  · obtain ⟨f1, r1, e1, hl1, hfar1, hc1⟩ := erase_out ho hok.len 1 (by decide)
    have e1 : f.erase 1 = (f1, r1) := e1
    have hok1 : f1.Ok := by
      have h := hok.erase 1
      rw [e1] at h
      exact h
    rcases hc1 with ⟨rfl, ho1, ha1, hb1⟩ | ⟨rfl, ha1, ho1, _⟩
    · rw [format_go hb e1]
      obtain ⟨f', r, e, h⟩ := format_end hok1 ho1 (hb1 0 (by decide))
      refine ⟨f', r, e, ?_⟩
      rw [ha1] at h
      exact h
    · rw [format_bad hb e1 (by decide)]
      exact ⟨f1, 60, rfl, .inr ⟨rfl, ha1, ho1⟩⟩
def BootOut (f : Fl) (f' : Fl) (o : Option St) (r : Int) : Prop :=
  (r = 0 ∧ ∃ s, o = some s ∧ s.stands = false ∧ Inv f' s ∧ f'.off = false ∧ f'.armed = f.armed ∧ ∀ k, Disk f k → s.k = k) ∨ (r = 60 ∧ o = none ∧ f.armed = true ∧ f'.off = true ∧ ∀ k, Disk f k → Disk f' k)
theorem boot_out {f : Fl} (hok : f.Ok) (ho : f.off = false) : ∃ f' o r, St.boot f = (f', o, r) ∧ BootOut f f' o r := by
  cases hac : St.active f with
  | none =>
    have hnd : ∀ k, ¬ Disk f k := by
      rintro k ⟨a, d, h1, h2, h3, h4⟩
      rw [h3.active h1 h2 rfl] at hac
      cases hac
    obtain ⟨f', r, e, h⟩ := format_out hok ho
    rcases h with ⟨rfl, h1, h2, h3⟩ | ⟨rfl, h1, h2⟩
    · refine ⟨f', some St.st0, 0, ?_, .inl ⟨rfl, _, rfl, rfl, h3, h1, h2, fun k hk => absurd hk (hnd k)⟩⟩
      rw [boot_none ho hac, e]
      rfl
    · refine ⟨f', none, 60, ?_, .inr ⟨rfl, rfl, h1, h2, fun k hk => absurd hk (hnd k)⟩⟩
      rw [boot_none ho hac, e]
      rfl
  | some x =>
    obtain ⟨act, c, sp⟩ := x
    obtain ⟨hact, hcell, hspc, hc, hch0, hch1⟩ := active_inv hac
    obtain ⟨k, p, d, hr⟩ : ∃ k p d, St.read (St.sector f act) = (k, p, d) := ⟨_, _, _, rfl⟩
    have hfit := read_fits (St.sector f act) (by rw [sector_len hok act hact]; decide)
    rw [hr, sector_len hok act hact] at hfit
    have hdk : ∀ k', Disk f k' → Rob act c sp ∧ k = k' := fun k' hk' => by
      obtain ⟨_, h2, h3⟩ := hk'.found hac
      rw [hr] at h3
      exact ⟨h2, h3⟩
    have hb := boot_some ho hac hr
    cases d with
    | false =>
      rw [if_pos rfl] at hb
      obtain ⟨f', s', r, e, h⟩ := move_out hok ho ⟨act, c, p, k, false⟩ hact hcell hc k hfit.2.2 (Nat.le_trans hfit.2.1 hfit.1) (read_k3 hr)
      rw [move_st e] at hb
      rcases h with ⟨rfl, h1, h2, h3, h4, h5⟩ | ⟨rfl, h1, h2, h3, h4⟩
      · exact ⟨f', some s', 0, hb, .inl ⟨rfl, s', rfl, h5, h3, h1, h2, fun k' hk' => h4.trans (hdk k' hk').2⟩⟩
      · refine ⟨f', none, 60, hb, .inr ⟨rfl, rfl, h1, h2, fun k' hk' => ?_⟩⟩
        obtain ⟨h6, h7⟩ := hdk k' hk'
        subst h7
        have h8 := h4 (by show Rob act c (f.cell.getD ((1 - act) * 4096) 0); rw [hspc]; exact h6)
        rcases h8 with h8 | h8
        · exact h8
        · rw [show (St.read (St.sector f act)).1 = k by rw [hr]] at h8
          exact h8
    | true =>
      rw [if_neg (by decide)] at hb
      by_cases hs : sp ≠ 255 ∧ St.fol sp = none
      · rw [if_pos hs] at hb
        obtain ⟨f1, r1, e1, hl1, hfar1, hc1⟩ := erase_out ho hok.len (1 - act) (by omega)
        have hok1 : f1.Ok := by
          have h := hok.erase ((1 - act : Nat) : Int)
          rw [e1] at h
          exact h
        rw [erase_st e1] at hb
        have hact1 : ∀ x, act * 4096 ≤ x → x < act * 4096 + 4096 → f1.cell.getD x 0 = f.cell.getD x 0 := fun x h1 h2 => hfar1 x (by omega)
        have hcode1 : f1.cell.getD (act * 4096) 0 = c := by rw [hact1 _ (Nat.le_refl _) (by omega), hcell]
        have hsec1 : St.sector f1 act = St.sector f act := sector_same hok.len hl1 _ hact1
        rcases hc1 with ⟨rfl, ho1, ha1, hb1⟩ | ⟨rfl, ha1, ho1, hsp1⟩
        · refine ⟨f1, _, 0, hb, .inl ⟨rfl, _, rfl, rfl, ⟨hok1, hact, hcode1, ?_, by rw [hsec1]; exact hr⟩, ho1, ha1, fun k' hk' => (hdk k' hk').2⟩⟩
          show Rob act c (f1.cell.getD ((1 - act) * 4096) 0)
          have h0 := hb1 0 (by decide)
          rw [Nat.add_zero] at h0
          rw [h0]
          exact rob_blank hc
        · refine ⟨f1, none, 60, hb, .inr ⟨rfl, rfl, ha1, ho1, fun k' hk' => ?_⟩⟩
          obtain ⟨h6, h7⟩ := hdk k' hk'
          refine ⟨act, c, hact, hcode1, ?_, by rw [hsec1, hr]; exact h7⟩
          rw [hsp1, hspc]
          exact h6.or _ (Fl.at_lt hok 0)
      · rw [if_neg hs] at hb
        refine ⟨f, _, 0, hb, .inl ⟨rfl, _, rfl, rfl, ⟨hok, hact, hcell, ?_, hr⟩, ho, rfl, fun k' hk' => (hdk k' hk').2⟩⟩
        show Rob act c (f.cell.getD ((1 - act) * 4096) 0)
        rw [hspc]
        by_cases h255 : sp = 255
        · rw [h255]
          exact rob_blank hc
        · cases hfs : St.fol sp with
          | none => exact absurd ⟨h255, hfs⟩ hs
          | some y =>
            have hys : (St.fol sp).isSome = true := by rw [hfs]; rfl
            exact rob_code hc hys (fun h => hch0 h hys) (fun h => hch1 h hys)
def PutOut (f : Fl) (s : St) (id : Int) (t : ByteArray) (f' : Fl) (s' : St) (r : Int) : Prop :=
  ((id < 0 ∨ 3 ≤ id ∨ 2000 < t.size) ∧ r = 1 ∧ f' = f ∧ s' = s) ∨
  (0 ≤ id ∧ id < 3 ∧ t.size ≤ 2000 ∧
    ((4096 < St.all (St.keep s.k id.toNat t) ∧ r = 70 ∧ f' = f ∧ s' = s) ∨
     (St.all (St.keep s.k id.toNat t) ≤ 4096 ∧ r = 0 ∧ f'.off = false ∧ f'.armed = f.armed ∧ Inv f' s' ∧ s'.stands = false ∧ s'.k = St.keep s.k id.toNat t) ∨
     (St.all (St.keep s.k id.toNat t) ≤ 4096 ∧ r = 60 ∧ f.armed = true ∧ f'.off = true ∧ (Disk f' s.k ∨ Disk f' (St.keep s.k id.toNat t)))))
theorem put_out {f : Fl} {s : St} (hi : Inv f s) (ho : f.off = false) (hst : s.stands = false) (id : Int) (t : ByteArray) : ∃ f' s' r, St.put f s id t = (f', s', r) ∧ PutOut f s id t f' s' r := by
  by_cases hbad : id < 0 ∨ 3 ≤ id ∨ 2000 < t.size
  · exact ⟨f, s, 1, put_arg hst hbad, .inl ⟨hbad, rfl, rfl, rfl⟩⟩
  · obtain ⟨i, rfl⟩ : ∃ i : Nat, id = (i : Int) := ⟨id.toNat, by omega⟩
    have hi3 : i < 3 := by omega
    have hts : t.size ≤ 2000 := by omega
    have hok := hi.ok
    have hl := hok.len
    have hti : (i : Int).toNat = i := Int.toNat_natCast i
    have hfit := read_fits (St.sector f s.act) (by rw [sector_len hok _ hi.act]; decide)
    rw [hi.read] at hfit
    obtain ⟨hsteps, hp1, hblank⟩ := blank_of_read hl hi.act hi.read
    have hc : (St.fol s.code).isSome = true := hi.rob.1
    have hk : ∀ j u, St.keep s.k i t j = some u → u.size ≤ 2000 := fun j u hu => by
      have hu2 : (if j = i then some t else s.k j) = some u := hu
      split at hu2
      · injection hu2 with hu2
        rw [← hu2]
        exact hts
      · exact hfit.2.2 j u hu2
    by_cases hfull : 4096 < St.all (St.keep s.k i t)
    · exact ⟨f, s, 70, put_full hst hi3 hts hfull, .inr ⟨by omega, by omega, hts, .inl ⟨by rw [hti]; exact hfull, rfl, rfl, rfl⟩⟩⟩
    · by_cases hroom : s.fin + (t.size + 4) ≤ 4096
      · obtain ⟨f1, r, e, hl1, hok1, hfar, hcase⟩ := rec_out hok ho hi.act hi3 hts hp1 hroom hblank hsteps
        have hpm := put_here hst hi3 hts hfull hroom e
        have hsp : f1.cell.getD ((1 - s.act) * 4096) 0 = f.cell.getD ((1 - s.act) * 4096) 0 := hfar _ (by have := hi.act; omega)
        have hcd : f1.cell.getD (s.act * 4096) 0 = s.code := by rw [hfar _ (by omega), hi.code]
        rcases hcase with ⟨rfl, ho1, ha1, hs1, hb1⟩ | ⟨rfl, ha1, ho1, hd⟩
        · rw [if_pos rfl] at hpm
          refine ⟨f1, _, 0, hpm, .inr ⟨by omega, by omega, hts, .inr (.inl ⟨by rw [hti]; omega, rfl, ho1, ha1, ⟨hok1, hi.act, hcd, ?_, hb1.read hl1 hi.act (Nat.le_trans hp1 (Nat.le_add_right _ _)) hs1⟩, rfl, by rw [hti]⟩)⟩⟩
          show Rob s.act s.code (f1.cell.getD ((1 - s.act) * 4096) 0)
          rw [hsp]
          exact hi.rob
        · rw [if_neg (by decide)] at hpm
          refine ⟨f1, _, 60, hpm, .inr ⟨by omega, by omega, hts, .inr (.inr ⟨by rw [hti]; omega, rfl, ha1, ho1, ?_⟩)⟩⟩
          rw [hti]
          rcases hd with hd | hd
          · exact .inl ⟨s.act, s.code, hi.act, hcd, by rw [hsp]; exact hi.rob, hd⟩
          · exact .inr ⟨s.act, s.code, hi.act, hcd, by rw [hsp]; exact hi.rob, hd⟩
      · obtain ⟨f', s', r, e, h⟩ := move_out hok ho s hi.act hi.code hc (St.keep s.k i t) hk (by omega) (keep_k3 (read_k3 hi.read) hi3 t)
        have hpm := put_there hst hi3 hts hfull hroom e
        rcases h with ⟨rfl, h1, h2, h3, h4, h5⟩ | ⟨rfl, h1, h2, h3, h4⟩
        · rw [if_pos rfl] at hpm
          exact ⟨f', _, 0, hpm, .inr ⟨by omega, by omega, hts, .inr (.inl ⟨by rw [hti]; omega, rfl, h1, h2, ⟨h3.ok, h3.act, h3.code, h3.rob, h3.read⟩, rfl, by rw [hti]; exact h4⟩)⟩⟩
        · rw [if_neg (by decide)] at hpm
          refine ⟨f', _, 60, hpm, .inr ⟨by omega, by omega, hts, .inr (.inr ⟨by rw [hti]; omega, rfl, h1, h2, ?_⟩)⟩⟩
          rw [hti]
          have h8 := h4 hi.rob
          rw [hi.read] at h8
          exact h8.symm
end Go.Proofs.Ytngmnceahhlpkaa
