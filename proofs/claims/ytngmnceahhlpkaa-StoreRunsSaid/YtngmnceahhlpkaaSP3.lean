/- The plain law of a store over a flash that may be cut: moving, booting, putting. Conditions: as each theorem says. -/
import Derived.Test.YtngmnceahhlpkaaSP2
namespace Go.Proofs.Ytngmnceahhlpkaa
open Go.RowKit
set_option maxRecDepth 100000 in
theorem and255 : ∀ d, d < 256 → 255 &&& d = d := by decide
theorem recOk_blank {l : List Nat} {p : Nat} (h : p < l.length → l.getD p 0 = 255) : St.recOk l p = false := by
  cases hr : St.recOk l p with
  | false => rfl
  | true =>
    have h1 := recOk_end hr
    have h2 := recOk_id hr
    rw [h (by omega)] at h2
    omega
def Blank (f : Fl) (a p : Nat) : Prop := ∀ x, p ≤ x → x < 4096 → f.cell.getD (a * 4096 + x) 0 = 255
theorem Blank.read {f : Fl} {a p : Nat} {k : Kept} (hl : f.cell.length = 8192) (ha : a ≤ 1) (hp : 1 ≤ p) (h : Blank f a p) (hs : Steps (St.sector f a) 1 St.none_ p k) : St.read (St.sector f a) = (k, p, true) := by
  have hn := sector_len2 hl a ha
  refine read_clean hs (by rw [hn]; decide) ?_
  rw [hn]
  exact lastOf_upto _ p hp 4096 (fun i h1 h2 => by rw [sector_get f a i h2]; exact h i h1 h2)
theorem blank_of_read {f : Fl} {a p : Nat} {k : Kept} (hl : f.cell.length = 8192) (ha : a ≤ 1) (h : St.read (St.sector f a) = (k, p, true)) : Steps (St.sector f a) 1 St.none_ p k ∧ 1 ≤ p ∧ Blank f a p := by
  obtain ⟨h1, h2, _⟩ := read_steps h
  have hn := sector_len2 hl a ha
  have h3 := h2 rfl
  rw [hn] at h3
  exact ⟨h1, h1.le, fun x hx hx2 => by
    rw [← sector_get f a x hx2]
    exact lastOf_blank _ 4096 x (Nat.le_trans h3 hx) hx2 (Nat.le_trans h1.le hx)⟩
set_option maxRecDepth 100000 in
/-- A record is programmed behind the others. -/
theorem rec_out {f : Fl} (hok : f.Ok) (ho : f.off = false) {a p i : Nat} {t : ByteArray} {k0 : Kept} (ha : a ≤ 1) (hi : i < 3) (ht : t.size ≤ 2000) (hp : 1 ≤ p) (hpt : p + (t.size + 4) ≤ 4096) (hb : Blank f a p) (hs : Steps (St.sector f a) 1 St.none_ p k0) :
    ∃ f' r, f.program ((a * 4096 + p : Nat) : Int) (St.recL i t) = (f', r) ∧ f'.cell.length = 8192 ∧ f'.Ok ∧ (∀ x, x < a * 4096 + p ∨ a * 4096 + 4096 ≤ x → f'.cell.getD x 0 = f.cell.getD x 0) ∧
      ((r = 0 ∧ f'.off = false ∧ f'.armed = f.armed ∧ Steps (St.sector f' a) 1 St.none_ (p + (t.size + 4)) (St.keep k0 i t) ∧ Blank f' a (p + (t.size + 4))) ∨
       (r = 60 ∧ f.armed = true ∧ f'.off = true ∧ ((St.read (St.sector f' a)).1 = k0 ∨ (St.read (St.sector f' a)).1 = St.keep k0 i t))) := by
  have hl := hok.len
  obtain ⟨f', r, e, hlen, hfar, hc⟩ := prog_out (St.recL i t) f (a * 4096 + p) (by rw [rec_len, hl]; omega)
  have hok' : f'.Ok := by
    have h := Fl.Ok.prog (St.recL i t) (a * 4096 + p) hok
    rw [e] at h
    exact h
  rw [hl] at hlen
  rw [rec_len] at hfar hc
  have hn := sector_len2 hl a ha
  have hn' := sector_len2 hlen a ha
  have hfar2 : ∀ x, x < a * 4096 + p ∨ a * 4096 + 4096 ≤ x → f'.cell.getD x 0 = f.cell.getD x 0 := fun x hx => hfar x (by omega)
  have hsame : Steps (St.sector f' a) 1 St.none_ p k0 := hs.same (hn'.trans hn.symm) (fun x _ hx => by
    rw [sector_get f' a x (by omega), sector_get f a x (by omega)]
    exact hfar2 _ (by omega))
  have hbl : ∀ x, p + (t.size + 4) ≤ x → x < 4096 → f'.cell.getD (a * 4096 + x) 0 = 255 := fun x hx hx2 => by
    rw [hfar _ (by omega)]
    exact hb x (by omega) hx2
  have hrb : ∀ m, (St.recL i t).getD m 0 < 256 := fun m => Fl.getD_lt (recL_byte i t) m
  refine ⟨f', r, ?_, hlen, hok', hfar2, ?_⟩
  · rw [program_out2 ho _ _ (by rw [rec_len]; omega)]
    exact e
  · rcases hc with ⟨r0, r1, r2, r3, _⟩ | ⟨r0, r1, r2, m, hm, _, r3, r4, r5⟩
    · have hcell : ∀ m, m < t.size + 4 → (St.sector f' a).getD (p + m) 0 = (St.recL i t).getD m 0 := fun m hm => by
        rw [sector_get f' a _ (by omega), show a * 4096 + (p + m) = a * 4096 + p + m by omega, r3 m hm, show a * 4096 + p + m = a * 4096 + (p + m) by omega, hb _ (by omega) (by omega), and255 _ (hrb m)]
      obtain ⟨q1, q2, q3, q4⟩ := rec_there hi ht (by rw [hn']; exact hpt) hcell
      refine .inl ⟨r0, r1.trans ho, r2, hsame.trans (.step q1 ?_), hbl⟩
      rw [q2, q3, q4, show p + t.size + 4 = p + (t.size + 4) by omega]
      exact .refl _ _
    · have c1 : ∀ x, x < m → (St.sector f' a).getD (p + x) 0 = (St.recL i t).getD x 0 := fun x hx => by
        rw [sector_get f' a _ (by omega), show a * 4096 + (p + x) = a * 4096 + p + x by omega, r3 x hx, show a * 4096 + p + x = a * 4096 + (p + x) by omega, hb _ (by omega) (by omega), and255 _ (hrb x)]
      have c2 : (St.sector f' a).getD (p + m) 0 = (St.recL i t).getD m 0 ||| f.at_ 0 := by
        rw [sector_get f' a _ (by omega), show a * 4096 + (p + m) = a * 4096 + p + m by omega, r4, show a * 4096 + p + m = a * 4096 + (p + m) by omega, hb _ (by omega) (by omega), and255 _ (Fl.or_lt (hrb m) (Fl.at_lt hok 0))]
      have c3 : ∀ x, p + m < x → x < 4096 → (St.sector f' a).getD x 0 = 255 := fun x hx hx2 => by
        rw [sector_get f' a _ hx2]
        by_cases hx3 : x < p + (t.size + 4)
        · have h5 := r5 (x - p) (by omega) (by omega)
          rw [show a * 4096 + p + (x - p) = a * 4096 + x by omega] at h5
          rw [h5]
          exact hb x (by omega) hx2
        · exact hbl x (by omega) hx2
      refine .inr ⟨r0, r1, r2, ?_⟩
      by_cases hfull : m = t.size + 3 ∧ (St.recL i t).getD m 0 ||| f.at_ 0 = 0
      · obtain ⟨hm2, hz⟩ := hfull
        refine .inr ?_
        have hcell : ∀ y, y < t.size + 4 → (St.sector f' a).getD (p + y) 0 = (St.recL i t).getD y 0 := fun y hy => by
          by_cases hy2 : y < m
          · exact c1 y hy2
          · obtain rfl : y = m := by omega
            rw [c2, hz, hm2, rec_end]
        obtain ⟨q1, q2, q3, q4⟩ := rec_there hi ht (by rw [hn']; exact hpt) hcell
        have hst : Steps (St.sector f' a) 1 St.none_ (p + (t.size + 4)) (St.keep k0 i t) := hsame.trans (.step q1 (by
          rw [q2, q3, q4, show p + t.size + 4 = p + (t.size + 4) by omega]
          exact .refl _ _))
        refine read_kept hst (by rw [hn']; decide) (recOk_blank fun hx => ?_)
        rw [hn'] at hx
        exact c3 _ (by omega) hx
      · refine .inl (read_kept hsame (by rw [hn']; decide) ?_)
        exact rec_part ht hm c1 c2 (fun x h1 h2 => c3 x h1 (by rw [hn'] at h2; exact h2)) (fun h1 h2 => hfull ⟨h1, h2⟩)
def fill (k : Kept) : Kept → Nat → Nat → Kept
  | k0, _, 0 => k0
  | k0, i, n + 1 => match k i with | none => fill k k0 (i + 1) n | some t => fill k (St.keep k0 i t) (i + 1) n
def rest (k : Kept) : Nat → Nat → Nat
  | _, 0 => 0
  | i, n + 1 => St.size (k i) + rest k (i + 1) n
theorem fill_all (k : Kept) (h3 : ∀ i, 3 ≤ i → k i = none) : fill k St.none_ 0 3 = k := by
  have h : ∀ (k0 : Kept) (i n : Nat), fill k k0 i n = fun j => if i ≤ j ∧ j < i + n ∧ (k j).isSome = true then k j else k0 j := by
    intro k0 i n
    induction n generalizing k0 i with
    | zero =>
      funext j
      show k0 j = _
      rw [if_neg (by omega)]
    | succ n ih =>
      funext j
      show (match k i with | none => fill k k0 (i + 1) n | some t => fill k (St.keep k0 i t) (i + 1) n) j = _
      cases hk : k i with
      | none =>
        show fill k k0 (i + 1) n j = _
        rw [ih]
        show (if i + 1 ≤ j ∧ j < i + 1 + n ∧ (k j).isSome = true then k j else _) = _
        by_cases hj : j = i
        · subst hj
          simp [hk]
        · by_cases hc : i + 1 ≤ j ∧ j < i + 1 + n ∧ (k j).isSome = true
          · rw [if_pos hc, if_pos ⟨by omega, by omega, hc.2.2⟩]
          · rw [if_neg hc, if_neg (fun hh => hc ⟨by omega, by omega, hh.2.2⟩)]
      | some t =>
        show fill k (St.keep k0 i t) (i + 1) n j = _
        rw [ih]
        show (if i + 1 ≤ j ∧ j < i + 1 + n ∧ (k j).isSome = true then k j else _) = _
        by_cases hj : j = i
        · subst hj
          simp [hk, St.keep]
        · by_cases hc : i + 1 ≤ j ∧ j < i + 1 + n ∧ (k j).isSome = true
          · rw [if_pos hc, if_pos ⟨by omega, by omega, hc.2.2⟩]
          · rw [if_neg hc, if_neg (fun hh => hc ⟨by omega, by omega, hh.2.2⟩)]
            show (if j = i then some t else k0 j) = _
            rw [if_neg hj]
  rw [h]
  funext j
  by_cases hj : j < 3
  · cases hk : k j with
    | none => simp [St.none_]
    | some t => simp [hj]
  · rw [if_neg (by omega), h3 j (by omega)]
    rfl
theorem rest_all (k : Kept) : 1 + rest k 0 3 = St.all k := by
  show 1 + (St.size (k 0) + (St.size (k 1) + (St.size (k 2) + 0))) = 1 + St.size (k 0) + St.size (k 1) + St.size (k 2)
  omega
/-- What is kept is programmed into a blank sector. -/
theorem puts_out (to_ : Nat) (hto : to_ ≤ 1) (k : Kept) (hk : ∀ i t, k i = some t → t.size ≤ 2000) : ∀ (n i p : Nat) (f : Fl) (k0 : Kept), i + n = 3 → f.Ok → f.off = false → 1 ≤ p → p + rest k i n ≤ 4096 → Blank f to_ p → Steps (St.sector f to_) 1 St.none_ p k0 →
    ∃ f' p' r, St.puts f to_ k i n p = (f', p', r) ∧ f'.Ok ∧ (∀ x, x < to_ * 4096 + 1 ∨ to_ * 4096 + 4096 ≤ x → f'.cell.getD x 0 = f.cell.getD x 0) ∧
      ((r = 0 ∧ f'.off = false ∧ f'.armed = f.armed ∧ p' = p + rest k i n ∧ Steps (St.sector f' to_) 1 St.none_ p' (fill k k0 i n) ∧ Blank f' to_ p') ∨ (r = 60 ∧ f.armed = true ∧ f'.off = true))
  | 0, i, p, f, k0, _, hok, ho, _, _, hb, hs => ⟨f, p, 0, rfl, hok, fun _ _ => rfl, .inl ⟨rfl, ho, rfl, rfl, hs, hb⟩⟩
  | n + 1, i, p, f, k0, hin, hok, ho, hp, hr, hb, hs => by
    have er : rest k i (n + 1) = St.size (k i) + rest k (i + 1) n := rfl
    rw [er] at hr
    cases hki : k i with
    | none =>
      have ef : fill k k0 i (n + 1) = fill k k0 (i + 1) n := by
        show (match k i with | none => fill k k0 (i + 1) n | some t => fill k (St.keep k0 i t) (i + 1) n) = _
        rw [hki]
      rw [puts_none hki, er, ef, hki]
      rw [hki] at hr
      have e0 : St.size none = 0 := rfl
      rw [e0, Nat.zero_add] at hr ⊢
      exact puts_out to_ hto k hk n (i + 1) p f k0 (by omega) hok ho hp hr hb hs
    | some t =>
      have ef : fill k k0 i (n + 1) = fill k (St.keep k0 i t) (i + 1) n := by
        show (match k i with | none => fill k k0 (i + 1) n | some t => fill k (St.keep k0 i t) (i + 1) n) = _
        rw [hki]
      rw [er, ef, hki]
      rw [hki] at hr
      have e0 : St.size (some t) = t.size + 4 := rfl
      rw [e0] at hr ⊢
      obtain ⟨f1, r1, e1, _, hok1, hfar1, hc1⟩ := rec_out hok ho hto (show i < 3 by omega) (hk i t hki) hp (by omega) hb hs
      rcases hc1 with ⟨rfl, ho1, ha1, hs1, hb1⟩ | ⟨rfl, ha1, ho1, _⟩
      · rw [puts_ok hki e1]
        obtain ⟨f', p', r, e2, hok2, hfar2, hc2⟩ := puts_out to_ hto k hk n (i + 1) (p + (t.size + 4)) f1 (St.keep k0 i t) (by omega) hok1 ho1 (by omega) (by omega) hb1 hs1
        refine ⟨f', p', r, e2, hok2, fun x hx => (hfar2 x hx).trans (hfar1 x (by omega)), ?_⟩
        rcases hc2 with ⟨h1, h2, h3, h4, h5, h6⟩ | ⟨h1, h2, h3⟩
        · exact .inl ⟨h1, h2, h3.trans ha1, by rw [h4]; omega, h5, h6⟩
        · exact .inr ⟨h1, ha1.symm.trans h2, h3⟩
      · rw [puts_bad hki e1 (by decide)]
        exact ⟨f1, p, 60, rfl, hok1, fun x hx => hfar1 x (by omega), .inr ⟨rfl, ha1, ho1⟩⟩
end Go.Proofs.Ytngmnceahhlpkaa
