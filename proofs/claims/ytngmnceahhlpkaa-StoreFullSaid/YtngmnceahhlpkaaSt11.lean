/- What booting again and again answers (raised), and what is known of an object then (told). Conditions: the flash lies behind the old memory, in which the cuts lie. -/
import Derived.Test.YtngmnceahhlpkaaSt10
namespace Go.Proofs.Ytngmnceahhlpkaa
open Go.RowKit
structure Ct where
  left : Int
  junk : ByteArray
/-- Cuts in memory. -/
structure CutL (w : World) (g off n : Nat) (xs : Nat → Ct) : Prop where
  lt : g < w.heap.size
  c0 : ∀ i, i < n → w.cell? ⟨g, off + i * 2, none⟩ = some (.int .i64 (xs i).left)
  c1 : ∀ i, i < n → w.cell? ⟨g, off + i * 2 + 1, none⟩ = some (.string (xs i).junk)
  ha : ∀ i, i < n → (xs i).left ≤ 9223372036854775807
  hs : ∀ i, i < n → (xs i).junk.size ≤ 140737488351232
/-- A list of cuts: none, or in memory. -/
def CutsIn (w : World) (a : Option Addr) (n : Nat) : Prop := n ≤ 9223372036854775807 ∧ (n = 0 ∨ ∃ g off xs, a = some ⟨g, off, none⟩ ∧ CutL w g off n xs)
def RaisedPost (w W : World) (fb : Nat) (f : Fl) (e : Ending) (w' : World) : Prop :=
  ∃ sb J f' s, e = .returned (.tuple #[.pointer (some ⟨sb, 0, none⟩), .bool true]) ∧ Kp w w' fb sb J f' s ∧ W.grownBy w' (some fb) ∧ Inv f' s ∧ f'.off = false ∧ f'.armed = false ∧ s.stands = false ∧ ∀ k, Disk f k → s.k = k
/-- A flash behind w; since W nothing but it is written. -/
structure Rd (w W V : World) (fb : Nat) (J : Option Nat) (f : Fl) : Prop where
  held : Held w V fb J f
  gr : W.grownBy V (some fb)
theorem Rd.next {w W V U : World} {fb : Nat} {J J' : Option Nat} {f f' : Fl} (h : Rd w W V fb J f) (ha : At U fb J' f') (hg : V.grownBy U (some fb)) : Rd w W U fb J' f' := ⟨h.held.next ha hg, grown_trans h.gr hg⟩
theorem on_rd {w W V : World} {fb : Nat} {J : Option Nat} {f : Fl} (h : Rd w W V fb J f) : Calls Try.prog 23 #[.pointer (some ⟨fb, 0, none⟩)] V fun e w' => e = .returned (.tuple #[]) ∧ Rd w W w' fb J f.on := by
  refine (on_any fb J f V h.held.at_).mono ?_
  rintro e w' ⟨rfl, h1, h2⟩
  exact ⟨rfl, h.next h1 h2⟩
theorem boot_rd {w W V : World} {fb : Nat} {J : Option Nat} {f f' : Fl} {s : St} (h : Rd w W V fb J f) (hr : St.boot f = (f', some s, 0)) :
    Calls Try.prog 29 #[.pointer (some ⟨fb, 0, none⟩)] V fun e w' => ∃ sb, e = .returned (.tuple #[.pointer (some ⟨sb, 0, none⟩), .int .i64 0]) ∧ Kp w w' fb sb J f' s ∧ W.grownBy w' (some fb) := by
  refine (boot_any V fb J f h.held.at_).mono ?_
  rintro e w' ⟨h1, h2, h3⟩
  rw [hr] at h1 h3
  rcases h3 with ⟨_, sb, s2, h4, h5, h6, h7⟩ | ⟨h4, _⟩
  · have h4 : some s = some s2 := h4
    injection h4 with h4
    subst h4
    have hb := below_grown h.held.below h2 h.held.new
    exact ⟨sb, h5, ⟨⟨h1, h7, Wrote.of_below hb _⟩, h.held.new, Nat.le_trans h.held.below.size h6⟩, grown_trans h.gr h2⟩
  · exact absurd rfl h4
theorem boot_rd_no {w W V : World} {fb : Nat} {J : Option Nat} {f f' : Fl} {r : Int} (h : Rd w W V fb J f) (hr : St.boot f = (f', none, r)) (hq : r ≠ 0) :
    Calls Try.prog 29 #[.pointer (some ⟨fb, 0, none⟩)] V fun e w' => e = .returned (.tuple #[.pointer none, .int .i64 r]) ∧ Rd w W w' fb J f' := by
  refine (boot_any V fb J f h.held.at_).mono ?_
  rintro e w' ⟨h1, h2, h3⟩
  rw [hr] at h1 h3
  rcases h3 with ⟨h4, _⟩ | ⟨_, _, h5⟩
  · exact absurd h4 hq
  · exact ⟨h5, h.next h1 h2⟩
theorem on_kg {w W V : World} {fb sb : Nat} {J : Option Nat} {f : Fl} {s : St} (h : Kp w V fb sb J f s) (hg : W.grownBy V (some fb)) :
    Calls Try.prog 23 #[.pointer (some ⟨fb, 0, none⟩)] V fun e w' => e = .returned (.tuple #[]) ∧ Kp w w' fb sb J f.on s ∧ W.grownBy w' (some fb) := by
  refine (on_any fb J f V h.duet.fl).mono ?_
  rintro e w' ⟨rfl, h1, h2⟩
  exact ⟨rfl, h.mine h1 h2, grown_trans hg h2⟩
/-- Behind the arming of a cut. -/
def Armed (w W : World) (fb : Nat) (f : Fl) (last : Prop) (wx : World) : Prop := ∃ J f2, Rd w W wx fb J f2 ∧ f2.off = false ∧ (last → f2.armed = false) ∧ ∀ k, Disk f k → Disk f2 k
theorem cut_on {f : Fl} (a : Int) (j : List Nat) : (f.on.cut a j).1.off = false ∧ (f.on.cut a j).1.cell = f.cell ∧ (f.on.cut a j).2 = if a < 0 then 1 else 0 := by
  unfold Fl.cut
  rw [if_neg (by show ¬ (false = true); decide)]
  split
  · exact ⟨rfl, rfl, rfl⟩
  · exact ⟨rfl, rfl, rfl⟩
set_option maxRecDepth 100000 in
set_option maxHeartbeats 1000000 in
theorem raised_any (w W : World) (fb : Nat) (J : Option Nat) (f : Fl) (A : Option Addr) (n cap : Nat) (h : Held w W fb J f) (hc : CutsIn w A n) :
    Calls Try.prog 33 #[.pointer (some ⟨fb, 0, none⟩), .slice A n cap] W (RaisedPost w W fb f) := by
  have H : Hid (Rd w W W fb J f) := ⟨h, grown_refl W _⟩
  have HC := Lib.hid hc
  have hn := hc.1
  have hn2 : (n : Int) ≤ 9223372036854775807 := by omega
  clear h hc
  go_enter Try.func33, Try.ntmps33
  go_wp2_with fail
  go_loopg [6] (n + 1) (fun gh v wr => ∃ (k : Nat) (J' : Option Nat) (f' : Fl), k ≤ n ∧ gh = n + 1 - k ∧ v = .int .i64 k ∧ Hid (Rd w W wr fb J' f') ∧ Hid (∀ q, Disk f q → Disk f' q))
  case atStart => exact ⟨0, J, f, Nat.zero_le _, rfl, rfl, H.out, fun _ h => h⟩
  case round =>
    obtain ⟨k, J', f', hk, hg, rfl, HH, HD⟩ := hrel
    have HG := Lib.hid hg
    clear hg H
    have hkn : (k : Int) ≤ (n : Int) := by omega
    go_wp2_with fail
    refine (on_rd HH.out).mono ?_
    rintro e w1 ⟨rfl, h1⟩
    have H1 := Lib.hid h1
    clear h1 HH
    go_upto_if 20 with fail
    go_cut [8] (fun _ wx => Armed w W fb f (k = n) wx)
    case first =>
      by_cases hlt : k < n
      · have hdt : decide (k < n) = true := decide_eq_true hlt
        obtain ⟨g, off, xs, hA, hL⟩ : ∃ g off xs, A = some ⟨g, off, none⟩ ∧ CutL w g off n xs := by
          rcases HC.out.2 with h0 | h0
          · omega
          · exact h0
        subst hA
        obtain ⟨lf, hlf⟩ : ∃ x, (xs k).left = x := ⟨_, rfl⟩
        obtain ⟨jk, hjk⟩ : ∃ x, (xs k).junk = x := ⟨_, rfl⟩
        have HCA : Hid (∀ V, V.heap = w1.heap → V.os = w1.os → V.tape = w1.tape → V.output = w1.output → Calls Try.prog 22 #[.pointer (some ⟨fb, 0, none⟩), .int .i64 lf, .string jk] V fun e w' => e = .returned (.int .i64 (if lf < 0 then 1 else 0)) ∧
            (w'.cell? ⟨g, off + k * 2, none⟩ = some (.int .i64 lf) ∧ w'.cell? ⟨g, off + k * 2 + 1, none⟩ = some (.string jk)) ∧ Armed w W fb f (k = n) w') := by
          intro V h1 h2 h3 h4
          have HV : Rd w W V fb J' f'.on := H1.out.next (H1.out.held.at_.kept (by rw [h1]) (fun _ _ => by rw [h1])) ⟨h2, h3, h4, by rw [h1]; exact Nat.le_refl _, fun i _ _ => by rw [h1]⟩
          refine (cut_any fb J' f'.on lf jk V HV.held.at_ (by rw [← hlf]; exact hL.ha k hlt) (by rw [← hjk]; exact hL.hs k hlt)).mono ?_
          rintro e w' ⟨rfl, ⟨J2, h5, _⟩, h6⟩
          have hH := HV.next h5 h6
          obtain ⟨q1, q2, q3⟩ := cut_on (f := f') lf (bytes jk)
          rw [q3]
          refine ⟨rfl, ⟨?_, ?_⟩, J2, _, hH, q1, fun h => by omega, fun q hq => (HD.out q hq).cells q2⟩
          · rw [← hlf]
            exact (hH.held.below.cell (p := ⟨g, off + k * 2, none⟩) hL.lt).trans (hL.c0 k hlt)
          · rw [← hjk]
            exact (hH.held.below.cell (p := ⟨g, off + k * 2 + 1, none⟩) hL.lt).trans (hL.c1 k hlt)
        have c0 : w1.cell? ⟨g, off + k * 2, none⟩ = some (.int .i64 lf) := by
          rw [← hlf]
          exact (H1.out.held.below.cell (p := ⟨g, off + k * 2, none⟩) hL.lt).trans (hL.c0 k hlt)
        have c1 : w1.cell? ⟨g, off + k * 2 + 1, none⟩ = some (.string jk) := by
          rw [← hjk]
          exact (H1.out.held.below.cell (p := ⟨g, off + k * 2 + 1, none⟩) hL.lt).trans (hL.c1 k hlt)
        clear hlf hjk hL HD H1 HC
        by_cases hneg : lf < 0
        · have HCB : Hid (Calls Try.prog 22 #[.pointer (some ⟨fb, 0, none⟩), .int .i64 lf, .string jk] w1.drew fun e w' => e = .returned (.int .i64 1) ∧
            (w'.cell? ⟨g, off + k * 2, none⟩ = some (.int .i64 lf) ∧ w'.cell? ⟨g, off + k * 2 + 1, none⟩ = some (.string jk)) ∧ Armed w W fb f (k = n) w') := by
            have h := HCA.out w1.drew rfl rfl rfl rfl
            rw [if_pos hneg] at h
            exact h
          clear HCA
          have hge : ¬ (0 : Int) ≤ lf := by omega
          have hde : decide ((0 : Int) ≤ lf) = false := decide_eq_false hge
          go_wp2_with fail
          first | (go_region_with (first | (go_at_call 22; refine HCB.out.mono ?_; rintro e w2 ⟨rfl, ⟨d0, d1⟩, hAr⟩))) | fail
          all_goals
            clear d0 d1 c0 c1 HCB
            go_wp2_with fail
            go_meet
            case rel => exact hAr
        · have HCB : Hid (Calls Try.prog 22 #[.pointer (some ⟨fb, 0, none⟩), .int .i64 lf, .string jk] w1.drew fun e w' => e = .returned (.int .i64 0) ∧
            (w'.cell? ⟨g, off + k * 2, none⟩ = some (.int .i64 lf) ∧ w'.cell? ⟨g, off + k * 2 + 1, none⟩ = some (.string jk)) ∧ Armed w W fb f (k = n) w') := by
            have h := HCA.out w1.drew rfl rfl rfl rfl
            rw [if_neg hneg] at h
            exact h
          clear HCA
          go_wp2_with fail
          first | (go_region_with (first | (go_at_call 22; refine HCB.out.mono ?_; rintro e w2 ⟨rfl, ⟨d0, d1⟩, hAr⟩))) | fail
          all_goals
            clear d0 d1 c0 c1 HCB
            go_wp2_with fail
            go_meet
            case rel => exact hAr
      · have hdt : decide (k < n) = false := decide_eq_false hlt
        go_wp2_with fail
        go_meet
        case rel => exact ⟨J', f'.on, H1.out, rfl, fun _ => rfl, fun q hq => (HD.out q hq).cells rfl⟩
    case rest =>
      obtain ⟨J2, f2, hH, ho, ha, hD⟩ := hcut
      clear H1 HD HC
      obtain ⟨f3, o, r, hb, hout⟩ := boot_out hH.held.ok ho
      rcases hout with ⟨rfl, s, rfl, hst, hi, ho3, ha3, hk3⟩ | ⟨rfl, rfl, har, hoff, hk3⟩
      · have HBK := Lib.hid (boot_rd hH hb)
        have HRR : Hid (∀ w' sb, Kp w w' fb sb J2 f3.on s → W.grownBy w' (some fb) → RaisedPost w W fb f (.returned (.tuple #[.pointer (some ⟨sb, 0, none⟩), .bool true])) w') := fun w' sb hK hgw =>
          ⟨sb, J2, f3.on, s, rfl, hK, hgw, hi.cells hi.ok.on rfl, rfl, rfl, hst, fun q hq => hk3 q (hD q hq)⟩
        clear hH ho ha hD hb hi ho3 ha3 hk3 hst
        go_wp2_with fail
        refine HBK.out.mono ?_
        rintro e w4 ⟨sb, rfl, hK, hgw⟩
        have HK4 := Lib.hid hK
        have HGW := Lib.hid hgw
        clear hK HBK hgw
        go_wp2_with fail
        refine (on_kg HK4.out HGW.out).mono ?_
        rintro e w5 ⟨rfl, hK5, hg5⟩
        have HF := Lib.hid (HRR.out _ _ hK5 hg5)
        clear hK5 hg5 HK4 HGW HRR
        go_wp2_with fail
        (try simp only [Exit.inBlock, Exit.then])
        go_ret2
        exact HF.out
      · have hkl : k ≠ n := fun h => by
          have := ha h
          rw [this] at har
          cases har
        have HBK := Lib.hid (boot_rd_no hH hb (by decide))
        have HDD : Hid (∀ q, Disk f q → Disk f3 q) := fun q hq => hk3 q (hD q hq)
        have hne : (k == n) = false := by rw [beq_eq_false_iff_ne]; exact hkl
        have hni : ((k : Int) == (n : Int)) = false := by rw [beq_eq_false_iff_ne]; omega
        have hk1 : (k : Int) + 1 ≤ 9223372036854775807 := by omega
        clear hH ho ha hD hb har hoff hk3
        go_wp2_with fail
        refine HBK.out.mono ?_
        rintro e w4 ⟨rfl, hK⟩
        have HK4 := Lib.hid hK
        clear hK HBK
        go_wp2_with fail
        go_roundg (n + 1 - (k + 1))
        case measure => have := HG.out; omega
        case rel => exact ⟨k + 1, J2, f3, by omega, rfl, by go_num, HK4, HDD⟩
end Go.Proofs.Ytngmnceahhlpkaa
