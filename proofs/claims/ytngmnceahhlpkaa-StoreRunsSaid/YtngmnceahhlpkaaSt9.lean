/- What the law's own example of a store answers, in whatever world: true; the old memory stands. No condition. -/
import Derived.Test.YtngmnceahhlpkaaSt8
import Derived.Test.YtngmnceahhlpkaaAwake
namespace Go.Proofs.Ytngmnceahhlpkaa
open Go.RowKit
/-- A flash and a store, both made behind w. -/
structure Kp (w W : World) (fb sb : Nat) (J : Option Nat) (f : Fl) (s : St) : Prop where
  duet : Duet w W fb sb J f s
  nf : w.heap.size ≤ fb
  ns : w.heap.size ≤ sb
theorem Kp.below {w W : World} {fb sb : Nat} {J : Option Nat} {f : Fl} {s : St} (h : Kp w W fb sb J f s) : Below w.heap.size w W :=
  ⟨h.duet.wr.os, h.duet.wr.tape, h.duet.wr.output, h.duet.wr.size, fun k hk => h.duet.wr.block k hk (fun e => by
    have h1 := h.nf
    have h2 := h.ns
    rcases e with e | e <;> omega)⟩
theorem Kp.held {w W : World} {fb sb : Nat} {J : Option Nat} {f : Fl} {s : St} (h : Kp w W fb sb J f s) : Held w W fb J f := ⟨h.duet.fl, h.below, h.nf⟩
theorem Kp.keep {w W V : World} {fb sb : Nat} {J : Option Nat} {f : Fl} {s : St} (h : Kp w W fb sb J f s) (hb : Below W.heap.size W V) : Kp w V fb sb J f s := ⟨h.duet.below hb, h.nf, h.ns⟩
theorem Kp.mine {w W V : World} {fb sb : Nat} {J J' : Option Nat} {f f' : Fl} {s : St} (h : Kp w W fb sb J f s) (ha : At V fb J' f') (hg : W.grownBy V (some fb)) : Kp w V fb sb J' f' s :=
  ⟨⟨ha, h.duet.st.kept (hg.block sb h.duet.st.lt (fun e => h.duet.ne.1 (Option.some.inj e).symm)), h.duet.wr.trans ((Wrote.of_grown hg).mono fun _ e => .inl e)⟩, h.nf, h.ns⟩
theorem boot_kp {w W : World} {fb : Nat} {J : Option Nat} {f f' : Fl} {s : St} (h : Held w W fb J f) (hr : St.boot f = (f', some s, 0)) :
    Calls Try.prog 29 #[.pointer (some ⟨fb, 0, none⟩)] W fun e w' => ∃ sb, e = .returned (.tuple #[.pointer (some ⟨sb, 0, none⟩), .int .i64 0]) ∧ Kp w w' fb sb J f' s := by
  refine (boot_any W fb J f h.at_).mono ?_
  rintro e w' ⟨h1, h2, h3⟩
  rw [hr] at h1 h3
  rcases h3 with ⟨_, sb, s2, h4, h5, h6, h7⟩ | ⟨h4, _⟩
  · have h4 : some s = some s2 := h4
    injection h4 with h4
    subst h4
    have hb := below_grown h.below h2 h.new
    exact ⟨sb, h5, ⟨⟨h1, h7, Wrote.of_below hb _⟩, h.new, Nat.le_trans h.below.size h6⟩⟩
  · exact absurd rfl h4
theorem boot_no {w W : World} {fb : Nat} {J : Option Nat} {f f' : Fl} {r : Int} (h : Held w W fb J f) (hr : St.boot f = (f', none, r)) (hq : r ≠ 0) :
    Calls Try.prog 29 #[.pointer (some ⟨fb, 0, none⟩)] W fun e w' => e = .returned (.tuple #[.pointer none, .int .i64 r]) ∧ Held w w' fb J f' := by
  refine (boot_any W fb J f h.at_).mono ?_
  rintro e w' ⟨h1, h2, h3⟩
  rw [hr] at h1 h3
  rcases h3 with ⟨h4, _⟩ | ⟨_, _, h5⟩
  · exact absurd h4 hq
  · exact ⟨h5, h1, below_grown h.below h2 h.new, h.new⟩
theorem put_kp {w W : World} {fb sb : Nat} {J : Option Nat} {f f' : Fl} {s s' : St} {r : Int} (h : Kp w W fb sb J f s) (id : Int) (t : ByteArray) (hr : St.put f s id t = (f', s', r)) :
    Calls Try.prog 32 #[.pointer (some ⟨sb, 0, none⟩), .int .i64 id, .string t] W fun e w' => e = .returned (.int .i64 r) ∧ Kp w w' fb sb J f' s' := by
  refine (put_any w W fb sb J f s id t h.duet).mono ?_
  rintro e w' ⟨rfl, h2⟩
  rw [hr] at h2 ⊢
  exact ⟨rfl, h2, h.nf, h.ns⟩
theorem get_kp {w W : World} {fb sb : Nat} {J : Option Nat} {f : Fl} {s : St} (h : Kp w W fb sb J f s) (id : Int) {t : ByteArray} {b : Bool} (hr : St.get s id = (t, b)) :
    Calls Try.prog 30 #[.pointer (some ⟨sb, 0, none⟩), .int .i64 id] W fun e w' => e = .returned (.tuple #[.string t, .bool b]) ∧ Kp w w' fb sb J f s := by
  refine (get_any W sb fb s id h.duet.st).mono ?_
  rintro e w' ⟨rfl, h2⟩
  rw [hr]
  exact ⟨rfl, h.keep h2⟩
theorem on_kp {w W : World} {fb sb : Nat} {J : Option Nat} {f : Fl} {s : St} (h : Kp w W fb sb J f s) :
    Calls Try.prog 23 #[.pointer (some ⟨fb, 0, none⟩)] W fun e w' => e = .returned (.tuple #[]) ∧ Kp w w' fb sb J f.on s := by
  refine (on_any fb J f W h.duet.fl).mono ?_
  rintro e w' ⟨rfl, h1, h2⟩
  exact ⟨rfl, h.mine h1 h2⟩
theorem cut_kp {w W : World} {fb sb : Nat} {J : Option Nat} {f f' : Fl} {s : St} {r : Int} (h : Kp w W fb sb J f s) (a : Int) (t : ByteArray) (hi : a ≤ 9223372036854775807) (hs : t.size ≤ 140737488351232) (hr : f.cut a (bytes t) = (f', r)) :
    Calls Try.prog 22 #[.pointer (some ⟨fb, 0, none⟩), .int .i64 a, .string t] W fun e w' => e = .returned (.int .i64 r) ∧ ∃ J', Kp w w' fb sb J' f' s := by
  refine (cut_any fb J f a t W h.duet.fl hi hs).mono ?_
  rintro e w' ⟨rfl, ⟨J', h1, h3⟩, h2⟩
  rw [hr] at h1 ⊢
  exact ⟨rfl, J', h.mine h1 h2⟩
def sa1 : Fl := (St.boot Fl.new).1
def sa2 : Fl := (St.put sa1 St.st0 0 { data := #[97, 98] }).1
def sb2 : St := (St.put sa1 St.st0 0 { data := #[97, 98] }).2.1
def sa3 : Fl := (St.put sa2 sb2 2 { data := #[] }).1
def sb3 : St := (St.put sa2 sb2 2 { data := #[] }).2.1
theorem trip_eq {α β γ : Type} {p : α × β × γ} {b : γ} (h : p.2.2 = b) : p = (p.1, p.2.1, b) := by rw [← h]
theorem sa_e0 : (St.boot Fl.new).2 = (some St.st0, 0) := by kernel_rfl
theorem sa_e1 : St.boot Fl.new = (sa1, some St.st0, 0) := pair_eq sa_e0
theorem sa_e2 : sa1.steps = 2 := by kernel_rfl
theorem sa_e3 : St.put sa1 St.st0 0 { data := #[97, 98] } = (sa2, sb2, 0) := trip_eq (by kernel_rfl)
theorem sa_e4 : St.put sa2 sb2 2 { data := #[] } = (sa3, sb3, 0) := trip_eq (by kernel_rfl)
set_option maxRecDepth 1000000 in
theorem sa_e5 : sa3.read 0 12 = ([15, 0, 2, 0, 97, 98, 0, 2, 0, 0, 0, 255], 0) := by kernel_rfl
theorem sa_e6 : (St.put sa3 sb3 3 { data := #[] }) = (sa3, sb3, 1) := by kernel_rfl
theorem sa_e7 : St.get sb3 0 = ({ data := #[97, 98] }, true) := by kernel_rfl
theorem sa_e8 : St.get sb3 1 = ({ data := #[] }, false) := by kernel_rfl
theorem sa_e9 : St.get sb3 2 = ({ data := #[] }, true) := by kernel_rfl
set_option maxHeartbeats 1000000 in
theorem stAwake_any (w : World) : Calls Try.prog 31 #[] w fun e w' => e = .returned (.bool true) ∧ Below w.heap.size w w' := by
  go_enter Try.func31, Try.ntmps31
  go_wp2_with fail
  refine (new_held _).mono ?_
  rintro e w1 ⟨fb, rfl, h1⟩
  have H1 := Lib.hid h1
  clear h1
  go_wp2_with fail
  refine (boot_kp H1.out sa_e1).mono ?_
  rintro e w2 ⟨sb, rfl, h2⟩
  have H2 := Lib.hid h2
  clear h2 H1
  go_wp2_with fail
  refine (steps_any fb none sa1 _ H2.out.duet.fl).mono ?_
  rintro e w3 ⟨rfl, rfl⟩
  rw [sa_e2]
  go_wp2_with fail
  refine (put_kp H2.out 0 _ sa_e3).mono ?_
  rintro e w3 ⟨rfl, h3⟩
  have H3 := Lib.hid h3
  clear h3 H2
  go_wp2_with fail
  refine (put_kp H3.out 2 _ sa_e4).mono ?_
  rintro e w4 ⟨rfl, h4⟩
  have H4 := Lib.hid h4
  clear h4 H3
  go_wp2_with fail
  refine (get_kp H4.out 0 sa_e7).mono ?_
  rintro e w5 ⟨rfl, h5⟩
  have H5 := Lib.hid h5
  clear h5 H4
  go_wp2_with fail
  refine (get_kp H5.out 1 sa_e8).mono ?_
  rintro e w6 ⟨rfl, h6⟩
  have H6 := Lib.hid h6
  clear h6 H5
  go_wp2_with fail
  refine (get_kp H6.out 2 sa_e9).mono ?_
  rintro e w7 ⟨rfl, h7⟩
  have H7 := Lib.hid h7
  clear h7 H6
  go_wp2_with fail
  refine (read_held H7.out.held 0 12 sa_e5).mono ?_
  rintro e w8 ⟨rfl, rfl⟩
  have s1 : str [15, 0, 2, 0, 97, 98, 0, 2, 0, 0, 0, 255] = { data := #[15, 0, 2, 0, 97, 98, 0, 2, 0, 0, 0, 255] } := by decide
  rw [s1]
  go_wp2_with fail
  refine (put_kp H7.out 3 _ sa_e6).mono ?_
  rintro e w8 ⟨rfl, h8⟩
  have H8 := Lib.hid h8
  clear h8 H7
  go_wp2_with fail
  go_ret
  exact ⟨rfl, H8.out.below⟩
set_option maxHeartbeats 1000000 in
theorem storeNil_walk (id : Int) (t : ByteArray) (w : World) : Calls Try.prog 9 #[.int .i64 id, .string t] w fun e w' => e = .returned (.bool true) ∧ Below w.heap.size w w' := by
  go_enter Try.func9, Try.ntmps9
  go_wp2_with fail
  refine (boot_nil _).mono ?_
  rintro e w1 ⟨rfl, rfl⟩
  go_wp2_with fail
  refine (get_nil _ _).mono ?_
  rintro e w1 ⟨rfl, rfl⟩
  go_wp2_with fail
  refine (stAwake_any _).mono ?_
  rintro e w1 ⟨rfl, h1⟩
  have H1 := Lib.hid h1
  clear h1
  go_wp2_with fail
  refine (put_nil _ _ _).mono ?_
  rintro e w2 ⟨rfl, rfl⟩
  go_wp2_with fail
  go_ret
  exact ⟨rfl, H1.out⟩
end Go.Proofs.Ytngmnceahhlpkaa
