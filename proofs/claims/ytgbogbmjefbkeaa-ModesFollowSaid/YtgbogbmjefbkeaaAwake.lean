/- The chapter's example comes out; a nil machine is locked; where each event leads: in whatever world. Conditions: each number is of its kind. -/
import Derived.Test.YtgbogbmjefbkeaaStep2
namespace Go.Proofs.Ytgbogbmjefbkeaa
open Go.RowKit
/-- A machine of the call's own. -/
structure Own (w wr : World) (b : Nat) (x : Md) : Prop where
  mach : Mach wr b x
  below : Below w.heap.size w wr
  lo : w.heap.size ≤ b
theorem Own.keep {w wr w1 : World} {b : Nat} {x : Md} (h : Own w wr b x) (hb : Below wr.heap.size wr w1) : Own w w1 b x := ⟨h.mach.keep hb, below_next h.below hb, h.lo⟩
theorem own_step {w wr : World} {b : Nat} {x : Md} (h : Own w wr b x) (ev : Int) {d : Int} {y : Md} (hd : x.did ev = d) (hy : x.step ev = y) : Calls Try.prog 9 #[.pointer (some ⟨b, 0, none⟩), .int .i64 ev] wr fun e w' => e = .returned (.int .i64 d) ∧ Own w w' b y :=
  (step_any wr b x ev h.mach).mono fun _ _ ⟨he, hm, hw⟩ => ⟨by rw [he, hd], by rw [← hy]; exact hm, below_wrote h.below hw (by rintro i rfl; exact h.lo) h.below.size, h.lo⟩
theorem own_mode {w wr : World} {b : Nat} {x : Md} (h : Own w wr b x) {m : Int} (hm : x.mode = m) : Calls Try.prog 11 #[.pointer (some ⟨b, 0, none⟩)] wr fun e w' => e = .returned (.int .u8 m) ∧ w' = wr :=
  (mode_any wr b x h.mach).mono fun _ _ hh => ⟨by rw [hh.1, hm], hh.2⟩
theorem own_latches {w wr : World} {b : Nat} {x : Md} (h : Own w wr b x) {l : Int} (hl : (x.lat : Int) = l) : Calls Try.prog 12 #[.pointer (some ⟨b, 0, none⟩)] wr fun e w' => e = .returned (.int .i64 l) ∧ w' = wr :=
  (latches_any wr b x h.mach).mono fun _ _ hh => ⟨by rw [hh.1, hl], hh.2⟩
def mdA : Md := md0.step 65536
def mdB : Md := mdA.step 131328
def mdC : Md := mdB.step 512
def mdD : Md := mdC.step 68
def mdE : Md := mdD.step 1024
theorem did_all : md0.did 65536 = 16 ∧ mdA.did 131328 = 8 ∧ mdB.did 512 = 9 ∧ mdC.did 68 = 2 ∧ mdD.did 1024 = -1 ∧ mdD.mode = 12 ∧ (mdD.lat : Int) = 4 := by decide +kernel
def AwakePost (w : World) (e : Ending) (w' : World) : Prop := e = .returned (.bool true) ∧ Below w.heap.size w w'
set_option maxRecDepth 100000 in
set_option maxHeartbeats 2000000 in
theorem awake_any (w : World) : Calls Try.prog 13 #[] w (AwakePost w) := by
  obtain ⟨d1, d2, d3, d4, d5, d6, d7⟩ := did_all
  have D1 := Lib.hid d1
  have D2 := Lib.hid d2
  have D3 := Lib.hid d3
  have D4 := Lib.hid d4
  have D5 := Lib.hid d5
  have D6 := Lib.hid d6
  have D7 := Lib.hid d7
  clear d1 d2 d3 d4 d5 d6 d7
  go_enter Try.func13, Try.ntmps13
  go_wp2_with fail
  refine (new_any w).mono ?_
  rintro e w1 ⟨rfl, hm1, hb1⟩
  have H1 : Hid (Own w w1 w.heap.size md0) := ⟨hm1, hb1, Nat.le_refl _⟩
  clear hm1 hb1
  generalize hb : w.heap.size = b at H1 ⊢
  clear hb
  go_wp2_with fail
  refine (own_mode H1.out rfl).mono ?_
  rintro e w2 ⟨rfl, hw2⟩
  subst hw2
  rw [show md0.mode = 0 from rfl]
  go_wp2_with fail
  refine (own_step H1.out _ D1.out rfl).mono ?_
  rintro e w3 ⟨rfl, ho⟩
  have H2 : Hid (Own w w3 b mdA) := ho
  clear ho H1 D1
  go_wp2_with fail
  refine (own_step H2.out _ D2.out rfl).mono ?_
  rintro e w4 ⟨rfl, ho⟩
  have H3 : Hid (Own w w4 b mdB) := ho
  clear ho H2 D2
  go_wp2_with fail
  refine (own_step H3.out _ D3.out rfl).mono ?_
  rintro e w5 ⟨rfl, ho⟩
  have H4 : Hid (Own w w5 b mdC) := ho
  clear ho H3 D3
  go_wp2_with fail
  refine (own_step H4.out _ D4.out rfl).mono ?_
  rintro e w6 ⟨rfl, ho⟩
  have H5 : Hid (Own w w6 b mdD) := ho
  clear ho H4 D4
  go_wp2_with fail
  refine (own_mode H5.out D6.out).mono ?_
  rintro e w7 ⟨rfl, hw7⟩
  subst hw7
  go_wp2_with fail
  refine (own_latches H5.out D7.out).mono ?_
  rintro e w8 ⟨rfl, hw8⟩
  subst hw8
  go_wp2_with fail
  refine (own_step H5.out _ D5.out rfl).mono ?_
  rintro e w9 ⟨rfl, ho⟩
  have HF : Hid (AwakePost w (.returned (.bool true)) w9) := ⟨rfl, ho.below⟩
  clear ho
  go_wp2_with fail
  go_ret
  exact HF.out
set_option maxRecDepth 100000 in
theorem nil_walk (w : World) (ev : Int) : Calls Try.prog 6 #[.int .i64 ev] w (AwakePost w) := by
  go_enter Try.func6, Try.ntmps6
  go_wp2_with fail
  refine (stepnil_any w ev).mono ?_
  rintro e w1 ⟨rfl, hw1⟩
  subst hw1
  go_wp2_with fail
  refine (mode_nil w1).mono ?_
  rintro e w2 ⟨rfl, hw2⟩
  subst hw2
  go_wp2_with fail
  refine (latches_nil w2).mono ?_
  rintro e w3 ⟨rfl, hw3⟩
  subst hw3
  go_wp2_with fail
  refine (awake_any w3).mono ?_
  rintro e w4 ⟨rfl, hb4⟩
  have HF : Hid (AwakePost w3 (.returned (.bool true)) w4) := ⟨rfl, hb4⟩
  clear hb4
  go_wp2_with fail
  go_ret
  exact HF.out
set_option maxRecDepth 100000 in
theorem lead_walk (w : World) (m ev : Int) (h0 : 0 ≤ m) (h1 : m ≤ 255) : Calls Try.prog 7 #[.int .u8 m, .int .i64 ev] w (AwakePost w) := by
  have HE := Lib.hid (nextF_eq m ev h0)
  go_enter Try.func7, Try.ntmps7
  go_wp2_with fail
  refine (next_any w m ev h0 h1).mono ?_
  rintro e w1 ⟨rfl, hb1⟩
  rw [HE.out]
  have HB1 := Lib.hid hb1
  clear hb1
  go_wp2_with fail
  refine (rnext_any w1 m ev h0 h1).mono ?_
  rintro e w2 ⟨rfl, hb2⟩
  have HB2 := Lib.hid (below_next HB1.out hb2)
  clear hb2 HB1
  generalize rnext m ev = r at *
  go_wp2_with fail
  refine (armed_any w2 m h0 h1).mono ?_
  rintro e w3 ⟨rfl, hw3⟩
  subst hw3
  go_wp2_with fail
  refine (rarmed_any w3 m h0 h1).mono ?_
  rintro e w4 ⟨rfl, hw4⟩
  subst hw4
  generalize armedB m = am at *
  go_wp2_with fail
  refine (fly_any w4 m h0 h1).mono ?_
  rintro e w5 ⟨rfl, hw5⟩
  subst hw5
  go_wp2_with fail
  refine (rfly_any w5 m h0 h1).mono ?_
  rintro e w6 ⟨rfl, hw6⟩
  subst hw6
  generalize flyB m = fm at *
  go_wp2_with fail
  refine (awake_any w6).mono ?_
  rintro e w7 ⟨rfl, hb7⟩
  have HF : Hid (AwakePost w (.returned (.bool true)) w7) := ⟨rfl, below_next HB2.out hb7⟩
  clear hb7
  go_wp2_with fail
  go_ret
  exact HF.out
end Go.Proofs.Ytgbogbmjefbkeaa
