/- The walk of ExecRuns: true, in whatever world. Conditions: the jobs can be read; their numbers are of their kind. -/
import Derived.Test.YtmkbkjnpgdpffaaAwake
import Derived.Test.YtmkbkjnpgdpffaaPlan2
import Derived.Test.YtmkbkjnpgdpffaaRefDue
import Derived.Test.YtmkbkjnpgdpffaaApart
namespace Go.Proofs.Ytmkbkjnpgdpffaa
open Go.RowKit

theorem dueList_len (js : List Jb) (t : Int) : (due js t).length ≤ js.length := dueTo_len js t js.length
set_option maxRecDepth 100000 in
set_option maxHeartbeats 2000000 in
theorem execRuns_walk (w : World) (A : Option Addr) (cap : Nat) (js : List Jb) (ticks : Int) (h : JR w (.slice A js.length cap) js) (hhi : ∀ j ∈ js, j.period ≤ top) :
    Calls Try.prog 3 #[.slice A js.length cap, .int .i64 ticks] w fun e w' => e = .returned (.bool true) ∧ Below w.heap.size w w' := by
  have HJR := Lib.hid h
  clear h
  have HHI := Lib.hid hhi
  clear hhi
  go_enter Try.func3, Try.ntmps3
  go_wp2_with fail
  refine (plan_any _ _ js HJR.out).mono ?_
  rintro e w1 ⟨pv, c, rfl, ⟨hc, hmade⟩, hb1⟩
  have HB1 := Lib.hid hb1
  have HC := Lib.hid hc
  clear hb1 hc
  rcases hmade with ⟨h1, rfl⟩ | ⟨h1, b, jb, mb, rfl, hl, k1, k2, k3⟩
  · clear h1
    go_wp2_with fail
    refine (awake_any _).mono ?_
    rintro e w2 ⟨rfl, hb2⟩
    have HB2 := Lib.hid (below_next HB1.out hb2)
    clear hb2
    go_wp2_with fail
    go_ret
    exact ⟨rfl, HB2.out⟩
  · subst h1
    have HS : Hid (Sound js) := by
      rcases HC.out with ⟨_, h⟩ | ⟨h1, h2, _⟩ | ⟨_, _, h⟩
      · omega
      · exact ⟨h2, h1, HHI.out⟩
      · omega
    have HT : Hid (Live w1 b jb mb js 0 ∧ Below w.heap.size w w1) := ⟨hl, HB1.out⟩
    clear hl HC HB1
    go_wp2_with fail
    go_loopg [7] 4096 (fun g i wr => ∃ t : Nat, t ≤ 4096 ∧ g = 4096 - t ∧ i = .int .i64 t ∧ Live wr b jb mb js t ∧ Below w.heap.size w wr)
    case atStart => exact ⟨0, by omega, rfl, rfl, HT.out⟩
    case round =>
      obtain ⟨t, ht, hg, rfl, hl, hb⟩ := hrel
      have HG := Lib.hid hg
      have HL := Lib.hid hl
      have HB := Lib.hid hb
      clear hg hl hb HT
      by_cases hlt : (t : Int) < ticks ∧ t < 4096
      · obtain ⟨q1, q2⟩ := hlt
        have q3 : (t : Int) < 4096 := by omega
        have hx : ((t : Int) != (t : Int)) = false := by simp
        go_wp2_with fail
        refine (now_live wr b jb mb js t HL.out).mono ?_
        rintro e w2 ⟨rfl, hw2⟩
        subst hw2
        go_wp2_with fail
        refine (due_live _ b jb mb js t HL.out HS.out (by omega)).mono ?_
        rintro e w3 ⟨v3, rfl, ho3, hl3, hw3⟩
        have hbl := HL.out.lt
        obtain ⟨hjl, hml⟩ : jb < w2.heap.size ∧ mb < w2.heap.size := by obtain ⟨_, _, _, _, h1, h2⟩ := HL.out; exact ⟨h1, h2⟩
        have HL3 := Lib.hid hl3
        have HO3 := Lib.hid ho3
        have HB3 : Hid (Below w.heap.size w w3) := below_wrote HB.out hw3 (fun c hc => by rcases hc with rfl | rfl <;> omega) HB.out.size
        have hs3 := hw3.size
        clear hl3 ho3 hw3 HL HB
        go_wp2_with fail
        refine (refDue_any w3 _ js t (HJR.out.below HB3.out) HS.out (by omega)).mono ?_
        rintro e w4 ⟨v4, rfl, hi4, hb4⟩
        have HI4 := Lib.hid hi4
        have HL4 := Lib.hid (HL3.out.below hb4)
        have HO4 : Hid (w4.ownsRow w2.heap.size 3 1 v3 (due js t).length ((due js t).map intL)) := ownsRow_kept HO3.out (Wrote.of_below hb4 (fun _ => False)) (fun _ hf => hf.elim)
        have HB4 := Lib.hid (below_next HB3.out hb4)
        have hl64 : (due js t).length ≤ 64 := Nat.le_trans (dueList_len js t) HS.out.few
        clear hi4 hb4 HL3 HO3 HB3
        go_wp2_with fail
        refine (same_any w4 _ _ _ (ints_own HO4.out) HI4.out (by omega)).mono ?_
        rintro e w5 ⟨rfl, hb5⟩
        have HL5 := Lib.hid (HL4.out.below hb5)
        have HO5 : Hid (w5.ownsRow w2.heap.size 3 1 v3 (due js t).length ((due js t).map intL)) := ownsRow_kept HO4.out (Wrote.of_below hb5 (fun _ => False)) (fun _ hf => hf.elim)
        have HB5 := Lib.hid (below_next HB4.out hb5)
        obtain ⟨A3, cap3, hv3⟩ : ∃ A3 cap3, v3 = .slice A3 (due js t).length cap3 := by
          rcases HO5.out.2 with ⟨h1, h2⟩ | ⟨g, cap, _, h1, _⟩
          · exact ⟨none, 0, by rw [h1, h2]⟩
          · exact ⟨_, _, h1⟩
        subst hv3
        clear hb5 HL4 HO4 HB4 HI4
        go_wp2_with fail
        refine (apart_any _ w5.heap.size A3 _ cap3 _ (heap_alloc_new w5 _) (ownsRow_base (HO5.out.alloc _) (Nat.zero_le _)) hl64).mono ?_
        rintro e w6 ⟨rfl, hw6⟩
        have hS : ∀ c, (Value.slice A3 (due js t).length cap3).ownBlock = some c → w2.heap.size ≤ c := fun c hc => (HO5.out.lt c hc).1
        have HR : Hid (Live w6 b jb mb js (t + 1) ∧ Below w.heap.size w w6) := by
          have hs5 := HB5.out.size
          refine ⟨(HL5.out.below (below_alloc1 w5 _)).wrote hw6 (fun h => ?_) (fun h => ?_) (fun h => ?_), below_wrote (HB5.out.alloc hs5 _) hw6 (fun c hc => ?_) (by rw [alloc_size]; omega)⟩
          · have := hS _ h; omega
          · have := hS _ h; omega
          · have := hS _ h; omega
          · have := hS _ hc; omega
        clear hw6 hS HL5 HO5 HB5
        go_wp2_with fail
        go_roundg (4096 - (t + 1))
        case measure => have := HG.out; omega
        case rel => exact ⟨t + 1, by omega, rfl, by go_num, HR.out⟩
      · by_cases q1 : (t : Int) < ticks
        · have q3 : ¬ (t : Int) < 4096 := by omega
          clear hlt
          go_wp2_with fail
          refine (awake_any _).mono ?_
          rintro e w2 ⟨rfl, hb2⟩
          have HB2 := Lib.hid (below_next HB.out hb2)
          clear hb2
          go_wp2_with fail
          go_ret
          exact ⟨rfl, HB2.out⟩
        · clear hlt
          go_wp2_with fail
          refine (awake_any _).mono ?_
          rintro e w2 ⟨rfl, hb2⟩
          have HB2 := Lib.hid (below_next HB.out hb2)
          clear hb2
          go_wp2_with fail
          go_ret
          exact ⟨rfl, HB2.out⟩
end Go.Proofs.Ytmkbkjnpgdpffaa
