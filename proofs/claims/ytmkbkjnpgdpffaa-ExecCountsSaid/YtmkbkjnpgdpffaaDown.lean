/- What heap.down does on a plan's queue, in whatever world. Conditions: the plan lies in memory, the places are within it. -/
import Derived.Test.YtmkbkjnpgdpffaaSwap
import Derived.Deep.CutRange
import Derived.Deep.DeepCutAuto
namespace Go.Proofs.Ytmkbkjnpgdpffaa
open Go.RowKit

theorem method_len (a : Addr) (w : World) : (method 180 53 (.pointer (some a)) "Len").run Try.prog w = .ok (41, .pointer (some a)) w := by kernel_rfl
theorem method_less (a : Addr) (w : World) : (method 180 53 (.pointer (some a)) "Less").run Try.prog w = .ok (42, .pointer (some a)) w := by kernel_rfl
theorem method_pop (a : Addr) (w : World) : (method 180 53 (.pointer (some a)) "Pop").run Try.prog w = .ok (43, .pointer (some a)) w := by kernel_rfl
theorem method_swap (a : Addr) (w : World) : (method 180 53 (.pointer (some a)) "Swap").run Try.prog w = .ok (44, .pointer (some a)) w := by kernel_rfl
theorem getD_get (l : List Mo) (i : Nat) (h : i < l.length) : l.getD i (0, 0) = l[i] := by
  rw [List.getD_eq_getElem?_getD, List.getElem?_eq_getElem h]; rfl
theorem Plan.below {w w1 : World} {b jb mb : Nat} {js : List Jb} {ms : List Mo} {now : Int} (h : Plan w b jb mb js ms now) (hb : Below w.heap.size w w1) : Plan w1 b jb mb js ms now := by
  obtain ⟨jv, mv, hbk, hj, hm⟩ := h.blk
  have keep : ∀ {v : Value} {g : Nat} {e : TypeId} {size n : Nat} {xs : List Value}, Slc w v g e size n xs → Slc w1 v g e size n xs := by
    intro v g e size n xs hs
    refine ⟨⟨hs.own.1, ?_⟩, hs.blk⟩
    rcases hs.own.2 with hv | ⟨g', cap, cur, hv, h1, h2, h3⟩
    · exact .inl hv
    · exact .inr ⟨g', cap, cur, hv, h1, (hb.block g' (lt_of_at h2)).trans h2, h3⟩
  exact ⟨⟨jv, mv, (hb.block b (lt_of_at hbk)).trans hbk, keep hj, keep hm⟩, h.jlt, h.sep⟩
theorem less_get {w : World} {b jb mb : Nat} {js : List Jb} {ms : List Mo} {now : Int} (h : Plan w b jb mb js ms now) (i j : Nat) (x y : Int) (hx : x = (i : Int)) (hy : y = (j : Int)) (hi : i < ms.length) (hj : j < ms.length) (hbig : ms.length ≤ 64) {r : Bool} (hr : mlt js (ms.getD i (0, 0)) (ms.getD j (0, 0)) = r) :
    Calls Try.prog 42 #[.pointer (some ⟨b, 0, none⟩), .int .i64 x, .int .i64 y] w fun e w' => e = .returned (.bool r) ∧ Below w.heap.size w w' := by
  subst hx hy
  rw [getD_get ms i hi, getD_get ms j hj] at hr
  rw [← hr]
  exact less_any w b jb mb js ms now h i j hi hj hbig
theorem swap_get {w : World} {b jb mb : Nat} {js : List Jb} {ms : List Mo} {now : Int} (h : Plan w b jb mb js ms now) (i j : Nat) (x y : Int) (hx : x = (i : Int)) (hy : y = (j : Int)) (hi : i < ms.length) (hj : j < ms.length) (hbig : ms.length ≤ 64) :
    Calls Try.prog 44 #[.pointer (some ⟨b, 0, none⟩), .int .i64 x, .int .i64 y] w fun e w' => e = .returned (.tuple #[]) ∧ Plan w' b jb mb js (sw (0, 0) ms i j) now ∧ Wrote w w' (fun k => k = mb) := by
  subst hx hy
  exact swap_any w b jb mb js ms now h i j hi hj hbig
/-- What is known of the queue while one goes down. -/
structure DownS (w wr : World) (b jb mb : Nat) (js : List Jb) (ms l : List Mo) (now : Int) (n i0 i : Nat) : Prop where
  plan : Plan wr b jb mb js l now
  perm : l.Perm ms
  drop : l.drop n = ms.drop n
  sinks : Sinks (mle js) (0, 0) l n i0 i
  wrote : Wrote w wr (fun k => k = mb)
theorem DownS.len {w wr : World} {b jb mb : Nat} {js : List Jb} {ms l : List Mo} {now : Int} {n i0 i : Nat} (h : DownS w wr b jb mb js ms l now n i0 i) : l.length = ms.length := h.perm.length_eq
theorem DownS.below {w wr w1 : World} {b jb mb : Nat} {js : List Jb} {ms l : List Mo} {now : Int} {n i0 i : Nat} (h : DownS w wr b jb mb js ms l now n i0 i) (hb : Below wr.heap.size wr w1) : DownS w w1 b jb mb js ms l now n i0 i :=
  ⟨h.plan.below hb, h.perm, h.drop, h.sinks, h.wrote.trans (Wrote.of_below hb _)⟩
theorem DownS.swap {w wr w1 : World} {b jb mb : Nat} {js : List Jb} {ms l : List Mo} {now : Int} {n i0 i j : Nat} (h : DownS w wr b jb mb js ms l now n i0 i) (hn : n ≤ ms.length) (h0 : 0 < j) (hj : j < n) (hp : par j = i)
    (hless : ¬ mle js (l.getD i (0, 0)) (l.getD j (0, 0))) (hmin : ∀ k, 0 < k → k < n → par k = i → mle js (l.getD j (0, 0)) (l.getD k (0, 0)))
    (hpl : Plan w1 b jb mb js (sw (0, 0) l i j) now) (hw : Wrote wr w1 (fun k => k = mb)) : DownS w w1 b jb mb js ms (sw (0, 0) l i j) now n i0 j := by
  have hl := h.len
  have hij : i < j := by rw [← hp]; unfold par; omega
  exact ⟨hpl, (sw_perm l i j (by omega) (by omega)).trans h.perm, (sw_drop l i j n (by omega) hj).trans h.drop, h.sinks.swap (mle_tot js) (by omega) h0 hj hp hless hmin, h.wrote.trans hw⟩

/-- Which child is taken: the right one (r), or the left one: it is within, and not above the other. -/
def Picks (js : List Jb) (l : List Mo) (n i : Nat) (r : Bool) : Prop :=
  (r = true → 2 * i + 2 < n) ∧ ∀ k, 0 < k → k < n → par k = i → mle js (l.getD (if r then 2 * i + 2 else 2 * i + 1) (0, 0)) (l.getD k (0, 0))
theorem picks_mk (js : List Jb) (l : List Mo) (n i : Nat) (r : Bool) (h2 : 2 * i + 2 < n) (hr : mlt js (l.getD (2 * i + 2) (0, 0)) (l.getD (2 * i + 1) (0, 0)) = r) : Picks js l n i r := by
  refine ⟨fun _ => h2, fun k k0 kn kp => ?_⟩
  rcases par_kids k0 kp with rfl | rfl
  · cases r with
    | true =>
      rw [if_pos rfl]
      rcases mle_tot js (l.getD (2 * i + 2) (0, 0)) (l.getD (2 * i + 1) (0, 0)) with h | h
      · exact h
      · exfalso; unfold mle at h; rw [hr] at h; cases h
    | false => exact mle_rf js _
  · cases r with
    | true => exact mle_rf js _
    | false => exact hr
theorem picks_one (js : List Jb) (l : List Mo) (n i : Nat) (h2 : ¬ 2 * i + 2 < n) : Picks js l n i false := by
  refine ⟨(fun h => nomatch h), fun k k0 kn kp => ?_⟩
  rcases par_kids k0 kp with rfl | rfl
  · exact mle_rf js _
  · omega
def DownPost (w : World) (b jb mb : Nat) (js : List Jb) (ms : List Mo) (now : Int) (n i0 : Nat) (e : Ending) (w' : World) : Prop :=
  (∃ r, e = .returned (.bool r)) ∧ ∃ l, Plan w' b jb mb js l now ∧ l.Perm ms ∧ l.drop n = ms.drop n ∧ HeapFrom (mle js) (0, 0) l n i0 ∧ Wrote w w' (fun k => k = mb)
def After6 (w : World) (b jb mb : Nat) (js : List Jb) (ms l : List Mo) (now : Int) (n i0 i : Nat) (v : Value) (wx : World) : Prop :=
  ∃ r : Bool, v = .bool r ∧ Picks js l n i r ∧ DownS w wx b jb mb js ms l now n i0 i

set_option maxRecDepth 100000 in
set_option maxHeartbeats 4000000 in
theorem down_any (w : World) (b jb mb : Nat) (js : List Jb) (ms : List Mo) (now : Int) (h : Plan w b jb mb js ms now) (i0 n : Nat) (hn : n ≤ ms.length) (hbig : ms.length ≤ 64) (hi0 : i0 ≤ 64) (hh : HeapFrom (mle js) (0, 0) ms n (i0 + 1)) :
    Calls Try.prog 22 #[.iface 53 (.pointer (some ⟨b, 0, none⟩)), .int .i64 (i0 : Int), .int .i64 (n : Int)] w (DownPost w b jb mb js ms now n i0) := by
  have H : Hid (DownS w w b jb mb js ms ms now n i0 i0) := ⟨h, List.Perm.refl _, rfl, Sinks.start hh, Wrote.refl _ _⟩
  have m1 := method_less ⟨b, 0, none⟩
  have m2 := method_swap ⟨b, 0, none⟩
  clear h hh
  go_enter Try.func22, Try.ntmps22
  go_wp2_with fail
  go_loopg [7] (n - i0) (fun g i wr => ∃ (k : Nat) (l : List Mo), k ≤ 64 ∧ g = n - k ∧ i = .int .i64 k ∧ DownS w wr b jb mb js ms l now n i0 k)
  case atStart => exact ⟨i0, ms, hi0, rfl, rfl, H.out⟩
  case round =>
    obtain ⟨i, l, hi, hg, rfl, hd⟩ := hrel
    have HG := Lib.hid hg
    clear hg
    have HD := Lib.hid hd
    have HL : Hid (l.length = ms.length) := hd.len
    clear hd H
    by_cases h1 : 2 * (i : Int) + 1 < (n : Int)
    · have hj1 : 2 * i + 1 < n := by omega
      go_upto_region 6 with fail
      go_cut [33] from 12 to 44 (After6 w b jb mb js ms l now n i0 i)
      case first =>
        by_cases h2 : 2 * (i : Int) + 1 + 1 < (n : Int)
        · have hj2 : 2 * i + 2 < n := by omega
          cases hc : mlt js (l.getD (2 * i + 2) (0, 0)) (l.getD (2 * i + 1) (0, 0)) with
          | _ =>
            have HC := Lib.hid hc
            clear hc
            go_wp2_with fail
            refine (less_get HD.out.plan (2 * i + 2) (2 * i + 1) _ _ (by omega) (by omega) (by have := HL.out; omega) (by have := HL.out; omega) (by have := HL.out; omega) HC.out).mono ?_
            rintro e w4 ⟨rfl, hb4⟩
            have HD0 := Lib.hid (HD.out.below hb4)
            clear hb4
            go_wp2_with fail
            go_meet
            case rel => exact ⟨_, rfl, picks_mk js l n i _ (by omega) HC.out, HD0.out⟩
        · have hj2 : ¬ 2 * i + 2 < n := by omega
          go_wp2_with fail
          go_meet
          case rel => exact ⟨_, rfl, picks_one js l n i hj2, HD.out⟩
      case rest =>
        obtain ⟨r, rfl, hp, hd⟩ := hcut
        have HP := Lib.hid hp
        clear HD hp
        have HD := Lib.hid hd
        clear hd
        cases r
        · have hpj : Hid (par (2 * i + 1) = i) := by unfold Hid par; omega
          have hin : 2 * i + 1 < n := hj1
          cases hl : mlt js (l.getD (2 * i + 1) (0, 0)) (l.getD i (0, 0)) with
          | false =>
            have hst : Hid (HeapFrom (mle js) (0, 0) l n i0) := HD.out.sinks.stop (fun k k0 kn kp => mle_tr js _ _ _ hl (HP.out.2 k k0 kn kp))
            have HL2 := Lib.hid hl
            clear hl
            go_wp2_with fail
            refine (less_get HD.out.plan (2 * i + 1) i _ _ (by omega) rfl (by have := HL.out; omega) (by have := HL.out; omega) (by have := HL.out; omega) HL2.out).mono ?_
            rintro e w2 ⟨rfl, hb2⟩
            have HD2 := Lib.hid (HD.out.below hb2)
            clear hb2
            go_wp2_with fail
            go_ret
            exact ⟨⟨_, rfl⟩, l, HD2.out.plan, HD2.out.perm, HD2.out.drop, hst.out, HD2.out.wrote⟩
          | true =>
            have hnl : Hid (¬ mle js (l.getD i (0, 0)) (l.getD (2 * i + 1) (0, 0))) := by unfold Hid mle; rw [hl]; simp
            have HL2 := Lib.hid hl
            clear hl
            go_wp2_with fail
            refine (less_get HD.out.plan (2 * i + 1) i _ _ (by omega) rfl (by have := HL.out; omega) (by have := HL.out; omega) (by have := HL.out; omega) HL2.out).mono ?_
            rintro e w2 ⟨rfl, hb2⟩
            have HD2 := Lib.hid (HD.out.below hb2)
            clear hb2
            go_wp2_with fail
            refine (swap_get HD2.out.plan i (2 * i + 1) _ _ rfl (by omega) (by have := HL.out; omega) (by have := HL.out; omega) (by have := HL.out; omega)).mono ?_
            rintro e w3 ⟨rfl, hp3, hw3⟩
            have HD3 := Lib.hid (HD2.out.swap hn (by omega) (by omega) hpj.out hnl.out HP.out.2 hp3 hw3)
            clear hp3 hw3
            go_wp2_with fail
            go_roundg (n - (2 * i + 1))
            case measure => have := HG.out; omega
            case rel => exact ⟨2 * i + 1, _, by omega, rfl, by go_num, HD3.out⟩
        · have hpj : Hid (par (2 * i + 2) = i) := by unfold Hid par; omega
          have hin : 2 * i + 2 < n := HP.out.1 rfl
          cases hl : mlt js (l.getD (2 * i + 2) (0, 0)) (l.getD i (0, 0)) with
          | false =>
            have hst : Hid (HeapFrom (mle js) (0, 0) l n i0) := HD.out.sinks.stop (fun k k0 kn kp => mle_tr js _ _ _ hl (HP.out.2 k k0 kn kp))
            have HL2 := Lib.hid hl
            clear hl
            go_wp2_with fail
            refine (less_get HD.out.plan (2 * i + 2) i _ _ (by omega) rfl (by have := HL.out; omega) (by have := HL.out; omega) (by have := HL.out; omega) HL2.out).mono ?_
            rintro e w2 ⟨rfl, hb2⟩
            have HD2 := Lib.hid (HD.out.below hb2)
            clear hb2
            go_wp2_with fail
            go_ret
            exact ⟨⟨_, rfl⟩, l, HD2.out.plan, HD2.out.perm, HD2.out.drop, hst.out, HD2.out.wrote⟩
          | true =>
            have hnl : Hid (¬ mle js (l.getD i (0, 0)) (l.getD (2 * i + 2) (0, 0))) := by unfold Hid mle; rw [hl]; simp
            have HL2 := Lib.hid hl
            clear hl
            go_wp2_with fail
            refine (less_get HD.out.plan (2 * i + 2) i _ _ (by omega) rfl (by have := HL.out; omega) (by have := HL.out; omega) (by have := HL.out; omega) HL2.out).mono ?_
            rintro e w2 ⟨rfl, hb2⟩
            have HD2 := Lib.hid (HD.out.below hb2)
            clear hb2
            go_wp2_with fail
            refine (swap_get HD2.out.plan i (2 * i + 2) _ _ rfl (by omega) (by have := HL.out; omega) (by have := HL.out; omega) (by have := HL.out; omega)).mono ?_
            rintro e w3 ⟨rfl, hp3, hw3⟩
            have HD3 := Lib.hid (HD2.out.swap hn (by omega) (by omega) hpj.out hnl.out HP.out.2 hp3 hw3)
            clear hp3 hw3
            go_wp2_with fail
            go_roundg (n - (2 * i + 2))
            case measure => have := HG.out; omega
            case rel => exact ⟨2 * i + 2, _, by omega, rfl, by go_num, HD3.out⟩
    · have hst : Hid (HeapFrom (mle js) (0, 0) l n i0) := HD.out.sinks.stop (fun k k0 kn kp => by
        rcases par_kids k0 kp with e | e <;> omega)
      go_wp2_with fail
      go_ret
      exact ⟨⟨_, rfl⟩, l, HD.out.plan, HD.out.perm, HD.out.drop, hst.out, HD.out.wrote⟩
end Go.Proofs.Ytmkbkjnpgdpffaa
