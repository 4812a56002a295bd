/- What the document's Step answers, in whatever world. Conditions: a sound machine. -/
import Derived.Test.YtgbogbmjefbkeaaLive
import Derived.Laws.Rows
import Derived.Laws.ResultCell
import Derived.Deep.CutBlock
namespace Go.Proofs.Ytgbogbmjefbkeaa
open Go.RowKit
def mdV (m : Int) (l : Nat) : Value := .agg #[.int .u8 m, .int .i64 (l : Int)]
/-- The document's machine, boxed, and its result's place behind it. -/
structure RS (w wr : World) (p : Nat) (m : Int) (l : Nat) : Prop where
  at_ : p = w.heap.size
  pb : wr.heap[p]? = some (.cells #[.int .u8 m, .int .i64 (l : Int)] 27)
  rb : wr.heap[p + 1]? = some (.cells #[.int .u8 0, .int .i64 0] 27)
  below : Below w.heap.size w wr
theorem RS.keep {w wr w1 : World} {p : Nat} {m : Int} {l : Nat} (h : RS w wr p m l) (hb : Below wr.heap.size wr w1) : RS w w1 p m l :=
  ⟨h.at_, (hb.block p (lt_of_at h.pb)).trans h.pb, (hb.block (p + 1) (lt_of_at h.rb)).trans h.rb, below_next h.below hb⟩
theorem RS.set0 {w wr : World} {p : Nat} {m : Int} {l : Nat} (h : RS w wr p m l) (m2 : Int) : RS w (wr.setCell ⟨p, 0, none⟩ (.int .u8 m2)) p m2 l :=
  ⟨h.at_, heap_setCell_at h.pb 0 _, (heap_setCell_ne (by omega) 0 _).trans h.rb, h.below.setCell (Nat.le_of_eq h.at_.symm) _⟩
theorem RS.set1 {w wr : World} {p : Nat} {m : Int} {l : Nat} (h : RS w wr p m l) (l2 : Nat) : RS w (wr.setCell ⟨p, 1, none⟩ (.int .i64 (l2 : Int))) p m l2 :=
  ⟨h.at_, heap_setCell_at h.pb 1 _, (heap_setCell_ne (by omega) 1 _).trans h.rb, h.below.setCell (Nat.le_of_eq h.at_.symm) _⟩
theorem RS.drewN {w wr : World} {p : Nat} {m : Int} {l : Nat} (h : RS w wr p m l) (n : Nat) : RS w (wr.drewN n) p m l := h.keep (below_drewN wr n)
theorem rs_S_drew {w wr : World} {p : Nat} {m : Int} {l : Nat} (h : wr.cell? ⟨p, 0, none⟩ = some (.int .u8 m) ∧ RS w wr p m l) : wr.drew.cell? ⟨p, 0, none⟩ = some (.int .u8 m) ∧ RS w wr.drew p m l := ⟨h.1, h.2.drewN 1⟩
theorem RS.c0 {w wr : World} {p : Nat} {m : Int} {l : Nat} (h : RS w wr p m l) : wr.cell? ⟨p, 0, none⟩ = some (.int .u8 m) := cell_at h.pb 0
theorem RS.c1 {w wr : World} {p : Nat} {m : Int} {l : Nat} (h : RS w wr p m l) : wr.cell? ⟨p, 1, none⟩ = some (.int .i64 (l : Int)) := cell_at h.pb 1
theorem rs_next {w wr : World} {p : Nat} {m : Int} {l : Nat} (h : RS w wr p m l) (e : Int) (h0 : 0 ≤ m) (h1 : m ≤ 255) {v : Int} (hv : nextF m e = v) :
    Calls Try.prog 16 #[.int .u8 m, .int .i64 e] wr fun en w' => en = .returned (.int .u8 v) ∧ w'.cell? ⟨p, 0, none⟩ = some (.int .u8 m) ∧ RS w w' p m l :=
  (rnext_any wr m e h0 h1).mono fun _ _ hh => ⟨by rw [hh.1, ← nextF_eq m e h0, hv], (h.keep hh.2).c0, h.keep hh.2⟩
theorem rs_has {w wr : World} {p : Nat} {m : Int} {l : Nat} (h : RS w wr p m l) (ev : Int) (i : Nat) (hi : i ≤ 63) {v : Bool} (hv : hasB ev i = v) :
    Calls Try.prog 23 #[.int .i64 ev, .int .i64 (i : Int)] wr fun en w' => en = .returned (.bool v) ∧ w'.cell? ⟨p, 0, none⟩ = some (.int .u8 m) ∧ RS w w' p m l :=
  (has_any wr ev i hi).mono fun _ _ hh => ⟨by rw [hh.1, hv], by rw [hh.2]; exact h.c0, by rw [hh.2]; exact h⟩
/-- Behind the first loop: which one it was; where it led. -/
def Loop1 (w : World) (p : Nat) (x : Md) (ev : Int) (v _v8 : Value) (wr : World) : Prop := v = .int .i64 (x.did ev) ∧ RS w wr p (x.goes (first x.mode ev 0 18)) x.lat
/-- Behind the second loop: the latches. -/
def Loop2 (w : World) (p : Nat) (x : Md) (ev m : Int) (_v : Value) (wr : World) : Prop := RS w wr p m (x.latched ev)
theorem loop2_mk {w wr : World} {p : Nat} {x : Md} {ev m : Int} {v : Value} {l : Nat} (h : x.latched ev = l) (hr : RS w wr p m l) : Loop2 w p x ev m v wr := by
  unfold Loop2
  rw [h]
  exact hr
theorem first_go {m ev : Int} {k : Nat} (hk : k < 18) (h : (hasB ev k && nextF m (k : Int) != m) = false) : first m ev k (18 - k) = first m ev (k + 1) (18 - (k + 1)) := by
  obtain ⟨n, hn⟩ : ∃ n, 18 - k = n + 1 := ⟨17 - k, by omega⟩
  rw [hn, show 18 - (k + 1) = n by omega]
  show (if (hasB ev k && nextF m (k : Int) != m) then some k else first m ev (k + 1) n) = _
  rw [h]
  rfl
theorem first_hit {m ev : Int} {k : Nat} (hk : k < 18) (h : (hasB ev k && nextF m (k : Int) != m) = true) : first m ev k (18 - k) = some k := by
  obtain ⟨n, hn⟩ : ∃ n, 18 - k = n + 1 := ⟨17 - k, by omega⟩
  rw [hn]
  show (if (hasB ev k && nextF m (k : Int) != m) then some k else first m ev (k + 1) n) = _
  rw [h]
  rfl
/-! ### The latches -/
def stayL : List Nat := [0, 1, 2, 4, 5]
def rl1 (ev : Int) (l e : Nat) : Nat := if hasB ev e then orL l e else l
def rlN (ev : Int) (l : Nat) : Nat → Nat
  | 0 => l
  | k + 1 => rl1 ev (rlN ev l k) (stayL.getD k 0)
theorem stay_at (k : Nat) (hk : k < 5) : staysB (stayL.getD k 0) = true := by
  have : k = 0 ∨ k = 1 ∨ k = 2 ∨ k = 3 ∨ k = 4 := by omega
  rcases this with rfl | rfl | rfl | rfl | rfl <;> rfl
theorem rlN_lt (ev : Int) {l : Nat} (hl : l < 64) : ∀ k, k ≤ 5 → rlN ev l k < 64
  | 0, _ => hl
  | k + 1, h => by
    have ih := rlN_lt ev hl k (by omega)
    unfold rlN rl1
    split
    · exact orL_lt ih (stay_at k (by omega))
    · exact ih
theorem rlN_all (ev : Int) {l : Nat} (hl : l < 64) : rlN ev l 5 = latD l true ev 18 := by
  rw [latched_eq, ← (lat_eq ⟨l, hl⟩ true _ _ _ _ _).1]
  rfl
theorem latD_off (l : Nat) (ev : Int) : ∀ k, latD l false ev k = l
  | 0 => rfl
  | k + 1 => by
    show latOn (latD l false ev k) false ev (17 - k) = l
    rw [latD_off l ev k]
    rfl
theorem has_lat0 : ∀ l : Fin 64, hasB (l.val : Int) 0 = decide (l.val / 2 ^ 0 % 2 = 1) ∧ hasB (l.val : Int) 1 = decide (l.val / 2 ^ 1 % 2 = 1) ∧ hasB (l.val : Int) 2 = decide (l.val / 2 ^ 2 % 2 = 1) ∧ hasB (l.val : Int) 4 = decide (l.val / 2 ^ 4 % 2 = 1) ∧ hasB (l.val : Int) 5 = decide (l.val / 2 ^ 5 % 2 = 1) := by decide +kernel
theorem has_lat {l e : Nat} (hl : l < 64) (hs : staysB e = true) : hasB (l : Int) e = decide (l / 2 ^ e % 2 = 1) := by
  obtain ⟨h0, h1, h2, h4, h5⟩ := has_lat0 ⟨l, hl⟩
  rcases stays_cases hs with rfl | rfl | rfl | rfl | rfl
  · exact h0
  · exact h1
  · exact h2
  · exact h4
  · exact h5
theorem or_same {l e : Nat} (hl : l < 64) (hs : staysB e = true) (h : hasB (l : Int) e = true) : orL l e = l := by
  rw [has_lat hl hs] at h
  unfold orL
  rw [if_pos (of_decide_eq_true h)]
theorem or_more {l e : Nat} (hl : l < 64) (hs : staysB e = true) (h : hasB (l : Int) e = false) : ((l : Int) + (2 : Int) ^ e) = (orL l e : Int) := by
  rw [has_lat hl hs] at h
  unfold orL
  rw [if_neg (of_decide_eq_false h)]
  push_cast
  rfl
theorem pow_small {e : Nat} (hs : staysB e = true) : (1 : Int) ≤ (2 : Int) ^ e ∧ (2 : Int) ^ e ≤ 32 := by
  rcases stays_cases hs with rfl | rfl | rfl | rfl | rfl <;> decide
def StayAt (w : World) (g : Nat) : Prop := w.heap[g]? = some (.cells #[.int .i64 0, .int .i64 1, .int .i64 2, .int .i64 4, .int .i64 5] 3)
theorem StayAt.cell {w : World} {g : Nat} (h : StayAt w g) (k : Nat) (hk : k < 5) : w.cell? ⟨g, k, none⟩ = some (.int .i64 ((stayL.getD k 0 : Nat) : Int)) := by
  have : k = 0 ∨ k = 1 ∨ k = 2 ∨ k = 3 ∨ k = 4 := by omega
  rcases this with rfl | rfl | rfl | rfl | rfl <;> exact cell_at h _
theorem StayAt.keep {w w1 : World} {g : Nat} (h : StayAt w g) (hb : Below w.heap.size w w1) : StayAt w1 g := (hb.block g (lt_of_at h)).trans h
def RPost (w : World) (y : Md) (d : Int) (e : Ending) (w' : World) : Prop := e = .returned (.tuple #[mdV y.mode y.lat, .int .i64 d]) ∧ Below w.heap.size w w'
theorem rs_fin {w wr : World} {p : Nat} {m : Int} {l : Nat} (h : RS w wr p m l) :
    ((wr.setCell ⟨p + 1, 0, none⟩ (.int .u8 m)).setCell ⟨p + 1, 1, none⟩ (.int .i64 (l : Int))).heap[p + 1]? = some (.cells #[.int .u8 m, .int .i64 (l : Int)] 27) ∧ Below w.heap.size w ((wr.setCell ⟨p + 1, 0, none⟩ (.int .u8 m)).setCell ⟨p + 1, 1, none⟩ (.int .i64 (l : Int))) :=
  ⟨heap_setCell_at (heap_setCell_at h.rb 0 _) 1 _, (h.below.setCell (by have := h.at_; show w.heap.size ≤ p + 1; omega) _).setCell (by have := h.at_; show w.heap.size ≤ p + 1; omega) _⟩
theorem info27 : (Try.prog.info? 27).map (·.size) = some 2 := by kernel_rfl
set_option maxRecDepth 100000 in
set_option maxHeartbeats 8000000 in
theorem rstep_any (w : World) (x : Md) (ev : Int) (h : x.Ok) : Calls Try.prog 10 #[mdV x.mode x.lat, .int .i64 ev] w (RPost w (x.step ev) (x.did ev)) := by
  have hm0 := h.m0
  have hm1 := h.m1
  have H0 : Hid (RS w ((w.alloc (.cells #[.int .u8 x.mode, .int .i64 (x.lat : Int)] 27)).alloc (.cells #[.int .u8 0, .int .i64 0] 27)) w.heap.size x.mode x.lat) :=
    ⟨rfl, by rw [Below.heap_alloc _ _ _ (by rw [alloc_size]; omega)]; exact heap_alloc_new _ _, two_new w _ _, (below_alloc1 w _).alloc (by rw [alloc_size]; omega) _⟩
  have HOK := Lib.hid h
  clear h
  unfold mdV
  go_enter Try.func10, Try.ntmps10
  go_upto_block 0 with fail
  generalize hp : w.heap.size = p at *
  have HP := Lib.hid hp
  clear hp
  go_cut [6, 8] from 13 to 38 (Loop1 w p x ev)
  case first =>
    go_wp2_with fail
    go_loopg [6, 8] 19 (fun g v6 v8 wr => (∃ k : Nat, k ≤ 18 ∧ g = 19 - k ∧ v6 = .int .i64 (-1) ∧ v8 = .int .i64 k ∧ Hid (RS w wr p x.mode x.lat) ∧ Hid (first x.mode ev k (18 - k) = first x.mode ev 0 18)) ∨
      (∃ e : Nat, e < 18 ∧ g = 0 ∧ v6 = .int .i64 (e : Int) ∧ v8 = .int .i64 ((e : Int) + 1) ∧ Hid (RS w wr p (nextF x.mode (e : Int)) x.lat) ∧ Hid (first x.mode ev 0 18 = some e)))
    case atStart => exact .inl ⟨0, by omega, rfl, rfl, rfl, H0, rfl⟩
    case round =>
      clear H0
      rcases hrel with ⟨k, hk, hg, rfl, rfl, HX, HF⟩ | ⟨e, he, hg, rfl, rfl, HX, HF⟩
      · have HG := Lib.hid hg
        clear hg
        by_cases hlt : k < 18
        · have hS : wr.cell? ⟨p, 0, none⟩ = some (.int .u8 x.mode) ∧ RS w wr p x.mode x.lat := ⟨HX.out.c0, HX.out⟩
          cases hh : hasB ev k with
          | false =>
            have HF2 : Hid (first x.mode ev (k + 1) (18 - (k + 1)) = first x.mode ev 0 18) := by
              unfold Hid
              rw [← first_go hlt (by rw [hh]; rfl)]
              exact HF.out
            have A23 : Hid (∀ W : World, Calls Try.prog 23 #[.int .i64 ev, .int .i64 (k : Int)] W fun en w' => en = .returned (.bool false) ∧ w' = W) := fun W => by
              have := has_any W ev k (by omega)
              rw [hh] at this
              exact this
            have HRS := Lib.hid HX.out
            have k0 := hS.1
            clear hh HX HF hS
            go_wp2_with fail
            go_quiet ((go_at_call 23; exact Calls.quiet_of_same (A23.out _)))
            have HN : Hid (RS w (wr.drewN nq) p x.mode x.lat) := HRS.out.drewN nq
            go_wp2_with fail
            go_roundg (19 - (k + 1))
            case measure => have := HG.out; omega
            case rel => exact .inl ⟨k + 1, by omega, rfl, rfl, by go_num, HN, HF2⟩
          | true =>
            have A23 : Hid (∀ W, (W.cell? ⟨p, 0, none⟩ = some (.int .u8 x.mode) ∧ RS w W p x.mode x.lat) → Calls Try.prog 23 #[.int .i64 ev, .int .i64 (k : Int)] W fun en w' => en = .returned (.bool true) ∧ w'.cell? ⟨p, 0, none⟩ = some (.int .u8 x.mode) ∧ RS w w' p x.mode x.lat) := fun W hW => rs_has hW.2 ev k (by omega) hh
            have HHH := Lib.hid hh
            clear hh
            have A16 : Hid (∀ W, (W.cell? ⟨p, 0, none⟩ = some (.int .u8 x.mode) ∧ RS w W p x.mode x.lat) → Calls Try.prog 16 #[.int .u8 x.mode, .int .i64 (k : Int)] W fun en w' => en = .returned (.int .u8 (nextF x.mode (k : Int))) ∧ w'.cell? ⟨p, 0, none⟩ = some (.int .u8 x.mode) ∧ RS w w' p x.mode x.lat) := fun W hW => rs_next hW.2 (k : Int) hm0 (by omega) rfl
            cases hne : (nextF x.mode (k : Int) != x.mode) with
            | false =>
              have HF2 : Hid (first x.mode ev (k + 1) (18 - (k + 1)) = first x.mode ev 0 18) := by
                unfold Hid
                rw [← first_go hlt (by rw [HHH.out, hne]; rfl)]
                exact HF.out
              clear HX HF
              generalize nextF x.mode (k : Int) = nm at *
              go_wp2_with fail
              go_region_held3 (fun u => u.cell? ⟨p, 0, none⟩ = some (.int .u8 x.mode) ∧ RS w u p x.mode x.lat)
                (first | assumption | exact rs_S_drew (by assumption))
                (first | (go_at_call 23; refine (A23.out _ (by assumption)).mono ?_; rintro en w' ⟨rfl, hs'⟩) | (go_at_call 16; refine (A16.out _ (by assumption)).mono ?_; rintro en w' ⟨rfl, hs'⟩))
              have HN : Hid (RS w w' p x.mode x.lat) := (show w'.cell? ⟨p, 0, none⟩ = some (.int .u8 x.mode) ∧ RS w w' p x.mode x.lat from by assumption).2
              go_wp2_with fail
              go_roundg (19 - (k + 1))
              case measure => have := HG.out; omega
              case rel => exact .inl ⟨k + 1, by omega, rfl, rfl, by go_num, HN, HF2⟩
            | true =>
              have HF2 : Hid (first x.mode ev 0 18 = some k) := by
                unfold Hid
                rw [← HF.out]
                exact first_hit hlt (by rw [HHH.out, hne]; rfl)
              clear HX HF
              have HNM : ∃ nm, Hid (nextF x.mode (k : Int) = nm) := ⟨_, rfl⟩
              generalize hnm : nextF x.mode (k : Int) = nm at *
              have HNM := Lib.hid hnm
              clear hnm
              go_wp2_with fail
              go_region_held3 (fun u => u.cell? ⟨p, 0, none⟩ = some (.int .u8 x.mode) ∧ RS w u p x.mode x.lat)
                (first | assumption | exact rs_S_drew (by assumption))
                (first | (go_at_call 23; refine (A23.out _ (by assumption)).mono ?_; rintro en w' ⟨rfl, hs'⟩) | (go_at_call 16; refine (A16.out _ (by assumption)).mono ?_; rintro en w' ⟨rfl, hs'⟩))
              have HN : Hid (RS w w' p x.mode x.lat) := (show w'.cell? ⟨p, 0, none⟩ = some (.int .u8 x.mode) ∧ RS w w' p x.mode x.lat from by assumption).2
              have k0 := HN.out.c0
              go_wp2_with fail
              refine (A16.out _ ⟨HN.out.c0, HN.out⟩).mono ?_
              rintro en w2 ⟨rfl, hc2, hr2⟩
              have HN2 : Hid (RS w (w2.setCell ⟨p, 0, none⟩ (.int .u8 nm)) p (nextF x.mode (k : Int)) x.lat) := by
                rw [HNM.out]
                exact hr2.set0 nm
              have f2 : w2.frozen? ⟨p, 0, none⟩ = false := free_at hr2.pb 0
              clear hr2 k0
              go_wp2_with fail
              go_roundg 0
              case measure => have := HG.out; omega
              case rel => exact .inr ⟨k, hlt, rfl, rfl, by go_num, HN2, HF2⟩
        · obtain rfl : k = 18 := by omega
          have HL1 : Hid (Loop1 w p x ev (.int .i64 (-1)) (.int .i64 18) wr) := by
            have hn : first x.mode ev 0 18 = none := HF.out.symm.trans rfl
            unfold Hid Loop1 Md.did
            rw [hn]
            exact ⟨rfl, HX.out⟩
          clear HX HF
          go_wp2_with fail
          go_meet
          case rel => exact HL1.out
      · have HL1 : Hid (Loop1 w p x ev (.int .i64 (e : Int)) (.int .i64 ((e : Int) + 1)) wr) := by
          unfold Hid Loop1 Md.did
          rw [HF.out]
          exact ⟨rfl, HX.out⟩
        clear HX HF hg
        have e0 : ¬ (e : Int) < 0 := by omega
        by_cases h17 : (e : Int) + 1 < 18
        · go_wp2_with fail
          go_meet
          case rel => exact HL1.out
        · go_wp2_with fail
          go_meet
          case rel => exact HL1.out
  case rest =>
    clear H0
    obtain ⟨rfl, hrs⟩ := hcut
    have hg0 : 0 ≤ x.goes (first x.mode ev 0 18) ∧ x.goes (first x.mode ev 0 18) ≤ 14 := ⟨(HOK.out.step ev).m0, (HOK.out.step ev).m1⟩
    have HST : Hid (∀ l, l = x.latched ev → x.step ev = ⟨x.goes (first x.mode ev 0 18), if x.goes (first x.mode ev 0 18) ≤ 1 then 0 else l⟩) := by
      rintro l rfl
      rfl
    have HX := Lib.hid hrs
    clear hrs
    generalize x.goes (first x.mode ev 0 18) = m at *
    generalize x.did ev = d at *
    have HFL := Lib.hid (fun W => rfly_any W x.mode hm0 (by omega))
    go_upto_block 2 with fail
    obtain ⟨gs, hgs⟩ : ∃ gs, wc.heap.size = gs := ⟨_, rfl⟩
    have HSA : Hid (StayAt (wc.alloc (.cells #[.int .i64 0, .int .i64 1, .int .i64 2, .int .i64 4, .int .i64 5] 3)) gs) := by
      rw [← hgs]
      exact heap_alloc_new wc _
    have HX2 := Lib.hid (HX.out.keep (below_alloc1 wc (.cells #[.int .i64 0, .int .i64 1, .int .i64 2, .int .i64 4, .int .i64 5] 3)))
    have HGP : Hid (p < gs) := by rw [← hgs]; exact lt_of_at HX.out.pb
    rw [hgs]
    clear hgs HX
    generalize wc.alloc (.cells #[.int .i64 0, .int .i64 1, .int .i64 2, .int .i64 4, .int .i64 5] 3) = w5 at *
    go_cut [10] from 40 to 74 (Loop2 w p x ev m)
    case first =>
      cases hf : flyB x.mode with
      | false =>
        rw [hf] at HFL
        have HLT : Hid (x.latched ev = x.lat) := by
          unfold Hid Md.latched
          rw [hf]
          exact latD_off _ _ _
        clear hf
        go_wp2_with fail
        go_loopg [10] 0 (fun gh v10 wq => gh = 0 ∧ v10 = .int .i64 0 ∧ Hid (RS w wq p m x.lat))
        case atStart => exact ⟨rfl, rfl, HX2⟩
        case round =>
          obtain ⟨hgk, rfl, HQ⟩ := hrel
          clear hgk HX2 HSA
          go_wp2_with fail
          refine (HFL.out wr).mono ?_
          rintro en w6 ⟨rfl, hw6⟩
          subst hw6
          go_wp2_with fail
          go_meet
          case rel => exact loop2_mk HLT.out HQ.out
      | true =>
        rw [hf] at HFL
        have HLT : Hid (x.latched ev = rlN ev x.lat 5) := by
          unfold Hid Md.latched
          rw [hf]
          exact (rlN_all ev HOK.out.l64).symm
        clear hf
        go_wp2_with fail
        go_loopg [10] 5 (fun gh v10 wq => ∃ k : Nat, k ≤ 5 ∧ gh = 5 - k ∧ v10 = .int .i64 k ∧ Hid (RS w wq p m (rlN ev x.lat k)) ∧ Hid (StayAt wq gs))
        case atStart => exact ⟨0, by omega, rfl, rfl, HX2, HSA⟩
        case round =>
          obtain ⟨k, hk, hgk, rfl, HQ, HSQ⟩ := hrel
          have HG := Lib.hid hgk
          clear hgk HX2 HSA
          by_cases hlt : k < 5
          · have HS := Lib.hid (stay_at k hlt)
            have HL64 := Lib.hid (rlN_lt ev HOK.out.l64 k hk)
            have HRN : Hid (rlN ev x.lat (k + 1) = rl1 ev (rlN ev x.lat k) (stayL.getD k 0)) := rfl
            have ce := HSQ.out.cell k hlt
            have cl := HQ.out.c1
            have he5 : stayL.getD k 0 ≤ 5 := by have := stays_cases HS.out; omega
            generalize hee : stayL.getD k 0 = e at *
            have HEE := Lib.hid hee
            clear hee
            generalize rlN ev x.lat k = l at *
            have hS : wr.cell? ⟨p, 1, none⟩ = some (.int .i64 (l : Int)) ∧ wr.cell? ⟨gs, k, none⟩ = some (.int .i64 (e : Int)) ∧ RS w wr p m l ∧ StayAt wr gs := ⟨cl, ce, HQ.out, HSQ.out⟩
            cases hh : hasB ev e with
            | false =>
              have HN : Hid (rlN ev x.lat (k + 1) = l) := by unfold Hid; rw [HRN.out]; unfold rl1; rw [hh]; rfl
              have A23 : Hid (∀ W : World, Calls Try.prog 23 #[.int .i64 ev, .int .i64 (e : Int)] W fun en w' => en = .returned (.bool false) ∧ w' = W) := fun W => by
                have := has_any W ev e (by omega)
                rw [hh] at this
                exact this
              clear hh hS
              go_wp2_with fail
              refine (HFL.out wr).mono ?_
              rintro en w6 ⟨rfl, hw6⟩
              subst hw6
              go_wp2_with fail
              go_quiet ((go_at_call 23; exact Calls.quiet_of_same (A23.out _)))
              have HQ2 : Hid (RS w (w6.drewN nq) p m (rlN ev x.lat (k + 1))) := by unfold Hid; rw [HN.out]; exact HQ.out.drewN nq
              have HSQ2 : Hid (StayAt (w6.drewN nq) gs) := HSQ.out
              go_wp2_with fail
              go_roundg (5 - (k + 1))
              case measure => have := HG.out; omega
              case rel => exact ⟨k + 1, by omega, rfl, by go_num, HQ2, HSQ2⟩
            | true =>
              have A1 : Hid (∀ W : World, Calls Try.prog 23 #[.int .i64 ev, .int .i64 (e : Int)] W fun en w' => en = .returned (.bool true) ∧ w' = W) := fun W => by
                have := has_any W ev e (by omega)
                rw [hh] at this
                exact this
              cases hl : hasB (l : Int) e with
              | true =>
                have HN : Hid (rlN ev x.lat (k + 1) = l) := by unfold Hid; rw [HRN.out]; unfold rl1; rw [hh]; exact or_same HL64.out HS.out hl
                have A2 : Hid (∀ W : World, Calls Try.prog 23 #[.int .i64 (l : Int), .int .i64 (e : Int)] W fun en w' => en = .returned (.bool true) ∧ w' = W) := fun W => by
                  have := has_any W (l : Int) e (by omega)
                  rw [hl] at this
                  exact this
                clear hh hl hS
                go_wp2_with fail
                refine (HFL.out wr).mono ?_
                rintro en w6 ⟨rfl, hw6⟩
                subst hw6
                go_wp2_with fail
                go_quiet ((first | (go_at_call_of 23 (Value.int IntKind.i64 ev); exact Calls.quiet_of_same (A1.out _)) | (go_at_call_of 23 (Value.int IntKind.i64 (l : Int)); exact Calls.quiet_of_same (A2.out _))))
                have HQ2 : Hid (RS w (w6.drewN nq) p m (rlN ev x.lat (k + 1))) := by unfold Hid; rw [HN.out]; exact HQ.out.drewN nq
                have HSQ2 : Hid (StayAt (w6.drewN nq) gs) := HSQ.out
                go_wp2_with fail
                go_roundg (5 - (k + 1))
                case measure => have := HG.out; omega
                case rel => exact ⟨k + 1, by omega, rfl, by go_num, HQ2, HSQ2⟩
              | false =>
                have HN : Hid (rlN ev x.lat (k + 1) = orL l e) := by unfold Hid; rw [HRN.out]; unfold rl1; rw [hh]; rfl
                have hsum := or_more HL64.out HS.out hl
                have hpw := pow_wrap (e := e) (by omega)
                have hps := pow_small HS.out
                have hl64 : (l : Int) ≤ 63 := by have := HL64.out; omega
                have A2 : Hid (∀ W : World, Calls Try.prog 23 #[.int .i64 (l : Int), .int .i64 (e : Int)] W fun en w' => en = .returned (.bool false) ∧ w' = W) := fun W => by
                  have := has_any W (l : Int) e (by omega)
                  rw [hl] at this
                  exact this
                have HSUM := Lib.hid hsum
                clear hh hl hS hsum
                go_wp2_with fail
                refine (HFL.out wr).mono ?_
                rintro en w6 ⟨rfl, hw6⟩
                subst hw6
                go_wp2_with fail
                go_quiet ((first | (go_at_call_of 23 (Value.int IntKind.i64 ev); exact Calls.quiet_of_same (A1.out _)) | (go_at_call_of 23 (Value.int IntKind.i64 (l : Int)); exact Calls.quiet_of_same (A2.out _))))
                have HQ2 := Lib.hid (HQ.out.drewN nq)
                have HSQ2 : Hid (StayAt (w6.drewN nq) gs) := HSQ.out
                clear cl ce HQ HSQ
                generalize w6.drewN nq = w7 at *
                have ce := HSQ2.out.cell k hlt
                rw [HEE.out] at ce
                have cl := HQ2.out.c1
                have fl : w7.frozen? ⟨p, 1, none⟩ = false := free_at HQ2.out.pb 1
                go_wp2_with fail
                go_region
                have HQ3 : Hid (RS w ((w7.setCell ⟨p, 1, none⟩ (.int .i64 ((l : Int) + (2 : Int) ^ e))).drewN 1) p m (rlN ev x.lat (k + 1))) := by
                  unfold Hid
                  rw [HN.out, HSUM.out]
                  exact (HQ2.out.set1 (orL l e)).drewN 1
                have HSQ3 : Hid (StayAt ((w7.setCell ⟨p, 1, none⟩ (.int .i64 ((l : Int) + (2 : Int) ^ e))).drewN 1) gs) := (heap_setCell_ne (by have := HGP.out; omega) 1 _).trans HSQ2.out
                go_wp2_with fail
                go_roundg (5 - (k + 1))
                case measure => have := HG.out; omega
                case rel => exact ⟨k + 1, by omega, rfl, by go_num, HQ3, HSQ3⟩
          · obtain rfl : k = 5 := by omega
            go_wp2_with fail
            go_meet
            case rel => exact loop2_mk HLT.out HQ.out
    case rest =>
      have hrs := hcut
      unfold Loop2 at hrs
      have HS := HST.out _ rfl
      have HRS := Lib.hid hrs
      have HST2 := Lib.hid HS
      clear HS hrs HST HFL HOK HX2 HSA hcut
      generalize x.latched ev = l at *
      have c0 := HRS.out.c0
      have c1 := HRS.out.c1
      have f1 : wc.frozen? ⟨p, 1, none⟩ = false := free_at HRS.out.pb 1
      have r0 : wc.cell? ⟨p + 1, 0, none⟩ = some (.int .u8 0) := cell_at HRS.out.rb 0
      have r1 : wc.cell? ⟨p + 1, 1, none⟩ = some (.int .i64 0) := cell_at HRS.out.rb 1
      have g0 : wc.frozen? ⟨p + 1, 0, none⟩ = false := free_at HRS.out.rb 0
      have g1 : wc.frozen? ⟨p + 1, 1, none⟩ = false := free_at HRS.out.rb 1
      by_cases h0 : m = 0
      · subst h0
        have HF := Lib.hid (rs_fin (HRS.out.set1 0))
        have HPF : Hid (RPost w (x.step ev) d (.returned (.tuple #[mdV 0 0, .int .i64 d])) _) := ⟨by rw [HST2.out]; rfl, HF.out.2⟩
        clear HRS HST2
        go_wp2_with fail
        (try simp only [Exit.inBlock, Exit.then])
        refine bodyPost_ret (v := .tuple #[mdV 0 0, .int .i64 d]) ?_ rfl HPF.out
        rw [results_cell_tmp rfl]
        have hrun := run_loadVar_row (P := Try.prog) (ty := 27) _ (p + 1) 27 _ (0, 0) _ HF.out.1 Try.underlying27 rfl info27
        have hz : ((0 : Nat) : Int) = 0 := rfl
        rw [hz] at hrun
        simp [asAddr, Result.andThen, hrun, mdV]
      · by_cases h1 : m = 1
        · subst h1
          have HF := Lib.hid (rs_fin (HRS.out.set1 0))
          have HPF : Hid (RPost w (x.step ev) d (.returned (.tuple #[mdV 1 0, .int .i64 d])) _) := ⟨by rw [HST2.out]; rfl, HF.out.2⟩
          clear HRS HST2
          go_wp2_with fail
          (try simp only [Exit.inBlock, Exit.then])
          refine bodyPost_ret (v := .tuple #[mdV 1 0, .int .i64 d]) ?_ rfl HPF.out
          rw [results_cell_tmp rfl]
          have hrun := run_loadVar_row (P := Try.prog) (ty := 27) _ (p + 1) 27 _ (0, 0) _ HF.out.1 Try.underlying27 rfl info27
          have hz : ((0 : Nat) : Int) = 0 := rfl
          rw [hz] at hrun
          simp [asAddr, Result.andThen, hrun, mdV]
        · have z0 : (m == 0) = false := by rw [beq_eq_false_iff_ne]; exact h0
          have z1 : (m == 1) = false := by rw [beq_eq_false_iff_ne]; exact h1
          have HF := Lib.hid (rs_fin HRS.out)
          have HPF : Hid (RPost w (x.step ev) d (.returned (.tuple #[mdV m l, .int .i64 d])) _) := ⟨by rw [HST2.out, if_neg (by omega)], HF.out.2⟩
          clear HRS HST2 h0 h1
          go_wp2_with fail
          (try simp only [Exit.inBlock, Exit.then])
          refine bodyPost_ret (v := .tuple #[mdV m l, .int .i64 d]) ?_ rfl HPF.out
          rw [results_cell_tmp rfl]
          have hrun := run_loadVar_row (P := Try.prog) (ty := 27) _ (p + 1) 27 _ (0, 0) _ HF.out.1 Try.underlying27 rfl info27
          simp [asAddr, Result.andThen, hrun, mdV]
end Go.Proofs.Ytgbogbmjefbkeaa
