/- What Encode answers, in whatever world. Conditions: the items can be read. -/
import Derived.Test.YtkgenhoaeiihoaaCheck
import Derived.Test.YtkgenhoaeiihoaaWord
namespace Go.Proofs.Ytkgenhoaeiihoaa
open Go.RowKit

def encIt (x : It) : List Int := x.k :: (wordL x.a ++ wordL x.b ++ wordL x.c)
def encL (xs : List It) : List Int := (xs.length : Int) :: xs.flatMap encIt
def enc (xs : List It) : ByteArray := if chk xs = 0 then strOfNums (encL xs) else ByteArray.empty
def EncPost (w : World) (xs : List It) (e : Ending) (w' : World) : Prop := e = .returned (.tuple #[.string (enc xs), .int .i64 (chk xs)]) ∧ Below w.heap.size w w'
def u8 (n : Int) : Value := .int .u8 n
/-- Bytes of a row, from the first ones on. -/
def preL (xs : List It) (k : Nat) : List Int := (xs.length : Int) :: (xs.take k).flatMap encIt
theorem encIt_len (x : It) : (encIt x).length = 13 := rfl
theorem preL_len (xs : List It) (k : Nat) (hk : k ≤ xs.length) : (preL xs k).length = 1 + 13 * k := by
  unfold preL
  rw [List.length_cons, flat_len encIt_len, List.length_take]
  omega
theorem preL_succ (xs : List It) (k : Nat) (hk : k < xs.length) : preL xs (k + 1) = preL xs k ++ encIt (xs.getD k it0) := by
  unfold preL
  rw [List.take_succ_eq_append_getElem hk, List.flatMap_append, List.getD_eq_getElem?_getD, List.getElem?_eq_getElem hk]
  simp
theorem preL_all (xs : List It) : preL xs xs.length = encL xs := by unfold preL encL; rw [List.take_length]
structure EncS (w wr : World) (v : Value) (l : List Int) : Prop where
  own : wr.ownsRow w.heap.size 5 1 v l.length (l.map u8)
  below : Below w.heap.size w wr
theorem EncS.add {w wr w1 : World} {v v1 : Value} {l m : List Int} {o : Obj} (h : EncS w wr v l) (hg : (wr.alloc o).grownBy w1 v.ownBlock) (ho : w1.ownsRow w.heap.size 5 1 v1 (l.length + m.length) (l.map u8 ++ m.map u8)) : EncS w w1 v1 (l ++ m) := by
  refine ⟨?_, (h.below.alloc h.below.size _).grown hg (by rw [alloc_size]; have := h.below.size; omega) (fun c hc => (h.own.lt c hc).1)⟩
  rw [List.length_append, List.map_append]
  exact ho
theorem EncS.keep {w wr w1 : World} {v : Value} {l : List Int} (h : EncS w wr v l) (hb : Below wr.heap.size wr w1) : EncS w w1 v l :=
  ⟨ownsRow_kept h.own (Wrote.of_below hb (fun _ => False)) (fun _ hf => hf.elim), below_next h.below hb⟩
theorem u8_one (m : List Int) : ∀ u ∈ m.map u8, u.oneCell' = true := by
  intro u hu
  obtain ⟨x, _, rfl⟩ := List.mem_map.1 hu
  rfl
theorem EncS.conv {w wr : World} {v : Value} {l : List Int} (h : EncS w wr v l) (h0 : 0 < l.length) : ∃ g cap, v = .slice (some ⟨g, 0, none⟩) l.length cap ∧ (convert 61 9 (.slice (some ⟨g, 0, none⟩) l.length cap)).run Try.prog wr = .ok (.string (strOfNums l)) wr := by
  obtain ⟨g, cap, hv, _⟩ := h.own.form h0
  have ho := h.own
  subst hv
  refine ⟨g, cap, rfl, run_convert_bytes_arg (P := Try.prog) wr 61 5 Try.underlying61 Try.underlying5 g 0 l.length cap l rfl (fun i hi => ?_) 9 Try.underlying9⟩
  rw [Nat.zero_add, ho.cellAt i (by omega), List.getElem?_map, List.getElem?_eq_getElem hi, List.getD_eq_getElem?_getD, List.getElem?_eq_getElem hi]
  rfl
theorem chk_few {xs : List It} (h : chk xs = 0) : xs.length ≤ 64 := by
  unfold chk at h
  split at h
  · omega
  · omega
set_option maxRecDepth 100000 in
set_option maxHeartbeats 4000000 in
theorem encode_some (w : World) (xs : List It) (g off cap : Nat) (hg : g < w.heap.size) (hc : ∀ i, i < xs.length → ItAt w g (off + i * 4) (xs.getD i it0)) (hr : IR w (.slice (some ⟨g, off, none⟩) xs.length cap) xs) :
    Calls Try.prog 12 #[.slice (some ⟨g, off, none⟩) xs.length cap] w (EncPost w xs) := by
  have HC := Lib.hid hc
  have HR := Lib.hid hr
  obtain ⟨i0, hi, hz0, hz1, hz2⟩ := info_parts info5
  clear hc hr
  generalize hn : xs.length = n at *
  have HN := Lib.hid hn
  clear hn
  go_enter Try.func12, Try.ntmps12
  go_wp2_with fail
  refine (check_any w _ xs HR.out).mono ?_
  rintro e w1 ⟨rfl, hb1⟩
  have HB1 := Lib.hid hb1
  clear hb1
  by_cases hck : chk xs = 0
  · have HCK := Lib.hid hck
    have hfew := chk_few hck
    rw [HN.out] at hfew
    have hne : (chk xs != 0) = false := by rw [hck]; rfl
    clear hck
    go_wp2_with fail
    have H0 : Hid (EncS w (w1.alloc (.cells #[.int .u8 (n : Int)] 5)) (.slice (some ⟨w1.heap.size, 0, none⟩) 1 1) (preL xs 0)) := by
      refine ⟨⟨rfl, .inr ⟨w1.heap.size, 1, _, rfl, HB1.out.size, heap_alloc_new _ _, Nat.le_refl _, by decide, rfl, ?_⟩⟩, HB1.out.alloc HB1.out.size _⟩
      unfold preL
      rw [HN.out]
      rfl
    clear HB1
    go_loopg [5, 21] n (fun gh v i wr => ∃ k : Nat, k ≤ n ∧ gh = n - k ∧ i = .int .i64 k ∧ EncS w wr v (preL xs k))
    case atStart => exact ⟨0, Nat.zero_le _, rfl, rfl, H0.out⟩
    case round =>
      obtain ⟨k, hk, hgk, rfl, hs⟩ := hrel
      have HG := Lib.hid hgk
      have HS := Lib.hid hs
      clear hgk hs H0
      by_cases hlt : k < n
      · obtain ⟨p0, p1, p2, p3⟩ := HC.out k hlt
        have c0 := (HS.out.below.cell (p := ⟨g, _, none⟩) hg).trans p0
        have c1 := (HS.out.below.cell (p := ⟨g, _, none⟩) hg).trans p1
        have c2 := (HS.out.below.cell (p := ⟨g, _, none⟩) hg).trans p2
        have c3 := (HS.out.below.cell (p := ⟨g, _, none⟩) hg).trans p3
        have HX : Hid (encIt (xs.getD k it0) = (xs.getD k it0).k :: (wordL (xs.getD k it0).a ++ wordL (xs.getD k it0).b ++ wordL (xs.getD k it0).c)) := rfl
        clear p0 p1 p2 p3
        generalize (xs.getD k it0).k = kk at *
        generalize (xs.getD k it0).a = a at *
        generalize (xs.getD k it0).b = b at *
        generalize (xs.getD k it0).c = c at *
        have HPS : Hid (preL xs (k + 1) = preL xs k ++ ([kk] ++ (([a, b, c] : List Int).take 3).flatMap wordL)) := by
          unfold Hid
          rw [preL_succ xs k (by rw [HN.out]; exact hlt), HX.out]
          simp
        have hown := HS.out.own
        have hpl : (preL xs k).length = 1 + 13 * k := preL_len xs k (by rw [HN.out]; omega)
        have hbl := HS.out.below.size
        have hub := fun c hc => (hown.lt c hc).2
        have HUB := Lib.hid hub
        clear hub
        rw [hpl] at hown
        have HPP := Lib.hid hpl
        clear hpl
        go_wp2_with (at_builtin; refine wpList_append_own _ rfl (.tmp 25) (.tmp 28) 61 rfl w.heap.size 5 i0 (.int .u8 0) 1 1 Try.underlying61 hi hz0 hz1 hz2 rfl (by decide) _ _ _ rfl ((hown.alloc _).alloc _) ⟨wr.heap.size + 1, 0, none⟩ 1 1 ([kk].map u8) rfl rfl (World.news_of_block (two_new _ _ _)) (u8_one _) ?c1 ?c2 ?c3 ?_)
        case c1 => unfold maxLen; omega
        case c2 => omega
        case c3 => rw [alloc_size, alloc_size]; omega
        intro v1 wp hown1 hgrow1 _
        have hfar : ∀ i, wp.cell? ⟨wr.heap.size, i, none⟩ = (#[Value.int .u8 kk, .int .i64 a, .int .i64 b, .int .i64 c])[i]? := by
          intro i
          have h1 := hgrow1.cell_far ⟨wr.heap.size, i, none⟩ (by rw [alloc_size, alloc_size]; show wr.heap.size < _; omega) (by intro e; have := HUB.out _ e.symm; exact Nat.lt_irrefl _ this)
          rw [h1]
          have h2 : ((wr.alloc (.cells #[.int .u8 kk, .int .i64 a, .int .i64 b, .int .i64 c] 45)).alloc (.cells #[.int .u8 kk] 5)).heap[wr.heap.size]? = some (.cells #[.int .u8 kk, .int .i64 a, .int .i64 b, .int .i64 c] 45 (0, 0)) := by
            rw [Below.heap_alloc _ _ _ (by rw [alloc_size]; omega)]
            exact heap_alloc_new _ _
          exact cell_at h2 i
        have d1 : wp.cell? ⟨wr.heap.size, 1, none⟩ = some (.int .i64 a) := hfar 1
        have d2 : wp.cell? ⟨wr.heap.size, 2, none⟩ = some (.int .i64 b) := hfar 2
        have d3 : wp.cell? ⟨wr.heap.size, 3, none⟩ = some (.int .i64 c) := hfar 3
        have HE1 : Hid (EncS w wp v1 (preL xs k ++ ([kk] ++ (([a, b, c] : List Int).take 0).flatMap wordL))) := by
          refine ⟨?_, ((HS.out.below.alloc hbl _).alloc (by rw [alloc_size]; omega) _).grown hgrow1 (by rw [alloc_size, alloc_size]; omega) (fun c hc => (hown.lt c hc).1)⟩
          have e1 : (preL xs k ++ ([kk] ++ (([a, b, c] : List Int).take 0).flatMap wordL)).length = 1 + 13 * k + 1 := by rw [List.length_append, HPP.out]; rfl
          have e2 : (preL xs k ++ ([kk] ++ (([a, b, c] : List Int).take 0).flatMap wordL)).map u8 = (preL xs k).map u8 ++ [kk].map u8 := by simp
          rw [e1, e2]
          exact hown1
        clear hfar hown1 hgrow1 hown
        have j0 : ∀ u : World, (Instr.index 62 (.agg #[.int .i64 a, .int .i64 b, .int .i64 c]) (.int .i64 0)).run Try.prog u = .ok (.int .i64 a) u := fun _ => by kernel_rfl
        have j1 : ∀ u : World, (Instr.index 62 (.agg #[.int .i64 a, .int .i64 b, .int .i64 c]) (.int .i64 1)).run Try.prog u = .ok (.int .i64 b) u := fun _ => by kernel_rfl
        have j2 : ∀ u : World, (Instr.index 62 (.agg #[.int .i64 a, .int .i64 b, .int .i64 c]) (.int .i64 2)).run Try.prog u = .ok (.int .i64 c) u := fun _ => by kernel_rfl
        go_wp2_with fail
        go_loopg [5, 37] 3 (fun gh v i wq => ∃ j : Nat, j ≤ 3 ∧ gh = 3 - j ∧ i = .int .i64 j ∧ EncS w wq v (preL xs k ++ ([kk] ++ (([a, b, c] : List Int).take j).flatMap wordL)))
        case atStart => exact ⟨0, by omega, rfl, rfl, HE1.out⟩
        case round =>
          obtain ⟨wq, hwq⟩ : ∃ wq : World, wq = wr := ⟨_, rfl⟩
          subst hwq
          obtain ⟨j, hj, hgj, rfl, hq⟩ := hrel
          have HQ := Lib.hid hq
          have HGJ := Lib.hid hgj
          have hlen : (preL xs k ++ ([kk] ++ (([a, b, c] : List Int).take j).flatMap wordL)).length = 1 + 13 * k + 1 + 4 * j := by
            rw [List.length_append, HPP.out, List.length_append, flat_len (C := 4) (fun _ => rfl), List.length_take]
            simp
            omega
          have hown := hq.own
          rw [hlen] at hown
          clear hq HE1 hgj d1 d2 d3
          have hj4 : j = 0 ∨ j = 1 ∨ j = 2 ∨ j = 3 := by omega
          rcases hj4 with rfl | rfl | rfl | rfl
          · go_wp2_with (at_builtin; refine wpList_append_own _ rfl (.tmp 40) (.tmp 52) 61 rfl w.heap.size 5 i0 (.int .u8 0) 1 1 Try.underlying61 hi hz0 hz1 hz2 rfl (by decide) _ _ _ rfl (hown.alloc _) ⟨wq.heap.size, 0, none⟩ 4 4 ((wordL a).map u8) rfl rfl (World.news_of_block (one_new _ _)) (u8_one _) ?c1 ?c2 ?c3 ?_)
            case c1 => unfold maxLen; omega
            case c2 => omega
            case c3 => have := HQ.out.below.size; rw [alloc_size]; omega
            intro v2 w2 hown2 hgrow2 _
            have HN2 : Hid (EncS w w2 v2 (preL xs k ++ ([kk] ++ (([a, b, c] : List Int).take 1).flatMap wordL))) := by
              have e1 : (preL xs k ++ ([kk] ++ (([a, b, c] : List Int).take 0).flatMap wordL)).length + (wordL a).length = 1 + 13 * k + 1 + 4 * 0 + 4 := by rw [hlen]; rfl
              have e2 : (preL xs k ++ ([kk] ++ (([a, b, c] : List Int).take 0).flatMap wordL)).map u8 ++ (wordL a).map u8 = (preL xs k).map u8 ++ u8 kk :: (wordL a).map u8 := by simp
              have h := HQ.out.add hgrow2 (m := wordL a) (by rw [e1, e2]; exact hown2)
              have e : preL xs k ++ ([kk] ++ (([a, b, c] : List Int).take 0).flatMap wordL) ++ wordL a = preL xs k ++ ([kk] ++ (([a, b, c] : List Int).take 1).flatMap wordL) := by simp
              rw [e] at h
              exact h
            clear hown2 hgrow2 hown
            go_wp2_with fail
            go_roundg 2
            case measure => have := HGJ.out; omega
            case rel => exact ⟨1, by omega, rfl, by go_num, HN2.out⟩
          · go_wp2_with (at_builtin; refine wpList_append_own _ rfl (.tmp 40) (.tmp 52) 61 rfl w.heap.size 5 i0 (.int .u8 0) 1 1 Try.underlying61 hi hz0 hz1 hz2 rfl (by decide) _ _ _ rfl (hown.alloc _) ⟨wq.heap.size, 0, none⟩ 4 4 ((wordL b).map u8) rfl rfl (World.news_of_block (one_new _ _)) (u8_one _) ?c1 ?c2 ?c3 ?_)
            case c1 => unfold maxLen; omega
            case c2 => omega
            case c3 => have := HQ.out.below.size; rw [alloc_size]; omega
            intro v2 w2 hown2 hgrow2 _
            have HN2 : Hid (EncS w w2 v2 (preL xs k ++ ([kk] ++ (([a, b, c] : List Int).take 2).flatMap wordL))) := by
              have e1 : (preL xs k ++ ([kk] ++ (([a, b, c] : List Int).take 1).flatMap wordL)).length + (wordL b).length = 1 + 13 * k + 1 + 4 * 1 + 4 := by rw [hlen]; rfl
              have e2 : (preL xs k ++ ([kk] ++ (([a, b, c] : List Int).take 1).flatMap wordL)).map u8 ++ (wordL b).map u8 = (preL xs k).map u8 ++ u8 kk :: ((wordL a).map u8 ++ (wordL b).map u8) := by simp
              have h := HQ.out.add hgrow2 (m := wordL b) (by rw [e1, e2]; exact hown2)
              have e : preL xs k ++ ([kk] ++ (([a, b, c] : List Int).take 1).flatMap wordL) ++ wordL b = preL xs k ++ ([kk] ++ (([a, b, c] : List Int).take 2).flatMap wordL) := by simp
              rw [e] at h
              exact h
            clear hown2 hgrow2 hown
            go_wp2_with fail
            go_roundg 1
            case measure => have := HGJ.out; omega
            case rel => exact ⟨2, by omega, rfl, by go_num, HN2.out⟩
          · go_wp2_with (at_builtin; refine wpList_append_own _ rfl (.tmp 40) (.tmp 52) 61 rfl w.heap.size 5 i0 (.int .u8 0) 1 1 Try.underlying61 hi hz0 hz1 hz2 rfl (by decide) _ _ _ rfl (hown.alloc _) ⟨wq.heap.size, 0, none⟩ 4 4 ((wordL c).map u8) rfl rfl (World.news_of_block (one_new _ _)) (u8_one _) ?c1 ?c2 ?c3 ?_)
            case c1 => unfold maxLen; omega
            case c2 => omega
            case c3 => have := HQ.out.below.size; rw [alloc_size]; omega
            intro v2 w2 hown2 hgrow2 _
            have HN2 : Hid (EncS w w2 v2 (preL xs k ++ ([kk] ++ (([a, b, c] : List Int).take 3).flatMap wordL))) := by
              have e1 : (preL xs k ++ ([kk] ++ (([a, b, c] : List Int).take 2).flatMap wordL)).length + (wordL c).length = 1 + 13 * k + 1 + 4 * 2 + 4 := by rw [hlen]; rfl
              have e2 : (preL xs k ++ ([kk] ++ (([a, b, c] : List Int).take 2).flatMap wordL)).map u8 ++ (wordL c).map u8 = (preL xs k).map u8 ++ u8 kk :: ((wordL a).map u8 ++ ((wordL b).map u8 ++ (wordL c).map u8)) := by simp
              have h := HQ.out.add hgrow2 (m := wordL c) (by rw [e1, e2]; exact hown2)
              have e : preL xs k ++ ([kk] ++ (([a, b, c] : List Int).take 2).flatMap wordL) ++ wordL c = preL xs k ++ ([kk] ++ (([a, b, c] : List Int).take 3).flatMap wordL) := by simp
              rw [e] at h
              exact h
            clear hown2 hgrow2 hown
            go_wp2_with fail
            go_roundg 0
            case measure => have := HGJ.out; omega
            case rel => exact ⟨3, by omega, rfl, by go_num, HN2.out⟩
          · have HR2 : Hid (EncS w wq u5 (preL xs (k + 1))) := by unfold Hid; rw [HPS.out]; exact HQ.out
            clear hown hlen
            go_wp2_with fail
            go_roundg (n - (k + 1))
            case measure => have := HG.out; omega
            case rel => exact ⟨k + 1, by omega, rfl, by go_num, HR2.out⟩
      · obtain rfl : k = n := by omega
        have HE : Hid (preL xs k = encL xs) := by have := preL_all xs; rw [HN.out] at this; exact this
        have hpl : (preL xs k).length = 1 + 13 * k := preL_len xs k (by rw [HN.out]; omega)
        obtain ⟨vg, vcap, rfl, hcv⟩ := HS.out.conv (by omega)
        have HF : Hid (EncPost w xs (.returned (.tuple #[.string (strOfNums (preL xs k)), .int .i64 0])) wr) := by
          refine ⟨?_, HS.out.below⟩
          unfold enc
          rw [if_pos HCK.out, HCK.out, HE.out]
        clear HE hpl
        generalize (preL xs k).length = L at *
        generalize preL xs k = pl at *
        go_wp2_with fail
        go_ret2
        exact HF.out
  · have HF : Hid (EncPost w xs (.returned (.tuple #[.string ByteArray.empty, .int .i64 (chk xs)])) w1) := ⟨by unfold enc; rw [if_neg hck], HB1.out⟩
    have hne : (chk xs != 0) = true := by rw [bne_iff_ne]; exact hck
    clear hck
    generalize chk xs = c at *
    go_wp2_with fail
    go_ret2
    exact HF.out
set_option maxRecDepth 100000 in
set_option maxHeartbeats 1000000 in
theorem encode_none (w : World) (A : Option Addr) (cap : Nat) (hr : IR w (.slice A 0 cap) []) : Calls Try.prog 12 #[.slice A 0 cap] w (EncPost w []) := by
  have HR := Lib.hid hr
  clear hr
  have hcv : ∀ u : World, (convert 61 9 (.slice (some ⟨u.heap.size, 0, none⟩) 1 1)).run Try.prog (u.alloc (.cells #[.int .u8 0] 5)) = .ok (.string (strOfNums [0])) (u.alloc (.cells #[.int .u8 0] 5)) := by
    intro u
    refine run_convert_bytes_arg (P := Try.prog) _ 61 5 Try.underlying61 Try.underlying5 u.heap.size 0 1 1 [0] rfl (fun i hi => ?_) 9 Try.underlying9
    rw [Nat.zero_add, cell_at (one_new u _)]
    have : i = 0 := by omega
    subst this
    rfl
  go_enter Try.func12, Try.ntmps12
  go_wp2_with fail
  refine (check_any w _ [] HR.out).mono ?_
  rintro e w1 ⟨rfl, hb1⟩
  have HF : Hid (EncPost w [] (.returned (.tuple #[.string (strOfNums [0]), .int .i64 0])) (w1.alloc (.cells #[.int .u8 0] 5))) := ⟨rfl, hb1.alloc hb1.size _⟩
  rw [show chk [] = 0 from rfl]
  clear hb1
  go_wp2_with fail
  go_loop [5, 21] (fun v i => v = .slice (some ⟨w1.heap.size, 0, none⟩) 1 1 ∧ i = .int .i64 0) (fun _ _ => 0)
  case atStart => exact ⟨rfl, rfl⟩
  case round =>
    obtain ⟨rfl, rfl⟩ := hrel
    go_wp2_with fail
    go_ret2
    exact HF.out
theorem encode_any (w : World) (v : Value) (xs : List It) (h : IR w v xs) : Calls Try.prog 12 #[v] w (EncPost w xs) := by
  rcases h.at with ⟨rfl, A, cap, rfl⟩ | ⟨g, off, cap, rfl, hg, hc⟩
  · exact encode_none w A cap h
  · exact encode_some w xs g off cap hg hc h
end Go.Proofs.Ytkgenhoaeiihoaa
