/- What Apart answers of one list, in whatever world: true; nothing but the list's own row is written. Conditions: the list lies in a row of its own, and is short. -/
import Derived.Test.YtmkbkjnpgdpffaaLive
import Derived.ArgAppend
import Derived.OwnWalk
import Derived.Deep.DeepMust
namespace Go.Proofs.Ytmkbkjnpgdpffaa
open Go.RowKit

theorem own_other {w : World} {v : Value} {B b : Nat} {e t : TypeId} {size n : Nat} {xs : List Value} {cs : Array Value} {fr : Nat × Nat} (h : w.ownsRow B e size v n xs) (hb : w.heap[b]? = some (.cells cs t fr)) (ht : t ≠ e) : v.ownBlock ≠ some b := by
  intro hv
  rcases h.2 with ⟨h1, _⟩ | ⟨g', cap, cur, h1, _, h2, _⟩
  · rw [h1] at hv; cases hv
  · rw [h1] at hv
    injection hv with hv
    simp only at hv
    subst hv
    rw [hb] at h2
    injection h2 with h2
    injection h2 with _ h2 _
    exact ht h2
theorem own_set {w : World} {v : Value} {B b : Nat} {e t : TypeId} {size n : Nat} {xs : List Value} {cs : Array Value} {fr : Nat × Nat} (h : w.ownsRow B e size v n xs) (hb : w.heap[b]? = some (.cells cs t fr)) (ht : t ≠ e) (i : Nat) (x : Value) : (w.setCell ⟨b, i, none⟩ x).ownsRow B e size v n xs := by
  have hne := own_other h hb ht
  refine ⟨h.1, ?_⟩
  rcases h.2 with h1 | ⟨g', cap, cur, h1, h2, h3, h4⟩
  · exact .inl h1
  · refine .inr ⟨g', cap, cur, h1, h2, ?_, h4⟩
    rw [heap_setCell_ne ?_]
    · exact h3
    · rintro rfl
      rw [h1] at hne
      exact hne rfl
theorem ownsRow_base' {w : World} {B : Nat} {e : TypeId} {size n : Nat} {v : Value} {xs : List Value} (h : w.ownsRow B e size v n xs) : w.ownsRow 0 e size v n xs := by
  refine ⟨h.1, ?_⟩
  rcases h.2 with h1 | ⟨g, cap, cur, h1, _, h3⟩
  · exact .inl h1
  · exact .inr ⟨g, cap, cur, h1, Nat.zero_le _, h3⟩
def neg (i : Nat) : Value := .int .i64 (-(i : Int) - 1)
def vals (n k : Nat) : List Value := (List.range n).map intL ++ (List.range k).map neg
theorem vals_len (n k : Nat) : (vals n k).length = n + k := by simp [vals]
theorem vals_succ (n k : Nat) : vals n (k + 1) = vals n k ++ [neg k] := by simp [vals, List.range_succ]
theorem vals_lo (n k i : Nat) (h : i < n) : (vals n k)[i]? = some (intL i) := by
  unfold vals
  rw [List.getElem?_append_left (by simp; exact h), List.getElem?_map, List.getElem?_range h]
  rfl
theorem vals_hi (n k i : Nat) (h : i < k) : (vals n k)[n + i]? = some (neg i) := by
  unfold vals
  rw [List.getElem?_append_right (by simp), List.getElem?_map, List.length_map, List.length_range, Nat.add_sub_cancel_left, List.getElem?_range h]
  rfl
/-- The list's own cells hold their marks, from here on whatever is grown. -/
def First (wr : World) (lv : Value) (n : Nat) : Prop := ∀ g, lv.ownBlock = some g → ∀ i, i < n → wr.cell? ⟨g, i, none⟩ = some (intL i)
theorem Wrote.setNew {w w1 : World} {S : Nat → Prop} (h : Wrote w w1 S) {b : Nat} (hb : w.heap.size ≤ b) (i : Nat) (v : Value) : Wrote w (w1.setCell ⟨b, i, none⟩ v) S :=
  ⟨h.os, h.tape, h.output, by simpa [World.setCell] using h.size, fun k hk hn => (Below.heap_setCell w1 ⟨b, i, none⟩ v k (by show k ≠ b; omega)).trans (h.block k hk hn)⟩
structure A1 (w wr : World) (G M : Nat) (lv : Value) (n k : Nat) : Prop where
  gblk : wr.heap[G]? = some (.cells #[lv] 28 (0, 0))
  mblk : wr.heap[M]? = some (.cells #[.slice none 0 0] 28 (0, 0))
  own : ∃ xs, wr.ownsRow 0 3 1 lv n xs ∧ ∀ i, i < k → xs[i]? = some (intL i)
  wrote : Wrote w wr (fun c => lv.ownBlock = some c)
  gm : G < M
structure A2 (w wr : World) (G M : Nat) (lv v : Value) (n k : Nat) : Prop where
  gblk : wr.heap[G]? = some (.cells #[lv] 28 (0, 0))
  mblk : wr.heap[M]? = some (.cells #[v] 28 (0, 0))
  own : wr.ownsRow 0 3 1 v (n + k) (vals n k)
  first : First wr lv n
  wrote : Wrote w wr (fun c => lv.ownBlock = some c)
  gm : G < M
  row : ∀ c, v.ownBlock = some c → lv.ownBlock = some c ∨ w.heap.size ≤ c
theorem A1.step {w wr : World} {G M n k g cap : Nat} (h : A1 w wr G M (.slice (some ⟨g, 0, none⟩) n cap) n k) (hk : k < n) : A1 w (wr.setCell ⟨g, k, none⟩ (intL k)) G M (.slice (some ⟨g, 0, none⟩) n cap) n (k + 1) := by
  obtain ⟨xs, h1, h2⟩ := h.own
  have e1 : g ≠ G := fun e => own_other h1 h.gblk (by decide) (by rw [← e]; rfl)
  have e2 : g ≠ M := fun e => own_other h1 h.mblk (by decide) (by rw [← e]; rfl)
  refine ⟨by rw [heap_setCell_ne (Ne.symm e1)]; exact h.gblk, by rw [heap_setCell_ne (Ne.symm e2)]; exact h.mblk, ⟨xs.set k (intL k), (h1.stored k _).1, fun i hi => ?_⟩, h.wrote.set rfl _ _, h.gm⟩
  rw [List.getElem?_set]
  by_cases e : k = i
  · subst e
    rw [if_pos rfl, if_pos (by rw [h1.1]; omega)]
  · rw [if_neg e]
    exact h2 i (by omega)
theorem first_own {wr : World} {lv : Value} {n m : Nat} {xs : List Value} (h : wr.ownsRow 0 3 1 lv m xs) (hm : n ≤ m) (hx : ∀ i, i < n → xs[i]? = some (intL i)) : First wr lv n := by
  intro g hg i hi
  rcases h.2 with ⟨h1, _⟩ | ⟨g', cap, cur, h1, _⟩
  · rw [h1] at hg; cases hg
  · rw [h1] at hg
    injection hg with hg
    simp only at hg
    subst hg
    subst h1
    exact (h.cellAt i (by omega)).trans (hx i hi)
theorem A1.over {w wr : World} {G M n : Nat} {lv : Value} (h : A1 w wr G M lv n n) (hM : w.heap.size ≤ M) : A2 w (wr.setCell ⟨M, 0, none⟩ lv) G M lv lv n 0 := by
  obtain ⟨xs, h1, h2⟩ := h.own
  have hx : xs = vals n 0 := by
    apply List.ext_getElem?
    intro i
    by_cases hi : i < n
    · rw [h2 i hi, vals_lo n 0 i hi]
    · rw [List.getElem?_eq_none (by rw [h1.1]; omega), List.getElem?_eq_none (by rw [vals_len]; omega)]
  subst hx
  refine ⟨by rw [heap_setCell_ne (Nat.ne_of_lt h.gm)]; exact h.gblk, heap_setCell_at h.mblk 0 _, own_set h1 h.mblk (by decide) 0 lv, first_own (own_set h1 h.mblk (by decide) 0 lv) (Nat.le_refl _) h2, h.wrote.setNew hM _ _, h.gm, fun c hc => .inl hc⟩
theorem A2.next {w wr w1 : World} {G M n k : Nat} {lv v v1 : Value} {row : Option Nat} {val : Value} (h : A2 w wr G M lv v n k) (hM : w.heap.size ≤ M) (hlv : ∀ g, lv.ownBlock = some g → g < w.heap.size)
    (hg : (wr.alloc (.cells #[val] 3)).grownBy w1 row) (ho : w1.ownsRow 0 3 1 v1 (n + k + 1) (vals n k ++ [neg k])) (hc : (row = none ∧ ∀ c, v1.ownBlock = some c → wr.heap.size ≤ c) ∨ (row = v.ownBlock ∧ v1.ownBlock = v.ownBlock)) : A2 w (w1.setCell ⟨M, 0, none⟩ v1) G M lv v1 n (k + 1) := by
  have hvG := own_other h.own h.gblk (by decide)
  have hvM := own_other h.own h.mblk (by decide)
  have hsz := h.wrote.size
  have keep : ∀ c, c < wr.heap.size → row ≠ some c → w1.heap[c]? = wr.heap[c]? := fun c hc hr =>
    (hg.block c (by rw [alloc_size]; omega) (fun e => hr e.symm)).trans (Below.heap_alloc _ _ _ hc)
  have hrG : row ≠ some G := by rcases hc with ⟨e, _⟩ | ⟨e, _⟩ <;> rw [e] <;> first | exact hvG | (intro e; cases e)
  have hrM : row ≠ some M := by rcases hc with ⟨e, _⟩ | ⟨e, _⟩ <;> rw [e] <;> first | exact hvM | (intro e; cases e)
  have g1 := (keep G (lt_of_at h.gblk) hrG).trans h.gblk
  have m1 := (keep M (lt_of_at h.mblk) hrM).trans h.mblk
  have ho' : w1.ownsRow 0 3 1 v1 (n + (k + 1)) (vals n (k + 1)) := by rw [vals_succ]; exact ho
  have hf : First w1 lv n := by
    intro g hgl i hi
    have hgw := hlv g hgl
    by_cases e : row = some g
    · rcases hc with ⟨e2, _⟩ | ⟨e2, e3⟩
      · rw [e2] at e; cases e
      · exact first_own ho' (by omega) (fun i hi => vals_lo n (k + 1) i hi) g (by rw [e3, ← e2]; exact e) i hi
    · have := keep g (by omega) e
      have h1 := h.first g hgl i hi
      unfold World.cell? at h1 ⊢
      simp only [this]
      exact h1
  have hw1 : Wrote w w1 (fun c => lv.ownBlock = some c) := by
    refine ⟨hg.os.trans h.wrote.os, hg.tape.trans h.wrote.tape, hg.output.trans h.wrote.output, ?_, fun c hcl hn => ?_⟩
    · have := hg.size; rw [alloc_size] at this; omega
    · refine (keep c (by omega) (fun e => ?_)).trans (h.wrote.block c hcl hn)
      rcases hc with ⟨e2, _⟩ | ⟨e2, _⟩
      · rw [e2] at e; cases e
      · rcases h.row c (by rw [← e2]; exact e) with h3 | h3
        · exact hn h3
        · omega
  refine ⟨by rw [heap_setCell_ne (Nat.ne_of_lt h.gm)]; exact g1, heap_setCell_at m1 0 _, own_set ho' m1 (by decide) 0 v1, ?_, hw1.setNew hM _ _, h.gm, fun c hcc => ?_⟩
  · intro g hgl i hi
    have h1 := hf g hgl i hi
    have hgw := hlv g hgl
    have e := heap_setCell_ne (w := w1) (b := g) (g := M) (by omega) 0 v1
    unfold World.cell? at h1 ⊢
    simp only [e]
    exact h1
  · rcases hc with ⟨_, e⟩ | ⟨_, e⟩
    · right; have := e c hcc; omega
    · exact h.row c (by rw [← e]; exact hcc)
theorem A2.drewN {w wr : World} {G M n k : Nat} {lv v : Value} (h : A2 w wr G M lv v n k) (q : Nat) : A2 w (wr.drewN q) G M lv v n k :=
  ⟨h.gblk, h.mblk, ⟨h.own.1, h.own.2⟩, h.first, h.wrote.drewN q, h.gm, h.row⟩
def ApartPost (w : World) (lv : Value) (e : Ending) (w' : World) : Prop := e = .returned (.bool true) ∧ Wrote w w' (fun c => lv.ownBlock = some c)
set_option maxRecDepth 100000 in
set_option maxHeartbeats 4000000 in
theorem apart_any (w : World) (G : Nat) (A : Option Addr) (n cap : Nat) (xs : List Value) (hG : w.heap[G]? = some (.cells #[.slice A n cap] 28 (0, 0))) (hown : w.ownsRow 0 3 1 (.slice A n cap) n xs) (hn : n ≤ 64) :
    Calls Try.prog 13 #[.slice (some ⟨G, 0, none⟩) 1 1] w (ApartPost w (.slice A n cap)) := by
  have HG := Lib.hid hG
  have HO := Lib.hid hown
  have g0 : w.cell? ⟨G, 0, none⟩ = some (.slice A n cap) := cell_at hG 0
  clear hG hown
  go_enter Try.func13, Try.ntmps13
  have hmk : ∀ u : World, (Instr.makeSlice 33 (.int .i64 1) (.int .i64 1)).run Try.prog u = .ok (.slice (some ⟨u.heap.size, 0, none⟩) 1 1) (u.alloc (.cells #[.slice none 0 0] 28)) := fun _ => by kernel_rfl
  have hGl : G < w.heap.size := by have := lt_of_at HG.out; exact this
  have H1 : Hid (A1 w (w.alloc (.cells #[.slice none 0 0] 28)) G w.heap.size (.slice A n cap) n 0) := ⟨by rw [Below.heap_alloc _ _ _ hGl]; exact HG.out, heap_alloc_new _ _, ⟨xs, HO.out.alloc _, fun i hi => absurd hi (Nat.not_lt_zero _)⟩, Wrote.of_below (below_alloc1 w _) _, hGl⟩
  have hlv : ∀ g, (Value.slice A n cap).ownBlock = some g → g < w.heap.size := fun g hg => (HO.out.lt g hg).2
  have HLV := Lib.hid hlv
  clear hlv g0
  go_wp2_with fail
  clear hmk
  go_loopg [4] 1 (fun gh i wr => (gh = 1 ∧ i = .int .i64 0 ∧ A1 w wr G w.heap.size (.slice A n cap) n 0) ∨ (gh = 0 ∧ i = .int .i64 1 ∧ A2 w wr G w.heap.size (.slice A n cap) (.slice A n cap) n 0))
  case atStart => exact .inl ⟨rfl, rfl, H1.out⟩
  case round =>
    clear H1
    rcases hrel with ⟨rfl, rfl, h1⟩ | ⟨rfl, rfl, h2⟩
    · have H1 := Lib.hid h1
      clear h1
      go_wp2_with fail
      go_loopg [5] n (fun gh i wr => ∃ k : Nat, k ≤ n ∧ gh = n - k ∧ i = .int .i64 k ∧ A1 w wr G w.heap.size (.slice A n cap) n k)
      case atStart => exact ⟨0, Nat.zero_le _, rfl, rfl, H1.out⟩
      case round =>
        obtain ⟨k, hk, hgk, rfl, h1⟩ := hrel
        have HGK := Lib.hid hgk
        have HA := Lib.hid h1
        have c0 : wr.cell? ⟨G, 0, none⟩ = some (.slice A n cap) := cell_at h1.gblk 0
        clear hgk h1 H1
        by_cases hlt : k < n
        · obtain ⟨ys, hy, _⟩ := HA.out.own
          obtain ⟨g, gcap, hv, _⟩ := hy.form (by omega)
          injection hv with hA _ hcp
          subst hA hcp
          have hyk : (ys[k]?).isSome = true := by rw [List.getElem?_eq_getElem (by rw [hy.1]; omega)]; rfl
          have ck := hy.cellAt k (by omega)
          have fk := hy.frozenAt k
          obtain ⟨yv, hyv⟩ := Option.isSome_iff_exists.1 hyk
          rw [hyv] at ck
          have HS := Lib.hid (HA.out.step hlt)
          clear hy hyk hyv
          go_wp2_with fail
          go_roundg (n - (k + 1))
          case measure => have := HGK.out; omega
          case rel => exact ⟨k + 1, by omega, rfl, by go_num, HS.out⟩
        · obtain rfl : k = n := by omega
          have m0 : wr.cell? ⟨w.heap.size, 0, none⟩ = some (.slice none 0 0) := cell_at HA.out.mblk 0
          have mf : wr.frozen? ⟨w.heap.size, 0, none⟩ = false := free_at HA.out.mblk 0
          have HS := Lib.hid (HA.out.over (Nat.le_refl _))
          clear HGK
          go_wp2_with fail
          go_roundg 0
          case measure => omega
          case rel => exact .inr ⟨rfl, by go_num, HS.out⟩
    · have H2 := Lib.hid h2
      clear h2
      go_wp2_with fail
      go_loopg [6] 1 (fun gh i wr => (gh = 1 ∧ i = .int .i64 0 ∧ A2 w wr G w.heap.size (.slice A n cap) (.slice A n cap) n 0) ∨ (gh = 0 ∧ i = .int .i64 1 ∧ ∃ v, A2 w wr G w.heap.size (.slice A n cap) v n 16))
      case atStart => exact .inl ⟨rfl, rfl, H2.out⟩
      case round =>
        clear H2
        rcases hrel with ⟨rfl, rfl, h1⟩ | ⟨rfl, rfl, v, h2⟩
        · have H1 := Lib.hid h1
          clear h1
          go_wp2_with fail
          go_loopg [7] 16 (fun gh i wr => ∃ (k : Nat) (v : Value), k ≤ 16 ∧ gh = 16 - k ∧ i = .int .i64 k ∧ A2 w wr G w.heap.size (.slice A n cap) v n k)
          case atStart => exact ⟨0, _, Nat.zero_le _, rfl, rfl, H1.out⟩
          case round =>
            obtain ⟨k, v, hk, hgk, rfl, h1⟩ := hrel
            have HGK := Lib.hid hgk
            have HA := Lib.hid h1
            have m0 : wr.cell? ⟨w.heap.size, 0, none⟩ = some v := cell_at h1.mblk 0
            have hml : w.heap.size < wr.heap.size := lt_of_at h1.mblk
            have hown := h1.own
            clear hgk h1 H1
            by_cases hlt : k < 16
            · obtain ⟨i0, hi, hz0, hz1, hz2⟩ := info_parts info3
              rcases hown.2 with ⟨hv, h0⟩ | ⟨vg, vcap, cur, hv, _, _, hle, hcm, _, _⟩
              · subst hv
                obtain ⟨rfl, rfl⟩ : n = 0 ∧ k = 0 := by omega
                go_wp2_with (at_builtin; go_must (refine wpList_append_grows _ rfl (.tmp 61) (.tmp 68) 28 rfl 3 i0 (.int .i64 0) 1 8 Try.underlying28 hi hz0 hz1 hz2 rfl (by decide) _ 0 _ [] rfl (fun _ => ⟨rfl, rfl⟩) rfl (fun b hb => nomatch hb) ⟨wr.heap.size, 0, none⟩ 1 1 [neg 0] rfl rfl (one_cell _ _ _) ?c0 (by omega) (by decide) (by decide) ?_))
                case c0 => simp [neg, Value.oneCell']
                intro v1 w1 hown1 hgrow
                obtain ⟨ng, ncap, rfl, _, _⟩ := hown1.form (by omega)
                have f1 : w1.frozen? ⟨w.heap.size, 0, none⟩ = false := by
                  have := (hgrow.block w.heap.size (by rw [alloc_size]; omega) (by intro e; cases e)).trans ((Below.heap_alloc _ _ _ hml).trans HA.out.mblk)
                  exact free_at this 0
                have b1 : w1.cell? ⟨w.heap.size, 0, none⟩ = some (.slice none 0 0) := by
                  have := (hgrow.block w.heap.size (by rw [alloc_size]; omega) (by intro e; cases e)).trans ((Below.heap_alloc _ _ _ hml).trans HA.out.mblk)
                  exact cell_at this 0
                have HN : Hid (A2 w (w1.setCell ⟨w.heap.size, 0, none⟩ (.slice (some ⟨ng, 0, none⟩) 1 ncap)) G w.heap.size (.slice A 0 cap) (.slice (some ⟨ng, 0, none⟩) 1 ncap) 0 (0 + 1)) :=
                  HA.out.next (Nat.le_refl _) HLV.out hgrow (ownsRow_base' hown1) (.inl ⟨rfl, fun c hc => by have := (hown1.lt c hc).1; omega⟩)
                clear hown1 hgrow hown
                go_wp2_with fail
                go_roundg (16 - 1)
                case measure => have := HGK.out; omega
                case rel => exact ⟨1, _, by omega, rfl, by go_num, HN.out⟩
              · subst hv
                by_cases hroom : n + k + 1 ≤ vcap
                · go_wp2_with (at_builtin; refine wpList_append_fits _ rfl (.tmp 61) (.tmp 68) 28 rfl 0 3 i0 1 Try.underlying28 hi hz1 vg (n + k) vcap (vals n k) rfl (hown.alloc _) ⟨wr.heap.size, 0, none⟩ 1 1 [neg k] rfl rfl (one_cell _ _ _) ?c0 hroom ?_)
                  case c0 => simp [neg, Value.oneCell']
                  intro w1 hown1 hgrow
                  have hvM : vg ≠ w.heap.size := fun e => own_other hown HA.out.mblk (by decide) (by rw [← e]; rfl)
                  have hmb := (hgrow.block w.heap.size (by rw [alloc_size]; omega) (by intro e; injection e with e; exact hvM e.symm)).trans ((Below.heap_alloc _ _ _ hml).trans HA.out.mblk)
                  have f1 : w1.frozen? ⟨w.heap.size, 0, none⟩ = false := free_at hmb 0
                  have b1 : w1.cell? ⟨w.heap.size, 0, none⟩ = some (.slice (some ⟨vg, 0, none⟩) (n + k) vcap) := cell_at hmb 0
                  have HN : Hid (A2 w (w1.setCell ⟨w.heap.size, 0, none⟩ (.slice (some ⟨vg, 0, none⟩) (n + k + 1) vcap)) G w.heap.size (.slice A n cap) (.slice (some ⟨vg, 0, none⟩) (n + k + 1) vcap) n (k + 1)) :=
                    HA.out.next (Nat.le_refl _) HLV.out hgrow hown1 (.inr ⟨rfl, rfl⟩)
                  clear hown1 hgrow hown hmb
                  go_wp2_with fail
                  go_roundg (16 - (k + 1))
                  case measure => have := HGK.out; omega
                  case rel => exact ⟨k + 1, _, by omega, rfl, by go_num, HN.out⟩
                · have hholds : Hid (∀ b, (some (⟨vg, 0, none⟩ : Addr)) = some b → ∀ j u, (vals n k)[j]? = some u → (wr.alloc (.cells #[neg k] 3)).cell? (b.add j) = some u) := by
                    intro b hb j u hu
                    injection hb with hb
                    subst hb
                    exact (hown.alloc _).cells rfl j u hu
                  go_wp2_with (at_builtin; go_must (refine wpList_append_grows _ rfl (.tmp 61) (.tmp 68) 28 rfl 3 i0 (.int .i64 0) 1 8 Try.underlying28 hi hz0 hz1 hz2 rfl (by decide) _ (n + k) _ (vals n k) rfl (fun h => nomatch h) (by rw [vals_len]; omega) hholds.out ⟨wr.heap.size, 0, none⟩ 1 1 [neg k] rfl rfl (one_cell _ _ _) ?c0 (by omega) ?c1 ?c2 ?_))
                  case c0 => simp [neg, Value.oneCell']
                  case c1 => unfold maxLen; omega
                  case c2 => omega
                  intro v1 w1 hown1 hgrow
                  obtain ⟨ng, ncap, rfl, _, _⟩ := hown1.form (by omega)
                  have f1 : w1.frozen? ⟨w.heap.size, 0, none⟩ = false := by
                    have := (hgrow.block w.heap.size (by rw [alloc_size]; omega) (by intro e; cases e)).trans ((Below.heap_alloc _ _ _ hml).trans HA.out.mblk)
                    exact free_at this 0
                  have b1 : w1.cell? ⟨w.heap.size, 0, none⟩ = some (.slice (some ⟨vg, 0, none⟩) (n + k) vcap) := by
                    have := (hgrow.block w.heap.size (by rw [alloc_size]; omega) (by intro e; cases e)).trans ((Below.heap_alloc _ _ _ hml).trans HA.out.mblk)
                    exact cell_at this 0
                  have HN : Hid (A2 w (w1.setCell ⟨w.heap.size, 0, none⟩ (.slice (some ⟨ng, 0, none⟩) (n + k + 1) ncap)) G w.heap.size (.slice A n cap) (.slice (some ⟨ng, 0, none⟩) (n + k + 1) ncap) n (k + 1)) :=
                    HA.out.next (Nat.le_refl _) HLV.out hgrow (ownsRow_base' hown1) (.inl ⟨rfl, fun c hc => by have := (hown1.lt c hc).1; omega⟩)
                  clear hown1 hgrow hown
                  go_wp2_with fail
                  go_roundg (16 - (k + 1))
                  case measure => have := HGK.out; omega
                  case rel => exact ⟨k + 1, _, by omega, rfl, by go_num, HN.out⟩
            · obtain rfl : k = 16 := by omega
              have HV : Hid (∃ v, A2 w wr G w.heap.size (.slice A n cap) v n 16) := ⟨v, HA.out⟩
              clear HGK hown m0
              go_wp2_with fail
              go_roundg 0
              case measure => omega
              case rel => exact .inr ⟨rfl, by go_num, HV.out⟩
        · have H2 := Lib.hid h2
          clear h2
          go_wp2_with fail
          go_loopg [8] 1 (fun gh i wr => (gh = 1 ∧ i = .int .i64 0 ∧ A2 w wr G w.heap.size (.slice A n cap) v n 16) ∨ (gh = 0 ∧ i = .int .i64 1 ∧ A2 w wr G w.heap.size (.slice A n cap) v n 16))
          case atStart => exact .inl ⟨rfl, rfl, H2.out⟩
          case round =>
            clear H2
            rcases hrel with ⟨rfl, rfl, h1⟩ | ⟨rfl, rfl, h2⟩
            · have H1 := Lib.hid h1
              clear h1
              go_wp2_with fail
              go_loopg [9] n (fun gh i wr => ∃ k : Nat, k ≤ n ∧ gh = n - k ∧ i = .int .i64 k ∧ A2 w wr G w.heap.size (.slice A n cap) v n 16)
              case atStart => exact ⟨0, Nat.zero_le _, rfl, rfl, H1.out⟩
              case round =>
                obtain ⟨k, hk, hgk, rfl, h1⟩ := hrel
                have HGK := Lib.hid hgk
                have HA := Lib.hid h1
                have g0 : wr.cell? ⟨G, 0, none⟩ = some (.slice A n cap) := cell_at h1.gblk 0
                have m0 : wr.cell? ⟨w.heap.size, 0, none⟩ = some v := cell_at h1.mblk 0
                obtain ⟨vg, vcap, rfl, _, _⟩ := h1.own.form (by omega)
                clear hgk h1 H1
                by_cases hlt : k < n
                · obtain ⟨g, gcap, hv, _⟩ := HO.out.form (by omega)
                  injection hv with hA _ hcp
                  subst hA hcp
                  have c1 := HA.out.first g rfl k hlt
                  have c2 := (HA.out.own.cellAt k (by omega)).trans (vals_lo n 16 k hlt)
                  unfold intL at c1 c2
                  have hx : ((k : Int) != (k : Int)) = false := by simp
                  go_wp2_with fail
                  go_roundg (n - (k + 1))
                  case measure => have := HGK.out; omega
                  case rel => exact ⟨k + 1, by omega, rfl, by go_num, HA.out⟩
                · clear HGK
                  go_wp2_with fail
                  go_loopg [10] 16 (fun gh i wr => ∃ k : Nat, k ≤ 16 ∧ gh = 16 - k ∧ i = .int .i64 k ∧ A2 w wr G w.heap.size (.slice A n cap) (.slice (some ⟨vg, 0, none⟩) (n + 16) vcap) n 16)
                  case atStart => exact ⟨0, Nat.zero_le _, rfl, rfl, HA.out⟩
                  case round =>
                    obtain ⟨k2, hk2, hgk2, rfl, h3⟩ := hrel
                    have HGK := Lib.hid hgk2
                    have HA3 := Lib.hid h3
                    have g3 : wr.cell? ⟨G, 0, none⟩ = some (.slice A n cap) := cell_at h3.gblk 0
                    have m3 : wr.cell? ⟨w.heap.size, 0, none⟩ = some (.slice (some ⟨vg, 0, none⟩) (n + 16) vcap) := cell_at h3.mblk 0
                    clear hgk2 h3 HA g0 m0
                    by_cases hlt : k2 < 16
                    · have c2 := (HA3.out.own.cellAt (n + k2) (by omega)).trans (vals_hi n 16 k2 hlt)
                      unfold neg at c2
                      have hx : ((-(k2 : Int) - 1) != (-(k2 : Int) - 1)) = false := by simp
                      go_wp2_with fail
                      go_quiet (fail)
                      go_wp2_with fail
                      go_roundg (16 - (k2 + 1))
                      case measure => have := HGK.out; omega
                      case rel => exact ⟨k2 + 1, by omega, rfl, by go_num, HA3.out.drewN _⟩
                    · clear HGK
                      go_wp2_with fail
                      go_roundg 0
                      case measure => omega
                      case rel => exact .inr ⟨rfl, by go_num, HA3.out⟩
            · have HW := Lib.hid h2.wrote
              clear h2
              go_wp2_with fail
              go_ret
              exact ⟨rfl, HW.out⟩
end Go.Proofs.Ytmkbkjnpgdpffaa
