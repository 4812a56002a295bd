/- The document's run in memory, and that its Step does what one step is; what New answers where the items are not sound. Conditions: as Doc says. -/
import Derived.Test.YtkgenhoaeiihoaaRStep
namespace Go.Proofs.Ytkgenhoaeiihoaa
open Go.RowKit
structure Doc (w : World) (v : Value) (jb : Nat) (r : Rn) : Prop where
  items : IR w v r.xs
  jumps : JumpAt w jb r.xs.length r.f
  apart : ∀ g, v.ownBlock = some g → g ≠ jb
def docV (v : Value) (jb : Nat) (r : Rn) : Value := runV v r.at_ r.sp r.wt (.slice (some ⟨jb, 0, none⟩) r.xs.length r.xs.length)
theorem JumpAt.keep {w w' : World} {jb n : Nat} {f : Nat → Int} (h : JumpAt w jb n f) {S : Nat → Prop} (hw : Wrote w w' S) (hS : ¬ S jb) : JumpAt w' jb n f := by
  obtain ⟨cs, h1, h2⟩ := h
  exact ⟨cs, (hw.block jb (lt_of_at h1) hS).trans h1, h2⟩
theorem JumpAt.below {w w' : World} {jb n : Nat} {f : Nat → Int} (h : JumpAt w jb n f) (hb : Below w.heap.size w w') : JumpAt w' jb n f := h.keep (Wrote.of_below hb (fun _ => False)) (fun x => x)
theorem JumpAt.set {w : World} {jb n : Nat} {f : Nat → Int} (h : JumpAt w jb n f) {k : Nat} (hk : k < n) (c : Int) : JumpAt (w.setCell ⟨jb, k, none⟩ (.int .i64 c)) jb n (upd f k c) := by
  obtain ⟨cs, h1, h2⟩ := h
  have hsz : k < cs.size := (Array.getElem?_eq_some_iff.1 (h2 k hk)).1
  refine ⟨_, heap_setCell_at h1 k _, fun i hi => ?_⟩
  rw [Array.getElem?_setIfInBounds]
  unfold upd
  by_cases e : k = i
  · subst e
    rw [if_pos rfl, if_pos hsz, if_pos rfl]
  · rw [if_neg e, if_neg (Ne.symm e)]
    exact h2 i hi
theorem Doc.keep {w w' : World} {v : Value} {jb : Nat} {r : Rn} (h : Doc w v jb r) {S : Nat → Prop} (hw : Wrote w w' S) (h1 : ¬ S jb) (h2 : ∀ g, v.ownBlock = some g → ¬ S g) : Doc w' v jb r := ⟨h.items.wrote hw h2, h.jumps.keep hw h1, h.apart⟩
theorem Doc.below {w w' : World} {v : Value} {jb : Nat} {r : Rn} (h : Doc w v jb r) (hb : Below w.heap.size w w') : Doc w' v jb r := h.keep (Wrote.of_below hb (fun _ => False)) (fun x => x) (fun _ _ x => x)
def RStepPost (w : World) (v : Value) (jb : Nat) (r' : Rn) (e : Ending) (w' : World) : Prop := e = .returned (docV v jb r') ∧ Doc w' v jb r' ∧ Wrote w w' (fun k => k = jb)
theorem rpost_quiet {w w' : World} {v : Value} {jb : Nat} {r r' : Rn} {e : Ending} (h : Doc w v jb r) (hx : r'.xs = r.xs) (hf : r'.f = r.f) (ho : ROut w (docV v jb r') e w') : RStepPost w v jb r' e w' := by
  obtain ⟨he, hb⟩ := ho
  have hd := h.below hb
  exact ⟨he, ⟨by rw [hx]; exact hd.items, by rw [hx, hf]; exact hd.jumps, hd.apart⟩, Wrote.of_below hb _⟩
theorem rpost_set {w w' : World} {v : Value} {jb k : Nat} {c : Int} {r r' : Rn} {e : Ending} (h : Doc w v jb r) (hk : k < r.xs.length) (hx : r'.xs = r.xs) (hf : r'.f = upd r.f k c) (ho : ROut (w.setCell ⟨jb, k, none⟩ (.int .i64 c)) (docV v jb r') e w') : RStepPost w v jb r' e w' := by
  obtain ⟨he, hb⟩ := ho
  have hw1 : Wrote w (w.setCell ⟨jb, k, none⟩ (.int .i64 c)) (fun k => k = jb) := (Wrote.refl w (fun k => k = jb)).set rfl k _
  have hw := hw1.trans (Wrote.of_below hb _)
  have hj := (h.jumps.set hk c).below hb
  exact ⟨he, ⟨by rw [hx]; exact h.items.wrote hw h.apart, by rw [hx, hf]; exact hj, h.apart⟩, hw⟩
theorem jump_cell {w : World} {jb n : Nat} {f : Nat → Int} (h : JumpAt w jb n f) {k : Nat} (hk : k < n) : jb < w.heap.size ∧ w.cell? ⟨jb, k, none⟩ = some (.int .i64 (f k)) ∧ w.frozen? ⟨jb, k, none⟩ = false := by
  obtain ⟨cs, h1, h2⟩ := h
  exact ⟨lt_of_at h1, by rw [cell_at h1]; exact h2 k hk, free_at h1 k⟩
theorem rstep_any (w : World) (v : Value) (jb : Nat) (r : Rn) (arr : Bool) (h : Doc w v jb r) (hi : Inv r) : Calls Try.prog 26 #[docV v jb r, .bool arr] w (RStepPost w v jb (r.step arr)) := by
  have h64 := (chk_all hi.ok).1
  have hle := hi.le
  unfold Rn.step
  by_cases ho : r.xs.length ≤ r.at_
  · rw [if_pos ho]
    obtain ⟨A, cap, hv⟩ := h.items.form
    refine Calls.mono ?_ (fun e w' hh => rpost_quiet h rfl rfl hh)
    unfold docV
    rw [hv]
    exact rstep_over w A cap _ _ jb _ _ arr ho (by omega)
  · rw [if_neg ho]
    have hlt : r.at_ < r.xs.length := by omega
    rcases h.items.at with ⟨h1, _⟩ | ⟨g, off, cap, hv, hg, hc⟩
    · rw [h1] at ho
      exact absurd (Nat.zero_le _) ho
    · have hit := hc _ hlt
      have hfi := hi.fine hlt
      have hwz := hi.wz
      obtain ⟨hjl, hjc, hjf⟩ := jump_cell h.jumps hlt
      have hf0 := hfi.f0 r.at_
      have hw0 := hfi.w0
      have hw1 := hfi.w1
      have hA0 := hfi.a0
      have HX : r.xs.getD r.at_ it0 = ⟨(r.xs.getD r.at_ it0).k, (r.xs.getD r.at_ it0).a, (r.xs.getD r.at_ it0).b, (r.xs.getD r.at_ it0).c⟩ := rfl
      rw [HX] at hit hwz hA0 ⊢
      simp only at hwz hA0
      generalize (r.xs.getD r.at_ it0).k = kk at *
      generalize (r.xs.getD r.at_ it0).a = xa at *
      generalize (r.xs.getD r.at_ it0).b = xb at *
      generalize (r.xs.getD r.at_ it0).c = xc at *
      clear HX hfi
      have hz : kk ≠ 3 → r.wt = 0 := fun h3 => by
        by_cases hw : r.wt = 0
        · exact hw
        · exact absurd (hwz hw).2 h3
      unfold stepI
      simp only
      by_cases h1 : kk = 1
      · subst h1
        rw [if_pos (.inl rfl)]
        cases arr with
        | true =>
          rw [if_pos rfl]
          refine Calls.mono ?_ (fun e w' hh => rpost_quiet (r' := r.next) h rfl rfl hh)
          have := rstep1_yes w g off cap r.xs.length r.at_ jb r.sp r.wt xa xb xc hlt h64 hg hit
          rw [hz (by decide)] at this
          unfold docV Rn.next
          rw [hv, hz (by decide)]
          exact this
        | false =>
          rw [if_neg (by decide)]
          refine Calls.mono ?_ (fun e w' hh => rpost_quiet (r' := r) h rfl rfl hh)
          unfold docV
          rw [hv]
          exact rstep1_no w g off cap r.xs.length r.at_ jb r.sp r.wt xa xb xc hlt h64 hg hit
      · by_cases h2 : kk = 2
        · subst h2
          rw [if_pos (.inr rfl)]
          cases arr with
          | true =>
            rw [if_pos rfl]
            refine Calls.mono ?_ (fun e w' hh => rpost_quiet (r' := r.next) h rfl rfl hh)
            have := rstep2_yes w g off cap r.xs.length r.at_ jb r.sp r.wt xa xb xc hlt h64 hg hit
            rw [hz (by decide)] at this
            unfold docV Rn.next
            rw [hv, hz (by decide)]
            exact this
          | false =>
            rw [if_neg (by decide)]
            refine Calls.mono ?_ (fun e w' hh => rpost_quiet (r' := r) h rfl rfl hh)
            unfold docV
            rw [hv]
            exact rstep2_no w g off cap r.xs.length r.at_ jb r.sp r.wt xa xb xc hlt h64 hg hit
        · rw [if_neg (by omega)]
          by_cases h3 : kk = 3
          · subst h3
            rw [if_pos rfl]
            by_cases ha : xa ≤ r.wt + 1
            · rw [if_pos ha]
              refine Calls.mono ?_ (fun e w' hh => rpost_quiet (r' := r.next) h rfl rfl hh)
              unfold docV Rn.next
              rw [hv]
              exact rstep3_on w g off cap r.xs.length r.at_ jb r.sp r.wt xa xb xc arr hlt h64 hg hit hw0 hw1 ha
            · rw [if_neg ha]
              refine Calls.mono ?_ (fun e w' hh => rpost_quiet (r' := { r with wt := r.wt + 1 }) h rfl rfl hh)
              unfold docV
              rw [hv]
              exact rstep3_wait w g off cap r.xs.length r.at_ jb r.sp r.wt xa xb xc arr hlt h64 hg hit hw0 hw1 (by omega)
          · rw [if_neg h3]
            by_cases h4 : kk = 4
            · subst h4
              rw [if_pos rfl]
              by_cases hb : r.f r.at_ < xb
              · rw [if_pos hb]
                have hm : xa = (xa.toNat : Int) := (Int.toNat_of_nonneg (hA0 rfl)).symm
                refine Calls.mono ?_ (fun e w' hh => rpost_set (r' := { r with f := upd r.f r.at_ (r.f r.at_ + 1), at_ := xa.toNat }) h hlt rfl rfl hh)
                unfold docV
                rw [hv]
                exact rstep4_jump w g off cap r.xs.length r.at_ jb r.sp r.wt xa xb xc arr xa.toNat hlt h64 hg hit (r.f r.at_) hjl hjc hjf hf0.1 hf0.2 hb hm
              · rw [if_neg hb]
                refine Calls.mono ?_ (fun e w' hh => rpost_set (r' := { r.next with f := upd r.f r.at_ 0 }) h hlt rfl rfl hh)
                have := rstep4_on w g off cap r.xs.length r.at_ jb r.sp r.wt xa xb xc arr hlt h64 hg hit (r.f r.at_) hjl hjc hjf hf0.1 hf0.2 (by omega)
                rw [hz (by decide)] at this
                unfold docV Rn.next
                rw [hv, hz (by decide)]
                exact this
            · rw [if_neg h4]
              by_cases h5 : kk = 5
              · subst h5
                rw [if_pos rfl]
                refine Calls.mono ?_ (fun e w' hh => rpost_quiet (r' := { r.next with sp := xa }) h rfl rfl hh)
                have := rstep5_any w g off cap r.xs.length r.at_ jb r.sp r.wt xa xb xc arr hlt h64 hg hit
                rw [hz (by decide)] at this
                unfold docV Rn.next
                rw [hv, hz (by decide)]
                exact this
              · rw [if_neg h5]
                refine Calls.mono ?_ (fun e w' hh => rpost_quiet (r' := r) h rfl rfl hh)
                unfold docV
                rw [hv]
                exact rstep_else w g off cap r.xs.length r.at_ jb r.sp r.wt kk xa xb xc arr hlt h64 hg hit h1 h2 h3 h4 h5
def RNewBad (w : World) (c : Int) (e : Ending) (w' : World) : Prop := e = .returned (.tuple #[runV (.slice none 0 0) 0 0 0 (.slice none 0 0), .int .i64 c]) ∧ Below w.heap.size w w'
set_option maxRecDepth 100000 in
set_option maxHeartbeats 1000000 in
theorem rnew_bad (w : World) (sp : Int) (v : Value) (xs : List It) (h : IR w v xs) (c : Int) (hc : chk xs = c) (hz : c ≠ 0) : Calls Try.prog 20 #[.int .i64 sp, v] w (RNewBad w c) := by
  have H := Lib.hid (rcheck_any _ _ xs (h.below (below_alloc1 w (.cells #[.slice none 0 0, .int .i64 0, .int .i64 0, .int .i64 0, .slice none 0 0] 40))))
  obtain ⟨A, cap, hv⟩ := h.form
  clear h
  subst hv
  go_enter Try.func20, Try.ntmps20
  go_wp2_with fail
  refine H.out.mono ?_
  rintro e w1 ⟨rfl, hb1⟩
  have HB1 := Lib.hid (below_next (below_alloc1 w _) hb1)
  have hres : w1.heap[w.heap.size]? = some (.cells #[.slice none 0 0, .int .i64 0, .int .i64 0, .int .i64 0, .slice none 0 0] 40) := by
    have hl : w.heap.size < (w.alloc (.cells #[.slice none 0 0, .int .i64 0, .int .i64 0, .int .i64 0, .slice none 0 0] 40)).heap.size := by rw [alloc_size]; omega
    exact (hb1.block w.heap.size hl).trans (heap_alloc_new w (.cells #[.slice none 0 0, .int .i64 0, .int .i64 0, .int .i64 0, .slice none 0 0] 40))
  have HRES := Lib.hid hres
  have hne : (c != 0) = true := by rw [bne_iff_ne]; exact hz
  have y0 : w1.cell? ⟨w.heap.size, 0, none⟩ = some (.slice none 0 0) := cell_at hres 0
  have y1 : w1.cell? ⟨w.heap.size, 1, none⟩ = some (.int .i64 0) := cell_at hres 1
  have y2 : w1.cell? ⟨w.heap.size, 2, none⟩ = some (.int .i64 0) := cell_at hres 2
  have y3 : w1.cell? ⟨w.heap.size, 3, none⟩ = some (.int .i64 0) := cell_at hres 3
  have y4 : w1.cell? ⟨w.heap.size, 4, none⟩ = some (.slice none 0 0) := cell_at hres 4
  have f0 := free_at hres 0
  have f1 := free_at hres 1
  have f2 := free_at hres 2
  have f3 := free_at hres 3
  have f4 := free_at hres 4
  rw [hc]
  clear hb1 hz H hc hres
  go_wp2_with fail
  (try simp only [Exit.inBlock, Exit.then])
  have hfin : (((((w1.setCell ⟨w.heap.size, 0, none⟩ (.slice none 0 0)).setCell ⟨w.heap.size, 1, none⟩ (.int .i64 0)).setCell ⟨w.heap.size, 2, none⟩ (.int .i64 0)).setCell ⟨w.heap.size, 3, none⟩ (.int .i64 0)).setCell ⟨w.heap.size, 4, none⟩ (.slice none 0 0)).heap[w.heap.size]? = some (.cells #[.slice none 0 0, .int .i64 0, .int .i64 0, .int .i64 0, .slice none 0 0] 40) :=
    heap_setCell_at (heap_setCell_at (heap_setCell_at (heap_setCell_at (heap_setCell_at HRES.out 0 _) 1 _) 2 _) 3 _) 4 _
  have hw : Wrote w1 (((((w1.setCell ⟨w.heap.size, 0, none⟩ (.slice none 0 0)).setCell ⟨w.heap.size, 1, none⟩ (.int .i64 0)).setCell ⟨w.heap.size, 2, none⟩ (.int .i64 0)).setCell ⟨w.heap.size, 3, none⟩ (.int .i64 0)).setCell ⟨w.heap.size, 4, none⟩ (.slice none 0 0)) (fun k => k = w.heap.size) :=
    (((((Wrote.refl w1 (fun k => k = w.heap.size)).set rfl 0 _).set rfl 1 _).set rfl 2 _).set rfl 3 _).set rfl 4 _
  refine bodyPost_ret (v := .tuple #[runV (.slice none 0 0) 0 0 0 (.slice none 0 0), .int .i64 c]) ?_ rfl ⟨rfl, below_wrote HB1.out hw (fun i hi => by omega) HB1.out.size⟩
  rw [results_cell_tmp rfl]
  have hrun := run_loadVar_row (P := Try.prog) (ty := 40) _ w.heap.size 40 _ (0, 0) _ hfin Try.underlying40 rfl info40
  simp [asAddr, Result.andThen, hrun, runV]
end Go.Proofs.Ytkgenhoaeiihoaa
