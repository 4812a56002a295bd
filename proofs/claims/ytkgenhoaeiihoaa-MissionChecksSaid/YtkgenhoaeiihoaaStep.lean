/- What Step does, in whatever world. Conditions: as RunAt says; the items are sound. -/
import Derived.Test.YtkgenhoaeiihoaaRun
namespace Go.Proofs.Ytkgenhoaeiihoaa
open Go.RowKit

/-- One step. -/
def Rn.next (r : Rn) : Rn := { r with at_ := r.at_ + 1, wt := 0 }
def stepI (r : Rn) (x : It) (arr : Bool) : Rn :=
  if x.k = 1 ∨ x.k = 2 then (if arr then r.next else r)
  else if x.k = 3 then (if x.a ≤ r.wt + 1 then r.next else { r with wt := r.wt + 1 })
  else if x.k = 4 then (if r.f r.at_ < x.b then { r with f := upd r.f r.at_ (r.f r.at_ + 1), at_ := x.a.toNat } else { r.next with f := upd r.f r.at_ 0 })
  else if x.k = 5 then { r.next with sp := x.a }
  else r
def Rn.step (r : Rn) (arr : Bool) : Rn := if r.xs.length ≤ r.at_ then r else stepI r (r.xs.getD r.at_ it0) arr
theorem step_xs (r : Rn) (arr : Bool) : (r.step arr).xs = r.xs := by
  unfold Rn.step stepI Rn.next
  repeat' split
  all_goals rfl
def StepPost (w : World) (b mb n : Nat) (v : Value) (r' : Rn) (e : Ending) (w' : World) : Prop := e = .returned (.tuple #[]) ∧ RunAt w' b mb (n + 1) v r' ∧ Wrote w w' (fun k => k = b ∨ k = mb)
/-- What the numbers of a run are. -/
structure Fine (r : Rn) (x : It) : Prop where
  few : r.at_ ≤ 64
  w0 : 0 ≤ r.wt
  w1 : r.wt ≤ 1000000
  f0 : ∀ i, 0 ≤ r.f i ∧ r.f i ≤ 255
  a0 : x.k = 4 → 0 ≤ x.a
set_option maxRecDepth 100000 in
theorem step_nil (w : World) (arr : Bool) : Calls Try.prog 25 #[.pointer none, .bool arr] w fun e w' => e = .returned (.tuple #[]) ∧ w' = w := by
  go_enter Try.func25, Try.ntmps25
  go_wp2_with fail
  (try simp only [Exit.inBlock, Exit.then])
  refine bodyPost_ret (results_none rfl _ _ _) rfl ?_
  exact ⟨rfl, rfl⟩
set_option maxRecDepth 100000 in
theorem step_over (w : World) (b mb n : Nat) (v : Value) (r : Rn) (arr : Bool) (h : RunAt w b mb n v r) (ho : r.xs.length ≤ r.at_) : Calls Try.prog 25 #[.pointer (some ⟨b, 0, none⟩), .bool arr] w (StepPost w b mb n v r) := by
  have HO := Lib.hid (over_any w b mb n v r h)
  have HF : Hid (∀ q, StepPost w b mb n v r (.returned (.tuple #[])) (w.drewN q)) := fun q => ⟨rfl, (h.mono (Nat.le_succ n)).below (below_drewN w q), Wrote.of_below (below_drewN w q) _⟩
  have HD : Hid (decide (r.xs.length ≤ r.at_) = true) := decide_eq_true ho
  clear h ho
  go_enter Try.func25, Try.ntmps25
  go_wp2_with fail
  refine HO.out.mono ?_
  rintro e w1 ⟨rfl, q, rfl⟩
  rw [HD.out]
  clear HD HO
  go_wp2_with fail
  (try simp only [Exit.inBlock, Exit.then])
  refine bodyPost_ret (results_none rfl _ _ _) rfl ?_
  exact HF.out q
theorem drewN_at' {u : World} {p n : Nat} {o : Obj} (h : u.heap[p]? = some o) : (u.drewN n).heap[p]? = some o := h
theorem step_fin {w u w2 : World} {b mb n : Nat} {v : Value} {r r' : Rn} (HB : Below w.heap.size w u) (HR : RunAt u b mb n v r) (hw : Wrote u w2 (fun k => k = b ∨ k = mb)) (hc : w2.heap[b]? = some (.cells (r'.cells v mb) 70)) (hm : MapAs w2 mb (n + 1) r'.f) (hx : r'.xs = r.xs) :
    StepPost w b mb n v r' (.returned (.tuple #[])) w2 := by
  refine ⟨rfl, ⟨hc, ?_, HR.apart, hm, HR.ne⟩, (Wrote.of_below HB _).trans hw⟩
  rw [hx]
  exact HR.items.wrote hw fun g hg hs => by
    obtain ⟨h1, h2⟩ := HR.apart g hg
    rcases hs with hs | hs
    · exact h1 hs
    · exact h2 hs
theorem step_next {w u w1 w2 : World} {b mb n : Nat} {v : Value} {r r' : Rn} (HB : Below w.heap.size w u) (HR : RunAt u b mb n v r) (hw1 : Wrote u w1 (fun k => k = b ∨ k = mb)) (hw : Wrote w1 w2 (fun k => k = b)) (hc : w2.heap[b]? = some (.cells (r'.cells v mb) 70)) (hm : MapAs w1 mb (n + 1) r'.f) (hx : r'.xs = r.xs) :
    StepPost w b mb n v r' (.returned (.tuple #[])) w2 :=
  step_fin HB HR (hw1.trans (hw.mono fun _ h => .inl h)) hc (hm.kept hw (fun h => HR.ne h.symm)) hx
set_option maxRecDepth 100000 in
set_option maxHeartbeats 4000000 in
theorem step_at (w : World) (b mb n g off cap : Nat) (r : Rn) (arr : Bool) (h : RunAt w b mb n (.slice (some ⟨g, off, none⟩) r.xs.length cap) r) (hn : n < maxLen) (ho : r.at_ < r.xs.length) (hg : g < w.heap.size) (hi : ItAt w g (off + r.at_ * 4) (r.xs.getD r.at_ it0)) (hf : Fine r (r.xs.getD r.at_ it0)) :
    Calls Try.prog 25 #[.pointer (some ⟨b, 0, none⟩), .bool arr] w (StepPost w b mb n (.slice (some ⟨g, off, none⟩) r.xs.length cap) (stepI r (r.xs.getD r.at_ it0) arr)) := by
  have HO := Lib.hid (over_any w b mb n _ r h)
  have hsm := h.items.small
  have k0 := h.c0
  have k1 := h.c1
  have hbl := h.ptr
  have HOD : Hid (decide (r.xs.length ≤ r.at_) = false) := decide_eq_false (by omega)
  have HR := Lib.hid h
  have HFI := Lib.hid hf
  clear h hf
  obtain ⟨p0, p1, p2, p3⟩ := hi
  have HX : Hid (r.xs.getD r.at_ it0 = ⟨(r.xs.getD r.at_ it0).k, (r.xs.getD r.at_ it0).a, (r.xs.getD r.at_ it0).b, (r.xs.getD r.at_ it0).c⟩) := rfl
  rw [HX.out] at HFI ⊢
  generalize (r.xs.getD r.at_ it0).k = kk at *
  generalize (r.xs.getD r.at_ it0).a = xa at *
  generalize (r.xs.getD r.at_ it0).b = xb at *
  generalize (r.xs.getD r.at_ it0).c = xc at *
  clear HX
  go_enter Try.func25, Try.ntmps25
  go_wp2_with fail
  refine HO.out.mono ?_
  rintro e w1 ⟨rfl, q, rfl⟩
  rw [HOD.out]
  clear HO HOD
  have HB0 := Lib.hid (below_drewN w q)
  have HR0 := Lib.hid (HR.out.below HB0.out)
  have hg0 : g < (w.drewN q).heap.size := hg
  have q0 : (w.drewN q).cell? ⟨g, off + r.at_ * 4, none⟩ = some (.int .u8 kk) := p0
  have q1 : (w.drewN q).cell? ⟨g, off + r.at_ * 4 + 1, none⟩ = some (.int .i64 xa) := p1
  have q2 : (w.drewN q).cell? ⟨g, off + r.at_ * 4 + 2, none⟩ = some (.int .i64 xb) := p2
  have q3 : (w.drewN q).cell? ⟨g, off + r.at_ * 4 + 3, none⟩ = some (.int .i64 xc) := p3
  clear k0 k1 hbl p0 p1 p2 p3 HR hg
  have k0 := HR0.out.c0
  have k1 := HR0.out.c1
  have hbu := HR0.out.ptr
  generalize w.drewN q = u0 at *
  go_wp2_with fail
  go_region
  have HBU := Lib.hid ((HB0.out.alloc HB0.out.size (.cells #[.int .u8 kk, .int .i64 xa, .int .i64 xb, .int .i64 xc] 45)).drew)
  have HRU := Lib.hid (HR0.out.below ((Below.refl _ _).alloc (Nat.le_refl _) (.cells #[.int .u8 kk, .int .i64 xa, .int .i64 xb, .int .i64 xc] 45)).drew)
  have hnew : (u0.alloc (.cells #[.int .u8 kk, .int .i64 xa, .int .i64 xb, .int .i64 xc] 45)).drew.heap[u0.heap.size]? = some (.cells #[.int .u8 kk, .int .i64 xa, .int .i64 xb, .int .i64 xc] 45) := heap_alloc_new _ _
  have hbp : b ≠ u0.heap.size := Nat.ne_of_lt hbu
  have hpu := lt_of_at hnew
  clear hbu k0 k1 q0 q1 q2 q3 hg0
  generalize (u0.alloc (.cells #[.int .u8 kk, .int .i64 xa, .int .i64 xb, .int .i64 xc] 45)).drew = u at *
  have x0 : u.cell? ⟨u0.heap.size, 0, none⟩ = some (.int .u8 kk) := cell_at hnew 0
  have x1 : u.cell? ⟨u0.heap.size, 1, none⟩ = some (.int .i64 xa) := cell_at hnew 1
  have x2 : u.cell? ⟨u0.heap.size, 2, none⟩ = some (.int .i64 xb) := cell_at hnew 2
  have HNEW := Lib.hid hnew
  clear hnew
  have k0 := HRU.out.c0
  have k1 := HRU.out.c1
  have k2 := HRU.out.c2
  have k3 := HRU.out.c3
  have k4 := HRU.out.c4
  have f1 := free_at HRU.out.cells 1
  have f2 := free_at HRU.out.cells 2
  have f3 := free_at HRU.out.cells 3
  have hfew := HFI.out.few
  have HNX := Lib.hid (fun (W : World) (sp wt : Int) hh => next_any W b (.slice (some ⟨g, off, none⟩) r.xs.length cap) (.map (some mb)) r.at_ sp wt (by omega) hh)
  by_cases h1 : kk = 1
  · subst h1
    cases arr with
    | true =>
      have HE : Hid (stepI r ⟨1, xa, xb, xc⟩ true = r.next) := by unfold Hid stepI; simp
      rw [HE.out]
      go_wp2_with fail
      refine (HNX.out u r.sp r.wt HRU.out.cells).mono ?_
      rintro e w2 ⟨rfl, hc, hw⟩
      have HC := Lib.hid hc
      have HW := Lib.hid hw
      clear hc hw
      go_wp2_with fail
      go_end0
      exact step_next HBU.out HRU.out (Wrote.refl _ _) HW.out HC.out (HRU.out.map.mono (Nat.le_succ n)) rfl
    | false =>
      have HE : Hid (stepI r ⟨1, xa, xb, xc⟩ false = r) := by unfold Hid stepI; simp
      rw [HE.out]
      go_wp2_with fail
      go_end0
      exact step_fin HBU.out HRU.out (Wrote.refl _ _) HRU.out.cells (HRU.out.map.mono (Nat.le_succ n)) rfl
  · by_cases h2 : kk = 2
    · subst h2
      cases arr with
      | true =>
        have HE : Hid (stepI r ⟨2, xa, xb, xc⟩ true = r.next) := by unfold Hid stepI; simp
        go_wp2_with fail
        refine (HNX.out u r.sp r.wt HRU.out.cells).mono ?_
        rintro e w2 ⟨rfl, hc, hw⟩
        have HC := Lib.hid hc
        have HW := Lib.hid hw
        clear hc hw
        go_wp2_with fail
        go_end0
        rw [HE.out]
        exact step_next HBU.out HRU.out (Wrote.refl _ _) HW.out HC.out (HRU.out.map.mono (Nat.le_succ n)) rfl
      | false =>
        have HE : Hid (stepI r ⟨2, xa, xb, xc⟩ false = r) := by unfold Hid stepI; simp
        go_wp2_with fail
        go_end0
        rw [HE.out]
        exact step_fin HBU.out HRU.out (Wrote.refl _ _) HRU.out.cells (HRU.out.map.mono (Nat.le_succ n)) rfl
    · by_cases h3 : kk = 3
      · subst h3
        by_cases hle : xa ≤ r.wt + 1
        · have HE : Hid (stepI r ⟨3, xa, xb, xc⟩ arr = r.next) := by unfold Hid stepI; simp [hle]
          have hw0 := HFI.out.w0
          have hw1 := HFI.out.w1
          have hwr : IntKind.i64.wrap (r.wt + 1) = r.wt + 1 := IntWalk.i64_in _ (by omega)
          go_wp2_with fail
          go_region
          go_wp2_with fail
          refine (HNX.out _ r.sp (r.wt + 1) (drewN_at' (n := 1) (heap_setCell_at HRU.out.cells 3 (.int .i64 (r.wt + 1))))).mono ?_
          rintro e w2 ⟨rfl, hc, hw⟩
          have HC := Lib.hid hc
          have HW := Lib.hid hw
          clear hc hw
          go_wp2_with fail
          go_end0
          have hs := ((Wrote.refl u (fun k => k = b)).set rfl 3 (.int .i64 (r.wt + 1))).drew
          rw [HE.out]
          exact step_next HBU.out HRU.out (hs.mono fun _ h => .inl h) HW.out HC.out ((HRU.out.map.mono (Nat.le_succ n)).kept hs (fun h => HRU.out.ne h.symm)) rfl
        · have HE : Hid (stepI r ⟨3, xa, xb, xc⟩ arr = { r with wt := r.wt + 1 }) := by unfold Hid stepI; simp [hle]
          have hw0 := HFI.out.w0
          have hw1 := HFI.out.w1
          have hwr : IntKind.i64.wrap (r.wt + 1) = r.wt + 1 := IntWalk.i64_in _ (by omega)
          go_wp2_with fail
          go_region
          go_wp2_with fail
          go_end0
          have hh := heap_setCell_at HRU.out.cells 3 (.int .i64 (r.wt + 1))
          rw [HE.out]
          exact step_fin HBU.out HRU.out (((Wrote.refl u _).set (.inl rfl) 3 _).drew) hh ((HRU.out.map.mono (Nat.le_succ n)).kept ((Wrote.refl u (fun k => k = b)).set rfl 3 _).drew (fun h => HRU.out.ne h.symm)) rfl
      · by_cases h4 : kk = 4
        · subst h4
          have hlook := (HRU.out.map.kept (Wrote.refl u (fun _ => False)).drew (fun h => h)).look r.at_ hfew
          by_cases hlt : r.f r.at_ < xb
          · have HE : Hid (stepI r ⟨4, xa, xb, xc⟩ arr = { r with f := upd r.f r.at_ (r.f r.at_ + 1), at_ := xa.toNat }) := by unfold Hid stepI; simp [hlt]
            go_wp2_with fail
            go_region
            have HM2 := HRU.out.map.kept (Wrote.refl u (fun _ => False)).drew.drew (fun h => h)
            have hlook2 := HM2.look r.at_ hfew
            have hf0 := HFI.out.f0 r.at_
            have hwr : IntKind.i64.wrap (r.f r.at_ + 1) = r.f r.at_ + 1 := IntWalk.i64_in _ (by omega)
            obtain ⟨wx, hput, hmx, hgx⟩ := HM2.put hn r.at_ hfew (r.f r.at_ + 1) (by omega)
            have HMX := Lib.hid hmx
            have HGX := Lib.hid (((Wrote.refl u (fun k => k = b ∨ k = mb)).drew.drew).grown (.inr rfl) hgx)
            have HGB := Lib.hid (((Wrote.refl u (fun k => k = mb)).drew.drew).grown rfl hgx)
            clear hgx hmx HM2
            have hmbu : mb ≠ u0.heap.size := Nat.ne_of_lt HR0.out.map.lt
            have HXC := Lib.hid ((HGB.out.block b HRU.out.ptr HRU.out.ne).trans HRU.out.cells)
            have g0 : wx.cell? ⟨b, 1, none⟩ = some (.int .i64 (r.at_ : Int)) := cell_at HXC.out 1
            have g1 := free_at HXC.out 1
            have g2 := (HGX.out.cell hpu (by rintro (h | h); exact hbp h.symm; exact hmbu h.symm) 1).trans x1
            go_wp2_with fail
            go_region
            go_wp2_with fail
            (try simp only [Exit.inBlock, Exit.then])
            refine bodyPost_ret (results_none rfl _ _ _) rfl ?_
            have hh := heap_setCell_at HXC.out 1 (.int .i64 xa)
            have ha : ((xa.toNat : Nat) : Int) = xa := Int.toNat_of_nonneg (HFI.out.a0 rfl)
            rw [HE.out]
            refine step_fin HBU.out HRU.out (HGX.out.set (.inl rfl) 1 _) (hh.trans ?_) (HMX.out.kept ((Wrote.refl wx (fun k => k = b)).set rfl 1 _) (fun h => HRU.out.ne h.symm)) rfl
            show some (Obj.cells #[_, .int .i64 xa, _, _, _] 70) = some (Obj.cells #[_, .int .i64 ((xa.toNat : Nat) : Int), _, _, _] 70)
            rw [ha]
          · have HE : Hid (stepI r ⟨4, xa, xb, xc⟩ arr = { r.next with f := upd r.f r.at_ 0 }) := by unfold Hid stepI; simp [hlt]
            go_wp2_with fail
            go_region
            go_wp2_with fail
            have HM2 := HRU.out.map.kept (Wrote.refl u (fun _ => False)).drew.drew (fun h => h)
            obtain ⟨wx, hdel, hmx, hgx⟩ := HM2.drop r.at_ hfew 0
            have HMX := Lib.hid hmx
            have HGX := Lib.hid (((Wrote.refl u (fun k => k = b ∨ k = mb)).drew.drew).grown (.inr rfl) hgx)
            have HGB := Lib.hid (((Wrote.refl u (fun k => k = mb)).drew.drew).grown rfl hgx)
            clear hgx hmx HM2
            have HXC := Lib.hid ((HGB.out.block b HRU.out.ptr HRU.out.ne).trans HRU.out.cells)
            go_region
            go_wp2_with fail
            refine (HNX.out _ r.sp r.wt HXC.out).mono ?_
            rintro e w2 ⟨rfl, hc, hw⟩
            have HC := Lib.hid hc
            have HW := Lib.hid hw
            clear hc hw
            go_wp2_with fail
            go_end0
            rw [HE.out]
            exact step_next HBU.out HRU.out HGX.out HW.out HC.out (HMX.out.mono (Nat.le_succ n)) rfl
        · by_cases h5 : kk = 5
          · subst h5
            have HE : Hid (stepI r ⟨5, xa, xb, xc⟩ arr = { r.next with sp := xa }) := by unfold Hid stepI; simp
            have hh := heap_setCell_at HRU.out.cells 2 (.int .i64 xa)
            have HH := Lib.hid hh
            clear hh
            go_wp2_with fail
            refine (HNX.out _ xa r.wt HH.out).mono ?_
            rintro e w2 ⟨rfl, hc, hw⟩
            have HC := Lib.hid hc
            have HW := Lib.hid hw
            clear hc hw
            go_wp2_with fail
            go_end0
            have hs := (Wrote.refl u (fun k => k = b)).set rfl 2 (.int .i64 xa)
            rw [HE.out]
            exact step_next HBU.out HRU.out (hs.mono fun _ h => .inl h) HW.out HC.out ((HRU.out.map.mono (Nat.le_succ n)).kept hs (fun h => HRU.out.ne h.symm)) rfl
          · have HE : Hid (stepI r ⟨kk, xa, xb, xc⟩ arr = r) := by unfold Hid stepI; simp [h1, h2, h3, h4, h5]
            have z1 : (kk == 1) = false := by simp [h1]
            have z2 : (kk == 2) = false := by simp [h2]
            have z3 : (kk == 3) = false := by simp [h3]
            have z4 : (kk == 4) = false := by simp [h4]
            have z5 : (kk == 5) = false := by simp [h5]
            clear h1 h2 h3 h4 h5
            go_wp2_with fail
            go_end0
            rw [HE.out]
            exact step_fin HBU.out HRU.out (Wrote.refl _ _) HRU.out.cells (HRU.out.map.mono (Nat.le_succ n)) rfl
end Go.Proofs.Ytkgenhoaeiihoaa
