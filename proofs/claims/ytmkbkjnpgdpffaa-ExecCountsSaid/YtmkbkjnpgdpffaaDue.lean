/- What Due does on a plan, in whatever world. Conditions: the plan lies in memory, its moments are a heap, none behind now. -/
import Derived.Test.YtmkbkjnpgdpffaaFix
import Derived.Test.YtmkbkjnpgdpffaaSim
namespace Go.Proofs.Ytmkbkjnpgdpffaa
open Go.RowKit
theorem ownsRow_kept {w w' : World} {B : Nat} {e : TypeId} {size n : Nat} {v : Value} {xs : List Value} (h : w.ownsRow B e size v n xs) {S : Nat → Prop} (hw : Wrote w w' S) (hS : ∀ k, S k → k < B) : w'.ownsRow B e size v n xs := by
  refine ⟨h.1, ?_⟩
  rcases h.2 with hn | ⟨g, cap, cur, rfl, hb, hg, rest⟩
  · exact .inl hn
  · exact .inr ⟨g, cap, cur, rfl, hb, (hw.block g (lt_of_at hg) (fun s => by have := hS g s; omega)).trans hg, rest⟩
theorem Plan.wrote {w w1 : World} {b jb mb : Nat} {js : List Jb} {ms : List Mo} {now : Int} (h : Plan w b jb mb js ms now) {S : Nat → Prop} (hw : Wrote w w1 S) (h1 : ¬ S b) (h2 : ¬ S jb) (h3 : ¬ S mb) : Plan w1 b jb mb js ms now := by
  obtain ⟨jv, mv, hbk, hj, hm⟩ := h.blk
  have keep : ∀ {v : Value} {g : Nat} {e : TypeId} {size n : Nat} {xs : List Value}, ¬ S g → Slc w v g e size n xs → Slc w1 v g e size n xs := by
    intro v g e size n xs hS hs
    refine ⟨⟨hs.own.1, ?_⟩, hs.blk⟩
    rcases hs.own.2 with hv | ⟨g', cap, cur, hv, h1, h2, h3⟩
    · exact .inl hv
    · have : g' = g := by
        rcases hs.blk with hb | hb
        · rw [hv] at hb; cases hb
        · rw [hv] at hb; injection hb
      subst this
      exact .inr ⟨g', cap, cur, hv, h1, (hw.block g' (lt_of_at h2) hS).trans h2, h3⟩
  exact ⟨⟨jv, mv, (hw.block b (lt_of_at hbk) h1).trans hbk, keep h2 hj, keep h3 hm⟩, h.jlt, h.sep⟩
structure Rnd (w wr : World) (b jb mb : Nat) (js : List Jb) (ms : List Mo) (now : Int) (v : Value) (o l : List Mo) : Prop where
  plan : Plan wr b jb mb js l now
  heap : HeapFrom (mle js) (0, 0) l l.length 0
  own : wr.ownsRow w.heap.size 3 1 v o.length (o.map fun m => .int .i64 (m.2 : Int))
  sim : Sim js now ms o l
  wrote : Wrote w wr (fun k => k = mb ∨ k = b)
def DuePost (w : World) (b jb mb : Nat) (js : List Jb) (ms : List Mo) (now : Int) (e : Ending) (w' : World) : Prop :=
  ∃ v o l, e = .returned v ∧ w'.ownsRow w.heap.size 3 1 v o.length (o.map fun m : Mo => .int .i64 (m.2 : Int)) ∧ Told js now ms o l ∧ Plan w' b jb mb js l (now + 1) ∧ HeapFrom (mle js) (0, 0) l l.length 0 ∧ Wrote w w' (fun k => k = mb ∨ k = b)
theorem Slc.other {w : World} {v : Value} {g b : Nat} {e t : TypeId} {size n : Nat} {xs : List Value} {cs : Array Value} {fr : Nat × Nat} (h : Slc w v g e size n xs) (hb : w.heap[b]? = some (.cells cs t fr)) (ht : t ≠ e) (i : Nat) (x : Value) : Slc (w.setCell ⟨b, i, none⟩ x) v g e size n xs := by
  refine ⟨⟨h.own.1, ?_⟩, h.blk⟩
  rcases h.own.2 with hv | ⟨g', cap, cur, hv, h1, h2, h3⟩
  · exact .inl hv
  · refine .inr ⟨g', cap, cur, hv, h1, ?_, h3⟩
    rw [heap_setCell_ne ?_]
    · exact h2
    · rintro rfl
      rw [hb] at h2
      injection h2 with h2
      injection h2 with _ h2 _
      exact ht h2
/-- The tick is counted. -/
theorem Plan.tick {w : World} {b jb mb : Nat} {js : List Jb} {ms : List Mo} {now : Int} (h : Plan w b jb mb js ms now) (n : Int) : Plan (w.setCell ⟨b, 2, none⟩ (.int .i64 n)) b jb mb js ms n := by
  obtain ⟨jv, mv, hb, hj, hm⟩ := h.blk
  refine ⟨⟨jv, mv, heap_setCell_at hb 2 _, hj.other hb (by decide) 2 _, hm.other hb (by decide) 2 _⟩, h.jlt, h.sep⟩
theorem Rnd.fin {w wr : World} {b jb mb : Nat} {js : List Jb} {ms : List Mo} {now : Int} {v : Value} {o l : List Mo} (h : Rnd w wr b jb mb js ms now v o l) (hb : b < w.heap.size) (hend : ∀ x ∈ l, now < x.1) :
    DuePost w b jb mb js ms now (.returned v) (wr.setCell ⟨b, 2, none⟩ (.int .i64 (now + 1))) := by
  refine ⟨v, o, l, rfl, ?_, h.sim.told hend, h.plan.tick _, h.heap, h.wrote.set (Or.inr rfl) _ _⟩
  exact ownsRow_kept h.own ((Wrote.refl wr (fun k => k = b)).set rfl _ _) (fun k hk => by subst hk; exact hb)
theorem Rnd.drewN {w wr : World} {b jb mb : Nat} {js : List Jb} {ms : List Mo} {now : Int} {v : Value} {o l : List Mo} (h : Rnd w wr b jb mb js ms now v o l) (n : Nat) : Rnd w (wr.drewN n) b jb mb js ms now v o l :=
  ⟨h.plan.drewN n, h.heap, ⟨h.own.1, h.own.2⟩, h.sim, h.wrote.drewN n⟩
theorem one_cell (w : World) (v : Value) (e : TypeId) : ∀ (j : Nat) (u : Value), [v][j]? = some u → (w.alloc (.cells #[v] e)).cell? ((⟨w.heap.size, 0, none⟩ : Addr).add j) = some u := by
  intro j u hj
  cases j with
  | zero =>
    have e0 : (⟨w.heap.size, 0, none⟩ : Addr).add 0 = ⟨w.heap.size, 0, none⟩ := rfl
    rw [e0, cell_at (heap_alloc_new w (.cells #[v] e)) 0]
    simpa using hj
  | succ j => simp at hj
theorem Wrote.grown {w w' : World} {row : Option Nat} {B : Nat} (hg : w.grownBy w' row) (hr : ∀ k, row = some k → B ≤ k) : Wrote w w' (fun k => B ≤ k) :=
  ⟨hg.os, hg.tape, hg.output, hg.size, fun k hk hn => hg.block k hk (fun e => hn (hr k e.symm))⟩
theorem Wrote.cell {w w' : World} {S : Nat → Prop} (h : Wrote w w' S) {g : Nat} (hg : g < w.heap.size) (hS : ¬ S g) (i : Nat) : w'.cell? ⟨g, i, none⟩ = w.cell? ⟨g, i, none⟩ := by
  unfold World.cell?
  simp only [h.block g hg hS]
theorem Wrote.frozen {w w' : World} {S : Nat → Prop} (h : Wrote w w' S) {g : Nat} (hg : g < w.heap.size) (hS : ¬ S g) (i : Nat) : w'.frozen? ⟨g, i, none⟩ = w.frozen? ⟨g, i, none⟩ := by
  unfold World.frozen?
  simp only [h.block g hg hS]
/-- The first moment is set on. -/
theorem Plan.setTick {w : World} {b jb mb : Nat} {js : List Jb} {l : List Mo} {now : Int} (h : Plan w b jb mb js l now) (h0 : 0 < l.length) (q : Int) (m : Mo) (hm : l.getD 0 (0, 0) = m) :
    Plan (w.setCell ⟨mb, 0, none⟩ (.int .i64 q)) b jb mb js (l.set 0 (q, m.2)) now := by
  have hk : m.2 < js.length := by rw [← hm, getD_get l 0 h0]; exact h.jlt _ (List.getElem_mem h0)
  obtain ⟨jv, mv, hb, hj, hmm⟩ := h.blk
  obtain ⟨cap, rfl, _, _⟩ := hmm.form (by omega)
  refine ⟨⟨jv, .slice (some ⟨mb, 0, none⟩) l.length cap, ?_, hj.kept ?_, ?_⟩, ?_, h.sep⟩
  · rw [heap_setCell_ne (h.bm (by omega))]; exact hb
  · rw [heap_setCell_ne (h.jm (by omega))]
  · rw [List.length_set]
    have h1 := (hmm.own.stored 0 (.int .i64 q)).1
    have e : (l.flatMap moL).set 0 (.int .i64 q) = (l.set 0 (q, m.2)).flatMap moL := by
      cases l with
      | nil => simp at h0
      | cons x l =>
        have : x = m := hm
        subst this
        rfl
    rw [e] at h1
    exact ⟨h1, .inr rfl⟩
  · intro x hx
    rcases List.mem_or_eq_of_mem_set hx with hx | rfl
    · exact h.jlt x hx
    · exact hk
theorem Rnd.next {w wr w1 w2 : World} {b jb mb : Nat} {js : List Jb} {ms : List Mo} {now : Int} {v v1 : Value} {o l l2 : List Mo} (h : Rnd w wr b jb mb js ms now v o l) {m : Mo} (hpos : ∀ x ∈ ms, 1 ≤ pr js x.2)
    (hm : m ∈ l) (hnow : m.1 = now) (hmin : ∀ x ∈ l, mle js m x) (hb : b < w.heap.size) (hmb : mb < w.heap.size)
    (hw1 : Wrote wr w1 (fun k => w.heap.size ≤ k)) (hown : w1.ownsRow w.heap.size 3 1 v1 (o.length + 1) (o.map (fun m => Value.int .i64 (m.2 : Int)) ++ [.int .i64 (m.2 : Int)]))
    (hp2 : Plan w2 b jb mb js l2 now) (hh2 : HeapFrom (mle js) (0, 0) l2 l2.length 0) (hw2 : Wrote w1 w2 (fun k => k = mb ∨ k = b))
    (hl2 : ∃ s, (m :: s).Perm l ∧ l2.Perm (s ++ (nx js m).toList)) : Rnd w w2 b jb mb js ms now v1 (o ++ [m]) l2 := by
  refine ⟨hp2, hh2, ?_, (h.sim.step hpos hm hnow hmin hl2).1, ?_⟩
  · rw [List.length_append, List.map_append]
    exact ownsRow_kept hown hw2 (fun k hk => by rcases hk with rfl | rfl <;> omega)
  · refine ⟨hw2.os.trans (hw1.os.trans h.wrote.os), hw2.tape.trans (hw1.tape.trans h.wrote.tape), hw2.output.trans (hw1.output.trans h.wrote.output), Nat.le_trans h.wrote.size (Nat.le_trans hw1.size hw2.size), ?_⟩
    intro k hk hn
    have hk1 := Nat.lt_of_lt_of_le hk h.wrote.size
    exact (hw2.block k (Nat.lt_of_lt_of_le hk1 hw1.size) hn).trans ((hw1.block k hk1 (by omega)).trans (h.wrote.block k hk hn))
theorem set_zero (l : List Mo) (m v : Mo) (h0 : 0 < l.length) (hm : l.getD 0 (0, 0) = m) : ∃ s, (m :: s).Perm l ∧ ∀ l2 : List Mo, l2.Perm (l.set 0 v) → l2.Perm (s ++ [v]) := by
  cases l with
  | nil => simp at h0
  | cons x l =>
    have : x = m := hm
    subst this
    exact ⟨l, List.Perm.refl _, fun l2 h => h.trans (List.perm_append_comm (l₁ := [v]) (l₂ := l))⟩
theorem info3 : (Try.prog.info? 3).map (fun i => (i.zero, i.size, i.bytes)) = some (some (.int .i64 0), 1, 8) := by kernel_rfl

set_option maxRecDepth 100000 in
set_option maxHeartbeats 4000000 in
theorem due_any (w : World) (b jb mb : Nat) (js : List Jb) (ms : List Mo) (now : Int) (h : Plan w b jb mb js ms now) (hh : HeapFrom (mle js) (0, 0) ms ms.length 0) (hbig : ms.length ≤ 64)
    (hpos : ∀ x ∈ ms, 1 ≤ pr js x.2) (htop : ∀ x ∈ ms, pr js x.2 ≤ top) (hge : ∀ x ∈ ms, now ≤ x.1) (hn0 : 0 ≤ now) (hn1 : now ≤ 1000000) (hjb : jb < w.heap.size) (hmb : mb < w.heap.size) :
    Calls Try.prog 10 #[.pointer (some ⟨b, 0, none⟩)] w (DuePost w b jb mb js ms now) := by
  have hbl : b < w.heap.size := by obtain ⟨_, _, hb, _⟩ := h.blk; exact lt_of_at hb
  have H : Hid (Rnd w w b jb mb js ms now (.slice none 0 0) [] ms) := ⟨h, hh, World.ownsRow_nil _ _ _ _, Sim.start _ _ _, Wrote.refl _ _⟩
  obtain ⟨i0, hi, hz0, hz1, hz2⟩ := info_parts info3
  have HPos := Lib.hid hpos
  have HGe := Lib.hid hge
  have HTop := Lib.hid htop
  clear h hh hpos hge htop
  go_enter Try.func10, Try.ntmps10
  go_wp2_with fail
  go_loopg [3] ms.length (fun g v wr => ∃ o l, g = ms.length - o.length ∧ Rnd w wr b jb mb js ms now v o l)
  case atStart => exact ⟨[], ms, rfl, H.out⟩
  case round =>
    obtain ⟨o, l, hg, hr⟩ := hrel
    have HG := Lib.hid hg
    have HR := Lib.hid hr
    obtain ⟨jv, mv, hb, hjs, hm⟩ := hr.plan.blk
    have c1 : wr.cell? ⟨b, 1, none⟩ = some mv := cell_at hb 1
    have c2 : wr.cell? ⟨b, 2, none⟩ = some (.int .i64 now) := cell_at hb 2
    have f2 : wr.frozen? ⟨b, 2, none⟩ = false := free_at hb 2
    have HL : Hid (l.length ≤ 64) := Nat.le_trans hr.sim.len.1 hbig
    clear hg H
    by_cases h0 : l.length = 0
    · have hmv : ∃ A cap, mv = .slice A 0 cap := by
        rcases hm.own.2 with ⟨h1, h2⟩ | ⟨g, cap, _, h1, _⟩
        · exact ⟨none, 0, h1⟩
        · rw [h0] at h1; exact ⟨_, _, h1⟩
      obtain ⟨A, cap, rfl⟩ := hmv
      have hend : Hid (∀ x ∈ l, now < x.1) := by
        intro x hx
        rw [List.eq_nil_of_length_eq_zero h0] at hx
        cases hx
      have hd : decide ((0 : Int) < 0) = false := by simp
      clear hb hjs hm hr h0
      go_wp2_with fail
      go_quiet (fail)
      go_wp2_with fail
      go_ret
      exact (HR.out.drewN _).fin hbl hend.out
    · have h0' : 0 < l.length := by omega
      have hd : decide ((0 : Int) < (l.length : Int)) = true := by simp; omega
      obtain ⟨mcap, rfl, hmc, hmf⟩ := hm.form h0'
      have k1 := hr.plan.jlt l[0] (List.getElem_mem h0')
      obtain ⟨jcap, rfl, hjc, _⟩ := hjs.form (by omega)
      have c0 : wr.cell? ⟨b, 0, none⟩ = some (.slice (some ⟨jb, 0, none⟩) js.length jcap) := cell_at hb 0
      have a0 : wr.cell? ⟨mb, 0, none⟩ = some (.int .i64 l[0].1) := by have := (mo_cells hmc 0 h0').1; simpa using this
      have a1 : wr.cell? ⟨mb, 1, none⟩ = some (.int .i64 (l[0].2 : Int)) := by have := (mo_cells hmc 0 h0').2; simpa using this
      have f0 : wr.frozen? ⟨mb, 0, none⟩ = false := hmf 0
      have r1 := (jb_cells hjc _ k1).1
      have H0 : Hid (l.getD 0 (0, 0) = (l[0].1, l[0].2)) := by
        unfold Hid
        rw [getD_get l 0 h0']
      have hmem : Hid (l[0] ∈ l) := List.getElem_mem h0'
      have HP : Hid (pr js l[0].2 = js[l[0].2].period) := by
        unfold Hid pr
        rw [List.getD_eq_getElem?_getD, List.getElem?_map, List.getElem?_eq_getElem k1]
        rfl
      have hlb : Hid (now ≤ l[0].1) := hr.sim.later HPos.out HGe.out _ (List.getElem_mem h0')
      have HM : Hid (l[0] = (l[0].1, l[0].2)) := rfl
      clear hb hjs hm hmc hmf hjc hr
      generalize l[0] = m at *
      generalize js[m.2].period = p at *
      obtain ⟨t, k⟩ := m
      simp only at *
      generalize hln : l.length = n at *
      have HLN := Lib.hid hln
      generalize hjn : js.length = nj at *
      have HJN := Lib.hid hjn
      clear hln hjn
      by_cases he : t = now
      · subst he
        have z1 : (t == t) = true := by simp
        have hown := HR.out.own
        have hsz : w.heap.size ≤ wr.heap.size := HR.out.wrote.size
        have hol : o.length ≤ 64 := Nat.le_trans HR.out.sim.len.2 hbig
        have hp1 : 1 ≤ p ∧ p ≤ top := by
          obtain ⟨y, hy, he⟩ := HR.out.sim.pos _ hmem.out
          have h1 := HPos.out y hy
          have h2 := HTop.out y hy
          rw [he] at h1 h2
          rw [← HP.out]
          exact ⟨h1, h2⟩
        have HQ := Lib.hid (next_wrap t p hn0 hn1 hp1.1 hp1.2)
        have hp2 := hp1.1
        clear hp1 hlb
        generalize hqq : IntKind.i64.wrap (t + p) = q at HQ
        have hkk : k < nj := k1
        go_wp2_with fail
        go_quiet (fail)
        go_wp2_with (at_builtin; refine wpList_append_own _ rfl _ _ 28 rfl w.heap.size 3 i0 (.int .i64 0) 1 8 Try.underlying28 hi hz0 hz1 hz2 rfl (by decide) _ _ _ rfl (World.ownsRow.alloc ⟨hown.1, hown.2⟩ _) ⟨wr.heap.size, 0, none⟩ 1 1 [.int .i64 (k : Int)] rfl rfl ?c1 ?c2 ?c3 ?c4 ?c5 ?_)
        case c1 => exact one_cell _ _ _
        case c2 => simp [Value.oneCell']
        case c3 => unfold maxLen; omega
        case c4 => omega
        case c5 => simp; omega
        intro v1 w1 hown1 hgrow _
        have hW1 : Hid (Wrote wr w1 (fun k => w.heap.size ≤ k)) :=
          (Wrote.of_below (((below_alloc1 (wr.drewN nq) _))) _ |> fun h => (⟨h.os, h.tape, h.output, h.size, h.block⟩ : Wrote wr _ (fun k => w.heap.size ≤ k))).trans (Wrote.grown hgrow (fun k hk => (HR.out.own.lt k hk).1))
        have HO1 := Lib.hid hown1
        have b0 : w1.cell? ⟨b, 0, none⟩ = some (.slice (some ⟨jb, 0, none⟩) nj jcap) := (hW1.out.cell (by omega) (by omega) 0).trans c0
        have b1 : w1.cell? ⟨mb, 0, none⟩ = some (.int .i64 t) := (hW1.out.cell (by omega) (by omega) 0).trans a0
        have b2 : w1.cell? ⟨mb, 1, none⟩ = some (.int .i64 (k : Int)) := (hW1.out.cell (by omega) (by omega) 1).trans a1
        have b3 : w1.cell? ⟨jb, k * 3, none⟩ = some (.int .i64 p) := (hW1.out.cell (by omega) (by omega) _).trans r1
        have b4 : w1.frozen? ⟨mb, 0, none⟩ = false := (hW1.out.frozen (by omega) (by omega) 0).trans f0
        clear hown1 hgrow hown
        go_wp2_with fail
        go_quiet (fail)
        have HMin : Hid (∀ x ∈ l, mle js (t, k) x) := by
          intro x hx
          have := least_mem HR.out.heap x hx
          rw [H0.out] at this
          exact this
        have hn0' : 0 < l.length := by rw [HLN.out]; omega
        have HM2 : Hid ((t, k) ∈ l) := hmem.out
        by_cases hlt : q < t
        · have HN : Hid ((nx js (t, k)).toList = []) := by
            unfold Hid nx
            rw [HP.out]
            rw [if_neg]
            · rfl
            · rcases HQ.out with h | h
              · exfalso; have := h.2; omega
              · exact fun h' => by have h1 := h.1; simp only at h'; omega
          have HP1 : Hid (Plan (w1.drewN nq) b jb mb js l t) := (HR.out.plan.wrote hW1.out (by omega) (by omega) (by omega)).drewN _
          clear HM
          go_wp2_with fail
          refine (hpop_any _ b jb mb js l t HP1.out hn0' (by rw [HLN.out]; exact HL.out) HR.out.heap).mono ?_
          rintro e w2 ⟨⟨vr, rfl⟩, l2, hp2, hperm2, hh2, hw2⟩
          have HR2 : Hid (Rnd w w2 b jb mb js ms t v1 (o ++ [(t, k)]) l2) :=
            HR.out.next HPos.out HM2.out rfl HMin.out hbl hmb hW1.out HO1.out hp2 hh2 ⟨hw2.os, hw2.tape, hw2.output, hw2.size, hw2.block⟩
              ⟨l2, by rw [H0.out] at hperm2; exact hperm2, by rw [HN.out, List.append_nil]⟩
          have hst := (HR.out.sim.step HPos.out HM2.out rfl HMin.out (l2 := l2) ⟨l2, by rw [H0.out] at hperm2; exact hperm2, by rw [HN.out, List.append_nil]⟩).2.1
          clear hp2 hperm2 hh2 hw2
          go_wp2_with fail
          go_roundg (ms.length - (o.length + 1))
          case measure => have := HG.out; omega
          case rel => exact ⟨o ++ [(t, k)], l2, by rw [List.length_append]; rfl, HR2.out⟩
        · have HN : Hid ((nx js (t, k)).toList = [(q, k)]) := by
            unfold Hid nx
            rw [HP.out]
            rcases HQ.out with h | h
            · rw [if_pos h.1, h.2]
              rfl
            · exfalso; have := h.2; omega
          have HP1 : Hid (Plan ((w1.drewN nq).setCell ⟨mb, 0, none⟩ (.int .i64 q)) b jb mb js (l.set 0 (q, k)) t) :=
            ((HR.out.plan.wrote hW1.out (by omega) (by omega) (by omega)).drewN _).setTick hn0' q (t, k) H0.out
          have HS := Lib.hid (set_zero l (t, k) (q, k) hn0' H0.out)
          go_wp2_with fail
          refine (fix_any _ b jb mb js (l.set 0 (q, k)) t HP1.out (by rw [List.length_set, HLN.out]; exact HL.out) (by rw [List.length_set]; exact heap_set HR.out.heap hn0' _)).mono ?_
          rintro e w2 ⟨rfl, l2, hp2, hperm2, hh2, hw2⟩
          obtain ⟨s, hs1, hs2⟩ := HS.out
          have HE : Hid (∃ s, ((t, k) :: s).Perm l ∧ l2.Perm (s ++ (nx js (t, k)).toList)) := ⟨s, hs1, by rw [HN.out]; exact hs2 l2 hperm2⟩
          have hww : Wrote w1 (w1.drewN nq) (fun k => k = mb ∨ k = b) := (Wrote.refl w1 _).drewN _
          have HR2 : Hid (Rnd w w2 b jb mb js ms t v1 (o ++ [(t, k)]) l2) :=
            HR.out.next HPos.out HM2.out rfl HMin.out hbl hmb hW1.out HO1.out hp2 hh2 ((hww.set (b := mb) (Or.inl rfl) _ _).trans (hw2.mono fun _ h => Or.inl h)) HE.out
          have hst := (HR.out.sim.step HPos.out HM2.out rfl HMin.out (l2 := l2) HE.out).2.1
          clear hp2 hperm2 hh2 hw2 hs1 hs2 hww
          go_wp2_with fail
          go_roundg (ms.length - (o.length + 1))
          case measure => have := HG.out; omega
          case rel => exact ⟨o ++ [(t, k)], l2, by rw [List.length_append]; rfl, HR2.out⟩
      · have z1 : (t == now) = false := by simp [he]
        have hend : Hid (∀ x ∈ l, now < x.1) := by
          intro x hx
          have h1 := mle_fst (least_mem HR.out.heap x hx)
          rw [H0.out] at h1
          have h2 := hlb.out
          simp only at h1
          omega
        clear he
        go_wp2_with fail
        go_quiet (fail)
        go_wp2_with fail
        go_ret
        exact (HR.out.drewN _).fin hbl hend.out
end Go.Proofs.Ytmkbkjnpgdpffaa
