/- What the small functions answer, in whatever world: New, Mode, Latches, which modes are armed and flying, Next, the document's Next. Conditions: each number is of its kind. -/
import Derived.Test.YtgbogbmjefbkeaaPlain
import Derived.Laws.Rows
import Derived.Laws.ResultCell
namespace Go.Proofs.Ytgbogbmjefbkeaa
open Go.RowKit
structure Mach (w : World) (b : Nat) (x : Md) : Prop where
  blk : w.heap[b]? = some (.cells #[.int .u8 x.mode, .int .i64 (x.lat : Int)] 41)
  m0 : 0 ≤ x.mode
  m1 : x.mode ≤ 14
  l64 : x.lat < 64
theorem Mach.lt {w : World} {b : Nat} {x : Md} (h : Mach w b x) : b < w.heap.size := lt_of_at h.blk
theorem Mach.keep {w w1 : World} {b : Nat} {x : Md} (h : Mach w b x) (hb : Below w.heap.size w w1) : Mach w1 b x := ⟨(hb.block b h.lt).trans h.blk, h.m0, h.m1, h.l64⟩
def md0 : Md := ⟨0, 0⟩
theorem new_any (w : World) : Calls Try.prog 8 #[] w fun e w' => e = .returned (.pointer (some ⟨w.heap.size, 0, none⟩)) ∧ Mach w' w.heap.size md0 ∧ Below w.heap.size w w' := by
  go_enter Try.func8, Try.ntmps8
  go_wp2_with fail
  go_ret
  exact ⟨rfl, ⟨heap_alloc_new w _, by decide, by decide, by decide⟩, below_alloc1 w _⟩
theorem mode_any (w : World) (b : Nat) (x : Md) (h : Mach w b x) : Calls Try.prog 11 #[.pointer (some ⟨b, 0, none⟩)] w fun e w' => e = .returned (.int .u8 x.mode) ∧ w' = w := by
  have c0 : w.cell? ⟨b, 0, none⟩ = some (.int .u8 x.mode) := cell_at h.blk 0
  clear h
  generalize x.mode = m at *
  go_enter Try.func11, Try.ntmps11
  go_wp2_with fail
  go_ret
  exact ⟨rfl, rfl⟩
theorem mode_nil (w : World) : Calls Try.prog 11 #[.pointer none] w fun e w' => e = .returned (.int .u8 0) ∧ w' = w := by
  go_enter Try.func11, Try.ntmps11
  go_wp2_with fail
  go_ret
  exact ⟨rfl, rfl⟩
theorem latches_any (w : World) (b : Nat) (x : Md) (h : Mach w b x) : Calls Try.prog 12 #[.pointer (some ⟨b, 0, none⟩)] w fun e w' => e = .returned (.int .i64 (x.lat : Int)) ∧ w' = w := by
  have c1 : w.cell? ⟨b, 1, none⟩ = some (.int .i64 (x.lat : Int)) := cell_at h.blk 1
  clear h
  generalize x.lat = l at *
  go_enter Try.func12, Try.ntmps12
  go_wp2_with fail
  go_ret
  exact ⟨rfl, rfl⟩
theorem latches_nil (w : World) : Calls Try.prog 12 #[.pointer none] w fun e w' => e = .returned (.int .i64 0) ∧ w' = w := by
  go_enter Try.func12, Try.ntmps12
  go_wp2_with fail
  go_ret
  exact ⟨rfl, rfl⟩
theorem stepnil_any (w : World) (ev : Int) : Calls Try.prog 9 #[.pointer none, .int .i64 ev] w fun e w' => e = .returned (.int .i64 0) ∧ w' = w := by
  go_enter Try.func9, Try.ntmps9
  go_wp2_with fail
  (try simp only [Exit.inBlock, Exit.then])
  go_ret
  exact ⟨rfl, rfl⟩
theorem fly_any (w : World) (m : Int) (_ : 0 ≤ m) (_ : m ≤ 255) : Calls Try.prog 14 #[.int .u8 m] w fun e w' => e = .returned (.bool (flyB m)) ∧ w' = w := by
  unfold flyB
  by_cases h : 3 ≤ m
  · have h1 : decide (3 ≤ m) = true := decide_eq_true h
    go_enter Try.func14, Try.ntmps14
    go_wp2_with fail
    go_ret
    exact ⟨by simp [h], rfl⟩
  · have h1 : decide (3 ≤ m) = false := decide_eq_false h
    go_enter Try.func14, Try.ntmps14
    go_wp2_with fail
    go_ret
    exact ⟨by simp, rfl⟩
theorem rfly_any (w : World) (m : Int) (_ : 0 ≤ m) (_ : m ≤ 255) : Calls Try.prog 19 #[.int .u8 m] w fun e w' => e = .returned (.bool (flyB m)) ∧ w' = w := by
  unfold flyB
  by_cases h : 3 ≤ m
  · have h1 : decide (3 ≤ m) = true := decide_eq_true h
    go_enter Try.func19, Try.ntmps19
    go_wp2_with fail
    go_ret
    exact ⟨by simp [h], rfl⟩
  · have h1 : decide (3 ≤ m) = false := decide_eq_false h
    go_enter Try.func19, Try.ntmps19
    go_wp2_with fail
    go_ret
    exact ⟨by simp, rfl⟩
theorem armed_any (w : World) (m : Int) (_ : 0 ≤ m) (_ : m ≤ 255) : Calls Try.prog 17 #[.int .u8 m] w fun e w' => e = .returned (.bool (armedB m)) ∧ w' = w := by
  unfold armedB
  by_cases h : 2 ≤ m
  · have h1 : decide (2 ≤ m) = true := decide_eq_true h
    go_enter Try.func17, Try.ntmps17
    go_wp2_with fail
    go_ret
    exact ⟨by simp [h], rfl⟩
  · have h1 : decide (2 ≤ m) = false := decide_eq_false h
    go_enter Try.func17, Try.ntmps17
    go_wp2_with fail
    go_ret
    exact ⟨by simp, rfl⟩
theorem rarmed_any (w : World) (m : Int) (_ : 0 ≤ m) (_ : m ≤ 255) : Calls Try.prog 18 #[.int .u8 m] w fun e w' => e = .returned (.bool (armedB m)) ∧ w' = w := by
  unfold armedB
  by_cases h : 2 ≤ m
  · have h1 : decide (2 ≤ m) = true := decide_eq_true h
    go_enter Try.func18, Try.ntmps18
    go_wp2_with fail
    go_ret
    exact ⟨by simp [h], rfl⟩
  · have h1 : decide (2 ≤ m) = false := decide_eq_false h
    go_enter Try.func18, Try.ntmps18
    go_wp2_with fail
    go_ret
    exact ⟨by simp, rfl⟩
theorem has_any (w : World) (ev : Int) (i : Nat) (_ : i ≤ 63) : Calls Try.prog 23 #[.int .i64 ev, .int .i64 (i : Int)] w fun e w' => e = .returned (.bool (hasB ev i)) ∧ w' = w := by
  go_enter Try.func23, Try.ntmps23
  go_wp2_with fail
  go_ret
  exact ⟨rfl, rfl⟩
theorem stays_any (w : World) (e : Nat) (he : e < 18) : Calls Try.prog 21 #[.int .i64 (e : Int)] w fun en w' => en = .returned (.bool (staysB e)) ∧ w' = w := by
  have hc : e = 0 ∨ e = 1 ∨ e = 2 ∨ e = 4 ∨ e = 5 ∨ (e ≠ 0 ∧ e ≠ 1 ∧ e ≠ 2 ∧ e ≠ 4 ∧ e ≠ 5) := by omega
  rcases hc with rfl | rfl | rfl | rfl | rfl | ⟨h0, h1, h2, h4, h5⟩
  · go_enter Try.func21, Try.ntmps21
    go_wp2_with fail
    (try simp only [Exit.inBlock, Exit.then])
    go_ret
    exact ⟨rfl, rfl⟩
  · go_enter Try.func21, Try.ntmps21
    go_wp2_with fail
    (try simp only [Exit.inBlock, Exit.then])
    go_ret
    exact ⟨rfl, rfl⟩
  · go_enter Try.func21, Try.ntmps21
    go_wp2_with fail
    (try simp only [Exit.inBlock, Exit.then])
    go_ret
    exact ⟨rfl, rfl⟩
  · go_enter Try.func21, Try.ntmps21
    go_wp2_with fail
    (try simp only [Exit.inBlock, Exit.then])
    go_ret
    exact ⟨rfl, rfl⟩
  · go_enter Try.func21, Try.ntmps21
    go_wp2_with fail
    (try simp only [Exit.inBlock, Exit.then])
    go_ret
    exact ⟨rfl, rfl⟩
  · have hs : staysB e = false := by simp [staysB, h0, h1, h2, h4, h5]
    have z0 : ((e : Int) == 0) = false := by rw [beq_eq_false_iff_ne]; omega
    have z1 : ((e : Int) == 1) = false := by rw [beq_eq_false_iff_ne]; omega
    have z2 : ((e : Int) == 2) = false := by rw [beq_eq_false_iff_ne]; omega
    have z4 : ((e : Int) == 4) = false := by rw [beq_eq_false_iff_ne]; omega
    have z5 : ((e : Int) == 5) = false := by rw [beq_eq_false_iff_ne]; omega
    have HS := Lib.hid hs
    clear h0 h1 h2 h4 h5 hs
    go_enter Try.func21, Try.ntmps21
    go_wp2_with fail
    (try simp only [Exit.inBlock, Exit.then])
    go_ret
    exact ⟨by rw [HS.out]; rfl, rfl⟩
def toA : Array Value := #[.string { data := #[46, 46, 46, 67, 67, 67, 67, 67, 67, 67, 67, 67, 46, 46, 46] }, .string { data := #[46, 46, 46, 67, 67, 67, 67, 67, 67, 67, 67, 67, 46, 46, 46] }, .string { data := #[46, 46, 46, 67, 67, 67, 67, 67, 67, 67, 67, 67, 46, 46, 46] }, .string { data := #[46, 46, 46, 46, 46, 46, 46, 46, 46, 46, 69, 69, 46, 69, 46] }, .string { data := #[46, 46, 46, 56, 56, 56, 56, 56, 46, 46, 46, 46, 46, 46, 46] }, .string { data := #[46, 46, 46, 56, 56, 56, 56, 56, 46, 46, 46, 46, 46, 46, 46] }, .string { data := #[46, 46, 46, 52, 46, 46, 46, 46, 57, 65, 46, 46, 68, 46, 46] }, .string { data := #[46, 46, 49, 46, 46, 46, 46, 46, 46, 46, 46, 46, 46, 46, 46] }, .string { data := #[46, 50, 46, 46, 46, 46, 46, 46, 46, 46, 46, 46, 46, 46, 46] }, .string { data := #[46, 46, 51, 46, 46, 46, 46, 46, 46, 46, 46, 46, 46, 46, 46] }, .string { data := #[46, 46, 46, 52, 46, 52, 52, 52, 52, 52, 52, 52, 46, 46, 46] }, .string { data := #[46, 46, 46, 46, 53, 46, 53, 53, 53, 53, 53, 53, 46, 46, 46] }, .string { data := #[46, 46, 46, 46, 54, 54, 46, 54, 54, 54, 54, 54, 46, 46, 46] }, .string { data := #[46, 46, 55, 46, 55, 55, 55, 46, 46, 46, 46, 46, 46, 46, 46] }, .string { data := #[46, 46, 46, 56, 56, 56, 56, 56, 46, 46, 46, 56, 46, 46, 46] }, .string { data := #[46, 46, 46, 66, 66, 66, 66, 66, 66, 66, 66, 46, 46, 46, 46] }, .string { data := #[49, 46, 46, 46, 46, 46, 46, 46, 46, 46, 46, 46, 46, 46, 49] }, .string { data := #[46, 48, 46, 46, 46, 46, 46, 46, 46, 46, 46, 46, 46, 46, 48] }]
theorem info51 : (Try.prog.info? 51).map (·.size) = some 18 := by kernel_rfl
set_option maxRecDepth 100000 in
theorem to_any (w : World) : Calls Try.prog 24 #[] w fun e w' => e = .returned (.agg toA) ∧ Below w.heap.size w w' := by
  go_enter Try.func24, Try.ntmps24
  go_wp2_with fail
  (try simp only [Exit.inBlock, Exit.then])
  refine bodyPost_ret (results_cell_row rfl _ _ _ _ _ _ _ rfl (heap_alloc_new w _) Try.underlying51 rfl info51) rfl ?_
  exact ⟨rfl, below_alloc1 w _⟩
end Go.Proofs.Ytgbogbmjefbkeaa
