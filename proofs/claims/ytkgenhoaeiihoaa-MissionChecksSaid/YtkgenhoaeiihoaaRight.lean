/- Which items may be: what right and from answer, in both texts, in whatever world. No condition. -/
import Derived.Test.YtkgenhoaeiihoaaBase
namespace Go.Proofs.Ytkgenhoaeiihoaa
open Go.RowKit

def rightB (x : It) : Bool :=
  if x.k = 1 then decide (1 ≤ x.a ∧ x.a ≤ 120000 ∧ x.b = 0 ∧ x.c = 0)
  else if x.k = 2 then decide (-536870912 ≤ x.a ∧ x.a ≤ 536870912 ∧ -536870912 ≤ x.b ∧ x.b ≤ 536870912 ∧ 0 ≤ x.c ∧ x.c ≤ 120000)
  else if x.k = 3 then decide (0 ≤ x.a ∧ x.a ≤ 1000000 ∧ x.b = 0 ∧ x.c = 0)
  else if x.k = 4 then decide (0 ≤ x.b ∧ x.b ≤ 255 ∧ x.c = 0)
  else if x.k = 5 then decide (1600 ≤ x.a ∧ x.a ≤ 64000 ∧ x.b = 0 ∧ x.c = 0)
  else if x.k = 6 ∨ x.k = 7 then decide (x.a = 0 ∧ x.b = 0 ∧ x.c = 0)
  else false
theorem from_t (w : World) (x lo hi : Int) (h : lo ≤ x ∧ x ≤ hi) : Calls Try.prog 31 #[.int .i64 x, .int .i64 lo, .int .i64 hi] w fun e w' => e = .returned (.bool true) ∧ w' = w := by
  obtain ⟨h1, h2⟩ := h
  go_enter Try.func31, Try.ntmps31
  go_wp2_with fail
  go_ret
  exact ⟨rfl, rfl⟩
theorem from_f (w : World) (x lo hi : Int) (h : ¬ (lo ≤ x ∧ x ≤ hi)) : Calls Try.prog 31 #[.int .i64 x, .int .i64 lo, .int .i64 hi] w fun e w' => e = .returned (.bool false) ∧ w' = w := by
  by_cases h1 : lo ≤ x
  · have h2 : ¬ x ≤ hi := fun h2 => h ⟨h1, h2⟩
    clear h
    go_enter Try.func31, Try.ntmps31
    go_wp2_with fail
    go_ret
    exact ⟨rfl, rfl⟩
  · clear h
    go_enter Try.func31, Try.ntmps31
    go_wp2_with fail
    go_ret
    exact ⟨rfl, rfl⟩
def RightPost (w : World) (x : It) (e : Ending) (w' : World) : Prop := e = .returned (.bool (rightB x)) ∧ Below w.heap.size w w'
set_option maxRecDepth 100000 in
set_option maxHeartbeats 2000000 in
theorem right_p1 (w : World) (a b c : Int) : Calls Try.prog 30 #[.agg #[.int .u8 1, .int .i64 a, .int .i64 b, .int .i64 c]] w (RightPost w ⟨1, a, b, c⟩) := by
  by_cases h0 : c = 0
  · by_cases h1 : b = 0
    · by_cases h2 : (1 ≤ a ∧ a ≤ 120000)
      · have HF : Hid (rightB ⟨1, a, b, c⟩ = true) := by unfold Hid rightB; simp; omega
        have z0 : (c == 0) = true := by simp [h0]
        have z1 : (b == 0) = true := by simp [h1]
        go_enter Try.func30, Try.ntmps30
        go_wp2_with fail
        refine (from_t _ _ _ _ h2).mono ?_
        rintro e w1 ⟨rfl, hw1⟩
        subst hw1
        go_wp2_with fail
        go_ret
        exact ⟨by rw [HF.out]; rfl, below_alloc1 _ _⟩
      · have HF : Hid (rightB ⟨1, a, b, c⟩ = false) := by unfold Hid rightB; simp; omega
        have z0 : (c == 0) = true := by simp [h0]
        have z1 : (b == 0) = true := by simp [h1]
        go_enter Try.func30, Try.ntmps30
        go_wp2_with fail
        refine (from_f _ _ _ _ h2).mono ?_
        rintro e w1 ⟨rfl, hw1⟩
        subst hw1
        go_wp2_with fail
        go_ret
        exact ⟨by rw [HF.out]; rfl, below_alloc1 _ _⟩
    · have HF : Hid (rightB ⟨1, a, b, c⟩ = false) := by unfold Hid rightB; simp; omega
      have z0 : (c == 0) = true := by simp [h0]
      have z1 : (b == 0) = false := by simp [h1]
      go_enter Try.func30, Try.ntmps30
      go_wp2_with fail
      go_ret
      exact ⟨by rw [HF.out]; rfl, below_alloc1 _ _⟩
  · have HF : Hid (rightB ⟨1, a, b, c⟩ = false) := by unfold Hid rightB; simp; omega
    have z0 : (c == 0) = false := by simp [h0]
    go_enter Try.func30, Try.ntmps30
    go_wp2_with fail
    go_ret
    exact ⟨by rw [HF.out]; rfl, below_alloc1 _ _⟩
set_option maxRecDepth 100000 in
set_option maxHeartbeats 2000000 in
theorem right_p2 (w : World) (a b c : Int) : Calls Try.prog 30 #[.agg #[.int .u8 2, .int .i64 a, .int .i64 b, .int .i64 c]] w (RightPost w ⟨2, a, b, c⟩) := by
  by_cases h0 : (-536870912 ≤ a ∧ a ≤ 536870912)
  · by_cases h1 : (-536870912 ≤ b ∧ b ≤ 536870912)
    · by_cases h2 : (0 ≤ c ∧ c ≤ 120000)
      · have HF : Hid (rightB ⟨2, a, b, c⟩ = true) := by unfold Hid rightB; simp; omega
        go_enter Try.func30, Try.ntmps30
        go_wp2_with fail
        refine (from_t _ _ _ _ h0).mono ?_
        rintro e w1 ⟨rfl, hw1⟩
        subst hw1
        go_wp2_with fail
        refine (from_t _ _ _ _ h1).mono ?_
        rintro e w1 ⟨rfl, hw1⟩
        subst hw1
        go_wp2_with fail
        refine (from_t _ _ _ _ h2).mono ?_
        rintro e w1 ⟨rfl, hw1⟩
        subst hw1
        go_wp2_with fail
        go_ret
        exact ⟨by rw [HF.out]; rfl, below_alloc1 _ _⟩
      · have HF : Hid (rightB ⟨2, a, b, c⟩ = false) := by unfold Hid rightB; simp; omega
        go_enter Try.func30, Try.ntmps30
        go_wp2_with fail
        refine (from_t _ _ _ _ h0).mono ?_
        rintro e w1 ⟨rfl, hw1⟩
        subst hw1
        go_wp2_with fail
        refine (from_t _ _ _ _ h1).mono ?_
        rintro e w1 ⟨rfl, hw1⟩
        subst hw1
        go_wp2_with fail
        refine (from_f _ _ _ _ h2).mono ?_
        rintro e w1 ⟨rfl, hw1⟩
        subst hw1
        go_wp2_with fail
        go_ret
        exact ⟨by rw [HF.out]; rfl, below_alloc1 _ _⟩
    · have HF : Hid (rightB ⟨2, a, b, c⟩ = false) := by unfold Hid rightB; simp; omega
      go_enter Try.func30, Try.ntmps30
      go_wp2_with fail
      refine (from_t _ _ _ _ h0).mono ?_
      rintro e w1 ⟨rfl, hw1⟩
      subst hw1
      go_wp2_with fail
      refine (from_f _ _ _ _ h1).mono ?_
      rintro e w1 ⟨rfl, hw1⟩
      subst hw1
      go_wp2_with fail
      go_ret
      exact ⟨by rw [HF.out]; rfl, below_alloc1 _ _⟩
  · have HF : Hid (rightB ⟨2, a, b, c⟩ = false) := by unfold Hid rightB; simp; omega
    go_enter Try.func30, Try.ntmps30
    go_wp2_with fail
    refine (from_f _ _ _ _ h0).mono ?_
    rintro e w1 ⟨rfl, hw1⟩
    subst hw1
    go_wp2_with fail
    go_ret
    exact ⟨by rw [HF.out]; rfl, below_alloc1 _ _⟩
set_option maxRecDepth 100000 in
set_option maxHeartbeats 2000000 in
theorem right_p3 (w : World) (a b c : Int) : Calls Try.prog 30 #[.agg #[.int .u8 3, .int .i64 a, .int .i64 b, .int .i64 c]] w (RightPost w ⟨3, a, b, c⟩) := by
  by_cases h0 : c = 0
  · by_cases h1 : b = 0
    · by_cases h2 : (0 ≤ a ∧ a ≤ 1000000)
      · have HF : Hid (rightB ⟨3, a, b, c⟩ = true) := by unfold Hid rightB; simp; omega
        have z0 : (c == 0) = true := by simp [h0]
        have z1 : (b == 0) = true := by simp [h1]
        go_enter Try.func30, Try.ntmps30
        go_wp2_with fail
        refine (from_t _ _ _ _ h2).mono ?_
        rintro e w1 ⟨rfl, hw1⟩
        subst hw1
        go_wp2_with fail
        go_ret
        exact ⟨by rw [HF.out]; rfl, below_alloc1 _ _⟩
      · have HF : Hid (rightB ⟨3, a, b, c⟩ = false) := by unfold Hid rightB; simp; omega
        have z0 : (c == 0) = true := by simp [h0]
        have z1 : (b == 0) = true := by simp [h1]
        go_enter Try.func30, Try.ntmps30
        go_wp2_with fail
        refine (from_f _ _ _ _ h2).mono ?_
        rintro e w1 ⟨rfl, hw1⟩
        subst hw1
        go_wp2_with fail
        go_ret
        exact ⟨by rw [HF.out]; rfl, below_alloc1 _ _⟩
    · have HF : Hid (rightB ⟨3, a, b, c⟩ = false) := by unfold Hid rightB; simp; omega
      have z0 : (c == 0) = true := by simp [h0]
      have z1 : (b == 0) = false := by simp [h1]
      go_enter Try.func30, Try.ntmps30
      go_wp2_with fail
      go_ret
      exact ⟨by rw [HF.out]; rfl, below_alloc1 _ _⟩
  · have HF : Hid (rightB ⟨3, a, b, c⟩ = false) := by unfold Hid rightB; simp; omega
    have z0 : (c == 0) = false := by simp [h0]
    go_enter Try.func30, Try.ntmps30
    go_wp2_with fail
    go_ret
    exact ⟨by rw [HF.out]; rfl, below_alloc1 _ _⟩
set_option maxRecDepth 100000 in
set_option maxHeartbeats 2000000 in
theorem right_p4 (w : World) (a b c : Int) : Calls Try.prog 30 #[.agg #[.int .u8 4, .int .i64 a, .int .i64 b, .int .i64 c]] w (RightPost w ⟨4, a, b, c⟩) := by
  by_cases h0 : c = 0
  · by_cases h1 : (0 ≤ b ∧ b ≤ 255)
    · have HF : Hid (rightB ⟨4, a, b, c⟩ = true) := by unfold Hid rightB; simp; omega
      have z0 : (c == 0) = true := by simp [h0]
      go_enter Try.func30, Try.ntmps30
      go_wp2_with fail
      refine (from_t _ _ _ _ h1).mono ?_
      rintro e w1 ⟨rfl, hw1⟩
      subst hw1
      go_wp2_with fail
      go_ret
      exact ⟨by rw [HF.out]; rfl, below_alloc1 _ _⟩
    · have HF : Hid (rightB ⟨4, a, b, c⟩ = false) := by unfold Hid rightB; simp; omega
      have z0 : (c == 0) = true := by simp [h0]
      go_enter Try.func30, Try.ntmps30
      go_wp2_with fail
      refine (from_f _ _ _ _ h1).mono ?_
      rintro e w1 ⟨rfl, hw1⟩
      subst hw1
      go_wp2_with fail
      go_ret
      exact ⟨by rw [HF.out]; rfl, below_alloc1 _ _⟩
  · have HF : Hid (rightB ⟨4, a, b, c⟩ = false) := by unfold Hid rightB; simp; omega
    have z0 : (c == 0) = false := by simp [h0]
    go_enter Try.func30, Try.ntmps30
    go_wp2_with fail
    go_ret
    exact ⟨by rw [HF.out]; rfl, below_alloc1 _ _⟩
set_option maxRecDepth 100000 in
set_option maxHeartbeats 2000000 in
theorem right_p5 (w : World) (a b c : Int) : Calls Try.prog 30 #[.agg #[.int .u8 5, .int .i64 a, .int .i64 b, .int .i64 c]] w (RightPost w ⟨5, a, b, c⟩) := by
  by_cases h0 : c = 0
  · by_cases h1 : b = 0
    · by_cases h2 : (1600 ≤ a ∧ a ≤ 64000)
      · have HF : Hid (rightB ⟨5, a, b, c⟩ = true) := by unfold Hid rightB; simp; omega
        have z0 : (c == 0) = true := by simp [h0]
        have z1 : (b == 0) = true := by simp [h1]
        go_enter Try.func30, Try.ntmps30
        go_wp2_with fail
        refine (from_t _ _ _ _ h2).mono ?_
        rintro e w1 ⟨rfl, hw1⟩
        subst hw1
        go_wp2_with fail
        go_ret
        exact ⟨by rw [HF.out]; rfl, below_alloc1 _ _⟩
      · have HF : Hid (rightB ⟨5, a, b, c⟩ = false) := by unfold Hid rightB; simp; omega
        have z0 : (c == 0) = true := by simp [h0]
        have z1 : (b == 0) = true := by simp [h1]
        go_enter Try.func30, Try.ntmps30
        go_wp2_with fail
        refine (from_f _ _ _ _ h2).mono ?_
        rintro e w1 ⟨rfl, hw1⟩
        subst hw1
        go_wp2_with fail
        go_ret
        exact ⟨by rw [HF.out]; rfl, below_alloc1 _ _⟩
    · have HF : Hid (rightB ⟨5, a, b, c⟩ = false) := by unfold Hid rightB; simp; omega
      have z0 : (c == 0) = true := by simp [h0]
      have z1 : (b == 0) = false := by simp [h1]
      go_enter Try.func30, Try.ntmps30
      go_wp2_with fail
      go_ret
      exact ⟨by rw [HF.out]; rfl, below_alloc1 _ _⟩
  · have HF : Hid (rightB ⟨5, a, b, c⟩ = false) := by unfold Hid rightB; simp; omega
    have z0 : (c == 0) = false := by simp [h0]
    go_enter Try.func30, Try.ntmps30
    go_wp2_with fail
    go_ret
    exact ⟨by rw [HF.out]; rfl, below_alloc1 _ _⟩
set_option maxRecDepth 100000 in
set_option maxHeartbeats 2000000 in
theorem right_r1 (w : World) (a b c : Int) : Calls Try.prog 33 #[.agg #[.int .u8 1, .int .i64 a, .int .i64 b, .int .i64 c]] w (RightPost w ⟨1, a, b, c⟩) := by
  by_cases h0 : 1 ≤ a
  · by_cases h1 : a ≤ 120000
    · by_cases h2 : b = 0
      · by_cases h3 : c = 0
        · have HF : Hid (rightB ⟨1, a, b, c⟩ = true) := by unfold Hid rightB; simp; omega
          have z2 : (b == 0) = true := by simp [h2]
          have z3 : (c == 0) = true := by simp [h3]
          go_enter Try.func33, Try.ntmps33
          go_wp2_with fail
          go_ret
          exact ⟨by rw [HF.out]; rfl, below_alloc1 _ _⟩
        · have HF : Hid (rightB ⟨1, a, b, c⟩ = false) := by unfold Hid rightB; simp; omega
          have z2 : (b == 0) = true := by simp [h2]
          have z3 : (c == 0) = false := by simp [h3]
          go_enter Try.func33, Try.ntmps33
          go_wp2_with fail
          go_ret
          exact ⟨by rw [HF.out]; rfl, below_alloc1 _ _⟩
      · have HF : Hid (rightB ⟨1, a, b, c⟩ = false) := by unfold Hid rightB; simp; omega
        have z2 : (b == 0) = false := by simp [h2]
        go_enter Try.func33, Try.ntmps33
        go_wp2_with fail
        go_ret
        exact ⟨by rw [HF.out]; rfl, below_alloc1 _ _⟩
    · have HF : Hid (rightB ⟨1, a, b, c⟩ = false) := by unfold Hid rightB; simp; omega
      go_enter Try.func33, Try.ntmps33
      go_wp2_with fail
      go_ret
      exact ⟨by rw [HF.out]; rfl, below_alloc1 _ _⟩
  · have HF : Hid (rightB ⟨1, a, b, c⟩ = false) := by unfold Hid rightB; simp; omega
    go_enter Try.func33, Try.ntmps33
    go_wp2_with fail
    go_ret
    exact ⟨by rw [HF.out]; rfl, below_alloc1 _ _⟩
set_option maxRecDepth 100000 in
set_option maxHeartbeats 2000000 in
theorem right_r2 (w : World) (a b c : Int) : Calls Try.prog 33 #[.agg #[.int .u8 2, .int .i64 a, .int .i64 b, .int .i64 c]] w (RightPost w ⟨2, a, b, c⟩) := by
  by_cases h0 : -536870912 ≤ a
  · by_cases h1 : a ≤ 536870912
    · by_cases h2 : -536870912 ≤ b
      · by_cases h3 : b ≤ 536870912
        · by_cases h4 : 0 ≤ c
          · by_cases h5 : c ≤ 120000
            · have HF : Hid (rightB ⟨2, a, b, c⟩ = true) := by unfold Hid rightB; simp; omega
              go_enter Try.func33, Try.ntmps33
              go_wp2_with fail
              go_ret
              exact ⟨by rw [HF.out]; rfl, below_alloc1 _ _⟩
            · have HF : Hid (rightB ⟨2, a, b, c⟩ = false) := by unfold Hid rightB; simp; omega
              go_enter Try.func33, Try.ntmps33
              go_wp2_with fail
              go_ret
              exact ⟨by rw [HF.out]; rfl, below_alloc1 _ _⟩
          · have HF : Hid (rightB ⟨2, a, b, c⟩ = false) := by unfold Hid rightB; simp; omega
            go_enter Try.func33, Try.ntmps33
            go_wp2_with fail
            go_ret
            exact ⟨by rw [HF.out]; rfl, below_alloc1 _ _⟩
        · have HF : Hid (rightB ⟨2, a, b, c⟩ = false) := by unfold Hid rightB; simp; omega
          go_enter Try.func33, Try.ntmps33
          go_wp2_with fail
          go_ret
          exact ⟨by rw [HF.out]; rfl, below_alloc1 _ _⟩
      · have HF : Hid (rightB ⟨2, a, b, c⟩ = false) := by unfold Hid rightB; simp; omega
        go_enter Try.func33, Try.ntmps33
        go_wp2_with fail
        go_ret
        exact ⟨by rw [HF.out]; rfl, below_alloc1 _ _⟩
    · have HF : Hid (rightB ⟨2, a, b, c⟩ = false) := by unfold Hid rightB; simp; omega
      go_enter Try.func33, Try.ntmps33
      go_wp2_with fail
      go_ret
      exact ⟨by rw [HF.out]; rfl, below_alloc1 _ _⟩
  · have HF : Hid (rightB ⟨2, a, b, c⟩ = false) := by unfold Hid rightB; simp; omega
    go_enter Try.func33, Try.ntmps33
    go_wp2_with fail
    go_ret
    exact ⟨by rw [HF.out]; rfl, below_alloc1 _ _⟩
set_option maxRecDepth 100000 in
set_option maxHeartbeats 2000000 in
theorem right_r3 (w : World) (a b c : Int) : Calls Try.prog 33 #[.agg #[.int .u8 3, .int .i64 a, .int .i64 b, .int .i64 c]] w (RightPost w ⟨3, a, b, c⟩) := by
  by_cases h0 : 0 ≤ a
  · by_cases h1 : a ≤ 1000000
    · by_cases h2 : b = 0
      · by_cases h3 : c = 0
        · have HF : Hid (rightB ⟨3, a, b, c⟩ = true) := by unfold Hid rightB; simp; omega
          have z2 : (b == 0) = true := by simp [h2]
          have z3 : (c == 0) = true := by simp [h3]
          go_enter Try.func33, Try.ntmps33
          go_wp2_with fail
          go_ret
          exact ⟨by rw [HF.out]; rfl, below_alloc1 _ _⟩
        · have HF : Hid (rightB ⟨3, a, b, c⟩ = false) := by unfold Hid rightB; simp; omega
          have z2 : (b == 0) = true := by simp [h2]
          have z3 : (c == 0) = false := by simp [h3]
          go_enter Try.func33, Try.ntmps33
          go_wp2_with fail
          go_ret
          exact ⟨by rw [HF.out]; rfl, below_alloc1 _ _⟩
      · have HF : Hid (rightB ⟨3, a, b, c⟩ = false) := by unfold Hid rightB; simp; omega
        have z2 : (b == 0) = false := by simp [h2]
        go_enter Try.func33, Try.ntmps33
        go_wp2_with fail
        go_ret
        exact ⟨by rw [HF.out]; rfl, below_alloc1 _ _⟩
    · have HF : Hid (rightB ⟨3, a, b, c⟩ = false) := by unfold Hid rightB; simp; omega
      go_enter Try.func33, Try.ntmps33
      go_wp2_with fail
      go_ret
      exact ⟨by rw [HF.out]; rfl, below_alloc1 _ _⟩
  · have HF : Hid (rightB ⟨3, a, b, c⟩ = false) := by unfold Hid rightB; simp; omega
    go_enter Try.func33, Try.ntmps33
    go_wp2_with fail
    go_ret
    exact ⟨by rw [HF.out]; rfl, below_alloc1 _ _⟩
set_option maxRecDepth 100000 in
set_option maxHeartbeats 2000000 in
theorem right_r4 (w : World) (a b c : Int) : Calls Try.prog 33 #[.agg #[.int .u8 4, .int .i64 a, .int .i64 b, .int .i64 c]] w (RightPost w ⟨4, a, b, c⟩) := by
  by_cases h0 : 0 ≤ b
  · by_cases h1 : b ≤ 255
    · by_cases h2 : c = 0
      · have HF : Hid (rightB ⟨4, a, b, c⟩ = true) := by unfold Hid rightB; simp; omega
        have z2 : (c == 0) = true := by simp [h2]
        go_enter Try.func33, Try.ntmps33
        go_wp2_with fail
        go_ret
        exact ⟨by rw [HF.out]; rfl, below_alloc1 _ _⟩
      · have HF : Hid (rightB ⟨4, a, b, c⟩ = false) := by unfold Hid rightB; simp; omega
        have z2 : (c == 0) = false := by simp [h2]
        go_enter Try.func33, Try.ntmps33
        go_wp2_with fail
        go_ret
        exact ⟨by rw [HF.out]; rfl, below_alloc1 _ _⟩
    · have HF : Hid (rightB ⟨4, a, b, c⟩ = false) := by unfold Hid rightB; simp; omega
      go_enter Try.func33, Try.ntmps33
      go_wp2_with fail
      go_ret
      exact ⟨by rw [HF.out]; rfl, below_alloc1 _ _⟩
  · have HF : Hid (rightB ⟨4, a, b, c⟩ = false) := by unfold Hid rightB; simp; omega
    go_enter Try.func33, Try.ntmps33
    go_wp2_with fail
    go_ret
    exact ⟨by rw [HF.out]; rfl, below_alloc1 _ _⟩
set_option maxRecDepth 100000 in
set_option maxHeartbeats 2000000 in
theorem right_r5 (w : World) (a b c : Int) : Calls Try.prog 33 #[.agg #[.int .u8 5, .int .i64 a, .int .i64 b, .int .i64 c]] w (RightPost w ⟨5, a, b, c⟩) := by
  by_cases h0 : 1600 ≤ a
  · by_cases h1 : a ≤ 64000
    · by_cases h2 : b = 0
      · by_cases h3 : c = 0
        · have HF : Hid (rightB ⟨5, a, b, c⟩ = true) := by unfold Hid rightB; simp; omega
          have z2 : (b == 0) = true := by simp [h2]
          have z3 : (c == 0) = true := by simp [h3]
          go_enter Try.func33, Try.ntmps33
          go_wp2_with fail
          go_ret
          exact ⟨by rw [HF.out]; rfl, below_alloc1 _ _⟩
        · have HF : Hid (rightB ⟨5, a, b, c⟩ = false) := by unfold Hid rightB; simp; omega
          have z2 : (b == 0) = true := by simp [h2]
          have z3 : (c == 0) = false := by simp [h3]
          go_enter Try.func33, Try.ntmps33
          go_wp2_with fail
          go_ret
          exact ⟨by rw [HF.out]; rfl, below_alloc1 _ _⟩
      · have HF : Hid (rightB ⟨5, a, b, c⟩ = false) := by unfold Hid rightB; simp; omega
        have z2 : (b == 0) = false := by simp [h2]
        go_enter Try.func33, Try.ntmps33
        go_wp2_with fail
        go_ret
        exact ⟨by rw [HF.out]; rfl, below_alloc1 _ _⟩
    · have HF : Hid (rightB ⟨5, a, b, c⟩ = false) := by unfold Hid rightB; simp; omega
      go_enter Try.func33, Try.ntmps33
      go_wp2_with fail
      go_ret
      exact ⟨by rw [HF.out]; rfl, below_alloc1 _ _⟩
  · have HF : Hid (rightB ⟨5, a, b, c⟩ = false) := by unfold Hid rightB; simp; omega
    go_enter Try.func33, Try.ntmps33
    go_wp2_with fail
    go_ret
    exact ⟨by rw [HF.out]; rfl, below_alloc1 _ _⟩
set_option maxRecDepth 100000 in
set_option maxHeartbeats 2000000 in
theorem right_r6 (w : World) (a b c : Int) : Calls Try.prog 33 #[.agg #[.int .u8 6, .int .i64 a, .int .i64 b, .int .i64 c]] w (RightPost w ⟨6, a, b, c⟩) := by
  by_cases h0 : a = 0
  · by_cases h1 : b = 0
    · by_cases h2 : c = 0
      · have HF : Hid (rightB ⟨6, a, b, c⟩ = true) := by unfold Hid rightB; simp; omega
        have z0 : (a == 0) = true := by simp [h0]
        have z1 : (b == 0) = true := by simp [h1]
        have z2 : (c == 0) = true := by simp [h2]
        go_enter Try.func33, Try.ntmps33
        go_wp2_with fail
        go_ret
        exact ⟨by rw [HF.out]; rfl, below_alloc1 _ _⟩
      · have HF : Hid (rightB ⟨6, a, b, c⟩ = false) := by unfold Hid rightB; simp; omega
        have z0 : (a == 0) = true := by simp [h0]
        have z1 : (b == 0) = true := by simp [h1]
        have z2 : (c == 0) = false := by simp [h2]
        go_enter Try.func33, Try.ntmps33
        go_wp2_with fail
        go_ret
        exact ⟨by rw [HF.out]; rfl, below_alloc1 _ _⟩
    · have HF : Hid (rightB ⟨6, a, b, c⟩ = false) := by unfold Hid rightB; simp; omega
      have z0 : (a == 0) = true := by simp [h0]
      have z1 : (b == 0) = false := by simp [h1]
      go_enter Try.func33, Try.ntmps33
      go_wp2_with fail
      go_ret
      exact ⟨by rw [HF.out]; rfl, below_alloc1 _ _⟩
  · have HF : Hid (rightB ⟨6, a, b, c⟩ = false) := by unfold Hid rightB; simp; omega
    have z0 : (a == 0) = false := by simp [h0]
    go_enter Try.func33, Try.ntmps33
    go_wp2_with fail
    go_ret
    exact ⟨by rw [HF.out]; rfl, below_alloc1 _ _⟩
set_option maxRecDepth 100000 in
set_option maxHeartbeats 2000000 in
theorem right_r7 (w : World) (a b c : Int) : Calls Try.prog 33 #[.agg #[.int .u8 7, .int .i64 a, .int .i64 b, .int .i64 c]] w (RightPost w ⟨7, a, b, c⟩) := by
  by_cases h0 : a = 0
  · by_cases h1 : b = 0
    · by_cases h2 : c = 0
      · have HF : Hid (rightB ⟨7, a, b, c⟩ = true) := by unfold Hid rightB; simp; omega
        have z0 : (a == 0) = true := by simp [h0]
        have z1 : (b == 0) = true := by simp [h1]
        have z2 : (c == 0) = true := by simp [h2]
        go_enter Try.func33, Try.ntmps33
        go_wp2_with fail
        go_ret
        exact ⟨by rw [HF.out]; rfl, below_alloc1 _ _⟩
      · have HF : Hid (rightB ⟨7, a, b, c⟩ = false) := by unfold Hid rightB; simp; omega
        have z0 : (a == 0) = true := by simp [h0]
        have z1 : (b == 0) = true := by simp [h1]
        have z2 : (c == 0) = false := by simp [h2]
        go_enter Try.func33, Try.ntmps33
        go_wp2_with fail
        go_ret
        exact ⟨by rw [HF.out]; rfl, below_alloc1 _ _⟩
    · have HF : Hid (rightB ⟨7, a, b, c⟩ = false) := by unfold Hid rightB; simp; omega
      have z0 : (a == 0) = true := by simp [h0]
      have z1 : (b == 0) = false := by simp [h1]
      go_enter Try.func33, Try.ntmps33
      go_wp2_with fail
      go_ret
      exact ⟨by rw [HF.out]; rfl, below_alloc1 _ _⟩
  · have HF : Hid (rightB ⟨7, a, b, c⟩ = false) := by unfold Hid rightB; simp; omega
    have z0 : (a == 0) = false := by simp [h0]
    go_enter Try.func33, Try.ntmps33
    go_wp2_with fail
    go_ret
    exact ⟨by rw [HF.out]; rfl, below_alloc1 _ _⟩
set_option maxRecDepth 100000 in
set_option maxHeartbeats 2000000 in
theorem right_p6 (w : World) (a b c : Int) : Calls Try.prog 30 #[.agg #[.int .u8 6, .int .i64 a, .int .i64 b, .int .i64 c]] w (RightPost w ⟨6, a, b, c⟩) := by
  by_cases h0 : a = 0
  · by_cases h1 : b = 0
    · by_cases h2 : c = 0
      · have HF : Hid (rightB ⟨6, a, b, c⟩ = true) := by unfold Hid rightB; simp; omega
        have z0 : (a == 0) = true := by simp [h0]
        have z1 : (b == 0) = true := by simp [h1]
        have z2 : (c == 0) = true := by simp [h2]
        go_enter Try.func30, Try.ntmps30
        go_wp2_with fail
        go_ret
        exact ⟨by rw [HF.out]; rfl, below_alloc1 _ _⟩
      · have HF : Hid (rightB ⟨6, a, b, c⟩ = false) := by unfold Hid rightB; simp; omega
        have z0 : (a == 0) = true := by simp [h0]
        have z1 : (b == 0) = true := by simp [h1]
        have z2 : (c == 0) = false := by simp [h2]
        go_enter Try.func30, Try.ntmps30
        go_wp2_with fail
        go_ret
        exact ⟨by rw [HF.out]; rfl, below_alloc1 _ _⟩
    · have HF : Hid (rightB ⟨6, a, b, c⟩ = false) := by unfold Hid rightB; simp; omega
      have z0 : (a == 0) = true := by simp [h0]
      have z1 : (b == 0) = false := by simp [h1]
      go_enter Try.func30, Try.ntmps30
      go_wp2_with fail
      go_ret
      exact ⟨by rw [HF.out]; rfl, below_alloc1 _ _⟩
  · have HF : Hid (rightB ⟨6, a, b, c⟩ = false) := by unfold Hid rightB; simp; omega
    have z0 : (a == 0) = false := by simp [h0]
    go_enter Try.func30, Try.ntmps30
    go_wp2_with fail
    go_ret
    exact ⟨by rw [HF.out]; rfl, below_alloc1 _ _⟩
set_option maxRecDepth 100000 in
set_option maxHeartbeats 2000000 in
theorem right_p7 (w : World) (a b c : Int) : Calls Try.prog 30 #[.agg #[.int .u8 7, .int .i64 a, .int .i64 b, .int .i64 c]] w (RightPost w ⟨7, a, b, c⟩) := by
  by_cases h0 : a = 0
  · by_cases h1 : b = 0
    · by_cases h2 : c = 0
      · have HF : Hid (rightB ⟨7, a, b, c⟩ = true) := by unfold Hid rightB; simp; omega
        have z0 : (a == 0) = true := by simp [h0]
        have z1 : (b == 0) = true := by simp [h1]
        have z2 : (c == 0) = true := by simp [h2]
        go_enter Try.func30, Try.ntmps30
        go_wp2_with fail
        go_ret
        exact ⟨by rw [HF.out]; rfl, below_alloc1 _ _⟩
      · have HF : Hid (rightB ⟨7, a, b, c⟩ = false) := by unfold Hid rightB; simp; omega
        have z0 : (a == 0) = true := by simp [h0]
        have z1 : (b == 0) = true := by simp [h1]
        have z2 : (c == 0) = false := by simp [h2]
        go_enter Try.func30, Try.ntmps30
        go_wp2_with fail
        go_ret
        exact ⟨by rw [HF.out]; rfl, below_alloc1 _ _⟩
    · have HF : Hid (rightB ⟨7, a, b, c⟩ = false) := by unfold Hid rightB; simp; omega
      have z0 : (a == 0) = true := by simp [h0]
      have z1 : (b == 0) = false := by simp [h1]
      go_enter Try.func30, Try.ntmps30
      go_wp2_with fail
      go_ret
      exact ⟨by rw [HF.out]; rfl, below_alloc1 _ _⟩
  · have HF : Hid (rightB ⟨7, a, b, c⟩ = false) := by unfold Hid rightB; simp; omega
    have z0 : (a == 0) = false := by simp [h0]
    go_enter Try.func30, Try.ntmps30
    go_wp2_with fail
    go_ret
    exact ⟨by rw [HF.out]; rfl, below_alloc1 _ _⟩
set_option maxRecDepth 100000 in
set_option maxHeartbeats 2000000 in
theorem right_p0 (w : World) (k a b c : Int) (h1 : k ≠ 1) (h2 : k ≠ 2) (h3 : k ≠ 3) (h4 : k ≠ 4) (h5 : k ≠ 5) (h6 : k ≠ 6) (h7 : k ≠ 7) : Calls Try.prog 30 #[.agg #[.int .u8 k, .int .i64 a, .int .i64 b, .int .i64 c]] w (RightPost w ⟨k, a, b, c⟩) := by
  have HF : Hid (rightB ⟨k, a, b, c⟩ = false) := by unfold Hid rightB; simp [h1, h2, h3, h4, h5, h6, h7]
  have z1 : (k == 1) = false := by simp [h1]
  have z2 : (k == 2) = false := by simp [h2]
  have z3 : (k == 3) = false := by simp [h3]
  have z4 : (k == 4) = false := by simp [h4]
  have z5 : (k == 5) = false := by simp [h5]
  have z6 : (k == 6) = false := by simp [h6]
  have z7 : (k == 7) = false := by simp [h7]
  clear h1 h2 h3 h4 h5 h6 h7
  go_enter Try.func30, Try.ntmps30
  go_wp2_with fail
  go_ret
  exact ⟨by rw [HF.out]; rfl, below_alloc1 _ _⟩
theorem right_p_any (w : World) (x : It) : Calls Try.prog 30 #[itV x] w (RightPost w x) := by
  obtain ⟨k, a, b, c⟩ := x
  by_cases h1 : k = 1
  · subst h1; exact right_p1 w a b c
  by_cases h2 : k = 2
  · subst h2; exact right_p2 w a b c
  by_cases h3 : k = 3
  · subst h3; exact right_p3 w a b c
  by_cases h4 : k = 4
  · subst h4; exact right_p4 w a b c
  by_cases h5 : k = 5
  · subst h5; exact right_p5 w a b c
  by_cases h6 : k = 6
  · subst h6; exact right_p6 w a b c
  by_cases h7 : k = 7
  · subst h7; exact right_p7 w a b c
  exact right_p0 w k a b c h1 h2 h3 h4 h5 h6 h7
set_option maxRecDepth 100000 in
set_option maxHeartbeats 2000000 in
theorem right_r0 (w : World) (k a b c : Int) (h1 : k ≠ 1) (h2 : k ≠ 2) (h3 : k ≠ 3) (h4 : k ≠ 4) (h5 : k ≠ 5) (h6 : k ≠ 6) (h7 : k ≠ 7) : Calls Try.prog 33 #[.agg #[.int .u8 k, .int .i64 a, .int .i64 b, .int .i64 c]] w (RightPost w ⟨k, a, b, c⟩) := by
  have HF : Hid (rightB ⟨k, a, b, c⟩ = false) := by unfold Hid rightB; simp [h1, h2, h3, h4, h5, h6, h7]
  have z1 : (k == 1) = false := by simp [h1]
  have z2 : (k == 2) = false := by simp [h2]
  have z3 : (k == 3) = false := by simp [h3]
  have z4 : (k == 4) = false := by simp [h4]
  have z5 : (k == 5) = false := by simp [h5]
  have z6 : (k == 6) = false := by simp [h6]
  have z7 : (k == 7) = false := by simp [h7]
  clear h1 h2 h3 h4 h5 h6 h7
  go_enter Try.func33, Try.ntmps33
  go_wp2_with fail
  go_ret
  exact ⟨by rw [HF.out]; rfl, below_alloc1 _ _⟩
theorem right_r_any (w : World) (x : It) : Calls Try.prog 33 #[itV x] w (RightPost w x) := by
  obtain ⟨k, a, b, c⟩ := x
  by_cases h1 : k = 1
  · subst h1; exact right_r1 w a b c
  by_cases h2 : k = 2
  · subst h2; exact right_r2 w a b c
  by_cases h3 : k = 3
  · subst h3; exact right_r3 w a b c
  by_cases h4 : k = 4
  · subst h4; exact right_r4 w a b c
  by_cases h5 : k = 5
  · subst h5; exact right_r5 w a b c
  by_cases h6 : k = 6
  · subst h6; exact right_r6 w a b c
  by_cases h7 : k = 7
  · subst h7; exact right_r7 w a b c
  exact right_r0 w k a b c h1 h2 h3 h4 h5 h6 h7
end Go.Proofs.Ytkgenhoaeiihoaa
