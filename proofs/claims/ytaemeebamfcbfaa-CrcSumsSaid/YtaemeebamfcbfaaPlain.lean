/- The plain law of the check of 16 bits: half a byte by a table is four of the steps bit by bit; nothing is lost; two turned neighbours are told. Numbers and lists alone; no condition. -/
namespace Go.Proofs.Ytaemeebamfcbfaa.Crc

/-- The table of sixteen. -/
def tab : List Nat := [0, 4225, 8450, 12675, 16900, 21125, 25350, 29575, 33800, 38025, 42250, 46475, 50700, 54925, 59150, 63375]
/-- Half a byte. -/
def half (c : Nat) : Nat := (c / 16) ^^^ tab.getD (c % 16) 0
/-- A byte, as the code goes. -/
def add (c b : Nat) : Nat := half (half (c ^^^ b))
/-- One bit, as the document goes. -/
def bit (c : Nat) : Nat := if c % 2 = 1 then (c / 2) ^^^ 33800 else c / 2
def bits : Nat → Nat → Nat
  | 0, c => c
  | n + 1, c => bits n (bit c)
/-- A byte, as the document goes. -/
def radd (c b : Nat) : Nat := bits 8 (c ^^^ b)

theorem tab_lt (d : Nat) : tab.getD d 0 < 65536 := by
  by_cases h : d < 16
  · have : ∀ d : Fin 16, tab.getD d.1 0 < 65536 := by decide
    exact this ⟨d, h⟩
  · rw [List.getD_eq_getElem?_getD, List.getElem?_eq_none (by simp [tab]; omega)]
    decide
theorem half_lt {c : Nat} (h : c < 65536) : half c < 65536 := by
  unfold half
  exact Nat.xor_lt_two_pow (n := 16) (by omega) (tab_lt _)
theorem add_lt {c b : Nat} (hc : c < 65536) (hb : b < 256) : add c b < 65536 :=
  half_lt (half_lt (Nat.xor_lt_two_pow (n := 16) hc (by omega)))
theorem bit_lt {c : Nat} (h : c < 65536) : bit c < 65536 := by
  unfold bit
  split
  · exact Nat.xor_lt_two_pow (n := 16) (by omega) (by omega)
  · omega
theorem bits_lt (n : Nat) : ∀ {c : Nat}, c < 65536 → bits n c < 65536 := by
  induction n with
  | zero => intro c h; exact h
  | succ n ih => intro c h; exact ih (bit_lt h)

/-! ### One bit is linear -/
theorem xor_mod2 (a b : Nat) : (a ^^^ b) % 2 = (a % 2 + b % 2) % 2 := by
  have h : ∀ x y : Fin 2, (x.1 ^^^ y.1) = (x.1 + y.1) % 2 := by decide
  have e : (a ^^^ b) % 2 = (a % 2) ^^^ (b % 2) := by
    have := Nat.xor_mod_two_pow (a := a) (b := b) (n := 1)
    simpa using this
  rw [e]
  exact h ⟨a % 2, by omega⟩ ⟨b % 2, by omega⟩
theorem xor_div2 (a b : Nat) : (a ^^^ b) / 2 = (a / 2) ^^^ (b / 2) := by
  have := Nat.shiftRight_xor_distrib (a := a) (b := b) (i := 1)
  simpa [Nat.shiftRight_eq_div_pow] using this
theorem bit_xor (a b : Nat) : bit (a ^^^ b) = bit a ^^^ bit b := by
  unfold bit
  rw [xor_mod2, xor_div2]
  rcases Nat.mod_two_eq_zero_or_one a with ha | ha <;> rcases Nat.mod_two_eq_zero_or_one b with hb | hb <;> simp only [ha, hb]
  · simp
  · simp [Nat.xor_assoc]
  · simp only [if_true, Nat.zero_ne_one, if_false]
    rw [Nat.xor_assoc, Nat.xor_assoc, Nat.xor_comm 33800]
  · have e : (a / 2 ^^^ 33800) ^^^ (b / 2 ^^^ 33800) = (a / 2) ^^^ (b / 2) := by
      rw [Nat.xor_comm (b / 2) 33800, Nat.xor_assoc, ← Nat.xor_assoc 33800 33800, Nat.xor_self, Nat.zero_xor]
    simp [e]
theorem bits_xor (n : Nat) : ∀ a b, bits n (a ^^^ b) = bits n a ^^^ bits n b := by
  induction n with
  | zero => intro a b; rfl
  | succ n ih => intro a b; simp only [bits]; rw [bit_xor, ih]
theorem bits_add (m n : Nat) : ∀ c, bits (m + n) c = bits n (bits m c) := by
  induction m with
  | zero => intro c; simp [bits]
  | succ m ih => intro c; rw [Nat.succ_add]; simp only [bits]; exact ih _

/-! ### Half a byte is four bits -/
theorem split16 (c : Nat) : c = (c / 16 * 16) ^^^ (c % 16) := by
  have h : c / 16 * 16 + c % 16 = (c / 16 * 16) ^^^ (c % 16) := by
    have e : c / 16 * 16 = 2 ^ 4 * (c / 16) := by omega
    rw [e]
    apply Nat.eq_of_testBit_eq
    intro i
    rw [Nat.testBit_two_pow_mul_add _ (by omega), Nat.testBit_xor, Nat.testBit_two_pow_mul]
    by_cases hi : i < 4
    · have h4 : ¬ 4 ≤ i := by omega
      simp [hi, h4]
    · have : (c % 16).testBit i = false := Nat.testBit_lt_two_pow (Nat.lt_of_lt_of_le (show c % 16 < 2 ^ 4 by omega) (Nat.pow_le_pow_right (by omega) (by omega)))
      simp [hi, this]
      intro h
      omega
  omega
theorem bit_even (q : Nat) : bit (q * 2) = q := by
  unfold bit
  rw [if_neg (by omega)]
  omega
theorem bits4_hi (q : Nat) : bits 4 (q * 16) = q := by
  simp only [bits]
  rw [show q * 16 = (q * 8) * 2 from by omega, bit_even, show q * 8 = (q * 4) * 2 from by omega, bit_even, show q * 4 = (q * 2) * 2 from by omega, bit_even, bit_even]
theorem bits4_lo (d : Nat) (h : d < 16) : bits 4 d = tab.getD d 0 := by
  have : ∀ d : Fin 16, bits 4 d.1 = tab.getD d.1 0 := by decide
  exact this ⟨d, h⟩
theorem half_bits (c : Nat) : half c = bits 4 c := by
  conv => rhs; rw [split16 c]
  rw [bits_xor, bits4_hi, bits4_lo _ (by omega)]
  rfl
theorem add_radd (c b : Nat) : add c b = radd c b := by
  unfold add radd
  rw [half_bits, half_bits, ← bits_add]

/-! ### Nothing is lost -/
theorem bit_zero {c : Nat} (hc : c < 65536) (h : bit c = 0) : c = 0 := by
  unfold bit at h
  split at h
  · rename_i hm
    have e : c / 2 = 33800 := by
      have := congrArg (· ^^^ 33800) h
      simpa [Nat.xor_assoc] using this
    omega
  · omega
theorem bits_zero (n : Nat) : ∀ {c : Nat}, c < 65536 → bits n c = 0 → c = 0 := by
  induction n with
  | zero => intro c _ h; exact h
  | succ n ih => intro c hc h; exact bit_zero hc (ih (bit_lt hc) h)
theorem bits_of_zero (n : Nat) : bits n 0 = 0 := by
  induction n with
  | zero => rfl
  | succ n ih => simp only [bits]; rw [show bit 0 = 0 from by decide]; exact ih
theorem xor_eq_zero (a b : Nat) : a ^^^ b = 0 ↔ a = b := by
  constructor
  · intro h
    have := congrArg (· ^^^ b) h
    simpa [Nat.xor_assoc] using this
  · rintro rfl; exact Nat.xor_self _
theorem bits_inj (n : Nat) {a b : Nat} (ha : a < 65536) (hb : b < 65536) : bits n a = bits n b ↔ a = b := by
  constructor
  · intro h
    have h1 : bits n (a ^^^ b) = 0 := by rw [bits_xor, h, Nat.xor_self]
    exact (xor_eq_zero _ _).1 (bits_zero n (Nat.xor_lt_two_pow (n := 16) ha hb) h1)
  · rintro rfl; rfl
theorem add_eq (c b : Nat) : add c b = bits 8 (c ^^^ b) := add_radd c b
theorem xor_left_inj {a b c : Nat} : c ^^^ a = c ^^^ b ↔ a = b := by
  constructor
  · intro h
    have := congrArg (c ^^^ ·) h
    simpa [← Nat.xor_assoc] using this
  · rintro rfl; rfl
theorem add_byte {c a b : Nat} (hc : c < 65536) (ha : a < 256) (hb : b < 256) : add c a = add c b ↔ a = b := by
  rw [add_eq, add_eq, bits_inj 8 (Nat.xor_lt_two_pow (n := 16) hc (by omega)) (Nat.xor_lt_two_pow (n := 16) hc (by omega)), xor_left_inj]
theorem add_from {c d a : Nat} (hc : c < 65536) (hd : d < 65536) (ha : a < 256) : add c a = add d a ↔ c = d := by
  rw [add_eq, add_eq, bits_inj 8 (Nat.xor_lt_two_pow (n := 16) hc (by omega)) (Nat.xor_lt_two_pow (n := 16) hd (by omega)), Nat.xor_comm c, Nat.xor_comm d, xor_left_inj]

/-! ### Sums -/
def sum : Nat → List Nat → Nat
  | c, [] => c
  | c, b :: l => sum (add c b) l
theorem sum_append (l : List Nat) : ∀ c m, sum c (l ++ m) = sum (sum c l) m := by
  induction l with
  | nil => intro c m; rfl
  | cons b l ih => intro c m; simp only [List.cons_append, sum]; exact ih _ _
theorem sum_snoc (c : Nat) (l : List Nat) (b : Nat) : sum c (l ++ [b]) = add (sum c l) b := sum_append l c [b]
def Bytes (l : List Nat) : Prop := ∀ b ∈ l, b < 256
theorem sum_lt (l : List Nat) : ∀ c, c < 65536 → Bytes l → sum c l < 65536 := by
  induction l with
  | nil => intro c h _; exact h
  | cons b l ih => intro c h hb; exact ih _ (add_lt h (hb b (by simp))) (fun x hx => hb x (by simp [hx]))
/-- What differs stays different. -/
theorem sum_from (l : List Nat) : ∀ c d, c < 65536 → d < 65536 → Bytes l → (sum c l = sum d l ↔ c = d) := by
  induction l with
  | nil => intro c d _ _ _; rfl
  | cons b l ih =>
    intro c d hc hd hb
    have h0 := hb b (by simp)
    simp only [sum]
    rw [ih _ _ (add_lt hc h0) (add_lt hd h0) (fun x hx => hb x (by simp [hx])), add_from hc hd h0]
/-- Two neighbours: nothing that is turned in two bytes comes to nothing. -/
theorem burst : ∀ t : Fin 256, bits 8 t.1 < 256 → t.1 = 0 := by decide +kernel
theorem two {c a b x y : Nat} (hc : c < 65536) (ha : a < 256) (hb : b < 256) (hx : x < 256) (hy : y < 256) :
    add (add c a) b = add (add c x) y ↔ a = x ∧ b = y := by
  constructor
  · intro h
    have l1 : add c a < 65536 := add_lt hc ha
    have l2 : add c x < 65536 := add_lt hc hx
    rw [add_eq (add c a), add_eq (add c x), bits_inj 8 (Nat.xor_lt_two_pow (n := 16) l1 (by omega)) (Nat.xor_lt_two_pow (n := 16) l2 (by omega))] at h
    have e : bits 8 (a ^^^ x) = b ^^^ y := by
      have e1 : add c a ^^^ add c x = b ^^^ y := by
        have : add c a ^^^ b ^^^ add c x ^^^ b = add c x ^^^ y ^^^ add c x ^^^ b := by rw [h]
        have g1 : (add c a ^^^ b) ^^^ add c x ^^^ b = add c a ^^^ add c x := by
          rw [Nat.xor_assoc (add c a), Nat.xor_comm b (add c x), Nat.xor_assoc, Nat.xor_assoc (add c x), Nat.xor_self, Nat.xor_zero]
        have g2 : (add c x ^^^ y) ^^^ add c x ^^^ b = b ^^^ y := by
          rw [Nat.xor_comm (add c x) y, Nat.xor_assoc y, Nat.xor_self, Nat.xor_zero, Nat.xor_comm]
        rw [g1, g2] at this
        exact this
      rw [← e1, add_eq, add_eq, ← bits_xor]
      congr 1
      rw [Nat.xor_assoc, ← Nat.xor_assoc a, Nat.xor_comm a c, Nat.xor_assoc c a x, ← Nat.xor_assoc c c, Nat.xor_self, Nat.zero_xor]
    have hlt : a ^^^ x < 256 := Nat.xor_lt_two_pow (n := 8) ha hx
    have h0 : a ^^^ x = 0 := burst ⟨a ^^^ x, hlt⟩ (by rw [e]; exact Nat.xor_lt_two_pow (n := 8) hb hy)
    have hax := (xor_eq_zero _ _).1 h0
    rw [h0, bits_of_zero] at e
    exact ⟨hax, (xor_eq_zero _ _).1 e.symm⟩
  · rintro ⟨rfl, rfl⟩; rfl
/-- A sum with its own two bytes behind is 0. -/
theorem self_zero : ∀ lo hi : Nat, lo < 256 → hi < 256 → add (add (lo + 256 * hi) lo) hi = 0 := by
  intro lo hi h1 h2
  have e1 : (lo + 256 * hi) ^^^ lo = 256 * hi := by
    have e : lo + 256 * hi = (2 ^ 8 * hi) ^^^ lo := by
      apply Nat.eq_of_testBit_eq
      intro i
      rw [Nat.add_comm, show 256 * hi = 2 ^ 8 * hi from rfl, Nat.testBit_two_pow_mul_add _ (by omega), Nat.testBit_xor, Nat.testBit_two_pow_mul]
      by_cases hi' : i < 8
      · have h8 : ¬ 8 ≤ i := by omega
        simp [hi', h8]
      · have : lo.testBit i = false := Nat.testBit_lt_two_pow (Nat.lt_of_lt_of_le (show lo < 2 ^ 8 by omega) (Nat.pow_le_pow_right (by omega) (by omega)))
        simp [hi', this]
        intro h
        omega
    rw [e, Nat.xor_assoc, Nat.xor_self, Nat.xor_zero]
  have hb : bits 8 (256 * hi) = hi := by
    rw [show (8 : Nat) = 4 + 4 from rfl, bits_add, show 256 * hi = (hi * 16) * 16 from by omega, bits4_hi, bits4_hi]
  rw [add_eq (lo + 256 * hi), e1, hb, add_eq, Nat.xor_self, bits_of_zero]

/-! ### A turned byte, or two neighbours, in the midst of others -/
theorem mid {c : Nat} {p q m m' : List Nat} (hc : c < 65536) (hp : Bytes p) (hq : Bytes q) (hm : Bytes m) (hm' : Bytes m') :
    sum c (p ++ (m ++ q)) = sum c (p ++ (m' ++ q)) ↔ sum (sum c p) m = sum (sum c p) m' := by
  have h := sum_lt p c hc hp
  rw [sum_append, sum_append, sum_append, sum_append]
  exact sum_from q _ _ (sum_lt m _ h hm) (sum_lt m' _ h hm') hq
theorem getD_lt (l : List Nat) (h : Bytes l) (i : Nat) : l.getD i 0 < 256 := by
  rw [List.getD_eq_getElem?_getD]
  cases e : l[i]? with
  | none => simp
  | some x => exact h x (List.mem_of_getElem? e)
theorem cut_at (l : List Nat) (i : Nat) (h : i < l.length) : l = l.take i ++ ([l.getD i 0] ++ l.drop (i + 1)) := by
  rw [List.getD_eq_getElem?_getD, List.getElem?_eq_getElem h]
  simp
theorem set_cut (l : List Nat) (i y : Nat) (h : i < l.length) : l.set i y = l.take i ++ ([y] ++ l.drop (i + 1)) := by
  rw [List.set_eq_take_append_cons_drop, if_pos h]
  rfl
theorem one_turn (l : List Nat) (i y : Nat) (hl : Bytes l) (hi : i < l.length) (hy : y < 256) :
    sum 65535 (l.set i y) = sum 65535 l ↔ l.set i y = l := by
  have e1 := cut_at l i hi
  have e2 := set_cut l i y hi
  have hx := getD_lt l hl i
  have hp : Bytes (l.take i) := fun b hb => hl b (List.mem_of_mem_take hb)
  have hd : Bytes (l.drop (i + 1)) := fun b hb => hl b (List.mem_of_mem_drop hb)
  have h1 : sum 65535 (l.take i) < 65536 := sum_lt _ _ (by omega) hp
  have b1 : ∀ z, z < 256 → Bytes [z] := fun z hz b hb => by simp only [List.mem_singleton] at hb; omega
  constructor
  · intro h
    rw [e2] at h ⊢
    have h' : sum 65535 (l.take i ++ ([y] ++ l.drop (i + 1))) = sum 65535 (l.take i ++ ([l.getD i 0] ++ l.drop (i + 1))) := by rw [← e1]; exact h
    rw [mid (by omega) hp hd (b1 _ hy) (b1 _ hx)] at h'
    have e : y = l.getD i 0 := (add_byte h1 hy hx).1 h'
    conv => rhs; rw [e1]
    rw [e]
  · intro h; rw [h]
theorem two_turn (l : List Nat) (i y z : Nat) (hl : Bytes l) (hi : i + 1 < l.length) (hy : y < 256) (hz : z < 256) :
    sum 65535 ((l.set i y).set (i + 1) z) = sum 65535 l ↔ (l.set i y).set (i + 1) z = l := by
  have c1 := cut_at l i (by omega)
  have c2 := cut_at l (i + 1) hi
  have hg : l.drop (i + 1) = [l.getD (i + 1) 0] ++ l.drop (i + 2) := by
    rw [List.getD_eq_getElem?_getD, List.getElem?_eq_getElem hi]
    simp
  have e1 : l = l.take i ++ ([l.getD i 0, l.getD (i + 1) 0] ++ l.drop (i + 2)) := by
    conv => lhs; rw [c1, hg]
    rfl
  have e2 : (l.set i y).set (i + 1) z = l.take i ++ ([y, z] ++ l.drop (i + 2)) := by
    rw [set_cut (l.set i y) (i + 1) z (by rw [List.length_set]; exact hi), set_cut l i y (by omega)]
    have hlen : (l.take i).length = i := by rw [List.length_take]; omega
    have k1 : (l.take i).take (i + 1) = l.take i := List.take_of_length_le (by omega)
    have k2 : (l.take i).drop (i + 1 + 1) = [] := List.drop_of_length_le (by omega)
    rw [List.take_append, List.drop_append, hlen, k1, k2]
    rw [show i + 1 - i = 1 from by omega, show i + 1 + 1 - i = 2 from by omega]
    simp
  have hx := getD_lt l hl i
  have hx' := getD_lt l hl (i + 1)
  have hp : Bytes (l.take i) := fun b hb => hl b (List.mem_of_mem_take hb)
  have hd : Bytes (l.drop (i + 2)) := fun b hb => hl b (List.mem_of_mem_drop hb)
  have h1 : sum 65535 (l.take i) < 65536 := sum_lt _ _ (by omega) hp
  have b1 : ∀ u v, u < 256 → v < 256 → Bytes [u, v] := fun u v hu hv b hb => by
    simp only [List.mem_cons, List.not_mem_nil, or_false] at hb; omega
  constructor
  · intro h
    rw [e2] at h ⊢
    have h' : sum 65535 (l.take i ++ ([y, z] ++ l.drop (i + 2))) = sum 65535 (l.take i ++ ([l.getD i 0, l.getD (i + 1) 0] ++ l.drop (i + 2))) := by rw [← e1]; exact h
    rw [mid (by omega) hp hd (b1 _ _ hy hz) (b1 _ _ hx hx')] at h'
    obtain ⟨ey, ez⟩ := (two h1 hy hz hx hx').1 h'
    conv => rhs; rw [e1]
    rw [ey, ez]
  · intro h; rw [h]
end Go.Proofs.Ytaemeebamfcbfaa.Crc
