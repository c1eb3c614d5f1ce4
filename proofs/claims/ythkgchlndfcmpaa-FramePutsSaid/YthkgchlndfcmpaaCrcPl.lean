/- The two check sums, bit by bit: plain mathematics, no program in sight. -/
namespace Go.Proofs.Ythkgchlndfcmpaa
/-- One bit of the program's sum. -/
def crcBit (s : Nat) : Nat := if s % 2 = 1 then (s / 2) ^^^ 3988292384 else s / 2
def crcBits : Nat → Nat → Nat
  | 0, s => s
  | k + 1, s => crcBit (crcBits k s)
def crcByte (s : Nat) (c : UInt8) : Nat := crcBits 8 (s ^^^ c.toNat)
/-- One bit of the reference's. -/
def refBit (r b : Nat) : Nat := if r / 2147483648 ≠ b % 2 then (r * 2 % 4294967296) ^^^ 79764919 else r * 2 % 4294967296
def refBits : Nat → Nat → Nat → Nat
  | 0, r, _ => r
  | k + 1, r, c => refBit (refBits k r c) (c / 2 ^ k)
def refByte (r : Nat) (c : UInt8) : Nat := refBits 8 r c.toNat
def turn : Nat → Nat → Nat
  | 0, _ => 0
  | k + 1, n => turn k n * 2 + n / 2 ^ k % 2
def rev (n : Nat) : Nat := turn 32 n

theorem testBit_two (x b i : Nat) (hb : b < 2) : (x * 2 + b).testBit i = if i = 0 then decide (b = 1) else x.testBit (i - 1) := by
  rcases i with _ | i
  · simp [Nat.testBit_zero]; omega
  · rw [Nat.testBit_succ, if_neg (by omega)]
    congr 1
    omega
theorem turn_bit (k n i : Nat) : (turn k n).testBit i = (decide (i < k) && n.testBit (k - 1 - i)) := by
  induction k generalizing i with
  | zero => simp [turn]
  | succ k ih =>
    rw [turn, testBit_two _ _ _ (Nat.mod_lt _ (by decide))]
    split
    · subst i
      rw [decide_eq_true (by omega : 0 < k + 1), Bool.true_and]
      show _ = n.testBit k
      rw [Nat.testBit_eq_decide_div_mod_eq]
    · rw [ih]
      congr 1
      · simp only [decide_eq_decide]; omega
      · congr 1; omega
theorem rev_bit (n i : Nat) : (rev n).testBit i = (decide (i < 32) && n.testBit (31 - i)) := turn_bit 32 n i
theorem turn_lt (k n : Nat) : turn k n < 2 ^ k := by
  induction k with
  | zero => simp [turn]
  | succ k ih => rw [turn, Nat.pow_succ]; have := Nat.mod_lt (n / 2 ^ k) (show 0 < 2 by decide); omega
theorem rev_lt (n : Nat) : rev n < 4294967296 := turn_lt 32 n
theorem poly_rev : ∀ i, i < 32 → Nat.testBit 3988292384 i = Nat.testBit 79764919 (31 - i) := by decide
theorem crcBit_lt {s : Nat} (h : s < 4294967296) : crcBit s < 4294967296 := by
  unfold crcBit
  split
  · exact Nat.xor_lt_two_pow (n := 32) (by omega) (by decide)
  · omega
theorem refBit_lt (r b : Nat) : refBit r b < 4294967296 := by
  unfold refBit
  split
  · exact Nat.xor_lt_two_pow (n := 32) (Nat.mod_lt _ (by decide)) (by decide)
  · exact Nat.mod_lt _ (by decide)
theorem crcBits_lt {s : Nat} (h : s < 4294967296) (k : Nat) : crcBits k s < 4294967296 := by
  induction k with
  | zero => exact h
  | succ k ih => exact crcBit_lt ih
theorem refBits_lt {r : Nat} (h : r < 4294967296) (k c : Nat) : refBits k r c < 4294967296 := by
  cases k with
  | zero => exact h
  | succ k => exact refBit_lt _ _
theorem crcByte_lt {s : Nat} (h : s < 4294967296) (c : UInt8) : crcByte s c < 4294967296 := by
  have := c.toNat_lt
  exact crcBits_lt (Nat.xor_lt_two_pow (n := 32) h (by omega)) 8
theorem refByte_lt {r : Nat} (h : r < 4294967296) (c : UInt8) : refByte r c < 4294967296 := refBits_lt h 8 _
theorem crcBit_bit (s i : Nat) : (crcBit s).testBit i = (s.testBit (i + 1) ^^ (s.testBit 0 && Nat.testBit 3988292384 i)) := by
  unfold crcBit
  have e : (s / 2).testBit i = s.testBit (i + 1) := by rw [Nat.testBit_succ]
  split
  · rename_i h
    rw [Nat.testBit_xor, e, Nat.testBit_zero, h]; rfl
  · rename_i h
    rw [e, Nat.testBit_zero, decide_eq_false h]; simp
theorem dbl_bit (r j : Nat) : (r * 2 % 4294967296).testBit j = (decide (j < 32) && (decide (0 < j) && r.testBit (j - 1))) := by
  rw [show (4294967296 : Nat) = 2 ^ 32 from rfl, Nat.testBit_mod_two_pow, show r * 2 = r * 2 + 0 from rfl, testBit_two _ _ _ (by decide)]
  congr 1
  rcases j with _ | j
  · simp
  · simp
theorem top_bit {r : Nat} (h : r < 4294967296) : r.testBit 31 = decide (r / 2147483648 = 1) := by
  rw [Nat.testBit_eq_decide_div_mod_eq, show (2 : Nat) ^ 31 = 2147483648 from rfl]
  congr 1
  rw [Nat.mod_eq_of_lt (by omega)]
theorem refBit_bit {r b : Nat} (h : r < 4294967296) (j : Nat) : (refBit r b).testBit j = ((decide (j < 32) && (decide (0 < j) && r.testBit (j - 1))) ^^ ((r.testBit 31 ^^ b.testBit 0) && Nat.testBit 79764919 j)) := by
  rw [top_bit h, Nat.testBit_zero]
  unfold refBit
  have hd : r / 2147483648 < 2 := by omega
  have hm : b % 2 < 2 := Nat.mod_lt _ (by decide)
  generalize r / 2147483648 = x at *
  generalize b % 2 = y at *
  split
  · rename_i hne
    rw [Nat.testBit_xor, dbl_bit]
    congr 1
    rw [show (decide (x = 1) ^^ decide (y = 1)) = true by
      rcases (show (x = 0 ∧ y = 1) ∨ (x = 1 ∧ y = 0) by omega) with ⟨rfl, rfl⟩ | ⟨rfl, rfl⟩ <;> decide]
    simp
  · rename_i hne
    obtain rfl : x = y := by omega
    rw [dbl_bit]
    simp
/-- The two sums, bit by bit. -/
theorem step_eq {s r c : Nat} (hr : r < 4294967296) (h : s = rev r ^^^ c) : crcBit s = rev (refBit r c) ^^^ (c / 2) := by
  apply Nat.eq_of_testBit_eq
  intro i
  have h0 : s.testBit 0 = (r.testBit 31 ^^ c.testBit 0) := by rw [h, Nat.testBit_xor, rev_bit]; simp
  rw [crcBit_bit s, h0, Nat.testBit_xor, rev_bit, refBit_bit hr, h, Nat.testBit_xor, rev_bit]
  have ec : (c / 2).testBit i = c.testBit (i + 1) := by rw [Nat.testBit_succ]
  rw [ec]
  by_cases hi : i < 32
  · rw [poly_rev i hi]
    have e : 31 - (i + 1) = 31 - i - 1 := by omega
    rw [e]
    rw [decide_eq_true (by omega : 31 - i < 32), decide_eq_true hi]
    have : decide (i + 1 < 32) = decide (0 < 31 - i) := by simp only [decide_eq_decide]; omega
    rw [this]
    generalize r.testBit 31 = a
    generalize c.testBit 0 = b
    generalize decide (0 < 31 - i) = d
    generalize r.testBit (31 - i - 1) = x
    generalize c.testBit (i + 1) = y
    generalize Nat.testBit 79764919 (31 - i) = z
    revert a b d x y z
    decide
  · rw [decide_eq_false (by omega : ¬ i + 1 < 32), decide_eq_false hi]
    have h1 : Nat.testBit 3988292384 i = false := Nat.testBit_lt_two_pow (Nat.lt_of_lt_of_le (by decide : 3988292384 < 2 ^ 32) (Nat.pow_le_pow_right (by decide) (by omega)))
    rw [h1]
    simp
theorem byte_eq {s r : Nat} (c : UInt8) (hr : r < 4294967296) (h : s = rev r) : crcByte s c = rev (refByte r c) := by
  have hc := c.toNat_lt
  have key : ∀ k, crcBits k (s ^^^ c.toNat) = rev (refBits k r c.toNat) ^^^ (c.toNat / 2 ^ k) := by
    intro k
    induction k with
    | zero => rw [h]; simp [crcBits, refBits]
    | succ k ih =>
      rw [crcBits, refBits, Nat.pow_succ, ← Nat.div_div_eq_div_mul]
      exact step_eq (refBits_lt hr k _) ih
  rw [crcByte, refByte, key 8, Nat.div_eq_of_lt (by omega)]
  simp
def crcList (s : Nat) (l : List UInt8) : Nat := l.foldl crcByte s
def refList (r : Nat) (l : List UInt8) : Nat := l.foldl refByte r
theorem list_eq (l : List UInt8) : ∀ {s r : Nat}, s < 4294967296 → r < 4294967296 → s = rev r → crcList s l = rev (refList r l) ∧ crcList s l < 4294967296 ∧ refList r l < 4294967296 := by
  induction l with
  | nil => intro s r hs hr h; exact ⟨h, hs, hr⟩
  | cons c l ih => intro s r hs hr h; exact ih (crcByte_lt hs c) (refByte_lt hr c) (byte_eq c hr h)
theorem rev_ones : 4294967295 = rev 4294967295 := by decide
/-- The sum of bytes. -/
def crcOf (l : List UInt8) : Nat := 4294967295 - crcList 4294967295 l
theorem crcOf_ref (l : List UInt8) : crcOf l = 4294967295 - rev (refList 4294967295 l) := by
  unfold crcOf
  rw [(list_eq l (by decide) (by decide) rev_ones).1]
end Go.Proofs.Ythkgchlndfcmpaa
