/- Plain facts on sets of numbers kept as bits of a number: no program in sight. -/
namespace Go.Proofs.YtdeifjnhbdkkgaaGreatDoor
set_option maxRecDepth 100000

/-- Is c in the set s? -/
def hasB (s : Nat) (c : Int) : Bool := decide (0 ≤ c) && decide (c ≤ 63) && s.testBit c.toNat
/-- The numbers below k that are in the set s, rising. -/
def bl (s : Nat) : Nat → List Nat
  | 0 => []
  | k + 1 => bl s k ++ if s.testBit k then [k] else []
/-- The set of the numbers of l below k. -/
def ofTo (l : List Int) : Nat → Nat
  | 0 => 0
  | k + 1 => ofTo l k + if (k : Int) ∈ l then 2 ^ k else 0
def bitN (c : Int) : Nat := if 0 ≤ c ∧ c < 64 then 2 ^ c.toNat else 0
def orL : List Int → Nat → Nat
  | [], s => s
  | c :: r, s => orL r (s ||| bitN c)

theorem hasB_nat (s c : Nat) (h : c ≤ 63) : hasB s (c : Int) = s.testBit c := by
  unfold hasB
  rw [decide_eq_true (by omega), decide_eq_true (by omega)]
  simp
theorem hasB_out (s : Nat) (c : Int) (h : c < 0 ∨ 63 < c) : hasB s c = false := by
  unfold hasB
  rcases h with h | h
  · rw [decide_eq_false (by omega)]; rfl
  · rw [decide_eq_false (p := c ≤ 63) (by omega)]; simp

theorem ofTo_lt (l : List Int) (k : Nat) : ofTo l k < 2 ^ k := by
  induction k with
  | zero => simp [ofTo]
  | succ k ih =>
    rw [ofTo, Nat.pow_succ]
    split <;> omega
theorem ofTo_testBit (l : List Int) (k i : Nat) : (ofTo l k).testBit i = (decide (i < k) && decide ((i : Int) ∈ l)) := by
  induction k with
  | zero => simp [ofTo]
  | succ k ih =>
    have hlt := ofTo_lt l k
    rw [ofTo]
    by_cases hk : (k : Int) ∈ l
    · rw [if_pos hk]
      by_cases hik : i = k
      · subst hik
        rw [Nat.add_comm, Nat.testBit_two_pow_add_eq, Nat.testBit_lt_two_pow hlt]
        simp [hk]
      · rw [show ofTo l k + 2 ^ k = 2 ^ k * 1 + ofTo l k from by omega, Nat.two_pow_add_eq_or_of_lt hlt, Nat.testBit_or, ih, Nat.mul_one, Nat.testBit_two_pow_of_ne (Ne.symm hik), Bool.false_or]
        by_cases h : i < k
        · simp [h, Nat.lt_succ_of_lt h]
        · have : ¬ i < k + 1 := by omega
          simp [h, this]
    · rw [if_neg hk, Nat.add_zero, ih]
      by_cases hik : i = k
      · subst hik; simp [hk]
      · by_cases h : i < k
        · simp [h, Nat.lt_succ_of_lt h]
        · have : ¬ i < k + 1 := by omega
          simp [h, this]

theorem bitN_lt (c : Int) : bitN c < 2 ^ 64 := by
  unfold bitN
  split
  · exact Nat.pow_lt_pow_right (by omega) (by omega)
  · simp
theorem bitN_testBit (c : Int) (i : Nat) : (bitN c).testBit i = (decide (i < 64) && decide ((i : Int) = c)) := by
  unfold bitN
  split
  · rename_i h
    obtain ⟨n, rfl⟩ := Int.eq_ofNat_of_zero_le h.1
    rw [Int.toNat_natCast, Nat.testBit_two_pow]
    by_cases e : n = i
    · subst e; simp; omega
    · have : ¬ ((i : Int) = n) := by omega
      simp [e, this]
  · rename_i h
    by_cases hi : i < 64
    · have : ¬ ((i : Int) = c) := by omega
      simp [this]
    · simp [hi]
theorem orL_testBit (l : List Int) (s i : Nat) : (orL l s).testBit i = (s.testBit i || (decide (i < 64) && decide ((i : Int) ∈ l))) := by
  induction l generalizing s with
  | nil => simp [orL]
  | cons c r ih =>
    rw [orL, ih, Nat.testBit_or, bitN_testBit]
    by_cases h1 : i < 64 <;> by_cases h2 : (i : Int) = c <;> simp [h1, h2]
theorem orL_lt (l : List Int) (s : Nat) (h : s < 2 ^ 64) : orL l s < 2 ^ 64 := by
  induction l generalizing s with
  | nil => exact h
  | cons c r ih => exact ih _ (Nat.or_lt_two_pow h (bitN_lt c))
theorem of_eq (l : List Int) : orL l 0 = ofTo l 64 := by
  apply Nat.eq_of_testBit_eq
  intro i
  rw [orL_testBit, ofTo_testBit]
  simp

theorem bl_mem (s k i : Nat) : i ∈ bl s k ↔ i < k ∧ s.testBit i = true := by
  induction k with
  | zero => simp [bl]
  | succ k ih =>
    rw [bl, List.mem_append, ih]
    by_cases h : s.testBit k
    · simp only [h, if_true, List.mem_singleton]
      constructor
      · rintro (⟨a, b⟩ | rfl)
        · exact ⟨by omega, b⟩
        · exact ⟨by omega, h⟩
      · rintro ⟨a, b⟩
        by_cases e : i = k
        · exact .inr e
        · exact .inl ⟨by omega, b⟩
    · simp only [h, Bool.false_eq_true, if_false, List.not_mem_nil, or_false]
      constructor
      · rintro ⟨a, b⟩; exact ⟨by omega, b⟩
      · rintro ⟨a, b⟩
        by_cases e : i = k
        · subst e; exact absurd b h
        · exact ⟨by omega, b⟩
theorem bl_len (s k : Nat) : (bl s k).length ≤ k := by
  induction k with
  | zero => simp [bl]
  | succ k ih =>
    rw [bl, List.length_append]
    split <;> simp <;> omega
def ints (l : List Nat) : List Int := l.map (fun n : Nat => (n : Int))
theorem ints_mem (l : List Nat) (i : Nat) : (i : Int) ∈ ints l ↔ i ∈ l := by
  unfold ints
  rw [List.mem_map]
  constructor
  · rintro ⟨a, h, e⟩; obtain rfl : a = i := by omega
    exact h
  · intro h; exact ⟨i, h, rfl⟩
theorem of_bl (s : Nat) (h : s < 2 ^ 64) : ofTo (ints (bl s 64)) 64 = s := by
  apply Nat.eq_of_testBit_eq
  intro i
  rw [ofTo_testBit]
  by_cases hi : i < 64
  · rw [decide_eq_true hi, Bool.true_and]
    by_cases hb : s.testBit i
    · rw [hb, decide_eq_true ((ints_mem _ _).2 ((bl_mem s 64 i).2 ⟨hi, hb⟩))]
    · rw [decide_eq_false (fun hm => hb ((bl_mem s 64 i).1 ((ints_mem _ _).1 hm)).2)]
      simpa using hb
  · rw [decide_eq_false hi, Bool.false_and]
    exact (Nat.testBit_lt_two_pow (Nat.lt_of_lt_of_le h (Nat.pow_le_pow_right (by omega) (by omega)))).symm

/-- With: the program's, the reference's. -/
theorem with_eq (s : Nat) (c : Int) (h : s < 2 ^ 64) : ofTo (ints (bl s 64) ++ [c]) 64 = s ||| bitN c := by
  apply Nat.eq_of_testBit_eq
  intro i
  rw [ofTo_testBit, Nat.testBit_or, bitN_testBit]
  have hs : s.testBit i = (decide (i < 64) && decide ((i : Int) ∈ ints (bl s 64))) := by
    rw [← ofTo_testBit, of_bl s h]
  rw [hs]
  by_cases h1 : i < 64 <;> by_cases h2 : (i : Int) = c <;> simp [h1, h2]
def without (s : Nat) (c : Int) : Nat := s &&& (18446744073709551615 - bitN c)
theorem without_testBit (s : Nat) (c : Int) (i : Nat) (h : s < 2 ^ 64) : (without s c).testBit i = (s.testBit i && !decide ((i : Int) = c)) := by
  unfold without
  rw [Nat.testBit_and, show (18446744073709551615 : Nat) - bitN c = 2 ^ 64 - (bitN c + 1) from by have := bitN_lt c; omega, Nat.testBit_two_pow_sub_succ (bitN_lt c), bitN_testBit]
  by_cases h1 : i < 64
  · simp [h1]
  · rw [Nat.testBit_lt_two_pow (Nat.lt_of_lt_of_le h (Nat.pow_le_pow_right (by omega) (by omega)))]
    simp
theorem without_eq (s : Nat) (c : Int) (h : s < 2 ^ 64) : ofTo ((ints (bl s 64)).filter (fun x => x != c)) 64 = without s c := by
  apply Nat.eq_of_testBit_eq
  intro i
  rw [ofTo_testBit, without_testBit s c i h]
  have hs : s.testBit i = (decide (i < 64) && decide ((i : Int) ∈ ints (bl s 64))) := by
    rw [← ofTo_testBit, of_bl s h]
  rw [hs]
  by_cases h1 : i < 64 <;> by_cases h2 : (i : Int) = c <;> simp [h1, h2]
theorem without_lt (s : Nat) (c : Int) (_h : s < 2 ^ 64) : without s c < 2 ^ 64 := Nat.and_lt_two_pow _ (by omega)
theorem with_lt (s : Nat) (c : Int) (h : s < 2 ^ 64) : s ||| bitN c < 2 ^ 64 := Nat.or_lt_two_pow h (bitN_lt c)
/-- Has: the program's. -/
theorem has_eq (s : Nat) (c : Int) : ((s &&& bitN c) != 0) = hasB s c := by
  unfold bitN
  split
  · rename_i h
    obtain ⟨n, rfl⟩ := Int.eq_ofNat_of_zero_le h.1
    rw [Int.toNat_natCast, hasB_nat s n (by omega), Bool.eq_iff_iff, bne_iff_ne]
    constructor
    · intro hne
      cases hb : s.testBit n
      · exfalso; apply hne
        apply Nat.eq_of_testBit_eq
        intro i
        rw [Nat.testBit_and, Nat.testBit_two_pow, Nat.zero_testBit]
        by_cases e : n = i
        · subst e; simp [hb]
        · simp [e]
      · rfl
    · intro hb he
      have := congrArg (fun x => x.testBit n) he
      simp [Nat.testBit_and, hb] at this
  · rename_i h
    rw [hasB_out s c (by omega)]
    simp
theorem back_eq (s : Nat) (c : Int) (h : s < 2 ^ 64) (hb : hasB s c = true) : without s c ||| bitN c = s := by
  apply Nat.eq_of_testBit_eq
  intro i
  rw [Nat.testBit_or, without_testBit s c i h, bitN_testBit]
  by_cases h2 : (i : Int) = c
  · subst h2
    have h3 : i ≤ 63 := by
      unfold hasB at hb
      simp at hb
      omega
    rw [hasB_nat s i h3] at hb
    simp [hb]; omega
  · simp [h2]

/-- Two sets. -/
theorem within_eq (a b : Nat) (ha : a < 2 ^ 64) (hb : b < 2 ^ 64) : (a &&& (18446744073709551615 - b) == 0) = (bl a 64).all fun c => b.testBit c := by
  rw [Bool.eq_iff_iff, beq_iff_eq, List.all_eq_true]
  have key : ∀ i, (a &&& (18446744073709551615 - b)).testBit i = (a.testBit i && !b.testBit i) := by
    intro i
    rw [Nat.testBit_and, show (18446744073709551615 : Nat) - b = 2 ^ 64 - (b + 1) from by omega, Nat.testBit_two_pow_sub_succ hb]
    by_cases h1 : i < 64
    · simp [h1]
    · rw [Nat.testBit_lt_two_pow (Nat.lt_of_lt_of_le ha (Nat.pow_le_pow_right (by omega) (by omega)))]; simp
  constructor
  · intro h i hi
    have k := key i
    rw [h, Nat.zero_testBit, ((bl_mem a 64 i).1 hi).2] at k
    simpa using k.symm
  · intro h
    apply Nat.eq_of_testBit_eq
    intro i
    rw [key, Nat.zero_testBit]
    by_cases hi : a.testBit i
    · have hlt : i < 64 := by
        by_cases h1 : i < 64
        · exact h1
        · rw [Nat.testBit_lt_two_pow (Nat.lt_of_lt_of_le ha (Nat.pow_le_pow_right (by omega) (by omega)))] at hi; cases hi
      rw [h i ((bl_mem a 64 i).2 ⟨hlt, hi⟩)]; simp
    · simp [hi]
theorem apart_eq (a b : Nat) (ha : a < 2 ^ 64) : (a &&& b == 0) = (bl a 64).all fun c => !b.testBit c := by
  rw [Bool.eq_iff_iff, beq_iff_eq, List.all_eq_true]
  constructor
  · intro h i hi
    have k := congrArg (fun x => x.testBit i) h
    simp only [Nat.testBit_and, Nat.zero_testBit, ((bl_mem a 64 i).1 hi).2] at k
    simpa using k
  · intro h
    apply Nat.eq_of_testBit_eq
    intro i
    rw [Nat.testBit_and, Nat.zero_testBit]
    by_cases hi : a.testBit i
    · have hlt : i < 64 := by
        by_cases h1 : i < 64
        · exact h1
        · rw [Nat.testBit_lt_two_pow (Nat.lt_of_lt_of_le ha (Nat.pow_le_pow_right (by omega) (by omega)))] at hi; cases hi
      have := h i ((bl_mem a 64 i).2 ⟨hlt, hi⟩)
      simp at this
      simp [this]
    · simp [hi]
/-- The lowest one struck. -/
theorem bl_step (t t' c : Nat) (h1 : t.testBit c = true) (h2 : ∀ i, i < c → t.testBit i = false) (h3 : ∀ i, t'.testBit i = (t.testBit i && !decide (i = c))) : ∀ k, c < k → bl t k = c :: bl t' k := by
  have low : ∀ k, k ≤ c → bl t k = [] ∧ bl t' k = [] := by
    intro k
    induction k with
    | zero => intro _; exact ⟨rfl, rfl⟩
    | succ k ih =>
      intro hk
      obtain ⟨a, b⟩ := ih (by omega)
      have e1 := h2 k (by omega)
      have e2 := h3 k
      rw [e1, Bool.false_and] at e2
      simp [bl, a, b, e1, e2]
  intro k
  induction k with
  | zero => intro h; omega
  | succ k ih =>
    intro hk
    by_cases e : k = c
    · subst e
      obtain ⟨a, b⟩ := low k (Nat.le_refl _)
      have e2 := h3 k
      simp at e2
      simp [bl, a, b, h1, e2]
    · have e2 := h3 k
      rw [decide_eq_false e, Bool.not_false, Bool.and_true] at e2
      rw [bl, bl, ih (by omega), e2]
      rfl
theorem strike_low (c m : Nat) :
    (2 ^ c * (2 * m + 1)).testBit c = true ∧ (∀ i, i < c → (2 ^ c * (2 * m + 1)).testBit i = false) ∧
      ∀ i, (2 ^ c * (2 * m + 1) &&& (2 ^ c * (2 * m + 1) - 1)).testBit i = ((2 ^ c * (2 * m + 1)).testBit i && !decide (i = c)) := by
  have hp : 0 < 2 ^ c := Nat.two_pow_pos c
  have e1 : 2 ^ c * (2 * m + 1) = 2 ^ c * (2 * m + 1) + 0 := rfl
  have e2 : 2 ^ c * (2 * m + 1) - 1 = 2 ^ c * (2 * m) + (2 ^ c - 1) := by rw [Nat.mul_add, Nat.mul_one]; omega
  have t1 : ∀ i, (2 ^ c * (2 * m + 1)).testBit i = if i < c then false else (2 * m + 1).testBit (i - c) := by
    intro i
    rw [e1, Nat.testBit_two_pow_mul_add _ hp, Nat.zero_testBit]
  have t2 : ∀ i, (2 ^ c * (2 * m + 1) - 1).testBit i = if i < c then (2 ^ c - 1).testBit i else (2 * m).testBit (i - c) := by
    intro i
    rw [e2, Nat.testBit_two_pow_mul_add _ (by omega)]
  have one : (2 * m + 1).testBit 0 = true := by simp
  refine ⟨by rw [t1]; simp, fun i hi => by rw [t1, if_pos hi], fun i => ?_⟩
  rw [Nat.testBit_and, t1, t2]
  by_cases h : i < c
  · simp [h]
  · rw [if_neg h, if_neg h]
    by_cases e : i = c
    · subst e; simp
    · obtain ⟨j, hj⟩ : ∃ j, i - c = j + 1 := ⟨i - c - 1, by omega⟩
      rw [hj, Nat.testBit_succ, Nat.testBit_succ, decide_eq_false e, show (2 * m + 1) / 2 = m by omega, show 2 * m / 2 = m by omega]
      simp
theorem bl_zero (k : Nat) : bl 0 k = [] := by
  induction k with
  | zero => rfl
  | succ k ih => simp [bl, ih]
end Go.Proofs.YtdeifjnhbdkkgaaGreatDoor
