/- Plain facts: the number of ones of a 64-bit word, as math/bits reckons it. No program in sight. -/
import Derived.Test.YtdeifjnhbdkkgaaGreatDoorBitsPl
namespace Go.Proofs.YtdeifjnhbdkkgaaGreatDoor
set_option maxRecDepth 100000

/-- How many numbers below k are in s. -/
def cnt (s : Nat) : Nat → Nat
  | 0 => 0
  | k + 1 => cnt s k + if s.testBit k then 1 else 0
theorem bl_cnt (s k : Nat) : (bl s k).length = cnt s k := by
  induction k with
  | zero => rfl
  | succ k ih =>
    rw [bl, cnt, List.length_append, ih]
    split <;> rfl
theorem cnt_congr (s t k : Nat) (h : ∀ j, j < k → s.testBit j = t.testBit j) : cnt s k = cnt t k := by
  induction k with
  | zero => rfl
  | succ k ih => rw [cnt, cnt, ih (fun j hj => h j (by omega)), h k (by omega)]
theorem join_testBit (a v j : Nat) (ha : a < 256) : (a + 256 * v).testBit j = if j < 8 then a.testBit j else v.testBit (j - 8) := by
  rw [Nat.add_comm]
  exact Nat.testBit_two_pow_mul_add (i := 8) v ha j
theorem cnt_join (a v k : Nat) (ha : a < 256) : cnt (a + 256 * v) (8 + k) = cnt a 8 + cnt v k := by
  induction k with
  | zero =>
    rw [Nat.add_zero]
    show _ = cnt a 8 + 0
    rw [Nat.add_zero]
    exact cnt_congr _ _ _ fun j hj => by rw [join_testBit a v j ha, if_pos hj]
  | succ k ih =>
    have e : (a + 256 * v).testBit (8 + k) = v.testBit k := by rw [join_testBit a v _ ha, if_neg (by omega), show 8 + k - 8 = k by omega]
    rw [← Nat.add_assoc, show cnt (a + 256 * v) (8 + k + 1) = cnt (a + 256 * v) (8 + k) + if (a + 256 * v).testBit (8 + k) then 1 else 0 from rfl, ih, e, Nat.add_assoc]
    rfl

theorem and_join (a m x y : Nat) (ha : a < 256) (hm : m < 256) : (a + 256 * x) &&& (m + 256 * y) = (a &&& m) + 256 * (x &&& y) := by
  apply Nat.eq_of_testBit_eq
  intro j
  have hl : a &&& m < 256 := Nat.lt_of_le_of_lt Nat.and_le_left ha
  rw [Nat.testBit_and, join_testBit a x j ha, join_testBit m y j hm, join_testBit _ _ j hl]
  split <;> rw [Nat.testBit_and]

def val : List Nat → Nat
  | [] => 0
  | b :: r => b + 256 * val r
def rep (m : Nat) : Nat → Nat
  | 0 => 0
  | k + 1 => m + 256 * rep m k
def g1 (b : Nat) : Nat := (b / 2 &&& 85) + (b &&& 85)
def g2 (b : Nat) : Nat := (b / 4 &&& 51) + (b &&& 51)
def g3 (b : Nat) : Nat := (b / 16 + b) &&& 15

theorem low1 : ∀ b, b < 256 → ∀ t, t < 2 → (t * 128 + b / 2) &&& 85 = b / 2 &&& 85 := by decide +kernel
theorem low2 : ∀ b, b < 256 → ∀ t, t < 4 → (t * 64 + b / 4) &&& 51 = b / 4 &&& 51 := by decide +kernel
theorem low3 : ∀ b, b < 256 → ∀ t, t < 5 → (t * 16 + (b / 16 + b)) &&& 15 = (b / 16 + b) &&& 15 := by decide +kernel
theorem fit1 : ∀ b, b < 256 → g1 b < 256 ∧ g2 (g1 b) < 256 ∧ g2 (g1 b) % 16 ≤ 4 ∧ g2 (g1 b) / 16 ≤ 4 ∧ g3 (g2 (g1 b)) ≤ 8 ∧ g3 (g2 (g1 b)) = cnt b 8 := by decide +kernel

theorem step1 : ∀ l : List Nat, (∀ b ∈ l, b < 256) → (val l / 2 &&& rep 85 l.length) + (val l &&& rep 85 l.length) = val (l.map g1) := by
  intro l
  induction l with
  | nil => intro _; decide
  | cons b r ih =>
    intro h
    have hb := h b (by simp)
    have ih := ih fun x hx => h x (by simp [hx])
    simp only [val, rep, List.length_cons, List.map_cons]
    rw [show (b + 256 * val r) / 2 = (val r % 2 * 128 + b / 2) + 256 * (val r / 2) by omega, and_join _ 85 _ _ (by omega) (by omega), and_join b 85 _ _ hb (by omega), low1 b hb _ (by omega), ← ih]
    show _ = (b / 2 &&& 85) + (b &&& 85) + 256 * _
    omega
theorem step2 : ∀ l : List Nat, (∀ b ∈ l, b < 256) → (val l / 4 &&& rep 51 l.length) + (val l &&& rep 51 l.length) = val (l.map g2) := by
  intro l
  induction l with
  | nil => intro _; decide
  | cons b r ih =>
    intro h
    have hb := h b (by simp)
    have ih := ih fun x hx => h x (by simp [hx])
    simp only [val, rep, List.length_cons, List.map_cons]
    rw [show (b + 256 * val r) / 4 = (val r % 4 * 64 + b / 4) + 256 * (val r / 4) by omega, and_join _ 51 _ _ (by omega) (by omega), and_join b 51 _ _ hb (by omega), low2 b hb _ (by omega), ← ih]
    show _ = (b / 4 &&& 51) + (b &&& 51) + 256 * _
    omega
theorem step3 : ∀ l : List Nat, (∀ b ∈ l, b < 256 ∧ b % 16 ≤ 4 ∧ b / 16 ≤ 4) → (val l / 16 + val l) &&& rep 15 l.length = val (l.map g3) := by
  intro l
  induction l with
  | nil => intro _; decide
  | cons b r ih =>
    intro h
    obtain ⟨hb, h1, h2⟩ := h b (by simp)
    have ih := ih fun x hx => h x (by simp [hx])
    have ht : val r % 16 ≤ 4 := by
      rcases r with _ | ⟨c, r'⟩
      · simp [val]
      · have := (h c (by simp)).2.1
        simp only [val]
        omega
    simp only [val, rep, List.length_cons, List.map_cons]
    rw [show (b + 256 * val r) / 16 + (b + 256 * val r) = (val r % 16 * 16 + (b / 16 + b)) + 256 * (val r / 16 + val r) by omega, and_join _ 15 _ _ (by omega) (by omega), low3 b hb _ (by omega), ← ih]
    rfl
theorem val_lt (l : List Nat) (m : Nat) (h : ∀ b ∈ l, b ≤ m) : val l ≤ rep m l.length := by
  induction l with
  | nil => simp [val, rep]
  | cons b r ih =>
    have h1 := h b (by simp)
    have h2 := ih fun x hx => h x (by simp [hx])
    simp only [val, rep, List.length_cons]
    omega
/-- Eight bytes. -/
def bytes8 (s : Nat) : List Nat := [s % 256, s / 256 % 256, s / 65536 % 256, s / 16777216 % 256, s / 4294967296 % 256, s / 1099511627776 % 256, s / 281474976710656 % 256, s / 72057594037927936 % 256]
theorem val_bytes8 (s : Nat) (h : s < 18446744073709551616) : val (bytes8 s) = s := by
  simp only [val, bytes8]
  omega
theorem bytes8_lt (s : Nat) : ∀ b ∈ bytes8 s, b < 256 := by
  intro b hb
  simp only [bytes8, List.mem_cons, List.not_mem_nil, or_false] at hb
  rcases hb with rfl | rfl | rfl | rfl | rfl | rfl | rfl | rfl <;> exact Nat.mod_lt _ (by omega)
theorem cnt_val (l : List Nat) (h : ∀ b ∈ l, b < 256) : cnt (val l) (8 * l.length) = (l.map fun b => cnt b 8).sum := by
  induction l with
  | nil => rfl
  | cons b r ih =>
    have hb := h b (by simp)
    rw [List.length_cons, show 8 * (r.length + 1) = 8 + 8 * r.length by omega, val, cnt_join b _ _ hb, ih fun x hx => h x (by simp [hx])]
    rfl
/-- The last three steps. -/
theorem fold8 (b0 b1 b2 b3 b4 b5 b6 b7 : Nat) (h0 : b0 ≤ 8) (h1 : b1 ≤ 8) (h2 : b2 ≤ 8) (h3 : b3 ≤ 8) (h4 : b4 ≤ 8) (h5 : b5 ≤ 8) (h6 : b6 ≤ 8) (h7 : b7 ≤ 8) :
    ∃ x y z : Nat, val [b0, b1, b2, b3, b4, b5, b6, b7] = x ∧ x + x / 256 = y ∧ y + y / 65536 = z ∧ x ≤ 1000000000000000000 ∧ y ≤ 2000000000000000000 ∧ z ≤ 4000000000000000000 ∧
      (z + z / 4294967296) % 128 = b0 + b1 + b2 + b3 + b4 + b5 + b6 + b7 := by
  have ex : val [b0, b1, b2, b3, b4, b5, b6, b7] = b0 + 256 * (b1 + 256 * (b2 + 256 * (b3 + 256 * (b4 + 256 * (b5 + 256 * (b6 + 256 * b7)))))) := by simp [val]
  have d1 : ∀ b v : Nat, b < 256 → (b + 256 * v) / 256 = v := fun b v hb => by omega
  have d2 : ∀ b v : Nat, b < 65536 → (b + 65536 * v) / 65536 = v := fun b v hb => by omega
  have d3 : ∀ b v : Nat, b < 4294967296 → (b + 4294967296 * v) / 4294967296 = v := fun b v hb => by omega
  refine ⟨_, (b0 + b1 + 256 * (b1 + b2)) + 65536 * ((b2 + b3) + 256 * ((b3 + b4) + 256 * ((b4 + b5) + 256 * ((b5 + b6) + 256 * ((b6 + b7) + 256 * b7))))),
    ((b0 + b1 + b2 + b3) + 256 * (b1 + b2 + b3 + b4) + 65536 * (b2 + b3 + b4 + b5) + 16777216 * (b3 + b4 + b5 + b6)) + 4294967296 * ((b4 + b5 + b6 + b7) + 256 * ((b5 + b6 + b7) + 256 * ((b6 + b7) + 256 * b7))), ex, ?_, ?_, by omega, by omega, by omega, ?_⟩
  · rw [d1 _ _ (by omega)]; omega
  · rw [d2 _ _ (by omega)]; omega
  · rw [d3 _ _ (by omega)]; omega

/-- OnesCount64, step by step. -/
theorem ones (s : Nat) (h : s < 18446744073709551616) :
    ∃ a b c x y z : Nat, (s / 2 &&& 6148914691236517205) + (s &&& 6148914691236517205) = a ∧ (a / 4 &&& 3689348814741910323) + (a &&& 3689348814741910323) = b ∧ a < 18446744073709551616 ∧ b ≤ 4919131752989213764 ∧
      (b / 16 + b) &&& 1085102592571150095 = x ∧ x + x / 256 = y ∧ y + y / 65536 = z ∧ x ≤ 1000000000000000000 ∧ y ≤ 2000000000000000000 ∧ z ≤ 4000000000000000000 ∧ (z + z / 4294967296) % 128 = c ∧ c = (bl s 64).length := by
  have f0 := bytes8_lt s
  have e0 := val_bytes8 s h
  have e1 := step1 (bytes8 s) f0
  have f1 : ∀ b ∈ (bytes8 s).map g1, b < 256 := by
    intro b hb
    obtain ⟨c, hc, rfl⟩ := List.mem_map.1 hb
    exact (fit1 c (f0 c hc)).1
  have e2 := step2 _ f1
  have f2 : ∀ b ∈ ((bytes8 s).map g1).map g2, b < 256 ∧ b % 16 ≤ 4 ∧ b / 16 ≤ 4 := by
    intro b hb
    rw [List.map_map] at hb
    obtain ⟨c, hc, rfl⟩ := List.mem_map.1 hb
    have := fit1 c (f0 c hc)
    exact ⟨this.2.1, this.2.2.1, this.2.2.2.1⟩
  have e3 := step3 _ f2
  have b1 := val_lt _ 255 (fun b hb => by have := f1 b hb; omega)
  have b2 := val_lt _ 68 (fun b hb => by have := f2 b hb; omega)
  rw [e0, show rep 85 (bytes8 s).length = 6148914691236517205 from (show rep 85 8 = 6148914691236517205 by decide)] at e1
  rw [show rep 51 ((bytes8 s).map g1).length = 3689348814741910323 from (show rep 51 8 = 3689348814741910323 by decide)] at e2
  rw [show rep 15 (((bytes8 s).map g1).map g2).length = 1085102592571150095 from (show rep 15 8 = 1085102592571150095 by decide)] at e3
  rw [show rep 255 ((bytes8 s).map g1).length = 18446744073709551615 from (show rep 255 8 = 18446744073709551615 by decide)] at b1
  rw [show rep 68 (((bytes8 s).map g1).map g2).length = 4919131752989213764 from (show rep 68 8 = 4919131752989213764 by decide)] at b2
  have hc := cnt_val (bytes8 s) f0
  rw [e0] at hc
  have w : ∀ i, i ∈ bytes8 s → g3 (g2 (g1 i)) ≤ 8 ∧ g3 (g2 (g1 i)) = cnt i 8 := fun i hi => by
    have := fit1 i (f0 i hi)
    exact ⟨this.2.2.2.2.1, this.2.2.2.2.2⟩
  rw [List.map_map, List.map_map] at e3
  have hm : (bytes8 s).map (g3 ∘ g2 ∘ g1) = (bytes8 s).map fun b => cnt b 8 := List.map_congr_left fun i hi => (w i hi).2
  have w8 : ∀ i, i ∈ bytes8 s → cnt i 8 ≤ 8 := fun i hi => by have := w i hi; omega
  rw [show (List.map (g3 ∘ g2 ∘ g1) (bytes8 s)) = _ from hm] at e3
  rw [bl_cnt, show (64 : Nat) = 8 * (bytes8 s).length from rfl, hc]
  simp only [bytes8, List.mem_cons, List.not_mem_nil, or_false, forall_eq_or_imp, forall_eq] at w8
  obtain ⟨c0, c1, c2, c3, c4, c5, c6, c7⟩ := w8
  obtain ⟨x, y, z, x1, x2, x3, x4, x5, x6, x7⟩ := fold8 _ _ _ _ _ _ _ _ c0 c1 c2 c3 c4 c5 c6 c7
  refine ⟨_, _, _, x, y, z, e1, e2, by omega, b2, e3.trans x1, x2, x3, x4, x5, x6, rfl, ?_⟩
  rw [x7]
  simp only [bytes8, List.map_cons, List.map_nil, List.sum_cons, List.sum_nil]
  omega
end Go.Proofs.YtdeifjnhbdkkgaaGreatDoor
