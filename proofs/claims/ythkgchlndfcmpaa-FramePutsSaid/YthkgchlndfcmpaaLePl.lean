/- Plain facts on numbers as bytes, little end first: no program in sight. -/
import Derived.IntWalk
import Derived.RowKit
import Derived.Laws.BitsAllLaws
namespace Go.Proofs.Ythkgchlndfcmpaa
open Go.RowKit
set_option maxRecDepth 100000

/-- An int as a 64-bit word. -/
def word (n : Int) : Nat := (n % 18446744073709551616).toNat
theorem word_lt (n : Int) : word n < 18446744073709551616 := by unfold word; omega
/-- The low bytes of a word. -/
def leB (u : Nat) : Nat → List UInt8
  | 0 => []
  | k + 1 => leB u k ++ [UInt8.ofNat (u / 256 ^ k)]
theorem leB_len (u k : Nat) : (leB u k).length = k := by
  induction k with
  | zero => rfl
  | succ k ih => simp [leB, ih]
/-- What bytes are, as a number. -/
def getN : List UInt8 → Nat
  | [] => 0
  | c :: r => c.toNat + 256 * getN r
def wideN (n : Int) : Nat := if n < 1 then 1 else if 8 < n then 8 else n.toNat
theorem wideN_in (n : Int) : 1 ≤ wideN n ∧ wideN n ≤ 8 := by unfold wideN; split <;> (try split) <;> omega

theorem u64_wrap (y : Int) : IntKind.u64.wrap y = y % 18446744073709551616 := by simp [IntKind.wrap, IntKind.bits, IntKind.signed]
theorem u8_toNat (x : Nat) : (UInt8.ofNat x).toNat = x % 256 := by simp
theorem byte_of (n : Int) (k : Nat) (h : k < 8) : IntKind.u8.wrap (n / 2 ^ (8 * k)) = ((UInt8.ofNat (word n / 256 ^ k)).toNat : Int) := by
  rw [IntKind.wrap_u8', u8_toNat]
  unfold word
  have hk : k = 0 ∨ k = 1 ∨ k = 2 ∨ k = 3 ∨ k = 4 ∨ k = 5 ∨ k = 6 ∨ k = 7 := by omega
  rcases hk with rfl | rfl | rfl | rfl | rfl | rfl | rfl | rfl
  all_goals
    simp only [Nat.reduceMul, Nat.reducePow, Int.reducePow]
    omega
theorem word_div (n : Int) (k : Nat) : word n / 256 ^ (k + 1) = word n / 256 ^ k / 256 := by rw [Nat.pow_succ, Nat.div_div_eq_div_mul]
theorem byte_mod (u : Nat) : ((UInt8.ofNat u).toNat : Int) = ((u % 256 : Nat) : Int) := by rw [u8_toNat]

theorem getN_append (a b : List UInt8) : getN (a ++ b) = getN a + 256 ^ a.length * getN b := by
  induction a with
  | nil => simp [getN]
  | cons c r ih =>
    rw [List.cons_append, getN, ih, getN, List.length_cons, Nat.pow_succ]
    rw [Nat.mul_add, Nat.add_assoc]
    congr 2
    rw [Nat.mul_comm (256 ^ r.length) 256, Nat.mul_assoc]
theorem getN_lt (l : List UInt8) : getN l < 256 ^ l.length := by
  induction l with
  | nil => simp [getN]
  | cons c r ih =>
    rw [getN, List.length_cons, Nat.pow_succ]
    have := c.toNat_lt
    omega
theorem getN_leB (u k : Nat) : getN (leB u k) = u % 256 ^ k := by
  induction k with
  | zero => simp [leB, getN, Nat.mod_one]
  | succ k ih =>
    rw [leB, getN_append, ih, leB_len, Nat.pow_succ, Nat.mod_mul]
    simp [getN]
theorem getN_snoc (l : List UInt8) (c : UInt8) : getN (l ++ [c]) = getN l + 256 ^ l.length * c.toNat := by
  rw [getN_append]
  simp [getN]
theorem getN_take (l : List UInt8) (k : Nat) (c : UInt8) (h : l[k]? = some c) : getN (l.take (k + 1)) = getN (l.take k) + 256 ^ k * c.toNat := by
  have hk : k < l.length := (List.getElem?_eq_some_iff.1 h).1
  rw [List.take_add_one, h]
  show getN (l.take k ++ [c]) = _
  rw [getN_snoc, List.length_take, Nat.min_eq_left (by omega)]
/-- From the high end. -/
theorem getN_drop (l : List UInt8) (k : Nat) (c : UInt8) (h : l[k]? = some c) : getN (l.drop k) = c.toNat + 256 * getN (l.drop (k + 1)) := by
  have hk : k < l.length := (List.getElem?_eq_some_iff.1 h).1
  rw [List.drop_eq_getElem_cons hk, getN]
  have e : l[k] = c := by
    rw [List.getElem?_eq_getElem hk] at h
    exact Option.some.inj h
  rw [e]

/-- A byte or-ed in above. -/
theorem ofInt_wrap (x : Nat) (h : x < 18446744073709551616) : (BitVec.ofInt 64 (wrap64 x)).toNat = x := by
  rw [BitVec.toNat_ofInt]
  unfold wrap64
  have e : ((2 ^ 64 : Nat) : Int) = 18446744073709551616 := by decide
  rw [e]
  omega
theorem or_shift (N : Nat) (c : UInt8) (k : Nat) (hk : k < 8) (hN : N < 256 ^ k) : bits .or .i64 (wrap64 N) (wrap64 (wrap64 (c.toNat : Int) * 2 ^ (8 * k))) = wrap64 (N + 256 ^ k * c.toNat : Nat) := by
  have hc : c.toNat < 256 := c.toNat_lt
  have e1 : wrap64 (c.toNat : Int) = c.toNat := IntWalk.wrap64_in _ ⟨by omega, by omega⟩
  have e2 : (2 : Int) ^ (8 * k) = ((256 ^ k : Nat) : Int) := by
    rw [show (256 : Nat) ^ k = 2 ^ (8 * k) by rw [Nat.pow_mul]]
    rw [Int.natCast_pow]; rfl
  have e3 : ((c.toNat : Int) * ((256 ^ k : Nat) : Int)) = ((256 ^ k * c.toNat : Nat) : Int) := by rw [Int.natCast_mul, Int.mul_comm]
  have hp : 256 ^ k * 256 ≤ 18446744073709551616 := by
    have : 256 ^ (k + 1) ≤ 256 ^ 8 := Nat.pow_le_pow_right (by omega) (by omega)
    rw [Nat.pow_succ] at this
    exact this
  have hm : 256 ^ k * c.toNat ≤ 256 ^ k * 255 := Nat.mul_le_mul_left _ (by omega)
  have hmod : 256 ^ k * c.toNat % 2 ^ (8 * k) = 0 := by
    rw [show (2 : Nat) ^ (8 * k) = 256 ^ k by rw [Nat.pow_mul]]
    exact Nat.mul_mod_right _ _
  have hN' : N < 2 ^ (8 * k) := by rw [show (2 : Nat) ^ (8 * k) = 256 ^ k by rw [Nat.pow_mul]]; exact hN
  have hj := nat_join (8 * k) _ N hmod hN'
  rw [e1, e2, e3]
  generalize 256 ^ k = p at *
  show IntKind.i64.wrap ((BitVec.ofInt 64 (wrap64 N) ||| BitVec.ofInt 64 (wrap64 ((p * c.toNat : Nat) : Int))).toNat : Int) = _
  rw [BitVec.toNat_or, ofInt_wrap N (by omega), ofInt_wrap _ (by omega), Nat.or_comm, hj, IntKind.wrap_i64]
  unfold wrap64
  omega
theorem and_mask (n : Int) (k : Nat) (hk : k ≤ 62) : bits .and .i64 n ((2 ^ k - 1 : Nat) : Int) = ((word n % 2 ^ k : Nat) : Int) := by
  have hp : 2 ^ k ≤ 2 ^ 62 := Nat.pow_le_pow_right (by omega) hk
  have h1 : (BitVec.ofInt 64 n).toNat = word n := by
    rw [BitVec.toNat_ofInt]
    unfold word
    rw [show ((2 ^ 64 : Nat) : Int) = 18446744073709551616 by decide]
  have h2 : (BitVec.ofInt 64 ((2 ^ k - 1 : Nat) : Int)).toNat = 2 ^ k - 1 := by
    rw [BitVec.ofInt_natCast, BitVec.toNat_ofNat]
    exact Nat.mod_eq_of_lt (by omega)
  show IntKind.i64.wrap ((BitVec.ofInt 64 n &&& BitVec.ofInt 64 ((2 ^ k - 1 : Nat) : Int)).toNat : Int) = _
  rw [BitVec.toNat_and, h1, h2, Nat.and_two_pow_sub_one_eq_mod, IntKind.wrap_i64]
  have h3 : word n % 2 ^ k < 2 ^ k := Nat.mod_lt _ (Nat.two_pow_pos k)
  generalize word n % 2 ^ k = r at *
  omega
theorem want8 (n : Int) (lo : -9223372036854775808 ≤ n) (hi : n ≤ 9223372036854775807) : wrap64 ((word n : Int) % 18446744073709551616) = n := by
  unfold wrap64 word
  omega
theorem want_m (n : Int) (m : Nat) (h1 : 1 ≤ m) (h7 : m ≤ 7) : wrap64 ((word n : Int) % 256 ^ m) = bits .and .i64 n (wrap64 (wrap64 (2 ^ (8 * m)) - 1)) := by
  have e : wrap64 (wrap64 ((2 : Int) ^ (8 * m)) - 1) = ((2 ^ (8 * m) - 1 : Nat) : Int) := by
    have : m = 1 ∨ m = 2 ∨ m = 3 ∨ m = 4 ∨ m = 5 ∨ m = 6 ∨ m = 7 := by omega
    rcases this with rfl | rfl | rfl | rfl | rfl | rfl | rfl <;> decide +kernel
  rw [e, and_mask n (8 * m) (by omega)]
  have e2 : (256 : Int) ^ m = ((2 ^ (8 * m) : Nat) : Int) := by rw [Nat.pow_mul, Int.natCast_pow]; rfl
  rw [e2, ← Int.natCast_emod]
  have hp : 2 ^ (8 * m) ≤ 2 ^ 62 := Nat.pow_le_pow_right (by omega) (by omega)
  have h3 : word n % 2 ^ (8 * m) < 2 ^ (8 * m) := Nat.mod_lt _ (Nat.two_pow_pos _)
  generalize word n % 2 ^ (8 * m) = r at *
  exact IntWalk.wrap64_in _ ⟨by omega, by omega⟩
theorem want1 (n : Int) : wrap64 ((word n : Int) % 256) = bits .and .i64 n 255 := by
  have h := want_m n 1 (by omega) (by omega)
  rwa [show wrap64 (wrap64 ((2 : Int) ^ (8 * 1)) - 1) = 255 by decide +kernel, show (256 : Int) ^ 1 = 256 by decide] at h
end Go.Proofs.Ythkgchlndfcmpaa
