/- Plain facts on numbers as bytes, little end first: no program in sight. -/
import Derived.IntWalk
import Derived.RowKit
import Derived.Laws.BitsAllLaws
namespace Go.Proofs.YtdeifjnhbdkkgaaGreatDoor
open Go.RowKit
set_option maxRecDepth 100000

/-- An int as a 64-bit word. -/
def word (n : Int) : Nat := (n % 18446744073709551616).toNat
theorem word_lt (n : Int) : word n < 18446744073709551616 := by unfold word; omega
/-- The low bytes of a word. -/
def leB (u : Nat) : Nat → List UInt8
  | 0 => []
  | k + 1 => leB u k ++ [UInt8.ofNat (u / 256 ^ k)]
theorem leB_len (u k : Nat) : (leB u k).length = k := by
  induction k with
  | zero => rfl
  | succ k ih => simp [leB, ih]
/-- What bytes are, as a number. -/
def getN : List UInt8 → Nat
  | [] => 0
  | c :: r => c.toNat + 256 * getN r
def wideN (n : Int) : Nat := if n < 1 then 1 else if 8 < n then 8 else n.toNat
theorem wideN_in (n : Int) : 1 ≤ wideN n ∧ wideN n ≤ 8 := by unfold wideN; split <;> (try split) <;> omega

theorem u64_wrap (y : Int) : IntKind.u64.wrap y = y % 18446744073709551616 := by simp [IntKind.wrap, IntKind.bits, IntKind.signed]
theorem u8_toNat (x : Nat) : (UInt8.ofNat x).toNat = x % 256 := by simp
theorem byte_of (n : Int) (k : Nat) (h : k < 8) : IntKind.u8.wrap (n / 2 ^ (8 * k)) = ((UInt8.ofNat (word n / 256 ^ k)).toNat : Int) := by
  rw [IntKind.wrap_u8', u8_toNat]
  unfold word
  have hk : k = 0 ∨ k = 1 ∨ k = 2 ∨ k = 3 ∨ k = 4 ∨ k = 5 ∨ k = 6 ∨ k = 7 := by omega
  rcases hk with rfl | rfl | rfl | rfl | rfl | rfl | rfl | rfl
  all_goals
    simp only [Nat.reduceMul, Nat.reducePow, Int.reducePow]
    omega
theorem word_div (n : Int) (k : Nat) : word n / 256 ^ (k + 1) = word n / 256 ^ k / 256 := by rw [Nat.pow_succ, Nat.div_div_eq_div_mul]
theorem byte_mod (u : Nat) : ((UInt8.ofNat u).toNat : Int) = ((u % 256 : Nat) : Int) := by rw [u8_toNat]

theorem getN_append (a b : List UInt8) : getN (a ++ b) = getN a + 256 ^ a.length * getN b := by
  induction a with
  | nil => simp [getN]
  | cons c r ih =>
    rw [List.cons_append, getN, ih, getN, List.length_cons, Nat.pow_succ]
    rw [Nat.mul_add, Nat.add_assoc]
    congr 2
    rw [Nat.mul_comm (256 ^ r.length) 256, Nat.mul_assoc]
theorem getN_lt (l : List UInt8) : getN l < 256 ^ l.length := by
  induction l with
  | nil => simp [getN]
  | cons c r ih =>
    rw [getN, List.length_cons, Nat.pow_succ]
    have := c.toNat_lt
    omega
theorem getN_leB (u k : Nat) : getN (leB u k) = u % 256 ^ k := by
  induction k with
  | zero => simp [leB, getN, Nat.mod_one]
  | succ k ih =>
    rw [leB, getN_append, ih, leB_len, Nat.pow_succ, Nat.mod_mul]
    simp [getN]
theorem getN_snoc (l : List UInt8) (c : UInt8) : getN (l ++ [c]) = getN l + 256 ^ l.length * c.toNat := by
  rw [getN_append]
  simp [getN]
theorem getN_take (l : List UInt8) (k : Nat) (c : UInt8) (h : l[k]? = some c) : getN (l.take (k + 1)) = getN (l.take k) + 256 ^ k * c.toNat := by
  have hk : k < l.length := (List.getElem?_eq_some_iff.1 h).1
  rw [List.take_add_one, h]
  show getN (l.take k ++ [c]) = _
  rw [getN_snoc, List.length_take, Nat.min_eq_left (by omega)]
/-- From the high end. -/
theorem getN_drop (l : List UInt8) (k : Nat) (c : UInt8) (h : l[k]? = some c) : getN (l.drop k) = c.toNat + 256 * getN (l.drop (k + 1)) := by
  have hk : k < l.length := (List.getElem?_eq_some_iff.1 h).1
  rw [List.drop_eq_getElem_cons hk, getN]
  have e : l[k] = c := by
    rw [List.getElem?_eq_getElem hk] at h
    exact Option.some.inj h
  rw [e]

/-- A byte or-ed in above. -/
theorem ofInt_wrap (x : Nat) (h : x < 18446744073709551616) : (BitVec.ofInt 64 (wrap64 x)).toNat = x := by
  rw [BitVec.toNat_ofInt]
  unfold wrap64
  have e : ((2 ^ 64 : Nat) : Int) = 18446744073709551616 := by decide
  rw [e]
  omega
theorem or_shift (N : Nat) (c : UInt8) (k : Nat) (hk : k < 8) (hN : N < 256 ^ k) : bits .or .i64 (wrap64 N) (wrap64 (wrap64 (c.toNat : Int) * 2 ^ (8 * k))) = wrap64 (N + 256 ^ k * c.toNat : Nat) := by
  have hc : c.toNat < 256 := c.toNat_lt
  have e1 : wrap64 (c.toNat : Int) = c.toNat := IntWalk.wrap64_in _ ⟨by omega, by omega⟩
  have e2 : (2 : Int) ^ (8 * k) = ((256 ^ k : Nat) : Int) := by
    rw [show (256 : Nat) ^ k = 2 ^ (8 * k) by rw [Nat.pow_mul]]
    rw [Int.natCast_pow]; rfl
  have e3 : ((c.toNat : Int) * ((256 ^ k : Nat) : Int)) = ((256 ^ k * c.toNat : Nat) : Int) := by rw [Int.natCast_mul, Int.mul_comm]
  have hp : 256 ^ k * 256 ≤ 18446744073709551616 := by
    have : 256 ^ (k + 1) ≤ 256 ^ 8 := Nat.pow_le_pow_right (by omega) (by omega)
    rw [Nat.pow_succ] at this
    exact this
  have hm : 256 ^ k * c.toNat ≤ 256 ^ k * 255 := Nat.mul_le_mul_left _ (by omega)
  have hmod : 256 ^ k * c.toNat % 2 ^ (8 * k) = 0 := by
    rw [show (2 : Nat) ^ (8 * k) = 256 ^ k by rw [Nat.pow_mul]]
    exact Nat.mul_mod_right _ _
  have hN' : N < 2 ^ (8 * k) := by rw [show (2 : Nat) ^ (8 * k) = 256 ^ k by rw [Nat.pow_mul]]; exact hN
  have hj := nat_join (8 * k) _ N hmod hN'
  rw [e1, e2, e3]
  generalize 256 ^ k = p at *
  show IntKind.i64.wrap ((BitVec.ofInt 64 (wrap64 N) ||| BitVec.ofInt 64 (wrap64 ((p * c.toNat : Nat) : Int))).toNat : Int) = _
  rw [BitVec.toNat_or, ofInt_wrap N (by omega), ofInt_wrap _ (by omega), Nat.or_comm, hj, IntKind.wrap_i64]
  unfold wrap64
  omega
theorem and_mask (n : Int) (k : Nat) (hk : k ≤ 62) : bits .and .i64 n ((2 ^ k - 1 : Nat) : Int) = ((word n % 2 ^ k : Nat) : Int) := by
  have hp : 2 ^ k ≤ 2 ^ 62 := Nat.pow_le_pow_right (by omega) hk
  have h1 : (BitVec.ofInt 64 n).toNat = word n := by
    rw [BitVec.toNat_ofInt]
    unfold word
    rw [show ((2 ^ 64 : Nat) : Int) = 18446744073709551616 by decide]
  have h2 : (BitVec.ofInt 64 ((2 ^ k - 1 : Nat) : Int)).toNat = 2 ^ k - 1 := by
    rw [BitVec.ofInt_natCast, BitVec.toNat_ofNat]
    exact Nat.mod_eq_of_lt (by omega)
  show IntKind.i64.wrap ((BitVec.ofInt 64 n &&& BitVec.ofInt 64 ((2 ^ k - 1 : Nat) : Int)).toNat : Int) = _
  rw [BitVec.toNat_and, h1, h2, Nat.and_two_pow_sub_one_eq_mod, IntKind.wrap_i64]
  have h3 : word n % 2 ^ k < 2 ^ k := Nat.mod_lt _ (Nat.two_pow_pos k)
  generalize word n % 2 ^ k = r at *
  omega
theorem want8 (n : Int) (lo : -9223372036854775808 ≤ n) (hi : n ≤ 9223372036854775807) : wrap64 ((word n : Int) % 18446744073709551616) = n := by
  unfold wrap64 word
  omega
theorem want_m (n : Int) (m : Nat) (h1 : 1 ≤ m) (h7 : m ≤ 7) : wrap64 ((word n : Int) % 256 ^ m) = bits .and .i64 n (wrap64 (wrap64 (2 ^ (8 * m)) - 1)) := by
  have e : wrap64 (wrap64 ((2 : Int) ^ (8 * m)) - 1) = ((2 ^ (8 * m) - 1 : Nat) : Int) := by
    have : m = 1 ∨ m = 2 ∨ m = 3 ∨ m = 4 ∨ m = 5 ∨ m = 6 ∨ m = 7 := by omega
    rcases this with rfl | rfl | rfl | rfl | rfl | rfl | rfl <;> decide +kernel
  rw [e, and_mask n (8 * m) (by omega)]
  have e2 : (256 : Int) ^ m = ((2 ^ (8 * m) : Nat) : Int) := by rw [Nat.pow_mul, Int.natCast_pow]; rfl
  rw [e2, ← Int.natCast_emod]
  have hp : 2 ^ (8 * m) ≤ 2 ^ 62 := Nat.pow_le_pow_right (by omega) (by omega)
  have h3 : word n % 2 ^ (8 * m) < 2 ^ (8 * m) := Nat.mod_lt _ (Nat.two_pow_pos _)
  generalize word n % 2 ^ (8 * m) = r at *
  exact IntWalk.wrap64_in _ ⟨by omega, by omega⟩
theorem want1 (n : Int) : wrap64 ((word n : Int) % 256) = bits .and .i64 n 255 := by
  have h := want_m n 1 (by omega) (by omega)
  rwa [show wrap64 (wrap64 ((2 : Int) ^ (8 * 1)) - 1) = 255 by decide +kernel, show (256 : Int) ^ 1 = 256 by decide] at h
end Go.Proofs.YtdeifjnhbdkkgaaGreatDoor
namespace Go.Proofs.YtdeifjnhbdkkgaaGreatDoor
open Go.RowKit
set_option maxRecDepth 100000

structure Cmd where
  do_ : Int
  loc : Bool
  idx : Int
  gen : Int
  comp : Int
  l : List UInt8
/-- Is it one of the four? -/
def knownC (d : Int) : Bool := decide (0 ≤ d ∧ d ≤ 3)
/-- What counts of it. -/
def plainC (x : Cmd) : Cmd :=
  if knownC x.do_ = false then x
  else if x.do_ = 0 then ⟨0, false, 0, 0, 0, []⟩
  else ⟨x.do_, x.loc, x.idx, if x.loc then 0 else x.gen, if x.do_ = 1 then 0 else x.comp, if x.do_ = 2 then x.l else []⟩
def exactC (a b : Cmd) : Bool := decide (a.do_ = b.do_) && (decide (a.loc = b.loc) && (decide (a.idx = b.idx ∧ a.gen = b.gen) && (decide (a.comp = b.comp) && decide (a.l = b.l))))
def sameC (a b : Cmd) : Bool := exactC (plainC a) (plainC b)
theorem exactC_self (a : Cmd) : exactC a a = true := by simp [exactC]
theorem exactC_iff {a b : Cmd} : exactC a b = true ↔ a = b := by
  obtain ⟨a1, a2, a3, a4, a5, a6⟩ := a
  obtain ⟨b1, b2, b3, b4, b5, b6⟩ := b
  simp [exactC, and_assoc]
theorem plainC_do (x : Cmd) : (plainC x).do_ = x.do_ := by
  unfold plainC
  split
  · rfl
  · split
    · rename_i h; exact h.symm
    · rfl
theorem plainC_idem (x : Cmd) : plainC (plainC x) = plainC x := by
  by_cases h : knownC x.do_ = false
  · have e : plainC x = x := by unfold plainC; rw [if_pos h]
    rw [e, e]
  · by_cases h0 : x.do_ = 0
    · have e : plainC x = ⟨0, false, 0, 0, 0, []⟩ := by unfold plainC; rw [if_neg h, if_pos h0]
      rw [e]; rfl
    · have e : plainC x = ⟨x.do_, x.loc, x.idx, if x.loc then 0 else x.gen, if x.do_ = 1 then 0 else x.comp, if x.do_ = 2 then x.l else []⟩ := by unfold plainC; rw [if_neg h, if_neg h0]
      rw [e]
      unfold plainC
      simp only [if_neg h, if_neg h0]
      cases x.loc <;> (split <;> split <;> simp_all)
theorem sameC_plain (x : Cmd) : sameC x (plainC x) = true := by
  unfold sameC
  rw [plainC_idem]
  exact exactC_self _
theorem plainC_len (x : Cmd) : (plainC x).l.length ≤ x.l.length := by
  unfold plainC
  split
  · exact Nat.le_refl _
  · split
    · exact Nat.zero_le _
    · show (if x.do_ = 2 then x.l else []).length ≤ _
      split
      · exact Nat.le_refl _
      · exact Nat.zero_le _

/-- Its bytes. -/
def bytesC (x : Cmd) : List UInt8 :=
  if knownC x.do_ = false then [255]
  else leB (word x.do_) 1 ++ (if x.do_ = 0 then [] else
    (if x.loc then [1] ++ leB (word x.idx) 8 else [0] ++ (leB (word x.idx) 8 ++ leB (word x.gen) 8)) ++
    ((if x.do_ = 1 then [] else leB (word x.comp) 8) ++ (if x.do_ = 2 then leB (word (x.l.length : Nat)) 2 ++ x.l else [])))
end Go.Proofs.YtdeifjnhbdkkgaaGreatDoor
namespace Go.Proofs.YtdeifjnhbdkkgaaGreatDoor
open Go.RowKit
set_option maxRecDepth 100000
set_option linter.unusedVariables false

structure Cp where
  nm : ByteArray
  sz : Int
instance : Inhabited Cp := ⟨⟨ByteArray.empty, 0⟩⟩
structure Cf where
  log : Int
  pages : Int
  ents : Int
  gens : Int
  l : List Cp
/-- A byte of a text. -/
def chZ (s : ByteArray) (k : Nat) : Int := ((s.data.toList.getD k 0).toNat : Nat)
theorem chZ_bd (s : ByteArray) (k : Nat) : 0 ≤ chZ s k ∧ chZ s k ≤ 255 := by
  unfold chZ
  have h2 : (s.data.toList.getD k 0).toNat < 256 := (s.data.toList.getD k 0).toNat_lt
  omega
def letterZ (z : Int) : Bool := decide ((97 ≤ z ∧ z ≤ 122) ∨ (48 ≤ z ∧ z ≤ 57) ∨ z = 95)
/-- Are its first k bytes letters? -/
def lettersTo (s : ByteArray) (k : Nat) : Prop := ∀ i, i < k → letterZ (chZ s i) = true
theorem lettersTo_zero (s : ByteArray) : lettersTo s 0 := fun i h => absurd h (by omega)
theorem lettersTo_next {s : ByteArray} {k : Nat} (h : lettersTo s k) (hk : letterZ (chZ s k) = true) : lettersTo s (k + 1) := fun i hi => by
  by_cases e : i = k
  · subst e; exact hk
  · exact h i (by omega)
instance (s : ByteArray) (k : Nat) : Decidable (lettersTo s k) := inferInstanceAs (Decidable (∀ i, i < k → letterZ (chZ s i) = true))
/-- May it be a name? -/
def nameB (s : ByteArray) : Bool := decide (1 ≤ s.size ∧ s.size ≤ 16 ∧ lettersTo s s.size)
/-- The first of that name; the length, where none has it. -/
def findN (l : List Cp) (nm : ByteArray) : Nat := l.findIdx (fun x => decide (x.nm = nm))
def nmAt (l : List Cp) (k : Nat) : ByteArray := (l.getD k default).nm
def szAt (l : List Cp) (k : Nat) : Int := (l.getD k default).sz
/-- None of the first k has that name. -/
def noneTo (l : List Cp) (nm : ByteArray) (k : Nat) : Prop := ∀ i, i < k → nmAt l i ≠ nm
instance (l : List Cp) (nm : ByteArray) (k : Nat) : Decidable (noneTo l nm k) := inferInstanceAs (Decidable (∀ i, i < k → nmAt l i ≠ nm))
theorem noneTo_zero (l : List Cp) (nm : ByteArray) : noneTo l nm 0 := fun i h => absurd h (by omega)
theorem noneTo_next {l : List Cp} {nm : ByteArray} {k : Nat} (h : noneTo l nm k) (hk : nmAt l k ≠ nm) : noneTo l nm (k + 1) := fun i hi => by
  by_cases e : i = k
  · subst e; exact hk
  · exact h i (by omega)
theorem nmAt_of {l : List Cp} {k : Nat} {x : Cp} (h : l[k]? = some x) : nmAt l k = x.nm := by
  unfold nmAt
  rw [List.getD_eq_getElem?_getD, h]; rfl
theorem szAt_of {l : List Cp} {k : Nat} {x : Cp} (h : l[k]? = some x) : szAt l k = x.sz := by
  unfold szAt
  rw [List.getD_eq_getElem?_getD, h]; rfl
theorem findN_le (l : List Cp) (nm : ByteArray) : findN l nm ≤ l.length := List.findIdx_le_length
theorem findN_at {l : List Cp} {nm : ByteArray} {k : Nat} (hk : k < l.length) (h : noneTo l nm k) (he : nmAt l k = nm) : findN l nm = k := by
  unfold findN
  have hx := List.getElem?_eq_getElem hk
  rw [List.findIdx_eq hk]
  refine ⟨by rw [nmAt_of hx] at he; simpa using he, fun j hj => ?_⟩
  have h2 := h j hj
  rw [nmAt_of (List.getElem?_eq_getElem (by omega))] at h2
  simpa using h2
theorem findN_no {l : List Cp} {nm : ByteArray} (h : noneTo l nm l.length) : findN l nm = l.length := by
  unfold findN
  rw [List.findIdx_eq_length]
  intro x hx
  obtain ⟨i, hi, rfl⟩ := List.getElem_of_mem hx
  have h2 := h i hi
  rw [nmAt_of (List.getElem?_eq_getElem hi)] at h2
  simpa using h2
theorem findN_none {l : List Cp} {nm : ByteArray} {k : Nat} (hk : k ≤ findN l nm) : noneTo l nm k := fun i hi => by
  have hl := findN_le l nm
  have h := List.not_of_lt_findIdx (p := fun x : Cp => decide (x.nm = nm)) (xs := l) (i := i) (show i < findN l nm by omega)
  rw [nmAt_of (List.getElem?_eq_getElem (by omega))]
  simpa using h
/-- May the k-th be? -/
def okAtC (l : List Cp) (k : Nat) : Prop := noneTo l (nmAt l k) k ∧ nameB (nmAt l k) = true ∧ 0 ≤ szAt l k ∧ szAt l k ≤ 64
instance (l : List Cp) (k : Nat) : Decidable (okAtC l k) := inferInstanceAs (Decidable (noneTo l (nmAt l k) k ∧ nameB (nmAt l k) = true ∧ 0 ≤ szAt l k ∧ szAt l k ≤ 64))
def okTo (l : List Cp) (k : Nat) : Prop := ∀ i, i < k → okAtC l i
instance (l : List Cp) (k : Nat) : Decidable (okTo l k) := inferInstanceAs (Decidable (∀ i, i < k → okAtC l i))
theorem okTo_zero (l : List Cp) : okTo l 0 := fun i h => absurd h (by omega)
theorem okTo_next {l : List Cp} {k : Nat} (h : okTo l k) (hk : okAtC l k) : okTo l (k + 1) := fun i hi => by
  by_cases e : i = k
  · subst e; exact hk
  · exact h i (by omega)
theorem find_self {l : List Cp} {k : Nat} (hk : k < l.length) : findN l (nmAt l k) = k ↔ noneTo l (nmAt l k) k := by
  constructor
  · intro h
    exact findN_none (by omega)
  · intro h
    exact findN_at hk h rfl
/-- Its numbers. -/
def sizesOk (c : Cf) : Prop := (2 ≤ c.log ∧ c.log ≤ 1024) ∧ (4 ≤ c.pages ∧ c.pages ≤ 1024) ∧ (1 ≤ c.ents ∧ c.ents ≤ 1024) ∧ (1 ≤ c.gens ∧ c.gens ≤ 1073741824) ∧ c.l.length ≤ 32
instance (c : Cf) : Decidable (sizesOk c) := inferInstanceAs (Decidable (_ ∧ _))
/-- May it be? -/
def rightB (c : Cf) : Bool := decide (sizesOk c ∧ okTo c.l c.l.length)
theorem rightB_yes {c : Cf} (h : sizesOk c) (h2 : okTo c.l c.l.length) : rightB c = true := decide_eq_true ⟨h, h2⟩
theorem rightB_no {c : Cf} (h : ¬ sizesOk c) : rightB c = false := decide_eq_false (fun h2 => h h2.1)
theorem rightB_no2 {c : Cf} {k : Nat} (hk : k < c.l.length) (h : ¬ okAtC c.l k) : rightB c = false := decide_eq_false (fun h2 => h (h2.2 k hk))
/-- More than is asked? -/
def bigTo (l : List Cp) (k : Nat) : Prop := ∀ i, i < k → i < 50 → (nmAt l i).size ≤ 100
instance (l : List Cp) (k : Nat) : Decidable (bigTo l k) := inferInstanceAs (Decidable (∀ i, i < k → i < 50 → (nmAt l i).size ≤ 100))
def muchB (l : List Cp) : Bool := decide (40 < l.length ∨ ¬ bigTo l l.length)
end Go.Proofs.YtdeifjnhbdkkgaaGreatDoor
namespace Go.Proofs.YtdeifjnhbdkkgaaGreatDoor
open Go.RowKit
set_option maxRecDepth 100000
set_option linter.unusedVariables false

structure Fa where
  kept : Int
  torn : Int
deriving DecidableEq
instance : Inhabited Fa := ⟨⟨0, 0⟩⟩
structure Ac where
  do_ : Int
  c : Cmd
  room : Int
  frames : Int
  n : Int
  fa : List Fa
  fu : List Int
def zeroCm : Cmd := ⟨0, false, 0, 0, 0, []⟩
/-- What counts of it. -/
def plainA (x : Ac) : Ac :=
  if x.do_ = 0 then ⟨0, plainC x.c, 0, 0, 0, [], []⟩
  else if x.do_ = 4 then ⟨4, zeroCm, x.room, x.frames, 0, [], []⟩
  else if x.do_ = 5 then ⟨5, zeroCm, 0, 0, x.n, [], []⟩
  else if x.do_ = 6 then ⟨6, zeroCm, 0, 0, 0, x.fa, x.fu⟩
  else ⟨x.do_, zeroCm, 0, 0, 0, [], []⟩
def exactA (a b : Ac) : Bool := decide (a.do_ = b.do_) && (exactC a.c b.c && (decide (a.room = b.room ∧ a.frames = b.frames) && (decide (a.n = b.n) && (decide (a.fu = b.fu) && decide (a.fa = b.fa)))))
theorem exactA_self (a : Ac) : exactA a a = true := by simp [exactA, exactC_self]
theorem exactA_iff {a b : Ac} : exactA a b = true ↔ a = b := by
  obtain ⟨a1, a2, a3, a4, a5, a6, a7⟩ := a
  obtain ⟨b1, b2, b3, b4, b5, b6, b7⟩ := b
  simp only [exactA, Bool.and_eq_true, decide_eq_true_iff, exactC_iff, Ac.mk.injEq]
  constructor
  · rintro ⟨h1, h2, ⟨h3, h4⟩, h5, h6, h7⟩
    exact ⟨h1, h2, h3, h4, h5, h7, h6⟩
  · rintro ⟨h1, h2, h3, h4, h5, h7, h6⟩
    exact ⟨h1, h2, ⟨h3, h4⟩, h5, h6, h7⟩
theorem plainA_do (x : Ac) : (plainA x).do_ = x.do_ := by
  unfold plainA
  split
  · rename_i h; exact h.symm
  · split
    · rename_i h; exact h.symm
    · split
      · rename_i h; exact h.symm
      · split
        · rename_i h; exact h.symm
        · rfl
theorem plainA_idem (x : Ac) : plainA (plainA x) = plainA x := by
  by_cases h0 : x.do_ = 0
  · have e : plainA x = ⟨0, plainC x.c, 0, 0, 0, [], []⟩ := by unfold plainA; rw [if_pos h0]
    rw [e]
    unfold plainA
    rw [if_pos rfl, plainC_idem]
  by_cases h4 : x.do_ = 4
  · have e : plainA x = ⟨4, zeroCm, x.room, x.frames, 0, [], []⟩ := by unfold plainA; rw [if_neg h0, if_pos h4]
    rw [e]; rfl
  by_cases h5 : x.do_ = 5
  · have e : plainA x = ⟨5, zeroCm, 0, 0, x.n, [], []⟩ := by unfold plainA; rw [if_neg h0, if_neg h4, if_pos h5]
    rw [e]; rfl
  by_cases h6 : x.do_ = 6
  · have e : plainA x = ⟨6, zeroCm, 0, 0, 0, x.fa, x.fu⟩ := by unfold plainA; rw [if_neg h0, if_neg h4, if_neg h5, if_pos h6]
    rw [e]; rfl
  · have e : plainA x = ⟨x.do_, zeroCm, 0, 0, 0, [], []⟩ := by unfold plainA; rw [if_neg h0, if_neg h4, if_neg h5, if_neg h6]
    rw [e]
    unfold plainA
    simp only [if_neg h0, if_neg h4, if_neg h5, if_neg h6]
/-- How script.Same goes about it. -/
def sameA (a b : Ac) : Bool :=
  decide ((plainA a).do_ = (plainA b).do_) && ((if (plainA a).do_ = 0 then exactC (plainA a).c (plainA b).c else sameC (plainA a).c (plainA b).c) && (decide ((plainA a).room = (plainA b).room ∧ (plainA a).frames = (plainA b).frames) && (decide ((plainA a).n = (plainA b).n) && (decide ((plainA a).fa = (plainA b).fa) && decide ((plainA a).fu = (plainA b).fu)))))
theorem plainA_c {x : Ac} (h : x.do_ ≠ 0) : (plainA x).c = zeroCm := by
  unfold plainA
  rw [if_neg h]
  split
  · rfl
  · split
    · rfl
    · split <;> rfl
theorem sameA_eq (a b : Ac) : sameA a b = exactA (plainA a) (plainA b) := by
  unfold sameA exactA
  rw [plainA_do, plainA_do]
  by_cases hd : a.do_ = b.do_
  · rw [decide_eq_true hd]
    have e : (if a.do_ = 0 then exactC (plainA a).c (plainA b).c else sameC (plainA a).c (plainA b).c) = exactC (plainA a).c (plainA b).c := by
      by_cases h0 : a.do_ = 0
      · rw [if_pos h0]
      · rw [if_neg h0, plainA_c h0, plainA_c (by rw [← hd]; exact h0)]
        rfl
    rw [e]
    generalize decide ((plainA a).fa = (plainA b).fa) = p
    generalize decide ((plainA a).fu = (plainA b).fu) = q
    rw [Bool.and_comm p q]
  · rw [decide_eq_false hd, Bool.false_and, Bool.false_and]
def rightA (x : Ac) : Bool := decide ((0 ≤ x.do_ ∧ x.do_ ≤ 6) ∧ x.fa.length ≤ 65535 ∧ x.fu.length ≤ 65535) && (decide (x.do_ ≠ 0) || (knownC x.c.do_ && decide (x.c.l.length ≤ 64)))
/-- More than is asked? -/
def bigA (x : Ac) : Bool := decide (200 < x.c.l.length ∨ 40 < x.fa.length ∨ 10 < x.fu.length)
end Go.Proofs.YtdeifjnhbdkkgaaGreatDoor
namespace Go.Proofs.YtdeifjnhbdkkgaaGreatDoor
open Go.RowKit
set_option maxRecDepth 100000
set_option linter.unusedVariables false

def fateB (f : Fa) : List UInt8 := leB (word f.kept) 8 ++ leB (word f.torn) 8
def fuseB (z : Int) : List UInt8 := leB (word z) 8
def fatesB (l : List Fa) (k : Nat) : List UInt8 := (l.take k).flatMap fateB
def fusesB (l : List Int) (k : Nat) : List UInt8 := (l.take k).flatMap fuseB
def tailA (x : Ac) : List UInt8 :=
  if x.do_ = 0 then bytesC x.c
  else if x.do_ = 4 then leB (word x.room) 8 ++ leB (word x.frames) 8
  else if x.do_ = 5 then leB (word x.n) 8
  else if x.do_ = 6 then ((leB (word (x.fa.length : Nat)) 2 ++ fatesB x.fa x.fa.length) ++ leB (word (x.fu.length : Nat)) 2) ++ fusesB x.fu x.fu.length
  else []
theorem tailA_eq (x : Ac) : tailA x = (if x.do_ = 0 then bytesC x.c
  else if x.do_ = 4 then leB (word x.room) 8 ++ leB (word x.frames) 8
  else if x.do_ = 5 then leB (word x.n) 8
  else if x.do_ = 6 then ((leB (word (x.fa.length : Nat)) 2 ++ fatesB x.fa x.fa.length) ++ leB (word (x.fu.length : Nat)) 2) ++ fusesB x.fu x.fu.length
  else []) := rfl
/-- An act's bytes. -/
def oneB (x : Ac) : List UInt8 := leB (word x.do_) 1 ++ tailA x
theorem fatesB_len (l : List Fa) (k : Nat) : (fatesB l k).length ≤ k * 16 := by
  unfold fatesB
  have h : ∀ (l : List Fa), (l.flatMap fateB).length = l.length * 16 := by
    intro l
    induction l with
    | nil => rfl
    | cons x l ih => rw [List.flatMap_cons, List.length_append, ih, List.length_cons]; unfold fateB; rw [List.length_append, leB_len, leB_len]; omega
  rw [h, List.length_take]
  exact Nat.mul_le_mul_right _ (by omega)
theorem fusesB_len (l : List Int) (k : Nat) : (fusesB l k).length ≤ k * 8 := by
  unfold fusesB
  have h : ∀ (l : List Int), (l.flatMap fuseB).length = l.length * 8 := by
    intro l
    induction l with
    | nil => rfl
    | cons x l ih => rw [List.flatMap_cons, List.length_append, ih, List.length_cons]; unfold fuseB; rw [leB_len]; omega
  rw [h, List.length_take]
  exact Nat.mul_le_mul_right _ (by omega)
theorem fatesB_next {l : List Fa} {k : Nat} {x : Fa} (hx : l[k]? = some x) : fatesB l (k + 1) = (fatesB l k ++ leB (word x.kept) 8) ++ leB (word x.torn) 8 := by
  unfold fatesB
  rw [List.take_add_one, hx, Option.toList_some, List.flatMap_append, List.flatMap_cons, List.flatMap_nil, List.append_nil, List.append_assoc]
  rfl
theorem fusesB_next {l : List Int} {k : Nat} {x : Int} (hx : l[k]? = some x) : fusesB l (k + 1) = fusesB l k ++ leB (word x) 8 := by
  unfold fusesB
  rw [List.take_add_one, hx, Option.toList_some, List.flatMap_append, List.flatMap_cons, List.flatMap_nil, List.append_nil]
  rfl
def putsB (l : List Ac) (k : Nat) : List UInt8 := (l.take k).flatMap (fun x => if rightA x = true then oneB x else [])
theorem putsB_next {l : List Ac} {k : Nat} {x : Ac} (hx : l[k]? = some x) : putsB l (k + 1) = putsB l k ++ (if rightA x = true then oneB x else []) := by
  unfold putsB
  rw [List.take_add_one, hx, Option.toList_some, List.flatMap_append, List.flatMap_cons, List.flatMap_nil, List.append_nil]
theorem bytesC_le (x : Cmd) : (bytesC x).length ≤ x.l.length + 60 := by
  unfold bytesC
  repeat' split
  all_goals (simp only [List.length_append, leB_len, List.length_cons, List.length_nil]; omega)
/-- An act that is small. -/
def smallA (x : Ac) : Prop := x.c.l.length ≤ 1000000 ∧ x.fa.length ≤ 1000000 ∧ x.fu.length ≤ 1000000
end Go.Proofs.YtdeifjnhbdkkgaaGreatDoor
namespace Go.Proofs.YtdeifjnhbdkkgaaGreatDoor
open Go.RowKit

theorem getN_inj : ∀ {a b : List UInt8}, a.length = b.length → getN a = getN b → a = b
  | [], [], _, _ => rfl
  | c :: a, d :: b, hl, h => by
    rw [getN, getN] at h
    have h1 := c.toNat_lt
    have h2 := d.toNat_lt
    have hcd : c = d := UInt8.toNat_inj.1 (by omega)
    have : getN a = getN b := by omega
    rw [hcd, getN_inj (by simpa using hl) this]
  | [], _ :: _, hl, _ => by simp at hl
  | _ :: _, [], hl, _ => by simp at hl
theorem leB_getN (l : List UInt8) : leB (getN l) l.length = l := by
  apply getN_inj (leB_len _ _)
  rw [getN_leB, Nat.mod_eq_of_lt (getN_lt l)]
theorem leB_of {l : List UInt8} {u k : Nat} (hl : l.length = k) (h : getN l = u) : l = leB u k := by rw [← h, ← hl, leB_getN]

def need (n : Nat) : Nat := if n ≤ 460 then 1 else (n - 1) / 460 + 1
def hdrB (i n seq : Nat) : List UInt8 := leB i 2 ++ (leB n 2 ++ leB seq 8)
theorem hdrB_len (i n seq : Nat) : (hdrB i n seq).length = 12 := by simp [hdrB, leB_len]
def clampSeq (z : Int) : Nat := if z < 0 then 0 else if 281474976710656 < z then 281474976710656 else z.toNat
theorem clampSeq_le (z : Int) : clampSeq z ≤ 281474976710656 := by unfold clampSeq; split <;> (try split) <;> omega
theorem clampSeq_nat {n : Nat} (h : n ≤ 281474976710656) : clampSeq n = n := by
  unfold clampSeq; rw [if_neg (by omega), if_neg (by omega)]; omega
def chunk (b : List UInt8) (i : Nat) : List UInt8 := (b.drop (460 * i)).take 460
def pieces (seq : Nat) (b : List UInt8) (n : Nat) : List (List UInt8) := (List.range n).map fun i => hdrB i n seq ++ chunk b i
theorem pieces_len (seq : Nat) (b : List UInt8) (n : Nat) : (pieces seq b n).length = n := by simp [pieces]
theorem pieces_at {seq : Nat} {b : List UInt8} {n i : Nat} (h : i < n) : (pieces seq b n)[i]? = some (hdrB i n seq ++ chunk b i) := by
  simp [pieces, h]
def splitL (z : Int) (b : List UInt8) : List (List UInt8) := if 1024 < need b.length then [] else pieces (clampSeq z) b (need b.length)

/-- The fields of a head. -/
def hPlace (p : List UInt8) : Nat := getN (p.take 2)
def hCount (p : List UInt8) : Nat := getN ((p.drop 2).take 2)
def hSeq (p : List UInt8) : Int := wrap64 (getN ((p.drop 4).take 8))
def headOk (p : List UInt8) : Bool := decide (12 ≤ p.length ∧ p.length ≤ 472 ∧ 1 ≤ hCount p ∧ hCount p ≤ 1024 ∧ hPlace p < hCount p ∧ 0 ≤ hSeq p ∧ hSeq p ≤ 281474976710656)
theorem wrap64_small {n : Nat} (h : n < 9223372036854775808) : wrap64 (n : Int) = n := by
  unfold wrap64; omega
theorem wrap64_nat {n : Nat} (h : n < 18446744073709551616) (h0 : 0 ≤ wrap64 (n : Int)) : wrap64 (n : Int) = n := by
  unfold wrap64 at *; omega
/-- A head that may be is one of three numbers. -/
theorem head_is {p : List UInt8} (h : headOk p = true) : p = hdrB (hPlace p) (hCount p) (hSeq p).toNat ++ p.drop 12 := by
  have h := of_decide_eq_true h
  obtain ⟨h1, h2, h3, h4, h5, h6, h7⟩ := h
  have l1 : (p.take 2).length = 2 := by rw [List.length_take]; omega
  have l2 : ((p.drop 2).take 2).length = 2 := by rw [List.length_take, List.length_drop]; omega
  have l3 : ((p.drop 4).take 8).length = 8 := by rw [List.length_take, List.length_drop]; omega
  have e1 : p.take 2 = leB (hPlace p) 2 := leB_of l1 rfl
  have e2 : (p.drop 2).take 2 = leB (hCount p) 2 := leB_of l2 rfl
  have e3 : (p.drop 4).take 8 = leB (hSeq p).toNat 8 := leB_of l3 (by
    have := getN_lt ((p.drop 4).take 8)
    rw [l3] at this
    have hw : hSeq p = (getN ((p.drop 4).take 8) : Int) := wrap64_nat this h6
    rw [hw]; omega)
  unfold hdrB
  rw [← e1, ← e2, ← e3]
  have a1 : p = p.take 2 ++ p.drop 2 := (List.take_append_drop 2 p).symm
  have a2 : p.drop 2 = (p.drop 2).take 2 ++ p.drop 4 := by
    have := (List.take_append_drop 2 (p.drop 2)).symm; rw [List.drop_drop] at this; exact this
  have a3 : p.drop 4 = (p.drop 4).take 8 ++ p.drop 12 := by
    have := (List.take_append_drop 8 (p.drop 4)).symm; rw [List.drop_drop] at this; exact this
  rw [List.append_assoc, List.append_assoc, ← a3, ← a2, ← a1]
theorem hdr_fields {i n seq : Nat} (c : List UInt8) (hi : i < 65536) (hn : n < 65536) (hs : seq ≤ 281474976710656) :
    hPlace (hdrB i n seq ++ c) = i ∧ hCount (hdrB i n seq ++ c) = n ∧ hSeq (hdrB i n seq ++ c) = seq := by
  have e1 : (hdrB i n seq ++ c).take 2 = leB i 2 := by
    unfold hdrB; rw [List.append_assoc, List.take_left' (leB_len i 2)]
  have e2 : ((hdrB i n seq ++ c).drop 2).take 2 = leB n 2 := by
    unfold hdrB; rw [List.append_assoc, List.drop_left' (leB_len i 2), List.append_assoc, List.take_left' (leB_len n 2)]
  have e3 : ((hdrB i n seq ++ c).drop 4).take 8 = leB seq 8 := by
    have : ((hdrB i n seq ++ c).drop 4) = ((hdrB i n seq ++ c).drop 2).drop 2 := by rw [List.drop_drop]
    rw [this]
    unfold hdrB; rw [List.append_assoc, List.drop_left' (leB_len i 2), List.append_assoc, List.drop_left' (leB_len n 2), List.take_left' (leB_len seq 8)]
  unfold hPlace hCount hSeq
  rw [e1, e2, e3, getN_leB, getN_leB, getN_leB]
  refine ⟨Nat.mod_eq_of_lt hi, Nat.mod_eq_of_lt hn, ?_⟩
  rw [Nat.mod_eq_of_lt (by omega)]
  exact wrap64_small (by omega)
theorem drop_hdr (i n seq : Nat) (c : List UInt8) : (hdrB i n seq ++ c).drop 12 = c := List.drop_left' (hdrB_len i n seq)

/-- The reference's condition on a piece. -/
def okAt (l : List (List UInt8)) (s : Int) (i : Nat) (p : List UInt8) : Bool :=
  headOk p && decide (hPlace p = i) && decide (hCount p = l.length) && decide (hSeq p = s) && (decide (i + 1 = l.length) || decide (p.length = 472)) && !(decide (i + 1 = l.length) && decide (0 < i) && decide (p.length = 12))
theorem okAt_iff {l : List (List UInt8)} {s : Int} {i : Nat} {p : List UInt8} : okAt l s i p = true ↔ headOk p = true ∧ hPlace p = i ∧ hCount p = l.length ∧ hSeq p = s ∧ (i + 1 = l.length ∨ p.length = 472) ∧ ¬ (i + 1 = l.length ∧ 0 < i ∧ p.length = 12) := by
  unfold okAt
  simp [and_assoc]
  omega
def sameRec (l : List (List UInt8)) (s : Int) : Prop := l ≠ [] ∧ ∀ i p, l[i]? = some p → okAt l s i p = true
def joinB (l : List (List UInt8)) : List UInt8 := l.flatMap (·.drop 12)

theorem chunk_len (b : List UInt8) (i : Nat) : (chunk b i).length = min 460 (b.length - 460 * i) := by simp [chunk]
theorem need_bd {n m : Nat} (h : need n = m) : 1 ≤ m ∧ n ≤ 460 * m ∧ (1 < m → 460 * (m - 1) < n) := by
  unfold need at h; split at h <;> omega
theorem need_of {n m : Nat} (h1 : 1 ≤ m) (h2 : n ≤ 460 * m) (h3 : 1 < m → 460 * (m - 1) < n) : need n = m := by
  unfold need; split <;> omega
theorem joinB_pieces (seq : Nat) (b : List UInt8) (n : Nat) (h : b.length ≤ 460 * n) : joinB (pieces seq b n) = b := by
  have key : ∀ m, m ≤ n → ((List.range m).map fun i => hdrB i n seq ++ chunk b i).flatMap (·.drop 12) = b.take (460 * m) := by
    intro m
    induction m with
    | zero => intro _; simp
    | succ m ih =>
      intro hm
      rw [List.range_succ, List.map_append, List.flatMap_append, ih (by omega)]
      simp only [List.map_cons, List.map_nil, List.flatMap_cons, List.flatMap_nil, List.append_nil]
      rw [drop_hdr, chunk, Nat.mul_succ, List.take_add]
  have := key n (Nat.le_refl _)
  unfold joinB pieces
  rw [this, List.take_of_length_le h]
/-- The pieces of a record are as the reference wants them. -/
theorem pieces_ok {seq n : Nat} {b : List UInt8} (hs : seq ≤ 281474976710656) (hn : need b.length = n) (h2 : n ≤ 1024) : sameRec (pieces seq b n) seq := by
  obtain ⟨h1, h3, h4⟩ := need_bd hn
  refine ⟨fun h => ?_, fun i p hp => ?_⟩
  · have := pieces_len seq b n
    rw [h] at this
    simp at this
    omega
  have hi : i < n := by
    have := (List.getElem?_eq_some_iff.1 hp).1
    rwa [pieces_len] at this
  rw [pieces_at hi] at hp
  obtain rfl : _ = p := Option.some.inj hp
  obtain ⟨f1, f2, f3⟩ := hdr_fields (i := i) (n := n) (chunk b i) (by omega) (by omega) hs
  have hl : (hdrB i n seq ++ chunk b i).length = 12 + min 460 (b.length - 460 * i) := by rw [List.length_append, hdrB_len, chunk_len]
  rw [okAt_iff, pieces_len, f1, f2, f3]
  refine ⟨?_, rfl, rfl, rfl, ?_, ?_⟩
  · unfold headOk
    rw [f1, f2, f3, hl]
    exact decide_eq_true ⟨by omega, by omega, by omega, by omega, by omega, by omega, by omega⟩
  · rw [hl]
    by_cases h : i + 1 = n
    · exact .inl h
    · right; have := h4 (by omega)
      have : 460 * (i + 1) ≤ 460 * (n - 1) := Nat.mul_le_mul_left _ (by omega)
      omega
  · rw [hl]
    rintro ⟨e1, e2, e3⟩
    have := h4 (by omega)
    have : 460 * i = 460 * (n - 1) := by rw [← e1]; rfl
    omega
/-- Pieces that are as the reference wants them are those of what they hold. -/
theorem ok_pieces {l : List (List UInt8)} {s : Int} (h : sameRec l s) : ∃ seq : Nat, s = seq ∧ seq ≤ 281474976710656 ∧ need (joinB l).length = l.length ∧ l.length ≤ 1024 ∧ l = pieces seq (joinB l) l.length := by
  obtain ⟨hne, hall⟩ := h
  have hpos : 0 < l.length := List.length_pos_iff.2 hne
  have h0 := hall 0 (l[0]'hpos) (List.getElem?_eq_getElem _)
  rw [okAt_iff] at h0
  obtain ⟨a1, a2, a3, a4, _, _⟩ := h0
  have a1 := of_decide_eq_true a1
  obtain ⟨seq, rfl⟩ : ∃ n : Nat, s = n := ⟨s.toNat, by omega⟩
  have hs : seq ≤ 281474976710656 := by omega
  have hN : l.length ≤ 1024 := by omega
  have each : ∀ i p, l[i]? = some p → p = hdrB i l.length seq ++ p.drop 12 := by
    intro i p hp
    have hh := hall i p hp
    rw [okAt_iff] at hh
    obtain ⟨b1, b2, b3, b4, _, _⟩ := hh
    have := head_is b1
    rw [b2, b3, b4, Int.toNat_natCast] at this
    exact this
  have lens : ∀ i p, l[i]? = some p → 12 ≤ p.length ∧ p.length ≤ 472 ∧ (i + 1 = l.length ∨ p.length = 472) ∧ ¬ (i + 1 = l.length ∧ 0 < i ∧ p.length = 12) := by
    intro i p hp
    have hh := hall i p hp
    rw [okAt_iff] at hh
    obtain ⟨b1, _, _, _, b5, b6⟩ := hh
    have b1 := of_decide_eq_true b1
    exact ⟨b1.1, b1.2.1, b5, b6⟩
  -- the bytes of the first m pieces
  have pre : ∀ m, m < l.length → (joinB (l.take m)).length = 460 * m := by
    intro m
    induction m with
    | zero => intro _; simp [joinB]
    | succ m ih =>
      intro hm
      have hp : l[m]? = some (l[m]'(by omega)) := List.getElem?_eq_getElem _
      obtain ⟨c1, c2, c3, c4⟩ := lens m _ hp
      rw [List.take_add_one, hp]
      show (joinB (l.take m ++ [l[m]'(by omega)])).length = _
      unfold joinB at *
      rw [List.flatMap_append, List.length_append, ih (by omega)]
      simp only [List.flatMap_cons, List.flatMap_nil, List.append_nil, List.length_drop]
      omega
  have full : (joinB l).length = 460 * (l.length - 1) + ((l[l.length - 1]'(by omega)).length - 12) := by
    have hp : l[l.length - 1]? = some (l[l.length - 1]'(by omega)) := List.getElem?_eq_getElem _
    have e : l = l.take (l.length - 1) ++ [l[l.length - 1]'(by omega)] := by
      have := List.take_add_one (l := l) (i := l.length - 1)
      rw [show l.length - 1 + 1 = l.length by omega, List.take_of_length_le (Nat.le_refl _), hp] at this
      exact this
    have e2 : joinB l = joinB (l.take (l.length - 1)) ++ (l[l.length - 1]'(by omega)).drop 12 := by
      have : joinB l = joinB (l.take (l.length - 1) ++ [l[l.length - 1]'(by omega)]) := congrArg joinB e
      rw [this]; unfold joinB; rw [List.flatMap_append]; simp
    rw [e2, List.length_append, pre _ (by omega), List.length_drop]
  have hlast := lens (l.length - 1) _ (List.getElem?_eq_getElem (by omega))
  refine ⟨seq, rfl, hs, need_of (by omega) (by omega) (fun h => by omega), hN, ?_⟩
  apply List.ext_getElem?
  intro i
  rcases Nat.lt_or_ge i l.length with hi | hi
  · have hp : l[i]? = some (l[i]'hi) := List.getElem?_eq_getElem _
    obtain ⟨c1, c2, c3, c4⟩ := lens i _ hp
    rw [pieces_at hi, hp]
    congr 1
    have hd : chunk (joinB l) i = (l[i]'hi).drop 12 := by
      have e : l = l.take i ++ ([l[i]'hi] ++ l.drop (i + 1)) := by
        rw [← List.append_assoc, ← show l.take (i + 1) = l.take i ++ [l[i]'hi] by rw [List.take_add_one, hp]; rfl, List.take_append_drop]
      have e2 : joinB l = joinB (l.take i) ++ ((l[i]'hi).drop 12 ++ joinB (l.drop (i + 1))) := by
        have : joinB l = joinB (l.take i ++ ([l[i]'hi] ++ l.drop (i + 1))) := congrArg joinB e
        rw [this]; unfold joinB; rw [List.flatMap_append, List.flatMap_append]; simp
      unfold chunk
      rw [e2, List.drop_left' (pre i hi)]
      rcases c3 with c3 | c3
      · rw [show l.drop (i + 1) = [] from List.drop_eq_nil_of_le (by omega)]
        show ((l[i]'hi).drop 12 ++ []).take 460 = _
        rw [List.append_nil, List.take_of_length_le (by rw [List.length_drop]; omega)]
      · rw [List.take_left' (by rw [List.length_drop]; omega)]
    rw [hd]
    exact each i _ hp
  · rw [List.getElem?_eq_none hi, List.getElem?_eq_none (by rw [pieces_len]; exact hi)]

/-- What the reference joins: all pieces are as they must be. -/
def firstSeq (l : List (List UInt8)) : Int := hSeq (l.getD 0 [])
def joinOk (l : List (List UInt8)) : Bool := decide (l ≠ []) && (List.range l.length).all (fun i => okAt l (firstSeq l) i (l.getD i []))
theorem joinOk_iff {l : List (List UInt8)} : joinOk l = true ↔ sameRec l (firstSeq l) := by
  unfold joinOk sameRec
  rw [Bool.and_eq_true, decide_eq_true_iff, List.all_eq_true]
  constructor
  · rintro ⟨h1, h2⟩
    refine ⟨h1, fun i p hp => ?_⟩
    have hi := (List.getElem?_eq_some_iff.1 hp).1
    have := h2 i (List.mem_range.2 hi)
    rw [List.getD_eq_getElem?_getD, hp] at this
    exact this
  · rintro ⟨h1, h2⟩
    refine ⟨h1, fun i hi => ?_⟩
    have hi := List.mem_range.1 hi
    have := h2 i _ (List.getElem?_eq_getElem hi)
    rw [List.getD_eq_getElem?_getD, List.getElem?_eq_getElem hi]
    exact this
/-- What the program joins. -/
def progOk (l : List (List UInt8)) : Prop := l ≠ [] ∧ headOk (l.getD 0 []) = true ∧ (∀ p ∈ l, 12 ≤ p.length) ∧ splitL (firstSeq l) (joinB l) = l
theorem splitL_of {seq n : Nat} {b : List UInt8} (hs : seq ≤ 281474976710656) (hn : need b.length = n) (h2 : n ≤ 1024) : splitL seq b = pieces seq b n := by
  unfold splitL; rw [hn, if_neg (by omega), clampSeq_nat hs]
theorem firstSeq_pieces {seq n : Nat} {b : List UInt8} (hs : seq ≤ 281474976710656) (h1 : 1 ≤ n) (h2 : n ≤ 1024) : firstSeq (pieces seq b n) = seq := by
  unfold firstSeq
  rw [List.getD_eq_getElem?_getD, pieces_at (by omega : 0 < n)]
  exact (hdr_fields _ (by omega) (by omega) hs).2.2
theorem joinOk_pieces {seq n : Nat} {b : List UInt8} (hs : seq ≤ 281474976710656) (hn : need b.length = n) (h2 : n ≤ 1024) : joinOk (pieces seq b n) = true := by
  rw [joinOk_iff, firstSeq_pieces hs (need_bd hn).1 h2]
  exact pieces_ok hs hn h2
theorem prog_iff {l : List (List UInt8)} : progOk l ↔ joinOk l = true := by
  rw [joinOk_iff]
  constructor
  · rintro ⟨hne, hh, hl, hs⟩
    have h := of_decide_eq_true hh
    obtain ⟨_, _, _, _, _, h6, h7⟩ := h
    obtain ⟨seq, hq⟩ : ∃ n : Nat, firstSeq l = n := ⟨(firstSeq l).toNat, by show hSeq _ = _; unfold firstSeq; omega⟩
    have hle : seq ≤ 281474976710656 := by have : hSeq (l.getD 0 []) = seq := hq; omega
    rw [hq] at hs ⊢
    unfold splitL at hs
    split at hs
    · exact absurd hs.symm hne
    · rename_i hn
      rw [clampSeq_nat hle] at hs
      have := pieces_ok hle (rfl : need (joinB l).length = _) (by omega)
      rw [hs] at this
      exact this
  · intro h
    obtain ⟨seq, hq, hle, hn, hN, hp⟩ := ok_pieces h
    obtain ⟨hne, hall⟩ := h
    have hpos : 0 < l.length := List.length_pos_iff.2 hne
    refine ⟨hne, ?_, fun p hp => ?_, ?_⟩
    · have := (okAt_iff.1 (hall 0 _ (List.getElem?_eq_getElem hpos))).1
      rw [List.getD_eq_getElem?_getD, List.getElem?_eq_getElem hpos]
      exact this
    · obtain ⟨i, hi, rfl⟩ := List.mem_iff_getElem.1 hp
      have := of_decide_eq_true (okAt_iff.1 (hall i _ (List.getElem?_eq_getElem hi))).1
      exact this.1
    · rw [hq, splitL_of hle hn hN]
      exact hp.symm
/-- A record's pieces are joined again. -/
theorem split_join {z : Int} {b : List UInt8} (h : need b.length ≤ 1024) : joinOk (splitL z b) = true ∧ firstSeq (splitL z b) = clampSeq z ∧ joinB (splitL z b) = b := by
  have e : splitL z b = pieces (clampSeq z) b (need b.length) := by
    unfold splitL
    exact if_neg (Nat.not_lt.2 h)
  have hs := clampSeq_le z
  rw [e]
  clear e
  generalize clampSeq z = s at *
  obtain ⟨n, hn⟩ : ∃ n, need b.length = n := ⟨_, rfl⟩
  rw [hn] at h
  rw [hn]
  obtain ⟨h1, h2, _⟩ := need_bd hn
  refine ⟨joinOk_pieces hs hn h, ?_, joinB_pieces _ _ _ h2⟩
  exact firstSeq_pieces hs h1 h
/-- Where the pieces of two records, or of one in another order, are not joined. -/
theorem not_joined {l : List (List UInt8)} {i n seq : Nat} {k : Nat} {c : List UInt8} (hi : l[i]? = some (hdrB k n seq ++ c)) (hk : k < 65536) (hn : n < 65536) (hs : seq ≤ 281474976710656) (h : k ≠ i ∨ n ≠ l.length) : joinOk l = false := by
  rw [Bool.eq_false_iff]
  intro hj
  rw [joinOk_iff] at hj
  have := okAt_iff.1 (hj.2 i _ hi)
  obtain ⟨f1, f2, f3⟩ := hdr_fields (seq := seq) c hk hn hs
  rw [f1, f2] at this
  omega
theorem not_joined2 {l : List (List UInt8)} {i j n m seq seq' : Nat} {k k' : Nat} {c c' : List UInt8} (hi : l[i]? = some (hdrB k n seq ++ c)) (hj : l[j]? = some (hdrB k' m seq' ++ c')) (hk : k < 65536) (hk' : k' < 65536) (hn : n < 65536) (hm : m < 65536)
    (hs : seq ≤ 281474976710656) (hs' : seq' ≤ 281474976710656) (h : seq ≠ seq') : joinOk l = false := by
  rw [Bool.eq_false_iff]
  intro hj'
  rw [joinOk_iff] at hj'
  have a := (okAt_iff.1 (hj'.2 i _ hi)).2.2.2.1
  have b := (okAt_iff.1 (hj'.2 j _ hj)).2.2.2.1
  have f3 := (hdr_fields (seq := seq) c hk hn hs).2.2
  have g3 := (hdr_fields (seq := seq') c' hk' hm hs').2.2
  have e : (seq : Int) = seq' := (f3.symm.trans a).trans (b.symm.trans g3)
  exact h (Int.ofNat_inj.1 e)
end Go.Proofs.YtdeifjnhbdkkgaaGreatDoor
namespace Go.Proofs.YtdeifjnhbdkkgaaGreatDoor
/-- One bit of the program's sum. -/
def crcBit (s : Nat) : Nat := if s % 2 = 1 then (s / 2) ^^^ 3988292384 else s / 2
def crcBits : Nat → Nat → Nat
  | 0, s => s
  | k + 1, s => crcBit (crcBits k s)
def crcByte (s : Nat) (c : UInt8) : Nat := crcBits 8 (s ^^^ c.toNat)
/-- One bit of the reference's. -/
def refBit (r b : Nat) : Nat := if r / 2147483648 ≠ b % 2 then (r * 2 % 4294967296) ^^^ 79764919 else r * 2 % 4294967296
def refBits : Nat → Nat → Nat → Nat
  | 0, r, _ => r
  | k + 1, r, c => refBit (refBits k r c) (c / 2 ^ k)
def refByte (r : Nat) (c : UInt8) : Nat := refBits 8 r c.toNat
def turn : Nat → Nat → Nat
  | 0, _ => 0
  | k + 1, n => turn k n * 2 + n / 2 ^ k % 2
def rev (n : Nat) : Nat := turn 32 n

theorem testBit_two (x b i : Nat) (hb : b < 2) : (x * 2 + b).testBit i = if i = 0 then decide (b = 1) else x.testBit (i - 1) := by
  rcases i with _ | i
  · simp [Nat.testBit_zero]; omega
  · rw [Nat.testBit_succ, if_neg (by omega)]
    congr 1
    omega
theorem turn_bit (k n i : Nat) : (turn k n).testBit i = (decide (i < k) && n.testBit (k - 1 - i)) := by
  induction k generalizing i with
  | zero => simp [turn]
  | succ k ih =>
    rw [turn, testBit_two _ _ _ (Nat.mod_lt _ (by decide))]
    split
    · subst i
      rw [decide_eq_true (by omega : 0 < k + 1), Bool.true_and]
      show _ = n.testBit k
      rw [Nat.testBit_eq_decide_div_mod_eq]
    · rw [ih]
      congr 1
      · simp only [decide_eq_decide]; omega
      · congr 1; omega
theorem rev_bit (n i : Nat) : (rev n).testBit i = (decide (i < 32) && n.testBit (31 - i)) := turn_bit 32 n i
theorem turn_lt (k n : Nat) : turn k n < 2 ^ k := by
  induction k with
  | zero => simp [turn]
  | succ k ih => rw [turn, Nat.pow_succ]; have := Nat.mod_lt (n / 2 ^ k) (show 0 < 2 by decide); omega
theorem rev_lt (n : Nat) : rev n < 4294967296 := turn_lt 32 n
theorem poly_rev : ∀ i, i < 32 → Nat.testBit 3988292384 i = Nat.testBit 79764919 (31 - i) := by decide
theorem crcBit_lt {s : Nat} (h : s < 4294967296) : crcBit s < 4294967296 := by
  unfold crcBit
  split
  · exact Nat.xor_lt_two_pow (n := 32) (by omega) (by decide)
  · omega
theorem refBit_lt (r b : Nat) : refBit r b < 4294967296 := by
  unfold refBit
  split
  · exact Nat.xor_lt_two_pow (n := 32) (Nat.mod_lt _ (by decide)) (by decide)
  · exact Nat.mod_lt _ (by decide)
theorem crcBits_lt {s : Nat} (h : s < 4294967296) (k : Nat) : crcBits k s < 4294967296 := by
  induction k with
  | zero => exact h
  | succ k ih => exact crcBit_lt ih
theorem refBits_lt {r : Nat} (h : r < 4294967296) (k c : Nat) : refBits k r c < 4294967296 := by
  cases k with
  | zero => exact h
  | succ k => exact refBit_lt _ _
theorem crcByte_lt {s : Nat} (h : s < 4294967296) (c : UInt8) : crcByte s c < 4294967296 := by
  have := c.toNat_lt
  exact crcBits_lt (Nat.xor_lt_two_pow (n := 32) h (by omega)) 8
theorem refByte_lt {r : Nat} (h : r < 4294967296) (c : UInt8) : refByte r c < 4294967296 := refBits_lt h 8 _
theorem crcBit_bit (s i : Nat) : (crcBit s).testBit i = (s.testBit (i + 1) ^^ (s.testBit 0 && Nat.testBit 3988292384 i)) := by
  unfold crcBit
  have e : (s / 2).testBit i = s.testBit (i + 1) := by rw [Nat.testBit_succ]
  split
  · rename_i h
    rw [Nat.testBit_xor, e, Nat.testBit_zero, h]; rfl
  · rename_i h
    rw [e, Nat.testBit_zero, decide_eq_false h]; simp
theorem dbl_bit (r j : Nat) : (r * 2 % 4294967296).testBit j = (decide (j < 32) && (decide (0 < j) && r.testBit (j - 1))) := by
  rw [show (4294967296 : Nat) = 2 ^ 32 from rfl, Nat.testBit_mod_two_pow, show r * 2 = r * 2 + 0 from rfl, testBit_two _ _ _ (by decide)]
  congr 1
  rcases j with _ | j
  · simp
  · simp
theorem top_bit {r : Nat} (h : r < 4294967296) : r.testBit 31 = decide (r / 2147483648 = 1) := by
  rw [Nat.testBit_eq_decide_div_mod_eq, show (2 : Nat) ^ 31 = 2147483648 from rfl]
  congr 1
  rw [Nat.mod_eq_of_lt (by omega)]
theorem refBit_bit {r b : Nat} (h : r < 4294967296) (j : Nat) : (refBit r b).testBit j = ((decide (j < 32) && (decide (0 < j) && r.testBit (j - 1))) ^^ ((r.testBit 31 ^^ b.testBit 0) && Nat.testBit 79764919 j)) := by
  rw [top_bit h, Nat.testBit_zero]
  unfold refBit
  have hd : r / 2147483648 < 2 := by omega
  have hm : b % 2 < 2 := Nat.mod_lt _ (by decide)
  generalize r / 2147483648 = x at *
  generalize b % 2 = y at *
  split
  · rename_i hne
    rw [Nat.testBit_xor, dbl_bit]
    congr 1
    rw [show (decide (x = 1) ^^ decide (y = 1)) = true by
      rcases (show (x = 0 ∧ y = 1) ∨ (x = 1 ∧ y = 0) by omega) with ⟨rfl, rfl⟩ | ⟨rfl, rfl⟩ <;> decide]
    simp
  · rename_i hne
    obtain rfl : x = y := by omega
    rw [dbl_bit]
    simp
/-- The two sums, bit by bit. -/
theorem step_eq {s r c : Nat} (hr : r < 4294967296) (h : s = rev r ^^^ c) : crcBit s = rev (refBit r c) ^^^ (c / 2) := by
  apply Nat.eq_of_testBit_eq
  intro i
  have h0 : s.testBit 0 = (r.testBit 31 ^^ c.testBit 0) := by rw [h, Nat.testBit_xor, rev_bit]; simp
  rw [crcBit_bit s, h0, Nat.testBit_xor, rev_bit, refBit_bit hr, h, Nat.testBit_xor, rev_bit]
  have ec : (c / 2).testBit i = c.testBit (i + 1) := by rw [Nat.testBit_succ]
  rw [ec]
  by_cases hi : i < 32
  · rw [poly_rev i hi]
    have e : 31 - (i + 1) = 31 - i - 1 := by omega
    rw [e]
    rw [decide_eq_true (by omega : 31 - i < 32), decide_eq_true hi]
    have : decide (i + 1 < 32) = decide (0 < 31 - i) := by simp only [decide_eq_decide]; omega
    rw [this]
    generalize r.testBit 31 = a
    generalize c.testBit 0 = b
    generalize decide (0 < 31 - i) = d
    generalize r.testBit (31 - i - 1) = x
    generalize c.testBit (i + 1) = y
    generalize Nat.testBit 79764919 (31 - i) = z
    revert a b d x y z
    decide
  · rw [decide_eq_false (by omega : ¬ i + 1 < 32), decide_eq_false hi]
    have h1 : Nat.testBit 3988292384 i = false := Nat.testBit_lt_two_pow (Nat.lt_of_lt_of_le (by decide : 3988292384 < 2 ^ 32) (Nat.pow_le_pow_right (by decide) (by omega)))
    rw [h1]
    simp
theorem byte_eq {s r : Nat} (c : UInt8) (hr : r < 4294967296) (h : s = rev r) : crcByte s c = rev (refByte r c) := by
  have hc := c.toNat_lt
  have key : ∀ k, crcBits k (s ^^^ c.toNat) = rev (refBits k r c.toNat) ^^^ (c.toNat / 2 ^ k) := by
    intro k
    induction k with
    | zero => rw [h]; simp [crcBits, refBits]
    | succ k ih =>
      rw [crcBits, refBits, Nat.pow_succ, ← Nat.div_div_eq_div_mul]
      exact step_eq (refBits_lt hr k _) ih
  rw [crcByte, refByte, key 8, Nat.div_eq_of_lt (by omega)]
  simp
def crcList (s : Nat) (l : List UInt8) : Nat := l.foldl crcByte s
def refList (r : Nat) (l : List UInt8) : Nat := l.foldl refByte r
theorem list_eq (l : List UInt8) : ∀ {s r : Nat}, s < 4294967296 → r < 4294967296 → s = rev r → crcList s l = rev (refList r l) ∧ crcList s l < 4294967296 ∧ refList r l < 4294967296 := by
  induction l with
  | nil => intro s r hs hr h; exact ⟨h, hs, hr⟩
  | cons c l ih => intro s r hs hr h; exact ih (crcByte_lt hs c) (refByte_lt hr c) (byte_eq c hr h)
theorem rev_ones : 4294967295 = rev 4294967295 := by decide
/-- The sum of bytes. -/
def crcOf (l : List UInt8) : Nat := 4294967295 - crcList 4294967295 l
theorem crcOf_ref (l : List UInt8) : crcOf l = 4294967295 - rev (refList 4294967295 l) := by
  unfold crcOf
  rw [(list_eq l (by decide) (by decide) rev_ones).1]
end Go.Proofs.YtdeifjnhbdkkgaaGreatDoor
