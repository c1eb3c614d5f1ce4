/- Plain facts on numbers as bytes, little end first: no program in sight. -/
import Derived.IntWalk
import Derived.RowKit
import Derived.Laws.BitsAllLaws
namespace Go.Proofs.YtglliendhbkkhaaGreatDoor
open Go.RowKit
set_option maxRecDepth 100000

/-- An int as a 64-bit word. -/
def word (n : Int) : Nat := (n % 18446744073709551616).toNat
theorem u8_toNat (x : Nat) : (UInt8.ofNat x).toNat = x % 256 := by simp
end Go.Proofs.YtglliendhbkkhaaGreatDoor
namespace Go.Proofs.YtglliendhbkkhaaGreatDoor
open Go.RowKit
set_option maxRecDepth 100000

structure Cmd where
  do_ : Int
  loc : Bool
  idx : Int
  gen : Int
  comp : Int
  l : List UInt8
end Go.Proofs.YtglliendhbkkhaaGreatDoor
namespace Go.Proofs.YtglliendhbkkhaaGreatDoor
open Go.RowKit
set_option maxRecDepth 100000
set_option linter.unusedVariables false

structure Cp where
  nm : ByteArray
  sz : Int
instance : Inhabited Cp := ⟨⟨ByteArray.empty, 0⟩⟩
structure Cf where
  log : Int
  pages : Int
  ents : Int
  gens : Int
  l : List Cp
/-- A byte of a text. -/
def chZ (s : ByteArray) (k : Nat) : Int := ((s.data.toList.getD k 0).toNat : Nat)
theorem chZ_bd (s : ByteArray) (k : Nat) : 0 ≤ chZ s k ∧ chZ s k ≤ 255 := by
  unfold chZ
  have h2 : (s.data.toList.getD k 0).toNat < 256 := (s.data.toList.getD k 0).toNat_lt
  omega
def letterZ (z : Int) : Bool := decide ((97 ≤ z ∧ z ≤ 122) ∨ (48 ≤ z ∧ z ≤ 57) ∨ z = 95)
/-- Are its first k bytes letters? -/
def lettersTo (s : ByteArray) (k : Nat) : Prop := ∀ i, i < k → letterZ (chZ s i) = true
theorem lettersTo_zero (s : ByteArray) : lettersTo s 0 := fun i h => absurd h (by omega)
theorem lettersTo_next {s : ByteArray} {k : Nat} (h : lettersTo s k) (hk : letterZ (chZ s k) = true) : lettersTo s (k + 1) := fun i hi => by
  by_cases e : i = k
  · subst e; exact hk
  · exact h i (by omega)
instance (s : ByteArray) (k : Nat) : Decidable (lettersTo s k) := inferInstanceAs (Decidable (∀ i, i < k → letterZ (chZ s i) = true))
/-- May it be a name? -/
def nameB (s : ByteArray) : Bool := decide (1 ≤ s.size ∧ s.size ≤ 16 ∧ lettersTo s s.size)
/-- The first of that name; the length, where none has it. -/
def findN (l : List Cp) (nm : ByteArray) : Nat := l.findIdx (fun x => decide (x.nm = nm))
def nmAt (l : List Cp) (k : Nat) : ByteArray := (l.getD k default).nm
def szAt (l : List Cp) (k : Nat) : Int := (l.getD k default).sz
/-- None of the first k has that name. -/
def noneTo (l : List Cp) (nm : ByteArray) (k : Nat) : Prop := ∀ i, i < k → nmAt l i ≠ nm
instance (l : List Cp) (nm : ByteArray) (k : Nat) : Decidable (noneTo l nm k) := inferInstanceAs (Decidable (∀ i, i < k → nmAt l i ≠ nm))
theorem noneTo_zero (l : List Cp) (nm : ByteArray) : noneTo l nm 0 := fun i h => absurd h (by omega)
theorem noneTo_next {l : List Cp} {nm : ByteArray} {k : Nat} (h : noneTo l nm k) (hk : nmAt l k ≠ nm) : noneTo l nm (k + 1) := fun i hi => by
  by_cases e : i = k
  · subst e; exact hk
  · exact h i (by omega)
theorem nmAt_of {l : List Cp} {k : Nat} {x : Cp} (h : l[k]? = some x) : nmAt l k = x.nm := by
  unfold nmAt
  rw [List.getD_eq_getElem?_getD, h]; rfl
theorem szAt_of {l : List Cp} {k : Nat} {x : Cp} (h : l[k]? = some x) : szAt l k = x.sz := by
  unfold szAt
  rw [List.getD_eq_getElem?_getD, h]; rfl
theorem findN_le (l : List Cp) (nm : ByteArray) : findN l nm ≤ l.length := List.findIdx_le_length
theorem findN_at {l : List Cp} {nm : ByteArray} {k : Nat} (hk : k < l.length) (h : noneTo l nm k) (he : nmAt l k = nm) : findN l nm = k := by
  unfold findN
  have hx := List.getElem?_eq_getElem hk
  rw [List.findIdx_eq hk]
  refine ⟨by rw [nmAt_of hx] at he; simpa using he, fun j hj => ?_⟩
  have h2 := h j hj
  rw [nmAt_of (List.getElem?_eq_getElem (by omega))] at h2
  simpa using h2
theorem findN_no {l : List Cp} {nm : ByteArray} (h : noneTo l nm l.length) : findN l nm = l.length := by
  unfold findN
  rw [List.findIdx_eq_length]
  intro x hx
  obtain ⟨i, hi, rfl⟩ := List.getElem_of_mem hx
  have h2 := h i hi
  rw [nmAt_of (List.getElem?_eq_getElem hi)] at h2
  simpa using h2
theorem findN_none {l : List Cp} {nm : ByteArray} {k : Nat} (hk : k ≤ findN l nm) : noneTo l nm k := fun i hi => by
  have hl := findN_le l nm
  have h := List.not_of_lt_findIdx (p := fun x : Cp => decide (x.nm = nm)) (xs := l) (i := i) (show i < findN l nm by omega)
  rw [nmAt_of (List.getElem?_eq_getElem (by omega))]
  simpa using h
/-- May the k-th be? -/
def okAtC (l : List Cp) (k : Nat) : Prop := noneTo l (nmAt l k) k ∧ nameB (nmAt l k) = true ∧ 0 ≤ szAt l k ∧ szAt l k ≤ 64
instance (l : List Cp) (k : Nat) : Decidable (okAtC l k) := inferInstanceAs (Decidable (noneTo l (nmAt l k) k ∧ nameB (nmAt l k) = true ∧ 0 ≤ szAt l k ∧ szAt l k ≤ 64))
def okTo (l : List Cp) (k : Nat) : Prop := ∀ i, i < k → okAtC l i
instance (l : List Cp) (k : Nat) : Decidable (okTo l k) := inferInstanceAs (Decidable (∀ i, i < k → okAtC l i))
theorem okTo_zero (l : List Cp) : okTo l 0 := fun i h => absurd h (by omega)
theorem okTo_next {l : List Cp} {k : Nat} (h : okTo l k) (hk : okAtC l k) : okTo l (k + 1) := fun i hi => by
  by_cases e : i = k
  · subst e; exact hk
  · exact h i (by omega)
theorem find_self {l : List Cp} {k : Nat} (hk : k < l.length) : findN l (nmAt l k) = k ↔ noneTo l (nmAt l k) k := by
  constructor
  · intro h
    exact findN_none (by omega)
  · intro h
    exact findN_at hk h rfl
/-- Its numbers. -/
def sizesOk (c : Cf) : Prop := (2 ≤ c.log ∧ c.log ≤ 1024) ∧ (4 ≤ c.pages ∧ c.pages ≤ 1024) ∧ (1 ≤ c.ents ∧ c.ents ≤ 1024) ∧ (1 ≤ c.gens ∧ c.gens ≤ 1073741824) ∧ c.l.length ≤ 32
instance (c : Cf) : Decidable (sizesOk c) := inferInstanceAs (Decidable (_ ∧ _))
/-- May it be? -/
def rightB (c : Cf) : Bool := decide (sizesOk c ∧ okTo c.l c.l.length)
theorem rightB_yes {c : Cf} (h : sizesOk c) (h2 : okTo c.l c.l.length) : rightB c = true := decide_eq_true ⟨h, h2⟩
theorem rightB_no {c : Cf} (h : ¬ sizesOk c) : rightB c = false := decide_eq_false (fun h2 => h h2.1)
theorem rightB_no2 {c : Cf} {k : Nat} (hk : k < c.l.length) (h : ¬ okAtC c.l k) : rightB c = false := decide_eq_false (fun h2 => h (h2.2 k hk))
/-- More than is asked? -/
def bigTo (l : List Cp) (k : Nat) : Prop := ∀ i, i < k → i < 50 → (nmAt l i).size ≤ 100
instance (l : List Cp) (k : Nat) : Decidable (bigTo l k) := inferInstanceAs (Decidable (∀ i, i < k → i < 50 → (nmAt l i).size ≤ 100))
def muchB (l : List Cp) : Bool := decide (40 < l.length ∨ ¬ bigTo l l.length)
end Go.Proofs.YtglliendhbkkhaaGreatDoor
namespace Go.Proofs.YtglliendhbkkhaaGreatDoor
open Go.RowKit
set_option maxRecDepth 100000
set_option linter.unusedVariables false

structure Fa where
  kept : Int
  torn : Int
deriving DecidableEq
instance : Inhabited Fa := ⟨⟨0, 0⟩⟩
structure Ac where
  do_ : Int
  c : Cmd
  room : Int
  frames : Int
  n : Int
  fa : List Fa
  fu : List Int
end Go.Proofs.YtglliendhbkkhaaGreatDoor
namespace Go.Proofs.YtglliendhbkkhaaGreatDoor
open Go.RowKit
set_option maxRecDepth 100000
set_option linter.unusedVariables false

end Go.Proofs.YtglliendhbkkhaaGreatDoor
namespace Go.Proofs.YtglliendhbkkhaaGreatDoor
open Go.RowKit

end Go.Proofs.YtglliendhbkkhaaGreatDoor
namespace Go.Proofs.YtglliendhbkkhaaGreatDoor
def turn : Nat → Nat → Nat
  | 0, _ => 0
  | k + 1, n => turn k n * 2 + n / 2 ^ k % 2
end Go.Proofs.YtglliendhbkkhaaGreatDoor
