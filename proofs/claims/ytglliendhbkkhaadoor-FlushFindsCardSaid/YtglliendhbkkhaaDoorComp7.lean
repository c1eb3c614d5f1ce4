/- Contract of comp.Put. -/
import Derived.Test.YtglliendhbkkhaaDoorComp1
import Derived.Test.YtglliendhbkkhaaDoorLe1
import Derived.Test.YtglliendhbkkhaaDoorCmdP
import Derived.Deep.RegionHeld3
namespace Go.Proofs.YtglliendhbkkhaaDoor
open Go.RowKit
set_option maxRecDepth 100000
set_option linter.unusedVariables false

def numsB (c : Cf) (k : Nat) : List UInt8 := ([c.log, c.pages, c.ents, c.gens].take k).flatMap (fun z => leB (word z) 4)
def compB (x : Cp) : List UInt8 := textB (sb x.nm) ++ leB (word x.sz) 1
def compsB (l : List Cp) (k : Nat) : List UInt8 := (l.take k).flatMap compB
/-- A layout's bytes. -/
def confB (c : Cf) : List UInt8 := (numsB c 4 ++ leB (word (c.l.length : Nat)) 1) ++ compsB c.l c.l.length
theorem numsB_len (c : Cf) (k : Nat) : (numsB c k).length ≤ 16 := by
  unfold numsB
  have h : ∀ (l : List Int), (l.flatMap (fun z => leB (word z) 4)).length = l.length * 4 := by
    intro l
    induction l with
    | nil => rfl
    | cons x l ih => rw [List.flatMap_cons, List.length_append, ih, leB_len, List.length_cons]; omega
  rw [h, List.length_take]
  simp only [List.length_cons, List.length_nil]
  omega
theorem compB_len (x : Cp) : (compB x).length ≤ 65538 := by
  unfold compB
  have := textB_len (sb x.nm)
  rw [List.length_append, leB_len]
  omega
theorem compsB_len (l : List Cp) (k : Nat) : (compsB l k).length ≤ k * 65538 := by
  unfold compsB
  have h : ∀ (l : List Cp), (l.flatMap compB).length ≤ l.length * 65538 := by
    intro l
    induction l with
    | nil => simp
    | cons x l ih =>
      rw [List.flatMap_cons, List.length_append, List.length_cons]
      have := compB_len x
      omega
  have h1 := h (l.take k)
  have h2 : (l.take k).length ≤ k := by rw [List.length_take]; omega
  exact Nat.le_trans h1 (Nat.mul_le_mul_right _ h2)
theorem compsB_next {l : List Cp} {k : Nat} (hk : k < l.length) : compsB l (k + 1) = (compsB l k ++ textB (sb (nmAt l k))) ++ leB (word (szAt l k)) 1 := by
  unfold compsB
  have hx := List.getElem?_eq_getElem hk
  have e : [l[k]].flatMap compB = compB l[k] := by rw [List.flatMap_cons, List.flatMap_nil, List.append_nil]
  rw [List.take_add_one, hx, Option.toList_some, List.flatMap_append, e, nmAt_of hx, szAt_of hx, List.append_assoc]
  generalize (l.take k).flatMap compB = z
  unfold compB
  rfl
end Go.Proofs.YtglliendhbkkhaaDoor
