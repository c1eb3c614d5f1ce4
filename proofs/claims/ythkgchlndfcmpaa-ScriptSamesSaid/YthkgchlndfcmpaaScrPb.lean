/- Acts as bytes: plain facts. No program in sight. -/
import Derived.Test.YthkgchlndfcmpaaScrPl
import Derived.Test.YthkgchlndfcmpaaLePl
import Derived.Test.YthkgchlndfcmpaaCmdPl
namespace Go.Proofs.Ythkgchlndfcmpaa
open Go.RowKit
set_option maxRecDepth 100000
set_option linter.unusedVariables false

def fateB (f : Fa) : List UInt8 := leB (word f.kept) 8 ++ leB (word f.torn) 8
def fuseB (z : Int) : List UInt8 := leB (word z) 8
def fatesB (l : List Fa) (k : Nat) : List UInt8 := (l.take k).flatMap fateB
def fusesB (l : List Int) (k : Nat) : List UInt8 := (l.take k).flatMap fuseB
def tailA (x : Ac) : List UInt8 :=
  if x.do_ = 0 then bytesC x.c
  else if x.do_ = 4 then leB (word x.room) 8 ++ leB (word x.frames) 8
  else if x.do_ = 5 then leB (word x.n) 8
  else if x.do_ = 6 then ((leB (word (x.fa.length : Nat)) 2 ++ fatesB x.fa x.fa.length) ++ leB (word (x.fu.length : Nat)) 2) ++ fusesB x.fu x.fu.length
  else []
theorem tailA_eq (x : Ac) : tailA x = (if x.do_ = 0 then bytesC x.c
  else if x.do_ = 4 then leB (word x.room) 8 ++ leB (word x.frames) 8
  else if x.do_ = 5 then leB (word x.n) 8
  else if x.do_ = 6 then ((leB (word (x.fa.length : Nat)) 2 ++ fatesB x.fa x.fa.length) ++ leB (word (x.fu.length : Nat)) 2) ++ fusesB x.fu x.fu.length
  else []) := rfl
/-- An act's bytes. -/
def oneB (x : Ac) : List UInt8 := leB (word x.do_) 1 ++ tailA x
theorem fatesB_len (l : List Fa) (k : Nat) : (fatesB l k).length ≤ k * 16 := by
  unfold fatesB
  have h : ∀ (l : List Fa), (l.flatMap fateB).length = l.length * 16 := by
    intro l
    induction l with
    | nil => rfl
    | cons x l ih => rw [List.flatMap_cons, List.length_append, ih, List.length_cons]; unfold fateB; rw [List.length_append, leB_len, leB_len]; omega
  rw [h, List.length_take]
  exact Nat.mul_le_mul_right _ (by omega)
theorem fusesB_len (l : List Int) (k : Nat) : (fusesB l k).length ≤ k * 8 := by
  unfold fusesB
  have h : ∀ (l : List Int), (l.flatMap fuseB).length = l.length * 8 := by
    intro l
    induction l with
    | nil => rfl
    | cons x l ih => rw [List.flatMap_cons, List.length_append, ih, List.length_cons]; unfold fuseB; rw [leB_len]; omega
  rw [h, List.length_take]
  exact Nat.mul_le_mul_right _ (by omega)
theorem fatesB_next {l : List Fa} {k : Nat} {x : Fa} (hx : l[k]? = some x) : fatesB l (k + 1) = (fatesB l k ++ leB (word x.kept) 8) ++ leB (word x.torn) 8 := by
  unfold fatesB
  rw [List.take_add_one, hx, Option.toList_some, List.flatMap_append, List.flatMap_cons, List.flatMap_nil, List.append_nil, List.append_assoc]
  rfl
theorem fusesB_next {l : List Int} {k : Nat} {x : Int} (hx : l[k]? = some x) : fusesB l (k + 1) = fusesB l k ++ leB (word x) 8 := by
  unfold fusesB
  rw [List.take_add_one, hx, Option.toList_some, List.flatMap_append, List.flatMap_cons, List.flatMap_nil, List.append_nil]
  rfl
def putsB (l : List Ac) (k : Nat) : List UInt8 := (l.take k).flatMap (fun x => if rightA x = true then oneB x else [])
theorem putsB_next {l : List Ac} {k : Nat} {x : Ac} (hx : l[k]? = some x) : putsB l (k + 1) = putsB l k ++ (if rightA x = true then oneB x else []) := by
  unfold putsB
  rw [List.take_add_one, hx, Option.toList_some, List.flatMap_append, List.flatMap_cons, List.flatMap_nil, List.append_nil]
theorem bytesC_le (x : Cmd) : (bytesC x).length ≤ x.l.length + 60 := by
  unfold bytesC
  repeat' split
  all_goals (simp only [List.length_append, leB_len, List.length_cons, List.length_nil]; omega)
/-- An act that is small. -/
def smallA (x : Ac) : Prop := x.c.l.length ≤ 1000000 ∧ x.fa.length ≤ 1000000 ∧ x.fu.length ≤ 1000000
end Go.Proofs.Ythkgchlndfcmpaa
