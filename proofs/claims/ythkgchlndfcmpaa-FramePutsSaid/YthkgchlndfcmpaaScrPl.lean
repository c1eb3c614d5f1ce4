/- Acts: plain facts. No program in sight. -/
import Derived.Test.YthkgchlndfcmpaaCmdPl
import Derived.Test.YthkgchlndfcmpaaLePl
namespace Go.Proofs.Ythkgchlndfcmpaa
open Go.RowKit
set_option maxRecDepth 100000
set_option linter.unusedVariables false

structure Fa where
  kept : Int
  torn : Int
deriving DecidableEq
instance : Inhabited Fa := ⟨⟨0, 0⟩⟩
structure Ac where
  do_ : Int
  c : Cmd
  room : Int
  frames : Int
  n : Int
  fa : List Fa
  fu : List Int
def zeroCm : Cmd := ⟨0, false, 0, 0, 0, []⟩
/-- What counts of it. -/
def plainA (x : Ac) : Ac :=
  if x.do_ = 0 then ⟨0, plainC x.c, 0, 0, 0, [], []⟩
  else if x.do_ = 4 then ⟨4, zeroCm, x.room, x.frames, 0, [], []⟩
  else if x.do_ = 5 then ⟨5, zeroCm, 0, 0, x.n, [], []⟩
  else if x.do_ = 6 then ⟨6, zeroCm, 0, 0, 0, x.fa, x.fu⟩
  else ⟨x.do_, zeroCm, 0, 0, 0, [], []⟩
def exactA (a b : Ac) : Bool := decide (a.do_ = b.do_) && (exactC a.c b.c && (decide (a.room = b.room ∧ a.frames = b.frames) && (decide (a.n = b.n) && (decide (a.fu = b.fu) && decide (a.fa = b.fa)))))
theorem exactA_self (a : Ac) : exactA a a = true := by simp [exactA, exactC_self]
theorem exactA_iff {a b : Ac} : exactA a b = true ↔ a = b := by
  obtain ⟨a1, a2, a3, a4, a5, a6, a7⟩ := a
  obtain ⟨b1, b2, b3, b4, b5, b6, b7⟩ := b
  simp only [exactA, Bool.and_eq_true, decide_eq_true_iff, exactC_iff, Ac.mk.injEq]
  constructor
  · rintro ⟨h1, h2, ⟨h3, h4⟩, h5, h6, h7⟩
    exact ⟨h1, h2, h3, h4, h5, h7, h6⟩
  · rintro ⟨h1, h2, h3, h4, h5, h7, h6⟩
    exact ⟨h1, h2, ⟨h3, h4⟩, h5, h6, h7⟩
theorem plainA_do (x : Ac) : (plainA x).do_ = x.do_ := by
  unfold plainA
  split
  · rename_i h; exact h.symm
  · split
    · rename_i h; exact h.symm
    · split
      · rename_i h; exact h.symm
      · split
        · rename_i h; exact h.symm
        · rfl
theorem plainA_idem (x : Ac) : plainA (plainA x) = plainA x := by
  by_cases h0 : x.do_ = 0
  · have e : plainA x = ⟨0, plainC x.c, 0, 0, 0, [], []⟩ := by unfold plainA; rw [if_pos h0]
    rw [e]
    unfold plainA
    rw [if_pos rfl, plainC_idem]
  by_cases h4 : x.do_ = 4
  · have e : plainA x = ⟨4, zeroCm, x.room, x.frames, 0, [], []⟩ := by unfold plainA; rw [if_neg h0, if_pos h4]
    rw [e]; rfl
  by_cases h5 : x.do_ = 5
  · have e : plainA x = ⟨5, zeroCm, 0, 0, x.n, [], []⟩ := by unfold plainA; rw [if_neg h0, if_neg h4, if_pos h5]
    rw [e]; rfl
  by_cases h6 : x.do_ = 6
  · have e : plainA x = ⟨6, zeroCm, 0, 0, 0, x.fa, x.fu⟩ := by unfold plainA; rw [if_neg h0, if_neg h4, if_neg h5, if_pos h6]
    rw [e]; rfl
  · have e : plainA x = ⟨x.do_, zeroCm, 0, 0, 0, [], []⟩ := by unfold plainA; rw [if_neg h0, if_neg h4, if_neg h5, if_neg h6]
    rw [e]
    unfold plainA
    simp only [if_neg h0, if_neg h4, if_neg h5, if_neg h6]
/-- How script.Same goes about it. -/
def sameA (a b : Ac) : Bool :=
  decide ((plainA a).do_ = (plainA b).do_) && ((if (plainA a).do_ = 0 then exactC (plainA a).c (plainA b).c else sameC (plainA a).c (plainA b).c) && (decide ((plainA a).room = (plainA b).room ∧ (plainA a).frames = (plainA b).frames) && (decide ((plainA a).n = (plainA b).n) && (decide ((plainA a).fa = (plainA b).fa) && decide ((plainA a).fu = (plainA b).fu)))))
theorem plainA_c {x : Ac} (h : x.do_ ≠ 0) : (plainA x).c = zeroCm := by
  unfold plainA
  rw [if_neg h]
  split
  · rfl
  · split
    · rfl
    · split <;> rfl
theorem sameA_eq (a b : Ac) : sameA a b = exactA (plainA a) (plainA b) := by
  unfold sameA exactA
  rw [plainA_do, plainA_do]
  by_cases hd : a.do_ = b.do_
  · rw [decide_eq_true hd]
    have e : (if a.do_ = 0 then exactC (plainA a).c (plainA b).c else sameC (plainA a).c (plainA b).c) = exactC (plainA a).c (plainA b).c := by
      by_cases h0 : a.do_ = 0
      · rw [if_pos h0]
      · rw [if_neg h0, plainA_c h0, plainA_c (by rw [← hd]; exact h0)]
        rfl
    rw [e]
    generalize decide ((plainA a).fa = (plainA b).fa) = p
    generalize decide ((plainA a).fu = (plainA b).fu) = q
    rw [Bool.and_comm p q]
  · rw [decide_eq_false hd, Bool.false_and, Bool.false_and]
def rightA (x : Ac) : Bool := decide ((0 ≤ x.do_ ∧ x.do_ ≤ 6) ∧ x.fa.length ≤ 65535 ∧ x.fu.length ≤ 65535) && (decide (x.do_ ≠ 0) || (knownC x.c.do_ && decide (x.c.l.length ≤ 64)))
/-- More than is asked? -/
def bigA (x : Ac) : Bool := decide (200 < x.c.l.length ∨ 40 < x.fa.length ∨ 10 < x.fu.length)
end Go.Proofs.Ythkgchlndfcmpaa
namespace Go.Proofs.Ythkgchlndfcmpaa
open Go.RowKit
set_option maxRecDepth 100000
set_option linter.unusedVariables false

def fateB (f : Fa) : List UInt8 := leB (word f.kept) 8 ++ leB (word f.torn) 8
def fuseB (z : Int) : List UInt8 := leB (word z) 8
def fatesB (l : List Fa) (k : Nat) : List UInt8 := (l.take k).flatMap fateB
def fusesB (l : List Int) (k : Nat) : List UInt8 := (l.take k).flatMap fuseB
def tailA (x : Ac) : List UInt8 :=
  if x.do_ = 0 then bytesC x.c
  else if x.do_ = 4 then leB (word x.room) 8 ++ leB (word x.frames) 8
  else if x.do_ = 5 then leB (word x.n) 8
  else if x.do_ = 6 then ((leB (word (x.fa.length : Nat)) 2 ++ fatesB x.fa x.fa.length) ++ leB (word (x.fu.length : Nat)) 2) ++ fusesB x.fu x.fu.length
  else []
theorem tailA_eq (x : Ac) : tailA x = (if x.do_ = 0 then bytesC x.c
  else if x.do_ = 4 then leB (word x.room) 8 ++ leB (word x.frames) 8
  else if x.do_ = 5 then leB (word x.n) 8
  else if x.do_ = 6 then ((leB (word (x.fa.length : Nat)) 2 ++ fatesB x.fa x.fa.length) ++ leB (word (x.fu.length : Nat)) 2) ++ fusesB x.fu x.fu.length
  else []) := rfl
/-- An act's bytes. -/
def oneB (x : Ac) : List UInt8 := leB (word x.do_) 1 ++ tailA x
theorem fatesB_len (l : List Fa) (k : Nat) : (fatesB l k).length ≤ k * 16 := by
  unfold fatesB
  have h : ∀ (l : List Fa), (l.flatMap fateB).length = l.length * 16 := by
    intro l
    induction l with
    | nil => rfl
    | cons x l ih => rw [List.flatMap_cons, List.length_append, ih, List.length_cons]; unfold fateB; rw [List.length_append, leB_len, leB_len]; omega
  rw [h, List.length_take]
  exact Nat.mul_le_mul_right _ (by omega)
theorem fusesB_len (l : List Int) (k : Nat) : (fusesB l k).length ≤ k * 8 := by
  unfold fusesB
  have h : ∀ (l : List Int), (l.flatMap fuseB).length = l.length * 8 := by
    intro l
    induction l with
    | nil => rfl
    | cons x l ih => rw [List.flatMap_cons, List.length_append, ih, List.length_cons]; unfold fuseB; rw [leB_len]; omega
  rw [h, List.length_take]
  exact Nat.mul_le_mul_right _ (by omega)
theorem fatesB_next {l : List Fa} {k : Nat} {x : Fa} (hx : l[k]? = some x) : fatesB l (k + 1) = (fatesB l k ++ leB (word x.kept) 8) ++ leB (word x.torn) 8 := by
  unfold fatesB
  rw [List.take_add_one, hx, Option.toList_some, List.flatMap_append, List.flatMap_cons, List.flatMap_nil, List.append_nil, List.append_assoc]
  rfl
theorem fusesB_next {l : List Int} {k : Nat} {x : Int} (hx : l[k]? = some x) : fusesB l (k + 1) = fusesB l k ++ leB (word x) 8 := by
  unfold fusesB
  rw [List.take_add_one, hx, Option.toList_some, List.flatMap_append, List.flatMap_cons, List.flatMap_nil, List.append_nil]
  rfl
def putsB (l : List Ac) (k : Nat) : List UInt8 := (l.take k).flatMap (fun x => if rightA x = true then oneB x else [])
theorem putsB_next {l : List Ac} {k : Nat} {x : Ac} (hx : l[k]? = some x) : putsB l (k + 1) = putsB l k ++ (if rightA x = true then oneB x else []) := by
  unfold putsB
  rw [List.take_add_one, hx, Option.toList_some, List.flatMap_append, List.flatMap_cons, List.flatMap_nil, List.append_nil]
theorem bytesC_le (x : Cmd) : (bytesC x).length ≤ x.l.length + 60 := by
  unfold bytesC
  repeat' split
  all_goals (simp only [List.length_append, leB_len, List.length_cons, List.length_nil]; omega)
/-- An act that is small. -/
def smallA (x : Ac) : Prop := x.c.l.length ≤ 1000000 ∧ x.fa.length ≤ 1000000 ∧ x.fu.length ≤ 1000000
end Go.Proofs.Ythkgchlndfcmpaa
