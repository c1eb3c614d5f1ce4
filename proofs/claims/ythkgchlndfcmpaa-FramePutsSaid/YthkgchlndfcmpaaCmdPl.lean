/- Commands: plain facts. No program in sight. -/
import Derived.Test.YthkgchlndfcmpaaLePl
namespace Go.Proofs.Ythkgchlndfcmpaa
open Go.RowKit
set_option maxRecDepth 100000

structure Cmd where
  do_ : Int
  loc : Bool
  idx : Int
  gen : Int
  comp : Int
  l : List UInt8
/-- Is it one of the four? -/
def knownC (d : Int) : Bool := decide (0 ≤ d ∧ d ≤ 3)
/-- What counts of it. -/
def plainC (x : Cmd) : Cmd :=
  if knownC x.do_ = false then x
  else if x.do_ = 0 then ⟨0, false, 0, 0, 0, []⟩
  else ⟨x.do_, x.loc, x.idx, if x.loc then 0 else x.gen, if x.do_ = 1 then 0 else x.comp, if x.do_ = 2 then x.l else []⟩
def exactC (a b : Cmd) : Bool := decide (a.do_ = b.do_) && (decide (a.loc = b.loc) && (decide (a.idx = b.idx ∧ a.gen = b.gen) && (decide (a.comp = b.comp) && decide (a.l = b.l))))
def sameC (a b : Cmd) : Bool := exactC (plainC a) (plainC b)
theorem exactC_self (a : Cmd) : exactC a a = true := by simp [exactC]
theorem exactC_iff {a b : Cmd} : exactC a b = true ↔ a = b := by
  obtain ⟨a1, a2, a3, a4, a5, a6⟩ := a
  obtain ⟨b1, b2, b3, b4, b5, b6⟩ := b
  simp [exactC, and_assoc]
theorem plainC_do (x : Cmd) : (plainC x).do_ = x.do_ := by
  unfold plainC
  split
  · rfl
  · split
    · rename_i h; exact h.symm
    · rfl
theorem plainC_idem (x : Cmd) : plainC (plainC x) = plainC x := by
  by_cases h : knownC x.do_ = false
  · have e : plainC x = x := by unfold plainC; rw [if_pos h]
    rw [e, e]
  · by_cases h0 : x.do_ = 0
    · have e : plainC x = ⟨0, false, 0, 0, 0, []⟩ := by unfold plainC; rw [if_neg h, if_pos h0]
      rw [e]; rfl
    · have e : plainC x = ⟨x.do_, x.loc, x.idx, if x.loc then 0 else x.gen, if x.do_ = 1 then 0 else x.comp, if x.do_ = 2 then x.l else []⟩ := by unfold plainC; rw [if_neg h, if_neg h0]
      rw [e]
      unfold plainC
      simp only [if_neg h, if_neg h0]
      cases x.loc <;> (split <;> split <;> simp_all)
theorem sameC_plain (x : Cmd) : sameC x (plainC x) = true := by
  unfold sameC
  rw [plainC_idem]
  exact exactC_self _
theorem plainC_len (x : Cmd) : (plainC x).l.length ≤ x.l.length := by
  unfold plainC
  split
  · exact Nat.le_refl _
  · split
    · exact Nat.zero_le _
    · show (if x.do_ = 2 then x.l else []).length ≤ _
      split
      · exact Nat.le_refl _
      · exact Nat.zero_le _

/-- Its bytes. -/
def bytesC (x : Cmd) : List UInt8 :=
  if knownC x.do_ = false then [255]
  else leB (word x.do_) 1 ++ (if x.do_ = 0 then [] else
    (if x.loc then [1] ++ leB (word x.idx) 8 else [0] ++ (leB (word x.idx) 8 ++ leB (word x.gen) 8)) ++
    ((if x.do_ = 1 then [] else leB (word x.comp) 8) ++ (if x.do_ = 2 then leB (word (x.l.length : Nat)) 2 ++ x.l else [])))
end Go.Proofs.Ythkgchlndfcmpaa
