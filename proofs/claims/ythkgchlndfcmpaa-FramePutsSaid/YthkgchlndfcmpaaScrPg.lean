/- Acts out of bytes, as the program reads them: plain. -/
import Derived.Test.YthkgchlndfcmpaaScrPl
import Derived.Test.YthkgchlndfcmpaaRdr
namespace Go.Proofs.Ythkgchlndfcmpaa
open Go.RowKit
set_option maxRecDepth 100000
set_option linter.unusedVariables false

/-- So many fates, while the reader is whole. -/
def faR (l : List UInt8) : Nat → Nat → Bool → List Fa × Nat × Bool
  | 0, k, bad => ([], k, bad)
  | n + 1, k, bad => if bad = true then ([], k, bad) else
      (⟨(numR l k bad 8).1, (numR l (numR l k bad 8).2.1 (numR l k bad 8).2.2 8).1⟩ :: (faR l n (numR l (numR l k bad 8).2.1 (numR l k bad 8).2.2 8).2.1 (numR l (numR l k bad 8).2.1 (numR l k bad 8).2.2 8).2.2).1,
       (faR l n (numR l (numR l k bad 8).2.1 (numR l k bad 8).2.2 8).2.1 (numR l (numR l k bad 8).2.1 (numR l k bad 8).2.2 8).2.2).2)
def fuR (l : List UInt8) : Nat → Nat → Bool → List Int × Nat × Bool
  | 0, k, bad => ([], k, bad)
  | n + 1, k, bad => if bad = true then ([], k, bad) else
      ((numR l k bad 8).1 :: (fuR l n (numR l k bad 8).2.1 (numR l k bad 8).2.2).1, (fuR l n (numR l k bad 8).2.1 (numR l k bad 8).2.2).2)
theorem faR_bad (l : List UInt8) (n k : Nat) : faR l n k true = ([], k, true) := by cases n <;> simp [faR]
theorem fuR_bad (l : List UInt8) (n k : Nat) : fuR l n k true = ([], k, true) := by cases n <;> simp [fuR]
/-- What script.crash reads. -/
def crashR (l : List UInt8) (k : Nat) (bad : Bool) : List Fa × List Int × Nat × Bool :=
  let a := numR l k bad 2
  let f := faR l a.1.toNat a.2.1 a.2.2
  let b := numR l f.2.1 f.2.2 2
  let u := fuR l b.1.toNat b.2.1 b.2.2
  (f.1, u.1, u.2)
theorem crashR_eq {l : List UInt8} {k : Nat} {bad : Bool} {n m : Nat} (hn : (numR l k bad 2).1 = n) (hm : (numR l (faR l n (numR l k bad 2).2.1 (numR l k bad 2).2.2).2.1 (faR l n (numR l k bad 2).2.1 (numR l k bad 2).2.2).2.2 2).1 = m) :
    crashR l k bad = ((faR l n (numR l k bad 2).2.1 (numR l k bad 2).2.2).1,
      (fuR l m (numR l (faR l n (numR l k bad 2).2.1 (numR l k bad 2).2.2).2.1 (faR l n (numR l k bad 2).2.1 (numR l k bad 2).2.2).2.2 2).2.1 (numR l (faR l n (numR l k bad 2).2.1 (numR l k bad 2).2.2).2.1 (faR l n (numR l k bad 2).2.1 (numR l k bad 2).2.2).2.2 2).2.2).1,
      (fuR l m (numR l (faR l n (numR l k bad 2).2.1 (numR l k bad 2).2.2).2.1 (faR l n (numR l k bad 2).2.1 (numR l k bad 2).2.2).2.2 2).2.1 (numR l (faR l n (numR l k bad 2).2.1 (numR l k bad 2).2.2).2.1 (faR l n (numR l k bad 2).2.1 (numR l k bad 2).2.2).2.2 2).2.2).2) := by
  unfold crashR
  simp only [hn, hm, Int.toNat_natCast]
theorem num2 (l : List UInt8) (k : Nat) (bad : Bool) : ∃ n : Nat, (numR l k bad 2).1 = n ∧ n ≤ 65535 := by
  unfold numR
  split
  · exact ⟨0, rfl, by omega⟩
  · split
    · rename_i h
      refine ⟨getN (pieceOf l k 2), ?_, ?_⟩
      · have : getN (pieceOf l k 2) < 65536 := Nat.lt_of_lt_of_le (getN_lt _) (Nat.le_trans (Nat.pow_le_pow_right (by decide) (List.length_take_le _ _)) (by decide))
        show getZ l k 2 = _
        unfold getZ
        rw [if_pos h, Int.toNat_natCast]
        show wrap64 (getN (pieceOf l k (wideN 2))) = _
        rw [show wideN 2 = 2 from rfl]
        unfold wrap64
        omega
      · have : getN (pieceOf l k 2) < 65536 := Nat.lt_of_lt_of_le (getN_lt _) (Nat.le_trans (Nat.pow_le_pow_right (by decide) (List.length_take_le _ _)) (by decide))
        omega
    · exact ⟨0, rfl, by omega⟩
end Go.Proofs.Ythkgchlndfcmpaa
