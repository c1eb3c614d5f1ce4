/- le.Reader in memory; contracts of le.Read, OK, Left, Num, Bytes, Text. -/
import Derived.Test.YtglliendhbkkhaaDoorLe1
import Derived.Test.YtglliendhbkkhaaDoorArgs
import Derived.Test.YtglliendhbkkhaaDoorMem
import Derived.Deep.RegionHeld3
import Derived.RegionTactic
import Derived.ChangeAlike
namespace Go.Proofs.YtglliendhbkkhaaDoor
open Go.RowKit
set_option maxRecDepth 100000
set_option linter.unusedVariables false

def numR (l : List UInt8) (k : Nat) (bad : Bool) (width : Int) : Int × Nat × Bool := if bad = true then (0, k, true) else if getOk l k width = true then (getZ l k width, k + wideN width, false) else (0, k, true)
def bytesR (l : List UInt8) (k : Nat) (bad : Bool) (n : Int) : List UInt8 × Nat × Bool := if bad = true ∨ n < 0 then ([], k, bad) else if (l.length : Int) - k < n then ([], k, true) else ((l.drop k).take n.toNat, k + n.toNat, false)
def textR (l : List UInt8) (k : Nat) (bad : Bool) : List UInt8 × Nat × Bool := if bad = true then ([], k, true) else
  let a := numR l k false 2
  let b := bytesR l a.2.1 a.2.2 a.1
  if b.2.2 = true then ([], k, true) else (b.1, b.2.1, false)

theorem By.piece {w : World} {F : Nat → Prop} {A A' : Option Addr} {n c c' lo m : Nat} {l : List UInt8} (h : By w F (.slice A n c) l) (hl : lo + m ≤ l.length) (hA : 0 < m → ∀ a, A = some a → A' = some (a.add lo)) (hmc : m ≤ c') (hc : c' ≤ maxLen) (hn : A' = none → c' = 0) :
    By w F (.slice A' m c') ((l.drop lo).take m) := by
  have hlen : ((l.drop lo).take m).length = m := by rw [List.length_take, List.length_drop]; omega
  obtain ⟨A1, c1, hv, _, _, _, hr⟩ := h
  injection hv with e1 e2 e3
  subst e1 e3
  refine ⟨A', c', by rw [hlen], by rw [hlen]; exact hmc, hc, hn, ?_⟩
  have := hr.piece (size := 1) (lo := lo) (hi := lo + m) (by omega) (by omega) (A' := A') (fun b off e hlt => by
    rw [hA (by omega) _ e, Nat.mul_one]
    unfold Addr.add
    simp)
  rw [Nat.mul_one, Nat.mul_one, show lo + m - lo = m by omega] at this
  rw [hlen, Nat.mul_one]
  unfold bv at *
  rw [List.map_take, List.map_drop]
  exact this
end Go.Proofs.YtglliendhbkkhaaDoor
namespace Go.Proofs.YtglliendhbkkhaaDoor
open Go.RowKit
set_option maxRecDepth 100000
set_option linter.unusedVariables false

theorem wT2 : wideN 2 = 2 := rfl
end Go.Proofs.YtglliendhbkkhaaDoor
