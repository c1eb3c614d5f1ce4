/- Contracts of comp.All, comp.Sectors. -/
import Derived.Test.YtdeifjnhbdkkgaaGreatDoorComp1
import Derived.Test.YtdeifjnhbdkkgaaGreatDoorBits2
namespace Go.Proofs.YtdeifjnhbdkkgaaGreatDoor
open Go.RowKit
set_option maxRecDepth 100000
set_option linter.unusedVariables false

def idxL (n : Nat) : List Int := (List.range n).map (fun k : Nat => (k : Int))
theorem idxL_at {n k : Nat} (h : k < n) : (idxL n)[k]? = some (k : Int) := by simp [idxL, h]
theorem idxL_len (n : Nat) : (idxL n).length = n := by simp [idxL]
theorem call_any (c : Cf) (u : Value) (F : Nat → Prop) (w : World) (hu : CL w F u c.l) (h40 : c.l.length ≤ 1000) :
    Calls Tryz.prog 54 #[confV c u] w fun e w' => e = .returned (.int .u64 (orL (idxL c.l.length) 0 : Nat)) ∧ Below w.heap.size w w' := by
  have hu0 := hu
  obtain ⟨A, cap, rfl, hnc, hcm, -⟩ := hu
  obtain ⟨n, hn⟩ : ∃ n, n = c.l.length := ⟨_, rfl⟩
  have B0 := Lib.hid (BF.first hu0)
  unfold confV
  rw [← hn] at hnc hu0 B0 h40 ⊢
  clear hn hcm
  obtain ⟨log, pages, ents, gens, l⟩ := c
  simp only at hnc hu0 B0 h40 ⊢
  go_enter Tryz.func54, Tryz.ntmps54
  go_upto_region 1 with fail
  refine wp_world (S := BF w F ⟨log, pages, ents, gens, l⟩ (.slice A n cap)) B0.out ?_
  intro X hX
  have HX := Lib.hid hX
  clear hX hu0 B0
  obtain ⟨x0, x1, x2, x3, x4, xf⟩ := cells5 HX.out.1
  go_wp2
  go_loopw [3, 8] (fun t i wr => ∃ k : Nat, k ≤ n ∧ i = .int .i64 k ∧ t = .int .u64 (orL ((idxL n).take k) 0 : Nat) ∧ wr = X) (fun _ i _ => n - (intOf i).toNat)
  case atStart => exact ⟨0, by omega, rfl, rfl, rfl⟩
  case round =>
    obtain ⟨k, hk, rfl, rfl, rfl⟩ := hrel
    by_cases hlt : k < n
    · have hi : (k : Int) < (n : Int) := by omega
      have OT := Lib.hid (orL_take (idxL n) k (k : Int) (idxL_at hlt))
      have LT := orL_lt ((idxL n).take k) 0 (by decide)
      generalize orL ((idxL n).take k) 0 = s at *
      have WA := Lib.hid (with_any s (k : Int) LT)
      clear LT
      generalize s ||| bitN (k : Int) = s2 at *
      go_wp2_with (go_at_call 71; (with_reducible refine (WA.out _).mono ?_); rintro e w1 ⟨rfl, rfl⟩)
      go_roundw
      case rel => exact ⟨k + 1, by omega, by go_num, by rw [OT.out], by first | rfl | trivial⟩
      case measure => simp [intOf]; omega
    · obtain rfl : k = n := by omega
      have hi : ¬ (k : Int) < (k : Int) := by omega
      have e : (idxL k).take k = idxL k := List.take_of_length_le (by rw [idxL_len]; omega)
      rw [e]
      go_wp2
      go_ret
      exact ⟨rfl, HX.out.2.2⟩
end Go.Proofs.YtdeifjnhbdkkgaaGreatDoor
