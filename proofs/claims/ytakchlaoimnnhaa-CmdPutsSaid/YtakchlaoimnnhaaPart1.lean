/- Contracts of geom.Need, vivariumref16.Need; a list of byte slices that is built; part.Split. -/
import Derived.Test.YtakchlaoimnnhaaPartPl
import Derived.Test.YtakchlaoimnnhaaLe2
import Derived.Test.YtakchlaoimnnhaaRdr
namespace Go.Proofs.Ytakchlaoimnnhaa
open Go.RowKit
set_option maxRecDepth 100000
set_option linter.unusedVariables false

theorem need_le (n : Nat) : need n ≤ n + 1 := by unfold need; split <;> omega
theorem need_any (n : Nat) (w : World) (hn : n ≤ 1099511627776) :
    Calls Try.prog 59 #[.int .i64 (n : Nat)] w fun e w' => e = .returned (.int .i64 (need n : Nat)) ∧ w = w' := by
  have H := Lib.hid (show (need n : Int) = if n ≤ 460 then 1 else ((n : Int) - 1) / 460 + 1 by unfold need; split <;> omega)
  by_cases h : n ≤ 460
  · rw [if_pos (by omega)] at H
    go_enter Try.func59, Try.ntmps59
    go_wp2
    go_ret
    exact ⟨ret_int H.out.symm, rfl⟩
  · rw [if_neg (by omega)] at H
    go_enter Try.func59, Try.ntmps59
    go_wp2
    go_ret
    exact ⟨ret_int H.out.symm, rfl⟩
theorem rneed_any (n : Nat) (w : World) (hn : n ≤ 1099511627776) :
    Calls Try.prog 61 #[.int .i64 (n : Nat)] w fun e w' => e = .returned (.int .i64 (need n : Nat)) ∧ w = w' := by
  have H := Lib.hid (show (need n : Int) = if n < 1 then 1 else if 0 < n % 460 then (n / 460 : Nat) + 1 else (n / 460 : Nat) by
    unfold need
    split
    · split
      · rfl
      · split <;> omega
    · rw [if_neg (by omega)]
      split <;> omega)
  by_cases h : n < 1
  · rw [if_pos h] at H
    go_enter Try.func61, Try.ntmps61
    go_wp2
    go_ret
    exact ⟨ret_int H.out.symm, rfl⟩
  · rw [if_neg h] at H
    by_cases h2 : 0 < n % 460
    · rw [if_pos h2] at H
      have h3 : (0 : Int) < (n : Int) % 460 := by omega
      go_enter Try.func61, Try.ntmps61
      go_wp2
      go_ret
      exact ⟨ret_int (by rw [H.out]; simp), rfl⟩
    · rw [if_neg h2] at H
      have h3 : ¬ (0 : Int) < (n : Int) % 460 := by omega
      have h4 : (n : Int) % 460 ≤ 0 := by omega
      go_enter Try.func61, Try.ntmps61
      go_wp2
      go_ret
      exact ⟨ret_int (by rw [H.out]; simp), rfl⟩
theorem place_any (z : Int) (w : World) :
    Calls Try.prog 68 #[.int .i64 z] w fun e w' => e = .returned (.bool (decide (0 ≤ z ∧ z ≤ 281474976710656))) ∧ w = w' := by
  obtain ⟨r, hr⟩ : ∃ r, r = decide (0 ≤ z ∧ z ≤ 281474976710656) := ⟨_, rfl⟩
  rw [← hr]
  by_cases h0 : z < 0
  · have Z := Lib.hid (hr.trans (decide_eq_false (by omega)))
    clear hr
    have h00 : decide (0 ≤ z) = false := decide_eq_false (by omega)
    go_enter Try.func68, Try.ntmps68
    go_wp2
    go_ret
    exact ⟨ret_bool Z.out.symm, rfl⟩
  · by_cases h1 : z ≤ 281474976710656
    · have Z := Lib.hid (hr.trans (decide_eq_true (by omega)))
      clear hr
      have h2 : decide (z ≤ 281474976710656) = true := decide_eq_true h1
      go_enter Try.func68, Try.ntmps68
      go_wp2
      go_ret
      exact ⟨ret_bool Z.out.symm, rfl⟩
    · have Z := Lib.hid (hr.trans (decide_eq_false (by omega)))
      clear hr
      have h2 : decide (z ≤ 281474976710656) = false := decide_eq_false h1
      go_enter Try.func68, Try.ntmps68
      go_wp2
      go_ret
      exact ⟨ret_bool Z.out.symm, rfl⟩
end Go.Proofs.Ytakchlaoimnnhaa
