/- vivariumlaw13.live and code. -/
import Derived.Test.YtakchlaoimnnhaaCmdQ

namespace Go.Proofs.Ytakchlaoimnnhaa
open Go.RowKit
set_option maxRecDepth 100000
set_option linter.unusedVariables false

theorem live13 (w : World) :
    Calls Try.prog 24 #[] w fun e w' => e = .returned (.bool true) ∧ Below w.heap.size w w' := by
  have P0 := Lib.hid (cput_0 0 0 0 false none 0 0 [] (.slice none 0 0) (fun _ => True) w (By.nil _ _) (by decide))
  have P1 := Lib.hid (fun w => cput_1t 2 0 0 none 0 0 [] (.slice none 0 0) (fun _ => True) w (By.nil _ _) (by decide))
  rw [show (([] : List UInt8) ++ [0]) = [0] from rfl] at P0
  rw [show (([] : List UInt8) ++ (leB (word 1) 1 ++ (leB (word 1) 1 ++ leB (word 2) 8))) = [1, 1, 2, 0, 0, 0, 0, 0, 0, 0] by decide] at P1
  have S0 := Lib.hid (fun (W : World) u (F : Nat → Prop) (h : By W F u [0]) => same_any [0] [0] u _ F _ (W.alloc (.cells (bv [0]).toArray 5)) (h.keep ((Keep.refl (fun _ => False) W).alloc _) (fun _ _ _ h => h)) (By.lit W 5 [0] (by decide)))
  rw [decide_eq_true rfl] at S0
  have S1 := Lib.hid (fun (W : World) u (F : Nat → Prop) (h : By W F u [1, 1, 2, 0, 0, 0, 0, 0, 0, 0]) => same_any [1, 1, 2, 0, 0, 0, 0, 0, 0, 0] [1, 1, 2, 0, 0, 0, 0, 0, 0, 0] u _ F _ (W.alloc (.cells (bv [1, 1, 2, 0, 0, 0, 0, 0, 0, 0]).toArray 5)) (h.keep ((Keep.refl (fun _ => False) W).alloc _) (fun _ _ _ h => h)) (By.lit W 5 [1, 1, 2, 0, 0, 0, 0, 0, 0, 0] (by decide)))
  rw [decide_eq_true rfl] at S1
  go_enter Try.func24, Try.ntmps24
  go_wp2_with fail
  refine P0.out.mono ?_
  rintro e w1 ⟨A1, n1, c1, rfl, hby1, hb1⟩
  have H1 := Lib.hid (And.intro hby1 hb1)
  clear hby1 hb1
  go_wp2_with fail
  refine (S0.out _ _ _ H1.out.1).mono ?_
  rintro e w2 ⟨rfl, rfl⟩
  go_wp2_with fail
  refine (P1.out _).mono ?_
  rintro e w3 ⟨A3, n3, c3, rfl, hby3, hb3⟩
  have H3 := Lib.hid (And.intro hby3 hb3)
  clear hby3 hb3
  go_wp2_with fail
  refine (S1.out _ _ _ H3.out.1).mono ?_
  rintro e w4 ⟨rfl, rfl⟩
  go_wp2
  go_ret
  have h1 : Below w.heap.size w (w1.alloc (.cells (bv [0]).toArray 5)) := H1.out.2.alloc H1.out.2.size _
  have h2 := h1.trans (H3.out.2.mono h1.size)
  exact ⟨rfl, h2.alloc h2.size _⟩

theorem code13 (z : Int) (w : World) : Calls Try.prog 28 #[.int .i64 z] w fun e w' => e = .returned (.int .i64 z) ∧ w = w' := by
  go_enter Try.func28, Try.ntmps28
  go_wp2
  go_ret
  exact ⟨rfl, rfl⟩
end Go.Proofs.Ytakchlaoimnnhaa
