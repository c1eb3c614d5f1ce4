/- vivariumlaw17.live. -/
import Derived.Test.YtakchlaoimnnhaaPart5
namespace Go.Proofs.Ytakchlaoimnnhaa
open Go.RowKit
set_option maxRecDepth 100000
set_option linter.unusedVariables false

theorem live17 (w : World) :
    Calls Try.prog 15 #[] w fun e w' => e = .returned (.bool true) ∧ Below w.heap.size w w' := by
  have P0 := Lib.hid (psplit_any 7 [] (.slice none 0 0) (fun _ => True) w (By.nil _ _) (by decide))
  rw [show splitL 7 [] = [[0, 0, 1, 0, 7, 0, 0, 0, 0, 0, 0, 0]] by decide] at P0
  go_enter Try.func15, Try.ntmps15
  go_wp2_with fail
  refine P0.out.mono ?_
  rintro e w1 ⟨u, rfl, hl, hb⟩
  obtain ⟨A, c, e1, _, _, hat⟩ := hl.bys.form
  obtain ⟨b0, o0, u0, e2, x0, y0⟩ := hat 0 (by decide)
  subst e2
  subst e1
  obtain ⟨A1, c1, e3, _⟩ := id y0
  subst e3
  rw [Nat.add_zero] at x0
  have Y0 := Lib.hid y0
  have S1 := Lib.hid (fun W (hk : Keep (fun _ => False) w1 W) => same_any _ [0, 0, 1, 0, 7, 0, 0, 0, 0, 0, 0, 0] _ _ _ _ (W.alloc (.cells (bv [0, 0, 1, 0, 7, 0, 0, 0, 0, 0, 0, 0]).toArray 5)) (Y0.out.keep (hk.alloc _) (fun _ _ _ h => h)) (By.lit W 5 [0, 0, 1, 0, 7, 0, 0, 0, 0, 0, 0, 0] (by decide)))
  rw [show decide (([[0, 0, 1, 0, 7, 0, 0, 0, 0, 0, 0, 0]] : List (List UInt8)).getD 0 [] = [0, 0, 1, 0, 7, 0, 0, 0, 0, 0, 0, 0]) = true from rfl] at S1
  have HB := Lib.hid hb
  clear hl hb hat y0
  go_wp2_with fail
  refine (S1.out w1 (Keep.refl _ _)).mono ?_
  rintro e w2 ⟨rfl, rfl⟩
  go_wp2
  go_ret
  exact ⟨rfl, HB.out.alloc HB.out.size _⟩
end Go.Proofs.Ytakchlaoimnnhaa
