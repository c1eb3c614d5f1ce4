/- Contract of vivariumref13.Exact. -/
import Derived.Test.YthkgchlndfcmpaaCmd3
namespace Go.Proofs.Ythkgchlndfcmpaa
open Go.RowKit
set_option maxRecDepth 100000
set_option linter.unusedVariables false

theorem exact_raw (a1 a3 a4 a5 b1 b3 b4 b5 : Int) (a2 b2 r : Bool) (A B : Option Addr) (n c m d : Nat) (w : World)
    (hs : ∀ W, Keep (fun _ => False) w W → Calls Try.prog 39 #[.slice A n c, .slice B m d] W fun e w' => e = .returned (.bool r) ∧ W = w') :
    Calls Try.prog 75 #[.agg #[.int .i64 a1, .bool a2, .int .i64 a3, .int .i64 a4, .int .i64 a5, .slice A n c], .agg #[.int .i64 b1, .bool b2, .int .i64 b3, .int .i64 b4, .int .i64 b5, .slice B m d]] w fun e w' =>
      e = .returned (.bool (decide (a1 = b1) && (decide (a2 = b2) && (decide (a3 = b3 ∧ a4 = b4) && (decide (a5 = b5) && r))))) ∧ Below w.heap.size w w' := by
  have S := Lib.hid hs
  clear hs
  obtain ⟨z, hz⟩ : ∃ z, z = (decide (a1 = b1) && (decide (a2 = b2) && (decide (a3 = b3 ∧ a4 = b4) && (decide (a5 = b5) && r)))) := ⟨_, rfl⟩
  rw [← hz]
  by_cases h1 : ¬ a1 = b1
  · have Z := Lib.hid (show z = false by rw [hz]; simp [h1])
    have e1 : (a1 == b1) = false := by rw [beq_eq_false_iff_ne]; exact h1
    clear hz
    go_enter Try.func75, Try.ntmps75
    go_wp2
    go_ret
    exact ⟨ret_bool (Z.out.symm), (by repeat first | exact Below.refl _ _ | refine Below.setCell ?_ (by first | omega | (simp; done) | (simp; omega)) _ | refine Below.alloc ?_ (by first | omega | (simp; done) | (simp; omega)) _ | refine Below.drew ?_ | refine below_drewN ?_ _ | assumption)⟩
  have h1 := Decidable.not_not.1 h1
  subst h1
  by_cases h2 : ¬ a2 = b2
  · have Z := Lib.hid (show z = false by rw [hz]; simp [h2])
    have e1 : (a2 == b2) = false := by rw [beq_eq_false_iff_ne]; exact h2
    clear hz
    go_enter Try.func75, Try.ntmps75
    go_wp2
    go_ret
    exact ⟨ret_bool (Z.out.symm), (by repeat first | exact Below.refl _ _ | refine Below.setCell ?_ (by first | omega | (simp; done) | (simp; omega)) _ | refine Below.alloc ?_ (by first | omega | (simp; done) | (simp; omega)) _ | refine Below.drew ?_ | refine below_drewN ?_ _ | assumption)⟩
  have h2 := Decidable.not_not.1 h2
  subst h2
  by_cases h3 : ¬ a3 = b3
  · have Z := Lib.hid (show z = false by rw [hz]; simp [h3])
    have e1 : (a3 == b3) = false := by rw [beq_eq_false_iff_ne]; exact h3
    clear hz
    go_enter Try.func75, Try.ntmps75
    go_wp2
    go_ret
    exact ⟨ret_bool (Z.out.symm), (by repeat first | exact Below.refl _ _ | refine Below.setCell ?_ (by first | omega | (simp; done) | (simp; omega)) _ | refine Below.alloc ?_ (by first | omega | (simp; done) | (simp; omega)) _ | refine Below.drew ?_ | refine below_drewN ?_ _ | assumption)⟩
  have h3 := Decidable.not_not.1 h3
  subst h3
  by_cases h4 : ¬ a4 = b4
  · have Z := Lib.hid (show z = false by rw [hz]; simp [h4])
    have e1 : (a4 == b4) = false := by rw [beq_eq_false_iff_ne]; exact h4
    clear hz
    go_enter Try.func75, Try.ntmps75
    go_wp2
    go_ret
    exact ⟨ret_bool (Z.out.symm), (by repeat first | exact Below.refl _ _ | refine Below.setCell ?_ (by first | omega | (simp; done) | (simp; omega)) _ | refine Below.alloc ?_ (by first | omega | (simp; done) | (simp; omega)) _ | refine Below.drew ?_ | refine below_drewN ?_ _ | assumption)⟩
  have h4 := Decidable.not_not.1 h4
  subst h4
  by_cases h5 : ¬ a5 = b5
  · have Z := Lib.hid (show z = false by rw [hz]; simp [h5])
    have e1 : (a5 == b5) = false := by rw [beq_eq_false_iff_ne]; exact h5
    clear hz
    go_enter Try.func75, Try.ntmps75
    go_wp2
    go_ret
    exact ⟨ret_bool (Z.out.symm), (by repeat first | exact Below.refl _ _ | refine Below.setCell ?_ (by first | omega | (simp; done) | (simp; omega)) _ | refine Below.alloc ?_ (by first | omega | (simp; done) | (simp; omega)) _ | refine Below.drew ?_ | refine below_drewN ?_ _ | assumption)⟩
  have h5 := Decidable.not_not.1 h5
  subst h5
  have Z := Lib.hid (show z = r by rw [hz]; simp)
  clear hz
  go_enter Try.func75, Try.ntmps75
  go_wp2_with (go_at_call 39; refine (S.out _ (by exact (by repeat first | exact Keep.refl _ _ | refine Keep.alloc ?_ _ | refine Keep.drew ?_ | refine Keep.drewN ?_ _))).mono ?_; rintro e w1 ⟨rfl, rfl⟩)
  go_ret
  exact ⟨ret_bool (Z.out.symm), (by repeat first | exact Below.refl _ _ | refine Below.setCell ?_ (by first | omega | (simp; done) | (simp; omega)) _ | refine Below.alloc ?_ (by first | omega | (simp; done) | (simp; omega)) _ | refine Below.drew ?_ | refine below_drewN ?_ _ | assumption)⟩
end Go.Proofs.Ythkgchlndfcmpaa
