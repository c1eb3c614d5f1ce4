/- Contracts of cmd.Check and vivariumref13.Check. -/
import Derived.Test.YthkgchlndfcmpaaCmd1
namespace Go.Proofs.Ythkgchlndfcmpaa
open Go.RowKit
set_option maxRecDepth 100000
set_option linter.unusedVariables false

/-- May it be? -/
def checkC (x : Cmd) : Int := if knownC x.do_ = false then 1 else if 64 < x.l.length then 13 else 0
theorem ccheck_any (x : Cmd) (u : Value) (F : Nat → Prop) (w : World) (hu : By w F u x.l) :
    Calls Try.prog 80 #[cmdV x u] w fun e w' => e = .returned (.int .i64 (checkC x)) ∧ Below w.heap.size w w' := by
  have K := Lib.hid (known_any x.do_)
  obtain ⟨A, c, rfl, -⟩ := hu
  unfold cmdV
  unfold checkC
  generalize x.l.length = n at *
  obtain ⟨d, loc, idx, gen, comp, q⟩ := x
  simp only at K ⊢
  by_cases hk : knownC d = false
  · rw [hk] at K
    rw [if_pos hk]
    clear hk
    go_enter Try.func80, Try.ntmps80
    go_wp2_with (go_at_call 114; (with_reducible refine (K.out _).mono ?_); rintro e w1 ⟨rfl, rfl⟩)
    go_ret
    exact ⟨rfl, by exact (by repeat first | exact Below.refl _ _ | refine Below.setCell ?_ (by first | omega | (simp; done) | (simp; omega)) _ | refine Below.alloc ?_ (by first | omega | (simp; done) | (simp; omega)) _ | refine Below.drew ?_ | refine below_drewN ?_ _ | assumption)⟩
  · rw [show knownC d = true by simpa using hk] at K
    rw [if_neg hk]
    clear hk
    by_cases hn : 64 < n
    · rw [if_pos hn]
      have hn2 : (64 : Int) < (n : Int) := by omega
      go_enter Try.func80, Try.ntmps80
      go_wp2_with (go_at_call 114; (with_reducible refine (K.out _).mono ?_); rintro e w1 ⟨rfl, rfl⟩)
      go_ret
      exact ⟨rfl, by exact (by repeat first | exact Below.refl _ _ | refine Below.setCell ?_ (by first | omega | (simp; done) | (simp; omega)) _ | refine Below.alloc ?_ (by first | omega | (simp; done) | (simp; omega)) _ | refine Below.drew ?_ | refine below_drewN ?_ _ | assumption)⟩
    · rw [if_neg hn]
      have hn2 : ¬ (64 : Int) < (n : Int) := by omega
      go_enter Try.func80, Try.ntmps80
      go_wp2_with (go_at_call 114; (with_reducible refine (K.out _).mono ?_); rintro e w1 ⟨rfl, rfl⟩)
      go_ret
      exact ⟨rfl, by exact (by repeat first | exact Below.refl _ _ | refine Below.setCell ?_ (by first | omega | (simp; done) | (simp; omega)) _ | refine Below.alloc ?_ (by first | omega | (simp; done) | (simp; omega)) _ | refine Below.drew ?_ | refine below_drewN ?_ _ | assumption)⟩
theorem rcheck_any (x : Cmd) (u : Value) (F : Nat → Prop) (w : World) (hu : By w F u x.l) :
    Calls Try.prog 81 #[cmdV x u] w fun e w' => e = .returned (.int .i64 (checkC x)) ∧ Below w.heap.size w w' := by
  obtain ⟨A, c, rfl, -⟩ := hu
  unfold cmdV
  unfold checkC
  generalize x.l.length = n at *
  obtain ⟨d, loc, idx, gen, comp, q⟩ := x
  simp only
  by_cases h0 : d < 0
  · rw [if_pos (show knownC d = false from decide_eq_false (by omega))]
    go_enter Try.func81, Try.ntmps81
    go_wp2
    go_ret
    exact ⟨rfl, by exact (by repeat first | exact Below.refl _ _ | refine Below.setCell ?_ (by first | omega | (simp; done) | (simp; omega)) _ | refine Below.alloc ?_ (by first | omega | (simp; done) | (simp; omega)) _ | refine Below.drew ?_ | refine below_drewN ?_ _ | assumption)⟩
  by_cases h3 : 3 < d
  · rw [if_pos (show knownC d = false from decide_eq_false (by omega))]
    go_enter Try.func81, Try.ntmps81
    go_wp2
    go_ret
    exact ⟨rfl, by exact (by repeat first | exact Below.refl _ _ | refine Below.setCell ?_ (by first | omega | (simp; done) | (simp; omega)) _ | refine Below.alloc ?_ (by first | omega | (simp; done) | (simp; omega)) _ | refine Below.drew ?_ | refine below_drewN ?_ _ | assumption)⟩
  rw [if_neg (show ¬ knownC d = false from by unfold knownC; rw [decide_eq_true (by omega)]; decide)]
  by_cases hn : 64 < n
  · rw [if_pos hn]
    have hn2 : (64 : Int) < (n : Int) := by omega
    go_enter Try.func81, Try.ntmps81
    go_wp2
    go_ret
    exact ⟨rfl, by exact (by repeat first | exact Below.refl _ _ | refine Below.setCell ?_ (by first | omega | (simp; done) | (simp; omega)) _ | refine Below.alloc ?_ (by first | omega | (simp; done) | (simp; omega)) _ | refine Below.drew ?_ | refine below_drewN ?_ _ | assumption)⟩
  · rw [if_neg hn]
    have hn2 : ¬ (64 : Int) < (n : Int) := by omega
    go_enter Try.func81, Try.ntmps81
    go_wp2
    go_ret
    exact ⟨rfl, by exact (by repeat first | exact Below.refl _ _ | refine Below.setCell ?_ (by first | omega | (simp; done) | (simp; omega)) _ | refine Below.alloc ?_ (by first | omega | (simp; done) | (simp; omega)) _ | refine Below.drew ?_ | refine below_drewN ?_ _ | assumption)⟩
end Go.Proofs.Ythkgchlndfcmpaa
