/- Contracts of vivariumref13.Plain and cmd.Plain. Printed by gencmd2.py. -/
import Derived.Test.YthkgchlndfcmpaaCmd1
namespace Go.Proofs.Ythkgchlndfcmpaa
open Go.RowKit
set_option maxRecDepth 100000
set_option linter.unusedVariables false

theorem rplain_not (d idx gen comp : Int) (loc : Bool) (A : Option Addr) (n c : Nat) (w : World) (hd : d < 0 ∨ (0 ≤ d ∧ 3 < d)) :
    Calls Try.prog 79 #[.agg #[.int .i64 d, .bool loc, .int .i64 idx, .int .i64 gen, .int .i64 comp, .slice A n c]] w fun e w' => e = .returned (.agg #[.int .i64 d, .bool loc, .int .i64 idx, .int .i64 gen, .int .i64 comp, .slice A n c]) ∧ Below w.heap.size w w' := by
  rcases hd with hd | ⟨hd, hd'⟩
  all_goals
    go_enter Try.func79, Try.ntmps79
    go_wp2
    exact bodyPost_ret (v := .agg #[.int .i64 d, .bool loc, .int .i64 idx, .int .i64 gen, .int .i64 comp, .slice A n c]) (by simp [results, Try.results79, go_sem]) rfl ⟨rfl, (by repeat first | exact Below.refl _ _ | refine Below.setCell ?_ (by first | omega | (simp; done) | (simp; omega)) _ | refine Below.alloc ?_ (by first | omega | (simp; done) | (simp; omega)) _ | refine Below.drew ?_ | refine below_drewN ?_ _ | assumption)⟩
theorem rplain_0 (idx gen comp : Int) (loc : Bool) (A : Option Addr) (n c : Nat) (w : World) :
    Calls Try.prog 79 #[.agg #[.int .i64 0, .bool loc, .int .i64 idx, .int .i64 gen, .int .i64 comp, .slice A n c]] w fun e w' => e = .returned (.agg #[.int .i64 0, .bool false, .int .i64 0, .int .i64 0, .int .i64 0, .slice none 0 0]) ∧ Below w.heap.size w w' := by
  go_enter Try.func79, Try.ntmps79
  go_wp2
  exact bodyPost_ret (v := .agg #[.int .i64 0, .bool false, .int .i64 0, .int .i64 0, .int .i64 0, .slice none 0 0]) (by simp [results, Try.results79, go_sem]) rfl ⟨rfl, (by repeat first | exact Below.refl _ _ | refine Below.setCell ?_ (by first | omega | (simp; done) | (simp; omega)) _ | refine Below.alloc ?_ (by first | omega | (simp; done) | (simp; omega)) _ | refine Below.drew ?_ | refine below_drewN ?_ _ | assumption)⟩
theorem rplain_1t (idx gen comp : Int) (A : Option Addr) (n c : Nat) (w : World) :
    Calls Try.prog 79 #[.agg #[.int .i64 1, .bool true, .int .i64 idx, .int .i64 gen, .int .i64 comp, .slice A n c]] w fun e w' => e = .returned (.agg #[.int .i64 1, .bool true, .int .i64 idx, .int .i64 0, .int .i64 0, .slice none 0 0]) ∧ Below w.heap.size w w' := by
  go_enter Try.func79, Try.ntmps79
  go_wp2
  go_region
  go_wp2
  exact bodyPost_ret (v := .agg #[.int .i64 1, .bool true, .int .i64 idx, .int .i64 0, .int .i64 0, .slice none 0 0]) (by simp [results, Try.results79, go_sem]) rfl ⟨rfl, (by repeat first | exact Below.refl _ _ | refine Below.setCell ?_ (by first | omega | (simp; done) | (simp; omega)) _ | refine Below.alloc ?_ (by first | omega | (simp; done) | (simp; omega)) _ | refine Below.drew ?_ | refine below_drewN ?_ _ | assumption)⟩
theorem rplain_1f (idx gen comp : Int) (A : Option Addr) (n c : Nat) (w : World) :
    Calls Try.prog 79 #[.agg #[.int .i64 1, .bool false, .int .i64 idx, .int .i64 gen, .int .i64 comp, .slice A n c]] w fun e w' => e = .returned (.agg #[.int .i64 1, .bool false, .int .i64 idx, .int .i64 gen, .int .i64 0, .slice none 0 0]) ∧ Below w.heap.size w w' := by
  go_enter Try.func79, Try.ntmps79
  go_wp2
  go_region
  go_wp2
  exact bodyPost_ret (v := .agg #[.int .i64 1, .bool false, .int .i64 idx, .int .i64 gen, .int .i64 0, .slice none 0 0]) (by simp [results, Try.results79, go_sem]) rfl ⟨rfl, (by repeat first | exact Below.refl _ _ | refine Below.setCell ?_ (by first | omega | (simp; done) | (simp; omega)) _ | refine Below.alloc ?_ (by first | omega | (simp; done) | (simp; omega)) _ | refine Below.drew ?_ | refine below_drewN ?_ _ | assumption)⟩
theorem rplain_2t (idx gen comp : Int) (A : Option Addr) (n c : Nat) (w : World) :
    Calls Try.prog 79 #[.agg #[.int .i64 2, .bool true, .int .i64 idx, .int .i64 gen, .int .i64 comp, .slice A n c]] w fun e w' => e = .returned (.agg #[.int .i64 2, .bool true, .int .i64 idx, .int .i64 0, .int .i64 comp, .slice A n c]) ∧ Below w.heap.size w w' := by
  go_enter Try.func79, Try.ntmps79
  go_wp2
  go_region
  go_wp2
  exact bodyPost_ret (v := .agg #[.int .i64 2, .bool true, .int .i64 idx, .int .i64 0, .int .i64 comp, .slice A n c]) (by simp [results, Try.results79, go_sem]) rfl ⟨rfl, (by repeat first | exact Below.refl _ _ | refine Below.setCell ?_ (by first | omega | (simp; done) | (simp; omega)) _ | refine Below.alloc ?_ (by first | omega | (simp; done) | (simp; omega)) _ | refine Below.drew ?_ | refine below_drewN ?_ _ | assumption)⟩
theorem rplain_2f (idx gen comp : Int) (A : Option Addr) (n c : Nat) (w : World) :
    Calls Try.prog 79 #[.agg #[.int .i64 2, .bool false, .int .i64 idx, .int .i64 gen, .int .i64 comp, .slice A n c]] w fun e w' => e = .returned (.agg #[.int .i64 2, .bool false, .int .i64 idx, .int .i64 gen, .int .i64 comp, .slice A n c]) ∧ Below w.heap.size w w' := by
  go_enter Try.func79, Try.ntmps79
  go_wp2
  go_region
  go_wp2
  exact bodyPost_ret (v := .agg #[.int .i64 2, .bool false, .int .i64 idx, .int .i64 gen, .int .i64 comp, .slice A n c]) (by simp [results, Try.results79, go_sem]) rfl ⟨rfl, (by repeat first | exact Below.refl _ _ | refine Below.setCell ?_ (by first | omega | (simp; done) | (simp; omega)) _ | refine Below.alloc ?_ (by first | omega | (simp; done) | (simp; omega)) _ | refine Below.drew ?_ | refine below_drewN ?_ _ | assumption)⟩
theorem rplain_3t (idx gen comp : Int) (A : Option Addr) (n c : Nat) (w : World) :
    Calls Try.prog 79 #[.agg #[.int .i64 3, .bool true, .int .i64 idx, .int .i64 gen, .int .i64 comp, .slice A n c]] w fun e w' => e = .returned (.agg #[.int .i64 3, .bool true, .int .i64 idx, .int .i64 0, .int .i64 comp, .slice none 0 0]) ∧ Below w.heap.size w w' := by
  go_enter Try.func79, Try.ntmps79
  go_wp2
  go_region
  go_wp2
  exact bodyPost_ret (v := .agg #[.int .i64 3, .bool true, .int .i64 idx, .int .i64 0, .int .i64 comp, .slice none 0 0]) (by simp [results, Try.results79, go_sem]) rfl ⟨rfl, (by repeat first | exact Below.refl _ _ | refine Below.setCell ?_ (by first | omega | (simp; done) | (simp; omega)) _ | refine Below.alloc ?_ (by first | omega | (simp; done) | (simp; omega)) _ | refine Below.drew ?_ | refine below_drewN ?_ _ | assumption)⟩
theorem rplain_3f (idx gen comp : Int) (A : Option Addr) (n c : Nat) (w : World) :
    Calls Try.prog 79 #[.agg #[.int .i64 3, .bool false, .int .i64 idx, .int .i64 gen, .int .i64 comp, .slice A n c]] w fun e w' => e = .returned (.agg #[.int .i64 3, .bool false, .int .i64 idx, .int .i64 gen, .int .i64 comp, .slice none 0 0]) ∧ Below w.heap.size w w' := by
  go_enter Try.func79, Try.ntmps79
  go_wp2
  go_region
  go_wp2
  exact bodyPost_ret (v := .agg #[.int .i64 3, .bool false, .int .i64 idx, .int .i64 gen, .int .i64 comp, .slice none 0 0]) (by simp [results, Try.results79, go_sem]) rfl ⟨rfl, (by repeat first | exact Below.refl _ _ | refine Below.setCell ?_ (by first | omega | (simp; done) | (simp; omega)) _ | refine Below.alloc ?_ (by first | omega | (simp; done) | (simp; omega)) _ | refine Below.drew ?_ | refine below_drewN ?_ _ | assumption)⟩
theorem pplain_0 (idx gen comp : Int) (loc : Bool) (A : Option Addr) (n c : Nat) (w : World) :
    Calls Try.prog 76 #[.agg #[.int .i64 0, .bool loc, .int .i64 idx, .int .i64 gen, .int .i64 comp, .slice A n c]] w fun e w' => e = .returned (.agg #[.int .i64 0, .bool false, .int .i64 0, .int .i64 0, .int .i64 0, .slice none 0 0]) ∧ Below w.heap.size w w' := by
  have K := Lib.hid (known_any 0)
  rw [show knownC 0 = true from rfl] at K
  go_enter Try.func76, Try.ntmps76
  go_wp2_with (go_at_call 114; refine (K.out _).mono ?_; rintro e w1 ⟨rfl, rfl⟩)
  exact bodyPost_ret (v := .agg #[.int .i64 0, .bool false, .int .i64 0, .int .i64 0, .int .i64 0, .slice none 0 0]) (by simp [results, Try.results76, go_sem]) rfl ⟨rfl, (by repeat first | exact Below.refl _ _ | refine Below.setCell ?_ (by first | omega | (simp; done) | (simp; omega)) _ | refine Below.alloc ?_ (by first | omega | (simp; done) | (simp; omega)) _ | refine Below.drew ?_ | refine below_drewN ?_ _ | assumption)⟩
theorem pplain_1t (idx gen comp : Int) (A : Option Addr) (n c : Nat) (w : World) :
    Calls Try.prog 76 #[.agg #[.int .i64 1, .bool true, .int .i64 idx, .int .i64 gen, .int .i64 comp, .slice A n c]] w fun e w' => e = .returned (.agg #[.int .i64 1, .bool true, .int .i64 idx, .int .i64 0, .int .i64 0, .slice none 0 0]) ∧ Below w.heap.size w w' := by
  have K := Lib.hid (known_any 1)
  rw [show knownC 1 = true from rfl] at K
  go_enter Try.func76, Try.ntmps76
  go_wp2_with (go_at_call 114; refine (K.out _).mono ?_; rintro e w1 ⟨rfl, rfl⟩)
  go_region
  go_wp2
  exact bodyPost_ret (v := .agg #[.int .i64 1, .bool true, .int .i64 idx, .int .i64 0, .int .i64 0, .slice none 0 0]) (by simp [results, Try.results76, go_sem]) rfl ⟨rfl, (by repeat first | exact Below.refl _ _ | refine Below.setCell ?_ (by first | omega | (simp; done) | (simp; omega)) _ | refine Below.alloc ?_ (by first | omega | (simp; done) | (simp; omega)) _ | refine Below.drew ?_ | refine below_drewN ?_ _ | assumption)⟩
theorem pplain_1f (idx gen comp : Int) (A : Option Addr) (n c : Nat) (w : World) :
    Calls Try.prog 76 #[.agg #[.int .i64 1, .bool false, .int .i64 idx, .int .i64 gen, .int .i64 comp, .slice A n c]] w fun e w' => e = .returned (.agg #[.int .i64 1, .bool false, .int .i64 idx, .int .i64 gen, .int .i64 0, .slice none 0 0]) ∧ Below w.heap.size w w' := by
  have K := Lib.hid (known_any 1)
  rw [show knownC 1 = true from rfl] at K
  go_enter Try.func76, Try.ntmps76
  go_wp2_with (go_at_call 114; refine (K.out _).mono ?_; rintro e w1 ⟨rfl, rfl⟩)
  go_region
  go_wp2
  exact bodyPost_ret (v := .agg #[.int .i64 1, .bool false, .int .i64 idx, .int .i64 gen, .int .i64 0, .slice none 0 0]) (by simp [results, Try.results76, go_sem]) rfl ⟨rfl, (by repeat first | exact Below.refl _ _ | refine Below.setCell ?_ (by first | omega | (simp; done) | (simp; omega)) _ | refine Below.alloc ?_ (by first | omega | (simp; done) | (simp; omega)) _ | refine Below.drew ?_ | refine below_drewN ?_ _ | assumption)⟩
theorem pplain_3t (idx gen comp : Int) (A : Option Addr) (n c : Nat) (w : World) :
    Calls Try.prog 76 #[.agg #[.int .i64 3, .bool true, .int .i64 idx, .int .i64 gen, .int .i64 comp, .slice A n c]] w fun e w' => e = .returned (.agg #[.int .i64 3, .bool true, .int .i64 idx, .int .i64 0, .int .i64 comp, .slice none 0 0]) ∧ Below w.heap.size w w' := by
  have K := Lib.hid (known_any 3)
  rw [show knownC 3 = true from rfl] at K
  go_enter Try.func76, Try.ntmps76
  go_wp2_with (go_at_call 114; refine (K.out _).mono ?_; rintro e w1 ⟨rfl, rfl⟩)
  go_region
  go_wp2
  exact bodyPost_ret (v := .agg #[.int .i64 3, .bool true, .int .i64 idx, .int .i64 0, .int .i64 comp, .slice none 0 0]) (by simp [results, Try.results76, go_sem]) rfl ⟨rfl, (by repeat first | exact Below.refl _ _ | refine Below.setCell ?_ (by first | omega | (simp; done) | (simp; omega)) _ | refine Below.alloc ?_ (by first | omega | (simp; done) | (simp; omega)) _ | refine Below.drew ?_ | refine below_drewN ?_ _ | assumption)⟩
theorem pplain_3f (idx gen comp : Int) (A : Option Addr) (n c : Nat) (w : World) :
    Calls Try.prog 76 #[.agg #[.int .i64 3, .bool false, .int .i64 idx, .int .i64 gen, .int .i64 comp, .slice A n c]] w fun e w' => e = .returned (.agg #[.int .i64 3, .bool false, .int .i64 idx, .int .i64 gen, .int .i64 comp, .slice none 0 0]) ∧ Below w.heap.size w w' := by
  have K := Lib.hid (known_any 3)
  rw [show knownC 3 = true from rfl] at K
  go_enter Try.func76, Try.ntmps76
  go_wp2_with (go_at_call 114; refine (K.out _).mono ?_; rintro e w1 ⟨rfl, rfl⟩)
  go_region
  go_wp2
  exact bodyPost_ret (v := .agg #[.int .i64 3, .bool false, .int .i64 idx, .int .i64 gen, .int .i64 comp, .slice none 0 0]) (by simp [results, Try.results76, go_sem]) rfl ⟨rfl, (by repeat first | exact Below.refl _ _ | refine Below.setCell ?_ (by first | omega | (simp; done) | (simp; omega)) _ | refine Below.alloc ?_ (by first | omega | (simp; done) | (simp; omega)) _ | refine Below.drew ?_ | refine below_drewN ?_ _ | assumption)⟩
end Go.Proofs.Ythkgchlndfcmpaa
