/- Contracts of bytes.Clone, bytes.Equal, cmd.known, cmd.Plain, vivariumref13.Plain, Exact. -/
import Derived.Test.YthkgchlndfcmpaaCmdPl
import Derived.Test.YthkgchlndfcmpaaCells
import Derived.Test.YthkgchlndfcmpaaArgS
import Derived.RegionTactic
import Derived.ChangeAlike
import Derived.Deep.RegionHeld3
namespace Go.Proofs.Ythkgchlndfcmpaa
open Go.RowKit
set_option maxRecDepth 100000
set_option linter.unusedVariables false

theorem bclone_any (l : List UInt8) (v : Value) (F : Nat → Prop) (w : World) (hv : By w F v l) (hn : l.length ≤ 140737488355328) :
    Calls Try.prog 115 #[v] w fun e w' => ∃ u, e = .returned u ∧ Own w' w.heap.size 5 1 u l.length (bv l) ∧ Below w.heap.size w w' := by
  obtain ⟨i0, hi0, hz0, hz1, hz2⟩ := info_parts info_byte
  have S := Lib.hid hv
  have HN := Lib.hid hn
  clear hn
  obtain ⟨A, c, rfl, h1, h2, h3, h4⟩ := hv
  generalize hx : bv l = xs at *
  have hl := h4.1
  have X := Lib.hid hx
  clear hx
  rcases A with _ | a
  · have h0 : l.length = 0 := by have := h3 rfl; omega
    have hx : xs = [] := List.eq_nil_of_length_eq_zero (by omega)
    generalize l.length = n at *
    subst h0 hx
    clear h1 h2 h3 h4 hl
    have hq := fun (w : World) => Lib.run_eql_slice_nil (P := Try.prog) w 37 5 none 0 c 0 0 Try.underlying37
    go_enter Try.func115, Try.ntmps115
    go_wp2
    go_ret
    exact ⟨_, rfl, Own.none_ _ _ _ _ _, Below.refl _ _⟩
  · have hq := fun (w : World) => Lib.run_eql_slice_nil (P := Try.prog) w 37 5 (some a) l.length c 0 0 Try.underlying37
    generalize l.length = n at *
    go_enter Try.func115, Try.ntmps115
    have hs := (h4.alloc (.cells #[] 5)).src (c := c) (P := Try.prog) Try.underlying37 (by rw [← X.out]; exact bv_one l) (by omega)
    have HS := Lib.hid hs
    clear hs h4
    go_wp2_with (at_builtin; refine wpList_append_gen _ rfl _ _ _ _ rfl w.heap.size 5 i0 _ 1 1 Try.underlying37 hi0 hz0 hz1 hz2 rfl _ _ _ rfl (Own.none_ _ _ _ _ _) _ n xs rfl HS.out ?c1 ?c2 ?c3 ?_)
    case c1 => have := HN.out; unfold maxLen; omega
    case c2 => have := HN.out; omega
    case c3 => simp
    intro v' w1 hown' hk1 _
    have hb1 := append_below (Below.refl _ w) (Own.none_ w w.heap.size 5 1 _) hk1
    clear hk1
    go_wp2
    go_ret
    exact ⟨_, rfl, hown', hb1⟩
theorem bequal_any (xs ys : List UInt8) (u v : Value) (F G : Nat → Prop) (w : World) (ha : By w F u xs) (hb : By w G v ys) :
    Calls Try.prog 98 #[u, v] w fun e w' => e = .returned (.bool (decide (xs = ys))) ∧ w = w' := by
  have r1 := run_str (P := Try.prog) ha Try.underlying37 Try.underlying5 Try.underlying9
  have r2 := run_str (P := Try.prog) hb Try.underlying37 Try.underlying5 Try.underlying9
  clear ha hb
  go_enter Try.func98, Try.ntmps98
  go_wp2
  go_ret
  refine ⟨ret_bool ?_, rfl⟩
  show (xs == ys) = _
  rw [Bool.eq_iff_iff, beq_iff_eq, decide_eq_true_iff]
theorem known_any (d : Int) (w : World) :
    Calls Try.prog 114 #[.int .i64 d] w fun e w' => e = .returned (.bool (knownC d)) ∧ w = w' := by
  have H := Lib.hid (show knownC d = if d < 0 then false else if 3 < d then false else true by
    unfold knownC
    split
    · rw [decide_eq_false (by omega)]
    · split
      · rw [decide_eq_false (by omega)]
      · rw [decide_eq_true (by omega)])
  by_cases h0 : d < 0
  · rw [if_pos h0] at H
    go_enter Try.func114, Try.ntmps114
    go_wp2
    go_ret
    exact ⟨ret_bool (by rw [H.out] <;> first | rfl | exact decide_eq_false (by omega) | exact decide_eq_true (by omega)), rfl⟩
  · rw [if_neg h0] at H
    by_cases h3 : 3 < d
    · rw [if_pos h3] at H
      go_enter Try.func114, Try.ntmps114
      go_wp2
      go_ret
      exact ⟨ret_bool (by rw [H.out] <;> first | rfl | exact decide_eq_false (by omega) | exact decide_eq_true (by omega)), rfl⟩
    · rw [if_neg h3] at H
      go_enter Try.func114, Try.ntmps114
      go_wp2
      go_ret
      exact ⟨ret_bool (by rw [H.out] <;> first | rfl | exact decide_eq_false (by omega) | exact decide_eq_true (by omega)), rfl⟩
/-- A command, as a value. -/
def cmdV (x : Cmd) (u : Value) : Value := .agg #[.int .i64 x.do_, .bool x.loc, .int .i64 x.idx, .int .i64 x.gen, .int .i64 x.comp, u]
end Go.Proofs.Ythkgchlndfcmpaa
namespace Go.Proofs.Ythkgchlndfcmpaa
open Go.RowKit
set_option maxRecDepth 100000
set_option linter.unusedVariables false

theorem rplain_not (d idx gen comp : Int) (loc : Bool) (A : Option Addr) (n c : Nat) (w : World) (hd : d < 0 ∨ (0 ≤ d ∧ 3 < d)) :
    Calls Try.prog 79 #[.agg #[.int .i64 d, .bool loc, .int .i64 idx, .int .i64 gen, .int .i64 comp, .slice A n c]] w fun e w' => e = .returned (.agg #[.int .i64 d, .bool loc, .int .i64 idx, .int .i64 gen, .int .i64 comp, .slice A n c]) ∧ Below w.heap.size w w' := by
  rcases hd with hd | ⟨hd, hd'⟩
  all_goals
    go_enter Try.func79, Try.ntmps79
    go_wp2
    exact bodyPost_ret (v := .agg #[.int .i64 d, .bool loc, .int .i64 idx, .int .i64 gen, .int .i64 comp, .slice A n c]) (by simp [results, Try.results79, go_sem]) rfl ⟨rfl, (by repeat first | exact Below.refl _ _ | refine Below.setCell ?_ (by first | omega | (simp; done) | (simp; omega)) _ | refine Below.alloc ?_ (by first | omega | (simp; done) | (simp; omega)) _ | refine Below.drew ?_ | refine below_drewN ?_ _ | assumption)⟩
theorem rplain_0 (idx gen comp : Int) (loc : Bool) (A : Option Addr) (n c : Nat) (w : World) :
    Calls Try.prog 79 #[.agg #[.int .i64 0, .bool loc, .int .i64 idx, .int .i64 gen, .int .i64 comp, .slice A n c]] w fun e w' => e = .returned (.agg #[.int .i64 0, .bool false, .int .i64 0, .int .i64 0, .int .i64 0, .slice none 0 0]) ∧ Below w.heap.size w w' := by
  go_enter Try.func79, Try.ntmps79
  go_wp2
  exact bodyPost_ret (v := .agg #[.int .i64 0, .bool false, .int .i64 0, .int .i64 0, .int .i64 0, .slice none 0 0]) (by simp [results, Try.results79, go_sem]) rfl ⟨rfl, (by repeat first | exact Below.refl _ _ | refine Below.setCell ?_ (by first | omega | (simp; done) | (simp; omega)) _ | refine Below.alloc ?_ (by first | omega | (simp; done) | (simp; omega)) _ | refine Below.drew ?_ | refine below_drewN ?_ _ | assumption)⟩
theorem rplain_1t (idx gen comp : Int) (A : Option Addr) (n c : Nat) (w : World) :
    Calls Try.prog 79 #[.agg #[.int .i64 1, .bool true, .int .i64 idx, .int .i64 gen, .int .i64 comp, .slice A n c]] w fun e w' => e = .returned (.agg #[.int .i64 1, .bool true, .int .i64 idx, .int .i64 0, .int .i64 0, .slice none 0 0]) ∧ Below w.heap.size w w' := by
  go_enter Try.func79, Try.ntmps79
  go_wp2
  go_region
  go_wp2
  exact bodyPost_ret (v := .agg #[.int .i64 1, .bool true, .int .i64 idx, .int .i64 0, .int .i64 0, .slice none 0 0]) (by simp [results, Try.results79, go_sem]) rfl ⟨rfl, (by repeat first | exact Below.refl _ _ | refine Below.setCell ?_ (by first | omega | (simp; done) | (simp; omega)) _ | refine Below.alloc ?_ (by first | omega | (simp; done) | (simp; omega)) _ | refine Below.drew ?_ | refine below_drewN ?_ _ | assumption)⟩
theorem rplain_1f (idx gen comp : Int) (A : Option Addr) (n c : Nat) (w : World) :
    Calls Try.prog 79 #[.agg #[.int .i64 1, .bool false, .int .i64 idx, .int .i64 gen, .int .i64 comp, .slice A n c]] w fun e w' => e = .returned (.agg #[.int .i64 1, .bool false, .int .i64 idx, .int .i64 gen, .int .i64 0, .slice none 0 0]) ∧ Below w.heap.size w w' := by
  go_enter Try.func79, Try.ntmps79
  go_wp2
  go_region
  go_wp2
  exact bodyPost_ret (v := .agg #[.int .i64 1, .bool false, .int .i64 idx, .int .i64 gen, .int .i64 0, .slice none 0 0]) (by simp [results, Try.results79, go_sem]) rfl ⟨rfl, (by repeat first | exact Below.refl _ _ | refine Below.setCell ?_ (by first | omega | (simp; done) | (simp; omega)) _ | refine Below.alloc ?_ (by first | omega | (simp; done) | (simp; omega)) _ | refine Below.drew ?_ | refine below_drewN ?_ _ | assumption)⟩
theorem rplain_2t (idx gen comp : Int) (A : Option Addr) (n c : Nat) (w : World) :
    Calls Try.prog 79 #[.agg #[.int .i64 2, .bool true, .int .i64 idx, .int .i64 gen, .int .i64 comp, .slice A n c]] w fun e w' => e = .returned (.agg #[.int .i64 2, .bool true, .int .i64 idx, .int .i64 0, .int .i64 comp, .slice A n c]) ∧ Below w.heap.size w w' := by
  go_enter Try.func79, Try.ntmps79
  go_wp2
  go_region
  go_wp2
  exact bodyPost_ret (v := .agg #[.int .i64 2, .bool true, .int .i64 idx, .int .i64 0, .int .i64 comp, .slice A n c]) (by simp [results, Try.results79, go_sem]) rfl ⟨rfl, (by repeat first | exact Below.refl _ _ | refine Below.setCell ?_ (by first | omega | (simp; done) | (simp; omega)) _ | refine Below.alloc ?_ (by first | omega | (simp; done) | (simp; omega)) _ | refine Below.drew ?_ | refine below_drewN ?_ _ | assumption)⟩
theorem rplain_2f (idx gen comp : Int) (A : Option Addr) (n c : Nat) (w : World) :
    Calls Try.prog 79 #[.agg #[.int .i64 2, .bool false, .int .i64 idx, .int .i64 gen, .int .i64 comp, .slice A n c]] w fun e w' => e = .returned (.agg #[.int .i64 2, .bool false, .int .i64 idx, .int .i64 gen, .int .i64 comp, .slice A n c]) ∧ Below w.heap.size w w' := by
  go_enter Try.func79, Try.ntmps79
  go_wp2
  go_region
  go_wp2
  exact bodyPost_ret (v := .agg #[.int .i64 2, .bool false, .int .i64 idx, .int .i64 gen, .int .i64 comp, .slice A n c]) (by simp [results, Try.results79, go_sem]) rfl ⟨rfl, (by repeat first | exact Below.refl _ _ | refine Below.setCell ?_ (by first | omega | (simp; done) | (simp; omega)) _ | refine Below.alloc ?_ (by first | omega | (simp; done) | (simp; omega)) _ | refine Below.drew ?_ | refine below_drewN ?_ _ | assumption)⟩
theorem rplain_3t (idx gen comp : Int) (A : Option Addr) (n c : Nat) (w : World) :
    Calls Try.prog 79 #[.agg #[.int .i64 3, .bool true, .int .i64 idx, .int .i64 gen, .int .i64 comp, .slice A n c]] w fun e w' => e = .returned (.agg #[.int .i64 3, .bool true, .int .i64 idx, .int .i64 0, .int .i64 comp, .slice none 0 0]) ∧ Below w.heap.size w w' := by
  go_enter Try.func79, Try.ntmps79
  go_wp2
  go_region
  go_wp2
  exact bodyPost_ret (v := .agg #[.int .i64 3, .bool true, .int .i64 idx, .int .i64 0, .int .i64 comp, .slice none 0 0]) (by simp [results, Try.results79, go_sem]) rfl ⟨rfl, (by repeat first | exact Below.refl _ _ | refine Below.setCell ?_ (by first | omega | (simp; done) | (simp; omega)) _ | refine Below.alloc ?_ (by first | omega | (simp; done) | (simp; omega)) _ | refine Below.drew ?_ | refine below_drewN ?_ _ | assumption)⟩
theorem rplain_3f (idx gen comp : Int) (A : Option Addr) (n c : Nat) (w : World) :
    Calls Try.prog 79 #[.agg #[.int .i64 3, .bool false, .int .i64 idx, .int .i64 gen, .int .i64 comp, .slice A n c]] w fun e w' => e = .returned (.agg #[.int .i64 3, .bool false, .int .i64 idx, .int .i64 gen, .int .i64 comp, .slice none 0 0]) ∧ Below w.heap.size w w' := by
  go_enter Try.func79, Try.ntmps79
  go_wp2
  go_region
  go_wp2
  exact bodyPost_ret (v := .agg #[.int .i64 3, .bool false, .int .i64 idx, .int .i64 gen, .int .i64 comp, .slice none 0 0]) (by simp [results, Try.results79, go_sem]) rfl ⟨rfl, (by repeat first | exact Below.refl _ _ | refine Below.setCell ?_ (by first | omega | (simp; done) | (simp; omega)) _ | refine Below.alloc ?_ (by first | omega | (simp; done) | (simp; omega)) _ | refine Below.drew ?_ | refine below_drewN ?_ _ | assumption)⟩
theorem pplain_0 (idx gen comp : Int) (loc : Bool) (A : Option Addr) (n c : Nat) (w : World) :
    Calls Try.prog 76 #[.agg #[.int .i64 0, .bool loc, .int .i64 idx, .int .i64 gen, .int .i64 comp, .slice A n c]] w fun e w' => e = .returned (.agg #[.int .i64 0, .bool false, .int .i64 0, .int .i64 0, .int .i64 0, .slice none 0 0]) ∧ Below w.heap.size w w' := by
  have K := Lib.hid (known_any 0)
  rw [show knownC 0 = true from rfl] at K
  go_enter Try.func76, Try.ntmps76
  go_wp2_with (go_at_call 114; refine (K.out _).mono ?_; rintro e w1 ⟨rfl, rfl⟩)
  exact bodyPost_ret (v := .agg #[.int .i64 0, .bool false, .int .i64 0, .int .i64 0, .int .i64 0, .slice none 0 0]) (by simp [results, Try.results76, go_sem]) rfl ⟨rfl, (by repeat first | exact Below.refl _ _ | refine Below.setCell ?_ (by first | omega | (simp; done) | (simp; omega)) _ | refine Below.alloc ?_ (by first | omega | (simp; done) | (simp; omega)) _ | refine Below.drew ?_ | refine below_drewN ?_ _ | assumption)⟩
theorem pplain_1t (idx gen comp : Int) (A : Option Addr) (n c : Nat) (w : World) :
    Calls Try.prog 76 #[.agg #[.int .i64 1, .bool true, .int .i64 idx, .int .i64 gen, .int .i64 comp, .slice A n c]] w fun e w' => e = .returned (.agg #[.int .i64 1, .bool true, .int .i64 idx, .int .i64 0, .int .i64 0, .slice none 0 0]) ∧ Below w.heap.size w w' := by
  have K := Lib.hid (known_any 1)
  rw [show knownC 1 = true from rfl] at K
  go_enter Try.func76, Try.ntmps76
  go_wp2_with (go_at_call 114; refine (K.out _).mono ?_; rintro e w1 ⟨rfl, rfl⟩)
  go_region
  go_wp2
  exact bodyPost_ret (v := .agg #[.int .i64 1, .bool true, .int .i64 idx, .int .i64 0, .int .i64 0, .slice none 0 0]) (by simp [results, Try.results76, go_sem]) rfl ⟨rfl, (by repeat first | exact Below.refl _ _ | refine Below.setCell ?_ (by first | omega | (simp; done) | (simp; omega)) _ | refine Below.alloc ?_ (by first | omega | (simp; done) | (simp; omega)) _ | refine Below.drew ?_ | refine below_drewN ?_ _ | assumption)⟩
theorem pplain_1f (idx gen comp : Int) (A : Option Addr) (n c : Nat) (w : World) :
    Calls Try.prog 76 #[.agg #[.int .i64 1, .bool false, .int .i64 idx, .int .i64 gen, .int .i64 comp, .slice A n c]] w fun e w' => e = .returned (.agg #[.int .i64 1, .bool false, .int .i64 idx, .int .i64 gen, .int .i64 0, .slice none 0 0]) ∧ Below w.heap.size w w' := by
  have K := Lib.hid (known_any 1)
  rw [show knownC 1 = true from rfl] at K
  go_enter Try.func76, Try.ntmps76
  go_wp2_with (go_at_call 114; refine (K.out _).mono ?_; rintro e w1 ⟨rfl, rfl⟩)
  go_region
  go_wp2
  exact bodyPost_ret (v := .agg #[.int .i64 1, .bool false, .int .i64 idx, .int .i64 gen, .int .i64 0, .slice none 0 0]) (by simp [results, Try.results76, go_sem]) rfl ⟨rfl, (by repeat first | exact Below.refl _ _ | refine Below.setCell ?_ (by first | omega | (simp; done) | (simp; omega)) _ | refine Below.alloc ?_ (by first | omega | (simp; done) | (simp; omega)) _ | refine Below.drew ?_ | refine below_drewN ?_ _ | assumption)⟩
theorem pplain_3t (idx gen comp : Int) (A : Option Addr) (n c : Nat) (w : World) :
    Calls Try.prog 76 #[.agg #[.int .i64 3, .bool true, .int .i64 idx, .int .i64 gen, .int .i64 comp, .slice A n c]] w fun e w' => e = .returned (.agg #[.int .i64 3, .bool true, .int .i64 idx, .int .i64 0, .int .i64 comp, .slice none 0 0]) ∧ Below w.heap.size w w' := by
  have K := Lib.hid (known_any 3)
  rw [show knownC 3 = true from rfl] at K
  go_enter Try.func76, Try.ntmps76
  go_wp2_with (go_at_call 114; refine (K.out _).mono ?_; rintro e w1 ⟨rfl, rfl⟩)
  go_region
  go_wp2
  exact bodyPost_ret (v := .agg #[.int .i64 3, .bool true, .int .i64 idx, .int .i64 0, .int .i64 comp, .slice none 0 0]) (by simp [results, Try.results76, go_sem]) rfl ⟨rfl, (by repeat first | exact Below.refl _ _ | refine Below.setCell ?_ (by first | omega | (simp; done) | (simp; omega)) _ | refine Below.alloc ?_ (by first | omega | (simp; done) | (simp; omega)) _ | refine Below.drew ?_ | refine below_drewN ?_ _ | assumption)⟩
theorem pplain_3f (idx gen comp : Int) (A : Option Addr) (n c : Nat) (w : World) :
    Calls Try.prog 76 #[.agg #[.int .i64 3, .bool false, .int .i64 idx, .int .i64 gen, .int .i64 comp, .slice A n c]] w fun e w' => e = .returned (.agg #[.int .i64 3, .bool false, .int .i64 idx, .int .i64 gen, .int .i64 comp, .slice none 0 0]) ∧ Below w.heap.size w w' := by
  have K := Lib.hid (known_any 3)
  rw [show knownC 3 = true from rfl] at K
  go_enter Try.func76, Try.ntmps76
  go_wp2_with (go_at_call 114; refine (K.out _).mono ?_; rintro e w1 ⟨rfl, rfl⟩)
  go_region
  go_wp2
  exact bodyPost_ret (v := .agg #[.int .i64 3, .bool false, .int .i64 idx, .int .i64 gen, .int .i64 comp, .slice none 0 0]) (by simp [results, Try.results76, go_sem]) rfl ⟨rfl, (by repeat first | exact Below.refl _ _ | refine Below.setCell ?_ (by first | omega | (simp; done) | (simp; omega)) _ | refine Below.alloc ?_ (by first | omega | (simp; done) | (simp; omega)) _ | refine Below.drew ?_ | refine below_drewN ?_ _ | assumption)⟩
end Go.Proofs.Ythkgchlndfcmpaa
namespace Go.Proofs.Ythkgchlndfcmpaa
open Go.RowKit
set_option maxRecDepth 100000
set_option linter.unusedVariables false

theorem pplain_not (d idx gen comp : Int) (loc : Bool) (l : List UInt8) (v : Value) (F : Nat → Prop) (w : World) (hk : knownC d = false) (hv : By w F v l) (hn : l.length ≤ 140737488355328) :
    Calls Try.prog 76 #[.agg #[.int .i64 d, .bool loc, .int .i64 idx, .int .i64 gen, .int .i64 comp, v]] w fun e w' => ∃ A' c', e = .returned (.agg #[.int .i64 d, .bool loc, .int .i64 idx, .int .i64 gen, .int .i64 comp, .slice A' l.length c']) ∧ By w' (fun b => w.heap.size ≤ b) (.slice A' l.length c') l ∧ Below w.heap.size w w' := by
  have K := Lib.hid (known_any d)
  rw [hk] at K
  have CL := Lib.hid (fun w' (hb : Keep (fun _ => False) w w') => bclone_any l v F w' (hv.keep hb (fun _ _ _ h => h)) hn)
  clear hk
  obtain ⟨A, c, rfl, _, _, _, _⟩ := hv
  have FIN := Lib.hid (show ∀ (w0 w1 w' : World) (A' : Option Addr) (c' : Nat), Keep (fun _ => False) w w0 → w.heap.size + 2 ≤ w0.heap.size → Own w1 w0.heap.size 5 1 (.slice A' l.length c') l.length (bv l) → Below w0.heap.size w0 w1 → Keep (fun b => b = w.heap.size ∨ b = w.heap.size + 1) w1 w' →
      By w' (fun b => w.heap.size ≤ b) (.slice A' l.length c') l ∧ Below w.heap.size w w' from fun w0 w1 w' A' c' k0 hz ho hb1 hk => by
    refine ⟨((sl_by ho.sl).keep hk (fun b _ h e => by omega)).mono (fun b _ h => by omega), ?_⟩
    exact (k0.to_below'.trans (hb1.mono (by omega))).trans (hk.below (by have := hb1.size; omega) (fun x hx e => by omega)))
  generalize hll : l.length = n at *
  clear hll hn
  go_enter Try.func76, Try.ntmps76
  go_wp2_with fail
  refine (K.out _).mono ?_
  rintro e w1 ⟨rfl, rfl⟩
  go_wp2_with fail
  refine (CL.out _ (by exact (by repeat first | exact Keep.refl _ _ | refine Keep.alloc ?_ _ | refine Keep.drew ?_ | refine Keep.drewN ?_ _))).mono ?_
  rintro e w1 ⟨u, rfl, ho, hb1⟩
  have b0 : w1.heap[w.heap.size]? = some (.cells #[.int .i64 d, .bool loc, .int .i64 idx, .int .i64 gen, .int .i64 comp, .slice A n c] 39 (0, 0)) := (hb1.block _ (by first | omega | (simp; done) | (simp; omega))).trans (by (try simp only [heap_drew']); (try simp only [World.heap_drewN]); repeat (first | exact heap_alloc_at _ _ _ (by first | rfl | simp) | rw [Below.heap_alloc _ _ _ (by first | (simp; done) | (simp; omega))]))
  have b1 : w1.heap[w.heap.size + 1]? = some (.cells #[.int .i64 0, .bool false, .int .i64 0, .int .i64 0, .int .i64 0, .slice none 0 0] 39 (0, 0)) := (hb1.block _ (by first | omega | (simp; done) | (simp; omega))).trans (by (try simp only [heap_drew']); (try simp only [World.heap_drewN]); repeat (first | exact heap_alloc_at _ _ _ (by first | rfl | simp) | rw [Below.heap_alloc _ _ _ (by first | (simp; done) | (simp; omega))]))
  obtain ⟨A', c', rfl, _⟩ := ho.form
  have FF := Lib.hid (fun w' => FIN.out _ w1 w' A' c' (by exact (by repeat first | exact Keep.refl _ _ | refine Keep.alloc ?_ _ | refine Keep.drew ?_ | refine Keep.drewN ?_ _)) (by simp) ho hb1)
  have HB := Lib.hid (And.intro b0 b1)
  obtain ⟨x0, x1, x2, x3, x4, x5, xf⟩ := cells6 b0
  obtain ⟨y0, y1, y2, y3, y4, y5, yf⟩ := cells6 b1
  have aw : ∀ (X : World) (i o : Nat) (u : Value), (X.setCell ⟨w.heap.size, i, none⟩ u).cell? ⟨w.heap.size + 1, o, none⟩ = X.cell? ⟨w.heap.size + 1, o, none⟩ := fun X i o u => cell_away (by omega) u
  have af : ∀ (X : World) (i o : Nat) (u : Value), (X.setCell ⟨w.heap.size, i, none⟩ u).frozen? ⟨w.heap.size + 1, o, none⟩ = X.frozen? ⟨w.heap.size + 1, o, none⟩ := fun X i o u => frozen_away (by omega) u
  clear ho hb1 b0 b1 FIN CL
  go_wp2
  have hW : (w1.setCell ⟨w.heap.size, 5, none⟩ (.slice A' n c')).heap[w.heap.size + 1]? = _ := (Below.heap_setCell w1 ⟨w.heap.size, 5, none⟩ _ _ (fun e => by have : w.heap.size + 1 = w.heap.size := e; omega)).trans HB.out.2
  obtain ⟨z0, z1, z2, z3, z4, z5, zf⟩ := cells6 (stored6 hW (.int .i64 d) (.bool loc) (.int .i64 idx) (.int .i64 gen) (.int .i64 comp) (.slice A' n c'))
  refine bodyPost_ret (v := .agg #[.int .i64 d, .bool loc, .int .i64 idx, .int .i64 gen, .int .i64 comp, .slice A' n c']) (by simp [results, Try.results76, go_sem, z0, z1, z2, z3, z4, z5]) rfl ⟨A', c', rfl, FF.out _ ?_⟩
  exact Keep.trans (S := fun b => b = w.heap.size ∨ b = w.heap.size + 1) (T := fun b => b = w.heap.size + 1) (Keep.setCell (p := ⟨w.heap.size, 5, none⟩) (Keep.refl _ _) (.inr (.inl rfl)) _) (keepS6 _ _ _ _ _ _ _ _) (fun x _ e => .inr e)

set_option maxHeartbeats 1000000 in
theorem pplain_2t (idx gen comp : Int) (l : List UInt8) (v : Value) (F : Nat → Prop) (w : World) (hv : By w F v l) (hn : l.length ≤ 140737488355328) :
    Calls Try.prog 76 #[.agg #[.int .i64 2, .bool true, .int .i64 idx, .int .i64 gen, .int .i64 comp, v]] w fun e w' => ∃ A' c', e = .returned (.agg #[.int .i64 2, .bool true, .int .i64 idx, .int .i64 0, .int .i64 comp, .slice A' l.length c']) ∧ By w' (fun b => w.heap.size ≤ b) (.slice A' l.length c') l ∧ Below w.heap.size w w' := by
  have K := Lib.hid (known_any 2)
  rw [show knownC 2 = true from rfl] at K
  have CL := Lib.hid (fun w' (hb : Keep (fun _ => False) w w') => bclone_any l v F w' (hv.keep hb (fun _ _ _ h => h)) hn)
  obtain ⟨A, c, rfl, _, _, _, _⟩ := hv
  have FIN := Lib.hid (show ∀ (w0 w1 w' : World) (A' : Option Addr) (c' : Nat), Keep (fun _ => False) w w0 → w.heap.size + 3 ≤ w0.heap.size → Own w1 w0.heap.size 5 1 (.slice A' l.length c') l.length (bv l) → Below w0.heap.size w0 w1 → Keep (fun b => b = w.heap.size + 1 ∨ b = w.heap.size + 1 + 1) w1 w' →
      By w' (fun b => w.heap.size ≤ b) (.slice A' l.length c') l ∧ Below w.heap.size w w' from fun w0 w1 w' A' c' k0 hz ho hb1 hk => by
    refine ⟨((sl_by ho.sl).keep hk (fun b _ h e => by omega)).mono (fun b _ h => by omega), ?_⟩
    exact (k0.to_below'.trans (hb1.mono (by omega))).trans (hk.below (by have := hb1.size; omega) (fun x hx e => by omega)))
  generalize hll : l.length = n at *
  clear hll hn
  go_enter Try.func76, Try.ntmps76
  go_wp2_with fail
  refine (K.out _).mono ?_
  rintro e w1 ⟨rfl, rfl⟩
  go_wp2_with fail
  refine (CL.out _ (by exact (by repeat first | exact Keep.refl _ _ | refine Keep.alloc ?_ _ | refine Keep.drew ?_ | refine Keep.drewN ?_ _))).mono ?_
  rintro e w1 ⟨u, rfl, ho, hb1⟩
  have b0 : w1.heap[w.heap.size]? = some (.cells #[.int .i64 2, .bool true, .int .i64 idx, .int .i64 gen, .int .i64 comp, .slice A n c] 39 (0, 0)) := (hb1.block _ (by first | omega | (simp; done) | (simp; omega))).trans (by (try simp only [heap_drew']); (try simp only [World.heap_drewN]); repeat (first | exact heap_alloc_at _ _ _ (by first | rfl | simp) | rw [Below.heap_alloc _ _ _ (by first | (simp; done) | (simp; omega))]))
  have b1 : w1.heap[w.heap.size + 1]? = some (.cells #[.int .i64 0, .bool false, .int .i64 0, .int .i64 0, .int .i64 0, .slice none 0 0] 39 (0, 0)) := (hb1.block _ (by first | omega | (simp; done) | (simp; omega))).trans (by (try simp only [heap_drew']); (try simp only [World.heap_drewN]); repeat (first | exact heap_alloc_at _ _ _ (by first | rfl | simp) | rw [Below.heap_alloc _ _ _ (by first | (simp; done) | (simp; omega))]))
  have b2 : w1.heap[w.heap.size + 1 + 1]? = some (.cells #[.int .i64 2, .bool false, .int .i64 0, .int .i64 0, .int .i64 0, .slice none 0 0] 39 (0, 0)) := (hb1.block _ (by first | omega | (simp; done) | (simp; omega))).trans (by (try simp only [heap_drew']); (try simp only [World.heap_drewN]); repeat (first | exact heap_alloc_at _ _ _ (by first | rfl | simp) | rw [Below.heap_alloc _ _ _ (by first | (simp; done) | (simp; omega))]))
  obtain ⟨A', c', rfl, _⟩ := ho.form
  have FF := Lib.hid (fun w' => FIN.out _ w1 w' A' c' (by exact (by repeat first | exact Keep.refl _ _ | refine Keep.alloc ?_ _ | refine Keep.drew ?_ | refine Keep.drewN ?_ _)) (by simp) ho hb1)
  have HB := Lib.hid (And.intro b0 (And.intro b1 b2))
  obtain ⟨x0, x1, x2, x3, x4, x5, xf⟩ := cells6 b0
  obtain ⟨y0, y1, y2, y3, y4, y5, yf⟩ := cells6 b1
  obtain ⟨z0, z1, z2, z3, z4, z5, zf⟩ := cells6 b2
  have aw0 : ∀ (X : World) (i o : Nat) (u : Value), (X.setCell ⟨w.heap.size + 1 + 1, i, none⟩ u).cell? ⟨w.heap.size, o, none⟩ = X.cell? ⟨w.heap.size, o, none⟩ := fun X i o u => cell_away (by omega) u
  have aw1 : ∀ (X : World) (i o : Nat) (u : Value), (X.setCell ⟨w.heap.size + 1 + 1, i, none⟩ u).cell? ⟨w.heap.size + 1, o, none⟩ = X.cell? ⟨w.heap.size + 1, o, none⟩ := fun X i o u => cell_away (by omega) u
  have af1 : ∀ (X : World) (i o : Nat) (u : Value), (X.setCell ⟨w.heap.size + 1 + 1, i, none⟩ u).frozen? ⟨w.heap.size + 1, o, none⟩ = X.frozen? ⟨w.heap.size + 1, o, none⟩ := fun X i o u => frozen_away (by omega) u
  clear ho hb1 b0 b1 b2 FIN CL
  go_wp2
  go_region
  have kY : Keep (fun b => b = w.heap.size + 1 + 1) w1 (((((w1.setCell ⟨w.heap.size + 1 + 1, 5, none⟩ (.slice A' n c')).setCell ⟨w.heap.size + 1 + 1, 4, none⟩ (.int .i64 comp)).setCell ⟨w.heap.size + 1 + 1, 1, none⟩ (.bool true)).setCell ⟨w.heap.size + 1 + 1, 2, none⟩ (.int .i64 idx)).setCell ⟨w.heap.size + 1 + 1, 3, none⟩ (.int .i64 gen)).drew := Keep.drew (Keep.setCell (S := fun b => b = w.heap.size + 1 + 1) (p := ⟨w.heap.size + 1 + 1, 3, none⟩) (Keep.setCell (S := fun b => b = w.heap.size + 1 + 1) (p := ⟨w.heap.size + 1 + 1, 2, none⟩) (Keep.setCell (S := fun b => b = w.heap.size + 1 + 1) (p := ⟨w.heap.size + 1 + 1, 1, none⟩) (Keep.setCell (S := fun b => b = w.heap.size + 1 + 1) (p := ⟨w.heap.size + 1 + 1, 4, none⟩) (Keep.setCell (S := fun b => b = w.heap.size + 1 + 1) (p := ⟨w.heap.size + 1 + 1, 5, none⟩) (Keep.refl _ _) (.inr rfl) _) (.inr rfl) _) (.inr rfl) _) (.inr rfl) _) (.inr rfl) _)
  have e2 : (((((w1.setCell ⟨w.heap.size + 1 + 1, 5, none⟩ (.slice A' n c')).setCell ⟨w.heap.size + 1 + 1, 4, none⟩ (.int .i64 comp)).setCell ⟨w.heap.size + 1 + 1, 1, none⟩ (.bool true)).setCell ⟨w.heap.size + 1 + 1, 2, none⟩ (.int .i64 idx)).setCell ⟨w.heap.size + 1 + 1, 3, none⟩ (.int .i64 gen)).drew.heap[w.heap.size + 1 + 1]? = some (.cells #[.int .i64 2, .bool true, .int .i64 idx, .int .i64 gen, .int .i64 comp, .slice A' n c'] 39 (0, 0)) := (heap_setCell_same ((((w1.setCell ⟨w.heap.size + 1 + 1, 5, none⟩ (.slice A' n c')).setCell ⟨w.heap.size + 1 + 1, 4, none⟩ (.int .i64 comp)).setCell ⟨w.heap.size + 1 + 1, 1, none⟩ (.bool true)).setCell ⟨w.heap.size + 1 + 1, 2, none⟩ (.int .i64 idx)) (w.heap.size + 1 + 1) 3 _ _ (.int .i64 gen) (heap_setCell_same (((w1.setCell ⟨w.heap.size + 1 + 1, 5, none⟩ (.slice A' n c')).setCell ⟨w.heap.size + 1 + 1, 4, none⟩ (.int .i64 comp)).setCell ⟨w.heap.size + 1 + 1, 1, none⟩ (.bool true)) (w.heap.size + 1 + 1) 2 _ _ (.int .i64 idx) (heap_setCell_same ((w1.setCell ⟨w.heap.size + 1 + 1, 5, none⟩ (.slice A' n c')).setCell ⟨w.heap.size + 1 + 1, 4, none⟩ (.int .i64 comp)) (w.heap.size + 1 + 1) 1 _ _ (.bool true) (heap_setCell_same (w1.setCell ⟨w.heap.size + 1 + 1, 5, none⟩ (.slice A' n c')) (w.heap.size + 1 + 1) 4 _ _ (.int .i64 comp) (heap_setCell_same w1 (w.heap.size + 1 + 1) 5 _ _ (.slice A' n c') HB.out.2.2)))))
  have e1 := (kY.block (w.heap.size + 1) (Array.getElem?_eq_some_iff.1 HB.out.2.1).1 (fun e => by have : w.heap.size + 1 = w.heap.size + 1 + 1 := e; omega)).trans HB.out.2.1
  have e0 := (kY.block (w.heap.size) (Array.getElem?_eq_some_iff.1 HB.out.1).1 (fun e => by have : w.heap.size = w.heap.size + 1 + 1 := e; omega)).trans HB.out.1
  have K3 := Lib.hid kY
  have E3 := Lib.hid (And.intro e0 (And.intro e1 e2))
  clear kY e0 e1 e2 x0 x1 x2 x3 x4 x5 xf y0 y1 y2 y3 y4 y5 yf z0 z1 z2 z3 z4 z5 zf
  generalize (((((w1.setCell ⟨w.heap.size + 1 + 1, 5, none⟩ (.slice A' n c')).setCell ⟨w.heap.size + 1 + 1, 4, none⟩ (.int .i64 comp)).setCell ⟨w.heap.size + 1 + 1, 1, none⟩ (.bool true)).setCell ⟨w.heap.size + 1 + 1, 2, none⟩ (.int .i64 idx)).setCell ⟨w.heap.size + 1 + 1, 3, none⟩ (.int .i64 gen)).drew = w3 at K3 E3 ⊢
  obtain ⟨x0, x1, x2, x3, x4, x5, xf⟩ := cells6 E3.out.1
  obtain ⟨y0, y1, y2, y3, y4, y5, yf⟩ := cells6 E3.out.2.1
  obtain ⟨z0, z1, z2, z3, z4, z5, zf⟩ := cells6 E3.out.2.2
  go_wp2
  have hY : (w3.setCell ⟨w.heap.size + 1 + 1, 3, none⟩ (.int .i64 0)).heap[w.heap.size + 1]? = _ := (Below.heap_setCell w3 ⟨w.heap.size + 1 + 1, 3, none⟩ _ _ (fun e => by have : w.heap.size + 1 = w.heap.size + 1 + 1 := e; omega)).trans E3.out.2.1
  obtain ⟨r0, r1, r2, r3, r4, r5, rf⟩ := cells6 (stored6 hY (.int .i64 2) (.bool true) (.int .i64 idx) (.int .i64 0) (.int .i64 comp) (.slice A' n c'))
  have k2 : Keep (fun b => b = w.heap.size + 1 + 1) w1 (w3.setCell ⟨w.heap.size + 1 + 1, 3, none⟩ (.int .i64 0)) := Keep.trans (S := fun b => b = w.heap.size + 1 + 1) (T := fun b => b = w.heap.size + 1 + 1) K3.out (Keep.setCell (S := fun b => b = w.heap.size + 1 + 1) (p := ⟨w.heap.size + 1 + 1, 3, none⟩) (Keep.refl _ _) (.inr rfl) _) (fun _ _ h => h)
  have kF := Keep.trans (S := fun b => b = w.heap.size + 1 ∨ b = w.heap.size + 1 + 1) (T := fun b => b = w.heap.size + 1) (k2.mono (fun b _ e => .inr e)) (keepS6 _ (w.heap.size + 1) (.int .i64 2) (.bool true) (.int .i64 idx) (.int .i64 0) (.int .i64 comp) (.slice A' n c')) (fun b _ e => .inl e)
  refine bodyPost_ret (v := .agg #[.int .i64 2, .bool true, .int .i64 idx, .int .i64 0, .int .i64 comp, .slice A' n c']) (by simp [results, Try.results76, go_sem, r0, r1, r2, r3, r4, r5]) rfl ⟨A', c', rfl, FF.out _ kF⟩

set_option maxHeartbeats 1000000 in
theorem pplain_2f (idx gen comp : Int) (l : List UInt8) (v : Value) (F : Nat → Prop) (w : World) (hv : By w F v l) (hn : l.length ≤ 140737488355328) :
    Calls Try.prog 76 #[.agg #[.int .i64 2, .bool false, .int .i64 idx, .int .i64 gen, .int .i64 comp, v]] w fun e w' => ∃ A' c', e = .returned (.agg #[.int .i64 2, .bool false, .int .i64 idx, .int .i64 gen, .int .i64 comp, .slice A' l.length c']) ∧ By w' (fun b => w.heap.size ≤ b) (.slice A' l.length c') l ∧ Below w.heap.size w w' := by
  have K := Lib.hid (known_any 2)
  rw [show knownC 2 = true from rfl] at K
  have CL := Lib.hid (fun w' (hb : Keep (fun _ => False) w w') => bclone_any l v F w' (hv.keep hb (fun _ _ _ h => h)) hn)
  obtain ⟨A, c, rfl, _, _, _, _⟩ := hv
  have FIN := Lib.hid (show ∀ (w0 w1 w' : World) (A' : Option Addr) (c' : Nat), Keep (fun _ => False) w w0 → w.heap.size + 3 ≤ w0.heap.size → Own w1 w0.heap.size 5 1 (.slice A' l.length c') l.length (bv l) → Below w0.heap.size w0 w1 → Keep (fun b => b = w.heap.size + 1 ∨ b = w.heap.size + 1 + 1) w1 w' →
      By w' (fun b => w.heap.size ≤ b) (.slice A' l.length c') l ∧ Below w.heap.size w w' from fun w0 w1 w' A' c' k0 hz ho hb1 hk => by
    refine ⟨((sl_by ho.sl).keep hk (fun b _ h e => by omega)).mono (fun b _ h => by omega), ?_⟩
    exact (k0.to_below'.trans (hb1.mono (by omega))).trans (hk.below (by have := hb1.size; omega) (fun x hx e => by omega)))
  generalize hll : l.length = n at *
  clear hll hn
  go_enter Try.func76, Try.ntmps76
  go_wp2_with fail
  refine (K.out _).mono ?_
  rintro e w1 ⟨rfl, rfl⟩
  go_wp2_with fail
  refine (CL.out _ (by exact (by repeat first | exact Keep.refl _ _ | refine Keep.alloc ?_ _ | refine Keep.drew ?_ | refine Keep.drewN ?_ _))).mono ?_
  rintro e w1 ⟨u, rfl, ho, hb1⟩
  have b0 : w1.heap[w.heap.size]? = some (.cells #[.int .i64 2, .bool false, .int .i64 idx, .int .i64 gen, .int .i64 comp, .slice A n c] 39 (0, 0)) := (hb1.block _ (by first | omega | (simp; done) | (simp; omega))).trans (by (try simp only [heap_drew']); (try simp only [World.heap_drewN]); repeat (first | exact heap_alloc_at _ _ _ (by first | rfl | simp) | rw [Below.heap_alloc _ _ _ (by first | (simp; done) | (simp; omega))]))
  have b1 : w1.heap[w.heap.size + 1]? = some (.cells #[.int .i64 0, .bool false, .int .i64 0, .int .i64 0, .int .i64 0, .slice none 0 0] 39 (0, 0)) := (hb1.block _ (by first | omega | (simp; done) | (simp; omega))).trans (by (try simp only [heap_drew']); (try simp only [World.heap_drewN]); repeat (first | exact heap_alloc_at _ _ _ (by first | rfl | simp) | rw [Below.heap_alloc _ _ _ (by first | (simp; done) | (simp; omega))]))
  have b2 : w1.heap[w.heap.size + 1 + 1]? = some (.cells #[.int .i64 2, .bool false, .int .i64 0, .int .i64 0, .int .i64 0, .slice none 0 0] 39 (0, 0)) := (hb1.block _ (by first | omega | (simp; done) | (simp; omega))).trans (by (try simp only [heap_drew']); (try simp only [World.heap_drewN]); repeat (first | exact heap_alloc_at _ _ _ (by first | rfl | simp) | rw [Below.heap_alloc _ _ _ (by first | (simp; done) | (simp; omega))]))
  obtain ⟨A', c', rfl, _⟩ := ho.form
  have FF := Lib.hid (fun w' => FIN.out _ w1 w' A' c' (by exact (by repeat first | exact Keep.refl _ _ | refine Keep.alloc ?_ _ | refine Keep.drew ?_ | refine Keep.drewN ?_ _)) (by simp) ho hb1)
  have HB := Lib.hid (And.intro b0 (And.intro b1 b2))
  obtain ⟨x0, x1, x2, x3, x4, x5, xf⟩ := cells6 b0
  obtain ⟨y0, y1, y2, y3, y4, y5, yf⟩ := cells6 b1
  obtain ⟨z0, z1, z2, z3, z4, z5, zf⟩ := cells6 b2
  have aw0 : ∀ (X : World) (i o : Nat) (u : Value), (X.setCell ⟨w.heap.size + 1 + 1, i, none⟩ u).cell? ⟨w.heap.size, o, none⟩ = X.cell? ⟨w.heap.size, o, none⟩ := fun X i o u => cell_away (by omega) u
  have aw1 : ∀ (X : World) (i o : Nat) (u : Value), (X.setCell ⟨w.heap.size + 1 + 1, i, none⟩ u).cell? ⟨w.heap.size + 1, o, none⟩ = X.cell? ⟨w.heap.size + 1, o, none⟩ := fun X i o u => cell_away (by omega) u
  have af1 : ∀ (X : World) (i o : Nat) (u : Value), (X.setCell ⟨w.heap.size + 1 + 1, i, none⟩ u).frozen? ⟨w.heap.size + 1, o, none⟩ = X.frozen? ⟨w.heap.size + 1, o, none⟩ := fun X i o u => frozen_away (by omega) u
  clear ho hb1 b0 b1 b2 FIN CL
  go_wp2
  go_region
  have kY : Keep (fun b => b = w.heap.size + 1 + 1) w1 (((((w1.setCell ⟨w.heap.size + 1 + 1, 5, none⟩ (.slice A' n c')).setCell ⟨w.heap.size + 1 + 1, 4, none⟩ (.int .i64 comp)).setCell ⟨w.heap.size + 1 + 1, 1, none⟩ (.bool false)).setCell ⟨w.heap.size + 1 + 1, 2, none⟩ (.int .i64 idx)).setCell ⟨w.heap.size + 1 + 1, 3, none⟩ (.int .i64 gen)).drew := Keep.drew (Keep.setCell (S := fun b => b = w.heap.size + 1 + 1) (p := ⟨w.heap.size + 1 + 1, 3, none⟩) (Keep.setCell (S := fun b => b = w.heap.size + 1 + 1) (p := ⟨w.heap.size + 1 + 1, 2, none⟩) (Keep.setCell (S := fun b => b = w.heap.size + 1 + 1) (p := ⟨w.heap.size + 1 + 1, 1, none⟩) (Keep.setCell (S := fun b => b = w.heap.size + 1 + 1) (p := ⟨w.heap.size + 1 + 1, 4, none⟩) (Keep.setCell (S := fun b => b = w.heap.size + 1 + 1) (p := ⟨w.heap.size + 1 + 1, 5, none⟩) (Keep.refl _ _) (.inr rfl) _) (.inr rfl) _) (.inr rfl) _) (.inr rfl) _) (.inr rfl) _)
  have e2 : (((((w1.setCell ⟨w.heap.size + 1 + 1, 5, none⟩ (.slice A' n c')).setCell ⟨w.heap.size + 1 + 1, 4, none⟩ (.int .i64 comp)).setCell ⟨w.heap.size + 1 + 1, 1, none⟩ (.bool false)).setCell ⟨w.heap.size + 1 + 1, 2, none⟩ (.int .i64 idx)).setCell ⟨w.heap.size + 1 + 1, 3, none⟩ (.int .i64 gen)).drew.heap[w.heap.size + 1 + 1]? = some (.cells #[.int .i64 2, .bool false, .int .i64 idx, .int .i64 gen, .int .i64 comp, .slice A' n c'] 39 (0, 0)) := (heap_setCell_same ((((w1.setCell ⟨w.heap.size + 1 + 1, 5, none⟩ (.slice A' n c')).setCell ⟨w.heap.size + 1 + 1, 4, none⟩ (.int .i64 comp)).setCell ⟨w.heap.size + 1 + 1, 1, none⟩ (.bool false)).setCell ⟨w.heap.size + 1 + 1, 2, none⟩ (.int .i64 idx)) (w.heap.size + 1 + 1) 3 _ _ (.int .i64 gen) (heap_setCell_same (((w1.setCell ⟨w.heap.size + 1 + 1, 5, none⟩ (.slice A' n c')).setCell ⟨w.heap.size + 1 + 1, 4, none⟩ (.int .i64 comp)).setCell ⟨w.heap.size + 1 + 1, 1, none⟩ (.bool false)) (w.heap.size + 1 + 1) 2 _ _ (.int .i64 idx) (heap_setCell_same ((w1.setCell ⟨w.heap.size + 1 + 1, 5, none⟩ (.slice A' n c')).setCell ⟨w.heap.size + 1 + 1, 4, none⟩ (.int .i64 comp)) (w.heap.size + 1 + 1) 1 _ _ (.bool false) (heap_setCell_same (w1.setCell ⟨w.heap.size + 1 + 1, 5, none⟩ (.slice A' n c')) (w.heap.size + 1 + 1) 4 _ _ (.int .i64 comp) (heap_setCell_same w1 (w.heap.size + 1 + 1) 5 _ _ (.slice A' n c') HB.out.2.2)))))
  have e1 := (kY.block (w.heap.size + 1) (Array.getElem?_eq_some_iff.1 HB.out.2.1).1 (fun e => by have : w.heap.size + 1 = w.heap.size + 1 + 1 := e; omega)).trans HB.out.2.1
  have e0 := (kY.block (w.heap.size) (Array.getElem?_eq_some_iff.1 HB.out.1).1 (fun e => by have : w.heap.size = w.heap.size + 1 + 1 := e; omega)).trans HB.out.1
  have K3 := Lib.hid kY
  have E3 := Lib.hid (And.intro e0 (And.intro e1 e2))
  clear kY e0 e1 e2 x0 x1 x2 x3 x4 x5 xf y0 y1 y2 y3 y4 y5 yf z0 z1 z2 z3 z4 z5 zf
  generalize (((((w1.setCell ⟨w.heap.size + 1 + 1, 5, none⟩ (.slice A' n c')).setCell ⟨w.heap.size + 1 + 1, 4, none⟩ (.int .i64 comp)).setCell ⟨w.heap.size + 1 + 1, 1, none⟩ (.bool false)).setCell ⟨w.heap.size + 1 + 1, 2, none⟩ (.int .i64 idx)).setCell ⟨w.heap.size + 1 + 1, 3, none⟩ (.int .i64 gen)).drew = w3 at K3 E3 ⊢
  obtain ⟨x0, x1, x2, x3, x4, x5, xf⟩ := cells6 E3.out.1
  obtain ⟨y0, y1, y2, y3, y4, y5, yf⟩ := cells6 E3.out.2.1
  obtain ⟨z0, z1, z2, z3, z4, z5, zf⟩ := cells6 E3.out.2.2
  go_wp2
  have hY : w3.heap[w.heap.size + 1]? = _ := E3.out.2.1
  obtain ⟨r0, r1, r2, r3, r4, r5, rf⟩ := cells6 (stored6 hY (.int .i64 2) (.bool false) (.int .i64 idx) (.int .i64 gen) (.int .i64 comp) (.slice A' n c'))
  have k2 := K3.out
  have kF := Keep.trans (S := fun b => b = w.heap.size + 1 ∨ b = w.heap.size + 1 + 1) (T := fun b => b = w.heap.size + 1) (k2.mono (fun b _ e => .inr e)) (keepS6 _ (w.heap.size + 1) (.int .i64 2) (.bool false) (.int .i64 idx) (.int .i64 gen) (.int .i64 comp) (.slice A' n c')) (fun b _ e => .inl e)
  refine bodyPost_ret (v := .agg #[.int .i64 2, .bool false, .int .i64 idx, .int .i64 gen, .int .i64 comp, .slice A' n c']) (by simp [results, Try.results76, go_sem, r0, r1, r2, r3, r4, r5]) rfl ⟨A', c', rfl, FF.out _ kF⟩
end Go.Proofs.Ythkgchlndfcmpaa
namespace Go.Proofs.Ythkgchlndfcmpaa
open Go.RowKit
set_option maxRecDepth 100000
set_option linter.unusedVariables false

theorem exact_raw (a1 a3 a4 a5 b1 b3 b4 b5 : Int) (a2 b2 r : Bool) (A B : Option Addr) (n c m d : Nat) (w : World)
    (hs : ∀ W, Keep (fun _ => False) w W → Calls Try.prog 39 #[.slice A n c, .slice B m d] W fun e w' => e = .returned (.bool r) ∧ W = w') :
    Calls Try.prog 75 #[.agg #[.int .i64 a1, .bool a2, .int .i64 a3, .int .i64 a4, .int .i64 a5, .slice A n c], .agg #[.int .i64 b1, .bool b2, .int .i64 b3, .int .i64 b4, .int .i64 b5, .slice B m d]] w fun e w' =>
      e = .returned (.bool (decide (a1 = b1) && (decide (a2 = b2) && (decide (a3 = b3 ∧ a4 = b4) && (decide (a5 = b5) && r))))) ∧ Below w.heap.size w w' := by
  have S := Lib.hid hs
  clear hs
  obtain ⟨z, hz⟩ : ∃ z, z = (decide (a1 = b1) && (decide (a2 = b2) && (decide (a3 = b3 ∧ a4 = b4) && (decide (a5 = b5) && r)))) := ⟨_, rfl⟩
  rw [← hz]
  by_cases h1 : ¬ a1 = b1
  · have Z := Lib.hid (show z = false by rw [hz]; simp [h1])
    have e1 : (a1 == b1) = false := by rw [beq_eq_false_iff_ne]; exact h1
    clear hz
    go_enter Try.func75, Try.ntmps75
    go_wp2
    go_ret
    exact ⟨ret_bool (Z.out.symm), (by repeat first | exact Below.refl _ _ | refine Below.setCell ?_ (by first | omega | (simp; done) | (simp; omega)) _ | refine Below.alloc ?_ (by first | omega | (simp; done) | (simp; omega)) _ | refine Below.drew ?_ | refine below_drewN ?_ _ | assumption)⟩
  have h1 := Decidable.not_not.1 h1
  subst h1
  by_cases h2 : ¬ a2 = b2
  · have Z := Lib.hid (show z = false by rw [hz]; simp [h2])
    have e1 : (a2 == b2) = false := by rw [beq_eq_false_iff_ne]; exact h2
    clear hz
    go_enter Try.func75, Try.ntmps75
    go_wp2
    go_ret
    exact ⟨ret_bool (Z.out.symm), (by repeat first | exact Below.refl _ _ | refine Below.setCell ?_ (by first | omega | (simp; done) | (simp; omega)) _ | refine Below.alloc ?_ (by first | omega | (simp; done) | (simp; omega)) _ | refine Below.drew ?_ | refine below_drewN ?_ _ | assumption)⟩
  have h2 := Decidable.not_not.1 h2
  subst h2
  by_cases h3 : ¬ a3 = b3
  · have Z := Lib.hid (show z = false by rw [hz]; simp [h3])
    have e1 : (a3 == b3) = false := by rw [beq_eq_false_iff_ne]; exact h3
    clear hz
    go_enter Try.func75, Try.ntmps75
    go_wp2
    go_ret
    exact ⟨ret_bool (Z.out.symm), (by repeat first | exact Below.refl _ _ | refine Below.setCell ?_ (by first | omega | (simp; done) | (simp; omega)) _ | refine Below.alloc ?_ (by first | omega | (simp; done) | (simp; omega)) _ | refine Below.drew ?_ | refine below_drewN ?_ _ | assumption)⟩
  have h3 := Decidable.not_not.1 h3
  subst h3
  by_cases h4 : ¬ a4 = b4
  · have Z := Lib.hid (show z = false by rw [hz]; simp [h4])
    have e1 : (a4 == b4) = false := by rw [beq_eq_false_iff_ne]; exact h4
    clear hz
    go_enter Try.func75, Try.ntmps75
    go_wp2
    go_ret
    exact ⟨ret_bool (Z.out.symm), (by repeat first | exact Below.refl _ _ | refine Below.setCell ?_ (by first | omega | (simp; done) | (simp; omega)) _ | refine Below.alloc ?_ (by first | omega | (simp; done) | (simp; omega)) _ | refine Below.drew ?_ | refine below_drewN ?_ _ | assumption)⟩
  have h4 := Decidable.not_not.1 h4
  subst h4
  by_cases h5 : ¬ a5 = b5
  · have Z := Lib.hid (show z = false by rw [hz]; simp [h5])
    have e1 : (a5 == b5) = false := by rw [beq_eq_false_iff_ne]; exact h5
    clear hz
    go_enter Try.func75, Try.ntmps75
    go_wp2
    go_ret
    exact ⟨ret_bool (Z.out.symm), (by repeat first | exact Below.refl _ _ | refine Below.setCell ?_ (by first | omega | (simp; done) | (simp; omega)) _ | refine Below.alloc ?_ (by first | omega | (simp; done) | (simp; omega)) _ | refine Below.drew ?_ | refine below_drewN ?_ _ | assumption)⟩
  have h5 := Decidable.not_not.1 h5
  subst h5
  have Z := Lib.hid (show z = r by rw [hz]; simp)
  clear hz
  go_enter Try.func75, Try.ntmps75
  go_wp2_with (go_at_call 39; refine (S.out _ (by exact (by repeat first | exact Keep.refl _ _ | refine Keep.alloc ?_ _ | refine Keep.drew ?_ | refine Keep.drewN ?_ _))).mono ?_; rintro e w1 ⟨rfl, rfl⟩)
  go_ret
  exact ⟨ret_bool (Z.out.symm), (by repeat first | exact Below.refl _ _ | refine Below.setCell ?_ (by first | omega | (simp; done) | (simp; omega)) _ | refine Below.alloc ?_ (by first | omega | (simp; done) | (simp; omega)) _ | refine Below.drew ?_ | refine below_drewN ?_ _ | assumption)⟩
end Go.Proofs.Ythkgchlndfcmpaa
namespace Go.Proofs.Ythkgchlndfcmpaa
open Go.RowKit
set_option maxRecDepth 100000
set_option linter.unusedVariables false

/-- A call that leaves a command, its bytes in blocks of G. -/
def CmdPost (w : World) (G : Nat → Prop) (y : Cmd) (e : Ending) (w' : World) : Prop := ∃ A c, e = .returned (cmdV y (.slice A y.l.length c)) ∧ By w' G (.slice A y.l.length c) y.l ∧ Below w.heap.size w w'
theorem knownC_cases (d : Int) : knownC d = false ∧ (d < 0 ∨ (0 ≤ d ∧ 3 < d)) ∨ d = 0 ∨ d = 1 ∨ d = 2 ∨ d = 3 := by
  by_cases h : 0 ≤ d ∧ d ≤ 3
  · omega
  · exact .inl ⟨by unfold knownC; rw [decide_eq_false h], by omega⟩
theorem rplain_any (x : Cmd) (v : Value) (F : Nat → Prop) (w : World) (hv : By w F v x.l) :
    Calls Try.prog 79 #[cmdV x v] w (CmdPost w (fun b => F b ∨ w.heap.size ≤ b) (plainC x)) := by
  obtain ⟨d, loc, idx, gen, comp, l⟩ := x
  have hv0 : By w F v l := hv
  obtain ⟨A, c, rfl, _, _, _, _⟩ := id hv0
  have nil : ∀ w', By w' (fun b => F b ∨ w.heap.size ≤ b) (.slice none 0 0) [] := fun w' => By.nil _ _
  have keepv : ∀ w', Below w.heap.size w w' → By w' (fun b => F b ∨ w.heap.size ≤ b) (.slice A l.length c) l := fun w' hb => (hv0.below hb).mono (fun _ _ h => .inl h)
  rcases knownC_cases d with ⟨hk, hd⟩ | rfl | rfl | rfl | rfl
  · refine (rplain_not d idx gen comp loc A l.length c w hd).mono fun e w' ⟨he, hb⟩ => ?_
    have e1 : plainC ⟨d, loc, idx, gen, comp, l⟩ = ⟨d, loc, idx, gen, comp, l⟩ := by unfold plainC; rw [if_pos hk]
    rw [e1]
    exact ⟨A, c, he, keepv w' hb, hb⟩
  · exact (rplain_0 idx gen comp loc A l.length c w).mono fun e w' ⟨he, hb⟩ => ⟨none, 0, he, nil w', hb⟩
  · cases loc
    · exact (rplain_1f idx gen comp A l.length c w).mono fun e w' ⟨he, hb⟩ => ⟨none, 0, he, nil w', hb⟩
    · exact (rplain_1t idx gen comp A l.length c w).mono fun e w' ⟨he, hb⟩ => ⟨none, 0, he, nil w', hb⟩
  · cases loc
    · exact (rplain_2f idx gen comp A l.length c w).mono fun e w' ⟨he, hb⟩ => ⟨A, c, he, keepv w' hb, hb⟩
    · exact (rplain_2t idx gen comp A l.length c w).mono fun e w' ⟨he, hb⟩ => ⟨A, c, he, keepv w' hb, hb⟩
  · cases loc
    · exact (rplain_3f idx gen comp A l.length c w).mono fun e w' ⟨he, hb⟩ => ⟨none, 0, he, nil w', hb⟩
    · exact (rplain_3t idx gen comp A l.length c w).mono fun e w' ⟨he, hb⟩ => ⟨none, 0, he, nil w', hb⟩
theorem pplain_any (x : Cmd) (v : Value) (F : Nat → Prop) (w : World) (hv : By w F v x.l) (hn : x.l.length ≤ 140737488355328) :
    Calls Try.prog 76 #[cmdV x v] w (CmdPost w (fun b => w.heap.size ≤ b) (plainC x)) := by
  obtain ⟨d, loc, idx, gen, comp, l⟩ := x
  have hv0 : By w F v l := hv
  obtain ⟨A, c, rfl, _, _, _, _⟩ := id hv0
  have nil : ∀ w', By w' (fun b => w.heap.size ≤ b) (.slice none 0 0) [] := fun w' => By.nil _ _
  rcases knownC_cases d with ⟨hk, hd⟩ | rfl | rfl | rfl | rfl
  · refine (pplain_not d idx gen comp loc l _ F w hk hv0 hn).mono fun e w' ⟨A', c', he, hb, hbel⟩ => ?_
    have e1 : plainC ⟨d, loc, idx, gen, comp, l⟩ = ⟨d, loc, idx, gen, comp, l⟩ := by unfold plainC; rw [if_pos hk]
    rw [e1]
    exact ⟨A', c', he, hb, hbel⟩
  · exact (pplain_0 idx gen comp loc A l.length c w).mono fun e w' ⟨he, hb⟩ => ⟨none, 0, he, nil w', hb⟩
  · cases loc
    · exact (pplain_1f idx gen comp A l.length c w).mono fun e w' ⟨he, hb⟩ => ⟨none, 0, he, nil w', hb⟩
    · exact (pplain_1t idx gen comp A l.length c w).mono fun e w' ⟨he, hb⟩ => ⟨none, 0, he, nil w', hb⟩
  · cases loc
    · exact (pplain_2f idx gen comp l _ F w hv0 hn).mono fun e w' ⟨A', c', he, hb, hbel⟩ => ⟨A', c', he, hb, hbel⟩
    · exact (pplain_2t idx gen comp l _ F w hv0 hn).mono fun e w' ⟨A', c', he, hb, hbel⟩ => ⟨A', c', he, hb, hbel⟩
  · cases loc
    · exact (pplain_3f idx gen comp A l.length c w).mono fun e w' ⟨he, hb⟩ => ⟨none, 0, he, nil w', hb⟩
    · exact (pplain_3t idx gen comp A l.length c w).mono fun e w' ⟨he, hb⟩ => ⟨none, 0, he, nil w', hb⟩
theorem exact_any (a b : Cmd) (u v : Value) (F G : Nat → Prop) (w : World) (hu : By w F u a.l) (hv : By w G v b.l) :
    Calls Try.prog 75 #[cmdV a u, cmdV b v] w fun e w' => e = .returned (.bool (exactC a b)) ∧ Below w.heap.size w w' := by
  have hs := fun W (hk : Keep (fun _ => False) w W) => same_any a.l b.l u v F G W (hu.keep hk (fun _ _ _ h => h)) (hv.keep hk (fun _ _ _ h => h))
  obtain ⟨A, c, rfl, _, _, _, _⟩ := hu
  obtain ⟨B, d, rfl, _, _, _, _⟩ := hv
  exact exact_raw a.do_ a.idx a.gen a.comp b.do_ b.idx b.gen b.comp a.loc b.loc _ A B _ c _ d w hs
end Go.Proofs.Ythkgchlndfcmpaa
