/- Contracts of bytes.Clone, bytes.Equal, cmd.known, cmd.Plain, vivariumref13.Plain, Exact. -/
import Derived.Test.YthkgchlndfcmpaaCmdPl
import Derived.Test.YthkgchlndfcmpaaCells
import Derived.Test.YthkgchlndfcmpaaBys
import Derived.RegionTactic
import Derived.ChangeAlike
import Derived.Deep.RegionHeld3
namespace Go.Proofs.Ythkgchlndfcmpaa
open Go.RowKit
set_option maxRecDepth 100000
set_option linter.unusedVariables false

theorem bclone_any (l : List UInt8) (v : Value) (F : Nat → Prop) (w : World) (hv : By w F v l) (hn : l.length ≤ 140737488355328) :
    Calls Try.prog 115 #[v] w fun e w' => ∃ u, e = .returned u ∧ Own w' w.heap.size 5 1 u l.length (bv l) ∧ Below w.heap.size w w' := by
  obtain ⟨i0, hi0, hz0, hz1, hz2⟩ := info_parts info_byte
  have S := Lib.hid hv
  have HN := Lib.hid hn
  clear hn
  obtain ⟨A, c, rfl, h1, h2, h3, h4⟩ := hv
  generalize hx : bv l = xs at *
  have hl := h4.1
  have X := Lib.hid hx
  clear hx
  rcases A with _ | a
  · have h0 : l.length = 0 := by have := h3 rfl; omega
    have hx : xs = [] := List.eq_nil_of_length_eq_zero (by omega)
    generalize l.length = n at *
    subst h0 hx
    clear h1 h2 h3 h4 hl
    have hq := fun (w : World) => Lib.run_eql_slice_nil (P := Try.prog) w 37 5 none 0 c 0 0 Try.underlying37
    go_enter Try.func115, Try.ntmps115
    go_wp2
    go_ret
    exact ⟨_, rfl, Own.none_ _ _ _ _ _, Below.refl _ _⟩
  · have hq := fun (w : World) => Lib.run_eql_slice_nil (P := Try.prog) w 37 5 (some a) l.length c 0 0 Try.underlying37
    generalize l.length = n at *
    go_enter Try.func115, Try.ntmps115
    have hs := (h4.alloc (.cells #[] 5)).src (c := c) (P := Try.prog) Try.underlying37 (by rw [← X.out]; exact bv_one l) (by omega)
    have HS := Lib.hid hs
    clear hs h4
    go_wp2_with (at_builtin; refine wpList_append_gen _ rfl _ _ _ _ rfl w.heap.size 5 i0 _ 1 1 Try.underlying37 hi0 hz0 hz1 hz2 rfl _ _ _ rfl (Own.none_ _ _ _ _ _) _ n xs rfl HS.out ?c1 ?c2 ?c3 ?_)
    case c1 => have := HN.out; unfold maxLen; omega
    case c2 => have := HN.out; omega
    case c3 => simp
    intro v' w1 hown' hk1 _
    have hb1 := append_below (Below.refl _ w) (Own.none_ w w.heap.size 5 1 _) hk1
    clear hk1
    go_wp2
    go_ret
    exact ⟨_, rfl, hown', hb1⟩
theorem bequal_any (xs ys : List UInt8) (u v : Value) (F G : Nat → Prop) (w : World) (ha : By w F u xs) (hb : By w G v ys) :
    Calls Try.prog 98 #[u, v] w fun e w' => e = .returned (.bool (decide (xs = ys))) ∧ w = w' := by
  have r1 := run_str (P := Try.prog) ha Try.underlying37 Try.underlying5 Try.underlying9
  have r2 := run_str (P := Try.prog) hb Try.underlying37 Try.underlying5 Try.underlying9
  clear ha hb
  go_enter Try.func98, Try.ntmps98
  go_wp2
  go_ret
  refine ⟨ret_bool ?_, rfl⟩
  show (xs == ys) = _
  rw [Bool.eq_iff_iff, beq_iff_eq, decide_eq_true_iff]
theorem known_any (d : Int) (w : World) :
    Calls Try.prog 114 #[.int .i64 d] w fun e w' => e = .returned (.bool (knownC d)) ∧ w = w' := by
  have H := Lib.hid (show knownC d = if d < 0 then false else if 3 < d then false else true by
    unfold knownC
    split
    · rw [decide_eq_false (by omega)]
    · split
      · rw [decide_eq_false (by omega)]
      · rw [decide_eq_true (by omega)])
  by_cases h0 : d < 0
  · rw [if_pos h0] at H
    go_enter Try.func114, Try.ntmps114
    go_wp2
    go_ret
    exact ⟨ret_bool (by rw [H.out] <;> first | rfl | exact decide_eq_false (by omega) | exact decide_eq_true (by omega)), rfl⟩
  · rw [if_neg h0] at H
    by_cases h3 : 3 < d
    · rw [if_pos h3] at H
      go_enter Try.func114, Try.ntmps114
      go_wp2
      go_ret
      exact ⟨ret_bool (by rw [H.out] <;> first | rfl | exact decide_eq_false (by omega) | exact decide_eq_true (by omega)), rfl⟩
    · rw [if_neg h3] at H
      go_enter Try.func114, Try.ntmps114
      go_wp2
      go_ret
      exact ⟨ret_bool (by rw [H.out] <;> first | rfl | exact decide_eq_false (by omega) | exact decide_eq_true (by omega)), rfl⟩
/-- A command, as a value. -/
def cmdV (x : Cmd) (u : Value) : Value := .agg #[.int .i64 x.do_, .bool x.loc, .int .i64 x.idx, .int .i64 x.gen, .int .i64 x.comp, u]
end Go.Proofs.Ythkgchlndfcmpaa
