/- Contracts of bytes.Clone, bytes.Equal, cmd.known, cmd.Plain, vivariumref13.Plain, Exact. -/
import Derived.Test.YtdeifjnhbdkkgaaGreatDoorLePl
import Derived.Test.YtdeifjnhbdkkgaaGreatDoorMem
import Derived.Test.YtdeifjnhbdkkgaaGreatDoorArgs
import Derived.RegionTactic
import Derived.ChangeAlike
import Derived.Deep.RegionHeld3
namespace Go.Proofs.YtdeifjnhbdkkgaaGreatDoor
open Go.RowKit
set_option maxRecDepth 100000
set_option linter.unusedVariables false

theorem bclone_any (l : List UInt8) (v : Value) (F : Nat → Prop) (w : World) (hv : By w F v l) (hn : l.length ≤ 140737488355328) :
    Calls Tryz.prog 16 #[v] w fun e w' => ∃ u, e = .returned u ∧ Own w' w.heap.size 5 1 u l.length (bv l) ∧ Below w.heap.size w w' := by
  obtain ⟨i0, hi0, hz0, hz1, hz2⟩ := info_parts info_byte
  have S := Lib.hid hv
  have HN := Lib.hid hn
  clear hn
  obtain ⟨A, c, rfl, h1, h2, h3, h4⟩ := hv
  generalize hx : bv l = xs at *
  have hl := h4.1
  have X := Lib.hid hx
  clear hx
  rcases A with _ | a
  · have h0 : l.length = 0 := by have := h3 rfl; omega
    have hx : xs = [] := List.eq_nil_of_length_eq_zero (by omega)
    generalize l.length = n at *
    subst h0 hx
    clear h1 h2 h3 h4 hl
    have hq := fun (w : World) => Lib.run_eql_slice_nil (P := Tryz.prog) w 28 5 none 0 c 0 0 Tryz.underlying28
    go_enter Tryz.func16, Tryz.ntmps16
    go_wp2
    go_ret
    exact ⟨_, rfl, Own.none_ _ _ _ _ _, Below.refl _ _⟩
  · have hq := fun (w : World) => Lib.run_eql_slice_nil (P := Tryz.prog) w 28 5 (some a) l.length c 0 0 Tryz.underlying28
    generalize l.length = n at *
    go_enter Tryz.func16, Tryz.ntmps16
    have hs := (h4.alloc (.cells #[] 5)).src (c := c) (P := Tryz.prog) Tryz.underlying28 (by rw [← X.out]; exact bv_one l) (by omega)
    have HS := Lib.hid hs
    clear hs h4
    go_wp2_with (at_builtin; refine wpList_append_gen _ rfl _ _ _ _ rfl w.heap.size 5 i0 _ 1 1 Tryz.underlying28 hi0 hz0 hz1 hz2 rfl _ _ _ rfl (Own.none_ _ _ _ _ _) _ n xs rfl HS.out ?c1 ?c2 ?c3 ?_)
    case c1 => have := HN.out; unfold maxLen; omega
    case c2 => have := HN.out; omega
    case c3 => simp
    intro v' w1 hown' hk1 _
    have hb1 := append_below (Below.refl _ w) (Own.none_ w w.heap.size 5 1 _) hk1
    clear hk1
    go_wp2
    go_ret
    exact ⟨_, rfl, hown', hb1⟩
/-- A command, as a value. -/
def cmdV (x : Cmd) (u : Value) : Value := .agg #[.int .i64 x.do_, .bool x.loc, .int .i64 x.idx, .int .i64 x.gen, .int .i64 x.comp, u]
end Go.Proofs.YtdeifjnhbdkkgaaGreatDoor
namespace Go.Proofs.YtdeifjnhbdkkgaaGreatDoor
open Go.RowKit
set_option maxRecDepth 100000
set_option linter.unusedVariables false

end Go.Proofs.YtdeifjnhbdkkgaaGreatDoor
namespace Go.Proofs.YtdeifjnhbdkkgaaGreatDoor
open Go.RowKit
set_option maxRecDepth 100000
set_option linter.unusedVariables false

end Go.Proofs.YtdeifjnhbdkkgaaGreatDoor
namespace Go.Proofs.YtdeifjnhbdkkgaaGreatDoor
open Go.RowKit
set_option maxRecDepth 100000
set_option linter.unusedVariables false

end Go.Proofs.YtdeifjnhbdkkgaaGreatDoor
namespace Go.Proofs.YtdeifjnhbdkkgaaGreatDoor
open Go.RowKit
set_option maxRecDepth 100000
set_option linter.unusedVariables false

/-- A call that leaves a command, its bytes in blocks of G. -/
def CmdPost (w : World) (G : Nat → Prop) (y : Cmd) (e : Ending) (w' : World) : Prop := ∃ A c, e = .returned (cmdV y (.slice A y.l.length c)) ∧ By w' G (.slice A y.l.length c) y.l ∧ Below w.heap.size w w'
theorem knownC_cases (d : Int) : knownC d = false ∧ (d < 0 ∨ (0 ≤ d ∧ 3 < d)) ∨ d = 0 ∨ d = 1 ∨ d = 2 ∨ d = 3 := by
  by_cases h : 0 ≤ d ∧ d ≤ 3
  · omega
  · exact .inl ⟨by unfold knownC; rw [decide_eq_false h], by omega⟩
end Go.Proofs.YtdeifjnhbdkkgaaGreatDoor
namespace Go.Proofs.YtdeifjnhbdkkgaaGreatDoor
open Go.RowKit
set_option maxRecDepth 100000
set_option linter.unusedVariables false

/-- May it be? -/
def checkC (x : Cmd) : Int := if knownC x.do_ = false then 1 else if 64 < x.l.length then 13 else 0
end Go.Proofs.YtdeifjnhbdkkgaaGreatDoor
namespace Go.Proofs.YtdeifjnhbdkkgaaGreatDoor
open Go.ChangeShapes Go.WideShapes Go.ChangeAt Go.RowKit
set_option maxRecDepth 100000
set_option linter.unusedVariables false

theorem list6 {α : Type} {l : List α} (h : l.length = 6) : ∃ a b c d e f, l = [a, b, c, d, e, f] := by
  match l, h with
  | [a, b, c, d, e, f], _ => exact ⟨a, b, c, d, e, f, rfl⟩
end Go.Proofs.YtdeifjnhbdkkgaaGreatDoor
