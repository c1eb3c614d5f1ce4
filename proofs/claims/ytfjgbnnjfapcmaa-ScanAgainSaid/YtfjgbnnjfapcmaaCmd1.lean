/- Contracts of bytes.Clone, bytes.Equal, cmd.known, cmd.Plain, vivariumref13.Plain, Exact. -/
import Derived.Test.YtfjgbnnjfapcmaaLePl
import Derived.Test.YtfjgbnnjfapcmaaMem
import Derived.Test.YtfjgbnnjfapcmaaArgs
import Derived.RegionTactic
import Derived.ChangeAlike
import Derived.Deep.RegionHeld3
namespace Go.Proofs.Ytfjgbnnjfapcmaa
open Go.RowKit
set_option maxRecDepth 100000
set_option linter.unusedVariables false

theorem bequal_any (xs ys : List UInt8) (u v : Value) (F G : Nat → Prop) (w : World) (ha : By w F u xs) (hb : By w G v ys) :
    Calls Try.prog 57 #[u, v] w fun e w' => e = .returned (.bool (decide (xs = ys))) ∧ w = w' := by
  have r1 := run_str (P := Try.prog) ha Try.underlying29 Try.underlying5 Try.underlying9
  have r2 := run_str (P := Try.prog) hb Try.underlying29 Try.underlying5 Try.underlying9
  clear ha hb
  go_enter Try.func57, Try.ntmps57
  go_wp2
  go_ret
  refine ⟨ret_bool ?_, rfl⟩
  show (xs == ys) = _
  rw [Bool.eq_iff_iff, beq_iff_eq, decide_eq_true_iff]
theorem known_any (d : Int) (w : World) :
    Calls Try.prog 93 #[.int .i64 d] w fun e w' => e = .returned (.bool (knownC d)) ∧ w = w' := by
  have H := Lib.hid (show knownC d = if d < 0 then false else if 3 < d then false else true by
    unfold knownC
    split
    · rw [decide_eq_false (by omega)]
    · split
      · rw [decide_eq_false (by omega)]
      · rw [decide_eq_true (by omega)])
  by_cases h0 : d < 0
  · rw [if_pos h0] at H
    go_enter Try.func93, Try.ntmps93
    go_wp2
    go_ret
    exact ⟨ret_bool (by rw [H.out] <;> first | rfl | exact decide_eq_false (by omega) | exact decide_eq_true (by omega)), rfl⟩
  · rw [if_neg h0] at H
    by_cases h3 : 3 < d
    · rw [if_pos h3] at H
      go_enter Try.func93, Try.ntmps93
      go_wp2
      go_ret
      exact ⟨ret_bool (by rw [H.out] <;> first | rfl | exact decide_eq_false (by omega) | exact decide_eq_true (by omega)), rfl⟩
    · rw [if_neg h3] at H
      go_enter Try.func93, Try.ntmps93
      go_wp2
      go_ret
      exact ⟨ret_bool (by rw [H.out] <;> first | rfl | exact decide_eq_false (by omega) | exact decide_eq_true (by omega)), rfl⟩
/-- A command, as a value. -/
def cmdV (x : Cmd) (u : Value) : Value := .agg #[.int .i64 x.do_, .bool x.loc, .int .i64 x.idx, .int .i64 x.gen, .int .i64 x.comp, u]
end Go.Proofs.Ytfjgbnnjfapcmaa
namespace Go.Proofs.Ytfjgbnnjfapcmaa
open Go.RowKit
set_option maxRecDepth 100000
set_option linter.unusedVariables false

end Go.Proofs.Ytfjgbnnjfapcmaa
namespace Go.Proofs.Ytfjgbnnjfapcmaa
open Go.RowKit
set_option maxRecDepth 100000
set_option linter.unusedVariables false

end Go.Proofs.Ytfjgbnnjfapcmaa
namespace Go.Proofs.Ytfjgbnnjfapcmaa
open Go.RowKit
set_option maxRecDepth 100000
set_option linter.unusedVariables false

end Go.Proofs.Ytfjgbnnjfapcmaa
namespace Go.Proofs.Ytfjgbnnjfapcmaa
open Go.RowKit
set_option maxRecDepth 100000
set_option linter.unusedVariables false

/-- A call that leaves a command, its bytes in blocks of G. -/
def CmdPost (w : World) (G : Nat → Prop) (y : Cmd) (e : Ending) (w' : World) : Prop := ∃ A c, e = .returned (cmdV y (.slice A y.l.length c)) ∧ By w' G (.slice A y.l.length c) y.l ∧ Below w.heap.size w w'
theorem knownC_cases (d : Int) : knownC d = false ∧ (d < 0 ∨ (0 ≤ d ∧ 3 < d)) ∨ d = 0 ∨ d = 1 ∨ d = 2 ∨ d = 3 := by
  by_cases h : 0 ≤ d ∧ d ≤ 3
  · omega
  · exact .inl ⟨by unfold knownC; rw [decide_eq_false h], by omega⟩
end Go.Proofs.Ytfjgbnnjfapcmaa
namespace Go.Proofs.Ytfjgbnnjfapcmaa
open Go.RowKit
set_option maxRecDepth 100000
set_option linter.unusedVariables false

/-- May it be? -/
def checkC (x : Cmd) : Int := if knownC x.do_ = false then 1 else if 64 < x.l.length then 13 else 0
theorem rcheck_any (x : Cmd) (u : Value) (F : Nat → Prop) (w : World) (hu : By w F u x.l) :
    Calls Try.prog 45 #[cmdV x u] w fun e w' => e = .returned (.int .i64 (checkC x)) ∧ Below w.heap.size w w' := by
  obtain ⟨A, c, rfl, -⟩ := hu
  unfold cmdV
  unfold checkC
  generalize x.l.length = n at *
  obtain ⟨d, loc, idx, gen, comp, q⟩ := x
  simp only
  by_cases h0 : d < 0
  · rw [if_pos (show knownC d = false from decide_eq_false (by omega))]
    go_enter Try.func45, Try.ntmps45
    go_wp2
    go_ret
    exact ⟨rfl, by exact (by repeat first | exact Below.refl _ _ | refine Below.setCell ?_ (by first | omega | (simp; done) | (simp; omega)) _ | refine Below.alloc ?_ (by first | omega | (simp; done) | (simp; omega)) _ | refine Below.drew ?_ | refine below_drewN ?_ _ | assumption)⟩
  by_cases h3 : 3 < d
  · rw [if_pos (show knownC d = false from decide_eq_false (by omega))]
    go_enter Try.func45, Try.ntmps45
    go_wp2
    go_ret
    exact ⟨rfl, by exact (by repeat first | exact Below.refl _ _ | refine Below.setCell ?_ (by first | omega | (simp; done) | (simp; omega)) _ | refine Below.alloc ?_ (by first | omega | (simp; done) | (simp; omega)) _ | refine Below.drew ?_ | refine below_drewN ?_ _ | assumption)⟩
  rw [if_neg (show ¬ knownC d = false from by unfold knownC; rw [decide_eq_true (by omega)]; decide)]
  by_cases hn : 64 < n
  · rw [if_pos hn]
    have hn2 : (64 : Int) < (n : Int) := by omega
    go_enter Try.func45, Try.ntmps45
    go_wp2
    go_ret
    exact ⟨rfl, by exact (by repeat first | exact Below.refl _ _ | refine Below.setCell ?_ (by first | omega | (simp; done) | (simp; omega)) _ | refine Below.alloc ?_ (by first | omega | (simp; done) | (simp; omega)) _ | refine Below.drew ?_ | refine below_drewN ?_ _ | assumption)⟩
  · rw [if_neg hn]
    have hn2 : ¬ (64 : Int) < (n : Int) := by omega
    go_enter Try.func45, Try.ntmps45
    go_wp2
    go_ret
    exact ⟨rfl, by exact (by repeat first | exact Below.refl _ _ | refine Below.setCell ?_ (by first | omega | (simp; done) | (simp; omega)) _ | refine Below.alloc ?_ (by first | omega | (simp; done) | (simp; omega)) _ | refine Below.drew ?_ | refine below_drewN ?_ _ | assumption)⟩
end Go.Proofs.Ytfjgbnnjfapcmaa
namespace Go.Proofs.Ytfjgbnnjfapcmaa
open Go.ChangeShapes Go.WideShapes Go.ChangeAt Go.RowKit
set_option maxRecDepth 100000
set_option linter.unusedVariables false

theorem list6 {α : Type} {l : List α} (h : l.length = 6) : ∃ a b c d e f, l = [a, b, c, d, e, f] := by
  match l, h with
  | [a, b, c, d, e, f], _ => exact ⟨a, b, c, d, e, f, rfl⟩
theorem cellsCmd : Try.prog.cellsOf 83 = 6 := by kernel_rfl
theorem trod_cmd {H : Type} {enc : TypeId × Value → H} {w : World} {base : Nat} {spare : Nat → Bool} {held : Bool} {n : Nat} {cs : List Value} {x : DataW H × List MemPlace} (hl : cs.length = 6)
    (h : DataW.trod enc Try.prog w base spare held n 83 cs = some x) : ∃ (y : Cmd) (u : Value), cs = [.int .i64 y.do_, .bool y.loc, .int .i64 y.idx, .int .i64 y.gen, .int .i64 y.comp, u] ∧ By w (fun _ => True) u y.l ∧ ((Lit.int .i64 y.do_).wf = true ∧ (Lit.int .i64 y.idx).wf = true ∧ (Lit.int .i64 y.gen).wf = true ∧ (Lit.int .i64 y.comp).wf = true) := by
  obtain ⟨xs, m, _, _, _, hlen, hf⟩ := DataW.trod_struct Try.underlying83 h
  obtain ⟨c0, c1, c2, c3, c4, c5, rfl⟩ := list6 hl
  have ci : Try.prog.cellsOf 3 = 1 := by kernel_rfl
  have cb : Try.prog.cellsOf 4 = 1 := by kernel_rfl
  have cl : Try.prog.cellsOf 29 = 1 := by kernel_rfl
  have cd : Try.prog.cellsOf 81 = 2 := by kernel_rfl
  have cl2 : ∃ y0 y1 y2 y3 y4, xs = [y0, y1, y2, y3, y4] := by
    match xs, hlen with
    | [a, b, c, d, e], _ => exact ⟨a, b, c, d, e, rfl⟩
  obtain ⟨y0, y1, y2, y3, y4, rfl⟩ := cl2
  have h0 : DataW.trod enc Try.prog w base spare held m 3 [c0] = some y0 := by simpa [ci] using hf 0 _ rfl
  have h1 : DataW.trod enc Try.prog w base spare held m 4 [c1] = some y1 := by simpa [cb] using hf 1 _ rfl
  have h2 : DataW.trod enc Try.prog w base spare held m 81 [c2, c3] = some y2 := by simpa [cd] using hf 2 _ rfl
  have h3 : DataW.trod enc Try.prog w base spare held m 3 [c4] = some y3 := by simpa [ci] using hf 3 _ rfl
  have h4 : DataW.trod enc Try.prog w base spare held m 29 [c5] = some y4 := by simpa [cl] using hf 4 _ rfl
  obtain ⟨a0, e0, _, w0⟩ := DataW.trod_int Try.underlying3 h0
  obtain ⟨a1, e1, _⟩ := DataW.trod_bool Try.underlying4 h1
  obtain ⟨z0, z1, m2, _, _, g0, g1⟩ := trod_struct2 Try.underlying81 h2
  simp only [ci] at g0 g1
  obtain ⟨a2, e2, _, w2⟩ := DataW.trod_int Try.underlying3 g0
  obtain ⟨a3, e3, _, w3⟩ := DataW.trod_int Try.underlying3 g1
  obtain ⟨a4, e4, _, w4⟩ := DataW.trod_int Try.underlying3 h3
  obtain ⟨A2, n2, k2, l2, e5, hb, _⟩ := trod_by Try.underlying29 Try.underlying5 (by kernel_rfl) h4
  simp at e0 e1 e2 e3 e4 e5
  subst e0 e1 e2 e3 e4 e5
  exact ⟨⟨a0, a1, a2, a3, a4, l2⟩, _, rfl, hb, w0, w2, w3, w4⟩
theorem argCmdR {H : Type} {enc : TypeId × Value → H} {w : World} {spare : Nat → Bool} {held : Bool} {v : Value} {r : Reach} {b0 : Nat} {base : Nat} {d : DataW H} {p : List MemPlace} (hv : Value.okWide Try.prog w r b0 83 v)
    (h : DataW.Trod enc Try.prog w base spare held 83 v d p) : ∃ (y : Cmd) (u : Value), v = cmdV y u ∧ By w (fun _ => True) u y.l ∧ ((Lit.int .i64 y.do_).wf = true ∧ (Lit.int .i64 y.idx).wf = true ∧ (Lit.int .i64 y.gen).wf = true ∧ (Lit.int .i64 y.comp).wf = true) := by
  obtain ⟨cs, rfl, hsz⟩ := okWide_struct Try.underlying83 hv
  obtain ⟨fuel, hf⟩ := h
  rw [cellsCmd] at hsz
  obtain ⟨y, u, e, hb, hr⟩ := trod_cmd (cs := cs.toList) (by rw [Array.length_toList]; exact hsz) (by simpa [Value.cells] using hf)
  refine ⟨y, u, ?_, hb, hr⟩
  unfold cmdV
  rw [← e]
theorem argCmd {H : Type} {enc : TypeId × Value → H} {w : World} {spare : Nat → Bool} {held : Bool} {v : Value} {r : Reach} {b0 : Nat} {base : Nat} {d : DataW H} {p : List MemPlace} (hv : Value.okWide Try.prog w r b0 83 v)
    (h : DataW.Trod enc Try.prog w base spare held 83 v d p) : ∃ (y : Cmd) (u : Value), v = cmdV y u ∧ By w (fun _ => True) u y.l := by
  obtain ⟨y, u, e, hb, _⟩ := argCmdR hv h
  exact ⟨y, u, e, hb⟩
end Go.Proofs.Ytfjgbnnjfapcmaa
