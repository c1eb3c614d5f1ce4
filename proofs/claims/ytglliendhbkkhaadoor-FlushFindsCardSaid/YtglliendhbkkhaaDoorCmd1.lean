/- Contracts of bytes.Clone, bytes.Equal, cmd.known, cmd.Plain, vivariumref13.Plain, Exact. -/
import Derived.Test.YtglliendhbkkhaaDoorLePl
import Derived.Test.YtglliendhbkkhaaDoorMem
import Derived.Test.YtglliendhbkkhaaDoorArgs
import Derived.RegionTactic
import Derived.ChangeAlike
import Derived.Deep.RegionHeld3
namespace Go.Proofs.YtglliendhbkkhaaDoor
open Go.RowKit
set_option maxRecDepth 100000
set_option linter.unusedVariables false

/-- A command, as a value. -/
def cmdV (x : Cmd) (u : Value) : Value := .agg #[.int .i64 x.do_, .bool x.loc, .int .i64 x.idx, .int .i64 x.gen, .int .i64 x.comp, u]
end Go.Proofs.YtglliendhbkkhaaDoor
namespace Go.Proofs.YtglliendhbkkhaaDoor
open Go.RowKit
set_option maxRecDepth 100000
set_option linter.unusedVariables false

end Go.Proofs.YtglliendhbkkhaaDoor
namespace Go.Proofs.YtglliendhbkkhaaDoor
open Go.RowKit
set_option maxRecDepth 100000
set_option linter.unusedVariables false

end Go.Proofs.YtglliendhbkkhaaDoor
namespace Go.Proofs.YtglliendhbkkhaaDoor
open Go.RowKit
set_option maxRecDepth 100000
set_option linter.unusedVariables false

end Go.Proofs.YtglliendhbkkhaaDoor
namespace Go.Proofs.YtglliendhbkkhaaDoor
open Go.RowKit
set_option maxRecDepth 100000
set_option linter.unusedVariables false

/-- A call that leaves a command, its bytes in blocks of G. -/
def CmdPost (w : World) (G : Nat → Prop) (y : Cmd) (e : Ending) (w' : World) : Prop := ∃ A c, e = .returned (cmdV y (.slice A y.l.length c)) ∧ By w' G (.slice A y.l.length c) y.l ∧ Below w.heap.size w w'
theorem knownC_cases (d : Int) : knownC d = false ∧ (d < 0 ∨ (0 ≤ d ∧ 3 < d)) ∨ d = 0 ∨ d = 1 ∨ d = 2 ∨ d = 3 := by
  by_cases h : 0 ≤ d ∧ d ≤ 3
  · omega
  · exact .inl ⟨by unfold knownC; rw [decide_eq_false h], by omega⟩
end Go.Proofs.YtglliendhbkkhaaDoor
namespace Go.Proofs.YtglliendhbkkhaaDoor
open Go.RowKit
set_option maxRecDepth 100000
set_option linter.unusedVariables false

/-- May it be? -/
def checkC (x : Cmd) : Int := if knownC x.do_ = false then 1 else if 64 < x.l.length then 13 else 0
end Go.Proofs.YtglliendhbkkhaaDoor
namespace Go.Proofs.YtglliendhbkkhaaDoor
open Go.ChangeShapes Go.WideShapes Go.ChangeAt Go.RowKit
set_option maxRecDepth 100000
set_option linter.unusedVariables false

theorem list6 {α : Type} {l : List α} (h : l.length = 6) : ∃ a b c d e f, l = [a, b, c, d, e, f] := by
  match l, h with
  | [a, b, c, d, e, f], _ => exact ⟨a, b, c, d, e, f, rfl⟩
theorem cellsCmd : Tryd.prog.cellsOf 37 = 6 := by kernel_rfl
theorem trod_cmd {H : Type} {enc : TypeId × Value → H} {w : World} {base : Nat} {spare : Nat → Bool} {held : Bool} {n : Nat} {cs : List Value} {x : DataW H × List MemPlace} (hl : cs.length = 6)
    (h : DataW.trod enc Tryd.prog w base spare held n 37 cs = some x) : ∃ (y : Cmd) (u : Value), cs = [.int .i64 y.do_, .bool y.loc, .int .i64 y.idx, .int .i64 y.gen, .int .i64 y.comp, u] ∧ By w (fun _ => True) u y.l ∧ ((Lit.int .i64 y.do_).wf = true ∧ (Lit.int .i64 y.idx).wf = true ∧ (Lit.int .i64 y.gen).wf = true ∧ (Lit.int .i64 y.comp).wf = true) := by
  obtain ⟨xs, m, _, _, _, hlen, hf⟩ := DataW.trod_struct Tryd.underlying37 h
  obtain ⟨c0, c1, c2, c3, c4, c5, rfl⟩ := list6 hl
  have ci : Tryd.prog.cellsOf 3 = 1 := by kernel_rfl
  have cb : Tryd.prog.cellsOf 4 = 1 := by kernel_rfl
  have cl : Tryd.prog.cellsOf 35 = 1 := by kernel_rfl
  have cd : Tryd.prog.cellsOf 27 = 2 := by kernel_rfl
  have cl2 : ∃ y0 y1 y2 y3 y4, xs = [y0, y1, y2, y3, y4] := by
    match xs, hlen with
    | [a, b, c, d, e], _ => exact ⟨a, b, c, d, e, rfl⟩
  obtain ⟨y0, y1, y2, y3, y4, rfl⟩ := cl2
  have h0 : DataW.trod enc Tryd.prog w base spare held m 3 [c0] = some y0 := by simpa [ci] using hf 0 _ rfl
  have h1 : DataW.trod enc Tryd.prog w base spare held m 4 [c1] = some y1 := by simpa [cb] using hf 1 _ rfl
  have h2 : DataW.trod enc Tryd.prog w base spare held m 27 [c2, c3] = some y2 := by simpa [cd] using hf 2 _ rfl
  have h3 : DataW.trod enc Tryd.prog w base spare held m 3 [c4] = some y3 := by simpa [ci] using hf 3 _ rfl
  have h4 : DataW.trod enc Tryd.prog w base spare held m 35 [c5] = some y4 := by simpa [cl] using hf 4 _ rfl
  obtain ⟨a0, e0, _, w0⟩ := DataW.trod_int Tryd.underlying3 h0
  obtain ⟨a1, e1, _⟩ := DataW.trod_bool Tryd.underlying4 h1
  obtain ⟨z0, z1, m2, _, _, g0, g1⟩ := trod_struct2 Tryd.underlying27 h2
  simp only [ci] at g0 g1
  obtain ⟨a2, e2, _, w2⟩ := DataW.trod_int Tryd.underlying3 g0
  obtain ⟨a3, e3, _, w3⟩ := DataW.trod_int Tryd.underlying3 g1
  obtain ⟨a4, e4, _, w4⟩ := DataW.trod_int Tryd.underlying3 h3
  obtain ⟨A2, n2, k2, l2, e5, hb, _⟩ := trod_by Tryd.underlying35 Tryd.underlying5 (by kernel_rfl) h4
  simp at e0 e1 e2 e3 e4 e5
  subst e0 e1 e2 e3 e4 e5
  exact ⟨⟨a0, a1, a2, a3, a4, l2⟩, _, rfl, hb, w0, w2, w3, w4⟩
theorem argCmdR {H : Type} {enc : TypeId × Value → H} {w : World} {spare : Nat → Bool} {held : Bool} {v : Value} {r : Reach} {b0 : Nat} {base : Nat} {d : DataW H} {p : List MemPlace} (hv : Value.okWide Tryd.prog w r b0 37 v)
    (h : DataW.Trod enc Tryd.prog w base spare held 37 v d p) : ∃ (y : Cmd) (u : Value), v = cmdV y u ∧ By w (fun _ => True) u y.l ∧ ((Lit.int .i64 y.do_).wf = true ∧ (Lit.int .i64 y.idx).wf = true ∧ (Lit.int .i64 y.gen).wf = true ∧ (Lit.int .i64 y.comp).wf = true) := by
  obtain ⟨cs, rfl, hsz⟩ := okWide_struct Tryd.underlying37 hv
  obtain ⟨fuel, hf⟩ := h
  rw [cellsCmd] at hsz
  obtain ⟨y, u, e, hb, hr⟩ := trod_cmd (cs := cs.toList) (by rw [Array.length_toList]; exact hsz) (by simpa [Value.cells] using hf)
  refine ⟨y, u, ?_, hb, hr⟩
  unfold cmdV
  rw [← e]
theorem argCmd {H : Type} {enc : TypeId × Value → H} {w : World} {spare : Nat → Bool} {held : Bool} {v : Value} {r : Reach} {b0 : Nat} {base : Nat} {d : DataW H} {p : List MemPlace} (hv : Value.okWide Tryd.prog w r b0 37 v)
    (h : DataW.Trod enc Tryd.prog w base spare held 37 v d p) : ∃ (y : Cmd) (u : Value), v = cmdV y u ∧ By w (fun _ => True) u y.l := by
  obtain ⟨y, u, e, hb, _⟩ := argCmdR hv h
  exact ⟨y, u, e, hb⟩
end Go.Proofs.YtglliendhbkkhaaDoor
