/- Contracts of bytes.Clone, bytes.Equal, cmd.known, cmd.Plain, vivariumref13.Plain, Exact. -/
import Derived.Test.YtpkeahikfbmcpaaDoorLePl
import Derived.Test.YtpkeahikfbmcpaaDoorMem
import Derived.Test.YtpkeahikfbmcpaaDoorArgs
import Derived.RegionTactic
import Derived.ChangeAlike
import Derived.Deep.RegionHeld3
namespace Go.Proofs.YtpkeahikfbmcpaaDoor
open Go.RowKit
set_option maxRecDepth 100000
set_option linter.unusedVariables false

/-- A command, as a value. -/
def cmdV (x : Cmd) (u : Value) : Value := .agg #[.int .i64 x.do_, .bool x.loc, .int .i64 x.idx, .int .i64 x.gen, .int .i64 x.comp, u]
end Go.Proofs.YtpkeahikfbmcpaaDoor
namespace Go.Proofs.YtpkeahikfbmcpaaDoor
open Go.RowKit
set_option maxRecDepth 100000
set_option linter.unusedVariables false

end Go.Proofs.YtpkeahikfbmcpaaDoor
namespace Go.Proofs.YtpkeahikfbmcpaaDoor
open Go.RowKit
set_option maxRecDepth 100000
set_option linter.unusedVariables false

end Go.Proofs.YtpkeahikfbmcpaaDoor
namespace Go.Proofs.YtpkeahikfbmcpaaDoor
open Go.RowKit
set_option maxRecDepth 100000
set_option linter.unusedVariables false

end Go.Proofs.YtpkeahikfbmcpaaDoor
namespace Go.Proofs.YtpkeahikfbmcpaaDoor
open Go.RowKit
set_option maxRecDepth 100000
set_option linter.unusedVariables false

/-- A call that leaves a command, its bytes in blocks of G. -/
def CmdPost (w : World) (G : Nat → Prop) (y : Cmd) (e : Ending) (w' : World) : Prop := ∃ A c, e = .returned (cmdV y (.slice A y.l.length c)) ∧ By w' G (.slice A y.l.length c) y.l ∧ Below w.heap.size w w'
theorem knownC_cases (d : Int) : knownC d = false ∧ (d < 0 ∨ (0 ≤ d ∧ 3 < d)) ∨ d = 0 ∨ d = 1 ∨ d = 2 ∨ d = 3 := by
  by_cases h : 0 ≤ d ∧ d ≤ 3
  · omega
  · exact .inl ⟨by unfold knownC; rw [decide_eq_false h], by omega⟩
end Go.Proofs.YtpkeahikfbmcpaaDoor
namespace Go.Proofs.YtpkeahikfbmcpaaDoor
open Go.RowKit
set_option maxRecDepth 100000
set_option linter.unusedVariables false

/-- May it be? -/
def checkC (x : Cmd) : Int := if knownC x.do_ = false then 1 else if 64 < x.l.length then 13 else 0
end Go.Proofs.YtpkeahikfbmcpaaDoor
namespace Go.Proofs.YtpkeahikfbmcpaaDoor
open Go.ChangeShapes Go.WideShapes Go.ChangeAt Go.RowKit
set_option maxRecDepth 100000
set_option linter.unusedVariables false

theorem list6 {α : Type} {l : List α} (h : l.length = 6) : ∃ a b c d e f, l = [a, b, c, d, e, f] := by
  match l, h with
  | [a, b, c, d, e, f], _ => exact ⟨a, b, c, d, e, f, rfl⟩
end Go.Proofs.YtpkeahikfbmcpaaDoor
