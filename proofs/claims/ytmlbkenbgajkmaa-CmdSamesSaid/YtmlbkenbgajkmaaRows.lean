/-
  No cell of these rows narrows 'for every input' (looked for: loops, veiled, ifaces, maps, wideKeys, modest, calm, conditions, laid).
  DERIVED. THE GIVEN ROWS OF THIS SEAT. 9 by the template 'for every input the law returns true; each argument reads behind the call as it read before'; 0 by the template 'total and deterministic' (their statements: YtmlbkenbgajkmaaTotals.lean).
  GIVEN WITH THE SEED: the statements are not yours to turn. If you find one false, say at which input.
  Laid BY PROGRAM, IN A SANDBOX (cutbox-rows.mjs): the forced cells as the released guide's own fill.sh prints them over the translation fc59f7db742debe1… (all of the seat's roots in one cut). By AI agents, Wed Nov 11 2026. No macro, syntax, notation, axiom, sorry.
-/
import Derived.Test.YtmlbkenbgajkmaaChecked
import GoSem.Claim
import GoSem.ClaimJoined
import GoSem.ClaimMapViews
import Derived.JoinedTies
import Derived.KernelRfl
namespace Go.Proofs.Ytmlbkenbgajkmaa
/- THE CELL 'sum', in the pinned program and in every row, IS THE sha256 OF THE DUMP (.gsa) THAT YtmlbkenbgajkmaaProg.lean LOADS. Nothing in Lean hashes anything: it is a label: what it is worth is what the hold of that sum in a sandbox is worth. -/
noncomputable def Try.pinned : Pinned := { name := "ytmlbkenbgajkmaa", sum := "fc59f7db742debe14c2ce4016735aadfcfdac279430bf1ccf1051dfbc4ce6e3e", checked := Try.checked }
namespace Rows
def none {H : Type} : Left H := { results := [], args := [] }

/-- 'vivariumlaw01.LeGets': WHATEVER THE INPUT: true; the input reads as it did. -/
def leGetsSpec : ChangeSpec := { name := "leGets", fn := fun _ => fun
  | [d1, d2, d3, d4] => { results := [.lit (.bool true)], args := [d1, d2, d3, d4] }
  | _ => none }
def leGetsRow : OpenClaim := { program := "ytmlbkenbgajkmaa", sum := "fc59f7db742debe14c2ce4016735aadfcfdac279430bf1ccf1051dfbc4ce6e3e", func := "vivarium/vivariumlaw01.LeGets", spec := "leGets", plainKeys := false, apart := false }
def LeGetsSaid : Prop := leGetsRow.holds Try.pinned (OpenSpec.ofChange leGetsSpec)

/-- ITS FALSE NEIGHBOUR: 'it returns false'. Refute it at one input. -/
def leGetsWrong : ChangeSpec := { name := "leGets", fn := fun _ => fun
  | [d1, d2, d3, d4] => { results := [.lit (.bool false)], args := [d1, d2, d3, d4] }
  | _ => none }
def LeGetsWrongFalsely : Prop := leGetsRow.holds Try.pinned (OpenSpec.ofChange leGetsWrong)

/-- 'vivariumlaw01.LePuts': WHATEVER THE INPUT: true; the input reads as it did. -/
def lePutsSpec : ChangeSpec := { name := "lePuts", fn := fun _ => fun
  | [d1, d2, d3, d4] => { results := [.lit (.bool true)], args := [d1, d2, d3, d4] }
  | _ => none }
def lePutsRow : OpenClaim := { program := "ytmlbkenbgajkmaa", sum := "fc59f7db742debe14c2ce4016735aadfcfdac279430bf1ccf1051dfbc4ce6e3e", func := "vivarium/vivariumlaw01.LePuts", spec := "lePuts", plainKeys := false, apart := false }
def LePutsSaid : Prop := lePutsRow.holds Try.pinned (OpenSpec.ofChange lePutsSpec)

/-- ITS FALSE NEIGHBOUR: 'it returns false'. Refute it at one input. -/
def lePutsWrong : ChangeSpec := { name := "lePuts", fn := fun _ => fun
  | [d1, d2, d3, d4] => { results := [.lit (.bool false)], args := [d1, d2, d3, d4] }
  | _ => none }
def LePutsWrongFalsely : Prop := lePutsRow.holds Try.pinned (OpenSpec.ofChange lePutsWrong)

/-- 'vivariumlaw10.GraphSteps': WHATEVER THE INPUT: true; the input reads as it did. -/
def graphStepsSpec : ChangeSpec := { name := "graphSteps", fn := fun _ => fun
  | [d1, d2, d3] => { results := [.lit (.bool true)], args := [d1, d2, d3] }
  | _ => none }
def graphStepsRow : OpenClaim := { program := "ytmlbkenbgajkmaa", sum := "fc59f7db742debe14c2ce4016735aadfcfdac279430bf1ccf1051dfbc4ce6e3e", func := "vivarium/vivariumlaw10.GraphSteps", spec := "graphSteps", plainKeys := false, apart := false }
def GraphStepsSaid : Prop := graphStepsRow.holds Try.pinned (OpenSpec.ofChange graphStepsSpec)

/-- ITS FALSE NEIGHBOUR: 'it returns false'. Refute it at one input. -/
def graphStepsWrong : ChangeSpec := { name := "graphSteps", fn := fun _ => fun
  | [d1, d2, d3] => { results := [.lit (.bool false)], args := [d1, d2, d3] }
  | _ => none }
def GraphStepsWrongFalsely : Prop := graphStepsRow.holds Try.pinned (OpenSpec.ofChange graphStepsWrong)

/-- 'vivariumlaw10.GraphOnce': WHATEVER THE INPUT: true; the input reads as it did. -/
def graphOnceSpec : ChangeSpec := { name := "graphOnce", fn := fun _ => fun
  | [d1, d2, d3] => { results := [.lit (.bool true)], args := [d1, d2, d3] }
  | _ => none }
def graphOnceRow : OpenClaim := { program := "ytmlbkenbgajkmaa", sum := "fc59f7db742debe14c2ce4016735aadfcfdac279430bf1ccf1051dfbc4ce6e3e", func := "vivarium/vivariumlaw10.GraphOnce", spec := "graphOnce", plainKeys := false, apart := false }
def GraphOnceSaid : Prop := graphOnceRow.holds Try.pinned (OpenSpec.ofChange graphOnceSpec)

/-- ITS FALSE NEIGHBOUR: 'it returns false'. Refute it at one input. -/
def graphOnceWrong : ChangeSpec := { name := "graphOnce", fn := fun _ => fun
  | [d1, d2, d3] => { results := [.lit (.bool false)], args := [d1, d2, d3] }
  | _ => none }
def GraphOnceWrongFalsely : Prop := graphOnceRow.holds Try.pinned (OpenSpec.ofChange graphOnceWrong)

/-- 'vivariumlaw08.ColumnOwn': WHATEVER THE INPUT: true; the input reads as it did. -/
def columnOwnSpec : ChangeSpec := { name := "columnOwn", fn := fun _ => fun
  | [d1, d2, d3] => { results := [.lit (.bool true)], args := [d1, d2, d3] }
  | _ => none }
def columnOwnRow : OpenClaim := { program := "ytmlbkenbgajkmaa", sum := "fc59f7db742debe14c2ce4016735aadfcfdac279430bf1ccf1051dfbc4ce6e3e", func := "vivarium/vivariumlaw08.ColumnOwn", spec := "columnOwn", plainKeys := false, apart := false }
def ColumnOwnSaid : Prop := columnOwnRow.holds Try.pinned (OpenSpec.ofChange columnOwnSpec)

/-- ITS FALSE NEIGHBOUR: 'it returns false'. Refute it at one input. -/
def columnOwnWrong : ChangeSpec := { name := "columnOwn", fn := fun _ => fun
  | [d1, d2, d3] => { results := [.lit (.bool false)], args := [d1, d2, d3] }
  | _ => none }
def ColumnOwnWrongFalsely : Prop := columnOwnRow.holds Try.pinned (OpenSpec.ofChange columnOwnWrong)

/-- 'vivariumlaw10.GraphSigs': WHATEVER THE INPUT: true; the input reads as it did. -/
def graphSigsSpec : ChangeSpec := { name := "graphSigs", fn := fun _ => fun
  | [d1, d2, d3] => { results := [.lit (.bool true)], args := [d1, d2, d3] }
  | _ => none }
def graphSigsRow : OpenClaim := { program := "ytmlbkenbgajkmaa", sum := "fc59f7db742debe14c2ce4016735aadfcfdac279430bf1ccf1051dfbc4ce6e3e", func := "vivarium/vivariumlaw10.GraphSigs", spec := "graphSigs", plainKeys := false, apart := false }
def GraphSigsSaid : Prop := graphSigsRow.holds Try.pinned (OpenSpec.ofChange graphSigsSpec)

/-- ITS FALSE NEIGHBOUR: 'it returns false'. Refute it at one input. -/
def graphSigsWrong : ChangeSpec := { name := "graphSigs", fn := fun _ => fun
  | [d1, d2, d3] => { results := [.lit (.bool false)], args := [d1, d2, d3] }
  | _ => none }
def GraphSigsWrongFalsely : Prop := graphSigsRow.holds Try.pinned (OpenSpec.ofChange graphSigsWrong)

/-- 'vivariumlaw13.CmdSames': WHATEVER THE INPUT: true; the input reads as it did. -/
def cmdSamesSpec : ChangeSpec := { name := "cmdSames", fn := fun _ => fun
  | [d1, d2] => { results := [.lit (.bool true)], args := [d1, d2] }
  | _ => none }
def cmdSamesRow : OpenClaim := { program := "ytmlbkenbgajkmaa", sum := "fc59f7db742debe14c2ce4016735aadfcfdac279430bf1ccf1051dfbc4ce6e3e", func := "vivarium/vivariumlaw13.CmdSames", spec := "cmdSames", plainKeys := false, apart := false }
def CmdSamesSaid : Prop := cmdSamesRow.holds Try.pinned (OpenSpec.ofChange cmdSamesSpec)

/-- ITS FALSE NEIGHBOUR: 'it returns false'. Refute it at one input. -/
def cmdSamesWrong : ChangeSpec := { name := "cmdSames", fn := fun _ => fun
  | [d1, d2] => { results := [.lit (.bool false)], args := [d1, d2] }
  | _ => none }
def CmdSamesWrongFalsely : Prop := cmdSamesRow.holds Try.pinned (OpenSpec.ofChange cmdSamesWrong)

/-- 'vivariumlaw07.CompChecks': WHATEVER THE INPUT: true; the input reads as it did. -/
def compChecksSpec : ChangeSpec := { name := "compChecks", fn := fun _ => fun
  | [d1, d2, d3] => { results := [.lit (.bool true)], args := [d1, d2, d3] }
  | _ => none }
def compChecksRow : OpenClaim := { program := "ytmlbkenbgajkmaa", sum := "fc59f7db742debe14c2ce4016735aadfcfdac279430bf1ccf1051dfbc4ce6e3e", func := "vivarium/vivariumlaw07.CompChecks", spec := "compChecks", unfollowed := true, recurses := true, plainKeys := false, apart := false }
def CompChecksSaid : Prop := compChecksRow.holds Try.pinned (OpenSpec.ofChange compChecksSpec)

/-- ITS FALSE NEIGHBOUR: 'it returns false'. Refute it at one input. -/
def compChecksWrong : ChangeSpec := { name := "compChecks", fn := fun _ => fun
  | [d1, d2, d3] => { results := [.lit (.bool false)], args := [d1, d2, d3] }
  | _ => none }
def CompChecksWrongFalsely : Prop := compChecksRow.holds Try.pinned (OpenSpec.ofChange compChecksWrong)

/-- 'vivariumlaw08.ColumnSteps': WHATEVER THE INPUT: true; the input reads as it did. -/
def columnStepsSpec : ChangeSpec := { name := "columnSteps", fn := fun _ => fun
  | [d1, d2] => { results := [.lit (.bool true)], args := [d1, d2] }
  | _ => none }
def columnStepsRow : OpenClaim := { program := "ytmlbkenbgajkmaa", sum := "fc59f7db742debe14c2ce4016735aadfcfdac279430bf1ccf1051dfbc4ce6e3e", func := "vivarium/vivariumlaw08.ColumnSteps", spec := "columnSteps", plainKeys := false, apart := false }
def ColumnStepsSaid : Prop := columnStepsRow.holds Try.pinned (OpenSpec.ofChange columnStepsSpec)

/-- ITS FALSE NEIGHBOUR: 'it returns false'. Refute it at one input. -/
def columnStepsWrong : ChangeSpec := { name := "columnSteps", fn := fun _ => fun
  | [d1, d2] => { results := [.lit (.bool false)], args := [d1, d2] }
  | _ => none }
def ColumnStepsWrongFalsely : Prop := columnStepsRow.holds Try.pinned (OpenSpec.ofChange columnStepsWrong)

/- THE SECOND FORM. 'bulk': how many values and letters a reading holds, each counted each time it is reached (what is shared counts as often as it is met; a slice's spare places count too). A statement '..UptoSaid' is the law's where the arguments, and the package variables that the reading takes, are together of bulk at most 1048576: NARROWER than '..Said'. Prove '..Said' where nothing that the law and all that it calls make is longer than what came in: it says more and counts as full. Else prove '..UptoSaid'. A law counts once. -/
mutual
def uptoBulk {H : Type} : DataW H → Nat
  | .lit (.string bytes) => bytes.length + 1
  | .lit _ => 1
  | .nil => 1
  | .ptr d => uptoBulk d + 1
  | .slice elems spare => uptoBulkAll elems + uptoBulkAll spare + 1
  | .agg parts => uptoBulkAll parts + 1
  | .iface _ d => uptoBulk d + 1
  | .map entries => uptoBulkEntries entries + 1
  | .held _ => 1
def uptoBulkAll {H : Type} : List (DataW H) → Nat
  | [] => 0
  | d :: r => uptoBulk d + uptoBulkAll r
def uptoBulkEntries {H : Type} : List (Lit × DataW H) → Nat
  | [] => 0
  | x :: r => uptoBulkEntry x + uptoBulkEntries r
def uptoBulkEntry {H : Type} : Lit × DataW H → Nat
  | (.string bytes, d) => bytes.length + uptoBulk d + 1
  | (_, d) => uptoBulk d + 1
 end
def uptoSmall : (H : Type) → List (DataW H) → Bool := fun _ ds => decide (uptoBulkAll ds ≤ 1048576)
def OpenSpec.upto (s : _root_.Go.ChangeSpec) : _root_.Go.OpenSpec := { _root_.Go.OpenSpec.ofChange s with cond := some uptoSmall }

/-- 'vivariumlaw01.LeGets', WHERE WHAT IT READS IS OF BULK AT MOST 1048576: true; the input reads as it did. -/
def leGetsUptoRow : OpenClaim := { program := "ytmlbkenbgajkmaa", sum := "fc59f7db742debe14c2ce4016735aadfcfdac279430bf1ccf1051dfbc4ce6e3e", func := "vivarium/vivariumlaw01.LeGets", spec := "leGets", plainKeys := false, apart := false, narrowed := true }
def LeGetsUptoSaid : Prop := leGetsUptoRow.holds Try.pinned (OpenSpec.upto leGetsSpec)

/-- 'vivariumlaw01.LePuts', WHERE WHAT IT READS IS OF BULK AT MOST 1048576: true; the input reads as it did. -/
def lePutsUptoRow : OpenClaim := { program := "ytmlbkenbgajkmaa", sum := "fc59f7db742debe14c2ce4016735aadfcfdac279430bf1ccf1051dfbc4ce6e3e", func := "vivarium/vivariumlaw01.LePuts", spec := "lePuts", plainKeys := false, apart := false, narrowed := true }
def LePutsUptoSaid : Prop := lePutsUptoRow.holds Try.pinned (OpenSpec.upto lePutsSpec)

/-- 'vivariumlaw10.GraphSteps', WHERE WHAT IT READS IS OF BULK AT MOST 1048576: true; the input reads as it did. -/
def graphStepsUptoRow : OpenClaim := { program := "ytmlbkenbgajkmaa", sum := "fc59f7db742debe14c2ce4016735aadfcfdac279430bf1ccf1051dfbc4ce6e3e", func := "vivarium/vivariumlaw10.GraphSteps", spec := "graphSteps", plainKeys := false, apart := false, narrowed := true }
def GraphStepsUptoSaid : Prop := graphStepsUptoRow.holds Try.pinned (OpenSpec.upto graphStepsSpec)

/-- 'vivariumlaw10.GraphOnce', WHERE WHAT IT READS IS OF BULK AT MOST 1048576: true; the input reads as it did. -/
def graphOnceUptoRow : OpenClaim := { program := "ytmlbkenbgajkmaa", sum := "fc59f7db742debe14c2ce4016735aadfcfdac279430bf1ccf1051dfbc4ce6e3e", func := "vivarium/vivariumlaw10.GraphOnce", spec := "graphOnce", plainKeys := false, apart := false, narrowed := true }
def GraphOnceUptoSaid : Prop := graphOnceUptoRow.holds Try.pinned (OpenSpec.upto graphOnceSpec)

/-- 'vivariumlaw08.ColumnOwn', WHERE WHAT IT READS IS OF BULK AT MOST 1048576: true; the input reads as it did. -/
def columnOwnUptoRow : OpenClaim := { program := "ytmlbkenbgajkmaa", sum := "fc59f7db742debe14c2ce4016735aadfcfdac279430bf1ccf1051dfbc4ce6e3e", func := "vivarium/vivariumlaw08.ColumnOwn", spec := "columnOwn", plainKeys := false, apart := false, narrowed := true }
def ColumnOwnUptoSaid : Prop := columnOwnUptoRow.holds Try.pinned (OpenSpec.upto columnOwnSpec)

/-- 'vivariumlaw10.GraphSigs', WHERE WHAT IT READS IS OF BULK AT MOST 1048576: true; the input reads as it did. -/
def graphSigsUptoRow : OpenClaim := { program := "ytmlbkenbgajkmaa", sum := "fc59f7db742debe14c2ce4016735aadfcfdac279430bf1ccf1051dfbc4ce6e3e", func := "vivarium/vivariumlaw10.GraphSigs", spec := "graphSigs", plainKeys := false, apart := false, narrowed := true }
def GraphSigsUptoSaid : Prop := graphSigsUptoRow.holds Try.pinned (OpenSpec.upto graphSigsSpec)

/-- 'vivariumlaw13.CmdSames', WHERE WHAT IT READS IS OF BULK AT MOST 1048576: true; the input reads as it did. -/
def cmdSamesUptoRow : OpenClaim := { program := "ytmlbkenbgajkmaa", sum := "fc59f7db742debe14c2ce4016735aadfcfdac279430bf1ccf1051dfbc4ce6e3e", func := "vivarium/vivariumlaw13.CmdSames", spec := "cmdSames", plainKeys := false, apart := false, narrowed := true }
def CmdSamesUptoSaid : Prop := cmdSamesUptoRow.holds Try.pinned (OpenSpec.upto cmdSamesSpec)

/-- 'vivariumlaw07.CompChecks', WHERE WHAT IT READS IS OF BULK AT MOST 1048576: true; the input reads as it did. -/
def compChecksUptoRow : OpenClaim := { program := "ytmlbkenbgajkmaa", sum := "fc59f7db742debe14c2ce4016735aadfcfdac279430bf1ccf1051dfbc4ce6e3e", func := "vivarium/vivariumlaw07.CompChecks", spec := "compChecks", unfollowed := true, recurses := true, plainKeys := false, apart := false, narrowed := true }
def CompChecksUptoSaid : Prop := compChecksUptoRow.holds Try.pinned (OpenSpec.upto compChecksSpec)

/-- 'vivariumlaw08.ColumnSteps', WHERE WHAT IT READS IS OF BULK AT MOST 1048576: true; the input reads as it did. -/
def columnStepsUptoRow : OpenClaim := { program := "ytmlbkenbgajkmaa", sum := "fc59f7db742debe14c2ce4016735aadfcfdac279430bf1ccf1051dfbc4ce6e3e", func := "vivarium/vivariumlaw08.ColumnSteps", spec := "columnSteps", plainKeys := false, apart := false, narrowed := true }
def ColumnStepsUptoSaid : Prop := columnStepsUptoRow.holds Try.pinned (OpenSpec.upto columnStepsSpec)

end Rows
end Go.Proofs.Ytmlbkenbgajkmaa
