/-
  No cell of these rows narrows 'for every input' (looked for: loops, veiled, ifaces, maps, wideKeys, modest, calm, conditions, laid).
  DERIVED. THE GIVEN ROWS OF THIS SEAT. 12 by the template 'for every input the law returns true; each argument reads behind the call as it read before'; 0 by the template 'total and deterministic' (their statements: YtakchlaoimnnhaaTotals.lean).
  GIVEN WITH THE SEED: the statements are not yours to turn. If you find one false, say at which input.
  Laid BY PROGRAM, IN A SANDBOX (cutbox-rows.mjs): the forced cells as the released guide's own fill.sh prints them over the translation 960389a3f1002273… (all of the seat's roots in one cut). By AI agents, Wed Nov 11 2026. No macro, syntax, notation, axiom, sorry.
-/
import Derived.Test.YtakchlaoimnnhaaChecked
import GoSem.Claim
import GoSem.ClaimJoined
import GoSem.ClaimMapViews
import Derived.JoinedTies
import Derived.KernelRfl
namespace Go.Proofs.Ytakchlaoimnnhaa
/- THE CELL 'sum', in the pinned program and in every row, IS THE sha256 OF THE DUMP (.gsa) THAT YtakchlaoimnnhaaProg.lean LOADS. Nothing in Lean hashes anything: it is a label: what it is worth is what the hold of that sum in a sandbox is worth. -/
noncomputable def Try.pinned : Pinned := { name := "ytakchlaoimnnhaa", sum := "960389a3f1002273efd3852049817c149a12fb222d7354904ba9ddd55562bda6", checked := Try.checked }
namespace Rows
def none {H : Type} : Left H := { results := [], args := [] }

/-- 'vivariumlaw17.PartSplits': WHATEVER THE INPUT: true; the input reads as it did. -/
def partSplitsSpec : ChangeSpec := { name := "partSplits", fn := fun _ => fun
  | [d1, d2] => { results := [.lit (.bool true)], args := [d1, d2] }
  | _ => none }
def partSplitsRow : OpenClaim := { program := "ytakchlaoimnnhaa", sum := "960389a3f1002273efd3852049817c149a12fb222d7354904ba9ddd55562bda6", func := "vivarium/vivariumlaw17.PartSplits", spec := "partSplits", unfollowed := true, recurses := true, apart := false }
def PartSplitsSaid : Prop := partSplitsRow.holds Try.pinned (OpenSpec.ofChange partSplitsSpec)

/-- ITS FALSE NEIGHBOUR: 'it returns false'. Refute it at one input. -/
def partSplitsWrong : ChangeSpec := { name := "partSplits", fn := fun _ => fun
  | [d1, d2] => { results := [.lit (.bool false)], args := [d1, d2] }
  | _ => none }
def PartSplitsWrongFalsely : Prop := partSplitsRow.holds Try.pinned (OpenSpec.ofChange partSplitsWrong)

/-- 'vivariumlaw17.PartJoins': WHATEVER THE INPUT: true; the input reads as it did. -/
def partJoinsSpec : ChangeSpec := { name := "partJoins", fn := fun _ => fun
  | [d1, d2] => { results := [.lit (.bool true)], args := [d1, d2] }
  | _ => none }
def partJoinsRow : OpenClaim := { program := "ytakchlaoimnnhaa", sum := "960389a3f1002273efd3852049817c149a12fb222d7354904ba9ddd55562bda6", func := "vivarium/vivariumlaw17.PartJoins", spec := "partJoins", unfollowed := true, recurses := true, apart := false }
def PartJoinsSaid : Prop := partJoinsRow.holds Try.pinned (OpenSpec.ofChange partJoinsSpec)

/-- ITS FALSE NEIGHBOUR: 'it returns false'. Refute it at one input. -/
def partJoinsWrong : ChangeSpec := { name := "partJoins", fn := fun _ => fun
  | [d1, d2] => { results := [.lit (.bool false)], args := [d1, d2] }
  | _ => none }
def PartJoinsWrongFalsely : Prop := partJoinsRow.holds Try.pinned (OpenSpec.ofChange partJoinsWrong)

/-- 'vivariumlaw17.PartMixed': WHATEVER THE INPUT: true; the input reads as it did. -/
def partMixedSpec : ChangeSpec := { name := "partMixed", fn := fun _ => fun
  | [d1, d2, d3, d4, d5] => { results := [.lit (.bool true)], args := [d1, d2, d3, d4, d5] }
  | _ => none }
def partMixedRow : OpenClaim := { program := "ytakchlaoimnnhaa", sum := "960389a3f1002273efd3852049817c149a12fb222d7354904ba9ddd55562bda6", func := "vivarium/vivariumlaw17.PartMixed", spec := "partMixed", unfollowed := true, recurses := true, apart := false }
def PartMixedSaid : Prop := partMixedRow.holds Try.pinned (OpenSpec.ofChange partMixedSpec)

/-- ITS FALSE NEIGHBOUR: 'it returns false'. Refute it at one input. -/
def partMixedWrong : ChangeSpec := { name := "partMixed", fn := fun _ => fun
  | [d1, d2, d3, d4, d5] => { results := [.lit (.bool false)], args := [d1, d2, d3, d4, d5] }
  | _ => none }
def PartMixedWrongFalsely : Prop := partMixedRow.holds Try.pinned (OpenSpec.ofChange partMixedWrong)

/-- 'vivariumlaw13.CmdGets': WHATEVER THE INPUT: true; the input reads as it did. -/
def cmdGetsSpec : ChangeSpec := { name := "cmdGets", fn := fun _ => fun
  | [d1, d2] => { results := [.lit (.bool true)], args := [d1, d2] }
  | _ => none }
def cmdGetsRow : OpenClaim := { program := "ytakchlaoimnnhaa", sum := "960389a3f1002273efd3852049817c149a12fb222d7354904ba9ddd55562bda6", func := "vivarium/vivariumlaw13.CmdGets", spec := "cmdGets", apart := false }
def CmdGetsSaid : Prop := cmdGetsRow.holds Try.pinned (OpenSpec.ofChange cmdGetsSpec)

/-- ITS FALSE NEIGHBOUR: 'it returns false'. Refute it at one input. -/
def cmdGetsWrong : ChangeSpec := { name := "cmdGets", fn := fun _ => fun
  | [d1, d2] => { results := [.lit (.bool false)], args := [d1, d2] }
  | _ => none }
def CmdGetsWrongFalsely : Prop := cmdGetsRow.holds Try.pinned (OpenSpec.ofChange cmdGetsWrong)

/-- 'vivariumlaw03.SealPuts': WHATEVER THE INPUT: true; the input reads as it did. -/
def sealPutsSpec : ChangeSpec := { name := "sealPuts", fn := fun _ => fun
  | [d] => { results := [.lit (.bool true)], args := [d] }
  | _ => none }
def sealPutsRow : OpenClaim := { program := "ytakchlaoimnnhaa", sum := "960389a3f1002273efd3852049817c149a12fb222d7354904ba9ddd55562bda6", func := "vivarium/vivariumlaw03.SealPuts", spec := "sealPuts", apart := false }
def SealPutsSaid : Prop := sealPutsRow.holds Try.pinned (OpenSpec.ofChange sealPutsSpec)

/-- ITS FALSE NEIGHBOUR: 'it returns false'. Refute it at one input. -/
def sealPutsWrong : ChangeSpec := { name := "sealPuts", fn := fun _ => fun
  | [d] => { results := [.lit (.bool false)], args := [d] }
  | _ => none }
def SealPutsWrongFalsely : Prop := sealPutsRow.holds Try.pinned (OpenSpec.ofChange sealPutsWrong)

/-- 'vivariumlaw03.SealGets': WHATEVER THE INPUT: true; the input reads as it did. -/
def sealGetsSpec : ChangeSpec := { name := "sealGets", fn := fun _ => fun
  | [d] => { results := [.lit (.bool true)], args := [d] }
  | _ => none }
def sealGetsRow : OpenClaim := { program := "ytakchlaoimnnhaa", sum := "960389a3f1002273efd3852049817c149a12fb222d7354904ba9ddd55562bda6", func := "vivarium/vivariumlaw03.SealGets", spec := "sealGets", apart := false }
def SealGetsSaid : Prop := sealGetsRow.holds Try.pinned (OpenSpec.ofChange sealGetsSpec)

/-- ITS FALSE NEIGHBOUR: 'it returns false'. Refute it at one input. -/
def sealGetsWrong : ChangeSpec := { name := "sealGets", fn := fun _ => fun
  | [d] => { results := [.lit (.bool false)], args := [d] }
  | _ => none }
def SealGetsWrongFalsely : Prop := sealGetsRow.holds Try.pinned (OpenSpec.ofChange sealGetsWrong)

/-- 'vivariumlaw03.SealTears': WHATEVER THE INPUT: true; the input reads as it did. -/
def sealTearsSpec : ChangeSpec := { name := "sealTears", fn := fun _ => fun
  | [d1, d2, d3] => { results := [.lit (.bool true)], args := [d1, d2, d3] }
  | _ => none }
def sealTearsRow : OpenClaim := { program := "ytakchlaoimnnhaa", sum := "960389a3f1002273efd3852049817c149a12fb222d7354904ba9ddd55562bda6", func := "vivarium/vivariumlaw03.SealTears", spec := "sealTears", apart := false }
def SealTearsSaid : Prop := sealTearsRow.holds Try.pinned (OpenSpec.ofChange sealTearsSpec)

/-- ITS FALSE NEIGHBOUR: 'it returns false'. Refute it at one input. -/
def sealTearsWrong : ChangeSpec := { name := "sealTears", fn := fun _ => fun
  | [d1, d2, d3] => { results := [.lit (.bool false)], args := [d1, d2, d3] }
  | _ => none }
def SealTearsWrongFalsely : Prop := sealTearsRow.holds Try.pinned (OpenSpec.ofChange sealTearsWrong)

/-- 'vivariumlaw03.SealTorn': WHATEVER THE INPUT: true; the input reads as it did. -/
def sealTornSpec : ChangeSpec := { name := "sealTorn", fn := fun _ => fun
  | [d1, d2, d3] => { results := [.lit (.bool true)], args := [d1, d2, d3] }
  | _ => none }
def sealTornRow : OpenClaim := { program := "ytakchlaoimnnhaa", sum := "960389a3f1002273efd3852049817c149a12fb222d7354904ba9ddd55562bda6", func := "vivarium/vivariumlaw03.SealTorn", spec := "sealTorn", apart := false }
def SealTornSaid : Prop := sealTornRow.holds Try.pinned (OpenSpec.ofChange sealTornSpec)

/-- ITS FALSE NEIGHBOUR: 'it returns false'. Refute it at one input. -/
def sealTornWrong : ChangeSpec := { name := "sealTorn", fn := fun _ => fun
  | [d1, d2, d3] => { results := [.lit (.bool false)], args := [d1, d2, d3] }
  | _ => none }
def SealTornWrongFalsely : Prop := sealTornRow.holds Try.pinned (OpenSpec.ofChange sealTornWrong)

/-- 'vivariumlaw03.SealTurn': WHATEVER THE INPUT: true; the input reads as it did. -/
def sealTurnSpec : ChangeSpec := { name := "sealTurn", fn := fun _ => fun
  | [d1, d2, d3, d4, d5] => { results := [.lit (.bool true)], args := [d1, d2, d3, d4, d5] }
  | _ => none }
def sealTurnRow : OpenClaim := { program := "ytakchlaoimnnhaa", sum := "960389a3f1002273efd3852049817c149a12fb222d7354904ba9ddd55562bda6", func := "vivarium/vivariumlaw03.SealTurn", spec := "sealTurn", apart := false }
def SealTurnSaid : Prop := sealTurnRow.holds Try.pinned (OpenSpec.ofChange sealTurnSpec)

/-- ITS FALSE NEIGHBOUR: 'it returns false'. Refute it at one input. -/
def sealTurnWrong : ChangeSpec := { name := "sealTurn", fn := fun _ => fun
  | [d1, d2, d3, d4, d5] => { results := [.lit (.bool false)], args := [d1, d2, d3, d4, d5] }
  | _ => none }
def SealTurnWrongFalsely : Prop := sealTurnRow.holds Try.pinned (OpenSpec.ofChange sealTurnWrong)

/-- 'vivariumlaw07.CompGets': WHATEVER THE INPUT: true; the input reads as it did. -/
def compGetsSpec : ChangeSpec := { name := "compGets", fn := fun _ => fun
  | [d] => { results := [.lit (.bool true)], args := [d] }
  | _ => none }
def compGetsRow : OpenClaim := { program := "ytakchlaoimnnhaa", sum := "960389a3f1002273efd3852049817c149a12fb222d7354904ba9ddd55562bda6", func := "vivarium/vivariumlaw07.CompGets", spec := "compGets", apart := false }
def CompGetsSaid : Prop := compGetsRow.holds Try.pinned (OpenSpec.ofChange compGetsSpec)

/-- ITS FALSE NEIGHBOUR: 'it returns false'. Refute it at one input. -/
def compGetsWrong : ChangeSpec := { name := "compGets", fn := fun _ => fun
  | [d] => { results := [.lit (.bool false)], args := [d] }
  | _ => none }
def CompGetsWrongFalsely : Prop := compGetsRow.holds Try.pinned (OpenSpec.ofChange compGetsWrong)

/-- 'vivariumlaw07.CompPuts': WHATEVER THE INPUT: true; the input reads as it did. -/
def compPutsSpec : ChangeSpec := { name := "compPuts", fn := fun _ => fun
  | [d] => { results := [.lit (.bool true)], args := [d] }
  | _ => none }
def compPutsRow : OpenClaim := { program := "ytakchlaoimnnhaa", sum := "960389a3f1002273efd3852049817c149a12fb222d7354904ba9ddd55562bda6", func := "vivarium/vivariumlaw07.CompPuts", spec := "compPuts", apart := false }
def CompPutsSaid : Prop := compPutsRow.holds Try.pinned (OpenSpec.ofChange compPutsSpec)

/-- ITS FALSE NEIGHBOUR: 'it returns false'. Refute it at one input. -/
def compPutsWrong : ChangeSpec := { name := "compPuts", fn := fun _ => fun
  | [d] => { results := [.lit (.bool false)], args := [d] }
  | _ => none }
def CompPutsWrongFalsely : Prop := compPutsRow.holds Try.pinned (OpenSpec.ofChange compPutsWrong)

/-- 'vivariumlaw13.CmdPuts': WHATEVER THE INPUT: true; the input reads as it did. -/
def cmdPutsSpec : ChangeSpec := { name := "cmdPuts", fn := fun _ => fun
  | [d1, d2] => { results := [.lit (.bool true)], args := [d1, d2] }
  | _ => none }
def cmdPutsRow : OpenClaim := { program := "ytakchlaoimnnhaa", sum := "960389a3f1002273efd3852049817c149a12fb222d7354904ba9ddd55562bda6", func := "vivarium/vivariumlaw13.CmdPuts", spec := "cmdPuts", apart := false }
def CmdPutsSaid : Prop := cmdPutsRow.holds Try.pinned (OpenSpec.ofChange cmdPutsSpec)

/-- ITS FALSE NEIGHBOUR: 'it returns false'. Refute it at one input. -/
def cmdPutsWrong : ChangeSpec := { name := "cmdPuts", fn := fun _ => fun
  | [d1, d2] => { results := [.lit (.bool false)], args := [d1, d2] }
  | _ => none }
def CmdPutsWrongFalsely : Prop := cmdPutsRow.holds Try.pinned (OpenSpec.ofChange cmdPutsWrong)

/- THE SECOND FORM. 'bulk': how many values and letters a reading holds, each counted each time it is reached (what is shared counts as often as it is met; a slice's spare places count too). A statement '..UptoSaid' is the law's where the arguments, and the package variables that the reading takes, are together of bulk at most 1048576: NARROWER than '..Said'. Prove '..Said' where nothing that the law and all that it calls make is longer than what came in: it says more and counts as full. Else prove '..UptoSaid'. A law counts once. -/
mutual
def uptoBulk {H : Type} : DataW H → Nat
  | .lit (.string bytes) => bytes.length + 1
  | .lit _ => 1
  | .nil => 1
  | .ptr d => uptoBulk d + 1
  | .slice elems spare => uptoBulkAll elems + uptoBulkAll spare + 1
  | .agg parts => uptoBulkAll parts + 1
  | .iface _ d => uptoBulk d + 1
  | .map entries => uptoBulkEntries entries + 1
  | .held _ => 1
def uptoBulkAll {H : Type} : List (DataW H) → Nat
  | [] => 0
  | d :: r => uptoBulk d + uptoBulkAll r
def uptoBulkEntries {H : Type} : List (Lit × DataW H) → Nat
  | [] => 0
  | x :: r => uptoBulkEntry x + uptoBulkEntries r
def uptoBulkEntry {H : Type} : Lit × DataW H → Nat
  | (.string bytes, d) => bytes.length + uptoBulk d + 1
  | (_, d) => uptoBulk d + 1
 end
def uptoSmall : (H : Type) → List (DataW H) → Bool := fun _ ds => decide (uptoBulkAll ds ≤ 1048576)
def OpenSpec.upto (s : _root_.Go.ChangeSpec) : _root_.Go.OpenSpec := { _root_.Go.OpenSpec.ofChange s with cond := some uptoSmall }

/-- 'vivariumlaw17.PartSplits', WHERE WHAT IT READS IS OF BULK AT MOST 1048576: true; the input reads as it did. -/
def partSplitsUptoRow : OpenClaim := { program := "ytakchlaoimnnhaa", sum := "960389a3f1002273efd3852049817c149a12fb222d7354904ba9ddd55562bda6", func := "vivarium/vivariumlaw17.PartSplits", spec := "partSplits", unfollowed := true, recurses := true, apart := false, narrowed := true }
def PartSplitsUptoSaid : Prop := partSplitsUptoRow.holds Try.pinned (OpenSpec.upto partSplitsSpec)

/-- 'vivariumlaw17.PartJoins', WHERE WHAT IT READS IS OF BULK AT MOST 1048576: true; the input reads as it did. -/
def partJoinsUptoRow : OpenClaim := { program := "ytakchlaoimnnhaa", sum := "960389a3f1002273efd3852049817c149a12fb222d7354904ba9ddd55562bda6", func := "vivarium/vivariumlaw17.PartJoins", spec := "partJoins", unfollowed := true, recurses := true, apart := false, narrowed := true }
def PartJoinsUptoSaid : Prop := partJoinsUptoRow.holds Try.pinned (OpenSpec.upto partJoinsSpec)

/-- 'vivariumlaw17.PartMixed', WHERE WHAT IT READS IS OF BULK AT MOST 1048576: true; the input reads as it did. -/
def partMixedUptoRow : OpenClaim := { program := "ytakchlaoimnnhaa", sum := "960389a3f1002273efd3852049817c149a12fb222d7354904ba9ddd55562bda6", func := "vivarium/vivariumlaw17.PartMixed", spec := "partMixed", unfollowed := true, recurses := true, apart := false, narrowed := true }
def PartMixedUptoSaid : Prop := partMixedUptoRow.holds Try.pinned (OpenSpec.upto partMixedSpec)

/-- 'vivariumlaw13.CmdGets', WHERE WHAT IT READS IS OF BULK AT MOST 1048576: true; the input reads as it did. -/
def cmdGetsUptoRow : OpenClaim := { program := "ytakchlaoimnnhaa", sum := "960389a3f1002273efd3852049817c149a12fb222d7354904ba9ddd55562bda6", func := "vivarium/vivariumlaw13.CmdGets", spec := "cmdGets", apart := false, narrowed := true }
def CmdGetsUptoSaid : Prop := cmdGetsUptoRow.holds Try.pinned (OpenSpec.upto cmdGetsSpec)

/-- 'vivariumlaw03.SealPuts', WHERE WHAT IT READS IS OF BULK AT MOST 1048576: true; the input reads as it did. -/
def sealPutsUptoRow : OpenClaim := { program := "ytakchlaoimnnhaa", sum := "960389a3f1002273efd3852049817c149a12fb222d7354904ba9ddd55562bda6", func := "vivarium/vivariumlaw03.SealPuts", spec := "sealPuts", apart := false, narrowed := true }
def SealPutsUptoSaid : Prop := sealPutsUptoRow.holds Try.pinned (OpenSpec.upto sealPutsSpec)

/-- 'vivariumlaw03.SealGets', WHERE WHAT IT READS IS OF BULK AT MOST 1048576: true; the input reads as it did. -/
def sealGetsUptoRow : OpenClaim := { program := "ytakchlaoimnnhaa", sum := "960389a3f1002273efd3852049817c149a12fb222d7354904ba9ddd55562bda6", func := "vivarium/vivariumlaw03.SealGets", spec := "sealGets", apart := false, narrowed := true }
def SealGetsUptoSaid : Prop := sealGetsUptoRow.holds Try.pinned (OpenSpec.upto sealGetsSpec)

/-- 'vivariumlaw03.SealTears', WHERE WHAT IT READS IS OF BULK AT MOST 1048576: true; the input reads as it did. -/
def sealTearsUptoRow : OpenClaim := { program := "ytakchlaoimnnhaa", sum := "960389a3f1002273efd3852049817c149a12fb222d7354904ba9ddd55562bda6", func := "vivarium/vivariumlaw03.SealTears", spec := "sealTears", apart := false, narrowed := true }
def SealTearsUptoSaid : Prop := sealTearsUptoRow.holds Try.pinned (OpenSpec.upto sealTearsSpec)

/-- 'vivariumlaw03.SealTorn', WHERE WHAT IT READS IS OF BULK AT MOST 1048576: true; the input reads as it did. -/
def sealTornUptoRow : OpenClaim := { program := "ytakchlaoimnnhaa", sum := "960389a3f1002273efd3852049817c149a12fb222d7354904ba9ddd55562bda6", func := "vivarium/vivariumlaw03.SealTorn", spec := "sealTorn", apart := false, narrowed := true }
def SealTornUptoSaid : Prop := sealTornUptoRow.holds Try.pinned (OpenSpec.upto sealTornSpec)

/-- 'vivariumlaw03.SealTurn', WHERE WHAT IT READS IS OF BULK AT MOST 1048576: true; the input reads as it did. -/
def sealTurnUptoRow : OpenClaim := { program := "ytakchlaoimnnhaa", sum := "960389a3f1002273efd3852049817c149a12fb222d7354904ba9ddd55562bda6", func := "vivarium/vivariumlaw03.SealTurn", spec := "sealTurn", apart := false, narrowed := true }
def SealTurnUptoSaid : Prop := sealTurnUptoRow.holds Try.pinned (OpenSpec.upto sealTurnSpec)

/-- 'vivariumlaw07.CompGets', WHERE WHAT IT READS IS OF BULK AT MOST 1048576: true; the input reads as it did. -/
def compGetsUptoRow : OpenClaim := { program := "ytakchlaoimnnhaa", sum := "960389a3f1002273efd3852049817c149a12fb222d7354904ba9ddd55562bda6", func := "vivarium/vivariumlaw07.CompGets", spec := "compGets", apart := false, narrowed := true }
def CompGetsUptoSaid : Prop := compGetsUptoRow.holds Try.pinned (OpenSpec.upto compGetsSpec)

/-- 'vivariumlaw07.CompPuts', WHERE WHAT IT READS IS OF BULK AT MOST 1048576: true; the input reads as it did. -/
def compPutsUptoRow : OpenClaim := { program := "ytakchlaoimnnhaa", sum := "960389a3f1002273efd3852049817c149a12fb222d7354904ba9ddd55562bda6", func := "vivarium/vivariumlaw07.CompPuts", spec := "compPuts", apart := false, narrowed := true }
def CompPutsUptoSaid : Prop := compPutsUptoRow.holds Try.pinned (OpenSpec.upto compPutsSpec)

/-- 'vivariumlaw13.CmdPuts', WHERE WHAT IT READS IS OF BULK AT MOST 1048576: true; the input reads as it did. -/
def cmdPutsUptoRow : OpenClaim := { program := "ytakchlaoimnnhaa", sum := "960389a3f1002273efd3852049817c149a12fb222d7354904ba9ddd55562bda6", func := "vivarium/vivariumlaw13.CmdPuts", spec := "cmdPuts", apart := false, narrowed := true }
def CmdPutsUptoSaid : Prop := cmdPutsUptoRow.holds Try.pinned (OpenSpec.upto cmdPutsSpec)

end Rows
end Go.Proofs.Ytakchlaoimnnhaa
