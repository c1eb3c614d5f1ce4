/-
  No cell of these rows narrows 'for every input' (looked for: loops, veiled, ifaces, maps, wideKeys, modest, calm, conditions, laid).
  DERIVED. THE GIVEN ROWS OF THIS SEAT. 11 by the template 'for every input the law returns true; each argument reads behind the call as it read before'; 0 by the template 'total and deterministic' (their statements: YthkgchlndfcmpaaTotals.lean).
  GIVEN WITH THE SEED: the statements are not yours to turn. If you find one false, say at which input.
  Laid BY PROGRAM, IN A SANDBOX (cutbox-rows.mjs): the forced cells as the released guide's own fill.sh prints them over the translation 60d347cebf8d535b… (all of the seat's roots in one cut). By AI agents, Wed Nov 11 2026. No macro, syntax, notation, axiom, sorry.
-/
import Derived.Test.YthkgchlndfcmpaaChecked
import GoSem.Claim
import GoSem.ClaimJoined
import GoSem.ClaimMapViews
import Derived.JoinedTies
import Derived.KernelRfl
namespace Go.Proofs.Ythkgchlndfcmpaa
/- THE CELL 'sum', in the pinned program and in every row, IS THE sha256 OF THE DUMP (.gsa) THAT YthkgchlndfcmpaaProg.lean LOADS. Nothing in Lean hashes anything: it is a label: what it is worth is what the hold of that sum in a sandbox is worth. -/
noncomputable def Try.pinned : Pinned := { name := "ythkgchlndfcmpaa", sum := "60d347cebf8d535bfc4065a8028d2560b4295661bf0e5457a2a05bb2aa70f41f", checked := Try.checked }
namespace Rows
def none {H : Type} : Left H := { results := [], args := [] }

/-- 'vivariumlaw07.CompChecks': WHATEVER THE INPUT: true; the input reads as it did. -/
def compChecksSpec : ChangeSpec := { name := "compChecks", fn := fun _ => fun
  | [d1, d2, d3] => { results := [.lit (.bool true)], args := [d1, d2, d3] }
  | _ => none }
def compChecksRow : OpenClaim := { program := "ythkgchlndfcmpaa", sum := "60d347cebf8d535bfc4065a8028d2560b4295661bf0e5457a2a05bb2aa70f41f", func := "vivarium/vivariumlaw07.CompChecks", spec := "compChecks", unfollowed := true, recurses := true, apart := false }
def CompChecksSaid : Prop := compChecksRow.holds Try.pinned (OpenSpec.ofChange compChecksSpec)

/-- ITS FALSE NEIGHBOUR: 'it returns false'. Refute it at one input. -/
def compChecksWrong : ChangeSpec := { name := "compChecks", fn := fun _ => fun
  | [d1, d2, d3] => { results := [.lit (.bool false)], args := [d1, d2, d3] }
  | _ => none }
def CompChecksWrongFalsely : Prop := compChecksRow.holds Try.pinned (OpenSpec.ofChange compChecksWrong)

/-- 'vivariumlaw31.ScriptSames': WHATEVER THE INPUT: true; the input reads as it did. -/
def scriptSamesSpec : ChangeSpec := { name := "scriptSames", fn := fun _ => fun
  | [d1, d2] => { results := [.lit (.bool true)], args := [d1, d2] }
  | _ => none }
def scriptSamesRow : OpenClaim := { program := "ythkgchlndfcmpaa", sum := "60d347cebf8d535bfc4065a8028d2560b4295661bf0e5457a2a05bb2aa70f41f", func := "vivarium/vivariumlaw31.ScriptSames", spec := "scriptSames", apart := false }
def ScriptSamesSaid : Prop := scriptSamesRow.holds Try.pinned (OpenSpec.ofChange scriptSamesSpec)

/-- ITS FALSE NEIGHBOUR: 'it returns false'. Refute it at one input. -/
def scriptSamesWrong : ChangeSpec := { name := "scriptSames", fn := fun _ => fun
  | [d1, d2] => { results := [.lit (.bool false)], args := [d1, d2] }
  | _ => none }
def ScriptSamesWrongFalsely : Prop := scriptSamesRow.holds Try.pinned (OpenSpec.ofChange scriptSamesWrong)

/-- 'vivariumlaw38.ImageApplies': WHATEVER THE INPUT: true; the input reads as it did. -/
def imageAppliesSpec : ChangeSpec := { name := "imageApplies", fn := fun _ => fun
  | [d1, d2] => { results := [.lit (.bool true)], args := [d1, d2] }
  | _ => none }
def imageAppliesRow : OpenClaim := { program := "ythkgchlndfcmpaa", sum := "60d347cebf8d535bfc4065a8028d2560b4295661bf0e5457a2a05bb2aa70f41f", func := "vivarium/vivariumlaw38.ImageApplies", spec := "imageApplies", apart := false }
def ImageAppliesSaid : Prop := imageAppliesRow.holds Try.pinned (OpenSpec.ofChange imageAppliesSpec)

/-- ITS FALSE NEIGHBOUR: 'it returns false'. Refute it at one input. -/
def imageAppliesWrong : ChangeSpec := { name := "imageApplies", fn := fun _ => fun
  | [d1, d2] => { results := [.lit (.bool false)], args := [d1, d2] }
  | _ => none }
def ImageAppliesWrongFalsely : Prop := imageAppliesRow.holds Try.pinned (OpenSpec.ofChange imageAppliesWrong)

/-- 'vivariumlaw38.ImagePuts': WHATEVER THE INPUT: true; the input reads as it did. -/
def imagePutsSpec : ChangeSpec := { name := "imagePuts", fn := fun _ => fun
  | [d] => { results := [.lit (.bool true)], args := [d] }
  | _ => none }
def imagePutsRow : OpenClaim := { program := "ythkgchlndfcmpaa", sum := "60d347cebf8d535bfc4065a8028d2560b4295661bf0e5457a2a05bb2aa70f41f", func := "vivarium/vivariumlaw38.ImagePuts", spec := "imagePuts", apart := false }
def ImagePutsSaid : Prop := imagePutsRow.holds Try.pinned (OpenSpec.ofChange imagePutsSpec)

/-- ITS FALSE NEIGHBOUR: 'it returns false'. Refute it at one input. -/
def imagePutsWrong : ChangeSpec := { name := "imagePuts", fn := fun _ => fun
  | [d] => { results := [.lit (.bool false)], args := [d] }
  | _ => none }
def ImagePutsWrongFalsely : Prop := imagePutsRow.holds Try.pinned (OpenSpec.ofChange imagePutsWrong)

/-- 'vivariumlaw38.ImageGets': WHATEVER THE INPUT: true; the input reads as it did. -/
def imageGetsSpec : ChangeSpec := { name := "imageGets", fn := fun _ => fun
  | [d] => { results := [.lit (.bool true)], args := [d] }
  | _ => none }
def imageGetsRow : OpenClaim := { program := "ythkgchlndfcmpaa", sum := "60d347cebf8d535bfc4065a8028d2560b4295661bf0e5457a2a05bb2aa70f41f", func := "vivarium/vivariumlaw38.ImageGets", spec := "imageGets", apart := false }
def ImageGetsSaid : Prop := imageGetsRow.holds Try.pinned (OpenSpec.ofChange imageGetsSpec)

/-- ITS FALSE NEIGHBOUR: 'it returns false'. Refute it at one input. -/
def imageGetsWrong : ChangeSpec := { name := "imageGets", fn := fun _ => fun
  | [d] => { results := [.lit (.bool false)], args := [d] }
  | _ => none }
def ImageGetsWrongFalsely : Prop := imageGetsRow.holds Try.pinned (OpenSpec.ofChange imageGetsWrong)

/-- 'vivariumlaw38.ImagePatches': WHATEVER THE INPUT: true; the input reads as it did. -/
def imagePatchesSpec : ChangeSpec := { name := "imagePatches", fn := fun _ => fun
  | [d1, d2] => { results := [.lit (.bool true)], args := [d1, d2] }
  | _ => none }
def imagePatchesRow : OpenClaim := { program := "ythkgchlndfcmpaa", sum := "60d347cebf8d535bfc4065a8028d2560b4295661bf0e5457a2a05bb2aa70f41f", func := "vivarium/vivariumlaw38.ImagePatches", spec := "imagePatches", apart := false }
def ImagePatchesSaid : Prop := imagePatchesRow.holds Try.pinned (OpenSpec.ofChange imagePatchesSpec)

/-- ITS FALSE NEIGHBOUR: 'it returns false'. Refute it at one input. -/
def imagePatchesWrong : ChangeSpec := { name := "imagePatches", fn := fun _ => fun
  | [d1, d2] => { results := [.lit (.bool false)], args := [d1, d2] }
  | _ => none }
def ImagePatchesWrongFalsely : Prop := imagePatchesRow.holds Try.pinned (OpenSpec.ofChange imagePatchesWrong)

/-- 'vivariumlaw14.FrameGets': WHATEVER THE INPUT: true; the input reads as it did. -/
def frameGetsSpec : ChangeSpec := { name := "frameGets", fn := fun _ => fun
  | [d] => { results := [.lit (.bool true)], args := [d] }
  | _ => none }
def frameGetsRow : OpenClaim := { program := "ythkgchlndfcmpaa", sum := "60d347cebf8d535bfc4065a8028d2560b4295661bf0e5457a2a05bb2aa70f41f", func := "vivarium/vivariumlaw14.FrameGets", spec := "frameGets", unfollowed := true, recurses := true, apart := false }
def FrameGetsSaid : Prop := frameGetsRow.holds Try.pinned (OpenSpec.ofChange frameGetsSpec)

/-- ITS FALSE NEIGHBOUR: 'it returns false'. Refute it at one input. -/
def frameGetsWrong : ChangeSpec := { name := "frameGets", fn := fun _ => fun
  | [d] => { results := [.lit (.bool false)], args := [d] }
  | _ => none }
def FrameGetsWrongFalsely : Prop := frameGetsRow.holds Try.pinned (OpenSpec.ofChange frameGetsWrong)

/-- 'vivariumlaw14.FrameSums': WHATEVER THE INPUT: true; the input reads as it did. -/
def frameSumsSpec : ChangeSpec := { name := "frameSums", fn := fun _ => fun
  | [d] => { results := [.lit (.bool true)], args := [d] }
  | _ => none }
def frameSumsRow : OpenClaim := { program := "ythkgchlndfcmpaa", sum := "60d347cebf8d535bfc4065a8028d2560b4295661bf0e5457a2a05bb2aa70f41f", func := "vivarium/vivariumlaw14.FrameSums", spec := "frameSums", unfollowed := true, recurses := true, apart := false }
def FrameSumsSaid : Prop := frameSumsRow.holds Try.pinned (OpenSpec.ofChange frameSumsSpec)

/-- ITS FALSE NEIGHBOUR: 'it returns false'. Refute it at one input. -/
def frameSumsWrong : ChangeSpec := { name := "frameSums", fn := fun _ => fun
  | [d] => { results := [.lit (.bool false)], args := [d] }
  | _ => none }
def FrameSumsWrongFalsely : Prop := frameSumsRow.holds Try.pinned (OpenSpec.ofChange frameSumsWrong)

/-- 'vivariumlaw14.FramePuts': WHATEVER THE INPUT: true; the input reads as it did. -/
def framePutsSpec : ChangeSpec := { name := "framePuts", fn := fun _ => fun
  | [d] => { results := [.lit (.bool true)], args := [d] }
  | _ => none }
def framePutsRow : OpenClaim := { program := "ythkgchlndfcmpaa", sum := "60d347cebf8d535bfc4065a8028d2560b4295661bf0e5457a2a05bb2aa70f41f", func := "vivarium/vivariumlaw14.FramePuts", spec := "framePuts", unfollowed := true, recurses := true, apart := false }
def FramePutsSaid : Prop := framePutsRow.holds Try.pinned (OpenSpec.ofChange framePutsSpec)

/-- ITS FALSE NEIGHBOUR: 'it returns false'. Refute it at one input. -/
def framePutsWrong : ChangeSpec := { name := "framePuts", fn := fun _ => fun
  | [d] => { results := [.lit (.bool false)], args := [d] }
  | _ => none }
def FramePutsWrongFalsely : Prop := framePutsRow.holds Try.pinned (OpenSpec.ofChange framePutsWrong)

/-- 'vivariumlaw31.ScriptPuts': WHATEVER THE INPUT: true; the input reads as it did. -/
def scriptPutsSpec : ChangeSpec := { name := "scriptPuts", fn := fun _ => fun
  | [d] => { results := [.lit (.bool true)], args := [d] }
  | _ => none }
def scriptPutsRow : OpenClaim := { program := "ythkgchlndfcmpaa", sum := "60d347cebf8d535bfc4065a8028d2560b4295661bf0e5457a2a05bb2aa70f41f", func := "vivarium/vivariumlaw31.ScriptPuts", spec := "scriptPuts", apart := false }
def ScriptPutsSaid : Prop := scriptPutsRow.holds Try.pinned (OpenSpec.ofChange scriptPutsSpec)

/-- ITS FALSE NEIGHBOUR: 'it returns false'. Refute it at one input. -/
def scriptPutsWrong : ChangeSpec := { name := "scriptPuts", fn := fun _ => fun
  | [d] => { results := [.lit (.bool false)], args := [d] }
  | _ => none }
def ScriptPutsWrongFalsely : Prop := scriptPutsRow.holds Try.pinned (OpenSpec.ofChange scriptPutsWrong)

/-- 'vivariumlaw31.ScriptGets': WHATEVER THE INPUT: true; the input reads as it did. -/
def scriptGetsSpec : ChangeSpec := { name := "scriptGets", fn := fun _ => fun
  | [d] => { results := [.lit (.bool true)], args := [d] }
  | _ => none }
def scriptGetsRow : OpenClaim := { program := "ythkgchlndfcmpaa", sum := "60d347cebf8d535bfc4065a8028d2560b4295661bf0e5457a2a05bb2aa70f41f", func := "vivarium/vivariumlaw31.ScriptGets", spec := "scriptGets", apart := false }
def ScriptGetsSaid : Prop := scriptGetsRow.holds Try.pinned (OpenSpec.ofChange scriptGetsSpec)

/-- ITS FALSE NEIGHBOUR: 'it returns false'. Refute it at one input. -/
def scriptGetsWrong : ChangeSpec := { name := "scriptGets", fn := fun _ => fun
  | [d] => { results := [.lit (.bool false)], args := [d] }
  | _ => none }
def ScriptGetsWrongFalsely : Prop := scriptGetsRow.holds Try.pinned (OpenSpec.ofChange scriptGetsWrong)

/- THE SECOND FORM. 'bulk': how many values and letters a reading holds, each counted each time it is reached (what is shared counts as often as it is met; a slice's spare places count too). A statement '..UptoSaid' is the law's where the arguments, and the package variables that the reading takes, are together of bulk at most 1048576: NARROWER than '..Said'. Prove '..Said' where nothing that the law and all that it calls make is longer than what came in: it says more and counts as full. Else prove '..UptoSaid'. A law counts once. -/
mutual
def uptoBulk {H : Type} : DataW H → Nat
  | .lit (.string bytes) => bytes.length + 1
  | .lit _ => 1
  | .nil => 1
  | .ptr d => uptoBulk d + 1
  | .slice elems spare => uptoBulkAll elems + uptoBulkAll spare + 1
  | .agg parts => uptoBulkAll parts + 1
  | .iface _ d => uptoBulk d + 1
  | .map entries => uptoBulkEntries entries + 1
  | .held _ => 1
def uptoBulkAll {H : Type} : List (DataW H) → Nat
  | [] => 0
  | d :: r => uptoBulk d + uptoBulkAll r
def uptoBulkEntries {H : Type} : List (Lit × DataW H) → Nat
  | [] => 0
  | x :: r => uptoBulkEntry x + uptoBulkEntries r
def uptoBulkEntry {H : Type} : Lit × DataW H → Nat
  | (.string bytes, d) => bytes.length + uptoBulk d + 1
  | (_, d) => uptoBulk d + 1
 end
def uptoSmall : (H : Type) → List (DataW H) → Bool := fun _ ds => decide (uptoBulkAll ds ≤ 1048576)
def OpenSpec.upto (s : _root_.Go.ChangeSpec) : _root_.Go.OpenSpec := { _root_.Go.OpenSpec.ofChange s with cond := some uptoSmall }

/-- 'vivariumlaw07.CompChecks', WHERE WHAT IT READS IS OF BULK AT MOST 1048576: true; the input reads as it did. -/
def compChecksUptoRow : OpenClaim := { program := "ythkgchlndfcmpaa", sum := "60d347cebf8d535bfc4065a8028d2560b4295661bf0e5457a2a05bb2aa70f41f", func := "vivarium/vivariumlaw07.CompChecks", spec := "compChecks", unfollowed := true, recurses := true, apart := false, narrowed := true }
def CompChecksUptoSaid : Prop := compChecksUptoRow.holds Try.pinned (OpenSpec.upto compChecksSpec)

/-- 'vivariumlaw31.ScriptSames', WHERE WHAT IT READS IS OF BULK AT MOST 1048576: true; the input reads as it did. -/
def scriptSamesUptoRow : OpenClaim := { program := "ythkgchlndfcmpaa", sum := "60d347cebf8d535bfc4065a8028d2560b4295661bf0e5457a2a05bb2aa70f41f", func := "vivarium/vivariumlaw31.ScriptSames", spec := "scriptSames", apart := false, narrowed := true }
def ScriptSamesUptoSaid : Prop := scriptSamesUptoRow.holds Try.pinned (OpenSpec.upto scriptSamesSpec)

/-- 'vivariumlaw38.ImageApplies', WHERE WHAT IT READS IS OF BULK AT MOST 1048576: true; the input reads as it did. -/
def imageAppliesUptoRow : OpenClaim := { program := "ythkgchlndfcmpaa", sum := "60d347cebf8d535bfc4065a8028d2560b4295661bf0e5457a2a05bb2aa70f41f", func := "vivarium/vivariumlaw38.ImageApplies", spec := "imageApplies", apart := false, narrowed := true }
def ImageAppliesUptoSaid : Prop := imageAppliesUptoRow.holds Try.pinned (OpenSpec.upto imageAppliesSpec)

/-- 'vivariumlaw38.ImagePuts', WHERE WHAT IT READS IS OF BULK AT MOST 1048576: true; the input reads as it did. -/
def imagePutsUptoRow : OpenClaim := { program := "ythkgchlndfcmpaa", sum := "60d347cebf8d535bfc4065a8028d2560b4295661bf0e5457a2a05bb2aa70f41f", func := "vivarium/vivariumlaw38.ImagePuts", spec := "imagePuts", apart := false, narrowed := true }
def ImagePutsUptoSaid : Prop := imagePutsUptoRow.holds Try.pinned (OpenSpec.upto imagePutsSpec)

/-- 'vivariumlaw38.ImageGets', WHERE WHAT IT READS IS OF BULK AT MOST 1048576: true; the input reads as it did. -/
def imageGetsUptoRow : OpenClaim := { program := "ythkgchlndfcmpaa", sum := "60d347cebf8d535bfc4065a8028d2560b4295661bf0e5457a2a05bb2aa70f41f", func := "vivarium/vivariumlaw38.ImageGets", spec := "imageGets", apart := false, narrowed := true }
def ImageGetsUptoSaid : Prop := imageGetsUptoRow.holds Try.pinned (OpenSpec.upto imageGetsSpec)

/-- 'vivariumlaw38.ImagePatches', WHERE WHAT IT READS IS OF BULK AT MOST 1048576: true; the input reads as it did. -/
def imagePatchesUptoRow : OpenClaim := { program := "ythkgchlndfcmpaa", sum := "60d347cebf8d535bfc4065a8028d2560b4295661bf0e5457a2a05bb2aa70f41f", func := "vivarium/vivariumlaw38.ImagePatches", spec := "imagePatches", apart := false, narrowed := true }
def ImagePatchesUptoSaid : Prop := imagePatchesUptoRow.holds Try.pinned (OpenSpec.upto imagePatchesSpec)

/-- 'vivariumlaw14.FrameGets', WHERE WHAT IT READS IS OF BULK AT MOST 1048576: true; the input reads as it did. -/
def frameGetsUptoRow : OpenClaim := { program := "ythkgchlndfcmpaa", sum := "60d347cebf8d535bfc4065a8028d2560b4295661bf0e5457a2a05bb2aa70f41f", func := "vivarium/vivariumlaw14.FrameGets", spec := "frameGets", unfollowed := true, recurses := true, apart := false, narrowed := true }
def FrameGetsUptoSaid : Prop := frameGetsUptoRow.holds Try.pinned (OpenSpec.upto frameGetsSpec)

/-- 'vivariumlaw14.FrameSums', WHERE WHAT IT READS IS OF BULK AT MOST 1048576: true; the input reads as it did. -/
def frameSumsUptoRow : OpenClaim := { program := "ythkgchlndfcmpaa", sum := "60d347cebf8d535bfc4065a8028d2560b4295661bf0e5457a2a05bb2aa70f41f", func := "vivarium/vivariumlaw14.FrameSums", spec := "frameSums", unfollowed := true, recurses := true, apart := false, narrowed := true }
def FrameSumsUptoSaid : Prop := frameSumsUptoRow.holds Try.pinned (OpenSpec.upto frameSumsSpec)

/-- 'vivariumlaw14.FramePuts', WHERE WHAT IT READS IS OF BULK AT MOST 1048576: true; the input reads as it did. -/
def framePutsUptoRow : OpenClaim := { program := "ythkgchlndfcmpaa", sum := "60d347cebf8d535bfc4065a8028d2560b4295661bf0e5457a2a05bb2aa70f41f", func := "vivarium/vivariumlaw14.FramePuts", spec := "framePuts", unfollowed := true, recurses := true, apart := false, narrowed := true }
def FramePutsUptoSaid : Prop := framePutsUptoRow.holds Try.pinned (OpenSpec.upto framePutsSpec)

/-- 'vivariumlaw31.ScriptPuts', WHERE WHAT IT READS IS OF BULK AT MOST 1048576: true; the input reads as it did. -/
def scriptPutsUptoRow : OpenClaim := { program := "ythkgchlndfcmpaa", sum := "60d347cebf8d535bfc4065a8028d2560b4295661bf0e5457a2a05bb2aa70f41f", func := "vivarium/vivariumlaw31.ScriptPuts", spec := "scriptPuts", apart := false, narrowed := true }
def ScriptPutsUptoSaid : Prop := scriptPutsUptoRow.holds Try.pinned (OpenSpec.upto scriptPutsSpec)

/-- 'vivariumlaw31.ScriptGets', WHERE WHAT IT READS IS OF BULK AT MOST 1048576: true; the input reads as it did. -/
def scriptGetsUptoRow : OpenClaim := { program := "ythkgchlndfcmpaa", sum := "60d347cebf8d535bfc4065a8028d2560b4295661bf0e5457a2a05bb2aa70f41f", func := "vivarium/vivariumlaw31.ScriptGets", spec := "scriptGets", apart := false, narrowed := true }
def ScriptGetsUptoSaid : Prop := scriptGetsUptoRow.holds Try.pinned (OpenSpec.upto scriptGetsSpec)

end Rows
end Go.Proofs.Ythkgchlndfcmpaa
