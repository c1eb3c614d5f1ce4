/-
  DERIVED. GIVEN WITH THE SEED: THE CARDS: each row of YtglliendhbkkhaaGreatDoorRows.lean that lists a variable, with what it lists TIED to the program's text (the seventh form; the later family's looks); each row that meets fmt, with fmt's text TOLD by the authors' own Lean function (tested against real Go, not proved from fmt's source: count such statements apart). THE CARD IS WHAT COUNTS. Prove the row's statement (the work); the ties are given (YtglliendhbkkhaaGreatDoorTie.lean); close each card by the builder's one call (the guide's Derived/Test/ToyasCard.lean, 'card_holds'). Laid BY PROGRAM, IN A SANDBOX (cutbox-door.mjs). By AI agents, Wed Nov 11 2026. No macro, syntax, notation, axiom, sorry.
-/
import Derived.Test.YtglliendhbkkhaaGreatDoorRows
import GoSem.ClaimSeven
namespace Go.Proofs.YtglliendhbkkhaaGreatDoor
namespace Rows

/-- THE TIED CARD OF 'vivariumlaw15.FlushSkips'. -/
def flushSkipsCard : Claim7 := { stood := { row := flushSkipsRow, standIns := [], harness := (true, "fd29b21fed89810e9666a8ac6068849e31e59eaa124f7e22143c3bb858b41624"), looks := false }, kinds := [], alts := [], laidByText := true, laidKinds := [.data], laidTests := true, laidLooks := .later }
def FlushSkipsCardSaid : Prop := Claim7.holds Tryz.pinned (.plain (OpenSpec.ofChange flushSkipsSpec)) flushSkipsCard

/-- THE TIED CARD OF 'vivariumlaw11.EcsSteps'. -/
def ecsStepsCard : Claim7 := { stood := { row := ecsStepsRow, standIns := [], harness := (true, "fd29b21fed89810e9666a8ac6068849e31e59eaa124f7e22143c3bb858b41624"), looks := false }, kinds := [], alts := [], laidByText := true, laidKinds := [.data], laidTests := true, laidLooks := .later }
def EcsStepsCardSaid : Prop := Claim7.holds Tryz.pinned (.plain (OpenSpec.ofChange ecsStepsSpec)) ecsStepsCard

/-- THE TIED CARD OF 'vivariumlaw11.EcsNils'. -/
def ecsNilsCard : Claim7 := { stood := { row := ecsNilsRow, standIns := [], harness := (true, "fd29b21fed89810e9666a8ac6068849e31e59eaa124f7e22143c3bb858b41624"), looks := false }, kinds := [], alts := [], laidByText := true, laidKinds := [.data], laidTests := true, laidLooks := .later }
def EcsNilsCardSaid : Prop := Claim7.holds Tryz.pinned (.plain (OpenSpec.ofChange ecsNilsSpec)) ecsNilsCard

/-- THE TIED CARD OF 'vivariumlaw11.EcsLoads'. -/
def ecsLoadsCard : Claim7 := { stood := { row := ecsLoadsRow, standIns := [], harness := (true, "fd29b21fed89810e9666a8ac6068849e31e59eaa124f7e22143c3bb858b41624"), looks := false }, kinds := [], alts := [], laidByText := true, laidKinds := [.data], laidTests := true, laidLooks := .later }
def EcsLoadsCardSaid : Prop := Claim7.holds Tryz.pinned (.plain (OpenSpec.ofChange ecsLoadsSpec)) ecsLoadsCard

/-- THE TIED CARD OF 'vivariumlaw11.EcsRows'. -/
def ecsRowsCard : Claim7 := { stood := { row := ecsRowsRow, standIns := [], harness := (true, "fd29b21fed89810e9666a8ac6068849e31e59eaa124f7e22143c3bb858b41624"), looks := false }, kinds := [], alts := [], laidByText := true, laidKinds := [.data], laidTests := true, laidLooks := .later }
def EcsRowsCardSaid : Prop := Claim7.holds Tryz.pinned (.plain (OpenSpec.ofChange ecsRowsSpec)) ecsRowsCard

/-- THE SECOND FORM's CARD OF 'vivariumlaw15.FlushSkips'. -/
def flushSkipsUptoCard : Claim7 := { stood := { row := flushSkipsUptoRow, standIns := [], harness := (true, "fd29b21fed89810e9666a8ac6068849e31e59eaa124f7e22143c3bb858b41624"), looks := false }, kinds := [], alts := [], laidByText := true, laidKinds := [.data], laidTests := true, laidLooks := .later }
def FlushSkipsUptoCardSaid : Prop := Claim7.holds Tryz.pinned (.plain (OpenSpec.upto flushSkipsSpec)) flushSkipsUptoCard

/-- THE SECOND FORM's CARD OF 'vivariumlaw11.EcsSteps'. -/
def ecsStepsUptoCard : Claim7 := { stood := { row := ecsStepsUptoRow, standIns := [], harness := (true, "fd29b21fed89810e9666a8ac6068849e31e59eaa124f7e22143c3bb858b41624"), looks := false }, kinds := [], alts := [], laidByText := true, laidKinds := [.data], laidTests := true, laidLooks := .later }
def EcsStepsUptoCardSaid : Prop := Claim7.holds Tryz.pinned (.plain (OpenSpec.upto ecsStepsSpec)) ecsStepsUptoCard

/-- THE SECOND FORM's CARD OF 'vivariumlaw11.EcsNils'. -/
def ecsNilsUptoCard : Claim7 := { stood := { row := ecsNilsUptoRow, standIns := [], harness := (true, "fd29b21fed89810e9666a8ac6068849e31e59eaa124f7e22143c3bb858b41624"), looks := false }, kinds := [], alts := [], laidByText := true, laidKinds := [.data], laidTests := true, laidLooks := .later }
def EcsNilsUptoCardSaid : Prop := Claim7.holds Tryz.pinned (.plain (OpenSpec.upto ecsNilsSpec)) ecsNilsUptoCard

/-- THE SECOND FORM's CARD OF 'vivariumlaw11.EcsLoads'. -/
def ecsLoadsUptoCard : Claim7 := { stood := { row := ecsLoadsUptoRow, standIns := [], harness := (true, "fd29b21fed89810e9666a8ac6068849e31e59eaa124f7e22143c3bb858b41624"), looks := false }, kinds := [], alts := [], laidByText := true, laidKinds := [.data], laidTests := true, laidLooks := .later }
def EcsLoadsUptoCardSaid : Prop := Claim7.holds Tryz.pinned (.plain (OpenSpec.upto ecsLoadsSpec)) ecsLoadsUptoCard

/-- THE SECOND FORM's CARD OF 'vivariumlaw11.EcsRows'. -/
def ecsRowsUptoCard : Claim7 := { stood := { row := ecsRowsUptoRow, standIns := [], harness := (true, "fd29b21fed89810e9666a8ac6068849e31e59eaa124f7e22143c3bb858b41624"), looks := false }, kinds := [], alts := [], laidByText := true, laidKinds := [.data], laidTests := true, laidLooks := .later }
def EcsRowsUptoCardSaid : Prop := Claim7.holds Tryz.pinned (.plain (OpenSpec.upto ecsRowsSpec)) ecsRowsUptoCard
end Rows
end Go.Proofs.YtglliendhbkkhaaGreatDoor
