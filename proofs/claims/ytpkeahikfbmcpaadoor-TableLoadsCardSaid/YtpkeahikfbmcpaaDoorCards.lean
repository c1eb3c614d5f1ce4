/-
  DERIVED. GIVEN WITH THE SEED: THE CARDS: each row of YtpkeahikfbmcpaaDoorRows.lean that lists a variable, with what it lists TIED to the program's text (the seventh form; the later family's looks); each row that meets fmt, with fmt's text TOLD by the authors' own Lean function (tested against real Go, not proved from fmt's source: count such statements apart). THE CARD IS WHAT COUNTS. Prove the row's statement (the work); the ties are given (YtpkeahikfbmcpaaDoorTie.lean); close each card by the builder's one call (the guide's Derived/Test/ToyasCard.lean, 'card_holds'). Laid BY PROGRAM, IN A SANDBOX (cutbox-door.mjs). By AI agents, Wed Nov 11 2026. No macro, syntax, notation, axiom, sorry.
-/
import Derived.Test.YtpkeahikfbmcpaaDoorRows
import GoSem.ClaimSeven
namespace Go.Proofs.YtpkeahikfbmcpaaDoor
namespace Rows

/-- THE TIED CARD OF 'vivariumlaw09.TableSteps'. -/
def tableStepsCard : Claim7 := { stood := { row := tableStepsRow, standIns := [], harness := (true, "ab698cf982473ec0751f179a7fb921e8f211f79dd0950d3c4f6d5ba3e74d8bd0"), looks := false }, kinds := [], alts := [], laidByText := true, laidKinds := [.data], laidTests := true, laidLooks := .later }
def TableStepsCardSaid : Prop := Claim7.holds Tryd.pinned (.plain (OpenSpec.ofChange tableStepsSpec)) tableStepsCard

/-- THE TIED CARD OF 'vivariumlaw09.TableLoads'. -/
def tableLoadsCard : Claim7 := { stood := { row := tableLoadsRow, standIns := [], harness := (true, "ab698cf982473ec0751f179a7fb921e8f211f79dd0950d3c4f6d5ba3e74d8bd0"), looks := false }, kinds := [], alts := [], laidByText := true, laidKinds := [.data], laidTests := true, laidLooks := .later }
def TableLoadsCardSaid : Prop := Claim7.holds Tryd.pinned (.plain (OpenSpec.ofChange tableLoadsSpec)) tableLoadsCard

/-- THE TIED CARD OF 'vivariumlaw09.TableBack'. -/
def tableBackCard : Claim7 := { stood := { row := tableBackRow, standIns := [], harness := (true, "ab698cf982473ec0751f179a7fb921e8f211f79dd0950d3c4f6d5ba3e74d8bd0"), looks := false }, kinds := [], alts := [], laidByText := true, laidKinds := [.data], laidTests := true, laidLooks := .later }
def TableBackCardSaid : Prop := Claim7.holds Tryd.pinned (.plain (OpenSpec.ofChange tableBackSpec)) tableBackCard

/-- THE SECOND FORM's CARD OF 'vivariumlaw09.TableSteps'. -/
def tableStepsUptoCard : Claim7 := { stood := { row := tableStepsUptoRow, standIns := [], harness := (true, "ab698cf982473ec0751f179a7fb921e8f211f79dd0950d3c4f6d5ba3e74d8bd0"), looks := false }, kinds := [], alts := [], laidByText := true, laidKinds := [.data], laidTests := true, laidLooks := .later }
def TableStepsUptoCardSaid : Prop := Claim7.holds Tryd.pinned (.plain (OpenSpec.upto tableStepsSpec)) tableStepsUptoCard

/-- THE SECOND FORM's CARD OF 'vivariumlaw09.TableLoads'. -/
def tableLoadsUptoCard : Claim7 := { stood := { row := tableLoadsUptoRow, standIns := [], harness := (true, "ab698cf982473ec0751f179a7fb921e8f211f79dd0950d3c4f6d5ba3e74d8bd0"), looks := false }, kinds := [], alts := [], laidByText := true, laidKinds := [.data], laidTests := true, laidLooks := .later }
def TableLoadsUptoCardSaid : Prop := Claim7.holds Tryd.pinned (.plain (OpenSpec.upto tableLoadsSpec)) tableLoadsUptoCard

/-- THE SECOND FORM's CARD OF 'vivariumlaw09.TableBack'. -/
def tableBackUptoCard : Claim7 := { stood := { row := tableBackUptoRow, standIns := [], harness := (true, "ab698cf982473ec0751f179a7fb921e8f211f79dd0950d3c4f6d5ba3e74d8bd0"), looks := false }, kinds := [], alts := [], laidByText := true, laidKinds := [.data], laidTests := true, laidLooks := .later }
def TableBackUptoCardSaid : Prop := Claim7.holds Tryd.pinned (.plain (OpenSpec.upto tableBackSpec)) tableBackUptoCard
end Rows
end Go.Proofs.YtpkeahikfbmcpaaDoor
