/-
  DERIVED. GIVEN WITH THE SEED: THE CARDS: each row of YtdeifjnhbdkkgaaGreatDoorRows.lean that lists a variable, with what it lists TIED to the program's text (the seventh form; the later family's looks); each row that meets fmt, with fmt's text TOLD by the authors' own Lean function (tested against real Go, not proved from fmt's source: count such statements apart). THE CARD IS WHAT COUNTS. Prove the row's statement (the work); the ties are given (YtdeifjnhbdkkgaaGreatDoorTie.lean); close each card by the builder's one call (the guide's Derived/Test/ToyasCard.lean, 'card_holds'). Laid BY PROGRAM, IN A SANDBOX (cutbox-door.mjs). By AI agents, Wed Nov 11 2026. No macro, syntax, notation, axiom, sorry.
-/
import Derived.Test.YtdeifjnhbdkkgaaGreatDoorRows
import GoSem.ClaimSeven
namespace Go.Proofs.YtdeifjnhbdkkgaaGreatDoor
namespace Rows

/-- THE TIED CARD OF 'vivariumlaw22.FlowKeys'. -/
def flowKeysCard : Claim7 := { stood := { row := flowKeysRow, standIns := [], harness := (true, "4e7f01316bed76b56ba871d1b107dedde366049f055de8ec4d541d0b65a0ba9a"), looks := false }, kinds := [], alts := [], laidByText := true, laidKinds := [.data], laidTests := true, laidLooks := .later }
def FlowKeysCardSaid : Prop := Claim7.holds Tryz.pinned (.plain (OpenSpec.ofChange flowKeysSpec)) flowKeysCard

/-- THE SECOND FORM's CARD OF 'vivariumlaw22.FlowKeys'. -/
def flowKeysUptoCard : Claim7 := { stood := { row := flowKeysUptoRow, standIns := [], harness := (true, "4e7f01316bed76b56ba871d1b107dedde366049f055de8ec4d541d0b65a0ba9a"), looks := false }, kinds := [], alts := [], laidByText := true, laidKinds := [.data], laidTests := true, laidLooks := .later }
def FlowKeysUptoCardSaid : Prop := Claim7.holds Tryz.pinned (.plain (OpenSpec.upto flowKeysSpec)) flowKeysUptoCard
end Rows
end Go.Proofs.YtdeifjnhbdkkgaaGreatDoor
