/-
  DERIVED. GIVEN WITH THE SEED: THE CARDS: each row of YtglliendhbkkhaaDoorRows.lean that lists a variable, with what it lists TIED to the program's text (the seventh form; the later family's looks); each row that meets fmt, with fmt's text TOLD by the authors' own Lean function (tested against real Go, not proved from fmt's source: count such statements apart). THE CARD IS WHAT COUNTS. Prove the row's statement (the work); the ties are given (YtglliendhbkkhaaDoorTie.lean); close each card by the builder's one call (the guide's Derived/Test/ToyasCard.lean, 'card_holds'). Laid BY PROGRAM, IN A SANDBOX (cutbox-door.mjs). By AI agents, Wed Nov 11 2026. No macro, syntax, notation, axiom, sorry.
-/
import Derived.Test.YtglliendhbkkhaaDoorRows
import GoSem.ClaimSeven
namespace Go.Proofs.YtglliendhbkkhaaDoor
namespace Rows

/-- THE TIED CARD OF 'vivariumlaw15.FlushFinds'. -/
def flushFindsCard : Claim7 := { stood := { row := flushFindsRow, standIns := [], harness := (true, "1d833999c2b20f4c277221df1d8e283b6740f19c47eebfcdf089040c342f56ea"), looks := false }, kinds := [], alts := [], laidByText := true, laidKinds := [.data], laidTests := true, laidLooks := .later }
def FlushFindsCardSaid : Prop := Claim7.holds Tryd.pinned (.plain (OpenSpec.ofChange flushFindsSpec)) flushFindsCard

/-- THE SECOND FORM's CARD OF 'vivariumlaw15.FlushFinds'. -/
def flushFindsUptoCard : Claim7 := { stood := { row := flushFindsUptoRow, standIns := [], harness := (true, "1d833999c2b20f4c277221df1d8e283b6740f19c47eebfcdf089040c342f56ea"), looks := false }, kinds := [], alts := [], laidByText := true, laidKinds := [.data], laidTests := true, laidLooks := .later }
def FlushFindsUptoCardSaid : Prop := Claim7.holds Tryd.pinned (.plain (OpenSpec.upto flushFindsSpec)) flushFindsUptoCard
end Rows
end Go.Proofs.YtglliendhbkkhaaDoor
