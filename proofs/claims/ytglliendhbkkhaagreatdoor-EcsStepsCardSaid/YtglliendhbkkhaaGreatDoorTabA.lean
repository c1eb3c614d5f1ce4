/- Contract of column.Load. -/
import Derived.Test.YtglliendhbkkhaaGreatDoorTab7
namespace Go.Proofs.YtglliendhbkkhaaGreatDoor
open Go.RowKit
set_option maxRecDepth 100000
set_option linter.unusedVariables false
set_option linter.unusedSimpArgs false

section
variable {w : World} {tp mb : Nat} {vs : Value} {cp : Nat → Nat} {FC : Nat → Nat → Prop} {sig : Nat} {sz : Nat → Nat} {ids : List IdZ} {col : Nat → List (List UInt8)}
end
end Go.Proofs.YtglliendhbkkhaaGreatDoor
namespace Go.Proofs.YtglliendhbkkhaaGreatDoor
open Go.RowKit
set_option maxRecDepth 100000
set_option linter.unusedVariables false
set_option linter.unusedSimpArgs false

end Go.Proofs.YtglliendhbkkhaaGreatDoor
namespace Go.Proofs.YtglliendhbkkhaaGreatDoor
open Go.RowKit
set_option maxRecDepth 100000
set_option linter.unusedVariables false
set_option linter.unusedSimpArgs false

end Go.Proofs.YtglliendhbkkhaaGreatDoor
