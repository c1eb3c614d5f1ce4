/- Contracts of vivariumref10.Find, Node, Go. -/
import Derived.Test.YtglliendhbkkhaaGreatDoorGraph1
import Derived.Test.YtglliendhbkkhaaGreatDoorBits2
import Derived.Deep.RegionHeld3
namespace Go.Proofs.YtglliendhbkkhaaGreatDoor
open Go.RowKit
set_option maxRecDepth 100000

end Go.Proofs.YtglliendhbkkhaaGreatDoor
