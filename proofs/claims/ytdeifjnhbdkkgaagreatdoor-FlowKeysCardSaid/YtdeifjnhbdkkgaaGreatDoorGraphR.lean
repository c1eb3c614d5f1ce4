/- Contracts of vivariumref10.Find, Node, Go. -/
import Derived.Test.YtdeifjnhbdkkgaaGreatDoorGraph1
import Derived.Test.YtdeifjnhbdkkgaaGreatDoorBits2
import Derived.Deep.RegionHeld3
namespace Go.Proofs.YtdeifjnhbdkkgaaGreatDoor
open Go.RowKit
set_option maxRecDepth 100000

end Go.Proofs.YtdeifjnhbdkkgaaGreatDoor
