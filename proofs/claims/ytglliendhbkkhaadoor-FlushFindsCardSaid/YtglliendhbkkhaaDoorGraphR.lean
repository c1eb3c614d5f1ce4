/- Contracts of vivariumref10.Find, Node, Go. -/
import Derived.Test.YtglliendhbkkhaaDoorGraph1
import Derived.Test.YtglliendhbkkhaaDoorBits2
import Derived.Deep.RegionHeld3
namespace Go.Proofs.YtglliendhbkkhaaDoor
open Go.RowKit
set_option maxRecDepth 100000

end Go.Proofs.YtglliendhbkkhaaDoor
