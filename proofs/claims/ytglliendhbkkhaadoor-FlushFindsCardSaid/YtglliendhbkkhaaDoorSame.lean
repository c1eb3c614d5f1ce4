/- Contract of vivariumref04.SameList. -/
import Derived.Test.YtglliendhbkkhaaDoorProg
import Derived.Test.YtglliendhbkkhaaDoorMem
import Derived.BigQuiet
import Derived.Deep.QuietTactic
import Derived.WalkKit
import Derived.Outline
import Derived.Lib.Hide
import Derived.WalkLawsBesides
import Derived.WalkSpells
namespace Go.Proofs.YtglliendhbkkhaaDoor
open Go.RowKit
set_option maxRecDepth 100000

end Go.Proofs.YtglliendhbkkhaaDoor
