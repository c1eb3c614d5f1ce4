/- Contracts of cmd.target, cmd.Put, vivariumlaw13.live. -/
import Derived.Test.YtglliendhbkkhaaDoorCmd1
import Derived.Test.YtglliendhbkkhaaDoorLe1
import Derived.Test.YtglliendhbkkhaaDoorMem
import Derived.Deep.RegionHeld3
import Derived.Test.YtglliendhbkkhaaDoorArgs
import Derived.OwnWalk
namespace Go.Proofs.YtglliendhbkkhaaDoor
open Go.RowKit
set_option maxRecDepth 100000
set_option linter.unusedVariables false

/-- What target adds. -/
def targetC (x : Cmd) : List UInt8 := if x.loc then leB (word 1) 1 ++ leB (word x.idx) 8 else leB (word 0) 1 ++ (leB (word x.idx) 8 ++ leB (word x.gen) 8)
/-- A call that leaves bytes of its own. -/
def BytesPost (w : World) (l : List UInt8) (e : Ending) (w' : World) : Prop := ∃ A n c, e = .returned (.slice A n c) ∧ By w' (fun b => w.heap.size ≤ b) (.slice A n c) l ∧ Below w.heap.size w w'
end Go.Proofs.YtglliendhbkkhaaDoor
namespace Go.Proofs.YtglliendhbkkhaaDoor
open Go.RowKit
set_option maxRecDepth 100000
set_option linter.unusedVariables false

end Go.Proofs.YtglliendhbkkhaaDoor
namespace Go.Proofs.YtglliendhbkkhaaDoor
open Go.RowKit
set_option maxRecDepth 100000
set_option linter.unusedVariables false

end Go.Proofs.YtglliendhbkkhaaDoor
namespace Go.Proofs.YtglliendhbkkhaaDoor
open Go.RowKit
set_option maxRecDepth 100000
set_option linter.unusedVariables false

end Go.Proofs.YtglliendhbkkhaaDoor
