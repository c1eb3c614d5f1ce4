/- Contracts of vivariumref05.Has, List: what they return; old memory unchanged. -/
import Derived.Test.YtakchlaoimnnhaaProg
import Derived.Test.YtakchlaoimnnhaaBitsPl
import Derived.Test.YtakchlaoimnnhaaBase
import Derived.WalkKit
import Derived.Outline
import Derived.Lib.Hide
import Derived.WalkLawsBesides
import Derived.WalkSpells
namespace Go.Proofs.Ytakchlaoimnnhaa
open Go.RowKit
set_option maxRecDepth 100000

theorem info_int : (Try.prog.info? 3).map (fun i => (i.zero, i.size, i.bytes)) = some (some (.int .i64 0), 1, 8) := by kernel_rfl
end Go.Proofs.Ytakchlaoimnnhaa
