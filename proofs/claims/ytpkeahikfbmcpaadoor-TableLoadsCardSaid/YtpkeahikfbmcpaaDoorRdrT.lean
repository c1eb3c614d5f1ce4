/- Contract of (*le.Reader).Text. -/
import Derived.Test.YtpkeahikfbmcpaaDoorRdr
import Derived.Test.YtpkeahikfbmcpaaDoorLe1
namespace Go.Proofs.YtpkeahikfbmcpaaDoor
open Go.RowKit
set_option maxRecDepth 100000
set_option linter.unusedVariables false

theorem wT2 : wideN 2 = 2 := rfl
end Go.Proofs.YtpkeahikfbmcpaaDoor
