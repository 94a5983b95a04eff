/- Values that are counted; maps that the laws draw. -/
import Derived.Test.YtmpbnmmpniganaaMt
import Derived.Test.YtmpbnmmpniganaaOi
namespace Go.Proofs.Ytmpbnmmpniganaa
open Go.RowKit
set_option maxRecDepth 100000
set_option linter.unusedVariables false
set_option linter.unusedSimpArgs false

end Go.Proofs.Ytmpbnmmpniganaa
