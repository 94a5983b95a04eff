/- Vectors: equal ones, squares: the laws'. -/
import Derived.Test.YtkhoifgljalfcaaDj
namespace Go.Proofs.Ytkhoifgljalfcaa
open Go.RowKit Ieee
set_option maxRecDepth 100000
set_option linter.unusedVariables false
set_option linter.unusedSimpArgs false

end Go.Proofs.Ytkhoifgljalfcaa
