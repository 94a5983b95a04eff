/- Points in sixteenths, columns 13 to 25: reckoned. No program. -/
import Derived.Test.YtkhoifgljalfcaaLf
namespace Go.Proofs.Ytkhoifgljalfcaa
set_option maxRecDepth 100000

theorem cols_1 : colsC 13 13 = true := by decide +kernel

end Go.Proofs.Ytkhoifgljalfcaa
