/- Points in sixteenths, columns 0 to 12: reckoned. No program. -/
import Derived.Test.YtkhoifgljalfcaaLf
namespace Go.Proofs.Ytkhoifgljalfcaa
set_option maxRecDepth 100000

theorem cols_0 : colsC 0 13 = true := by decide +kernel

end Go.Proofs.Ytkhoifgljalfcaa
