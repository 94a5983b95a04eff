/- Points in sixteenths, columns 26 to 38: reckoned. No program. -/
import Derived.Test.YtkhoifgljalfcaaLf
namespace Go.Proofs.Ytkhoifgljalfcaa
set_option maxRecDepth 100000

theorem cols_2 : colsC 26 13 = true := by decide +kernel

end Go.Proofs.Ytkhoifgljalfcaa
