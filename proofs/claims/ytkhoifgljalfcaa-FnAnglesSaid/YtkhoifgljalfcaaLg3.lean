/- Points in sixteenths, columns 39 to 51: reckoned. No program. -/
import Derived.Test.YtkhoifgljalfcaaLf
namespace Go.Proofs.Ytkhoifgljalfcaa
set_option maxRecDepth 100000

theorem cols_3 : colsC 39 13 = true := by decide +kernel

end Go.Proofs.Ytkhoifgljalfcaa
