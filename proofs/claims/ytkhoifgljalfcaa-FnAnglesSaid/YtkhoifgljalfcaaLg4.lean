/- Points in sixteenths, columns 52 to 64: reckoned. No program. -/
import Derived.Test.YtkhoifgljalfcaaLf
namespace Go.Proofs.Ytkhoifgljalfcaa
set_option maxRecDepth 100000

theorem cols_4 : colsC 52 13 = true := by decide +kernel

end Go.Proofs.Ytkhoifgljalfcaa
