/- The program's text of sizes: impl.ListText. -/
import Derived.Test.YtmcmcppleikajaaDoorAo
namespace Go.Proofs.YtmcmcppleikajaaDoor
open Go.RowKit
set_option maxRecDepth 100000
set_option linter.unusedVariables false
set_option linter.unusedSimpArgs false

theorem decs_len (ns : List Nat) : (decs ns).length = ns.length := by simp [decs]

end Go.Proofs.YtmcmcppleikajaaDoor
