/- The program's texts of numbers: NumbersText, joined. -/
import Derived.Test.YtmcmcppleikajaaDoorTy
import Derived.Test.YtmcmcppleikajaaDoorSj
import Derived.Test.YtmcmcppleikajaaDoorSs
namespace Go.Proofs.YtmcmcppleikajaaDoor
open Go.RowKit
set_option maxRecDepth 100000
set_option linter.unusedVariables false
set_option linter.unusedSimpArgs false

/-- The digits of a list's words, one by one. -/
def hexs (bs : List Nat) : List (List UInt8) := bs.map fun b => hexL (fl b)
theorem hexs_len (bs : List Nat) : (hexs bs).length = bs.length := by simp [hexs]

end Go.Proofs.YtmcmcppleikajaaDoor
