/- Volumes of the exact laws: szVolume, eqVolume. -/
import Derived.Test.YtabbjilgpfnacaaGreatAh
import Derived.Test.YtabbjilgpfnacaaGreatDe
namespace Go.Proofs.YtabbjilgpfnacaaGreat
open Go.RowKit
set_option maxRecDepth 100000
set_option linter.unusedVariables false
set_option linter.unusedSimpArgs false

/-- A volume is made of an argument's. -/
def MakesV2 (w : World) (a b d : Int) (bs : List Nat) (e : Ending) (w' : World) : Prop :=
  ∃ g, e = .returned (.agg #[.int .i64 a, .int .i64 b, .int .i64 d, .slice (some ⟨g, 0, none⟩) bs.length bs.length]) ∧ OwnF w' w.heap.size (.slice (some ⟨g, 0, none⟩) bs.length bs.length) bs ∧ Below w.heap.size w w'

end Go.Proofs.YtabbjilgpfnacaaGreat
