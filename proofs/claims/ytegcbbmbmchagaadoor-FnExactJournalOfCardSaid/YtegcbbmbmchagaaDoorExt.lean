/- What the calls of the bodiless functions give in this program. -/
import Derived.Test.YtegcbbmbmchagaaDoorRows
import Derived.Test.YtegcbbmbmchagaaDoorFw
import Derived.Laws.Externs
import Derived.KernelRfl
namespace Go.Proofs.YtegcbbmbmchagaaDoor

end Go.Proofs.YtegcbbmbmchagaaDoor
