/- Volumes of the exact laws: szVolume, eqVolume. -/
import Derived.Test.YtcppoadeelnphaaDoorAh
import Derived.Test.YtcppoadeelnphaaDoorDe
namespace Go.Proofs.YtcppoadeelnphaaDoor
open Go.RowKit
set_option maxRecDepth 100000
set_option linter.unusedVariables false
set_option linter.unusedSimpArgs false

theorem eqV_yes (w : World) (a b d : Int) (s1 s2 : Option Addr) (n1 n2 c1 c2 : Nat) (xs ys : List Nat) (h1 : SlF w (.slice s1 n1 c1) xs) (h2 : SlF w (.slice s2 n2 c2) ys) (he : xs.map fl = ys.map fl) :
    Calls Tryd.prog 18 #[.agg #[.int .i64 a, .int .i64 b, .int .i64 d, .slice s1 n1 c1], .agg #[.int .i64 a, .int .i64 b, .int .i64 d, .slice s2 n2 c2]] w fun e w' => e = .returned (.bool true) ∧ Below w.heap.size w w' := by
  have hb := below_two2 w (.cells #[.int .i64 a, .int .i64 b, .int .i64 d, .slice s1 n1 c1] 37) (.cells #[.int .i64 a, .int .i64 b, .int .i64 d, .slice s2 n2 c2] 37)
  have K := Lib.hid (eqF_yes _ _ _ xs ys (h1.below hb) (h2.below hb) he)
  go_enter Tryd.func18, Tryd.ntmps18
  go_wp2_with fail
  refine K.out.mono ?_
  rintro e w' ⟨rfl, q, rfl⟩
  go_wp2
  go_ret
  exact ⟨rfl, below_drewN hb _⟩

/-- A volume is made of an argument's. -/
def MakesV2 (w : World) (a b d : Int) (bs : List Nat) (e : Ending) (w' : World) : Prop :=
  ∃ g, e = .returned (.agg #[.int .i64 a, .int .i64 b, .int .i64 d, .slice (some ⟨g, 0, none⟩) bs.length bs.length]) ∧ OwnF w' w.heap.size (.slice (some ⟨g, 0, none⟩) bs.length bs.length) bs ∧ Below w.heap.size w w'

end Go.Proofs.YtcppoadeelnphaaDoor
