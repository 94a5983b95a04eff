/- Vectors: the cross product, and what lies between, the program's. -/
import Derived.Test.YtkhoifgljalfcaaDh
import Derived.Test.YtkhoifgljalfcaaAh
namespace Go.Proofs.Ytkhoifgljalfcaa
open Go.RowKit Ieee
set_option maxRecDepth 100000
set_option linter.unusedVariables false
set_option linter.unusedSimpArgs false

theorem three_cells {W V : World} {b : Nat} {x y z : Value} {T : TypeId} (h : BoxN W b #[x, y, z] T) (hb : Below W.heap.size W V) : V.cell? ⟨b, 0, none⟩ = some x ∧ V.cell? ⟨b, 1, none⟩ = some y ∧ V.cell? ⟨b, 2, none⟩ = some z :=
  ⟨(h.below hb).cell 0, (h.below hb).cell 1, (h.below hb).cell 2⟩

theorem put3N {W : World} {b c : Nat} {cs : Array Value} {T : TypeId} (h : BoxN W b cs T) (hc : b ≠ c) (x y z : Value) : BoxN (((W.setCell ⟨c, 0, none⟩ x).setCell ⟨c, 1, none⟩ y).setCell ⟨c, 2, none⟩ z) b cs T := by
  have hn : some b ≠ some c := by simpa using hc
  exact ((h.grown (grown_setCell _ _ _) hn).grown (grown_setCell _ _ _) hn).grown (grown_setCell _ _ _) hn

theorem below_set3v {B b : Nat} {w W : World} (h : Below B w W) (hb : B ≤ b) (x y z : Value) : Below B w (((W.setCell ⟨b, 0, none⟩ x).setCell ⟨b, 1, none⟩ y).setCell ⟨b, 2, none⟩ z) :=
  ((h.setCell hb _).setCell hb _).setCell hb _

end Go.Proofs.Ytkhoifgljalfcaa
