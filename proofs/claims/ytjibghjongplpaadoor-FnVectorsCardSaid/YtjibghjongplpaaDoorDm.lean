/- Vectors: equal ones, squares: the laws'. -/
import Derived.Test.YtjibghjongplpaaDoorDj
namespace Go.Proofs.YtjibghjongplpaaDoor
open Go.RowKit Ieee
set_option maxRecDepth 100000
set_option linter.unusedVariables false
set_option linter.unusedSimpArgs false

theorem vEqual_yes (w : World) {v u : Value} {p : Z3} (hv : IsV v p) (hu : IsV u p) :
    Calls Tryd.prog 19 #[v, u] w fun e w' => e = .returned (.bool true) ∧ Below w.heap.size w w' := by
  obtain ⟨a1, a2, a3, rfl, h1, h2, h3⟩ := hv
  obtain ⟨b1, b2, b3, rfl, k1, k2, k3⟩ := hu
  have e1 : eq32 a1 b1 = true := by rw [h1.eq k1]; simp
  have e2 : eq32 a2 b2 = true := by rw [h2.eq k2]; simp
  have e3 : eq32 a3 b3 = true := by rw [h3.eq k3]; simp
  have HB := Lib.hid (below_2v w (.cells (vecC a1 a2 a3) 39) (.cells (vecC b1 b2 b3) 39))
  clear h1 h2 h3 k1 k2 k3
  unfold vecV vecC at *
  go_enter Tryd.func19, Tryd.ntmps19
  go_wp2_with fail
  go_ret
  exact ⟨rfl, HB.out⟩
/-- The sum of the squares, and the product of a vector with itself: one word. -/
theorem square_inner {v : Value} {p : Z3} {m : Nat} (hv : IsV v p) (hp : p.le m) (h : 3 * (m * m) ≤ 16777216) : ∃ r, IsW r (p.dot p) ∧
    (∀ w : World, Calls Tryd.prog 21 #[v] w fun e w' => e = .returned (.float .f32 r) ∧ Below w.heap.size w w') ∧
    (∀ w : World, Calls Tryd.prog 20 #[v, v] w fun e w' => e = .returned (.float .f32 r) ∧ Below w.heap.size w w') := by
  obtain ⟨a1, a2, a3, rfl, h1, h2, h3⟩ := hv
  have l1 := abs_mul_le hp.1 hp.1
  have l2 := abs_mul_le hp.2.1 hp.2.1
  have l3 := abs_mul_le hp.2.2 hp.2.2
  generalize m * m = l at *
  obtain ⟨r1, e1, i1⟩ := h1.mul h1 (by omega)
  obtain ⟨r2, e2, i2⟩ := h2.mul h2 (by omega)
  obtain ⟨r3, e3, i3⟩ := h3.mul h3 (by omega)
  obtain ⟨s, e4, i4⟩ := i1.add i2 (by omega)
  obtain ⟨r, e5, i5⟩ := i4.add i3 (by omega)
  refine ⟨r, i5, fun w => ?_, fun w => inner_w w _ _ _ _ _ _ _ _ _ _ _ e1 e2 e3 e4 e5⟩
  have k1 := fun W => fres_some e1 W
  have k2 := fun W => fres_some e2 W
  have k3 := fun W => fres_some e3 W
  have k4 := fun W => fres_some e4 W
  have k5 := fun W => fres_some e5 W
  have d1 := fdr_some e1
  have d2 := fdr_some e2
  have d3 := fdr_some e3
  have d4 := fdr_some e4
  have d5 := fdr_some e5
  have HB := Lib.hid (below_1v w (.cells (vecC a1 a2 a3) 39))
  clear h1 h2 h3 e1 e2 e3 e4 e5 i1 i2 i3 i4 i5 l1 l2 l3 hp h
  unfold vecV vecC at *
  go_enter Tryd.func21, Tryd.ntmps21
  go_wp2_with fail
  go_ret
  exact ⟨rfl, HB.out⟩

end Go.Proofs.YtjibghjongplpaaDoor
