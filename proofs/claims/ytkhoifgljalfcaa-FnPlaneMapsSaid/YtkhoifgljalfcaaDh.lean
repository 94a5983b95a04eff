/- Vectors of words: sums, differences, products, the program's. -/
import Derived.Test.YtkhoifgljalfcaaDf
import Derived.Test.YtkhoifgljalfcaaMem
namespace Go.Proofs.Ytkhoifgljalfcaa
open Go.RowKit Ieee
set_option maxRecDepth 100000
set_option linter.unusedVariables false
set_option linter.unusedSimpArgs false

def vecC (x y z : Nat) : Array Value := #[.float .f32 x, .float .f32 y, .float .f32 z]
def vecV (x y z : Nat) : Value := .agg (vecC x y z)

theorem below_2v (w : World) (o p : Obj) : Below w.heap.size w ((w.alloc o).alloc p) := ((Below.refl _ _).alloc (Nat.le_refl _) o).alloc (by simp) p

theorem below_1v (w : World) (o : Obj) : Below w.heap.size w (w.alloc o) := (Below.refl _ _).alloc (Nat.le_refl _) o

theorem inner_w (w : World) (a1 a2 a3 b1 b2 b3 p1 p2 p3 s r : Nat) (h1 : floatBits .mul .f32 a1 b1 = some p1) (h2 : floatBits .mul .f32 a2 b2 = some p2) (h3 : floatBits .mul .f32 a3 b3 = some p3) (h4 : floatBits .add .f32 p1 p2 = some s) (h5 : floatBits .add .f32 s p3 = some r) :
    Calls Try.prog 50 #[vecV a1 a2 a3, vecV b1 b2 b3] w fun e w' => e = .returned (.float .f32 r) ∧ Below w.heap.size w w' := by
  have k1 := fun W => fres_some h1 W
  have k2 := fun W => fres_some h2 W
  have k3 := fun W => fres_some h3 W
  have k4 := fun W => fres_some h4 W
  have k5 := fun W => fres_some h5 W
  have d1 := fdr_some h1
  have d2 := fdr_some h2
  have d3 := fdr_some h3
  have d4 := fdr_some h4
  have d5 := fdr_some h5
  have hb := below_2v w (.cells (vecC a1 a2 a3) 29) (.cells (vecC b1 b2 b3) 29)
  have HB := Lib.hid hb
  clear h1 h2 h3 h4 h5 hb
  unfold vecV vecC at *
  go_enter Try.func50, Try.ntmps50
  go_wp2_with fail
  go_ret
  exact ⟨rfl, HB.out⟩

/-- Three whole numbers. -/
structure Z3 where
  x : Int
  y : Int
  z : Int
/-- A vector of words of whole numbers. -/
def IsV (v : Value) (p : Z3) : Prop := ∃ a b c, v = vecV a b c ∧ IsW a p.x ∧ IsW b p.y ∧ IsW c p.z
def Z3.le (p : Z3) (m : Nat) : Prop := p.x.natAbs ≤ m ∧ p.y.natAbs ≤ m ∧ p.z.natAbs ≤ m
def Z3.sub (p q : Z3) : Z3 := ⟨p.x - q.x, p.y - q.y, p.z - q.z⟩
def Z3.add (p q : Z3) : Z3 := ⟨p.x + q.x, p.y + q.y, p.z + q.z⟩
def Z3.mul (p : Z3) (k : Int) : Z3 := ⟨p.x * k, p.y * k, p.z * k⟩
def Z3.dot (p q : Z3) : Int := p.x * q.x + p.y * q.y + p.z * q.z
def Z3.cross (p q : Z3) : Z3 := ⟨p.y * q.z - p.z * q.y, p.z * q.x - p.x * q.z, p.x * q.y - p.y * q.x⟩

theorem abs_mul_le {x y : Int} {m n : Nat} (hx : x.natAbs ≤ m) (hy : y.natAbs ≤ n) : (x * y).natAbs ≤ m * n := by rw [Int.natAbs_mul]; exact Nat.mul_le_mul hx hy

theorem innerV (w : World) {v u : Value} {p q : Z3} {m n : Nat} (hv : IsV v p) (hu : IsV u q) (hp : p.le m) (hq : q.le n) (h : 3 * (m * n) ≤ 16777216) :
    Calls Try.prog 50 #[v, u] w fun e w' => (∃ x, e = .returned (.float .f32 x) ∧ IsW x (p.dot q)) ∧ Below w.heap.size w w' := by
  obtain ⟨a, b, c, rfl, h1, h2, h3⟩ := hv
  obtain ⟨d, e, f, rfl, k1, k2, k3⟩ := hu
  have l1 := abs_mul_le hp.1 hq.1
  have l2 := abs_mul_le hp.2.1 hq.2.1
  have l3 := abs_mul_le hp.2.2 hq.2.2
  generalize m * n = l at *
  obtain ⟨r1, e1, i1⟩ := h1.mul k1 (by omega)
  obtain ⟨r2, e2, i2⟩ := h2.mul k2 (by omega)
  obtain ⟨r3, e3, i3⟩ := h3.mul k3 (by omega)
  obtain ⟨s, e4, i4⟩ := i1.add i2 (by omega)
  obtain ⟨r, e5, i5⟩ := i4.add i3 (by omega)
  refine (inner_w w _ _ _ _ _ _ _ _ _ _ _ e1 e2 e3 e4 e5).mono ?_
  rintro e w' ⟨rfl, hb⟩
  exact ⟨⟨_, rfl, i5⟩, hb⟩

end Go.Proofs.Ytkhoifgljalfcaa
