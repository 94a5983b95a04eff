/- Vectors of words: sums, differences, products, the program's. -/
import Derived.Test.YtjibghjongplpaaDoorDf
import Derived.Test.YtjibghjongplpaaDoorMem
namespace Go.Proofs.YtjibghjongplpaaDoor
open Go.RowKit Ieee
set_option maxRecDepth 100000
set_option linter.unusedVariables false
set_option linter.unusedSimpArgs false

def vecC (x y z : Nat) : Array Value := #[.float .f32 x, .float .f32 y, .float .f32 z]
def vecV (x y z : Nat) : Value := .agg (vecC x y z)
theorem below_2v (w : World) (o p : Obj) : Below w.heap.size w ((w.alloc o).alloc p) := ((Below.refl _ _).alloc (Nat.le_refl _) o).alloc (by simp) p
theorem below_1v (w : World) (o : Obj) : Below w.heap.size w (w.alloc o) := (Below.refl _ _).alloc (Nat.le_refl _) o

theorem less_w (w : World) (a1 a2 a3 b1 b2 b3 r1 r2 r3 : Nat) (h1 : floatBits .sub .f32 a1 b1 = some r1) (h2 : floatBits .sub .f32 a2 b2 = some r2) (h3 : floatBits .sub .f32 a3 b3 = some r3) :
    Calls Tryd.prog 17 #[vecV a1 a2 a3, vecV b1 b2 b3] w fun e w' => e = .returned (vecV r1 r2 r3) ∧ Below w.heap.size w w' := by
  have k1 := fun W => fres_some h1 W
  have k2 := fun W => fres_some h2 W
  have k3 := fun W => fres_some h3 W
  have d1 := fdr_some h1
  have d2 := fdr_some h2
  have d3 := fdr_some h3
  have hb := below_2v w (.cells (vecC a1 a2 a3) 39) (.cells (vecC b1 b2 b3) 39)
  have HB := Lib.hid hb
  clear h1 h2 h3 hb
  unfold vecV vecC at *
  go_enter Tryd.func17, Tryd.ntmps17
  go_wp2_with fail
  refine bodyPost_ret (v := .agg #[.float .f32 r1, .float .f32 r2, .float .f32 r3]) (by simp [results, Tryd.results17, go_sem]) rfl ?_
  refine ⟨rfl, ?_⟩
  have hB := HB.out
  repeat' (first | (with_reducible assumption) | (with_reducible refine Below.setCell ?_ ?_ _) | (with_reducible refine Below.alloc ?_ ?_ _) | (with_reducible refine below_drewN ?_ _) | (simp; done) | (simp; omega))
theorem addV_w (w : World) (a1 a2 a3 b1 b2 b3 r1 r2 r3 : Nat) (h1 : floatBits .add .f32 a1 b1 = some r1) (h2 : floatBits .add .f32 a2 b2 = some r2) (h3 : floatBits .add .f32 a3 b3 = some r3) :
    Calls Tryd.prog 16 #[vecV a1 a2 a3, vecV b1 b2 b3] w fun e w' => e = .returned (vecV r1 r2 r3) ∧ Below w.heap.size w w' := by
  have k1 := fun W => fres_some h1 W
  have k2 := fun W => fres_some h2 W
  have k3 := fun W => fres_some h3 W
  have d1 := fdr_some h1
  have d2 := fdr_some h2
  have d3 := fdr_some h3
  have hb := below_2v w (.cells (vecC a1 a2 a3) 39) (.cells (vecC b1 b2 b3) 39)
  have HB := Lib.hid hb
  clear h1 h2 h3 hb
  unfold vecV vecC at *
  go_enter Tryd.func16, Tryd.ntmps16
  go_wp2_with fail
  refine bodyPost_ret (v := .agg #[.float .f32 r1, .float .f32 r2, .float .f32 r3]) (by simp [results, Tryd.results16, go_sem]) rfl ?_
  refine ⟨rfl, ?_⟩
  have hB := HB.out
  repeat' (first | (with_reducible assumption) | (with_reducible refine Below.setCell ?_ ?_ _) | (with_reducible refine Below.alloc ?_ ?_ _) | (with_reducible refine below_drewN ?_ _) | (simp; done) | (simp; omega))
theorem scale_w (w : World) (a1 a2 a3 b r1 r2 r3 : Nat) (h1 : floatBits .mul .f32 a1 b = some r1) (h2 : floatBits .mul .f32 a2 b = some r2) (h3 : floatBits .mul .f32 a3 b = some r3) :
    Calls Tryd.prog 18 #[vecV a1 a2 a3, .float .f32 b] w fun e w' => e = .returned (vecV r1 r2 r3) ∧ Below w.heap.size w w' := by
  have k1 := fun W => fres_some h1 W
  have k2 := fun W => fres_some h2 W
  have k3 := fun W => fres_some h3 W
  have d1 := fdr_some h1
  have d2 := fdr_some h2
  have d3 := fdr_some h3
  have hb := below_1v w (.cells (vecC a1 a2 a3) 39)
  have HB := Lib.hid hb
  clear h1 h2 h3 hb
  unfold vecV vecC at *
  go_enter Tryd.func18, Tryd.ntmps18
  go_wp2_with fail
  refine bodyPost_ret (v := .agg #[.float .f32 r1, .float .f32 r2, .float .f32 r3]) (by simp [results, Tryd.results18, go_sem]) rfl ?_
  refine ⟨rfl, ?_⟩
  have hB := HB.out
  repeat' (first | (with_reducible assumption) | (with_reducible refine Below.setCell ?_ ?_ _) | (with_reducible refine Below.alloc ?_ ?_ _) | (with_reducible refine below_drewN ?_ _) | (simp; done) | (simp; omega))
theorem inner_w (w : World) (a1 a2 a3 b1 b2 b3 p1 p2 p3 s r : Nat) (h1 : floatBits .mul .f32 a1 b1 = some p1) (h2 : floatBits .mul .f32 a2 b2 = some p2) (h3 : floatBits .mul .f32 a3 b3 = some p3) (h4 : floatBits .add .f32 p1 p2 = some s) (h5 : floatBits .add .f32 s p3 = some r) :
    Calls Tryd.prog 20 #[vecV a1 a2 a3, vecV b1 b2 b3] w fun e w' => e = .returned (.float .f32 r) ∧ Below w.heap.size w w' := by
  have k1 := fun W => fres_some h1 W
  have k2 := fun W => fres_some h2 W
  have k3 := fun W => fres_some h3 W
  have k4 := fun W => fres_some h4 W
  have k5 := fun W => fres_some h5 W
  have d1 := fdr_some h1
  have d2 := fdr_some h2
  have d3 := fdr_some h3
  have d4 := fdr_some h4
  have d5 := fdr_some h5
  have hb := below_2v w (.cells (vecC a1 a2 a3) 39) (.cells (vecC b1 b2 b3) 39)
  have HB := Lib.hid hb
  clear h1 h2 h3 h4 h5 hb
  unfold vecV vecC at *
  go_enter Tryd.func20, Tryd.ntmps20
  go_wp2_with fail
  go_ret
  exact ⟨rfl, HB.out⟩
theorem crossed_w (w : World) (a b c d p q r : Nat) (h1 : floatBits .mul .f32 a b = some p) (h2 : floatBits .mul .f32 c d = some q) (h3 : floatBits .sub .f32 p q = some r) :
    Calls Tryd.prog 41 #[.float .f32 a, .float .f32 b, .float .f32 c, .float .f32 d] w fun e w' => e = .returned (.float .f32 r) ∧ w = w' := by
  have k1 := fun W => fres_some h1 W
  have k2 := fun W => fres_some h2 W
  have k3 := fun W => fres_some h3 W
  have d1 := fdr_some h1
  have d2 := fdr_some h2
  have d3 := fdr_some h3
  clear h1 h2 h3
  go_enter Tryd.func41, Tryd.ntmps41
  go_wp2_with fail
  go_ret
  exact ⟨rfl, rfl⟩

/-- Three whole numbers. -/
structure Z3 where
  x : Int
  y : Int
  z : Int
/-- A vector of words of whole numbers. -/
def IsV (v : Value) (p : Z3) : Prop := ∃ a b c, v = vecV a b c ∧ IsW a p.x ∧ IsW b p.y ∧ IsW c p.z
def Z3.le (p : Z3) (m : Nat) : Prop := p.x.natAbs ≤ m ∧ p.y.natAbs ≤ m ∧ p.z.natAbs ≤ m
def Z3.sub (p q : Z3) : Z3 := ⟨p.x - q.x, p.y - q.y, p.z - q.z⟩
def Z3.add (p q : Z3) : Z3 := ⟨p.x + q.x, p.y + q.y, p.z + q.z⟩
def Z3.mul (p : Z3) (k : Int) : Z3 := ⟨p.x * k, p.y * k, p.z * k⟩
def Z3.dot (p q : Z3) : Int := p.x * q.x + p.y * q.y + p.z * q.z
def Z3.cross (p q : Z3) : Z3 := ⟨p.y * q.z - p.z * q.y, p.z * q.x - p.x * q.z, p.x * q.y - p.y * q.x⟩
theorem abs_mul_le {x y : Int} {m n : Nat} (hx : x.natAbs ≤ m) (hy : y.natAbs ≤ n) : (x * y).natAbs ≤ m * n := by rw [Int.natAbs_mul]; exact Nat.mul_le_mul hx hy

theorem lessV (w : World) {v u : Value} {p q : Z3} {m n : Nat} (hv : IsV v p) (hu : IsV u q) (hp : p.le m) (hq : q.le n) (h : m + n ≤ 16777216) :
    Calls Tryd.prog 17 #[v, u] w fun e w' => (∃ x, e = .returned x ∧ IsV x (p.sub q)) ∧ Below w.heap.size w w' := by
  obtain ⟨a, b, c, rfl, h1, h2, h3⟩ := hv
  obtain ⟨d, e, f, rfl, k1, k2, k3⟩ := hu
  obtain ⟨r1, e1, i1⟩ := h1.sub k1 (by have := hp.1; have := hq.1; omega)
  obtain ⟨r2, e2, i2⟩ := h2.sub k2 (by have := hp.2.1; have := hq.2.1; omega)
  obtain ⟨r3, e3, i3⟩ := h3.sub k3 (by have := hp.2.2; have := hq.2.2; omega)
  refine (less_w w _ _ _ _ _ _ _ _ _ e1 e2 e3).mono ?_
  rintro e w' ⟨rfl, hb⟩
  exact ⟨⟨_, rfl, _, _, _, rfl, i1, i2, i3⟩, hb⟩
theorem addV (w : World) {v u : Value} {p q : Z3} {m n : Nat} (hv : IsV v p) (hu : IsV u q) (hp : p.le m) (hq : q.le n) (h : m + n ≤ 16777216) :
    Calls Tryd.prog 16 #[v, u] w fun e w' => (∃ x, e = .returned x ∧ IsV x (p.add q)) ∧ Below w.heap.size w w' := by
  obtain ⟨a, b, c, rfl, h1, h2, h3⟩ := hv
  obtain ⟨d, e, f, rfl, k1, k2, k3⟩ := hu
  obtain ⟨r1, e1, i1⟩ := h1.add k1 (by have := hp.1; have := hq.1; omega)
  obtain ⟨r2, e2, i2⟩ := h2.add k2 (by have := hp.2.1; have := hq.2.1; omega)
  obtain ⟨r3, e3, i3⟩ := h3.add k3 (by have := hp.2.2; have := hq.2.2; omega)
  refine (addV_w w _ _ _ _ _ _ _ _ _ e1 e2 e3).mono ?_
  rintro e w' ⟨rfl, hb⟩
  exact ⟨⟨_, rfl, _, _, _, rfl, i1, i2, i3⟩, hb⟩
theorem scaleV (w : World) {v : Value} {p : Z3} {k : Nat} {z : Int} {m n : Nat} (hv : IsV v p) (hk : IsW k z) (hp : p.le m) (hz : z.natAbs ≤ n) (h : m * n ≤ 16777216) :
    Calls Tryd.prog 18 #[v, .float .f32 k] w fun e w' => (∃ x, e = .returned x ∧ IsV x (p.mul z)) ∧ Below w.heap.size w w' := by
  obtain ⟨a, b, c, rfl, h1, h2, h3⟩ := hv
  obtain ⟨r1, e1, i1⟩ := h1.mul hk (Nat.le_trans (abs_mul_le hp.1 hz) h)
  obtain ⟨r2, e2, i2⟩ := h2.mul hk (Nat.le_trans (abs_mul_le hp.2.1 hz) h)
  obtain ⟨r3, e3, i3⟩ := h3.mul hk (Nat.le_trans (abs_mul_le hp.2.2 hz) h)
  refine (scale_w w _ _ _ _ _ _ _ e1 e2 e3).mono ?_
  rintro e w' ⟨rfl, hb⟩
  exact ⟨⟨_, rfl, _, _, _, rfl, i1, i2, i3⟩, hb⟩
theorem innerV (w : World) {v u : Value} {p q : Z3} {m n : Nat} (hv : IsV v p) (hu : IsV u q) (hp : p.le m) (hq : q.le n) (h : 3 * (m * n) ≤ 16777216) :
    Calls Tryd.prog 20 #[v, u] w fun e w' => (∃ x, e = .returned (.float .f32 x) ∧ IsW x (p.dot q)) ∧ Below w.heap.size w w' := by
  obtain ⟨a, b, c, rfl, h1, h2, h3⟩ := hv
  obtain ⟨d, e, f, rfl, k1, k2, k3⟩ := hu
  have l1 := abs_mul_le hp.1 hq.1
  have l2 := abs_mul_le hp.2.1 hq.2.1
  have l3 := abs_mul_le hp.2.2 hq.2.2
  generalize m * n = l at *
  obtain ⟨r1, e1, i1⟩ := h1.mul k1 (by omega)
  obtain ⟨r2, e2, i2⟩ := h2.mul k2 (by omega)
  obtain ⟨r3, e3, i3⟩ := h3.mul k3 (by omega)
  obtain ⟨s, e4, i4⟩ := i1.add i2 (by omega)
  obtain ⟨r, e5, i5⟩ := i4.add i3 (by omega)
  refine (inner_w w _ _ _ _ _ _ _ _ _ _ _ e1 e2 e3 e4 e5).mono ?_
  rintro e w' ⟨rfl, hb⟩
  exact ⟨⟨_, rfl, i5⟩, hb⟩

end Go.Proofs.YtjibghjongplpaaDoor
