/- Points of a plane: how far their heights are from their depths, in rational numbers. No program. -/
import Derived.Test.YtkhoifgljalfcaaQa
namespace Go.Proofs.Ytkhoifgljalfcaa
open Ieee
set_option maxRecDepth 100000
set_option linter.unusedVariables false
set_option linter.unusedSimpArgs false

theorem bmul {a b A B : Rat} (h1 : -a ≤ A) (h2 : A ≤ a) (h3 : -b ≤ B) (h4 : B ≤ b) : -(a * b) ≤ A * B ∧ A * B ≤ a * b := by
  have k1 := Rat.mul_nonneg (show 0 ≤ a - A by grind) (show 0 ≤ b + B by grind)
  have k2 := Rat.mul_nonneg (show 0 ≤ a + A by grind) (show 0 ≤ b - B by grind)
  have k3 := Rat.mul_nonneg (show 0 ≤ a - A by grind) (show 0 ≤ b - B by grind)
  have k4 := Rat.mul_nonneg (show 0 ≤ a + A by grind) (show 0 ≤ b + B by grind)
  constructor <;> grind
theorem eps_pos : 0 < eps := by have := eps_eq; grind
theorem eps_small : 1000 * eps ≤ 1 := by have := eps_eq; grind
/-- x lies within m of v. -/
def Wi (x v m : Rat) : Prop := v - m ≤ x ∧ x ≤ v + m

theorem share_near {z u u0 X A p1 F dx : Rat} (hz : 0 ≤ z) (hF : 0 < F) (hA1 : -(1/8) ≤ A) (hA2 : A ≤ 1/8) (h0 : u0 * F = dx) (hu : Wi (u * F) dx (8 * F * eps)) (hX : Wi X (z * u) (9 * z * eps)) (hp : Wi p1 (A * X) (2 * z * eps)) : Wi p1 (z * (A * u0)) (5 * (z * eps)) := by
  have he := eps_pos
  have k1 : u - u0 ≤ 8 * eps := Rat.le_of_mul_le_mul_right (c := F) (by have := hu.2; grind) hF
  have k1' : -(8 * eps) ≤ u - u0 := Rat.le_of_mul_le_mul_right (c := F) (by have := hu.1; grind) hF
  have k2 := Rat.mul_le_mul_of_nonneg_right k1 hz
  have k2' := Rat.mul_le_mul_of_nonneg_right k1' hz
  have k3 := bmul (a := 1/8) (b := 8 * eps * z) hA1 hA2 (B := (u - u0) * z) (by grind) k2
  have k4 := bmul (a := 1/8) (b := 9 * z * eps) hA1 hA2 (B := X - z * u) (by have := hX.1; grind) (by have := hX.2; grind)
  have hze : 0 ≤ z * eps := Rat.mul_nonneg hz (Rat.le_of_lt he)
  have a1 := hp.1
  have a2 := hp.2
  obtain ⟨k31, k32⟩ := k3
  obtain ⟨k41, k42⟩ := k4
  clear k1 k1' k2 k2' hu hX hp
  constructor <;> grind

theorem depth_near {z d C lb less Bs FB F R : Rat} (hz : 0 < z) (hF : 0 < F) (hB : 0 < Bs) (hC : 0 < C) (hR3 : R ≤ 3) (e1 : lb = less * Bs) (e2 : FB = F * Bs) (e3 : less = R * F) (hR0 : 0 < R) (hd : Wi (d * C) lb (lb * eps)) (hzd : Wi (z * d) FB (FB * eps)) : Wi C (z * R) (7 * (z * eps)) ∧ C ≤ 4 * z := by
  have he := eps_pos
  have hs := eps_small
  have a1 := Rat.mul_le_mul_of_nonneg_right hd.1 (Rat.le_of_lt hz)
  have a2 := Rat.mul_le_mul_of_nonneg_right hd.2 (Rat.le_of_lt hz)
  have b1 := Rat.mul_le_mul_of_nonneg_right hzd.1 (Rat.le_of_lt hC)
  have b2 := Rat.mul_le_mul_of_nonneg_right hzd.2 (Rat.le_of_lt hC)
  subst e1 e2 e3
  have hFB := Rat.mul_pos hF hB
  have c1 : C * (1 - eps) ≤ z * R * (1 + eps) := Rat.le_of_mul_le_mul_right (c := F * Bs) (by grind) hFB
  have c2 : z * R * (1 - eps) ≤ C * (1 + eps) := Rat.le_of_mul_le_mul_right (c := F * Bs) (by grind) hFB
  clear a1 a2 b1 b2 hd hzd
  have d1 := Rat.mul_le_mul_of_nonneg_right hR3 (Rat.le_of_lt hz)
  have hze : 0 ≤ z * eps := Rat.mul_nonneg (Rat.le_of_lt hz) (Rat.le_of_lt he)
  have d2 := Rat.mul_le_mul_of_nonneg_right hR3 hze
  have hce := Rat.mul_le_mul_of_nonneg_right hs (Rat.le_of_lt hC)
  have hzs := Rat.mul_le_mul_of_nonneg_right hs (Rat.le_of_lt hz)
  have hC4 : C ≤ 4 * z := by grind
  have hC5 := Rat.mul_le_mul_of_nonneg_right hC4 (Rat.le_of_lt he)
  refine ⟨⟨?_, ?_⟩, hC4⟩
  · grind
  · grind

theorem height_near {z u v u0 v0 X Y p1 q1 s h A A' C F less dx dy lb d FB Bs R : Rat} (hz : 0 < z) (hF : 0 < F) (hB : 0 < Bs) (hC : 0 < C) (hA1 : -(1/8) ≤ A) (hA2 : A ≤ 1/8) (hB1 : -(1/8) ≤ A') (hB2 : A' ≤ 1/8)
    (eu : u0 * F = dx) (ev : v0 * F = dy) (hu : Wi (u * F) dx (8 * F * eps)) (hv : Wi (v * F) dy (8 * F * eps)) (hX : Wi X (z * u) (9 * z * eps)) (hY : Wi Y (z * v) (9 * z * eps)) (hp : Wi p1 (A * X) (2 * z * eps)) (hq : Wi q1 (A' * Y) (2 * z * eps))
    (hs : Wi s (p1 + q1) (3 * z * eps)) (hh : Wi h (s + C) (2 * z * eps)) (hR : R = 1 - A * u0 - A' * v0) (hR0 : 0 < R) (hR3 : R ≤ 3) (hless : less = R * F) (e1 : lb = less * Bs) (e2 : FB = F * Bs) (hd : Wi (d * C) lb (lb * eps)) (hzd : Wi (z * d) FB (FB * eps)) : Wi h z (22 * (z * eps)) := by
  obtain ⟨a1, a2⟩ := share_near (Rat.le_of_lt hz) hF hA1 hA2 eu hu hX hp
  obtain ⟨b1, b2⟩ := share_near (Rat.le_of_lt hz) hF hB1 hB2 ev hv hY hq
  obtain ⟨⟨c1, c2⟩, -⟩ := depth_near hz hF hB hC hR3 e1 e2 hless hR0 hd hzd
  obtain ⟨s1, s2⟩ := hs
  obtain ⟨h1, h2⟩ := hh
  subst hR
  clear hd hzd e1 e2 hless hp hq hX hY hu hv eu ev
  constructor <;> grind

end Go.Proofs.Ytkhoifgljalfcaa
