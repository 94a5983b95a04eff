/- The words of a plane's disparities and of their points, all of them: they are there, and heights are near. -/
import Derived.Test.YtkhoifgljalfcaaQh
namespace Go.Proofs.Ytkhoifgljalfcaa
open Go.RowKit Ieee
set_option maxRecDepth 100000
set_option linter.unusedVariables false
set_option linter.unusedSimpArgs false

/-- A camera's and a plane's numbers. -/
structure PlN (f b m n a a' c : Int) : Prop where
  f1 : 1 ≤ f
  f2 : f ≤ 16
  b1 : 1 ≤ b
  b2 : b ≤ 8
  m1 : 0 ≤ m
  m2 : m ≤ 8
  n1 : 0 ≤ n
  n2 : n ≤ 8
  a1 : a.natAbs ≤ 2
  a2 : a'.natAbs ≤ 2
  c1 : 2 ≤ c
  c2 : c ≤ 13
/-- What is left of the focus, in 32nds. -/
def lessN (f m n a a' : Int) (x y : Nat) : Int := f * 16 - a * ((x : Int) * 2 - m) - a' * ((y : Int) * 2 - n)
theorem lessN_bd {f b m n a a' c : Int} (h : PlN f b m n a a' c) {x y : Nat} (hx : x < 4) (hy : y < 3) : (a * ((x : Int) * 2 - m)).natAbs ≤ 16 ∧ (a' * ((y : Int) * 2 - n)).natAbs ≤ 16 ∧ (lessN f m n a a' x y).natAbs ≤ 288 := by
  have h1 := abs_mul_le h.a1 (y := (x : Int) * 2 - m) (n := 8) (by have := h.m1; have := h.m2; omega)
  have h2 := abs_mul_le h.a2 (y := (y : Int) * 2 - n) (n := 8) (by have := h.n1; have := h.n2; omega)
  refine ⟨by omega, by omega, ?_⟩
  unfold lessN
  have := h.f1
  have := h.f2
  omega

theorem intR {a b : Int} (h : a ≤ b) : ((a : Int) : Rat) ≤ ((b : Int) : Rat) := Rat.intCast_le_intCast.2 h

theorem pm_words {f b m n a a' c : Int} (h : PlN f b m n a a' c) {x y : Nat} (hx : x < 4) (hy : y < 3) : ∃ d lb l2, PmOk (fq 1 f) (fq 2 b) (fq 1 m) (fq 1 n) (fq 4 a) (fq 4 a') (fq 2 c) x y d ∧ Fw d ∧
    Ex 5 l2 (lessN f m n a a' x y) ∧ Ex 7 lb (lessN f m n a a' x y * b) ∧ floatBits .mul .f32 l2 (fq 2 b) = some lb ∧ floatBits .quo .f32 lb (fq 2 c) = some d ∧
    (lessN f m n a a' x y ≤ 0 → plusB d = false) ∧ (0 < lessN f m n a a' x y → plusB d = true ∧ 0 < rv d ∧ Wi (rv d * rv (fq 2 c)) (rv lb) (rv lb * eps)) := by
  obtain ⟨p1, p2, p3⟩ := lessN_bd h hx hy
  obtain ⟨f1, f2, b1, b2, m1, m2, n1, n2, a1, a2, c1, c2⟩ := h
  have ex0 := (ex_fq (g := 0) (k := (x : Int)) (by omega) (by omega)).lift 1 (by omega)
  have ey0 := (ex_fq (g := 0) (k := (y : Int)) (by omega) (by omega)).lift 1 (by omega)
  have e2 : ((2 ^ 1 : Nat) : Int) = 2 := rfl
  rw [e2, Nat.zero_add] at ex0 ey0
  have eF := (ex_fq (g := 1) (k := f) (by omega) (by omega)).lift 4 (by omega)
  have e16 : ((2 ^ 4 : Nat) : Int) = 16 := rfl
  rw [e16] at eF
  have eB := ex_fq (g := 2) (k := b) (by omega) (by omega)
  have eC := ex_fq (g := 2) (k := c) (by omega) (by omega)
  have eA := ex_fq (g := 4) (k := a) (by omega) (by omega)
  have eA' := ex_fq (g := 4) (k := a') (by omega) (by omega)
  obtain ⟨dx, q1, edx⟩ := ex0.sub (ex_fq (g := 1) (k := m) (by omega) (by omega)) (by omega)
  obtain ⟨pw, q2, epw⟩ := eA.mul edx (by omega) (by omega)
  obtain ⟨l1, q3, el1⟩ := eF.sub epw (by omega)
  obtain ⟨dy, q4, edy⟩ := ey0.sub (ex_fq (g := 1) (k := n) (by omega) (by omega)) (by omega)
  obtain ⟨qw_, q5, eqw⟩ := eA'.mul edy (by omega) (by omega)
  obtain ⟨l2, q6, el2⟩ := el1.sub eqw (by omega)
  have hL : f * 16 - a * ((x : Int) * 2 - m) - a' * ((y : Int) * 2 - n) = lessN f m n a a' x y := rfl
  rw [hL] at el2
  have hLb := abs_mul_le p3 (y := b) (n := 8) (by omega)
  generalize lessN f m n a a' x y = L at *
  obtain ⟨lb, q7, elb⟩ := el2.mul eB (by omega) (by omega)
  have rC := eC.rv (by omega)
  have rL := elb.rv (by omega)
  have k4 : (((2 ^ 2 : Nat) : Int) : Rat) = 4 := rfl
  have k128 : (((2 ^ (5 + 2) : Nat) : Int) : Rat) = 128 := rfl
  rw [k4] at rC
  rw [k128] at rL
  have hc1 := intR c1
  have hc2 := intR c2
  have kk2 : ((2 : Int) : Rat) = 2 := rfl
  have kk13 : ((13 : Int) : Rat) = 13 := rfl
  rw [kk2] at hc1
  rw [kk13] at hc2
  have hC0 : 0 < rv (fq 2 c) := by grind
  have hox : floatOfInt .f32 (x : Int) = fq 0 (x : Int) := fq_ofInt (by omega)
  have hoy : floatOfInt .f32 (y : Int) = fq 0 (y : Int) := fq_ofInt (by omega)
  have fin : ∀ d, floatBits .quo .f32 lb (fq 2 c) = some d → Fw d → PmOk (fq 1 f) (fq 2 b) (fq 1 m) (fq 1 n) (fq 4 a) (fq 4 a') (fq 2 c) x y d := fun d e hd =>
    ⟨⟨_, _, dx, pw, l1, dy, qw_, l2, lb, hox, hoy, q1, q2, q3, q4, q5, q6, q7, e⟩, hd.2, nan_of_fin32 ((fin32_iff d).1 hd.1)⟩
  rcases Int.lt_trichotomy L 0 with g | g | g
  · have hLb0 : L * b ≤ -1 := by
      have : L * b ≤ -1 * b := Int.mul_le_mul_of_nonneg_right (by omega) (by omega)
      omega
    have hLb1 : -2304 ≤ L * b := by omega
    have h1 := intR hLb0
    have h2 := intR hLb1
    have e1 : ((-1 : Int) : Rat) = -1 := rfl
    have e3 : ((-2304 : Int) : Rat) = -2304 := rfl
    rw [e1] at h1
    rw [e3] at h2
    rw [← rL] at h1 h2
    have hM : (-(rv lb)) / rv (fq 2 c) * rv (fq 2 c) = -(rv lb) := Rat.div_mul_cancel (by grind)
    generalize (-(rv lb)) / rv (fq 2 c) = M at *
    have hl : Mlow ≤ M := by
      have e1 : Mlow ≤ 1 / 1000000 := by decide +kernel
      have e2 : 1 / 1000000 ≤ M := Rat.le_of_mul_le_mul_right (c := rv (fq 2 c)) (by grind) hC0
      exact Rat.le_trans e1 e2
    have ht : M ≤ Mtop := by
      have e1 : (1000000 : Rat) ≤ Mtop := by decide +kernel
      have e2 : M ≤ 1000000 := Rat.le_of_mul_le_mul_right (c := rv (fq 2 c)) (by grind) hC0
      exact Rat.le_trans e2 e1
    obtain ⟨d, e, fd, k1, k2⟩ := rat_div elb.fw eC.fw hC0 hl ht (by rw [hM]; grind) (by rw [hM]; grind)
    rw [hM] at k1 k2
    have hs := eps_small
    have he := eps_pos
    have hneg : rv d ≤ 0 := by
      refine Rat.le_of_mul_le_mul_right (c := rv (fq 2 c)) ?_ hC0
      have := Rat.mul_le_mul_of_nonneg_right hs (show 0 ≤ -(rv lb) by grind)
      grind
    exact ⟨d, lb, l2, fin d e fd, fd, el2, elb, q7, e, fun _ => plus_neg fd (sv_of_rv.2 hneg), fun h9 => absurd h9 (by omega)⟩
  · subst g
    have hsv : sv single lb = 0 := by rw [elb.sv]; simp
    have hcp : 0 < sv single (fq 2 c) := sv_of_rv.1 hC0
    obtain ⟨d, e, i⟩ := in_div (f := single) (by decide) (by decide) (grid32 (k := 0) (by omega)) elb.i.fin eC.i.fin hcp (lo := 0) (hi := 0) (by rw [hsv]; simp) (by rw [hsv]; simp) (by decide) (by decide)
    have fd : Fw d := ⟨i.fin, Ieee.Format.div_lt single e⟩
    have hz := i.hi
    rw [Int.zero_mul] at hz
    exact ⟨d, lb, l2, fin d e fd, fd, el2, elb, q7, e, fun _ => plus_neg fd hz, fun h9 => absurd h9 (by omega)⟩
  · have hLb0 : 1 ≤ L * b := by
      have : 1 * b ≤ L * b := Int.mul_le_mul_of_nonneg_right (by omega) (by omega)
      omega
    have hLb1 : L * b ≤ 2304 := by omega
    have h1 := intR hLb0
    have h2 := intR hLb1
    have e1 : ((1 : Int) : Rat) = 1 := rfl
    have e3 : ((2304 : Int) : Rat) = 2304 := rfl
    rw [e1, ← rL] at h1
    rw [e3, ← rL] at h2
    obtain ⟨d, e, fd, hw, hd0⟩ := quo_rel elb.fw eC.fw (by grind) hC0 (by grind) (by grind)
    exact ⟨d, lb, l2, fin d e fd, fd, el2, elb, q7, e, fun h9 => absurd h9 (by omega), fun _ => ⟨plus_pos fd hd0, hd0, hw⟩⟩

theorem cam_ok {f b m n a a' c : Int} (h : PlN f b m n a a' c) : CamOk (fq 1 f) (fq 2 b) (fq 1 m) (fq 1 n) ∧ ∃ fb, floatBits .mul .f32 (fq 1 f) (fq 2 b) = some fb ∧ Ex 3 fb (f * b) := by
  obtain ⟨f1, f2, b1, b2, m1, m2, n1, n2, a1, a2, c1, c2⟩ := h
  have eF := ex_fq (g := 1) (k := f) (by omega) (by omega)
  have eB := ex_fq (g := 2) (k := b) (by omega) (by omega)
  have rF := eF.rv (by omega)
  have rB := eB.rv (by omega)
  have k2 : (((2 ^ 1 : Nat) : Int) : Rat) = 2 := rfl
  have k4 : (((2 ^ 2 : Nat) : Int) : Rat) = 4 := rfl
  have hf := intR f1
  have hb := intR b1
  have e1 : ((1 : Int) : Rat) = 1 := rfl
  rw [k2] at rF
  rw [k4] at rB
  rw [e1] at hf hb
  obtain ⟨fb, e, efb⟩ := eF.mul eB (by omega) (by have := abs_mul_le (x := f) (y := b) (m := 16) (n := 8) (by omega) (by omega); omega)
  exact ⟨⟨plus_pos eF.fw (by grind), plus_pos eB.fw (by grind), fq_fin (by omega), fq_fin (by omega), fq_lt (by omega), fq_lt (by omega)⟩, fb, e, efb⟩

theorem rv_bd {g w : Nat} {k lo hi : Int} (h : Ex g w k) (hg : g ≤ 149) (h1 : lo ≤ k) (h2 : k ≤ hi) : ((lo : Int) : Rat) ≤ rv w * (((2 ^ g : Nat) : Int) : Rat) ∧ rv w * (((2 ^ g : Nat) : Int) : Rat) ≤ ((hi : Int) : Rat) := by
  rw [h.rv hg]; exact ⟨intR h1, intR h2⟩

set_option maxHeartbeats 2000000 in
theorem pt_words {f b m n a a' c : Int} (h : PlN f b m n a a' c) {x y : Nat} (hx : x < 4) (hy : y < 3) {d lb l2 fb : Nat} (hfb : Ex 3 fb (f * b)) (fd : Fw d) (el2 : Ex 5 l2 (lessN f m n a a' x y)) (elb : Ex 7 lb (lessN f m n a a' x y * b)) (hL0 : 0 < lessN f m n a a' x y) (hd0 : 0 < rv d) (hd : Wi (rv d * rv (fq 2 c)) (rv lb) (rv lb * eps)) :
    ∃ z dx ux X dy uy Y p q s hh, floatBits .quo .f32 fb d = some z ∧ plusB z = true ∧ PtOk (fq 1 f) (fq 1 m) (fq 1 n) (fq 0 (x : Int)) (fq 0 (y : Int)) z dx ux X dy uy Y ∧ HgOk (fq 4 a) (fq 4 a') (fq 2 c) X Y p q s hh ∧ Fw z ∧ Fw hh ∧ 0 < rv z ∧ rv z ≤ 900 ∧ Wi (rv hh) (rv z) (1 / 400) := by
  obtain ⟨p1, p2, p3⟩ := lessN_bd h hx hy
  obtain ⟨f1, f2, b1, b2, m1, m2, n1, n2, a1, a2, c1, c2⟩ := h
  have ex0 := (ex_fq (g := 0) (k := (x : Int)) (by omega) (by omega)).lift 1 (by omega)
  have ey0 := (ex_fq (g := 0) (k := (y : Int)) (by omega) (by omega)).lift 1 (by omega)
  have e2 : ((2 ^ 1 : Nat) : Int) = 2 := rfl
  rw [e2, Nat.zero_add] at ex0 ey0
  have eF := ex_fq (g := 1) (k := f) (by omega) (by omega)
  have eB := ex_fq (g := 2) (k := b) (by omega) (by omega)
  have eC := ex_fq (g := 2) (k := c) (by omega) (by omega)
  have eA := ex_fq (g := 4) (k := a) (by omega) (by omega)
  have eA' := ex_fq (g := 4) (k := a') (by omega) (by omega)
  obtain ⟨dx, q1, edx⟩ := ex0.sub (ex_fq (g := 1) (k := m) (by omega) (by omega)) (by omega)
  obtain ⟨dy, q4, edy⟩ := ey0.sub (ex_fq (g := 1) (k := n) (by omega) (by omega)) (by omega)
  have k2 : (((2 ^ 1 : Nat) : Int) : Rat) = 2 := rfl
  have k4 : (((2 ^ 2 : Nat) : Int) : Rat) = 4 := rfl
  have k8 : (((2 ^ 3 : Nat) : Int) : Rat) = 8 := rfl
  have k16 : (((2 ^ 4 : Nat) : Int) : Rat) = 16 := rfl
  have k32 : (((2 ^ 5 : Nat) : Int) : Rat) = 32 := rfl
  have k128 : (((2 ^ 7 : Nat) : Int) : Rat) = 128 := rfl
  have rF := rv_bd eF (by omega) f1 f2
  have rB := rv_bd eB (by omega) b1 b2
  have rC := rv_bd eC (by omega) c1 c2
  have rA := rv_bd eA (lo := -2) (hi := 2) (by omega) (by omega) (by omega)
  have rA' := rv_bd eA' (lo := -2) (hi := 2) (by omega) (by omega) (by omega)
  have rdx := rv_bd edx (lo := -8) (hi := 8) (by omega) (by omega) (by omega)
  have rdy := rv_bd edy (lo := -8) (hi := 8) (by omega) (by omega) (by omega)
  have hfb1 : 1 ≤ f * b := by have : 1 * b ≤ f * b := Int.mul_le_mul_of_nonneg_right f1 (by omega); omega
  have hfb2 : f * b ≤ 128 := by have := abs_mul_le (x := f) (y := b) (m := 16) (n := 8) (by omega) (by omega); omega
  have rfb := rv_bd hfb (by omega) hfb1 hfb2
  have hl1 : 1 ≤ lessN f m n a a' x y * b := by have : 1 * b ≤ lessN f m n a a' x y * b := Int.mul_le_mul_of_nonneg_right (by omega) (by omega); omega
  have hl2 : lessN f m n a a' x y * b ≤ 2304 := by have := abs_mul_le p3 (y := b) (n := 8) (by omega); omega
  have rlb := rv_bd elb (by omega) hl1 hl2
  have rl2 := rv_bd el2 (lo := 1) (hi := 288) (by omega) (by omega) (by omega)
  -- the exact relations
  have xF := eF.rv (by omega)
  have xB := eB.rv (by omega)
  have xfb := hfb.rv (by omega)
  have xlb := elb.rv (by omega)
  have xl2 := el2.rv (by omega)
  have xA := eA.rv (by omega)
  have xA' := eA'.rv (by omega)
  have xdx := edx.rv (by omega)
  have xdy := edy.rv (by omega)
  rw [k2] at rF xF rdx rdy xdx xdy
  rw [k4] at rB rC xB
  rw [k16] at rA rA' xA xA'
  rw [k8] at rfb xfb
  rw [k128] at rlb xlb
  rw [k32] at rl2 xl2
  rw [Rat.intCast_mul] at xfb xlb
  have efb : rv fb = rv (fq 1 f) * rv (fq 2 b) := by grind
  have elb' : rv lb = rv l2 * rv (fq 2 b) := by grind
  have eless : rv l2 = rv (fq 1 f) - rv (fq 4 a) * rv dx - rv (fq 4 a') * rv dy := by
    have e0 : ((lessN f m n a a' x y : Int) : Rat) = ((f : Int) : Rat) * 16 - ((a : Int) : Rat) * (((x : Int) * 2 - m : Int) : Rat) - ((a' : Int) : Rat) * (((y : Int) * 2 - n : Int) : Rat) := by
      unfold lessN
      rw [Rat.intCast_sub, Rat.intCast_sub, Rat.intCast_mul f 16, Rat.intCast_mul a, Rat.intCast_mul a']
      rfl
    rw [e0] at xl2
    grind
  have c1' : ((1 : Int) : Rat) = 1 := rfl
  have cc2 : ((2 : Int) : Rat) = 2 := rfl
  have cm2 : ((-2 : Int) : Rat) = -2 := rfl
  have c8 : ((8 : Int) : Rat) = 8 := rfl
  have cm8 : ((-8 : Int) : Rat) = -8 := rfl
  have c13 : ((13 : Int) : Rat) = 13 := rfl
  have cc16 : ((16 : Int) : Rat) = 16 := rfl
  have cc128 : ((128 : Int) : Rat) = 128 := rfl
  have c288 : ((288 : Int) : Rat) = 288 := rfl
  have c2304 : ((2304 : Int) : Rat) = 2304 := rfl
  rw [c1', cc16] at rF
  rw [c1', c8] at rB
  rw [cc2, c13] at rC
  rw [cm2, cc2] at rA rA'
  rw [cm8, c8] at rdx rdy
  rw [c1', cc128] at rfb
  rw [c1', c2304] at rlb
  rw [c1', c288] at rl2
  have hs := eps_small
  have he := eps_pos
  have fwF := eF.fw
  have fwC := eC.fw
  have fwA := eA.fw
  have fwA' := eA'.fw
  have fwdx := edx.fw
  have fwdy := edy.fw
  have fwfb := hfb.fw
  clear xF xB xfb xlb xl2 xA xA' xdx xdy ex0 ey0 eB
  have hF0 : 0 < rv (fq 1 f) := by grind
  have hB0 : 0 < rv (fq 2 b) := by grind
  have hC0 : 0 < rv (fq 2 c) := by grind
  have hlb0 : 0 < rv lb := by grind
  have hlbe := Rat.mul_le_mul_of_nonneg_right hs (Rat.le_of_lt hlb0)
  have hfb0 : 0 < rv fb := by grind
  have hfbe := Rat.mul_le_mul_of_nonneg_right hs (Rat.le_of_lt hfb0)
  have d1 := hd.1
  have d2 := hd.2
  have hdhi : rv d ≤ 40 := Rat.le_of_mul_le_mul_right (c := rv (fq 2 c)) (by grind) hC0
  have hdlo : 1 / 1000 ≤ rv d := Rat.le_of_mul_le_mul_right (c := rv (fq 2 c)) (by grind) hC0
  obtain ⟨z, ez, fz, wz, hz0⟩ := quo_rel fwfb fd hfb0 hd0 (by grind) (by grind)
  have z1 := wz.1
  have z2 := wz.2
  have hzhi : rv z ≤ 20000 := Rat.le_of_mul_le_mul_right (c := rv d) (by grind) hd0
  have hzlo : 1 / 1000 ≤ rv z := Rat.le_of_mul_le_mul_right (c := rv d) (by grind) hd0
  have hM1 : Mlow ≤ 1 / 1000 := by decide +kernel
  have hM2 : (1000000 : Rat) ≤ Mtop := by decide +kernel
  have hze : 8388608 * (rv z * eps) = rv z := by have := eps_eq; grind
  have hFe : 8388608 * (rv (fq 1 f) * eps) = rv (fq 1 f) := by have := eps_eq; grind
  clear d1 d2 z1 z2
  obtain ⟨ux, q2, fux, ku1, ku2⟩ := rat_div (M := 8) fwdx fwF hF0 (by grind) (by grind) (by grind) (by grind)
  obtain ⟨uy, q5, fuy, kv1, kv2⟩ := rat_div (M := 8) fwdy fwF hF0 (by grind) (by grind) (by grind) (by grind)
  have hux1 : rv ux ≤ 9 := Rat.le_of_mul_le_mul_right (c := rv (fq 1 f)) (by grind) hF0
  have hux2 : -9 ≤ rv ux := Rat.le_of_mul_le_mul_right (c := rv (fq 1 f)) (by grind) hF0
  have huy1 : rv uy ≤ 9 := Rat.le_of_mul_le_mul_right (c := rv (fq 1 f)) (by grind) hF0
  have huy2 : -9 ≤ rv uy := Rat.le_of_mul_le_mul_right (c := rv (fq 1 f)) (by grind) hF0
  have zu1 := Rat.mul_le_mul_of_nonneg_right hux1 (Rat.le_of_lt hz0)
  have zu2 := Rat.mul_le_mul_of_nonneg_right hux2 (Rat.le_of_lt hz0)
  have zv1 := Rat.mul_le_mul_of_nonneg_right huy1 (Rat.le_of_lt hz0)
  have zv2 := Rat.mul_le_mul_of_nonneg_right huy2 (Rat.le_of_lt hz0)
  obtain ⟨X, q3, fX, kX1, kX2⟩ := rat_mul (M := 9 * rv z) fz fux (by grind) (by grind) (by grind) (by grind)
  obtain ⟨Y, q6, fY, kY1, kY2⟩ := rat_mul (M := 9 * rv z) fz fuy (by grind) (by grind) (by grind) (by grind)
  have hA1 : -(1/8) ≤ rv (fq 4 a) := by grind
  have hA2 : rv (fq 4 a) ≤ 1/8 := by grind
  have hA3 : -(1/8) ≤ rv (fq 4 a') := by grind
  have hA4 : rv (fq 4 a') ≤ 1/8 := by grind
  have AX := bmul (a := 1/8) (b := 10 * rv z) hA1 hA2 (B := rv X) (by grind) (by grind)
  have AY := bmul (a := 1/8) (b := 10 * rv z) hA3 hA4 (B := rv Y) (by grind) (by grind)
  obtain ⟨p, w1, fp, kp1, kp2⟩ := rat_mul (M := 2 * rv z) fwA fX (by grind) (by grind) (by grind) (by grind)
  obtain ⟨q, w2, fq_, kq1, kq2⟩ := rat_mul (M := 2 * rv z) fwA' fY (by grind) (by grind) (by grind) (by grind)
  obtain ⟨s, w3, fs, ks1, ks2⟩ := rat_add (M := 3 * rv z) fp fq_ (by grind) (by grind) (by grind) (by grind)
  clear zu1 zu2 zv1 zv2 AX AY hux1 hux2 huy1 huy2
  have eu : rv dx / rv (fq 1 f) * rv (fq 1 f) = rv dx := Rat.div_mul_cancel (by grind)
  have ev : rv dy / rv (fq 1 f) * rv (fq 1 f) = rv dy := Rat.div_mul_cancel (by grind)
  generalize rv dx / rv (fq 1 f) = u0 at *
  generalize rv dy / rv (fq 1 f) = v0 at *
  have hu1 : u0 ≤ 8 := Rat.le_of_mul_le_mul_right (c := rv (fq 1 f)) (by grind) hF0
  have hu2 : -8 ≤ u0 := Rat.le_of_mul_le_mul_right (c := rv (fq 1 f)) (by grind) hF0
  have hv1 : v0 ≤ 8 := Rat.le_of_mul_le_mul_right (c := rv (fq 1 f)) (by grind) hF0
  have hv2 : -8 ≤ v0 := Rat.le_of_mul_le_mul_right (c := rv (fq 1 f)) (by grind) hF0
  have Au := bmul (a := 1/8) (b := 8) hA1 hA2 hu2 hu1
  have Av := bmul (a := 1/8) (b := 8) hA3 hA4 hv2 hv1
  obtain ⟨R, hR⟩ : ∃ R, R = 1 - rv (fq 4 a) * u0 - rv (fq 4 a') * v0 := ⟨_, rfl⟩
  have hless : rv l2 = R * rv (fq 1 f) := by rw [hR, eless]; grind
  have hR3 : R ≤ 3 := by grind
  have hRlo : 1 / 256 ≤ R := Rat.le_of_mul_le_mul_right (c := rv (fq 1 f)) (by grind) hF0
  have hR0 : 0 < R := by grind
  have sp := share_near (Rat.le_of_lt hz0) hF0 hA1 hA2 eu (u := rv ux) ⟨ku1, ku2⟩ ⟨kX1, kX2⟩ ⟨kp1, kp2⟩
  have sq := share_near (Rat.le_of_lt hz0) hF0 hA3 hA4 ev (u := rv uy) ⟨kv1, kv2⟩ ⟨kY1, kY2⟩ ⟨kq1, kq2⟩
  have sd := (depth_near hz0 hF0 hB0 hC0 hR3 elb' efb hless hR0 hd wz).1
  have zR := Rat.mul_le_mul_of_nonneg_right hRlo (Rat.le_of_lt hz0)
  have sp1 := sp.1
  have sp2 := sp.2
  have sq1 := sq.1
  have sq2 := sq.2
  have sd1 := sd.1
  have sd2 := sd.2
  have hsum1 : rv s + rv (fq 2 c) ≤ 2 * rv z := by
    rw [hR] at sd2
    grind
  have hsum2 : -(2 * rv z) ≤ rv s + rv (fq 2 c) := by
    rw [hR] at sd1
    grind
  have hz900 : rv z ≤ 900 := by
    clear sp1 sp2 sq1 sq2 sd2 hsum1 hsum2 ku1 ku2 kv1 kv2 kX1 kX2 kY1 kY2 kp1 kp2 kq1 kq2 ks1 ks2
    grind
  obtain ⟨hh, w4, fh, kh1, kh2⟩ := rat_add (M := 2 * rv z) fs fwC (by grind) (by grind) hsum2 hsum1
  have key := height_near hz0 hF0 hB0 hC0 hA1 hA2 hA3 hA4 eu ev (u := rv ux) (v := rv uy) ⟨ku1, ku2⟩ ⟨kv1, kv2⟩ ⟨kX1, kX2⟩ ⟨kY1, kY2⟩ ⟨kp1, kp2⟩ ⟨kq1, kq2⟩ ⟨ks1, ks2⟩ ⟨kh1, kh2⟩ hR hR0 hR3 hless elb' efb hd wz
  refine ⟨z, dx, ux, X, dy, uy, Y, p, q, s, hh, ez, plus_pos fz hz0, ⟨q1, q2, q3, q4, q5, q6⟩, ⟨w1, w2, w3, w4⟩, fz, fh, hz0, hz900, ?_, ?_⟩
  · have := key.1
    clear sp1 sp2 sq1 sq2 sd1 sd2 hsum1 hsum2 ku1 ku2 kv1 kv2 kX1 kX2 kY1 kY2 kp1 kp2 kq1 kq2 ks1 ks2 kh1 kh2 zR
    grind
  · have := key.2
    clear sp1 sp2 sq1 sq2 sd1 sd2 hsum1 hsum2 ku1 ku2 kv1 kv2 kX1 kX2 kY1 kY2 kp1 kp2 kq1 kq2 ks1 ks2 kh1 kh2 zR
    grind

end Go.Proofs.Ytkhoifgljalfcaa
