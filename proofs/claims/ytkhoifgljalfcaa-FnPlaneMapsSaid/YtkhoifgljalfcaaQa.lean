/- What rounding costs, in rational numbers: sums, differences, products, quotients of 32-bit words. No program. -/
import Derived.Test.YtkhoifgljalfcaaLa
namespace Go.Proofs.Ytkhoifgljalfcaa
open Ieee
set_option maxRecDepth 100000
set_option linter.unusedVariables false
set_option linter.unusedSimpArgs false

def U149 : Int := ((2 ^ 149 : Nat) : Int)
/-- One least place. -/
def io : Rat := (1 : Rat) / ((U149 : Int) : Rat)
theorem io_U : io * ((U149 : Int) : Rat) = 1 := by decide +kernel
theorem io_pos : 0 < io := by decide +kernel
/-- The value of a word. -/
def rv (w : Nat) : Rat := ((sv single w : Int) : Rat) * io
/-- A finite word of 32 bits. -/
def Fw (w : Nat) : Prop := isFin single w ∧ w < 4294967296
def eps : Rat := (1 : Rat) / 8388608
def tin : Rat := ((8388608 : Int) : Rat) * io
theorem eps_eq : 8388608 * eps = 1 := by decide +kernel
def Mlow : Rat := (1 : Rat) / 1267650600228229401496703205376
def Mtop : Rat := 1152921504606846976
theorem tin_small : 1000 * tin ≤ Mlow := by decide +kernel
theorem tin_pos : 0 < tin := by decide +kernel
theorem Mlow_pos : 0 < Mlow := by decide +kernel

theorem ulp_le (f : Format) (r : Nat) : ulpr f r * f.binade ≤ unit f r + f.binade := by
  have hb := binade_pos f
  unfold ulpr unit
  by_cases h : r < f.binade
  · rw [if_pos h, Nat.div_eq_of_lt h]; simp
  · rw [if_neg h]
    have : f.binade * 2 ^ (r / f.binade - 1) ≤ (f.binade + r % f.binade) * 2 ^ (r / f.binade - 1) := Nat.mul_le_mul_right _ (by omega)
    rw [Nat.mul_comm]
    omega
theorem ulp_mono (f : Format) {a b : Nat} (h : a ≤ b) : ulpr f a ≤ ulpr f b := by
  unfold ulpr
  exact Nat.pow_le_pow_right (by omega) (Nat.sub_le_sub_right (Nat.div_le_div_right h) 1)
/-- How far a rung is from what it stands for. -/
theorem rung_err {N D r : Nat} (h : IsRd single N D r) : 16777216 * (unit single r * D) ≤ 16777216 * N + (unit single r + 8388608) * D ∧ 16777216 * N ≤ 16777216 * (unit single r * D) + (unit single r + 8388608) * D := by
  have hu := ulp_le single r
  rw [sg_bin] at hu
  have hu2 : ulpr single r * 8388608 * D ≤ (unit single r + 8388608) * D := Nat.mul_le_mul_right _ hu
  have e0 : ulpr single r * 8388608 * D = 8388608 * (ulpr single r * D) := by rw [Nat.mul_comm (ulpr single r), Nat.mul_assoc]
  rw [e0] at hu2
  constructor
  · rcases Nat.eq_zero_or_pos r with h0 | h0
    · subst h0
      rw [unit_zero, Nat.zero_mul, Nat.mul_zero]
      exact Nat.zero_le _
    · have a := h.1 (r - 1) (by omega)
      have hm : mid single (r - 1) = 2 * unit single (r - 1) + ulpr single (r - 1) := rfl
      have hs := unit_succ single (r - 1)
      rw [show r - 1 + 1 = r by omega] at hs
      have hl := ulp_mono single (show r - 1 ≤ r by omega)
      have b : mid single (r - 1) * D ≤ 2 * N := by omega
      have c : 2 * unit single r ≤ mid single (r - 1) + ulpr single r := by omega
      have d : 2 * unit single r * D ≤ (mid single (r - 1) + ulpr single r) * D := Nat.mul_le_mul_right _ c
      rw [Nat.add_mul, Nat.mul_assoc] at d
      omega
  · have a := h.2
    have hm : mid single r * D = 2 * (unit single r * D) + ulpr single r * D := by
      show (2 * unit single r + ulpr single r) * D = _
      rw [Nat.add_mul, Nat.mul_assoc]
    omega

/-- The absolute value of what a word stands for. -/
theorem sv_abs (w : Nat) : (sv single w).natAbs = unit single (rg single w) := by unfold sv; split <;> simp
/-- The word of a rounded number: not far from it, on either side. -/
theorem word_err {neg : Bool} {N D r : Nat} (h : IsRd single N D r) (hr : r < single.infRung) :
    ∃ x : Int, x = sv single (single.word neg r) ∧ 16777216 * (x * D) ≤ 16777216 * sI neg N + ((x.natAbs : Int) + 8388608) * D ∧ 16777216 * sI neg N ≤ 16777216 * (x * D) + ((x.natAbs : Int) + 8388608) * D := by
  obtain ⟨a, b⟩ := rung_err h
  have e := sv_word single neg (Nat.lt_trans hr single.infRung_lt)
  refine ⟨_, rfl, ?_⟩
  rw [e]
  have k1 : ((16777216 : Nat) : Int) = 16777216 := rfl
  have k2 : ((8388608 : Nat) : Int) = 8388608 := rfl
  have a' := Int.ofNat_le.2 a
  have b' := Int.ofNat_le.2 b
  have a' : (16777216 : Int) * ((unit single r : Int) * (D : Int)) ≤ 16777216 * (N : Int) + ((unit single r : Int) + 8388608) * (D : Int) := by
    simp only [Int.natCast_add, Int.natCast_mul, k1, k2] at a'
    exact a'
  have b' : (16777216 : Int) * (N : Int) ≤ 16777216 * ((unit single r : Int) * (D : Int)) + ((unit single r : Int) + 8388608) * (D : Int) := by
    simp only [Int.natCast_add, Int.natCast_mul, k1, k2] at b'
    exact b'
  have hu0 : (0 : Int) ≤ (unit single r : Int) := Int.natCast_nonneg _
  generalize (unit single r : Int) = u at *
  unfold sI
  cases neg
  · simp only [Bool.false_eq_true, if_false]
    rw [show (u.natAbs : Int) = u from Int.natAbs_of_nonneg hu0]
    exact ⟨a', b'⟩
  · simp only [if_true, Int.natAbs_neg, Int.neg_mul]
    rw [show (u.natAbs : Int) = u from Int.natAbs_of_nonneg hu0]
    generalize (u + 8388608) * (D : Int) = Z at *
    generalize u * (D : Int) = Y at *
    constructor <;> omega
theorem word_lt32' (neg : Bool) {r : Nat} (h : r < single.infRung) : single.word neg r < 4294967296 := single.word_lt neg (Nat.lt_trans h single.infRung_lt)
theorem rung_low {N D r : Nat} (hD : 0 < D) (h : IsRd single N D r) (hN : N ≤ 2 ^ 240 * D) : r < single.infRung := by
  obtain ⟨rh, ih, uh⟩ := grid32 (k := 240) (by omega) 1 (by rw [sg_bin]; omega)
  rw [Nat.one_mul] at uh
  refine Nat.lt_of_le_of_lt ?_ ih
  refine IsRd.mono (D := D) (D' := 1) hD (by omega) h (IsRd.exact single (D := 1) (by omega) rh) ?_
  rw [uh, Nat.mul_one, Nat.mul_one]; exact hN

theorem castN (n : Nat) : ((n : Int) : Rat) = (n : Rat) := Rat.intCast_natCast n
/-- From whole numbers to rational ones: x near to v, in units of D. -/
theorem near_of {x s D : Int} {v y M t : Rat} (h1 : 16777216 * (x * D) ≤ 16777216 * s + ((x.natAbs : Int) + 8388608) * D) (h2 : 16777216 * s ≤ 16777216 * (x * D) + ((x.natAbs : Int) + 8388608) * D)
    {c : Rat} (hc : 0 < c) (hy : ((x * D : Int) : Rat) * c = y) (hv : ((s : Int) : Rat) * c = v) (ht : ((8388608 * D : Int) : Rat) * c = t) (hD : 0 ≤ D) (hM1 : 1000 * t ≤ M) (hlo : -M ≤ v) (hhi : v ≤ M) (ht0 : 0 ≤ t) : v - M * eps ≤ y ∧ y ≤ v + M * eps := by
  have hx : (x.natAbs : Int) = x ∨ (x.natAbs : Int) = -x := by omega
  have heps := eps_eq
  rcases hx with g | g
  · rw [g] at h1 h2
    have h0 : 0 ≤ x * D := Int.mul_nonneg (by omega) hD
    have e1 : ((16777216 * (x * D) : Int) : Rat) ≤ ((16777216 * s + (x * D + 8388608 * D) : Int) : Rat) := Rat.intCast_le_intCast.2 (by rw [Int.add_mul] at h1; exact h1)
    have e2 : ((16777216 * s : Int) : Rat) ≤ ((16777216 * (x * D) + (x * D + 8388608 * D) : Int) : Rat) := Rat.intCast_le_intCast.2 (by rw [Int.add_mul] at h2; exact h2)
    have e0 : ((0 : Int) : Rat) ≤ ((x * D : Int) : Rat) := Rat.intCast_le_intCast.2 h0
    have f1 := Rat.mul_le_mul_of_nonneg_right e1 (Rat.le_of_lt hc)
    have f2 := Rat.mul_le_mul_of_nonneg_right e2 (Rat.le_of_lt hc)
    have f0 := Rat.mul_le_mul_of_nonneg_right e0 (Rat.le_of_lt hc)
    rw [Rat.intCast_mul 16777216, Rat.intCast_add, Rat.intCast_mul 16777216, Rat.intCast_add] at f1
    rw [Rat.intCast_mul 16777216, Rat.intCast_add, Rat.intCast_mul 16777216, Rat.intCast_add] at f2
    generalize ((x * D : Int) : Rat) = X at *
    generalize ((8388608 * D : Int) : Rat) = T at *
    generalize ((s : Int) : Rat) = S at *
    have g1 : 16777216 * y ≤ 16777216 * v + (y + t) := by
      have : ((16777216 : Int) : Rat) = 16777216 := rfl
      rw [this] at f1
      grind
    have g2 : 16777216 * v ≤ 16777216 * y + (y + t) := by
      have : ((16777216 : Int) : Rat) = 16777216 := rfl
      rw [this] at f2
      grind
    have g0 : 0 ≤ y := by
      have : ((0 : Int) : Rat) = 0 := rfl
      rw [this] at f0
      grind
    have m1 : 8388608 * (M * eps) = M := by grind
    generalize M * eps = E at *
    constructor <;> grind
  · rw [g] at h1 h2
    have h0 : x * D ≤ 0 := Int.mul_nonpos_of_nonpos_of_nonneg (by omega) hD
    have e1 : ((16777216 * (x * D) : Int) : Rat) ≤ ((16777216 * s + (-(x * D) + 8388608 * D) : Int) : Rat) := Rat.intCast_le_intCast.2 (by rw [Int.add_mul, Int.neg_mul] at h1; exact h1)
    have e2 : ((16777216 * s : Int) : Rat) ≤ ((16777216 * (x * D) + (-(x * D) + 8388608 * D) : Int) : Rat) := Rat.intCast_le_intCast.2 (by rw [Int.add_mul, Int.neg_mul] at h2; exact h2)
    have e0 : ((x * D : Int) : Rat) ≤ ((0 : Int) : Rat) := Rat.intCast_le_intCast.2 h0
    have f1 := Rat.mul_le_mul_of_nonneg_right e1 (Rat.le_of_lt hc)
    have f2 := Rat.mul_le_mul_of_nonneg_right e2 (Rat.le_of_lt hc)
    have f0 := Rat.mul_le_mul_of_nonneg_right e0 (Rat.le_of_lt hc)
    rw [Rat.intCast_mul 16777216, Rat.intCast_add, Rat.intCast_mul 16777216, Rat.intCast_add, Rat.intCast_neg] at f1
    rw [Rat.intCast_mul 16777216, Rat.intCast_add, Rat.intCast_mul 16777216, Rat.intCast_add, Rat.intCast_neg] at f2
    generalize ((x * D : Int) : Rat) = X at *
    generalize ((8388608 * D : Int) : Rat) = T at *
    generalize ((s : Int) : Rat) = S at *
    have g1 : 16777216 * y ≤ 16777216 * v + (-y + t) := by
      have : ((16777216 : Int) : Rat) = 16777216 := rfl
      rw [this] at f1
      grind
    have g2 : 16777216 * v ≤ 16777216 * y + (-y + t) := by
      have : ((16777216 : Int) : Rat) = 16777216 := rfl
      rw [this] at f2
      grind
    have g0 : y ≤ 0 := by
      have : ((0 : Int) : Rat) = 0 := rfl
      rw [this] at f0
      grind
    have m1 : 8388608 * (M * eps) = M := by grind
    generalize M * eps = E at *
    constructor <;> grind

/-! ### The operations -/
theorem rv_neg_sub (a b : Nat) : rv a - rv b = ((sv single a - sv single b : Int) : Rat) * io := by unfold rv; rw [Rat.intCast_sub]; grind
/-- A sum of whole least places that is rounded. -/
theorem rat_sum {neg : Bool} {s : Int} {r : Nat} {v M : Rat} (hs : sI neg s.natAbs = s) (hr : IsRd single s.natAbs 1 r) (hv : ((s : Int) : Rat) * io = v) (hM : Mlow ≤ M) (hT : M ≤ Mtop) (hlo : -M ≤ v) (hhi : v ≤ M) :
    Fw (single.word neg (min r single.infRung)) ∧ v - M * eps ≤ rv (single.word neg (min r single.infRung)) ∧ rv (single.word neg (min r single.infRung)) ≤ v + M * eps := by
  have hsm : s.natAbs ≤ 2 ^ 240 * 1 := by
    have hb : -Mtop ≤ v ∧ v ≤ Mtop := ⟨by grind, by grind⟩
    rw [← hv] at hb
    have hU := io_U
    have hp : (0 : Rat) < ((U149 : Int) : Rat) := by decide +kernel
    have b1 := Rat.mul_le_mul_of_nonneg_right hb.1 (Rat.le_of_lt hp)
    have b2 := Rat.mul_le_mul_of_nonneg_right hb.2 (Rat.le_of_lt hp)
    have c1 : ((s : Int) : Rat) ≤ ((2 ^ 209 : Int) : Rat) := by
      have e : Mtop * ((U149 : Int) : Rat) = ((2 ^ 209 : Int) : Rat) := by decide +kernel
      rw [e] at b2
      have : ((s : Int) : Rat) * io * ((U149 : Int) : Rat) = ((s : Int) : Rat) := by rw [Rat.mul_assoc, hU, Rat.mul_one]
      rw [this] at b2; exact b2
    have c2 : ((-(2 ^ 209) : Int) : Rat) ≤ ((s : Int) : Rat) := by
      have e : -Mtop * ((U149 : Int) : Rat) = ((-(2 ^ 209) : Int) : Rat) := by decide +kernel
      rw [e] at b1
      have : ((s : Int) : Rat) * io * ((U149 : Int) : Rat) = ((s : Int) : Rat) := by rw [Rat.mul_assoc, hU, Rat.mul_one]
      rw [this] at b1; exact b1
    have d1 := Rat.intCast_le_intCast.1 c1
    have d2 := Rat.intCast_le_intCast.1 c2
    have e3 : (2 : Int) ^ 209 = ((2 ^ 209 : Nat) : Int) := by decide
    rw [e3] at d1 d2
    have : s.natAbs ≤ 2 ^ 209 := by omega
    rw [Nat.mul_one]
    exact Nat.le_trans this (Nat.pow_le_pow_right (by omega) (by omega))
  have hlt := rung_low (by omega) hr hsm
  rw [Nat.min_eq_left (Nat.le_of_lt hlt)]
  obtain ⟨x, hx, h1, h2⟩ := word_err (neg := neg) hr hlt
  rw [hs] at h1 h2
  have key := near_of (D := 1) (x := x) (s := s) (v := v) (y := rv (single.word neg r)) (M := M) (t := tin) h1 h2 io_pos (by rw [Int.mul_one, hx]; rfl) hv (by rw [Int.mul_one]; rfl) (by decide) (by have := tin_small; grind) hlo hhi (Rat.le_of_lt tin_pos)
  exact ⟨⟨fin_word single neg hlt, word_lt32' neg hlt⟩, key⟩
theorem rat_add {a b : Nat} {M : Rat} (ha : Fw a) (hb : Fw b) (hM : Mlow ≤ M) (hT : M ≤ Mtop) (hlo : -M ≤ rv a + rv b) (hhi : rv a + rv b ≤ M) : ∃ r, single.add a b = some r ∧ Fw r ∧ rv a + rv b - M * eps ≤ rv r ∧ rv r ≤ rv a + rv b + M * eps := by
  refine ⟨_, add_fin single ha.1 hb.1, ?_⟩
  exact rat_sum (sI_sum (fun h0 => by rw [if_neg h0])) (by have := rd0_isRd single (by decide) (sv single a + sv single b).natAbs 0; simpa using this) (by unfold rv; rw [Rat.intCast_add]; grind) hM hT hlo hhi
theorem rat_sub {a b : Nat} {M : Rat} (ha : Fw a) (hb : Fw b) (hM : Mlow ≤ M) (hT : M ≤ Mtop) (hlo : -M ≤ rv a - rv b) (hhi : rv a - rv b ≤ M) : ∃ r, single.sub a b = some r ∧ Fw r ∧ rv a - rv b - M * eps ≤ rv r ∧ rv r ≤ rv a - rv b + M * eps := by
  refine ⟨_, sub_fin single ha.1 hb.1, ?_⟩
  exact rat_sum (sI_sum (fun h0 => by rw [if_neg h0])) (by have := rd0_isRd single (by decide) (sv single a - sv single b).natAbs 0; simpa using this) (rv_neg_sub a b).symm hM hT hlo hhi

theorem io2_pos : 0 < io * io := Rat.mul_pos io_pos io_pos
theorem mtop_cast : Mtop = ((1152921504606846976 : Int) : Rat) := rfl
theorem rat_mul {a b : Nat} {M : Rat} (ha : Fw a) (hb : Fw b) (hM : Mlow ≤ M) (hT : M ≤ Mtop) (hlo : -M ≤ rv a * rv b) (hhi : rv a * rv b ≤ M) : ∃ r, single.mul a b = some r ∧ Fw r ∧ rv a * rv b - M * eps ≤ rv r ∧ rv r ≤ rv a * rv b + M * eps := by
  have hL : (-single.leastPlace).toNat = 149 := by decide
  refine ⟨_, mul_fin single (by decide) ha.1 hb.1, ?_⟩
  rw [hL]
  have hs := sI_mul single a b
  have hr := rd0_isRd single (by decide) (unit single (rg single a) * unit single (rg single b)) 149
  have hU := io_U
  have hv : ((sv single a * sv single b : Int) : Rat) * (io * io) = rv a * rv b := by unfold rv; rw [Rat.intCast_mul]; grind
  have hN : unit single (rg single a) * unit single (rg single b) ≤ 2 ^ 240 * 2 ^ 149 := by
    have hb1 : -Mtop ≤ rv a * rv b ∧ rv a * rv b ≤ Mtop := ⟨by grind, by grind⟩
    rw [← hv] at hb1
    have hp : (0 : Rat) < ((U149 : Int) : Rat) * ((U149 : Int) : Rat) := by decide +kernel
    have b1 := Rat.mul_le_mul_of_nonneg_right hb1.1 (Rat.le_of_lt hp)
    have b2 := Rat.mul_le_mul_of_nonneg_right hb1.2 (Rat.le_of_lt hp)
    have e0 : ((sv single a * sv single b : Int) : Rat) * (io * io) * (((U149 : Int) : Rat) * ((U149 : Int) : Rat)) = ((sv single a * sv single b : Int) : Rat) := by grind
    have e1 : Mtop * (((U149 : Int) : Rat) * ((U149 : Int) : Rat)) = ((1152921504606846976 * (U149 * U149) : Int) : Rat) := by decide +kernel
    have e2 : -Mtop * (((U149 : Int) : Rat) * ((U149 : Int) : Rat)) = ((-(1152921504606846976 * (U149 * U149)) : Int) : Rat) := by decide +kernel
    rw [e0, e1] at b2
    rw [e0, e2] at b1
    have d1 := Rat.intCast_le_intCast.1 b2
    have d2 := Rat.intCast_le_intCast.1 b1
    have hab : (unit single (rg single a) * unit single (rg single b) : Nat) = (sv single a * sv single b).natAbs := by
      rw [Int.natAbs_mul, sv_abs, sv_abs]
    rw [hab]
    have e3 : (1152921504606846976 : Int) * (U149 * U149) = ((1152921504606846976 * (2 ^ 149 * 2 ^ 149) : Nat) : Int) := by decide +kernel
    rw [e3] at d1 d2
    have h4 : (sv single a * sv single b).natAbs ≤ 1152921504606846976 * (2 ^ 149 * 2 ^ 149) := by
      generalize sv single a * sv single b = S at *
      generalize 1152921504606846976 * (2 ^ 149 * 2 ^ 149) = Z at *
      omega
    exact Nat.le_trans h4 (by decide +kernel)
  have hlt := rung_low (Nat.two_pow_pos 149) hr hN
  unfold rnd
  rw [Nat.min_eq_left (Nat.le_of_lt hlt)]
  obtain ⟨x, hx, h1, h2⟩ := word_err (neg := sgn single a ^^ sgn single b) hr hlt
  rw [hs] at h1 h2
  have key := near_of (D := U149) (x := x) (s := sv single a * sv single b) (v := rv a * rv b) (y := rv (single.word (sgn single a ^^ sgn single b) (rd0 single (unit single (rg single a) * unit single (rg single b)) 149))) (M := M) (t := tin) h1 h2 io2_pos (by rw [Rat.intCast_mul, hx]; unfold rv; grind) hv (by rw [Rat.intCast_mul]; unfold tin; grind) (by decide) (by have := tin_small; grind) hlo hhi (Rat.le_of_lt tin_pos)
  exact ⟨⟨fin_word single _ hlt, word_lt32' _ hlt⟩, key⟩
theorem sv_pos {b : Nat} (h : 0 < rv b) : sgn single b = false ∧ sv single b = (unit single (rg single b) : Int) ∧ 0 < unit single (rg single b) := by
  have h0 : 0 < sv single b := by
    unfold rv at h
    rcases Int.lt_or_le 0 (sv single b) with g | g
    · exact g
    · exfalso
      have : ((sv single b : Int) : Rat) ≤ ((0 : Int) : Rat) := Rat.intCast_le_intCast.2 g
      have := Rat.mul_le_mul_of_nonneg_right this (Rat.le_of_lt io_pos)
      have e : ((0 : Int) : Rat) = 0 := rfl
      rw [e] at this
      grind
  have : sgn single b = false ∧ sv single b = (unit single (rg single b) : Int) := by
    unfold sv at h0 ⊢
    cases hs : sgn single b
    · simp
    · rw [hs] at h0; simp at h0; omega
  exact ⟨this.1, this.2, by have := this.2; omega⟩
theorem rat_div {a b : Nat} {M : Rat} (ha : Fw a) (hb : Fw b) (hb0 : 0 < rv b) (hM : Mlow ≤ M) (hT : M ≤ Mtop) (hlo : -(M * rv b) ≤ rv a) (hhi : rv a ≤ M * rv b) : ∃ r, single.div a b = some r ∧ Fw r ∧ rv a - M * rv b * eps ≤ rv r * rv b ∧ rv r * rv b ≤ rv a + M * rv b * eps := by
  obtain ⟨sb0, sb1, sb2⟩ := sv_pos hb0
  have hL : (-single.leastPlace).toNat = 149 := by decide
  obtain ⟨r, hr, e⟩ := div_fin single (by decide) (by decide) ha.1 hb.1 sb2
  rw [hL] at hr
  have hU := io_U
  have hs : sI (sgn single a ^^ sgn single b) (unit single (rg single a) * 2 ^ 149) = sv single a * U149 := by
    rw [sb0]
    unfold sI sv U149
    cases sgn single a <;> simp only [Bool.xor_false, Bool.false_eq_true, if_false, if_true, Int.natCast_mul, Int.neg_mul]
  have hv : ((sv single a * U149 : Int) : Rat) * (io * io) = rv a := by unfold rv; rw [Rat.intCast_mul]; grind
  have hN : unit single (rg single a) * 2 ^ 149 ≤ 2 ^ 240 * unit single (rg single b) := by
    have hMb : M * rv b ≤ Mtop * rv b := Rat.mul_le_mul_of_nonneg_right hT (Rat.le_of_lt hb0)
    have hb1 : -(Mtop * rv b) ≤ rv a ∧ rv a ≤ Mtop * rv b := ⟨by grind, by grind⟩
    have hp : (0 : Rat) < ((U149 : Int) : Rat) := by decide +kernel
    have b1 := Rat.mul_le_mul_of_nonneg_right hb1.1 (Rat.le_of_lt hp)
    have b2 := Rat.mul_le_mul_of_nonneg_right hb1.2 (Rat.le_of_lt hp)
    have e0 : rv a * ((U149 : Int) : Rat) = ((sv single a : Int) : Rat) := by unfold rv; grind
    have e1 : Mtop * rv b * ((U149 : Int) : Rat) = ((1152921504606846976 * sv single b : Int) : Rat) := by rw [Rat.intCast_mul, ← mtop_cast]; unfold rv; grind
    rw [e0, e1] at b2
    rw [e0, Rat.neg_mul, e1, ← Rat.intCast_neg] at b1
    have d1 := Rat.intCast_le_intCast.1 b2
    have d2 := Rat.intCast_le_intCast.1 b1
    rw [sb1] at d1 d2
    have h4 : (sv single a).natAbs ≤ 1152921504606846976 * unit single (rg single b) := by
      generalize sv single a = S at *
      generalize unit single (rg single b) = Z at *
      omega
    rw [sv_abs] at h4
    calc unit single (rg single a) * 2 ^ 149 ≤ 1152921504606846976 * unit single (rg single b) * 2 ^ 149 := Nat.mul_le_mul_right _ h4
      _ = (1152921504606846976 * 2 ^ 149) * unit single (rg single b) := by rw [Nat.mul_right_comm]
      _ ≤ 2 ^ 240 * unit single (rg single b) := Nat.mul_le_mul_right _ (by decide +kernel)
  have hlt := rung_low sb2 hr hN
  refine ⟨_, e, ?_⟩
  rw [Nat.min_eq_left (Nat.le_of_lt hlt)]
  obtain ⟨x, hx, h1, h2⟩ := word_err (neg := sgn single a ^^ sgn single b) hr hlt
  rw [hs, ← sb1] at h1 h2
  have hD0 : 0 ≤ sv single b := by rw [sb1]; exact Int.natCast_nonneg _
  have ht : ((8388608 * sv single b : Int) : Rat) * (io * io) = tin * rv b := by rw [Rat.intCast_mul]; unfold tin rv; grind
  have ht0 : 0 ≤ tin * rv b := Rat.mul_nonneg (Rat.le_of_lt tin_pos) (Rat.le_of_lt hb0)
  have hMM : 1000 * (tin * rv b) ≤ M * rv b := by
    have h5 : 1000 * tin ≤ M := by have := tin_small; grind
    have := Rat.mul_le_mul_of_nonneg_right h5 (Rat.le_of_lt hb0)
    grind
  have key := near_of (D := sv single b) (x := x) (s := sv single a * U149) (v := rv a) (y := rv (single.word (sgn single a ^^ sgn single b) r) * rv b) (M := M * rv b) (t := tin * rv b) h1 h2 io2_pos (by rw [Rat.intCast_mul, hx]; unfold rv; grind) hv ht hD0 hMM hlo hhi ht0
  exact ⟨⟨fin_word single _ hlt, word_lt32' _ hlt⟩, key⟩
/-- A word that is known exactly. -/
theorem rv_exact {g w : Nat} {k : Int} (hg : g ≤ 149) (h : In single (149 - g) w k k) : rv w * (((2 ^ g : Nat) : Int) : Rat) = ((k : Int) : Rat) := by
  have e := Int.le_antisymm h.hi h.lo
  unfold rv
  rw [e, Rat.intCast_mul]
  have hU := io_U
  have hp : (((2 ^ (149 - g) : Nat) : Int) : Rat) * (((2 ^ g : Nat) : Int) : Rat) = ((U149 : Int) : Rat) := by
    rw [← Rat.intCast_mul]
    congr 1
    rw [← Int.natCast_mul, ← Nat.pow_add, Nat.sub_add_cancel hg]; rfl
  grind

end Go.Proofs.Ytkhoifgljalfcaa
