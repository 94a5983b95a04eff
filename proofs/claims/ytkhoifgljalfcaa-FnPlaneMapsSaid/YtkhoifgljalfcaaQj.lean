/- Gaps of doubles that come of words: the laws' r8Gap, and what a plane's points are compared with. -/
import Derived.Test.YtkhoifgljalfcaaQi
import Derived.Test.YtkhoifgljalfcaaLd
namespace Go.Proofs.Ytkhoifgljalfcaa
open Go.RowKit Ieee
set_option maxRecDepth 100000
set_option linter.unusedVariables false
set_option linter.unusedSimpArgs false

/-- The greater of two doubles, by their order. -/
def mxW (o : Ordering) (x y : Nat) : Nat := match o with | .lt => y | .gt => x | .eq => if (FloatKind.f64.decode x).neg then y else x
theorem mxW_one (o : Ordering) (x y : Nat) : mxW o x y = x ∨ mxW o x y = y := by
  unfold mxW; cases o
  · exact .inr rfl
  · simp only; split
    · exact .inr rfl
    · exact .inl rfl
  · exact .inl rfl
@[go_sem] theorem run_max_f64 {P : Program} {w : World} (ts : Array TypeId) (t : TypeId) (x y : Nat) (o : Ordering) (h : FloatKind.f64.format.order x y = some o) : (Builtin.max_ ts t #[.float .f64 x, .float .f64 y]).run P w = .ok (.float .f64 (mxW o x y)) w := by
  cases o <;> simp [Builtin.max_, Builtin.max2, h, mxW]

theorem gap8_any (w : World) {a b r1 r2 : Nat} (e1 : double.sub a b = some r1) (e2 : double.sub b a = some r2) (f1 : isFin double r1) (f2 : isFin double r2) :
    Calls Try.prog 23 #[.float .f64 a, .float .f64 b] w fun e w' => (∃ r, e = .returned (.float .f64 r) ∧ (r = r1 ∨ r = r2)) ∧ w = w' := by
  have ho := order_fin double f1 f2
  have ho : FloatKind.f64.format.order r1 r2 = some (compare (sv double r1) (sv double r2)) := ho
  generalize compare (sv double r1) (sv double r2) = o at *
  have g1 : ∀ W, fres .sub .f64 a b W = r1 := fun W => fres_some (show floatBits .sub .f64 a b = some r1 from e1) W
  have g2 : fdr .sub .f64 a b = 0 := fdr_some (show floatBits .sub .f64 a b = some r1 from e1)
  have g3 : ∀ W, fres .sub .f64 b a W = r2 := fun W => fres_some (show floatBits .sub .f64 b a = some r2 from e2) W
  have g4 : fdr .sub .f64 b a = 0 := fdr_some (show floatBits .sub .f64 b a = some r2 from e2)
  have hd0 : ∀ W : World, W.drewN 0 = W := fun _ => rfl
  have HM := Lib.hid (mxW_one o r1 r2)
  clear e1 e2 f1 f2
  go_enter Try.func23, Try.ntmps23
  go_wp2_with fail
  go_ret
  exact ⟨⟨_, rfl, HM.out⟩, rfl⟩

/-- A difference whose bounds are told. -/
theorem in_rnd_sub {a b : Nat} {E : Int} (fa : isFin double a) (fb : isFin double b) (h1 : -E * ((2 ^ k64 : Nat) : Int) ≤ sv double a - sv double b) (h2 : sv double a - sv double b ≤ E * ((2 ^ k64 : Nat) : Int)) (hE : E.natAbs ≤ 9007199254740992) : ∃ r, double.sub a b = some r ∧ In double k64 r (-E) E := by
  refine ⟨_, sub_fin double fa fb, in_rnd hf64 (grid64 (by unfold k64; omega)) (by rw [bin64, Int.natAbs_neg]; exact hE) (by rw [bin64]; exact hE) ?_ ?_⟩
  · rw [sI_sum (fun h0 => by rw [if_neg h0]), Nat.pow_zero, Int.natCast_one, Int.mul_one]; exact h1
  · rw [sI_sum (fun h0 => by rw [if_neg h0]), Nat.pow_zero, Int.natCast_one, Int.mul_one]; exact h2
theorem rv_in {w : Nat} {K : Int} (hf : Fw w) (h0 : 0 < rv w) (h1 : rv w ≤ ((K : Int) : Rat)) : In single 149 w 0 K := by
  have a := sv_of_rv.1 h0
  refine ⟨hf.1, by rw [Int.zero_mul]; omega, ?_⟩
  have hp : (0 : Rat) < ((U149 : Int) : Rat) := by decide +kernel
  have b := Rat.mul_le_mul_of_nonneg_right h1 (Rat.le_of_lt hp)
  have e : rv w * ((U149 : Int) : Rat) = ((sv single w : Int) : Rat) := by have := io_U; unfold rv; grind
  rw [e, ← Rat.intCast_mul] at b
  exact Rat.intCast_le_intCast.1 b
theorem rv_i64 {w K : Nat} (hf : Fw w) (h0 : 0 < rv w) (h1 : rv w ≤ (((K : Nat) : Int) : Rat)) : floatToFloatBits .f32 w .f64 = some (wdn w) ∧ I64 (wdn w) ⟨0, K * one40⟩ := by
  obtain ⟨e, d, _, _⟩ := in_wide (k := 149) (s := 40) rfl (rv_in hf h0 h1)
  refine ⟨e, d.fin, ?_, ?_⟩
  · have := d.lo; rw [Int.zero_mul] at this; exact this
  · have := d.hi
    show _ ≤ ((K * one40 : Nat) : Int) * _
    rw [Int.natCast_mul, one40_eq]; exact this

def wMil : Nat := 4562254508917369340
def wCen : Nat := 4576918229304087675
theorem i_mil : I64 wMil ⟨1099511627, 1099511628⟩ := i64_cst (by decide +kernel)
theorem i_cen : I64 wCen ⟨10995116277, 10995116278⟩ := i64_cst (by decide +kernel)

/-- A disparity against itself. -/
theorem flat_gap {d : Nat} (hf : Fw d) (h0 : 0 < rv d) (h1 : rv d ≤ 64) : floatToFloatBits .f32 d .f64 = some (wdn d) ∧ double.mul wMil (wdn d) = some (ml wMil (wdn d)) ∧ ∃ r1, double.sub (wdn d) (wdn d) = some r1 ∧ isFin double r1 ∧ lt64 (ml wMil (wdn d)) r1 = false := by
  obtain ⟨e, i⟩ := rv_i64 (K := 64) hf h0 h1
  obtain ⟨em, im⟩ := i_mil.mul i (by decide +kernel)
  obtain ⟨r, er, ir⟩ := in_rnd_sub i.fin i.fin (E := 0) (by rw [Int.sub_self]; simp) (by rw [Int.sub_self]; simp) (by decide)
  refine ⟨e, em, r, er, ir.fin, ?_⟩
  rw [lt64_sv im.fin ir.fin, decide_eq_false_iff_not]
  have a := im.lo
  have b := ir.hi
  have : (0 : Int) ≤ (((mlI ⟨1099511627, 1099511628⟩ ⟨0, 64 * one40⟩).lo : Nat) : Int) * ((2 ^ k64 : Nat) : Int) := Int.mul_nonneg (Int.natCast_nonneg _) (Int.le_of_lt (pow_pos_z _))
  rw [Int.zero_mul] at b
  omega

/-- A height against a depth. -/
theorem high_gap {z h : Nat} (fz : Fw z) (fh : Fw h) (h0 : 0 < rv z) (h1 : rv z ≤ 900) (hw : Wi (rv h) (rv z) (1 / 400)) : floatToFloatBits .f32 z .f64 = some (wdn z) ∧ floatToFloatBits .f32 h .f64 = some (wdn h) ∧
    double.add wOne (wdn z) = some (ad wOne (wdn z)) ∧ double.mul wCen (ad wOne (wdn z)) = some (ml wCen (ad wOne (wdn z))) ∧
    ∃ r1 r2, double.sub (wdn z) (wdn h) = some r1 ∧ double.sub (wdn h) (wdn z) = some r2 ∧ isFin double r1 ∧ isFin double r2 ∧ lt64 (ml wCen (ad wOne (wdn z))) r1 = false ∧ lt64 (ml wCen (ad wOne (wdn z))) r2 = false := by
  obtain ⟨e, i⟩ := rv_i64 (K := 900) fz h0 h1
  obtain ⟨ea, ia⟩ := i_one.add i (by decide +kernel)
  obtain ⟨em, im⟩ := i_cen.mul ia (by decide +kernel)
  obtain ⟨dh, eh, _, fdh, sgh, uh⟩ := wide_fin ((fin32_iff h).1 fh.1)
  obtain ⟨dz, ez, _, fdz, sgz, uz⟩ := wide_fin ((fin32_iff z).1 fz.1)
  have hdh : wdn h = dh := by unfold wdn; rw [eh]; rfl
  have hdz : wdn z = dz := by unfold wdn; rw [ez]; rfl
  have svh : sv double (wdn h) = sv single h * ((2 ^ kw : Nat) : Int) := by
    rw [hdh]; unfold sv; rw [sgh, uh]; cases sgn single h <;> simp [Int.natCast_mul, Int.neg_mul]
  have svz : sv double (wdn z) = sv single z * ((2 ^ kw : Nat) : Int) := by
    rw [hdz]; unfold sv; rw [sgz, uz]; cases sgn single z <;> simp [Int.natCast_mul, Int.neg_mul]
  have fh' : isFin double (wdn h) := by rw [hdh]; exact fdh
  have eh' : floatToFloatBits .f32 h .f64 = some (wdn h) := by rw [hdh]; exact eh
  have hp : (0 : Rat) < ((U149 : Int) : Rat) := by decide +kernel
  have b1 := Rat.mul_le_mul_of_nonneg_right hw.1 (Rat.le_of_lt hp)
  have b2 := Rat.mul_le_mul_of_nonneg_right hw.2 (Rat.le_of_lt hp)
  have ehr : rv h * ((U149 : Int) : Rat) = ((sv single h : Int) : Rat) := by have := io_U; unfold rv; grind
  have ezr : rv z * ((U149 : Int) : Rat) = ((sv single z : Int) : Rat) := by have := io_U; unfold rv; grind
  have c400 : ((400 : Int) : Rat) = 400 := rfl
  have g1 : (((sv single z - sv single h) * 400 : Int) : Rat) ≤ ((U149 : Int) : Rat) := by
    rw [Rat.intCast_mul, Rat.intCast_sub, c400]; grind
  have g2 : (((sv single h - sv single z) * 400 : Int) : Rat) ≤ ((U149 : Int) : Rat) := by
    rw [Rat.intCast_mul, Rat.intCast_sub, c400]; grind
  have d1 := Rat.intCast_le_intCast.1 g1
  have d2 := Rat.intCast_le_intCast.1 g2
  have hkw := pow_pos_z kw
  have m1 := Int.mul_le_mul_of_nonneg_right d1 (Int.le_of_lt hkw)
  have m2 := Int.mul_le_mul_of_nonneg_right d2 (Int.le_of_lt hkw)
  have hU : U149 * ((2 ^ kw : Nat) : Int) = (one40 : Int) * ((2 ^ k64 : Nat) : Int) := by
    unfold U149
    rw [← Int.natCast_mul, ← Int.natCast_mul, ← Nat.pow_add, one40_eq, ← Nat.pow_add, show 149 + kw = 40 + k64 from rfl]
  rw [hU] at m1 m2
  have n1 : (sv double (wdn z) - sv double (wdn h)) * 400 ≤ (one40 : Int) * ((2 ^ k64 : Nat) : Int) := by rw [svz, svh]; grind
  have n2 : (sv double (wdn h) - sv double (wdn z)) * 400 ≤ (one40 : Int) * ((2 ^ k64 : Nat) : Int) := by rw [svz, svh]; grind
  have hk := pow_pos_z k64
  have hone : (one40 : Int) = 1099511627776 := rfl
  rw [hone] at n1 n2
  clear m1 m2 d1 d2 g1 g2 b1 b2 svh svz hU ehr ezr
  obtain ⟨r1, er1, ir1⟩ := in_rnd_sub i.fin fh' (E := 2748779070) (by generalize ((2 ^ k64 : Nat) : Int) = P at *; omega) (by generalize ((2 ^ k64 : Nat) : Int) = P at *; omega) (by decide)
  obtain ⟨r2, er2, ir2⟩ := in_rnd_sub fh' i.fin (E := 2748779070) (by generalize ((2 ^ k64 : Nat) : Int) = P at *; omega) (by generalize ((2 ^ k64 : Nat) : Int) = P at *; omega) (by decide)
  have hlo : (10995116277 : Int) * ((2 ^ k64 : Nat) : Int) ≤ sv double (ml wCen (ad wOne (wdn z))) := by
    have := im.lo
    have e9 : (((mlI ⟨10995116277, 10995116278⟩ (adI (cI 1) ⟨0, 900 * one40⟩)).lo : Nat) : Int) = 10995116277 := by decide +kernel
    rw [e9] at this; exact this
  refine ⟨e, eh', ea, em, r1, r2, er1, er2, ir1.fin, ir2.fin, ?_, ?_⟩
  · rw [lt64_sv im.fin ir1.fin, decide_eq_false_iff_not]
    have := ir1.hi
    generalize ((2 ^ k64 : Nat) : Int) = P at *
    omega
  · rw [lt64_sv im.fin ir2.fin, decide_eq_false_iff_not]
    have := ir2.hi
    generalize ((2 ^ k64 : Nat) : Int) = P at *
    omega

end Go.Proofs.Ytkhoifgljalfcaa
