/- The words of a plane's disparities and of their points. -/
import Derived.Test.YtkhoifgljalfcaaQd
import Derived.Test.YtkhoifgljalfcaaQe
import Derived.Test.YtkhoifgljalfcaaQg
import Derived.Test.YtkhoifgljalfcaaFm
namespace Go.Proofs.Ytkhoifgljalfcaa
open Go.RowKit Ieee
set_option maxRecDepth 100000
set_option linter.unusedVariables false
set_option linter.unusedSimpArgs false

/-- A word that is k / 2^g, a zero of either sign. -/
structure Ex (g w : Nat) (k : Int) : Prop where
  i : In single (149 - g) w k k
  lt : w < 4294967296
theorem Ex.fw {g w : Nat} {k : Int} (h : Ex g w k) : Fw w := ⟨h.i.fin, h.lt⟩
theorem Ex.sv {g w : Nat} {k : Int} (h : Ex g w k) : sv single w = k * ((2 ^ (149 - g) : Nat) : Int) := Int.le_antisymm h.i.hi h.i.lo
theorem ex_fq {g : Nat} {k : Int} (hg : g ≤ 149) (h : k.natAbs ≤ 16777216) : Ex g (fq g k) k := by
  have e := vv_fq (g := g) h
  exact ⟨⟨(fin32_iff _).2 (fq_fin h), by show _ ≤ vv _; rw [e]; exact Int.le_refl _, by show vv _ ≤ _; rw [e]; exact Int.le_refl _⟩, fq_lt h⟩
theorem ex_of {g w : Nat} {k : Int} (hf : isFin single w) (hl : w < 4294967296) (h : Go.Proofs.Ytkhoifgljalfcaa.sv single w = k * ((2 ^ (149 - g) : Nat) : Int)) : Ex g w k := ⟨⟨hf, by rw [h]; exact Int.le_refl _, by rw [h]; exact Int.le_refl _⟩, hl⟩
theorem Ex.lift {g w : Nat} {k : Int} (h : Ex g w k) (j : Nat) (hg : g + j ≤ 149) : Ex (g + j) w (k * ((2 ^ j : Nat) : Int)) := by
  refine ex_of h.i.fin h.lt ?_
  rw [h.sv, Int.mul_assoc, ← Int.natCast_mul, ← Nat.pow_add]
  congr 4
  omega
theorem Ex.sub {g a b : Nat} {j k : Int} (ha : Ex g a j) (hb : Ex g b k) (h : (j - k).natAbs ≤ 16777216) : ∃ r, floatBits .sub .f32 a b = some r ∧ Ex g r (j - k) := by
  obtain ⟨r, e, i⟩ := in_sub (f := single) (by decide) (grid32 (k := 149 - g) (by omega)) ha.i hb.i (lo := j - k) (hi := j - k) (Int.le_refl _) (Int.le_refl _) (by rw [sg_bin]; omega) (by rw [sg_bin]; omega)
  exact ⟨r, e, i, Ieee.Format.sub_lt single e⟩
theorem Ex.mul {g h a b : Nat} {j k : Int} (ha : Ex g a j) (hb : Ex h b k) (hg : g + h ≤ 149) (hk : (j * k).natAbs ≤ 16777216) : ∃ r, floatBits .mul .f32 a b = some r ∧ Ex (g + h) r (j * k) := by
  have hL : (-single.leastPlace).toNat = 149 := by decide
  have e0 : j * k * ((2 ^ (149 - (g + h)) : Nat) : Int) * ((2 ^ (-single.leastPlace).toNat : Nat) : Int) = Go.Proofs.Ytkhoifgljalfcaa.sv single a * Go.Proofs.Ytkhoifgljalfcaa.sv single b := by
    rw [hL, ha.sv, hb.sv, Int.mul_assoc (j * k), ← Int.natCast_mul, ← Nat.pow_add]
    have : 149 - (g + h) + 149 = (149 - g) + (149 - h) := by omega
    rw [this, Nat.pow_add, Int.natCast_mul]
    generalize ((2 ^ (149 - g) : Nat) : Int) = P
    generalize ((2 ^ (149 - h) : Nat) : Int) = Q
    grind
  obtain ⟨r, e, i⟩ := in_mul (f := single) (by decide) (by decide) (grid32 (k := 149 - (g + h)) (by omega)) ha.i.fin hb.i.fin (lo := j * k) (hi := j * k) (by rw [e0]; exact Int.le_refl _) (by rw [e0]; exact Int.le_refl _) (by rw [sg_bin]; omega) (by rw [sg_bin]; omega)
  exact ⟨r, e, i, Ieee.Format.mul_lt single e⟩
theorem Ex.rv {g w : Nat} {k : Int} (h : Ex g w k) (hg : g ≤ 149) : rv w * (((2 ^ g : Nat) : Int) : Rat) = ((k : Int) : Rat) := rv_exact hg h.i

theorem sv_of_rv {w : Nat} : (0 < rv w → 0 < sv single w) ∧ (rv w ≤ 0 → sv single w ≤ 0) := by
  have hp := io_pos
  constructor
  · intro h
    rcases Int.lt_or_le 0 (sv single w) with g | g
    · exact g
    · exfalso
      have := Rat.mul_le_mul_of_nonneg_right (Rat.intCast_le_intCast.2 g) (Rat.le_of_lt hp)
      have e : ((0 : Int) : Rat) = 0 := rfl
      unfold rv at h
      rw [e] at this
      grind
  · intro h
    rcases Int.lt_or_le 0 (sv single w) with g | g
    · exfalso
      have h1 : (1 : Int) ≤ sv single w := g
      have := Rat.mul_le_mul_of_nonneg_right (Rat.intCast_le_intCast.2 h1) (Rat.le_of_lt hp)
      have e : ((1 : Int) : Rat) = 1 := rfl
      unfold rv at h
      rw [e] at this
      grind
    · exact g
theorem sv_zero32 : sv single 0 = 0 := by decide +kernel
theorem fin_zero32 : fin32 0 = true := by decide
theorem plus_pos {w : Nat} (hf : Fw w) (h : 0 < rv w) : plusB w = true := by
  have hfi := (fin32_iff w).1 hf.1
  unfold plusB
  rw [hfi, lt32_vv fin_zero32 hfi, Bool.true_and, decide_eq_true_iff]
  show sv single 0 < sv single w
  rw [sv_zero32]; exact sv_of_rv.1 h
theorem plus_neg {w : Nat} (hf : Fw w) (h : sv single w ≤ 0) : plusB w = false := by
  have hfi := (fin32_iff w).1 hf.1
  unfold plusB
  rw [hfi, lt32_vv fin_zero32 hfi, Bool.true_and, decide_eq_false_iff_not]
  show ¬ sv single 0 < sv single w
  rw [sv_zero32]; omega

theorem quo_rel {a b : Nat} (ha : Fw a) (hb : Fw b) (h0 : 0 < rv a) (h1 : 0 < rv b) (hlo : rv b ≤ 1000000 * rv a) (hhi : rv a ≤ 1000000 * rv b) : ∃ r, floatBits .quo .f32 a b = some r ∧ Fw r ∧ Wi (rv r * rv b) (rv a) (rv a * eps) ∧ 0 < rv r := by
  have hM : rv a / rv b * rv b = rv a := Rat.div_mul_cancel (by grind)
  generalize rv a / rv b = M at *
  have hl : Mlow ≤ M := by
    have e1 : Mlow ≤ 1 / 1000000 := by decide +kernel
    have e2 : 1 / 1000000 ≤ M := Rat.le_of_mul_le_mul_right (c := rv b) (by grind) h1
    exact Rat.le_trans e1 e2
  have ht : M ≤ Mtop := by
    have e1 : (1000000 : Rat) ≤ Mtop := by decide +kernel
    have e2 : M ≤ 1000000 := Rat.le_of_mul_le_mul_right (c := rv b) (by grind) h1
    exact Rat.le_trans e2 e1
  obtain ⟨r, e, f, k1, k2⟩ := rat_div ha hb h1 hl ht (by rw [hM]; grind) (by rw [hM]; exact Rat.le_refl)
  rw [hM] at k1 k2
  refine ⟨r, e, f, ⟨k1, k2⟩, ?_⟩
  have hs := eps_small
  have := Rat.mul_le_mul_of_nonneg_right hs (Rat.le_of_lt h0)
  have h9 : 0 < rv r * rv b := by grind
  exact Rat.lt_of_mul_lt_mul_right (c := rv b) (by grind) (Rat.le_of_lt h1)

end Go.Proofs.Ytkhoifgljalfcaa
