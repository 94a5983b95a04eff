/- What the walk of the program's text makes of floating point operations: plain functions of the words. -/
import Derived.Test.YtkhoifgljalfcaaFo
import Derived.WalkKit
import Derived.WalkLawsBesides
import Derived.WalkSpells
import Derived.WalkSmall
import Derived.Laws.FloatArith
import Derived.Laws.Cover2
import Derived.Outline
import Derived.Lib.Hide
import Derived.Deep.Draws
namespace Go.Proofs.Ytkhoifgljalfcaa
open Go.RowKit

/-- A word that is no NaN; the signed rung of a word; comparisons. -/
def nan32 (b : Nat) : Bool := decide (2139095040 < b % 2147483648)
def sr32 (b : Nat) : Int := if b / 2147483648 % 2 = 1 then -((b % 2147483648 : Nat) : Int) else ((b % 2147483648 : Nat) : Int)
def lt32 (a b : Nat) : Bool := !nan32 a && !nan32 b && decide (sr32 a < sr32 b)
def le32 (a b : Nat) : Bool := !nan32 a && !nan32 b && decide (sr32 a ≤ sr32 b)
def eq32 (a b : Nat) : Bool := !nan32 a && !nan32 b && decide (sr32 a = sr32 b)

/-- A word that is no NaN; the signed rung of a word; comparisons. -/
def nan64 (b : Nat) : Bool := decide (9218868437227405312 < b % 9223372036854775808)
def sr64 (b : Nat) : Int := if b / 9223372036854775808 % 2 = 1 then -((b % 9223372036854775808 : Nat) : Int) else ((b % 9223372036854775808 : Nat) : Int)
def lt64 (a b : Nat) : Bool := !nan64 a && !nan64 b && decide (sr64 a < sr64 b)
def le64 (a b : Nat) : Bool := !nan64 a && !nan64 b && decide (sr64 a ≤ sr64 b)
def eq64 (a b : Nat) : Bool := !nan64 a && !nan64 b && decide (sr64 a = sr64 b)

theorem sg_inf : Ieee.single.infRung = 2139095040 := by decide
theorem sg_sw : Ieee.single.signWeight = 2147483648 := by decide
theorem sg_bin : Ieee.single.binade = 8388608 := by decide
theorem sg_fb : Ieee.single.fractionBits = 23 := rfl
theorem sg_L : Ieee.single.leastPlace = -149 := by decide
theorem db_inf : Ieee.double.infRung = 9218868437227405312 := by decide
theorem db_sw : Ieee.double.signWeight = 9223372036854775808 := by decide
theorem db_bin : Ieee.double.binade = 4503599627370496 := by decide
theorem db_fb : Ieee.double.fractionBits = 52 := rfl
theorem db_L : Ieee.double.leastPlace = -1074 := by decide

theorem unit_int_mono {f : Ieee.Format} {a b : Nat} : ((unit f a : Int) < (unit f b : Int)) ↔ a < b := by rw [Int.ofNat_lt]; exact unit_lt_iff f

/-- The order of words is that of their signed rungs. -/
def sr (f : Ieee.Format) (w : Nat) : Int := if sgn f w then -(rg f w : Int) else (rg f w : Int)
theorem unit_pos {f : Ieee.Format} {r : Nat} (h : 0 < r) : 0 < unit f r := by have := unit_lt f h; rw [unit_zero] at this; exact this
theorem sv_lt_iff (f : Ieee.Format) (a b : Nat) : sv f a < sv f b ↔ sr f a < sr f b := by
  unfold sv sr
  have h1 : ∀ x y : Nat, unit f x < unit f y ↔ x < y := fun x y => unit_lt_iff f
  have h2 : ∀ x : Nat, 0 < unit f x ↔ 0 < x := fun x => by have := h1 0 x; rw [unit_zero] at this; exact this
  have a1 := h1 (rg f a) (rg f b)
  have a2 := h1 (rg f b) (rg f a)
  have a3 := h2 (rg f a)
  have a4 := h2 (rg f b)
  cases sgn f a <;> cases sgn f b <;> simp <;> omega
theorem compare_sv (f : Ieee.Format) (a b : Nat) : compare (sv f a) (sv f b) = compare (sr f a) (sr f b) := by
  rcases Int.lt_trichotomy (sr f a) (sr f b) with h | h | h
  · rw [compare_lt h, compare_lt ((sv_lt_iff f a b).2 h)]
  · have h1 : ¬ sv f a < sv f b := by rw [sv_lt_iff]; omega
    have h2 : ¬ sv f b < sv f a := by rw [sv_lt_iff]; omega
    rw [compare_eq h, compare_eq (show sv f a = sv f b by omega)]
  · rw [compare_gt h, compare_gt ((sv_lt_iff f b a).2 h)]
theorem sr_single (w : Nat) : sr Ieee.single w = sr32 w := by
  unfold sr sr32 sgn rg
  rw [sg_sw]
  by_cases h : w / 2147483648 % 2 = 1 <;> simp [h]
theorem notNan_single (w : Nat) : notNan Ieee.single w ↔ nan32 w = false := by
  unfold notNan nan32 rg
  rw [sg_sw, sg_inf, decide_eq_false_iff_not]; omega
theorem order_single (a b : Nat) : Ieee.single.order a b = if nan32 a || nan32 b then none else some (compare (sr32 a) (sr32 b)) := by
  by_cases h : nan32 a || nan32 b
  · rw [if_pos h]
    refine order_nan _ (by decide) ?_
    rw [notNan_single, notNan_single]
    simp only [Bool.or_eq_true] at h
    rcases h with h | h <;> simp [h]
  · rw [if_neg h]
    simp only [Bool.or_eq_true, not_or, Bool.not_eq_true] at h
    rw [order_notNan _ (by decide) ((notNan_single a).2 h.1) ((notNan_single b).2 h.2), compare_sv, sr_single, sr_single]

theorem sr_double (w : Nat) : sr Ieee.double w = sr64 w := by
  unfold sr sr64 sgn rg
  rw [db_sw]
  by_cases h : w / 9223372036854775808 % 2 = 1 <;> simp [h]
theorem notNan_double (w : Nat) : notNan Ieee.double w ↔ nan64 w = false := by
  unfold notNan nan64 rg
  rw [db_sw, db_inf, decide_eq_false_iff_not]; omega
theorem order_double (a b : Nat) : Ieee.double.order a b = if nan64 a || nan64 b then none else some (compare (sr64 a) (sr64 b)) := by
  by_cases h : nan64 a || nan64 b
  · rw [if_pos h]
    refine order_nan _ (by decide) ?_
    rw [notNan_double, notNan_double]
    simp only [Bool.or_eq_true] at h
    rcases h with h | h <;> simp [h]
  · rw [if_neg h]
    simp only [Bool.or_eq_true, not_or, Bool.not_eq_true] at h
    rw [order_notNan _ (by decide) ((notNan_double a).2 h.1) ((notNan_double b).2 h.2), compare_sv, sr_double, sr_double]

theorem cmp_beq_lt (x y : Int) : (some (compare x y) == some Ordering.lt) = decide (x < y) := by
  rcases Int.lt_trichotomy x y with h | h | h
  · rw [compare_lt h]; simp [h]
  · rw [compare_eq h]; subst h; simp
  · rw [compare_gt h]; have : ¬ x < y := by omega
    simp [this]
theorem cmp_beq_gt (x y : Int) : (some (compare x y) == some Ordering.gt) = decide (y < x) := by
  rcases Int.lt_trichotomy x y with h | h | h
  · rw [compare_lt h]; have : ¬ y < x := by omega
    simp [this]
  · rw [compare_eq h]; subst h; simp
  · rw [compare_gt h]; simp [h]
theorem cmp_beq_eq (x y : Int) : (some (compare x y) == some Ordering.eq) = decide (x = y) := by
  rcases Int.lt_trichotomy x y with h | h | h
  · rw [compare_lt h]; have : ¬ x = y := by omega
    simp [this]
  · rw [compare_eq h]; subst h; simp
  · rw [compare_gt h]; have : ¬ x = y := by omega
    simp [this]
theorem none_beq (o : Ordering) : ((none : Option Ordering) == some o) = false := rfl

theorem ord_lt32 (a b : Nat) : (Ieee.single.order a b == some .lt) = lt32 a b := by
  rw [order_single]; unfold lt32
  cases nan32 a <;> cases nan32 b <;> simp only [Bool.or_true, Bool.true_or, Bool.or_self, Bool.false_eq_true, if_true, if_false, none_beq, cmp_beq_lt, Bool.not_true, Bool.not_false, Bool.false_and, Bool.and_false, Bool.true_and]
theorem ord_gt32 (a b : Nat) : (Ieee.single.order a b == some .gt) = lt32 b a := by
  rw [order_single]; unfold lt32
  cases nan32 a <;> cases nan32 b <;> simp only [Bool.or_true, Bool.true_or, Bool.or_self, Bool.false_eq_true, if_true, if_false, none_beq, cmp_beq_gt, Bool.not_true, Bool.not_false, Bool.false_and, Bool.and_false, Bool.true_and]
theorem ord_eq32 (a b : Nat) : (Ieee.single.order a b == some .eq) = eq32 a b := by
  rw [order_single]; unfold eq32
  cases nan32 a <;> cases nan32 b <;> simp only [Bool.or_true, Bool.true_or, Bool.or_self, Bool.false_eq_true, if_true, if_false, none_beq, cmp_beq_eq, Bool.not_true, Bool.not_false, Bool.false_and, Bool.and_false, Bool.true_and]
theorem ord_le32 (a b : Nat) : (lt32 a b || eq32 a b) = le32 a b := by
  unfold lt32 eq32 le32
  cases nan32 a <;> cases nan32 b <;> simp only [Bool.not_true, Bool.not_false, Bool.false_and, Bool.and_false, Bool.true_and, Bool.or_self]
  rw [Bool.eq_iff_iff]; simp; omega

theorem ord_ge32 (a b : Nat) : (lt32 b a || eq32 a b) = le32 b a := by
  have : eq32 a b = eq32 b a := by unfold eq32; rw [Bool.and_comm (!nan32 a)]; congr 1; rw [Bool.eq_iff_iff]; simp; omega
  rw [this, ord_le32]
@[go_sem] theorem w_lt32 (a b : Nat) : (FloatKind.f32.format.order a b == some .lt) = lt32 a b := ord_lt32 a b
@[go_sem] theorem w_gt32 (a b : Nat) : (FloatKind.f32.format.order a b == some .gt) = lt32 b a := ord_gt32 a b
@[go_sem] theorem w_eq32 (a b : Nat) : (FloatKind.f32.format.order a b == some .eq) = eq32 a b := ord_eq32 a b
@[go_sem] theorem w_ne32 (a b : Nat) : (FloatKind.f32.format.order a b != some .eq) = !(eq32 a b) := by rw [← ord_eq32]; rfl
@[go_sem] theorem w_le32 (a b : Nat) : (lt32 a b || eq32 a b) = le32 a b := ord_le32 a b
@[go_sem] theorem w_ge32 (a b : Nat) : (lt32 b a || eq32 a b) = le32 b a := ord_ge32 a b
@[go_sem] theorem eq32_self (b : Nat) : eq32 b b = !nan32 b := by unfold eq32; simp
@[go_sem] theorem lt32_self (b : Nat) : lt32 b b = false := by unfold lt32; simp

theorem ord_lt64 (a b : Nat) : (Ieee.double.order a b == some .lt) = lt64 a b := by
  rw [order_double]; unfold lt64
  cases nan64 a <;> cases nan64 b <;> simp only [Bool.or_true, Bool.true_or, Bool.or_self, Bool.false_eq_true, if_true, if_false, none_beq, cmp_beq_lt, Bool.not_true, Bool.not_false, Bool.false_and, Bool.and_false, Bool.true_and]
theorem ord_gt64 (a b : Nat) : (Ieee.double.order a b == some .gt) = lt64 b a := by
  rw [order_double]; unfold lt64
  cases nan64 a <;> cases nan64 b <;> simp only [Bool.or_true, Bool.true_or, Bool.or_self, Bool.false_eq_true, if_true, if_false, none_beq, cmp_beq_gt, Bool.not_true, Bool.not_false, Bool.false_and, Bool.and_false, Bool.true_and]
theorem ord_eq64 (a b : Nat) : (Ieee.double.order a b == some .eq) = eq64 a b := by
  rw [order_double]; unfold eq64
  cases nan64 a <;> cases nan64 b <;> simp only [Bool.or_true, Bool.true_or, Bool.or_self, Bool.false_eq_true, if_true, if_false, none_beq, cmp_beq_eq, Bool.not_true, Bool.not_false, Bool.false_and, Bool.and_false, Bool.true_and]
theorem ord_le64 (a b : Nat) : (lt64 a b || eq64 a b) = le64 a b := by
  unfold lt64 eq64 le64
  cases nan64 a <;> cases nan64 b <;> simp only [Bool.not_true, Bool.not_false, Bool.false_and, Bool.and_false, Bool.true_and, Bool.or_self]
  rw [Bool.eq_iff_iff]; simp; omega

theorem ord_ge64 (a b : Nat) : (lt64 b a || eq64 a b) = le64 b a := by
  have : eq64 a b = eq64 b a := by unfold eq64; rw [Bool.and_comm (!nan64 a)]; congr 1; rw [Bool.eq_iff_iff]; simp; omega
  rw [this, ord_le64]
@[go_sem] theorem w_lt64 (a b : Nat) : (FloatKind.f64.format.order a b == some .lt) = lt64 a b := ord_lt64 a b
@[go_sem] theorem w_gt64 (a b : Nat) : (FloatKind.f64.format.order a b == some .gt) = lt64 b a := ord_gt64 a b
@[go_sem] theorem w_eq64 (a b : Nat) : (FloatKind.f64.format.order a b == some .eq) = eq64 a b := ord_eq64 a b
@[go_sem] theorem w_ne64 (a b : Nat) : (FloatKind.f64.format.order a b != some .eq) = !(eq64 a b) := by rw [← ord_eq64]; rfl
@[go_sem] theorem w_le64 (a b : Nat) : (lt64 a b || eq64 a b) = le64 a b := ord_le64 a b
@[go_sem] theorem w_ge64 (a b : Nat) : (lt64 b a || eq64 a b) = le64 b a := ord_ge64 a b
@[go_sem] theorem eq64_self (b : Nat) : eq64 b b = !nan64 b := by unfold eq64; simp
@[go_sem] theorem lt64_self (b : Nat) : lt64 b b = false := by unfold lt64; simp

@[go_sem] theorem unary_neg_float (k : FloatKind) (b : Nat) : Op.unary .neg (.float k b) = pure (.float k (Op.negFloat k b)) := rfl
theorem neg32_eq (b : Nat) (h : b < 4294967296) : Op.negFloat .f32 b = if b < 2147483648 then b + 2147483648 else b - 2147483648 := by
  show b ^^^ 2 ^ 31 = _
  have e : b % 2 ^ 31 + 2 ^ 31 * (b / 2 ^ 31) = b := Nat.mod_add_div b _
  have hd : b / 2 ^ 31 = 0 ∨ b / 2 ^ 31 = 1 := by omega
  apply Nat.eq_of_testBit_eq
  intro i
  rw [Nat.testBit_xor, Nat.testBit_two_pow]
  by_cases hb : b < 2147483648
  · rw [if_pos hb, show b + 2147483648 = 2 ^ 31 + b from Nat.add_comm _ _]
    by_cases hi : i = 31
    · subst hi; rw [Nat.testBit_two_pow_add_eq]; simp
    · by_cases hi2 : i < 31
      · rw [Nat.testBit_two_pow_add_gt (by omega), decide_eq_false (by omega), Bool.xor_false]
      · have h1 : b.testBit i = false := Nat.testBit_lt_two_pow (Nat.lt_of_lt_of_le hb (show 2 ^ 31 ≤ 2 ^ i from Nat.pow_le_pow_right (by omega) (by omega)))
        have h2 : (2 ^ 31 + b).testBit i = false := Nat.testBit_lt_two_pow (Nat.lt_of_lt_of_le (show 2 ^ 31 + b < 2 ^ 32 by omega) (Nat.pow_le_pow_right (by omega) (by omega)))
        rw [h1, h2]; simp; omega
  · rw [if_neg hb]
    obtain ⟨c, hc⟩ : ∃ c, b = 2 ^ 31 + c := ⟨b - 2147483648, by omega⟩
    subst hc
    rw [show 2 ^ 31 + c - 2147483648 = c by omega]
    by_cases hi : i = 31
    · subst hi; rw [Nat.testBit_two_pow_add_eq]; simp
    · by_cases hi2 : i < 31
      · rw [Nat.testBit_two_pow_add_gt (by omega), decide_eq_false (by omega), Bool.xor_false]
      · have h1 : (2 ^ 31 + c).testBit i = false := Nat.testBit_lt_two_pow (Nat.lt_of_lt_of_le h (show 2 ^ 32 ≤ 2 ^ i from Nat.pow_le_pow_right (by omega) (by omega)))
        have h2 : c.testBit i = false := Nat.testBit_lt_two_pow (Nat.lt_of_lt_of_le (show c < 2 ^ 31 by omega) (Nat.pow_le_pow_right (by omega) (by omega)))
        rw [h1, h2]; simp; omega
theorem neg64_eq (b : Nat) (h : b < 18446744073709551616) : Op.negFloat .f64 b = if b < 9223372036854775808 then b + 9223372036854775808 else b - 9223372036854775808 := by
  show b ^^^ 2 ^ 63 = _
  have e : b % 2 ^ 63 + 2 ^ 63 * (b / 2 ^ 63) = b := Nat.mod_add_div b _
  have hd : b / 2 ^ 63 = 0 ∨ b / 2 ^ 63 = 1 := by omega
  apply Nat.eq_of_testBit_eq
  intro i
  rw [Nat.testBit_xor, Nat.testBit_two_pow]
  by_cases hb : b < 9223372036854775808
  · rw [if_pos hb, show b + 9223372036854775808 = 2 ^ 63 + b from Nat.add_comm _ _]
    by_cases hi : i = 63
    · subst hi; rw [Nat.testBit_two_pow_add_eq]; simp
    · by_cases hi2 : i < 63
      · rw [Nat.testBit_two_pow_add_gt (by omega), decide_eq_false (by omega), Bool.xor_false]
      · have h1 : b.testBit i = false := Nat.testBit_lt_two_pow (Nat.lt_of_lt_of_le hb (show 2 ^ 63 ≤ 2 ^ i from Nat.pow_le_pow_right (by omega) (by omega)))
        have h2 : (2 ^ 63 + b).testBit i = false := Nat.testBit_lt_two_pow (Nat.lt_of_lt_of_le (show 2 ^ 63 + b < 2 ^ 64 by omega) (Nat.pow_le_pow_right (by omega) (by omega)))
        rw [h1, h2]; simp; omega
  · rw [if_neg hb]
    obtain ⟨c, hc⟩ : ∃ c, b = 2 ^ 63 + c := ⟨b - 9223372036854775808, by omega⟩
    subst hc
    rw [show 2 ^ 63 + c - 9223372036854775808 = c by omega]
    by_cases hi : i = 63
    · subst hi; rw [Nat.testBit_two_pow_add_eq]; simp
    · by_cases hi2 : i < 63
      · rw [Nat.testBit_two_pow_add_gt (by omega), decide_eq_false (by omega), Bool.xor_false]
      · have h1 : (2 ^ 63 + c).testBit i = false := Nat.testBit_lt_two_pow (Nat.lt_of_lt_of_le h (show 2 ^ 64 ≤ 2 ^ i from Nat.pow_le_pow_right (by omega) (by omega)))
        have h2 : c.testBit i = false := Nat.testBit_lt_two_pow (Nat.lt_of_lt_of_le (show c < 2 ^ 63 by omega) (Nat.pow_le_pow_right (by omega) (by omega)))
        rw [h1, h2]; simp; omega

/-! ### Sums, differences, products, quotients, whatever the words: the word that comes, and how often the tape is asked -/
def fdr (op : BinOp) (k : FloatKind) (x y : Nat) : Nat := if (floatBits op k x y).isSome then 0 else 1
def fres (op : BinOp) (k : FloatKind) (x y : Nat) (w : World) : Nat := (floatBits op k x y).getD ((Question.nanBits k x y).cut (w.tape w.drawn (.nanBits k x y)))

section
variable {P : Program} (w : World)
theorem run_fany (op : BinOp) (t : TypeId) (k : FloatKind) (x y : Nat) (h : op = .add ∨ op = .sub ∨ op = .mul ∨ op = .quo) :
    (binOp op t (.float k x) (.float k y)).run P w = .ok (.float k (fres op k x y w)) (w.drewN (fdr op k x y)) := by
  unfold fres fdr
  cases hb : floatBits op k x y with
  | some r => rw [run_float_arith w op t k x y r hb]; rfl
  | none =>
    rcases h with rfl | rfl | rfl | rfl <;> simp only [floatBits] at hb <;> simp [binOp, Op.floatArith, hb, Question.forced, World.drew_is_drewN]
@[go_sem] theorem run_fadd (t : TypeId) (k : FloatKind) (x y : Nat) : (binOp .add t (.float k x) (.float k y)).run P w = .ok (.float k (fres .add k x y w)) (w.drewN (fdr .add k x y)) := run_fany w .add t k x y (by simp)
@[go_sem] theorem run_fsub (t : TypeId) (k : FloatKind) (x y : Nat) : (binOp .sub t (.float k x) (.float k y)).run P w = .ok (.float k (fres .sub k x y w)) (w.drewN (fdr .sub k x y)) := run_fany w .sub t k x y (by simp)
@[go_sem] theorem run_fmul (t : TypeId) (k : FloatKind) (x y : Nat) : (binOp .mul t (.float k x) (.float k y)).run P w = .ok (.float k (fres .mul k x y w)) (w.drewN (fdr .mul k x y)) := run_fany w .mul t k x y (by simp)
@[go_sem] theorem run_fquo (t : TypeId) (k : FloatKind) (x y : Nat) : (binOp .quo t (.float k x) (.float k y)).run P w = .ok (.float k (fres .quo k x y w)) (w.drewN (fdr .quo k x y)) := run_fany w .quo t k x y (by simp)
end

/-- A NaN that the tape told is a NaN. -/
theorem nan_shape32 (a b : Nat) (h1 : a < 2) (h2 : b < 8388607) : nan32 (a * 2147483648 + 2139095040 + 1 + b) = true ∧ a * 2147483648 + 2139095040 + 1 + b < 4294967296 := by
  unfold nan32; rw [decide_eq_true_eq]; omega
theorem nan_shape64 (a b : Nat) (h1 : a < 2) (h2 : b < 4503599627370495) : nan64 (a * 9223372036854775808 + 9218868437227405312 + 1 + b) = true ∧ a * 9223372036854775808 + 9218868437227405312 + 1 + b < 18446744073709551616 := by
  unfold nan64; rw [decide_eq_true_eq]; omega
theorem cut_nan32 (x y t : Nat) : nan32 ((Question.nanBits .f32 x y).cut t) = true ∧ (Question.nanBits .f32 x y).cut t < 4294967296 :=
  nan_shape32 (t % 2) (t / 2 % 8388607) (Nat.mod_lt _ (by omega)) (Nat.mod_lt _ (by omega))
theorem cut_nan64 (x y t : Nat) : nan64 ((Question.nanBits .f64 x y).cut t) = true ∧ (Question.nanBits .f64 x y).cut t < 18446744073709551616 :=
  nan_shape64 (t % 2) (t / 2 % 4503599627370495) (Nat.mod_lt _ (by omega)) (Nat.mod_lt _ (by omega))

/-- The word that stands for a number: one NaN for all. -/
def fl (b : Nat) : Nat := if nan32 b then 2143289344 else b
def fl64 (b : Nat) : Nat := if nan64 b then 9221120237041090560 else b
theorem nan32_fl (b : Nat) : nan32 (fl b) = nan32 b := by
  unfold fl
  cases h : nan32 b
  · simpa using h
  · rfl
theorem nan64_fl (b : Nat) : nan64 (fl64 b) = nan64 b := by
  unfold fl64
  cases h : nan64 b
  · simpa using h
  · rfl
theorem fl_eq {b : Nat} (h : nan32 b = false) : fl b = b := by unfold fl; simp [h]
theorem fl64_eq {b : Nat} (h : nan64 b = false) : fl64 b = b := by unfold fl64; simp [h]
theorem fl_nan {b : Nat} (h : nan32 b = true) : fl b = 2143289344 := by unfold fl; simp [h]
theorem fl64_nan {b : Nat} (h : nan64 b = true) : fl64 b = 9221120237041090560 := by unfold fl64; simp [h]
theorem fl_fl (b : Nat) : fl (fl b) = fl b := by
  cases h : nan32 b
  · rw [fl_eq h, fl_eq h]
  · rw [fl_nan h]; rfl
theorem fl64_fl (b : Nat) : fl64 (fl64 b) = fl64 b := by
  cases h : nan64 b
  · rw [fl64_eq h, fl64_eq h]
  · rw [fl64_nan h]; rfl
theorem fl_lt {b : Nat} (h : b < 4294967296) : fl b < 4294967296 := by unfold fl; split <;> omega
theorem fl64_lt {b : Nat} (h : b < 18446744073709551616) : fl64 b < 18446744073709551616 := by unfold fl64; split <;> omega
theorem read_nan32 {b : Nat} (h : nan32 b = true) : ∃ s t, Ieee.single.read b = .nan s t := by
  unfold nan32 at h
  obtain ⟨t, e⟩ := read_nan Ieee.single (by decide) (show Ieee.single.infRung < rg Ieee.single b by unfold rg; rw [sg_inf, sg_sw]; simpa using h)
  exact ⟨_, t, e⟩
theorem read_nan64 {b : Nat} (h : nan64 b = true) : ∃ s t, Ieee.double.read b = .nan s t := by
  unfold nan64 at h
  obtain ⟨t, e⟩ := read_nan Ieee.double (by decide) (show Ieee.double.infRung < rg Ieee.double b by unfold rg; rw [db_inf, db_sw]; simpa using h)
  exact ⟨_, t, e⟩
theorem quotient_nan_r (n : Nat) (d : Ieee.Datum) (s : Bool) (t : Nat) : d.quotient n (.nan s t) = none := by cases d <;> rfl
theorem product_nan_r (d : Ieee.Datum) (s : Bool) (t : Nat) : d.product (.nan s t) = none := by cases d <;> rfl
theorem sum_nan_r (d : Ieee.Datum) (s : Bool) (t : Nat) : d.sum (.nan s t) = none := by cases d <;> rfl

/-- An operation with a NaN has no number. -/
theorem floatBits_nan32 (op : BinOp) {x y : Nat} (h : nan32 x = true ∨ nan32 y = true) : floatBits op .f32 x y = none := by
  rcases h with h | h
  · obtain ⟨s, t, e⟩ := read_nan32 h
    unfold floatBits FloatKind.format
    cases op <;> simp [Ieee.Format.add, Ieee.Format.sub, Ieee.Format.mul, Ieee.Format.div, e, Ieee.Datum.sum, Ieee.Datum.product, Ieee.Datum.quotient]
  · obtain ⟨s, t, e⟩ := read_nan32 h
    unfold floatBits FloatKind.format
    cases op <;> simp [Ieee.Format.add, Ieee.Format.sub, Ieee.Format.mul, Ieee.Format.div, e, Ieee.Datum.opposite, sum_nan_r, product_nan_r, quotient_nan_r]
theorem floatBits_nan64 (op : BinOp) {x y : Nat} (h : nan64 x = true ∨ nan64 y = true) : floatBits op .f64 x y = none := by
  rcases h with h | h
  · obtain ⟨s, t, e⟩ := read_nan64 h
    unfold floatBits FloatKind.format
    cases op <;> simp [Ieee.Format.add, Ieee.Format.sub, Ieee.Format.mul, Ieee.Format.div, e, Ieee.Datum.sum, Ieee.Datum.product, Ieee.Datum.quotient]
  · obtain ⟨s, t, e⟩ := read_nan64 h
    unfold floatBits FloatKind.format
    cases op <;> simp [Ieee.Format.add, Ieee.Format.sub, Ieee.Format.mul, Ieee.Format.div, e, Ieee.Datum.opposite, sum_nan_r, product_nan_r, quotient_nan_r]
theorem floatBits_fl (op : BinOp) (x y : Nat) : floatBits op .f32 (fl x) (fl y) = floatBits op .f32 x y := by
  cases hx : nan32 x
  · cases hy : nan32 y
    · rw [fl_eq hx, fl_eq hy]
    · rw [floatBits_nan32 op (.inr hy), floatBits_nan32 op (.inr (by rw [nan32_fl]; exact hy))]
  · rw [floatBits_nan32 op (.inl hx), floatBits_nan32 op (.inl (by rw [nan32_fl]; exact hx))]
theorem floatBits_fl64 (op : BinOp) (x y : Nat) : floatBits op .f64 (fl64 x) (fl64 y) = floatBits op .f64 x y := by
  cases hx : nan64 x
  · cases hy : nan64 y
    · rw [fl64_eq hx, fl64_eq hy]
    · rw [floatBits_nan64 op (.inr hy), floatBits_nan64 op (.inr (by rw [nan64_fl]; exact hy))]
  · rw [floatBits_nan64 op (.inl hx), floatBits_nan64 op (.inl (by rw [nan64_fl]; exact hx))]

/-- The operations on the words that stand for numbers. -/
def fop (op : BinOp) (x y : Nat) : Nat := match floatBits op .f32 x y with | some r => fl r | none => 2143289344
def fop64 (op : BinOp) (x y : Nat) : Nat := match floatBits op .f64 x y with | some r => fl64 r | none => 9221120237041090560
theorem fl_fres (op : BinOp) (x y : Nat) (w : World) : fl (fres op .f32 x y w) = fop op (fl x) (fl y) := by
  unfold fres fop
  rw [floatBits_fl]
  cases floatBits op .f32 x y with
  | some r => rfl
  | none => exact fl_nan (cut_nan32 x y _).1
theorem fl_fres64 (op : BinOp) (x y : Nat) (w : World) : fl64 (fres op .f64 x y w) = fop64 op (fl64 x) (fl64 y) := by
  unfold fres fop64
  rw [floatBits_fl64]
  cases floatBits op .f64 x y with
  | some r => rfl
  | none => exact fl64_nan (cut_nan64 x y _).1
theorem fres_lt (op : BinOp) (x y : Nat) (w : World) : fres op .f32 x y w < 4294967296 := by
  unfold fres
  cases h : floatBits op .f32 x y with
  | some r => have := floatBits_wf h; simpa [Lit.wf] using this
  | none => exact (cut_nan32 x y _).2
theorem fres_lt64 (op : BinOp) (x y : Nat) (w : World) : fres op .f64 x y w < 18446744073709551616 := by
  unfold fres
  cases h : floatBits op .f64 x y with
  | some r => have := floatBits_wf h; simpa [Lit.wf] using this
  | none => exact (cut_nan64 x y _).2
theorem fres_some {op : BinOp} {k : FloatKind} {x y r : Nat} (h : floatBits op k x y = some r) (w : World) : fres op k x y w = r := by unfold fres; rw [h]; rfl
theorem fdr_some {op : BinOp} {k : FloatKind} {x y r : Nat} (h : floatBits op k x y = some r) : fdr op k x y = 0 := by unfold fdr; rw [h]; rfl
theorem fres_none {op : BinOp} {x y : Nat} (h : floatBits op .f32 x y = none) (w : World) : nan32 (fres op .f32 x y w) = true := by unfold fres; rw [h]; exact (cut_nan32 x y _).1
theorem fres_none64 {op : BinOp} {x y : Nat} (h : floatBits op .f64 x y = none) (w : World) : nan64 (fres op .f64 x y w) = true := by unfold fres; rw [h]; exact (cut_nan64 x y _).1
/-- Comparisons see but the words that stand for numbers. -/
theorem sr32_fl {b : Nat} (h : nan32 b = false) : sr32 (fl b) = sr32 b := by rw [fl_eq h]
theorem lt32_fl (a b : Nat) : lt32 (fl a) (fl b) = lt32 a b := by
  unfold lt32; rw [nan32_fl, nan32_fl]
  cases ha : nan32 a <;> cases hb : nan32 b <;> simp [fl_eq, ha, hb]
theorem le32_fl (a b : Nat) : le32 (fl a) (fl b) = le32 a b := by
  unfold le32; rw [nan32_fl, nan32_fl]
  cases ha : nan32 a <;> cases hb : nan32 b <;> simp [fl_eq, ha, hb]
theorem eq32_fl (a b : Nat) : eq32 (fl a) (fl b) = eq32 a b := by
  unfold eq32; rw [nan32_fl, nan32_fl]
  cases ha : nan32 a <;> cases hb : nan32 b <;> simp [fl_eq, ha, hb]
theorem lt64_fl (a b : Nat) : lt64 (fl64 a) (fl64 b) = lt64 a b := by
  unfold lt64; rw [nan64_fl, nan64_fl]
  cases ha : nan64 a <;> cases hb : nan64 b <;> simp [fl64_eq, ha, hb]
theorem le64_fl (a b : Nat) : le64 (fl64 a) (fl64 b) = le64 a b := by
  unfold le64; rw [nan64_fl, nan64_fl]
  cases ha : nan64 a <;> cases hb : nan64 b <;> simp [fl64_eq, ha, hb]
theorem eq64_fl (a b : Nat) : eq64 (fl64 a) (fl64 b) = eq64 a b := by
  unfold eq64; rw [nan64_fl, nan64_fl]
  cases ha : nan64 a <;> cases hb : nan64 b <;> simp [fl64_eq, ha, hb]
/-- Finite words. -/
def fin32 (b : Nat) : Bool := decide (b % 2147483648 < 2139095040)
def fin64 (b : Nat) : Bool := decide (b % 9223372036854775808 < 9218868437227405312)
theorem fin32_iff (b : Nat) : isFin Ieee.single b ↔ fin32 b = true := by unfold isFin fin32 rg; rw [sg_sw, sg_inf]; simp
theorem fin64_iff (b : Nat) : isFin Ieee.double b ↔ fin64 b = true := by unfold isFin fin64 rg; rw [db_sw, db_inf]; simp
theorem nan_of_fin32 {b : Nat} (h : fin32 b = true) : nan32 b = false := by unfold fin32 at h; unfold nan32; simp at *; omega
theorem nan_of_fin64 {b : Nat} (h : fin64 b = true) : nan64 b = false := by unfold fin64 at h; unfold nan64; simp at *; omega

/-- x - x is +0 for a finite number, and a NaN for another one. -/
theorem fsub_self (b : Nat) (w : World) : eq32 (fres .sub .f32 b b w) 0 = fin32 b := by
  by_cases h : fin32 b = true
  · have hf := (fin32_iff b).2 h
    have e : floatBits .sub .f32 b b = some 0 := by
      show Ieee.single.sub b b = some 0
      rw [sub_fin _ hf hf]
      have : sv Ieee.single b - sv Ieee.single b = 0 := by omega
      rw [this]
      cases sgn Ieee.single b <;> rfl
    rw [fres_some e, h]; rfl
  · have hnf : fin32 b = false := by simpa using h
    have e : floatBits .sub .f32 b b = none := by
      cases hn : nan32 b
      · have hi : rg Ieee.single b = Ieee.single.infRung := by
          unfold rg; rw [sg_sw, sg_inf]; unfold fin32 at hnf; unfold nan32 at hn; simp at *; omega
        show Ieee.single.sub b b = none
        unfold Ieee.Format.sub
        rw [read_inf _ (by decide) hi]
        cases sgn Ieee.single b <;> rfl
      · exact floatBits_nan32 _ (.inl hn)
    have := fres_none e w
    rw [hnf]; unfold eq32; rw [this]; rfl

end Go.Proofs.Ytkhoifgljalfcaa
