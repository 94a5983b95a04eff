/- Intervals of doubles in units of 2^-40, reckoned with: sums, differences, products, quotients, roots; to 32 bits and back. No program. -/
import Derived.Test.YtkhoifgljalfcaaLa
namespace Go.Proofs.Ytkhoifgljalfcaa
open Ieee
set_option linter.unusedVariables false
set_option linter.unusedSimpArgs false

/-- An interval of what is not below zero, in units of 2^-40. -/
structure Iv where
  lo : Nat
  hi : Nat
def k64 : Nat := 1034
def one40 : Nat := 1099511627776
def top53 : Nat := 9007199254740992
theorem one40_eq : one40 = 2 ^ 40 := rfl
theorem bin64 : 2 * double.binade = top53 := by rw [db_bin]; rfl
/-- A double in an interval. -/
def I64 (w : Nat) (A : Iv) : Prop := In double k64 w (A.lo : Int) (A.hi : Int)
def dv (a b : Nat) : Nat := (double.div a b).getD 0
def ml (a b : Nat) : Nat := (double.mul a b).getD 0
def ad (a b : Nat) : Nat := (double.add a b).getD 0
def sb (a b : Nat) : Nat := (double.sub a b).getD 0
def sq (a : Nat) : Nat := (double.sqrt a).getD 0
theorem of_ex {o : Option Nat} {Q : Nat → Prop} (h : ∃ r, o = some r ∧ Q r) : o = some (o.getD 0) ∧ Q (o.getD 0) := by
  obtain ⟨r, e, q⟩ := h
  rw [e]; exact ⟨rfl, q⟩
theorem hf64 : 1 ≤ double.fractionBits := by decide
theorem hL64 : double.leastPlace ≤ 0 := by decide
theorem toL64 : (-double.leastPlace).toNat = 40 + k64 := by rw [db_L]; rfl

def adI (A B : Iv) : Iv := ⟨A.lo + B.lo, A.hi + B.hi⟩
def sbI (A B : Iv) : Iv := ⟨A.lo - B.hi, A.hi - B.lo⟩
def mlI (A B : Iv) : Iv := ⟨A.lo * B.lo / one40, (A.hi * B.hi + (one40 - 1)) / one40⟩
def dvI (A B : Iv) : Iv := ⟨A.lo * one40 / B.hi, (A.hi * one40 + (B.lo - 1)) / B.lo⟩
/-- What the reckoning asks of a result. -/
def Iv.ok (A : Iv) : Bool := Nat.ble A.lo A.hi && Nat.ble A.hi top53
theorem Iv.ok_hi {A : Iv} (h : A.ok = true) : A.lo ≤ A.hi ∧ A.hi ≤ top53 := by
  unfold Iv.ok at h
  rw [Bool.and_eq_true] at h
  exact ⟨Nat.le_of_ble_eq_true h.1, Nat.le_of_ble_eq_true h.2⟩
theorem Iv.small {A : Iv} (h : A.ok = true) : ((A.lo : Int)).natAbs ≤ 2 * double.binade ∧ ((A.hi : Int)).natAbs ≤ 2 * double.binade := by
  have := Iv.ok_hi h
  rw [bin64, Int.natAbs_natCast, Int.natAbs_natCast]
  exact ⟨Nat.le_trans this.1 this.2, this.2⟩

theorem I64.add {a b : Nat} {A B : Iv} (ha : I64 a A) (hb : I64 b B) (ok : (adI A B).ok = true) : double.add a b = some (ad a b) ∧ I64 (ad a b) (adI A B) :=
  of_ex (in_add hf64 (grid64 (by unfold k64; omega)) ha hb (by unfold adI; simp) (by unfold adI; simp) (Iv.small ok).1 (Iv.small ok).2)
theorem I64.sub {a b : Nat} {A B : Iv} (ha : I64 a A) (hb : I64 b B) (ok : (sbI A B).ok = true) (hle : B.hi ≤ A.lo) : double.sub a b = some (sb a b) ∧ I64 (sb a b) (sbI A B) :=
  of_ex (in_sub hf64 (grid64 (by unfold k64; omega)) ha hb (by unfold sbI; simp only; omega) (by unfold sbI; simp only; omega) (Iv.small ok).1 (Iv.small ok).2)
theorem nat_pos_scale {w : Nat} {A : Iv} (h : I64 w A) : ∃ s : Nat, sv double w = (s : Int) ∧ A.lo * 2 ^ k64 ≤ s ∧ s ≤ A.hi * 2 ^ k64 := by
  have h1 := h.lo
  have h2 := h.hi
  rw [← Int.natCast_mul] at h1 h2
  obtain ⟨s, hs⟩ := Int.eq_ofNat_of_zero_le (show 0 ≤ sv double w by omega)
  rw [hs] at h1 h2
  exact ⟨s, hs, Int.ofNat_le.1 h1, Int.ofNat_le.1 h2⟩
theorem I64.mul {a b : Nat} {A B : Iv} (ha : I64 a A) (hb : I64 b B) (ok : (mlI A B).ok = true) : double.mul a b = some (ml a b) ∧ I64 (ml a b) (mlI A B) := by
  obtain ⟨s, es, s1, s2⟩ := nat_pos_scale ha
  obtain ⟨t, et, t1, t2⟩ := nat_pos_scale hb
  refine of_ex (in_mul hf64 hL64 (grid64 (by unfold k64; omega)) ha.fin hb.fin ?_ ?_ (Iv.small ok).1 (Iv.small ok).2)
  · rw [toL64, es, et, ← Int.natCast_mul, ← Int.natCast_mul, ← Int.natCast_mul]
    refine Int.ofNat_le.2 (Nat.le_trans ?_ (Nat.mul_le_mul s1 t1))
    show A.lo * B.lo / one40 * 2 ^ k64 * 2 ^ (40 + k64) ≤ A.lo * 2 ^ k64 * (B.lo * 2 ^ k64)
    have := Nat.div_mul_le_self (A.lo * B.lo) one40
    rw [Nat.pow_add, ← one40_eq]
    generalize 2 ^ k64 = p at *
    calc A.lo * B.lo / one40 * p * (one40 * p) = A.lo * B.lo / one40 * one40 * (p * p) := by rw [Nat.mul_mul_mul_comm]
      _ ≤ A.lo * B.lo * (p * p) := Nat.mul_le_mul_right _ this
      _ = _ := by rw [Nat.mul_mul_mul_comm]
  · rw [toL64, es, et, ← Int.natCast_mul, ← Int.natCast_mul, ← Int.natCast_mul]
    refine Int.ofNat_le.2 (Nat.le_trans (Nat.mul_le_mul s2 t2) ?_)
    show A.hi * 2 ^ k64 * (B.hi * 2 ^ k64) ≤ (A.hi * B.hi + (one40 - 1)) / one40 * 2 ^ k64 * 2 ^ (40 + k64)
    have : A.hi * B.hi ≤ (A.hi * B.hi + (one40 - 1)) / one40 * one40 := by unfold one40; omega
    rw [Nat.pow_add, ← one40_eq]
    generalize 2 ^ k64 = p at *
    calc A.hi * p * (B.hi * p) = A.hi * B.hi * (p * p) := by rw [Nat.mul_mul_mul_comm]
      _ ≤ (A.hi * B.hi + (one40 - 1)) / one40 * one40 * (p * p) := Nat.mul_le_mul_right _ this
      _ = _ := by rw [Nat.mul_mul_mul_comm]
theorem ceil_mul (x b : Nat) (hb : 0 < b) : x ≤ (x + (b - 1)) / b * b := by
  have := Nat.div_add_mod (x + (b - 1)) b
  have := Nat.mod_lt (x + (b - 1)) hb
  rw [Nat.mul_comm]
  omega
theorem I64.div {a b : Nat} {A B : Iv} (ha : I64 a A) (hb : I64 b B) (ok : (dvI A B).ok = true) (h0 : 0 < B.lo) : double.div a b = some (dv a b) ∧ I64 (dv a b) (dvI A B) := by
  obtain ⟨s, es, s1, s2⟩ := nat_pos_scale ha
  obtain ⟨t, et, t1, t2⟩ := nat_pos_scale hb
  have hp := Nat.two_pow_pos k64
  have ht0 : 0 < t := Nat.lt_of_lt_of_le (Nat.mul_pos h0 hp) t1
  refine of_ex (in_div hf64 hL64 (grid64 (by unfold k64; omega)) ha.fin hb.fin (by rw [et]; exact Int.ofNat_lt.2 ht0) ?_ ?_ (Iv.small ok).1 (Iv.small ok).2)
  · rw [toL64, es, et, ← Int.natCast_mul, ← Int.natCast_mul, ← Int.natCast_mul]
    refine Int.ofNat_le.2 ?_
    show A.lo * one40 / B.hi * 2 ^ k64 * t ≤ s * 2 ^ (40 + k64)
    have := Nat.div_mul_le_self (A.lo * one40) B.hi
    rw [Nat.pow_add, ← one40_eq]
    generalize 2 ^ k64 = p at *
    calc A.lo * one40 / B.hi * p * t ≤ A.lo * one40 / B.hi * p * (B.hi * p) := Nat.mul_le_mul_left _ t2
      _ = A.lo * one40 / B.hi * B.hi * (p * p) := by rw [Nat.mul_mul_mul_comm]
      _ ≤ A.lo * one40 * (p * p) := Nat.mul_le_mul_right _ this
      _ = A.lo * p * (one40 * p) := by rw [Nat.mul_mul_mul_comm]
      _ ≤ s * (one40 * p) := Nat.mul_le_mul_right _ s1
  · rw [toL64, es, et, ← Int.natCast_mul, ← Int.natCast_mul, ← Int.natCast_mul]
    refine Int.ofNat_le.2 ?_
    show s * 2 ^ (40 + k64) ≤ (A.hi * one40 + (B.lo - 1)) / B.lo * 2 ^ k64 * t
    have := ceil_mul (A.hi * one40) B.lo h0
    rw [Nat.pow_add, ← one40_eq]
    generalize 2 ^ k64 = p at *
    calc s * (one40 * p) ≤ A.hi * p * (one40 * p) := Nat.mul_le_mul_right _ s2
      _ = A.hi * one40 * (p * p) := by rw [Nat.mul_mul_mul_comm]
      _ ≤ (A.hi * one40 + (B.lo - 1)) / B.lo * B.lo * (p * p) := Nat.mul_le_mul_right _ this
      _ = (A.hi * one40 + (B.lo - 1)) / B.lo * p * (B.lo * p) := by rw [Nat.mul_mul_mul_comm]
      _ ≤ _ := Nat.mul_le_mul_left _ t1

/-- An approach to a root, by Newton's steps. -/
def newt : Nat → Nat → Nat → Nat
  | 0, _, x => x
  | j + 1, n, x => newt j n ((x + n / x) / 2)
def sqI (A : Iv) : Iv := ⟨newt 9 (A.lo * one40) one40 - 2, newt 9 (A.hi * one40) one40 + 2⟩
def sqOk (A R : Iv) : Bool := Nat.ble (R.lo * R.lo) (A.lo * one40) && Nat.ble (A.hi * one40) (R.hi * R.hi) && Nat.blt 0 A.lo
theorem I64.sqrt {a : Nat} {A R : Iv} (ha : I64 a A) (hR : sqOk A R = true) (ok : R.ok = true) : double.sqrt a = some (sq a) ∧ I64 (sq a) R := by
  unfold sqOk at hR
  rw [Bool.and_eq_true, Bool.and_eq_true] at hR
  have h1 := Nat.le_of_ble_eq_true hR.1.1
  have h2 := Nat.le_of_ble_eq_true hR.1.2
  have h0 : 0 < A.lo := by have := hR.2; unfold Nat.blt at this; exact Nat.le_of_ble_eq_true this
  obtain ⟨s, es, s1, s2⟩ := nat_pos_scale ha
  have hp := Nat.two_pow_pos k64
  have hs0 : 0 < s := Nat.lt_of_lt_of_le (Nat.mul_pos h0 hp) s1
  have hsa : sgn double a = false ∧ sv double a = (unit double (rg double a) : Int) := by
    unfold sv at es ⊢
    cases hs : sgn double a
    · simp
    · rw [hs] at es; simp at es; omega
  have hu : unit double (rg double a) = s := by have := hsa.2; omega
  obtain ⟨r, er, hri, hlo, hhi⟩ := sqrt_dbl ha.fin hsa.1 (by rw [hu]; exact hs0)
  have hro := Iv.ok_hi ok
  obtain ⟨rl, il, ul⟩ := grid64 (k := k64) (by unfold k64; omega) R.lo (by rw [bin64]; omega)
  obtain ⟨rh, ih, uh⟩ := grid64 (k := k64) (by unfold k64; omega) R.hi (by rw [bin64]; omega)
  have hkd : kd = 40 + k64 := rfl
  have a1 : rl ≤ r := by
    apply hlo rl _ (Nat.le_of_lt il)
    rw [ul, hu, hkd, Nat.pow_add, ← one40_eq]
    generalize 2 ^ k64 = p at *
    calc R.lo * p * (R.lo * p) = R.lo * R.lo * (p * p) := by rw [Nat.mul_mul_mul_comm]
      _ ≤ A.lo * one40 * (p * p) := Nat.mul_le_mul_right _ h1
      _ = A.lo * p * (one40 * p) := by rw [Nat.mul_mul_mul_comm]
      _ ≤ _ := Nat.mul_le_mul_right _ s1
  have a2 : r ≤ rh := by
    apply hhi
    rw [uh, hu, hkd, Nat.pow_add, ← one40_eq]
    generalize 2 ^ k64 = p at *
    calc s * (one40 * p) ≤ A.hi * p * (one40 * p) := Nat.mul_le_mul_right _ s2
      _ = A.hi * one40 * (p * p) := by rw [Nat.mul_mul_mul_comm]
      _ ≤ R.hi * R.hi * (p * p) := Nat.mul_le_mul_right _ h2
      _ = _ := by rw [Nat.mul_mul_mul_comm]
  have hrlt : r < double.infRung := Nat.lt_of_le_of_lt a2 ih
  have key : ∃ r, double.sqrt a = some r ∧ In double k64 r (R.lo : Int) (R.hi : Int) := by
    refine ⟨_, er, ?_⟩
    refine ⟨fin_word double false hrlt, ?_, ?_⟩
    · rw [sv_word double false (Nat.lt_trans hrlt double.infRung_lt), ← Int.natCast_mul]
      simp only [Bool.false_eq_true, if_false]
      rw [← ul]
      exact Int.ofNat_le.2 (unit_mono double a1)
    · rw [sv_word double false (Nat.lt_trans hrlt double.infRung_lt), ← Int.natCast_mul]
      simp only [Bool.false_eq_true, if_false]
      rw [← uh]
      exact Int.ofNat_le.2 (unit_mono double a2)
  exact of_ex key
theorem I64.mono {a : Nat} {A B : Iv} (h : I64 a A) (h1 : B.lo ≤ A.lo) (h2 : A.hi ≤ B.hi) : I64 a B :=
  ⟨h.fin, Int.le_trans (Int.mul_le_mul_of_nonneg_right (Int.ofNat_le.2 h1) (Int.le_of_lt (pow_pos_z _))) h.lo, Int.le_trans h.hi (Int.mul_le_mul_of_nonneg_right (Int.ofNat_le.2 h2) (Int.le_of_lt (pow_pos_z _)))⟩

end Go.Proofs.Ytkhoifgljalfcaa
