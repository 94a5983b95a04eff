/- Intervals: to 32 bits and back, opposites, the sine's ways, gaps. No program. -/
import Derived.Test.YtkhoifgljalfcaaLc
import Derived.Test.YtkhoifgljalfcaaFg
namespace Go.Proofs.Ytkhoifgljalfcaa
open Ieee
set_option linter.unusedVariables false
set_option linter.unusedSimpArgs false

theorem in_mono {f : Format} {k w : Nat} {lo hi lo' hi' : Int} (h : In f k w lo hi) (h1 : lo' ≤ lo) (h2 : hi ≤ hi') : In f k w lo' hi' :=
  ⟨h.fin, Int.le_trans (Int.mul_le_mul_of_nonneg_right h1 (Int.le_of_lt (pow_pos_z _))) h.lo, Int.le_trans h.hi (Int.mul_le_mul_of_nonneg_right h2 (Int.le_of_lt (pow_pos_z _)))⟩
theorem in_neg {f : Format} {k w : Nat} {lo hi : Int} (h : In f k w lo hi) : In f k (neg_ f w) (-hi) (-lo) := by
  refine ⟨(isFin_neg f).2 h.fin, ?_, ?_⟩
  · rw [sv_neg, Int.neg_mul]; have := h.hi; omega
  · rw [sv_neg, Int.neg_mul]; have := h.lo; omega
theorem neg64_is {b : Nat} (h : b < 18446744073709551616) : Op.negFloat .f64 b = neg_ double b := by
  rw [neg64_eq b h]
  unfold neg_ sgn rg Format.word
  rw [db_sw]
  split <;> split <;> simp_all <;> omega
theorem neg32_is {b : Nat} (h : b < 4294967296) : Op.negFloat .f32 b = neg_ single b := by
  rw [neg32_eq b h]
  unfold neg_ sgn rg Format.word
  rw [sg_sw]
  split <;> split <;> simp_all <;> omega
theorem word_lt64 (neg : Bool) {r : Nat} (h : r ≤ double.infRung) : double.word neg r < 18446744073709551616 :=
  double.word_lt neg (Nat.lt_of_le_of_lt h double.infRung_lt)
theorem word_lt32 (neg : Bool) {r : Nat} (h : r ≤ single.infRung) : single.word neg r < 4294967296 :=
  single.word_lt neg (Nat.lt_of_le_of_lt h single.infRung_lt)

/-- The word of 32 bits, the word of 64 bits. -/
def nr (c : Nat) : Nat := (floatToFloatBits .f64 c .f32).getD 0
def wdn (w : Nat) : Nat := (floatToFloatBits .f32 w .f64).getD 0
theorem in_narrow {k s : Nat} (hk : k + kw = s + k64) (hk2 : k ≤ 250) {c : Nat} {lo hi L H : Int} (h : In double k64 c lo hi) (h1 : L * ((2 ^ s : Nat) : Int) ≤ lo) (h2 : hi ≤ H * ((2 ^ s : Nat) : Int)) (hl : L.natAbs ≤ 16777216) (hh : H.natAbs ≤ 16777216) :
    floatToFloatBits .f64 c .f32 = some (nr c) ∧ In single k (nr c) L H ∧ nr c < 4294967296 := by
  have hp := Int.le_of_lt (pow_pos_z k64)
  have hr := rd0_isRd single (by decide) (unit double (rg double c)) kw
  have e : sI (sgn double c) (unit double (rg double c)) = sv double c := rfl
  have e2 : ((2 ^ k : Nat) : Int) * ((2 ^ kw : Nat) : Int) = ((2 ^ s : Nat) : Int) * ((2 ^ k64 : Nat) : Int) := by
    rw [← Int.natCast_mul, ← Int.natCast_mul, ← Nat.pow_add, ← Nat.pow_add, hk]
  have hi1 := in_core (grid32 hk2) (Nat.two_pow_pos kw) hr (neg := sgn double c) (lo := L) (hi := H) (by rw [sg_bin]; omega) (by rw [sg_bin]; omega)
    (by rw [e, Int.mul_assoc, e2, ← Int.mul_assoc]; exact Int.le_trans (Int.mul_le_mul_of_nonneg_right h1 hp) h.lo)
    (by rw [e, Int.mul_assoc, e2, ← Int.mul_assoc]; exact Int.le_trans h.hi (Int.mul_le_mul_of_nonneg_right h2 hp))
  generalize rd0 single (unit double (rg double c)) kw = r at *
  have hlt : r < single.infRung := by
    have := hi1.fin
    unfold isFin at this
    rw [rg_word single _ (rd_lt single r)] at this
    omega
  have hn := narrow_fin ((fin64_iff c).1 h.fin) r hr hlt
  rw [Nat.min_eq_left (Nat.le_of_lt hlt)] at hi1
  have en : nr c = single.word (sgn double c) r := by unfold nr; rw [hn]; rfl
  rw [en]
  exact ⟨hn, hi1, word_lt32 _ (Nat.le_of_lt hlt)⟩
/-- The opposite's word is the opposite word. -/
theorem narrow_neg {c : Nat} (h : In double k64 c 0 (one40 : Int)) : nr (neg_ double c) = neg_ single (nr c) := by
  have h1 := in_narrow (k := 125) (s := 16) rfl (by omega) h (L := 0) (H := 16777216) (by simp) (by unfold one40; decide) (by decide) (by decide)
  have h2 := in_narrow (k := 125) (s := 16) rfl (by omega) (in_neg h) (L := -16777216) (H := 0) (by unfold one40; decide) (by simp) (by decide) (by decide)
  have hr := rd0_isRd single (by decide) (unit double (rg double c)) kw
  have hr2 : IsRd single (unit double (rg double (neg_ double c))) (2 ^ kw) (rd0 single (unit double (rg double c)) kw) := by rw [rg_neg]; exact hr
  have hlt : rd0 single (unit double (rg double c)) kw < single.infRung := by
    have hi1 := in_core (grid32 (k := 125) (by omega)) (Nat.two_pow_pos kw) hr (neg := sgn double c) (lo := -16777216) (hi := 16777216) (by rw [sg_bin]; decide) (by rw [sg_bin]; decide)
      (by
        have := h.lo
        have hp := pow_pos_z kw
        have hq := pow_pos_z 125
        have : (0 : Int) ≤ sI (sgn double c) (unit double (rg double c)) := by rw [Int.zero_mul] at this; exact this
        have h9 : (-16777216 : Int) * ((2 ^ 125 : Nat) : Int) * ((2 ^ kw : Nat) : Int) ≤ 0 := Int.mul_nonpos_of_nonpos_of_nonneg (Int.mul_nonpos_of_nonpos_of_nonneg (by decide) (Int.le_of_lt hq)) (Int.le_of_lt hp)
        omega)
      (by
        have e2 : ((2 ^ 125 : Nat) : Int) * ((2 ^ kw : Nat) : Int) = ((2 ^ 16 : Nat) : Int) * ((2 ^ k64 : Nat) : Int) := by
          rw [← Int.natCast_mul, ← Int.natCast_mul, ← Nat.pow_add, ← Nat.pow_add, show 125 + kw = 16 + k64 from rfl]
        rw [Int.mul_assoc, e2, ← Int.mul_assoc]
        exact h.hi)
    have := hi1.fin
    unfold isFin at this
    rw [rg_word single _ (rd_lt single _)] at this
    omega
  have n1 := narrow_fin ((fin64_iff c).1 h.fin) _ hr hlt
  have n2 := narrow_fin ((fin64_iff _).1 ((isFin_neg double).2 h.fin)) _ hr2 hlt
  generalize rd0 single (unit double (rg double c)) kw = r at *
  have hs := Nat.lt_trans hlt single.infRung_lt
  unfold nr
  rw [n1, n2, sgn_neg]
  show single.word (!sgn double c) r = neg_ single (single.word (sgn double c) r)
  unfold neg_
  rw [sgn_word single _ hs, rg_word single _ hs]
theorem in_wide {k s : Nat} (hk : k + kw = s + k64) {w : Nat} {L H : Int} (h : In single k w L H) : floatToFloatBits .f32 w .f64 = some (wdn w) ∧ In double k64 (wdn w) (L * ((2 ^ s : Nat) : Int)) (H * ((2 ^ s : Nat) : Int)) ∧ wdn w < 18446744073709551616 ∧ sv double (wdn w) = sv single w * ((2 ^ kw : Nat) : Int) := by
  obtain ⟨d, e, l, f, sg, u⟩ := wide_fin ((fin32_iff w).1 h.fin)
  have en : wdn w = d := by unfold wdn; rw [e]; rfl
  have es : sv double d = sv single w * ((2 ^ kw : Nat) : Int) := by
    unfold sv
    rw [sg, u]
    cases sgn single w <;> simp [Int.natCast_mul, Int.neg_mul]
  have hp := Int.le_of_lt (pow_pos_z kw)
  have e2 : ((2 ^ k : Nat) : Int) * ((2 ^ kw : Nat) : Int) = ((2 ^ s : Nat) : Int) * ((2 ^ k64 : Nat) : Int) := by
    rw [← Int.natCast_mul, ← Int.natCast_mul, ← Nat.pow_add, ← Nat.pow_add, hk]
  rw [en]
  refine ⟨e, ⟨f, ?_, ?_⟩, l, es⟩
  · rw [es, Int.mul_assoc, ← e2, ← Int.mul_assoc]; exact Int.mul_le_mul_of_nonneg_right h.lo hp
  · rw [es, Int.mul_assoc, ← e2, ← Int.mul_assoc]; exact Int.mul_le_mul_of_nonneg_right h.hi hp

/-! ### Comparisons -/
theorem lt64_sv {a b : Nat} (ha : isFin double a) (hb : isFin double b) : lt64 a b = decide (sv double a < sv double b) := lt64_vd ((fin64_iff a).1 ha) ((fin64_iff b).1 hb)
theorem sv_zero64 : sv double 0 = 0 := by decide +kernel
theorem fin_zero64 : isFin double 0 := i_zero.fin
theorem svc {w n : Nat} (h : I64 w ⟨n, n⟩) : sv double w = (n : Int) * ((2 ^ k64 : Nat) : Int) := Int.le_antisymm h.hi h.lo

/-! ### The sine's ways -/
def half : Nat := one40 / 2
def quart : Nat := one40 / 4
def gA (f : Nat) : Nat := if lt64 f 0 then ad f wOne else f
def tu (f : Nat) : Bool := le64 wHalf (gA f)
def gB (f : Nat) : Nat := if tu f then sb (gA f) wHalf else gA f
def gC (f : Nat) : Nat := if lt64 wQuart (gB f) then sb wHalf (gB f) else gB f
def zW (f : Nat) : Nat := ml (gC f) wTurn
def uW (f : Nat) : Nat := ml (zW f) (zW f)
def outW (f : Nat) : Nat := ml (zW f) (sN (uW f) 8)
structure SineE (f : Nat) : Prop where
  e1 : lt64 f 0 = true → double.add f wOne = some (ad f wOne)
  e2 : tu f = true → double.sub (gA f) wHalf = some (sb (gA f) wHalf)
  e3 : lt64 wQuart (gB f) = true → double.sub wHalf (gB f) = some (sb wHalf (gB f))
  e4 : double.mul (gC f) wTurn = some (zW f)
  e5 : double.mul (zW f) (zW f) = some (uW f)
  e6 : ∀ l, l < 8 → SinE (uW f) l
  e7 : double.mul (zW f) (sN (uW f) 8) = some (outW f)
def st4 (A : Iv) (k : Iv → Bool) : Bool := A.seq fun A => cMl A turnI fun z => cMl z z fun u => Nat.ble u.hi sTop && sCm u 4 4 s4I fun p => cMl z p k
def st3 (A : Iv) (k : Iv → Bool) : Bool := Nat.ble A.hi half && (Nat.ble A.hi quart || st4 ⟨half - A.hi, half - max A.lo quart⟩ k) && (Nat.ble (quart + 1) A.lo || st4 ⟨A.lo, min A.hi quart⟩ k)
def st2 (A : Iv) (k : Iv → Bool → Bool) : Bool := Nat.ble A.hi one40 && (Nat.ble (A.hi + 1) half || st3 ⟨max A.lo half - half, A.hi - half⟩ fun R => k R true) && (Nat.ble half A.lo || st3 ⟨A.lo, min A.hi half⟩ fun R => k R false)
def sinK (L H : Int) (k : Iv → Bool → Bool) : Bool :=
  decide (-(one40 : Int) ≤ L) && decide (H ≤ (one40 : Int)) && (decide (0 ≤ L) || st2 ⟨(L + one40).toNat, (min H 0 + one40).toNat⟩ k) && (decide (H < 0) || st2 ⟨L.toNat, H.toNat⟩ k)

theorem st4_ok {g : Nat} {A : Iv} {k : Iv → Bool} (h : st4 A k = true) (ha : I64 g A) :
    double.mul g wTurn = some (ml g wTurn) ∧ double.mul (ml g wTurn) (ml g wTurn) = some (ml (ml g wTurn) (ml g wTurn)) ∧ (∀ l, l < 8 → SinE (ml (ml g wTurn) (ml g wTurn)) l) ∧
    double.mul (ml g wTurn) (sN (ml (ml g wTurn) (ml g wTurn)) 8) = some (ml (ml g wTurn) (sN (ml (ml g wTurn) (ml g wTurn)) 8)) ∧ ∃ R, I64 (ml (ml g wTurn) (sN (ml (ml g wTurn) (ml g wTurn)) 8)) R ∧ k R = true := by
  unfold st4 at h
  rw [Iv.seq_eq] at h
  obtain ⟨e1, Z, q1, h⟩ := cMl_ok h ha i_turn
  obtain ⟨e2, U, q2, h⟩ := cMl_ok h q1 q1
  rw [Bool.and_eq_true] at h
  obtain ⟨e30, q30⟩ := s_coarse q2 h.1
  obtain ⟨e3, P, q3, h⟩ := sCm_ok q2 4 4 s4I _ (by omega) h.2 q30
  obtain ⟨e4, R, q4, h⟩ := cMl_ok h q1 q3
  refine ⟨e1, e2, fun l hl => ?_, e4, R, q4, h⟩
  by_cases h4 : l < 4
  · exact e30 l h4
  · exact e3 l (by omega) (by omega)
theorem st3_ok {g : Nat} {A : Iv} {k : Iv → Bool} (h : st3 A k = true) (ha : I64 g A) :
    (lt64 wQuart g = true → double.sub wHalf g = some (sb wHalf g)) ∧ ∃ B, I64 (if lt64 wQuart g then sb wHalf g else g) B ∧ st4 B k = true := by
  unfold st3 at h
  rw [Bool.and_eq_true, Bool.and_eq_true, Bool.or_eq_true, Bool.or_eq_true] at h
  obtain ⟨⟨h0, h1⟩, h2⟩ := h
  have h0 := Nat.le_of_ble_eq_true h0
  have hl := lt64_sv i_quart.fin ha.fin
  rw [svc i_quart] at hl
  have hp := pow_pos_z k64
  have hlo := ha.lo
  have hhi := ha.hi
  cases hc : lt64 wQuart g
  · rw [hc] at hl
    have hle : sv double g ≤ (quart : Int) * ((2 ^ k64 : Nat) : Int) := by
      have := (decide_eq_false_iff_not.1 hl.symm); unfold quart; omega
    refine ⟨fun h => (by cases h), ⟨A.lo, min A.hi quart⟩, ?_, ?_⟩
    · simp only [Bool.false_eq_true, if_false]
      refine ⟨ha.fin, hlo, ?_⟩
      show sv double g ≤ ((min A.hi quart : Nat) : Int) * ((2 ^ k64 : Nat) : Int)
      rcases Nat.le_total A.hi quart with g1 | g1
      · rw [Nat.min_eq_left g1]; exact hhi
      · rw [Nat.min_eq_right g1]; exact hle
    · rcases h2 with h2 | h2
      · exfalso
        have h2 := Nat.le_of_ble_eq_true h2
        have : ((quart + 1 : Nat) : Int) * ((2 ^ k64 : Nat) : Int) ≤ (A.lo : Int) * ((2 ^ k64 : Nat) : Int) := Int.mul_le_mul_of_nonneg_right (Int.ofNat_le.2 h2) (Int.le_of_lt hp)
        rw [Int.natCast_add, Int.add_mul] at this
        omega
      · exact h2
  · rw [hc] at hl
    have hlt : (quart : Int) * ((2 ^ k64 : Nat) : Int) < sv double g := by
      have := (decide_eq_true_iff.1 hl.symm); unfold quart; exact this
    have hq : I64 g ⟨max A.lo quart, A.hi⟩ := by
      refine ⟨ha.fin, ?_, hhi⟩
      show ((max A.lo quart : Nat) : Int) * ((2 ^ k64 : Nat) : Int) ≤ sv double g
      rcases Nat.le_total A.lo quart with g1 | g1
      · rw [Nat.max_eq_right g1]; exact Int.le_of_lt hlt
      · rw [Nat.max_eq_left g1]; exact hlo
    have hok : (sbI ⟨half, half⟩ ⟨max A.lo quart, A.hi⟩).ok = true := by
      have hAq : quart < A.hi := by
        rcases Nat.lt_or_ge quart A.hi with g1 | g1
        · exact g1
        · exfalso
          have : (A.hi : Int) * ((2 ^ k64 : Nat) : Int) ≤ (quart : Int) * ((2 ^ k64 : Nat) : Int) := Int.mul_le_mul_of_nonneg_right (Int.ofNat_le.2 g1) (Int.le_of_lt hp)
          omega
      have hAl : A.lo ≤ A.hi := by
        rcases Nat.lt_or_ge A.hi A.lo with g1 | g1
        · exfalso
          have : ((A.hi + 1 : Nat) : Int) * ((2 ^ k64 : Nat) : Int) ≤ (A.lo : Int) * ((2 ^ k64 : Nat) : Int) := Int.mul_le_mul_of_nonneg_right (Int.ofNat_le.2 g1) (Int.le_of_lt hp)
          rw [Int.natCast_add, Int.add_mul] at this
          omega
        · exact g1
      unfold Iv.ok sbI
      rw [Bool.and_eq_true]
      refine ⟨Nat.ble_eq_true_of_le ?_, Nat.ble_eq_true_of_le ?_⟩
      · show half - A.hi ≤ half - max A.lo quart
        have : max A.lo quart ≤ A.hi := Nat.max_le.2 ⟨hAl, Nat.le_of_lt hAq⟩
        omega
      · show half - max A.lo quart ≤ top53
        have : half ≤ top53 := by decide
        omega
    obtain ⟨e, q⟩ := i_half.sub hq hok h0
    refine ⟨fun _ => e, _, by simp only [if_true]; exact q, ?_⟩
    rcases h1 with h1 | h1
    · exfalso
      have h1 := Nat.le_of_ble_eq_true h1
      have : (A.hi : Int) * ((2 ^ k64 : Nat) : Int) ≤ (quart : Int) * ((2 ^ k64 : Nat) : Int) := Int.mul_le_mul_of_nonneg_right (Int.ofNat_le.2 h1) (Int.le_of_lt hp)
      omega
    · exact h1

theorem st2_ok {g : Nat} {A : Iv} {k : Iv → Bool → Bool} (h : st2 A k = true) (ha : I64 g A) :
    (le64 wHalf g = true → double.sub g wHalf = some (sb g wHalf)) ∧ ∃ B, I64 (if le64 wHalf g then sb g wHalf else g) B ∧ st3 B (fun R => k R (le64 wHalf g)) = true := by
  unfold st2 at h
  rw [Bool.and_eq_true, Bool.and_eq_true, Bool.or_eq_true, Bool.or_eq_true] at h
  obtain ⟨⟨h0, h1⟩, h2⟩ := h
  have h0 := Nat.le_of_ble_eq_true h0
  have hl : le64 wHalf g = decide (sv double wHalf ≤ sv double g) := le64_vd ((fin64_iff _).1 i_half.fin) ((fin64_iff _).1 ha.fin)
  rw [svc i_half] at hl
  have hp := pow_pos_z k64
  have hlo := ha.lo
  have hhi := ha.hi
  cases hc : le64 wHalf g
  · rw [hc] at hl
    have hle : sv double g < (half : Int) * ((2 ^ k64 : Nat) : Int) := by
      have := (decide_eq_false_iff_not.1 hl.symm); unfold half; omega
    refine ⟨fun h => (by cases h), ⟨A.lo, min A.hi half⟩, ?_, ?_⟩
    · simp only [Bool.false_eq_true, if_false]
      refine ⟨ha.fin, hlo, ?_⟩
      show sv double g ≤ ((min A.hi half : Nat) : Int) * ((2 ^ k64 : Nat) : Int)
      rcases Nat.le_total A.hi half with g1 | g1
      · rw [Nat.min_eq_left g1]; exact hhi
      · rw [Nat.min_eq_right g1]; exact Int.le_of_lt hle
    · rcases h2 with h2 | h2
      · exfalso
        have h2 := Nat.le_of_ble_eq_true h2
        have : (half : Int) * ((2 ^ k64 : Nat) : Int) ≤ (A.lo : Int) * ((2 ^ k64 : Nat) : Int) := Int.mul_le_mul_of_nonneg_right (Int.ofNat_le.2 h2) (Int.le_of_lt hp)
        omega
      · exact h2
  · rw [hc] at hl
    have hlt : (half : Int) * ((2 ^ k64 : Nat) : Int) ≤ sv double g := by
      have := (decide_eq_true_iff.1 hl.symm); unfold half; exact this
    have hq : I64 g ⟨max A.lo half, A.hi⟩ := by
      refine ⟨ha.fin, ?_, hhi⟩
      show ((max A.lo half : Nat) : Int) * ((2 ^ k64 : Nat) : Int) ≤ sv double g
      rcases Nat.le_total A.lo half with g1 | g1
      · rw [Nat.max_eq_right g1]; exact hlt
      · rw [Nat.max_eq_left g1]; exact hlo
    have hAq : half ≤ A.hi := by
      rcases Nat.lt_or_ge A.hi half with g1 | g1
      · exfalso
        have : ((A.hi + 1 : Nat) : Int) * ((2 ^ k64 : Nat) : Int) ≤ (half : Int) * ((2 ^ k64 : Nat) : Int) := Int.mul_le_mul_of_nonneg_right (Int.ofNat_le.2 g1) (Int.le_of_lt hp)
        rw [Int.natCast_add, Int.add_mul] at this
        omega
      · exact g1
    have hAl : A.lo ≤ A.hi := by
      rcases Nat.lt_or_ge A.hi A.lo with g1 | g1
      · exfalso
        have : ((A.hi + 1 : Nat) : Int) * ((2 ^ k64 : Nat) : Int) ≤ (A.lo : Int) * ((2 ^ k64 : Nat) : Int) := Int.mul_le_mul_of_nonneg_right (Int.ofNat_le.2 g1) (Int.le_of_lt hp)
        rw [Int.natCast_add, Int.add_mul] at this
        omega
      · exact g1
    have hok : (sbI ⟨max A.lo half, A.hi⟩ ⟨half, half⟩).ok = true := by
      unfold Iv.ok sbI
      rw [Bool.and_eq_true]
      refine ⟨Nat.ble_eq_true_of_le ?_, Nat.ble_eq_true_of_le ?_⟩
      · show max A.lo half - half ≤ A.hi - half
        have : max A.lo half ≤ A.hi := Nat.max_le.2 ⟨hAl, hAq⟩
        omega
      · show A.hi - half ≤ top53
        have : one40 ≤ top53 := by decide
        omega
    obtain ⟨e, q⟩ := hq.sub i_half hok (Nat.le_max_right _ _)
    refine ⟨fun _ => e, _, by simp only [if_true]; exact q, ?_⟩
    rcases h1 with h1 | h1
    · exfalso
      have h1 := Nat.le_of_ble_eq_true h1
      omega
    · exact h1
theorem sinK_ok {f : Nat} {L H : Int} {k : Iv → Bool → Bool} (h : sinK L H k = true) (hf : In double k64 f L H) : SineE f ∧ ∃ R, I64 (outW f) R ∧ k R (tu f) = true := by
  unfold sinK at h
  rw [Bool.and_eq_true, Bool.and_eq_true, Bool.and_eq_true, Bool.or_eq_true, Bool.or_eq_true] at h
  obtain ⟨⟨⟨b1, b2⟩, h1⟩, h2⟩ := h
  have b1 := of_decide_eq_true b1
  have b2 := of_decide_eq_true b2
  have hp := pow_pos_z k64
  have hlo := hf.lo
  have hhi := hf.hi
  have hl := lt64_sv hf.fin fin_zero64
  rw [sv_zero64] at hl
  have key : (lt64 f 0 = true → double.add f wOne = some (ad f wOne)) ∧ ∃ A, I64 (gA f) A ∧ st2 A k = true := by
    unfold gA
    cases hc : lt64 f 0
    · rw [hc] at hl
      have h0 := decide_eq_false_iff_not.1 hl.symm
      refine ⟨fun h => (by cases h), ⟨L.toNat, H.toNat⟩, ?_, ?_⟩
      · simp only [Bool.false_eq_true, if_false]
        refine ⟨hf.fin, ?_, ?_⟩
        · show ((L.toNat : Nat) : Int) * ((2 ^ k64 : Nat) : Int) ≤ sv double f
          rcases Int.lt_or_le L 0 with g | g
          · rw [show L.toNat = 0 by omega, Int.natCast_zero, Int.zero_mul]; omega
          · rw [Int.toNat_of_nonneg g]; exact hlo
        · show sv double f ≤ ((H.toNat : Nat) : Int) * ((2 ^ k64 : Nat) : Int)
          exact Int.le_trans hhi (Int.mul_le_mul_of_nonneg_right (by omega) (Int.le_of_lt hp))
      · rcases h2 with h2 | h2
        · exfalso
          have := of_decide_eq_true h2
          have := Int.mul_neg_of_neg_of_pos this hp
          omega
        · exact h2
    · rw [hc] at hl
      have h0 := decide_eq_true_iff.1 hl.symm
      have hL : L < 0 := by
        rcases Int.lt_or_le L 0 with g | g
        · exact g
        · exfalso
          have := Int.mul_nonneg g (Int.le_of_lt hp)
          omega
      have hf2 : In double k64 f L (min H 0) := by
        refine ⟨hf.fin, hlo, ?_⟩
        rcases Int.le_total H 0 with g | g
        · rw [Int.min_eq_left g]; exact hhi
        · rw [Int.min_eq_right g, Int.zero_mul]; omega
      have hLH : L ≤ min H 0 := by
        have a := Int.le_trans hf2.lo hf2.hi
        exact Int.le_of_mul_le_mul_right a hp
      have hone : In double k64 wOne (one40 : Int) (one40 : Int) := by
        have := i_one
        unfold I64 cI at this
        simpa using this
      obtain ⟨r, er, ir⟩ := in_add hf64 (grid64 (k := k64) (by unfold k64; omega)) hf2 hone (lo := L + one40) (hi := min H 0 + one40) (Int.le_refl _) (Int.le_refl _) (by rw [bin64]; unfold top53 one40 at *; omega) (by rw [bin64]; unfold top53 one40 at *; omega)
      have er2 : double.add f wOne = some (ad f wOne) := by unfold ad; rw [er]; rfl
      have ea : r = ad f wOne := by unfold ad; rw [er]; rfl
      subst ea
      refine ⟨fun _ => er2, ⟨(L + one40).toNat, (min H 0 + one40).toNat⟩, ?_, ?_⟩
      · simp only [if_true]
        refine ⟨ir.fin, ?_, ?_⟩
        · show (((L + one40).toNat : Nat) : Int) * ((2 ^ k64 : Nat) : Int) ≤ _
          rw [Int.toNat_of_nonneg (by omega)]; exact ir.lo
        · show _ ≤ (((min H 0 + one40).toNat : Nat) : Int) * ((2 ^ k64 : Nat) : Int)
          rw [Int.toNat_of_nonneg (by omega)]; exact ir.hi
      · rcases h1 with h1 | h1
        · exfalso
          have := of_decide_eq_true h1
          omega
        · exact h1
  obtain ⟨e1, A, qA, h⟩ := key
  obtain ⟨e2, B, qB, h⟩ := st2_ok h qA
  obtain ⟨e3, C, qC, h⟩ := st3_ok h qB
  obtain ⟨e4, e5, e6, e7, R, qR, h⟩ := st4_ok h qC
  exact ⟨⟨e1, e2, e3, e4, e5, e6, e7⟩, R, qR, h⟩

end Go.Proofs.Ytkhoifgljalfcaa
