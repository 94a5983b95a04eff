/- Bounds of 64-bit results. No program in sight. -/
import Derived.Test.YtkhoifgljalfcaaFm
namespace Go.Proofs.Ytkhoifgljalfcaa
open Go.RowKit Ieee
set_option maxRecDepth 100000
set_option linter.unusedVariables false
set_option linter.unusedSimpArgs false

/-- The value of a word in units of the least place. -/
def vd (w : Nat) : Int := sv double w
theorem vd_dq {g : Nat} {k : Int} (h : k.natAbs ≤ 9007199254740992) : vd (dq g k) = k * ((2 ^ (1074 - g) : Nat) : Int) := (qw_spec d1 (few64 (g := g) h)).2.1
theorem lt64_vd {a b : Nat} (ha : fin64 a = true) (hb : fin64 b = true) : lt64 a b = decide (vd a < vd b) := by
  rw [← ord_lt64, order_fin double ((fin64_iff a).2 ha) ((fin64_iff b).2 hb)]; exact cmp_beq_lt _ _
theorem eq64_vd {a b : Nat} (ha : fin64 a = true) (hb : fin64 b = true) : eq64 a b = decide (vd a = vd b) := by
  rw [← ord_eq64, order_fin double ((fin64_iff a).2 ha) ((fin64_iff b).2 hb)]; exact cmp_beq_eq _ _
theorem le64_vd {a b : Nat} (ha : fin64 a = true) (hb : fin64 b = true) : le64 a b = decide (vd a ≤ vd b) := by
  rw [← ord_le64, lt64_vd ha hb, eq64_vd ha hb, Bool.eq_iff_iff]; simp; omega

theorem rd0_le64 {N k r : Nat} (h : N ≤ unit double r * 2 ^ k) : rd0 double N k ≤ r := by
  refine IsRd.mono (Nat.two_pow_pos k) (Nat.two_pow_pos k) (rd0_isRd double d1 N k) (IsRd.exact double (Nat.two_pow_pos k) r) ?_
  exact Nat.mul_le_mul_right _ h
theorem le_rd064 {N k r : Nat} (h : unit double r * 2 ^ k ≤ N) : r ≤ rd0 double N k := by
  refine IsRd.mono (Nat.two_pow_pos k) (Nat.two_pow_pos k) (IsRd.exact double (Nat.two_pow_pos k) r) (rd0_isRd double d1 N k) ?_
  exact Nat.mul_le_mul_right _ h

/-- What a word of a sign and a rung is, where its rung is bounded. -/
theorem word_bd64 {neg : Bool} {rd : Nat} {lo hi : Nat} (hlo : fin64 lo = true) (hhi : fin64 hi = true)
    (h1 : neg = true → 0 ≤ vd lo → rd = 0) (h2 : neg = true → vd lo < 0 → rd ≤ rg double lo) (h3 : neg = true → vd hi < 0 → rg double hi ≤ rd)
    (h4 : neg = false → vd hi ≤ 0 → rd = 0) (h5 : neg = false → 0 < vd hi → rd ≤ rg double hi) (h6 : neg = false → 0 < vd lo → rg double lo ≤ rd) (h7 : neg = true → vd lo ≤ 0) (h8 : neg = false → 0 ≤ vd hi) :
    fin64 (double.word neg (min rd double.infRung)) = true ∧ double.word neg (min rd double.infRung) < 18446744073709551616 ∧ vd lo ≤ vd (double.word neg (min rd double.infRung)) ∧ vd (double.word neg (min rd double.infRung)) ≤ vd hi := by
  have flo : rg double lo < double.infRung := (fin64_iff lo).2 hlo
  have fhi : rg double hi < double.infRung := (fin64_iff hi).2 hhi
  have hinf : 0 < double.infRung := by rw [db_inf]; omega
  have hrd : rd < double.infRung := by
    cases neg
    · rcases Int.lt_or_le 0 (vd hi) with g | g
      · have := h5 rfl g; omega
      · have := h4 rfl g; omega
    · rcases Int.lt_or_le (vd lo) 0 with g | g
      · have := h2 rfl g; omega
      · have := h1 rfl g; omega
  have hm : min rd double.infRung = rd := Nat.min_eq_left (Nat.le_of_lt hrd)
  rw [hm]
  have hsw : rd < double.signWeight := Nat.lt_trans hrd double.infRung_lt
  have hv : vd (double.word neg rd) = if neg then -(unit double rd : Int) else (unit double rd : Int) := sv_word double neg hsw
  have hfin : fin64 (double.word neg rd) = true := (fin64_iff _).1 (fin_word double neg hrd)
  have hlt : double.word neg rd < 18446744073709551616 := by
    have : double.word neg rd < 2 * double.signWeight := by unfold Format.word; split <;> omega
    rw [db_sw] at this; exact this
  refine ⟨hfin, hlt, ?_, ?_⟩
  · rw [hv]
    cases neg
    · simp only [Bool.false_eq_true, if_false]
      rcases Int.lt_or_le 0 (vd lo) with g | g
      · have e := unit_mono double (h6 rfl g)
        have : vd lo = (unit double (rg double lo) : Int) := by
          unfold vd sv at g ⊢
          split
          · rename_i hs; rw [if_pos hs] at g; omega
          · rfl
        omega
      · omega
    · simp only [if_true]
      rcases Int.lt_or_le (vd lo) 0 with g | g
      · have e := unit_mono double (h2 rfl g)
        have : vd lo = -(unit double (rg double lo) : Int) := by
          unfold vd sv at g ⊢
          split
          · rfl
          · rename_i hs; rw [if_neg hs] at g; omega
        omega
      · have e := h1 rfl g
        have := h7 rfl
        rw [e, unit_zero]; omega
  · rw [hv]
    cases neg
    · simp only [Bool.false_eq_true, if_false]
      rcases Int.lt_or_le 0 (vd hi) with g | g
      · have e := unit_mono double (h5 rfl g)
        have : vd hi = (unit double (rg double hi) : Int) := by
          unfold vd sv at g ⊢
          split
          · rename_i hs; rw [if_pos hs] at g; omega
          · rfl
        omega
      · have e := h4 rfl g
        have := h8 rfl
        rw [e, unit_zero]; omega
    · simp only [if_true]
      rcases Int.lt_or_le (vd hi) 0 with g | g
      · have e := unit_mono double (h3 rfl g)
        have : vd hi = -(unit double (rg double hi) : Int) := by
          unfold vd sv at g ⊢
          split
          · rfl
          · rename_i hs; rw [if_neg hs] at g; omega
        omega
      · omega

theorem vd_neg {w : Nat} (h : vd w < 0) : vd w = -(unit double (rg double w) : Int) := by
  unfold vd sv at h ⊢
  split
  · rfl
  · rename_i hs; rw [if_neg hs] at h; omega
theorem vd_pos {w : Nat} (h : 0 < vd w) : vd w = (unit double (rg double w) : Int) := by
  unfold vd sv at h ⊢
  split
  · rename_i hs; rw [if_pos hs] at h; omega
  · rfl
theorem unit_of_zero64 {N k : Nat} (h : N = 0) : rd0 double N k = 0 := by
  have := rd0_le64 (N := N) (k := k) (r := 0) (by rw [h]; omega)
  omega

/-- A rounded number lies between the words that it lay between. -/
theorem rnd_bd64 {neg : Bool} {N k : Nat} {lo hi : Nat} (hlo : fin64 lo = true) (hhi : fin64 hi = true)
    (h1 : vd lo * ((2 ^ k : Nat) : Int) ≤ (if neg then -(N : Int) else (N : Int))) (h2 : (if neg then -(N : Int) else (N : Int)) ≤ vd hi * ((2 ^ k : Nat) : Int)) :
    fin64 (rnd double neg N k) = true ∧ rnd double neg N k < 18446744073709551616 ∧ vd lo ≤ vd (rnd double neg N k) ∧ vd (rnd double neg N k) ≤ vd hi := by
  have hp := pow_pos_int k
  unfold rnd
  apply word_bd64 hlo hhi
  · intro e g
    rw [e] at h1 h2; simp only [if_true] at h1 h2
    have := Int.mul_nonneg g (Int.le_of_lt hp)
    exact unit_of_zero64 (by omega)
  · intro e g
    rw [e] at h1 h2; simp only [if_true] at h1 h2
    apply rd0_le64
    rw [vd_neg g, Int.neg_mul, ← Int.natCast_mul] at h1
    omega
  · intro e g
    rw [e] at h1 h2; simp only [if_true] at h1 h2
    apply le_rd064
    rw [vd_neg g, Int.neg_mul, ← Int.natCast_mul] at h2
    omega
  · intro e g
    rw [e] at h1 h2; simp only [Bool.false_eq_true, if_false] at h1 h2
    have := Int.mul_nonpos_of_nonpos_of_nonneg g (Int.le_of_lt hp)
    exact unit_of_zero64 (by omega)
  · intro e g
    rw [e] at h1 h2; simp only [Bool.false_eq_true, if_false] at h1 h2
    apply rd0_le64
    rw [vd_pos g, ← Int.natCast_mul] at h2
    omega
  · intro e g
    rw [e] at h1 h2; simp only [Bool.false_eq_true, if_false] at h1 h2
    apply le_rd064
    rw [vd_pos g, ← Int.natCast_mul] at h1
    omega
  · intro e
    rw [e] at h1; simp only [if_true] at h1
    rcases Int.lt_or_le 0 (vd lo) with g | g
    · have := Int.mul_pos g hp; omega
    · exact g
  · intro e
    rw [e] at h2; simp only [Bool.false_eq_true, if_false] at h2
    rcases Int.lt_or_le (vd hi) 0 with g | g
    · have := Int.mul_neg_of_neg_of_pos g hp; omega
    · exact g

theorem add_bd64 {a b lo hi : Nat} (ha : fin64 a = true) (hb : fin64 b = true) (hlo : fin64 lo = true) (hhi : fin64 hi = true) (h1 : vd lo ≤ vd a + vd b) (h2 : vd a + vd b ≤ vd hi) :
    ∃ r, floatBits .add .f64 a b = some r ∧ fin64 r = true ∧ r < 18446744073709551616 ∧ vd lo ≤ vd r ∧ vd r ≤ vd hi := by
  have e := add_fin double ((fin64_iff a).2 ha) ((fin64_iff b).2 hb)
  refine ⟨_, e, ?_⟩
  apply rnd_bd64 hlo hhi
  · rw [Nat.pow_zero, Int.natCast_one, Int.mul_one]
    show vd lo ≤ if (if vd a + vd b = 0 then sgn double a && sgn double b else decide (vd a + vd b < 0)) = true then -((vd a + vd b).natAbs : Int) else ((vd a + vd b).natAbs : Int)
    by_cases z : vd a + vd b = 0
    · rw [z] at h1 ⊢; split <;> simp <;> omega
    · rw [if_neg z]; split <;> rename_i g <;> simp at g <;> omega
  · rw [Nat.pow_zero, Int.natCast_one, Int.mul_one]
    show (if (if vd a + vd b = 0 then sgn double a && sgn double b else decide (vd a + vd b < 0)) = true then -((vd a + vd b).natAbs : Int) else ((vd a + vd b).natAbs : Int)) ≤ vd hi
    by_cases z : vd a + vd b = 0
    · rw [z] at h2 ⊢; split <;> simp <;> omega
    · rw [if_neg z]; split <;> rename_i g <;> simp at g <;> omega
theorem sub_bd64 {a b lo hi : Nat} (ha : fin64 a = true) (hb : fin64 b = true) (hlo : fin64 lo = true) (hhi : fin64 hi = true) (h1 : vd lo ≤ vd a - vd b) (h2 : vd a - vd b ≤ vd hi) :
    ∃ r, floatBits .sub .f64 a b = some r ∧ fin64 r = true ∧ r < 18446744073709551616 ∧ vd lo ≤ vd r ∧ vd r ≤ vd hi := by
  have e := sub_fin double ((fin64_iff a).2 ha) ((fin64_iff b).2 hb)
  refine ⟨_, e, ?_⟩
  apply rnd_bd64 hlo hhi
  · rw [Nat.pow_zero, Int.natCast_one, Int.mul_one]
    show vd lo ≤ if (if vd a - vd b = 0 then sgn double a && !sgn double b else decide (vd a - vd b < 0)) = true then -((vd a - vd b).natAbs : Int) else ((vd a - vd b).natAbs : Int)
    by_cases z : vd a - vd b = 0
    · rw [z] at h1 ⊢; split <;> simp <;> omega
    · rw [if_neg z]; split <;> rename_i g <;> simp at g <;> omega
  · rw [Nat.pow_zero, Int.natCast_one, Int.mul_one]
    show (if (if vd a - vd b = 0 then sgn double a && !sgn double b else decide (vd a - vd b < 0)) = true then -((vd a - vd b).natAbs : Int) else ((vd a - vd b).natAbs : Int)) ≤ vd hi
    by_cases z : vd a - vd b = 0
    · rw [z] at h2 ⊢; split <;> simp <;> omega
    · rw [if_neg z]; split <;> rename_i g <;> simp at g <;> omega

/-- Widening keeps values. -/
theorem wide_vd {w : Nat} (h : fin32 w = true) : ∃ d, floatToFloatBits .f32 w .f64 = some d ∧ fin64 d = true ∧ d < 18446744073709551616 ∧ vd d = vv w * ((2 ^ kw : Nat) : Int) := by
  obtain ⟨r, h1, h2, h3, h4, h5⟩ := wide_fin h
  refine ⟨r, h1, (fin64_iff r).1 h3, h2, ?_⟩
  unfold vd vv sv
  rw [h4]
  split <;> rw [h5] <;> simp [Int.natCast_mul, Int.neg_mul]

end Go.Proofs.Ytkhoifgljalfcaa
