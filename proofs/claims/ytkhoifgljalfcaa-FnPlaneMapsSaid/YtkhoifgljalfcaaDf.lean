/- Words of small whole numbers, a zero of either sign: sums, differences, products, comparisons. No program. -/
import Derived.Test.YtkhoifgljalfcaaQf
namespace Go.Proofs.Ytkhoifgljalfcaa
open Go.RowKit Ieee
set_option maxRecDepth 100000
set_option linter.unusedVariables false
set_option linter.unusedSimpArgs false

/-- A word of a whole number. -/
structure IsW (w : Nat) (k : Int) : Prop where
  fin : isFin single w
  val : sv single w = k * ((2 ^ 149 : Nat) : Int)
  lt : w < 4294967296
theorem isW_fq {k : Int} (h : k.natAbs ≤ 16777216) : IsW (fq 0 k) k := by
  have := qw_spec f1 (few32 (g := 0) h)
  exact ⟨this.1, this.2.1, fq_lt h⟩
theorem IsW.nan {w : Nat} {k : Int} (h : IsW w k) : nan32 w = false := nan_of_fin32 ((fin32_iff w).1 h.fin)
theorem IsW.fl {w : Nat} {k : Int} (h : IsW w k) : fl w = w := fl_eq h.nan
theorem isW_rnd {k : Int} (h : k.natAbs ≤ 16777216) {neg : Bool} (hs : k ≠ 0 → neg = decide (k < 0)) {N j : Nat} (hN : N = k.natAbs * 2 ^ 149 * 2 ^ j) : IsW (rnd single neg N j) k := by
  obtain ⟨r, h1, h2, h3⟩ := (few32 (g := 0) h).rung f1
  have hsp := sv_rnd single f1 neg (N := N) (k := j) (r := r) (by rw [hN, h2]) h1
  refine ⟨hsp.1, ?_, ?_⟩
  · rw [hsp.2.2.2, h2]
    by_cases h0 : k = 0
    · subst h0; simp
    · rw [hs h0]; exact signed_natAbs k 149
  · have e := word_inj single (w := rnd single neg N j) (neg := neg) (r := r) ?_ hsp.2.2.1 hsp.2.1
    · rw [e]
      have hl : r < single.signWeight := Nat.lt_trans h1 single.infRung_lt
      rw [sg_sw] at hl
      unfold Format.word
      rw [sg_sw]
      split <;> omega
    · have hl : r < single.signWeight := Nat.lt_trans h1 single.infRung_lt
      rw [rnd_exact single f1 neg (r := r) (by rw [hN, h2]) (Nat.le_of_lt h1)]
      unfold Format.word; split <;> omega
theorem IsW.add {a b : Nat} {x y : Int} (ha : IsW a x) (hb : IsW b y) (h : (x + y).natAbs ≤ 16777216) : ∃ r, floatBits .add .f32 a b = some r ∧ IsW r (x + y) := by
  have e := add_fin single ha.fin hb.fin
  refine ⟨_, e, isW_rnd h ?_ ?_⟩
  · intro h0
    have hne : ¬ (sv single a + sv single b = 0) := by
      rw [ha.val, hb.val, ← Int.add_mul]
      intro h9
      rcases Int.mul_eq_zero.1 h9 with h8 | h8
      · exact h0 h8
      · have := pow_pos_int 149; omega
    rw [if_neg hne, ha.val, hb.val, ← Int.add_mul]
    have := pow_pos_int 149
    rw [decide_eq_decide]
    constructor
    · intro h9
      rcases Int.lt_or_le (x + y) 0 with h8 | h8
      · exact h8
      · have := Int.mul_nonneg h8 (Int.le_of_lt this); omega
    · intro h9; exact Int.mul_neg_of_neg_of_pos h9 this
  · rw [ha.val, hb.val, ← Int.add_mul, natAbs_mul_two_pow, Nat.pow_zero, Nat.mul_one]
theorem IsW.sub {a b : Nat} {x y : Int} (ha : IsW a x) (hb : IsW b y) (h : (x - y).natAbs ≤ 16777216) : ∃ r, floatBits .sub .f32 a b = some r ∧ IsW r (x - y) := by
  have e := sub_fin single ha.fin hb.fin
  refine ⟨_, e, isW_rnd h ?_ ?_⟩
  · intro h0
    have hne : ¬ (sv single a - sv single b = 0) := by
      rw [ha.val, hb.val, ← Int.sub_mul]
      intro h9
      rcases Int.mul_eq_zero.1 h9 with h8 | h8
      · exact h0 h8
      · have := pow_pos_int 149; omega
    rw [if_neg hne, ha.val, hb.val, ← Int.sub_mul]
    have := pow_pos_int 149
    rw [decide_eq_decide]
    constructor
    · intro h9
      rcases Int.lt_or_le (x - y) 0 with h8 | h8
      · exact h8
      · have := Int.mul_nonneg h8 (Int.le_of_lt this); omega
    · intro h9; exact Int.mul_neg_of_neg_of_pos h9 this
  · rw [ha.val, hb.val, ← Int.sub_mul, natAbs_mul_two_pow, Nat.pow_zero, Nat.mul_one]
theorem IsW.units {a : Nat} {x : Int} (ha : IsW a x) : unit single (rg single a) = x.natAbs * 2 ^ 149 := by
  have h := ha.val
  unfold sv at h
  have h2 := congrArg Int.natAbs h
  rw [natAbs_mul_two_pow] at h2
  rw [← h2]
  split <;> simp
theorem IsW.sgn {a : Nat} {x : Int} (ha : IsW a x) (h0 : x ≠ 0) : sgn single a = decide (x < 0) := by
  have h := ha.val
  unfold sv at h
  have hp := pow_pos_int 149
  cases hs : Go.Proofs.Ytkhoifgljalfcaa.sgn single a
  · rw [hs] at h
    simp only [Bool.false_eq_true, if_false] at h
    have : ¬ x < 0 := by
      intro h9
      have := Int.mul_neg_of_neg_of_pos h9 hp
      omega
    simp [this]
  · rw [hs] at h
    simp only [if_true] at h
    have : x < 0 := by
      rcases Int.lt_or_le x 0 with h8 | h8
      · exact h8
      · exfalso
        have h7 : 0 < x := by omega
        have := Int.mul_pos h7 hp
        omega
    simp [this]
theorem IsW.mul {a b : Nat} {x y : Int} (ha : IsW a x) (hb : IsW b y) (h : (x * y).natAbs ≤ 16777216) : ∃ r, floatBits .mul .f32 a b = some r ∧ IsW r (x * y) := by
  have e := mul_fin single (by decide) ha.fin hb.fin
  refine ⟨_, e, isW_rnd h ?_ ?_⟩
  · intro h0
    have hx : x ≠ 0 := by rintro rfl; simp at h0
    have hy : y ≠ 0 := by rintro rfl; simp at h0
    rw [ha.sgn hx, hb.sgn hy]
    exact sign_mul x y (fun h9 => absurd h9 h0)
  · rw [ha.units, hb.units, Int.natAbs_mul, show (-single.leastPlace).toNat = 149 from by decide]
    generalize 2 ^ 149 = p
    rw [Nat.mul_assoc, Nat.mul_assoc, Nat.mul_assoc, Nat.mul_left_comm p]
theorem IsW.eq {a b : Nat} {x y : Int} (ha : IsW a x) (hb : IsW b y) : eq32 a b = decide (x = y) := by
  rw [← ord_eq32, order_fin single ha.fin hb.fin, cmp_beq_eq, ha.val, hb.val, decide_eq_decide]
  constructor
  · intro h
    exact Int.eq_of_mul_eq_mul_right (by have := pow_pos_int 149; omega) h
  · intro h; rw [h]

end Go.Proofs.Ytkhoifgljalfcaa
