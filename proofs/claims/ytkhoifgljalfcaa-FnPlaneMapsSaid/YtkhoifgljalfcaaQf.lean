/- Exact numbers: the words of small integers over a power of two; sums, differences, products, orders and conversions of them. No program in sight. -/
import Derived.Test.YtkhoifgljalfcaaFc
namespace Go.Proofs.Ytkhoifgljalfcaa
open Go.RowKit Ieee
set_option maxRecDepth 100000
set_option linter.unusedVariables false
set_option linter.unusedSimpArgs false

/-- The word of k * 2^p units of the least place. -/
def qw (f : Format) (p : Nat) (k : Int) : Nat := f.word (decide (k < 0)) (rd0 f (k.natAbs * 2 ^ p) 0)
/-- A number that the format has. -/
structure Few (f : Format) (p : Nat) (k : Int) : Prop where
  bits : k.natAbs ≤ 2 * f.binade
  top : k.natAbs * 2 ^ p < unit f f.infRung

theorem Few.rung {f : Format} (hf : 1 ≤ f.fractionBits) {p : Nat} {k : Int} (h : Few f p k) : ∃ r, r < f.infRung ∧ unit f r = k.natAbs * 2 ^ p ∧ qw f p k = f.word (decide (k < 0)) r := by
  obtain ⟨r, hr⟩ := rung_of f k.natAbs p h.bits
  refine ⟨r, rg_lt_of_unit f (by rw [hr]; exact h.top), hr, ?_⟩
  unfold qw
  rw [rd0_exact f hf (k := 0) (r := r) (by rw [hr, Nat.pow_zero, Nat.mul_one])]

theorem natAbs_mul_two_pow (k : Int) (p : Nat) : (k * ((2 ^ p : Nat) : Int)).natAbs = k.natAbs * 2 ^ p := by rw [Int.natAbs_mul]; simp
theorem signed_natAbs (k : Int) (p : Nat) : (if decide (k < 0) = true then -((k.natAbs * 2 ^ p : Nat) : Int) else ((k.natAbs * 2 ^ p : Nat) : Int)) = k * ((2 ^ p : Nat) : Int) := by
  by_cases h : k < 0
  · rw [if_pos (by simpa using h), Int.natCast_mul, ← Int.neg_mul]
    congr 1; omega
  · rw [if_neg (by simpa using h), Int.natCast_mul]
    congr 1; omega

theorem qw_spec {f : Format} (hf : 1 ≤ f.fractionBits) {p : Nat} {k : Int} (h : Few f p k) :
    isFin f (qw f p k) ∧ sv f (qw f p k) = k * ((2 ^ p : Nat) : Int) ∧ sgn f (qw f p k) = decide (k < 0) ∧ unit f (rg f (qw f p k)) = k.natAbs * 2 ^ p ∧ qw f p k < 2 * f.signWeight := by
  obtain ⟨r, h1, h2, h3⟩ := h.rung hf
  have hl : r < f.signWeight := Nat.lt_trans h1 f.infRung_lt
  rw [h3]
  refine ⟨fin_word f _ h1, ?_, sgn_word f _ hl, by rw [rg_word f _ hl, h2], by unfold Format.word; split <;> omega⟩
  rw [sv_word f _ hl, h2]
  exact signed_natAbs k p

theorem qw_rnd {f : Format} (hf : 1 ≤ f.fractionBits) {p : Nat} {k : Int} (h : Few f p k) (j : Nat) {neg : Bool} (hn : neg = decide (k < 0)) {N : Nat} (hN : N = k.natAbs * 2 ^ p * 2 ^ j) : rnd f neg N j = qw f p k := by
  obtain ⟨r, h1, h2, h3⟩ := h.rung hf
  rw [rnd_exact f hf neg (r := r) (by rw [hN, h2]) (Nat.le_of_lt h1), h3, hn]

theorem pow_pos_int (p : Nat) : (0 : Int) < ((2 ^ p : Nat) : Int) := by exact_mod_cast Nat.two_pow_pos p

theorem qw_add {f : Format} (hf : 1 ≤ f.fractionBits) {p : Nat} {a b : Int} (ha : Few f p a) (hb : Few f p b) (hc : Few f p (a + b)) : f.add (qw f p a) (qw f p b) = some (qw f p (a + b)) := by
  obtain ⟨fa, sa, ga, _, _⟩ := qw_spec hf ha
  obtain ⟨fb, sb, gb, _, _⟩ := qw_spec hf hb
  have hp := pow_pos_int p
  rw [add_fin f fa fb, sa, sb, ← Int.add_mul, ga, gb]
  congr 1
  refine qw_rnd hf hc 0 ?_ (by rw [natAbs_mul_two_pow, Nat.pow_zero, Nat.mul_one])
  by_cases hz : a + b = 0
  · rw [if_pos (by rw [hz, Int.zero_mul])]
    by_cases h1 : a < 0
    · have h2 : ¬ b < 0 := by omega
      simp [h2, hz]
    · simp [h1, hz]
  · rw [if_neg (by intro e; rcases Int.mul_eq_zero.1 e with g | g <;> omega)]
    by_cases h1 : a + b < 0
    · have := Int.mul_neg_of_neg_of_pos h1 hp
      rw [decide_eq_true this, decide_eq_true h1]
    · have := Int.mul_nonneg (show 0 ≤ a + b by omega) (Int.le_of_lt hp)
      rw [decide_eq_false (by omega), decide_eq_false h1]

theorem qw_sub {f : Format} (hf : 1 ≤ f.fractionBits) {p : Nat} {a b : Int} (ha : Few f p a) (hb : Few f p b) (hc : Few f p (a - b)) : f.sub (qw f p a) (qw f p b) = some (qw f p (a - b)) := by
  obtain ⟨fa, sa, ga, _, _⟩ := qw_spec hf ha
  obtain ⟨fb, sb, gb, _, _⟩ := qw_spec hf hb
  have hp := pow_pos_int p
  rw [sub_fin f fa fb, sa, sb, ← Int.sub_mul, ga, gb]
  congr 1
  refine qw_rnd hf hc 0 ?_ (by rw [natAbs_mul_two_pow, Nat.pow_zero, Nat.mul_one])
  by_cases hz : a - b = 0
  · rw [if_pos (by rw [hz, Int.zero_mul])]
    by_cases h1 : a < 0
    · have h2 : b < 0 := by omega
      simp [h2, hz]
    · simp [h1, hz]
  · rw [if_neg (by intro e; rcases Int.mul_eq_zero.1 e with g | g <;> omega)]
    by_cases h1 : a - b < 0
    · have := Int.mul_neg_of_neg_of_pos h1 hp
      rw [decide_eq_true this, decide_eq_true h1]
    · have := Int.mul_nonneg (show 0 ≤ a - b by omega) (Int.le_of_lt hp)
      rw [decide_eq_false (by omega), decide_eq_false h1]

theorem sign_mul (a b : Int) (h : a * b = 0 → ¬ a < 0 ∧ ¬ b < 0) : (decide (a < 0) ^^ decide (b < 0)) = decide (a * b < 0) := by
  by_cases h1 : a < 0
  · by_cases h2 : b < 0
    · have := Int.mul_pos_of_neg_of_neg h1 h2
      rw [decide_eq_true h1, decide_eq_true h2, decide_eq_false (by omega)]; rfl
    · by_cases hb : b = 0
      · exact absurd h1 (h (by rw [hb, Int.mul_zero])).1
      · have := Int.mul_neg_of_neg_of_pos h1 (show 0 < b by omega)
        rw [decide_eq_true h1, decide_eq_false h2, decide_eq_true this]; rfl
  · by_cases h2 : b < 0
    · by_cases ha : a = 0
      · exact absurd h2 (h (by rw [ha, Int.zero_mul])).2
      · have := Int.mul_neg_of_pos_of_neg (show 0 < a by omega) h2
        rw [decide_eq_false h1, decide_eq_true h2, decide_eq_true this]; rfl
    · have := Int.mul_nonneg (show 0 ≤ a by omega) (show 0 ≤ b by omega)
      rw [decide_eq_false h1, decide_eq_false h2, decide_eq_false (by omega)]; rfl

/-- A product: p, q and r places, with p + q = r + L. -/
theorem qw_mul {f : Format} (hf : 1 ≤ f.fractionBits) (hL : f.leastPlace ≤ 0) {p q r : Nat} (hr : p + q = r + (-f.leastPlace).toNat) {a b : Int} (ha : Few f p a) (hb : Few f q b) (hc : Few f r (a * b)) (hs : a * b = 0 → ¬ a < 0 ∧ ¬ b < 0) :
    f.mul (qw f p a) (qw f q b) = some (qw f r (a * b)) := by
  obtain ⟨fa, sa, ga, ua, _⟩ := qw_spec hf ha
  obtain ⟨fb, sb, gb, ub, _⟩ := qw_spec hf hb
  rw [mul_fin f hL fa fb, ua, ub, ga, gb]
  congr 1
  refine qw_rnd hf hc _ (sign_mul a b hs) ?_
  rw [Int.natAbs_mul, Nat.mul_mul_mul_comm, ← Nat.pow_add, hr, Nat.pow_add, ← Nat.mul_assoc]

theorem qw_order {f : Format} (hf : 1 ≤ f.fractionBits) {p : Nat} {a b : Int} (ha : Few f p a) (hb : Few f p b) : f.order (qw f p a) (qw f p b) = some (compare a b) := by
  obtain ⟨fa, sa, _, _, _⟩ := qw_spec hf ha
  obtain ⟨fb, sb, _, _, _⟩ := qw_spec hf hb
  have hp := pow_pos_int p
  rw [order_fin f fa fb, sa, sb]
  congr 1
  simp only [compare, compareOfLessAndEq]
  have l1 : (a * ((2 ^ p : Nat) : Int) < b * ((2 ^ p : Nat) : Int)) ↔ a < b := Int.mul_lt_mul_right hp
  have l2 : (a * ((2 ^ p : Nat) : Int) = b * ((2 ^ p : Nat) : Int)) ↔ a = b := Int.mul_eq_mul_right_iff (by omega)
  simp only [l1, l2]

theorem qw_shift {f : Format} {p j : Nat} (k : Int) : qw f p (k * ((2 ^ j : Nat) : Int)) = qw f (p + j) k := by
  unfold qw
  rw [natAbs_mul_two_pow, Nat.mul_assoc, ← Nat.pow_add, Nat.add_comm j p]
  have hp := pow_pos_int j
  congr 1
  by_cases h1 : k < 0
  · have := Int.mul_neg_of_neg_of_pos h1 hp
    rw [decide_eq_true this, decide_eq_true h1]
  · have := Int.mul_nonneg (show 0 ≤ k by omega) (Int.le_of_lt hp)
    rw [decide_eq_false (by omega), decide_eq_false h1]

/-! ### 32 bits: k / 2^g -/
def fq (g : Nat) (k : Int) : Nat := qw single (149 - g) k
theorem few32 {g : Nat} {k : Int} (h : k.natAbs ≤ 16777216) : Few single (149 - g) k := by
  refine ⟨by rw [sg_bin]; omega, ?_⟩
  rw [top32]
  calc k.natAbs * 2 ^ (149 - g) ≤ 2 ^ 24 * 2 ^ (149 - g) := Nat.mul_le_mul_right _ (by omega)
    _ = 2 ^ (24 + (149 - g)) := by rw [Nat.pow_add]
    _ < 2 ^ ke := Nat.pow_lt_pow_right (by omega) (by unfold ke; omega)
theorem f1 : 1 ≤ single.fractionBits := by decide
theorem fq_lt {g : Nat} {k : Int} (h : k.natAbs ≤ 16777216) : fq g k < 4294967296 := by
  have := (qw_spec f1 (few32 (g := g) h)).2.2.2.2
  rw [sg_sw] at this; exact this
theorem fq_fin {g : Nat} {k : Int} (h : k.natAbs ≤ 16777216) : fin32 (fq g k) = true := (fin32_iff _).1 (qw_spec f1 (few32 (g := g) h)).1
theorem fq_nan {g : Nat} {k : Int} (h : k.natAbs ≤ 16777216) : nan32 (fq g k) = false := nan_of_fin32 (fq_fin h)
theorem fl_fq {g : Nat} {k : Int} (h : k.natAbs ≤ 16777216) : fl (fq g k) = fq g k := fl_eq (fq_nan h)
theorem fq_add {g : Nat} {a b : Int} (ha : a.natAbs ≤ 16777216) (hb : b.natAbs ≤ 16777216) (hc : (a + b).natAbs ≤ 16777216) : floatBits .add .f32 (fq g a) (fq g b) = some (fq g (a + b)) := qw_add f1 (few32 ha) (few32 hb) (few32 hc)
theorem fq_sub {g : Nat} {a b : Int} (ha : a.natAbs ≤ 16777216) (hb : b.natAbs ≤ 16777216) (hc : (a - b).natAbs ≤ 16777216) : floatBits .sub .f32 (fq g a) (fq g b) = some (fq g (a - b)) := qw_sub f1 (few32 ha) (few32 hb) (few32 hc)
theorem fq_mul {g h : Nat} (hg : g + h ≤ 149) {a b : Int} (ha : a.natAbs ≤ 16777216) (hb : b.natAbs ≤ 16777216) (hc : (a * b).natAbs ≤ 16777216) (hs : a * b = 0 → ¬ a < 0 ∧ ¬ b < 0) : floatBits .mul .f32 (fq g a) (fq h b) = some (fq (g + h) (a * b)) :=
  qw_mul f1 (by rw [sg_L]; omega) (by rw [sg_L]; omega) (few32 ha) (few32 hb) (few32 hc) hs
theorem fop_of {op : BinOp} {x y : Nat} {g : Nat} {k : Int} (hk : k.natAbs ≤ 16777216) (h : floatBits op .f32 x y = some (fq g k)) : fop op x y = fq g k := by unfold fop; rw [h]; exact fl_fq hk
theorem fop_add {g : Nat} {a b : Int} (ha : a.natAbs ≤ 16777216) (hb : b.natAbs ≤ 16777216) (hc : (a + b).natAbs ≤ 16777216) : fop .add (fq g a) (fq g b) = fq g (a + b) := fop_of hc (fq_add ha hb hc)
theorem fop_sub {g : Nat} {a b : Int} (ha : a.natAbs ≤ 16777216) (hb : b.natAbs ≤ 16777216) (hc : (a - b).natAbs ≤ 16777216) : fop .sub (fq g a) (fq g b) = fq g (a - b) := fop_of hc (fq_sub ha hb hc)
theorem fop_mul {g h : Nat} (hg : g + h ≤ 149) {a b : Int} (ha : a.natAbs ≤ 16777216) (hb : b.natAbs ≤ 16777216) (hc : (a * b).natAbs ≤ 16777216) (hs : a * b = 0 → ¬ a < 0 ∧ ¬ b < 0) : fop .mul (fq g a) (fq h b) = fq (g + h) (a * b) := fop_of hc (fq_mul hg ha hb hc hs)
theorem fq_shift {g j : Nat} (hg : g + j ≤ 149) (k : Int) : fq (g + j) (k * ((2 ^ j : Nat) : Int)) = fq g k := by
  unfold fq; rw [qw_shift]; congr 1; omega

theorem cmp_lt (a b : Int) : (compare a b == Ordering.lt) = decide (a < b) := by have := cmp_beq_lt a b; simpa using this
theorem lt32_fq {g : Nat} {a b : Int} (ha : a.natAbs ≤ 16777216) (hb : b.natAbs ≤ 16777216) : lt32 (fq g a) (fq g b) = decide (a < b) := by
  rw [← ord_lt32]; unfold fq; rw [qw_order f1 (few32 ha) (few32 hb)]; exact cmp_beq_lt a b
theorem eq32_fq {g : Nat} {a b : Int} (ha : a.natAbs ≤ 16777216) (hb : b.natAbs ≤ 16777216) : eq32 (fq g a) (fq g b) = decide (a = b) := by
  rw [← ord_eq32]; unfold fq; rw [qw_order f1 (few32 ha) (few32 hb)]; exact cmp_beq_eq a b
theorem le32_fq {g : Nat} {a b : Int} (ha : a.natAbs ≤ 16777216) (hb : b.natAbs ≤ 16777216) : le32 (fq g a) (fq g b) = decide (a ≤ b) := by
  rw [← ord_le32, lt32_fq ha hb, eq32_fq ha hb, Bool.eq_iff_iff]; simp; omega
theorem fq_inj {g : Nat} {a b : Int} (ha : a.natAbs ≤ 16777216) (hb : b.natAbs ≤ 16777216) (h : fq g a = fq g b) : a = b := by
  have := eq32_fq (g := g) ha hb
  rw [h, eq32_fq hb hb] at this; simpa using this.symm
theorem fq_zero (g : Nat) : fq g 0 = 0 := by
  obtain ⟨r, h1, h2, h3⟩ := (few32 (g := g) (k := 0) (by decide)).rung f1
  have : r = 0 := unit_inj single (by rw [h2, unit_zero]; simp)
  unfold fq; rw [h3, this]; rfl

theorem fq_ofInt {n : Int} (h : n.natAbs ≤ 16777216) : floatOfInt .f32 n = fq 0 n := by
  unfold floatOfInt FloatKind.nearest
  show single.nearest (decide (n < 0)) n.natAbs 0 = _
  have e := nearest_eq single (decide (n < 0)) n.natAbs 0 0 (by rw [sg_L]; omega)
  rw [e]
  have e2 : ((0 : Int) + ((0 : Nat) : Int) - single.leastPlace).toNat = 149 := by rw [sg_L]; rfl
  rw [e2]
  exact qw_rnd f1 (few32 (g := 0) h) 0 rfl (by rw [Nat.pow_zero, Nat.mul_one])

/-! ### 64 bits -/
def dq (g : Nat) (k : Int) : Nat := qw double (1074 - g) k
theorem few64 {g : Nat} {k : Int} (h : k.natAbs ≤ 9007199254740992) : Few double (1074 - g) k := by
  refine ⟨by rw [db_bin]; omega, ?_⟩
  rw [top64]
  calc k.natAbs * 2 ^ (1074 - g) ≤ 2 ^ 53 * 2 ^ (1074 - g) := Nat.mul_le_mul_right _ (by omega)
    _ = 2 ^ (53 + (1074 - g)) := by rw [Nat.pow_add]
    _ < 2 ^ kE := Nat.pow_lt_pow_right (by omega) (by unfold kE; omega)
theorem d1 : 1 ≤ double.fractionBits := by decide
theorem dq_lt {g : Nat} {k : Int} (h : k.natAbs ≤ 9007199254740992) : dq g k < 18446744073709551616 := by
  have := (qw_spec d1 (few64 (g := g) h)).2.2.2.2
  rw [db_sw] at this; exact this
theorem dq_fin {g : Nat} {k : Int} (h : k.natAbs ≤ 9007199254740992) : fin64 (dq g k) = true := (fin64_iff _).1 (qw_spec d1 (few64 (g := g) h)).1
theorem dq_nan {g : Nat} {k : Int} (h : k.natAbs ≤ 9007199254740992) : nan64 (dq g k) = false := nan_of_fin64 (dq_fin h)
theorem dq_add {g : Nat} {a b : Int} (ha : a.natAbs ≤ 9007199254740992) (hb : b.natAbs ≤ 9007199254740992) (hc : (a + b).natAbs ≤ 9007199254740992) : floatBits .add .f64 (dq g a) (dq g b) = some (dq g (a + b)) := qw_add d1 (few64 ha) (few64 hb) (few64 hc)
theorem dq_mul {g h : Nat} (hg : g + h ≤ 1074) {a b : Int} (ha : a.natAbs ≤ 9007199254740992) (hb : b.natAbs ≤ 9007199254740992) (hc : (a * b).natAbs ≤ 9007199254740992) (hs : a * b = 0 → ¬ a < 0 ∧ ¬ b < 0) : floatBits .mul .f64 (dq g a) (dq h b) = some (dq (g + h) (a * b)) :=
  qw_mul d1 (by rw [db_L]; omega) (by rw [db_L]; omega) (few64 ha) (few64 hb) (few64 hc) hs

theorem dq_zero (g : Nat) : dq g 0 = 0 := by
  obtain ⟨r, h1, h2, h3⟩ := (few64 (g := g) (k := 0) (by decide)).rung d1
  have : r = 0 := unit_inj double (by rw [h2, unit_zero]; simp)
  unfold dq; rw [h3, this]; rfl
theorem word_inj (f : Format) {w : Nat} {neg : Bool} {r : Nat} (hw : w < 2 * f.signWeight) (h1 : sgn f w = neg) (h2 : rg f w = r) : w = f.word neg r := by rw [← h1, ← h2, word_sgn_rg f hw]

theorem fq_wide {g : Nat} (hg : g ≤ 149) {k : Int} (h : k.natAbs ≤ 16777216) : floatToFloatBits .f32 (fq g k) .f64 = some (dq g k) := by
  obtain ⟨fa, sa, ga, ua, la⟩ := qw_spec f1 (few32 (g := g) h)
  obtain ⟨r, h1, h2, h3, h4, h5⟩ := wide_fin (fq_fin (g := g) h)
  obtain ⟨s, g1, g2, g3⟩ := (few64 (g := g) (k := k) (by omega)).rung d1
  rw [h1]
  congr 1
  unfold dq
  rw [g3]
  refine word_inj double (by rw [db_sw]; omega) (by rw [h4]; exact ga) (unit_inj double ?_)
  rw [h5, g2]
  show unit single (rg single (qw single (149 - g) k)) * 2 ^ kw = _
  rw [ua, Nat.mul_assoc, ← Nat.pow_add]
  congr 2; unfold kw; omega
theorem fq_narrow {g : Nat} (hg : g ≤ 149) {k : Int} (h : k.natAbs ≤ 16777216) : floatToFloatBits .f64 (dq g k) .f32 = some (fq g k) := by
  obtain ⟨fa, sa, ga, ua, la⟩ := qw_spec d1 (few64 (g := g) (k := k) (by omega))
  obtain ⟨s, g1, g2, g3⟩ := (few32 (g := g) h).rung f1
  have hu : unit double (rg double (dq g k)) = unit single s * 2 ^ kw := by
    show unit double (rg double (qw double (1074 - g) k)) = _
    rw [ua, g2, Nat.mul_assoc, ← Nat.pow_add]
    congr 2; unfold kw; omega
  have := narrow_fin (dq_fin (g := g) (k := k) (by omega)) s (by rw [hu]; exact IsRd.exact single (Nat.two_pow_pos _) s) g1
  rw [this]
  congr 1
  unfold fq
  rw [g3]
  congr 1

/-! ### To an integer, towards zero -/
theorem cut_zero (neg : Bool) (n drop : Nat) : Toward.zero.cut neg n drop = n / 2 ^ drop := by
  unfold Toward.cut
  simp only [Bool.toNat_false, Nat.add_zero, Nat.shiftLeft_eq, Nat.one_mul]
  by_cases h : drop ≤ n.log2 + 2
  · rw [Nat.min_eq_left h]
  · rw [Nat.min_eq_right (by omega)]
    have h1 : n < 2 ^ (n.log2 + 1) := Nat.lt_log2_self
    rw [Nat.div_eq_of_lt (Nat.lt_of_lt_of_le h1 (Nat.pow_le_pow_right (by omega) (by omega))), Nat.div_eq_of_lt (Nat.lt_of_lt_of_le h1 (Nat.pow_le_pow_right (by omega) (by omega)))]

theorem toInt_fin (f : Format) (L : Nat) (hL : f.leastPlace = -(L : Int)) {w : Nat} (h : isFin f w) : (f.read w).toInt .zero = some (if sgn f w then -((unit f (rg f w) / 2 ^ L : Nat) : Int) else ((unit f (rg f w) / 2 ^ L : Nat) : Int)) := by
  obtain ⟨m, t, e, u⟩ := read_fin f h
  rw [e]
  unfold Datum.toInt Datum.integral
  simp only [cut_zero, Nat.shiftLeft_eq]
  have key : m * 2 ^ (f.leastPlace + (t : Int)).toNat / 2 ^ (-(f.leastPlace + (t : Int))).toNat = unit f (rg f w) / 2 ^ L := by
    rw [← u, hL]
    by_cases hlt : t ≤ L
    · have e1 : (-(L : Int) + (t : Int)).toNat = 0 := by omega
      have e2 : (-(-(L : Int) + (t : Int))).toNat = L - t := by omega
      rw [e1, e2, Nat.pow_zero, Nat.mul_one]
      obtain ⟨d, rfl⟩ : ∃ d, L = d + t := ⟨L - t, by omega⟩
      rw [Nat.add_sub_cancel, Nat.pow_add, Nat.mul_div_mul_right _ _ (Nat.two_pow_pos _)]
    · have e1 : (-(L : Int) + (t : Int)).toNat = t - L := by omega
      have e2 : (-(-(L : Int) + (t : Int))).toNat = 0 := by omega
      rw [e1, e2, Nat.pow_zero, Nat.div_one]
      obtain ⟨d, rfl⟩ : ∃ d, t = d + L := ⟨t - L, by omega⟩
      rw [Nat.add_sub_cancel, Nat.pow_add, ← Nat.mul_assoc, Nat.mul_div_cancel _ (Nat.two_pow_pos _)]
  rw [key]
  unfold signed
  simp [Nat.shiftLeft_eq]

theorem fq_toInt {g : Nat} (hg : g ≤ 149) {k : Int} (h : k.natAbs ≤ 16777216) : floatToIntVal .f32 (fq g k) .i64 = some (if k < 0 then -((k.natAbs / 2 ^ g : Nat) : Int) else ((k.natAbs / 2 ^ g : Nat) : Int)) := by
  obtain ⟨fa, sa, ga, ua, la⟩ := qw_spec f1 (few32 (g := g) h)
  have e : (FloatKind.f32.decode (fq g k)).toInt .zero = some (if k < 0 then -((k.natAbs / 2 ^ g : Nat) : Int) else ((k.natAbs / 2 ^ g : Nat) : Int)) := by
    show (single.read (qw single (149 - g) k)).toInt .zero = _
    rw [toInt_fin single 149 (by rw [sg_L]; rfl) fa, ga, ua]
    have hd : k.natAbs * 2 ^ (149 - g) / 2 ^ 149 = k.natAbs / 2 ^ g := by
      obtain ⟨d, hd⟩ : ∃ d, 149 = g + d := ⟨149 - g, by omega⟩
      rw [hd, Nat.add_sub_cancel_left, Nat.pow_add, Nat.mul_div_mul_right _ _ (Nat.two_pow_pos _)]
    rw [hd]
    by_cases hk : k < 0 <;> simp [hk]
  unfold floatToIntVal
  rw [e]
  have hle : k.natAbs / 2 ^ g ≤ k.natAbs := Nat.div_le_self _ _
  dsimp only
  rw [if_pos]
  show (-9223372036854775808 : Int) ≤ _ ∧ _ ≤ (9223372036854775807 : Int)
  generalize k.natAbs / 2 ^ g = z at *
  split <;> omega
theorem fq_int {k : Int} (h : k.natAbs ≤ 16777216) : floatToIntVal .f32 (fq 0 k) .i64 = some k := by
  rw [fq_toInt (by omega) h, Nat.pow_zero, Nat.div_one]
  congr 1; split <;> omega

end Go.Proofs.Ytkhoifgljalfcaa
