/- Intervals of words: what is rounded lies between the ends of an interval whose ends the format has. No program. -/
import Derived.Test.YtkhoifgljalfcaaRoot
import Derived.Test.YtkhoifgljalfcaaFc
namespace Go.Proofs.Ytkhoifgljalfcaa
open Ieee
set_option linter.unusedVariables false
set_option linter.unusedSimpArgs false

/-- Whole numbers of 2^k least places are words, where they are small. -/
def Grid (f : Format) (k : Nat) : Prop := ∀ K, K ≤ 2 * f.binade → ∃ r, r < f.infRung ∧ unit f r = K * 2 ^ k
theorem grid64 {k : Nat} (h : k ≤ 2000) : Grid double k := by
  intro K hK
  refine rung64_of rfl hK ?_
  rw [db_bin] at hK
  calc K * 2 ^ k ≤ 2 ^ 53 * 2 ^ k := Nat.mul_le_mul_right _ (by omega)
    _ = 2 ^ (53 + k) := by rw [Nat.pow_add]
    _ < 2 ^ kE := Nat.pow_lt_pow_right (by omega) (by unfold kE; omega)
theorem grid32 {k : Nat} (h : k ≤ 250) : Grid single k := by
  intro K hK
  refine rung32_of rfl hK ?_
  rw [sg_bin] at hK
  calc K * 2 ^ k ≤ 2 ^ 24 * 2 ^ k := Nat.mul_le_mul_right _ (by omega)
    _ = 2 ^ (24 + k) := by rw [Nat.pow_add]
    _ < 2 ^ ke := Nat.pow_lt_pow_right (by omega) (by unfold ke; omega)

/-- A finite word between two whole numbers of 2^k least places. -/
structure In (f : Format) (k w : Nat) (lo hi : Int) : Prop where
  fin : isFin f w
  lo : lo * ((2 ^ k : Nat) : Int) ≤ sv f w
  hi : sv f w ≤ hi * ((2 ^ k : Nat) : Int)
def sI (neg : Bool) (N : Nat) : Int := if neg then -(N : Int) else (N : Int)
theorem pow_pos_z (k : Nat) : (0 : Int) < ((2 ^ k : Nat) : Int) := by have := Nat.two_pow_pos k; omega

theorem in_abs {f : Format} {k : Nat} (hg : Grid f k) {N D r : Nat} (hD : 0 < D) (h : IsRd f N D r) {lo hi : Int} (hl : lo.natAbs ≤ 2 * f.binade) (hh : hi.natAbs ≤ 2 * f.binade)
    (h1 : lo * ((2 ^ k : Nat) : Int) * (D : Int) ≤ (N : Int)) (h2 : (N : Int) ≤ hi * ((2 ^ k : Nat) : Int) * (D : Int)) :
    r < f.infRung ∧ lo * ((2 ^ k : Nat) : Int) ≤ (unit f r : Int) ∧ (unit f r : Int) ≤ hi * ((2 ^ k : Nat) : Int) := by
  have hp := pow_pos_z k
  have hDz : (0 : Int) < (D : Int) := by omega
  have hi0 : 0 ≤ hi := by
    rcases Int.lt_or_le hi 0 with g | g
    · have a := Int.mul_neg_of_neg_of_pos g hp
      have b := Int.mul_neg_of_neg_of_pos a hDz
      omega
    · exact g
  obtain ⟨H, rfl⟩ := Int.eq_ofNat_of_zero_le hi0
  obtain ⟨rh, ih, uh⟩ := hg H (by simpa using hh)
  have hr : r ≤ rh := by
    refine IsRd.mono (D := D) (D' := 1) hD (by omega) h (IsRd.exact f (D := 1) (by omega) rh) ?_
    rw [uh, Nat.mul_one, Nat.mul_one]
    have : ((N : Nat) : Int) ≤ ((H * 2 ^ k * D : Nat) : Int) := by rw [Int.natCast_mul, Int.natCast_mul]; exact h2
    exact Int.ofNat_le.1 this
  refine ⟨Nat.lt_of_le_of_lt hr ih, ?_, ?_⟩
  · rcases Int.lt_or_le 0 lo with g | g
    · obtain ⟨L, rfl⟩ := Int.eq_ofNat_of_zero_le (Int.le_of_lt g)
      obtain ⟨rl, il, ul⟩ := hg L (by simpa using hl)
      have hr2 : rl ≤ r := by
        refine IsRd.mono (D := 1) (D' := D) (by omega) hD (IsRd.exact f (D := 1) (by omega) rl) h ?_
        rw [ul, Nat.mul_one, Nat.mul_one]
        have : ((L * 2 ^ k * D : Nat) : Int) ≤ ((N : Nat) : Int) := by rw [Int.natCast_mul, Int.natCast_mul]; exact h1
        exact Int.ofNat_le.1 this
      have := unit_mono f hr2
      rw [ul] at this
      rw [← Int.natCast_mul]
      exact Int.ofNat_le.2 this
    · have : lo * ((2 ^ k : Nat) : Int) ≤ 0 := Int.mul_nonpos_of_nonpos_of_nonneg g (Int.le_of_lt hp)
      omega
  · have := unit_mono f hr
    rw [uh] at this
    rw [← Int.natCast_mul]
    exact Int.ofNat_le.2 this

theorem in_core {f : Format} {k : Nat} (hg : Grid f k) {neg : Bool} {N D r : Nat} (hD : 0 < D) (h : IsRd f N D r) {lo hi : Int} (hl : lo.natAbs ≤ 2 * f.binade) (hh : hi.natAbs ≤ 2 * f.binade)
    (h1 : lo * ((2 ^ k : Nat) : Int) * (D : Int) ≤ sI neg N) (h2 : sI neg N ≤ hi * ((2 ^ k : Nat) : Int) * (D : Int)) : In f k (f.word neg (min r f.infRung)) lo hi := by
  unfold sI at h1 h2
  cases neg
  · simp only [Bool.false_eq_true, if_false] at h1 h2
    obtain ⟨a, b, c⟩ := in_abs hg hD h hl hh h1 h2
    rw [Nat.min_eq_left (Nat.le_of_lt a)]
    have e := sv_word f false (Nat.lt_trans a f.infRung_lt)
    simp only [Bool.false_eq_true, if_false] at e
    exact ⟨fin_word f false a, by rw [e]; exact b, by rw [e]; exact c⟩
  · simp only [if_true] at h1 h2
    obtain ⟨a, b, c⟩ := in_abs hg hD h (lo := -hi) (hi := -lo) (by simpa using hh) (by simpa using hl) (by rw [Int.neg_mul, Int.neg_mul]; omega) (by rw [Int.neg_mul, Int.neg_mul]; omega)
    rw [Nat.min_eq_left (Nat.le_of_lt a)]
    have e := sv_word f true (Nat.lt_trans a f.infRung_lt)
    simp only [if_true] at e
    rw [Int.neg_mul] at b c
    exact ⟨fin_word f true a, by rw [e]; omega, by rw [e]; omega⟩

theorem sI_sum {s : Int} {b : Bool} (hb : s ≠ 0 → b = decide (s < 0)) : sI b s.natAbs = s := by
  unfold sI
  by_cases h0 : s = 0
  · subst h0; simp
  · rw [hb h0]
    by_cases h : s < 0
    · simp [h]; omega
    · simp [h]; omega

theorem in_rnd {f : Format} (hf : 1 ≤ f.fractionBits) {k : Nat} (hg : Grid f k) {neg : Bool} {N j : Nat} {lo hi : Int} (hl : lo.natAbs ≤ 2 * f.binade) (hh : hi.natAbs ≤ 2 * f.binade)
    (h1 : lo * ((2 ^ k : Nat) : Int) * ((2 ^ j : Nat) : Int) ≤ sI neg N) (h2 : sI neg N ≤ hi * ((2 ^ k : Nat) : Int) * ((2 ^ j : Nat) : Int)) : In f k (rnd f neg N j) lo hi :=
  in_core hg (Nat.two_pow_pos j) (rd0_isRd f hf N j) hl hh h1 h2

theorem in_add {f : Format} (hf : 1 ≤ f.fractionBits) {k : Nat} (hg : Grid f k) {a b : Nat} {la ha lb hb lo hi : Int} (A : In f k a la ha) (B : In f k b lb hb) (h1 : lo ≤ la + lb) (h2 : ha + hb ≤ hi) (hl : lo.natAbs ≤ 2 * f.binade) (hh : hi.natAbs ≤ 2 * f.binade) :
    ∃ r, f.add a b = some r ∧ In f k r lo hi := by
  have hp := pow_pos_z k
  have e1 := A.lo
  have e2 := A.hi
  have e3 := B.lo
  have e4 := B.hi
  refine ⟨_, add_fin f A.fin B.fin, in_rnd hf hg hl hh ?_ ?_⟩
  · rw [sI_sum (fun h0 => by rw [if_neg h0]), Nat.pow_zero, Int.natCast_one, Int.mul_one]
    have := Int.mul_le_mul_of_nonneg_right h1 (Int.le_of_lt hp)
    rw [Int.add_mul] at this
    omega
  · rw [sI_sum (fun h0 => by rw [if_neg h0]), Nat.pow_zero, Int.natCast_one, Int.mul_one]
    have := Int.mul_le_mul_of_nonneg_right h2 (Int.le_of_lt hp)
    rw [Int.add_mul] at this
    omega
theorem in_sub {f : Format} (hf : 1 ≤ f.fractionBits) {k : Nat} (hg : Grid f k) {a b : Nat} {la ha lb hb lo hi : Int} (A : In f k a la ha) (B : In f k b lb hb) (h1 : lo ≤ la - hb) (h2 : ha - lb ≤ hi) (hl : lo.natAbs ≤ 2 * f.binade) (hh : hi.natAbs ≤ 2 * f.binade) :
    ∃ r, f.sub a b = some r ∧ In f k r lo hi := by
  have hp := pow_pos_z k
  have e1 := A.lo
  have e2 := A.hi
  have e3 := B.lo
  have e4 := B.hi
  refine ⟨_, sub_fin f A.fin B.fin, in_rnd hf hg hl hh ?_ ?_⟩
  · rw [sI_sum (fun h0 => by rw [if_neg h0]), Nat.pow_zero, Int.natCast_one, Int.mul_one]
    have := Int.mul_le_mul_of_nonneg_right h1 (Int.le_of_lt hp)
    rw [Int.sub_mul] at this
    omega
  · rw [sI_sum (fun h0 => by rw [if_neg h0]), Nat.pow_zero, Int.natCast_one, Int.mul_one]
    have := Int.mul_le_mul_of_nonneg_right h2 (Int.le_of_lt hp)
    rw [Int.sub_mul] at this
    omega

theorem sI_mul (f : Format) (a b : Nat) : sI (sgn f a ^^ sgn f b) (unit f (rg f a) * unit f (rg f b)) = sv f a * sv f b := by
  unfold sI sv
  cases sgn f a <;> cases sgn f b <;> simp [Int.natCast_mul, Int.neg_mul, Int.mul_neg]
/-- Products: the bounds of the exact product are told. -/
theorem in_mul {f : Format} (hf : 1 ≤ f.fractionBits) (hL : f.leastPlace ≤ 0) {k : Nat} (hg : Grid f k) {a b : Nat} {lo hi : Int} (fa : isFin f a) (fb : isFin f b) (h1 : lo * ((2 ^ k : Nat) : Int) * ((2 ^ (-f.leastPlace).toNat : Nat) : Int) ≤ sv f a * sv f b) (h2 : sv f a * sv f b ≤ hi * ((2 ^ k : Nat) : Int) * ((2 ^ (-f.leastPlace).toNat : Nat) : Int)) (hl : lo.natAbs ≤ 2 * f.binade) (hh : hi.natAbs ≤ 2 * f.binade) :
    ∃ r, f.mul a b = some r ∧ In f k r lo hi := by
  refine ⟨_, mul_fin f hL fa fb, in_rnd hf hg hl hh ?_ ?_⟩
  · rw [sI_mul]; exact h1
  · rw [sI_mul]; exact h2
/-- Quotients by what is greater than zero. -/
theorem in_div {f : Format} (hf : 1 ≤ f.fractionBits) (hL : f.leastPlace ≤ 0) {k : Nat} (hg : Grid f k) {a b : Nat} {lo hi : Int} (fa : isFin f a) (fb : isFin f b) (h0 : 0 < sv f b) (h1 : lo * ((2 ^ k : Nat) : Int) * sv f b ≤ sv f a * ((2 ^ (-f.leastPlace).toNat : Nat) : Int)) (h2 : sv f a * ((2 ^ (-f.leastPlace).toNat : Nat) : Int) ≤ hi * ((2 ^ k : Nat) : Int) * sv f b) (hl : lo.natAbs ≤ 2 * f.binade) (hh : hi.natAbs ≤ 2 * f.binade) :
    ∃ r, f.div a b = some r ∧ In f k r lo hi := by
  have hsb : sgn f b = false ∧ sv f b = (unit f (rg f b) : Int) := by
    unfold sv at h0 ⊢
    cases hs : sgn f b
    · simp
    · rw [hs] at h0; simp at h0; omega
  have hub : 0 < unit f (rg f b) := by have := hsb.2; omega
  obtain ⟨r, hr, e⟩ := div_fin f hf hL fa fb hub
  have hN : sI (sgn f a ^^ sgn f b) (unit f (rg f a) * 2 ^ (-f.leastPlace).toNat) = sv f a * ((2 ^ (-f.leastPlace).toNat : Nat) : Int) := by
    rw [hsb.1]
    unfold sI sv
    cases sgn f a <;> simp only [Bool.xor_false, Bool.false_eq_true, if_false, if_true, Int.natCast_mul, Int.neg_mul]
  refine ⟨_, e, in_core hg hub hr hl hh ?_ ?_⟩
  · rw [hN, ← hsb.2]; exact h1
  · rw [hN, ← hsb.2]; exact h2

end Go.Proofs.Ytkhoifgljalfcaa
