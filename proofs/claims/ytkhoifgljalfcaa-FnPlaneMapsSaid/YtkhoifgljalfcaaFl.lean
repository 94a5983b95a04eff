/- Plain facts on the model's binary floating point: the word that is nearest to a number is told by the midpoints of its neighbours. No program in sight. -/
import Ieee.Arith
import Derived.Laws.FloatBits
namespace Go.Proofs.Ytkhoifgljalfcaa
open Ieee

/-- n / 2^s, to the nearest, ties to even. -/
def rhe (n s : Nat) : Nat := n / 2 ^ s + (if 2 ^ s < 2 * (n % 2 ^ s) ∨ (2 ^ s = 2 * (n % 2 ^ s) ∧ n / 2 ^ s % 2 = 1) then 1 else 0)

theorem cut_even (neg : Bool) (n drop : Nat) : Toward.even.cut neg n drop = rhe n drop := by
  unfold Toward.cut rhe
  simp only [Nat.shiftLeft_eq, Nat.one_mul]
  by_cases h : drop ≤ n.log2 + 2
  · rw [Nat.min_eq_left h]
    congr 1
    generalize n % 2 ^ drop = r
    generalize n / 2 ^ drop % 2 = q
    generalize 2 ^ drop = g
    by_cases h1 : g < 2 * r
    · simp [h1]
    · by_cases h2 : g = 2 * r
      · subst h2
        by_cases h3 : q = 1 <;> simp [h3]
      · simp [h1, h2]
  · have h : n.log2 + 2 < drop := by omega
    rw [Nat.min_eq_right (by omega)]
    have hlt : n < 2 ^ (n.log2 + 1) := Nat.lt_log2_self
    have e2 : 2 ^ (n.log2 + 2) = 2 * 2 ^ (n.log2 + 1) := by rw [Nat.pow_succ 2 (n.log2 + 1)]; omega
    have hd : 2 ^ (n.log2 + 2) ≤ 2 ^ drop := Nat.pow_le_pow_right (by omega) (by omega)
    have hd2 : 2 ^ (n.log2 + 2) < 2 ^ drop := Nat.pow_lt_pow_right (by omega) h
    have hp1 : 0 < 2 ^ (n.log2 + 1) := Nat.two_pow_pos _
    rw [Nat.div_eq_of_lt (show n < 2 ^ (n.log2 + 2) by omega), Nat.mod_eq_of_lt (show n < 2 ^ (n.log2 + 2) by omega), Nat.div_eq_of_lt (show n < 2 ^ drop by omega), Nat.mod_eq_of_lt (show n < 2 ^ drop by omega)]
    rw [if_neg (by omega)]
    have a1 : ¬ (2 ^ (n.log2 + 2) < 2 * n) := by omega
    have a2 : ¬ (2 ^ (n.log2 + 2) = 2 * n) := by omega
    simp [a1]

theorem rhe_scale (n s j : Nat) : rhe (n * 2 ^ j) (s + j) = rhe n s := by
  have hj : 0 < 2 ^ j := Nat.two_pow_pos _
  unfold rhe
  have e1 : n * 2 ^ j / 2 ^ (s + j) = n / 2 ^ s := by
    rw [Nat.pow_add]; exact Nat.mul_div_mul_right n (2 ^ s) hj
  have e2 : n * 2 ^ j % 2 ^ (s + j) = (n % 2 ^ s) * 2 ^ j := by
    rw [Nat.pow_add]; exact Nat.mul_mod_mul_right (2 ^ j) n (2 ^ s)
  rw [e1, e2, Nat.pow_add]
  have e3 : (2 ^ s * 2 ^ j < 2 * (n % 2 ^ s * 2 ^ j)) ↔ 2 ^ s < 2 * (n % 2 ^ s) := by
    rw [← Nat.mul_assoc]; exact Nat.mul_lt_mul_right hj
  have e4 : (2 ^ s * 2 ^ j = 2 * (n % 2 ^ s * 2 ^ j)) ↔ 2 ^ s = 2 * (n % 2 ^ s) := by
    rw [← Nat.mul_assoc]; exact Nat.mul_left_inj (by omega)
  simp only [e3, e4]

theorem rhe_zero (n : Nat) : rhe n 0 = n := by
  unfold rhe; simp; omega

/-- |rhe - n/2^s| <= 1/2, and even where it is a half. -/
theorem rhe_spec (n s : Nat) : 2 * n ≤ (2 * rhe n s + 1) * 2 ^ s ∧ 2 * rhe n s * 2 ^ s ≤ 2 * n + 2 ^ s ∧
    (2 * n = (2 * rhe n s + 1) * 2 ^ s → rhe n s % 2 = 0) ∧ (2 * rhe n s * 2 ^ s = 2 * n + 2 ^ s → rhe n s % 2 = 0) := by
  have hp : 0 < 2 ^ s := Nat.two_pow_pos _
  have hm := Nat.div_add_mod n (2 ^ s)
  have hl := Nat.mod_lt n hp
  generalize hq : n / 2 ^ s = q at *
  generalize hr : n % 2 ^ s = r at *
  generalize hg : 2 ^ s = g at *
  unfold rhe
  rw [hg, hq, hr]
  subst hm
  have c1 : g * q = q * g := Nat.mul_comm _ _
  split
  · rename_i h
    have e1 : (2 * (q + 1) + 1) * g = 2 * (q * g) + 3 * g := by rw [Nat.add_mul, Nat.mul_assoc, Nat.add_mul]; omega
    have e2 : 2 * (q + 1) * g = 2 * (q * g) + 2 * g := by rw [Nat.mul_assoc, Nat.add_mul]; omega
    rw [e1, e2, c1]
    refine ⟨by omega, by omega, by omega, by omega⟩
  · rename_i h
    have e1 : (2 * (q + 0) + 1) * g = 2 * (q * g) + g := by rw [Nat.add_mul, Nat.mul_assoc]; simp
    have e2 : 2 * (q + 0) * g = 2 * (q * g) := by rw [Nat.mul_assoc]; simp
    rw [e1, e2, c1]
    refine ⟨by omega, by omega, by omega, by omega⟩

/-- What a rung stands for, in units of the least place. -/
def unit (f : Format) (r : Nat) : Nat := if r < f.binade then r else (f.binade + r % f.binade) * 2 ^ (r / f.binade - 1)
def ulpr (f : Format) (r : Nat) : Nat := 2 ^ (r / f.binade - 1)
def mid (f : Format) (r : Nat) : Nat := 2 * unit f r + ulpr f r

theorem binade_pos (f : Format) : 0 < f.binade := Nat.two_pow_pos _

theorem unit_succ (f : Format) (r : Nat) : unit f (r + 1) = unit f r + ulpr f r := by
  have hb := binade_pos f
  unfold unit ulpr
  generalize f.binade = B at *
  by_cases h : r + 1 < B
  · rw [if_pos h, if_pos (by omega), Nat.div_eq_of_lt (by omega)]
  · rw [if_neg h]
    by_cases h2 : r < B
    · have : r + 1 = B := by omega
      rw [if_pos h2, this, Nat.mod_self, Nat.div_self hb, Nat.div_eq_of_lt h2]; simp; omega
    · rw [if_neg h2]
      have hq : 1 ≤ r / B := (Nat.le_div_iff_mul_le hb).2 (by omega)
      have hm := Nat.div_add_mod r B
      have hl := Nat.mod_lt r hb
      by_cases h3 : r % B + 1 = B
      · have e : r + 1 = B * (r / B + 1) := by rw [Nat.mul_add]; omega
        have e1 : (r + 1) / B = r / B + 1 := by rw [e]; exact Nat.mul_div_cancel_left _ hb
        have e2 : (r + 1) % B = 0 := by rw [e]; exact Nat.mul_mod_right _ _
        rw [e1, e2]
        obtain ⟨t, ht⟩ : ∃ t, r / B = t + 1 := ⟨r / B - 1, by omega⟩
        rw [ht]
        simp only [Nat.add_sub_cancel, Nat.add_zero]
        have h4 : r % B = B - 1 := by omega
        rw [h4, Nat.pow_succ]
        generalize 2 ^ t = p
        have : B + (B - 1) = 2 * B - 1 := by omega
        rw [this, Nat.sub_mul]
        have : p ≤ 2 * B * p := by
          calc p = 1 * p := by omega
            _ ≤ 2 * B * p := Nat.mul_le_mul_right _ (by omega)
        rw [show B * (p * 2) = 2 * B * p by rw [Nat.mul_comm p 2, ← Nat.mul_assoc, Nat.mul_comm B 2]]
        omega
      · have e : r + 1 = (r % B + 1) + B * (r / B) := by omega
        have e1 : (r + 1) / B = r / B := by rw [e, Nat.add_mul_div_left _ _ hb, Nat.div_eq_of_lt (by omega)]; simp
        have e2 : (r + 1) % B = r % B + 1 := by rw [e, Nat.add_mul_mod_self_left, Nat.mod_eq_of_lt (by omega)]
        rw [e1, e2, ← Nat.add_assoc, Nat.add_mul]; simp

theorem ulpr_pos (f : Format) (r : Nat) : 0 < ulpr f r := Nat.two_pow_pos _
theorem unit_zero (f : Format) : unit f 0 = 0 := by unfold unit; rw [if_pos (binade_pos f)]
theorem mid_eq (f : Format) (r : Nat) : mid f r = unit f r + unit f (r + 1) := by unfold mid; rw [unit_succ]; omega

theorem unit_lt_succ (f : Format) (r : Nat) : unit f r < unit f (r + 1) := by rw [unit_succ]; have := ulpr_pos f r; omega
theorem unit_mono (f : Format) {a b : Nat} (h : a ≤ b) : unit f a ≤ unit f b := by
  induction h with
  | refl => exact Nat.le_refl _
  | step _ ih => exact Nat.le_trans ih (Nat.le_of_lt (unit_lt_succ f _))
theorem unit_lt (f : Format) {a b : Nat} (h : a < b) : unit f a < unit f b := Nat.lt_of_lt_of_le (unit_lt_succ f a) (unit_mono f h)
theorem unit_inj (f : Format) {a b : Nat} (h : unit f a = unit f b) : a = b := by
  rcases Nat.lt_trichotomy a b with g | g | g
  · have := unit_lt f g; omega
  · exact g
  · have := unit_lt f g; omega
theorem unit_lt_iff (f : Format) {a b : Nat} : unit f a < unit f b ↔ a < b := by
  constructor
  · intro h; rcases Nat.lt_or_ge a b with g | g
    · exact g
    · have := unit_mono f g; omega
  · exact unit_lt f
theorem unit_le_iff (f : Format) {a b : Nat} : unit f a ≤ unit f b ↔ a ≤ b := by
  constructor
  · intro h; rcases Nat.lt_or_ge b a with g | g
    · have := unit_lt f g; omega
    · exact g
  · exact unit_mono f
theorem mid_mono (f : Format) {a b : Nat} (h : a ≤ b) : mid f a ≤ mid f b := by
  rw [mid_eq, mid_eq]; have := unit_mono f h; have := unit_mono f (Nat.add_le_add_right h 1); omega
theorem mid_lt (f : Format) {a b : Nat} (h : a < b) : mid f a < mid f b := by
  rw [mid_eq, mid_eq]; have := unit_lt f h; have := unit_lt f (Nat.add_lt_add_right h 1); omega

/-- Where a carry ends. -/
theorem unit_of (f : Format) (d kept : Nat) (h1 : kept ≤ 2 * f.binade) (h2 : d = 0 ∨ f.binade ≤ kept) : unit f (d * f.binade + kept) = kept * 2 ^ d := by
  have hb := binade_pos f
  unfold unit
  generalize f.binade = B at *
  by_cases hk : kept < B
  · have hd : d = 0 := by omega
    subst hd
    rw [if_pos (by omega)]; simp
  · rw [if_neg (by have := Nat.zero_le (d * B); omega)]
    by_cases hk2 : kept < 2 * B
    · have e : d * B + kept = (kept - B) + B * (d + 1) := by rw [Nat.mul_comm, Nat.mul_add]; omega
      rw [e, Nat.add_mul_div_left _ _ hb, Nat.add_mul_mod_self_left, Nat.div_eq_of_lt (by omega), Nat.mod_eq_of_lt (by omega)]
      rw [show B + (kept - B) = kept by omega]; simp
    · have e : d * B + kept = 0 + B * (d + 2) := by rw [Nat.mul_comm, Nat.mul_add]; omega
      rw [e, Nat.add_mul_div_left _ _ hb, Nat.add_mul_mod_self_left, Nat.zero_div, Nat.zero_mod]
      have : kept = 2 * B := by omega
      rw [this, show 0 + (d + 2) - 1 = d + 1 by omega, Nat.pow_succ, Nat.add_zero, Nat.mul_comm (2 ^ d) 2, ← Nat.mul_assoc, Nat.mul_comm B 2]

/-- r is the rung of the number N / D: between the midpoints; at a midpoint, even. -/
def IsRd (f : Format) (N D r : Nat) : Prop :=
  (∀ q, q + 1 = r → mid f q * D < 2 * N ∨ (mid f q * D = 2 * N ∧ r % 2 = 0)) ∧ (2 * N < mid f r * D ∨ (2 * N = mid f r * D ∧ r % 2 = 0))

theorem IsRd.mono {f : Format} {N D r N' D' r' : Nat} (hD : 0 < D) (hD' : 0 < D') (h : IsRd f N D r) (h' : IsRd f N' D' r') (hle : N * D' ≤ N' * D) : r ≤ r' := by
  rcases Nat.lt_or_ge r' r with g | g
  · exfalso
    obtain ⟨q, hq⟩ : ∃ q, q + 1 = r := ⟨r - 1, by omega⟩
    have a := h.1 q hq
    have b := h'.2
    have m : mid f r' ≤ mid f q := mid_mono f (by omega)
    have a' : mid f q * D ≤ 2 * N := by omega
    have b' : 2 * N' ≤ mid f r' * D' := by omega
    have c1 : mid f q * D * D' ≤ 2 * N * D' := Nat.mul_le_mul_right _ a'
    have c2 : 2 * N' * D ≤ mid f r' * D' * D := Nat.mul_le_mul_right _ b'
    have c3 : mid f r' * D' * D ≤ mid f q * D * D' := by
      rw [Nat.mul_assoc, Nat.mul_assoc, Nat.mul_comm D' D]; exact Nat.mul_le_mul_right _ m
    have c4 : 2 * N * D' ≤ 2 * N' * D := by rw [Nat.mul_assoc, Nat.mul_assoc]; omega
    have e1 : mid f q * D * D' = 2 * N * D' := by omega
    have e2 : 2 * N' * D = mid f r' * D' * D := by omega
    have e3 : mid f q * D = 2 * N := Nat.eq_of_mul_eq_mul_right hD' e1
    have e4 : 2 * N' = mid f r' * D' := Nat.eq_of_mul_eq_mul_right hD e2
    have e5 : mid f r' * (D' * D) = mid f q * (D' * D) := by
      rw [← Nat.mul_assoc, ← Nat.mul_assoc, Nat.mul_assoc (mid f q), Nat.mul_comm D' D, ← Nat.mul_assoc]; omega
    have e6 : mid f r' = mid f q := Nat.eq_of_mul_eq_mul_right (Nat.mul_pos hD' hD) e5
    have e7 : r' = q := by
      rcases Nat.lt_trichotomy r' q with g | g | g
      · have := mid_lt f g; omega
      · exact g
      · have := mid_lt f g; omega
    have : r % 2 = 0 := by omega
    have : r' % 2 = 0 := by omega
    omega
  · exact g

theorem IsRd.unique {f : Format} {N D r N' D' r' : Nat} (hD : 0 < D) (hD' : 0 < D') (h : IsRd f N D r) (h' : IsRd f N' D' r') (he : N * D' = N' * D) : r = r' :=
  Nat.le_antisymm (h.mono hD hD' h' (by omega)) (h'.mono hD' hD h (by omega))

theorem IsRd.exact (f : Format) {D : Nat} (hD : 0 < D) (r : Nat) : IsRd f (unit f r * D) D r := by
  constructor
  · intro q hq
    subst hq
    left
    rw [mid_eq, ← Nat.mul_assoc]
    exact Nat.mul_lt_mul_of_pos_right (by have := unit_lt_succ f q; omega) hD
  · left
    rw [mid_eq, ← Nat.mul_assoc]
    exact Nat.mul_lt_mul_of_pos_right (by have := unit_lt_succ f r; omega) hD

/-- The rung of N / 2^k, without a lid. -/
def rd0 (f : Format) (N k : Nat) : Nat := if N = 0 then 0 else (N.log2 - k - f.fractionBits) * f.binade + rhe N (k + (N.log2 - k - f.fractionBits))

theorem binade_even (f : Format) (hf : 1 ≤ f.fractionBits) : f.binade % 2 = 0 := by
  unfold Format.binade
  obtain ⟨t, ht⟩ : ∃ t, f.fractionBits = t + 1 := ⟨f.fractionBits - 1, by omega⟩
  rw [ht, Nat.pow_succ]; omega

theorem rd0_isRd (f : Format) (hf : 1 ≤ f.fractionBits) (N k : Nat) : IsRd f N (2 ^ k) (rd0 f N k) := by
  have hbe := binade_even f hf
  have hb := binade_pos f
  by_cases hN : N = 0
  · subst hN
    unfold rd0
    rw [if_pos rfl]
    constructor
    · intro q hq; omega
    · left
      have h1 : 0 < mid f 0 := by unfold mid; have := ulpr_pos f 0; omega
      have := Nat.mul_pos h1 (Nat.two_pow_pos k)
      omega
  unfold rd0
  rw [if_neg hN]
  generalize hd : N.log2 - k - f.fractionBits = d
  have hlo := Nat.log2_self_le hN
  have hhi : N < 2 ^ (N.log2 + 1) := Nat.lt_log2_self
  obtain ⟨s1, s2, s3, s4⟩ := rhe_spec N (k + d)
  have hpd : 0 < 2 ^ (k + d) := Nat.two_pow_pos _
  -- the kept digits
  have hk1 : rhe N (k + d) ≤ 2 * f.binade := by
    have : N < 2 ^ (f.fractionBits + 1) * 2 ^ (k + d) := by
      rw [← Nat.pow_add]; exact Nat.lt_of_lt_of_le hhi (Nat.pow_le_pow_right (by omega) (by omega))
    have e : 2 ^ (f.fractionBits + 1) = 2 * f.binade := by unfold Format.binade; rw [Nat.pow_succ]; omega
    rw [e] at this
    rcases Nat.lt_or_ge (2 * f.binade) (rhe N (k + d)) with g | g
    · exfalso
      have h1 : 2 * (2 * f.binade + 1) * 2 ^ (k + d) ≤ 2 * rhe N (k + d) * 2 ^ (k + d) := Nat.mul_le_mul_right _ (by omega)
      have h2 : 2 * (2 * f.binade + 1) * 2 ^ (k + d) = 2 * (2 * f.binade * 2 ^ (k + d)) + 2 * 2 ^ (k + d) := by rw [Nat.mul_assoc, Nat.add_mul]; omega
      omega
    · exact g
  have hlow : d = 0 ∨ f.binade * 2 ^ (k + d) ≤ N := by
    by_cases h0 : d = 0
    · exact .inl h0
    · right
      unfold Format.binade
      rw [← Nat.pow_add]
      exact Nat.le_trans (Nat.pow_le_pow_right (by omega) (by omega)) hlo
  have hk2 : d = 0 ∨ f.binade ≤ rhe N (k + d) := by
    rcases hlow with h | h
    · exact .inl h
    · right
      rcases Nat.lt_or_ge (rhe N (k + d)) f.binade with g | g
      · exfalso
        have h1 : (2 * rhe N (k + d) + 1) * 2 ^ (k + d) < (2 * f.binade) * 2 ^ (k + d) := Nat.mul_lt_mul_of_pos_right (by omega) hpd
        have h2 : 2 * f.binade * 2 ^ (k + d) = 2 * (f.binade * 2 ^ (k + d)) := by rw [Nat.mul_assoc]
        omega
      · exact g
  generalize hK : rhe N (k + d) = K at *
  have hu := unit_of f d K hk1 hk2
  have hpar : (d * f.binade + K) % 2 = K % 2 := by
    obtain ⟨t, ht⟩ : ∃ t, f.binade = 2 * t := ⟨f.binade / 2, by omega⟩
    rw [ht, Nat.mul_left_comm]; omega
  have ed : K * 2 ^ d * 2 ^ k = K * 2 ^ (k + d) := by rw [Nat.mul_assoc, ← Nat.pow_add, Nat.add_comm d k]
  constructor
  · intro q hq
    -- below
    by_cases hcase : K = f.binade ∧ d ≠ 0
    · left
      have hN2 : f.binade * 2 ^ (k + d) ≤ N := by omega
      rw [mid_eq, hq, hu]
      have : unit f q < unit f (d * f.binade + K) := by rw [← hq]; exact unit_lt_succ f q
      rw [hu] at this
      calc (unit f q + K * 2 ^ d) * 2 ^ k < (K * 2 ^ d + K * 2 ^ d) * 2 ^ k := Nat.mul_lt_mul_of_pos_right (by omega) (Nat.two_pow_pos _)
        _ = 2 * (K * 2 ^ (k + d)) := by rw [Nat.add_mul, ed]; omega
        _ ≤ 2 * N := by rw [hcase.1]; omega
    · have hK0 : 0 < K := by
        rcases Nat.eq_zero_or_pos K with g | g
        · subst g; rcases hk2 with g | g
          · subst g; omega
          · omega
        · exact g
      have hq2 : q = d * f.binade + (K - 1) := by omega
      have hu2 := unit_of f d (K - 1) (by omega) (by omega)
      rw [mid_eq, hq, hu, hq2, hu2]
      have e : ((K - 1) * 2 ^ d + K * 2 ^ d) * 2 ^ k = (2 * K - 1) * 2 ^ (k + d) := by
        rw [← Nat.add_mul, Nat.mul_assoc, ← Nat.pow_add, Nat.add_comm d k]; congr 1; omega
      rw [e, hpar]
      have e2 : (2 * K - 1) * 2 ^ (k + d) + 2 ^ (k + d) = 2 * K * 2 ^ (k + d) := by
        rw [Nat.sub_mul]; have : 2 ^ (k + d) ≤ 2 * K * 2 ^ (k + d) := Nat.le_mul_of_pos_left _ (by omega)
        omega
      omega
  · by_cases hcase : K < 2 * f.binade
    · have hu2 := unit_of f d (K + 1) (by omega) (by omega)
      rw [mid_eq, hu, show d * f.binade + K + 1 = d * f.binade + (K + 1) by omega, hu2]
      have e : (K * 2 ^ d + (K + 1) * 2 ^ d) * 2 ^ k = (2 * K + 1) * 2 ^ (k + d) := by
        rw [← Nat.add_mul, Nat.mul_assoc, ← Nat.pow_add, Nat.add_comm d k]; congr 1; omega
      rw [e, hpar]
      omega
    · left
      have : K = 2 * f.binade := by omega
      have hlt : N < K * 2 ^ (k + d) := by
        rw [this]
        have : N < 2 ^ (f.fractionBits + 1) * 2 ^ (k + d) := by
          rw [← Nat.pow_add]; exact Nat.lt_of_lt_of_le hhi (Nat.pow_le_pow_right (by omega) (by omega))
        have e : 2 ^ (f.fractionBits + 1) = 2 * f.binade := by unfold Format.binade; rw [Nat.pow_succ]; omega
        rw [e] at this
        exact this
      rw [mid_eq, hu]
      have := unit_lt_succ f (d * f.binade + K)
      rw [hu] at this
      calc 2 * N < 2 * (K * 2 ^ (k + d)) := by omega
        _ = (K * 2 ^ d + K * 2 ^ d) * 2 ^ k := by rw [Nat.add_mul, ed]; omega
        _ ≤ _ := Nat.mul_le_mul_right _ (by omega)

/-- The model's rounding, told by rd0: place + k counted from the least place. -/
theorem nearest_eq (f : Format) (neg : Bool) (mag : Nat) (place : Int) (k : Nat) (h : f.leastPlace ≤ place + k) :
    f.nearest neg mag place = f.word neg (min (rd0 f (mag * 2 ^ (place + k - f.leastPlace).toNat) k) f.infRung) := by
  unfold Format.nearest rd0
  by_cases hm : mag = 0
  · subst hm; simp
  obtain ⟨j, hj⟩ : ∃ j : Nat, place + k - f.leastPlace = j := ⟨(place + k - f.leastPlace).toNat, by omega⟩
  have hpj : 0 < 2 ^ j := Nat.two_pow_pos _
  have hne : mag * 2 ^ j ≠ 0 := Nat.mul_ne_zero hm (by omega)
  rw [hj, Int.toNat_natCast, if_neg hm, if_neg hne]
  have hlog : (mag * 2 ^ j).log2 = mag.log2 + j := by
    have h1 := Nat.log2_self_le hm
    have h2 : mag < 2 ^ (mag.log2 + 1) := Nat.lt_log2_self
    have a : mag.log2 + j ≤ (mag * 2 ^ j).log2 := (Nat.le_log2 hne).2 (by rw [Nat.pow_add]; exact Nat.mul_le_mul_right _ h1)
    have b : (mag * 2 ^ j).log2 < mag.log2 + 1 + j := (Nat.log2_lt hne).2 (by rw [Nat.pow_add]; exact Nat.mul_lt_mul_of_pos_right h2 hpj)
    omega
  rw [hlog]
  simp only [cut_even, Nat.shiftLeft_eq]
  have e0 : (max (place + (mag.log2 : Int) - (f.fractionBits : Int)) f.leastPlace - f.leastPlace).toNat = mag.log2 + j - k - f.fractionBits := by omega
  rw [e0]
  congr 3
  generalize hd : mag.log2 + j - k - f.fractionBits = d at *
  have hlast : max (place + (mag.log2 : Int) - (f.fractionBits : Int)) f.leastPlace = f.leastPlace + d := by omega
  rw [hlast]
  by_cases hc : (d : Int) ≤ place - f.leastPlace
  · have e1 : (f.leastPlace + (d : Int) - place).toNat = 0 := by omega
    rw [e1, rhe_zero]
    have e2 : j = (place - (f.leastPlace + (d : Int))).toNat + (k + d) := by omega
    rw [e2, Nat.pow_add, ← Nat.mul_assoc]
    have := rhe_scale (mag * 2 ^ (place - (f.leastPlace + (d : Int))).toNat) 0 (k + d)
    rw [Nat.zero_add, rhe_zero] at this
    exact this.symm
  · have e1 : (place - (f.leastPlace + (d : Int))).toNat = 0 := by omega
    rw [e1, Nat.pow_zero, Nat.mul_one]
    have e2 : k + d = (f.leastPlace + (d : Int) - place).toNat + j := by omega
    rw [e2, rhe_scale]
end Go.Proofs.Ytkhoifgljalfcaa
