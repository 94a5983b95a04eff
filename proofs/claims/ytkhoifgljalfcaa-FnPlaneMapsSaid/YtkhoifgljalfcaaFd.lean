/- Plain facts on the model's binary floating point: quotients; conversions between the two formats. No program in sight. -/
import Derived.Test.YtkhoifgljalfcaaFw
namespace Go.Proofs.Ytkhoifgljalfcaa
open Ieee

theorem IsRd.congr {f : Format} {N D N' D' r : Nat} (hD : 0 < D) (hD' : 0 < D') (he : N * D' = N' * D) (h : IsRd f N D r) : IsRd f N' D' r := by
  have key : ∀ q, (mid f q * D < 2 * N ↔ mid f q * D' < 2 * N') ∧ (mid f q * D = 2 * N ↔ mid f q * D' = 2 * N') ∧ (2 * N < mid f q * D ↔ 2 * N' < mid f q * D') := by
    intro q
    have a : ∀ x y : Nat, (x * D < y * D ↔ x < y) := fun x y => Nat.mul_lt_mul_right hD
    have b : ∀ x y : Nat, (x * D' < y * D' ↔ x < y) := fun x y => Nat.mul_lt_mul_right hD'
    have e1 : 2 * N * D' = 2 * N' * D := by rw [Nat.mul_assoc, he, Nat.mul_assoc]
    have e2 : mid f q * D * D' = mid f q * D' * D := by rw [Nat.mul_assoc, Nat.mul_comm D, ← Nat.mul_assoc]
    refine ⟨?_, ?_, ?_⟩
    · exact (b _ _).symm.trans (Iff.trans (by rw [e1, e2]) (a _ _))
    · constructor
      · intro h; apply Nat.eq_of_mul_eq_mul_right hD; rw [← e2, ← e1, h]
      · intro h; apply Nat.eq_of_mul_eq_mul_right hD'; rw [e2, e1, h]
    · exact (b _ _).symm.trans (Iff.trans (by rw [e1, e2]) (a _ _))
  refine ⟨fun q hq => ?_, ?_⟩
  · rcases h.1 q hq with g | ⟨g, g2⟩
    · exact .inl ((key q).1.1 g)
    · exact .inr ⟨(key q).2.1.1 g, g2⟩
  · rcases h.2 with g | ⟨g, g2⟩
    · exact .inl ((key r).2.2.1 g)
    · exact .inr ⟨((key r).2.1.1 g.symm).symm, g2⟩

theorem cmp_sticky (D n t : Nat) (hn : 0 < n) : (2 * t < 2 * (D / n) + (if D % n = 0 then 0 else 1) ↔ t * n < D) ∧ (2 * t = 2 * (D / n) + (if D % n = 0 then 0 else 1) ↔ t * n = D) := by
  have hm := Nat.div_add_mod D n
  have hl := Nat.mod_lt D hn
  generalize D / n = q at *
  generalize D % n = r at *
  subst hm
  have e : n * q = q * n := Nat.mul_comm _ _
  rw [e]
  rcases Nat.lt_trichotomy t q with h | h | h
  · have : t * n + n ≤ q * n := by rw [← Nat.succ_mul]; exact Nat.mul_le_mul_right _ h
    split <;> constructor <;> constructor <;> intro <;> omega
  · subst h
    split <;> constructor <;> constructor <;> intro <;> omega
  · have : q * n + n ≤ t * n := by rw [← Nat.succ_mul]; exact Nat.mul_le_mul_right _ h
    split <;> constructor <;> constructor <;> intro <;> omega

theorem unit_dvd (f : Format) {e r : Nat} (h : (e + 2) * f.binade ≤ r) : ∃ t, mid f r = 2 ^ (e + 1) * t := by
  have hb := binade_pos f
  have hq : e + 2 ≤ r / f.binade := (Nat.le_div_iff_mul_le hb).2 h
  have hr : ¬ r < f.binade := by
    have : 1 * f.binade ≤ (e + 2) * f.binade := Nat.mul_le_mul_right _ (by omega)
    omega
  refine ⟨(2 * (f.binade + r % f.binade) + 1) * 2 ^ (r / f.binade - 1 - (e + 1)), ?_⟩
  unfold mid unit ulpr
  rw [if_neg hr]
  obtain ⟨z, hz⟩ : ∃ z, r / f.binade - 1 = (e + 1) + z := ⟨r / f.binade - 1 - (e + 1), by omega⟩
  rw [hz, Nat.add_sub_cancel_left, Nat.pow_add]
  generalize 2 ^ (e + 1) = a
  generalize 2 ^ z = c
  generalize f.binade + r % f.binade = m
  rw [Nat.add_mul, Nat.mul_add, Nat.mul_assoc 2, Nat.one_mul, Nat.mul_left_comm a 2, Nat.mul_left_comm a m]

/-- The quotient of two finite words, the divisor not zero: rounded once. -/
theorem div_fin (f : Format) (hf : 1 ≤ f.fractionBits) (hL : f.leastPlace ≤ 0) {a b : Nat} (ha : isFin f a) (hb : isFin f b) (h0 : 0 < unit f (rg f b)) :
    ∃ r, IsRd f (unit f (rg f a) * 2 ^ (-f.leastPlace).toNat) (unit f (rg f b)) r ∧ f.div a b = some (f.word (sgn f a ^^ sgn f b) (min r f.infRung)) := by
  obtain ⟨m, i, ea, ua⟩ := read_fin f ha
  obtain ⟨n, j, eb, ub⟩ := read_fin f hb
  have hn : n ≠ 0 := by intro e; subst e; rw [Nat.zero_mul] at ub; omega
  have hn0 : 0 < n := by omega
  unfold Format.div
  rw [ea, eb]
  simp only [Datum.quotient, if_neg hn, Option.map_some, Nat.shiftLeft_eq]
  generalize hmore : f.fractionBits + 2 + n.log2 - m.log2 = more
  generalize hD : m * 2 ^ more = D
  have hst : ((D % n != 0).toNat) = (if D % n = 0 then 0 else 1) := by
    by_cases h : D % n = 0 <;> simp [h]
  rw [hst]
  generalize hQ : 2 * (D / n) + (if D % n = 0 then 0 else 1) = Q
  have hpl : (f.leastPlace + (i : Int) - (f.leastPlace + (j : Int)) - (more : Int) - 1) = (i : Int) - j - more - 1 := by omega
  rw [hpl]
  unfold Format.write
  dsimp only
  have hcmp := fun t => cmp_sticky D n t hn0
  rw [hQ] at hcmp
  by_cases hcase : (i : Int) - j - more - 1 + 2 ≤ f.leastPlace
  · -- far below: every midpoint is a whole number of units
    obtain ⟨h, hh⟩ : ∃ h : Nat, (h : Int) = f.leastPlace - ((i : Int) - j - more - 1) - 2 := ⟨(f.leastPlace - ((i : Int) - j - more - 1) - 2).toNat, by omega⟩
    rw [nearest_eq f _ Q _ (h + 2) (by omega)]
    have e0 : ((i : Int) - j - more - 1 + ((h + 2 : Nat) : Int) - f.leastPlace).toNat = 0 := by omega
    rw [e0, Nat.pow_zero, Nat.mul_one]
    have hr := rd0_isRd f hf Q (h + 2)
    generalize rd0 f Q (h + 2) = r at *
    refine ⟨r, ?_, rfl⟩
    have e1 : ∀ q, mid f q * 2 ^ (h + 2) = 2 * (2 * (mid f q * 2 ^ h)) := by intro q; rw [Nat.pow_succ, Nat.pow_succ, ← Nat.mul_assoc, ← Nat.mul_assoc]; omega
    have hex : IsRd f D (n * 2 ^ (h + 1)) r := by
      have e2 : ∀ q, mid f q * (n * 2 ^ (h + 1)) = 2 * (mid f q * 2 ^ h * n) := by
        intro q; rw [Nat.pow_succ]; generalize 2 ^ h = p
        rw [Nat.mul_comm n, Nat.mul_assoc p, Nat.mul_comm 2 n, ← Nat.mul_assoc p, ← Nat.mul_assoc, ← Nat.mul_assoc]; omega
      refine ⟨fun q hq => ?_, ?_⟩
      · have g := hr.1 q hq
        rw [e1] at g
        rw [e2]
        have c := hcmp (mid f q * 2 ^ h)
        omega
      · have g := hr.2
        rw [e1] at g
        rw [e2]
        have c := hcmp (mid f r * 2 ^ h)
        omega
    refine hex.congr (Nat.mul_pos hn0 (Nat.two_pow_pos _)) h0 ?_
    rw [← hD, ← ua, ← ub]
    have e5 : more + j = i + (-f.leastPlace).toNat + (h + 1) := by omega
    calc m * 2 ^ more * (n * 2 ^ j) = m * n * 2 ^ (more + j) := by rw [Nat.pow_add, Nat.mul_mul_mul_comm]
      _ = m * n * 2 ^ (i + (-f.leastPlace).toNat + (h + 1)) := by rw [e5]
      _ = m * 2 ^ i * 2 ^ (-f.leastPlace).toNat * (n * 2 ^ (h + 1)) := by rw [Nat.pow_add, Nat.pow_add]; simp [Nat.mul_comm, Nat.mul_left_comm, Nat.mul_assoc]
  · obtain ⟨e, he⟩ : ∃ e : Nat, (e : Int) = (i : Int) - j - more - 1 + 1 - f.leastPlace := ⟨((i : Int) - j - more - 1 + 1 - f.leastPlace).toNat, by omega⟩
    rw [nearest_eq f _ Q _ 1 (by omega)]
    have e0 : ((i : Int) - j - more - 1 + ((1 : Nat) : Int) - f.leastPlace).toNat = e := by omega
    rw [e0]
    have hr := rd0_isRd f hf (Q * 2 ^ e) 1
    generalize rd0 f (Q * 2 ^ e) 1 = r at *
    refine ⟨r, ?_, rfl⟩
    have hpe : 0 < 2 ^ e := Nat.two_pow_pos _
    have hfin : IsRd f (D * 2 ^ e) n r := by
      by_cases hm : m = 0
      · have hD0 : D = 0 := by rw [← hD, hm]; simp
        have hQ0 : Q = 0 := by rw [← hQ, hD0]; simp
        have hr0 : r = 0 := by
          rcases Nat.eq_zero_or_pos r with g | g
          · exact g
          · have := hr.1 (r - 1) (by omega)
            rw [hQ0] at this
            have h1 : 0 < mid f (r - 1) := by unfold mid; have := ulpr_pos f (r - 1); omega
            omega
        subst hr0
        refine ⟨fun q hq => by omega, .inl ?_⟩
        rw [hD0]
        have h1 : 0 < mid f 0 := by unfold mid; have := ulpr_pos f 0; omega
        have := Nat.mul_pos h1 hn0
        omega
      · -- many digits: the quotient has at least fractionBits + 2 of them
        have hlo := Nat.log2_self_le hm
        have hnl : n < 2 ^ (n.log2 + 1) := Nat.lt_log2_self
        have hDge : 2 ^ (f.fractionBits + 1) * n ≤ D := by
          have h1 : 2 ^ (f.fractionBits + 2 + n.log2) ≤ D := by
            rw [← hD]
            calc 2 ^ (f.fractionBits + 2 + n.log2) ≤ 2 ^ (m.log2 + more) := Nat.pow_le_pow_right (by omega) (by omega)
              _ = 2 ^ m.log2 * 2 ^ more := Nat.pow_add _ _ _
              _ ≤ m * 2 ^ more := Nat.mul_le_mul_right _ hlo
          have h2 : 2 ^ (f.fractionBits + 1) * n ≤ 2 ^ (f.fractionBits + 1) * 2 ^ (n.log2 + 1) := Nat.mul_le_mul_left _ (by omega)
          have h3 : 2 ^ (f.fractionBits + 1) * 2 ^ (n.log2 + 1) = 2 ^ (f.fractionBits + 2 + n.log2) := by rw [← Nat.pow_add]; congr 1; omega
          omega
        have hFge : 2 ^ (f.fractionBits + 1) ≤ D / n := (Nat.le_div_iff_mul_le hn0).2 hDge
        have hbin : 2 ^ (f.fractionBits + 1) = 2 * f.binade := by unfold Format.binade; rw [Nat.pow_succ]; omega
        have hb := binade_pos f
        have uR : unit f ((e + 1) * f.binade + f.binade) = f.binade * 2 ^ (e + 1) := unit_of f (e + 1) f.binade (by omega) (.inr (Nat.le_refl _))
        have eR : (e + 2) * f.binade = (e + 1) * f.binade + f.binade := by rw [Nat.add_mul, Nat.add_mul]; omega
        have hge : (e + 2) * f.binade ≤ r := by
          rw [eR]
          refine IsRd.mono (D := 1) (D' := 2 ^ 1) (by omega) (by omega) (IsRd.exact f (D := 1) (by omega) _) hr ?_
          rw [uR, Nat.pow_succ 2 e]
          have : f.binade * 2 ≤ D / n := by omega
          have h2 : f.binade * 2 * 2 ^ e * 2 ≤ Q * 2 ^ e := by
            rw [Nat.mul_right_comm]
            exact Nat.mul_le_mul_right _ (by rw [← hQ]; omega)
          rw [Nat.mul_comm (2 ^ e) 2, ← Nat.mul_assoc]; omega
        refine ⟨fun q hq => ?_, ?_⟩
        · by_cases hq2 : (e + 2) * f.binade ≤ q
          · obtain ⟨t, ht⟩ := unit_dvd f hq2
            have g := hr.1 q hq
            rw [ht, Nat.pow_succ] at g
            rw [ht, Nat.pow_succ]
            have c := hcmp t
            have x1 : 2 ^ e * 2 * t * 2 ^ 1 = 2 * (2 * t * 2 ^ e) := by generalize 2 ^ e = p; rw [Nat.mul_assoc p, Nat.mul_comm p]; omega
            have x2 : 2 * (Q * 2 ^ e) = 2 * (Q * 2 ^ e) := rfl
            have x3 : 2 ^ e * 2 * t * n = 2 * (t * n * 2 ^ e) := by generalize 2 ^ e = p; rw [Nat.mul_assoc p 2, Nat.mul_assoc p, Nat.mul_comm p, Nat.mul_assoc 2 t, Nat.mul_assoc 2]
            rw [x1] at g
            rw [x3]
            have y1 : 2 * t * 2 ^ e < Q * 2 ^ e ↔ 2 * t < Q := Nat.mul_lt_mul_right hpe
            have y2 : 2 * t * 2 ^ e = Q * 2 ^ e ↔ 2 * t = Q := Nat.mul_left_inj (by omega)
            have y3 : t * n * 2 ^ e < D * 2 ^ e ↔ t * n < D := Nat.mul_lt_mul_right hpe
            have y4 : t * n * 2 ^ e = D * 2 ^ e ↔ t * n = D := Nat.mul_left_inj (by omega)
            omega
          · left
            have hqr : q + 1 = (e + 1) * f.binade + f.binade := by omega
            have : mid f q < 2 * (f.binade * 2 ^ (e + 1)) := by
              rw [mid_eq, hqr, uR]
              have := unit_lt_succ f q
              rw [hqr, uR] at this
              omega
            calc mid f q * n < 2 * (f.binade * 2 ^ (e + 1)) * n := Nat.mul_lt_mul_of_pos_right this hn0
              _ = 2 * ((2 * f.binade) * n * 2 ^ e) := by rw [Nat.pow_succ]; generalize 2 ^ e = p; rw [Nat.mul_comm p 2, ← Nat.mul_assoc f.binade, Nat.mul_comm f.binade 2, Nat.mul_assoc 2 _ n, Nat.mul_right_comm _ p n]
              _ ≤ 2 * (D * 2 ^ e) := Nat.mul_le_mul_left _ (Nat.mul_le_mul_right _ (by rw [← hbin]; exact hDge))
        · obtain ⟨t, ht⟩ := unit_dvd f hge
          have g := hr.2
          rw [ht, Nat.pow_succ] at g
          rw [ht, Nat.pow_succ]
          have c := hcmp t
          have x1 : 2 ^ e * 2 * t * 2 ^ 1 = 2 * (2 * t * 2 ^ e) := by generalize 2 ^ e = p; rw [Nat.mul_assoc p, Nat.mul_comm p]; omega
          have x3 : 2 ^ e * 2 * t * n = 2 * (t * n * 2 ^ e) := by generalize 2 ^ e = p; rw [Nat.mul_assoc p 2, Nat.mul_assoc p, Nat.mul_comm p, Nat.mul_assoc 2 t, Nat.mul_assoc 2]
          rw [x1] at g
          rw [x3]
          have y1 : 2 * t * 2 ^ e < Q * 2 ^ e ↔ 2 * t < Q := Nat.mul_lt_mul_right hpe
          have y2 : 2 * t * 2 ^ e = Q * 2 ^ e ↔ 2 * t = Q := Nat.mul_left_inj (by omega)
          have y3 : t * n * 2 ^ e < D * 2 ^ e ↔ t * n < D := Nat.mul_lt_mul_right hpe
          have y4 : t * n * 2 ^ e = D * 2 ^ e ↔ t * n = D := Nat.mul_left_inj (by omega)
          omega
    refine hfin.congr hn0 h0 ?_
    rw [← hD, ← ua, ← ub]
    have e5 : more + e + j = i + (-f.leastPlace).toNat := by omega
    calc m * 2 ^ more * 2 ^ e * (n * 2 ^ j) = m * n * 2 ^ (more + e + j) := by rw [Nat.pow_add, Nat.pow_add]; simp [Nat.mul_comm, Nat.mul_left_comm, Nat.mul_assoc]
      _ = m * n * 2 ^ (i + (-f.leastPlace).toNat) := by rw [e5]
      _ = m * 2 ^ i * 2 ^ (-f.leastPlace).toNat * n := by rw [Nat.pow_add]; simp [Nat.mul_comm, Nat.mul_left_comm, Nat.mul_assoc]

/-- A word that is told by the value alone. -/
theorem word_of_exact (f : Format) {N D r s : Nat} (hD : 0 < D) (h : IsRd f N D r) (he : N = unit f s * D) : r = s :=
  h.unique hD hD (IsRd.exact f hD s) (by rw [he])

/-- Signed: the words of a format are told by sign and rung. -/
theorem word_sgn_rg (f : Format) {w : Nat} (h : w < 2 * f.signWeight) : f.word (sgn f w) (rg f w) = w := by
  unfold Format.word sgn rg
  have hp := sw_pos f
  have hd : w / f.signWeight < 2 := Nat.div_lt_of_lt_mul (by rw [Nat.mul_comm]; exact h)
  have hm := Nat.div_add_mod w f.signWeight
  generalize w / f.signWeight = q at *
  have : q = 0 ∨ q = 1 := by omega
  rcases this with rfl | rfl
  · simp at *; omega
  · simp at *; omega

theorem word32 {w : Nat} (h : w < 4294967296) : single.word (sgn single w) (rg single w) = w := word_sgn_rg single (by rw [sg_sw]; omega)
theorem word64 {w : Nat} (h : w < 18446744073709551616) : double.word (sgn double w) (rg double w) = w := word_sgn_rg double (by rw [db_sw]; omega)

/-! ### From 32 bits to 64 and back -/
theorem unit_le_top (f : Format) {r : Nat} (h : r ≤ f.infRung) : unit f r ≤ unit f f.infRung := unit_mono f h
theorem unit_bits (f : Format) (r : Nat) : ∃ K d, K < 2 * f.binade ∧ unit f r = K * 2 ^ d := by
  have hb := binade_pos f
  unfold unit
  split
  · exact ⟨r, 0, by omega, by simp⟩
  · exact ⟨_, _, by have := Nat.mod_lt r hb; omega, rfl⟩

def ke : Nat := 277
def kE : Nat := 2098
theorem top32 : unit single single.infRung = 2 ^ ke := by decide +kernel
theorem top64 : unit double double.infRung = 2 ^ kE := by decide +kernel

/-- A number of few digits and of no great size is a word of the wider format. -/
theorem rung64_of {N K d : Nat} (h : N = K * 2 ^ d) (hK : K ≤ 2 * double.binade) (hN : N < 2 ^ kE) : ∃ r, r < double.infRung ∧ unit double r = N := by
  obtain ⟨r, hr⟩ := rung_of double K d hK
  refine ⟨r, ?_, by rw [hr, h]⟩
  apply rg_lt_of_unit double
  rw [top64, hr, ← h]; exact hN
theorem rung32_of {N K d : Nat} (h : N = K * 2 ^ d) (hK : K ≤ 2 * single.binade) (hN : N < 2 ^ ke) : ∃ r, r < single.infRung ∧ unit single r = N := by
  obtain ⟨r, hr⟩ := rung_of single K d hK
  refine ⟨r, ?_, by rw [hr, h]⟩
  apply rg_lt_of_unit single
  rw [top32, hr, ← h]; exact hN

theorem infinity_word (f : Format) (hB : f.binade ≤ f.infRung) (neg : Bool) : (f.read (f.word neg f.infRung)) = .infinity neg := by
  have h1 := read_inf f hB (rg_word f neg f.infRung_lt)
  rw [h1, sgn_word f neg f.infRung_lt]
theorem fin_word (f : Format) (neg : Bool) {r : Nat} (h : r < f.infRung) : isFin f (f.word neg r) := by
  unfold isFin; rw [rg_word f neg (Nat.lt_trans h f.infRung_lt)]; exact h
theorem notinf_of_fin (f : Format) {w : Nat} (h : isFin f w) : (f.read w).isInfinity = false := by
  obtain ⟨m, t, e, _⟩ := read_fin f h; rw [e]; rfl

/-- A finite word as it is written in another format. -/
theorem write_fin (f g : Format) {w : Nat} (h : isFin f w) (k j : Nat) (hk : f.leastPlace + (k : Int) = g.leastPlace + (j : Int)) :
    g.write (f.read w) = rnd g (sgn f w) (unit f (rg f w) * 2 ^ j) k := by
  obtain ⟨m, t, e, u⟩ := read_fin f h
  rw [e]
  unfold Format.write rnd
  dsimp only
  rw [nearest_eq g _ m _ k (by omega)]
  have : (f.leastPlace + (t : Int) + (k : Int) - g.leastPlace).toNat = t + j := by omega
  rw [this, ← u, Nat.mul_assoc, Nat.pow_add]

/-- How far the least places of the two formats are apart. -/
def kw : Nat := 925

theorem wide_fin {b : Nat} (h : fin32 b = true) : ∃ r, floatToFloatBits .f32 b .f64 = some r ∧ r < 18446744073709551616 ∧ isFin double r ∧ sgn double r = sgn single b ∧ unit double (rg double r) = unit single (rg single b) * 2 ^ kw := by
  have hf := (fin32_iff b).2 h
  obtain ⟨K, d, hK, hu⟩ := unit_bits single (rg single b)
  have hlt : unit single (rg single b) < 2 ^ ke := by rw [← top32]; exact unit_lt single hf
  obtain ⟨q, hq, uq⟩ := rung64_of (N := unit single (rg single b) * 2 ^ kw) (K := K) (d := d + kw) (by rw [hu, Nat.mul_assoc, ← Nat.pow_add]) (by rw [sg_bin] at hK; rw [db_bin]; omega)
    (by
      have : unit single (rg single b) * 2 ^ kw < 2 ^ ke * 2 ^ kw := Nat.mul_lt_mul_of_pos_right hlt (Nat.two_pow_pos _)
      rw [← Nat.pow_add] at this
      exact Nat.lt_trans this (Nat.pow_lt_pow_right (by omega) (by unfold kw ke kE; omega)))
  have hw := write_fin single double hf 0 kw (by rw [sg_L, db_L]; rfl)
  rw [rnd_exact double (by decide) (sgn single b) (r := q) (by rw [uq, Nat.pow_zero, Nat.mul_one]) (Nat.le_of_lt hq)] at hw
  have hfin := fin_word double (sgn single b) hq
  have hql : q < double.signWeight := Nat.lt_trans hq double.infRung_lt
  refine ⟨_, ?_, ?_, hfin, sgn_word double _ hql, by rw [rg_word double _ hql, uq]⟩
  · obtain ⟨m, t, e, u⟩ := read_fin single hf
    unfold floatToFloatBits
    rw [if_neg (by decide)]
    have e' : FloatKind.f32.decode b = .number (sgn single b) m (single.leastPlace + t) := e
    rw [e']
    dsimp only
    have e2 : FloatKind.f64.encode (.number (sgn single b) m (single.leastPlace + t)) = double.word (sgn single b) q := by
      rw [← hw, e]; rfl
    rw [e2]
    have e3 : (FloatKind.f64.decode (double.word (sgn single b) q)).isInfinity = false := notinf_of_fin double hfin
    rw [e3]; rfl
  · have := double.word_lt (sgn single b) hql
    exact this

theorem narrow_fin {c : Nat} (h : fin64 c = true) (r : Nat) (hr : IsRd single (unit double (rg double c)) (2 ^ kw) r) (hri : r < single.infRung) :
    floatToFloatBits .f64 c .f32 = some (single.word (sgn double c) r) := by
  have hf := (fin64_iff c).2 h
  have hw := write_fin double single hf kw 0 (by rw [sg_L, db_L]; rfl)
  have e0 : rd0 single (unit double (rg double c) * 2 ^ 0) kw = r :=
    (rd0_isRd single (by decide) _ kw).unique (Nat.two_pow_pos _) (Nat.two_pow_pos _) hr (by rw [Nat.pow_zero, Nat.mul_one])
  unfold rnd at hw
  rw [e0, Nat.min_eq_left (Nat.le_of_lt hri)] at hw
  have hfin := fin_word single (sgn double c) hri
  obtain ⟨m, t, e, u⟩ := read_fin double hf
  unfold floatToFloatBits
  rw [if_neg (by decide)]
  have e' : FloatKind.f64.decode c = .number (sgn double c) m (double.leastPlace + t) := e
  rw [e']
  dsimp only
  have e2 : FloatKind.f32.encode (.number (sgn double c) m (double.leastPlace + t)) = single.word (sgn double c) r := by
    rw [← hw, e]; rfl
  rw [e2]
  have e3 : (FloatKind.f32.decode (single.word (sgn double c) r)).isInfinity = false := notinf_of_fin single hfin
  rw [e3]; rfl

end Go.Proofs.Ytkhoifgljalfcaa
