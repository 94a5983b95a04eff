/- Plain facts on square roots of the model's doubles: the root lies between words that bound it. No program in sight. -/
import Derived.Test.YtkhoifgljalfcaaFd
namespace Go.Proofs.Ytkhoifgljalfcaa
open Ieee

theorem rootFrom_spec (n : Nat) : ∀ todo root : Nat, root * root ≤ n → n < (root + 2 ^ todo) * (root + 2 ^ todo) →
    Datum.rootFrom n todo root * Datum.rootFrom n todo root ≤ n ∧ n < (Datum.rootFrom n todo root + 1) * (Datum.rootFrom n todo root + 1)
  | 0, root, h1, h2 => by
    rw [Nat.pow_zero] at h2
    exact ⟨h1, h2⟩
  | todo + 1, root, h1, h2 => by
    rw [Datum.rootFrom]
    have e : 1 <<< todo = 2 ^ todo := by rw [Nat.shiftLeft_eq, Nat.one_mul]
    rw [e]
    by_cases h : (root + 2 ^ todo) * (root + 2 ^ todo) ≤ n
    · simp only [if_pos h]
      refine rootFrom_spec n todo _ h ?_
      have : root + 2 ^ todo + 2 ^ todo = root + 2 ^ (todo + 1) := by rw [Nat.pow_succ]; omega
      rw [this]; exact h2
    · simp only [if_neg h]
      exact rootFrom_spec n todo _ h1 (by omega)

theorem sq_lt {a b : Nat} (h : a * a < b * b) : a < b := by
  rcases Nat.lt_or_ge a b with g | g
  · exact g
  · have := Nat.mul_le_mul g g; omega
theorem sq_le {a b : Nat} (h : a * a ≤ b * b) : a ≤ b := by
  rcases Nat.lt_or_ge b a with g | g
  · have := Nat.mul_lt_mul'' g g; omega
  · exact g

/-- The places of a double behind the point. -/
def kd : Nat := 1074

/-- The root of a finite double that is greater than zero: no word below the root is above the result, no word above it is below. -/
theorem sqrt_dbl {x : Nat} (hx : isFin double x) (hs : sgn double x = false) (h0 : 0 < unit double (rg double x)) :
    ∃ r, double.sqrt x = some (double.word false r) ∧ r ≤ double.infRung ∧
      (∀ t, unit double t * unit double t ≤ unit double (rg double x) * 2 ^ kd → t ≤ double.infRung → t ≤ r) ∧
      (∀ t, unit double (rg double x) * 2 ^ kd ≤ unit double t * unit double t → r ≤ t) := by
  obtain ⟨m, i, em, um⟩ := read_fin double hx
  rw [hs] at em
  have hm0 : m ≠ 0 := by intro e; subst e; rw [Nat.zero_mul] at um; omega
  have hmlt : m < 2 ^ kE := by
    have h1 : m * 1 ≤ m * 2 ^ i := Nat.mul_le_mul_left _ (Nat.two_pow_pos i)
    have h2 : unit double (rg double x) < 2 ^ kE := by
      have := unit_lt double hx
      rw [top64] at this; exact this
    omega
  have hml : m.log2 < kE := (Nat.log2_lt hm0).2 hmlt
  unfold Format.sqrt
  rw [em]
  simp only [Datum.root, if_neg hm0, Bool.false_eq_true, if_false, Option.map_some, Nat.shiftLeft_eq]
  have hfb : double.fractionBits = 52 := rfl
  rw [hfb]
  generalize hmore : 2 * (52 + 2) - m.log2 = mo
  generalize hodd : ((double.leastPlace + (i : Int) - (mo : Int)) % 2).toNat = od
  generalize hM : mo + od = more
  have hlp : double.leastPlace = -1074 := db_L
  rw [hlp] at hodd ⊢
  have hod : od = 0 ∨ od = 1 := by omega
  have heven : (-1074 + (i : Int) - (more : Int)) % 2 = 0 := by omega
  generalize hn : m * 2 ^ more = n
  have hn0 : n ≠ 0 := by rw [← hn]; exact Nat.mul_ne_zero hm0 (by have := Nat.two_pow_pos more; omega)
  have hroot := rootFrom_spec n (n.log2 / 2 + 1) 0 (by omega) (by
    rw [Nat.zero_add, ← Nat.pow_add]
    have h1 : n < 2 ^ (n.log2 + 1) := Nat.lt_log2_self
    exact Nat.lt_of_lt_of_le h1 (Nat.pow_le_pow_right (by omega) (by omega)))
  generalize hwh : Datum.rootFrom n (n.log2 / 2 + 1) 0 = wh at *
  have hst : ((wh * wh != n).toNat) = (if wh * wh = n then 0 else 1) := by
    by_cases h : wh * wh = n <;> simp [h]
  rw [hst]
  -- many digits
  have hnge : 2 ^ 108 ≤ n := by
    have h1 := Nat.log2_self_le hm0
    rw [← hn]
    calc 2 ^ 108 ≤ 2 ^ (m.log2 + more) := Nat.pow_le_pow_right (by omega) (by omega)
      _ = 2 ^ m.log2 * 2 ^ more := Nat.pow_add _ _ _
      _ ≤ m * 2 ^ more := Nat.mul_le_mul_right _ h1
  have hwge : 2 ^ 54 ≤ wh := by
    have : (2 ^ 54) * (2 ^ 54) < (wh + 1) * (wh + 1) := by
      have : (2 : Nat) ^ 54 * 2 ^ 54 = 2 ^ 108 := by rw [← Nat.pow_add]
      omega
    have := sq_lt this
    omega
  generalize hS : 2 * wh + (if wh * wh = n then 0 else 1) = S
  have hsub : m.log2 ≤ 2097 := by unfold kE at hml; omega
  obtain ⟨e, he⟩ : ∃ e : Nat, (e : Int) = (-1074 + (i : Int) - (more : Int)) / 2 - 1 + 1074 := ⟨((-1074 + (i : Int) - (more : Int)) / 2 - 1 + 1074).toNat, by omega⟩
  have hrun : 2 * e + 2 + more = i + 1074 := by omega
  unfold Format.write
  dsimp only
  rw [nearest_eq double false S _ 0 (by rw [hlp]; omega)]
  have e0 : ((-1074 + (i : Int) - (more : Int)) / 2 - 1 + ((0 : Nat) : Int) - double.leastPlace).toNat = e := by rw [hlp]; omega
  rw [e0]
  have hr := rd0_isRd double (by decide) (S * 2 ^ e) 0
  generalize rd0 double (S * 2 ^ e) 0 = r at *
  have hval : unit double (rg double x) * 2 ^ kd = n * (2 ^ (e + 1) * 2 ^ (e + 1)) := by
    rw [← um, ← hn, Nat.mul_assoc, Nat.mul_assoc, ← Nat.pow_add, ← Nat.pow_add, ← Nat.pow_add]
    congr 2; unfold kd; omega
  refine ⟨min r double.infRung, rfl, Nat.min_le_right _ _, ?_, ?_⟩
  · intro t ht hti
    refine Nat.le_min.2 ⟨?_, hti⟩
    refine IsRd.mono (D := 1) (D' := 2 ^ 0) (by omega) (by omega) (IsRd.exact double (D := 1) (by omega) t) hr ?_
    rw [hval] at ht
    rw [Nat.pow_zero, Nat.mul_one, Nat.mul_one, Nat.mul_one]
    have hSge : 2 * wh ≤ S := by omega
    obtain ⟨K, d, hK, hu⟩ := unit_bits double t
    rw [db_bin] at hK
    rw [hu] at ht ⊢
    by_cases hd : e + 1 ≤ d
    · obtain ⟨z, hz⟩ : ∃ z, d = z + (e + 1) := ⟨d - (e + 1), by omega⟩
      have hKq : K * 2 ^ d = K * 2 ^ z * 2 ^ (e + 1) := by rw [hz, Nat.pow_add, Nat.mul_assoc]
      rw [hKq] at ht ⊢
      clear hKq hu
      generalize K * 2 ^ z = q at *
      have h1 : q * q * (2 ^ (e + 1) * 2 ^ (e + 1)) ≤ n * (2 ^ (e + 1) * 2 ^ (e + 1)) := by rw [Nat.mul_mul_mul_comm q q]; exact ht
      have h2 := Nat.le_of_mul_le_mul_right h1 (Nat.mul_pos (Nat.two_pow_pos _) (Nat.two_pow_pos _))
      have h3 : q < wh + 1 := sq_lt (by omega)
      rw [Nat.pow_succ, Nat.mul_comm (2 ^ e) 2, ← Nat.mul_assoc]
      exact Nat.mul_le_mul_right _ (by omega)
    · have h1 : K * 2 ^ d ≤ K * 2 ^ e := Nat.mul_le_mul_left _ (Nat.pow_le_pow_right (by omega) (by omega))
      have h2 : K * 2 ^ e ≤ S * 2 ^ e := Nat.mul_le_mul_right _ (by omega)
      omega
  · intro t ht
    refine Nat.le_trans (Nat.min_le_left _ _) ?_
    refine IsRd.mono (D := 2 ^ 0) (D' := 1) (by omega) (by omega) hr (IsRd.exact double (D := 1) (by omega) t) ?_
    rw [hval] at ht
    rw [Nat.pow_zero, Nat.mul_one, Nat.mul_one, Nat.mul_one]
    obtain ⟨K, d, hK, hu⟩ := unit_bits double t
    rw [db_bin] at hK
    rw [hu] at ht ⊢
    by_cases hd : e + 1 ≤ d
    · obtain ⟨z, hz⟩ : ∃ z, d = z + (e + 1) := ⟨d - (e + 1), by omega⟩
      have hKq : K * 2 ^ d = K * 2 ^ z * 2 ^ (e + 1) := by rw [hz, Nat.pow_add, Nat.mul_assoc]
      rw [hKq] at ht ⊢
      clear hKq hu
      generalize K * 2 ^ z = q at *
      have h1 : n * (2 ^ (e + 1) * 2 ^ (e + 1)) ≤ q * q * (2 ^ (e + 1) * 2 ^ (e + 1)) := by rw [Nat.mul_mul_mul_comm q q]; exact ht
      have h2 := Nat.le_of_mul_le_mul_right h1 (Nat.mul_pos (Nat.two_pow_pos _) (Nat.two_pow_pos _))
      have h3 : wh ≤ q := sq_le (by omega)
      have h4 : S ≤ 2 * q := by
        rw [← hS]
        split
        · omega
        · rcases Nat.lt_or_ge wh q with g | g
          · omega
          · have : wh = q := by omega
            subst this
            omega
      rw [Nat.pow_succ, Nat.mul_comm (2 ^ e) 2, ← Nat.mul_assoc]
      exact Nat.mul_le_mul_right _ (by omega)
    · exfalso
      have h1 : K * 2 ^ d ≤ K * 2 ^ e := Nat.mul_le_mul_left _ (Nat.pow_le_pow_right (by omega) (by omega))
      have h2 : K * 2 ^ e < 2 ^ 54 * 2 ^ (e + 1) := by
        rw [Nat.pow_succ 2 e]
        have hp := Nat.two_pow_pos e
        generalize 2 ^ e = p at *
        have : K * p ≤ 2 ^ 54 * p := Nat.mul_le_mul_right _ (by omega)
        omega
      have h3 : wh * 2 ^ (e + 1) * (wh * 2 ^ (e + 1)) ≤ K * 2 ^ d * (K * 2 ^ d) := by
        refine Nat.le_trans ?_ ht
        rw [Nat.mul_mul_mul_comm]
        exact Nat.mul_le_mul_right _ hroot.1
      have h4 := sq_le h3
      have h5 : 2 ^ 54 * 2 ^ (e + 1) ≤ wh * 2 ^ (e + 1) := Nat.mul_le_mul_right _ hwge
      omega

end Go.Proofs.Ytkhoifgljalfcaa
