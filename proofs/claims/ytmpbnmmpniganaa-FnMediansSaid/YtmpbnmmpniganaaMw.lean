/- Plain facts on holes, ranges and means of maps of quarters. -/
import Derived.Test.YtmpbnmmpniganaaMv
namespace Go.Proofs.Ytmpbnmmpniganaa
open Go.RowKit
set_option maxRecDepth 100000
set_option linter.unusedVariables false
set_option linter.unusedSimpArgs false

theorem stats (ks : List Int) : ∀ i, i ≤ ks.length →
    ((ks.take i).foldl mnS (0, 0)).2 + (ks.take i).foldl holeS 0 = i ∧
    ((ks.take i).foldl rgS (0, 0, false)).2.2 = decide (((ks.take i).foldl mnS (0, 0)).2 ≠ 0) ∧
    (∀ j, j < i → 0 ≤ ks.getD j 0 → ((ks.take i).foldl rgS (0, 0, false)).2.2 = true ∧ ((ks.take i).foldl rgS (0, 0, false)).1 ≤ ks.getD j 0 ∧ ks.getD j 0 ≤ ((ks.take i).foldl rgS (0, 0, false)).2.1) ∧
    ((ks.take i).foldl rgS (0, 0, false)).1 * (((ks.take i).foldl mnS (0, 0)).2 : Int) ≤ ((ks.take i).foldl mnS (0, 0)).1 ∧
    ((ks.take i).foldl mnS (0, 0)).1 ≤ ((ks.take i).foldl rgS (0, 0, false)).2.1 * (((ks.take i).foldl mnS (0, 0)).2 : Int) ∧
    (((ks.take i).foldl mnS (0, 0)).2 = 0 → ((ks.take i).foldl mnS (0, 0)).1 = 0) ∧ 0 ≤ ((ks.take i).foldl rgS (0, 0, false)).1 ∧ 0 ≤ ((ks.take i).foldl rgS (0, 0, false)).2.1 ∧ (((ks.take i).foldl rgS (0, 0, false)).2.2 = true → ∃ j, j < i ∧ 0 ≤ ks.getD j 0) := by
  intro i
  induction i with
  | zero => intro _; simp [List.take]
  | succ i ih =>
    intro h
    obtain ⟨h1, h2, h3, h4, h5, h6, h7, h8, h9⟩ := ih (by omega)
    rw [foldl_take mnS _ ks i (by omega), foldl_take holeS _ ks i (by omega), foldl_take rgS _ ks i (by omega)]
    generalize (ks.take i).foldl mnS (0, 0) = p at *
    generalize (ks.take i).foldl holeS 0 = hh at *
    generalize (ks.take i).foldl rgS (0, 0, false) = o at *
    obtain ⟨s, m⟩ := p
    obtain ⟨lo, hi, fd⟩ := o
    dsimp only at *
    have hj : ∀ j, j < i + 1 → j < i ∨ j = i := fun j hj => by omega
    by_cases hk : ks.getD i 0 < 0
    · have e1 : mnS (s, m) (ks.getD i 0) = (s, m) := by unfold mnS; rw [if_pos hk]
      have e2 : holeS hh (ks.getD i 0) = hh + 1 := by unfold holeS; rw [if_pos hk]
      have e3 : rgS (lo, hi, fd) (ks.getD i 0) = (lo, hi, fd) := by unfold rgS; rw [if_pos hk]
      rw [e1, e2, e3]
      refine ⟨by dsimp only; omega, h2, fun j hj' hn => ?_, h4, h5, h6, h7, h8, fun e => ?_⟩
      · rcases hj j hj' with g | g
        · exact h3 j g hn
        · subst g; omega
      · obtain ⟨j, g1, g2⟩ := h9 e
        exact ⟨j, by omega, g2⟩
    · have e1 : mnS (s, m) (ks.getD i 0) = (s + ks.getD i 0, m + 1) := by unfold mnS; rw [if_neg hk]
      have e2 : holeS hh (ks.getD i 0) = hh := by unfold holeS; rw [if_neg hk]
      have e3 : rgS (lo, hi, fd) (ks.getD i 0) = (if fd = false ∨ ks.getD i 0 < lo then ks.getD i 0 else lo, if fd = false ∨ hi < ks.getD i 0 then ks.getD i 0 else hi, true) := by unfold rgS; rw [if_neg hk]
      rw [e1, e2, e3]
      dsimp only
      have hself := show 0 ≤ ks.getD i 0 by omega
      have h33 : ∀ j, j < i → 0 ≤ ks.getD j 0 → fd = true ∧ lo ≤ ks.getD j 0 ∧ ks.getD j 0 ≤ hi := h3
      generalize hkk : ks.getD i 0 = k at *
      obtain ⟨lo2, hlo2⟩ : ∃ lo2, lo2 = (if fd = false ∨ k < lo then k else lo) := ⟨_, rfl⟩
      obtain ⟨hi2, hhi2⟩ : ∃ hi2, hi2 = (if fd = false ∨ hi < k then k else hi) := ⟨_, rfl⟩
      rw [← hlo2, ← hhi2]
      have a1 : lo2 ≤ k := by rw [hlo2]; split <;> omega
      have a2 : k ≤ hi2 := by rw [hhi2]; split <;> omega
      have a3 : fd = true → lo2 ≤ lo := fun e => by rw [hlo2, e]; simp; split <;> omega
      have a4 : fd = true → hi ≤ hi2 := fun e => by rw [hhi2, e]; simp; split <;> omega
      have a5 : 0 ≤ lo2 := by rw [hlo2]; split <;> omega
      have a6 : 0 ≤ hi2 := by omega
      have hm : fd = false → m = 0 := fun e => by rw [e] at h2; simpa using h2.symm
      refine ⟨by omega, by simp, fun j hj' hn => ⟨rfl, ?_⟩, ?_, ?_, by omega, a5, a6, fun _ => ⟨i, by omega, by rw [hkk]; exact hself⟩⟩
      · rcases hj j hj' with g | g
        · obtain ⟨g1, g2, g3⟩ := h33 j g hn
          have := a3 g1; have := a4 g1; omega
        · subst g; rw [hkk]; exact ⟨a1, a2⟩
      · rw [Int.natCast_add, Int.natCast_one, Int.mul_add, Int.mul_one]
        cases fd
        · have := hm rfl; subst this
          have := h6 rfl; simp; omega
        · have := Int.mul_le_mul_of_nonneg_right (a3 rfl) (Int.natCast_nonneg m); omega
      · rw [Int.natCast_add, Int.natCast_one, Int.mul_add, Int.mul_one]
        cases fd
        · have := hm rfl; subst this
          have := h6 rfl; simp; omega
        · have := Int.mul_le_mul_of_nonneg_right (a4 rfl) (Int.natCast_nonneg m); omega

theorem stats_full (ks : List Int) : (mnF ks).2 + holesF ks = ks.length ∧ (rgF ks).2.2 = decide ((mnF ks).2 ≠ 0) ∧ (∀ j, j < ks.length → 0 ≤ ks.getD j 0 → (rgF ks).2.2 = true ∧ (rgF ks).1 ≤ ks.getD j 0 ∧ ks.getD j 0 ≤ (rgF ks).2.1) ∧
    (rgF ks).1 * ((mnF ks).2 : Int) ≤ (mnF ks).1 ∧ (mnF ks).1 ≤ (rgF ks).2.1 * ((mnF ks).2 : Int) ∧ ((mnF ks).2 = 0 → (mnF ks).1 = 0) ∧ 0 ≤ (rgF ks).1 ∧ 0 ≤ (rgF ks).2.1 ∧ ((rgF ks).2.2 = true → ∃ j, j < ks.length ∧ 0 ≤ ks.getD j 0) := by
  have := stats ks ks.length (Nat.le_refl _)
  rw [List.take_length] at this
  exact this

theorem fq_neg {g : Nat} {k : Int} (hk : k < 0) (h : k.natAbs ≤ 16777216) : Op.negFloat .f32 (fq g k) = fq g (-k) := by
  obtain ⟨r, h1, h2, h3⟩ := (few32 (g := g) (k := k) h).rung f1
  obtain ⟨s, g1, g2, g3⟩ := (few32 (g := g) (k := -k) (by omega)).rung f1
  have e : r = s := unit_inj Ieee.single (by rw [h2, g2]; congr 1; omega)
  have hr : r < 2139095040 := by have := h1; rw [sg_inf] at this; exact this
  unfold fq
  rw [h3, g3, ← e, decide_eq_true hk, decide_eq_false (by omega), neg32_eq _ (by unfold Ieee.Format.word; rw [sg_sw]; simp; omega)]
  unfold Ieee.Format.word
  rw [sg_sw]; simp; omega

/-- The word of a thousandth. -/
theorem milli : fin32 981668463 = true ∧ 0 ≤ vv 981668463 ∧ vv 981668463 ≤ vv (fq 2 1) := by decide +kernel
/-- A little less than a number of quarters. -/
theorem sub_milli {k : Int} (hk : k.natAbs ≤ 1000000) : ∃ t, floatBits .sub .f32 (fq 2 k) 981668463 = some t ∧ fin32 t = true ∧ vv t ≤ vv (fq 2 k) := by
  obtain ⟨m1, m2, m3⟩ := milli
  have p := pow_pos_int (149 - 2)
  obtain ⟨t, h1, h2, h3, h4, h5⟩ := sub_bd (a := fq 2 k) (b := 981668463) (lo := fq 2 (k - 1)) (hi := fq 2 k) (fq_fin (by omega)) m1 (fq_fin (by omega)) (fq_fin (by omega))
    (by rw [vv_fq (by decide)] at m3; rw [vv_fq (by omega), vv_fq (by omega), Int.sub_mul]; omega) (by omega)
  exact ⟨t, h1, h2, h5⟩
/-- A little more than a number of quarters. -/
theorem add_milli {k : Int} (hk : k.natAbs ≤ 1000000) : ∃ t, floatBits .add .f32 (fq 2 k) 981668463 = some t ∧ fin32 t = true ∧ vv (fq 2 k) ≤ vv t := by
  obtain ⟨m1, m2, m3⟩ := milli
  have p := pow_pos_int (149 - 2)
  obtain ⟨t, h1, h2, h3, h4, h5⟩ := add_bd (a := fq 2 k) (b := 981668463) (lo := fq 2 k) (hi := fq 2 (k + 1)) (fq_fin (by omega)) m1 (fq_fin (by omega)) (fq_fin (by omega))
    (by omega) (by rw [vv_fq (by decide)] at m3; rw [vv_fq (by omega), vv_fq (by omega), Int.add_mul]; omega)
  exact ⟨t, h1, h2, h4⟩

end Go.Proofs.Ytmpbnmmpniganaa
