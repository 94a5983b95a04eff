/- Sharp disparities are near, trust lies between 0 and 1. -/
import Derived.Test.YtdeikjiflinkhaaWr
namespace Go.Proofs.Ytdeikjiflinkhaa
open Go.RowKit
open Ieee
set_option maxRecDepth 100000
set_option linter.unusedVariables false
set_option linter.unusedSimpArgs false

theorem mul_bd {a b lo hi : Nat} (ha : fin32 a = true) (hb : fin32 b = true) (hlo : fin32 lo = true) (hhi : fin32 hi = true) (h1 : vv lo * ((2 ^ 149 : Nat) : Int) ≤ vv a * vv b) (h2 : vv a * vv b ≤ vv hi * ((2 ^ 149 : Nat) : Int)) :
    ∃ r, floatBits .mul .f32 a b = some r ∧ fin32 r = true ∧ r < 4294967296 ∧ vv lo ≤ vv r ∧ vv r ≤ vv hi := by
  have e := mul_fin single (by rw [sg_L]; omega) ((fin32_iff a).2 ha) ((fin32_iff b).2 hb)
  have eL : (-single.leastPlace).toNat = 149 := by rw [sg_L]; rfl
  rw [eL] at e
  refine ⟨_, e, ?_⟩
  have hv : (if (sgn single a ^^ sgn single b) = true then -((unit single (rg single a) * unit single (rg single b) : Nat) : Int) else ((unit single (rg single a) * unit single (rg single b) : Nat) : Int)) = vv a * vv b := by
    unfold vv sv
    cases sgn single a <;> cases sgn single b <;> simp [Int.neg_mul, Int.mul_neg]
  apply rnd_bd hlo hhi
  · rw [hv]; exact h1
  · rw [hv]; exact h2

theorem fin_of_le {q : Nat} (hq : q < 4294967296) (h1 : le32 3212836864 q = true) (h2 : le32 q 1065353216 = true) : fin32 q = true := by
  unfold le32 at h1 h2
  simp only [Bool.and_eq_true, decide_eq_true_eq] at h1 h2
  have a := h1.2
  have b := h2.2
  have e1 : sr32 3212836864 = -1065353216 := by decide
  have e2 : sr32 1065353216 = 1065353216 := by decide
  rw [e1] at a
  rw [e2] at b
  unfold sr32 at a b
  unfold fin32
  apply decide_eq_true
  split at a <;> rename_i h <;> simp only [h, if_true, if_false] at b <;> omega

theorem vq (k : Int) (h : k.natAbs ≤ 16777216) : vv (fq 2 k) = k * ((2 ^ 147 : Nat) : Int) := vv_fq h
theorem one_q : (1065353216 : Nat) = fq 2 4 := by decide +kernel
theorem mone_q : (3212836864 : Nat) = fq 2 (-4) := by decide +kernel
theorem half_q : (1056964608 : Nat) = fq 2 2 := by decide +kernel
theorem fop_lt (op : BinOp) (x y : Nat) (h : ∀ r, floatBits op .f32 x y = some r → r < 4294967296) : fop op x y < 4294967296 := by
  unfold fop
  cases e : floatBits op .f32 x y with
  | none => decide
  | some r => exact fl_lt (h r e)
theorem floatBits_lt {op : BinOp} {x y r : Nat} (h : floatBits op .f32 x y = some r) (w : World) : r < 4294967296 := by
  have := fres_lt op x y w
  rwa [fres_some h] at this

/-- A number is near a whole one. -/
def NearWord (s : Nat) (D : Nat) : Prop := nan32 s = false ∧ ∃ z, floatBits .sub .f32 s (fq 2 (4 * (D : Int))) = some z ∧ fin32 z = true ∧ z < 4294967296 ∧ vv (fq 2 (-2)) ≤ vv z ∧ vv z ≤ vv (fq 2 2)
theorem near_self (D : Nat) (h : D ≤ 100) : NearWord (fq 2 (4 * (D : Int))) D := by
  refine ⟨fq_nan (by omega), _, fq_sub (by omega) (by omega) (by omega), ?_⟩
  rw [Int.sub_self]
  exact ⟨fq_fin (by decide), fq_lt (by decide), vv_mono (by decide) (by decide) (by decide), vv_mono (by decide) (by decide) (by decide)⟩
theorem whole_q (D : Nat) : fq 0 (D : Int) = fq 2 (4 * (D : Int)) := by
  have := fq_shift (g := 0) (j := 2) (by omega) (D : Int)
  rw [← this]; congr 1; simp; omega
theorem unitP : ∃ P : Int, 0 < P ∧ (∀ k : Int, k.natAbs ≤ 16777216 → vv (fq 2 k) = k * P) ∧ ((2 ^ 149 : Nat) : Int) = 4 * P := by
  refine ⟨((2 ^ 147 : Nat) : Int), p147, fun k h => vv_fq h, ?_⟩
  have : (2 : Nat) ^ 149 = 4 * 2 ^ 147 := by rw [show 149 = 147 + 2 from rfl, Nat.pow_add, Nat.mul_comm]
  rw [this, Int.natCast_mul]; rfl
theorem mul_half {q : Nat} (hq : q < 4294967296) (h1 : le32 3212836864 q = true) (h2 : le32 q 1065353216 = true) : ∃ r, floatBits .mul .f32 1056964608 q = some r ∧ fin32 r = true ∧ r < 4294967296 ∧ vv (fq 2 (-2)) ≤ vv r ∧ vv r ≤ vv (fq 2 2) := by
  have hf := fin_of_le hq h1 h2
  obtain ⟨P, hP0, hP, hP4⟩ := unitP
  rw [mone_q, le32_vv (fq_fin (by decide)) hf, decide_eq_true_eq, hP _ (by decide)] at h1
  rw [one_q, le32_vv hf (fq_fin (by decide)), decide_eq_true_eq, hP _ (by decide)] at h2
  rw [half_q]
  refine mul_bd (fq_fin (by decide)) hf (fq_fin (by decide)) (fq_fin (by decide)) ?_ ?_
  · rw [hP (-2) (by decide), hP 2 (by decide), hP4]
    generalize vv q = v at *
    clear hP hP4
    have := Int.mul_le_mul_of_nonneg_left h1 (show (0 : Int) ≤ 2 * P by omega)
    rw [show (2 : Int) * P * (-4 * P) = -8 * (P * P) from by rw [Int.mul_assoc, Int.mul_left_comm P]; omega] at this
    rw [show (-2 : Int) * P * (4 * P) = -8 * (P * P) from by rw [Int.mul_assoc, Int.mul_left_comm P]; omega]
    exact this
  · rw [hP 2 (by decide), hP4]
    generalize vv q = v at *
    clear hP hP4
    exact Int.mul_le_mul_of_nonneg_left h2 (show (0 : Int) ≤ 2 * P by omega)
theorem add_near {k : Int} {t : Nat} (hk : k.natAbs ≤ 1000) (htf : fin32 t = true) (ht1 : vv (fq 2 (-2)) ≤ vv t) (ht2 : vv t ≤ vv (fq 2 2)) :
    ∃ r, floatBits .add .f32 (fq 2 k) t = some r ∧ fin32 r = true ∧ r < 4294967296 ∧ vv (fq 2 (k - 2)) ≤ vv r ∧ vv r ≤ vv (fq 2 (k + 2)) := by
  obtain ⟨P, hP0, hP, -⟩ := unitP
  have q1 := hP k (by omega)
  have q2 := hP (k - 2) (by omega)
  have q3 := hP (k + 2) (by omega)
  have q4 := hP (-2) (by decide)
  have q5 := hP 2 (by decide)
  rw [Int.sub_mul] at q2
  rw [Int.add_mul] at q3
  refine add_bd (fq_fin (by omega)) htf (fq_fin (by omega)) (fq_fin (by omega)) ?_ ?_
  · generalize vv (fq 2 k) = v1 at *
    generalize vv (fq 2 (k - 2)) = v2 at *
    generalize vv (fq 2 (k + 2)) = v3 at *
    generalize vv (fq 2 (-2)) = v4 at *
    generalize vv (fq 2 2) = v5 at *
    generalize vv t = v6 at *
    generalize k * P = z at *
    clear hP
    omega
  · generalize vv (fq 2 k) = v1 at *
    generalize vv (fq 2 (k - 2)) = v2 at *
    generalize vv (fq 2 (k + 2)) = v3 at *
    generalize vv (fq 2 (-2)) = v4 at *
    generalize vv (fq 2 2) = v5 at *
    generalize vv t = v6 at *
    generalize k * P = z at *
    clear hP
    omega
theorem sub_near {k : Int} {s : Nat} (hk : k.natAbs ≤ 1000) (hsf : fin32 s = true) (hs1 : vv (fq 2 (k - 2)) ≤ vv s) (hs2 : vv s ≤ vv (fq 2 (k + 2))) :
    ∃ r, floatBits .sub .f32 s (fq 2 k) = some r ∧ fin32 r = true ∧ r < 4294967296 ∧ vv (fq 2 (-2)) ≤ vv r ∧ vv r ≤ vv (fq 2 2) := by
  obtain ⟨P, hP0, hP, -⟩ := unitP
  have q1 := hP k (by omega)
  have q2 := hP (k - 2) (by omega)
  have q3 := hP (k + 2) (by omega)
  have q4 := hP (-2) (by decide)
  have q5 := hP 2 (by decide)
  rw [Int.sub_mul] at q2
  rw [Int.add_mul] at q3
  refine sub_bd hsf (fq_fin (by omega)) (fq_fin (by decide)) (fq_fin (by decide)) ?_ ?_
  · generalize vv (fq 2 k) = v1 at *
    generalize vv (fq 2 (k - 2)) = v2 at *
    generalize vv (fq 2 (k + 2)) = v3 at *
    generalize vv (fq 2 (-2)) = v4 at *
    generalize vv (fq 2 2) = v5 at *
    generalize vv s = v6 at *
    generalize k * P = z at *
    clear hP
    omega
  · generalize vv (fq 2 k) = v1 at *
    generalize vv (fq 2 (k - 2)) = v2 at *
    generalize vv (fq 2 (k + 2)) = v3 at *
    generalize vv (fq 2 (-2)) = v4 at *
    generalize vv (fq 2 2) = v5 at *
    generalize vv s = v6 at *
    generalize k * P = z at *
    clear hP
    omega
theorem fop_some {op : BinOp} {x y t : Nat} (h : floatBits op .f32 x y = some t) (hf : fin32 t = true) : fop op x y = t := by
  unfold fop; rw [h]; exact fl_eq (nan_of_fin32 hf)
theorem near_half {D q : Nat} (hD : D ≤ 100) (hq : q < 4294967296) (h1 : le32 3212836864 q = true) (h2 : le32 q 1065353216 = true) : NearWord (fop .add (fq 0 (D : Int)) (fop .mul 1056964608 q)) D := by
  obtain ⟨t, ht, htf, htl, ht1, ht2⟩ := mul_half hq h1 h2
  have hk : (4 * (D : Int)).natAbs ≤ 1000 := by omega
  rw [fop_some ht htf, whole_q]
  obtain ⟨s, hs, hsf, hsl, hs1, hs2⟩ := add_near hk htf ht1 ht2
  rw [fop_some hs hsf]
  exact ⟨nan_of_fin32 hsf, sub_near hk hsf hs1 hs2⟩

theorem sharp_near {f : Nat → Nat} {dp D : Nat} (hd : dp ≤ 100) (hw : winW f (-1) dp = (D : Int)) (hD : D < dp) (w : World) : NearWord (sharpW dp f) D := by
  unfold sharpW
  rw [hw]
  split
  · rw [whole_q]; exact near_self D (by omega)
  · split
    · rename_i h
      rw [Bool.and_eq_true] at h
      refine near_half (by omega) (fop_lt _ _ _ fun r hr => floatBits_lt hr w) ?_ ?_
      · exact h.1
      · exact h.2
    · rw [whole_q]; exact near_self D (by omega)

end Go.Proofs.Ytdeikjiflinkhaa
