/- Ranks of windows. -/
import Derived.Test.YtialajgobpokmaaPo
namespace Go.Proofs.Ytialajgobpokmaa
open Go.RowKit
set_option maxRecDepth 100000
set_option linter.unusedVariables false
set_option linter.unusedSimpArgs false

/-- The digits of a window's cells, without the middle one. -/
def rkN (b : Nat → Bool) (mid : Nat) : Nat → Nat
  | 0 => 0
  | m + 1 => if m = mid then rkN b mid m else 2 * rkN b mid m + (if b m then 1 else 0)
theorem rkN_lt (b : Nat → Bool) (mid m : Nat) : rkN b mid m < 2 ^ (if mid < m then m - 1 else m) := by
  induction m with
  | zero => simp [rkN]
  | succ m ih =>
    show (if m = mid then rkN b mid m else 2 * rkN b mid m + (if b m then 1 else 0)) < _
    by_cases h : m = mid
    · rw [if_pos h, if_pos (by omega)]
      rw [if_neg (by omega)] at ih
      simpa using ih
    · rw [if_neg h]
      have hb : (if b m then 1 else 0) ≤ 1 := by split <;> omega
      generalize (if b m then 1 else 0) = c at *
      by_cases g : mid < m
      · rw [if_pos g] at ih
        rw [if_pos (by omega), show m + 1 - 1 = (m - 1) + 1 by omega, Nat.pow_succ]
        omega
      · rw [if_neg g] at ih
        rw [if_neg (by omega), Nat.pow_succ]
        omega
theorem rkN_congr {b c : Nat → Bool} (mid m : Nat) (h : ∀ i, i < m → b i = c i) : rkN b mid m = rkN c mid m := by
  induction m with
  | zero => rfl
  | succ m ih =>
    show (if m = mid then rkN b mid m else 2 * rkN b mid m + (if b m then 1 else 0)) = (if m = mid then rkN c mid m else 2 * rkN c mid m + (if c m then 1 else 0))
    rw [ih (fun i hi => h i (by omega)), h m (by omega)]
def rkB (ks : List Int) (wd hi : Nat) (r : Nat) (x y : Int) (m : Nat) : Bool := decide (ks.getD (ix (x - r + (m % (2 * r + 1) : Nat)) (y - r + (m / (2 * r + 1) : Nat)) wd hi) 0 < ks.getD (ix x y wd hi) 0)
def rankF (ks : List Int) (wd hi r : Nat) (x y : Int) : Nat := rkN (rkB ks wd hi r x y) (r * (2 * r + 1) + r) ((2 * r + 1) * (2 * r + 1))
theorem rankF_lt (ks : List Int) (wd hi : Nat) (x y : Int) {r : Nat} (h1 : 1 ≤ r) (h2 : r ≤ 2) : rankF ks wd hi r x y < 16777216 ∧ (r = 1 → rankF ks wd hi r x y < 256) := by
  have h := rkN_lt (rkB ks wd hi r x y) (r * (2 * r + 1) + r) ((2 * r + 1) * (2 * r + 1))
  have hr : r = 1 ∨ r = 2 := by omega
  unfold rankF
  rcases hr with rfl | rfl
  · have e : 2 ^ (if 1 * (2 * 1 + 1) + 1 < (2 * 1 + 1) * (2 * 1 + 1) then (2 * 1 + 1) * (2 * 1 + 1) - 1 else (2 * 1 + 1) * (2 * 1 + 1)) = 256 := by decide
    rw [e] at h
    omega
  · have e : 2 ^ (if 2 * (2 * 2 + 1) + 2 < (2 * 2 + 1) * (2 * 2 + 1) then (2 * 2 + 1) * (2 * 2 + 1) - 1 else (2 * 2 + 1) * (2 * 2 + 1)) = 16777216 := by decide
    rw [e] at h
    omega
/-- Greys that are twice as great and moved have the same ranks. -/
theorem rankF_scale {ks : List Int} {wd hi : Nat} (hl : ks.length = wd * hi) (hw : 0 < wd) (hh : 0 < hi) (r : Nat) (x y : Int) : rankF (ks.map fun k => 2 * k + 12) wd hi r x y = rankF ks wd hi r x y := by
  have g : ∀ X Y, (ks.map fun k => 2 * k + 12).getD (ix X Y wd hi) 0 = 2 * ks.getD (ix X Y wd hi) 0 + 12 := by
    intro X Y
    have hi_ : ix X Y wd hi < ks.length := by rw [hl]; exact ix_lt X Y hw hh
    rw [List.getD_eq_getElem?_getD, List.getD_eq_getElem?_getD, List.getElem?_map, List.getElem?_eq_getElem hi_]; rfl
  unfold rankF
  refine rkN_congr _ _ fun i _ => ?_
  unfold rkB
  rw [g, g]
  by_cases h : ks.getD (ix (x - r + (i % (2 * r + 1) : Nat)) (y - r + (i / (2 * r + 1) : Nat)) wd hi) 0 < ks.getD (ix x y wd hi) 0
  · rw [decide_eq_true h, decide_eq_true (by omega)]
  · rw [decide_eq_false h, decide_eq_false (by omega)]
/-- A round of the inner loop. -/
theorem rk_step {b : Nat → Bool} {mid : Nat} (m : Nat) : (m = mid → rkN b mid (m + 1) = rkN b mid m) ∧ (m ≠ mid → b m = true → (rkN b mid (m + 1) : Int) = (rkN b mid m : Int) * 2 + 1) ∧ (m ≠ mid → b m = false → (rkN b mid (m + 1) : Int) = (rkN b mid m : Int) * 2) := by
  have e : rkN b mid (m + 1) = if m = mid then rkN b mid m else 2 * rkN b mid m + (if b m then 1 else 0) := rfl
  refine ⟨fun h => by rw [e, if_pos h], fun h hb => ?_, fun h hb => ?_⟩
  · rw [e, if_neg h, hb, if_pos rfl]; omega
  · rw [e, if_neg h, hb, if_neg (by decide)]; omega
theorem rk_at {ks : List Int} {wd hi r D j i : Nat} {x y : Int} (hD : D = 2 * r + 1) (hi_ : i < D) : rkB ks wd hi r x y (j * D + i) = decide (ks.getD (ix (x - r + i) (y - r + j) wd hi) 0 < ks.getD (ix x y wd hi) 0) ∧ (j * D + i = r * D + r ↔ (j = r ∧ i = r)) := by
  subst hD
  have e1 : (j * (2 * r + 1) + i) % (2 * r + 1) = i := by rw [Nat.mul_comm, Nat.mul_add_mod, Nat.mod_eq_of_lt hi_]
  have e2 : (j * (2 * r + 1) + i) / (2 * r + 1) = j := by rw [Nat.mul_comm, Nat.mul_add_div (by omega), Nat.div_eq_of_lt hi_, Nat.add_zero]
  have f1 : (r * (2 * r + 1) + r) % (2 * r + 1) = r := by rw [Nat.mul_comm, Nat.mul_add_mod, Nat.mod_eq_of_lt (by omega)]
  have f2 : (r * (2 * r + 1) + r) / (2 * r + 1) = r := by rw [Nat.mul_comm, Nat.mul_add_div (by omega), Nat.div_eq_of_lt (by omega), Nat.add_zero]
  refine ⟨by unfold rkB; rw [e1, e2], fun h => ?_, fun h => by rw [h.1, h.2]⟩
  rw [h] at e1 e2
  exact ⟨by rw [← e2, f2], by rw [← e1, f1]⟩

end Go.Proofs.Ytialajgobpokmaa
