/- The reference's sizes. -/
import Derived.Test.YtcppoadeelnphaaDoorPic
namespace Go.Proofs.YtcppoadeelnphaaDoor
open Go.RowKit
set_option maxRecDepth 100000
set_option linter.unusedVariables false
set_option linter.unusedSimpArgs false

theorem s00In_any (n lo hi : Int) (w : World) : Calls Tryd.prog 41 #[.int .i64 n, .int .i64 lo, .int .i64 hi] w fun e w' => e = .returned (.bool (decide (lo ≤ n) && decide (n ≤ hi))) ∧ w = w' := by
  go_enter Tryd.func41, Tryd.ntmps41
  go_wp2
  all_goals (go_ret; simp [*]; try omega)

theorem s02Size_any (a b : Int) (w : World) : Calls Tryd.prog 40 #[.int .i64 a, .int .i64 b] w fun e w' => e = .returned (.bool (szOk a b)) ∧ w = w' := by
  cases h1 : (decide (1 ≤ a) && decide (a ≤ 24))
  · have e : szOk a b = false := by unfold szOk; rw [h1]; simp
    rw [e]; clear e
    go_enter Tryd.func40, Tryd.ntmps40
    go_wp2_with (go_at_call 41; refine (s00In_any _ _ _ _).mono ?_; rintro e w' ⟨rfl, rfl⟩)
    go_ret
    simp
  · cases h2 : (decide (1 ≤ b) && decide (b ≤ 24))
    · have e : szOk a b = false := by unfold szOk; rw [h2]; simp
      rw [e]; clear e
      go_enter Tryd.func40, Tryd.ntmps40
      go_wp2_with (go_at_call 41; refine (s00In_any _ _ _ _).mono ?_; rintro e w' ⟨rfl, rfl⟩)
      go_ret
      simp
    · have e : szOk a b = decide (a * b ≤ 256) := by unfold szOk; rw [h1, h2]; simp
      rw [e]; clear e
      simp only [Bool.and_eq_true, decide_eq_true_eq] at h1 h2
      have hab : 0 ≤ a * b := Int.mul_nonneg (by omega) (by omega)
      have hab2 : a * b ≤ 576 := by
        have := Int.mul_le_mul h1.2 h2.2 (by omega) (by omega)
        omega
      obtain ⟨a1, a2⟩ := h1
      obtain ⟨b1, b2⟩ := h2
      have k1 : (decide (1 ≤ a) && decide (a ≤ 24)) = true := by simp [a1, a2]
      have k2 : (decide (1 ≤ b) && decide (b ≤ 24)) = true := by simp [b1, b2]
      go_enter Tryd.func40, Tryd.ntmps40
      go_wp2_with (go_at_call 41; refine (s00In_any _ _ _ _).mono ?_; rintro e w' ⟨rfl, rfl⟩)
      all_goals (go_ret; simp [*])

end Go.Proofs.YtcppoadeelnphaaDoor
