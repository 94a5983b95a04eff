/- The reference reads a picture: sizes; the plain law of its conditions. -/
import Derived.Test.YtkifhajkmgeafaaZn
import Derived.Test.YtkifhajkmgeafaaPic
namespace Go.Proofs.Ytkifhajkmgeafaa
open Go.RowKit
set_option maxRecDepth 100000
set_option linter.unusedVariables false
set_option linter.unusedSimpArgs false

theorem s00In_any (n lo hi : Int) (w : World) : Calls Try.prog 91 #[.int .i64 n, .int .i64 lo, .int .i64 hi] w fun e w' => e = .returned (.bool (decide (lo ≤ n) && decide (n ≤ hi))) ∧ w = w' := by
  go_enter Try.func91, Try.ntmps91
  go_wp2
  all_goals (go_ret; simp [*]; try omega)
theorem s02Size_any (a b : Int) (w : World) : Calls Try.prog 73 #[.int .i64 a, .int .i64 b] w fun e w' => e = .returned (.bool (szOk a b)) ∧ w = w' := by
  cases h1 : (decide (1 ≤ a) && decide (a ≤ 24))
  · have e : szOk a b = false := by unfold szOk; rw [h1]; simp
    rw [e]; clear e
    go_enter Try.func73, Try.ntmps73
    go_wp2_with (go_at_call 91; refine (s00In_any _ _ _ _).mono ?_; rintro e w' ⟨rfl, rfl⟩)
    go_ret
    simp
  · cases h2 : (decide (1 ≤ b) && decide (b ≤ 24))
    · have e : szOk a b = false := by unfold szOk; rw [h2]; simp
      rw [e]; clear e
      go_enter Try.func73, Try.ntmps73
      go_wp2_with (go_at_call 91; refine (s00In_any _ _ _ _).mono ?_; rintro e w' ⟨rfl, rfl⟩)
      go_ret
      simp
    · have e : szOk a b = decide (a * b ≤ 256) := by unfold szOk; rw [h1, h2]; simp
      rw [e]; clear e
      simp only [Bool.and_eq_true, decide_eq_true_eq] at h1 h2
      have hab : 0 ≤ a * b := Int.mul_nonneg (by omega) (by omega)
      have hab2 : a * b ≤ 576 := by
        have := Int.mul_le_mul h1.2 h2.2 (by omega) (by omega)
        omega
      obtain ⟨a1, a2⟩ := h1
      obtain ⟨b1, b2⟩ := h2
      have k1 : (decide (1 ≤ a) && decide (a ≤ 24)) = true := by simp [a1, a2]
      have k2 : (decide (1 ≤ b) && decide (b ≤ 24)) = true := by simp [b1, b2]
      go_enter Try.func73, Try.ntmps73
      go_wp2_with (go_at_call 91; refine (s00In_any _ _ _ _).mono ?_; rintro e w' ⟨rfl, rfl⟩)
      all_goals (go_ret; simp [*])


/-- What stands at a place of a text. -/
theorem ext_ext (s : ByteArray) (a k : Nat) (h : a + k ≤ s.size) : (s.extract a s.size).extract 0 k = s.extract a (a + k) := by
  apply ByteArray.ext; apply Array.ext'
  rw [ext_list, ext_list, ext_list, List.drop_zero, ← ba_size, List.take_length]
  rw [List.take_drop]
theorem byteN_ext (s : ByteArray) (a k : Nat) (h : a + k < s.size) : byteN (s.extract a s.size) k = byteN s (a + k) := by
  unfold byteN
  rw [ext_list, ← ba_size, List.take_length, List.getD_eq_getElem?_getD, List.getD_eq_getElem?_getD, List.getElem?_drop]
/-- The reference's condition is the program's. -/
theorem recS_frame {s : ByteArray} {a : Nat} (hok : okS (s.extract a s.size) = true) (hle : a + endS (s.extract a s.size) + 2 ≤ s.size) :
    decide ((⟨((picS (s.extract a s.size)).txt ++ ckB ((s.extract 0 a).data.toList ++ (picS (s.extract a s.size)).txt)).toArray⟩ : ByteArray) = s.extract a (a + endS (s.extract a s.size) + 2)) = recS s a := by
  unfold recS
  dsimp only
  generalize hr : s.extract a s.size = r at *
  rw [hok, decide_eq_true hle, Bool.true_and, Bool.true_and]
  have hk := hok
  unfold okS at hk
  rw [Bool.and_eq_true, decide_eq_true_eq] at hk
  have q1 := ba_eq hk.2
  have hrl : r.data.toList = s.data.toList.drop a := by rw [← hr, ext_list, ← ba_size, List.take_length]
  rw [ext_list, List.drop_zero, hrl] at q1
  have hS := ba_size s
  have t1 : s.data.toList.take (a + endS r) = (s.extract 0 a).data.toList ++ (picS r).txt := by
    rw [List.take_add, q1, ext_list, List.drop_zero]
  have t2 : (s.extract 0 (a + endS r)).data.toList = (s.extract 0 a).data.toList ++ (picS r).txt := by rw [ext_list, List.drop_zero, t1]
  rw [t2]
  have t3 : (s.extract a (a + endS r + 2)).data.toList = (picS r).txt ++ (s.extract (a + endS r) (a + endS r + 2)).data.toList := by
    rw [ext_list, ext_list]
    have h1 : s.data.toList.take (a + endS r + 2) = s.data.toList.take (a + endS r) ++ (s.data.toList.take (a + endS r + 2)).drop (a + endS r) := by
      have := List.take_append_drop (a + endS r) (s.data.toList.take (a + endS r + 2))
      rw [List.take_take, Nat.min_eq_left (by omega)] at this
      exact this.symm
    have ha : (s.extract 0 a).data.toList.length = a := by rw [ext_list, List.drop_zero, List.length_take]; omega
    have h2 := congrArg (List.drop a) h1
    rw [t1, List.append_assoc] at h2
    rw [h2, List.drop_append_of_le_length (by omega), List.drop_of_length_le (by omega), List.nil_append]
  refine decide_eq_decide.2 ⟨fun h => ?_, fun h => ?_⟩
  · have h2 := ba_eq h.symm
    rw [t3] at h2
    exact ba_of (List.append_cancel_left h2)
  · have h2 := ba_eq h
    rw [h2] at t3
    exact (ba_of t3).symm

end Go.Proofs.Ytkifhajkmgeafaa
