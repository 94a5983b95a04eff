/- The reference's comparison of two pictures, by words. -/
import Derived.Test.YtmpbnmmpniganaaKc
import Derived.Test.YtmpbnmmpniganaaKm
namespace Go.Proofs.Ytmpbnmmpniganaa
open Go.RowKit
set_option maxRecDepth 100000
set_option linter.unusedVariables false
set_option linter.unusedSimpArgs false

theorem l00In_any (n lo hi : Int) (w : World) : Calls Try.prog 110 #[.int .i64 n, .int .i64 lo, .int .i64 hi] w fun e w' => e = .returned (.bool (decide (lo ≤ n) && decide (n ≤ hi))) ∧ w = w' := by
  by_cases h : lo ≤ n
  · have e : decide (lo ≤ n) = true := decide_eq_true h
    rw [e, Bool.true_and]
    go_enter Try.func110, Try.ntmps110
    go_wp2
    go_ret
    exact ⟨rfl, rfl⟩
  · have e : decide (lo ≤ n) = false := decide_eq_false h
    rw [e, Bool.false_and]
    go_enter Try.func110, Try.ntmps110
    go_wp2
    go_ret
    exact ⟨rfl, rfl⟩
theorem l00In_T (n lo hi : Int) (h1 : lo ≤ n) (h2 : n ≤ hi) (w : World) : Calls Try.prog 110 #[.int .i64 n, .int .i64 lo, .int .i64 hi] w fun e w' => e = .returned (.bool true) ∧ w = w' := by
  have := l00In_any n lo hi w
  rw [decide_eq_true h1, decide_eq_true h2] at this
  exact this
theorem l02Size_T (wd hi : Nat) (h1 : 1 ≤ wd) (h2 : wd ≤ 24) (h3 : 1 ≤ hi) (h4 : hi ≤ 24) (h5 : wd * hi ≤ 256) (W : World) : Calls Try.prog 80 #[.int .i64 wd, .int .i64 hi] W fun e w' => e = .returned (.bool true) ∧ W = w' := by
  have KA := Lib.hid (fun w => l00In_T (wd : Int) 1 24 (by omega) (by omega) w)
  have KB := Lib.hid (fun w => l00In_T (hi : Int) 1 24 (by omega) (by omega) w)
  have hm : (wd : Int) * (hi : Int) ≤ 256 := by rw [← Int.natCast_mul]; omega
  have hm0 : (0 : Int) ≤ (wd : Int) * (hi : Int) := by rw [← Int.natCast_mul]; omega
  have hw : IntKind.i64.wrap ((wd : Int) * (hi : Int)) = (wd : Int) * (hi : Int) := IntWalk.i64_in _ (by omega)
  have hd : decide ((wd : Int) * (hi : Int) ≤ 256) = true := decide_eq_true hm
  go_enter Try.func80, Try.ntmps80
  go_wp2_with fail
  refine (KA.out _).mono ?_
  rintro e w' ⟨rfl, rfl⟩
  go_wp2_with fail
  refine (KB.out _).mono ?_
  rintro e w' ⟨rfl, rfl⟩
  go_wp2
  go_ret
  exact ⟨rfl, rfl⟩
theorem l02Is_T (W : World) (pb wd hi N : Nat) (sa : Option Addr) (c : Nat) (h1 : 1 ≤ wd) (h2 : wd ≤ 24) (h3 : 1 ≤ hi) (h4 : hi ≤ 24) (h5 : wd * hi ≤ 256) (hN : N = wd * hi) (h : Box3 W pb (.int .i64 wd) (.int .i64 hi) (.slice sa N c) 37) :
    Calls Try.prog 119 #[.pointer (some ⟨pb, 0, none⟩)] W fun e w' => e = .returned (.bool true) ∧ ∃ n, w' = W.drewN n := by
  obtain ⟨c0, c1, c2, -, -, -⟩ := h.cells
  have K := Lib.hid (fun w => l02Size_T wd hi h1 h2 h3 h4 h5 w)
  have hm0 : (N : Int) = (wd : Int) * (hi : Int) := by rw [← Int.natCast_mul]; omega
  have hm : (wd : Int) * (hi : Int) ≤ 256 := by rw [← Int.natCast_mul]; omega
  have hm1 : (0 : Int) ≤ (wd : Int) * (hi : Int) := by rw [← Int.natCast_mul]; omega
  have hw : IntKind.i64.wrap ((wd : Int) * (hi : Int)) = (wd : Int) * (hi : Int) := IntWalk.i64_in _ (by omega)
  have hd : ((N : Int) == (wd : Int) * (hi : Int)) = true := by rw [hm0]; simp
  have hn : N ≤ 256 := by omega
  have HN := Lib.hid hN
  clear h hm0 hN
  go_enter Try.func119, Try.ntmps119
  go_wp2_with fail
  go_quiet (exact quiet_same (K.out _))
  go_wp2
  go_ret
  exact ⟨rfl, _, rfl⟩
set_option maxHeartbeats 1000000 in
theorem l03Pair_T (W : World) (p1 p2 wd hi N dp : Nat) (q1 q2 c1 c2 : Nat) (h1 : 1 ≤ wd) (h2 : wd ≤ 6) (h3 : 1 ≤ hi) (h4 : hi ≤ 4) (hN : N = wd * hi) (d1 : 1 ≤ dp) (d2 : dp ≤ 5) (hA : Box3 W p1 (.int .i64 wd) (.int .i64 hi) (.slice (some ⟨q1, 0, none⟩) N c1) 37) (hB : Box3 W p2 (.int .i64 wd) (.int .i64 hi) (.slice (some ⟨q2, 0, none⟩) N c2) 37) :
    Calls Try.prog 113 #[.pointer (some ⟨p1, 0, none⟩), .pointer (some ⟨p2, 0, none⟩), .int .i64 dp] W fun e w' => e = .returned (.bool true) ∧ ∃ n, w' = W.drewN n := by
  have h5 : wd * hi ≤ 6 * 4 := Nat.mul_le_mul h2 h4
  have h6 : wd * hi * dp ≤ 24 * 5 := Nat.mul_le_mul h5 d2
  have KA := Lib.hid (fun n => l02Is_T (W.drewN n) p1 wd hi N _ c1 h1 (by omega) h3 (by omega) (by omega) hN (hA.below (below_drewN (Below.refl _ _) n)))
  have KB := Lib.hid (fun n => l02Is_T (W.drewN n) p2 wd hi N _ c2 h1 (by omega) h3 (by omega) (by omega) hN (hB.below (below_drewN (Below.refl _ _) n)))
  have KI := Lib.hid (fun w => l00In_T (dp : Int) 1 8 (by omega) (by omega) w)
  obtain ⟨a0, a1, a2, -, -, -⟩ := hA.cells
  obtain ⟨b0, b1, b2, -, -, -⟩ := hB.cells
  have e5 : (wd : Int) * (hi : Int) ≤ 24 := by rw [← Int.natCast_mul]; omega
  have e5' : (0 : Int) ≤ (wd : Int) * (hi : Int) := by rw [← Int.natCast_mul]; omega
  have e6 : (wd : Int) * (hi : Int) * (dp : Int) ≤ 120 := by rw [← Int.natCast_mul, ← Int.natCast_mul]; omega
  have e6' : (0 : Int) ≤ (wd : Int) * (hi : Int) * (dp : Int) := by rw [← Int.natCast_mul, ← Int.natCast_mul]; omega
  have w5 : IntKind.i64.wrap ((wd : Int) * (hi : Int)) = (wd : Int) * (hi : Int) := IntWalk.i64_in _ (by omega)
  have w6 : IntKind.i64.wrap ((wd : Int) * (hi : Int) * (dp : Int)) = (wd : Int) * (hi : Int) * (dp : Int) := IntWalk.i64_in _ (by omega)
  have d6 : decide ((wd : Int) * (hi : Int) * (dp : Int) ≤ 2048) = true := decide_eq_true (by omega)
  clear hA hB h5 h6
  go_enter Try.func113, Try.ntmps113
  go_wp2_with fail
  go_quiet (first | with_reducible exact quiet_drew (KA.out _) | with_reducible exact quiet_drew (KB.out _) | with_reducible exact quiet_same (KI.out _))
  go_wp2
  go_ret
  exact ⟨rfl, _, rfl⟩

theorem l03Size_any (b : Nat) (hb : b < 4294967296) (W : World) : Calls Try.prog 120 #[.float .f32 b] W fun e w' => ∃ r n, e = .returned (.float .f32 r) ∧ r < 4294967296 ∧ w' = W.drewN n := by
  cases h : le32 b 0
  · go_enter Try.func120, Try.ntmps120
    go_wp2
    go_ret
    exact ⟨_, 0, rfl, hb, rfl⟩
  · go_enter Try.func120, Try.ntmps120
    go_wp2
    go_ret
    exact ⟨_, _, rfl, fres_lt _ _ _ _, rfl⟩

end Go.Proofs.Ytmpbnmmpniganaa
