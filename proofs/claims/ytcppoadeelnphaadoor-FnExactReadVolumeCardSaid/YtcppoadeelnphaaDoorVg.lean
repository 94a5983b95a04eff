/- A volume told by the reference, at any sizes. -/
import Derived.Test.YtcppoadeelnphaaDoorSz
import Derived.Test.YtcppoadeelnphaaDoorVo
namespace Go.Proofs.YtcppoadeelnphaaDoor
open Go.RowKit
set_option maxRecDepth 100000
set_option linter.unusedVariables false
set_option linter.unusedSimpArgs false

theorem l03Is_gen (W : World) (pb : Nat) (a b d : Int) (sa : Option Addr) (n c : Nat) (hn : n ≤ 9223372036854775807) (c0 : W.cell? ⟨pb, 0, none⟩ = some (.int .i64 a)) (c1 : W.cell? ⟨pb, 1, none⟩ = some (.int .i64 b)) (c2 : W.cell? ⟨pb, 2, none⟩ = some (.int .i64 d)) (c3 : W.cell? ⟨pb, 3, none⟩ = some (.slice sa n c)) :
    Calls Tryd.prog 29 #[.pointer (some ⟨pb, 0, none⟩)] W fun e w' => e = .returned (.bool (vVol a b d n)) ∧ ∃ m, w' = W.drewN m := by
  have K := Lib.hid (fun w => s02Size_any a b w)
  have K2 := Lib.hid (fun w => s00In_any d 1 8 w)
  cases h : szOk a b
  · have e : vVol a b d n = false := by unfold vVol; rw [h]; rfl
    rw [e]; clear e
    rw [h] at K
    go_enter Tryd.func29, Tryd.ntmps29
    go_wp2_with fail
    go_quiet (first | exact quiet_same (K.out _) | exact quiet_same (K2.out _))
    go_wp2_with fail
    go_ret
    exact ⟨rfl, _, rfl⟩
  · cases hd : (decide ((1 : Int) ≤ d) && decide (d ≤ 8))
    · have e : vVol a b d n = false := by unfold vVol; rw [h, hd]; rfl
      rw [e]; clear e
      rw [h] at K
      rw [hd] at K2
      go_enter Tryd.func29, Tryd.ntmps29
      go_wp2_with fail
      go_quiet (first | exact quiet_same (K.out _) | exact quiet_same (K2.out _))
      go_wp2_with fail
      go_ret
      exact ⟨rfl, _, rfl⟩
    · have e : vVol a b d n = ((n : Int) == a * b * d) := by unfold vVol; rw [h, hd, Bool.true_and, Bool.true_and]; rw [Bool.eq_iff_iff]; simp
      rw [e]; clear e
      rw [h] at K
      rw [hd] at K2
      obtain ⟨h1, h2, h3, h4, h5⟩ := szOk_spec h
      simp only [Bool.and_eq_true, decide_eq_true_eq] at hd
      have hab : 0 ≤ a * b := Int.mul_nonneg (by omega) (by omega)
      have hw : IntKind.i64.wrap (a * b) = a * b := IntWalk.i64_in _ (by omega)
      have hv0 : 0 ≤ a * b * d := Int.mul_nonneg hab (by omega)
      have hv1 : a * b * d ≤ 2048 := Int.le_trans (Int.mul_le_mul_of_nonneg_left hd.2 hab) (by omega)
      have hw2 : IntKind.i64.wrap (a * b * d) = a * b * d := IntWalk.i64_in _ (by omega)
      have hle : decide (a * b * d ≤ 2048) = true := decide_eq_true hv1
      obtain ⟨bv, hbv⟩ : ∃ bv, ((n : Int) == a * b * d) = bv := ⟨_, rfl⟩
      have hnI : (n : Int) ≤ 9223372036854775807 := by omega
      rw [hbv]
      go_enter Tryd.func29, Tryd.ntmps29
      go_wp2_with fail
      go_quiet (first | exact quiet_same (K.out _) | exact quiet_same (K2.out _))
      go_wp2_with fail
      go_ret
      exact ⟨rfl, _, rfl⟩

end Go.Proofs.YtcppoadeelnphaaDoor
