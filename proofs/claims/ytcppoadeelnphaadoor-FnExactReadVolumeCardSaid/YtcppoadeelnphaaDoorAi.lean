/- Desks: what the exact laws ask of their argument; the reference's ValidDesk and the program's. -/
import Derived.Test.YtcppoadeelnphaaDoorAh
import Derived.Test.YtcppoadeelnphaaDoorDe
import Derived.Test.YtcppoadeelnphaaDoorSz
namespace Go.Proofs.YtcppoadeelnphaaDoor
open Go.RowKit Ieee
set_option maxRecDepth 100000
set_option linter.unusedVariables false
set_option linter.unusedSimpArgs false

theorem l02Is_gen (W : World) (pb o0 : Nat) (a b : Int) (sa : Option Addr) (n c : Nat) (hn : n ≤ 9223372036854775807) (c0 : W.cell? ⟨pb, o0, none⟩ = some (.int .i64 a)) (c1 : W.cell? ⟨pb, o0 + 1, none⟩ = some (.int .i64 b)) (c2 : W.cell? ⟨pb, o0 + 2, none⟩ = some (.slice sa n c)) :
    Calls Tryd.prog 31 #[.pointer (some ⟨pb, o0, none⟩)] W fun e w' => e = .returned (.bool (vPic a b n)) ∧ ∃ m, w' = W.drewN m := by
  have K := Lib.hid (fun w => s02Size_any a b w)
  cases h : szOk a b
  · have e : vPic a b n = false := by unfold vPic; rw [h]; rfl
    rw [e]; clear e
    rw [h] at K
    go_enter Tryd.func31, Tryd.ntmps31
    go_wp2_with fail
    go_quiet (exact quiet_same (K.out _))
    go_wp2_with fail
    go_ret
    exact ⟨rfl, _, rfl⟩
  · have e : vPic a b n = ((n : Int) == a * b) := by unfold vPic; rw [h, Bool.true_and]; rw [Bool.eq_iff_iff]; simp
    rw [e]; clear e
    rw [h] at K
    obtain ⟨h1, h2, h3, h4, h5⟩ := szOk_spec h
    have hab : 0 ≤ a * b := Int.mul_nonneg (by omega) (by omega)
    have hw : IntKind.i64.wrap (a * b) = a * b := IntWalk.i64_in _ (by omega)
    obtain ⟨bv, hbv⟩ : ∃ bv, ((n : Int) == a * b) = bv := ⟨_, rfl⟩
    have hnI : (n : Int) ≤ 9223372036854775807 := by omega
    rw [hbv]
    go_enter Tryd.func31, Tryd.ntmps31
    go_wp2_with fail
    go_quiet (exact quiet_same (K.out _))
    go_wp2_with fail
    go_ret
    exact ⟨rfl, _, rfl⟩

theorem l03IsMap_gen (W : World) (pb o0 : Nat) (a b : Int) (sa : Option Addr) (n c : Nat) (hn : n ≤ 9223372036854775807) (c0 : W.cell? ⟨pb, o0, none⟩ = some (.int .i64 a)) (c1 : W.cell? ⟨pb, o0 + 1, none⟩ = some (.int .i64 b)) (c2 : W.cell? ⟨pb, o0 + 2, none⟩ = some (.slice sa n c)) :
    Calls Tryd.prog 28 #[.pointer (some ⟨pb, o0, none⟩)] W fun e w' => e = .returned (.bool (vPic a b n)) ∧ ∃ m, w' = W.drewN m := by
  have K := Lib.hid (fun w => s02Size_any a b w)
  cases h : szOk a b
  · have e : vPic a b n = false := by unfold vPic; rw [h]; rfl
    rw [e]; clear e
    rw [h] at K
    go_enter Tryd.func28, Tryd.ntmps28
    go_wp2_with fail
    go_quiet (exact quiet_same (K.out _))
    go_wp2_with fail
    go_ret
    exact ⟨rfl, _, rfl⟩
  · have e : vPic a b n = ((n : Int) == a * b) := by unfold vPic; rw [h, Bool.true_and]; rw [Bool.eq_iff_iff]; simp
    rw [e]; clear e
    rw [h] at K
    obtain ⟨h1, h2, h3, h4, h5⟩ := szOk_spec h
    have hab : 0 ≤ a * b := Int.mul_nonneg (by omega) (by omega)
    have hw : IntKind.i64.wrap (a * b) = a * b := IntWalk.i64_in _ (by omega)
    obtain ⟨bv, hbv⟩ : ∃ bv, ((n : Int) == a * b) = bv := ⟨_, rfl⟩
    have hnI : (n : Int) ≤ 9223372036854775807 := by omega
    rw [hbv]
    go_enter Tryd.func28, Tryd.ntmps28
    go_wp2_with fail
    go_quiet (exact quiet_same (K.out _))
    go_wp2_with fail
    go_ret
    exact ⟨rfl, _, rfl⟩

end Go.Proofs.YtcppoadeelnphaaDoor
