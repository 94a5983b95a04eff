/- Volumes of costs: right ones, their cells, and volumes that are told of others. -/
import Derived.Test.YtcppoadeelnphaaDoorPic
import Derived.Test.YtcppoadeelnphaaDoorVl
namespace Go.Proofs.YtcppoadeelnphaaDoor
open Go.RowKit
set_option maxRecDepth 100000
set_option linter.unusedVariables false
set_option linter.unusedSimpArgs false

/-- A volume that is right. -/
def vVol (a b d : Int) (n : Nat) : Bool := szOk a b && (decide (1 ≤ d) && decide (d ≤ 8)) && decide ((n : Int) = a * b * d)
theorem vVol_spec {a b d : Int} {n : Nat} (h : vVol a b d n = true) : ∃ wd hi dp : Nat, a = wd ∧ b = hi ∧ d = dp ∧ n = wd * hi * dp ∧ 1 ≤ wd ∧ wd ≤ 24 ∧ 1 ≤ hi ∧ hi ≤ 24 ∧ wd * hi ≤ 256 ∧ 1 ≤ dp ∧ dp ≤ 8 ∧ n ≤ 2048 := by
  unfold vVol at h
  simp only [Bool.and_eq_true, decide_eq_true_eq] at h
  obtain ⟨h1, h2, h3, h4, h5⟩ := szOk_spec h.1.1
  obtain ⟨wd, rfl⟩ := Int.eq_ofNat_of_zero_le (show 0 ≤ a by omega)
  obtain ⟨hi, rfl⟩ := Int.eq_ofNat_of_zero_le (show 0 ≤ b by omega)
  obtain ⟨dp, rfl⟩ := Int.eq_ofNat_of_zero_le (show 0 ≤ d by omega)
  have e : ((wd : Int) * (hi : Int)) = ((wd * hi : Nat) : Int) := by simp
  rw [e] at h5 h
  have e2 : n = wd * hi * dp := by have := h.2; rw [← Int.natCast_mul] at this; omega
  have h6 : wd * hi * dp ≤ 256 * 8 := Nat.mul_le_mul (by omega) (by omega)
  exact ⟨wd, hi, dp, rfl, rfl, rfl, e2, by omega, by omega, by omega, by omega, by omega, by omega, by omega, by omega⟩
theorem vVol_of {wd hi dp : Nat} (h1 : 1 ≤ wd) (h2 : wd ≤ 24) (h3 : 1 ≤ hi) (h4 : hi ≤ 24) (h5 : wd * hi ≤ 256) (h6 : 1 ≤ dp) (h7 : dp ≤ 8) : vVol wd hi dp (wd * hi * dp) = true := by
  unfold vVol
  rw [szOk_of (by omega) (by omega) (by omega) (by omega) (by rw [← Int.natCast_mul]; omega)]
  have : (1 : Int) ≤ dp ∧ (dp : Int) ≤ 8 := by omega
  simp [this.1, this.2]

theorem validVolume_any (a b d : Int) (sa : Option Addr) (n c : Nat) (hn : n ≤ 9223372036854775807) (w : World) : Calls Tryd.prog 30 #[.agg #[.int .i64 a, .int .i64 b, .int .i64 d, .slice sa n c]] w fun e w' => e = .returned (.bool (vVol a b d n)) ∧ Below w.heap.size w w' := by
  cases h : szOk a b
  · have e : vVol a b d n = false := by unfold vVol; rw [h]; rfl
    rw [e]; clear e
    go_enter Tryd.func30, Tryd.ntmps30
    go_wp2_with (go_at_call 35; refine (sizeOk_any _ _ _).mono ?_; rintro e w' ⟨rfl, rfl⟩)
    go_ret
    exact ⟨rfl, (Below.refl _ _).alloc (Nat.le_refl _) _⟩
  · obtain ⟨h1, h2, h3, h4, h5⟩ := szOk_spec h
    have hab : 0 ≤ a * b := Int.mul_nonneg (by omega) (by omega)
    cases hd : (decide (1 ≤ d) && decide (d ≤ 8))
    · have e : vVol a b d n = false := by unfold vVol; rw [h, hd]; rfl
      rw [e]; clear e
      go_enter Tryd.func30, Tryd.ntmps30
      go_wp2_with fail
      refine (sizeOk_any _ _ _).mono ?_
      rw [h]
      rintro e w' ⟨rfl, rfl⟩
      go_wp2_with fail
      refine (in_any _ _ _ _).mono ?_
      rw [hd]
      rintro e w' ⟨rfl, rfl⟩
      go_wp2
      go_ret
      exact ⟨rfl, (Below.refl _ _).alloc (Nat.le_refl _) _⟩
    · have e : vVol a b d n = ((n : Int) == a * b * d) := by unfold vVol; rw [h, hd, Bool.true_and]; rw [Bool.eq_iff_iff]; simp
      have hd' := hd
      simp only [Bool.and_eq_true, decide_eq_true_eq] at hd'
      obtain ⟨d1, d2⟩ := hd'
      have habd : 0 ≤ a * b * d := Int.mul_nonneg hab (by omega)
      have habd2 : a * b * d ≤ 256 * 8 := Int.mul_le_mul h5 d2 (by omega) (by omega)
      cases hq : ((n : Int) == a * b * d)
      · rw [e, hq]
        clear e
        go_enter Tryd.func30, Tryd.ntmps30
        go_wp2_with fail
        refine (sizeOk_any _ _ _).mono ?_
        rw [h]
        rintro e w' ⟨rfl, rfl⟩
        go_wp2_with fail
        refine (in_any _ _ _ _).mono ?_
        rw [hd]
        rintro e w' ⟨rfl, rfl⟩
        go_wp2
        go_ret
        exact ⟨rfl, (Below.refl _ _).alloc (Nat.le_refl _) _⟩
      · have hn2 : (n : Int) ≤ 2048 := by have := eq_of_beq hq; omega
        rw [e, hq]
        clear e
        go_enter Tryd.func30, Tryd.ntmps30
        go_wp2_with fail
        refine (sizeOk_any _ _ _).mono ?_
        rw [h]
        rintro e w' ⟨rfl, rfl⟩
        go_wp2_with fail
        refine (in_any _ _ _ _).mono ?_
        rw [hd]
        rintro e w' ⟨rfl, rfl⟩
        go_wp2
        go_ret
        exact ⟨rfl, (Below.refl _ _).alloc (Nat.le_refl _) _⟩

/-- The cells of a volume's box, and what its slice reads as. -/
structure VolAt (W : World) (pb : Nat) (wd hi dp : Nat) (b off n c : Nat) (bs : List Nat) : Prop where
  box : BoxN W pb #[.int .i64 wd, .int .i64 hi, .int .i64 dp, .slice (some ⟨b, off, none⟩) n c] 37
  sl : SlF W (.slice (some ⟨b, off, none⟩) n c) bs
  len : bs.length = wd * hi * dp
theorem VolAt.below {W W' : World} {pb wd hi dp b off n c : Nat} {bs : List Nat} (h : VolAt W pb wd hi dp b off n c bs) (hb : Below W.heap.size W W') : VolAt W' pb wd hi dp b off n c bs := ⟨h.box.below hb, h.sl.below hb, h.len⟩
theorem VolAt.drewN {W : World} {pb wd hi dp b off n c : Nat} {bs : List Nat} (h : VolAt W pb wd hi dp b off n c bs) (k : Nat) : VolAt (W.drewN k) pb wd hi dp b off n c bs := ⟨h.box, ⟨h.sl.1.drewN k, h.sl.2⟩, h.len⟩

theorem SlF.size {w : World} {a : Option Addr} {n cap : Nat} {xs : List Nat} (h : SlF w (.slice a n cap) xs) : xs.length = n ∧ n ≤ cap ∧ cap ≤ 9223372036854775807 := by
  obtain ⟨a', c', e, h1, h2, h3⟩ := h.1
  simp only [Value.slice.injEq, List.length_map] at e h1
  omega
theorem SlF.at {w : World} {b off cap : Nat} {n : Nat} {bs : List Nat} (h : SlF w (.slice (some ⟨b, off, none⟩) n cap) bs) (i : Nat) (hi : i < bs.length) : w.cell? ⟨b, off + i, none⟩ = some (.float .f32 (bs.getD i 0)) ∧ bs.getD i 0 < 4294967296 := by
  obtain ⟨b', off', cap', h1, h2, h3⟩ := h.form (by intro e; rw [e] at hi; simp at hi)
  simp only [Value.slice.injEq, Option.some.injEq, Addr.mk.injEq] at h1
  obtain ⟨⟨rfl, rfl, _⟩, _, _⟩ := h1
  rw [← getD_of bs i hi]
  exact ⟨h3 i hi, h.lt hi⟩

/-- The place of a cell's first cost. -/
def ic (wd dp x y : Nat) : Nat := (x + wd * y) * dp
theorem ic_le {wd hi dp x y : Nat} (hx : x < wd) (hy : y < hi) : ic wd dp x y + dp ≤ wd * hi * dp := by
  unfold ic
  have h1 : x + wd * y + 1 ≤ wd * hi := by
    calc x + wd * y + 1 ≤ wd + wd * y := by omega
      _ = wd * (y + 1) := by rw [Nat.mul_add]; omega
      _ ≤ wd * hi := Nat.mul_le_mul_left _ hy
  calc (x + wd * y) * dp + dp = (x + wd * y + 1) * dp := by rw [Nat.add_mul (x + wd * y) 1 dp, Nat.one_mul]
    _ ≤ wd * hi * dp := Nat.mul_le_mul_right _ h1

end Go.Proofs.YtcppoadeelnphaaDoor
