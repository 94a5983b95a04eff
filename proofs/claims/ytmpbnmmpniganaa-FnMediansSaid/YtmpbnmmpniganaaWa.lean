/- winner, least, margin: of the costs of a cell, words told by a function of the disparity. No condition but that no cost is missing. -/
import Derived.Test.YtmpbnmmpniganaaVm
namespace Go.Proofs.Ytmpbnmmpniganaa
open Go.RowKit
set_option maxRecDepth 100000
set_option linter.unusedVariables false
set_option linter.unusedSimpArgs false

/-- Cells of a slice, told by a function. -/
def Row (W : World) (b off n : Nat) (f : Nat → Nat) : Prop := ∀ i, i < n → W.cell? ⟨b, off + i, none⟩ = some (.float .f32 (f i)) ∧ f i < 4294967296
theorem Row.drewN {W : World} {b off n : Nat} {f : Nat → Nat} (h : Row W b off n f) (k : Nat) : Row (W.drewN k) b off n f := h
theorem Row.below {W W' : World} {b off n : Nat} {f : Nat → Nat} (h : Row W b off n f) (hb : Below W.heap.size W W') : Row W' b off n f := fun i hi => by
  obtain ⟨h1, h2⟩ := h i hi
  have hlt := World.block_lt_of_cell? _ _ h1
  exact ⟨by rw [hb.cell (p := ⟨b, off + i, none⟩) hlt]; exact h1, h2⟩

def wnrS (f : Nat → Nat) (but best : Int) (d : Nat) : Int := if (d : Int) ≠ but ∧ nan32 (f d) = false ∧ (best < 0 ∨ lt32 (f d) (f best.toNat) = true) then d else best
def winW (f : Nat → Nat) (but : Int) : Nat → Int
  | 0 => -1
  | d + 1 => wnrS f but (winW f but d) d
theorem winW_bd (f : Nat → Nat) (but : Int) : ∀ n, -1 ≤ winW f but n ∧ winW f but n < n := by
  intro n
  induction n with
  | zero => exact ⟨Int.le_refl _, by show (-1 : Int) < 0; decide⟩
  | succ n ih =>
    show -1 ≤ wnrS f but (winW f but n) n ∧ wnrS f but (winW f but n) n < ((n + 1 : Nat) : Int)
    unfold wnrS
    split <;> omega

theorem isNaN_quiet {b : Nat} {v : Bool} (h : nan32 b = v) {w : World} (n : Nat) : Calls Try.prog 103 #[.float .f32 b] (w.drewN n) fun e w'' => e = .returned (.bool v) ∧ ∃ m, w'' = w.drewN m := by
  refine quiet_same ((isNaN_any b (w.drewN n)).mono ?_)
  rintro e w' ⟨rfl, rfl⟩
  rw [h]; exact ⟨rfl, rfl⟩

set_option maxHeartbeats 1000000 in
theorem winner_any (W : World) (b off n c : Nat) (f : Nat → Nat) (but : Int) (hn : n ≤ 4096) (hb1 : -1 ≤ but) (hb2 : but ≤ 4096) (h : Row W b off n f) :
    Calls Try.prog 66 #[.slice (some ⟨b, off, none⟩) n c, .int .i64 but] W fun e w' => e = .returned (.int .i64 (winW f but n)) ∧ ∃ m, w' = W.drewN m := by
  have HR := Lib.hid h
  have HB := Lib.hid (winW_bd f but)
  clear h
  go_enter Try.func66, Try.ntmps66
  go_wp2
  go_loopw [5, 10] (fun v5 v10 wr => ∃ d m : Nat, v10 = .int .i64 d ∧ d ≤ n ∧ v5 = .int .i64 (winW f but d) ∧ wr = W.drewN m) (fun _ v10 _ => n - (intOf v10).toNat)
  case atStart => exact ⟨0, 0, rfl, Nat.zero_le _, rfl, rfl⟩
  case round =>
    obtain ⟨d, m, rfl, hd, rfl, rfl⟩ := hrel
    by_cases hlt : d < n
    · obtain ⟨k0, kl⟩ := HR.out d hlt
      have k1 : ∀ q, (W.drewN q).cell? ⟨b, off + d, none⟩ = some (.float .f32 (f d)) := fun _ => k0
      obtain ⟨w1, w2⟩ := HB.out d
      have hst : winW f but (d + 1) = wnrS f but (winW f but d) d := rfl
      unfold wnrS at hst
      have hlt2 : (d : Int) < (n : Int) := by omega
      have HD := Lib.hid hd
      have HST := Lib.hid hst
      clear hst k0 hd
      obtain ⟨best, hbest⟩ : ∃ best, best = winW f but d := ⟨_, rfl⟩
      rw [← hbest] at w1 w2 HST ⊢
      by_cases e1 : (d : Int) = but
      · have hst2 : winW f but (d + 1) = best := by rw [HST.out, if_neg (fun h => h.1 e1)]
        have HS2 := Lib.hid hst2
        obtain rfl : but = (d : Int) := e1.symm
        clear hst2 HST kl
        generalize f d = x at *
        go_wp2
        go_roundw
        case rel => exact ⟨d + 1, _, by go_num, by omega, by rw [HS2.out, hbest], rfl⟩
        case measure => simp [intOf]; omega
      · have e1a : ((d : Int) == but) = false := by rw [beq_eq_false_iff_ne]; exact e1
        have e1b : ((d : Int) != but) = true := by rw [bne, e1a]; rfl
        cases e2 : nan32 (f d)
        · by_cases hbn : best < 0
          · obtain rfl : best = -1 := by omega
            have hst2 : winW f but (d + 1) = d := by rw [HST.out, if_pos ⟨e1, e2, .inl (by decide)⟩]
            have HS2 := Lib.hid hst2
            clear hst2 HST hbest w1 w2 hbn
            generalize f d = x at *
            go_wp2_with fail
            refine (isNaN_any _ _).mono ?_
            rw [e2]
            rintro e w' ⟨rfl, rfl⟩
            go_wp2
            go_roundw
            case rel => exact ⟨d + 1, _, by go_num, by omega, by rw [HS2.out], rfl⟩
            case measure => simp [intOf]; omega
          · obtain ⟨j, rfl⟩ := Int.eq_ofNat_of_zero_le (show 0 ≤ best by omega)
            obtain ⟨k2, -⟩ := HR.out j (by omega)
            have k3 : ∀ q, (W.drewN q).cell? ⟨b, off + j, none⟩ = some (.float .f32 (f j)) := fun _ => k2
            have hj1 : (j : Int) < n := by omega
            have HBE := Lib.hid hbest
            clear hbest k2
            cases e4 : lt32 (f d) (f j)
            all_goals
              have hst2 : winW f but (d + 1) = if lt32 (f d) (f j) = true then (d : Int) else (j : Int) := by
                rw [HST.out, e4]
                simp [e1, e2, e4, hbn]
              rw [e4] at hst2
              have HS2 := Lib.hid hst2
              clear hst2 HST hbn w1 w2
              generalize f d = x at *
              generalize f j = y at *
              go_wp2_with fail
              refine (isNaN_any _ _).mono ?_
              rw [e2]
              rintro e w' ⟨rfl, rfl⟩
              go_wp2
              go_roundw
              case rel => exact ⟨d + 1, _, by go_num, by omega, by rw [HS2.out]; rfl, rfl⟩
              case measure => simp [intOf]; omega
        · have hst2 : winW f but (d + 1) = best := by rw [HST.out, if_neg (fun h => by rw [e2] at h; cases h.2.1)]
          have HS2 := Lib.hid hst2
          clear hst2 HST
          generalize f d = x at *
          go_wp2_with fail
          refine (isNaN_any _ _).mono ?_
          rw [e2]
          rintro e w' ⟨rfl, rfl⟩
          go_wp2
          go_roundw
          case rel => exact ⟨d + 1, _, by go_num, by omega, by rw [HS2.out, hbest], rfl⟩
          case measure => simp [intOf]; omega
    · obtain rfl : n = d := by omega
      go_wp2
      go_ret
      exact ⟨rfl, _, rfl⟩

end Go.Proofs.Ytmpbnmmpniganaa
