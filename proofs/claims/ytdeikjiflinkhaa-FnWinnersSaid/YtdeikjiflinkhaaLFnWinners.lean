/- The law of winners: the walk of its code. No condition. -/
import Derived.Test.YtdeikjiflinkhaaWt
import Derived.Test.YtdeikjiflinkhaaAt
import Derived.Test.YtdeikjiflinkhaaLaw
import Derived.Deep.RegionHeld3
import Derived.StillTactics
namespace Go.Proofs.Ytdeikjiflinkhaa
open Go.RowKit
set_option maxRecDepth 100000
set_option linter.unusedVariables false
set_option linter.unusedSimpArgs false

theorem fnWinners_long (w : World) (a0 a1 : Option Addr) (l0 c0 l1 c1 : Nat) (m0 : l0 ≤ 9223372036854775807) (m1 : l1 ≤ 9223372036854775807) (h : ¬ (l0 ≤ 1048576 ∧ l1 ≤ 1048576)) :
    Calls Try.prog 4 #[.slice a0 l0 c0, .slice a1 l1 c1] w fun e w' => e = .returned (.bool true) ∧ Below w.heap.size w w' := by
  go_enter Try.func4, Try.ntmps4
  go_wp2_with fail
  refine (b10Long_yes _ _ _ _ _ _ _ m0 m1 h).mono ?_
  rintro e w' ⟨rfl, rfl⟩
  go_wp2
  go_ret
  exact ⟨rfl, Below.refl _ _⟩

@[go_sem] theorem conv32_i64w (b : Nat) (n : Int) (w : World) (h : floatToIntVal .f32 b .i64 = some n) : (convert 28 2 (.float .f32 b)).run Try.prog w = .ok (.int .i64 n) w := run_convert_float_int w _ _ _ _ _ _ (by rfl) (by rfl) h
theorem toInt_four {D : Nat} (h : D ≤ 100) : floatToIntVal .f32 (fq 2 (4 * (D : Int))) .i64 = some (D : Int) := by
  rw [← whole_q]; exact fq_int (by omega)
theorem half_small {z : Nat} (hf : fin32 z = true) (hl : z < 4294967296) (h1 : vv (fq 2 (-2)) ≤ vv z) (h2 : vv z ≤ vv (fq 2 2)) : lt32 1056964608 z = false ∧ (lt32 z 0 = true → lt32 1056964608 (Op.negFloat .f32 z) = false) := by
  constructor
  · rw [half_q, lt32_vv (fq_fin (by decide)) hf]
    exact decide_eq_false (by omega)
  · intro hneg
    have hz : ∀ z : Nat, z < 4294967296 → fin32 z = true → fin32 (Op.negFloat .f32 z) = true ∧ vv (Op.negFloat .f32 z) = -vv z := by
      intro z hz hf
      have e : Op.negFloat .f32 z = neg_ Ieee.single z := by
        rw [neg32_eq z hz]
        unfold neg_ Ieee.Format.word sgn rg
        rw [sg_sw]
        by_cases h : z < 2147483648
        · have e1 : (z / 2147483648 % 2 == 1) = false := by rw [Nat.div_eq_of_lt h]; rfl
          rw [if_pos h, e1]
          show z + 2147483648 = 2147483648 + z % 2147483648
          rw [Nat.mod_eq_of_lt h]; omega
        · have e1 : (z / 2147483648 % 2 == 1) = true := by
            have : z / 2147483648 = 1 := by omega
            rw [this]; rfl
          rw [if_neg h, e1]
          show z - 2147483648 = z % 2147483648
          omega
      rw [e]
      exact ⟨(fin32_iff _).1 ((isFin_neg _).2 ((fin32_iff _).2 hf)), sv_neg _ _⟩
    obtain ⟨g1, g2⟩ := hz z hl hf
    obtain ⟨P, hP0, hP, -⟩ := unitP
    rw [half_q, lt32_vv (fq_fin (by decide)) g1]
    have q1 := hP 2 (by decide)
    have q2 := hP (-2) (by decide)
    exact decide_eq_false (by omega)

theorem lSize_near {z : Nat} (hf : fin32 z = true) (hl : z < 4294967296) (h1 : vv (fq 2 (-2)) ≤ vv z) (h2 : vv z ≤ vv (fq 2 2)) : ∃ y, lt32 1056964608 y = false ∧ ∀ W : World, Calls Try.prog 23 #[.float .f32 z] W fun e w' => e = .returned (.float .f32 y) ∧ W = w' := by
  obtain ⟨g1, g2⟩ := half_small hf hl h1 h2
  cases l : lt32 z 0
  · refine ⟨z, g1, fun W => ?_⟩
    clear g1 g2 h1 h2 hf
    go_enter Try.func23, Try.ntmps23
    go_wp2
    go_ret
    exact ⟨rfl, rfl⟩
  · refine ⟨Op.negFloat .f32 z, g2 l, fun W => ?_⟩
    clear g1 g2 h1 h2 hf
    go_enter Try.func23, Try.ntmps23
    go_wp2
    go_ret
    exact ⟨rfl, rfl⟩

set_option maxHeartbeats 40000000 in
theorem fnWinners_short (w : World) (a0 a1 : Option Addr) (l0 c0 l1 c1 : Nat) (h0 : l0 ≤ 1048576) (h1 : l1 ≤ 1048576) (hb0 : BytesIn w a0 l0) (hb1 : BytesIn w a1 l1) :
    Calls Try.prog 4 #[.slice a0 l0 c0, .slice a1 l1 c1] w fun e w' => e = .returned (.bool true) ∧ Below w.heap.size w w' := by
  go_enter Try.func4, Try.ntmps4
  go_wp2_with fail
  refine (b10Long_no _ _ _ _ _ _ _ h0 h1).mono ?_
  rintro e w' ⟨rfl, rfl⟩
  go_wp2_with fail
  refine (b10Costs_any _ _ _ _ hb0).mono ?_
  rintro e wV ⟨wd, hi, dp, qV, cV, ks, rfl, v1, v2, v3, v4, v5, v6, hkl, hown, hkb, bw⟩
  obtain ⟨M, hM⟩ : ∃ M, M = wd * hi * dp := ⟨_, rfl⟩
  rw [hkl, ← hM] at hown ⊢
  obtain ⟨N, hN⟩ : ∃ N, N = wd * hi := ⟨_, rfl⟩
  have hN15 : N ≤ 15 := by rw [hN]; exact Nat.mul_le_mul v2 v4
  have hM60 : M ≤ 60 := by rw [hM]; have := Nat.mul_le_mul (Nat.mul_le_mul v2 v4) v6; omega
  have hN0 : 0 < N := by rw [hN]; exact Nat.mul_pos (by omega) v3
  have hv : vVol wd hi dp M = true := by rw [hM]; exact vVol_of (by omega) (by omega) v3 (by omega) (by have := Nat.mul_le_mul v2 v4; omega) v5 (by omega)
  have hvp : vPic wd hi N = true := by rw [hN]; exact vPic_of (by omega) (by omega) v3 (by omega) (by have := Nat.mul_le_mul v2 v4; omega)
  have hk30 : ∀ k ∈ ks, 0 ≤ k ∧ k ≤ 30 := fun k h => by obtain ⟨j, e, j0, j1⟩ := hkb k h; omega
  have C : Costs ks wd hi dp M N := ⟨hN, hM, by rw [hkl, hM], by omega, v5, by omega, fun i => by
    rw [List.getD_eq_getElem?_getD]
    cases e : ks[i]? with
    | none => simp
    | some z => exact hk30 z (List.mem_of_getElem? e)⟩
  have mV : MQ wV qV cV M ks := ⟨hown.sl, (hown.lt (k := qV) rfl).2, fun k h => by have := hk30 k h; omega⟩
  have HV := Lib.hid hv
  have HP := Lib.hid hvp
  have HC := Lib.hid C
  have HN := Lib.hid hN
  have HM := Lib.hid hM
  have HK := Lib.hid hk30
  have hbel := bw
  clear hv hvp C hN hM hk30 hkb hkl hown hb0 hb1
  have ha : Below wV.heap.size wV (wV.alloc (.cells #[.int .i64 wd, .int .i64 hi, .int .i64 dp, .slice (some ⟨qV, 0, none⟩) M cV] 26)) := (Below.refl _ _).alloc (Nat.le_refl _) _
  have bV := BoxN.last wV #[.int .i64 wd, .int .i64 hi, .int .i64 dp, .slice (some ⟨qV, 0, none⟩) M cV] 26
  replace mV := mV.below ha
  replace hbel := hbel.trans (ha.mono hbel.size)
  clear bw ha
  obtain ⟨zV0, zV1, zV2, zV3, -, -, -, -⟩ := bV.four
  go_wp2_with fail
  generalize hoV : wV.heap.size = oV at *
  generalize hwV : wV.alloc (.cells #[.int .i64 wd, .int .i64 hi, .int .i64 dp, .slice (some ⟨qV, 0, none⟩) M cV] 26) = WV at *
  clear hoV hwV
  clear zV0 zV1 zV2 zV3
  refine (winners_w _ wd hi dp M qV cV _ HV.out mV.mw).mono ?_
  rintro e wA ⟨qA, cA, bsA, rfl, mA, hcA, -, bw⟩
  rw [← HN.out] at mA ⊢
  have hwA := won_word HC.out hcA mA.len
  replace mA : MQ wA qA cA N (tabI N fun i => 4 * (wonD ks dp i : Int)) := ⟨by rw [← hwA]; exact mA.sl, mA.lt, fun k h => by
    obtain ⟨i, hi_, rfl⟩ := mem_tabI h
    have := (HC.out.won i).lt
    omega⟩
  clear hwA
  clear hcA
  have ha : Below wA.heap.size wA (wA.alloc (.cells #[.int .i64 wd, .int .i64 hi, .slice (some ⟨qA, 0, none⟩) N cA] 40)) := (Below.refl _ _).alloc (Nat.le_refl _) _
  have bA := BoxN.last wA #[.int .i64 wd, .int .i64 hi, .slice (some ⟨qA, 0, none⟩) N cA] 40
  replace mA := mA.below ha
  replace bV := (bV.below bw).below ha
  replace mV := (mV.below bw).below ha
  replace hbel := (hbel.trans (bw.mono hbel.size)).trans (ha.mono (Nat.le_trans hbel.size bw.size))
  clear bw ha
  obtain ⟨zV0, zV1, zV2, zV3, -, -, -, -⟩ := bV.four
  go_wp2_with fail
  generalize hoA : wA.heap.size = oA at *
  generalize hwA : wA.alloc (.cells #[.int .i64 wd, .int .i64 hi, .slice (some ⟨qA, 0, none⟩) N cA] 40) = WA at *
  clear hoA hwA
  clear zV0 zV1 zV2 zV3
  refine (leastCosts_w _ wd hi dp M qV cV _ HV.out mV.mw).mono ?_
  rintro e wL ⟨qL, cL, bsL, rfl, mL, hcL, -, bw⟩
  rw [← HN.out] at mL ⊢
  have hwL := least_word HC.out hcL mL.len
  replace mL : MQ wL qL cL N (tabI N fun i => ks.getD (i * dp + wonD ks dp i) 0) := ⟨by rw [← hwL]; exact mL.sl, mL.lt, fun k h => by
    obtain ⟨i, hi_, rfl⟩ := mem_tabI h
    exact HC.out.nb _⟩
  clear hwL
  clear hcL
  have ha : Below wL.heap.size wL (wL.alloc (.cells #[.int .i64 wd, .int .i64 hi, .slice (some ⟨qL, 0, none⟩) N cL] 40)) := (Below.refl _ _).alloc (Nat.le_refl _) _
  have bL := BoxN.last wL #[.int .i64 wd, .int .i64 hi, .slice (some ⟨qL, 0, none⟩) N cL] 40
  replace mL := mL.below ha
  replace bV := (bV.below bw).below ha
  replace mV := (mV.below bw).below ha
  replace bA := (bA.below bw).below ha
  replace mA := (mA.below bw).below ha
  replace hbel := (hbel.trans (bw.mono hbel.size)).trans (ha.mono (Nat.le_trans hbel.size bw.size))
  clear bw ha
  obtain ⟨zV0, zV1, zV2, zV3, -, -, -, -⟩ := bV.four
  go_wp2_with fail
  generalize hoL : wL.heap.size = oL at *
  generalize hwL : wL.alloc (.cells #[.int .i64 wd, .int .i64 hi, .slice (some ⟨qL, 0, none⟩) N cL] 40) = WL at *
  clear hoL hwL
  clear zV0 zV1 zV2 zV3
  refine (margins_w _ wd hi dp M qV cV _ HV.out mV.mw).mono ?_
  rintro e wG ⟨qG, cG, bsG, rfl, mG, hcG, -, bw⟩
  rw [← HN.out] at mG ⊢
  have HMG := Lib.hid (fun i (hi_ : i < N) => marg_word HC.out hcG mG.len hi_)
  clear hcG
  have ha : Below wG.heap.size wG (wG.alloc (.cells #[.int .i64 wd, .int .i64 hi, .slice (some ⟨qG, 0, none⟩) N cG] 40)) := (Below.refl _ _).alloc (Nat.le_refl _) _
  have bG := BoxN.last wG #[.int .i64 wd, .int .i64 hi, .slice (some ⟨qG, 0, none⟩) N cG] 40
  replace mG := mG.below ha
  replace bV := (bV.below bw).below ha
  replace mV := (mV.below bw).below ha
  replace bA := (bA.below bw).below ha
  replace mA := (mA.below bw).below ha
  replace bL := (bL.below bw).below ha
  replace mL := (mL.below bw).below ha
  replace hbel := (hbel.trans (bw.mono hbel.size)).trans (ha.mono (Nat.le_trans hbel.size bw.size))
  clear bw ha
  obtain ⟨zV0, zV1, zV2, zV3, -, -, -, -⟩ := bV.four
  obtain ⟨zA0, zA1, zA2, -, -, -⟩ := bA.three.cells
  go_wp2_with fail
  generalize hoG : wG.heap.size = oG at *
  generalize hwG : wG.alloc (.cells #[.int .i64 wd, .int .i64 hi, .slice (some ⟨qG, 0, none⟩) N cG] 40) = WG at *
  clear hoG hwG
  clear zV0 zV1 zV2 zV3 zA0 zA1 zA2
  refine (costOfMap_q _ wd hi dp M N qV cV qA cA ks _ (wonD ks dp) HV.out HN.out mV mA (fun k h => by have := HK.out k h; omega) (fun i hi_ => ⟨(HC.out.won i).lt, tabI_get hi_⟩)).mono ?_
  rintro e wX ⟨rfl, bw⟩
  replace bV := bV.below bw
  replace mV := mV.below bw
  replace bA := bA.below bw
  replace mA := mA.below bw
  replace bL := bL.below bw
  replace mL := mL.below bw
  replace bG := bG.below bw
  replace mG := mG.below bw
  replace hbel := hbel.trans (bw.mono hbel.size)
  clear bw
  obtain ⟨zV0, zV1, zV2, zV3, -, -, -, -⟩ := bV.four
  go_wp2_with fail
  clear zV0 zV1 zV2 zV3
  refine (trust_w _ wd hi dp M qV cV _ HV.out mV.mw).mono ?_
  rintro e wR ⟨qR, cR, bsR, rfl, mR, hcR, -, bw⟩
  rw [← HN.out] at mR ⊢
  have HTR := Lib.hid (fun i (hi_ : i < N) => trust_word HC.out hcR mR.len hi_)
  clear hcR
  have ha : Below wR.heap.size wR (wR.alloc (.cells #[.int .i64 wd, .int .i64 hi, .slice (some ⟨qR, 0, none⟩) N cR] 40)) := (Below.refl _ _).alloc (Nat.le_refl _) _
  have bR := BoxN.last wR #[.int .i64 wd, .int .i64 hi, .slice (some ⟨qR, 0, none⟩) N cR] 40
  replace mR := mR.below ha
  replace bV := (bV.below bw).below ha
  replace mV := (mV.below bw).below ha
  replace bA := (bA.below bw).below ha
  replace mA := (mA.below bw).below ha
  replace bL := (bL.below bw).below ha
  replace mL := (mL.below bw).below ha
  replace bG := (bG.below bw).below ha
  replace mG := (mG.below bw).below ha
  replace hbel := (hbel.trans (bw.mono hbel.size)).trans (ha.mono (Nat.le_trans hbel.size bw.size))
  clear bw ha
  obtain ⟨zV0, zV1, zV2, zV3, -, -, -, -⟩ := bV.four
  go_wp2_with fail
  generalize hoR : wR.heap.size = oR at *
  generalize hwR : wR.alloc (.cells #[.int .i64 wd, .int .i64 hi, .slice (some ⟨qR, 0, none⟩) N cR] 40) = WR at *
  clear hoR hwR
  clear zV0 zV1 zV2 zV3
  refine (sharp_w _ wd hi dp M qV cV _ HV.out mV.mw).mono ?_
  rintro e wS ⟨qS, cS, bsS, rfl, mS, hcS, -, bw⟩
  rw [← HN.out] at mS ⊢
  have HSH := Lib.hid (fun i (hi_ : i < N) => sharp_word HC.out hcS mS.len hi_ wS)
  clear hcS
  have ha : Below wS.heap.size wS (wS.alloc (.cells #[.int .i64 wd, .int .i64 hi, .slice (some ⟨qS, 0, none⟩) N cS] 40)) := (Below.refl _ _).alloc (Nat.le_refl _) _
  have bS := BoxN.last wS #[.int .i64 wd, .int .i64 hi, .slice (some ⟨qS, 0, none⟩) N cS] 40
  replace mS := mS.below ha
  replace bV := (bV.below bw).below ha
  replace mV := (mV.below bw).below ha
  replace bA := (bA.below bw).below ha
  replace mA := (mA.below bw).below ha
  replace bL := (bL.below bw).below ha
  replace mL := (mL.below bw).below ha
  replace bG := (bG.below bw).below ha
  replace mG := (mG.below bw).below ha
  replace bR := (bR.below bw).below ha
  replace mR := (mR.below bw).below ha
  replace hbel := (hbel.trans (bw.mono hbel.size)).trans (ha.mono (Nat.le_trans hbel.size bw.size))
  clear bw ha
  obtain ⟨zA0, zA1, zA2, -, -, -⟩ := bA.three.cells
  go_wp2_with fail
  generalize hoS : wS.heap.size = oS at *
  generalize hwS : wS.alloc (.cells #[.int .i64 wd, .int .i64 hi, .slice (some ⟨qS, 0, none⟩) N cS] 40) = WS at *
  clear hoS hwS
  clear zA0 zA1 zA2
  refine (validMap_any _ _ _ _ _ (by omega) _).mono ?_
  rw [HP.out]
  rintro e wA1 ⟨rfl, bw⟩
  replace bV := bV.below bw
  replace mV := mV.below bw
  replace bA := bA.below bw
  replace mA := mA.below bw
  replace bL := bL.below bw
  replace mL := mL.below bw
  replace bG := bG.below bw
  replace mG := mG.below bw
  replace bR := bR.below bw
  replace mR := mR.below bw
  replace bS := bS.below bw
  replace mS := mS.below bw
  replace hbel := hbel.trans (bw.mono hbel.size)
  clear bw
  obtain ⟨zL0, zL1, zL2, -, -, -⟩ := bL.three.cells
  go_wp2_with fail
  clear zL0 zL1 zL2
  refine (validMap_any _ _ _ _ _ (by omega) _).mono ?_
  rw [HP.out]
  rintro e wL1 ⟨rfl, bw⟩
  replace bV := bV.below bw
  replace mV := mV.below bw
  replace bA := bA.below bw
  replace mA := mA.below bw
  replace bL := bL.below bw
  replace mL := mL.below bw
  replace bG := bG.below bw
  replace mG := mG.below bw
  replace bR := bR.below bw
  replace mR := mR.below bw
  replace bS := bS.below bw
  replace mS := mS.below bw
  replace hbel := hbel.trans (bw.mono hbel.size)
  clear bw
  obtain ⟨zG0, zG1, zG2, -, -, -⟩ := bG.three.cells
  go_wp2_with fail
  clear zG0 zG1 zG2
  refine (validMap_any _ _ _ _ _ (by omega) _).mono ?_
  rw [HP.out]
  rintro e wG1 ⟨rfl, bw⟩
  replace bV := bV.below bw
  replace mV := mV.below bw
  replace bA := bA.below bw
  replace mA := mA.below bw
  replace bL := bL.below bw
  replace mL := mL.below bw
  replace bG := bG.below bw
  replace mG := mG.below bw
  replace bR := bR.below bw
  replace mR := mR.below bw
  replace bS := bS.below bw
  replace mS := mS.below bw
  replace hbel := hbel.trans (bw.mono hbel.size)
  clear bw
  obtain ⟨zR0, zR1, zR2, -, -, -⟩ := bR.three.cells
  go_wp2_with fail
  clear zR0 zR1 zR2
  refine (validMap_any _ _ _ _ _ (by omega) _).mono ?_
  rw [HP.out]
  rintro e wR1 ⟨rfl, bw⟩
  replace bV := bV.below bw
  replace mV := mV.below bw
  replace bA := bA.below bw
  replace mA := mA.below bw
  replace bL := bL.below bw
  replace mL := mL.below bw
  replace bG := bG.below bw
  replace mG := mG.below bw
  replace bR := bR.below bw
  replace mR := mR.below bw
  replace bS := bS.below bw
  replace mS := mS.below bw
  replace hbel := hbel.trans (bw.mono hbel.size)
  clear bw
  obtain ⟨zS0, zS1, zS2, -, -, -⟩ := bS.three.cells
  go_wp2_with fail
  clear zS0 zS1 zS2
  refine (validMap_any _ _ _ _ _ (by omega) _).mono ?_
  rw [HP.out]
  rintro e wS1 ⟨rfl, bw⟩
  replace bV := bV.below bw
  replace mV := mV.below bw
  replace bA := bA.below bw
  replace mA := mA.below bw
  replace bL := bL.below bw
  replace mL := mL.below bw
  replace bG := bG.below bw
  replace mG := mG.below bw
  replace bR := bR.below bw
  replace mR := mR.below bw
  replace bS := bS.below bw
  replace mS := mS.below bw
  replace hbel := hbel.trans (bw.mono hbel.size)
  clear bw
  have SV := Lib.hid mV
  have BV := Lib.hid bV
  have hcapV := mV.cap
  have SA := Lib.hid mA
  have BA := Lib.hid bA
  have hcapA := mA.cap
  have SL := Lib.hid mL
  have BL := Lib.hid bL
  have hcapL := mL.cap
  have SG := Lib.hid mG
  have BG := Lib.hid bG
  have hcapG := mG.cap
  have SR := Lib.hid mR
  have BR := Lib.hid bR
  have hcapR := mR.cap
  have SS := Lib.hid mS
  have BS := Lib.hid bS
  have hcapS := mS.cap
  have HBEL := Lib.hid hbel
  obtain ⟨zA0, zA1, zA2, -, -, -⟩ := bA.three.cells
  clear mV bV mA bA mL bL mG bG mR bR mS bS hbel
  go_wp2_with fail
  clear zA0 zA1 zA2
  go_loopw [122] (fun v122 wr => ∃ i : Nat, v122 = .int .i64 i ∧ i ≤ N ∧ Below wS1.heap.size wS1 wr) (fun v122 _ => N - (intOf v122).toNat)
  case atStart => exact ⟨0, rfl, Nat.zero_le _, Below.refl _ _⟩
  case round =>
    obtain ⟨i, rfl, hi_, hbw⟩ := hrel
    by_cases hlt : i < N
    · have kA := (SA.out.below hbw).get i hlt
      rw [tabI_get hlt] at kA
      have W := HC.out.won i
      have HW := Lib.hid W
      have hDlt := W.lt
      have hx : i % wd < wd := Nat.mod_lt _ (by omega)
      have hy : i / wd < hi := (Nat.div_lt_iff_lt_mul (by omega)).2 (by have := HN.out; rw [this, Nat.mul_comm] at hlt; exact hlt)
      have hxy : i % wd + wd * (i / wd) = i := Nat.mod_add_div i wd
      have KC := costAt_q wr wd hi dp M qV cV (i % wd) (i / wd) (wonD ks dp i) ks hx hy hDlt HV.out (SV.out.below hbw)
      rw [hxy] at KC
      obtain ⟨x, hxx⟩ : ∃ x, x = i % wd := ⟨_, rfl⟩
      obtain ⟨y, hyy⟩ : ∃ y, y = i / wd := ⟨_, rfl⟩
      have tx : (i : Int) % (wd : Int) = (x : Int) := by rw [hxx]; exact (Int.natCast_emod i wd).symm
      have ty : (i : Int) / (wd : Int) = (y : Int) := by rw [hyy]; exact (Int.natCast_ediv i wd).symm
      rw [← hxx, ← hyy] at KC
      rw [← hxx] at hx
      rw [← hyy] at hy
      have HXY := Lib.hid (show x + wd * y = i from by rw [hxx, hyy]; exact hxy)
      have tD := toInt_four (D := wonD ks dp i) (by omega)
      obtain ⟨D, hD⟩ : ∃ D, D = wonD ks dp i := ⟨_, rfl⟩
      rw [← hD] at kA KC tD hDlt
      have HD := Lib.hid hD
      have fof : floatOfInt .f32 (D : Int) = fq 2 (4 * (D : Int)) := by rw [← whole_q]; exact fq_ofInt (by have := HC.out.d8; omega)
      have eA := eq32_fq (g := 2) (a := 4 * (D : Int)) (b := 4 * (D : Int)) (by have := HC.out.d8; omega) (by have := HC.out.d8; omega)
      have eC := eq32_fq (g := 2) (a := ks.getD (i * dp + D) 0) (b := ks.getD (i * dp + D) 0) (by have := HC.out.nb (i * dp + D); omega) (by have := HC.out.nb (i * dp + D); omega)
      simp only [decide_true] at eA eC
      obtain ⟨hs1, zs, hs2, hs3, hs4, hs5, hs6⟩ := HSH.out i hlt
      rw [← HD.out] at hs2
      obtain ⟨ys, hy1, hy2⟩ := lSize_near hs3 hs4 hs5 hs6
      obtain ⟨lg0, HMGD⟩ := HMG.out i hlt
      obtain ⟨lt0, lt1⟩ := HTR.out i hlt
      have HMGD := Lib.hid HMGD
      have HYS := Lib.hid hy2
      have ar := fres_some hs2
      have af := fdr_some hs2
      clear hs1 hs2 hs3 hs4 hs5 hs6 hy2
      generalize hwA : fq 2 (4 * (D : Int)) = wA at *
      have HWA := Lib.hid hwA
      generalize hcw : fq 2 (ks.getD (i * dp + D) 0) = cw at *
      have HCW := Lib.hid hcw
      generalize hgw : bsG.getD i 0 = gw at *
      have HGW := Lib.hid hgw
      generalize htw : bsR.getD i 0 = tw at *
      have HTW := Lib.hid htw
      generalize hsw : bsS.getD i 0 = sw at *
      have HSW := Lib.hid hsw
      clear hwA hcw hgw htw hsw
      have HKC := Lib.hid KC
      have HBW := Lib.hid hbw
      obtain ⟨zV0, zV1, zV2, zV3, -, -, -, -⟩ := (BV.out.below hbw).four
      obtain ⟨zA0, zA1, zA2, -, -, -⟩ := (BA.out.below hbw).three.cells
      have hlt2 : (i : Int) < (N : Int) := by omega
      have hwd0 : ¬ wd = 0 := by omega
      have hwd1 : (1 : Int) ≤ (wd : Int) := by omega
      have hD2 : (D : Int) < (dp : Int) := by omega
      have HFA := Lib.hid (And.intro fof (And.intro eA (And.intro eC (And.intro ar af))))
      have HLT := Lib.hid (And.intro lg0 (And.intro lt0 (And.intro lt1 hy1)))
      clear W KC hxx hyy hxy hbw hD fof eA eC ar af lg0 lt0 lt1 hy1
      go_wp2_with fail
      refine HKC.out.mono ?_
      rintro e wc ⟨rfl, hbc⟩
      have hbc2 := HBW.out.trans (hbc.mono HBW.out.size)
      simp only [tx, ty]
      clear zV0 zV1 zV2 zV3 zA0 zA1 zA2 kA tx ty tD
      have kA := (SA.out.below hbc2).get i hlt
      rw [tabI_get hlt, ← HD.out, HWA.out] at kA
      have kL := (SL.out.below hbc2).get i hlt
      rw [tabI_get hlt, ← HD.out, HCW.out] at kL
      have kG := ((SG.out.below hbc2).get i hlt).1
      rw [HGW.out] at kG
      have kR := ((SR.out.below hbc2).get i hlt).1
      rw [HTW.out] at kR
      have kS := ((SS.out.below hbc2).get i hlt).1
      rw [HSW.out] at kS
      obtain ⟨zV0, zV1, zV2, zV3, -, -, -, -⟩ := (BV.out.below hbc2).four
      obtain ⟨zA0, zA1, zA2, -, -, -⟩ := (BA.out.below hbc2).three.cells
      obtain ⟨zL0, zL1, zL2, -, -, -⟩ := (BL.out.below hbc2).three.cells
      obtain ⟨zG0, zG1, zG2, -, -, -⟩ := (BG.out.below hbc2).three.cells
      obtain ⟨zR0, zR1, zR2, -, -, -⟩ := (BR.out.below hbc2).three.cells
      obtain ⟨zS0, zS1, zS2, -, -, -⟩ := (BS.out.below hbc2).three.cells
      obtain ⟨fof, eA, eC, ar, af⟩ := HFA.out
      obtain ⟨lg0, lt0, lt1, hy1⟩ := HLT.out
      have hd0 : ∀ W : World, W.drewN 0 = W := fun _ => rfl
      have HBC := Lib.hid hbc2
      clear hbc hbc2
      go_wp2_with fail
      go_quiet (with_reducible exact quiet_same (HYS.out _))
      clear zV0 zV1 zV2 zV3 zA0 zA1 zA2 zL0 zL1 zL2 zG0 zG1 zG2 zR0 zR1 zR2 zS0 zS1 zS2 kA kL kG kR kS fof eA eC ar af lg0 lt0 lt1 hy1
      have hq := below_drewN HBC.out nq
      clear hd0
      generalize wc.drewN nq = wq at *
      have HQ := Lib.hid hq
      clear hq HBC
      go_wp2_with fail
      go_loopw [24] (fun v24 wi => ∃ k : Nat, v24 = .int .i64 k ∧ k ≤ dp ∧ Below wq.heap.size wq wi) (fun v24 _ => dp - (intOf v24).toNat)
      case atStart => exact ⟨0, rfl, Nat.zero_le _, Below.refl _ _⟩
      case round =>
        obtain ⟨k, rfl, hk_, hbi⟩ := hrel
        have hbi2 := HQ.out.trans (hbi.mono HQ.out.size)
        obtain ⟨zV0, zV1, zV2, zV3, -, -, -, -⟩ := (BV.out.below hbi2).four
        by_cases hkl : k < dp
        · have KK := costAt_q _ wd hi dp M qV cV x y k ks hx hy hkl HV.out (SV.out.below hbi2)
          rw [HXY.out] at KK
          have hle := HW.out.le k hkl
          rw [← HD.out] at hle
          have b1 := HC.out.nb (i * dp + k)
          have b2 := HC.out.nb (i * dp + D)
          have l1 := lt32_fq (g := 2) (a := ks.getD (i * dp + k) 0) (b := ks.getD (i * dp + D) 0) (by omega) (by omega)
          rw [decide_eq_false (by omega)] at l1
          have l2 := eq32_fq (g := 2) (a := ks.getD (i * dp + k) 0) (b := ks.getD (i * dp + D) 0) (by omega) (by omega)
          have su := fq_sub (g := 2) (a := ks.getD (i * dp + k) 0) (b := ks.getD (i * dp + D) 0) (by omega) (by omega) (by omega)
          have l3 : k ≠ D → lt32 (fq 2 (ks.getD (i * dp + k) 0 - ks.getD (i * dp + D) 0)) gw = false := fun h => by
            have := HMGD.out k hkl (by rw [← HD.out]; exact h)
            rw [← HD.out] at this
            exact this
          have l4 : ks.getD (i * dp + k) 0 = ks.getD (i * dp + D) 0 → ¬ (k : Int) < (D : Int) := fun h h2 => by have := hle.2 (by omega); omega
          rw [HCW.out] at l1 l2 su
          have ar := fres_some su
          have af := fdr_some su
          generalize hok : fq 2 (ks.getD (i * dp + k) 0) = ok at *
          generalize fq 2 (ks.getD (i * dp + k) 0 - ks.getD (i * dp + D) 0) = df at *
          have HKK := Lib.hid KK
          have HBI := Lib.hid hbi
          have HBI2 := Lib.hid hbi2
          have hkd : (k : Int) < (dp : Int) := by omega
          have HAR := Lib.hid (And.intro ar af)
          have HL3 := Lib.hid l3
          have HL4 := Lib.hid l4
          clear KK hle b1 b2 su hok hbi hbi2 ar af l3 l4
          have HL1 := Lib.hid l1
          have HL2 := Lib.hid l2
          clear l1 l2
          go_wp2_with fail
          (with_reducible refine HKK.out.mono ?_)
          rintro e wk ⟨rfl, hbk⟩
          have hbk2 := HBI2.out.trans (hbk.mono HBI2.out.size)
          have kG := ((SG.out.below hbk2).get i hlt).1
          rw [HGW.out] at kG
          obtain ⟨zG0, zG1, zG2, -, -, -⟩ := (BG.out.below hbk2).three.cells
          have HBK := Lib.hid (HBI.out.trans (hbk.mono HBI.out.size))
          clear zV0 zV1 zV2 zV3 hbk hbk2
          have l1 := HL1.out
          by_cases hkD : k = D
          · have l2 := HL2.out
            rw [decide_eq_true (by rw [hkD])] at l2
            have hne : ((k : Int) != (D : Int)) = false := by rw [bne_eq_false_iff_eq]; omega
            have l5 : ¬ (k : Int) < (D : Int) := by omega
            clear hkD
            go_wp2_with fail
            go_roundw
            case rel => exact ⟨k + 1, by go_num, by omega, HBK.out⟩
            case measure => simp [intOf]; omega
          · have hne : ((k : Int) != (D : Int)) = true := by rw [bne_iff_ne]; omega
            have l3 := HL3.out hkD
            obtain ⟨ar, af⟩ := HAR.out
            have hd0 : ∀ W : World, W.drewN 0 = W := fun _ => rfl
            have l2 := HL2.out
            by_cases heq : ks.getD (i * dp + k) 0 = ks.getD (i * dp + D) 0
            · have l4 := HL4.out heq
              rw [decide_eq_true heq] at l2
              clear heq hkD
              go_wp2_with fail
              all_goals
                go_roundw
                case rel => exact ⟨k + 1, by go_num, by omega, HBK.out⟩
                case measure => simp [intOf]; omega
            · rw [decide_eq_false heq] at l2
              clear heq hkD
              go_wp2_with fail
              all_goals
                go_roundw
                case rel => exact ⟨k + 1, by go_num, by omega, HBK.out⟩
                case measure => simp [intOf]; omega
        · obtain rfl : k = dp := by omega
          have HBJ := Lib.hid hbi2
          clear hbi hbi2
          go_wp2
          go_roundw
          case rel => exact ⟨i + 1, by go_num, by omega, HBJ.out⟩
          case measure => simp [intOf]; omega
    · obtain rfl : N = i := by omega
      have hbel := HBEL.out.trans (hbw.mono HBEL.out.size)
      have HBE2 := Lib.hid hbel
      have mV := SV.out.below hbw
      have bV := BV.out.below hbw
      have mA := SA.out.below hbw
      have bA := BA.out.below hbw
      have HDD := Lib.hid (fun i (hi_ : i < N) => (⟨(HC.out.won i).lt, tabI_get hi_⟩ : wonD ks dp i < dp ∧ (tabI N fun i => 4 * (wonD ks dp i : Int)).getD i 0 = 4 * (wonD ks dp i : Int)))
      have HNE := fun (RR : Nat) => Lib.hid (fun x y (hx : x < wd) (hy : y < hi) => (⟨fun _ => near_zero HC.out.nb _ (fun d hd => gc_q HC.out.hM HC.out.hk hx hy hd) (HC.out.won (x + wd * y)), fun _ => near_all _ (fun d hd => gc_q HC.out.hM HC.out.hk hx hy hd) (HC.out.won (x + wd * y))⟩ : (RR = 0 → NearTold (gc (ks.map (fq 2)) wd dp x y) (wonD ks dp (x + wd * y)) 1 (wonD ks dp (x + wd * y))) ∧ (RR = 8 → NearTold (gc (ks.map (fq 2)) wd dp x y) 0 dp (wonD ks dp (x + wd * y)))))
      have HMV := Lib.hid mV
      have HBV := Lib.hid bV
      have HMA := Lib.hid mA
      have HBA := Lib.hid bA
      clear SV BV SA BA SL BL SG BG SR BR SS BS HBEL hbel hbw hlt hi_ mV bV mA bA
      go_wp2_with fail
      obtain ⟨tot, htot⟩ : ∃ t, t = fq 2 (costS ks dp (wonD ks dp) N) := ⟨_, rfl⟩
      rw [← htot]
      have HTOT := Lib.hid htot
      clear htot
      go_loopw [27] (fun v27 wi => ∃ k : Nat, v27 = .int .i64 k ∧ k ≤ dp ∧ Below wr.heap.size wr wi) (fun v27 _ => dp - (intOf v27).toNat)
      case atStart => exact ⟨0, rfl, Nat.zero_le _, Below.refl _ _⟩
      case round =>
        obtain ⟨k, rfl, hk_, hbi⟩ := hrel
        have bV := HBV.out.below hbi
        have mV := HMV.out.below hbi
        have HBI := Lib.hid hbi
        obtain ⟨zV0, zV1, zV2, zV3, -, -, -, -⟩ := bV.four
        by_cases hkl : k < dp
        · have fof : floatOfInt .f32 (k : Int) = fq 2 (4 * (k : Int)) := by rw [← whole_q]; exact fq_ofInt (by have := HC.out.d8; omega)
          have KF := Lib.hid (fun W => flatMap_q W wd hi N (4 * (k : Int)) (by have := HC.out.d8; omega) HP.out)
          have hle := costS_le (ks := ks) (dp := dp) (D := wonD ks dp) (E := fun _ => k) (N := N) (fun i _ => ((HC.out.won i).le k hkl).1) N (Nat.le_refl _)
          have b1 := costS_bd (ks := ks) (dp := dp) (D := wonD ks dp) (fun i => by have := HC.out.bd i; omega) N
          have b2 := costS_bd (ks := ks) (dp := dp) (D := fun _ => k) (fun i => by have := HC.out.bd i; omega) N
          have lt := lt32_fq (g := 2) (a := costS ks dp (fun _ => k) N) (b := costS ks dp (wonD ks dp) N) (by omega) (by omega)
          rw [decide_eq_false (by omega), ← HTOT.out] at lt
          have HLT := Lib.hid lt
          have hkd : (k : Int) < (dp : Int) := by omega
          have HMVI := Lib.hid mV
          have HBVI := Lib.hid bV
          clear hle b1 b2 lt hbi mV bV
          go_wp2_with fail
          (with_reducible refine (KF.out _).mono ?_)
          rintro e wF ⟨qF, cF, rfl, mF, -, bF⟩
          have ha := alb1 wF (.cells #[.int .i64 wd, .int .i64 hi, .slice (some ⟨qF, 0, none⟩) N cF] 40)
          have KC := Lib.hid (costOfMap_q (wF.alloc (.cells #[.int .i64 wd, .int .i64 hi, .slice (some ⟨qF, 0, none⟩) N cF] 40)) wd hi dp M N qV cV qF cF ks _ (fun _ => k) HV.out HN.out ((HMVI.out.below bF).below ha) (mF.below ha) (fun k h => by have := HK.out k h; omega) (fun i hi_ => ⟨hkl, tabI_get hi_⟩))
          have HBF := Lib.hid ((HBI.out.trans (bF.mono HBI.out.size)).trans (ha.mono (Nat.le_trans HBI.out.size bF.size)))
          clear zV0 zV1 zV2 zV3 fof
          obtain ⟨zV0, zV1, zV2, zV3, -, -, -, -⟩ := ((HBVI.out.below bF).below ha).four
          clear bF ha mF
          go_wp2_with fail
          (with_reducible refine KC.out.mono ?_)
          rintro e wG ⟨rfl, bG⟩
          have HBG := Lib.hid (HBF.out.trans (bG.mono HBF.out.size))
          obtain ⟨s1, hs1⟩ : ∃ s1, s1 = fq 2 (costS ks dp (fun _ => k) N) := ⟨_, rfl⟩
          have lt := HLT.out
          rw [← hs1] at lt
          rw [← hs1]
          clear HLT hs1 zV0 zV1 zV2 zV3 bG HMVI HBVI HBF KC KF
          go_wp2_with fail
          go_roundw
          case rel => exact ⟨k + 1, by go_num, by omega, HBG.out⟩
          case measure => simp [intOf]; omega
        · obtain rfl : k = dp := by omega
          have mA := HMA.out.below hbi
          have bA := HBA.out.below hbi
          have hbel := HBE2.out.trans (hbi.mono HBE2.out.size)
          obtain ⟨zA0, zA1, zA2, -, -, -⟩ := bA.three.cells
          have KE0 := (near_q _ wd hi k M N qV cV qA cA 8 ks _ (wonD ks k) HV.out HN.out mV mA (.inr rfl) HDD.out (fun x y hx hy => ⟨fun h => absurd h (by decide), ((HNE 8).out x y hx hy).2⟩))
          rw [show ((8 : Nat) : Int) = 8 from rfl] at KE0
          have KE := Lib.hid KE0
          clear KE0
          clear hbi HBI HMV HBV HMA HBA HBE2
          go_wp2_with fail
          (with_reducible refine KE.out.mono ?_)
          rintro e wE ⟨qE, cE, rfl, mE, -, bw⟩
          have ha := alb1 wE (.cells #[.int .i64 wd, .int .i64 hi, .slice (some ⟨qE, 0, none⟩) N cE] 40)
          have bE := BoxN.last wE #[.int .i64 wd, .int .i64 hi, .slice (some ⟨qE, 0, none⟩) N cE] 40
          replace mE := mE.below ha
          replace mV := (mV.below bw).below ha
          replace bV := (bV.below bw).below ha
          replace mA := (mA.below bw).below ha
          replace bA := (bA.below bw).below ha
          replace hbel := (hbel.trans (bw.mono hbel.size)).trans (ha.mono (Nat.le_trans hbel.size bw.size))
          clear bw ha zV0 zV1 zV2 zV3 zA0 zA1 zA2 KE
          obtain ⟨zV0, zV1, zV2, zV3, -, -, -, -⟩ := bV.four
          obtain ⟨zA0, zA1, zA2, -, -, -⟩ := bA.three.cells
          go_wp2_with fail
          generalize hoE : wE.heap.size = oE at *
          generalize hwE : wE.alloc (.cells #[.int .i64 wd, .int .i64 hi, .slice (some ⟨qE, 0, none⟩) N cE] 40) = WE at *
          clear hoE hwE zV0 zV1 zV2 zV3 zA0 zA1 zA2
          have KF0 := (near_q WE wd hi k M N qV cV qA cA 0 ks _ (wonD ks k) HV.out HN.out mV mA (.inl rfl) HDD.out (fun x y hx hy => ⟨((HNE 0).out x y hx hy).1, fun h => absurd h (by decide)⟩))
          rw [show ((0 : Nat) : Int) = 0 from rfl] at KF0
          have KF := Lib.hid KF0
          clear KF0
          (with_reducible refine KF.out.mono ?_)
          rintro e wF ⟨qF, cF, rfl, mF, -, bw⟩
          have ha := alb1 wF (.cells #[.int .i64 wd, .int .i64 hi, .slice (some ⟨qF, 0, none⟩) N cF] 40)
          have bF := BoxN.last wF #[.int .i64 wd, .int .i64 hi, .slice (some ⟨qF, 0, none⟩) N cF] 40
          replace mF := mF.below ha
          replace mE := (mE.below bw).below ha
          replace bE := (bE.below bw).below ha
          replace mA := (mA.below bw).below ha
          replace bA := (bA.below bw).below ha
          replace hbel := (hbel.trans (bw.mono hbel.size)).trans (ha.mono (Nat.le_trans hbel.size bw.size))
          clear bw ha KF mV bV
          obtain ⟨zE0, zE1, zE2, -, -, -⟩ := bE.three.cells
          obtain ⟨zA0, zA1, zA2, -, -, -⟩ := bA.three.cells
          go_wp2_with fail
          generalize hoF : wF.heap.size = oF at *
          generalize hwF : wF.alloc (.cells #[.int .i64 wd, .int .i64 hi, .slice (some ⟨qF, 0, none⟩) N cF] 40) = WF at *
          clear hoF hwF zE0 zE1 zE2 zA0 zA1 zA2
          (with_reducible refine (sameMap_yes WF wd hi (some ⟨qE, 0, none⟩) (some ⟨qA, 0, none⟩) N N cE cA _ _ mE.sl mA.sl rfl).mono ?_)
          rintro e wG ⟨rfl, bw⟩
          replace mF := mF.below bw
          replace bF := bF.below bw
          replace mA := mA.below bw
          replace bA := bA.below bw
          replace hbel := hbel.trans (bw.mono hbel.size)
          clear bw mE bE
          obtain ⟨zF0, zF1, zF2, -, -, -⟩ := bF.three.cells
          obtain ⟨zA0, zA1, zA2, -, -, -⟩ := bA.three.cells
          go_wp2_with fail
          clear zF0 zF1 zF2 zA0 zA1 zA2
          (with_reducible refine (sameMap_yes wG wd hi (some ⟨qF, 0, none⟩) (some ⟨qA, 0, none⟩) N N cF cA _ _ mF.sl mA.sl rfl).mono ?_)
          rintro e wH ⟨rfl, bw⟩
          replace hbel := hbel.trans (bw.mono hbel.size)
          clear bw mF bF mA bA
          go_wp2
          go_ret
          exact ⟨rfl, hbel⟩

theorem fnWinners_walk (w : World) (a0 a1 : Option Addr) (l0 c0 l1 c1 : Nat) (z0 z1 : List Int)
    (r0 : (a0 = none ∧ l0 = 0 ∧ c0 = 0 ∧ z0 = []) ∨ ∃ x, a0 = some x ∧ l0 ≤ c0 ∧ c0 ≤ maxLen ∧ z0.length = c0 ∧ (∀ i, i < z0.length → w.cell? (x.add i) = some (.int .u8 (z0.getD i 0))) ∧ ∀ n ∈ z0, (Lit.int .u8 n).wf = true)
    (r1 : (a1 = none ∧ l1 = 0 ∧ c1 = 0 ∧ z1 = []) ∨ ∃ x, a1 = some x ∧ l1 ≤ c1 ∧ c1 ≤ maxLen ∧ z1.length = c1 ∧ (∀ i, i < z1.length → w.cell? (x.add i) = some (.int .u8 (z1.getD i 0))) ∧ ∀ n ∈ z1, (Lit.int .u8 n).wf = true) :
    Calls Try.prog 4 #[.slice a0 l0 c0, .slice a1 l1 c1] w fun e w' => e = .returned (.bool true) ∧ Below w.heap.size w w' := by
  by_cases h : l0 ≤ 1048576 ∧ l1 ≤ 1048576
  · exact fnWinners_short w a0 a1 l0 c0 l1 c1 h.1 h.2 (bytesIn_of_row r0 (by omega)) (bytesIn_of_row r1 (by omega))
  · exact fnWinners_long w a0 a1 l0 c0 l1 c1 (len_of_row r0) (len_of_row r1) h

end Go.Proofs.Ytdeikjiflinkhaa
