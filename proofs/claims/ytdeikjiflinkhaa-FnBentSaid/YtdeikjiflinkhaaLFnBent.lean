/- The law of bent volumes: the walk of its code. No condition. -/
import Derived.Test.YtdeikjiflinkhaaWm
import Derived.Test.YtdeikjiflinkhaaAt
import Derived.Test.YtdeikjiflinkhaaLaw
import Derived.Deep.RegionHeld3
import Derived.StillTactics
namespace Go.Proofs.Ytdeikjiflinkhaa
open Go.RowKit
set_option maxRecDepth 100000
set_option linter.unusedVariables false
set_option linter.unusedSimpArgs false

theorem fnBent_long (w : World) (a0 a1 : Option Addr) (l0 c0 l1 c1 : Nat) (m0 : l0 ≤ 9223372036854775807) (m1 : l1 ≤ 9223372036854775807) (h : ¬ (l0 ≤ 1048576 ∧ l1 ≤ 1048576)) :
    Calls Try.prog 3 #[.slice a0 l0 c0, .slice a1 l1 c1] w fun e w' => e = .returned (.bool true) ∧ Below w.heap.size w w' := by
  go_enter Try.func3, Try.ntmps3
  go_wp2_with fail
  refine (b10Long_yes _ _ _ _ _ _ _ m0 m1 h).mono ?_
  rintro e w' ⟨rfl, rfl⟩
  go_wp2
  go_ret
  exact ⟨rfl, Below.refl _ _⟩

theorem wrap_divB (k wd : Nat) (h : k ≤ 1000000) : wrap64 ((k : Int) / (wd : Int)) = ((k / wd : Nat) : Int) := by
  rw [← Int.natCast_ediv]
  have := Nat.div_le_self k wd
  generalize k / wd = q at *
  unfold wrap64; omega
theorem ix_facts {ks : List Int} {wd hi dp M i : Nat} (hM : M = wd * hi * dp) (hw : 0 < wd) (hd : 0 < dp) (hi_ : i < M) (hM60 : M ≤ 60) : ∃ cc d x y : Nat, (i : Int) % (dp : Int) = (d : Int) ∧ wrap64 ((i : Int) / (dp : Int)) = (cc : Int) ∧ (cc : Int) % (wd : Int) = (x : Int) ∧ wrap64 ((cc : Int) % (wd : Int)) = (x : Int) ∧ wrap64 ((cc : Int) / (wd : Int)) = (y : Int) ∧ x < wd ∧ y < hi ∧ d < dp ∧ (x + wd * y) * dp + d = i ∧
    ks.getD ((min (i / dp % wd + i % dp) (wd - 1) + wd * (i / dp / wd)) * dp + i % dp) 0 = ks.getD ((min (x + d) (wd - 1) + wd * y) * dp + d) 0 := by
  obtain ⟨x1, x2, x3, x4, x5⟩ := ix_parts hM hw hd hi_
  have hc := Nat.div_le_self i dp
  refine ⟨i / dp, i % dp, i / dp % wd, i / dp / wd, (Int.natCast_emod i dp).symm, wrap_divB i dp (by omega), (Int.natCast_emod _ wd).symm, ?_, wrap_divB _ wd (by omega), x1, x2, x3, x4, rfl⟩
  rw [← Int.natCast_emod]
  have := Nat.mod_le (i / dp) wd
  generalize i / dp % wd = q at *
  unfold wrap64; omega
theorem min_two (x d wd : Nat) (hw : 1 ≤ wd) : ((x : Int) + (d : Int) < (wd : Int) - 1 ∧ ((min (x + d) (wd - 1) : Nat) : Int) = (x : Int) + (d : Int)) ∨ (¬ (x : Int) + (d : Int) < (wd : Int) - 1 ∧ ((min (x + d) (wd - 1) : Nat) : Int) = (wd : Int) - 1) := by
  by_cases h : (x : Int) + (d : Int) < (wd : Int) - 1
  · exact .inl ⟨h, by omega⟩
  · exact .inr ⟨h, by omega⟩
theorem vVol_sub {wd hi dp M D MS : Nat} (h : vVol wd hi dp M = true) (hM : MS = wd * hi * D) (h1 : 1 ≤ D) (h2 : D ≤ dp) : vVol wd hi D MS = true := by
  obtain ⟨hpic, -, d1, d2, d3, d4, d5, d6, d7, d8⟩ := vVol_pic h
  rw [hM]; exact vVol_of d1 d2 d3 d4 d5 h1 (by omega)
theorem shF_at {ks : List Int} {wd hi dp D MS x y d : Nat} (hM : MS = wd * hi * D) (hx : x < wd) (hy : y < hi) (hd : d < D) : (tabI MS (shF ks dp D)).getD ((x + wd * y) * D + d) 0 = ks.getD ((x + wd * y) * dp + d) 0 := by
  have hle := ic_le (dp := D) hx hy
  unfold ic at hle
  rw [tabI_get (by omega)]
  unfold shF
  have e1 : ((x + wd * y) * D + d) / D = x + wd * y := by rw [Nat.mul_comm, Nat.mul_add_div (by omega), Nat.div_eq_of_lt hd, Nat.add_zero]
  have e2 : ((x + wd * y) * D + d) % D = d := by rw [Nat.mul_comm, Nat.mul_add_mod, Nat.mod_eq_of_lt hd]
  rw [e1, e2]
theorem bd_30 {b : Nat} (h : Bd 0 30 b) : lt32 b 0 = false ∧ lt32 1090519040 b = false := by
  have e0 : (0 : Nat) = fq 2 0 := (fq_zero 2).symm
  have e8 : (1090519040 : Nat) = fq 2 32 := by decide +kernel
  have h0 := fq_fin (g := 2) (k := 0) (by decide)
  have h8 := fq_fin (g := 2) (k := 32) (by decide)
  constructor
  · rw [show lt32 b 0 = lt32 b (fq 2 0) from by rw [← e0], lt32_vv h.fin h0]
    exact decide_eq_false (by have := h.lo; omega)
  · rw [e8, lt32_vv h8 h.fin]
    have := h.hi
    have h2 := vv_mono (a := 30) (b := 32) (by decide) (by decide) (by decide)
    exact decide_eq_false (by omega)

set_option maxHeartbeats 40000000 in
theorem fnBent_short (w : World) (a0 a1 : Option Addr) (l0 c0 l1 c1 : Nat) (h0 : l0 ≤ 1048576) (h1 : l1 ≤ 1048576) (hb0 : BytesIn w a0 l0) (hb1 : BytesIn w a1 l1) :
    Calls Try.prog 3 #[.slice a0 l0 c0, .slice a1 l1 c1] w fun e w' => e = .returned (.bool true) ∧ Below w.heap.size w w' := by
  go_enter Try.func3, Try.ntmps3
  go_wp2_with fail
  refine (b10Long_no _ _ _ _ _ _ _ h0 h1).mono ?_
  rintro e w' ⟨rfl, rfl⟩
  go_wp2_with fail
  refine (b10Costs_any _ _ _ _ hb0).mono ?_
  rintro e wV ⟨wd, hi, dp, qV, cV, ks, rfl, v1, v2, v3, v4, v5, v6, hkl, hown, hkb, bw⟩
  obtain ⟨M, hM⟩ : ∃ M, M = wd * hi * dp := ⟨_, rfl⟩
  rw [hkl, ← hM] at hown ⊢
  have hM60 : M ≤ 60 := by rw [hM]; have := Nat.mul_le_mul (Nat.mul_le_mul v2 v4) v6; omega
  have hM0 : 0 < M := by rw [hM]; exact Nat.mul_pos (Nat.mul_pos (by omega) v3) v5
  have hv : vVol wd hi dp M = true := by rw [hM]; exact vVol_of (by omega) (by omega) v3 (by omega) (by have := Nat.mul_le_mul v2 v4; omega) v5 (by omega)
  have hk30 : ∀ k ∈ ks, 0 ≤ k ∧ k ≤ 30 := fun k h => by obtain ⟨j, e, j0, j1⟩ := hkb k h; omega
  have mV : MQ wV qV cV M ks := ⟨hown.sl, (hown.lt (k := qV) rfl).2, fun k h => by have := hk30 k h; omega⟩
  have HV := Lib.hid hv
  have HM := Lib.hid hM
  have HK := Lib.hid hk30
  have hbel := bw
  replace hb1 := hb1.below bw
  clear hv hM hk30 hkb hkl hown hb0
  have ha : Below wV.heap.size wV (wV.alloc (.cells #[.int .i64 wd, .int .i64 hi, .int .i64 dp, .slice (some ⟨qV, 0, none⟩) M cV] 26)) := (Below.refl _ _).alloc (Nat.le_refl _) _
  have bV := BoxN.last wV #[.int .i64 wd, .int .i64 hi, .int .i64 dp, .slice (some ⟨qV, 0, none⟩) M cV] 26
  replace mV := mV.below ha
  replace hb1 := hb1.below ha
  replace hbel := hbel.trans (ha.mono hbel.size)
  clear bw ha
  go_wp2_with fail
  generalize hoV : wV.heap.size = oV at *
  generalize hwV : wV.alloc (.cells #[.int .i64 wd, .int .i64 hi, .int .i64 dp, .slice (some ⟨qV, 0, none⟩) M cV] 26) = WV at *
  clear hoV hwV
  refine (b10At_a _ _ _ _ 0 16 (by omega) (by omega) (by omega) hb1).mono ?_
  rintro e w' ⟨n, rfl, n0, n1, rfl⟩
  obtain ⟨n, rfl⟩ := Int.eq_ofNat_of_zero_le n0
  obtain ⟨mo, hmo⟩ : ∃ mo, mo = 2 * (n : Int) := ⟨_, rfl⟩
  have hq := half_fq n (by omega)
  rw [← hmo] at hq
  have p1 := fres_some hq
  have p0 := fdr_some hq
  have hmo0 : 0 ≤ mo := by omega
  have hmo1 : mo ≤ 30 := by omega
  obtain ⟨mw, hmw⟩ : ∃ mw, mw = fq 2 mo := ⟨_, rfl⟩
  rw [← hmw] at p1
  have HMW := Lib.hid hmw
  have hd0 : ∀ W : World, W.drewN 0 = W := fun _ => rfl
  clear hmo hq hmw n0 n1
  obtain ⟨zV0, zV1, zV2, zV3, -, -, -, -⟩ := bV.four
  go_wp2_with fail
  clear zV0 zV1 zV2 zV3
  clear p1 p0 hd0
  refine (mix_q _ wd hi dp M qV cV ks HV.out mV (fun k h => (HK.out k h).1)).mono ?_
  rintro e wA ⟨qA, cA, rfl, mA, bw⟩
  have ha : Below wA.heap.size wA (wA.alloc (.cells #[.int .i64 wd, .int .i64 hi, .int .i64 dp, .slice (some ⟨qA, 0, none⟩) M cA] 26)) := (Below.refl _ _).alloc (Nat.le_refl _) _
  have bA := BoxN.last wA #[.int .i64 wd, .int .i64 hi, .int .i64 dp, .slice (some ⟨qA, 0, none⟩) M cA] 26
  replace mA := mA.below ha
  replace bV := (bV.below bw).below ha
  replace mV := (mV.below bw).below ha
  replace hb1 := (hb1.below bw).below ha
  replace hbel := (hbel.trans (bw.mono hbel.size)).trans (ha.mono (Nat.le_trans hbel.size bw.size))
  clear bw ha
  obtain ⟨zV0, zV1, zV2, zV3, -, -, -, -⟩ := bV.four
  go_wp2_with fail
  generalize hoA : wA.heap.size = oA at *
  generalize hwA : wA.alloc (.cells #[.int .i64 wd, .int .i64 hi, .int .i64 dp, .slice (some ⟨qA, 0, none⟩) M cA] 26) = WA at *
  clear hoA hwA
  clear zV0 zV1 zV2 zV3
  rw [HMW.out]
  refine (cap_q _ wd hi dp M qV cV ks mo hmo0 (by omega) HV.out mV).mono ?_
  rintro e wC ⟨qC, cC, rfl, mC, bw⟩
  have ha : Below wC.heap.size wC (wC.alloc (.cells #[.int .i64 wd, .int .i64 hi, .int .i64 dp, .slice (some ⟨qC, 0, none⟩) M cC] 26)) := (Below.refl _ _).alloc (Nat.le_refl _) _
  have bC := BoxN.last wC #[.int .i64 wd, .int .i64 hi, .int .i64 dp, .slice (some ⟨qC, 0, none⟩) M cC] 26
  replace mC := mC.below ha
  replace bV := (bV.below bw).below ha
  replace mV := (mV.below bw).below ha
  replace hb1 := (hb1.below bw).below ha
  replace bA := (bA.below bw).below ha
  replace mA := (mA.below bw).below ha
  replace hbel := (hbel.trans (bw.mono hbel.size)).trans (ha.mono (Nat.le_trans hbel.size bw.size))
  clear bw ha
  obtain ⟨zV0, zV1, zV2, zV3, -, -, -, -⟩ := bV.four
  go_wp2_with fail
  generalize hoC : wC.heap.size = oC at *
  generalize hwC : wC.alloc (.cells #[.int .i64 wd, .int .i64 hi, .int .i64 dp, .slice (some ⟨qC, 0, none⟩) M cC] 26) = WC at *
  clear hoC hwC
  clear zV0 zV1 zV2 zV3
  refine (box0_q _ wd hi dp M qV cV ks HV.out mV (fun k h => by have := HK.out k h; omega)).mono ?_
  rintro e wB ⟨qB, cB, rfl, mB, bw⟩
  have ha : Below wB.heap.size wB (wB.alloc (.cells #[.int .i64 wd, .int .i64 hi, .int .i64 dp, .slice (some ⟨qB, 0, none⟩) M cB] 26)) := (Below.refl _ _).alloc (Nat.le_refl _) _
  have bB := BoxN.last wB #[.int .i64 wd, .int .i64 hi, .int .i64 dp, .slice (some ⟨qB, 0, none⟩) M cB] 26
  replace mB := mB.below ha
  replace bV := (bV.below bw).below ha
  replace mV := (mV.below bw).below ha
  replace hb1 := (hb1.below bw).below ha
  replace bA := (bA.below bw).below ha
  replace mA := (mA.below bw).below ha
  replace bC := (bC.below bw).below ha
  replace mC := (mC.below bw).below ha
  replace hbel := (hbel.trans (bw.mono hbel.size)).trans (ha.mono (Nat.le_trans hbel.size bw.size))
  clear bw ha
  obtain ⟨zV0, zV1, zV2, zV3, -, -, -, -⟩ := bV.four
  go_wp2_with fail
  generalize hoB : wB.heap.size = oB at *
  generalize hwB : wB.alloc (.cells #[.int .i64 wd, .int .i64 hi, .int .i64 dp, .slice (some ⟨qB, 0, none⟩) M cB] 26) = WB at *
  clear hoB hwB
  clear zV0 zV1 zV2 zV3
  refine (box_b _ wd hi dp M qV cV 1 30 ks HV.out mV (by omega) (by omega) (by omega) HK.out).mono ?_
  rintro e wW ⟨qW, cW, bsW, rfl, mW, hbw_, bw⟩
  have HBD := Lib.hid hbw_
  clear hbw_
  have ha : Below wW.heap.size wW (wW.alloc (.cells #[.int .i64 wd, .int .i64 hi, .int .i64 dp, .slice (some ⟨qW, 0, none⟩) M cW] 26)) := (Below.refl _ _).alloc (Nat.le_refl _) _
  have bW := BoxN.last wW #[.int .i64 wd, .int .i64 hi, .int .i64 dp, .slice (some ⟨qW, 0, none⟩) M cW] 26
  replace mW := mW.below ha
  replace bV := (bV.below bw).below ha
  replace mV := (mV.below bw).below ha
  replace hb1 := (hb1.below bw).below ha
  replace bA := (bA.below bw).below ha
  replace mA := (mA.below bw).below ha
  replace bC := (bC.below bw).below ha
  replace mC := (mC.below bw).below ha
  replace bB := (bB.below bw).below ha
  replace mB := (mB.below bw).below ha
  replace hbel := (hbel.trans (bw.mono hbel.size)).trans (ha.mono (Nat.le_trans hbel.size bw.size))
  clear bw ha
  obtain ⟨zV0, zV1, zV2, zV3, -, -, -, -⟩ := bV.four
  go_wp2_with fail
  generalize hoW : wW.heap.size = oW at *
  generalize hwW : wW.alloc (.cells #[.int .i64 wd, .int .i64 hi, .int .i64 dp, .slice (some ⟨qW, 0, none⟩) M cW] 26) = WW at *
  clear hoW hwW
  clear zV0 zV1 zV2 zV3
  refine (other_q _ wd hi dp M qV cV ks HV.out mV).mono ?_
  rintro e wO ⟨qO, cO, rfl, mO, bw⟩
  have ha : Below wO.heap.size wO (wO.alloc (.cells #[.int .i64 wd, .int .i64 hi, .int .i64 dp, .slice (some ⟨qO, 0, none⟩) M cO] 26)) := (Below.refl _ _).alloc (Nat.le_refl _) _
  have bO := BoxN.last wO #[.int .i64 wd, .int .i64 hi, .int .i64 dp, .slice (some ⟨qO, 0, none⟩) M cO] 26
  replace mO := mO.below ha
  replace bV := (bV.below bw).below ha
  replace mV := (mV.below bw).below ha
  replace hb1 := (hb1.below bw).below ha
  replace bA := (bA.below bw).below ha
  replace mA := (mA.below bw).below ha
  replace bC := (bC.below bw).below ha
  replace mC := (mC.below bw).below ha
  replace bB := (bB.below bw).below ha
  replace mB := (mB.below bw).below ha
  replace bW := (bW.below bw).below ha
  replace mW := (mW.below bw).below ha
  replace hbel := (hbel.trans (bw.mono hbel.size)).trans (ha.mono (Nat.le_trans hbel.size bw.size))
  clear bw ha
  obtain ⟨zV0, zV1, zV2, zV3, -, -, -, -⟩ := bV.four
  go_wp2_with fail
  generalize hoO : wO.heap.size = oO at *
  generalize hwO : wO.alloc (.cells #[.int .i64 wd, .int .i64 hi, .int .i64 dp, .slice (some ⟨qO, 0, none⟩) M cO] 26) = WO at *
  clear hoO hwO
  clear zV0 zV1 zV2 zV3
  refine (b10At_a _ _ _ _ 1 dp (by omega) (by omega) (by omega) hb1).mono ?_
  rintro e w' ⟨u, rfl, u0, u1, rfl⟩
  obtain ⟨D, hD⟩ : ∃ D : Nat, (1 : Int) + u = D := ⟨(1 + u).toNat, by omega⟩
  have HD := Lib.hid hD
  have hD1 : 1 ≤ D := by omega
  have hD2 : D ≤ dp := by omega
  clear hD
  obtain ⟨zV0, zV1, zV2, zV3, -, -, -, -⟩ := bV.four
  go_wp2_with fail
  clear zV0 zV1 zV2 zV3
  rw [HD.out]
  refine (shallow_q _ wd hi dp M qV cV D ks hD1 hD2 HV.out mV).mono ?_
  rintro e wS ⟨qS, cS, rfl, mS, bw⟩
  obtain ⟨MS, hMS⟩ : ∃ MS, MS = wd * hi * D := ⟨_, rfl⟩
  rw [← hMS] at mS ⊢
  have HMS := Lib.hid hMS
  clear hMS u0 u1
  have ha : Below wS.heap.size wS (wS.alloc (.cells #[.int .i64 wd, .int .i64 hi, .int .i64 D, .slice (some ⟨qS, 0, none⟩) MS cS] 26)) := (Below.refl _ _).alloc (Nat.le_refl _) _
  have bS := BoxN.last wS #[.int .i64 wd, .int .i64 hi, .int .i64 D, .slice (some ⟨qS, 0, none⟩) MS cS] 26
  replace mS := mS.below ha
  replace bV := (bV.below bw).below ha
  replace mV := (mV.below bw).below ha
  replace hb1 := (hb1.below bw).below ha
  replace bA := (bA.below bw).below ha
  replace mA := (mA.below bw).below ha
  replace bC := (bC.below bw).below ha
  replace mC := (mC.below bw).below ha
  replace bB := (bB.below bw).below ha
  replace mB := (mB.below bw).below ha
  replace bW := (bW.below bw).below ha
  replace mW := (mW.below bw).below ha
  replace bO := (bO.below bw).below ha
  replace mO := (mO.below bw).below ha
  replace hbel := (hbel.trans (bw.mono hbel.size)).trans (ha.mono (Nat.le_trans hbel.size bw.size))
  clear bw ha
  obtain ⟨zB0, zB1, zB2, zB3, -, -, -, -⟩ := bB.four
  obtain ⟨zV0, zV1, zV2, zV3, -, -, -, -⟩ := bV.four
  go_wp2_with fail
  generalize hoS : wS.heap.size = oS at *
  generalize hwS : wS.alloc (.cells #[.int .i64 wd, .int .i64 hi, .int .i64 D, .slice (some ⟨qS, 0, none⟩) MS cS] 26) = WS at *
  clear hoS hwS
  clear zB0 zB1 zB2 zB3 zV0 zV1 zV2 zV3
  refine (sameVol_y _ _ _ _ _ _ _ _ _ _ _ _ mB.sl mV.sl rfl).mono ?_
  rintro e wX ⟨rfl, bw⟩
  replace bV := bV.below bw
  replace mV := mV.below bw
  replace hb1 := hb1.below bw
  replace bA := bA.below bw
  replace mA := mA.below bw
  replace bC := bC.below bw
  replace mC := mC.below bw
  replace bB := bB.below bw
  replace mB := mB.below bw
  replace bW := bW.below bw
  replace mW := mW.below bw
  replace bO := bO.below bw
  replace mO := mO.below bw
  replace bS := bS.below bw
  replace mS := mS.below bw
  replace hbel := hbel.trans (bw.mono hbel.size)
  clear bw
  obtain ⟨zW0, zW1, zW2, zW3, -, -, -, -⟩ := bW.four
  go_wp2_with fail
  clear zW0 zW1 zW2 zW3
  refine (validVolume_any _ _ _ _ _ _ (by omega) _).mono ?_
  rw [HV.out]
  rintro e wY ⟨rfl, bw⟩
  replace bV := bV.below bw
  replace mV := mV.below bw
  replace hb1 := hb1.below bw
  replace bA := bA.below bw
  replace mA := mA.below bw
  replace bC := bC.below bw
  replace mC := mC.below bw
  replace bB := bB.below bw
  replace mB := mB.below bw
  replace bW := bW.below bw
  replace mW := mW.below bw
  replace bO := bO.below bw
  replace mO := mO.below bw
  replace bS := bS.below bw
  replace mS := mS.below bw
  replace hbel := hbel.trans (bw.mono hbel.size)
  clear bw
  obtain ⟨zO0, zO1, zO2, zO3, -, -, -, -⟩ := bO.four
  go_wp2_with fail
  clear zO0 zO1 zO2 zO3
  refine (validVolume_any _ _ _ _ _ _ (by omega) _).mono ?_
  rw [HV.out]
  rintro e wZ ⟨rfl, bw⟩
  replace bV := bV.below bw
  replace mV := mV.below bw
  replace hb1 := hb1.below bw
  replace bA := bA.below bw
  replace mA := mA.below bw
  replace bC := bC.below bw
  replace mC := mC.below bw
  replace bB := bB.below bw
  replace mB := mB.below bw
  replace bW := bW.below bw
  replace mW := mW.below bw
  replace bO := bO.below bw
  replace mO := mO.below bw
  replace bS := bS.below bw
  replace mS := mS.below bw
  replace hbel := hbel.trans (bw.mono hbel.size)
  clear bw
  have SV := Lib.hid mV
  have BV := Lib.hid bV
  have hcapV := mV.cap
  have SA := Lib.hid mA
  have BA := Lib.hid bA
  have hcapA := mA.cap
  have SC := Lib.hid mC
  have BC := Lib.hid bC
  have hcapC := mC.cap
  have SW := Lib.hid mW
  have BW := Lib.hid bW
  have hcapW := mW.cap
  have SO := Lib.hid mO
  have BO := Lib.hid bO
  have hcapO := mO.cap
  have SS := Lib.hid mS
  have BS := Lib.hid bS
  have hcapS := mS.cap
  have HBEL := Lib.hid hbel
  obtain ⟨zV0, zV1, zV2, zV3, -, -, -, -⟩ := bV.four
  obtain ⟨zS0, zS1, zS2, zS3, -, -, -, -⟩ := bS.four
  clear mV bV mA bA mC bC mW bW mO bO mS bS mB bB hbel hb1
  go_wp2_with fail
  clear zV0 zV1 zV2 zV3 zS0 zS1 zS2 zS3
  go_loopw [122] (fun v122 wr => ∃ i : Nat, v122 = .int .i64 i ∧ i ≤ M ∧ Below wZ.heap.size wZ wr) (fun v122 _ => M - (intOf v122).toNat)
  case atStart => exact ⟨0, rfl, Nat.zero_le _, Below.refl _ _⟩
  case round =>
    obtain ⟨i, rfl, hi_, hbw⟩ := hrel
    by_cases hlt : i < M
    · have kV := (SV.out.below hbw).get i hlt
      have kA := (SA.out.below hbw).get i hlt
      have kC := (SC.out.below hbw).get i hlt
      have kO := (SO.out.below hbw).get i hlt
      have kW := ((SW.out.below hbw).get i hlt).1
      rw [tabI_get hlt] at kC kO
      have hkb := (SV.out).kb i
      have hk0 : 0 ≤ ks.getD i 0 := by
        rw [List.getD_eq_getElem?_getD, List.getElem?_eq_getElem (by rw [SV.out.len]; exact hlt)]; exact (HK.out _ (List.getElem_mem _)).1
      have hbd := HBD.out i hlt
      have mn := fminW_q (a := ks.getD i 0) (b := mo) hkb (by omega)
      have eC : capF ks mo i = min (ks.getD i 0) mo := rfl
      rw [eC] at kC
      have e0 := eq32_fq (g := 2) (a := ks.getD i 0) (b := ks.getD i 0) (by omega) (by omega)
      have e1 := eq32_fq (g := 2) (a := min (ks.getD i 0) mo) (b := min (ks.getD i 0) mo) (by omega) (by omega)
      simp only [decide_true] at e0 e1
      obtain ⟨e2, e3⟩ := bd_30 hbd
      have eO : othF ks wd dp i = ks.getD ((min (i / dp % wd + i % dp) (wd - 1) + wd * (i / dp / wd)) * dp + i % dp) 0 := rfl
      obtain ⟨cc, d, x, y, td, tc, tx, tx2, ty, x1, x2, x3, x4, xO⟩ := ix_facts (ks := ks) HM.out (by omega) v5 hlt hM60
      rw [eO, xO] at kO
      have HEO := Lib.hid (eO.trans xO)
      generalize bsW.getD i 0 = zw at *
      have hvk0 : fq 2 (ks.getD i 0) = fq 2 (ks.getD i 0) := rfl
      generalize hvk : fq 2 (ks.getD i 0) = vk at *
      clear hvk0
      generalize fq 2 (min (ks.getD i 0) mo) = zc at *
      generalize fq 2 mo = zm at *
      have HVK := Lib.hid hvk
      have HX4 := Lib.hid x4
      have HBW := Lib.hid hbw
      obtain ⟨zV0, zV1, zV2, zV3, -, -, -, -⟩ := (BV.out.below hbw).four
      obtain ⟨zA0, zA1, zA2, zA3, -, -, -, -⟩ := (BA.out.below hbw).four
      obtain ⟨zC0, zC1, zC2, zC3, -, -, -, -⟩ := (BC.out.below hbw).four
      obtain ⟨zW0, zW1, zW2, zW3, -, -, -, -⟩ := (BW.out.below hbw).four
      clear eC eO x4 xO hvk hbw hbd hkb hk0
      have HT := Lib.hid (And.intro td (And.intro tc (And.intro tx (And.intro tx2 ty))))
      clear td tc tx tx2 ty
      have hlt2 : (i : Int) < (M : Int) := by omega
      have hd0 : ∀ W : World, W.drewN 0 = W := fun _ => rfl
      go_wp2_with fail
      go_quiet (fail)
      clear zA0 zA1 zA2 zA3 zC0 zC1 zC2 zC3 zW0 zW1 zW2 zW3 mn e1 e2 e3
      obtain ⟨td, tc, tx, tx2, ty⟩ := HT.out
      have hwd0 : ¬ wd = 0 := by omega
      have hdp0 : ¬ dp = 0 := by omega
      obtain ⟨n1, hn1⟩ : ∃ n, n = nq := ⟨_, rfl⟩
      rw [← hn1]
      clear hn1 nq
      go_wp2_with fail
      go_quiet (fail)
      obtain ⟨n2, hn2⟩ : ∃ n, n = nq := ⟨_, rfl⟩
      rw [← hn2]
      clear hn2 nq
      go_wp2_with fail
      go_quiet (fail)
      simp only [td, tc, tx, ty]
      clear td tc tx tx2 ty HT zV0 zV1 zV2 zV3 kV kA kC kO kW
      have hbq : Below wZ.heap.size wZ (((wr.drewN n1).drewN n2).drewN nq) := below_drewN (below_drewN (below_drewN HBW.out _) _) _
      generalize ((wr.drewN n1).drewN n2).drewN nq = wq at *
      have HBQ := Lib.hid hbq
      have KC := costAt_q wq wd hi dp M qV cV (min (x + d) (wd - 1)) y d ks (by omega) x2 x3 HV.out (SV.out.below hbq)
      have kO := (SO.out.below hbq).get i hlt
      rw [tabI_get hlt, HEO.out] at kO
      have e4 := eq32_fq (g := 2) (a := ks.getD ((min (x + d) (wd - 1) + wd * y) * dp + d) 0) (b := ks.getD ((min (x + d) (wd - 1) + wd * y) * dp + d) 0) (by have := SV.out.kb ((min (x + d) (wd - 1) + wd * y) * dp + d); omega) (by have := SV.out.kb ((min (x + d) (wd - 1) + wd * y) * dp + d); omega)
      simp only [decide_true] at e4
      have hlm := min_two x d wd (by omega)
      generalize hsw : fq 2 (ks.getD ((min (x + d) (wd - 1) + wd * y) * dp + d) 0) = sw at *
      have HSW := Lib.hid hsw
      clear hsw
      generalize min (x + d) (wd - 1) = mm at *
      obtain ⟨zV0, zV1, zV2, zV3, -, -, -, -⟩ := (BV.out.below hbq).four
      have b24 : (wd : Int) ≤ 5 := by omega
      have x1i : (x : Int) < (wd : Int) := by omega
      have x3i : (d : Int) < (dp : Int) := by omega
      have dpi : (dp : Int) ≤ 4 := by omega
      have HKC := Lib.hid KC
      have HXX := Lib.hid (And.intro x1 (And.intro x2 x3))
      clear hbq KC HBW x1 x2 x3
      rcases hlm with ⟨hmn, hme⟩ | ⟨hmn, hme⟩
      all_goals
        rw [hme] at HKC
        clear hme
        have KC := HKC
        go_wp2_with fail
        refine KC.out.mono ?_
        rintro e wr2 ⟨rfl, hb2⟩
        have hbr := HBQ.out.trans (hb2.mono HBQ.out.size)
        have kO := (SO.out.below hbr).get i hlt
        rw [tabI_get hlt, HEO.out, HSW.out] at kO
        obtain ⟨zO0, zO1, zO2, zO3, -, -, -, -⟩ := (BO.out.below hbr).four
        clear zV0 zV1 zV2 zV3
        by_cases hdD : d < D
        · have hdi : (d : Int) < (D : Int) := by omega
          obtain ⟨x1, x2, x3⟩ := HXX.out
          have KS := costAt_q wr2 wd hi D MS qS cS x y d _ x1 x2 hdD (vVol_sub HV.out HMS.out hD1 hD2) (SS.out.below hbr)
          rw [shF_at (ks := ks) (dp := dp) HMS.out x1 x2 hdD, HX4.out, HVK.out] at KS
          have HKS := Lib.hid KS
          have HBR := Lib.hid hbr
          obtain ⟨zS0, zS1, zS2, zS3, -, -, -, -⟩ := (BS.out.below hbr).four
          clear KS KC hbr x1 x2 x3 hb2
          go_wp2_with fail
          refine HKS.out.mono ?_
          rintro e wr3 ⟨rfl, hb3⟩
          have hbs := HBR.out.trans (hb3.mono HBR.out.size)
          have kV := (SV.out.below hbs).get i hlt
          rw [HVK.out] at kV
          obtain ⟨zV0, zV1, zV2, zV3, -, -, -, -⟩ := (BV.out.below hbs).four
          have HBS := Lib.hid hbs
          clear zO0 zO1 zO2 zO3 zS0 zS1 zS2 zS3 hb3 hbs kO
          go_wp2
          go_roundw
          case rel => exact ⟨i + 1, by go_num, by omega, HBS.out⟩
          case measure => simp [intOf]; omega
        · have hdi : ¬ (d : Int) < (D : Int) := by omega
          have HBR := Lib.hid hbr
          clear KC hbr hb2
          go_wp2
          go_roundw
          case rel => exact ⟨i + 1, by go_num, by omega, HBR.out⟩
          case measure => simp [intOf]; omega
    · obtain rfl : M = i := by omega
      have hbel := HBEL.out.trans (hbw.mono HBEL.out.size)
      go_wp2
      go_ret
      exact ⟨rfl, hbel⟩

theorem fnBent_walk (w : World) (a0 a1 : Option Addr) (l0 c0 l1 c1 : Nat) (z0 z1 : List Int)
    (r0 : (a0 = none ∧ l0 = 0 ∧ c0 = 0 ∧ z0 = []) ∨ ∃ x, a0 = some x ∧ l0 ≤ c0 ∧ c0 ≤ maxLen ∧ z0.length = c0 ∧ (∀ i, i < z0.length → w.cell? (x.add i) = some (.int .u8 (z0.getD i 0))) ∧ ∀ n ∈ z0, (Lit.int .u8 n).wf = true)
    (r1 : (a1 = none ∧ l1 = 0 ∧ c1 = 0 ∧ z1 = []) ∨ ∃ x, a1 = some x ∧ l1 ≤ c1 ∧ c1 ≤ maxLen ∧ z1.length = c1 ∧ (∀ i, i < z1.length → w.cell? (x.add i) = some (.int .u8 (z1.getD i 0))) ∧ ∀ n ∈ z1, (Lit.int .u8 n).wf = true) :
    Calls Try.prog 3 #[.slice a0 l0 c0, .slice a1 l1 c1] w fun e w' => e = .returned (.bool true) ∧ Below w.heap.size w w' := by
  by_cases h : l0 ≤ 1048576 ∧ l1 ≤ 1048576
  · exact fnBent_short w a0 a1 l0 c0 l1 c1 h.1 h.2 (bytesIn_of_row r0 (by omega)) (bytesIn_of_row r1 (by omega))
  · exact fnBent_long w a0 a1 l0 c0 l1 c1 (len_of_row r0) (len_of_row r1) h

end Go.Proofs.Ytdeikjiflinkhaa
