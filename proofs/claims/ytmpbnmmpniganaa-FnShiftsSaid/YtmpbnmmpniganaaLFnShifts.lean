/- The law of shifted pictures: the walk of its code. No condition. -/
import Derived.Test.YtmpbnmmpniganaaTb
import Derived.Test.YtmpbnmmpniganaaTc
import Derived.Test.YtmpbnmmpniganaaTh
import Derived.Test.YtmpbnmmpniganaaMv
import Derived.Test.YtmpbnmmpniganaaLaw
import Derived.Deep.RegionHeld3
import Derived.StillTactics
import Derived.Deep.CutRange
import Derived.Deep.LoopGhost
namespace Go.Proofs.Ytmpbnmmpniganaa
open Go.RowKit
set_option maxRecDepth 100000
set_option linter.unusedVariables false
set_option linter.unusedSimpArgs false

theorem fnShifts_long (w : World) (a0 a1 : Option Addr) (l0 c0 l1 c1 : Nat) (m0 : l0 ≤ 9223372036854775807) (m1 : l1 ≤ 9223372036854775807) (h : ¬ (l0 ≤ 1048576 ∧ l1 ≤ 1048576)) :
    Calls Try.prog 4 #[.slice a0 l0 c0, .slice a1 l1 c1] w fun e w' => e = .returned (.bool true) ∧ Below w.heap.size w w' := by
  go_enter Try.func4, Try.ntmps4
  go_wp2_with fail
  refine (b10Long_yes _ _ _ _ _ _ _ m0 m1 h).mono ?_
  rintro e w' ⟨rfl, rfl⟩
  go_wp2
  go_ret
  exact ⟨rfl, Below.refl _ _⟩

theorem wrap_div (k wd : Nat) (h : k ≤ 1000000) : wrap64 ((k : Int) / (wd : Int)) = ((k / wd : Nat) : Int) := by
  rw [← Int.natCast_ediv]
  have := Nat.div_le_self k wd
  generalize k / wd = q at *
  unfold wrap64; omega
theorem mw_of {W : World} {q c N : Nat} {ks : List Int} (h : MQ W q c N ks) : MW W q c N (ks.map (fq 2)) := ⟨h.sl, h.qlt, by rw [List.length_map, h.len]⟩
theorem eq_zero_of {z : Nat} (h : fl z = 0) : eq32 z 0 = true := by
  have : eq32 (fl z) (fl 0) = eq32 z 0 := eq32_fl z 0
  rw [← this, h]; decide

set_option maxHeartbeats 40000000 in
theorem fnShifts_short (w : World) (a0 a1 : Option Addr) (l0 c0 l1 c1 : Nat) (h0 : l0 ≤ 1048576) (h1 : l1 ≤ 1048576) (hb0 : BytesIn w a0 l0) (hb1 : BytesIn w a1 l1) :
    Calls Try.prog 4 #[.slice a0 l0 c0, .slice a1 l1 c1] w fun e w' => e = .returned (.bool true) ∧ Below w.heap.size w w' := by
  go_enter Try.func4, Try.ntmps4
  go_wp2_with fail
  refine (b10Long_no _ _ _ _ _ _ _ h0 h1).mono ?_
  rintro e w' ⟨rfl, rfl⟩
  go_wp2_with fail
  refine (b10At_any _ _ _ _ 0 4 (by omega) (by omega) (by omega) hb1).mono ?_
  rintro e w' ⟨x, rfl, x0, x1, rfl⟩
  obtain ⟨b, rfl⟩ := Int.eq_ofNat_of_zero_le x0
  have hb3 : b ≤ 3 := by omega
  clear x0 x1 hb1
  go_wp2_with fail
  refine (b10Shifted_any _ _ _ _ b hb3 hb0).mono ?_
  rintro e wP ⟨wd, hi, N, qA, cA, qB, cB, R, rfl, hN, v1, v2, v3, v4, hR, hrow, mA, mB, hbel⟩
  have hv : vPic wd hi N = true := by rw [hN]; exact vPic_of (by omega) (by omega) v3 (by omega) (by have := Nat.mul_le_mul v2 v4; omega)
  have hN1 : N ≤ 24 := by rw [hN]; exact Nat.mul_le_mul v2 v4
  have hN0 : 1 ≤ N := by rw [hN]; exact Nat.mul_pos (by omega) v3
  have HV := Lib.hid hv
  have HN := Lib.hid hN
  have HROW := Lib.hid hrow
  have HR := Lib.hid hR
  obtain ⟨ak, has⟩ : ∃ l, l = ShA wd R := ⟨_, rfl⟩
  obtain ⟨bk, hbs⟩ : ∃ l, l = ShB wd b R := ⟨_, rfl⟩
  rw [← has] at mA
  rw [← hbs] at mB
  have HAS := Lib.hid has
  have HBS := Lib.hid hbs
  have cvb := four_fq (b : Int) (by omega)
  obtain ⟨dp, hdp⟩ : ∃ n : Nat, (b : Int) + 2 = n := ⟨b + 2, rfl⟩
  have d1 : dp = b + 2 := by omega
  have HD := Lib.hid d1
  have d2 : 1 ≤ dp := by omega
  have d3 : dp ≤ 8 := by omega
  obtain ⟨WS, hWS⟩ : ∃ WS, WS = (wP.alloc (.cells #[.int .i64 wd, .int .i64 hi, .slice (some ⟨qA, 0, none⟩) N cA] 37)).alloc (.cells #[.int .i64 wd, .int .i64 hi, .slice (some ⟨qB, 0, none⟩) N cB] 37) := ⟨_, rfl⟩
  have haS : Below wP.heap.size wP WS := by rw [hWS]; exact below_two wP _ _
  obtain ⟨oA, hoA⟩ : ∃ o, o = wP.heap.size := ⟨_, rfl⟩
  have bA : BoxN WS oA #[.int .i64 wd, .int .i64 hi, .slice (some ⟨qA, 0, none⟩) N cA] 37 := by rw [hWS, hoA]; exact box_first wP _ _ _ _ _
  have bB : BoxN WS (oA + 1) #[.int .i64 wd, .int .i64 hi, .slice (some ⟨qB, 0, none⟩) N cB] 37 := by rw [hWS, hoA]; exact box_second wP _ _ _ _ _
  replace mA := mA.below haS
  replace mB := mB.below haS
  replace hbel := hbel.trans (haS.mono hbel.size)
  have hcA := mA.cap
  have hcB := mB.cap
  clear hN hrow hR has hbs hv hb0 d1
  have HWS := Lib.hid hWS
  have HOA := Lib.hid hoA
  obtain ⟨zA0, zA1, zA2, -, -, -⟩ := bA.three.cells
  obtain ⟨zB0, zB1, zB2, -, -, -⟩ := bB.three.cells
  rw [hWS, hoA] at zA0 zA1 zA2 zB0 zB1 zB2
  clear hWS hoA haS
  go_wp2_with fail
  rw [← HWS.out, ← HOA.out]
  clear zA0 zA1 zA2 zB0 zB1 zB2
  refine (square_w _ wd hi dp N qA cA qB cB _ _ HV.out d2 d3 (mw_of mA) (mw_of mB)).mono ?_
  rintro e wV ⟨qV, cV, vbs, rfl, mV, hsq, -, bw⟩
  obtain ⟨M, hM⟩ : ∃ M, M = wd * hi * dp := ⟨_, rfl⟩
  rw [← hM] at mV ⊢
  have hvv : vVol wd hi dp M = true := by rw [hM]; exact vVol_mk HV.out d2 d3
  have HVV := Lib.hid hvv
  have HSQ := Lib.hid hsq
  clear hvv hM hsq
  have ha : Below wV.heap.size wV (wV.alloc (.cells #[.int .i64 wd, .int .i64 hi, .int .i64 dp, .slice (some ⟨qV, 0, none⟩) M cV] 44)) := (Below.refl _ _).alloc (Nat.le_refl _) _
  have bV := BoxN.last wV #[.int .i64 wd, .int .i64 hi, .int .i64 dp, .slice (some ⟨qV, 0, none⟩) M cV] 44
  replace mV := mV.below ha
  replace bA := (bA.below bw).below ha
  replace bB := (bB.below bw).below ha
  replace mA := (mA.below bw).below ha
  replace mB := (mB.below bw).below ha
  replace hbel := (hbel.trans (bw.mono hbel.size)).trans (ha.mono (Nat.le_trans hbel.size bw.size))
  clear bw ha
  obtain ⟨zV0, zV1, zV2, zV3, -, -, -, -⟩ := bV.four
  go_wp2_with fail
  generalize hoV : wV.heap.size = oV at *
  generalize hwV : wV.alloc (.cells #[.int .i64 wd, .int .i64 hi, .int .i64 dp, .slice (some ⟨qV, 0, none⟩) M cV] 44) = WV at *
  clear hoV hwV
  clear zV0 zV1 zV2 zV3
  refine (winners_q2 _ wd hi dp M N qV cV vbs HVV.out HN.out mV).mono ?_
  rintro e wW ⟨qW, cW, rfl, mW, -, bw⟩
  rw [wonL_sq HSQ.out N HN.out] at mW
  have ha : Below wW.heap.size wW (wW.alloc (.cells #[.int .i64 wd, .int .i64 hi, .slice (some ⟨qW, 0, none⟩) N cW] 27)) := (Below.refl _ _).alloc (Nat.le_refl _) _
  have bW := BoxN.last wW #[.int .i64 wd, .int .i64 hi, .slice (some ⟨qW, 0, none⟩) N cW] 27
  replace mW := mW.below ha
  replace bA := (bA.below bw).below ha
  replace bB := (bB.below bw).below ha
  replace mA := (mA.below bw).below ha
  replace mB := (mB.below bw).below ha
  replace bV := (bV.below bw).below ha
  replace mV := (mV.below bw).below ha
  replace hbel := (hbel.trans (bw.mono hbel.size)).trans (ha.mono (Nat.le_trans hbel.size bw.size))
  clear bw ha
  obtain ⟨zA0, zA1, zA2, -, -, -⟩ := bA.three.cells
  go_wp2_with fail
  generalize hoW : wW.heap.size = oW at *
  generalize hwW : wW.alloc (.cells #[.int .i64 wd, .int .i64 hi, .slice (some ⟨qW, 0, none⟩) N cW] 27) = WW at *
  clear hoW hwW
  clear zA0 zA1 zA2
  refine (flatMap_q _ wd hi N (4 * (b : Int)) (by omega) HV.out).mono ?_
  rintro e wF ⟨qF, cF, rfl, mF, -, bw⟩
  have ha : Below wF.heap.size wF (wF.alloc (.cells #[.int .i64 wd, .int .i64 hi, .slice (some ⟨qF, 0, none⟩) N cF] 27)) := (Below.refl _ _).alloc (Nat.le_refl _) _
  have bF := BoxN.last wF #[.int .i64 wd, .int .i64 hi, .slice (some ⟨qF, 0, none⟩) N cF] 27
  replace mF := mF.below ha
  replace bA := (bA.below bw).below ha
  replace bB := (bB.below bw).below ha
  replace mA := (mA.below bw).below ha
  replace mB := (mB.below bw).below ha
  replace bV := (bV.below bw).below ha
  replace mV := (mV.below bw).below ha
  replace bW := (bW.below bw).below ha
  replace mW := (mW.below bw).below ha
  replace hbel := (hbel.trans (bw.mono hbel.size)).trans (ha.mono (Nat.le_trans hbel.size bw.size))
  clear bw ha
  obtain ⟨zB0, zB1, zB2, -, -, -⟩ := bB.three.cells
  obtain ⟨zF0, zF1, zF2, -, -, -⟩ := bF.three.cells
  go_wp2_with fail
  generalize hoF : wF.heap.size = oF at *
  generalize hwF : wF.alloc (.cells #[.int .i64 wd, .int .i64 hi, .slice (some ⟨qF, 0, none⟩) N cF] 27) = WF at *
  clear hoF hwF
  clear zB0 zB1 zB2 zF0 zF1 zF2
  refine (warpPicture_q _ wd hi N qB cB qF cF b _ _ HV.out mB mF (by omega) (fun i hi_ => by rw [tabI_get hi_])).mono ?_
  rintro e wT ⟨qT, cT, rfl, mT, -, bw⟩
  have ha : Below wT.heap.size wT (wT.alloc (.cells #[.int .i64 wd, .int .i64 hi, .slice (some ⟨qT, 0, none⟩) N cT] 37)) := (Below.refl _ _).alloc (Nat.le_refl _) _
  have bT := BoxN.last wT #[.int .i64 wd, .int .i64 hi, .slice (some ⟨qT, 0, none⟩) N cT] 37
  replace mT := mT.below ha
  replace bA := (bA.below bw).below ha
  replace bB := (bB.below bw).below ha
  replace mA := (mA.below bw).below ha
  replace mB := (mB.below bw).below ha
  replace bV := (bV.below bw).below ha
  replace mV := (mV.below bw).below ha
  replace bW := (bW.below bw).below ha
  replace mW := (mW.below bw).below ha
  replace bF := (bF.below bw).below ha
  replace mF := (mF.below bw).below ha
  replace hbel := (hbel.trans (bw.mono hbel.size)).trans (ha.mono (Nat.le_trans hbel.size bw.size))
  clear bw ha
  obtain ⟨zA0, zA1, zA2, -, -, -⟩ := bA.three.cells
  obtain ⟨zB0, zB1, zB2, -, -, -⟩ := bB.three.cells
  go_wp2_with fail
  generalize hoT : wT.heap.size = oT at *
  generalize hwT : wT.alloc (.cells #[.int .i64 wd, .int .i64 hi, .slice (some ⟨qT, 0, none⟩) N cT] 37) = WT at *
  clear hoT hwT
  clear zA0 zA1 zA2 zB0 zB1 zB2
  refine (ctf_one_w _ wd hi dp N qA cA qB cB _ _ HV.out d2 d3 (mw_of mA) (mw_of mB)).mono ?_
  rintro e wC ⟨qC, cC, rfl, mC, -, bw⟩
  have ha : Below wC.heap.size wC (wC.alloc (.cells #[.int .i64 wd, .int .i64 hi, .slice (some ⟨qC, 0, none⟩) N cC] 27)) := (Below.refl _ _).alloc (Nat.le_refl _) _
  have bC := BoxN.last wC #[.int .i64 wd, .int .i64 hi, .slice (some ⟨qC, 0, none⟩) N cC] 27
  replace mC := mC.below ha
  replace bA := (bA.below bw).below ha
  replace bB := (bB.below bw).below ha
  replace mA := (mA.below bw).below ha
  replace mB := (mB.below bw).below ha
  replace bV := (bV.below bw).below ha
  replace mV := (mV.below bw).below ha
  replace bW := (bW.below bw).below ha
  replace mW := (mW.below bw).below ha
  replace bF := (bF.below bw).below ha
  replace mF := (mF.below bw).below ha
  replace bT := (bT.below bw).below ha
  replace mT := (mT.below bw).below ha
  replace hbel := (hbel.trans (bw.mono hbel.size)).trans (ha.mono (Nat.le_trans hbel.size bw.size))
  clear bw ha
  have hcC := mC.cap
  have hcW := mW.cap
  have hcT := mT.cap
  have hcF := mF.cap
  obtain ⟨zC0, zC1, zC2, -, -, -⟩ := bC.three.cells
  obtain ⟨zW0, zW1, zW2, -, -, -⟩ := bW.three.cells
  go_wp2_with fail
  generalize hoC : wC.heap.size = oC at *
  generalize hwC : wC.alloc (.cells #[.int .i64 wd, .int .i64 hi, .slice (some ⟨qC, 0, none⟩) N cC] 27) = WC at *
  clear hoC hwC
  clear zC0 zC1 zC2 zW0 zW1 zW2
  refine (sameMap_yes _ wd hi (some ⟨qC, 0, none⟩) (some ⟨qW, 0, none⟩) N N cC cW _ _ mC.sl mW.sl rfl).mono ?_
  rintro e wZ ⟨rfl, bw⟩
  replace bA := bA.below bw
  replace bB := bB.below bw
  replace mA := mA.below bw
  replace mB := mB.below bw
  replace bV := bV.below bw
  replace mV := mV.below bw
  replace bW := bW.below bw
  replace mW := mW.below bw
  replace bF := bF.below bw
  replace mF := mF.below bw
  replace bT := bT.below bw
  replace mT := mT.below bw
  replace bC := bC.below bw
  replace mC := mC.below bw
  replace hbel := hbel.trans (bw.mono hbel.size)
  clear bw
  obtain ⟨zW0, zW1, zW2, -, -, -⟩ := bW.three.cells
  go_wp2_with fail
  clear zW0 zW1 zW2
  refine (validMap_any _ _ _ _ _ (by omega) _).mono ?_
  rw [HV.out]
  rintro e wY ⟨rfl, bw⟩
  replace bA := bA.below bw
  replace bB := bB.below bw
  replace mA := mA.below bw
  replace mB := mB.below bw
  replace bV := bV.below bw
  replace mV := mV.below bw
  replace bW := bW.below bw
  replace mW := mW.below bw
  replace bF := bF.below bw
  replace mF := mF.below bw
  replace bT := bT.below bw
  replace mT := mT.below bw
  replace bC := bC.below bw
  replace mC := mC.below bw
  replace hbel := hbel.trans (bw.mono hbel.size)
  clear bw
  obtain ⟨zT0, zT1, zT2, -, -, -⟩ := bT.three.cells
  go_wp2_with fail
  clear zT0 zT1 zT2
  refine (validPicture_any _ _ _ _ _ (by omega) _).mono ?_
  rw [HV.out]
  rintro e wX ⟨rfl, bw⟩
  replace bA := bA.below bw
  replace bB := bB.below bw
  replace mA := mA.below bw
  replace mB := mB.below bw
  replace bV := bV.below bw
  replace mV := mV.below bw
  replace bW := bW.below bw
  replace mW := mW.below bw
  replace bF := bF.below bw
  replace mF := mF.below bw
  replace bT := bT.below bw
  replace mT := mT.below bw
  replace bC := bC.below bw
  replace mC := mC.below bw
  replace hbel := hbel.trans (bw.mono hbel.size)
  clear bw
  have SA := Lib.hid mA
  have SB := Lib.hid mB
  have SV := Lib.hid mV
  have SW := Lib.hid mW
  have SF := Lib.hid mF
  have ST := Lib.hid mT
  have BA := Lib.hid bA
  have BV := Lib.hid bV
  have BW := Lib.hid bW
  have BF := Lib.hid bF
  have BT := Lib.hid bT
  have HBEL := Lib.hid hbel
  obtain ⟨zA0, zA1, zA2, -, -, -⟩ := bA.three.cells
  clear mA mB mV mW mF mT mC bA bB bV bW bF bT bC hbel
  go_wp2_with fail
  clear zA0 zA1 zA2
  go_loopw [117] (fun v117 wr => ∃ i : Nat, v117 = .int .i64 i ∧ i ≤ N ∧ Below wX.heap.size wX wr) (fun v117 _ => N - (intOf v117).toNat)
  case atStart => exact ⟨0, rfl, Nat.zero_le _, Below.refl _ _⟩
  case round =>
    obtain ⟨i, rfl, hi_, hbw⟩ := hrel
    have HBW := Lib.hid hbw
    by_cases hlt : i < N
    · have kA := (SA.out.below hbw).get i hlt
      obtain ⟨zA0, zA1, zA2, -, -, -⟩ := (BA.out.below hbw).three.cells
      have hi2 : (i : Int) < (N : Int) := by omega
      have tm : ((i : Int) % (wd : Int)) = ((i % wd : Nat) : Int) := by simp
      have tq := wrap_div i wd (by omega)
      have tq2 : IntKind.i64.wrap ((i : Int) / (wd : Int)) = ((i / wd : Nat) : Int) := IntWalk.i64_in _ (by rw [← Int.natCast_ediv]; have := Nat.div_le_self i wd; generalize i / wd = q at *; omega)
      have wd0 : ¬ (wd : Int) = 0 := by omega
      have wd0' : ¬ wd = 0 := by omega
      have hxl : i % wd < wd := Nat.mod_lt _ (by omega)
      have hyl : i / wd < hi := Nat.div_lt_of_lt_mul (by rw [← HN.out]; exact hlt)
      have hxi : i % wd ≤ i := Nat.mod_le _ _
      have hcell := fun hb => shift_cell (b := b) HROW.out HR.out HN.out hlt (by omega) v2 hb3 hb
      rw [← HAS.out, ← HBS.out, ← HD.out] at hcell
      have hxy : i % wd + wd * (i / wd) = i := Nat.mod_add_div _ _
      have HCELL := Lib.hid hcell
      have HXY := Lib.hid hxy
      clear hcell hxy
      by_cases hbx : b ≤ i % wd
      · obtain ⟨w1, w2, w3⟩ := HCELL.out hbx
        have hg0 := tab3_getK HSQ.out hxl hyl (show b < dp by rw [HD.out]; omega)
        rw [w3] at hg0
        have he0 := eq_zero_of hg0
        have KCO := Lib.hid (fun W (hW : Below wX.heap.size wX W) => costAt_w W wd hi dp M qV cV (i % wd) (i / wd) b vbs hxl hyl (by rw [HD.out]; omega) HVV.out (SV.out.below hW))
        have KVA := Lib.hid (fun W (hW : Below wX.heap.size wX W) => valueAt_q W wd hi N qW cW (i % wd) (i / wd) _ hxl hyl HV.out (SW.out.below hW))
        rw [HXY.out, tabI_get hlt, w1] at KVA
        have e1 : eq32 (fq 2 (4 * (b : Int))) (fq 2 (4 * (b : Int))) = true := by rw [eq32_fq (by omega) (by omega)]; exact decide_eq_true rfl
        have KT := Lib.hid (fun W (hW : Below wX.heap.size wX W) => (ST.out.below hW).get i hlt)
        rw [tabI_get hlt, w2] at KT
        have hka := SA.out.kb i
        have e2 : eq32 (fq 2 (ak.getD i 0)) (fq 2 (ak.getD i 0)) = true := by rw [eq32_fq (by omega) (by omega)]; exact decide_eq_true rfl
        have KA := Lib.hid (fun W (hW : Below wX.heap.size wX W) => (SA.out.below hW).get i hlt)
        have n1 : decide (i % wd < b) = false := decide_eq_false (by omega)
        have n2 : decide (((i % wd : Nat) : Int) < (b : Int)) = false := decide_eq_false (by omega)
        clear w1 w2 w3 hg0 hka hbw kA
        generalize hx : i % wd = x at *
        generalize hy : i / wd = y at *
        generalize gc vbs wd dp x y b = gz at *
        generalize fq 2 (ak.getD i 0) = ga at *
        generalize fq 2 (4 * (b : Int)) = gb at *
        have HX := Lib.hid hx
        have HY := Lib.hid hy
        clear hx hy
        have CV := Lib.hid (show ∀ W, Below wX.heap.size wX W → Below wX.heap.size wX W ∧ W.cell? ⟨oV, 0, none⟩ = some (.int .i64 wd) ∧ W.cell? ⟨oV, 1, none⟩ = some (.int .i64 hi) ∧ W.cell? ⟨oV, 2, none⟩ = some (.int .i64 dp) ∧ W.cell? ⟨oV, 3, none⟩ = some (.slice (some ⟨qV, 0, none⟩) M cV) ∧ W.cell? ⟨oA, 0, none⟩ = some (.int .i64 wd) from fun W hW => by
          obtain ⟨u0, u1, u2, u3, -, -, -, -⟩ := (BV.out.below hW).four
          obtain ⟨t0, t1, t2, -, -, -⟩ := (BA.out.below hW).three.cells
          exact ⟨hW, u0, u1, u2, u3, t0⟩)
        have CW := Lib.hid (show ∀ W, Below wX.heap.size wX W → Below wX.heap.size wX W ∧ W.cell? ⟨oW, 0, none⟩ = some (.int .i64 wd) ∧ W.cell? ⟨oW, 1, none⟩ = some (.int .i64 hi) ∧ W.cell? ⟨oW, 2, none⟩ = some (.slice (some ⟨qW, 0, none⟩) N cW) ∧ W.cell? ⟨oA, 0, none⟩ = some (.int .i64 wd) from fun W hW => by
          obtain ⟨u0, u1, u2, -, -, -⟩ := (BW.out.below hW).three.cells
          obtain ⟨t0, t1, t2, -, -, -⟩ := (BA.out.below hW).three.cells
          exact ⟨hW, u0, u1, u2, t0⟩)
        have hA0 : Below wX.heap.size wX wr.drew := below_drewN HBW.out 1
        obtain ⟨v0, v1', v2', v3', -, -, -, -⟩ := (BV.out.below HBW.out).four
        go_upto_region 17 with fail
        go_region_held3 (fun W => Below wX.heap.size wX W ∧ W.cell? ⟨oV, 0, none⟩ = some (.int .i64 wd) ∧ W.cell? ⟨oV, 1, none⟩ = some (.int .i64 hi) ∧ W.cell? ⟨oV, 2, none⟩ = some (.int .i64 dp) ∧ W.cell? ⟨oV, 3, none⟩ = some (.slice (some ⟨qV, 0, none⟩) M cV) ∧ W.cell? ⟨oA, 0, none⟩ = some (.int .i64 wd))
          (first | (refine CV.out _ ?_; first | exact hbC | exact hA0 | exact HBW.out) | go_keep)
          ((go_at_call 24; (with_reducible refine (KCO.out _ hA0).mono ?_); rintro e w2 ⟨rfl, hbc⟩; have hbC := hA0.trans (hbc.mono hA0.size)))
        have HBC := Lib.hid hbC
        have hA1 : Below wX.heap.size wX w2.drew := below_drewN hbC 1
        obtain ⟨r0, r1, r2, -, -, -⟩ := (BW.out.below hbC).three.cells
        obtain ⟨s0, -, -, -, -, -⟩ := (BA.out.below hbC).three.cells
        clear hbc hbC v0 v1' v2' v3' hA0 zA0 zA1 zA2
        go_upto_region 18 with fail
        go_region_held3 (fun W => Below wX.heap.size wX W ∧ W.cell? ⟨oW, 0, none⟩ = some (.int .i64 wd) ∧ W.cell? ⟨oW, 1, none⟩ = some (.int .i64 hi) ∧ W.cell? ⟨oW, 2, none⟩ = some (.slice (some ⟨qW, 0, none⟩) N cW) ∧ W.cell? ⟨oA, 0, none⟩ = some (.int .i64 wd))
          (first | (refine CW.out _ ?_; first | exact hbC | exact hA1 | exact HBC.out) | go_keep)
          ((go_at_call 25; (with_reducible refine (KVA.out _ hA1).mono ?_); rintro e w3 ⟨rfl, hbc⟩; have hbC := hA1.trans (hbc.mono hA1.size)))
        have HBD := Lib.hid hbC
        have t1 := KT.out _ hbC
        have t2 := KA.out _ hbC
        obtain ⟨r0, r1, r2, -, -, -⟩ := (BT.out.below hbC).three.cells
        obtain ⟨s0, s1, s2, -, -, -⟩ := (BA.out.below hbC).three.cells
        clear hbc hbC hA1
        go_wp2_with fail
        go_quiet (fail)
        go_wp2_with fail
        go_roundw
        case rel => exact ⟨i + 1, by go_num, by omega, by first | exact below_drewN HBD.out _ | exact HBD.out⟩
        case measure => simp [intOf]; omega
      · have n1 : decide (i % wd < b) = true := decide_eq_true (by omega)
        have n2 : decide (((i % wd : Nat) : Int) < (b : Int)) = true := decide_eq_true (by omega)
        clear hbw kA
        generalize hx : i % wd = x at *
        have HX := Lib.hid hx
        clear hx tq tq2 hyl
        go_wp2_with fail
        go_roundw
        case rel => exact ⟨i + 1, by go_num, by omega, by first | exact below_drewN HBW.out _ | exact HBW.out⟩
        case measure => simp [intOf]; omega
    · have hiN : i = N := by omega
      have hbel := HBEL.out.trans (hbw.mono HBEL.out.size)
      have hmis : misF (tabI N (sqL (ak.map (fq 2)) (bk.map (fq 2)) wd hi dp)) (tabI N fun _ => 4 * (b : Int)) N ≤ b * hi := by
        have hy : hi - 1 + 1 = hi := by omega
        have e : wd + wd * (hi - 1) = N := by rw [HN.out, ← Nat.mul_one wd, ← hy, Nat.mul_add]; simp; omega
        have := mis_le (ks := tabI N (sqL (ak.map (fq 2)) (bk.map (fq 2)) wd hi dp)) (js := tabI N fun _ => 4 * (b : Int)) (wd := wd) (b := b) (by omega) (hi - 1) wd (Nat.le_refl _) (fun j hj hjb => by
          rw [e] at hj
          rw [tabI_get hj, tabI_get hj, HAS.out, HBS.out, HD.out]
          exact (shift_cell HROW.out HR.out HN.out hj (by omega) v2 hb3 hjb).1)
        rw [e] at this
        have h2 : b * hi = b * (hi - 1) + b := by rw [← Nat.mul_succ, Nat.succ_eq_add_one, hy]
        omega
      obtain ⟨r, v, u, hr, hqv, hav, hle1, hle2⟩ := share_ok hb3 v1 v2 v3 v4 hmis
      rw [← HN.out] at hr
      have hE := errF_le (ks := ak) wd hi b SA.out.kb N
      obtain ⟨r0, hr0, hle3, -⟩ := err_quo (s := errF ak wd hi b N) (by omega) hN0 hN1
      obtain ⟨r1, hr1, -, hz1⟩ := err_quo (s := errF ak wd hi 0 N) (by rw [err_zero HN.out (by omega) N (Nat.le_refl _)]; omega) hN0 hN1
      have hz2 := hz1 (err_zero HN.out (by omega) N (Nat.le_refl _))
      have K0 := Lib.hid (fun W => flatMap_q W wd hi N 0 (by omega) HV.out)
      rw [fq_zero] at K0
      have KW := Lib.hid (wrongShare_q wr wd hi N qW cW qF cF r _ _ HV.out (SW.out.below hbw) (SF.out.below hbw) hr)
      have KE := Lib.hid (fun W (hW : Below wX.heap.size wX W) => errorOf_q W wd hi N qA cA qF cF b r0 ak _ HV.out (SA.out.below hW) (SF.out.below hW) (by omega) (fun j hj => by rw [tabI_get hj]) hr0)
      have KZ := Lib.hid (fun W (qG cG : Nat) (hW : Below wX.heap.size wX W) (hG : MQ W qG cG N (tabI N fun _ => 0)) => errorOf_q W wd hi N qA cA qG cG 0 r1 ak _ HV.out (SA.out.below hW) hG (by omega) (fun j hj => by rw [tabI_get hj]; rfl) hr1)
      have ar1 := fres_some hqv
      have af1 := fdr_some hqv
      have ar2 := fres_some hav
      have af2 := fdr_some hav
      have AR := Lib.hid (And.intro ar1 (And.intro af1 (And.intro ar2 (And.intro af2 (And.intro hle1 (And.intro hle2 (And.intro hle3 hz2)))))))
      obtain ⟨zW0, zW1, zW2, -, -, -⟩ := (BW.out.below hbw).three.cells
      obtain ⟨zF0, zF1, zF2, -, -, -⟩ := (BF.out.below hbw).three.cells
      clear hr hqv hav hr0 hr1 hz1 hz2 hE hmis ar1 af1 ar2 af2 hle1 hle2 hle3 HBEL cvb hiN
      go_wp2_with fail
      refine KW.out.mono ?_
      rintro e w2 ⟨rfl, hb2⟩
      have hbx2 := hbw.trans (hb2.mono hbw.size)
      replace hbel := hbel.trans (hb2.mono hbel.size)
      clear zW0 zW1 zW2 zF0 zF1 zF2 hb2
      obtain ⟨zA0, zA1, zA2, -, -, -⟩ := (BA.out.below hbx2).three.cells
      obtain ⟨zF0, zF1, zF2, -, -, -⟩ := (BF.out.below hbx2).three.cells
      have HX2 := Lib.hid hbx2
      clear hbx2
      go_wp2_with fail
      refine (KE.out _ HX2.out).mono ?_
      rintro e w3 ⟨rfl, hb3'⟩
      have hbx3 := HX2.out.trans (hb3'.mono HX2.out.size)
      replace hbel := hbel.trans (hb3'.mono hbel.size)
      clear zA0 zA1 zA2 zF0 zF1 zF2 hb3'
      obtain ⟨zA0, zA1, zA2, -, -, -⟩ := (BA.out.below hbx3).three.cells
      have HX3 := Lib.hid hbx3
      clear hbx3
      go_wp2_with fail
      refine (K0.out _).mono ?_
      rintro e w4 ⟨qG, cG, rfl, mG, -, hb4⟩
      obtain ⟨W4, hW4⟩ : ∃ W, W = w4.alloc (.cells #[.int .i64 wd, .int .i64 hi, .slice (some ⟨qG, 0, none⟩) N cG] 27) := ⟨_, rfl⟩
      have ha4 : Below w4.heap.size w4 W4 := by rw [hW4]; exact alb1 w4 _
      obtain ⟨oG, hoG⟩ : ∃ o, o = w4.heap.size := ⟨_, rfl⟩
      have bG : BoxN W4 oG #[.int .i64 wd, .int .i64 hi, .slice (some ⟨qG, 0, none⟩) N cG] 27 := by rw [hW4, hoG]; exact BoxN.last w4 _ _
      have hb4' : Below w3.heap.size w3 W4 := hb4.trans (ha4.mono hb4.size)
      have hbx4 := HX3.out.trans (hb4'.mono HX3.out.size)
      replace hbel := hbel.trans (hb4'.mono hbel.size)
      have KZ4 := Lib.hid (KZ.out W4 qG cG hbx4 (mG.below ha4))
      have hbA := BA.out.below hbx4
      have BG := Lib.hid bG
      have HBA := Lib.hid hbA
      obtain ⟨zA0', zA1', zA2', -, -, -⟩ := hbA.three.cells
      obtain ⟨zG0, zG1, zG2, -, -, -⟩ := bG.three.cells
      rw [hW4] at zA0' zA1' zA2' zG0 zG1 zG2
      rw [hoG] at zG0 zG1 zG2
      have HW4 := Lib.hid hW4
      have HOG := Lib.hid hoG
      have hcA2 := hcA
      have hcG := mG.cap
      clear zA0 zA1 zA2 bG hbA hb4 ha4 hb4' hW4 hoG mG hbx4
      go_wp2_with fail
      rw [← HW4.out]
      refine KZ4.out.mono ?_
      rintro e w5 ⟨rfl, hb5⟩
      replace hbel := hbel.trans (hb5.mono hbel.size)
      clear zA0' zA1' zA2' zG0 zG1 zG2
      obtain ⟨zA0, zA1, zA2, -, -, -⟩ := (HBA.out.below hb5).three.cells
      obtain ⟨ar1, af1, ar2, af2, hle1, hle2, hle3, hz2⟩ := AR.out
      have hd0 : ∀ W : World, W.drewN 0 = W := fun _ => rfl
      clear hb5
      go_wp2_with fail
      go_ret
      exact ⟨rfl, hbel⟩

theorem fnShifts_walk (w : World) (a0 a1 : Option Addr) (l0 c0 l1 c1 : Nat) (z0 z1 : List Int)
    (r0 : (a0 = none ∧ l0 = 0 ∧ c0 = 0 ∧ z0 = []) ∨ ∃ x, a0 = some x ∧ l0 ≤ c0 ∧ c0 ≤ maxLen ∧ z0.length = c0 ∧ (∀ i, i < z0.length → w.cell? (x.add i) = some (.int .u8 (z0.getD i 0))) ∧ ∀ n ∈ z0, (Lit.int .u8 n).wf = true)
    (r1 : (a1 = none ∧ l1 = 0 ∧ c1 = 0 ∧ z1 = []) ∨ ∃ x, a1 = some x ∧ l1 ≤ c1 ∧ c1 ≤ maxLen ∧ z1.length = c1 ∧ (∀ i, i < z1.length → w.cell? (x.add i) = some (.int .u8 (z1.getD i 0))) ∧ ∀ n ∈ z1, (Lit.int .u8 n).wf = true) :
    Calls Try.prog 4 #[.slice a0 l0 c0, .slice a1 l1 c1] w fun e w' => e = .returned (.bool true) ∧ Below w.heap.size w w' := by
  by_cases h : l0 ≤ 1048576 ∧ l1 ≤ 1048576
  · exact fnShifts_short w a0 a1 l0 c0 l1 c1 h.1 h.2 (bytesIn_of_row r0 (by omega)) (bytesIn_of_row r1 (by omega))
  · exact fnShifts_long w a0 a1 l0 c0 l1 c1 (len_of_row r0) (len_of_row r1) h

end Go.Proofs.Ytmpbnmmpniganaa
