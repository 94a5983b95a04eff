/- The law of ranks: the walk of its code. No condition. -/
import Derived.Test.YtialajgobpokmaaRf
import Derived.Deep.RegionHeld3
import Derived.StillTactics
namespace Go.Proofs.Ytialajgobpokmaa
open Go.RowKit
set_option maxRecDepth 100000
set_option linter.unusedVariables false
set_option linter.unusedSimpArgs false

theorem fnRanks_long (w : World) (a0 a1 : Option Addr) (l0 c0 l1 c1 : Nat) (m0 : l0 ≤ 9223372036854775807) (m1 : l1 ≤ 9223372036854775807) (h : ¬ (l0 ≤ 48 ∧ l1 ≤ 48)) :
    Calls Try.prog 4 #[.slice a0 l0 c0, .slice a1 l1 c1] w fun e w' => e = .returned (.bool true) ∧ Below w.heap.size w w' := by
  go_enter Try.func4, Try.ntmps4
  go_wp2_with fail
  refine (r8Long_yes _ _ _ _ _ _ _ m0 m1 h).mono ?_
  rintro e w' ⟨rfl, rfl⟩
  go_wp2
  go_ret
  exact ⟨rfl, Below.refl _ _⟩

set_option maxHeartbeats 40000000 in
theorem fnRanks_short (w : World) (a0 a1 : Option Addr) (l0 c0 l1 c1 : Nat) (h0 : l0 ≤ 48) (h1 : l1 ≤ 48) (hb0 : BytesIn w a0 l0) (hb1 : BytesIn w a1 l1) :
    Calls Try.prog 4 #[.slice a0 l0 c0, .slice a1 l1 c1] w fun e w' => e = .returned (.bool true) ∧ Below w.heap.size w w' := by
  go_enter Try.func4, Try.ntmps4
  go_wp2_with fail
  refine (r8Long_no _ _ _ _ _ _ _ h0 h1).mono ?_
  rintro e w' ⟨rfl, rfl⟩
  go_wp2_with fail
  refine (r8Picture_any _ _ _ _ hb0).mono ?_
  rintro e wP ⟨wd, hi, a, cP, bs, rfl, v1, v2, v3, v4, hbl, hown, hq, bw⟩
  obtain ⟨ks, rfl, hk⟩ := exists_ks bs hq
  obtain ⟨N, hN⟩ : ∃ N, N = wd * hi := ⟨_, rfl⟩
  rw [hbl, ← hN] at hown ⊢
  have hN1 : N ≤ 24 := by rw [hN]; exact Nat.mul_le_mul v2 v4
  have hN0 : 1 ≤ N := by rw [hN]; exact Nat.mul_pos (by omega) v3
  obtain ⟨qP, rfl⟩ := own_ptr hown (by rw [hbl, ← hN]; exact hN0)
  have pP : PW wP qP cP N (ks.map (fq 2)) := ⟨hown.sl, (hown.lt (k := qP) rfl).2, by rw [hbl, hN]⟩
  have hv : vPic wd hi N = true := by rw [hN]; exact vPic_of (by omega) (by omega) v3 (by omega) (by rw [← hN]; omega)
  have hkl : ks.length = N := by have := hbl; rw [List.length_map] at this; rw [this, hN]
  obtain ⟨L, H, gL, gH, gF, gL0, gLH, gH16, gB⟩ := range_q (ks := ks) (by rw [hkl]; exact hN0) hk
  rw [hkl] at gB
  have HV := Lib.hid hv
  have HNN := Lib.hid hN
  have HKL := Lib.hid hkl
  have HK := Lib.hid hk
  have HGL := Lib.hid gL
  have HGH := Lib.hid gH
  have HGF := Lib.hid gF
  have HGB := Lib.hid gB
  have HK1 := Lib.hid (show ∀ k ∈ ks, 0 ≤ k ∧ k ≤ 1000 from fun k h => by have := hk k h; omega)
  have HK2 := Lib.hid (show ∀ k ∈ (ks.map fun k => 2 * k + 12), 0 ≤ k ∧ k ≤ 1000 from fun k h => by obtain ⟨j, h1, h2⟩ := List.mem_map.1 h; have := hk j h1; omega)
  have HFK := Lib.hid (show ∀ z ∈ ks.map (fq 2), fin32 z = true from fun z hz => by obtain ⟨k, k1, rfl⟩ := List.mem_map.1 hz; exact fq_fin (by have := hk k k1; omega))
  have hmul : (wd : Int) * (hi : Int) = (N : Int) := by rw [hN]; simp
  have HMUL := Lib.hid hmul
  have hbel := bw
  replace hb1 := hb1.below bw
  clear hv hkl hk hbl hown hq hN hb0 gL gH gF gB hmul
  have ha : Below wP.heap.size wP (wP.alloc (.cells #[.int .i64 wd, .int .i64 hi, .slice (some ⟨qP, 0, none⟩) N cP] 26)) := (Below.refl _ _).alloc (Nat.le_refl _) _
  have bP := BoxN.last wP #[.int .i64 wd, .int .i64 hi, .slice (some ⟨qP, 0, none⟩) N cP] 26
  replace pP := pP.below ha
  replace hb1 := hb1.below ha
  replace hbel := hbel.trans (ha.mono hbel.size)
  clear bw ha
  go_wp2_with fail
  generalize hoP : wP.heap.size = oP at *
  generalize hwP : wP.alloc (.cells #[.int .i64 wd, .int .i64 hi, .slice (some ⟨qP, 0, none⟩) N cP] 26) = WP at *
  clear hoP hwP
  refine (r8At_any _ _ _ _ 0 2 (by omega) (by omega) (by omega) hb1).mono ?_
  rintro e w' ⟨x, rfl, x0, x1, rfl⟩
  obtain ⟨d, rfl⟩ := Int.eq_ofNat_of_zero_le x0
  obtain ⟨r, hr⟩ : ∃ r : Nat, 1 + (d : Int) = (r : Int) := ⟨1 + d, by omega⟩
  have r1 : 1 ≤ r := by omega
  have r2 : r ≤ 2 := by omega
  clear x0 x1
  obtain ⟨zP0, zP1, zP2, -, -, -⟩ := bP.three.cells
  go_wp2_with fail
  clear zP0 zP1 zP2
  refine (ranksOf_q _ wd hi N qP cP r ks HV.out pP HK1.out r1 r2).mono ?_
  rintro e wA ⟨gA, cA, rfl, oA, bw⟩
  clear hr
  replace bP := bP.below bw
  replace pP := pP.below bw
  replace hb1 := hb1.below bw
  replace hbel := hbel.trans (bw.mono hbel.size)
  clear bw
  obtain ⟨zP0, zP1, zP2, -, -, -⟩ := bP.three.cells
  go_wp2_with fail
  clear zP0 zP1 zP2
  refine (scaleP_pw _ wd hi N qP cP _ 1073741824 1077936128 HV.out pP).mono ?_
  rintro e wS ⟨qS, cS, bsS, rfl, pS, cnS, bw⟩
  have hSS := scl_words HV.out HKL.out HK.out pS.len cnS
  subst hSS
  clear cnS
  have ha : Below wS.heap.size wS (wS.alloc (.cells #[.int .i64 wd, .int .i64 hi, .slice (some ⟨qS, 0, none⟩) N cS] 26)) := (Below.refl _ _).alloc (Nat.le_refl _) _
  have bS := BoxN.last wS #[.int .i64 wd, .int .i64 hi, .slice (some ⟨qS, 0, none⟩) N cS] 26
  replace pS := pS.below ha
  replace bP := (bP.below bw).below ha
  replace pP := (pP.below bw).below ha
  replace hb1 := (hb1.below bw).below ha
  replace oA := (oA.below bw).below ha
  replace hbel := (hbel.trans (bw.mono hbel.size)).trans (ha.mono (Nat.le_trans hbel.size bw.size))
  clear bw ha
  obtain ⟨zS0, zS1, zS2, -, -, -⟩ := bS.three.cells
  go_wp2_with fail
  generalize hoS : wS.heap.size = oS at *
  generalize hwS : wS.alloc (.cells #[.int .i64 wd, .int .i64 hi, .slice (some ⟨qS, 0, none⟩) N cS] 26) = WS at *
  clear hoS hwS
  clear zS0 zS1 zS2
  refine (ranksOf_q _ wd hi N qS cS r _ HV.out pS HK2.out r1 r2).mono ?_
  rintro e wB ⟨gB, cB, rfl, oB, bw⟩
  rw [rkL_scale (by rw [HKL.out, HNN.out]) (by omega) (by omega)] at oB
  replace bP := bP.below bw
  replace pP := pP.below bw
  replace hb1 := hb1.below bw
  replace oA := oA.below bw
  replace bS := bS.below bw
  replace pS := pS.below bw
  replace hbel := hbel.trans (bw.mono hbel.size)
  clear bw
  clear bS pS
  obtain ⟨zP0, zP1, zP2, -, -, -⟩ := bP.three.cells
  go_wp2_with fail
  clear zP0 zP1 zP2
  refine (r8At_any _ _ _ _ 1 wd (by omega) (by omega) (by omega) hb1).mono ?_
  rintro e w' ⟨x, rfl, x0, x1, rfl⟩
  obtain ⟨X, rfl⟩ := Int.eq_ofNat_of_zero_le x0
  have hX : X < wd := by omega
  clear x0 x1
  obtain ⟨zP0, zP1, zP2, -, -, -⟩ := bP.three.cells
  go_wp2_with fail
  clear zP0 zP1 zP2
  refine (r8At_any _ _ _ _ 2 hi (by omega) (by omega) (by omega) hb1).mono ?_
  rintro e w' ⟨x, rfl, x0, x1, rfl⟩
  obtain ⟨Y, rfl⟩ := Int.eq_ofNat_of_zero_le x0
  have hY : Y < hi := by omega
  clear x0 x1
  obtain ⟨zP0, zP1, zP2, -, -, -⟩ := bP.three.cells
  go_wp2_with fail
  clear zP0 zP1 zP2
  refine (rankAt_q _ wd hi N qP cP X Y r ks HV.out pP HK1.out hX hY r1 r2).mono ?_
  rintro e wC ⟨rfl, bw⟩
  replace bP := bP.below bw
  replace pP := pP.below bw
  replace hb1 := hb1.below bw
  replace oA := oA.below bw
  replace oB := oB.below bw
  replace hbel := hbel.trans (bw.mono hbel.size)
  clear bw
  have hat := rankF_lt ks wd hi (X : Int) (Y : Int) r1 r2
  have hot := rankF_lt ks wd hi ((0 : Nat) : Int) ((0 : Nat) : Int) r1 r2
  have cA1 := oA.cellAt (X + wd * Y) (by rw [rkL_len, HNN.out, ← ix_in hX hY]; exact ix_lt _ _ (by omega) (by omega))
  rw [rkL_at HNN.out hX hY] at cA1
  have cA0 := oA.cellAt 0 (by rw [rkL_len]; omega)
  have e0 := rkL_at (ks := ks) (r := r) HNN.out (x := 0) (y := 0) (show 0 < wd by omega) (show 0 < hi by omega)
  rw [show 0 + wd * 0 = 0 by simp] at e0
  rw [e0] at cA0
  clear e0
  generalize rankF ks wd hi r (X : Int) (Y : Int) = at_ at *
  generalize rankF ks wd hi r ((0 : Nat) : Int) ((0 : Nat) : Int) = ot at *
  obtain ⟨hat1, hat2⟩ := hat
  have hot1 := hot.1
  have AT := Lib.hid hat1
  have OT := Lib.hid hot1
  have KL := Lib.hid (r8List_yes _ _ _ gA cA gB cB N _ oA oB)
  have W0_ : (wd : Int) * (hi : Int) = (N : Int) := HMUL.out
  have hmulY : wd * Y ≤ 6 * 4 := Nat.mul_le_mul v2 (by omega)
  have hlt : X + wd * Y < N := by rw [HNN.out, ← ix_in hX hY]; exact ix_lt _ _ (by omega) (by omega)
  have wm : IntKind.i64.wrap ((wd : Int) * (hi : Int)) = (N : Int) := by rw [HMUL.out]; exact IntWalk.i64_in _ (by omega)
  have w1 : IntKind.i64.wrap ((wd : Int) * (Y : Int)) = (wd : Int) * (Y : Int) := IntWalk.i64_in _ (by rw [← Int.natCast_mul]; omega)
  have w2 : IntKind.i64.wrap ((X : Int) + (wd : Int) * (Y : Int)) = (X : Int) + (wd : Int) * (Y : Int) := IntWalk.i64_in _ (by rw [← Int.natCast_mul]; omega)
  have w3 : (0 : Int) ≤ (X : Int) + (wd : Int) * (Y : Int) := by rw [← Int.natCast_mul]; omega
  have w4 : (X : Int) + (wd : Int) * (Y : Int) < (N : Int) := by rw [← Int.natCast_mul]; omega
  have w5 : ((X : Int) + (wd : Int) * (Y : Int)).toNat = X + wd * Y := by rw [← Int.natCast_mul]; omega
  have at0 : decide ((at_ : Int) < 0) = false := decide_eq_false (by omega)
  have at1 : decide ((16777216 : Int) ≤ (at_ : Int)) = false := decide_eq_false (by omega)
  obtain ⟨zP0, zP1, zP2, -, -, -⟩ := bP.three.cells
  have HB1 := Lib.hid hb1
  have HBEL := Lib.hid hbel
  have HBP := Lib.hid bP
  have HPP := Lib.hid pP
  have HOA := Lib.hid oA
  have HHLT := Lib.hid hlt
  clear hot hot1 hat1 hb1 hbel bP pP oA oB hlt hmulY HMUL
  have e12 : r = 1 ∨ r = 2 := by omega
  rcases e12 with e12 | e12
  · have k1 : ((r : Int) == 1) = true := by rw [e12]; rfl
    have k2 : decide ((256 : Int) ≤ (at_ : Int)) = false := decide_eq_false (by have := hat2 e12; omega)
    have HR := Lib.hid e12
    clear e12 hat2
    go_wp2_with fail
    refine KL.out.mono ?_
    rintro e wL ⟨rfl, n, hw⟩
    have bw : Below wC.heap.size wC wL := by rw [hw]; exact below_drewN (Below.refl _ _) n
    clear hw
    have cA1' := cA1
    have hA := HOA.out.below bw
    have yA1 : wL.cell? ⟨gA, X + wd * Y, none⟩ = some (.int .i64 at_) := by rw [bw.cell (p := ⟨gA, _, none⟩) (HOA.out.lt (k := gA) rfl).2]; exact cA1
    have yA0 : wL.cell? ⟨gA, 0, none⟩ = some (.int .i64 ot) := by rw [bw.cell (p := ⟨gA, _, none⟩) (HOA.out.lt (k := gA) rfl).2]; exact cA0
    have bP := HBP.out.below bw
    have pP := HPP.out.below bw
    have hb1 := HB1.out.below bw
    have hbel := HBEL.out.trans (bw.mono HBEL.out.size)
    obtain ⟨yP0, yP1, yP2, -, -, -⟩ := bP.three.cells
    have HA := Lib.hid hA
    have HBEL2 := Lib.hid hbel
    have HPP2 := Lib.hid pP
    have HBP2 := Lib.hid bP
    clear KL cA1 cA0 cA1' zP0 zP1 zP2 HBEL HBP HPP HOA HB1 hA hbel pP bP hb1 bw
    have x0 : onesF (at_ ^^^ at_) = 0 := by rw [Nat.xor_self]; exact (onesF_zero (by decide)).2 rfl
    have x1 : onesF (ot ^^^ at_) = onesF (at_ ^^^ ot) := by rw [Nat.xor_comm]
    have x2 : onesF (at_ ^^^ (16777215 - at_)) = 24 := by rw [xor_all AT.out]; exact onesF_all
    have x3 : (((onesF (at_ ^^^ ot) : Nat) : Int) == 0) = decide (at_ = ot) := by
      have h1 := onesF_zero (xor_lt AT.out OT.out)
      have h2 : at_ ^^^ ot = 0 ↔ at_ = ot := xor_zero at_ ot
      by_cases hh : at_ = ot
      · rw [decide_eq_true hh, beq_iff_eq, h1.2 (h2.2 hh)]; rfl
      · rw [decide_eq_false hh, beq_eq_false_iff_ne]; intro g; exact hh (h2.1 (h1.1 (by omega)))
    have x4 : ((at_ : Int) == (ot : Int)) = decide (at_ = ot) := by
      by_cases hh : at_ = ot
      · rw [decide_eq_true hh, beq_iff_eq, hh]
      · rw [decide_eq_false hh, beq_eq_false_iff_ne]; intro g; exact hh (by omega)
    have x5 : (16777215 : Int) - (at_ : Int) = ((16777215 - at_ : Nat) : Int) := by have := AT.out; omega
    have X0 := Lib.hid x0
    have X1 := Lib.hid x1
    have X2 := Lib.hid x2
    generalize decide (at_ = ot) = bb at *
    obtain ⟨cm, hcm⟩ : ∃ cm, cm = 16777215 - at_ := ⟨_, rfl⟩
    rw [← hcm] at x5
    have HCM := Lib.hid hcm
    have AT2 := Lib.hid (show cm < 16777216 by omega)
    clear x0 x1 x2 hcm
    go_wp2_with fail
    refine (dist_any at_ at_ AT.out AT.out _).mono ?_
    rintro e w' ⟨rfl, rfl⟩
    rw [X0.out]
    go_wp2_with fail
    refine (dist_any at_ ot AT.out OT.out _).mono ?_
    rintro e w' ⟨rfl, rfl⟩
    go_wp2_with fail
    refine (dist_any ot at_ OT.out AT.out _).mono ?_
    rintro e w' ⟨rfl, rfl⟩
    rw [X1.out]
    go_wp2_with fail
    refine (dist_any at_ ot AT.out OT.out _).mono ?_
    rintro e w' ⟨rfl, rfl⟩
    go_wp2_with fail
    refine (dist_any at_ cm AT.out AT2.out _).mono ?_
    rintro e w' ⟨rfl, rfl⟩
    rw [show onesF (at_ ^^^ cm) = 24 by rw [HCM.out]; exact X2.out]
    have bP := HBP2.out
    have pP := HPP2.out
    have hbel := HBEL2.out
    clear yP0 yP1 yP2 yA1 yA0 HBP2 HPP2 HBEL2 HA
    obtain ⟨zP0, zP1, zP2, -, -, -⟩ := bP.three.cells
    go_wp2_with fail
    clear zP0 zP1 zP2
    refine (slope_pw _ wd hi N qP cP _ HV.out pP).mono ?_
    rintro e wL ⟨qL, cL, bsL, rfl, pL, cnL, bw⟩
    have CL := Lib.hid cnL
    clear cnL
    have ha : Below wL.heap.size wL (wL.alloc (.cells #[.int .i64 wd, .int .i64 hi, .slice (some ⟨qL, 0, none⟩) N cL] 26)) := (Below.refl _ _).alloc (Nat.le_refl _) _
    have bL := BoxN.last wL #[.int .i64 wd, .int .i64 hi, .slice (some ⟨qL, 0, none⟩) N cL] 26
    replace pL := pL.below ha
    replace bP := (bP.below bw).below ha
    replace pP := (pP.below bw).below ha
    replace hbel := (hbel.trans (bw.mono hbel.size)).trans (ha.mono (Nat.le_trans hbel.size bw.size))
    clear bw ha
    obtain ⟨zP0, zP1, zP2, -, -, -⟩ := bP.three.cells
    go_wp2_with fail
    generalize hoL : wL.heap.size = oL at *
    generalize hwL : wL.alloc (.cells #[.int .i64 wd, .int .i64 hi, .slice (some ⟨qL, 0, none⟩) N cL] 26) = WL at *
    clear hoL hwL
    clear zP0 zP1 zP2
    refine (mirror_pw _ wd hi N qP cP _ HV.out pP).mono ?_
    rintro e wM ⟨qM, cM, bsM, rfl, pM, cnM, bw⟩
    have CM := Lib.hid cnM
    clear cnM
    have ha : Below wM.heap.size wM (wM.alloc (.cells #[.int .i64 wd, .int .i64 hi, .slice (some ⟨qM, 0, none⟩) N cM] 26)) := (Below.refl _ _).alloc (Nat.le_refl _) _
    have bM := BoxN.last wM #[.int .i64 wd, .int .i64 hi, .slice (some ⟨qM, 0, none⟩) N cM] 26
    replace pM := pM.below ha
    replace bP := (bP.below bw).below ha
    replace pP := (pP.below bw).below ha
    replace bL := (bL.below bw).below ha
    replace pL := (pL.below bw).below ha
    replace hbel := (hbel.trans (bw.mono hbel.size)).trans (ha.mono (Nat.le_trans hbel.size bw.size))
    clear bw ha
    obtain ⟨zM0, zM1, zM2, -, -, -⟩ := bM.three.cells
    go_wp2_with fail
    generalize hoM : wM.heap.size = oM at *
    generalize hwM : wM.alloc (.cells #[.int .i64 wd, .int .i64 hi, .slice (some ⟨qM, 0, none⟩) N cM] 26) = WM at *
    clear hoM hwM
    clear zM0 zM1 zM2
    refine (slope_pw _ wd hi N qM cM _ HV.out pM).mono ?_
    rintro e wB2 ⟨qB, cB2, bsB, rfl, pB, cnB, bw⟩
    have CB := Lib.hid cnB
    clear cnB
    have HMM := Lib.hid pM.len
    clear bM pM
    have pB2 := pB
    clear pB
    have ha : Below wB2.heap.size wB2 (wB2.alloc (.cells #[.int .i64 wd, .int .i64 hi, .slice (some ⟨qB, 0, none⟩) N cB2] 26)) := (Below.refl _ _).alloc (Nat.le_refl _) _
    have bB2 := BoxN.last wB2 #[.int .i64 wd, .int .i64 hi, .slice (some ⟨qB, 0, none⟩) N cB2] 26
    replace pB2 := pB2.below ha
    replace bP := (bP.below bw).below ha
    replace pP := (pP.below bw).below ha
    replace bL := (bL.below bw).below ha
    replace pL := (pL.below bw).below ha
    replace hbel := (hbel.trans (bw.mono hbel.size)).trans (ha.mono (Nat.le_trans hbel.size bw.size))
    clear bw ha
    obtain ⟨zB20, zB21, zB22, -, -, -⟩ := bB2.three.cells
    go_wp2_with fail
    generalize hoB2 : wB2.heap.size = oB2 at *
    generalize hwB2 : wB2.alloc (.cells #[.int .i64 wd, .int .i64 hi, .slice (some ⟨qB, 0, none⟩) N cB2] 26) = WB2 at *
    clear hoB2 hwB2
    clear zB20 zB21 zB22
    refine (mirror_pw _ wd hi N qB cB2 _ HV.out pB2).mono ?_
    rintro e wT ⟨qT, cT, bsT, rfl, pT, cnT, bw⟩
    have CT := Lib.hid cnT
    clear cnT
    have ha : Below wT.heap.size wT (wT.alloc (.cells #[.int .i64 wd, .int .i64 hi, .slice (some ⟨qT, 0, none⟩) N cT] 26)) := (Below.refl _ _).alloc (Nat.le_refl _) _
    have bT := BoxN.last wT #[.int .i64 wd, .int .i64 hi, .slice (some ⟨qT, 0, none⟩) N cT] 26
    replace pT := pT.below ha
    replace bP := (bP.below bw).below ha
    replace pP := (pP.below bw).below ha
    replace bL := (bL.below bw).below ha
    replace pL := (pL.below bw).below ha
    replace bB2 := (bB2.below bw).below ha
    replace pB2 := (pB2.below bw).below ha
    replace hbel := (hbel.trans (bw.mono hbel.size)).trans (ha.mono (Nat.le_trans hbel.size bw.size))
    clear bw ha
    obtain ⟨zT0, zT1, zT2, -, -, -⟩ := bT.three.cells
    go_wp2_with fail
    generalize hoT : wT.heap.size = oT at *
    generalize hwT : wT.alloc (.cells #[.int .i64 wd, .int .i64 hi, .slice (some ⟨qT, 0, none⟩) N cT] 26) = WT at *
    clear hoT hwT
    clear zT0 zT1 zT2
    refine (scaleP_pw _ wd hi N qT cT _ 3212836864 0 HV.out pT).mono ?_
    rintro e wO ⟨qO, cO, bsO, rfl, pO, cnO, bw⟩
    have hOO := slp_back HV.out HKL.out HK.out pL.len pB2.len pT.len pO.len CL.out CM.out CB.out CT.out cnO
    subst hOO
    have HFL := Lib.hid (show ∀ z ∈ bsO, fin32 z = true from fun z hz => slp_fin HV.out HKL.out HK.out pL.len CL.out z hz)
    clear cnO CL CM CB CT HMM bB2 pB2 bT pT
    have ha : Below wO.heap.size wO (wO.alloc (.cells #[.int .i64 wd, .int .i64 hi, .slice (some ⟨qO, 0, none⟩) N cO] 26)) := (Below.refl _ _).alloc (Nat.le_refl _) _
    have bO := BoxN.last wO #[.int .i64 wd, .int .i64 hi, .slice (some ⟨qO, 0, none⟩) N cO] 26
    replace pO := pO.below ha
    replace bP := (bP.below bw).below ha
    replace pP := (pP.below bw).below ha
    replace bL := (bL.below bw).below ha
    replace pL := (pL.below bw).below ha
    replace hbel := (hbel.trans (bw.mono hbel.size)).trans (ha.mono (Nat.le_trans hbel.size bw.size))
    clear bw ha
    obtain ⟨zP0, zP1, zP2, -, -, -⟩ := bP.three.cells
    go_wp2_with fail
    generalize hoO : wO.heap.size = oO at *
    generalize hwO : wO.alloc (.cells #[.int .i64 wd, .int .i64 hi, .slice (some ⟨qO, 0, none⟩) N cO] 26) = WO at *
    clear hoO hwO
    clear zP0 zP1 zP2
    refine (norm_pw _ wd hi N qP cP ks L H HV.out pP HGL.out HGH.out HGF.out gL0 gLH gH16 HGB.out HK.out).mono ?_
    rintro e wQ ⟨qQ, cQ, bsQ, rfl, pQ, cnQ, bw⟩
    obtain ⟨nf, nt, n0, n1, n2⟩ := nrm_range HV.out HKL.out HK.out HGL.out HGH.out gL0 gLH gH16 HGB.out pQ.len cnQ
    have NF := Lib.hid nf
    have NT := Lib.hid nt
    have N0_ := Lib.hid n0
    have N1_ := Lib.hid n1
    have N2_ := Lib.hid n2
    clear cnQ nf nt n0 n1 n2
    have ha : Below wQ.heap.size wQ (wQ.alloc (.cells #[.int .i64 wd, .int .i64 hi, .slice (some ⟨qQ, 0, none⟩) N cQ] 26)) := (Below.refl _ _).alloc (Nat.le_refl _) _
    have bQ := BoxN.last wQ #[.int .i64 wd, .int .i64 hi, .slice (some ⟨qQ, 0, none⟩) N cQ] 26
    replace pQ := pQ.below ha
    replace bP := (bP.below bw).below ha
    replace pP := (pP.below bw).below ha
    replace bL := (bL.below bw).below ha
    replace pL := (pL.below bw).below ha
    replace bO := (bO.below bw).below ha
    replace pO := (pO.below bw).below ha
    replace hbel := (hbel.trans (bw.mono hbel.size)).trans (ha.mono (Nat.le_trans hbel.size bw.size))
    clear bw ha
    obtain ⟨zP0, zP1, zP2, -, -, -⟩ := bP.three.cells
    go_wp2_with fail
    generalize hoQ : wQ.heap.size = oQ at *
    generalize hwQ : wQ.alloc (.cells #[.int .i64 wd, .int .i64 hi, .slice (some ⟨qQ, 0, none⟩) N cQ] 26) = WQ at *
    clear hoQ hwQ
    clear zP0 zP1 zP2
    refine (range_pw _ wd hi N qP cP _ HV.out pP HFK.out).mono ?_
    rintro e wU ⟨rfl, bw⟩
    rw [HGL.out, HGH.out, HGF.out]
    replace bP := bP.below bw
    replace pP := pP.below bw
    replace bL := bL.below bw
    replace pL := pL.below bw
    replace bO := bO.below bw
    replace pO := pO.below bw
    replace bQ := bQ.below bw
    replace pQ := pQ.below bw
    replace hbel := hbel.trans (bw.mono hbel.size)
    clear bw
    obtain ⟨zQ0, zQ1, zQ2, -, -, -⟩ := bQ.three.cells
    go_wp2_with fail
    clear zQ0 zQ1 zQ2
    refine (range_pw _ wd hi N qQ cQ _ HV.out pQ NF.out).mono ?_
    rintro e wY ⟨rfl, bw⟩
    rw [N0_.out, NT.out]
    replace bP := bP.below bw
    replace pP := pP.below bw
    replace bL := bL.below bw
    replace pL := pL.below bw
    replace bO := bO.below bw
    replace pO := pO.below bw
    replace bQ := bQ.below bw
    replace pQ := pQ.below bw
    replace hbel := hbel.trans (bw.mono hbel.size)
    clear bw
    obtain ⟨zL0, zL1, zL2, -, -, -⟩ := bL.three.cells
    obtain ⟨zO0, zO1, zO2, -, -, -⟩ := bO.three.cells
    go_wp2_with fail
    clear zL0 zL1 zL2 zO0 zO1 zO2
    refine (unlike_pw _ wd hi N qL cL qO cO _ 0 HV.out pL pO HFL.out (by decide)).mono ?_
    rintro e wZ ⟨rfl, bw⟩
    replace hbel := hbel.trans (bw.mono hbel.size)
    clear bw bP pP bL pL bO pO bQ pQ
    have HBE := Lib.hid hbel
    clear hbel
    have q1 := eq32_fq (g := 2) (a := L) (b := H) (by omega) (by omega)
    have q2 := lt32_fq (g := 2) (a := L) (b := H) (by omega) (by omega)
    have q3 : eq32 0 0 = true := by decide
    have q4 : eq32 1065353216 1065353216 = true := by decide
    by_cases hLH : L = H
    · rw [decide_eq_true hLH] at q1
      have h1 := N1_.out hLH
      rw [h1]
      generalize fq 2 L = lw at *
      generalize fq 2 H = hw at *
      clear hLH h1
      go_wp2
      go_ret
      exact ⟨rfl, HBE.out⟩
    · rw [decide_eq_false hLH] at q1
      have hlt : L < H := by omega
      rw [decide_eq_true hlt] at q2
      have h1 := N2_.out hlt
      rw [h1]
      generalize fq 2 L = lw at *
      generalize fq 2 H = hw at *
      clear hLH h1 hlt
      go_wp2
      go_ret
      exact ⟨rfl, HBE.out⟩
  · have k1 : ((r : Int) == 1) = false := by rw [e12]; rfl
    clear e12 hat2
    go_wp2_with fail
    refine KL.out.mono ?_
    rintro e wL ⟨rfl, n, hw⟩
    have bw : Below wC.heap.size wC wL := by rw [hw]; exact below_drewN (Below.refl _ _) n
    clear hw
    have cA1' := cA1
    have hA := HOA.out.below bw
    have yA1 : wL.cell? ⟨gA, X + wd * Y, none⟩ = some (.int .i64 at_) := by rw [bw.cell (p := ⟨gA, _, none⟩) (HOA.out.lt (k := gA) rfl).2]; exact cA1
    have yA0 : wL.cell? ⟨gA, 0, none⟩ = some (.int .i64 ot) := by rw [bw.cell (p := ⟨gA, _, none⟩) (HOA.out.lt (k := gA) rfl).2]; exact cA0
    have bP := HBP.out.below bw
    have pP := HPP.out.below bw
    have hb1 := HB1.out.below bw
    have hbel := HBEL.out.trans (bw.mono HBEL.out.size)
    obtain ⟨yP0, yP1, yP2, -, -, -⟩ := bP.three.cells
    have HA := Lib.hid hA
    have HBEL2 := Lib.hid hbel
    have HPP2 := Lib.hid pP
    have HBP2 := Lib.hid bP
    clear KL cA1 cA0 cA1' zP0 zP1 zP2 HBEL HBP HPP HOA HB1 hA hbel pP bP hb1 bw
    have x0 : onesF (at_ ^^^ at_) = 0 := by rw [Nat.xor_self]; exact (onesF_zero (by decide)).2 rfl
    have x1 : onesF (ot ^^^ at_) = onesF (at_ ^^^ ot) := by rw [Nat.xor_comm]
    have x2 : onesF (at_ ^^^ (16777215 - at_)) = 24 := by rw [xor_all AT.out]; exact onesF_all
    have x3 : (((onesF (at_ ^^^ ot) : Nat) : Int) == 0) = decide (at_ = ot) := by
      have h1 := onesF_zero (xor_lt AT.out OT.out)
      have h2 : at_ ^^^ ot = 0 ↔ at_ = ot := xor_zero at_ ot
      by_cases hh : at_ = ot
      · rw [decide_eq_true hh, beq_iff_eq, h1.2 (h2.2 hh)]; rfl
      · rw [decide_eq_false hh, beq_eq_false_iff_ne]; intro g; exact hh (h2.1 (h1.1 (by omega)))
    have x4 : ((at_ : Int) == (ot : Int)) = decide (at_ = ot) := by
      by_cases hh : at_ = ot
      · rw [decide_eq_true hh, beq_iff_eq, hh]
      · rw [decide_eq_false hh, beq_eq_false_iff_ne]; intro g; exact hh (by omega)
    have x5 : (16777215 : Int) - (at_ : Int) = ((16777215 - at_ : Nat) : Int) := by have := AT.out; omega
    have X0 := Lib.hid x0
    have X1 := Lib.hid x1
    have X2 := Lib.hid x2
    generalize decide (at_ = ot) = bb at *
    obtain ⟨cm, hcm⟩ : ∃ cm, cm = 16777215 - at_ := ⟨_, rfl⟩
    rw [← hcm] at x5
    have HCM := Lib.hid hcm
    have AT2 := Lib.hid (show cm < 16777216 by omega)
    clear x0 x1 x2 hcm
    go_wp2_with fail
    refine (dist_any at_ at_ AT.out AT.out _).mono ?_
    rintro e w' ⟨rfl, rfl⟩
    rw [X0.out]
    go_wp2_with fail
    refine (dist_any at_ ot AT.out OT.out _).mono ?_
    rintro e w' ⟨rfl, rfl⟩
    go_wp2_with fail
    refine (dist_any ot at_ OT.out AT.out _).mono ?_
    rintro e w' ⟨rfl, rfl⟩
    rw [X1.out]
    go_wp2_with fail
    refine (dist_any at_ ot AT.out OT.out _).mono ?_
    rintro e w' ⟨rfl, rfl⟩
    go_wp2_with fail
    refine (dist_any at_ cm AT.out AT2.out _).mono ?_
    rintro e w' ⟨rfl, rfl⟩
    rw [show onesF (at_ ^^^ cm) = 24 by rw [HCM.out]; exact X2.out]
    have bP := HBP2.out
    have pP := HPP2.out
    have hbel := HBEL2.out
    clear yP0 yP1 yP2 yA1 yA0 HBP2 HPP2 HBEL2 HA
    obtain ⟨zP0, zP1, zP2, -, -, -⟩ := bP.three.cells
    go_wp2_with fail
    clear zP0 zP1 zP2
    refine (slope_pw _ wd hi N qP cP _ HV.out pP).mono ?_
    rintro e wL ⟨qL, cL, bsL, rfl, pL, cnL, bw⟩
    have CL := Lib.hid cnL
    clear cnL
    have ha : Below wL.heap.size wL (wL.alloc (.cells #[.int .i64 wd, .int .i64 hi, .slice (some ⟨qL, 0, none⟩) N cL] 26)) := (Below.refl _ _).alloc (Nat.le_refl _) _
    have bL := BoxN.last wL #[.int .i64 wd, .int .i64 hi, .slice (some ⟨qL, 0, none⟩) N cL] 26
    replace pL := pL.below ha
    replace bP := (bP.below bw).below ha
    replace pP := (pP.below bw).below ha
    replace hbel := (hbel.trans (bw.mono hbel.size)).trans (ha.mono (Nat.le_trans hbel.size bw.size))
    clear bw ha
    obtain ⟨zP0, zP1, zP2, -, -, -⟩ := bP.three.cells
    go_wp2_with fail
    generalize hoL : wL.heap.size = oL at *
    generalize hwL : wL.alloc (.cells #[.int .i64 wd, .int .i64 hi, .slice (some ⟨qL, 0, none⟩) N cL] 26) = WL at *
    clear hoL hwL
    clear zP0 zP1 zP2
    refine (mirror_pw _ wd hi N qP cP _ HV.out pP).mono ?_
    rintro e wM ⟨qM, cM, bsM, rfl, pM, cnM, bw⟩
    have CM := Lib.hid cnM
    clear cnM
    have ha : Below wM.heap.size wM (wM.alloc (.cells #[.int .i64 wd, .int .i64 hi, .slice (some ⟨qM, 0, none⟩) N cM] 26)) := (Below.refl _ _).alloc (Nat.le_refl _) _
    have bM := BoxN.last wM #[.int .i64 wd, .int .i64 hi, .slice (some ⟨qM, 0, none⟩) N cM] 26
    replace pM := pM.below ha
    replace bP := (bP.below bw).below ha
    replace pP := (pP.below bw).below ha
    replace bL := (bL.below bw).below ha
    replace pL := (pL.below bw).below ha
    replace hbel := (hbel.trans (bw.mono hbel.size)).trans (ha.mono (Nat.le_trans hbel.size bw.size))
    clear bw ha
    obtain ⟨zM0, zM1, zM2, -, -, -⟩ := bM.three.cells
    go_wp2_with fail
    generalize hoM : wM.heap.size = oM at *
    generalize hwM : wM.alloc (.cells #[.int .i64 wd, .int .i64 hi, .slice (some ⟨qM, 0, none⟩) N cM] 26) = WM at *
    clear hoM hwM
    clear zM0 zM1 zM2
    refine (slope_pw _ wd hi N qM cM _ HV.out pM).mono ?_
    rintro e wB2 ⟨qB, cB2, bsB, rfl, pB, cnB, bw⟩
    have CB := Lib.hid cnB
    clear cnB
    have HMM := Lib.hid pM.len
    clear bM pM
    have pB2 := pB
    clear pB
    have ha : Below wB2.heap.size wB2 (wB2.alloc (.cells #[.int .i64 wd, .int .i64 hi, .slice (some ⟨qB, 0, none⟩) N cB2] 26)) := (Below.refl _ _).alloc (Nat.le_refl _) _
    have bB2 := BoxN.last wB2 #[.int .i64 wd, .int .i64 hi, .slice (some ⟨qB, 0, none⟩) N cB2] 26
    replace pB2 := pB2.below ha
    replace bP := (bP.below bw).below ha
    replace pP := (pP.below bw).below ha
    replace bL := (bL.below bw).below ha
    replace pL := (pL.below bw).below ha
    replace hbel := (hbel.trans (bw.mono hbel.size)).trans (ha.mono (Nat.le_trans hbel.size bw.size))
    clear bw ha
    obtain ⟨zB20, zB21, zB22, -, -, -⟩ := bB2.three.cells
    go_wp2_with fail
    generalize hoB2 : wB2.heap.size = oB2 at *
    generalize hwB2 : wB2.alloc (.cells #[.int .i64 wd, .int .i64 hi, .slice (some ⟨qB, 0, none⟩) N cB2] 26) = WB2 at *
    clear hoB2 hwB2
    clear zB20 zB21 zB22
    refine (mirror_pw _ wd hi N qB cB2 _ HV.out pB2).mono ?_
    rintro e wT ⟨qT, cT, bsT, rfl, pT, cnT, bw⟩
    have CT := Lib.hid cnT
    clear cnT
    have ha : Below wT.heap.size wT (wT.alloc (.cells #[.int .i64 wd, .int .i64 hi, .slice (some ⟨qT, 0, none⟩) N cT] 26)) := (Below.refl _ _).alloc (Nat.le_refl _) _
    have bT := BoxN.last wT #[.int .i64 wd, .int .i64 hi, .slice (some ⟨qT, 0, none⟩) N cT] 26
    replace pT := pT.below ha
    replace bP := (bP.below bw).below ha
    replace pP := (pP.below bw).below ha
    replace bL := (bL.below bw).below ha
    replace pL := (pL.below bw).below ha
    replace bB2 := (bB2.below bw).below ha
    replace pB2 := (pB2.below bw).below ha
    replace hbel := (hbel.trans (bw.mono hbel.size)).trans (ha.mono (Nat.le_trans hbel.size bw.size))
    clear bw ha
    obtain ⟨zT0, zT1, zT2, -, -, -⟩ := bT.three.cells
    go_wp2_with fail
    generalize hoT : wT.heap.size = oT at *
    generalize hwT : wT.alloc (.cells #[.int .i64 wd, .int .i64 hi, .slice (some ⟨qT, 0, none⟩) N cT] 26) = WT at *
    clear hoT hwT
    clear zT0 zT1 zT2
    refine (scaleP_pw _ wd hi N qT cT _ 3212836864 0 HV.out pT).mono ?_
    rintro e wO ⟨qO, cO, bsO, rfl, pO, cnO, bw⟩
    have hOO := slp_back HV.out HKL.out HK.out pL.len pB2.len pT.len pO.len CL.out CM.out CB.out CT.out cnO
    subst hOO
    have HFL := Lib.hid (show ∀ z ∈ bsO, fin32 z = true from fun z hz => slp_fin HV.out HKL.out HK.out pL.len CL.out z hz)
    clear cnO CL CM CB CT HMM bB2 pB2 bT pT
    have ha : Below wO.heap.size wO (wO.alloc (.cells #[.int .i64 wd, .int .i64 hi, .slice (some ⟨qO, 0, none⟩) N cO] 26)) := (Below.refl _ _).alloc (Nat.le_refl _) _
    have bO := BoxN.last wO #[.int .i64 wd, .int .i64 hi, .slice (some ⟨qO, 0, none⟩) N cO] 26
    replace pO := pO.below ha
    replace bP := (bP.below bw).below ha
    replace pP := (pP.below bw).below ha
    replace bL := (bL.below bw).below ha
    replace pL := (pL.below bw).below ha
    replace hbel := (hbel.trans (bw.mono hbel.size)).trans (ha.mono (Nat.le_trans hbel.size bw.size))
    clear bw ha
    obtain ⟨zP0, zP1, zP2, -, -, -⟩ := bP.three.cells
    go_wp2_with fail
    generalize hoO : wO.heap.size = oO at *
    generalize hwO : wO.alloc (.cells #[.int .i64 wd, .int .i64 hi, .slice (some ⟨qO, 0, none⟩) N cO] 26) = WO at *
    clear hoO hwO
    clear zP0 zP1 zP2
    refine (norm_pw _ wd hi N qP cP ks L H HV.out pP HGL.out HGH.out HGF.out gL0 gLH gH16 HGB.out HK.out).mono ?_
    rintro e wQ ⟨qQ, cQ, bsQ, rfl, pQ, cnQ, bw⟩
    obtain ⟨nf, nt, n0, n1, n2⟩ := nrm_range HV.out HKL.out HK.out HGL.out HGH.out gL0 gLH gH16 HGB.out pQ.len cnQ
    have NF := Lib.hid nf
    have NT := Lib.hid nt
    have N0_ := Lib.hid n0
    have N1_ := Lib.hid n1
    have N2_ := Lib.hid n2
    clear cnQ nf nt n0 n1 n2
    have ha : Below wQ.heap.size wQ (wQ.alloc (.cells #[.int .i64 wd, .int .i64 hi, .slice (some ⟨qQ, 0, none⟩) N cQ] 26)) := (Below.refl _ _).alloc (Nat.le_refl _) _
    have bQ := BoxN.last wQ #[.int .i64 wd, .int .i64 hi, .slice (some ⟨qQ, 0, none⟩) N cQ] 26
    replace pQ := pQ.below ha
    replace bP := (bP.below bw).below ha
    replace pP := (pP.below bw).below ha
    replace bL := (bL.below bw).below ha
    replace pL := (pL.below bw).below ha
    replace bO := (bO.below bw).below ha
    replace pO := (pO.below bw).below ha
    replace hbel := (hbel.trans (bw.mono hbel.size)).trans (ha.mono (Nat.le_trans hbel.size bw.size))
    clear bw ha
    obtain ⟨zP0, zP1, zP2, -, -, -⟩ := bP.three.cells
    go_wp2_with fail
    generalize hoQ : wQ.heap.size = oQ at *
    generalize hwQ : wQ.alloc (.cells #[.int .i64 wd, .int .i64 hi, .slice (some ⟨qQ, 0, none⟩) N cQ] 26) = WQ at *
    clear hoQ hwQ
    clear zP0 zP1 zP2
    refine (range_pw _ wd hi N qP cP _ HV.out pP HFK.out).mono ?_
    rintro e wU ⟨rfl, bw⟩
    rw [HGL.out, HGH.out, HGF.out]
    replace bP := bP.below bw
    replace pP := pP.below bw
    replace bL := bL.below bw
    replace pL := pL.below bw
    replace bO := bO.below bw
    replace pO := pO.below bw
    replace bQ := bQ.below bw
    replace pQ := pQ.below bw
    replace hbel := hbel.trans (bw.mono hbel.size)
    clear bw
    obtain ⟨zQ0, zQ1, zQ2, -, -, -⟩ := bQ.three.cells
    go_wp2_with fail
    clear zQ0 zQ1 zQ2
    refine (range_pw _ wd hi N qQ cQ _ HV.out pQ NF.out).mono ?_
    rintro e wY ⟨rfl, bw⟩
    rw [N0_.out, NT.out]
    replace bP := bP.below bw
    replace pP := pP.below bw
    replace bL := bL.below bw
    replace pL := pL.below bw
    replace bO := bO.below bw
    replace pO := pO.below bw
    replace bQ := bQ.below bw
    replace pQ := pQ.below bw
    replace hbel := hbel.trans (bw.mono hbel.size)
    clear bw
    obtain ⟨zL0, zL1, zL2, -, -, -⟩ := bL.three.cells
    obtain ⟨zO0, zO1, zO2, -, -, -⟩ := bO.three.cells
    go_wp2_with fail
    clear zL0 zL1 zL2 zO0 zO1 zO2
    refine (unlike_pw _ wd hi N qL cL qO cO _ 0 HV.out pL pO HFL.out (by decide)).mono ?_
    rintro e wZ ⟨rfl, bw⟩
    replace hbel := hbel.trans (bw.mono hbel.size)
    clear bw bP pP bL pL bO pO bQ pQ
    have HBE := Lib.hid hbel
    clear hbel
    have q1 := eq32_fq (g := 2) (a := L) (b := H) (by omega) (by omega)
    have q2 := lt32_fq (g := 2) (a := L) (b := H) (by omega) (by omega)
    have q3 : eq32 0 0 = true := by decide
    have q4 : eq32 1065353216 1065353216 = true := by decide
    by_cases hLH : L = H
    · rw [decide_eq_true hLH] at q1
      have h1 := N1_.out hLH
      rw [h1]
      generalize fq 2 L = lw at *
      generalize fq 2 H = hw at *
      clear hLH h1
      go_wp2
      go_ret
      exact ⟨rfl, HBE.out⟩
    · rw [decide_eq_false hLH] at q1
      have hlt : L < H := by omega
      rw [decide_eq_true hlt] at q2
      have h1 := N2_.out hlt
      rw [h1]
      generalize fq 2 L = lw at *
      generalize fq 2 H = hw at *
      clear hLH h1 hlt
      go_wp2
      go_ret
      exact ⟨rfl, HBE.out⟩

theorem fnRanks_walk (w : World) (a0 a1 : Option Addr) (l0 c0 l1 c1 : Nat) (z0 z1 : List Int)
    (r0 : (a0 = none ∧ l0 = 0 ∧ c0 = 0 ∧ z0 = []) ∨ ∃ x, a0 = some x ∧ l0 ≤ c0 ∧ c0 ≤ maxLen ∧ z0.length = c0 ∧ (∀ i, i < z0.length → w.cell? (x.add i) = some (.int .u8 (z0.getD i 0))) ∧ ∀ n ∈ z0, (Lit.int .u8 n).wf = true)
    (r1 : (a1 = none ∧ l1 = 0 ∧ c1 = 0 ∧ z1 = []) ∨ ∃ x, a1 = some x ∧ l1 ≤ c1 ∧ c1 ≤ maxLen ∧ z1.length = c1 ∧ (∀ i, i < z1.length → w.cell? (x.add i) = some (.int .u8 (z1.getD i 0))) ∧ ∀ n ∈ z1, (Lit.int .u8 n).wf = true) :
    Calls Try.prog 4 #[.slice a0 l0 c0, .slice a1 l1 c1] w fun e w' => e = .returned (.bool true) ∧ Below w.heap.size w w' := by
  by_cases h : l0 ≤ 48 ∧ l1 ≤ 48
  · exact fnRanks_short w a0 a1 l0 c0 l1 c1 h.1 h.2 (bytesIn_of_row r0 (by omega)) (bytesIn_of_row r1 (by omega))
  · exact fnRanks_long w a0 a1 l0 c0 l1 c1 (len_of_row r0) (len_of_row r1) h

end Go.Proofs.Ytialajgobpokmaa
