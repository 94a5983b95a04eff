/- The law of means: the walk of its code. No condition. -/
import Derived.Test.YtialajgobpokmaaPh
import Derived.Deep.RegionHeld3
import Derived.StillTactics
namespace Go.Proofs.Ytialajgobpokmaa
open Go.RowKit
set_option maxRecDepth 100000
set_option linter.unusedVariables false
set_option linter.unusedSimpArgs false

theorem fnMeans_long (w : World) (a0 a1 : Option Addr) (l0 c0 l1 c1 : Nat) (m0 : l0 ≤ 9223372036854775807) (m1 : l1 ≤ 9223372036854775807) (h : ¬ (l0 ≤ 48 ∧ l1 ≤ 48)) :
    Calls Try.prog 3 #[.slice a0 l0 c0, .slice a1 l1 c1] w fun e w' => e = .returned (.bool true) ∧ Below w.heap.size w w' := by
  go_enter Try.func3, Try.ntmps3
  go_wp2_with fail
  refine (r8Long_yes _ _ _ _ _ _ _ m0 m1 h).mono ?_
  rintro e w' ⟨rfl, rfl⟩
  go_wp2
  go_ret
  exact ⟨rfl, Below.refl _ _⟩

set_option maxHeartbeats 40000000 in
theorem fnMeans_short (w : World) (a0 a1 : Option Addr) (l0 c0 l1 c1 : Nat) (h0 : l0 ≤ 48) (h1 : l1 ≤ 48) (hb0 : BytesIn w a0 l0) (hb1 : BytesIn w a1 l1) :
    Calls Try.prog 3 #[.slice a0 l0 c0, .slice a1 l1 c1] w fun e w' => e = .returned (.bool true) ∧ Below w.heap.size w w' := by
  go_enter Try.func3, Try.ntmps3
  go_wp2_with fail
  refine (r8Long_no _ _ _ _ _ _ _ h0 h1).mono ?_
  rintro e w' ⟨rfl, rfl⟩
  go_wp2_with fail
  refine (r8Picture_any _ _ _ _ hb0).mono ?_
  rintro e wP ⟨wd, hi, a, cP, bs, rfl, v1, v2, v3, v4, hbl, hown, hq, bw⟩
  obtain ⟨ks, rfl, hk⟩ := exists_ks bs hq
  obtain ⟨N, hN⟩ : ∃ N, N = wd * hi := ⟨_, rfl⟩
  rw [hbl, ← hN] at hown ⊢
  have hN1 : N ≤ 24 := by rw [hN]; exact Nat.mul_le_mul v2 v4
  have hN0 : 1 ≤ N := by rw [hN]; exact Nat.mul_pos (by omega) v3
  obtain ⟨qP, rfl⟩ := own_ptr hown (by rw [hbl, ← hN]; exact hN0)
  have pP : PW wP qP cP N (ks.map (fq 2)) := ⟨hown.sl, (hown.lt (k := qP) rfl).2, by rw [hbl, hN]⟩
  have hv : vPic wd hi N = true := by rw [hN]; exact vPic_of (by omega) (by omega) v3 (by omega) (by rw [← hN]; omega)
  have hkl : ks.length = N := by have := hbl; rw [List.length_map] at this; rw [this, hN]
  obtain ⟨L, HH, r1, r2, r3, k0, k1, k2, k3⟩ := range_q (ks := ks) (by omega) hk
  have hbP : ∀ b ∈ ks.map (fq 2), Bd L HH b := by
    intro b hb
    obtain ⟨k, hk1, rfl⟩ := List.mem_map.1 hb
    obtain ⟨i, hi1, rfl⟩ := List.getElem_of_mem hk1
    have := k3 i hi1
    rw [List.getD_eq_getElem?_getD, List.getElem?_eq_getElem hi1] at this
    exact Bd.of this.1 this.2 k0 (by omega)
  have hkk : ∀ k ∈ ks, 0 ≤ k ∧ k ≤ 1000 := fun k h => by have := hk k h; omega
  obtain ⟨A, hA⟩ : ∃ A, A = (wd + 1) / 2 := ⟨_, rfl⟩
  obtain ⟨B, hB⟩ : ∃ B, B = (hi + 1) / 2 := ⟨_, rfl⟩
  obtain ⟨M, hM⟩ : ∃ M, M = A * B := ⟨_, rfl⟩
  obtain ⟨A2, hA2⟩ : ∃ A2, A2 = (A + 1) / 2 := ⟨_, rfl⟩
  obtain ⟨B2, hB2⟩ : ∃ B2, B2 = (B + 1) / 2 := ⟨_, rfl⟩
  obtain ⟨M2, hM2⟩ : ∃ M2, M2 = A2 * B2 := ⟨_, rfl⟩
  have hvM : vPic A B M = true := by rw [hM, hA, hB]; exact vPic_half (by rw [← hN]; exact hv)
  have hvM2 : vPic A2 B2 M2 = true := by rw [hM2, hA2, hB2]; exact vPic_half (by rw [← hM]; exact hvM)
  have hnK := (vN hv).1
  have hmK := (vN hvM).1
  have HV := Lib.hid hv
  have HVM := Lib.hid hvM
  have HVM2 := Lib.hid hvM2
  have HA := Lib.hid hA
  have HB := Lib.hid hB
  have HA2 := Lib.hid hA2
  have HB2 := Lib.hid hB2
  have HKL := Lib.hid hkl
  have HK := Lib.hid hk
  have HKK := Lib.hid hkk
  have HBP := Lib.hid hbP
  have HK3 := Lib.hid k3
  have HR1 := Lib.hid (And.intro r1 (And.intro r2 r3))
  have hbel := bw
  replace hb1 := hb1.below bw
  generalize hks : ks.map (fq 2) = bsP at *
  have HKS := Lib.hid hks
  clear hv hvM hvM2 hA hB hA2 hB2 hM hM2 hkl hk hkk hbP k3 r1 r2 r3 hbl hown hq hN hb0 hnK hmK hks
  have ha : Below wP.heap.size wP (wP.alloc (.cells #[.int .i64 wd, .int .i64 hi, .slice (some ⟨qP, 0, none⟩) N cP] 26)) := (Below.refl _ _).alloc (Nat.le_refl _) _
  have bP := BoxN.last wP #[.int .i64 wd, .int .i64 hi, .slice (some ⟨qP, 0, none⟩) N cP] 26
  replace pP := pP.below ha
  replace hb1 := hb1.below ha
  replace hbel := hbel.trans (ha.mono hbel.size)
  clear bw ha
  go_wp2_with fail
  generalize hoP : wP.heap.size = oP at *
  generalize hwP : wP.alloc (.cells #[.int .i64 wd, .int .i64 hi, .slice (some ⟨qP, 0, none⟩) N cP] 26) = WP at *
  clear hoP hwP
  refine (r8At_any _ _ _ _ 0 4 (by omega) (by omega) (by omega) hb1).mono ?_
  rintro e w' ⟨x, rfl, x0, x1, rfl⟩
  obtain ⟨r, rfl⟩ := Int.eq_ofNat_of_zero_le x0
  have hr : r ≤ 3 := by omega
  clear x0 x1
  go_wp2_with fail
  refine (r8At_any _ _ _ _ 1 4 (by omega) (by omega) (by omega) hb1).mono ?_
  rintro e w' ⟨x, rfl, x0, x1, rfl⟩
  obtain ⟨n, rfl⟩ := Int.eq_ofNat_of_zero_le x0
  have hn : n ≤ 8 := by omega
  clear x0 x1 hb1
  obtain ⟨zP0, zP1, zP2, -, -, -⟩ := bP.three.cells
  go_wp2_with fail
  clear zP0 zP1 zP2
  refine (box_pw _ wd hi N qP cP r ks HV.out (by rw [HKS.out]; exact pP) hr HKK.out).mono ?_
  rintro e wX ⟨qX, cX, bsX, rfl, pX, cnX, bw⟩
  have CX := Lib.hid cnX
  clear cnX
  have ha : Below wX.heap.size wX (wX.alloc (.cells #[.int .i64 wd, .int .i64 hi, .slice (some ⟨qX, 0, none⟩) N cX] 26)) := (Below.refl _ _).alloc (Nat.le_refl _) _
  have bX := BoxN.last wX #[.int .i64 wd, .int .i64 hi, .slice (some ⟨qX, 0, none⟩) N cX] 26
  replace pX := pX.below ha
  replace bP := (bP.below bw).below ha
  replace pP := (pP.below bw).below ha
  replace hbel := (hbel.trans (bw.mono hbel.size)).trans (ha.mono (Nat.le_trans hbel.size bw.size))
  clear bw ha
  obtain ⟨zP0, zP1, zP2, -, -, -⟩ := bP.three.cells
  go_wp2_with fail
  generalize hoX : wX.heap.size = oX at *
  generalize hwX : wX.alloc (.cells #[.int .i64 wd, .int .i64 hi, .slice (some ⟨qX, 0, none⟩) N cX] 26) = WX at *
  clear hoX hwX
  clear zP0 zP1 zP2
  refine (blur_pb _ wd hi N qP cP n L HH HV.out (pP.pb HBP.out) hn k0 k1 (by omega)).mono ?_
  rintro e wB ⟨qB, cB, rfl, hPB, -, bw⟩
  obtain ⟨bsB, pB, hbB⟩ := hPB.pw
  have HBB := Lib.hid hbB
  clear hPB hbB
  have ha : Below wB.heap.size wB (wB.alloc (.cells #[.int .i64 wd, .int .i64 hi, .slice (some ⟨qB, 0, none⟩) N cB] 26)) := (Below.refl _ _).alloc (Nat.le_refl _) _
  have bB := BoxN.last wB #[.int .i64 wd, .int .i64 hi, .slice (some ⟨qB, 0, none⟩) N cB] 26
  replace pB := pB.below ha
  replace bP := (bP.below bw).below ha
  replace pP := (pP.below bw).below ha
  replace bX := (bX.below bw).below ha
  replace pX := (pX.below bw).below ha
  replace hbel := (hbel.trans (bw.mono hbel.size)).trans (ha.mono (Nat.le_trans hbel.size bw.size))
  clear bw ha
  obtain ⟨zP0, zP1, zP2, -, -, -⟩ := bP.three.cells
  go_wp2_with fail
  generalize hoB : wB.heap.size = oB at *
  generalize hwB : wB.alloc (.cells #[.int .i64 wd, .int .i64 hi, .slice (some ⟨qB, 0, none⟩) N cB] 26) = WB at *
  clear hoB hwB
  clear zP0 zP1 zP2
  refine (halve_pw _ wd hi N A B M qP cP bsP HV.out HA.out HB.out HVM.out pP).mono ?_
  rintro e wH ⟨qH, cH, bsH, rfl, pH, cnH, bw⟩
  have CH := Lib.hid cnH
  clear cnH
  have ha : Below wH.heap.size wH (wH.alloc (.cells #[.int .i64 A, .int .i64 B, .slice (some ⟨qH, 0, none⟩) M cH] 26)) := (Below.refl _ _).alloc (Nat.le_refl _) _
  have bH := BoxN.last wH #[.int .i64 A, .int .i64 B, .slice (some ⟨qH, 0, none⟩) M cH] 26
  replace pH := pH.below ha
  replace bP := (bP.below bw).below ha
  replace pP := (pP.below bw).below ha
  replace bX := (bX.below bw).below ha
  replace pX := (pX.below bw).below ha
  replace bB := (bB.below bw).below ha
  replace pB := (pB.below bw).below ha
  replace hbel := (hbel.trans (bw.mono hbel.size)).trans (ha.mono (Nat.le_trans hbel.size bw.size))
  clear bw ha
  obtain ⟨zP0, zP1, zP2, -, -, -⟩ := bP.three.cells
  go_wp2_with fail
  generalize hoH : wH.heap.size = oH at *
  generalize hwH : wH.alloc (.cells #[.int .i64 A, .int .i64 B, .slice (some ⟨qH, 0, none⟩) M cH] 26) = WH at *
  clear hoH hwH
  clear zP0 zP1 zP2
  have KR := range_pw _ wd hi N qP cP bsP HV.out pP (fun b hb => (HBP.out b hb).fin)
  rw [HR1.out.1, HR1.out.2.1, HR1.out.2.2] at KR
  refine KR.mono ?_
  rintro e wR ⟨rfl, bw⟩
  clear KR
  replace bP := bP.below bw
  replace pP := pP.below bw
  replace bX := bX.below bw
  replace pX := pX.below bw
  replace bB := bB.below bw
  replace pB := pB.below bw
  replace bH := bH.below bw
  replace pH := pH.below bw
  replace hbel := hbel.trans (bw.mono hbel.size)
  clear bw
  have hxW : ∀ b ∈ bsX, Bd L HH b := bd_of_tab CX.out (by omega) (fun x y hx hy => boxW_bd x y (fun i hi => HK3.out i (by rw [HKL.out, (vN HV.out).1]; exact hi)) (by omega) (by omega) hr k0 k1 (by omega))
  have hhW : ∀ b ∈ bsH, Bd L HH b := bd_of_tab CH.out (vN HVM.out).2.2.1 (fun x y hx hy => Bd.half HBP.out (by rw [pP.len, (vN HV.out).1]) (by omega) (by omega) k0 k1 (by omega) x y)
  have NX := Lib.hid (near64 (rw_bd (by rw [pX.len]; omega) hxW).1 (rw_bd (by rw [pX.len]; omega) hxW).2.1 k0 k1 (by omega))
  have NB := Lib.hid (near64 (rw_bd (by rw [pB.len]; omega) HBB.out).1 (rw_bd (by rw [pB.len]; omega) HBB.out).2.1 k0 k1 (by omega))
  have NH := Lib.hid (near64 (rw_bd (by rw [pH.len]; exact (vN HVM.out).2.1) hhW).1 (rw_bd (by rw [pH.len]; exact (vN HVM.out).2.1) hhW).2.1 k0 k1 (by omega))
  have FX := Lib.hid (rw_bd (by rw [pX.len]; omega) hxW).2.2
  have FB := Lib.hid (rw_bd (by rw [pB.len]; omega) HBB.out).2.2
  have FH := Lib.hid (rw_bd (by rw [pH.len]; exact (vN HVM.out).2.1) hhW).2.2
  have HXW := Lib.hid hxW
  have HHW := Lib.hid hhW
  clear hxW hhW
  generalize hvl : fq 2 L = vl at *
  generalize hvh : fq 2 HH = vh at *
  have HVL := Lib.hid hvl
  have HVH := Lib.hid hvh
  clear hvl hvh
  have ha := alb1 wR (.cells #[.int .i64 wd, .int .i64 hi, .slice (some ⟨qX, 0, none⟩) N cX, .int .i64 wd, .int .i64 hi, .slice (some ⟨qB, 0, none⟩) N cB, .int .i64 A, .int .i64 B, .slice (some ⟨qH, 0, none⟩) M cH] 26)
  have bL := BoxN.last wR #[.int .i64 wd, .int .i64 hi, .slice (some ⟨qX, 0, none⟩) N cX, .int .i64 wd, .int .i64 hi, .slice (some ⟨qB, 0, none⟩) N cB, .int .i64 A, .int .i64 B, .slice (some ⟨qH, 0, none⟩) M cH] 26
  obtain ⟨zX0, zX1, zX2, -, -, -⟩ := bX.three.cells
  obtain ⟨zB0, zB1, zB2, -, -, -⟩ := bB.three.cells
  obtain ⟨zH0, zH1, zH2, -, -, -⟩ := bH.three.cells
  go_wp2_with fail
  replace bP := bP.below ha
  replace pP := pP.below ha
  replace bX := bX.below ha
  replace pX := pX.below ha
  replace bB := bB.below ha
  replace pB := pB.below ha
  replace bH := bH.below ha
  replace pH := pH.below ha
  replace hbel := hbel.trans (ha.mono hbel.size)
  clear ha
  generalize hoL : wR.heap.size = oL at *
  generalize hwL : wR.alloc (.cells #[.int .i64 wd, .int .i64 hi, .slice (some ⟨qX, 0, none⟩) N cX, .int .i64 wd, .int .i64 hi, .slice (some ⟨qB, 0, none⟩) N cB, .int .i64 A, .int .i64 B, .slice (some ⟨qH, 0, none⟩) M cH] 26) = wL at *
  clear hoL hwL zX0 zX1 zX2 zB0 zB1 zB2 zH0 zH1 zH2
  have KbP := Lib.hid bP
  have KpP := Lib.hid pP
  have KbX := Lib.hid bX
  have KpX := Lib.hid pX
  have KbB := Lib.hid bB
  have KpB := Lib.hid pB
  have KbH := Lib.hid bH
  have KpH := Lib.hid pH
  have KbL := Lib.hid bL
  have KBEL := Lib.hid hbel
  clear hbel bP pP bX pX bB pB bH pH bL
  go_loopw [18] (fun v18 wr => ∃ i : Nat, v18 = .int .i64 i ∧ i ≤ 3 ∧ Below wL.heap.size wL wr) (fun v18 _ => 3 - (intOf v18).toNat)
  case atStart => exact ⟨0, rfl, by omega, Below.refl _ _⟩
  case round =>
    obtain ⟨i, rfl, hi_, hbw⟩ := hrel
    obtain rfl | rfl | rfl | rfl : i = 0 ∨ i = 1 ∨ i = 2 ∨ i = 3 := by omega
    · as_aux_lemma =>
      have bL := KbL.out.below hbw
      have pp := KpX.out.below hbw
      obtain ⟨z0, z1, z2⟩ : _ ∧ _ ∧ _ := ⟨bL.cell 0, bL.cell 1, bL.cell 2⟩
      simp at z0 z1 z2
      have HBW := Lib.hid hbw
      clear hbw bL
      go_wp2_with fail
      refine (range_pw _ wd hi N qX cX bsX HV.out pp (fun b hb => (HXW.out b hb).fin)).mono ?_
      rw [FX.out]
      rintro e w1 ⟨rfl, bw⟩
      obtain ⟨da, db, dl, dh, t1, t2, e1, e2, e3, e4, e5, e6, e7, e8⟩ := NX.out
      have HB1 := Lib.hid (HBW.out.trans (bw.mono HBW.out.size))
      clear bw pp z0 z1 z2
      generalize (rwF bsX).1 = ra at *
      generalize (rwF bsX).2.1 = rb at *
      have a1 := cvr_some e1
      have a2 := cvd_some e1
      have a3 := cvr_some e2
      have a4 := cvd_some e2
      have a5 := cvr_some e3
      have a6 := cvd_some e3
      have a7 := cvr_some e4
      have a8 := cvd_some e4
      have b1 := fres_some e5
      have b2 := fdr_some e5
      have b3 := fres_some e6
      have b4 := fdr_some e6
      have hd0 : ∀ W : World, W.drewN 0 = W := fun _ => rfl
      clear e1 e2 e3 e4 e5 e6
      go_wp2
      go_roundw
      case rel => exact ⟨1, by go_num, by omega, HB1.out⟩
      case measure => simp [intOf]
    · as_aux_lemma =>
      have bL := KbL.out.below hbw
      have pp := KpB.out.below hbw
      obtain ⟨z0, z1, z2⟩ : _ ∧ _ ∧ _ := ⟨bL.cell 3, bL.cell 4, bL.cell 5⟩
      simp at z0 z1 z2
      have HBW := Lib.hid hbw
      clear hbw bL
      go_wp2_with fail
      refine (range_pw _ wd hi N qB cB bsB HV.out pp (fun b hb => (HBB.out b hb).fin)).mono ?_
      rw [FB.out]
      rintro e w1 ⟨rfl, bw⟩
      obtain ⟨da, db, dl, dh, t1, t2, e1, e2, e3, e4, e5, e6, e7, e8⟩ := NB.out
      have HB1 := Lib.hid (HBW.out.trans (bw.mono HBW.out.size))
      clear bw pp z0 z1 z2
      generalize (rwF bsB).1 = ra at *
      generalize (rwF bsB).2.1 = rb at *
      have a1 := cvr_some e1
      have a2 := cvd_some e1
      have a3 := cvr_some e2
      have a4 := cvd_some e2
      have a5 := cvr_some e3
      have a6 := cvd_some e3
      have a7 := cvr_some e4
      have a8 := cvd_some e4
      have b1 := fres_some e5
      have b2 := fdr_some e5
      have b3 := fres_some e6
      have b4 := fdr_some e6
      have hd0 : ∀ W : World, W.drewN 0 = W := fun _ => rfl
      clear e1 e2 e3 e4 e5 e6
      go_wp2
      go_roundw
      case rel => exact ⟨2, by go_num, by omega, HB1.out⟩
      case measure => simp [intOf]
    · as_aux_lemma =>
      have bL := KbL.out.below hbw
      have pp := KpH.out.below hbw
      obtain ⟨z0, z1, z2⟩ : _ ∧ _ ∧ _ := ⟨bL.cell 6, bL.cell 7, bL.cell 8⟩
      simp at z0 z1 z2
      have HBW := Lib.hid hbw
      clear hbw bL
      go_wp2_with fail
      refine (range_pw _ A B M qH cH bsH HVM.out pp (fun b hb => (HHW.out b hb).fin)).mono ?_
      rw [FH.out]
      rintro e w1 ⟨rfl, bw⟩
      obtain ⟨da, db, dl, dh, t1, t2, e1, e2, e3, e4, e5, e6, e7, e8⟩ := NH.out
      have HB1 := Lib.hid (HBW.out.trans (bw.mono HBW.out.size))
      clear bw pp z0 z1 z2
      generalize (rwF bsH).1 = ra at *
      generalize (rwF bsH).2.1 = rb at *
      have a1 := cvr_some e1
      have a2 := cvd_some e1
      have a3 := cvr_some e2
      have a4 := cvd_some e2
      have a5 := cvr_some e3
      have a6 := cvd_some e3
      have a7 := cvr_some e4
      have a8 := cvd_some e4
      have b1 := fres_some e5
      have b2 := fdr_some e5
      have b3 := fres_some e6
      have b4 := fdr_some e6
      have hd0 : ∀ W : World, W.drewN 0 = W := fun _ => rfl
      clear e1 e2 e3 e4 e5 e6
      go_wp2
      go_roundw
      case rel => exact ⟨3, by go_num, by omega, HB1.out⟩
      case measure => simp [intOf]
    · have hdone := hbw
      have bP := KbP.out.below hbw
      have pP := KpP.out.below hbw
      have bX := KbX.out.below hbw
      have pX := KpX.out.below hbw
      have bB := KbB.out.below hbw
      have pB := KpB.out.below hbw
      have bH := KbH.out.below hbw
      have pH := KpH.out.below hbw
      have bL := KbL.out.below hbw
      have hbel := KBEL.out.trans (hbw.mono KBEL.out.size)
      clear hbw hdone bL KbL KBEL NX NB NH FX FB FH KbP KpP KbX KpX KbB KpB KbH KpH
      obtain ⟨zP0, zP1, zP2, -, -, -⟩ := bP.three.cells
      go_wp2_with fail
      clear zP0 zP1 zP2
      refine (mirror_pw _ wd hi N qP cP bsP HV.out pP).mono ?_
      rintro e wR ⟨qR, cR, bsR, rfl, pR, cnR, bw⟩
      have eR : bsR = (mirK ks wd hi).map (fq 2) := mir_words HV.out HKL.out HK.out (by rw [HKS.out]; exact cnR)
      have ER := Lib.hid eR
      clear cnR eR
      have ha : Below wR.heap.size wR (wR.alloc (.cells #[.int .i64 wd, .int .i64 hi, .slice (some ⟨qR, 0, none⟩) N cR] 26)) := (Below.refl _ _).alloc (Nat.le_refl _) _
      have bR := BoxN.last wR #[.int .i64 wd, .int .i64 hi, .slice (some ⟨qR, 0, none⟩) N cR] 26
      replace pR := pR.below ha
      replace bP := (bP.below bw).below ha
      replace pP := (pP.below bw).below ha
      replace bX := (bX.below bw).below ha
      replace pX := (pX.below bw).below ha
      replace bB := (bB.below bw).below ha
      replace pB := (pB.below bw).below ha
      replace bH := (bH.below bw).below ha
      replace pH := (pH.below bw).below ha
      replace hbel := (hbel.trans (bw.mono hbel.size)).trans (ha.mono (Nat.le_trans hbel.size bw.size))
      clear bw ha
      obtain ⟨zR0, zR1, zR2, -, -, -⟩ := bR.three.cells
      go_wp2_with fail
      generalize hoR : wR.heap.size = oR at *
      generalize hwR : wR.alloc (.cells #[.int .i64 wd, .int .i64 hi, .slice (some ⟨qR, 0, none⟩) N cR] 26) = WR at *
      clear hoR hwR
      clear zR0 zR1 zR2
      refine (box_pw _ wd hi N qR cR r (mirK ks wd hi) HV.out (by rw [← ER.out]; exact pR) hr (fun k h => HKK.out k (mirK_mem (by rw [HKL.out]; exact (vN HV.out).1) (by omega) (by omega) k h))).mono ?_
      rintro e wO ⟨qO, cO, bsO, rfl, pO, cnO, bw⟩
      have CO := Lib.hid cnO
      clear cnO
      have ha : Below wO.heap.size wO (wO.alloc (.cells #[.int .i64 wd, .int .i64 hi, .slice (some ⟨qO, 0, none⟩) N cO] 26)) := (Below.refl _ _).alloc (Nat.le_refl _) _
      have bO := BoxN.last wO #[.int .i64 wd, .int .i64 hi, .slice (some ⟨qO, 0, none⟩) N cO] 26
      replace pO := pO.below ha
      replace bP := (bP.below bw).below ha
      replace pP := (pP.below bw).below ha
      replace bX := (bX.below bw).below ha
      replace pX := (pX.below bw).below ha
      replace bB := (bB.below bw).below ha
      replace pB := (pB.below bw).below ha
      replace bH := (bH.below bw).below ha
      replace pH := (pH.below bw).below ha
      replace bR := (bR.below bw).below ha
      replace pR := (pR.below bw).below ha
      replace hbel := (hbel.trans (bw.mono hbel.size)).trans (ha.mono (Nat.le_trans hbel.size bw.size))
      clear bw ha
      obtain ⟨zO0, zO1, zO2, -, -, -⟩ := bO.three.cells
      go_wp2_with fail
      generalize hoO : wO.heap.size = oO at *
      generalize hwO : wO.alloc (.cells #[.int .i64 wd, .int .i64 hi, .slice (some ⟨qO, 0, none⟩) N cO] 26) = WO at *
      clear hoO hwO
      clear zO0 zO1 zO2
      refine (mirror_pw _ wd hi N qO cO bsO HV.out pO).mono ?_
      rintro e wY ⟨qY, cY, bsY, rfl, pY, cnY, bw⟩
      obtain rfl : bsX = bsY := words_eq (box_back (bs1 := []) HV.out HKL.out HK.out CX.out CO.out cnY hr).symm (fun b hb => (HXW.out b hb).nan)
      clear cnY
      have ha : Below wY.heap.size wY (wY.alloc (.cells #[.int .i64 wd, .int .i64 hi, .slice (some ⟨qY, 0, none⟩) N cY] 26)) := (Below.refl _ _).alloc (Nat.le_refl _) _
      have bY := BoxN.last wY #[.int .i64 wd, .int .i64 hi, .slice (some ⟨qY, 0, none⟩) N cY] 26
      replace pY := pY.below ha
      replace bP := (bP.below bw).below ha
      replace pP := (pP.below bw).below ha
      replace bX := (bX.below bw).below ha
      replace pX := (pX.below bw).below ha
      replace bB := (bB.below bw).below ha
      replace pB := (pB.below bw).below ha
      replace bH := (bH.below bw).below ha
      replace pH := (pH.below bw).below ha
      replace bO := (bO.below bw).below ha
      replace pO := (pO.below bw).below ha
      replace hbel := (hbel.trans (bw.mono hbel.size)).trans (ha.mono (Nat.le_trans hbel.size bw.size))
      clear bw ha
      obtain ⟨zY0, zY1, zY2, -, -, -⟩ := bY.three.cells
      obtain ⟨zX0, zX1, zX2, -, -, -⟩ := bX.three.cells
      go_wp2_with fail
      generalize hoY : wY.heap.size = oY at *
      generalize hwY : wY.alloc (.cells #[.int .i64 wd, .int .i64 hi, .slice (some ⟨qY, 0, none⟩) N cY] 26) = WY at *
      clear hoY hwY
      clear zY0 zY1 zY2 zX0 zX1 zX2
      refine (unlike_pw _ wd hi N qY cY qX cX bsX 981668463 HV.out pY pX (fun b hb => (HXW.out b hb).fin) (by decide)).mono ?_
      rintro e wU ⟨rfl, bw⟩
      replace bP := bP.below bw
      replace pP := pP.below bw
      replace bX := bX.below bw
      replace pX := pX.below bw
      replace bB := bB.below bw
      replace pB := pB.below bw
      replace bH := bH.below bw
      replace pH := pH.below bw
      replace bY := bY.below bw
      replace pY := pY.below bw
      replace hbel := hbel.trans (bw.mono hbel.size)
      clear bw
      clear bY pY bX pX bR pR bO pO CX CO ER HXW
      obtain ⟨zP0, zP1, zP2, -, -, -⟩ := bP.three.cells
      go_wp2_with fail
      clear zP0 zP1 zP2
      refine (flat_pw _ wd hi N 1069547520 HV.out (by decide)).mono ?_
      rintro e wF ⟨qF, cF, bsF, rfl, pF, cnF, bw⟩
      have hbF : ∀ b ∈ bsF, Bd 6 6 b := bd_of_tab (wd := wd) (hi := hi) (g := fun _ _ => fl 1069547520) cnF (by omega) (fun x y hx hy => by rw [show fl 1069547520 = fq 2 6 by decide +kernel]; exact Bd.of (by decide) (by decide) (by decide) (by decide))
      have HBF := Lib.hid hbF
      clear cnF hbF
      have ha : Below wF.heap.size wF (wF.alloc (.cells #[.int .i64 wd, .int .i64 hi, .slice (some ⟨qF, 0, none⟩) N cF] 26)) := (Below.refl _ _).alloc (Nat.le_refl _) _
      have bF := BoxN.last wF #[.int .i64 wd, .int .i64 hi, .slice (some ⟨qF, 0, none⟩) N cF] 26
      replace pF := pF.below ha
      replace bP := (bP.below bw).below ha
      replace pP := (pP.below bw).below ha
      replace bB := (bB.below bw).below ha
      replace pB := (pB.below bw).below ha
      replace bH := (bH.below bw).below ha
      replace pH := (pH.below bw).below ha
      replace hbel := (hbel.trans (bw.mono hbel.size)).trans (ha.mono (Nat.le_trans hbel.size bw.size))
      clear bw ha
      obtain ⟨zF0, zF1, zF2, -, -, -⟩ := bF.three.cells
      go_wp2_with fail
      generalize hoF : wF.heap.size = oF at *
      generalize hwF : wF.alloc (.cells #[.int .i64 wd, .int .i64 hi, .slice (some ⟨qF, 0, none⟩) N cF] 26) = WF at *
      clear hoF hwF
      clear zF0 zF1 zF2
      refine (blur_pb _ wd hi N qF cF n 6 6 HV.out (pF.pb HBF.out) hn (by decide) (by decide) (by decide)).mono ?_
      rintro e wG ⟨qG, cG, rfl, hPG, -, bw⟩
      obtain ⟨bsG, pG, hbG⟩ := hPG.pw
      have HGF := Lib.hid (flat_eq pG.len pF.len hbG HBF.out)
      clear hPG hbG HBF
      have ha : Below wG.heap.size wG (wG.alloc (.cells #[.int .i64 wd, .int .i64 hi, .slice (some ⟨qG, 0, none⟩) N cG] 26)) := (Below.refl _ _).alloc (Nat.le_refl _) _
      have bG := BoxN.last wG #[.int .i64 wd, .int .i64 hi, .slice (some ⟨qG, 0, none⟩) N cG] 26
      replace pG := pG.below ha
      replace bP := (bP.below bw).below ha
      replace pP := (pP.below bw).below ha
      replace bB := (bB.below bw).below ha
      replace pB := (pB.below bw).below ha
      replace bH := (bH.below bw).below ha
      replace pH := (pH.below bw).below ha
      replace bF := (bF.below bw).below ha
      replace pF := (pF.below bw).below ha
      replace hbel := (hbel.trans (bw.mono hbel.size)).trans (ha.mono (Nat.le_trans hbel.size bw.size))
      clear bw ha
      obtain ⟨zP0, zP1, zP2, -, -, -⟩ := bP.three.cells
      go_wp2_with fail
      generalize hoG : wG.heap.size = oG at *
      generalize hwG : wG.alloc (.cells #[.int .i64 wd, .int .i64 hi, .slice (some ⟨qG, 0, none⟩) N cG] 26) = WG at *
      clear hoG hwG
      clear zP0 zP1 zP2
      refine (pyramid_pw _ wd hi N qP cP bsP HV.out pP).mono ?_
      rintro e wV ⟨v, rfl, hpy, bw⟩
      obtain ⟨g3, cap3, rfl, u0, t0, A1, B1, u1, t1, A3, B3, u2, t2, cs0, cs1, cs2, oV, ap0, ap1, ap2, eA1, eB1, eA3, eB3, cc0, cc1, cc2⟩ := hpy
      obtain rfl : A = A1 := by rw [eA1, HA.out]
      obtain rfl : B = B1 := by rw [eB1, HB.out]
      obtain rfl : A2 = A3 := by rw [eA3, HA2.out]
      obtain rfl : B2 = B3 := by rw [eB3, HB2.out]
      have y0 : PW wV u0 t0 N cs0 := ap0.pw (vN HV.out).1
      have y1 : PW wV u1 t1 M cs1 := ap1.pw (vN HVM.out).1
      have y2 : PW wV u2 t2 M2 cs2 := ap2.pw (vN HVM2.out).1
      rw [y0.len, y1.len, y2.len] at oV
      have e0 : cs0.map fl = bsP.map fl := by
        rw [cc0]
        symm
        have hl : (bsP.map fl).length = hi * wd := by rw [List.length_map, pP.len, (vN HV.out).1, Nat.mul_comm]
        apply List.ext_getElem
        · rw [hl, tab_length]
        · intro i h1 h2
          rw [hl] at h1
          have hx := Nat.mod_lt i (show 0 < wd by omega)
          have hy : i / wd < hi := (Nat.div_lt_iff_lt_mul (show 0 < wd by omega)).2 h1
          rw [tab_get]
          show _ = fl (bsP.getD (ix ((i % wd : Nat) : Int) ((i / wd : Nat) : Int) wd hi) 0)
          rw [ix_in hx hy, Nat.mod_add_div, List.getElem_map, ← getD_of]
      have e1 : cs1.map fl = bsH.map fl := by
        rw [cc1, CH.out]
        unfold tab
        apply List.map_congr_left
        intro i _
        exact half_congr e0 _ _ _ _
      have HE0 := Lib.hid e0
      have HE1 := Lib.hid e1
      have HC2 := Lib.hid cc2
      have oV : OwnP wV _ _ _ _ := oV
      clear cc0 cc1 cc2 e0 e1 ap0 ap1 ap2 eA1 eB1 eA3 eB3
      replace bP := bP.below bw
      replace pP := pP.below bw
      replace bB := bB.below bw
      replace pB := pB.below bw
      replace bH := bH.below bw
      replace pH := pH.below bw
      replace bF := bF.below bw
      replace pF := pF.below bw
      replace bG := bG.below bw
      replace pG := pG.below bw
      replace hbel := hbel.trans (bw.mono hbel.size)
      clear bw
      obtain ⟨zG0, zG1, zG2, -, -, -⟩ := bG.three.cells
      obtain ⟨zF0, zF1, zF2, -, -, -⟩ := bF.three.cells
      go_wp2_with fail
      clear zG0 zG1 zG2 zF0 zF1 zF2
      refine (same_pw _ wd hi N qG cG qF cF bsG bsF pG pF HGF.out).mono ?_
      rintro e wS ⟨rfl, bw⟩
      replace bP := bP.below bw
      replace pP := pP.below bw
      replace bB := bB.below bw
      replace pB := pB.below bw
      replace bH := bH.below bw
      replace pH := pH.below bw
      replace bF := bF.below bw
      replace pF := pF.below bw
      replace bG := bG.below bw
      replace pG := pG.below bw
      replace oV := oV.below bw
      replace y0 := y0.below bw
      replace y1 := y1.below bw
      replace y2 := y2.below bw
      replace hbel := hbel.trans (bw.mono hbel.size)
      clear bw
      clear bG pG bF pF
      obtain ⟨zH0, zH1, zH2, -, -, -⟩ := bH.three.cells
      go_wp2_with fail
      clear zH0 zH1 zH2
      refine (halve_pw _ A B M A2 B2 M2 qH cH bsH HVM.out HA2.out HB2.out HVM2.out pH).mono ?_
      rintro e wZ ⟨qZ, cZ, bsZ, rfl, pZ, cnZ, bw⟩
      have e2 : cs2.map fl = bsZ.map fl := by
        rw [HC2.out, cnZ]
        unfold tab
        apply List.map_congr_left
        intro i _
        exact half_congr HE1.out _ _ _ _
      have HE2 := Lib.hid e2
      clear cnZ e2
      have ha : Below wZ.heap.size wZ (wZ.alloc (.cells #[.int .i64 A2, .int .i64 B2, .slice (some ⟨qZ, 0, none⟩) M2 cZ] 26)) := (Below.refl _ _).alloc (Nat.le_refl _) _
      have bZ := BoxN.last wZ #[.int .i64 A2, .int .i64 B2, .slice (some ⟨qZ, 0, none⟩) M2 cZ] 26
      replace pZ := pZ.below ha
      replace bP := (bP.below bw).below ha
      replace pP := (pP.below bw).below ha
      replace bB := (bB.below bw).below ha
      replace pB := (pB.below bw).below ha
      replace bH := (bH.below bw).below ha
      replace pH := (pH.below bw).below ha
      replace oV := (oV.below bw).below ha
      replace y0 := (y0.below bw).below ha
      replace y1 := (y1.below bw).below ha
      replace y2 := (y2.below bw).below ha
      replace hbel := (hbel.trans (bw.mono hbel.size)).trans (ha.mono (Nat.le_trans hbel.size bw.size))
      clear bw ha
      obtain ⟨zP0, zP1, zP2, -, -, -⟩ := bP.three.cells
      obtain ⟨zH0, zH1, zH2, -, -, -⟩ := bH.three.cells
      obtain ⟨zZ0, zZ1, zZ2, -, -, -⟩ := bZ.three.cells
      go_wp2_with fail
      generalize hoZ : wZ.heap.size = oZ at *
      generalize hwZ : wZ.alloc (.cells #[.int .i64 A2, .int .i64 B2, .slice (some ⟨qZ, 0, none⟩) M2 cZ] 26) = WZ at *
      clear hoZ hwZ
      have CELLS : ∀ W, Below WZ.heap.size WZ W → (Below WZ.heap.size WZ W ∧ W.cell? ⟨g3, 0, none⟩ = some (.int .i64 wd) ∧ W.cell? ⟨g3, 1, none⟩ = some (.int .i64 hi) ∧ W.cell? ⟨g3, 2, none⟩ = some (.slice (some ⟨u0, 0, none⟩) N t0) ∧ W.cell? ⟨g3, 3, none⟩ = some (.int .i64 A) ∧ W.cell? ⟨g3, 4, none⟩ = some (.int .i64 B) ∧ W.cell? ⟨g3, 5, none⟩ = some (.slice (some ⟨u1, 0, none⟩) M t1) ∧ W.cell? ⟨g3, 6, none⟩ = some (.int .i64 A2) ∧ W.cell? ⟨g3, 7, none⟩ = some (.int .i64 B2) ∧ W.cell? ⟨g3, 8, none⟩ = some (.slice (some ⟨u2, 0, none⟩) M2 t2) ∧ W.cell? ⟨oP, 0, none⟩ = some (.int .i64 wd) ∧ W.cell? ⟨oP, 1, none⟩ = some (.int .i64 hi) ∧ W.cell? ⟨oP, 2, none⟩ = some (.slice (some ⟨qP, 0, none⟩) N cP) ∧ W.cell? ⟨oH, 0, none⟩ = some (.int .i64 A) ∧ W.cell? ⟨oH, 1, none⟩ = some (.int .i64 B) ∧ W.cell? ⟨oH, 2, none⟩ = some (.slice (some ⟨qH, 0, none⟩) M cH) ∧ W.cell? ⟨oZ, 0, none⟩ = some (.int .i64 A2) ∧ W.cell? ⟨oZ, 1, none⟩ = some (.int .i64 B2) ∧ W.cell? ⟨oZ, 2, none⟩ = some (.slice (some ⟨qZ, 0, none⟩) M2 cZ)) := fun W hW => by
        have o := oV.below hW
        obtain ⟨m0, m1, m2, -, -, -⟩ := (bP.below hW).three.cells
        obtain ⟨m3, m4, m5, -, -, -⟩ := (bH.below hW).three.cells
        obtain ⟨m6, m7, m8, -, -, -⟩ := (bZ.below hW).three.cells
        exact ⟨hW, o.cellAt 0 _ (by rfl), o.cellAt 1 _ (by rfl), o.cellAt 2 _ (by rfl), o.cellAt 3 _ (by rfl), o.cellAt 4 _ (by rfl), o.cellAt 5 _ (by rfl), o.cellAt 6 _ (by rfl), o.cellAt 7 _ (by rfl), o.cellAt 8 _ (by rfl), m0, m1, m2, m3, m4, m5, m6, m7, m8⟩
      have KS1 := Lib.hid (fun W (hW : Below WZ.heap.size WZ W) => same_pw W wd hi N u0 t0 qP cP cs0 bsP (y0.below hW) (pP.below hW) HE0.out)
      have KS2 := Lib.hid (fun W (hW : Below WZ.heap.size WZ W) => same_pw W A B M u1 t1 qH cH cs1 bsH (y1.below hW) (pH.below hW) HE1.out)
      have KS3 := Lib.hid (fun W (hW : Below WZ.heap.size WZ W) => same_pw W A2 B2 M2 u2 t2 qZ cZ cs2 bsZ (y2.below hW) (pZ.below hW) HE2.out)
      have CELLS := Lib.hid CELLS
      have hB0 : Below WZ.heap.size WZ WZ.drew := below_drewN (Below.refl _ _) 1
      have HBEL := Lib.hid hbel
      clear hbel oV bP pP bB pB bH pH bZ pZ y0 y1 y2
      go_region_held3 (fun W => Below WZ.heap.size WZ W ∧ W.cell? ⟨g3, 0, none⟩ = some (.int .i64 wd) ∧ W.cell? ⟨g3, 1, none⟩ = some (.int .i64 hi) ∧ W.cell? ⟨g3, 2, none⟩ = some (.slice (some ⟨u0, 0, none⟩) N t0) ∧ W.cell? ⟨g3, 3, none⟩ = some (.int .i64 A) ∧ W.cell? ⟨g3, 4, none⟩ = some (.int .i64 B) ∧ W.cell? ⟨g3, 5, none⟩ = some (.slice (some ⟨u1, 0, none⟩) M t1) ∧ W.cell? ⟨g3, 6, none⟩ = some (.int .i64 A2) ∧ W.cell? ⟨g3, 7, none⟩ = some (.int .i64 B2) ∧ W.cell? ⟨g3, 8, none⟩ = some (.slice (some ⟨u2, 0, none⟩) M2 t2) ∧ W.cell? ⟨oP, 0, none⟩ = some (.int .i64 wd) ∧ W.cell? ⟨oP, 1, none⟩ = some (.int .i64 hi) ∧ W.cell? ⟨oP, 2, none⟩ = some (.slice (some ⟨qP, 0, none⟩) N cP) ∧ W.cell? ⟨oH, 0, none⟩ = some (.int .i64 A) ∧ W.cell? ⟨oH, 1, none⟩ = some (.int .i64 B) ∧ W.cell? ⟨oH, 2, none⟩ = some (.slice (some ⟨qH, 0, none⟩) M cH) ∧ W.cell? ⟨oZ, 0, none⟩ = some (.int .i64 A2) ∧ W.cell? ⟨oZ, 1, none⟩ = some (.int .i64 B2) ∧ W.cell? ⟨oZ, 2, none⟩ = some (.slice (some ⟨qZ, 0, none⟩) M2 cZ))
        (first | exact CELLS.out _ hB3 | exact CELLS.out _ hB2 | exact CELLS.out _ hB1 | exact CELLS.out _ hB0 | go_keep)
        ((first
          | (go_at_call 17; with_reducible refine (KS1.out _ hB0).mono ?_; rintro e wS1 ⟨rfl, bS1⟩; have hB1 : Below WZ.heap.size WZ wS1 := hB0.trans (bS1.mono hB0.size))
          | (go_at_call 17; with_reducible refine (KS2.out _ hB1).mono ?_; rintro e wS2 ⟨rfl, bS2⟩; have hB2 : Below WZ.heap.size WZ wS2 := hB1.trans (bS2.mono hB1.size))
          | (go_at_call 17; with_reducible refine (KS3.out _ hB2).mono ?_; rintro e wS3 ⟨rfl, bS3⟩; have hB3 : Below WZ.heap.size WZ wS3 := hB2.trans (bS3.mono hB2.size))))
      go_wp2
      go_ret
      exact ⟨rfl, HBEL.out.trans (hB3.mono HBEL.out.size)⟩

theorem fnMeans_walk (w : World) (a0 a1 : Option Addr) (l0 c0 l1 c1 : Nat) (z0 z1 : List Int)
    (r0 : (a0 = none ∧ l0 = 0 ∧ c0 = 0 ∧ z0 = []) ∨ ∃ x, a0 = some x ∧ l0 ≤ c0 ∧ c0 ≤ maxLen ∧ z0.length = c0 ∧ (∀ i, i < z0.length → w.cell? (x.add i) = some (.int .u8 (z0.getD i 0))) ∧ ∀ n ∈ z0, (Lit.int .u8 n).wf = true)
    (r1 : (a1 = none ∧ l1 = 0 ∧ c1 = 0 ∧ z1 = []) ∨ ∃ x, a1 = some x ∧ l1 ≤ c1 ∧ c1 ≤ maxLen ∧ z1.length = c1 ∧ (∀ i, i < z1.length → w.cell? (x.add i) = some (.int .u8 (z1.getD i 0))) ∧ ∀ n ∈ z1, (Lit.int .u8 n).wf = true) :
    Calls Try.prog 3 #[.slice a0 l0 c0, .slice a1 l1 c1] w fun e w' => e = .returned (.bool true) ∧ Below w.heap.size w w' := by
  by_cases h : l0 ≤ 48 ∧ l1 ≤ 48
  · exact fnMeans_short w a0 a1 l0 c0 l1 c1 h.1 h.2 (bytesIn_of_row r0 (by omega)) (bytesIn_of_row r1 (by omega))
  · exact fnMeans_long w a0 a1 l0 c0 l1 c1 (len_of_row r0) (len_of_row r1) h

end Go.Proofs.Ytialajgobpokmaa
