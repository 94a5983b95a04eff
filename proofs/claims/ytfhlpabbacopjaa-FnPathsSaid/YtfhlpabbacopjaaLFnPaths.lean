/- The law of paths: the walk of its code. No condition. -/
import Derived.Test.YtfhlpabbacopjaaPy
namespace Go.Proofs.Ytfhlpabbacopjaa
open Go.RowKit
set_option maxRecDepth 100000
set_option linter.unusedVariables false
set_option linter.unusedSimpArgs false

theorem fnPaths_long (w : World) (a0 a1 : Option Addr) (l0 c0 l1 c1 : Nat) (m0 : l0 ≤ 9223372036854775807) (m1 : l1 ≤ 9223372036854775807) (h : ¬ (l0 ≤ 48 ∧ l1 ≤ 48)) :
    Calls Try.prog 3 #[.slice a0 l0 c0, .slice a1 l1 c1] w fun e w' => e = .returned (.bool true) ∧ Below w.heap.size w w' := by
  go_enter Try.func3, Try.ntmps3
  go_wp2_with fail
  refine (r8Long_yes _ _ _ _ _ _ _ m0 m1 h).mono ?_
  rintro e w' ⟨rfl, rfl⟩
  go_wp2
  go_ret
  exact ⟨rfl, Below.refl _ _⟩

/-- Bounds of small quarters. -/
theorem qb2_of {l : List Int} {dp : Nat} (hl : l.length = dp) (h : ∀ d, d < dp → (l.getD d 0).natAbs ≤ 1000000) : qb2 l := by
  intro k hk
  obtain ⟨i, hi, rfl⟩ := List.getElem_of_mem hk
  have := h i (by omega)
  rwa [List.getD_eq_getElem?_getD, List.getElem?_eq_getElem hi] at this
/-- The cells of a list of quarters. -/
def ownOf (ks : List Int) (wd dp : Nat) : Int → Int → List Int := fun x y => (ks.drop (ic wd dp x.toNat y.toNat)).take dp
theorem own_qv {ks : List Int} {wd hi dp : Nat} (hl : ks.length = wd * hi * dp) : QV (ks.map (fq 2)) wd hi dp (ownOf ks wd dp) := by
  refine ⟨by simpa using hl, fun x y hx hy => ?_⟩
  have hle := ic_le (dp := dp) hx hy
  unfold ownOf
  simp only [Int.toNat_natCast]
  refine ⟨by rw [List.length_take, List.length_drop]; omega, fun d hd => ?_⟩
  rw [getD_map_fq 2 _ _ (by omega)]
  congr 1
  rw [List.getD_eq_getElem?_getD, List.getD_eq_getElem?_getD, List.getElem?_take, if_pos hd, List.getElem?_drop]
theorem own_bd {ks : List Int} {wd dp : Nat} (hb : ∀ k ∈ ks, 0 ≤ k ∧ k ≤ 16) (x y : Int) : ∀ k ∈ ownOf ks wd dp x y, 0 ≤ k ∧ k ≤ 16 := fun k hk => hb k (List.mem_of_mem_drop (List.mem_of_mem_take hk))
theorem own_len {ks : List Int} {wd hi dp : Nat} (hl : ks.length = wd * hi * dp) {x y : Int} (h : insI x y wd hi) : (ownOf ks wd dp x y).length = dp := by
  obtain ⟨h0, h1, h2, h3⟩ := h
  obtain ⟨x, rfl⟩ := Int.eq_ofNat_of_zero_le h0
  obtain ⟨y, rfl⟩ := Int.eq_ofNat_of_zero_le h2
  exact ((own_qv hl).2 x y (by omega) (by omega)).1
theorem map2_qb {l : List Int} (h : ∀ k ∈ l, 0 ≤ k ∧ k ≤ 16) : qb2 (l.map ((2 : Int) * ·)) := by
  intro k hk
  obtain ⟨z, hz, rfl⟩ := List.mem_map.1 hk
  have := h z hz
  show (2 * z).natAbs ≤ _
  omega

set_option maxHeartbeats 40000000 in
theorem fnPaths_short (w : World) (a0 a1 : Option Addr) (l0 c0 l1 c1 : Nat) (h0 : l0 ≤ 48) (h1 : l1 ≤ 48) (hb0 : BytesIn w a0 l0) (hb1 : BytesIn w a1 l1) :
    Calls Try.prog 3 #[.slice a0 l0 c0, .slice a1 l1 c1] w fun e w' => e = .returned (.bool true) ∧ Below w.heap.size w w' := by
  go_enter Try.func3, Try.ntmps3
  go_wp2_with fail
  refine (r8Long_no _ _ _ _ _ _ _ h0 h1).mono ?_
  rintro e w' ⟨rfl, rfl⟩
  go_wp2_with fail
  refine (r8Volume_any _ _ _ _ hb0).mono ?_
  rintro e w1 ⟨wd, hi, dp, qA, cA, ks, rfl, v1, v2, v3, v4, v5, v6, hkl, hown, hkb, bw⟩
  obtain ⟨N, hN⟩ : ∃ N, N = wd * hi * dp := ⟨_, rfl⟩
  rw [hkl, ← hN] at hown ⊢
  have hN48 : N ≤ 48 := by rw [hN]; have := Nat.mul_le_mul (Nat.mul_le_mul v2 v4) v6; omega
  have vA : VQ w1 wd hi dp qA cA N (ks.map (fq 2)) (ownOf ks wd dp) := ⟨hown.sl, (hown.lt (k := qA) rfl).2, own_qv hkl⟩
  have hvv : vVol wd hi dp (wd * hi * dp) = true := vVol_of v1 (by omega) v3 (by omega) (by have := Nat.mul_le_mul v2 v4; omega) v5 (by omega)
  have hvn : vVol wd hi dp N = true := by rw [hN]; exact hvv
  have hol : ∀ x y, insI x y wd hi → (ownOf ks wd dp x y).length = dp := fun x y h => own_len hkl h
  have hob : ∀ x y, insI x y wd hi → qb2 (ownOf ks wd dp x y) := fun x y _ k hk => by have := own_bd hkb x y k hk; omega
  have hob2 : ∀ x y, insI x y wd hi → qb2 ((ownOf ks wd dp x y).map ((2 : Int) * ·)) := fun x y _ => map2_qb (own_bd hkb x y)
  generalize hown_ : ownOf ks wd dp = own at *
  generalize hbs_ : ks.map (fq 2) = bsA at *
  have ha : Below w1.heap.size w1 (w1.alloc (.cells #[.int .i64 wd, .int .i64 hi, .int .i64 dp, .slice (some ⟨qA, 0, none⟩) N cA] 26)) := (Below.refl _ _).alloc (Nat.le_refl _) _
  have bA := BoxN.last w1 #[.int .i64 wd, .int .i64 hi, .int .i64 dp, .slice (some ⟨qA, 0, none⟩) N cA] 26
  have vA := vA.below ha
  have hbel := bw.trans (ha.mono bw.size)
  have hbA := hb1.below hbel
  have HVV := Lib.hid hvv
  have HVN := Lib.hid hvn
  have HN := Lib.hid hN
  clear hown bw ha hvv hvn hkl hkb hb0 hb1 hN hown_ hbs_
  go_wp2_with fail
  generalize hoA : w1.heap.size = oA at *
  generalize hwA : w1.alloc (.cells #[.int .i64 wd, .int .i64 hi, .int .i64 dp, .slice (some ⟨qA, 0, none⟩) N cA] 26) = wA at *
  clear hoA hwA
  refine (r8Prices_any _ _ _ _ hbA).mono ?_
  rintro e w2 ⟨one, more, rfl, p1, p2, p3, bw⟩
  have ha : Below w2.heap.size w2 (w2.alloc (.cells #[.float .f32 (fq 2 one), .float .f32 (fq 2 more)] 30)) := (Below.refl _ _).alloc (Nat.le_refl _) _
  have bP := BoxN.last w2 #[.float .f32 (fq 2 one), .float .f32 (fq 2 more)] 30
  replace bA := (bA.below bw).below ha
  replace vA := (vA.below bw).below ha
  replace hbA := (hbA.below bw).below ha
  replace hbel := (hbel.trans (bw.mono hbel.size)).trans (ha.mono (Nat.le_trans hbel.size bw.size))
  clear bw ha
  go_wp2_with fail
  generalize hoP : w2.heap.size = oP at *
  generalize hwP : w2.alloc (.cells #[.float .f32 (fq 2 one), .float .f32 (fq 2 more)] 30) = wP at *
  clear hoP hwP
  refine (r8At_any _ _ _ _ 1 8 (by omega) (by omega) (by omega) hbA).mono ?_
  rintro e w3 ⟨k, rfl, k0, k1, rfl⟩
  obtain ⟨k, rfl⟩ := Int.eq_ofNat_of_zero_le k0
  have hk : k < 8 := by omega
  have HK := Lib.hid hk
  have mm := fq_mul (g := 0) (h := 2) (by omega) (a := 2) (b := one) (by omega) (by omega) (by omega) (by intro e; omega)
  have mm2 := fq_mul (g := 0) (h := 2) (by omega) (a := 2) (b := more) (by omega) (by omega) (by omega) (by intro e; omega)
  have e2 : fq 0 2 = 1073741824 := by decide +kernel
  rw [e2, Nat.zero_add] at mm mm2
  have HM1 := Lib.hid (fres_some mm)
  have HM2 := Lib.hid (fdr_some mm)
  have HM3 := Lib.hid (fres_some mm2)
  have HM4 := Lib.hid (fdr_some mm2)
  clear hbA mm mm2 e2 k0 k1 hk
  obtain ⟨zA0, zA1, zA2, zA3, -, -, -, -⟩ := bA.four
  obtain ⟨zP0, zP1⟩ : _ ∧ _ := ⟨bP.cell 0, bP.cell 1⟩
  simp at zP0 zP1
  go_wp2_with fail
  clear zA0 zA1 zA2 zA3 zP0 zP1
  refine (path_vq k one more vA HVV.out HN.out HK.out hob p1 p2 (by omega)).mono ?_
  rintro e wB ⟨qB, cB, bsB, P, rfl, vB, alB, okB, bw⟩
  have ALB := Lib.hid alB
  have OKB := Lib.hid okB
  clear alB okB
  have ha : Below wB.heap.size wB (wB.alloc (.cells #[.int .i64 wd, .int .i64 hi, .int .i64 dp, .slice (some ⟨qB, 0, none⟩) N cB] 26)) := (Below.refl _ _).alloc (Nat.le_refl _) _
  have bB := BoxN.last wB #[.int .i64 wd, .int .i64 hi, .int .i64 dp, .slice (some ⟨qB, 0, none⟩) N cB] 26
  replace vB := vB.below ha
  replace bA := (bA.below bw).below ha
  replace vA := (vA.below bw).below ha
  replace bP := (bP.below bw).below ha
  replace hbel := (hbel.trans (bw.mono hbel.size)).trans (ha.mono (Nat.le_trans hbel.size bw.size))
  clear bw ha
  obtain ⟨zA0, zA1, zA2, zA3, -, -, -, -⟩ := bA.four
  go_wp2_with fail
  generalize hoB : wB.heap.size = oB at *
  generalize hwB : wB.alloc (.cells #[.int .i64 wd, .int .i64 hi, .int .i64 dp, .slice (some ⟨qB, 0, none⟩) N cB] 26) = WB at *
  clear hoB hwB
  clear zA0 zA1 zA2 zA3
  refine (scale_vq vA HVV.out HN.out (fun x y h k hk => by have := hob x y h k hk; omega)).mono ?_
  rintro e wC ⟨qC, cC, bsC, rfl, vC, bw⟩
  have ha : Below wC.heap.size wC (wC.alloc (.cells #[.int .i64 wd, .int .i64 hi, .int .i64 dp, .slice (some ⟨qC, 0, none⟩) N cC] 26)) := (Below.refl _ _).alloc (Nat.le_refl _) _
  have bC := BoxN.last wC #[.int .i64 wd, .int .i64 hi, .int .i64 dp, .slice (some ⟨qC, 0, none⟩) N cC] 26
  replace vC := vC.below ha
  replace bA := (bA.below bw).below ha
  replace vA := (vA.below bw).below ha
  replace bP := (bP.below bw).below ha
  replace bB := (bB.below bw).below ha
  replace vB := (vB.below bw).below ha
  replace hbel := (hbel.trans (bw.mono hbel.size)).trans (ha.mono (Nat.le_trans hbel.size bw.size))
  clear bw ha
  obtain ⟨m1, m2, m3, m4, hd0⟩ : _ ∧ _ ∧ _ ∧ _ ∧ (∀ W : World, W.drewN 0 = W) := ⟨HM1.out, HM2.out, HM3.out, HM4.out, fun _ => rfl⟩
  obtain ⟨zC0, zC1, zC2, zC3, -, -, -, -⟩ := bC.four
  obtain ⟨zP0, zP1⟩ : _ ∧ _ := ⟨bP.cell 0, bP.cell 1⟩
  simp at zP0 zP1
  go_wp2_with fail
  generalize hoC : wC.heap.size = oC at *
  generalize hwC : wC.alloc (.cells #[.int .i64 wd, .int .i64 hi, .int .i64 dp, .slice (some ⟨qC, 0, none⟩) N cC] 26) = WC at *
  clear hoC hwC
  clear zC0 zC1 zC2 zC3 zP0 zP1
  clear m1 m2 m3 m4 hd0
  refine (path_vq k (2 * one) (2 * more) vC HVV.out HN.out HK.out hob2 (by omega) (by omega) (by omega)).mono ?_
  rintro e wD ⟨qD, cD, bsD, P2, rfl, vD, alD, okD, bw⟩
  have ALD := Lib.hid alD
  clear alD okD
  have ha : Below wD.heap.size wD (wD.alloc (.cells #[.int .i64 wd, .int .i64 hi, .int .i64 dp, .slice (some ⟨qD, 0, none⟩) N cD] 26)) := (Below.refl _ _).alloc (Nat.le_refl _) _
  have bD := BoxN.last wD #[.int .i64 wd, .int .i64 hi, .int .i64 dp, .slice (some ⟨qD, 0, none⟩) N cD] 26
  replace vD := vD.below ha
  replace bA := (bA.below bw).below ha
  replace vA := (vA.below bw).below ha
  replace bP := (bP.below bw).below ha
  replace bB := (bB.below bw).below ha
  replace vB := (vB.below bw).below ha
  replace bC := (bC.below bw).below ha
  replace vC := (vC.below bw).below ha
  replace hbel := (hbel.trans (bw.mono hbel.size)).trans (ha.mono (Nat.le_trans hbel.size bw.size))
  clear bw ha
  obtain ⟨zB0, zB1, zB2, zB3, -, -, -, -⟩ := bB.four
  go_wp2_with fail
  generalize hoD : wD.heap.size = oD at *
  generalize hwD : wD.alloc (.cells #[.int .i64 wd, .int .i64 hi, .int .i64 dp, .slice (some ⟨qD, 0, none⟩) N cD] 26) = WD at *
  clear hoD hwD
  clear zB0 zB1 zB2 zB3
  refine (scale_vq vB HVV.out HN.out (fun x y h => (OKB.out x y h).qb3 (hob x y h))).mono ?_
  rintro e wE ⟨qE, cE, bsE, rfl, vE, bw⟩
  have ha : Below wE.heap.size wE (wE.alloc (.cells #[.int .i64 wd, .int .i64 hi, .int .i64 dp, .slice (some ⟨qE, 0, none⟩) N cE] 26)) := (Below.refl _ _).alloc (Nat.le_refl _) _
  have bE := BoxN.last wE #[.int .i64 wd, .int .i64 hi, .int .i64 dp, .slice (some ⟨qE, 0, none⟩) N cE] 26
  replace vE := vE.below ha
  replace bA := (bA.below bw).below ha
  replace vA := (vA.below bw).below ha
  replace bP := (bP.below bw).below ha
  replace bB := (bB.below bw).below ha
  replace vB := (vB.below bw).below ha
  replace bC := (bC.below bw).below ha
  replace vC := (vC.below bw).below ha
  replace bD := (bD.below bw).below ha
  replace vD := (vD.below bw).below ha
  replace hbel := (hbel.trans (bw.mono hbel.size)).trans (ha.mono (Nat.le_trans hbel.size bw.size))
  clear bw ha
  obtain ⟨zA0, zA1, zA2, zA3, -, -, -, -⟩ := bA.four
  go_wp2_with fail
  generalize hoE : wE.heap.size = oE at *
  generalize hwE : wE.alloc (.cells #[.int .i64 wd, .int .i64 hi, .int .i64 dp, .slice (some ⟨qE, 0, none⟩) N cE] 26) = WE at *
  clear hoE hwE
  clear zA0 zA1 zA2 zA3
  refine (mirror_vq vA HVV.out HN.out (fun x y h k hk => by have := hob x y h k hk; omega)).mono ?_
  rintro e wF ⟨qF, cF, bsF, rfl, vF, bw⟩
  have ha : Below wF.heap.size wF (wF.alloc (.cells #[.int .i64 wd, .int .i64 hi, .int .i64 dp, .slice (some ⟨qF, 0, none⟩) N cF] 26)) := (Below.refl _ _).alloc (Nat.le_refl _) _
  have bF := BoxN.last wF #[.int .i64 wd, .int .i64 hi, .int .i64 dp, .slice (some ⟨qF, 0, none⟩) N cF] 26
  replace vF := vF.below ha
  replace bA := (bA.below bw).below ha
  replace vA := (vA.below bw).below ha
  replace bP := (bP.below bw).below ha
  replace bB := (bB.below bw).below ha
  replace vB := (vB.below bw).below ha
  replace bC := (bC.below bw).below ha
  replace vC := (vC.below bw).below ha
  replace bD := (bD.below bw).below ha
  replace vD := (vD.below bw).below ha
  replace bE := (bE.below bw).below ha
  replace vE := (vE.below bw).below ha
  replace hbel := (hbel.trans (bw.mono hbel.size)).trans (ha.mono (Nat.le_trans hbel.size bw.size))
  clear bw ha
  go_wp2_with fail
  generalize hoF : wF.heap.size = oF at *
  generalize hwF : wF.alloc (.cells #[.int .i64 wd, .int .i64 hi, .int .i64 dp, .slice (some ⟨qF, 0, none⟩) N cF] 26) = WF at *
  clear hoF hwF
  refine (wayOf_ok k HK.out _).mono ?_
  rintro e wG ⟨rfl, bw⟩
  replace bA := bA.below bw
  replace vA := vA.below bw
  replace bP := bP.below bw
  replace bB := bB.below bw
  replace vB := vB.below bw
  replace bC := bC.below bw
  replace vC := vC.below bw
  replace bD := bD.below bw
  replace vD := vD.below bw
  replace bE := bE.below bw
  replace vE := vE.below bw
  replace bF := bF.below bw
  replace vF := vF.below bw
  replace hbel := hbel.trans (bw.mono hbel.size)
  clear bw
  have hPl : ∀ x y, insI x y wd hi → (own x y).length = dp ∧ (P x y).length = dp := fun x y h => ⟨hol x y h, (OKB.out x y h).1⟩
  have hgb : ∀ x y, insI x y wd hi → P2 x y = (P x y).map ((2 : Int) * ·) := path_same HK.out ALD.out (along_scale v5 ALB.out (fun x y h => (hPl x y h).2))
  have HPL := Lib.hid hPl
  have HGB := Lib.hid hgb
  clear hPl hgb
  obtain ⟨zD0, zD1, zD2, zD3, -, -, -, -⟩ := bD.four
  obtain ⟨zE0, zE1, zE2, zE3, -, -, -, -⟩ := bE.four
  go_wp2_with fail
  clear zD0 zD1 zD2 zD3 zE0 zE1 zE2 zE3
  refine (same_vq vD vE v5 v1 HGB.out).mono ?_
  rintro e wH ⟨rfl, bw⟩
  replace bA := bA.below bw
  replace vA := vA.below bw
  replace bP := bP.below bw
  replace bB := bB.below bw
  replace vB := vB.below bw
  replace bC := bC.below bw
  replace vC := vC.below bw
  replace bD := bD.below bw
  replace vD := vD.below bw
  replace bE := bE.below bw
  replace vE := vE.below bw
  replace bF := bF.below bw
  replace vF := vF.below bw
  replace hbel := hbel.trans (bw.mono hbel.size)
  clear bw
  obtain ⟨zB0, zB1, zB2, zB3, -, -, -, -⟩ := bB.four
  go_wp2_with fail
  clear zB0 zB1 zB2 zB3
  refine (validVolume_any _ _ _ _ _ _ (by omega) _).mono ?_
  rw [HVN.out]
  rintro e wI ⟨rfl, bw⟩
  replace bA := bA.below bw
  replace vA := vA.below bw
  replace bP := bP.below bw
  replace bB := bB.below bw
  replace vB := vB.below bw
  replace bC := bC.below bw
  replace vC := vC.below bw
  replace bD := bD.below bw
  replace vD := vD.below bw
  replace bE := bE.below bw
  replace vE := vE.below bw
  replace bF := bF.below bw
  replace vF := vF.below bw
  replace hbel := hbel.trans (bw.mono hbel.size)
  clear bw
  have hfA := vA.qv.flat v5 v1
  have hfB := vB.qv.flat v5 v1
  rw [← HN.out] at hfA hfB
  have HFA := Lib.hid hfA
  have HFB := Lib.hid hfB
  have SA := Lib.hid vA
  have SB := Lib.hid vB
  clear hfA hfB
  obtain ⟨zA0, zA1, zA2, zA3, -, -, -, -⟩ := bA.four
  obtain ⟨zB0, zB1, zB2, zB3, -, -, -, -⟩ := bB.four
  obtain ⟨zP0, zP1⟩ : _ ∧ _ := ⟨bP.cell 0, bP.cell 1⟩
  simp at zP0 zP1
  go_wp2_with fail
  go_loopw [21] (fun v21 wr => ∃ i q : Nat, v21 = .int .i64 i ∧ i ≤ N ∧ wr = wI.drewN q) (fun v21 _ => N - (intOf v21).toNat)
  case atStart => exact ⟨0, 0, rfl, Nat.zero_le _, rfl⟩
  case round =>
    obtain ⟨i, q, rfl, hi_, rfl⟩ := hrel
    by_cases hlt : i < N
    · have kA := (SA.out.sl.at i (by rw [SA.out.len]; exact hlt)).1
      have kB := (SB.out.sl.at i (by rw [SB.out.len]; exact hlt)).1
      have eA : bsA.getD i 0 = fq 2 (fzI wd dp own i) := by rw [HFA.out, List.getD_eq_getElem?_getD, List.getElem?_map, List.getElem?_range hlt]; rfl
      have eB : bsB.getD i 0 = fq 2 (fzI wd dp P i) := by rw [HFB.out, List.getD_eq_getElem?_getD, List.getElem?_map, List.getElem?_range hlt]; rfl
      rw [eA, Nat.zero_add] at kA
      rw [eB, Nat.zero_add] at kB
      have hLi : i < wd * hi * dp := by rw [← HN.out]; exact hlt
      obtain ⟨u1, u2, u3, u4⟩ := place_parts v5 v1 hLi
      have hins : insI ((i / dp % wd : Nat) : Int) ((i / dp / wd : Nat) : Int) wd hi := ⟨Int.natCast_nonneg _, Int.ofNat_lt.2 u1, Int.natCast_nonneg _, Int.ofNat_lt.2 u2⟩
      have hbd := along_bounds p1 (by omega) ALB.out HPL.out hins u3
      have hob1 := (hob _ _ hins).get (i % dp)
      have hbd : fzI wd dp own i ≤ fzI wd dp P i ∧ fzI wd dp P i ≤ fzI wd dp own i + more := hbd
      have hob1 : (fzI wd dp own i).natAbs ≤ 1000000 := hob1
      generalize fzI wd dp own i = z at *
      generalize fzI wd dp P i = y at *
      have t1 : lt32 (fq 2 y) (fq 2 z) = false := by rw [lt32_fq (by omega) (by omega)]; simp; omega
      have t2 : lt32 (fq 2 (z + more)) (fq 2 y) = false := by rw [lt32_fq (by omega) (by omega)]; simp; omega
      have t3 := fq_add (g := 2) (a := z) (b := more) (by omega) (by omega) (by omega)
      have t4 := fres_some t3
      have t5 := fdr_some t3
      have hd0 : ∀ W : World, W.drewN 0 = W := fun _ => rfl
      have hi2 : (i : Int) < (N : Int) := by omega
      clear t3 eA eB hLi u1 u2 u3 u4 hins hbd hob1
      generalize fq 2 (z + more) = vs at *
      generalize fq 2 z = vz at *
      generalize fq 2 y = vy at *
      generalize fq 2 one = vo at *
      generalize fq 2 more = vm at *
      go_wp2_with fail
      go_quiet (fail)
      go_wp2
      go_roundw
      case rel => exact ⟨i + 1, _, by go_num, by omega, rfl⟩
      case measure => simp [intOf]; omega
    · obtain rfl : N = i := by omega
      clear hlt hi_ zA0 zA1 zA2 zA3 zB0 zB1 zB2 zB3 zP0 zP1 SA SB HFA HFB
      have bw : Below wI.heap.size wI (wI.drewN q) := below_drewN (Below.refl _ _) q
      replace bA := bA.below bw
      replace vA := vA.below bw
      replace bP := bP.below bw
      replace bB := bB.below bw
      replace vB := vB.below bw
      replace bC := bC.below bw
      replace vC := vC.below bw
      replace bD := bD.below bw
      replace vD := vD.below bw
      replace bE := bE.below bw
      replace vE := vE.below bw
      replace bF := bF.below bw
      replace vF := vF.below bw
      replace hbel := hbel.trans (bw.mono hbel.size)
      clear bw
      generalize wI.drewN q = wJ at *
      obtain ⟨zA0, zA1, zA2, zA3, -, -, -, -⟩ := bA.four
      go_wp2_with fail
      clear zA0 zA1 zA2 zA3
      obtain ⟨k1, k2, k3, k4⟩ := mirK_way k HK.out
      obtain ⟨d1, d2, d3, d4⟩ := isDir_bd (way_dir k HK.out)
      have K4 := Lib.hid k4
      have K2 := Lib.hid k2
      have K3 := Lib.hid k3
      clear k2 k3 k4
      go_loopw [22, 23] (fun v22 v23 wr => ∃ j : Nat, v22 = .int .i64 (if mirK k < j then ((mirK k : Nat) : Int) else -1) ∧ v23 = .int .i64 j ∧ j ≤ 8 ∧ Below wJ.heap.size wJ wr) (fun _ v23 _ => 8 - (intOf v23).toNat)
      case atStart => exact ⟨0, by simp, rfl, by omega, Below.refl _ _⟩
      case round =>
        obtain ⟨j, rfl, rfl, hj8, bJ⟩ := hrel
        by_cases hj : j < 8
        · have hj2 : (j : Int) < 8 := by omega
          have hiff := K4.out j hj
          have BJ := Lib.hid bJ
          generalize hoth : (if mirK k < j then ((mirK k : Nat) : Int) else -1) = oth at *
          have HO := Lib.hid hoth
          clear bJ hoth
          go_wp2_with fail
          refine (wayOf_ok j hj _).mono ?_
          rintro e w9 ⟨rfl, bw⟩
          have BK := Lib.hid (BJ.out.trans (bw.mono BJ.out.size))
          clear bw
          by_cases hje : j = mirK k
          · have e1 : (wayX j == -wayX k) = true := by rw [hje, K2.out]; simp
            have e2 : (wayY j == wayY k) = true := by rw [hje, K3.out]; simp
            have HJE := Lib.hid hje
            clear hje hiff
            generalize wayX j = xj at *
            generalize wayY j = yj at *
            go_wp2
            go_roundw
            case rel => exact ⟨j + 1, by rw [← HJE.out, if_pos (by omega)], by go_num, by omega, BK.out⟩
            case measure => simp [intOf]; omega
          · have hne : ¬ (wayX j = -wayX k ∧ wayY j = wayY k) := fun h => hje (hiff.1 h)
            have HJE := Lib.hid hje
            have hval : (if mirK k < j + 1 then ((mirK k : Nat) : Int) else -1) = oth := by
              rw [← HO.out]
              by_cases h : mirK k < j
              · rw [if_pos h, if_pos (by omega)]
              · rw [if_neg h, if_neg (by omega)]
            have HVAL := Lib.hid hval
            clear hje hiff hval
            generalize wayX j = xj at *
            generalize wayY j = yj at *
            by_cases ex : xj = -wayX k
            · have e1 : (xj == -wayX k) = true := by simpa using ex
              have e2 : (yj == wayY k) = false := by
                cases h : (yj == wayY k)
                · rfl
                · exact absurd ⟨ex, by simpa using h⟩ hne
              clear ex hne
              go_wp2
              go_roundw
              case rel => exact ⟨j + 1, by rw [HVAL.out], by go_num, by omega, BK.out⟩
              case measure => simp [intOf]; omega
            · have e1 : (xj == -wayX k) = false := by simpa using ex
              clear ex hne
              go_wp2
              go_roundw
              case rel => exact ⟨j + 1, by rw [HVAL.out], by go_num, by omega, BK.out⟩
              case measure => simp [intOf]; omega
        · obtain rfl : j = 8 := by omega
          clear hj hj8
          have bw := bJ
          clear bJ
          rw [if_pos k1]
          replace bA := bA.below bw
          replace vA := vA.below bw
          replace bP := bP.below bw
          replace bB := bB.below bw
          replace vB := vB.below bw
          replace bC := bC.below bw
          replace vC := vC.below bw
          replace bD := bD.below bw
          replace vD := vD.below bw
          replace bE := bE.below bw
          replace vE := vE.below bw
          replace bF := bF.below bw
          replace vF := vF.below bw
          replace hbel := hbel.trans (bw.mono hbel.size)
          clear bw
          obtain ⟨zF0, zF1, zF2, zF3, -, -, -, -⟩ := bF.four
          obtain ⟨zP0, zP1⟩ : _ ∧ _ := ⟨bP.cell 0, bP.cell 1⟩
          simp at zP0 zP1
          go_wp2_with fail
          clear zF0 zF1 zF2 zF3 zP0 zP1
          refine (path_vq (mirK k) one more vF HVV.out HN.out k1 (fun x y h => hob _ _ (by unfold insI at *; omega)) p1 p2 (by omega)).mono ?_
          rintro e wK ⟨qK, cK, bsK, P3, rfl, vK, alK, okK, bw⟩
          have ALK := Lib.hid alK
          have OKK := Lib.hid okK
          clear alK okK
          have ha : Below wK.heap.size wK (wK.alloc (.cells #[.int .i64 wd, .int .i64 hi, .int .i64 dp, .slice (some ⟨qK, 0, none⟩) N cK] 26)) := (Below.refl _ _).alloc (Nat.le_refl _) _
          have bK := BoxN.last wK #[.int .i64 wd, .int .i64 hi, .int .i64 dp, .slice (some ⟨qK, 0, none⟩) N cK] 26
          replace vK := vK.below ha
          replace bA := (bA.below bw).below ha
          replace vA := (vA.below bw).below ha
          replace bP := (bP.below bw).below ha
          replace bB := (bB.below bw).below ha
          replace vB := (vB.below bw).below ha
          replace bC := (bC.below bw).below ha
          replace vC := (vC.below bw).below ha
          replace bD := (bD.below bw).below ha
          replace vD := (vD.below bw).below ha
          replace bE := (bE.below bw).below ha
          replace vE := (vE.below bw).below ha
          replace bF := (bF.below bw).below ha
          replace vF := (vF.below bw).below ha
          replace hbel := (hbel.trans (bw.mono hbel.size)).trans (ha.mono (Nat.le_trans hbel.size bw.size))
          clear bw ha
          obtain ⟨zK0, zK1, zK2, zK3, -, -, -, -⟩ := bK.four
          go_wp2_with fail
          generalize hoK : wK.heap.size = oK at *
          generalize hwK : wK.alloc (.cells #[.int .i64 wd, .int .i64 hi, .int .i64 dp, .slice (some ⟨qK, 0, none⟩) N cK] 26) = WK at *
          clear hoK hwK
          clear zK0 zK1 zK2 zK3
          refine (mirror_vq vK HVV.out HN.out (fun x y h => (OKK.out x y h).qb3 (hob _ _ (by unfold insI at *; omega)))).mono ?_
          rintro e wL ⟨qL, cL, bsL, rfl, vL, bw⟩
          have ha : Below wL.heap.size wL (wL.alloc (.cells #[.int .i64 wd, .int .i64 hi, .int .i64 dp, .slice (some ⟨qL, 0, none⟩) N cL] 26)) := (Below.refl _ _).alloc (Nat.le_refl _) _
          have bL := BoxN.last wL #[.int .i64 wd, .int .i64 hi, .int .i64 dp, .slice (some ⟨qL, 0, none⟩) N cL] 26
          replace vL := vL.below ha
          replace bA := (bA.below bw).below ha
          replace vA := (vA.below bw).below ha
          replace bP := (bP.below bw).below ha
          replace bB := (bB.below bw).below ha
          replace vB := (vB.below bw).below ha
          replace bC := (bC.below bw).below ha
          replace vC := (vC.below bw).below ha
          replace bD := (bD.below bw).below ha
          replace vD := (vD.below bw).below ha
          replace bE := (bE.below bw).below ha
          replace vE := (vE.below bw).below ha
          replace bF := (bF.below bw).below ha
          replace vF := (vF.below bw).below ha
          replace bK := (bK.below bw).below ha
          replace vK := (vK.below bw).below ha
          replace hbel := (hbel.trans (bw.mono hbel.size)).trans (ha.mono (Nat.le_trans hbel.size bw.size))
          clear bw ha
          obtain ⟨zA0, zA1, zA2, zA3, -, -, -, -⟩ := bA.four
          obtain ⟨zP0, zP1⟩ : _ ∧ _ := ⟨bP.cell 0, bP.cell 1⟩
          simp at zP0 zP1
          go_wp2_with fail
          generalize hoL : wL.heap.size = oL at *
          generalize hwL : wL.alloc (.cells #[.int .i64 wd, .int .i64 hi, .int .i64 dp, .slice (some ⟨qL, 0, none⟩) N cL] 26) = WL at *
          clear hoL hwL
          clear zA0 zA1 zA2 zA3 zP0 zP1
          refine (sum1_vq one more vA HVV.out HN.out hob p1 p2 (by omega)).mono ?_
          rintro e wM ⟨qM, cM, bsM, P4, rfl, vM, alM, bw⟩
          have ALM := Lib.hid alM
          clear alM
          have ha : Below wM.heap.size wM (wM.alloc (.cells #[.int .i64 wd, .int .i64 hi, .int .i64 dp, .slice (some ⟨qM, 0, none⟩) N cM] 26)) := (Below.refl _ _).alloc (Nat.le_refl _) _
          have bM := BoxN.last wM #[.int .i64 wd, .int .i64 hi, .int .i64 dp, .slice (some ⟨qM, 0, none⟩) N cM] 26
          replace vM := vM.below ha
          replace bA := (bA.below bw).below ha
          replace vA := (vA.below bw).below ha
          replace bP := (bP.below bw).below ha
          replace bB := (bB.below bw).below ha
          replace vB := (vB.below bw).below ha
          replace bC := (bC.below bw).below ha
          replace vC := (vC.below bw).below ha
          replace bD := (bD.below bw).below ha
          replace vD := (vD.below bw).below ha
          replace bE := (bE.below bw).below ha
          replace vE := (vE.below bw).below ha
          replace bF := (bF.below bw).below ha
          replace vF := (vF.below bw).below ha
          replace bK := (bK.below bw).below ha
          replace vK := (vK.below bw).below ha
          replace bL := (bL.below bw).below ha
          replace vL := (vL.below bw).below ha
          replace hbel := (hbel.trans (bw.mono hbel.size)).trans (ha.mono (Nat.le_trans hbel.size bw.size))
          clear bw ha
          obtain ⟨zA0, zA1, zA2, zA3, -, -, -, -⟩ := bA.four
          obtain ⟨zP0, zP1⟩ : _ ∧ _ := ⟨bP.cell 0, bP.cell 1⟩
          simp at zP0 zP1
          go_wp2_with fail
          generalize hoM : wM.heap.size = oM at *
          generalize hwM : wM.alloc (.cells #[.int .i64 wd, .int .i64 hi, .int .i64 dp, .slice (some ⟨qM, 0, none⟩) N cM] 26) = WM at *
          clear hoM hwM
          clear zA0 zA1 zA2 zA3 zP0 zP1
          refine (path_vq 0 one more vA HVV.out HN.out (by omega) hob p1 p2 (by omega)).mono ?_
          rintro e wO ⟨qO, cO, bsO, P5, rfl, vO, alO, okO, bw⟩
          have ALO := Lib.hid alO
          clear alO okO
          have ha : Below wO.heap.size wO (wO.alloc (.cells #[.int .i64 wd, .int .i64 hi, .int .i64 dp, .slice (some ⟨qO, 0, none⟩) N cO] 26)) := (Below.refl _ _).alloc (Nat.le_refl _) _
          have bO := BoxN.last wO #[.int .i64 wd, .int .i64 hi, .int .i64 dp, .slice (some ⟨qO, 0, none⟩) N cO] 26
          replace vO := vO.below ha
          replace bA := (bA.below bw).below ha
          replace vA := (vA.below bw).below ha
          replace bP := (bP.below bw).below ha
          replace bB := (bB.below bw).below ha
          replace vB := (vB.below bw).below ha
          replace bC := (bC.below bw).below ha
          replace vC := (vC.below bw).below ha
          replace bD := (bD.below bw).below ha
          replace vD := (vD.below bw).below ha
          replace bE := (bE.below bw).below ha
          replace vE := (vE.below bw).below ha
          replace bF := (bF.below bw).below ha
          replace vF := (vF.below bw).below ha
          replace bK := (bK.below bw).below ha
          replace vK := (vK.below bw).below ha
          replace bL := (bL.below bw).below ha
          replace vL := (vL.below bw).below ha
          replace bM := (bM.below bw).below ha
          replace vM := (vM.below bw).below ha
          replace hbel := (hbel.trans (bw.mono hbel.size)).trans (ha.mono (Nat.le_trans hbel.size bw.size))
          clear bw ha
          obtain ⟨zL0, zL1, zL2, zL3, -, -, -, -⟩ := bL.four
          obtain ⟨zB0, zB1, zB2, zB3, -, -, -, -⟩ := bB.four
          go_wp2_with fail
          generalize hoO : wO.heap.size = oO at *
          generalize hwO : wO.alloc (.cells #[.int .i64 wd, .int .i64 hi, .int .i64 dp, .slice (some ⟨qO, 0, none⟩) N cO] 26) = WO at *
          clear hoO hwO
          clear zL0 zL1 zL2 zL3 zB0 zB1 zB2 zB3
          refine (same_vq vL vB v5 v1 (path_same HK.out (along_mirror HK.out ALK.out) ALB.out)).mono ?_
          rintro e wQ ⟨rfl, bw⟩
          replace bA := bA.below bw
          replace vA := vA.below bw
          replace bP := bP.below bw
          replace bB := bB.below bw
          replace vB := vB.below bw
          replace bC := bC.below bw
          replace vC := vC.below bw
          replace bD := bD.below bw
          replace vD := vD.below bw
          replace bE := bE.below bw
          replace vE := vE.below bw
          replace bF := bF.below bw
          replace vF := vF.below bw
          replace bK := bK.below bw
          replace vK := vK.below bw
          replace bL := bL.below bw
          replace vL := vL.below bw
          replace bM := bM.below bw
          replace vM := vM.below bw
          replace bO := bO.below bw
          replace vO := vO.below bw
          replace hbel := hbel.trans (bw.mono hbel.size)
          clear bw
          obtain ⟨zM0, zM1, zM2, zM3, -, -, -, -⟩ := bM.four
          obtain ⟨zO0, zO1, zO2, zO3, -, -, -, -⟩ := bO.four
          go_wp2_with fail
          clear zM0 zM1 zM2 zM3 zO0 zO1 zO2 zO3
          refine (same_vq vM vO v5 v1 (path_same (by omega) ALM.out ALO.out)).mono ?_
          rintro e wR ⟨rfl, bw⟩
          replace hbel := hbel.trans (bw.mono hbel.size)
          clear bw
          go_wp2
          go_ret
          exact ⟨rfl, hbel⟩
theorem fnPaths_walk (w : World) (a0 a1 : Option Addr) (l0 c0 l1 c1 : Nat) (z0 z1 : List Int)
    (r0 : (a0 = none ∧ l0 = 0 ∧ c0 = 0 ∧ z0 = []) ∨ ∃ x, a0 = some x ∧ l0 ≤ c0 ∧ c0 ≤ maxLen ∧ z0.length = c0 ∧ (∀ i, i < z0.length → w.cell? (x.add i) = some (.int .u8 (z0.getD i 0))) ∧ ∀ n ∈ z0, (Lit.int .u8 n).wf = true)
    (r1 : (a1 = none ∧ l1 = 0 ∧ c1 = 0 ∧ z1 = []) ∨ ∃ x, a1 = some x ∧ l1 ≤ c1 ∧ c1 ≤ maxLen ∧ z1.length = c1 ∧ (∀ i, i < z1.length → w.cell? (x.add i) = some (.int .u8 (z1.getD i 0))) ∧ ∀ n ∈ z1, (Lit.int .u8 n).wf = true) :
    Calls Try.prog 3 #[.slice a0 l0 c0, .slice a1 l1 c1] w fun e w' => e = .returned (.bool true) ∧ Below w.heap.size w w' := by
  by_cases h : l0 ≤ 48 ∧ l1 ≤ 48
  · exact fnPaths_short w a0 a1 l0 c0 l1 c1 h.1 h.2 (bytesIn_of_row r0 (by omega)) (bytesIn_of_row r1 (by omega))
  · exact fnPaths_long w a0 a1 l0 c0 l1 c1 (len_of_row r0) (len_of_row r1) h

end Go.Proofs.Ytfhlpabbacopjaa
