/- The law of solved rows: the walk of its code. No condition. -/
import Derived.Test.YtfhlpabbacopjaaJj
import Derived.Deep.CutRange
import Derived.Deep.RegionHeld3
import Derived.StillTactics
namespace Go.Proofs.Ytfhlpabbacopjaa
open Go.RowKit
set_option maxRecDepth 100000
set_option linter.unusedVariables false
set_option linter.unusedSimpArgs false

def ownOf (ks : List Int) (wd dp : Nat) : Int → Int → List Int := fun x y => (ks.drop (ic wd dp x.toNat y.toNat)).take dp
theorem own_qv {ks : List Int} {wd hi dp : Nat} (hl : ks.length = wd * hi * dp) : QV (ks.map (fq 2)) wd hi dp (ownOf ks wd dp) := by
  refine ⟨by simpa using hl, fun x y hx hy => ?_⟩
  have hle := ic_le (dp := dp) hx hy
  unfold ownOf
  simp only [Int.toNat_natCast]
  refine ⟨by rw [List.length_take, List.length_drop]; omega, fun d hd => ?_⟩
  rw [getD_map_fq 2 _ _ (by omega)]
  congr 1
  rw [List.getD_eq_getElem?_getD, List.getD_eq_getElem?_getD, List.getElem?_take, if_pos hd, List.getElem?_drop]
theorem own_bd {ks : List Int} {wd dp : Nat} (hb : ∀ k ∈ ks, 0 ≤ k ∧ k ≤ 16) (x y : Int) : ∀ k ∈ ownOf ks wd dp x y, 0 ≤ k ∧ k ≤ 16 := fun k hk => hb k (List.mem_of_mem_drop (List.mem_of_mem_take hk))
theorem own_cC {ks : List Int} {wd dp : Nat} (hb : ∀ k ∈ ks, 0 ≤ k ∧ k ≤ 16) (x y d : Nat) : 0 ≤ cC (ownOf ks wd dp) x y d ∧ cC (ownOf ks wd dp) x y d ≤ 100 := by
  unfold cC
  rw [List.getD_eq_getElem?_getD]
  cases e : (ownOf ks wd dp x y)[d]? with
  | none => exact ⟨Int.le_refl _, by decide⟩
  | some z => have := own_bd hb (x : Int) (y : Int) z (List.mem_of_getElem? e); exact ⟨by simpa using this.1, by show z ≤ 100; omega⟩
theorem ixF {wd hi x y : Nat} (hx : x < wd) (hy : y < hi) (hw : wd ≤ 24) (hh : hi ≤ 24) : IntKind.i64.wrap ((wd : Int) * (y : Int)) = (wd : Int) * (y : Int) ∧ IntKind.i64.wrap ((x : Int) + (wd : Int) * (y : Int)) = (x : Int) + (wd : Int) * (y : Int) ∧ (0 : Int) ≤ (x : Int) + (wd : Int) * (y : Int) ∧ (x : Int) + (wd : Int) * (y : Int) < ((wd * hi : Nat) : Int) ∧ ((x : Int) + (wd : Int) * (y : Int)).toNat = x + wd * y := by
  have h1 := cell_lt hx hy
  have h2 : wd * hi ≤ 24 * 24 := Nat.mul_le_mul hw hh
  refine ⟨IntWalk.i64_in _ (by rw [← Int.natCast_mul]; omega), IntWalk.i64_in _ (by rw [← Int.natCast_mul]; omega), ?_, ?_, ?_⟩ <;> (rw [← Int.natCast_mul]; omega)

theorem fnSolved_long (w : World) (a0 a1 : Option Addr) (l0 c0 l1 c1 : Nat) (m0 : l0 ≤ 9223372036854775807) (m1 : l1 ≤ 9223372036854775807) (h : ¬ (l0 ≤ 48 ∧ l1 ≤ 48)) :
    Calls Try.prog 7 #[.slice a0 l0 c0, .slice a1 l1 c1] w fun e w' => e = .returned (.bool true) ∧ Below w.heap.size w w' := by
  go_enter Try.func7, Try.ntmps7
  go_wp2_with fail
  refine (r8Long_yes _ _ _ _ _ _ _ m0 m1 h).mono ?_
  rintro e w' ⟨rfl, rfl⟩
  go_wp2
  go_ret
  exact ⟨rfl, Below.refl _ _⟩

set_option maxHeartbeats 40000000 in
theorem fnSolved_short (w : World) (a0 a1 : Option Addr) (l0 c0 l1 c1 : Nat) (h0 : l0 ≤ 48) (h1 : l1 ≤ 48) (hb0 : BytesIn w a0 l0) (hb1 : BytesIn w a1 l1) :
    Calls Try.prog 7 #[.slice a0 l0 c0, .slice a1 l1 c1] w fun e w' => e = .returned (.bool true) ∧ Below w.heap.size w w' := by
  go_enter Try.func7, Try.ntmps7
  go_wp2_with fail
  refine (r8Long_no _ _ _ _ _ _ _ h0 h1).mono ?_
  rintro e w' ⟨rfl, rfl⟩
  obtain ⟨i0, hi0, hz0, hz1, hz2⟩ := info_parts info_f32
  go_wp2_with fail
  refine (r8Volume_any _ _ _ _ hb0).mono ?_
  rintro e wA ⟨wd, hi, dp, qA, cA, ks, rfl, v1, v2, v3, v4, v5, v6, hkl, hown, hkb, bw⟩
  obtain ⟨Nv, hNv⟩ : ∃ Nv, Nv = wd * hi * dp := ⟨_, rfl⟩
  obtain ⟨N, hN⟩ : ∃ N, N = wd * hi := ⟨_, rfl⟩
  rw [hkl, ← hNv] at hown ⊢
  have hN12 : N ≤ 12 := by rw [hN]; exact Nat.mul_le_mul v2 v4
  have hN1 : 1 ≤ N := by rw [hN]; exact Nat.mul_pos (by omega) (by omega)
  have hNv48 : Nv ≤ 48 := by rw [hNv]; have := Nat.mul_le_mul (Nat.mul_le_mul v2 v4) v6; omega
  have vA : VQ wA wd hi dp qA cA Nv (ks.map (fq 2)) (ownOf ks wd dp) := ⟨hown.sl, (hown.lt (k := qA) rfl).2, own_qv hkl⟩
  have hvn : vVol wd hi dp Nv = true := by rw [hNv]; exact vVol_of v1 (by omega) v3 (by omega) (by have := Nat.mul_le_mul v2 v4; omega) v5 (by omega)
  have hvp : vPic wd hi N = true := by rw [hN]; exact vPic_of v1 (by omega) v3 (by omega) (by rw [← hN]; omega)
  have hcc := fun x y d => own_cC (wd := wd) (dp := dp) hkb x y d
  have hlv : (ks.map (fq 2)).length = wd * hi * dp := by rw [List.length_map, hkl]
  have hqq := own_qv (wd := wd) (hi := hi) (dp := dp) hkl
  have hbw : qbS wd hi dp (ownOf ks wd dp) := fun x y hxy d hd => by
    rw [List.getD_eq_getElem?_getD]
    cases e : (ownOf ks wd dp x y)[d]? with
    | none => decide
    | some z => have := own_bd hkb x y z (List.mem_of_getElem? e); show z.natAbs ≤ _; omega
  have hqb : ∀ x y, insI x y wd hi → qb2 (ownOf ks wd dp x y) := fun x y hxy k hk => by have := own_bd hkb x y k hk; omega
  generalize hown_ : ownOf ks wd dp = own at *
  generalize hbs_ : ks.map (fq 2) = bsA at *
  have HQQ := Lib.hid hqq
  have HBW := Lib.hid hbw
  have HQB := Lib.hid hqb
  have HCC := Lib.hid hcc
  have HLV := Lib.hid hlv
  have HVN := Lib.hid hvn
  have HVP := Lib.hid hvp
  have HN := Lib.hid hN
  have HNV := Lib.hid hNv
  have ha : Below wA.heap.size wA (wA.alloc (.cells #[.int .i64 wd, .int .i64 hi, .int .i64 dp, .slice (some ⟨qA, 0, none⟩) Nv cA] 26)) := (Below.refl _ _).alloc (Nat.le_refl _) _
  have bA := BoxN.last wA #[.int .i64 wd, .int .i64 hi, .int .i64 dp, .slice (some ⟨qA, 0, none⟩) Nv cA] 26
  replace vA := vA.below ha
  have hbel := bw.trans (ha.mono bw.size)
  replace hb1 := hb1.below hbel
  clear hown bw ha hvn hvp hkl hkb hb0 hN hNv hown_ hbs_ hcc hlv hqq hbw hqb
  go_wp2_with fail
  generalize hoA : wA.heap.size = oA at *
  generalize hwA : wA.alloc (.cells #[.int .i64 wd, .int .i64 hi, .int .i64 dp, .slice (some ⟨qA, 0, none⟩) Nv cA] 26) = WA at *
  clear hoA hwA
  refine (r8Prices_any _ _ _ _ hb1).mono ?_
  rintro e wP ⟨one, more, rfl, p1, p2, p3, bw⟩
  have hC : Cst own bsA wd hi dp N Nv one more := ⟨HVN.out, HVP.out, HQQ.out, fun x y d _ _ _ => HCC.out x y d, p1, p2, by omega⟩
  have HC := Lib.hid hC
  clear hC
  have ha : Below wP.heap.size wP (wP.alloc (.cells #[.float .f32 (fq 2 one), .float .f32 (fq 2 more)] 30)) := (Below.refl _ _).alloc (Nat.le_refl _) _
  have bP := BoxN.last wP #[.float .f32 (fq 2 one), .float .f32 (fq 2 more)] 30
  replace bA := (bA.below bw).below ha
  replace vA := (vA.below bw).below ha
  replace hb1 := (hb1.below bw).below ha
  replace hbel := (hbel.trans (bw.mono hbel.size)).trans (ha.mono (Nat.le_trans hbel.size bw.size))
  clear bw ha
  obtain ⟨zA0, zA1, zA2, zA3, -, -, -, -⟩ := bA.four
  have zP0 := bP.cell 0
  have zP1 := bP.cell 1
  simp only [List.size_toArray, List.length_cons, List.length_nil, List.getElem?_toArray, List.getElem?_cons_zero, List.getElem?_cons_succ] at zP0 zP1
  go_wp2_with fail
  generalize hoP : wP.heap.size = oP at *
  generalize hwP : wP.alloc (.cells #[.float .f32 (fq 2 one), .float .f32 (fq 2 more)] 30) = WP at *
  clear hoP hwP
  clear zA0 zA1 zA2 zA3 zP0 zP1
  refine (solveRows_ok _ wd hi dp N qA Nv cA bsA own one more HC.out vA.sl HLV.out vA.qlt).mono ?_
  rintro e wM ⟨qM, cM, rfl, mM, -, bw⟩
  have ha : Below wM.heap.size wM (wM.alloc (.cells #[.int .i64 wd, .int .i64 hi, .slice (some ⟨qM, 0, none⟩) N cM] 48)) := (Below.refl _ _).alloc (Nat.le_refl _) _
  have bM := BoxN.last wM #[.int .i64 wd, .int .i64 hi, .slice (some ⟨qM, 0, none⟩) N cM] 48
  replace mM := mM.below ha
  replace bA := (bA.below bw).below ha
  replace vA := (vA.below bw).below ha
  replace hb1 := (hb1.below bw).below ha
  replace bP := (bP.below bw).below ha
  replace hbel := (hbel.trans (bw.mono hbel.size)).trans (ha.mono (Nat.le_trans hbel.size bw.size))
  clear bw ha
  obtain ⟨zA0, zA1, zA2, zA3, -, -, -, -⟩ := bA.four
  go_wp2_with fail
  generalize hoM : wM.heap.size = oM at *
  generalize hwM : wM.alloc (.cells #[.int .i64 wd, .int .i64 hi, .slice (some ⟨qM, 0, none⟩) N cM] 48) = WM at *
  clear hoM hwM
  clear zA0 zA1 zA2 zA3
  refine (swap_vs vA (by rw [← HNV.out]; exact HVN.out) HNV.out HBW.out).mono ?_
  rintro e wX ⟨qX, cX, bsX, rfl, vX, bw⟩
  have hCX := HC.out.flip vX.qv
  have HCX := Lib.hid hCX
  clear hCX
  have ha : Below wX.heap.size wX (wX.alloc (.cells #[.int .i64 hi, .int .i64 wd, .int .i64 dp, .slice (some ⟨qX, 0, none⟩) Nv cX] 26)) := (Below.refl _ _).alloc (Nat.le_refl _) _
  have bX := BoxN.last wX #[.int .i64 hi, .int .i64 wd, .int .i64 dp, .slice (some ⟨qX, 0, none⟩) Nv cX] 26
  replace vX := vX.below ha
  replace bA := (bA.below bw).below ha
  replace vA := (vA.below bw).below ha
  replace hb1 := (hb1.below bw).below ha
  replace bP := (bP.below bw).below ha
  replace bM := (bM.below bw).below ha
  replace mM := (mM.below bw).below ha
  replace hbel := (hbel.trans (bw.mono hbel.size)).trans (ha.mono (Nat.le_trans hbel.size bw.size))
  clear bw ha
  obtain ⟨zA0, zA1, zA2, zA3, -, -, -, -⟩ := bA.four
  have zP0 := bP.cell 0
  have zP1 := bP.cell 1
  simp only [List.size_toArray, List.length_cons, List.length_nil, List.getElem?_toArray, List.getElem?_cons_zero, List.getElem?_cons_succ] at zP0 zP1
  go_wp2_with fail
  generalize hoX : wX.heap.size = oX at *
  generalize hwX : wX.alloc (.cells #[.int .i64 hi, .int .i64 wd, .int .i64 dp, .slice (some ⟨qX, 0, none⟩) Nv cX] 26) = WX at *
  clear hoX hwX
  clear zA0 zA1 zA2 zA3 zP0 zP1
  refine (solveColumns_ok _ wd hi dp N qA Nv cA bsA own one more HC.out (by rw [← HNV.out]; exact HVN.out) HNV.out vA HBW.out).mono ?_
  rintro e wC ⟨qC, cC_, rfl, mC, -, bw⟩
  have ha : Below wC.heap.size wC (wC.alloc (.cells #[.int .i64 wd, .int .i64 hi, .slice (some ⟨qC, 0, none⟩) N cC_] 48)) := (Below.refl _ _).alloc (Nat.le_refl _) _
  have bC := BoxN.last wC #[.int .i64 wd, .int .i64 hi, .slice (some ⟨qC, 0, none⟩) N cC_] 48
  replace mC := mC.below ha
  replace bA := (bA.below bw).below ha
  replace vA := (vA.below bw).below ha
  replace hb1 := (hb1.below bw).below ha
  replace bP := (bP.below bw).below ha
  replace bM := (bM.below bw).below ha
  replace mM := (mM.below bw).below ha
  replace bX := (bX.below bw).below ha
  replace vX := (vX.below bw).below ha
  replace hbel := (hbel.trans (bw.mono hbel.size)).trans (ha.mono (Nat.le_trans hbel.size bw.size))
  clear bw ha
  obtain ⟨zX0, zX1, zX2, zX3, -, -, -, -⟩ := bX.four
  have zP0 := bP.cell 0
  have zP1 := bP.cell 1
  simp only [List.size_toArray, List.length_cons, List.length_nil, List.getElem?_toArray, List.getElem?_cons_zero, List.getElem?_cons_succ] at zP0 zP1
  go_wp2_with fail
  generalize hoC : wC.heap.size = oC at *
  generalize hwC : wC.alloc (.cells #[.int .i64 wd, .int .i64 hi, .slice (some ⟨qC, 0, none⟩) N cC_] 48) = WC at *
  clear hoC hwC
  clear zX0 zX1 zX2 zX3 zP0 zP1
  refine (solveRows_ok _ hi wd dp N qX Nv cX bsX (flipP own) one more HCX.out vX.sl vX.qv.1 vX.qlt).mono ?_
  rintro e wR ⟨qR, cR, rfl, mR, -, bw⟩
  have ha : Below wR.heap.size wR (wR.alloc (.cells #[.int .i64 hi, .int .i64 wd, .slice (some ⟨qR, 0, none⟩) N cR] 48)) := (Below.refl _ _).alloc (Nat.le_refl _) _
  have bR := BoxN.last wR #[.int .i64 hi, .int .i64 wd, .slice (some ⟨qR, 0, none⟩) N cR] 48
  replace mR := mR.below ha
  replace bA := (bA.below bw).below ha
  replace vA := (vA.below bw).below ha
  replace hb1 := (hb1.below bw).below ha
  replace bP := (bP.below bw).below ha
  replace bM := (bM.below bw).below ha
  replace mM := (mM.below bw).below ha
  replace bX := (bX.below bw).below ha
  replace vX := (vX.below bw).below ha
  replace bC := (bC.below bw).below ha
  replace mC := (mC.below bw).below ha
  replace hbel := (hbel.trans (bw.mono hbel.size)).trans (ha.mono (Nat.le_trans hbel.size bw.size))
  clear bw ha
  obtain ⟨zA0, zA1, zA2, zA3, -, -, -, -⟩ := bA.four
  obtain ⟨zM0, zM1, zM2, -, -, -⟩ := bM.three.cells
  go_wp2_with fail
  generalize hoR : wR.heap.size = oR at *
  generalize hwR : wR.alloc (.cells #[.int .i64 hi, .int .i64 wd, .slice (some ⟨qR, 0, none⟩) N cR] 48) = WR at *
  clear hoR hwR
  clear zA0 zA1 zA2 zA3 zM0 zM1 zM2
  refine (isWhole_yes _ wd hi dp N qM cM Nv (some ⟨qA, 0, none⟩) cA _ HVN.out HVP.out mM (by omega)).mono ?_
  rintro e wI ⟨rfl, bw⟩
  replace bA := bA.below bw
  replace vA := vA.below bw
  replace hb1 := hb1.below bw
  replace bP := bP.below bw
  replace bM := bM.below bw
  replace mM := mM.below bw
  replace bX := bX.below bw
  replace vX := vX.below bw
  replace bC := bC.below bw
  replace mC := mC.below bw
  replace bR := bR.below bw
  replace mR := mR.below bw
  replace hbel := hbel.trans (bw.mono hbel.size)
  clear bw
  obtain ⟨zA0, zA1, zA2, zA3, -, -, -, -⟩ := bA.four
  obtain ⟨zC0, zC1, zC2, -, -, -⟩ := bC.three.cells
  go_wp2_with fail
  clear zA0 zA1 zA2 zA3 zC0 zC1 zC2
  refine (isWhole_yes _ wd hi dp N qC cC_ Nv (some ⟨qA, 0, none⟩) cA _ HVN.out HVP.out mC (by omega)).mono ?_
  rintro e wJ ⟨rfl, bw⟩
  replace bA := bA.below bw
  replace vA := vA.below bw
  replace hb1 := hb1.below bw
  replace bP := bP.below bw
  replace bM := bM.below bw
  replace mM := mM.below bw
  replace bX := bX.below bw
  replace vX := vX.below bw
  replace bC := bC.below bw
  replace mC := mC.below bw
  replace bR := bR.below bw
  replace mR := mR.below bw
  replace hbel := hbel.trans (bw.mono hbel.size)
  clear bw
  obtain ⟨zX0, zX1, zX2, zX3, -, -, -, -⟩ := bX.four
  obtain ⟨zR0, zR1, zR2, -, -, -⟩ := bR.three.cells
  go_wp2_with fail
  clear zX0 zX1 zX2 zX3 zR0 zR1 zR2
  refine (isWhole_yes _ hi wd dp N qR cR Nv (some ⟨qX, 0, none⟩) cX _ HCX.out.vv HCX.out.vp mR (by omega)).mono ?_
  rintro e wL ⟨rfl, bw⟩
  replace bA := bA.below bw
  replace vA := vA.below bw
  replace hb1 := hb1.below bw
  replace bP := bP.below bw
  replace bM := bM.below bw
  replace mM := mM.below bw
  replace bX := bX.below bw
  replace vX := vX.below bw
  replace bC := bC.below bw
  replace mC := mC.below bw
  replace bR := bR.below bw
  replace mR := mR.below bw
  replace hbel := hbel.trans (bw.mono hbel.size)
  clear bw
  clear hb1 bX vX
  have KA := Lib.hid (fun W (hW : Below wL.heap.size wL W) => bA.below hW)
  have KV := Lib.hid (fun W (hW : Below wL.heap.size wL W) => vA.below hW)
  have KP := Lib.hid (fun W (hW : Below wL.heap.size wL W) => bP.below hW)
  have KM := Lib.hid (fun W (hW : Below wL.heap.size wL W) => bM.below hW)
  have KC := Lib.hid (fun W (hW : Below wL.heap.size wL W) => bC.below hW)
  have KR := Lib.hid (fun W (hW : Below wL.heap.size wL W) => bR.below hW)
  have LM := Lib.hid (fun W (hW : Below wL.heap.size wL W) => mM.below hW)
  have LC := Lib.hid (fun W (hW : Below wL.heap.size wL W) => mC.below hW)
  have LR := Lib.hid (fun W (hW : Below wL.heap.size wL W) => mR.below hW)
  have HBEL := Lib.hid hbel
  have hlL := Below.refl wL.heap.size wL
  obtain ⟨zA0, zA1, zA2, zA3, -, -, -, -⟩ := bA.four
  clear bA vA bP bM bC bR mM mC mR hbel
  go_wp2_with fail
  clear zA0 zA1 zA2 zA3
  go_loopw [15] (fun v15 wr => ∃ y : Nat, v15 = .int .i64 y ∧ y ≤ hi ∧ Below wL.heap.size wL wr) (fun v15 _ => hi - (intOf v15).toNat)
  case atStart => exact ⟨0, rfl, Nat.zero_le _, hlL⟩
  case round =>
    clear hlL
    obtain ⟨y, rfl, hy, hbl⟩ := hrel
    have bA := KA.out wr hbl
    obtain ⟨zA0, zA1, zA2, zA3, -, -, -, -⟩ := bA.four
    have HBL := Lib.hid hbl
    by_cases hlt : y < hi
    · have bP := KP.out wr hbl
      have zP0 := bP.cell 0
      have zP1 := bP.cell 1
      simp only [List.size_toArray, List.length_cons, List.length_nil, List.getElem?_toArray, List.getElem?_cons_zero, List.getElem?_cons_succ] at zP0 zP1
      have vA := KV.out wr hbl
      have KS := Lib.hid (solveRow_ok wr wd hi dp N qA Nv cA y bsA own one more HC.out vA.sl HLV.out hlt vA.qlt)
      clear bP vA bA hbl
      go_wp2_with fail
      clear zA0 zA1 zA2 zA3 zP0 zP1
      (with_reducible refine KS.out.mono ?_)
      rintro e wS ⟨gS, cS, rfl, hrow, hbS⟩
      have hbLS := HBL.out.trans (hbS.mono HBL.out.size)
      have HLS := Lib.hid hbLS
      have HROW := Lib.hid hrow
      obtain ⟨zA0, zA1, zA2, zA3, -, -, -, -⟩ := (KA.out wS hbLS).four
      have hSS := Below.refl wS.heap.size wS
      clear hrow hbS hbLS KS HBL
      go_wp2_with fail
      clear zA0 zA1 zA2 zA3
      go_loopw [19] (fun v19 wq => ∃ x : Nat, v19 = .int .i64 x ∧ x ≤ wd ∧ Below wS.heap.size wS wq) (fun v19 _ => wd - (intOf v19).toNat)
      case atStart => exact ⟨0, rfl, Nat.zero_le _, hSS⟩
      case round =>
        clear hSS
        obtain ⟨x, rfl, hx, hbq⟩ := hrel
        have hbLQ := HLS.out.trans (hbq.mono HLS.out.size)
        have HLQ := Lib.hid hbLQ
        have HSQ := Lib.hid hbq
        obtain ⟨zA0, zA1, zA2, zA3, -, -, -, -⟩ := (KA.out wr hbLQ).four
        by_cases hxl : x < wd
        · obtain ⟨zM0, zM1, zM2, -, -, -⟩ := (KM.out wr hbLQ).three.cells
          obtain ⟨zC0, zC1, zC2, -, -, -⟩ := (KC.out wr hbLQ).three.cells
          obtain ⟨zR0, zR1, zR2, -, -, -⟩ := (KR.out wr hbLQ).three.cells
          obtain ⟨a1, a2, a3, a4, a5⟩ := ixF hxl hlt (by omega) (by omega)
          obtain ⟨b1, b2, b3, b4, b5⟩ := ixF hlt hxl (by omega) (by omega)
          rw [← HN.out] at a4
          rw [Nat.mul_comm hi wd, ← HN.out] at b4
          have hrow := HROW.out.below hbq
          have cr := hrow.cellAt x (by rw [tabI_length]; exact hxl)
          rw [tabI_get hxl] at cr
          have kM := ((LM.out wr hbLQ).sl.at (x + wd * y) (by rw [List.length_map, solM_len]; exact cell_lt hxl hlt)).1
          rw [wW_get (by rw [solM_len]; exact cell_lt hxl hlt), solM_get hxl hlt, Nat.zero_add] at kM
          have kC := ((LC.out wr hbLQ).sl.at (x + wd * y) (by rw [List.length_map, solN_len]; exact cell_lt hxl hlt)).1
          rw [wW_get (by rw [solN_len]; exact cell_lt hxl hlt), solN_get hxl hlt, Nat.zero_add] at kC
          have kR := ((LR.out wr hbLQ).sl.at (y + hi * x) (by rw [List.length_map, solM_len]; exact cell_lt hlt hxl)).1
          rw [wW_get (by rw [solM_len]; exact cell_lt hlt hxl), solM_get hlt hxl, Nat.zero_add] at kR
          have ba := sol_lt (P := own) (one := one) (more := more) (wd := wd) (y := y) v5 x
          have bb := sol_lt (P := flipP own) (one := one) (more := more) (wd := hi) (y := x) v5 y
          generalize solR own one more dp wd y x = za at cr kM ba
          generalize solR (flipP own) one more dp hi x y = zb at kC kR bb
          have of := fq_ofInt (n := (za : Int)) (by omega)
          have ea : eq32 (wW za) (wW za) = true := by rw [← wW_def, eq32_fq (by omega) (by omega)]; exact decide_eq_true rfl
          have eb : eq32 (wW zb) (wW zb) = true := by rw [← wW_def, eq32_fq (by omega) (by omega)]; exact decide_eq_true rfl
          rw [wW_def] at of
          generalize wW za = va at *
          generalize wW zb = vb at *
          have xI : (x : Int) < wd := by omega
          clear hrow hbq hbLQ ba bb
          go_wp2_with fail
          go_quiet (fail)
          go_wp2_with fail
          go_roundw
          case rel => exact ⟨x + 1, by go_num, by omega, below_drewN HSQ.out _⟩
          case measure => simp [intOf]; omega
        · obtain rfl : wd = x := by omega
          clear hbq hbLQ
          go_wp2_with fail
          go_roundw
          case rel => exact ⟨y + 1, by go_num, by omega, HLQ.out⟩
          case measure => simp [intOf]; omega
    · obtain rfl : hi = y := by omega
      obtain ⟨wE, hwE⟩ : ∃ wE, wE = wr := ⟨_, rfl⟩
      subst hwE
      have vA := KV.out wE hbl
      have hq0 := QV.cell vA.sl vA.qlt HQQ.out (x := 0) (y := 0) (by omega) (by omega)
      rw [show 0 + ic wd dp 0 0 = 0 by simp [ic]] at hq0
      have hl0 := (HQQ.out.2 0 0 (by omega) (by omega)).1
      have hb0 := hq0.at
      have HK0 : ∀ W, Below wE.heap.size wE W → ∀ d, d < dp → W.cell? ⟨qA, d, none⟩ = some (.float .f32 (fq 2 (cC own 0 0 d))) := fun W hW d hd => by
        have h := (hb0 d (by rw [List.length_map, hl0]; exact hd)).1
        rw [Nat.zero_add] at h
        have e : ((own ((0 : Nat) : Int) ((0 : Nat) : Int)).map (fq 2)).getD d 0 = fq 2 (cC own 0 0 d) := by
          unfold cC
          rw [List.getD_eq_getElem?_getD, List.getElem?_map, List.getElem?_eq_getElem (by rw [hl0]; exact hd), List.getD_eq_getElem?_getD, List.getElem?_eq_getElem (by rw [hl0]; exact hd)]
          rfl
        rw [e] at h
        exact (hW.cell (p := ⟨qA, d, none⟩) vA.qlt).trans h
      have HK := Lib.hid HK0
      have st := ownF_start wE (cC own 0 0)
      have hA := alb1_ wE (.cells #[] 28)
      have HST := Lib.hid (And.intro st hA)
      have HVV := Lib.hid vA.qlt
      have HC0 := Lib.hid (fun d => HCC.out 0 0 d)
      clear hq0 hb0 HK0 vA st hA bA hbl
      go_wp2_with fail
      clear zA0 zA1 zA2 zA3
      go_loopw [20, 21] (fun v20 v21 wq => ∃ d g c : Nat, v21 = .int .i64 d ∧ d ≤ dp ∧ v20 = .slice (some ⟨g, 0, none⟩) d c ∧ OwnF wq wE.heap.size (.slice (some ⟨g, 0, none⟩) d c) ((tabI d (cC own 0 0)).map (fq 2)) ∧ Below wE.heap.size wE wq) (fun _ v21 _ => dp - (intOf v21).toNat)
      case atStart => exact ⟨0, _, _, rfl, Nat.zero_le _, rfl, HST.out.1, HST.out.2⟩
      case round =>
        clear HST
        obtain ⟨d, g, c, rfl, hd, rfl, hown, hbq⟩ := hrel
        have hbL := HBL.out.trans (hbq.mono HBL.out.size)
        obtain ⟨zA0, zA1, zA2, zA3, -, -, -, -⟩ := (KA.out wr hbL).four
        have HOW := Lib.hid hown
        have HBQ := Lib.hid hbq
        have HBLQ := Lib.hid hbL
        by_cases hdl : d < dp
        · have cd := HK.out wr hbq d hdl
          have bd := HC0.out d
          have b1 : (d : Int) < Nv := by
            have h1 : dp ≤ wd * hi * dp := Nat.le_mul_of_pos_left _ (Nat.mul_pos (by omega) (by omega))
            rw [← HNV.out] at h1
            omega
          obtain ⟨vs, hvs⟩ : ∃ vs, fq 2 (cC own 0 0 d) = vs := ⟨_, rfl⟩
          rw [hvs] at cd
          have HVS := Lib.hid hvs
          have hsz := hbq.size
          have how := hown.1
          rw [List.length_map, tabI_length] at how
          have hgl := (hown.lt (k := g) rfl).2
          clear hown hbq hbL hvs
          go_wp2_with (at_builtin; refine wpList_append_lies _ (by rfl) _ _ _ (by rfl) wE.heap.size 28 i0 _ 1 4 Try.underlying24 hi0 hz0 hz1 hz2 rfl (by omega) (.slice (some ⟨g, 0, none⟩) d c) d _ (by rfl) (World.ownsRow.alloc how _) ⟨wr.heap.size, 0, none⟩ 1 1 [.float .f32 vs] (by rfl) (by rfl) (cell_one_new _ _ _) (by simp [Value.oneCell']) (by omega) (by unfold maxLen; omega) (by omega) (by simp; omega) (wr.heap.size + 1) (by simp) ?_; intro gg cap wz hown2 hgrow hat hlt2)
          go_roundw
          case rel =>
            refine ⟨d + 1, gg, cap, by go_num, by omega, rfl, ?_, (HBQ.out.alloc hsz (.cells #[.float .f32 vs] 28)).grown hgrow (by simp; omega) (fun k hk => (HOW.out.lt hk).1)⟩
            rw [tabI_succ]
            exact own_snoc HVS.out hown2 (tabI_length _ _) (fun k hk => by
              obtain ⟨j, hj, rfl⟩ := mem_tabI hk
              have a := HC0.out j
              omega) (by omega)
          case measure => simp [intOf]; omega
        · obtain rfl : dp = d := by omega
          obtain ⟨wq, hwq⟩ : ∃ wq, wq = wr := ⟨_, rfl⟩
          subst hwq
          have hbP := KP.out wq hbL
          have zP0 := hbP.cell 0
          have zP1 := hbP.cell 1
          simp only [List.size_toArray, List.length_cons, List.length_nil, List.getElem?_toArray, List.getElem?_cons_zero, List.getElem?_cons_succ] at zP0 zP1
          have hgl := (hown.lt (k := g) rfl).2
          have hbk : ∀ k ∈ tabI dp (cC own 0 0), 0 ≤ k ∧ k ≤ ((100 : Nat) : Int) := fun k hk => by
            obtain ⟨j, hj, rfl⟩ := mem_tabI hk
            exact HC0.out j
          have KJ := Lib.hid (jumpCosts_ok wq g 0 dp c (tabI dp (cC own 0 0)) one more hown.sl (tabI_length _ _) hgl (fun k hk => by have := hbk k hk; omega) p1 p2 (by omega) v5 (by omega))
          have HBK := Lib.hid hbk
          clear hbP hown hbq hbL hbk
          go_wp2_with fail
          clear zA0 zA1 zA2 zA3 zP0 zP1
          (with_reducible refine KJ.out.mono ?_)
          rintro e wJ ⟨w1, v, ⟨gJ, cJ, hv, hownJ, hbJ⟩, rfl, hb1⟩
          injection hv with hv
          subst hv
          have hlJ : (jumpI (tabI dp (cC own 0 0)) one more).length = dp := by simp [jumpI, tabI_length]
          rw [hlJ] at hownJ ⊢
          have hbW := hb1.trans (hbJ.mono hb1.size)
          have hbLJ := HBLQ.out.trans (hbW.mono HBLQ.out.size)
          have HLJ := Lib.hid hbLJ
          have hownJ2 : OwnF wJ w1.heap.size (.slice (some ⟨gJ, 0, none⟩) dp cJ) ((jumpI (tabI dp (cC own 0 0)) one more).map (fq 2)) := hownJ
          have HOJ := Lib.hid hownJ2
          have HOG := Lib.hid (HOW.out.below hbW)
          obtain ⟨zA0, zA1, zA2, zA3, -, -, -, -⟩ := (KA.out wJ hbLJ).four
          have hJJ := Below.refl wJ.heap.size wJ
          have hcJ := hownJ2.sl.size
          have hcg := HOG.out.sl.size
          clear hownJ hownJ2 hbJ hb1 hbW hbLJ hlJ KJ
          go_wp2_with fail
          clear zA0 zA1 zA2 zA3
          go_loopw [24] (fun v24 wz => ∃ d : Nat, v24 = .int .i64 d ∧ d ≤ dp ∧ Below wJ.heap.size wJ wz) (fun v24 _ => dp - (intOf v24).toNat)
          case atStart => exact ⟨0, rfl, Nat.zero_le _, hJJ⟩
          case round =>
            clear hJJ
            obtain ⟨d, rfl, hd, hbz⟩ := hrel
            have hbLZ := HLJ.out.trans (hbz.mono HLJ.out.size)
            obtain ⟨zA0, zA1, zA2, zA3, -, -, -, -⟩ := (KA.out wr hbLZ).four
            have HBZ := Lib.hid hbz
            have HLZ := Lib.hid hbLZ
            by_cases hdl : d < dp
            · obtain ⟨wD, hwD⟩ : ∃ wD, wD = wr := ⟨_, rfl⟩
              subst hwD
              have cd := tab_cell (HOG.out.below hbz).sl hdl
              have bd := HC0.out d
              obtain ⟨vd, hvd⟩ : ∃ vd, vd = fq 2 (wantI (tabI dp (cC own 0 0)) one more d 0) := ⟨_, rfl⟩
              have hv0 : fq 2 (cC own 0 0 d) = vd := by rw [hvd]; unfold wantI; rw [tabI_get hdl]
              rw [hv0] at cd
              have HVD := Lib.hid hvd
              have hDD := Below.refl wD.heap.size wD
              clear hbz hbLZ hvd hv0
              go_wp2_with fail
              clear zA0 zA1 zA2 zA3 cd
              go_loopw [25, 26] (fun v25 v26 wz => ∃ e vw : Nat, v26 = .int .i64 e ∧ e ≤ dp ∧ v25 = .float .f32 vw ∧ vw = fq 2 (wantI (tabI dp (cC own 0 0)) one more d e) ∧ Below wD.heap.size wD wz) (fun _ v26 _ => dp - (intOf v26).toNat)
              case atStart => exact ⟨0, vd, rfl, Nat.zero_le _, rfl, HVD.out, hDD⟩
              case round =>
                clear hDD
                obtain ⟨e, vw, rfl, he, rfl, hvw, hbx⟩ := hrel
                have hbLX := HLZ.out.trans (hbx.mono HLZ.out.size)
                obtain ⟨zA0, zA1, zA2, zA3, -, -, -, -⟩ := (KA.out wr hbLX).four
                have HBX := Lib.hid hbx
                have HLX := Lib.hid hbLX
                have HVW := Lib.hid hvw
                by_cases hel : e < dp
                · have hbP := KP.out wr hbLX
                  have zP0 := hbP.cell 0
                  have zP1 := hbP.cell 1
                  simp only [List.size_toArray, List.length_cons, List.length_nil, List.getElem?_toArray, List.getElem?_cons_zero, List.getElem?_cons_succ] at zP0 zP1
                  have KPR := priceOf_ok wr one more e d (by omega) (by omega) p1 p2 (by omega)
                  have be := HC0.out e
                  have bp := prI_bd p1 p2 e d
                  have bw := wantI_bd HBK.out p1 p2 (d := d) (by rw [tabI_length]; exact hdl) e (by rw [tabI_length]; exact he)
                  have ad := fq_add (g := 2) (a := cC own 0 0 e) (b := prI one more e d) (by omega) (by omega) (by omega)
                  have mn := fminW_q (a := wantI (tabI dp (cC own 0 0)) one more d e) (b := cC own 0 0 e + prI one more e d) (by omega) (by omega)
                  have hst : wantI (tabI dp (cC own 0 0)) one more d (e + 1) = min (wantI (tabI dp (cC own 0 0)) one more d e) (cC own 0 0 e + prI one more e d) := by
                    show min _ _ = _
                    rw [tabI_get hel]
                  rw [← hst, ← hvw] at mn
                  obtain ⟨vg, hvg⟩ : ∃ vg, fq 2 (cC own 0 0 e) = vg := ⟨_, rfl⟩
                  obtain ⟨vp, hvp⟩ : ∃ vp, fq 2 (prI one more e d) = vp := ⟨_, rfl⟩
                  obtain ⟨vs, hvs⟩ : ∃ vs, fq 2 (cC own 0 0 e + prI one more e d) = vs := ⟨_, rfl⟩
                  obtain ⟨vr, hvr⟩ : ∃ vr, vr = fq 2 (wantI (tabI dp (cC own 0 0)) one more d (e + 1)) := ⟨_, rfl⟩
                  rw [hvg, hvp, hvs] at ad
                  rw [hvs, ← hvr] at mn
                  rw [hvp] at KPR
                  have KPR := Lib.hid KPR
                  have HVG := Lib.hid hvg
                  have HVR := Lib.hid hvr
                  have ar := fres_some ad
                  have af := fdr_some ad
                  have hd0 : ∀ W : World, W.drewN 0 = W := fun _ => rfl
                  clear hbx hbLX hvw hbP ad hvg hvp hvs hvr hst bw be bp bd
                  go_wp2_with fail
                  clear zA0 zA1 zA2 zA3 zP0 zP1
                  (with_reducible refine KPR.out.mono ?_)
                  rintro e' wQ ⟨rfl, hbQ⟩
                  have hbXQ := HBX.out.trans (hbQ.mono HBX.out.size)
                  have cg := tab_cell (HOG.out.below (HBZ.out.trans (hbXQ.mono HBZ.out.size))).sl hel
                  rw [HVG.out] at cg
                  have HBXQ := Lib.hid hbXQ
                  clear hbQ hbXQ
                  go_wp2_with fail
                  go_roundw
                  case rel => exact ⟨e + 1, vr, by go_num, by omega, rfl, HVR.out, HBXQ.out⟩
                  case measure => simp [intOf]; omega
                · obtain rfl : dp = e := by omega
                  have cj := (HOJ.out.sl.below (HBZ.out.trans (hbx.mono HBZ.out.size))).at d (by rw [List.length_map]; simp [jumpI, tabI_length]; exact hdl)
                  have ej : ((jumpI (tabI dp (cC own 0 0)) one more).map (fq 2)).getD d 0 = vw := by
                    have hdj : d < (jumpI (tabI dp (cC own 0 0)) one more).length := by simp [jumpI, tabI_length]; exact hdl
                    have h1 : (jumpI (tabI dp (cC own 0 0)) one more)[d] = jumpAt (tabI dp (cC own 0 0)) one more d := by simp [jumpI]
                    rw [List.getD_eq_getElem?_getD, List.getElem?_map, List.getElem?_eq_getElem hdj, h1, want_jump p1 p2 (by rw [tabI_length]; exact hdl), tabI_length, hvw]
                    rfl
                  have bw := wantI_bd HBK.out p1 p2 (d := d) (by rw [tabI_length]; exact hdl) dp (by rw [tabI_length]; exact Nat.le_refl _)
                  have cj1 := cj.1
                  rw [ej, Nat.zero_add] at cj1
                  have ee : eq32 vw vw = true := by rw [hvw, eq32_fq (by omega) (by omega)]; exact decide_eq_true rfl
                  clear hbx hbLX hvw cj ej bw bd
                  go_wp2_with fail
                  go_roundw
                  case rel => exact ⟨d + 1, by go_num, by omega, HBZ.out.trans (HBX.out.mono HBZ.out.size)⟩
                  case measure => simp [intOf]; omega
            · obtain rfl : dp = d := by omega
              clear hbz hbLZ
              go_wp2_with fail
              go_ret
              exact ⟨rfl, HBEL.out.trans (HLZ.out.mono HBEL.out.size)⟩

theorem fnSolved_walk (w : World) (a0 a1 : Option Addr) (l0 c0 l1 c1 : Nat) (z0 z1 : List Int)
    (r0 : (a0 = none ∧ l0 = 0 ∧ c0 = 0 ∧ z0 = []) ∨ ∃ x, a0 = some x ∧ l0 ≤ c0 ∧ c0 ≤ maxLen ∧ z0.length = c0 ∧ (∀ i, i < z0.length → w.cell? (x.add i) = some (.int .u8 (z0.getD i 0))) ∧ ∀ n ∈ z0, (Lit.int .u8 n).wf = true)
    (r1 : (a1 = none ∧ l1 = 0 ∧ c1 = 0 ∧ z1 = []) ∨ ∃ x, a1 = some x ∧ l1 ≤ c1 ∧ c1 ≤ maxLen ∧ z1.length = c1 ∧ (∀ i, i < z1.length → w.cell? (x.add i) = some (.int .u8 (z1.getD i 0))) ∧ ∀ n ∈ z1, (Lit.int .u8 n).wf = true) :
    Calls Try.prog 7 #[.slice a0 l0 c0, .slice a1 l1 c1] w fun e w' => e = .returned (.bool true) ∧ Below w.heap.size w w' := by
  by_cases h : l0 ≤ 48 ∧ l1 ≤ 48
  · exact fnSolved_short w a0 a1 l0 c0 l1 c1 h.1 h.2 (bytesIn_of_row r0 (by omega)) (bytesIn_of_row r1 (by omega))
  · exact fnSolved_long w a0 a1 l0 c0 l1 c1 (len_of_row r0) (len_of_row r1) h

end Go.Proofs.Ytfhlpabbacopjaa
