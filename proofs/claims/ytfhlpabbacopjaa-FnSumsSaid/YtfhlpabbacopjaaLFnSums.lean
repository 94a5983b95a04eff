/- The law of sums: the walk of its code. No condition. -/
import Derived.Test.YtfhlpabbacopjaaOn
namespace Go.Proofs.Ytfhlpabbacopjaa
open Go.RowKit
set_option maxRecDepth 100000
set_option linter.unusedVariables false
set_option linter.unusedSimpArgs false

theorem fnSums_long (w : World) (a0 a1 : Option Addr) (l0 c0 l1 c1 : Nat) (m0 : l0 ≤ 9223372036854775807) (m1 : l1 ≤ 9223372036854775807) (h : ¬ (l0 ≤ 48 ∧ l1 ≤ 48)) :
    Calls Try.prog 6 #[.slice a0 l0 c0, .slice a1 l1 c1] w fun e w' => e = .returned (.bool true) ∧ Below w.heap.size w w' := by
  go_enter Try.func6, Try.ntmps6
  go_wp2_with fail
  refine (r8Long_yes _ _ _ _ _ _ _ m0 m1 h).mono ?_
  rintro e w' ⟨rfl, rfl⟩
  go_wp2
  go_ret
  exact ⟨rfl, Below.refl _ _⟩

set_option maxHeartbeats 40000000 in
theorem fnSums_short (w : World) (a0 a1 : Option Addr) (l0 c0 l1 c1 : Nat) (h0 : l0 ≤ 48) (h1 : l1 ≤ 48) (hb0 : BytesIn w a0 l0) (hb1 : BytesIn w a1 l1) :
    Calls Try.prog 6 #[.slice a0 l0 c0, .slice a1 l1 c1] w fun e w' => e = .returned (.bool true) ∧ Below w.heap.size w w' := by
  go_enter Try.func6, Try.ntmps6
  go_wp2_with fail
  refine (r8Long_no _ _ _ _ _ _ _ h0 h1).mono ?_
  rintro e w' ⟨rfl, rfl⟩
  go_wp2_with fail
  refine (r8Volume_any _ _ _ _ hb0).mono ?_
  rintro e w1 ⟨wd, hi, dp, qA, cA, ks, rfl, v1, v2, v3, v4, v5, v6, hkl, hown, hkb, bw⟩
  obtain ⟨N, hN⟩ : ∃ N, N = wd * hi * dp := ⟨_, rfl⟩
  rw [hkl, ← hN] at hown ⊢
  have hN48 : N ≤ 48 := by rw [hN]; have := Nat.mul_le_mul (Nat.mul_le_mul v2 v4) v6; omega
  have hN0 : 0 < N := by rw [hN]; exact Nat.mul_pos (Nat.mul_pos v1 v3) v5
  have vA : VQ w1 wd hi dp qA cA N (ks.map (fq 2)) (ownOf ks wd dp) := ⟨hown.sl, (hown.lt (k := qA) rfl).2, own_qv hkl⟩
  have hwh := Nat.mul_le_mul v2 v4
  have hvv : vVol wd hi dp (wd * hi * dp) = true := vVol_of v1 (by omega) v3 (by omega) (by omega) v5 (by omega)
  have hvs : vVol hi wd dp (hi * wd * dp) = true := vVol_of v3 (by omega) v1 (by omega) (by rw [Nat.mul_comm]; omega) v5 (by omega)
  have hN' : N = hi * wd * dp := by rw [hN, Nat.mul_comm hi wd]
  have hsz : szOk wd hi = true := szOk_of (by omega) (by omega) (by omega) (by omega) (by rw [← Int.natCast_mul]; omega)
  have hob : ∀ x y, insI x y wd hi → qb2 (ownOf ks wd dp x y) := fun x y _ k hk => by have := own_bd hkb x y k hk; omega
  have hof : ∀ x y, insI x y wd hi → qb2 (ownOf ks wd dp x ((hi : Int) - 1 - y)) := fun x y _ k hk => by have := own_bd hkb _ _ k hk; omega
  have hos : ∀ x y, insI x y hi wd → qb2 (ownOf ks wd dp y x) := fun x y _ k hk => by have := own_bd hkb _ _ k hk; omega
  have ho0 : ∀ x y, insI x y wd hi → ∀ k ∈ ownOf ks wd dp x y, 0 ≤ k := fun x y _ k hk => (own_bd hkb x y k hk).1
  generalize hown_ : ownOf ks wd dp = own at *
  generalize hbs_ : ks.map (fq 2) = bsA at *
  have ha : Below w1.heap.size w1 (w1.alloc (.cells #[.int .i64 wd, .int .i64 hi, .int .i64 dp, .slice (some ⟨qA, 0, none⟩) N cA] 26)) := (Below.refl _ _).alloc (Nat.le_refl _) _
  have bA := BoxN.last w1 #[.int .i64 wd, .int .i64 hi, .int .i64 dp, .slice (some ⟨qA, 0, none⟩) N cA] 26
  have vA := vA.below ha
  have hbel := bw.trans (ha.mono bw.size)
  have hbA := hb1.below hbel
  have HVV := Lib.hid hvv
  have HVS := Lib.hid hvs
  have HN := Lib.hid hN
  have HN' := Lib.hid hN'
  have HSZ := Lib.hid hsz
  clear hown bw ha hvv hvs hkl hkb hb0 hb1 hN hN' hown_ hbs_ hsz hwh
  go_wp2_with fail
  generalize hoA : w1.heap.size = oA at *
  generalize hwA : w1.alloc (.cells #[.int .i64 wd, .int .i64 hi, .int .i64 dp, .slice (some ⟨qA, 0, none⟩) N cA] 26) = wA at *
  clear hoA hwA
  refine (r8Prices_any _ _ _ _ hbA).mono ?_
  rintro e w2 ⟨one, more, rfl, p1, p2, p3, bw⟩
  have ha : Below w2.heap.size w2 (w2.alloc (.cells #[.float .f32 (fq 2 one), .float .f32 (fq 2 more)] 30)) := (Below.refl _ _).alloc (Nat.le_refl _) _
  have bP := BoxN.last w2 #[.float .f32 (fq 2 one), .float .f32 (fq 2 more)] 30
  replace bA := (bA.below bw).below ha
  replace vA := (vA.below bw).below ha
  replace hbA := (hbA.below bw).below ha
  replace hbel := (hbel.trans (bw.mono hbel.size)).trans (ha.mono (Nat.le_trans hbel.size bw.size))
  clear bw ha
  go_wp2_with fail
  generalize hoP : w2.heap.size = oP at *
  generalize hwP : w2.alloc (.cells #[.float .f32 (fq 2 one), .float .f32 (fq 2 more)] 30) = wP at *
  clear hoP hwP
  refine (r8At_any _ _ _ _ 1 8 (by omega) (by omega) (by omega) hbA).mono ?_
  rintro e w3 ⟨k, rfl, k0, k1, rfl⟩
  obtain ⟨n, hn⟩ : ∃ n : Nat, (1 : Int) + k = n := ⟨(1 + k).toNat, by omega⟩
  have HNK := Lib.hid hn
  have n1 : 1 ≤ n := by omega
  have n8 : n ≤ 8 := by omega
  clear hn
  generalize hVO : fq 2 one = vo at *
  generalize hVM : fq 2 more = vm at *
  have HVO := Lib.hid hVO
  have HVM := Lib.hid hVM
  clear hVO hVM
  obtain ⟨zA0, zA1, zA2, zA3, -, -, -, -⟩ := bA.four
  obtain ⟨zP0, zP1⟩ : _ ∧ _ := ⟨bP.cell 0, bP.cell 1⟩
  simp at zP0 zP1
  go_wp2_with fail
  clear zA0 zA1 zA2 zA3 zP0 zP1
  rw [HNK.out]
  rw [← HVO.out, ← HVM.out]
  refine (sumPaths_vq n one more vA HVV.out HN.out hob n1 n8 p1 p2 (by omega)).mono ?_
  rintro e wS ⟨qS, cS, bsS, Ps, rfl, vS, sS, bw⟩
  rw [HVO.out, HVM.out]
  have SS := Lib.hid sS
  clear sS k0 k1
  have ha : Below wS.heap.size wS (wS.alloc (.cells #[.int .i64 wd, .int .i64 hi, .int .i64 dp, .slice (some ⟨qS, 0, none⟩) N cS] 26)) := (Below.refl _ _).alloc (Nat.le_refl _) _
  have bS := BoxN.last wS #[.int .i64 wd, .int .i64 hi, .int .i64 dp, .slice (some ⟨qS, 0, none⟩) N cS] 26
  replace vS := vS.below ha
  replace bA := (bA.below bw).below ha
  replace vA := (vA.below bw).below ha
  replace bP := (bP.below bw).below ha
  replace hbA := (hbA.below bw).below ha
  replace hbel := (hbel.trans (bw.mono hbel.size)).trans (ha.mono (Nat.le_trans hbel.size bw.size))
  clear bw ha
  obtain ⟨zA0, zA1, zA2, zA3, -, -, -, -⟩ := bA.four
  go_wp2_with fail
  generalize hoS : wS.heap.size = oS at *
  generalize hwS : wS.alloc (.cells #[.int .i64 wd, .int .i64 hi, .int .i64 dp, .slice (some ⟨qS, 0, none⟩) N cS] 26) = WS at *
  clear hoS hwS
  clear zA0 zA1 zA2 zA3
  refine (zero_vq vA HVV.out HN.out (qbW_of hob) ho0 Ps).mono ?_
  rintro e wZ ⟨qZ, cZ, bsZ, rfl, vZ, bw⟩
  replace bA := bA.below bw
  replace vA := vA.below bw
  replace bP := bP.below bw
  replace hbA := hbA.below bw
  replace bS := bS.below bw
  replace vS := vS.below bw
  replace hbel := hbel.trans (bw.mono hbel.size)
  clear bw
  have ha : Below wZ.heap.size wZ (wZ.alloc (.cells #[.int .i64 wd, .int .i64 hi, .int .i64 dp, .slice (some ⟨qZ, 0, none⟩) N cZ] 26)) := (Below.refl _ _).alloc (Nat.le_refl _) _
  have bZ := BoxN.last wZ #[.int .i64 wd, .int .i64 hi, .int .i64 dp, .slice (some ⟨qZ, 0, none⟩) N cZ] 26
  replace vZ := vZ.below ha
  have LZ := Lib.hid ha
  clear ha
  have KbA := Lib.hid bA
  have KvA := Lib.hid vA
  have KbP := Lib.hid bP
  have KhbA := Lib.hid hbA
  have KbS := Lib.hid bS
  have KvS := Lib.hid vS
  have KbZ := Lib.hid bZ
  have KvZ := Lib.hid vZ
  have KB := Lib.hid hbel
  clear hbel bA vA bP hbA bS vS bZ vZ
  go_wp2_with fail
  obtain ⟨oZ, hoZ⟩ : ∃ oZ, oZ = wZ.heap.size := ⟨_, rfl⟩
  have HOZ := Lib.hid hoZ
  simp only [← hoZ]
  clear hoZ
  go_loopw [12] (fun v12 wr => ∃ (j q c : Nat) (bs : List Nat), v12 = .int .i64 j ∧ j ≤ n ∧ Below wZ.heap.size wZ wr ∧ BoxN wr oZ #[.int .i64 wd, .int .i64 hi, .int .i64 dp, .slice (some ⟨q, 0, none⟩) N c] 26 ∧ VQ wr wd hi dp q c N bs (sumP dp Ps j)) (fun v12 _ => n - (intOf v12).toNat)
  case atStart => exact ⟨0, qZ, cZ, bsZ, rfl, Nat.zero_le _, LZ.out, by rw [HOZ.out]; exact KbZ.out, KvZ.out⟩
  case round =>
    clear LZ KbZ KvZ
    obtain ⟨j, q, c, bs, rfl, hj, bw, bZ, vZ⟩ := hrel
    by_cases hlt : j < n
    · have hlt2 : (j : Int) < 1 + k := by rw [HNK.out]; omega
      have hj8 : j < 8 := by omega
      have bA := KbA.out.below bw
      have vA := KvA.out.below bw
      have bP := KbP.out.below bw
      have BW := Lib.hid bw
      clear bw
      obtain ⟨zA0, zA1, zA2, zA3, -, -, -, -⟩ := bA.four
      obtain ⟨zP0, zP1⟩ : _ ∧ _ := ⟨bP.cell 0, bP.cell 1⟩
      simp at zP0 zP1
      go_wp2_with fail
      clear zA0 zA1 zA2 zA3 zP0 zP1
      rw [← HVO.out, ← HVM.out]
      refine (path_vq j one more vA HVV.out HN.out hj8 hob p1 p2 (by omega)).mono ?_
      rintro e wX ⟨qX, cX, bsX, PX, rfl, vX, aX, oX, bw⟩
      rw [HVO.out, HVM.out]
      have ha : Below wX.heap.size wX (wX.alloc (.cells #[.int .i64 wd, .int .i64 hi, .int .i64 dp, .slice (some ⟨qX, 0, none⟩) N cX] 26)) := (Below.refl _ _).alloc (Nat.le_refl _) _
      have bX := BoxN.last wX #[.int .i64 wd, .int .i64 hi, .int .i64 dp, .slice (some ⟨qX, 0, none⟩) N cX] 26
      replace vX := vX.below ha
      replace bZ := (bZ.below bw).below ha
      replace vZ := (vZ.below bw).below ha
      have BW2 := Lib.hid ((BW.out.trans (bw.mono BW.out.size)).trans (ha.mono (Nat.le_trans BW.out.size bw.size)))
      have AX := Lib.hid aX
      clear bw ha aX oX bA vA bP
      obtain ⟨zX0, zX1, zX2, zX3, -, -, -, -⟩ := bX.four
      obtain ⟨zZ0, zZ1, zZ2, zZ3, -, -, -, -⟩ := bZ.four
      go_wp2_with fail
      clear zX0 zX1 zX2 zX3 zZ0 zZ1 zZ2 zZ3
      refine (addSum_vq vZ vX HVV.out HN.out hob SS.out n8 hlt AX.out).mono ?_
      rintro e wY ⟨qY, cY, bsY, rfl, vY, bw⟩
      have ha : Below wY.heap.size wY (wY.alloc (.cells #[.int .i64 wd, .int .i64 hi, .int .i64 dp, .slice (some ⟨qY, 0, none⟩) N cY] 26)) := (Below.refl _ _).alloc (Nat.le_refl _) _
      have bY := BoxN.last wY #[.int .i64 wd, .int .i64 hi, .int .i64 dp, .slice (some ⟨qY, 0, none⟩) N cY] 26
      replace vY := vY.below ha
      replace bZ := (bZ.below bw).below ha
      have BW3 := Lib.hid ((BW2.out.trans (bw.mono BW2.out.size)).trans (ha.mono (Nat.le_trans BW2.out.size bw.size)))
      have hne := vY.ne hN0 bZ
      have HNE := Lib.hid hne
      clear bw ha vZ vX hne
      obtain ⟨zZ0, zZ1, zZ2, zZ3, fZ0, fZ1, fZ2, fZ3⟩ := bZ.four
      obtain ⟨zY0, zY1, zY2, zY3, -, -, -, -⟩ := bY.four
      have lZ := bZ.lt
      have lY := bY.lt
      have BZ := Lib.hid bZ
      have VY := Lib.hid vY
      clear bZ vY bY bX
      go_wp2
      go_roundw
      case rel =>
        refine ⟨j + 1, qY, cY, bsY, by go_num, by omega, ?_, ?_, ?_⟩
        · exact (((BW3.out.setCell (by rw [← HOZ.out]; exact Nat.le_refl _) _).setCell (by rw [← HOZ.out]; exact Nat.le_refl _) _).setCell (by rw [← HOZ.out]; exact Nat.le_refl _) _).setCell (by rw [← HOZ.out]; exact Nat.le_refl _) _
        · have := (((BZ.out.set 0 (.int .i64 wd)).set 1 (.int .i64 hi)).set 2 (.int .i64 dp)).set 3 (.slice (some ⟨qY, 0, none⟩) N cY)
          simpa using this
        · exact (((VY.out.set HNE.out _).set HNE.out _).set HNE.out _).set HNE.out _
      case measure => simp [intOf]; omega
    · obtain rfl : j = n := by omega
      have hlt2 : ¬ (j : Int) < 1 + k := by rw [HNK.out]; omega
      have bA := KbA.out.below bw
      have vA := KvA.out.below bw
      have bP := KbP.out.below bw
      have hbA := KhbA.out.below bw
      have bS := KbS.out.below bw
      have vS := KvS.out.below bw
      have hbel := KB.out.trans (bw.mono KB.out.size)
      clear bw hj hlt KbA KvA KbP KhbA KbS KvS KB
      obtain ⟨zZ0, zZ1, zZ2, zZ3, -, -, -, -⟩ := bZ.four
      obtain ⟨zS0, zS1, zS2, zS3, -, -, -, -⟩ := bS.four
      go_wp2_with fail
      clear zZ0 zZ1 zZ2 zZ3 zS0 zS1 zS2 zS3
      refine (same_vq vZ vS v5 v1 (fun _ _ _ => rfl)).mono ?_
      rintro e wX ⟨rfl, bw⟩
      replace bA := bA.below bw
      replace vA := vA.below bw
      replace bP := bP.below bw
      replace hbA := hbA.below bw
      replace bS := bS.below bw
      replace vS := vS.below bw
      replace bZ := bZ.below bw
      replace vZ := vZ.below bw
      replace hbel := hbel.trans (bw.mono hbel.size)
      clear bw
      clear bZ vZ hlt2
      obtain ⟨zA0, zA1, zA2, zA3, -, -, -, -⟩ := bA.four
      obtain ⟨zP0, zP1⟩ : _ ∧ _ := ⟨bP.cell 0, bP.cell 1⟩
      simp at zP0 zP1
      go_wp2_with fail
      clear zA0 zA1 zA2 zA3 zP0 zP1
      rw [← HVO.out, ← HVM.out]
      refine (sumPaths_vq 8 one more vA HVV.out HN.out hob (by omega) (by omega) p1 p2 (by omega)).mono ?_
      rintro e wB ⟨qB, cB, bsB, Qs, rfl, vB, sB, bw⟩
      rw [HVO.out, HVM.out]
      have SB := Lib.hid sB
      clear sB
      have ha : Below wB.heap.size wB (wB.alloc (.cells #[.int .i64 wd, .int .i64 hi, .int .i64 dp, .slice (some ⟨qB, 0, none⟩) N cB] 26)) := (Below.refl _ _).alloc (Nat.le_refl _) _
      have bB := BoxN.last wB #[.int .i64 wd, .int .i64 hi, .int .i64 dp, .slice (some ⟨qB, 0, none⟩) N cB] 26
      replace vB := vB.below ha
      replace bA := (bA.below bw).below ha
      replace vA := (vA.below bw).below ha
      replace bP := (bP.below bw).below ha
      replace hbA := (hbA.below bw).below ha
      replace bS := (bS.below bw).below ha
      replace vS := (vS.below bw).below ha
      replace hbel := (hbel.trans (bw.mono hbel.size)).trans (ha.mono (Nat.le_trans hbel.size bw.size))
      clear bw ha
      obtain ⟨zA0, zA1, zA2, zA3, -, -, -, -⟩ := bA.four
      go_wp2_with fail
      generalize hoB : wB.heap.size = oB at *
      generalize hwB : wB.alloc (.cells #[.int .i64 wd, .int .i64 hi, .int .i64 dp, .slice (some ⟨qB, 0, none⟩) N cB] 26) = WB at *
      clear hoB hwB
      clear zA0 zA1 zA2 zA3
      refine (flip_vq vA HVV.out HN.out (qbW_of hob)).mono ?_
      rintro e wF ⟨qF, cF, bsF, rfl, vF, bw⟩
      have ha : Below wF.heap.size wF (wF.alloc (.cells #[.int .i64 wd, .int .i64 hi, .int .i64 dp, .slice (some ⟨qF, 0, none⟩) N cF] 26)) := (Below.refl _ _).alloc (Nat.le_refl _) _
      have bF := BoxN.last wF #[.int .i64 wd, .int .i64 hi, .int .i64 dp, .slice (some ⟨qF, 0, none⟩) N cF] 26
      replace vF := vF.below ha
      replace bA := (bA.below bw).below ha
      replace vA := (vA.below bw).below ha
      replace bP := (bP.below bw).below ha
      replace hbA := (hbA.below bw).below ha
      replace bS := (bS.below bw).below ha
      replace vS := (vS.below bw).below ha
      replace bB := (bB.below bw).below ha
      replace vB := (vB.below bw).below ha
      replace hbel := (hbel.trans (bw.mono hbel.size)).trans (ha.mono (Nat.le_trans hbel.size bw.size))
      clear bw ha
      obtain ⟨zF0, zF1, zF2, zF3, -, -, -, -⟩ := bF.four
      obtain ⟨zP0, zP1⟩ : _ ∧ _ := ⟨bP.cell 0, bP.cell 1⟩
      simp at zP0 zP1
      go_wp2_with fail
      generalize hoF : wF.heap.size = oF at *
      generalize hwF : wF.alloc (.cells #[.int .i64 wd, .int .i64 hi, .int .i64 dp, .slice (some ⟨qF, 0, none⟩) N cF] 26) = WF at *
      clear hoF hwF
      clear zF0 zF1 zF2 zF3 zP0 zP1
      rw [← HVO.out, ← HVM.out]
      refine (sumPaths_vq 8 one more vF HVV.out HN.out hof (by omega) (by omega) p1 p2 (by omega)).mono ?_
      rintro e wG ⟨qG, cG, bsG, Rs, rfl, vG, sG, bw⟩
      rw [HVO.out, HVM.out]
      have SG := Lib.hid sG
      clear sG
      have ha : Below wG.heap.size wG (wG.alloc (.cells #[.int .i64 wd, .int .i64 hi, .int .i64 dp, .slice (some ⟨qG, 0, none⟩) N cG] 26)) := (Below.refl _ _).alloc (Nat.le_refl _) _
      have bG := BoxN.last wG #[.int .i64 wd, .int .i64 hi, .int .i64 dp, .slice (some ⟨qG, 0, none⟩) N cG] 26
      replace vG := vG.below ha
      replace bA := (bA.below bw).below ha
      replace vA := (vA.below bw).below ha
      replace bP := (bP.below bw).below ha
      replace hbA := (hbA.below bw).below ha
      replace bS := (bS.below bw).below ha
      replace vS := (vS.below bw).below ha
      replace bB := (bB.below bw).below ha
      replace vB := (vB.below bw).below ha
      replace bF := (bF.below bw).below ha
      replace vF := (vF.below bw).below ha
      replace hbel := (hbel.trans (bw.mono hbel.size)).trans (ha.mono (Nat.le_trans hbel.size bw.size))
      clear bw ha
      obtain ⟨zG0, zG1, zG2, zG3, -, -, -, -⟩ := bG.four
      go_wp2_with fail
      generalize hoG : wG.heap.size = oG at *
      generalize hwG : wG.alloc (.cells #[.int .i64 wd, .int .i64 hi, .int .i64 dp, .slice (some ⟨qG, 0, none⟩) N cG] 26) = WG at *
      clear hoG hwG
      clear zG0 zG1 zG2 zG3
      refine (flip_vq vG HVV.out HN.out (SG.out.qbW (by omega) hof)).mono ?_
      rintro e wH ⟨qH, cH, bsH, rfl, vH, bw⟩
      have ha : Below wH.heap.size wH (wH.alloc (.cells #[.int .i64 wd, .int .i64 hi, .int .i64 dp, .slice (some ⟨qH, 0, none⟩) N cH] 26)) := (Below.refl _ _).alloc (Nat.le_refl _) _
      have bH := BoxN.last wH #[.int .i64 wd, .int .i64 hi, .int .i64 dp, .slice (some ⟨qH, 0, none⟩) N cH] 26
      replace vH := vH.below ha
      replace bA := (bA.below bw).below ha
      replace vA := (vA.below bw).below ha
      replace bP := (bP.below bw).below ha
      replace hbA := (hbA.below bw).below ha
      replace bS := (bS.below bw).below ha
      replace vS := (vS.below bw).below ha
      replace bB := (bB.below bw).below ha
      replace vB := (vB.below bw).below ha
      replace bF := (bF.below bw).below ha
      replace vF := (vF.below bw).below ha
      replace bG := (bG.below bw).below ha
      replace vG := (vG.below bw).below ha
      replace hbel := (hbel.trans (bw.mono hbel.size)).trans (ha.mono (Nat.le_trans hbel.size bw.size))
      clear bw ha
      obtain ⟨zA0, zA1, zA2, zA3, -, -, -, -⟩ := bA.four
      go_wp2_with fail
      generalize hoH : wH.heap.size = oH at *
      generalize hwH : wH.alloc (.cells #[.int .i64 wd, .int .i64 hi, .int .i64 dp, .slice (some ⟨qH, 0, none⟩) N cH] 26) = WH at *
      clear hoH hwH
      clear zA0 zA1 zA2 zA3
      refine (swap_vq vA HVV.out HN.out (qbW_of hob)).mono ?_
      rintro e wI ⟨qI, cI, bsI, rfl, vI, bw⟩
      have ha : Below wI.heap.size wI (wI.alloc (.cells #[.int .i64 hi, .int .i64 wd, .int .i64 dp, .slice (some ⟨qI, 0, none⟩) N cI] 26)) := (Below.refl _ _).alloc (Nat.le_refl _) _
      have bI := BoxN.last wI #[.int .i64 hi, .int .i64 wd, .int .i64 dp, .slice (some ⟨qI, 0, none⟩) N cI] 26
      replace vI := vI.below ha
      replace bA := (bA.below bw).below ha
      replace vA := (vA.below bw).below ha
      replace bP := (bP.below bw).below ha
      replace hbA := (hbA.below bw).below ha
      replace bS := (bS.below bw).below ha
      replace vS := (vS.below bw).below ha
      replace bB := (bB.below bw).below ha
      replace vB := (vB.below bw).below ha
      replace bF := (bF.below bw).below ha
      replace vF := (vF.below bw).below ha
      replace bG := (bG.below bw).below ha
      replace vG := (vG.below bw).below ha
      replace bH := (bH.below bw).below ha
      replace vH := (vH.below bw).below ha
      replace hbel := (hbel.trans (bw.mono hbel.size)).trans (ha.mono (Nat.le_trans hbel.size bw.size))
      clear bw ha
      obtain ⟨zI0, zI1, zI2, zI3, -, -, -, -⟩ := bI.four
      obtain ⟨zP0, zP1⟩ : _ ∧ _ := ⟨bP.cell 0, bP.cell 1⟩
      simp at zP0 zP1
      go_wp2_with fail
      generalize hoI : wI.heap.size = oI at *
      generalize hwI : wI.alloc (.cells #[.int .i64 hi, .int .i64 wd, .int .i64 dp, .slice (some ⟨qI, 0, none⟩) N cI] 26) = WI at *
      clear hoI hwI
      clear zI0 zI1 zI2 zI3 zP0 zP1
      rw [← HVO.out, ← HVM.out]
      refine (sumPaths_vq 8 one more vI HVS.out HN'.out hos (by omega) (by omega) p1 p2 (by omega)).mono ?_
      rintro e wJ ⟨qJ, cJ, bsJ, Ts, rfl, vJ, sJ, bw⟩
      rw [HVO.out, HVM.out]
      have SJ := Lib.hid sJ
      clear sJ
      have ha : Below wJ.heap.size wJ (wJ.alloc (.cells #[.int .i64 hi, .int .i64 wd, .int .i64 dp, .slice (some ⟨qJ, 0, none⟩) N cJ] 26)) := (Below.refl _ _).alloc (Nat.le_refl _) _
      have bJ := BoxN.last wJ #[.int .i64 hi, .int .i64 wd, .int .i64 dp, .slice (some ⟨qJ, 0, none⟩) N cJ] 26
      replace vJ := vJ.below ha
      replace bA := (bA.below bw).below ha
      replace vA := (vA.below bw).below ha
      replace bP := (bP.below bw).below ha
      replace hbA := (hbA.below bw).below ha
      replace bS := (bS.below bw).below ha
      replace vS := (vS.below bw).below ha
      replace bB := (bB.below bw).below ha
      replace vB := (vB.below bw).below ha
      replace bF := (bF.below bw).below ha
      replace vF := (vF.below bw).below ha
      replace bG := (bG.below bw).below ha
      replace vG := (vG.below bw).below ha
      replace bH := (bH.below bw).below ha
      replace vH := (vH.below bw).below ha
      replace bI := (bI.below bw).below ha
      replace vI := (vI.below bw).below ha
      replace hbel := (hbel.trans (bw.mono hbel.size)).trans (ha.mono (Nat.le_trans hbel.size bw.size))
      clear bw ha
      obtain ⟨zJ0, zJ1, zJ2, zJ3, -, -, -, -⟩ := bJ.four
      go_wp2_with fail
      generalize hoJ : wJ.heap.size = oJ at *
      generalize hwJ : wJ.alloc (.cells #[.int .i64 hi, .int .i64 wd, .int .i64 dp, .slice (some ⟨qJ, 0, none⟩) N cJ] 26) = WJ at *
      clear hoJ hwJ
      clear zJ0 zJ1 zJ2 zJ3
      refine (swap_vq vJ HVS.out HN'.out (SJ.out.qbW (by omega) hos)).mono ?_
      rintro e wK ⟨qK, cK, bsK, rfl, vK, bw⟩
      have ha : Below wK.heap.size wK (wK.alloc (.cells #[.int .i64 wd, .int .i64 hi, .int .i64 dp, .slice (some ⟨qK, 0, none⟩) N cK] 26)) := (Below.refl _ _).alloc (Nat.le_refl _) _
      have bK := BoxN.last wK #[.int .i64 wd, .int .i64 hi, .int .i64 dp, .slice (some ⟨qK, 0, none⟩) N cK] 26
      replace vK := vK.below ha
      replace bA := (bA.below bw).below ha
      replace vA := (vA.below bw).below ha
      replace bP := (bP.below bw).below ha
      replace hbA := (hbA.below bw).below ha
      replace bS := (bS.below bw).below ha
      replace vS := (vS.below bw).below ha
      replace bB := (bB.below bw).below ha
      replace vB := (vB.below bw).below ha
      replace bF := (bF.below bw).below ha
      replace vF := (vF.below bw).below ha
      replace bG := (bG.below bw).below ha
      replace vG := (vG.below bw).below ha
      replace bH := (bH.below bw).below ha
      replace vH := (vH.below bw).below ha
      replace bI := (bI.below bw).below ha
      replace vI := (vI.below bw).below ha
      replace bJ := (bJ.below bw).below ha
      replace vJ := (vJ.below bw).below ha
      replace hbel := (hbel.trans (bw.mono hbel.size)).trans (ha.mono (Nat.le_trans hbel.size bw.size))
      clear bw ha
      obtain ⟨zA0, zA1, zA2, zA3, -, -, -, -⟩ := bA.four
      go_wp2_with fail
      generalize hoK : wK.heap.size = oK at *
      generalize hwK : wK.alloc (.cells #[.int .i64 wd, .int .i64 hi, .int .i64 dp, .slice (some ⟨qK, 0, none⟩) N cK] 26) = WK at *
      clear hoK hwK
      clear bF vF bG vG bI vI bJ vJ
      clear zA0 zA1 zA2 zA3
      refine (flat_fq _ wd hi HSZ.out v1 v3).mono ?_
      rintro e wL ⟨qL, cL, gsL, rfl, fL, bw⟩
      obtain ⟨M, hM⟩ : ∃ M, M = wd * hi := ⟨_, rfl⟩
      have HM := Lib.hid hM
      rw [← hM]
      clear hM
      have ha : Below wL.heap.size wL (wL.alloc (.cells #[.int .i64 wd, .int .i64 hi, .slice (some ⟨qL, 0, none⟩) M cL] 60)) := (Below.refl _ _).alloc (Nat.le_refl _) _
      have bL := BoxN.last wL #[.int .i64 wd, .int .i64 hi, .slice (some ⟨qL, 0, none⟩) M cL] 60
      replace fL := fL.below ha
      replace bA := (bA.below bw).below ha
      replace vA := (vA.below bw).below ha
      replace bP := (bP.below bw).below ha
      replace hbA := (hbA.below bw).below ha
      replace bS := (bS.below bw).below ha
      replace vS := (vS.below bw).below ha
      replace bB := (bB.below bw).below ha
      replace vB := (vB.below bw).below ha
      replace bH := (bH.below bw).below ha
      replace vH := (vH.below bw).below ha
      replace bK := (bK.below bw).below ha
      replace vK := (vK.below bw).below ha
      replace hbel := (hbel.trans (bw.mono hbel.size)).trans (ha.mono (Nat.le_trans hbel.size bw.size))
      clear bw ha
      obtain ⟨zA0, zA1, zA2, zA3, -, -, -, -⟩ := bA.four
      obtain ⟨zP0, zP1⟩ : _ ∧ _ := ⟨bP.cell 0, bP.cell 1⟩
      simp at zP0 zP1
      obtain ⟨zL0, zL1, zL2⟩ : _ ∧ _ ∧ _ := ⟨bL.cell 0, bL.cell 1, bL.cell 2⟩
      simp at zL0 zL1 zL2
      go_wp2_with fail
      generalize hoL : wL.heap.size = oL at *
      generalize hwL : wL.alloc (.cells #[.int .i64 wd, .int .i64 hi, .slice (some ⟨qL, 0, none⟩) M cL] 60) = WL at *
      clear hoL hwL
      clear zA0 zA1 zA2 zA3 zP0 zP1 zL0 zL1 zL2
      rw [← HVO.out, ← HVM.out]
      rw [HM.out]
      refine (sumOver_vq j one more vA fL HVV.out HN.out hob n1 n8 p1 p2 (by omega)).mono ?_
      rintro e wM ⟨qM, cM, bsM, Us, rfl, vM, sM, bw⟩
      rw [HVO.out, HVM.out]
      rw [← HM.out]
      have SM := Lib.hid sM
      clear sM
      have ha : Below wM.heap.size wM (wM.alloc (.cells #[.int .i64 wd, .int .i64 hi, .int .i64 dp, .slice (some ⟨qM, 0, none⟩) N cM] 26)) := (Below.refl _ _).alloc (Nat.le_refl _) _
      have bM := BoxN.last wM #[.int .i64 wd, .int .i64 hi, .int .i64 dp, .slice (some ⟨qM, 0, none⟩) N cM] 26
      replace vM := vM.below ha
      replace bA := (bA.below bw).below ha
      replace vA := (vA.below bw).below ha
      replace bP := (bP.below bw).below ha
      replace hbA := (hbA.below bw).below ha
      replace bS := (bS.below bw).below ha
      replace vS := (vS.below bw).below ha
      replace bB := (bB.below bw).below ha
      replace vB := (vB.below bw).below ha
      replace bH := (bH.below bw).below ha
      replace vH := (vH.below bw).below ha
      replace bK := (bK.below bw).below ha
      replace vK := (vK.below bw).below ha
      replace bL := (bL.below bw).below ha
      replace fL := (fL.below bw).below ha
      replace hbel := (hbel.trans (bw.mono hbel.size)).trans (ha.mono (Nat.le_trans hbel.size bw.size))
      clear bw ha
      go_wp2_with fail
      generalize hoM : wM.heap.size = oM at *
      generalize hwM : wM.alloc (.cells #[.int .i64 wd, .int .i64 hi, .int .i64 dp, .slice (some ⟨qM, 0, none⟩) N cM] 26) = WM at *
      clear hoM hwM
      refine (r8At_any _ _ _ _ 2 8 (by omega) (by omega) (by omega) hbA).mono ?_
      rintro e w9 ⟨i, rfl, i0, i1, rfl⟩
      obtain ⟨i, rfl⟩ := Int.eq_ofNat_of_zero_le i0
      have hi8 : i < 8 := by omega
      clear i0 i1
      obtain ⟨zA0, zA1, zA2, zA3, -, -, -, -⟩ := bA.four
      obtain ⟨zP0, zP1⟩ : _ ∧ _ := ⟨bP.cell 0, bP.cell 1⟩
      simp at zP0 zP1
      obtain ⟨zL0, zL1, zL2⟩ : _ ∧ _ ∧ _ := ⟨bL.cell 0, bL.cell 1, bL.cell 2⟩
      simp at zL0 zL1 zL2
      go_wp2_with fail
      clear zA0 zA1 zA2 zA3 zP0 zP1 zL0 zL1 zL2
      rw [← HVO.out, ← HVM.out]
      rw [HM.out]
      refine (pathOver_vq i one more vA fL HVV.out HN.out hob hi8 p1 p2 (by omega)).mono ?_
      rintro e wR ⟨qR, cR, bsR, PR, rfl, vR, aR, oR, bw⟩
      rw [HVO.out, HVM.out]
      rw [← HM.out]
      have AR := Lib.hid aR
      clear aR oR
      have ha : Below wR.heap.size wR (wR.alloc (.cells #[.int .i64 wd, .int .i64 hi, .int .i64 dp, .slice (some ⟨qR, 0, none⟩) N cR] 26)) := (Below.refl _ _).alloc (Nat.le_refl _) _
      have bR := BoxN.last wR #[.int .i64 wd, .int .i64 hi, .int .i64 dp, .slice (some ⟨qR, 0, none⟩) N cR] 26
      replace vR := vR.below ha
      replace bA := (bA.below bw).below ha
      replace vA := (vA.below bw).below ha
      replace bP := (bP.below bw).below ha
      replace hbA := (hbA.below bw).below ha
      replace bS := (bS.below bw).below ha
      replace vS := (vS.below bw).below ha
      replace bB := (bB.below bw).below ha
      replace vB := (vB.below bw).below ha
      replace bH := (bH.below bw).below ha
      replace vH := (vH.below bw).below ha
      replace bK := (bK.below bw).below ha
      replace vK := (vK.below bw).below ha
      replace bL := (bL.below bw).below ha
      replace fL := (fL.below bw).below ha
      replace bM := (bM.below bw).below ha
      replace vM := (vM.below bw).below ha
      replace hbel := (hbel.trans (bw.mono hbel.size)).trans (ha.mono (Nat.le_trans hbel.size bw.size))
      clear bw ha
      obtain ⟨zA0, zA1, zA2, zA3, -, -, -, -⟩ := bA.four
      obtain ⟨zP0, zP1⟩ : _ ∧ _ := ⟨bP.cell 0, bP.cell 1⟩
      simp at zP0 zP1
      go_wp2_with fail
      generalize hoR : wR.heap.size = oR at *
      generalize hwR : wR.alloc (.cells #[.int .i64 wd, .int .i64 hi, .int .i64 dp, .slice (some ⟨qR, 0, none⟩) N cR] 26) = WR at *
      clear hoR hwR
      clear zA0 zA1 zA2 zA3 zP0 zP1
      rw [← HVO.out, ← HVM.out]
      refine (path_vq i one more vA HVV.out HN.out hi8 hob p1 p2 (by omega)).mono ?_
      rintro e wQ ⟨qQ, cQ, bsQ, PQ, rfl, vQ, aQ, oQ, bw⟩
      rw [HVO.out, HVM.out]
      have AQ := Lib.hid aQ
      clear aQ oQ
      have ha : Below wQ.heap.size wQ (wQ.alloc (.cells #[.int .i64 wd, .int .i64 hi, .int .i64 dp, .slice (some ⟨qQ, 0, none⟩) N cQ] 26)) := (Below.refl _ _).alloc (Nat.le_refl _) _
      have bQ := BoxN.last wQ #[.int .i64 wd, .int .i64 hi, .int .i64 dp, .slice (some ⟨qQ, 0, none⟩) N cQ] 26
      replace vQ := vQ.below ha
      replace bA := (bA.below bw).below ha
      replace vA := (vA.below bw).below ha
      replace bP := (bP.below bw).below ha
      replace hbA := (hbA.below bw).below ha
      replace bS := (bS.below bw).below ha
      replace vS := (vS.below bw).below ha
      replace bB := (bB.below bw).below ha
      replace vB := (vB.below bw).below ha
      replace bH := (bH.below bw).below ha
      replace vH := (vH.below bw).below ha
      replace bK := (bK.below bw).below ha
      replace vK := (vK.below bw).below ha
      replace bL := (bL.below bw).below ha
      replace fL := (fL.below bw).below ha
      replace bM := (bM.below bw).below ha
      replace vM := (vM.below bw).below ha
      replace bR := (bR.below bw).below ha
      replace vR := (vR.below bw).below ha
      replace hbel := (hbel.trans (bw.mono hbel.size)).trans (ha.mono (Nat.le_trans hbel.size bw.size))
      clear bw ha
      obtain ⟨zH0, zH1, zH2, zH3, -, -, -, -⟩ := bH.four
      obtain ⟨zB0, zB1, zB2, zB3, -, -, -, -⟩ := bB.four
      go_wp2_with fail
      generalize hoQ : wQ.heap.size = oQ at *
      generalize hwQ : wQ.alloc (.cells #[.int .i64 wd, .int .i64 hi, .int .i64 dp, .slice (some ⟨qQ, 0, none⟩) N cQ] 26) = WQ at *
      clear hoQ hwQ
      clear zH0 zH1 zH2 zH3 zB0 zB1 zB2 zB3
      refine (same_vq vH vB v5 v1 (sum_flip (fun k hk => (SB.out k hk).1) (fun k hk => (SG.out k hk).1))).mono ?_
      rintro e wX1 ⟨rfl, bw⟩
      replace bA := bA.below bw
      replace vA := vA.below bw
      replace bP := bP.below bw
      replace hbA := hbA.below bw
      replace bS := bS.below bw
      replace vS := vS.below bw
      replace bB := bB.below bw
      replace vB := vB.below bw
      replace bH := bH.below bw
      replace vH := vH.below bw
      replace bK := bK.below bw
      replace vK := vK.below bw
      replace bL := bL.below bw
      replace fL := fL.below bw
      replace bM := bM.below bw
      replace vM := vM.below bw
      replace bR := bR.below bw
      replace vR := vR.below bw
      replace bQ := bQ.below bw
      replace vQ := vQ.below bw
      replace hbel := hbel.trans (bw.mono hbel.size)
      clear bw
      obtain ⟨zK0, zK1, zK2, zK3, -, -, -, -⟩ := bK.four
      obtain ⟨zB0, zB1, zB2, zB3, -, -, -, -⟩ := bB.four
      go_wp2_with fail
      clear zK0 zK1 zK2 zK3 zB0 zB1 zB2 zB3
      refine (same_vq vK vB v5 v1 (sum_swap (fun k hk => (SB.out k hk).1) (fun k hk => (SJ.out k hk).1))).mono ?_
      rintro e wX2 ⟨rfl, bw⟩
      replace bA := bA.below bw
      replace vA := vA.below bw
      replace bP := bP.below bw
      replace hbA := hbA.below bw
      replace bS := bS.below bw
      replace vS := vS.below bw
      replace bB := bB.below bw
      replace vB := vB.below bw
      replace bH := bH.below bw
      replace vH := vH.below bw
      replace bK := bK.below bw
      replace vK := vK.below bw
      replace bL := bL.below bw
      replace fL := fL.below bw
      replace bM := bM.below bw
      replace vM := vM.below bw
      replace bR := bR.below bw
      replace vR := vR.below bw
      replace bQ := bQ.below bw
      replace vQ := vQ.below bw
      replace hbel := hbel.trans (bw.mono hbel.size)
      clear bw
      obtain ⟨zM0, zM1, zM2, zM3, -, -, -, -⟩ := bM.four
      obtain ⟨zS0, zS1, zS2, zS3, -, -, -, -⟩ := bS.four
      go_wp2_with fail
      clear zM0 zM1 zM2 zM3 zS0 zS1 zS2 zS3
      refine (same_vq vM vS v5 v1 (sum_same n8 (fun k hk => (SM.out k hk).1) (fun k hk => (SS.out k hk).1))).mono ?_
      rintro e wX3 ⟨rfl, bw⟩
      replace bA := bA.below bw
      replace vA := vA.below bw
      replace bP := bP.below bw
      replace hbA := hbA.below bw
      replace bS := bS.below bw
      replace vS := vS.below bw
      replace bB := bB.below bw
      replace vB := vB.below bw
      replace bH := bH.below bw
      replace vH := vH.below bw
      replace bK := bK.below bw
      replace vK := vK.below bw
      replace bL := bL.below bw
      replace fL := fL.below bw
      replace bM := bM.below bw
      replace vM := vM.below bw
      replace bR := bR.below bw
      replace vR := vR.below bw
      replace bQ := bQ.below bw
      replace vQ := vQ.below bw
      replace hbel := hbel.trans (bw.mono hbel.size)
      clear bw
      obtain ⟨zR0, zR1, zR2, zR3, -, -, -, -⟩ := bR.four
      obtain ⟨zQ0, zQ1, zQ2, zQ3, -, -, -, -⟩ := bQ.four
      go_wp2_with fail
      clear zR0 zR1 zR2 zR3 zQ0 zQ1 zQ2 zQ3
      refine (same_vq vR vQ v5 v1 (path_same hi8 AR.out AQ.out)).mono ?_
      rintro e wX4 ⟨rfl, bw⟩
      replace hbel := hbel.trans (bw.mono hbel.size)
      clear bw
      go_wp2
      go_ret
      exact ⟨rfl, hbel⟩

theorem fnSums_walk (w : World) (a0 a1 : Option Addr) (l0 c0 l1 c1 : Nat) (z0 z1 : List Int)
    (r0 : (a0 = none ∧ l0 = 0 ∧ c0 = 0 ∧ z0 = []) ∨ ∃ x, a0 = some x ∧ l0 ≤ c0 ∧ c0 ≤ maxLen ∧ z0.length = c0 ∧ (∀ i, i < z0.length → w.cell? (x.add i) = some (.int .u8 (z0.getD i 0))) ∧ ∀ n ∈ z0, (Lit.int .u8 n).wf = true)
    (r1 : (a1 = none ∧ l1 = 0 ∧ c1 = 0 ∧ z1 = []) ∨ ∃ x, a1 = some x ∧ l1 ≤ c1 ∧ c1 ≤ maxLen ∧ z1.length = c1 ∧ (∀ i, i < z1.length → w.cell? (x.add i) = some (.int .u8 (z1.getD i 0))) ∧ ∀ n ∈ z1, (Lit.int .u8 n).wf = true) :
    Calls Try.prog 6 #[.slice a0 l0 c0, .slice a1 l1 c1] w fun e w' => e = .returned (.bool true) ∧ Below w.heap.size w w' := by
  by_cases h : l0 ≤ 48 ∧ l1 ≤ 48
  · exact fnSums_short w a0 a1 l0 c0 l1 c1 h.1 h.2 (bytesIn_of_row r0 (by omega)) (bytesIn_of_row r1 (by omega))
  · exact fnSums_long w a0 a1 l0 c0 l1 c1 (len_of_row r0) (len_of_row r1) h

end Go.Proofs.Ytfhlpabbacopjaa
