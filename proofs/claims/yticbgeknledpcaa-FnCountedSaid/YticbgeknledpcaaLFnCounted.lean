/- The law of counts: the walk of its code. No condition. -/
import Derived.Test.YticbgeknledpcaaMw
import Derived.Deep.RegionHeld3
import Derived.StillTactics
namespace Go.Proofs.Yticbgeknledpcaa
open Go.RowKit
set_option maxRecDepth 100000
set_option linter.unusedVariables false
set_option linter.unusedSimpArgs false

theorem fnCounted_long (w : World) (a0 a1 : Option Addr) (l0 c0 l1 c1 : Nat) (m0 : l0 ≤ 9223372036854775807) (m1 : l1 ≤ 9223372036854775807) (h : ¬ (l0 ≤ 1048576 ∧ l1 ≤ 1048576)) :
    Calls Try.prog 5 #[.slice a0 l0 c0, .slice a1 l1 c1] w fun e w' => e = .returned (.bool true) ∧ Below w.heap.size w w' := by
  go_enter Try.func5, Try.ntmps5
  go_wp2_with fail
  refine (b10Long_yes _ _ _ _ _ _ _ m0 m1 h).mono ?_
  rintro e w' ⟨rfl, rfl⟩
  go_wp2
  go_ret
  exact ⟨rfl, Below.refl _ _⟩

theorem quiet_lHole {b : Nat} {v : Bool} (h : le32 0 b = v) {w : World} (n : Nat) : Calls Try.prog 14 #[.float .f32 b] (w.drewN n) fun e w'' => e = .returned (.bool !v) ∧ ∃ m, w'' = w.drewN m := by
  refine quiet_same ((lHole_any b (w.drewN n)).mono ?_)
  rintro e w' ⟨rfl, rfl⟩
  rw [h]; exact ⟨rfl, rfl⟩

theorem lSize_q (k : Int) (w : World) (h : k.natAbs ≤ 1000000) : Calls Try.prog 18 #[.float .f32 (fq 2 k)] w fun e w' => e = .returned (.float .f32 (fq 2 (k.natAbs : Nat))) ∧ w = w' := by
  have l := lt32_fq (g := 2) (a := k) (b := 0) (by omega) (by decide)
  rw [fq_zero] at l
  by_cases hk : k < 0
  · have ng := fq_neg (g := 2) (k := k) hk (by omega)
    rw [show ((k.natAbs : Nat) : Int) = -k by omega]
    simp only [hk, decide_true] at l
    rw [← ng]
    generalize fq 2 k = x at *
    clear hk h ng
    go_enter Try.func18, Try.ntmps18
    go_wp2
    go_ret
    exact ⟨rfl, rfl⟩
  · rw [show ((k.natAbs : Nat) : Int) = k by omega]
    simp only [hk, decide_false] at l
    generalize fq 2 k = x at *
    clear hk h
    go_enter Try.func18, Try.ntmps18
    go_wp2
    go_ret
    exact ⟨rfl, rfl⟩

theorem mir_mir {wd hi N : Nat} {ks : List Int} (hv : vPic wd hi N = true) (hl : ks.length = N) : tabI N (mirF (tabI N (mirF ks wd)) wd) = ks := by
  obtain ⟨e1, e2, e3, e4, e5, e6, e7⟩ := vPic_mul hv
  refine Eq.trans ?_ (tabI_ext hl)
  unfold tabI
  apply List.map_congr_left
  intro i hi
  rw [List.mem_range] at hi
  have hm := Nat.mod_lt i (show 0 < wd by omega)
  have hd : i / wd < _ := (Nat.div_lt_iff_lt_mul (show 0 < wd by omega)).2 (by rw [Nat.mul_comm, ← e1]; exact hi)
  have hx : wd - 1 - i % wd < wd := by omega
  show (tabI N (mirF ks wd)).getD (wd - 1 - i % wd + wd * (i / wd)) 0 = ks.getD i 0
  rw [tabI_get (by rw [e1]; exact xy_lt hx hd)]
  unfold mirF
  rw [xy_mod hx, xy_div hx, show wd - 1 - (wd - 1 - i % wd) = i % wd by omega, Nat.mod_add_div]

set_option maxHeartbeats 40000000 in
theorem fnCounted_short (w : World) (a0 a1 : Option Addr) (l0 c0 l1 c1 : Nat) (h0 : l0 ≤ 1048576) (h1 : l1 ≤ 1048576) (hb0 : BytesIn w a0 l0) (hb1 : BytesIn w a1 l1) :
    Calls Try.prog 5 #[.slice a0 l0 c0, .slice a1 l1 c1] w fun e w' => e = .returned (.bool true) ∧ Below w.heap.size w w' := by
  go_enter Try.func5, Try.ntmps5
  go_wp2_with fail
  refine (b10Long_no _ _ _ _ _ _ _ h0 h1).mono ?_
  rintro e w' ⟨rfl, rfl⟩
  go_wp2_with fail
  refine (b10At_any _ _ _ _ 0 6 (by omega) (by omega) (by omega) hb1).mono ?_
  rintro e w' ⟨x, rfl, x0, x1, rfl⟩
  go_wp2_with fail
  refine (b10At_any _ _ _ _ 1 5 (by omega) (by omega) (by omega) hb1).mono ?_
  rintro e w' ⟨y, rfl, y0, y1, rfl⟩
  obtain ⟨wd, hwd⟩ : ∃ n : Nat, (1 : Int) + x = n := ⟨(1 + x).toNat, by omega⟩
  obtain ⟨hi, hhi⟩ : ∃ n : Nat, (1 : Int) + y = n := ⟨(1 + y).toNat, by omega⟩
  have HWD := Lib.hid hwd
  have HHI := Lib.hid hhi
  have v1 : 1 ≤ wd := by omega
  have v2 : wd ≤ 6 := by omega
  have v3 : 1 ≤ hi := by omega
  have v4 : hi ≤ 5 := by omega
  have hwh := Nat.mul_le_mul v2 v4
  clear hwd hhi
  go_wp2_with fail
  rw [HWD.out, HHI.out]
  refine (b10Quarters_any _ _ _ _ wd hi hb0 v1 (by omega) v3 (by omega) (by omega)).mono ?_
  rintro e wM ⟨qM, cM, ks, rfl, mM, -, hk, bw⟩
  clear x0 x1 y0 y1 hb0 HWD HHI
  obtain ⟨N, hN⟩ : ∃ N, N = wd * hi := ⟨_, rfl⟩
  rw [← hN] at mM ⊢
  have hv : vPic wd hi N = true := by rw [hN]; exact vPic_of v1 (by omega) v3 (by omega) (by omega)
  have HV := Lib.hid hv
  have HN := Lib.hid hN
  have hN1 : N ≤ 30 := by omega
  have hN0 : 1 ≤ N := by rw [hN]; exact Nat.mul_pos v1 v3
  have HK := Lib.hid hk
  clear hv hN hk hwh
  have hbel := bw
  replace hb1 := hb1.below bw
  have ha : Below wM.heap.size wM (wM.alloc (.cells #[.int .i64 wd, .int .i64 hi, .slice (some ⟨qM, 0, none⟩) N cM] 26)) := (Below.refl _ _).alloc (Nat.le_refl _) _
  have bM := BoxN.last wM #[.int .i64 wd, .int .i64 hi, .slice (some ⟨qM, 0, none⟩) N cM] 26
  replace mM := mM.below ha
  replace hbel := hbel.trans (ha.mono hbel.size)
  clear bw ha hb1
  obtain ⟨zM0, zM1, zM2, -, -, -⟩ := bM.three.cells
  go_wp2_with fail
  generalize hoM : wM.heap.size = oM at *
  generalize hwM : wM.alloc (.cells #[.int .i64 wd, .int .i64 hi, .slice (some ⟨qM, 0, none⟩) N cM] 26) = WM at *
  clear hoM hwM
  clear zM0 zM1 zM2
  refine (holesOf_q _ wd hi N qM cM ks HV.out mM).mono ?_
  rintro e wH ⟨rfl, bw⟩
  replace bM := bM.below bw
  replace mM := mM.below bw
  replace hbel := hbel.trans (bw.mono hbel.size)
  clear bw
  obtain ⟨zM0, zM1, zM2, -, -, -⟩ := bM.three.cells
  go_wp2_with fail
  have c4 : fq 2 4 = 1065353216 := by decide +kernel
  have c10 : fq 2 10 = 1075838976 := by decide +kernel
  have bw := alb1 wH (.cells #[.float .f32 1065353216, .float .f32 1075838976] 35)
  have hl : SlF (wH.alloc (.cells #[.float .f32 1065353216, .float .f32 1075838976] 35)) (.slice (some ⟨wH.heap.size, 0, none⟩) 2 2) [fq 2 4, fq 2 10] := by
    rw [c4, c10]
    have hbx := BoxN.last wH #[.float .f32 1065353216, .float .f32 1075838976] 35
    refine ⟨⟨some ⟨wH.heap.size, 0, none⟩, 2, rfl, by simp, by omega, .inr ⟨_, 0, rfl, hbx.lt, fun i hi => ?_⟩⟩, by decide⟩
    rw [Nat.zero_add, hbx.cell]
    match i, hi with
    | 0, _ => rfl
    | 1, _ => rfl
  clear zM0 zM1 zM2
  replace bM := bM.below bw
  replace mM := mM.below bw
  replace hbel := hbel.trans (bw.mono hbel.size)
  clear bw
  clear c4 c10
  have hbt := hl
  refine (countValues_q _ wd hi N qM cM _ 2 ks HV.out mM hl).mono ?_
  rintro e wC ⟨gC, cC, n0, n1, n2, rfl, oC, bw, k0, k1, k2, hsum⟩
  have HSUM := Lib.hid hsum
  have hn0 : n0 ≤ 30 := by omega
  have hn1 : n1 ≤ 30 := by omega
  have hn2 : n2 ≤ 30 := by omega
  clear hl hbt hsum
  replace bM := bM.below bw
  replace mM := mM.below bw
  replace hbel := hbel.trans (bw.mono hbel.size)
  clear bw
  obtain ⟨zM0, zM1, zM2, -, -, -⟩ := bM.three.cells
  go_wp2_with fail
  clear zM0 zM1 zM2
  refine (mirrorMap_q _ wd hi N qM cM ks HV.out mM).mono ?_
  rintro e wR ⟨qR, cR, rfl, mR, -, bw⟩
  have ha : Below wR.heap.size wR (wR.alloc (.cells #[.int .i64 wd, .int .i64 hi, .slice (some ⟨qR, 0, none⟩) N cR] 26)) := (Below.refl _ _).alloc (Nat.le_refl _) _
  have bR := BoxN.last wR #[.int .i64 wd, .int .i64 hi, .slice (some ⟨qR, 0, none⟩) N cR] 26
  replace mR := mR.below ha
  replace bM := (bM.below bw).below ha
  replace mM := (mM.below bw).below ha
  replace oC := (oC.below bw).below ha
  replace hbel := (hbel.trans (bw.mono hbel.size)).trans (ha.mono (Nat.le_trans hbel.size bw.size))
  clear bw ha
  obtain ⟨zR0, zR1, zR2, -, -, -⟩ := bR.three.cells
  go_wp2_with fail
  generalize hoR : wR.heap.size = oR at *
  generalize hwR : wR.alloc (.cells #[.int .i64 wd, .int .i64 hi, .slice (some ⟨qR, 0, none⟩) N cR] 26) = WR at *
  clear hoR hwR
  clear zR0 zR1 zR2
  refine (mirrorMap_q _ wd hi N qR cR _ HV.out mR).mono ?_
  rintro e wT ⟨qT, cT, rfl, mT, -, bw⟩
  have ha : Below wT.heap.size wT (wT.alloc (.cells #[.int .i64 wd, .int .i64 hi, .slice (some ⟨qT, 0, none⟩) N cT] 26)) := (Below.refl _ _).alloc (Nat.le_refl _) _
  have bT := BoxN.last wT #[.int .i64 wd, .int .i64 hi, .slice (some ⟨qT, 0, none⟩) N cT] 26
  replace mT := mT.below ha
  replace bM := (bM.below bw).below ha
  replace mM := (mM.below bw).below ha
  replace oC := (oC.below bw).below ha
  replace bR := (bR.below bw).below ha
  replace mR := (mR.below bw).below ha
  replace hbel := (hbel.trans (bw.mono hbel.size)).trans (ha.mono (Nat.le_trans hbel.size bw.size))
  clear bw ha
  clear bR mR
  obtain ⟨zM0, zM1, zM2, -, -, -⟩ := bM.three.cells
  go_wp2_with fail
  generalize hoT : wT.heap.size = oT at *
  generalize hwT : wT.alloc (.cells #[.int .i64 wd, .int .i64 hi, .slice (some ⟨qT, 0, none⟩) N cT] 26) = WT at *
  clear hoT hwT
  clear zM0 zM1 zM2
  refine (roundMap_q _ wd hi N qM cM ks HV.out mM (fun k h => by rcases HK.out k h with e | e <;> omega)).mono ?_
  rintro e wU ⟨qU, cU, rfl, mU, -, bw⟩
  have ha : Below wU.heap.size wU (wU.alloc (.cells #[.int .i64 wd, .int .i64 hi, .slice (some ⟨qU, 0, none⟩) N cU] 26)) := (Below.refl _ _).alloc (Nat.le_refl _) _
  have bU := BoxN.last wU #[.int .i64 wd, .int .i64 hi, .slice (some ⟨qU, 0, none⟩) N cU] 26
  replace mU := mU.below ha
  replace bM := (bM.below bw).below ha
  replace mM := (mM.below bw).below ha
  replace oC := (oC.below bw).below ha
  replace bT := (bT.below bw).below ha
  replace mT := (mT.below bw).below ha
  replace hbel := (hbel.trans (bw.mono hbel.size)).trans (ha.mono (Nat.le_trans hbel.size bw.size))
  clear bw ha
  obtain ⟨zM0, zM1, zM2, -, -, -⟩ := bM.three.cells
  go_wp2_with fail
  generalize hoU : wU.heap.size = oU at *
  generalize hwU : wU.alloc (.cells #[.int .i64 wd, .int .i64 hi, .slice (some ⟨qU, 0, none⟩) N cU] 26) = WU at *
  clear hoU hwU
  clear zM0 zM1 zM2
  refine (lessMaps_q _ wd hi N qM cM qM cM ks ks HV.out mM mM).mono ?_
  rintro e wZ ⟨qZ, cZ, rfl, mZ, -, bw⟩
  have ha : Below wZ.heap.size wZ (wZ.alloc (.cells #[.int .i64 wd, .int .i64 hi, .slice (some ⟨qZ, 0, none⟩) N cZ] 26)) := (Below.refl _ _).alloc (Nat.le_refl _) _
  have bZ := BoxN.last wZ #[.int .i64 wd, .int .i64 hi, .slice (some ⟨qZ, 0, none⟩) N cZ] 26
  replace mZ := mZ.below ha
  replace bM := (bM.below bw).below ha
  replace mM := (mM.below bw).below ha
  replace oC := (oC.below bw).below ha
  replace bT := (bT.below bw).below ha
  replace mT := (mT.below bw).below ha
  replace bU := (bU.below bw).below ha
  replace mU := (mU.below bw).below ha
  replace hbel := (hbel.trans (bw.mono hbel.size)).trans (ha.mono (Nat.le_trans hbel.size bw.size))
  clear bw ha
  obtain ⟨zM0, zM1, zM2, -, -, -⟩ := bM.three.cells
  obtain ⟨zT0, zT1, zT2, -, -, -⟩ := bT.three.cells
  go_wp2_with fail
  generalize hoZ : wZ.heap.size = oZ at *
  generalize hwZ : wZ.alloc (.cells #[.int .i64 wd, .int .i64 hi, .slice (some ⟨qZ, 0, none⟩) N cZ] 26) = WZ at *
  clear hoZ hwZ
  have KS := Lib.hid (sameMap_yes WZ.drew wd hi (some ⟨qT, 0, none⟩) (some ⟨qM, 0, none⟩) N N cT cM _ _ (mT.drewN 1).sl (mM.drewN 1).sl (by rw [mir_mir HV.out mM.len]))
  have o0 := oC.cellAt 0 (by simp)
  have o1 := oC.cellAt 1 (by simp)
  have o2 := oC.cellAt 2 (by simp)
  simp only [List.getD_cons_zero, List.getD_cons_succ] at o0 o1 o2
  have HOC := Lib.hid oC
  have HBM := Lib.hid bM
  have HBT := Lib.hid bT
  have hsum := HSUM.out
  have hsum2 : ((holesF ks : Nat) : Int) + n0 + n1 + n2 = N := by omega
  have hho : (holesF ks : Nat) ≤ 30 := by omega
  have hho2 : ((holesF ks : Nat) : Int) ≤ 30 := by omega
  have hho3 : 0 ≤ ((holesF ks : Nat) : Int) := by omega
  have hw1 : IntKind.i64.wrap (IntKind.i64.wrap (IntKind.i64.wrap (((holesF ks : Nat) : Int) + n0) + n1) + n2) = (N : Int) := by
    rw [IntWalk.i64_in (((holesF ks : Nat) : Int) + n0) (by omega), IntWalk.i64_in (((holesF ks : Nat) : Int) + n0 + n1) (by omega), IntWalk.i64_in (((holesF ks : Nat) : Int) + n0 + n1 + n2) (by omega)]; exact hsum2
  have hB0 : Below WZ.heap.size WZ WZ.drew := below_drewN (Below.refl _ _) 1
  go_region_held3 (fun w' => Below WZ.heap.size WZ w' ∧ w'.cell? ⟨oM, 0, none⟩ = some (.int .i64 wd) ∧ w'.cell? ⟨oM, 1, none⟩ = some (.int .i64 hi) ∧ w'.cell? ⟨oM, 2, none⟩ = some (.slice (some ⟨qM, 0, none⟩) N cM) ∧ w'.cell? ⟨oT, 0, none⟩ = some (.int .i64 wd) ∧ w'.cell? ⟨oT, 1, none⟩ = some (.int .i64 hi) ∧ w'.cell? ⟨oT, 2, none⟩ = some (.slice (some ⟨qT, 0, none⟩) N cT) ∧ w'.cell? ⟨gC, 0, none⟩ = some (.int .i64 n0) ∧ w'.cell? ⟨gC, 1, none⟩ = some (.int .i64 n1) ∧ w'.cell? ⟨gC, 2, none⟩ = some (.int .i64 n2))
    (first | exact ⟨bS, y0, y1, y2, t0, t1, t2, p0, p1, p2⟩ | go_keep)
    ((go_at_call 24; refine KS.out.mono ?_; rintro e wS ⟨rfl, bS⟩; have bS : Below WZ.heap.size WZ wS := ⟨bS.os, bS.tape, bS.output, bS.size, bS.block⟩; have p0 := (HOC.out.below bS).cellAt 0 (by simp); have p1 := (HOC.out.below bS).cellAt 1 (by simp); have p2 := (HOC.out.below bS).cellAt 2 (by simp); simp only [List.getD_cons_zero, List.getD_cons_succ] at p0 p1 p2; obtain ⟨y0, y1, y2, -, -, -⟩ := (HBM.out.below bS).three.cells; obtain ⟨t0, t1, t2, -, -, -⟩ := (HBT.out.below bS).three.cells))
  have HBS := Lib.hid bS
  clear p0 p1 p2 o0 o1 o2 y0 y1 y2 t0 t1 t2 hB0 KS hsum
  replace bM := bM.below bS
  replace mM := mM.below bS
  replace bU := bU.below bS
  replace mU := mU.below bS
  replace bZ := bZ.below bS
  replace mZ := mZ.below bS
  replace hbel := hbel.trans (bS.mono hbel.size)
  clear bS HBS HOC HBM HBT oC bT mT HSUM zM0 zM1 zM2 zT0 zT1 zT2
  obtain ⟨zM0, zM1, zM2, -, -, -⟩ := bM.three.cells
  obtain ⟨zU0, zU1, zU2, -, -, -⟩ := bU.three.cells
  obtain ⟨zZ0, zZ1, zZ2, -, -, -⟩ := bZ.three.cells
  have SM := Lib.hid mM
  have SU := Lib.hid mU
  have SZ := Lib.hid mZ
  have hcapM := mM.cap
  have hcapU := mU.cap
  have hcapZ := mZ.cap
  have HBEL := Lib.hid hbel
  have BM := Lib.hid bM
  have BU := Lib.hid bU
  have BZ := Lib.hid bZ
  clear mM mU mZ hbel bM bU bZ hn0 hn1 hn2 k0 k1 k2
  go_wp2_with fail
  clear hsum2 hho hho2 hho3 hw1
  go_loopw [124] (fun v124 wr => ∃ i : Nat, v124 = .int .i64 i ∧ i ≤ N ∧ Below wS.heap.size wS wr) (fun v124 _ => N - (intOf v124).toNat)
  case atStart => exact ⟨0, rfl, Nat.zero_le _, Below.refl _ _⟩
  case round =>
    obtain ⟨i, rfl, hi_, hbw⟩ := hrel
    clear zM0 zM1 zM2 zU0 zU1 zU2 zZ0 zZ1 zZ2
    by_cases hlt : i < N
    · have kM := (SM.out.below hbw).get i hlt
      have kU := (SU.out.below hbw).get i hlt
      have kZ := (SZ.out.below hbw).get i hlt
      obtain ⟨zM0, zM1, zM2, -, -, -⟩ := (BM.out.below hbw).three.cells
      obtain ⟨zU0, zU1, zU2, -, -, -⟩ := (BU.out.below hbw).three.cells
      obtain ⟨zZ0, zZ1, zZ2, -, -, -⟩ := (BZ.out.below hbw).three.cells
      have HBW := Lib.hid hbw
      clear hbw
      rw [tabI_get hlt] at kU kZ
      have hk0 : ks.getD i 0 = -4 ∨ 0 ≤ ks.getD i 0 ∧ ks.getD i 0 ≤ 19 := by
        rw [List.getD_eq_getElem?_getD, List.getElem?_eq_getElem (by rw [SM.out.len]; exact hlt)]; exact HK.out _ (List.getElem_mem _)
      have eU : rndF ks i = 4 * min (plq (ks.getD i 0)) 25 := rfl
      have eZ : lesF ks ks i = if ks.getD i 0 < 0 ∨ ks.getD i 0 < 0 then -4 else ks.getD i 0 - ks.getD i 0 := rfl
      rw [eU] at kU
      rw [eZ] at kZ
      have hi2 : (i : Int) < (N : Int) := by omega
      generalize ks.getD i 0 = k at *
      have hd0 : ∀ W : World, W.drewN 0 = W := fun _ => rfl
      have e0 : eq32 0 0 = true := by decide
      have e1 : eq32 3212836864 3212836864 = true := by decide
      have l1 := le0_fq (k := k) (by omega)
      clear eU eZ hlt
      have HKI := Lib.hid hi_
      rcases hk0 with rfl | ⟨g1, g2⟩
      · as_aux_lemma =>
        have ep : 4 * min (plq (-4)) 25 = -4 := by decide
        have ec : fq 2 (-4) = 3212836864 := by decide +kernel
        have el : le32 0 3212836864 = false := by decide
        rw [ep, ec] at kU
        rw [ec] at kM
        simp only [show ((-4 : Int) < 0 ∨ (-4 : Int) < 0) = True from by simp, if_true, ec] at kZ
        clear l1 ep ec hi_
        go_wp2_with fail
        refine (lHole_any _ _).mono ?_
        rw [el]
        rintro e w' ⟨rfl, rfl⟩
        go_wp2_with fail
        go_quiet ((first | with_reducible exact quiet_lHole el _))
        go_wp2
        go_roundw
        case rel => exact ⟨i + 1, by go_num, by have := HKI.out; omega, below_drewN HBW.out _⟩
        case measure => simp [intOf]; omega
      · as_aux_lemma =>
        have hnot : ¬ (k < 0 ∨ k < 0) := by omega
        rw [if_neg hnot, Int.sub_self, fq_zero] at kZ
        have hR : 0 ≤ 4 * min (plq k) 25 ∧ 4 * min (plq k) 25 ≤ 100 ∧ (4 * min (plq k) 25 - k).natAbs ≤ 2 := by
          unfold plq
          split
          · omega
          · split
            · omega
            · split
              · omega
              · split <;> omega
        generalize 4 * min (plq k) 25 = R at *
        obtain ⟨hR1, hR2, hR3⟩ := hR
        have l2 := le0_fq (k := R) (by omega)
        have t3 := fq_sub (g := 2) (a := R) (b := k) (by omega) (by omega) (by omega)
        have t4 := fres_some t3
        have t5 := fdr_some t3
        have t6 : ∃ z, (∀ W : World, Calls Try.prog 18 #[.float .f32 (fq 2 (R - k))] W fun e w' => e = .returned (.float .f32 z) ∧ W = w') ∧ lt32 1056964608 z = false := by
          refine ⟨fq 2 ((R - k).natAbs : Nat), fun W => lSize_q (R - k) W (by omega), ?_⟩
          have ec : fq 2 2 = 1056964608 := by decide +kernel
          rw [← ec, lt32_fq (by decide) (by omega)]
          simp; omega
        obtain ⟨z, KZ, l3⟩ := t6
        simp only [g1, hR1, decide_true] at l1 l2
        have KZ := Lib.hid KZ
        clear t3 hR3 g2 hnot hi_
        generalize fq 2 (R - k) = vs at *
        generalize fq 2 R = vr at *
        generalize fq 2 k = vk at *
        go_wp2_with fail
        refine (lHole_any _ _).mono ?_
        rw [l1]
        rintro e w' ⟨rfl, rfl⟩
        go_wp2_with fail
        go_quiet ((first | with_reducible exact quiet_lHole l2 _ | with_reducible exact quiet_same (KZ.out _)))
        go_wp2
        go_roundw
        case rel => exact ⟨i + 1, by go_num, by have := HKI.out; omega, below_drewN HBW.out _⟩
        case measure => simp [intOf]; omega
    · obtain rfl : N = i := by omega
      obtain ⟨s1, s2, s3, s4, s5, s6, s7, s8, s9⟩ := stats_full ks
      have hklen := SM.out.len
      have mM := SM.out.below hbw
      have bM := BM.out.below hbw
      have hbel := HBEL.out.trans (hbw.mono HBEL.out.size)
      have S3 := Lib.hid s3
      have S9 := Lib.hid s9
      rw [hklen] at s1
      have S1 := Lib.hid s1
      have S2 := Lib.hid s2
      have S6 := Lib.hid s6
      clear s1 s2 s6 SU SZ BU BZ SM BM HBEL hbw hlt hi_ s3 s9 hcapU hcapZ
      obtain ⟨zM0, zM1, zM2, -, -, -⟩ := bM.three.cells
      have S4 := Lib.hid s4
      have S5 := Lib.hid s5
      have hmb := mn_bd ks mM.bd (0, 0) (by decide) (by decide)
      have HMB := Lib.hid hmb
      have hrb := rgF_bd (B := 1000) ks mM.bd (0, 0, false) (by decide) (by decide)
      have HRB := Lib.hid hrb
      clear s4 s5 hmb hrb
      go_wp2_with fail
      clear zM0 zM1 zM2
      refine (rangeOfMap_q _ wd hi N qM cM ks HV.out mM).mono ?_
      rintro e wA ⟨rfl, bw⟩
      replace bM := bM.below bw
      replace mM := mM.below bw
      replace hbel := hbel.trans (bw.mono hbel.size)
      clear bw
      obtain ⟨zM0, zM1, zM2, -, -, -⟩ := bM.three.cells
      go_wp2_with fail
      clear zM0 zM1 zM2
      refine (meanOfMap_q _ wd hi N qM cM ks HV.out mM).mono ?_
      rintro e wB ⟨bw, ⟨hm0, rfl⟩ | ⟨hm1, r, hr, rfl⟩⟩
      · replace bM := bM.below bw
        replace hbel := hbel.trans (bw.mono hbel.size)
        clear bw
        obtain ⟨zM0, zM1, zM2, -, -, -⟩ := bM.three.cells
        have h7 : (rgF ks).2.2 = false := by rw [S2.out, hm0]; rfl
        have h8 : ¬ ((holesF ks : Nat) : Int) < (N : Int) := by have := S1.out; omega
        rw [h7]
        clear hm0 h7 mM
        go_wp2
        go_ret
        exact ⟨rfl, hbel⟩
      · replace bM := bM.below bw
        replace mM := mM.below bw
        replace hbel := hbel.trans (bw.mono hbel.size)
        clear bw
        obtain ⟨zM0, zM1, zM2, -, -, -⟩ := bM.three.cells
        have h7 : (rgF ks).2.2 = true := by rw [S2.out]; simpa using hm1
        have h8 : ((holesF ks : Nat) : Int) < (N : Int) := by have := S1.out; omega
        have b0 := S1.out
        obtain ⟨b1, b2, b3⟩ := HMB.out
        obtain ⟨b4, b5⟩ := HRB.out
        have b1 : 0 ≤ (mnF ks).1 := b1
        have b2 : (mnF ks).1 ≤ 1000 * ((mnF ks).2 : Int) := b2
        have b4 : (rgF ks).1.natAbs ≤ 1000 := b4
        have b5 : (rgF ks).2.1.natAbs ≤ 1000 := b5
        obtain ⟨r', hr', f1', f2', f3', f4'⟩ := quo_q (s := (mnF ks).1) (m := ((mnF ks).2 : Nat)) (lo := (rgF ks).1) (hi := (rgF ks).2.1) b1 (by omega) (by omega) (by omega) (by omega) (by omega) S4.out S5.out
        obtain rfl : r = r' := by rw [hr] at hr'; injection hr'
        obtain ⟨t1, u1, u2, u3⟩ := sub_milli (k := (rgF ks).1) (by omega)
        obtain ⟨t2, u4, u5, u6⟩ := add_milli (k := (rgF ks).2.1) (by omega)
        have c1 : le32 t1 r = true := by rw [le32_vv u2 f1']; simp; omega
        have c2 : le32 r t2 = true := by rw [le32_vv f1' u5]; simp; omega
        have HD := Lib.hid mM
        have HLT : ∀ i, i < N → 0 ≤ ks.getD i 0 → lt32 (fq 2 (ks.getD i 0)) (fq 2 (rgF ks).1) = false ∧ lt32 (fq 2 (rgF ks).2.1) (fq 2 (ks.getD i 0)) = false := by
          intro i hi hn
          obtain ⟨q1, q2, q3⟩ := S3.out i (by rw [hklen]; exact hi) (by omega)
          have := mM.kb i
          rw [lt32_fq (by omega) (by omega), lt32_fq (by omega) (by omega)]
          simp only [decide_eq_false_iff_not]
          exact ⟨by omega, by omega⟩
        have HLT := Lib.hid HLT
        have hcap := mM.cap
        rw [h7]
        have ar1 := fres_some u1
        have af1 := fdr_some u1
        have ar2 := fres_some u4
        have af2 := fdr_some u4
        have hd0 : ∀ W : World, W.drewN 0 = W := fun _ => rfl
        clear b0 h7 mM hr hr' b1 b2 b3 b4 b5 f1' f2' f3' f4' u1 u2 u3 u4 u5 u6 hm1 s7 s8 S4 S5 HMB HRB hklen
        generalize fq 2 (rgF ks).1 = LO at *
        generalize fq 2 (rgF ks).2.1 = HI at *
        go_wp2_with fail
        go_loop [212] (fun v212 => ∃ i : Nat, v212 = .int .i64 i ∧ i ≤ N) (fun v212 => N - (intOf v212).toNat)
        case atStart => exact ⟨0, rfl, Nat.zero_le _⟩
        case round =>
          obtain ⟨i, rfl, hi_⟩ := hrel
          by_cases hlt : i < N
          · have kM := HD.out.get i hlt
            have hkb := HD.out.kb i
            have l1 := le0_fq (k := ks.getD i 0) (by omega)
            have hl := HLT.out i hlt
            generalize ks.getD i 0 = k at *
            have hi2 : (i : Int) < (N : Int) := by omega
            by_cases hk : k < 0
            · have hk2 : ¬ 0 ≤ k := by omega
              simp only [hk2, decide_false] at l1
              generalize fq 2 k = x at *
              clear hk hk2 hkb hl ar1 ar2 af1 af2 c1 c2
              go_wp2_with fail
              refine (lHole_any _ _).mono ?_
              rw [l1]
              rintro e w' ⟨rfl, rfl⟩
              go_wp2
              go_round
              case rel => exact ⟨i + 1, by go_num, by omega⟩
              case measure => simp [intOf]; omega
            · have hk2 : 0 ≤ k := by omega
              obtain ⟨m1, m2⟩ := hl hk2
              simp only [hk2, decide_true] at l1
              generalize fq 2 k = x at *
              clear hk hk2 hkb hl ar1 ar2 af1 af2 c1 c2
              go_wp2_with fail
              refine (lHole_any _ _).mono ?_
              rw [l1]
              rintro e w' ⟨rfl, rfl⟩
              go_wp2
              go_round
              case rel => exact ⟨i + 1, by go_num, by omega⟩
              case measure => simp [intOf]; omega
          · obtain rfl : N = i := by omega
            clear HD HLT
            go_wp2
            go_ret
            exact ⟨rfl, hbel⟩

theorem fnCounted_walk (w : World) (a0 a1 : Option Addr) (l0 c0 l1 c1 : Nat) (z0 z1 : List Int)
    (r0 : (a0 = none ∧ l0 = 0 ∧ c0 = 0 ∧ z0 = []) ∨ ∃ x, a0 = some x ∧ l0 ≤ c0 ∧ c0 ≤ maxLen ∧ z0.length = c0 ∧ (∀ i, i < z0.length → w.cell? (x.add i) = some (.int .u8 (z0.getD i 0))) ∧ ∀ n ∈ z0, (Lit.int .u8 n).wf = true)
    (r1 : (a1 = none ∧ l1 = 0 ∧ c1 = 0 ∧ z1 = []) ∨ ∃ x, a1 = some x ∧ l1 ≤ c1 ∧ c1 ≤ maxLen ∧ z1.length = c1 ∧ (∀ i, i < z1.length → w.cell? (x.add i) = some (.int .u8 (z1.getD i 0))) ∧ ∀ n ∈ z1, (Lit.int .u8 n).wf = true) :
    Calls Try.prog 5 #[.slice a0 l0 c0, .slice a1 l1 c1] w fun e w' => e = .returned (.bool true) ∧ Below w.heap.size w w' := by
  by_cases h : l0 ≤ 1048576 ∧ l1 ≤ 1048576
  · exact fnCounted_short w a0 a1 l0 c0 l1 c1 h.1 h.2 (bytesIn_of_row r0 (by omega)) (bytesIn_of_row r1 (by omega))
  · exact fnCounted_long w a0 a1 l0 c0 l1 c1 (len_of_row r0) (len_of_row r1) h

end Go.Proofs.Yticbgeknledpcaa
