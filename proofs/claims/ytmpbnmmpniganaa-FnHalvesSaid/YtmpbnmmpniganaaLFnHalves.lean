/- The law of halves: the walk of its code. No condition. -/
import Derived.Test.YtmpbnmmpniganaaKf
import Derived.Test.YtmpbnmmpniganaaKi
import Derived.Test.YtmpbnmmpniganaaMv
import Derived.Test.YtmpbnmmpniganaaLaw
import Derived.Deep.RegionHeld3
import Derived.StillTactics
import Derived.Deep.CutRange
import Derived.Deep.LoopGhost
namespace Go.Proofs.Ytmpbnmmpniganaa
open Go.RowKit
set_option maxRecDepth 100000
set_option linter.unusedVariables false
set_option linter.unusedSimpArgs false

theorem fnHalves_long (w : World) (a0 a1 : Option Addr) (l0 c0 l1 c1 : Nat) (m0 : l0 ≤ 9223372036854775807) (m1 : l1 ≤ 9223372036854775807) (h : ¬ (l0 ≤ 1048576 ∧ l1 ≤ 1048576)) :
    Calls Try.prog 3 #[.slice a0 l0 c0, .slice a1 l1 c1] w fun e w' => e = .returned (.bool true) ∧ Below w.heap.size w w' := by
  go_enter Try.func3, Try.ntmps3
  go_wp2_with fail
  refine (b10Long_yes _ _ _ _ _ _ _ m0 m1 h).mono ?_
  rintro e w' ⟨rfl, rfl⟩
  go_wp2
  go_ret
  exact ⟨rfl, Below.refl _ _⟩

theorem quiet_lHoleT {b : Nat} (h : le32 0 b = true) {w : World} (n : Nat) : Calls Try.prog 14 #[.float .f32 b] (w.drewN n) fun e w'' => e = .returned (.bool false) ∧ ∃ m, w'' = w.drewN m := by
  refine quiet_same ((lHole_any b (w.drewN n)).mono ?_)
  rintro e w' ⟨rfl, rfl⟩
  rw [h]; exact ⟨rfl, rfl⟩
theorem quiet_lHoleF {b : Nat} (h : le32 0 b = false) {w : World} (n : Nat) : Calls Try.prog 14 #[.float .f32 b] (w.drewN n) fun e w'' => e = .returned (.bool true) ∧ ∃ m, w'' = w.drewN m := by
  refine quiet_same ((lHole_any b (w.drewN n)).mono ?_)
  rintro e w' ⟨rfl, rfl⟩
  rw [h]; exact ⟨rfl, rfl⟩
@[go_sem] theorem conv32_i64h (b : Nat) (n : Int) (w : World) (h : floatToIntVal .f32 b .i64 = some n) : (convert 33 2 (.float .f32 b)).run Try.prog w = .ok (.int .i64 n) w := run_convert_float_int w _ _ _ _ _ _ (by rfl) (by rfl) h
theorem int_of_four (D : Nat) (h : D < 8) : floatToIntVal .f32 (fq 2 (4 * (D : Int))) .i64 = some (D : Int) := by
  have t : ∀ i : Fin 8, floatToIntVal .f32 (fq 2 (4 * (i.val : Int))) .i64 = some (i.val : Int) := by decide +kernel
  exact t ⟨D, h⟩
theorem quarters_id {ks : List Int} {N : Nat} (hl : ks.length = N) (hk : ∀ k ∈ ks, k = -4 ∨ 0 ≤ k ∧ k ≤ 19) : tabI N (fun i => if ks.getD i 0 < 0 then -4 else ks.getD i 0) = ks := by
  refine Eq.trans ?_ (tabI_ext hl)
  unfold tabI
  apply List.map_congr_left
  intro i hi_
  have hm : ks.getD i 0 ∈ ks := by rw [List.getD_eq_getElem?_getD, List.getElem?_eq_getElem (by rw [hl]; exact List.mem_range.1 hi_)]; exact List.getElem_mem _
  rcases hk _ hm with e | e
  · rw [e]; rfl
  · rw [if_neg (by omega)]
theorem quarters_at {ks : List Int} {N i : Nat} (hl : ks.length = N) (hk : ∀ k ∈ ks, k = -4 ∨ 0 ≤ k ∧ k ≤ 19) (hi_ : i < N) : ks.getD i 0 = -4 ∨ 0 ≤ ks.getD i 0 ∧ ks.getD i 0 ≤ 19 := by
  have hm : ks.getD i 0 ∈ ks := by rw [List.getD_eq_getElem?_getD, List.getElem?_eq_getElem (by rw [hl]; exact hi_)]; exact List.getElem_mem _
  exact hk _ hm
theorem quarters_bd {ks : List Int} (hk : ∀ k ∈ ks, k = -4 ∨ 0 ≤ k ∧ k ≤ 19) : ∀ i, (ks.getD i 0).natAbs ≤ 400 := fun i => by
  rw [List.getD_eq_getElem?_getD]
  cases e : ks[i]? with
  | none => decide
  | some z => rcases hk z (List.mem_of_getElem? e) with h | h <;> simp only [Option.getD_some] <;> omega
theorem dbl_at {ks : List Int} {wd hi W2 N2 x y : Nat} (hW : W2 = 2 * wd) (hN2 : N2 = W2 * (2 * hi)) (hx : x < wd) (hy : y < hi) : (tabI N2 (dblF ks wd hi W2)).getD (2 * x + W2 * (2 * y)) 0 = if ks.getD (x + wd * y) 0 < 0 then -4 else 2 * ks.getD (x + wd * y) 0 := by
  have h1 : 2 * x < W2 := by omega
  rw [tabI_get (by rw [hN2]; exact xy_lt h1 (by omega))]
  unfold dblF
  rw [xy_mod h1, xy_div h1, show 2 * x / 2 = x by omega, show 2 * y / 2 = y by omega, cl_nat hx, cl_nat hy]

theorem half_end {WS wC : World} {b qc cc A B NA dp2 : Nat} {ksc : List Int} (bx : BoxN wC b #[.int .i64 0, .int .i64 0, .slice none 0 0] 27) (mc : MQ wC qc cc NA ksc) (hwc : WholeM dp2 ksc NA) (hb : Below WS.heap.size WS wC) (hne : b ≠ qc) (h1 : WS.heap.size ≤ b) :
    ∃ (ob q' c' : Nat) (ks' : List Int), Value.pointer (some ⟨b, 0, none⟩) = .pointer (some ⟨ob, 0, none⟩) ∧ Value.bool true = .bool true ∧ Box3 (((wC.setCell ⟨b, 0, none⟩ (.int .i64 A)).setCell ⟨b, 1, none⟩ (.int .i64 B)).setCell ⟨b, 2, none⟩ (.slice (some ⟨qc, 0, none⟩) NA cc)) ob (.int .i64 A) (.int .i64 B) (.slice (some ⟨q', 0, none⟩) NA c') 27 ∧ MQ (((wC.setCell ⟨b, 0, none⟩ (.int .i64 A)).setCell ⟨b, 1, none⟩ (.int .i64 B)).setCell ⟨b, 2, none⟩ (.slice (some ⟨qc, 0, none⟩) NA cc)) q' c' NA ks' ∧ WholeM dp2 ks' NA ∧ Below WS.heap.size WS (((wC.setCell ⟨b, 0, none⟩ (.int .i64 A)).setCell ⟨b, 1, none⟩ (.int .i64 B)).setCell ⟨b, 2, none⟩ (.slice (some ⟨qc, 0, none⟩) NA cc)) := by
  refine ⟨b, qc, cc, ksc, rfl, rfl, ?_, ((mc.set hne _).set hne _).set hne _, hwc, below4k hb h1⟩
  have := (((bx.set 0 (.int .i64 A)).set 1 (.int .i64 B)).set 2 (.slice (some ⟨qc, 0, none⟩) NA cc)).three
  simpa using this

set_option maxHeartbeats 40000000 in
theorem fnHalves_short (w : World) (a0 a1 : Option Addr) (l0 c0 l1 c1 : Nat) (h0 : l0 ≤ 1048576) (h1 : l1 ≤ 1048576) (hb0 : BytesIn w a0 l0) (hb1 : BytesIn w a1 l1) :
    Calls Try.prog 3 #[.slice a0 l0 c0, .slice a1 l1 c1] w fun e w' => e = .returned (.bool true) ∧ Below w.heap.size w w' := by
  go_enter Try.func3, Try.ntmps3
  go_wp2_with fail
  refine (b10Long_no _ _ _ _ _ _ _ h0 h1).mono ?_
  rintro e w' ⟨rfl, rfl⟩
  go_wp2_with fail
  refine (b10At_any _ _ _ _ 0 5 (by omega) (by omega) (by omega) hb1).mono ?_
  rintro e w' ⟨x, rfl, x0, x1, rfl⟩
  go_wp2_with fail
  refine (b10At_any _ _ _ _ 1 4 (by omega) (by omega) (by omega) hb1).mono ?_
  rintro e w' ⟨y, rfl, y0, y1, rfl⟩
  obtain ⟨wd, hwd⟩ : ∃ n : Nat, (1 : Int) + x = n := ⟨(1 + x).toNat, by omega⟩
  obtain ⟨hi, hhi⟩ : ∃ n : Nat, (1 : Int) + y = n := ⟨(1 + y).toNat, by omega⟩
  have HWD := Lib.hid hwd
  have HHI := Lib.hid hhi
  have v1 : 1 ≤ wd := by omega
  have v2 : wd ≤ 5 := by omega
  have v3 : 1 ≤ hi := by omega
  have v4 : hi ≤ 4 := by omega
  have hwh := Nat.mul_le_mul v2 v4
  clear hwd hhi
  go_wp2_with fail
  rw [HWD.out, HHI.out]
  refine (b10Quarters_any _ _ _ _ wd hi hb0 v1 (by omega) v3 (by omega) (by omega)).mono ?_
  rintro e wM ⟨qM, cM, ks, rfl, mM, -, hk, bw⟩
  clear x0 x1 y0 y1
  obtain ⟨N, hN⟩ : ∃ N, N = wd * hi := ⟨_, rfl⟩
  rw [← hN] at mM ⊢
  have hv : vPic wd hi N = true := by rw [hN]; exact vPic_of v1 (by omega) v3 (by omega) (by omega)
  obtain ⟨W2, hW2⟩ : ∃ n : Nat, n = 2 * wd := ⟨_, rfl⟩
  obtain ⟨H2, hH2⟩ : ∃ n : Nat, n = 2 * hi := ⟨_, rfl⟩
  obtain ⟨N2, hN2⟩ : ∃ n : Nat, n = W2 * H2 := ⟨_, rfl⟩
  have hle2 : W2 * H2 ≤ 10 * 8 := Nat.mul_le_mul (by omega) (by omega)
  have hv2 : vPic W2 H2 N2 = true := by rw [hN2]; exact vPic_of (by omega) (by omega) (by omega) (by omega) (by omega)
  have HV := Lib.hid hv
  have HV2 := Lib.hid hv2
  have HN := Lib.hid hN
  have HW2 := Lib.hid (And.intro hW2 (And.intro hH2 hN2))
  have W2I : (2 : Int) * (wd : Int) = (W2 : Int) := by omega
  have H2I : (2 : Int) * (hi : Int) = (H2 : Int) := by omega
  have HWI := Lib.hid (And.intro W2I H2I)
  have hN1 : N ≤ 20 := by omega
  have hN0 : 1 ≤ N := by rw [hN]; exact Nat.mul_pos v1 v3
  have HK := Lib.hid hk
  have HLK := Lib.hid mM.len
  have wdI : (wd : Int) ≤ 5 := by omega
  have hiI : (hi : Int) ≤ 4 := by omega
  have hid1 : wd = (W2 + 1) / 2 := by omega
  have hid2 : hi = (H2 + 1) / 2 := by omega
  have HID := Lib.hid (And.intro hid1 hid2)
  clear hv hv2 hN hk hwh hW2 hH2 hN2 hle2 W2I H2I hid1 hid2
  have hbel := bw
  replace hb1 := hb1.below bw
  replace hb0 := hb0.below bw
  have ha : Below wM.heap.size wM (wM.alloc (.cells #[.int .i64 wd, .int .i64 hi, .slice (some ⟨qM, 0, none⟩) N cM] 27)) := (Below.refl _ _).alloc (Nat.le_refl _) _
  have bM := BoxN.last wM #[.int .i64 wd, .int .i64 hi, .slice (some ⟨qM, 0, none⟩) N cM] 27
  replace mM := mM.below ha
  replace hb1 := hb1.below ha
  replace hb0 := hb0.below ha
  replace hbel := hbel.trans (ha.mono hbel.size)
  clear bw ha
  obtain ⟨zM0, zM1, zM2, -, -, -⟩ := bM.three.cells
  go_wp2_with fail
  generalize hoM : wM.heap.size = oM at *
  generalize hwM : wM.alloc (.cells #[.int .i64 wd, .int .i64 hi, .slice (some ⟨qM, 0, none⟩) N cM] 27) = WM at *
  clear hoM hwM
  clear zM0 zM1 zM2
  rw [HWI.out.1, HWI.out.2]
  refine (doubleMap_q _ wd hi N qM cM W2 H2 N2 ks HV.out HV2.out mM (quarters_bd HK.out)).mono ?_
  rintro e wD ⟨qD, cD, rfl, mD, -, bw⟩
  have ha : Below wD.heap.size wD (wD.alloc (.cells #[.int .i64 W2, .int .i64 H2, .slice (some ⟨qD, 0, none⟩) N2 cD] 27)) := (Below.refl _ _).alloc (Nat.le_refl _) _
  have bD := BoxN.last wD #[.int .i64 W2, .int .i64 H2, .slice (some ⟨qD, 0, none⟩) N2 cD] 27
  replace mD := mD.below ha
  replace bM := (bM.below bw).below ha
  replace mM := (mM.below bw).below ha
  replace hb0 := (hb0.below bw).below ha
  replace hb1 := (hb1.below bw).below ha
  replace hbel := (hbel.trans (bw.mono hbel.size)).trans (ha.mono (Nat.le_trans hbel.size bw.size))
  clear bw ha
  obtain ⟨zD0, zD1, zD2, -, -, -⟩ := bD.three.cells
  go_wp2_with fail
  generalize hoD : wD.heap.size = oD at *
  generalize hwD : wD.alloc (.cells #[.int .i64 W2, .int .i64 H2, .slice (some ⟨qD, 0, none⟩) N2 cD] 27) = WD at *
  clear hoD hwD
  clear zD0 zD1 zD2
  refine (halveMap_q _ W2 H2 N2 qD cD wd hi N _ (fun i => ks.getD i 0) HV2.out HV.out HID.out.1 HID.out.2 mD (fun x y hx hy => dbl_at HW2.out.1 (by rw [HW2.out.2.2, HW2.out.2.1]) hx hy) (quarters_bd HK.out)).mono ?_
  rintro e wH ⟨qH, cH, rfl, mH, -, bw⟩
  rw [quarters_id HLK.out HK.out] at mH
  have ha : Below wH.heap.size wH (wH.alloc (.cells #[.int .i64 wd, .int .i64 hi, .slice (some ⟨qH, 0, none⟩) N cH] 27)) := (Below.refl _ _).alloc (Nat.le_refl _) _
  have bH := BoxN.last wH #[.int .i64 wd, .int .i64 hi, .slice (some ⟨qH, 0, none⟩) N cH] 27
  replace mH := mH.below ha
  replace bM := (bM.below bw).below ha
  replace mM := (mM.below bw).below ha
  replace hb0 := (hb0.below bw).below ha
  replace hb1 := (hb1.below bw).below ha
  replace bD := (bD.below bw).below ha
  replace mD := (mD.below bw).below ha
  replace hbel := (hbel.trans (bw.mono hbel.size)).trans (ha.mono (Nat.le_trans hbel.size bw.size))
  clear bw ha
  clear bD mD
  go_wp2_with fail
  generalize hoH : wH.heap.size = oH at *
  generalize hwH : wH.alloc (.cells #[.int .i64 wd, .int .i64 hi, .slice (some ⟨qH, 0, none⟩) N cH] 27) = WH at *
  clear hoH hwH
  skip
  refine (b10Quarters_any _ _ _ _ wd hi hb1 v1 (by omega) v3 (by omega) (by rw [← HN.out]; omega)).mono ?_
  rintro e wS ⟨qS, cS, js, rfl, mS, -, hj, bw⟩
  rw [← HN.out] at mS ⊢
  have HJ := Lib.hid hj
  have HLJ := Lib.hid mS.len
  clear hj
  have ha : Below wS.heap.size wS (wS.alloc (.cells #[.int .i64 wd, .int .i64 hi, .slice (some ⟨qS, 0, none⟩) N cS] 27)) := (Below.refl _ _).alloc (Nat.le_refl _) _
  have bS := BoxN.last wS #[.int .i64 wd, .int .i64 hi, .slice (some ⟨qS, 0, none⟩) N cS] 27
  replace mS := mS.below ha
  replace bM := (bM.below bw).below ha
  replace mM := (mM.below bw).below ha
  replace hb0 := (hb0.below bw).below ha
  replace hb1 := (hb1.below bw).below ha
  replace bH := (bH.below bw).below ha
  replace mH := (mH.below bw).below ha
  replace hbel := (hbel.trans (bw.mono hbel.size)).trans (ha.mono (Nat.le_trans hbel.size bw.size))
  clear bw ha
  have c4 : Hid (1065353216 = fq 2 4) := by show 1065353216 = fq 2 4; decide +kernel
  obtain ⟨zM0, zM1, zM2, -, -, -⟩ := bM.three.cells
  obtain ⟨zS0, zS1, zS2, -, -, -⟩ := bS.three.cells
  go_wp2_with fail
  generalize hoS : wS.heap.size = oS at *
  generalize hwS : wS.alloc (.cells #[.int .i64 wd, .int .i64 hi, .slice (some ⟨qS, 0, none⟩) N cS] 27) = WS at *
  clear hoS hwS
  clear zM0 zM1 zM2 zS0 zS1 zS2
  refine (keepMap_q _ wd hi N qM cM qS cS 1065353216 ks js HV.out mM mS 4 (by decide) c4).mono ?_
  rintro e wK ⟨qK, cK, rfl, mK, -, bw⟩
  have ha : Below wK.heap.size wK (wK.alloc (.cells #[.int .i64 wd, .int .i64 hi, .slice (some ⟨qK, 0, none⟩) N cK] 27)) := (Below.refl _ _).alloc (Nat.le_refl _) _
  have bK := BoxN.last wK #[.int .i64 wd, .int .i64 hi, .slice (some ⟨qK, 0, none⟩) N cK] 27
  replace mK := mK.below ha
  replace bM := (bM.below bw).below ha
  replace mM := (mM.below bw).below ha
  replace hb0 := (hb0.below bw).below ha
  replace hb1 := (hb1.below bw).below ha
  replace bH := (bH.below bw).below ha
  replace mH := (mH.below bw).below ha
  replace bS := (bS.below bw).below ha
  replace mS := (mS.below bw).below ha
  replace hbel := (hbel.trans (bw.mono hbel.size)).trans (ha.mono (Nat.le_trans hbel.size bw.size))
  clear bw ha
  obtain ⟨zM0, zM1, zM2, -, -, -⟩ := bM.three.cells
  obtain ⟨zH0, zH1, zH2, -, -, -⟩ := bH.three.cells
  go_wp2_with fail
  generalize hoK : wK.heap.size = oK at *
  generalize hwK : wK.alloc (.cells #[.int .i64 wd, .int .i64 hi, .slice (some ⟨qK, 0, none⟩) N cK] 27) = WK at *
  clear hoK hwK
  clear zM0 zM1 zM2 zH0 zH1 zH2
  refine (sameMap_yes _ wd hi (some ⟨qH, 0, none⟩) (some ⟨qM, 0, none⟩) N N cH cM _ _ mH.sl mM.sl rfl).mono ?_
  rintro e wZ ⟨rfl, bw⟩
  replace bM := bM.below bw
  replace mM := mM.below bw
  replace hb0 := hb0.below bw
  replace hb1 := hb1.below bw
  replace bH := bH.below bw
  replace mH := mH.below bw
  replace bS := bS.below bw
  replace mS := mS.below bw
  replace bK := bK.below bw
  replace mK := mK.below bw
  replace hbel := hbel.trans (bw.mono hbel.size)
  clear bw
  clear bH mH
  have SM := Lib.hid mM
  have SS := Lib.hid mS
  have SK := Lib.hid mK
  have BM := Lib.hid bM
  have BS := Lib.hid bS
  have BK := Lib.hid bK
  have HBEL := Lib.hid hbel
  have HB0 := Lib.hid hb0
  have HB1 := Lib.hid hb1
  have hcapM := mM.cap
  have hcapS := mS.cap
  have hcapK := mK.cap
  obtain ⟨zM0, zM1, zM2, -, -, -⟩ := bM.three.cells
  clear mM mS mK bM bS bK hbel hb0 hb1
  go_wp2_with fail
  clear zM0 zM1 zM2
  go_loopw [79] (fun v79 wr => ∃ i : Nat, v79 = .int .i64 i ∧ i ≤ N ∧ Below wZ.heap.size wZ wr) (fun v79 _ => N - (intOf v79).toNat)
  case atStart => exact ⟨0, rfl, Nat.zero_le _, Below.refl _ _⟩
  case round =>
    obtain ⟨i, rfl, hi_, hbw⟩ := hrel
    have HBW := Lib.hid hbw
    by_cases hlt : i < N
    · have kM := (SM.out.below hbw).get i hlt
      have kS := (SS.out.below hbw).get i hlt
      have kK := (SK.out.below hbw).get i hlt
      rw [tabI_get hlt] at kK
      have kq := quarters_at HLK.out HK.out hlt
      have jq := quarters_at HLJ.out HJ.out hlt
      have hF : keepF ks js 4 i = if 0 ≤ ks.getD i 0 ∧ ¬ 4 ≤ js.getD i 0 then -4 else ks.getD i 0 := rfl
      rw [hF] at kK
      obtain ⟨zM0, zM1, zM2, -, -, -⟩ := (BM.out.below hbw).three.cells
      obtain ⟨zS0, zS1, zS2, -, -, -⟩ := (BS.out.below hbw).three.cells
      obtain ⟨zK0, zK1, zK2, -, -, -⟩ := (BK.out.below hbw).three.cells
      have hi2 : (i : Int) < (N : Int) := by omega
      clear hbw hF
      generalize ks.getD i 0 = k at *
      generalize js.getD i 0 = j at *
      have l1 := le0_fq (k := k) (by omega)
      have l2 := le32_fq (g := 2) (a := 4) (b := j) (by decide) (by omega)
      rw [← c4.out] at l2
      have e1 := eq32_fq (g := 2) (a := k) (b := k) (by omega) (by omega)
      rw [decide_eq_true rfl] at e1
      have e2 := eq32_fq (g := 2) (a := -4) (b := k) (by decide) (by omega)
      have cm : fq 2 (-4) = 3212836864 := by decide +kernel
      by_cases hk0 : 0 ≤ k
      · by_cases hj4 : 4 ≤ j
        · rw [if_neg (fun h => h.2 hj4)] at kK
          rw [decide_eq_true hk0] at l1
          rw [decide_eq_true hj4] at l2
          have HL1 := Lib.hid l1
          generalize fq 2 k = vk at *
          generalize fq 2 j = vj at *
          clear l1 e2 hk0 hj4 cm kq jq
          go_wp2_with fail
          go_quiet (exact quiet_lHoleT HL1.out _)
          go_wp2_with fail
          go_roundw
          case rel => exact ⟨i + 1, by go_num, by omega, below_drewN HBW.out _⟩
          case measure => simp [intOf]; omega
        · rw [if_pos ⟨hk0, hj4⟩, cm] at kK
          rw [decide_eq_true hk0] at l1
          rw [decide_eq_false hj4] at l2
          rw [decide_eq_false (by omega), cm] at e2
          have HL1 := Lib.hid l1
          generalize fq 2 k = vk at *
          generalize fq 2 j = vj at *
          clear l1 e1 hk0 hj4 cm kq jq
          go_wp2_with fail
          go_quiet (exact quiet_lHoleT HL1.out _)
          go_wp2_with fail
          go_roundw
          case rel => exact ⟨i + 1, by go_num, by omega, below_drewN HBW.out _⟩
          case measure => simp [intOf]; omega
      · rw [if_neg (fun h => hk0 h.1)] at kK
        rw [decide_eq_false hk0] at l1
        have HL1 := Lib.hid l1
        generalize fq 2 k = vk at *
        generalize fq 2 j = vj at *
        clear l1 l2 e2 hk0 cm kq jq
        go_wp2_with fail
        go_quiet (exact quiet_lHoleF HL1.out _)
        go_wp2_with fail
        go_roundw
        case rel => exact ⟨i + 1, by go_num, by omega, below_drewN HBW.out _⟩
        case measure => simp [intOf]; omega
    · obtain rfl : N = i := by omega
      have hbel := HBEL.out.trans (hbw.mono HBEL.out.size)
      have hb0 := HB0.out.below hbw
      have hb1 := HB1.out.below hbw
      clear hbw HBEL HB0 HB1 SM SS SK BM BS BK HBW
      go_wp2_with fail
      refine (b10Pictures_any _ _ _ _ hb0).mono ?_
      rintro e wP ⟨wA, hA, NA, qA, cA, qB, cB, bsA, bsB, rfl, hNA, a1, a2, a3, a4, mA, mB, -, -, bw⟩
      have hvA : vPic wA hA NA = true := by rw [hNA]; exact vPic_of (by omega) (by omega) (by omega) (by omega) (by have := Nat.mul_le_mul a2 a4; omega)
      have HVA := Lib.hid hvA
      replace hb1 := hb1.below bw
      replace hbel := hbel.trans (bw.mono hbel.size)
      obtain ⟨WS, hWS⟩ : ∃ WS, WS = (wP.alloc (.cells #[.int .i64 wA, .int .i64 hA, .slice (some ⟨qA, 0, none⟩) NA cA] 37)).alloc (.cells #[.int .i64 wA, .int .i64 hA, .slice (some ⟨qB, 0, none⟩) NA cB] 37) := ⟨_, rfl⟩
      have haS : Below wP.heap.size wP WS := by rw [hWS]; exact below_two wP _ _
      have X1 : Box3 WS wP.heap.size (.int .i64 wA) (.int .i64 hA) (.slice (some ⟨qA, 0, none⟩) NA cA) 37 := by rw [hWS]; exact box_first wP _ _ _ _ _
      have X2 : Box3 WS (wP.heap.size + 1) (.int .i64 wA) (.int .i64 hA) (.slice (some ⟨qB, 0, none⟩) NA cB) 37 := by rw [hWS]; exact box_second wP _ _ _ _ _
      replace mA := mA.below haS
      replace mB := mB.below haS
      replace hb1 := hb1.below haS
      replace hbel := hbel.trans (haS.mono hbel.size)
      have HX1 := Lib.hid X1
      have HX2 := Lib.hid X2
      have HWS := Lib.hid hWS
      have HMA := Lib.hid mA
      have HMB := Lib.hid mB
      have HBEL := Lib.hid hbel
      have HBY := Lib.hid hb1
      have hA6 : NA ≤ 24 := by rw [hNA]; exact Nat.mul_le_mul a2 a4
      clear hWS haS X1 X2 mA mB hbel hb0 hb1 bw hNA hvA
      go_wp2_with fail
      rw [← HWS.out]
      refine (b10At_any _ _ _ _ 2 5 (by omega) (by omega) (by omega) HBY.out).mono ?_
      rintro e w' ⟨dz, rfl, dz0, dz1, rfl⟩
      obtain ⟨dp, hdp⟩ : ∃ n : Nat, (1 : Int) + dz = n := ⟨(1 + dz).toNat, by omega⟩
      have HDP := Lib.hid hdp
      have d1 : 1 ≤ dp := by omega
      have d2 : dp ≤ 5 := by omega
      have CELLS : ∀ W, Below WS.heap.size WS W → Below WS.heap.size WS W ∧ W.cell? ⟨wP.heap.size, 0, none⟩ = some (.int .i64 wA) ∧ W.cell? ⟨wP.heap.size, 1, none⟩ = some (.int .i64 hA) ∧ W.cell? ⟨wP.heap.size, 2, none⟩ = some (.slice (some ⟨qA, 0, none⟩) NA cA) ∧ W.cell? ⟨wP.heap.size + 1, 0, none⟩ = some (.int .i64 wA) ∧ W.cell? ⟨wP.heap.size + 1, 1, none⟩ = some (.int .i64 hA) ∧ W.cell? ⟨wP.heap.size + 1, 2, none⟩ = some (.slice (some ⟨qB, 0, none⟩) NA cB) := fun W hW => by
        obtain ⟨u0, u1, u2, -, -, -⟩ := (HX1.out.below hW).cells
        obtain ⟨t0, t1, t2, -, -, -⟩ := (HX2.out.below hW).cells
        exact ⟨hW, u0, u1, u2, t0, t1, t2⟩
      have CELLS := Lib.hid CELLS
      have hA0 : Below WS.heap.size WS WS.drew := below_drewN (Below.refl _ _) 1
      have hA1 : Below WS.heap.size WS (WS.alloc (.cells #[.int .i64 0, .int .i64 0, .slice none 0 0] 27)).drew := below_drewN (alb_k _ _) 1
      have KAT := Lib.hid (fun W (hW : Below WS.heap.size WS W) => b10At_any W _ _ c1 3 4 (by omega) (by omega) (by omega) (HBY.out.below hW))
      rw [show ((3 : Nat) : Int) = 3 from rfl] at KAT
      have KCT := Lib.hid (fun W (hW : Below WS.heap.size WS W) (L : Nat) (h1 : 1 ≤ L) (h2 : L ≤ 4) => ctf_any L h1 h2 W wA hA dp NA qA cA qB cB bsA bsB HVA.out d1 (by omega) (HMA.out.below hW) (HMB.out.below hW))
      go_upto_region 20 with fail
      go_cut [19, 20] from 139 to 148 (fun v19 v20 wx => ∃ (ob qc cc : Nat) (ksc : List Int), v19 = .pointer (some ⟨ob, 0, none⟩) ∧ v20 = .bool true ∧ Box3 wx ob (.int .i64 wA) (.int .i64 hA) (.slice (some ⟨qc, 0, none⟩) NA cc) 27 ∧ MQ wx qc cc NA ksc ∧ WholeM dp ksc NA ∧ Below WS.heap.size WS wx)
      case first =>
        go_region_held3 (fun W => Below WS.heap.size WS W ∧ W.cell? ⟨wP.heap.size, 0, none⟩ = some (.int .i64 wA) ∧ W.cell? ⟨wP.heap.size, 1, none⟩ = some (.int .i64 hA) ∧ W.cell? ⟨wP.heap.size, 2, none⟩ = some (.slice (some ⟨qA, 0, none⟩) NA cA) ∧ W.cell? ⟨wP.heap.size + 1, 0, none⟩ = some (.int .i64 wA) ∧ W.cell? ⟨wP.heap.size + 1, 1, none⟩ = some (.int .i64 hA) ∧ W.cell? ⟨wP.heap.size + 1, 2, none⟩ = some (.slice (some ⟨qB, 0, none⟩) NA cB))
          (first | (refine CELLS.out _ ?_; (repeat' (first | (with_reducible assumption) | (with_reducible refine below4k ?_ ?_) | (with_reducible refine Below.alloc ?_ ?_ _))); all_goals (first | omega | (simp; omega))) | go_keep)
          ((first
            | (go_at_call 8; (with_reducible refine (KAT.out _ hA0).mono ?_); rintro e w' ⟨lz, rfl, lz0, lz1, rfl⟩; obtain ⟨L, hL⟩ : ∃ n : Nat, (1 : Int) + lz = n := ⟨(1 + lz).toNat, by omega⟩; have l1 : 1 ≤ L := (by omega); have l2 : L ≤ 4 := (by omega); have hLw : IntKind.i64.wrap (L : Int) = (L : Int) := (IntWalk.i64_in _ (by omega)))
            | (go_at_call 8; (with_reducible refine (KAT.out _ hA1).mono ?_); rintro e w' ⟨lz, rfl, lz0, lz1, rfl⟩; obtain ⟨L, hL⟩ : ∃ n : Nat, (1 : Int) + lz = n := ⟨(1 + lz).toNat, by omega⟩; have l1 : 1 ≤ L := (by omega); have l2 : L ≤ 4 := (by omega); have hLw : IntKind.i64.wrap (L : Int) = (L : Int) := (IntWalk.i64_in _ (by omega)))
            | (go_at_call 16; (with_reducible refine (KCT.out _ hA0 L l1 l2).mono ?_); rintro e wC ⟨qc, cc, ksc, rfl, mc, hwc, hqc, hbC1⟩; have hbC := hA0.trans (hbC1.mono hA0.size); have hCs := hbC.size)
            | (go_at_call 16; (with_reducible refine (KCT.out _ hA1 L l1 l2).mono ?_); rintro e wC ⟨qc, cc, ksc, rfl, mc, hwc, hqc, hbC1⟩; have hbC := hA1.trans (hbC1.mono hA1.size); have hCs := hbC.size; have bx1 := ((BoxN.last WS #[.int .i64 0, .int .i64 0, .slice none 0 0] 27).drewN 1).below hbC1; have sC : WS.heap.size + 1 ≤ qc := (by simpa using hqc); obtain ⟨o0, o1, o2, k0, k1, k2⟩ := bx1.three.cells)))
        all_goals
          go_wp2_with fail
          go_meet
          first
            | exact ⟨wC.heap.size, qc, cc, ksc, rfl, rfl, box_last wC _ _ _ _, mc.below (alb_k wC _), hwc, hbC.alloc hbC.size _⟩
            | exact half_end bx1 mc hwc hbC (by omega) (by omega)
      case rest =>
        obtain ⟨ob, qc, cc, ksc, rfl, rfl, hbx, mc, hwc, hbc⟩ := hcut
        have hcap := mc.cap
        have HBX := Lib.hid hbx
        have HMC := Lib.hid mc
        have HWC := Lib.hid hwc
        have HBC := Lib.hid (HBEL.out.trans (hbc.mono HBEL.out.size))
        obtain ⟨m0, m1, m2, -, -, -⟩ := hbx.cells
        have hX := HX1.out.below hbc
        have HXC := Lib.hid hX
        clear hbx mc hwc hbc hX hA0 hA1
        go_wp2_with fail
        refine (validMap_any _ _ _ _ _ (by omega) _).mono ?_
        rw [HVA.out]
        rintro e w5 ⟨rfl, hb5⟩
        clear m0 m1 m2
        obtain ⟨m0, m1, m2, -, -, -⟩ := (HBX.out.below hb5).cells
        obtain ⟨u0, u1, u2, -, -, -⟩ := (HXC.out.below hb5).cells
        have HB5 := Lib.hid hb5
        have HEND := Lib.hid (HBC.out.trans (hb5.mono HBC.out.size))
        clear hb5
        go_wp2_with fail
        clear m0 m1 m2 u0 u1 u2
        go_loopw [173] (fun v173 wr => ∃ i : Nat, v173 = .int .i64 i ∧ i ≤ NA ∧ Below w5.heap.size w5 wr) (fun v173 _ => NA - (intOf v173).toNat)
        case atStart => exact ⟨0, rfl, Nat.zero_le _, Below.refl _ _⟩
        case round =>
          obtain ⟨i, rfl, hi_, hbw⟩ := hrel
          have HBW := Lib.hid hbw
          by_cases hlt : i < NA
          · have kC := ((HMC.out.below HB5.out).below hbw).get i hlt
            obtain ⟨m0, m1, m2, -, -, -⟩ := ((HBX.out.below HB5.out).below hbw).cells
            have hi2 : (i : Int) < (NA : Int) := by omega
            have cm : fq 2 (-4) = 3212836864 := by decide +kernel
            clear hbw
            rcases HWC.out i hlt with hk | ⟨D, hD, hk⟩
            · rw [hk, cm] at kC
              have e0 : eq32 3212836864 3212836864 = true := by decide +kernel
              clear hk cm
              go_wp2_with fail
              go_roundw
              case rel => exact ⟨i + 1, by go_num, by omega, HBW.out⟩
              case measure => simp [intOf]; omega
            · rw [hk] at kC
              have e0 := eq32_fq (g := 2) (a := 4 * (D : Int)) (b := -4) (by omega) (by decide)
              rw [decide_eq_false (by omega), cm] at e0
              have e1 := lt32_fq (g := 2) (a := 4 * (D : Int)) (b := 0) (by omega) (by decide)
              rw [decide_eq_false (by omega), fq_zero] at e1
              have hdd : IntKind.i64.wrap ((dp : Int) - 1) = (dp : Int) - 1 := IntWalk.i64_in _ (by omega)
              have hof := four_fq ((dp : Int) - 1) (by omega)
              have e2 := lt32_fq (g := 2) (a := 4 * ((dp : Int) - 1)) (b := 4 * (D : Int)) (by omega) (by omega)
              rw [decide_eq_false (by omega), ← hof] at e2
              have t1 := int_of_four D (by omega)
              have hof2 := four_fq (D : Int) (by omega)
              have e3 := eq32_fq (g := 2) (a := 4 * (D : Int)) (b := 4 * (D : Int)) (by omega) (by omega)
              rw [decide_eq_true rfl] at e3
              generalize fq 2 (4 * (D : Int)) = vD at *
              clear hk cm hof
              go_wp2_with fail
              go_roundw
              case rel => exact ⟨i + 1, by go_num, by omega, HBW.out⟩
              case measure => simp [intOf]; omega
          · obtain rfl : NA = i := by omega
            have hbel := HEND.out.trans (hbw.mono HEND.out.size)
            obtain ⟨m0, m1, m2, -, -, -⟩ := ((HBX.out.below HB5.out).below hbw).cells
            go_wp2_with fail
            go_ret
            exact ⟨rfl, hbel⟩

theorem fnHalves_walk (w : World) (a0 a1 : Option Addr) (l0 c0 l1 c1 : Nat) (z0 z1 : List Int)
    (r0 : (a0 = none ∧ l0 = 0 ∧ c0 = 0 ∧ z0 = []) ∨ ∃ x, a0 = some x ∧ l0 ≤ c0 ∧ c0 ≤ maxLen ∧ z0.length = c0 ∧ (∀ i, i < z0.length → w.cell? (x.add i) = some (.int .u8 (z0.getD i 0))) ∧ ∀ n ∈ z0, (Lit.int .u8 n).wf = true)
    (r1 : (a1 = none ∧ l1 = 0 ∧ c1 = 0 ∧ z1 = []) ∨ ∃ x, a1 = some x ∧ l1 ≤ c1 ∧ c1 ≤ maxLen ∧ z1.length = c1 ∧ (∀ i, i < z1.length → w.cell? (x.add i) = some (.int .u8 (z1.getD i 0))) ∧ ∀ n ∈ z1, (Lit.int .u8 n).wf = true) :
    Calls Try.prog 3 #[.slice a0 l0 c0, .slice a1 l1 c1] w fun e w' => e = .returned (.bool true) ∧ Below w.heap.size w w' := by
  by_cases h : l0 ≤ 1048576 ∧ l1 ≤ 1048576
  · exact fnHalves_short w a0 a1 l0 c0 l1 c1 h.1 h.2 (bytesIn_of_row r0 (by omega)) (bytesIn_of_row r1 (by omega))
  · exact fnHalves_long w a0 a1 l0 c0 l1 c1 (len_of_row r0) (len_of_row r1) h

end Go.Proofs.Ytmpbnmmpniganaa
