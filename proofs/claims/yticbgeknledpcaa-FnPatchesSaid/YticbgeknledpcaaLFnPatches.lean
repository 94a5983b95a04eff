/- The law of patches: the walk of its code. No condition. -/
import Derived.Test.YticbgeknledpcaaHv
import Derived.Test.YticbgeknledpcaaMv
import Derived.Test.YticbgeknledpcaaLaw
import Derived.Deep.RegionHeld3
import Derived.StillTactics
import Derived.Deep.CutRange
import Derived.Deep.LoopGhost
namespace Go.Proofs.Yticbgeknledpcaa
open Go.RowKit
set_option maxRecDepth 100000
set_option linter.unusedVariables false
set_option linter.unusedSimpArgs false

theorem fnPatches_long (w : World) (a0 a1 : Option Addr) (l0 c0 l1 c1 : Nat) (m0 : l0 ≤ 9223372036854775807) (m1 : l1 ≤ 9223372036854775807) (h : ¬ (l0 ≤ 1048576 ∧ l1 ≤ 1048576)) :
    Calls Try.prog 4 #[.slice a0 l0 c0, .slice a1 l1 c1] w fun e w' => e = .returned (.bool true) ∧ Below w.heap.size w w' := by
  go_enter Try.func4, Try.ntmps4
  go_wp2_with fail
  refine (b10Long_yes _ _ _ _ _ _ _ m0 m1 h).mono ?_
  rintro e w' ⟨rfl, rfl⟩
  go_wp2
  go_ret
  exact ⟨rfl, Below.refl _ _⟩

theorem fq_neg {g : Nat} {k : Int} (hk : k < 0) (h : k.natAbs ≤ 16777216) : Op.negFloat .f32 (fq g k) = fq g (-k) := by
  obtain ⟨r, h1, h2, h3⟩ := (few32 (g := g) (k := k) h).rung f1
  obtain ⟨s, g1, g2, g3⟩ := (few32 (g := g) (k := -k) (by omega)).rung f1
  have e : r = s := unit_inj Ieee.single (by rw [h2, g2]; congr 1; omega)
  have hr : r < 2139095040 := by have := h1; rw [sg_inf] at this; exact this
  unfold fq
  rw [h3, g3, ← e, decide_eq_true hk, decide_eq_false (by omega), neg32_eq _ (by unfold Ieee.Format.word; rw [sg_sw]; simp; omega)]
  unfold Ieee.Format.word
  rw [sg_sw]; simp; omega
theorem lSize_q (k : Int) (w : World) (h : k.natAbs ≤ 1000000) : Calls Try.prog 18 #[.float .f32 (fq 2 k)] w fun e w' => e = .returned (.float .f32 (fq 2 (k.natAbs : Nat))) ∧ w = w' := by
  have l := lt32_fq (g := 2) (a := k) (b := 0) (by omega) (by decide)
  rw [fq_zero] at l
  by_cases hk : k < 0
  · have ng := fq_neg (g := 2) (k := k) hk (by omega)
    rw [show ((k.natAbs : Nat) : Int) = -k by omega]
    simp only [hk, decide_true] at l
    rw [← ng]
    generalize fq 2 k = x at *
    clear hk h ng
    go_enter Try.func18, Try.ntmps18
    go_wp2
    go_ret
    exact ⟨rfl, rfl⟩
  · rw [show ((k.natAbs : Nat) : Int) = k by omega]
    simp only [hk, decide_false] at l
    generalize fq 2 k = x at *
    clear hk h
    go_enter Try.func18, Try.ntmps18
    go_wp2
    go_ret
    exact ⟨rfl, rfl⟩
theorem quiet_lSizeP {z : Nat} {k : Int} (e : fq 2 k = z) {y : Nat} (e2 : fq 2 (k.natAbs : Nat) = y) (h : k.natAbs ≤ 1000000) {w : World} (n : Nat) : Calls Try.prog 18 #[.float .f32 z] (w.drewN n) fun e w'' => e = .returned (.float .f32 y) ∧ ∃ m, w'' = w.drewN m := by
  subst e e2
  refine quiet_same ((lSize_q k (w.drewN n) h).mono ?_)
  rintro e w' ⟨rfl, rfl⟩
  exact ⟨rfl, rfl⟩
theorem tabI_congr {n : Nat} {F G : Nat → Int} (h : ∀ i, i < n → F i = G i) : tabI n F = tabI n G := List.map_congr_left fun i hi => h i (List.mem_range.1 hi)
theorem wrap_divQ (k wd : Nat) (h : k ≤ 1000000) : wrap64 ((k : Int) / (wd : Int)) = ((k / wd : Nat) : Int) := wrap_divH k wd h

set_option maxHeartbeats 40000000 in
theorem fnPatches_short (w : World) (a0 a1 : Option Addr) (l0 c0 l1 c1 : Nat) (h0 : l0 ≤ 1048576) (h1 : l1 ≤ 1048576) (hb0 : BytesIn w a0 l0) (hb1 : BytesIn w a1 l1) :
    Calls Try.prog 4 #[.slice a0 l0 c0, .slice a1 l1 c1] w fun e w' => e = .returned (.bool true) ∧ Below w.heap.size w w' := by
  go_enter Try.func4, Try.ntmps4
  go_wp2_with fail
  refine (b10Long_no _ _ _ _ _ _ _ h0 h1).mono ?_
  rintro e w' ⟨rfl, rfl⟩
  go_wp2_with fail
  refine (b10At_any _ _ _ _ 0 6 (by omega) (by omega) (by omega) hb1).mono ?_
  rintro e w' ⟨x, rfl, x0, x1, rfl⟩
  go_wp2_with fail
  refine (b10At_any _ _ _ _ 1 5 (by omega) (by omega) (by omega) hb1).mono ?_
  rintro e w' ⟨y, rfl, y0, y1, rfl⟩
  obtain ⟨wd, hwd⟩ : ∃ n : Nat, (1 : Int) + x = n := ⟨(1 + x).toNat, by omega⟩
  obtain ⟨hi, hhi⟩ : ∃ n : Nat, (1 : Int) + y = n := ⟨(1 + y).toNat, by omega⟩
  have HWD := Lib.hid hwd
  have HHI := Lib.hid hhi
  have v1 : 1 ≤ wd := by omega
  have v2 : wd ≤ 6 := by omega
  have v3 : 1 ≤ hi := by omega
  have v4 : hi ≤ 5 := by omega
  have hwh := Nat.mul_le_mul v2 v4
  clear hwd hhi
  go_wp2_with fail
  rw [HWD.out, HHI.out]
  refine (b10Quarters_any _ _ _ _ wd hi hb0 v1 (by omega) v3 (by omega) (by omega)).mono ?_
  rintro e wM ⟨qM, cM, ks, rfl, mM, -, hk, bw⟩
  clear x0 x1 y0 y1 hb0 HHI
  obtain ⟨N, hN⟩ : ∃ N, N = wd * hi := ⟨_, rfl⟩
  rw [← hN] at mM ⊢
  have hv : vPic wd hi N = true := by rw [hN]; exact vPic_of v1 (by omega) v3 (by omega) (by omega)
  have HV := Lib.hid hv
  have HN := Lib.hid hN
  have hN1 : N ≤ 30 := by omega
  have hN0 : 1 ≤ N := by rw [hN]; exact Nat.mul_pos v1 v3
  have HK := Lib.hid hk
  have HLK := Lib.hid mM.len
  have HKB := Lib.hid (show ∀ k ∈ ks, k.natAbs ≤ 500 from fun k h => by rcases hk k h with e | e <;> omega)
  clear hv hN hk hwh
  have hbel := bw
  replace hb1 := hb1.below bw
  have ha : Below wM.heap.size wM (wM.alloc (.cells #[.int .i64 wd, .int .i64 hi, .slice (some ⟨qM, 0, none⟩) N cM] 26)) := (Below.refl _ _).alloc (Nat.le_refl _) _
  have bM := BoxN.last wM #[.int .i64 wd, .int .i64 hi, .slice (some ⟨qM, 0, none⟩) N cM] 26
  replace mM := mM.below ha
  replace hb1 := hb1.below ha
  replace hbel := hbel.trans (ha.mono hbel.size)
  clear bw ha
  go_wp2_with fail
  generalize hoM : wM.heap.size = oM at *
  generalize hwM : wM.alloc (.cells #[.int .i64 wd, .int .i64 hi, .slice (some ⟨qM, 0, none⟩) N cM] 26) = WM at *
  clear hoM hwM
  clear HWD
  refine (b10At_any _ _ _ _ 2 8 (by omega) (by omega) (by omega) hb1).mono ?_
  rintro e w' ⟨z, rfl, z0, z1, rfl⟩
  obtain ⟨Z, rfl⟩ := Int.eq_ofNat_of_zero_le z0
  have hZ : Z ≤ 7 := by omega
  have qz := quo4m Z (by omega)
  obtain ⟨vm, hvm⟩ : ∃ v, fq 2 (Z : Int) = v := ⟨_, rfl⟩
  rw [hvm] at qz
  have ar := fres_some qz
  have af := fdr_some qz
  have hd0 : ∀ W : World, W.drewN 0 = W := fun _ => rfl
  have KPA := Lib.hid (fun w (h : MQ w qM cM N ks) => patchesOf_q w wd hi N qM cM ks (Z : Int) HV.out h (by omega) HKB.out)
  have KDR := Lib.hid (fun w (h : MQ w qM cM N ks) (l : Int) => dropPatches_q w wd hi N qM cM ks (Z : Int) l HV.out h (by omega) HKB.out)
  have KBO := Lib.hid (fun w (h : MQ w qM cM N ks) => bordersOf_q w wd hi N qM cM ks (Z : Int) HV.out h (by omega) HKB.out)
  rw [hvm] at KPA KDR KBO
  have HVM := Lib.hid hvm
  clear qz z0 z1 hvm
  go_wp2_with fail
  clear ar af
  refine (b10At_any _ _ _ _ 3 6 (by omega) (by omega) (by omega) hb1).mono ?_
  rintro e w' ⟨lst, rfl, l0, l1, rfl⟩
  clear hb1
  obtain ⟨zM0, zM1, zM2, -, -, -⟩ := bM.three.cells
  go_wp2_with fail
  clear zM0 zM1 zM2
  refine (KPA.out _ mM).mono ?_
  rintro e wP ⟨go, gs, cs, m, f, gz, rfl, oF, oG, hflA, bw, hmn⟩
  replace bM := bM.below bw
  replace mM := mM.below bw
  replace hbel := hbel.trans (bw.mono hbel.size)
  clear bw
  have HFA := Lib.hid hflA
  clear hflA
  obtain ⟨zM0, zM1, zM2, -, -, -⟩ := bM.three.cells
  go_wp2_with fail
  clear zM0 zM1 zM2
  refine (KDR.out _ mM lst).mono ?_
  rintro e wD ⟨qD, cD, m2, f2, g2, rfl, mD, hflB, -, bw⟩
  have HFB := Lib.hid hflB
  clear hflB
  have ha : Below wD.heap.size wD (wD.alloc (.cells #[.int .i64 wd, .int .i64 hi, .slice (some ⟨qD, 0, none⟩) N cD] 26)) := (Below.refl _ _).alloc (Nat.le_refl _) _
  have bD := BoxN.last wD #[.int .i64 wd, .int .i64 hi, .slice (some ⟨qD, 0, none⟩) N cD] 26
  replace mD := mD.below ha
  replace bM := (bM.below bw).below ha
  replace mM := (mM.below bw).below ha
  replace oF := (oF.below bw).below ha
  replace oG := (oG.below bw).below ha
  replace hbel := (hbel.trans (bw.mono hbel.size)).trans (ha.mono (Nat.le_trans hbel.size bw.size))
  clear bw ha
  obtain ⟨zM0, zM1, zM2, -, -, -⟩ := bM.three.cells
  go_wp2_with fail
  generalize hoD : wD.heap.size = oD at *
  generalize hwD : wD.alloc (.cells #[.int .i64 wd, .int .i64 hi, .slice (some ⟨qD, 0, none⟩) N cD] 26) = WD at *
  clear hoD hwD
  clear zM0 zM1 zM2
  refine (KBO.out _ mM).mono ?_
  rintro e wB ⟨gb, cb, rfl, oB, bw⟩
  replace bM := bM.below bw
  replace mM := mM.below bw
  replace oF := oF.below bw
  replace oG := oG.below bw
  replace bD := bD.below bw
  replace mD := mD.below bw
  replace hbel := hbel.trans (bw.mono hbel.size)
  clear bw
  have lB := oB.len
  obtain ⟨nb, hnb⟩ : ∃ n, n = (bordL ks wd hi (Z : Int) N).length := ⟨_, rfl⟩
  rw [← hnb] at oB lB ⊢
  have hnb2 : nb ≤ 1000 := by rw [hnb]; exact Nat.le_trans (bordL_len _ _ _ _ _) (by omega)
  have HHB := Lib.hid (fun w' (hb' : Below wB.heap.size wB w') z => lHas_any w' _ gb nb cb _ z (oB.below hb') hnb2)
  obtain ⟨gc, hgc⟩ : ∃ gc, gc = wB.heap.size := ⟨_, rfl⟩
  obtain ⟨wK, hmk, oC, bK, hsK⟩ := makeI wB m wB.heap.size (Nat.le_refl _) (by omega)
  rw [← hgc] at hmk
  have oC2 : OwnI wK wB.heap.size (.slice (some ⟨gc, 0, none⟩) m m) (tabI m fun k => (cN f k 0 : Nat)) := by
    have e : List.replicate m (0 : Int) = tabI m fun k => ((cN f k 0 : Nat) : Int) := by
      show List.replicate m (0 : Int) = (List.range m).map fun k => 0
      rw [List.map_const', List.length_range]
    rw [← e, hgc]; exact oC
  have HOC := Lib.hid oC2
  have HBK := Lib.hid bK
  have HGC := Lib.hid hgc
  have SM := Lib.hid mM
  have SD := Lib.hid mD
  have OF := Lib.hid oF
  have OG := Lib.hid oG
  have BM := Lib.hid bM
  have BD := Lib.hid bD
  have HBEL := Lib.hid hbel
  have hcapM := mM.cap
  have hcapD := mD.cap
  obtain ⟨zM0, zM1, zM2, -, -, -⟩ := bM.three.cells
  have hgl := oG.len.2
  clear oC oC2 bK hnb hnb2 oB lB mM mD oF oG bM bD hbel hgc hsK KPA KDR KBO
  go_wp2_with fail
  clear hmk zM0 zM1 zM2
  go_loopg [87] (N) (fun gk v87 wr => ∃ i : Nat, v87 = .int .i64 i ∧ i ≤ N ∧ N ≤ gk + i ∧ Below wB.heap.size wB wr ∧ OwnI wr wB.heap.size (.slice (some ⟨gc, 0, none⟩) m m) (tabI m fun k => (cN f k i : Nat)))
  case atStart => exact ⟨0, rfl, Nat.zero_le _, Nat.le_refl _, HBK.out, HOC.out⟩
  case round =>
    clear HBK HOC
    obtain ⟨i, rfl, hi_, hgk, hbw, hoc⟩ := hrel
    have HBW := Lib.hid hbw
    have HOC := Lib.hid hoc
    by_cases hlt : i < N
    · have kM := (SM.out.below hbw).get i hlt
      have kD := (SD.out.below hbw).get i hlt
      rw [tabI_get hlt] at kD
      have cF := (OF.out.below hbw).cellAt i (by rw [tabI_length]; exact hlt)
      rw [tabI_get hlt] at cF
      have hkb := (SM.out.below hbw).kb i
      obtain ⟨zM0, zM1, zM2, -, -, -⟩ := (BM.out.below hbw).three.cells
      obtain ⟨zD0, zD1, zD2, -, -, -⟩ := (BD.out.below hbw).three.cells
      have hi2 : (i : Int) < (N : Int) := by omega
      have l1 := le0_fq (k := ks.getD i 0) (by omega)
      clear hbw hoc
      by_cases hk0 : 0 ≤ ks.getD i 0
      · have hA := HFA.out.done i hlt hlt hk0
        have hA2 := HFA.out.rng i hlt
        have hsz := HFA.out.size2 (by have := hang_rel ks wd hi (Z : Int) v1; rw [← HN.out] at this; exact this) HFB.out hlt hk0
        have hB := HFB.out.done i hlt hlt hk0
        obtain ⟨pn, hpn⟩ := Int.eq_ofNat_of_zero_le hA
        have hpm : pn < m := by omega
        have cG := (OG.out.below HBW.out).cellAt pn (by rw [tabI_length]; exact hpm)
        rw [tabI_get hpm] at cG
        have cC := HOC.out.cellAt pn (by rw [tabI_length]; exact hpm)
        rw [tabI_get hpm] at cC
        have fC := HOC.out.free pn
        have hcn := cN_le f (pn : Int) i
        have HPN := Lib.hid hpn
        rw [hpn] at cF hsz
        rw [Int.toNat_natCast] at hsz
        have hcnt := (HFA.out.cnt pn hpm)
        obtain ⟨G, hG⟩ : ∃ G, gz pn = G := ⟨_, rfl⟩
        have hdr : dropF ks f2 g2 lst i = if G < lst then -4 else ks.getD i 0 := by
          unfold dropF
          rw [← hsz, hG]
          by_cases q : G < lst
          · rw [if_pos ⟨hB, q⟩, if_pos q]
          · rw [if_neg (fun h => q h.2), if_neg q]
        rw [hdr] at kD
        rw [hG] at cG
        obtain ⟨cc, hcc⟩ : ∃ cc, cN f (pn : Int) i = cc := ⟨_, rfl⟩
        rw [hcc] at cC hcn
        have hoc2 : OwnI (wr.setCell ⟨gc, pn, none⟩ (.int .i64 ((cc : Int) + 1))) wB.heap.size (.slice (some ⟨gc, 0, none⟩) m m) (tabI m fun k => (cN f k (i + 1) : Nat)) := by
          have h1 := HOC.out.put pn ((cc : Int) + 1)
          rw [tabI_set] at h1
          have e : tabI m (updN (fun k => ((cN f k i : Nat) : Int)) pn ((cc : Int) + 1)) = tabI m fun k => (cN f k (i + 1) : Nat) := tabI_congr (fun k hk => by
            show _ = ((cN f k i + if f i = k then 1 else 0 : Nat) : Int)
            by_cases e : k = pn
            · subst e; rw [updN_self, if_pos hpn, hcc]; omega
            · rw [updN_ne _ _ e, if_neg (by omega)]; omega)
          rw [e] at h1; exact h1
        have HOC2 := Lib.hid hoc2
        have hgcl : wB.heap.size ≤ gc := Nat.le_of_eq HGC.out.symm
        have hbw2 : Below wB.heap.size wB (wr.setCell ⟨gc, pn, none⟩ (.int .i64 ((cc : Int) + 1))) := HBW.out.setCell (p := ⟨gc, pn, none⟩) hgcl _
        have HBW2 := Lib.hid hbw2
        obtain ⟨wi, hwi⟩ : ∃ wi, wi = wr.setCell ⟨gc, pn, none⟩ (.int .i64 ((cc : Int) + 1)) := ⟨_, rfl⟩
        rw [← hwi] at HOC2 HBW2
        have l2 : le32 0 (fq 2 (ks.getD i 0)) = true := by rw [l1]; exact decide_eq_true hk0
        obtain ⟨vk, hvk⟩ : ∃ v, fq 2 (ks.getD i 0) = v := ⟨_, rfl⟩
        rw [hvk] at kM l2
        have n1 : ((pn : Nat) : Int) < (m : Int) := by omega
        have n2 : decide (m ≤ pn) = false := decide_eq_false (by omega)
        have HL2 := Lib.hid l2
        have HDR := Lib.hid hdr
        have HG := Lib.hid hG
        clear l1 l2 hA hA2 hB hpn hcc hsz hcnt hG hoc2 hbw2 hdr
        have CW := Lib.hid (fun w' (h : Below wB.heap.size wB w') => show w'.cell? ⟨qM, i, none⟩ = some (.float .f32 vk) ∧ w'.cell? ⟨qD, i, none⟩ = some (.float .f32 (fq 2 (if G < lst then -4 else ks.getD i 0))) ∧ w'.cell? ⟨go, i, none⟩ = some (.int .i64 pn) ∧ w'.cell? ⟨gs, pn, none⟩ = some (.int .i64 G) from by
          have a1 := (SM.out.below h).get i hlt
          have a2 := (SD.out.below h).get i hlt
          have a3 := (OF.out.below h).cellAt i (by rw [tabI_length]; exact hlt)
          have a4 := (OG.out.below h).cellAt pn (by rw [tabI_length]; exact hpm)
          rw [hvk] at a1
          rw [tabI_get hlt, HDR.out] at a2
          rw [tabI_get hlt, HPN.out] at a3
          rw [tabI_get hpm, HG.out] at a4
          exact ⟨a1, a2, a3, a4⟩)
        have HVK := Lib.hid hvk
        have HWI := Lib.hid hwi
        clear hvk hwi
        go_wp2_with fail
        refine (lHole_any _ _).mono ?_
        rw [HL2.out]
        rintro e w' ⟨rfl, rfl⟩
        go_upto_region 23 with fail
        rw [← HWI.out]
        clear kM kD cF cG cC fC zM0 zM1 zM2 zD0 zD1 zD2 HWI
        go_cut [87, 169] from 87 to 257 (fun v87 v169 wx => v87 = .int .i64 i ∧ v169 = .bool false ∧ ∃ n, wx = wi.drewN n)
        case first =>
          as_aux_lemma =>
            obtain ⟨kM, kD, cF, cG⟩ := CW.out _ HBW2.out
            obtain ⟨zM0, zM1, zM2, -, -, -⟩ := (BM.out.below HBW2.out).three.cells
            obtain ⟨zD0, zD1, zD2, -, -, -⟩ := (BD.out.below HBW2.out).three.cells
            have pI : (0 : Int) ≤ (pn : Int) := by omega
            by_cases hGl : G < lst
            · rw [if_pos hGl] at kD
              have cm : fq 2 (-4) = 3212836864 := by decide +kernel
              have e0 : eq32 3212836864 3212836864 = true := by decide +kernel
              rw [cm] at kD
              have d1 : decide (G < lst) = true := decide_eq_true hGl
              have d2 : decide (lst ≤ G) = false := decide_eq_false (by omega)
              clear hGl cm
              go_quiet (fail)
              go_wp2_with fail
              go_meet
              exact ⟨rfl, rfl, _, rfl⟩
            · rw [if_neg hGl, HVK.out] at kD
              have e0 : eq32 vk vk = true := by rw [← HVK.out, eq32_fq (by omega) (by omega)]; exact decide_eq_true rfl
              have d1 : decide (G < lst) = false := decide_eq_false hGl
              have d2 : decide (lst ≤ G) = true := decide_eq_true (by omega)
              clear hGl
              go_quiet (fail)
              go_wp2_with fail
              go_meet
              exact ⟨rfl, rfl, _, rfl⟩
        case rest =>
          obtain ⟨rfl, rfl, nn, rfl⟩ := hcut
          obtain ⟨wj, hwj⟩ : ∃ wj, wj = wi.drewN nn := ⟨_, rfl⟩
          rw [← hwj]
          have HBW3 : Hid (Below wB.heap.size wB wj) := by rw [hwj]; exact below_drewN HBW2.out _
          have HOC3 : Hid (OwnI wj wB.heap.size (.slice (some ⟨gc, 0, none⟩) m m) (tabI m fun k => (cN f k (i + 1) : Nat))) := by rw [hwj]; exact HOC2.out.below (below_drewN (Below.refl _ _) _)
          clear hwj HBW2 HOC2
          go_wp2_with fail
          go_loopg [172, 19] (N) (fun hk v172 v19 wz => ∃ k : Nat, v172 = .int .i64 k ∧ k ≤ N ∧ N ≤ hk + k ∧ v19 = .bool (brdF ks wd (Z : Int) i k) ∧ Below wj.heap.size wj wz)
          case atStart => exact ⟨0, rfl, Nat.zero_le _, Nat.le_refl _, rfl, Below.refl _ _⟩
          case round =>
            obtain ⟨k, rfl, hk_, hhk, rfl, hbz⟩ := hrel
            have HBZ := Lib.hid hbz
            have HBT := Lib.hid (HBW3.out.trans (hbz.mono HBW3.out.size))
            by_cases hkl : k < N
            · have kk := (SM.out.below HBT.out).get k hkl
              have kbk := (SM.out.below HBT.out).kb k
              have kF := (OF.out.below HBT.out).cellAt k (by rw [tabI_length]; exact hkl)
              rw [tabI_get hkl] at kF
              obtain ⟨kM, kD, cF, cG⟩ := CW.out _ HBT.out
              obtain ⟨zM0, zM1, zM2, -, -, -⟩ := (BM.out.below HBT.out).three.cells
              have kI : (k : Int) < (N : Int) := by omega
              have hst : brdF ks wd (Z : Int) i (k + 1) = (brdF ks wd (Z : Int) i k || (besK wd i k && (decide (0 ≤ ks.getD k 0) && !decide (((ks.getD i 0 - ks.getD k 0).natAbs : Int) ≤ (Z : Int))))) := rfl
              have hone := fun h1 h2 h3 => one_patch (k := k) (mo := (Z : Int)) HN.out v1 hlt hkl HFA.out hk0 h1 h2 h3
              rw [HPN.out] at hone
              have HONE := Lib.hid hone
              have l3 := le0_fq (k := ks.getD k 0) (by omega)
              have sb := fq_sub (g := 2) (a := ks.getD i 0) (b := ks.getD k 0) (by omega) (by omega) (by omega)
              have le := le32_fq (g := 2) (a := ((ks.getD i 0 - ks.getD k 0).natAbs : Int)) (b := (Z : Int)) (by omega) (by omega)
              rw [HVK.out] at sb
              rw [HVM.out] at le
              have hdb : (ks.getD i 0 - ks.getD k 0).natAbs ≤ 1000000 := by omega
              clear hone hbz
              have HKB2 := Lib.hid (And.intro hkb kbk)
              generalize ks.getD k 0 = kv at *
              obtain ⟨dv, hdv⟩ : ∃ dv, fq 2 (ks.getD i 0 - kv) = dv := ⟨_, rfl⟩
              obtain ⟨av, hav⟩ : ∃ av, fq 2 ((ks.getD i 0 - kv).natAbs : Nat) = av := ⟨_, rfl⟩
              obtain ⟨vkk, hvkk⟩ : ∃ v, fq 2 kv = v := ⟨_, rfl⟩
              rw [hdv, hvkk] at sb
              rw [hav] at le
              rw [hvkk] at kk l3
              have KSZ := Lib.hid (fun (w : World) n => quiet_lSizeP hdv hav hdb (w := w) n)
              have HST := Lib.hid hst
              have HLE := Lib.hid le
              have HSB := Lib.hid sb
              have HL3 := Lib.hid l3
              obtain ⟨acc, hacc⟩ : ∃ acc, brdF ks wd (Z : Int) i k = acc := ⟨_, rfl⟩
              rw [hacc] at HST
              rw [hacc]
              clear hst le sb l3 hdb hdv hav hvkk hacc hkb kbk
              go_upto_region 31 with fail
              go_cut [172, 23] from 172 to 251 (fun v172 v23 wx => v172 = .int .i64 k ∧ v23 = .bool (besK wd i k) ∧ ∃ n, wx = wr.drewN n)
              case first =>
                as_aux_lemma =>
                  have w1 : IntKind.i64.wrap ((i : Int) - (k : Int)) = (i : Int) - (k : Int) := IntWalk.i64_in _ (by omega)
                  have w2 : IntKind.i64.wrap ((k : Int) - (i : Int)) = (k : Int) - (i : Int) := IntWalk.i64_in _ (by omega)
                  have t1 : wrap64 ((k : Int) / (wd : Int)) = ((k / wd : Nat) : Int) := wrap_divQ k wd (by omega)
                  have t2 : wrap64 ((i : Int) / (wd : Int)) = ((i / wd : Nat) : Int) := wrap_divQ i wd (by omega)
                  have wd1 : (1 : Int) ≤ (wd : Int) := by omega
                  have wd0 : ¬ wd = 0 := by omega
                  have hbs : besK wd i k = (decide (i = k + wd) || (decide (k = i + wd) || ((decide (i = k + 1) || decide (k = i + 1)) && decide (i / wd = k / wd)))) := rfl
                  have A1 : ((i : Int) - (k : Int) == (wd : Int)) = decide (i = k + wd) := Bool.eq_iff_iff.2 (by rw [beq_iff_eq, decide_eq_true_eq]; omega)
                  have A2 : ((k : Int) - (i : Int) == (wd : Int)) = decide (k = i + wd) := Bool.eq_iff_iff.2 (by rw [beq_iff_eq, decide_eq_true_eq]; omega)
                  have A3 : ((i : Int) - (k : Int) == 1) = decide (i = k + 1) := Bool.eq_iff_iff.2 (by rw [beq_iff_eq, decide_eq_true_eq]; omega)
                  have A4 : ((k : Int) - (i : Int) == 1) = decide (k = i + 1) := Bool.eq_iff_iff.2 (by rw [beq_iff_eq, decide_eq_true_eq]; omega)
                  have A5 : (((i / wd : Nat) : Int) == ((k / wd : Nat) : Int)) = decide (i / wd = k / wd) := Bool.eq_iff_iff.2 (by rw [beq_iff_eq, decide_eq_true_eq, Int.ofNat_inj])
                  have A6 : ((i / wd) == (k / wd)) = decide (i / wd = k / wd) := Bool.eq_iff_iff.2 (by rw [beq_iff_eq, decide_eq_true_eq])
                  have HBS := Lib.hid hbs
                  clear hbs
                  generalize decide (i = k + wd) = a1 at *
                  generalize decide (k = i + wd) = a2 at *
                  generalize decide (i = k + 1) = a3 at *
                  generalize decide (k = i + 1) = a4 at *
                  generalize decide (i / wd = k / wd) = a5 at *
                  generalize i / wd = ri at *
                  generalize k / wd = rk at *
                  cases a1
                  · cases a2
                    · cases a3
                      · cases a4
                        · go_quiet (fail)
                          go_wp2_with fail
                          go_meet
                          exact ⟨rfl, by rw [HBS.out]; rfl, _, rfl⟩
                        · cases a5
                          all_goals
                            go_quiet (fail)
                            go_wp2_with fail
                            go_meet
                            exact ⟨rfl, by rw [HBS.out]; rfl, _, rfl⟩
                      · cases a5
                        all_goals
                          go_quiet (fail)
                          go_wp2_with fail
                          go_meet
                          exact ⟨rfl, by rw [HBS.out]; rfl, _, rfl⟩
                    · go_quiet (fail)
                      go_wp2_with fail
                      go_meet
                      exact ⟨rfl, by rw [HBS.out]; rfl, _, rfl⟩
                  · go_quiet (fail)
                    go_wp2_with fail
                    go_meet
                    exact ⟨rfl, by rw [HBS.out]; rfl, _, rfl⟩
              case rest =>
                obtain ⟨rfl, rfl, nw, hwc⟩ := hcut
                have HBZ : Hid (Below wj.heap.size wj wc) := by rw [hwc]; exact below_drewN HBZ.out _
                have kk2 : wc.cell? ⟨qM, k, none⟩ = some (.float .f32 vkk) := by rw [hwc]; exact kk
                have kM2 : wc.cell? ⟨qM, i, none⟩ = some (.float .f32 vk) := by rw [hwc]; exact kM
                have kF2 : wc.cell? ⟨go, k, none⟩ = some (.int .i64 (f k)) := by rw [hwc]; exact kF
                have cF2 : wc.cell? ⟨go, i, none⟩ = some (.int .i64 pn) := by rw [hwc]; exact cF
                have y0 : wc.cell? ⟨oM, 0, none⟩ = some (.int .i64 wd) := by rw [hwc]; exact zM0
                have y1 : wc.cell? ⟨oM, 1, none⟩ = some (.int .i64 hi) := by rw [hwc]; exact zM1
                have y2 : wc.cell? ⟨oM, 2, none⟩ = some (.slice (some ⟨qM, 0, none⟩) N cM) := by rw [hwc]; exact zM2
                clear kk kM kF cF zM0 zM1 zM2 hwc kD cG
                cases hbs : besK wd i k
                · rw [hbs] at HST
                  have HBS := Lib.hid hbs
                  clear hbs
                  go_wp2_with fail
                  go_roundg (gk - 1)
                  case measure => omega
                  case rel => exact ⟨k + 1, by go_num, by omega, by omega, by rw [HST.out]; simp, HBZ.out⟩
                · rw [hbs] at HST
                  have HBS := Lib.hid hbs
                  clear hbs
                  by_cases hkv : 0 ≤ kv
                  · as_aux_lemma =>
                      have l4 : le32 0 vkk = true := by rw [HL3.out]; exact decide_eq_true hkv
                      have ar := fres_some HSB.out
                      have af := fdr_some HSB.out
                      have hd0 : ∀ W : World, W.drewN 0 = W := fun _ => rfl
                      have l5 := HLE.out
                      rw [decide_eq_true hkv] at HST
                      by_cases hh : ((ks.getD i 0 - kv).natAbs : Int) ≤ (Z : Int)
                      · as_aux_lemma =>
                          rw [decide_eq_true hh] at HST l5
                          have hfk := HONE.out HBS.out hkv hh
                          rw [hfk] at kF2
                          clear hh hfk hkv
                          go_wp2_with fail
                          refine (lHole_any _ _).mono ?_
                          rw [l4]
                          rintro e w' ⟨rfl, rfl⟩
                          cases acc
                          all_goals
                            go_wp2_with fail
                            go_quiet (exact KSZ.out _ _)
                            go_wp2_with fail
                            go_quiet (fail)
                            go_wp2_with fail
                            go_roundg (gk - 1)
                            case measure => omega
                            case rel => exact ⟨k + 1, by go_num, by omega, by omega, by rw [HST.out]; rfl, by first | exact below_drewN HBZ.out _ | exact below_drewN (below_drewN HBZ.out _) _ | exact below_drewN (below_drewN (below_drewN HBZ.out _) _) _⟩
                      · as_aux_lemma =>
                          rw [decide_eq_false hh] at HST l5
                          clear hh hkv
                          go_wp2_with fail
                          refine (lHole_any _ _).mono ?_
                          rw [l4]
                          rintro e w' ⟨rfl, rfl⟩
                          cases acc
                          all_goals
                            go_wp2_with fail
                            go_quiet (exact KSZ.out _ _)
                            go_wp2_with fail
                            go_quiet (fail)
                            go_wp2_with fail
                            go_roundg (gk - 1)
                            case measure => omega
                            case rel => exact ⟨k + 1, by go_num, by omega, by omega, by rw [HST.out]; rfl, by first | exact below_drewN HBZ.out _ | exact below_drewN (below_drewN HBZ.out _) _ | exact below_drewN (below_drewN (below_drewN HBZ.out _) _) _⟩
                  · as_aux_lemma =>
                      have l4 : le32 0 vkk = false := by rw [HL3.out]; exact decide_eq_false hkv
                      rw [decide_eq_false hkv] at HST
                      clear hkv
                      go_wp2_with fail
                      refine (lHole_any _ _).mono ?_
                      rw [l4]
                      rintro e w' ⟨rfl, rfl⟩
                      go_wp2_with fail
                      go_roundg (gk - 1)
                      case measure => omega
                      case rel => exact ⟨k + 1, by go_num, by omega, by omega, by rw [HST.out]; simp, HBZ.out⟩
            · as_aux_lemma =>
                obtain rfl : N = k := by omega
                have hbr := brd_eq (mo := (Z : Int)) HN.out v1 hlt hk0
                have hhb := has_bord (wd := wd) (hi := hi) (mo := (Z : Int)) hlt hk0
                obtain ⟨bb, hbb⟩ : ∃ bb, bordN ks wd hi (Z : Int) i 4 = bb := ⟨_, rfl⟩
                rw [hbb] at hbr hhb
                rw [hbr]
                have HHB2 := Lib.hid (HHB.out _ HBT.out (i : Int))
                rw [hhb] at HHB2
                clear hbz hbr hhb hbb hkl
                go_wp2_with fail
                refine HHB2.out.mono ?_
                rintro e w' ⟨rfl, rfl⟩
                cases bb
                all_goals
                  go_wp2_with fail
                  go_roundg (N - (i + 1))
                  case measure => omega
                  case rel => exact ⟨i + 1, by go_num, by omega, by omega, HBT.out, HOC3.out.below HBZ.out⟩
      · as_aux_lemma =>
          have hfi := HFA.out.hole i hlt hk0
          have hfB := HFB.out.hole i hlt hk0
          have hdr : dropF ks f2 g2 lst i = ks.getD i 0 := by unfold dropF; rw [hfB]; exact if_neg (fun h => absurd h.1 (by decide))
          rw [hdr] at kD
          rw [hfi] at cF
          have l2 : le32 0 (fq 2 (ks.getD i 0)) = false := by rw [l1]; exact decide_eq_false hk0
          have n1 : decide ((m : Int) ≤ -1) = false := decide_eq_false (by omega)
          generalize fq 2 (ks.getD i 0) = vk at *
          have HL2 := Lib.hid l2
          have HFI := Lib.hid hfi
          clear l1 l2 hfi hfB hdr hk0 hkb
          go_wp2_with fail
          refine (lHole_any _ _).mono ?_
          rw [HL2.out]
          rintro e w' ⟨rfl, rfl⟩
          go_wp2_with fail
          refine (lHole_any _ _).mono ?_
          rw [HL2.out]
          rintro e w' ⟨rfl, rfl⟩
          go_wp2_with fail
          go_roundg (gk - 1)
          case measure => omega
          case rel => exact ⟨i + 1, by go_num, by omega, by omega, HBW.out, by
            have := HOC.out
            rw [tabI_congr (G := fun k => ((cN f k (i + 1) : Nat) : Int)) (fun k hk => by
              show _ = ((cN f k i + if f i = k then 1 else 0 : Nat) : Int)
              rw [if_neg (by rw [HFI.out]; omega)]; omega)] at this
            exact this⟩
    · as_aux_lemma =>
        obtain rfl : N = i := by omega
        clear hbw hoc
        go_wp2_with fail
        go_loopw [260] (fun v260 wz => ∃ k : Nat, v260 = .int .i64 k ∧ k ≤ m ∧ Below wr.heap.size wr wz) (fun v260 _ => m - (intOf v260).toNat)
        case atStart => exact ⟨0, rfl, Nat.zero_le _, Below.refl _ _⟩
        case round =>
          obtain ⟨k, rfl, hk_, hbz⟩ := hrel
          have HBZ := Lib.hid hbz
          have HBT := Lib.hid (HBW.out.trans (hbz.mono HBW.out.size))
          by_cases hkm : k < m
          · have cG := (OG.out.below HBT.out).cellAt k (by rw [tabI_length]; exact hkm)
            rw [tabI_get hkm] at cG
            have cC := (HOC.out.below hbz).cellAt k (by rw [tabI_length]; exact hkm)
            rw [tabI_get hkm] at cC
            have hcnt := HFA.out.cnt k hkm
            rw [← hcnt.1] at cC
            have hG1 : 1 ≤ gz k := by omega
            generalize gz k = G at *
            have kI : (k : Int) < (m : Int) := by omega
            have d1 : decide (G < 1) = false := decide_eq_false (by omega)
            clear hbz hcnt
            go_wp2_with fail
            go_quiet (fail)
            go_wp2_with fail
            go_roundw
            case rel => exact ⟨k + 1, by go_num, by omega, below_drewN HBZ.out _⟩
            case measure => simp [intOf]; omega
          · obtain rfl : m = k := by omega
            have hbel := HBEL.out.trans (HBT.out.mono HBEL.out.size)
            clear hbz
            go_wp2_with fail
            go_ret
            exact ⟨rfl, hbel⟩

theorem fnPatches_walk (w : World) (a0 a1 : Option Addr) (l0 c0 l1 c1 : Nat) (z0 z1 : List Int)
    (r0 : (a0 = none ∧ l0 = 0 ∧ c0 = 0 ∧ z0 = []) ∨ ∃ x, a0 = some x ∧ l0 ≤ c0 ∧ c0 ≤ maxLen ∧ z0.length = c0 ∧ (∀ i, i < z0.length → w.cell? (x.add i) = some (.int .u8 (z0.getD i 0))) ∧ ∀ n ∈ z0, (Lit.int .u8 n).wf = true)
    (r1 : (a1 = none ∧ l1 = 0 ∧ c1 = 0 ∧ z1 = []) ∨ ∃ x, a1 = some x ∧ l1 ≤ c1 ∧ c1 ≤ maxLen ∧ z1.length = c1 ∧ (∀ i, i < z1.length → w.cell? (x.add i) = some (.int .u8 (z1.getD i 0))) ∧ ∀ n ∈ z1, (Lit.int .u8 n).wf = true) :
    Calls Try.prog 4 #[.slice a0 l0 c0, .slice a1 l1 c1] w fun e w' => e = .returned (.bool true) ∧ Below w.heap.size w w' := by
  by_cases h : l0 ≤ 1048576 ∧ l1 ≤ 1048576
  · exact fnPatches_short w a0 a1 l0 c0 l1 c1 h.1 h.2 (bytesIn_of_row r0 (by omega)) (bytesIn_of_row r1 (by omega))
  · exact fnPatches_long w a0 a1 l0 c0 l1 c1 (len_of_row r0) (len_of_row r1) h

end Go.Proofs.Yticbgeknledpcaa
