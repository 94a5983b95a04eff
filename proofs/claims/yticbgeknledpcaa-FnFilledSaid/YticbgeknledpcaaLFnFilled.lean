/- The law of filling: the walk of its code. No condition. -/
import Derived.Test.YticbgeknledpcaaFy
import Derived.Deep.RegionHeld3
import Derived.StillTactics
namespace Go.Proofs.Yticbgeknledpcaa
open Go.RowKit
set_option maxRecDepth 100000
set_option linter.unusedVariables false
set_option linter.unusedSimpArgs false

theorem fnFilled_long (w : World) (a0 a1 : Option Addr) (l0 c0 l1 c1 : Nat) (m0 : l0 ≤ 9223372036854775807) (m1 : l1 ≤ 9223372036854775807) (h : ¬ (l0 ≤ 1048576 ∧ l1 ≤ 1048576)) :
    Calls Try.prog 3 #[.slice a0 l0 c0, .slice a1 l1 c1] w fun e w' => e = .returned (.bool true) ∧ Below w.heap.size w w' := by
  go_enter Try.func3, Try.ntmps3
  go_wp2_with fail
  refine (b10Long_yes _ _ _ _ _ _ _ m0 m1 h).mono ?_
  rintro e w' ⟨rfl, rfl⟩
  go_wp2
  go_ret
  exact ⟨rfl, Below.refl _ _⟩

theorem quiet_lHole {b : Nat} {v : Bool} (h : le32 0 b = v) {w : World} (n : Nat) : Calls Try.prog 14 #[.float .f32 b] (w.drewN n) fun e w'' => e = .returned (.bool !v) ∧ ∃ m, w'' = w.drewN m := by
  refine quiet_same ((lHole_any b (w.drewN n)).mono ?_)
  rintro e w' ⟨rfl, rfl⟩
  rw [h]; exact ⟨rfl, rfl⟩
theorem wrap_div (k wd : Nat) (h : k ≤ 1000000) : wrap64 ((k : Int) / (wd : Int)) = ((k / wd : Nat) : Int) := by
  rw [← Int.natCast_ediv]
  have := Nat.div_le_self k wd
  generalize k / wd = q at *
  unfold wrap64; omega
theorem div_beq (k i wd : Nat) : ((k : Int) / (wd : Int) == (i : Int) / (wd : Int)) = decide (k / wd = i / wd) := by
  rw [← Int.natCast_ediv, ← Int.natCast_ediv]; exact Bool.eq_iff_iff.2 (by rw [beq_iff_eq, decide_eq_true_eq, Int.ofNat_inj])
theorem wm_of {W : World} {q c N : Nat} {ks : List Int} (h : MQ W q c N ks) (hk : ∀ k ∈ ks, k = -4 ∨ 0 ≤ k ∧ k ≤ 19) : WM W q c N (loQ ks) (hiQ ks) (ks.map (fq 2)) :=
  ⟨h.sl, h.qlt, by rw [List.length_map, h.len], (bounds_q hk).2.2.2⟩

set_option maxHeartbeats 40000000 in
theorem fnFilled_short (w : World) (a0 a1 : Option Addr) (l0 c0 l1 c1 : Nat) (h0 : l0 ≤ 1048576) (h1 : l1 ≤ 1048576) (hb0 : BytesIn w a0 l0) (hb1 : BytesIn w a1 l1) :
    Calls Try.prog 3 #[.slice a0 l0 c0, .slice a1 l1 c1] w fun e w' => e = .returned (.bool true) ∧ Below w.heap.size w w' := by
  go_enter Try.func3, Try.ntmps3
  go_wp2_with fail
  refine (b10Long_no _ _ _ _ _ _ _ h0 h1).mono ?_
  rintro e w' ⟨rfl, rfl⟩
  go_wp2_with fail
  refine (b10At_any _ _ _ _ 0 6 (by omega) (by omega) (by omega) hb1).mono ?_
  rintro e w' ⟨x, rfl, x0, x1, rfl⟩
  go_wp2_with fail
  refine (b10At_any _ _ _ _ 1 5 (by omega) (by omega) (by omega) hb1).mono ?_
  rintro e w' ⟨y, rfl, y0, y1, rfl⟩
  obtain ⟨wd, hwd⟩ : ∃ n : Nat, (1 : Int) + x = n := ⟨(1 + x).toNat, by omega⟩
  obtain ⟨hi, hhi⟩ : ∃ n : Nat, (1 : Int) + y = n := ⟨(1 + y).toNat, by omega⟩
  have HWD := Lib.hid hwd
  have HHI := Lib.hid hhi
  have v1 : 1 ≤ wd := by omega
  have v2 : wd ≤ 6 := by omega
  have v3 : 1 ≤ hi := by omega
  have v4 : hi ≤ 5 := by omega
  have hwh := Nat.mul_le_mul v2 v4
  clear hwd hhi
  go_wp2_with fail
  rw [HWD.out, HHI.out]
  refine (b10Quarters_any _ _ _ _ wd hi hb0 v1 (by omega) v3 (by omega) (by omega)).mono ?_
  rintro e wM ⟨qM, cM, ks, rfl, mM, -, hk, bw⟩
  clear x0 x1 y0 y1 hb0 HWD HHI
  obtain ⟨N, hN⟩ : ∃ N, N = wd * hi := ⟨_, rfl⟩
  rw [← hN] at mM ⊢
  have hv : vPic wd hi N = true := by rw [hN]; exact vPic_of v1 (by omega) v3 (by omega) (by omega)
  have HV := Lib.hid hv
  have HN := Lib.hid hN
  have hN1 : N ≤ 30 := by omega
  have hN0 : 1 ≤ N := by rw [hN]; exact Nat.mul_pos v1 v3
  have HK := Lib.hid hk
  have HLK := Lib.hid mM.len
  clear hv hN hk hwh
  have hbel := bw
  replace hb1 := hb1.below bw
  have ha : Below wM.heap.size wM (wM.alloc (.cells #[.int .i64 wd, .int .i64 hi, .slice (some ⟨qM, 0, none⟩) N cM] 26)) := (Below.refl _ _).alloc (Nat.le_refl _) _
  have bM := BoxN.last wM #[.int .i64 wd, .int .i64 hi, .slice (some ⟨qM, 0, none⟩) N cM] 26
  replace mM := mM.below ha
  replace hbel := hbel.trans (ha.mono hbel.size)
  clear bw ha hb1
  have HBQ := Lib.hid (bounds_q HK.out)
  obtain ⟨zM0, zM1, zM2, -, -, -⟩ := bM.three.cells
  go_wp2_with fail
  generalize hoM : wM.heap.size = oM at *
  generalize hwM : wM.alloc (.cells #[.int .i64 wd, .int .i64 hi, .slice (some ⟨qM, 0, none⟩) N cM] 26) = WM at *
  clear hoM hwM
  clear zM0 zM1 zM2
  refine (fillRows_q _ wd hi N qM cM ks HV.out mM).mono ?_
  rintro e wR ⟨qR, cR, rfl, mR, -, bw⟩
  have ha : Below wR.heap.size wR (wR.alloc (.cells #[.int .i64 wd, .int .i64 hi, .slice (some ⟨qR, 0, none⟩) N cR] 26)) := (Below.refl _ _).alloc (Nat.le_refl _) _
  have bR := BoxN.last wR #[.int .i64 wd, .int .i64 hi, .slice (some ⟨qR, 0, none⟩) N cR] 26
  replace mR := mR.below ha
  replace bM := (bM.below bw).below ha
  replace mM := (mM.below bw).below ha
  replace hbel := (hbel.trans (bw.mono hbel.size)).trans (ha.mono (Nat.le_trans hbel.size bw.size))
  clear bw ha
  obtain ⟨zM0, zM1, zM2, -, -, -⟩ := bM.three.cells
  go_wp2_with fail
  generalize hoR : wR.heap.size = oR at *
  generalize hwR : wR.alloc (.cells #[.int .i64 wd, .int .i64 hi, .slice (some ⟨qR, 0, none⟩) N cR] 26) = WR at *
  clear hoR hwR
  clear zM0 zM1 zM2
  refine (fillAll_q _ wd hi N qM cM (loQ ks) (hiQ ks) _ HV.out (wm_of mM HK.out) HBQ.out.1 HBQ.out.2.1 HBQ.out.2.2.1).mono ?_
  rintro e wA ⟨qA, cA, r, cs, rfl, mA, hkeep, hcnt, hr0, hcs, hrN, bw⟩
  have hpl := all_plain HN.out (by omega) HLK.out HK.out hkeep hcnt hr0 hcs
  have HPL := Lib.hid hpl
  have HKEEP := Lib.hid hkeep
  have hr30 : (r : Int) ≤ 30 := by omega
  clear hpl hkeep hcnt hr0 hcs hrN
  have ha : Below wA.heap.size wA (wA.alloc (.cells #[.int .i64 wd, .int .i64 hi, .slice (some ⟨qA, 0, none⟩) N cA] 26)) := (Below.refl _ _).alloc (Nat.le_refl _) _
  have bA := BoxN.last wA #[.int .i64 wd, .int .i64 hi, .slice (some ⟨qA, 0, none⟩) N cA] 26
  replace mA := mA.below ha
  replace bM := (bM.below bw).below ha
  replace mM := (mM.below bw).below ha
  replace bR := (bR.below bw).below ha
  replace mR := (mR.below bw).below ha
  replace hbel := (hbel.trans (bw.mono hbel.size)).trans (ha.mono (Nat.le_trans hbel.size bw.size))
  clear bw ha
  obtain ⟨zM0, zM1, zM2, -, -, -⟩ := bM.three.cells
  go_wp2_with fail
  generalize hoA : wA.heap.size = oA at *
  generalize hwA : wA.alloc (.cells #[.int .i64 wd, .int .i64 hi, .slice (some ⟨qA, 0, none⟩) N cA] 26) = WA at *
  clear hoA hwA
  clear zM0 zM1 zM2
  refine (holesOf_w _ wd hi N qM cM _ _ _ HV.out (wm_of mM HK.out)).mono ?_
  rintro e wH ⟨rfl, bw⟩
  replace bM := bM.below bw
  replace mM := mM.below bw
  replace bR := bR.below bw
  replace mR := mR.below bw
  replace bA := bA.below bw
  replace mA := mA.below bw
  replace hbel := hbel.trans (bw.mono hbel.size)
  clear bw
  obtain ⟨zA0, zA1, zA2, -, -, -⟩ := bA.three.cells
  go_wp2_with fail
  clear zA0 zA1 zA2
  refine (holesOf_w _ wd hi N qA cA _ _ cs HV.out mA).mono ?_
  rintro e wI ⟨rfl, bw⟩
  replace bM := bM.below bw
  replace mM := mM.below bw
  replace bR := bR.below bw
  replace mR := mR.below bw
  replace bA := bA.below bw
  replace mA := mA.below bw
  replace hbel := hbel.trans (bw.mono hbel.size)
  clear bw
  obtain ⟨zM0, zM1, zM2, -, -, -⟩ := bM.three.cells
  go_wp2_with fail
  clear zM0 zM1 zM2
  refine (rangeOfMap_q _ wd hi N qM cM ks HV.out mM).mono ?_
  rintro e wJ ⟨rfl, bw⟩
  replace bM := bM.below bw
  replace mM := mM.below bw
  replace bR := bR.below bw
  replace mR := mR.below bw
  replace bA := bA.below bw
  replace mA := mA.below bw
  replace hbel := hbel.trans (bw.mono hbel.size)
  clear bw
  obtain ⟨P1, P2⟩ := HPL.out
  obtain ⟨hol, hhol⟩ : ∃ hol, hol = holW (ks.map (fq 2)) N := ⟨_, rfl⟩
  obtain ⟨lft, hlft⟩ : ∃ lft, lft = holW cs N := ⟨_, rfl⟩
  obtain ⟨five, hfive⟩ : ∃ five, five = (rgF ks).2.2 := ⟨_, rfl⟩
  rw [← hhol, ← hfive] at P1 P2
  rw [← hlft] at P2
  rw [← hhol, ← hlft, ← hfive]
  have HHOL := Lib.hid hhol
  have HLFT := Lib.hid hlft
  have HFIVE := Lib.hid hfive
  have n1 : decide (((r : Nat) : Int) < 0) = false := by simp
  have n2 : ¬ ((r : Nat) : Int) < 0 := by omega
  clear hhol hlft hfive HPL
  obtain ⟨zM0, zM1, zM2, -, -, -⟩ := bM.three.cells
  obtain ⟨zR0, zR1, zR2, -, -, -⟩ := bR.three.cells
  obtain ⟨zA0, zA1, zA2, -, -, -⟩ := bA.three.cells
  by_cases hh : 0 < hol
  · cases five
    · have D2 : decide ((0 : Int) < (hol : Int)) = true := by simpa using hh
      have hhi2 : (0 : Int) < (hol : Int) := by omega
      rw [D2] at P1 P2
      simp only [Bool.and_false, Bool.false_and, Bool.not_false, Bool.not_true, Bool.and_true, Bool.true_and] at P1 P2
      obtain rfl : r = 0 := by have h9 : ¬ (0 : Int) < (r : Int) := (by simpa using P1); omega
      have hl1 : (0 : Int) < (lft : Int) := by simpa using P2
      have hl2 : 0 < lft := by omega
      clear P1 P2 D2
      go_wp2_with fail
      have SM := Lib.hid mM
      have SR := Lib.hid mR
      have SA := Lib.hid mA
      have BM := Lib.hid bM
      have BR := Lib.hid bR
      have BA := Lib.hid bA
      have HBEL := Lib.hid hbel
      have hcapM := mM.cap
      have hcapR := mR.cap
      have hcapA := mA.cap
      clear mM mR mA bM bR bA hbel zM0 zM1 zM2 zR0 zR1 zR2 zA0 zA1 zA2
      go_loopw [101] (fun v101 wr => ∃ i : Nat, v101 = .int .i64 i ∧ i ≤ N ∧ Below wJ.heap.size wJ wr) (fun v101 _ => N - (intOf v101).toNat)
      case atStart => exact ⟨0, rfl, Nat.zero_le _, Below.refl _ _⟩
      case round =>
        obtain ⟨i, rfl, hi_, hbw⟩ := hrel
        by_cases hlt : i < N
        · have kM := (SM.out.below hbw).get i hlt
          have kR := (SR.out.below hbw).get i hlt
          have kA := (SA.out.below hbw).get i hlt
          have hkb := (SM.out.below hbw).kb i
          obtain ⟨zM0, zM1, zM2, -, -, -⟩ := (BM.out.below hbw).three.cells
          obtain ⟨zR0, zR1, zR2, -, -, -⟩ := (BR.out.below hbw).three.cells
          obtain ⟨zA0, zA1, zA2, -, -, -⟩ := (BA.out.below hbw).three.cells
          have HBW := Lib.hid hbw
          clear hbw
          rw [tabI_get hlt] at kR
          have hi2 : (i : Int) < (N : Int) := by omega
          have HKI := Lib.hid hi_
          have l1 := word_hole hkb
          have hd0 : ∀ W : World, W.drewN 0 = W := fun _ => rfl
          by_cases hk0 : 0 ≤ ks.getD i 0
          · have eF : fillF ks wd i = ks.getD i 0 := by unfold fillF; rw [if_pos hk0]
            have eA := HKEEP.out i hlt (by rw [getD_word ks i (by rw [HLK.out]; exact hlt), l1]; exact decide_eq_true hk0)
            rw [getD_word ks i (by rw [HLK.out]; exact hlt)] at eA
            rw [eF] at kR
            rw [eA] at kA
            have e0 := eq32_fq (g := 2) (a := ks.getD i 0) (b := ks.getD i 0) (by omega) (by omega)
            simp only [decide_true] at e0
            simp only [hk0, decide_true] at l1
            generalize fq 2 (ks.getD i 0) = vk at *
            clear eF eA hk0 hkb hlt hi_
            go_wp2_with fail
            refine (lHole_any _ _).mono ?_
            rw [l1]
            rintro e w' ⟨rfl, rfl⟩
            go_wp2_with fail
            go_quiet (fail)
            go_wp2
            go_roundw
            case rel => exact ⟨i + 1, by go_num, by have := HKI.out; omega, below_drewN HBW.out _⟩
            case measure => simp [intOf]; omega
          · simp only [hk0, decide_false] at l1
            have hrow := row_full HN.out (by omega) hlt (by omega : ks.getD i 0 < 0)
            have hRb : (fillF ks wd i).natAbs ≤ 1000 := fillF_bd (fun j => (SM.out.kb j)) wd i
            have lR := word_hole hRb
            have HROW := Lib.hid hrow
            generalize hR : fillF ks wd i = R at *
            have HRF := Lib.hid hR
            clear hR hrow
            generalize fq 2 (ks.getD i 0) = vk at *
            generalize cs.getD i 0 = va at *
            clear hk0 hkb
            go_wp2_with fail
            refine (lHole_any _ _).mono ?_
            rw [l1]
            rintro e w' ⟨rfl, rfl⟩
            go_wp2_with fail
            go_loopw [159, 19] (fun v159 v19 wi => ∃ k : Nat, v159 = .int .i64 k ∧ k ≤ N ∧ v19 = .bool (rowB ks wd i R k) ∧ Below wr.heap.size wr wi) (fun v159 _ _ => N - (intOf v159).toNat)
            case atStart => exact ⟨0, rfl, Nat.zero_le _, rfl, Below.refl _ _⟩
            case round =>
              clear zM0 zM1 zM2 zR0 zR1 zR2 zA0 zA1 zA2 kM kR kA
              obtain ⟨k, rfl, hk_, rfl, hbi⟩ := hrel
              have hbi2 := HBW.out.trans (hbi.mono HBW.out.size)
              have kR := (SR.out.below hbi2).get i hlt
              rw [tabI_get hlt, HRF.out] at kR
              obtain ⟨zM0, zM1, zM2, -, -, -⟩ := (BM.out.below hbi2).three.cells
              obtain ⟨zR0, zR1, zR2, -, -, -⟩ := (BR.out.below hbi2).three.cells
              have HBI := Lib.hid hbi
              by_cases hkl : k < N
              · have kM := (SM.out.below hbi2).get k hkl
                have hkk := (SM.out.below hbi2).kb k
                have l2 := word_hole hkk
                have eR := eq32_fq (g := 2) (a := R) (b := ks.getD k 0) (by omega) (by omega)
                have hst : rowB ks wd i R (k + 1) = (rowB ks wd i R k || (decide (k / wd = i / wd) && (decide (0 ≤ ks.getD k 0) && decide (R = ks.getD k 0)))) := rfl
                have HST := Lib.hid hst
                have hki2 : (k : Int) < (N : Int) := by omega
                clear hst hbi hbi2
                generalize rowB ks wd i R k = acc at *
                generalize ks.getD k 0 = kk at *
                cases acc
                · have q1 : ((k : Int) / (wd : Int) == (i : Int) / (wd : Int)) = decide (k / wd = i / wd) := div_beq k i wd
                  have q2 : (((k / wd : Nat) : Int) == ((i / wd : Nat) : Int)) = decide (k / wd = i / wd) := Bool.eq_iff_iff.2 (by rw [beq_iff_eq, decide_eq_true_eq, Int.ofNat_inj])
                  have hwd1 : (1 : Int) ≤ (wd : Int) := by omega
                  have hwd0 : ¬ wd = 0 := by omega
                  have t1 : wrap64 ((k : Int) / (wd : Int)) = ((k / wd : Nat) : Int) := wrap_div k wd (by omega)
                  have t2 : wrap64 ((i : Int) / (wd : Int)) = ((i / wd : Nat) : Int) := wrap_div i wd (by omega)
                  clear q1 q2
                  have l3 : le32 0 (fq 2 kk) = decide (0 ≤ kk) := l2
                  rw [← l3] at HST
                  rw [← eR] at HST
                  generalize fq 2 kk = vkk at *
                  generalize fq 2 R = vR at *
                  clear l2 hkk hkl
                  generalize k / wd = rk at *
                  generalize i / wd = ri at *
                  by_cases e1 : rk = ri
                  · rw [decide_eq_true e1] at HST
                    simp only [Bool.false_or, Bool.true_and] at HST
                    obtain rfl : ri = rk := e1.symm
                    cases e2 : le32 0 vkk
                    · rw [e2] at HST
                      clear eR l3
                      go_wp2_with fail
                      go_quiet (exact quiet_lHole e2 _)
                      clear t1 t2
                      go_wp2
                      go_roundw
                      case rel => exact ⟨k + 1, by go_num, by omega, by rw [HST.out]; rfl, below_drewN HBI.out _⟩
                      case measure => simp [intOf]; omega
                    · rw [e2] at HST
                      clear eR l3
                      cases e3 : eq32 vR vkk
                      all_goals
                        rw [e3] at HST
                        go_wp2_with fail
                        go_quiet (exact quiet_lHole e2 _)
                        clear t1 t2
                        go_wp2
                        go_roundw
                        case rel => exact ⟨k + 1, by go_num, by omega, by rw [HST.out]; rfl, below_drewN HBI.out _⟩
                        case measure => simp [intOf]; omega
                  · rw [decide_eq_false e1] at HST
                    have e1a : ((rk : Int) == (ri : Int)) = false := by rw [beq_eq_false_iff_ne]; omega
                    have e1b : (rk == ri) = false := by rw [beq_eq_false_iff_ne]; exact e1
                    clear eR l3
                    go_wp2_with fail
                    go_quiet (fail)
                    clear t1 t2
                    go_wp2
                    go_roundw
                    case rel => exact ⟨k + 1, by go_num, by omega, by rw [HST.out]; rfl, below_drewN HBI.out _⟩
                    case measure => simp [intOf]; omega
                · generalize fq 2 kk = vkk at *
                  generalize fq 2 R = vR at *
                  clear eR l2 hkk
                  go_wp2_with fail
                  go_quiet (fail)
                  go_wp2
                  go_roundw
                  case rel => exact ⟨k + 1, by go_num, by omega, by rw [HST.out]; rfl, below_drewN HBI.out _⟩
                  case measure => simp [intOf]; omega
              · obtain rfl : N = k := by omega
                have hrw := HROW.out
                rw [hrw]
                have l4 : le32 0 (fq 2 R) = decide (0 ≤ R) := lR
                generalize decide (0 ≤ R) = bR' at *
                generalize fq 2 R = vR at *
                clear hrw lR HROW hkl
                cases bR'
                all_goals
                  go_wp2_with fail
                  refine (lHole_any _ _).mono ?_
                  rw [l4]
                  rintro e w' ⟨rfl, rfl⟩
                  go_wp2
                  go_roundw
                  case rel => exact ⟨i + 1, by go_num, by have := HKI.out; omega, HBW.out.trans (HBI.out.mono HBW.out.size)⟩
                  case measure => simp [intOf]; omega
        · obtain rfl : N = i := by omega
          have hbel := HBEL.out.trans (hbw.mono HBEL.out.size)
          go_wp2
          go_ret
          exact ⟨rfl, hbel⟩
    · have D2 : decide ((0 : Int) < (hol : Int)) = true := by simpa using hh
      have hhi2 : (0 : Int) < (hol : Int) := by omega
      rw [D2] at P1 P2
      simp only [Bool.and_false, Bool.false_and, Bool.not_false, Bool.not_true, Bool.and_true, Bool.true_and] at P1 P2
      have hr1 : (0 : Int) < (r : Int) := by simpa using P1
      have hr2 : 0 < r := by omega
      obtain rfl : lft = 0 := by have h9 : ¬ (0 : Int) < (lft : Int) := (by simpa using P2); omega
      clear P1 P2 D2
      go_wp2_with fail
      have SM := Lib.hid mM
      have SR := Lib.hid mR
      have SA := Lib.hid mA
      have BM := Lib.hid bM
      have BR := Lib.hid bR
      have BA := Lib.hid bA
      have HBEL := Lib.hid hbel
      have hcapM := mM.cap
      have hcapR := mR.cap
      have hcapA := mA.cap
      clear mM mR mA bM bR bA hbel zM0 zM1 zM2 zR0 zR1 zR2 zA0 zA1 zA2
      go_loopw [101] (fun v101 wr => ∃ i : Nat, v101 = .int .i64 i ∧ i ≤ N ∧ Below wJ.heap.size wJ wr) (fun v101 _ => N - (intOf v101).toNat)
      case atStart => exact ⟨0, rfl, Nat.zero_le _, Below.refl _ _⟩
      case round =>
        obtain ⟨i, rfl, hi_, hbw⟩ := hrel
        by_cases hlt : i < N
        · have kM := (SM.out.below hbw).get i hlt
          have kR := (SR.out.below hbw).get i hlt
          have kA := (SA.out.below hbw).get i hlt
          have hkb := (SM.out.below hbw).kb i
          obtain ⟨zM0, zM1, zM2, -, -, -⟩ := (BM.out.below hbw).three.cells
          obtain ⟨zR0, zR1, zR2, -, -, -⟩ := (BR.out.below hbw).three.cells
          obtain ⟨zA0, zA1, zA2, -, -, -⟩ := (BA.out.below hbw).three.cells
          have HBW := Lib.hid hbw
          clear hbw
          rw [tabI_get hlt] at kR
          have hi2 : (i : Int) < (N : Int) := by omega
          have HKI := Lib.hid hi_
          have l1 := word_hole hkb
          have hd0 : ∀ W : World, W.drewN 0 = W := fun _ => rfl
          by_cases hk0 : 0 ≤ ks.getD i 0
          · have eF : fillF ks wd i = ks.getD i 0 := by unfold fillF; rw [if_pos hk0]
            have eA := HKEEP.out i hlt (by rw [getD_word ks i (by rw [HLK.out]; exact hlt), l1]; exact decide_eq_true hk0)
            rw [getD_word ks i (by rw [HLK.out]; exact hlt)] at eA
            rw [eF] at kR
            rw [eA] at kA
            have e0 := eq32_fq (g := 2) (a := ks.getD i 0) (b := ks.getD i 0) (by omega) (by omega)
            simp only [decide_true] at e0
            simp only [hk0, decide_true] at l1
            generalize fq 2 (ks.getD i 0) = vk at *
            clear eF eA hk0 hkb hlt hi_
            go_wp2_with fail
            refine (lHole_any _ _).mono ?_
            rw [l1]
            rintro e w' ⟨rfl, rfl⟩
            go_wp2_with fail
            go_quiet (fail)
            go_wp2
            go_roundw
            case rel => exact ⟨i + 1, by go_num, by have := HKI.out; omega, below_drewN HBW.out _⟩
            case measure => simp [intOf]; omega
          · simp only [hk0, decide_false] at l1
            have hrow := row_full HN.out (by omega) hlt (by omega : ks.getD i 0 < 0)
            have hRb : (fillF ks wd i).natAbs ≤ 1000 := fillF_bd (fun j => (SM.out.kb j)) wd i
            have lR := word_hole hRb
            have HROW := Lib.hid hrow
            generalize hR : fillF ks wd i = R at *
            have HRF := Lib.hid hR
            clear hR hrow
            generalize fq 2 (ks.getD i 0) = vk at *
            obtain ⟨t1, u1, u2, u3⟩ := sub_milli (k := (rgF ks).1) (by have := (rgF_bd (B := 1000) ks SM.out.bd (0, 0, false) (by decide) (by decide)).1; show (rgF ks).1.natAbs ≤ _; have h8 : (rgF ks).1.natAbs ≤ 1000 := this; omega)
            obtain ⟨t2, u4, u5, u6⟩ := add_milli (k := (rgF ks).2.1) (by have := (rgF_bd (B := 1000) ks SM.out.bd (0, 0, false) (by decide) (by decide)).2; have h8 : (rgF ks).2.1.natAbs ≤ 1000 := this; omega)
            obtain ⟨x1, x2⟩ := all_cell HK.out SA.out.len SA.out.ok HLFT.out.symm HFIVE.out.symm hlt u2 u5 u3 u6
            have ar1 := fres_some u1
            have af1 := fdr_some u1
            have ar2 := fres_some u4
            have af2 := fdr_some u4
            clear u1 u2 u3 u4 u5 u6
            generalize fq 2 (rgF ks).1 = LO at *
            generalize fq 2 (rgF ks).2.1 = HI at *
            generalize cs.getD i 0 = va at *
            clear hk0 hkb
            go_wp2_with fail
            refine (lHole_any _ _).mono ?_
            rw [l1]
            rintro e w' ⟨rfl, rfl⟩
            go_wp2_with fail
            go_loopw [159, 19] (fun v159 v19 wi => ∃ k : Nat, v159 = .int .i64 k ∧ k ≤ N ∧ v19 = .bool (rowB ks wd i R k) ∧ Below wr.heap.size wr wi) (fun v159 _ _ => N - (intOf v159).toNat)
            case atStart => exact ⟨0, rfl, Nat.zero_le _, rfl, Below.refl _ _⟩
            case round =>
              clear zM0 zM1 zM2 zR0 zR1 zR2 zA0 zA1 zA2 kM kR kA
              obtain ⟨k, rfl, hk_, rfl, hbi⟩ := hrel
              have hbi2 := HBW.out.trans (hbi.mono HBW.out.size)
              have kR := (SR.out.below hbi2).get i hlt
              rw [tabI_get hlt, HRF.out] at kR
              obtain ⟨zM0, zM1, zM2, -, -, -⟩ := (BM.out.below hbi2).three.cells
              obtain ⟨zR0, zR1, zR2, -, -, -⟩ := (BR.out.below hbi2).three.cells
              have HBI := Lib.hid hbi
              by_cases hkl : k < N
              · have kM := (SM.out.below hbi2).get k hkl
                have hkk := (SM.out.below hbi2).kb k
                have l2 := word_hole hkk
                have eR := eq32_fq (g := 2) (a := R) (b := ks.getD k 0) (by omega) (by omega)
                have hst : rowB ks wd i R (k + 1) = (rowB ks wd i R k || (decide (k / wd = i / wd) && (decide (0 ≤ ks.getD k 0) && decide (R = ks.getD k 0)))) := rfl
                have HST := Lib.hid hst
                have hki2 : (k : Int) < (N : Int) := by omega
                clear hst hbi hbi2
                generalize rowB ks wd i R k = acc at *
                generalize ks.getD k 0 = kk at *
                cases acc
                · have q1 : ((k : Int) / (wd : Int) == (i : Int) / (wd : Int)) = decide (k / wd = i / wd) := div_beq k i wd
                  have q2 : (((k / wd : Nat) : Int) == ((i / wd : Nat) : Int)) = decide (k / wd = i / wd) := Bool.eq_iff_iff.2 (by rw [beq_iff_eq, decide_eq_true_eq, Int.ofNat_inj])
                  have hwd1 : (1 : Int) ≤ (wd : Int) := by omega
                  have hwd0 : ¬ wd = 0 := by omega
                  have t1 : wrap64 ((k : Int) / (wd : Int)) = ((k / wd : Nat) : Int) := wrap_div k wd (by omega)
                  have t2 : wrap64 ((i : Int) / (wd : Int)) = ((i / wd : Nat) : Int) := wrap_div i wd (by omega)
                  clear q1 q2
                  have l3 : le32 0 (fq 2 kk) = decide (0 ≤ kk) := l2
                  rw [← l3] at HST
                  rw [← eR] at HST
                  generalize fq 2 kk = vkk at *
                  generalize fq 2 R = vR at *
                  clear l2 hkk hkl
                  generalize k / wd = rk at *
                  generalize i / wd = ri at *
                  by_cases e1 : rk = ri
                  · rw [decide_eq_true e1] at HST
                    simp only [Bool.false_or, Bool.true_and] at HST
                    obtain rfl : ri = rk := e1.symm
                    cases e2 : le32 0 vkk
                    · rw [e2] at HST
                      clear eR l3
                      go_wp2_with fail
                      go_quiet (exact quiet_lHole e2 _)
                      clear t1 t2
                      go_wp2
                      go_roundw
                      case rel => exact ⟨k + 1, by go_num, by omega, by rw [HST.out]; rfl, below_drewN HBI.out _⟩
                      case measure => simp [intOf]; omega
                    · rw [e2] at HST
                      clear eR l3
                      cases e3 : eq32 vR vkk
                      all_goals
                        rw [e3] at HST
                        go_wp2_with fail
                        go_quiet (exact quiet_lHole e2 _)
                        clear t1 t2
                        go_wp2
                        go_roundw
                        case rel => exact ⟨k + 1, by go_num, by omega, by rw [HST.out]; rfl, below_drewN HBI.out _⟩
                        case measure => simp [intOf]; omega
                  · rw [decide_eq_false e1] at HST
                    have e1a : ((rk : Int) == (ri : Int)) = false := by rw [beq_eq_false_iff_ne]; omega
                    have e1b : (rk == ri) = false := by rw [beq_eq_false_iff_ne]; exact e1
                    clear eR l3
                    go_wp2_with fail
                    go_quiet (fail)
                    clear t1 t2
                    go_wp2
                    go_roundw
                    case rel => exact ⟨k + 1, by go_num, by omega, by rw [HST.out]; rfl, below_drewN HBI.out _⟩
                    case measure => simp [intOf]; omega
                · generalize fq 2 kk = vkk at *
                  generalize fq 2 R = vR at *
                  clear eR l2 hkk
                  go_wp2_with fail
                  go_quiet (fail)
                  go_wp2
                  go_roundw
                  case rel => exact ⟨k + 1, by go_num, by omega, by rw [HST.out]; rfl, below_drewN HBI.out _⟩
                  case measure => simp [intOf]; omega
              · obtain rfl : N = k := by omega
                have hrw := HROW.out
                rw [hrw]
                have l4 : le32 0 (fq 2 R) = decide (0 ≤ R) := lR
                generalize decide (0 ≤ R) = bR' at *
                generalize fq 2 R = vR at *
                clear hrw lR HROW hkl
                cases bR'
                all_goals
                  go_wp2_with fail
                  refine (lHole_any _ _).mono ?_
                  rw [l4]
                  rintro e w' ⟨rfl, rfl⟩
                  go_wp2
                  go_roundw
                  case rel => exact ⟨i + 1, by go_num, by have := HKI.out; omega, HBW.out.trans (HBI.out.mono HBW.out.size)⟩
                  case measure => simp [intOf]; omega
        · obtain rfl : N = i := by omega
          have hbel := HBEL.out.trans (hbw.mono HBEL.out.size)
          go_wp2
          go_ret
          exact ⟨rfl, hbel⟩
  · have D2 : decide ((0 : Int) < (hol : Int)) = false := by simpa using hh
    obtain rfl : hol = 0 := by omega
    rw [D2] at P1 P2
    simp only [Bool.and_false, Bool.false_and, Bool.not_false, Bool.not_true, Bool.and_true, Bool.true_and] at P1 P2
    obtain rfl : r = 0 := by have h9 : ¬ (0 : Int) < (r : Int) := (by simpa using P1); omega
    obtain rfl : lft = 0 := by have h9 : ¬ (0 : Int) < (lft : Int) := (by simpa using P2); omega
    clear P1 P2 D2
    go_wp2_with fail
    have SM := Lib.hid mM
    have SR := Lib.hid mR
    have SA := Lib.hid mA
    have BM := Lib.hid bM
    have BR := Lib.hid bR
    have BA := Lib.hid bA
    have HBEL := Lib.hid hbel
    have hcapM := mM.cap
    have hcapR := mR.cap
    have hcapA := mA.cap
    clear mM mR mA bM bR bA hbel zM0 zM1 zM2 zR0 zR1 zR2 zA0 zA1 zA2
    go_loopw [101] (fun v101 wr => ∃ i : Nat, v101 = .int .i64 i ∧ i ≤ N ∧ Below wJ.heap.size wJ wr) (fun v101 _ => N - (intOf v101).toNat)
    case atStart => exact ⟨0, rfl, Nat.zero_le _, Below.refl _ _⟩
    case round =>
      obtain ⟨i, rfl, hi_, hbw⟩ := hrel
      by_cases hlt : i < N
      · have kM := (SM.out.below hbw).get i hlt
        have kR := (SR.out.below hbw).get i hlt
        have kA := (SA.out.below hbw).get i hlt
        have hkb := (SM.out.below hbw).kb i
        obtain ⟨zM0, zM1, zM2, -, -, -⟩ := (BM.out.below hbw).three.cells
        obtain ⟨zR0, zR1, zR2, -, -, -⟩ := (BR.out.below hbw).three.cells
        obtain ⟨zA0, zA1, zA2, -, -, -⟩ := (BA.out.below hbw).three.cells
        have HBW := Lib.hid hbw
        clear hbw
        rw [tabI_get hlt] at kR
        have hi2 : (i : Int) < (N : Int) := by omega
        have HKI := Lib.hid hi_
        have l1 := word_hole hkb
        have hd0 : ∀ W : World, W.drewN 0 = W := fun _ => rfl
        by_cases hk0 : 0 ≤ ks.getD i 0
        · have eF : fillF ks wd i = ks.getD i 0 := by unfold fillF; rw [if_pos hk0]
          have eA := HKEEP.out i hlt (by rw [getD_word ks i (by rw [HLK.out]; exact hlt), l1]; exact decide_eq_true hk0)
          rw [getD_word ks i (by rw [HLK.out]; exact hlt)] at eA
          rw [eF] at kR
          rw [eA] at kA
          have e0 := eq32_fq (g := 2) (a := ks.getD i 0) (b := ks.getD i 0) (by omega) (by omega)
          simp only [decide_true] at e0
          simp only [hk0, decide_true] at l1
          generalize fq 2 (ks.getD i 0) = vk at *
          clear eF eA hk0 hkb hlt hi_
          go_wp2_with fail
          refine (lHole_any _ _).mono ?_
          rw [l1]
          rintro e w' ⟨rfl, rfl⟩
          go_wp2_with fail
          go_quiet (fail)
          go_wp2
          go_roundw
          case rel => exact ⟨i + 1, by go_num, by have := HKI.out; omega, below_drewN HBW.out _⟩
          case measure => simp [intOf]; omega
        · exact absurd (holW_some N hlt (by rw [getD_word ks i (by rw [HLK.out]; exact hlt), word_hole hkb]; exact decide_eq_false hk0)) (by rw [← HHOL.out]; omega)
      · obtain rfl : N = i := by omega
        have hbel := HBEL.out.trans (hbw.mono HBEL.out.size)
        go_wp2
        go_ret
        exact ⟨rfl, hbel⟩

theorem fnFilled_walk (w : World) (a0 a1 : Option Addr) (l0 c0 l1 c1 : Nat) (z0 z1 : List Int)
    (r0 : (a0 = none ∧ l0 = 0 ∧ c0 = 0 ∧ z0 = []) ∨ ∃ x, a0 = some x ∧ l0 ≤ c0 ∧ c0 ≤ maxLen ∧ z0.length = c0 ∧ (∀ i, i < z0.length → w.cell? (x.add i) = some (.int .u8 (z0.getD i 0))) ∧ ∀ n ∈ z0, (Lit.int .u8 n).wf = true)
    (r1 : (a1 = none ∧ l1 = 0 ∧ c1 = 0 ∧ z1 = []) ∨ ∃ x, a1 = some x ∧ l1 ≤ c1 ∧ c1 ≤ maxLen ∧ z1.length = c1 ∧ (∀ i, i < z1.length → w.cell? (x.add i) = some (.int .u8 (z1.getD i 0))) ∧ ∀ n ∈ z1, (Lit.int .u8 n).wf = true) :
    Calls Try.prog 3 #[.slice a0 l0 c0, .slice a1 l1 c1] w fun e w' => e = .returned (.bool true) ∧ Below w.heap.size w w' := by
  by_cases h : l0 ≤ 1048576 ∧ l1 ≤ 1048576
  · exact fnFilled_short w a0 a1 l0 c0 l1 c1 h.1 h.2 (bytesIn_of_row r0 (by omega)) (bytesIn_of_row r1 (by omega))
  · exact fnFilled_long w a0 a1 l0 c0 l1 c1 (len_of_row r0) (len_of_row r1) h

end Go.Proofs.Yticbgeknledpcaa
