/- The law of medians: the walk of its code. No condition. -/
import Derived.Test.YtmpbnmmpniganaaYp
import Derived.Test.YtmpbnmmpniganaaYq
import Derived.Test.YtmpbnmmpniganaaSame
import Derived.Test.YtmpbnmmpniganaaWb
import Derived.Test.YtmpbnmmpniganaaLaw
import Derived.Deep.RegionHeld3
import Derived.StillTactics
import Derived.Deep.CutRange
import Derived.Deep.LoopGhost
namespace Go.Proofs.Ytmpbnmmpniganaa
open Go.RowKit
set_option maxRecDepth 100000
set_option linter.unusedVariables false
set_option linter.unusedSimpArgs false

theorem fnMedians_long (w : World) (a0 a1 : Option Addr) (l0 c0 l1 c1 : Nat) (m0 : l0 ≤ 9223372036854775807) (m1 : l1 ≤ 9223372036854775807) (h : ¬ (l0 ≤ 1048576 ∧ l1 ≤ 1048576)) :
    Calls Try.prog 5 #[.slice a0 l0 c0, .slice a1 l1 c1] w fun e w' => e = .returned (.bool true) ∧ Below w.heap.size w w' := by
  go_enter Try.func5, Try.ntmps5
  go_wp2_with fail
  refine (b10Long_yes _ _ _ _ _ _ _ m0 m1 h).mono ?_
  rintro e w' ⟨rfl, rfl⟩
  go_wp2
  go_ret
  exact ⟨rfl, Below.refl _ _⟩

theorem quiet_lHoleT {b : Nat} (h : le32 0 b = true) {w : World} (n : Nat) : Calls Try.prog 14 #[.float .f32 b] (w.drewN n) fun e w'' => e = .returned (.bool false) ∧ ∃ m, w'' = w.drewN m := by
  refine quiet_same ((lHole_any b (w.drewN n)).mono ?_)
  rintro e w' ⟨rfl, rfl⟩
  rw [h]; exact ⟨rfl, rfl⟩
theorem quiet_lHoleF {b : Nat} (h : le32 0 b = false) {w : World} (n : Nat) : Calls Try.prog 14 #[.float .f32 b] (w.drewN n) fun e w'' => e = .returned (.bool true) ∧ ∃ m, w'' = w.drewN m := by
  refine quiet_same ((lHole_any b (w.drewN n)).mono ?_)
  rintro e w' ⟨rfl, rfl⟩
  rw [h]; exact ⟨rfl, rfl⟩
theorem wrap_divM (k wd : Nat) (h : k ≤ 1000000) : wrap64 ((k : Int) / (wd : Int)) = ((k / wd : Nat) : Int) := by
  rw [← Int.natCast_ediv]
  have := Nat.div_le_self k wd
  generalize k / wd = q at *
  unfold wrap64; omega
theorem sameMap_y2 (w : World) (a b : Int) (s1 s2 : Option Addr) (n1 n2 c1 c2 : Nat) (xs : List Nat) (h1 : SlF w (.slice s1 n1 c1) xs) (h2 : SlF w (.slice s2 n2 c2) xs) :
    Calls Try.prog 13 #[.agg #[.int .i64 a, .int .i64 b, .slice s1 n1 c1], .agg #[.int .i64 a, .int .i64 b, .slice s2 n2 c2]] w fun e w' => e = .returned (.bool true) ∧ Below w.heap.size w w' :=
  sameMap_yes w a b s1 s2 n1 n2 c1 c2 xs xs h1 h2 rfl

set_option maxHeartbeats 40000000 in
theorem fnMedians_short (w : World) (a0 a1 : Option Addr) (l0 c0 l1 c1 : Nat) (h0 : l0 ≤ 1048576) (h1 : l1 ≤ 1048576) (hb0 : BytesIn w a0 l0) (hb1 : BytesIn w a1 l1) :
    Calls Try.prog 5 #[.slice a0 l0 c0, .slice a1 l1 c1] w fun e w' => e = .returned (.bool true) ∧ Below w.heap.size w w' := by
  go_enter Try.func5, Try.ntmps5
  go_wp2_with fail
  refine (b10Long_no _ _ _ _ _ _ _ h0 h1).mono ?_
  rintro e w' ⟨rfl, rfl⟩
  go_wp2_with fail
  refine (b10At_any _ _ _ _ 0 6 (by omega) (by omega) (by omega) hb1).mono ?_
  rintro e w' ⟨x, rfl, x0, x1, rfl⟩
  go_wp2_with fail
  refine (b10At_any _ _ _ _ 1 5 (by omega) (by omega) (by omega) hb1).mono ?_
  rintro e w' ⟨y, rfl, y0, y1, rfl⟩
  obtain ⟨wd, hwd⟩ : ∃ n : Nat, (1 : Int) + x = n := ⟨(1 + x).toNat, by omega⟩
  obtain ⟨hi, hhi⟩ : ∃ n : Nat, (1 : Int) + y = n := ⟨(1 + y).toNat, by omega⟩
  have HWD := Lib.hid hwd
  have HHI := Lib.hid hhi
  have v1 : 1 ≤ wd := by omega
  have v2 : wd ≤ 6 := by omega
  have v3 : 1 ≤ hi := by omega
  have v4 : hi ≤ 5 := by omega
  have hwh := Nat.mul_le_mul v2 v4
  clear hwd hhi
  go_wp2_with fail
  refine (b10At_any _ _ _ _ 2 4 (by omega) (by omega) (by omega) hb1).mono ?_
  rintro e w' ⟨z, rfl, z0, z1, rfl⟩
  obtain ⟨r, rfl⟩ := Int.eq_ofNat_of_zero_le z0
  have hr : r ≤ 3 := by omega
  clear hb1
  go_wp2_with fail
  rw [HWD.out, HHI.out]
  refine (b10Quarters_any _ _ _ _ wd hi hb0 v1 (by omega) v3 (by omega) (by omega)).mono ?_
  rintro e wM ⟨qM, cM, ks, rfl, mM, -, hk, bw⟩
  clear x0 x1 y0 y1 z0 z1 hb0 HWD HHI
  obtain ⟨N, hN⟩ : ∃ N, N = wd * hi := ⟨_, rfl⟩
  rw [← hN] at mM ⊢
  have hv : vPic wd hi N = true := by rw [hN]; exact vPic_of v1 (by omega) v3 (by omega) (by omega)
  have HV := Lib.hid hv
  have HN := Lib.hid hN
  have hN1 : N ≤ 30 := by omega
  have hN0 : 1 ≤ N := by rw [hN]; exact Nat.mul_pos v1 v3
  have HK := Lib.hid hk
  have HLK := Lib.hid mM.len
  clear hv hN hk hwh
  have hbel := bw
  have ha : Below wM.heap.size wM (wM.alloc (.cells #[.int .i64 wd, .int .i64 hi, .slice (some ⟨qM, 0, none⟩) N cM] 27)) := (Below.refl _ _).alloc (Nat.le_refl _) _
  have bM := BoxN.last wM #[.int .i64 wd, .int .i64 hi, .slice (some ⟨qM, 0, none⟩) N cM] 27
  replace mM := mM.below ha
  replace hbel := hbel.trans (ha.mono hbel.size)
  clear bw ha
  obtain ⟨zM0, zM1, zM2, -, -, -⟩ := bM.three.cells
  go_wp2_with fail
  generalize hoM : wM.heap.size = oM at *
  generalize hwM : wM.alloc (.cells #[.int .i64 wd, .int .i64 hi, .slice (some ⟨qM, 0, none⟩) N cM] 27) = WM at *
  clear hoM hwM
  clear zM0 zM1 zM2
  refine (medianMap_q _ wd hi N qM cM ks r hr (by omega) HV.out mM).mono ?_
  rintro e wD ⟨qD, cD, rfl, mD, -, bw⟩
  have ha : Below wD.heap.size wD (wD.alloc (.cells #[.int .i64 wd, .int .i64 hi, .slice (some ⟨qD, 0, none⟩) N cD] 27)) := (Below.refl _ _).alloc (Nat.le_refl _) _
  have bD := BoxN.last wD #[.int .i64 wd, .int .i64 hi, .slice (some ⟨qD, 0, none⟩) N cD] 27
  replace mD := mD.below ha
  replace bM := (bM.below bw).below ha
  replace mM := (mM.below bw).below ha
  replace hbel := (hbel.trans (bw.mono hbel.size)).trans (ha.mono (Nat.le_trans hbel.size bw.size))
  clear bw ha
  have KZ := Lib.hid (fun W (h : MQ W qM cM N ks) => medianMap_q W wd hi N qM cM ks 0 (by omega) (by omega) HV.out h)
  rw [show ((0 : Nat) : Int) = 0 from rfl, medF_zero HN.out (by omega) HLK.out HK.out] at KZ
  obtain ⟨zM0, zM1, zM2, -, -, -⟩ := bM.three.cells
  go_wp2_with fail
  generalize hoD : wD.heap.size = oD at *
  generalize hwD : wD.alloc (.cells #[.int .i64 wd, .int .i64 hi, .slice (some ⟨qD, 0, none⟩) N cD] 27) = WD at *
  clear hoD hwD
  clear zM0 zM1 zM2
  refine (KZ.out _ mM).mono ?_
  rintro e wE ⟨qE, cE, rfl, mE, -, bw⟩
  clear KZ
  have ha : Below wE.heap.size wE (wE.alloc (.cells #[.int .i64 wd, .int .i64 hi, .slice (some ⟨qE, 0, none⟩) N cE] 27)) := (Below.refl _ _).alloc (Nat.le_refl _) _
  have bE := BoxN.last wE #[.int .i64 wd, .int .i64 hi, .slice (some ⟨qE, 0, none⟩) N cE] 27
  replace mE := mE.below ha
  replace bM := (bM.below bw).below ha
  replace mM := (mM.below bw).below ha
  replace bD := (bD.below bw).below ha
  replace mD := (mD.below bw).below ha
  replace hbel := (hbel.trans (bw.mono hbel.size)).trans (ha.mono (Nat.le_trans hbel.size bw.size))
  clear bw ha
  have hcapM := mM.cap
  have hcapD := mD.cap
  have hcapE := mE.cap
  obtain ⟨zD0, zD1, zD2, -, -, -⟩ := bD.three.cells
  go_wp2_with fail
  generalize hoE : wE.heap.size = oE at *
  generalize hwE : wE.alloc (.cells #[.int .i64 wd, .int .i64 hi, .slice (some ⟨qE, 0, none⟩) N cE] 27) = WE at *
  clear hoE hwE
  clear zD0 zD1 zD2
  refine (validMap_any _ _ _ _ _ (by omega) _).mono ?_
  rw [HV.out]
  rintro e wX ⟨rfl, bw⟩
  replace bM := bM.below bw
  replace mM := mM.below bw
  replace bD := bD.below bw
  replace mD := mD.below bw
  replace bE := bE.below bw
  replace mE := mE.below bw
  replace hbel := hbel.trans (bw.mono hbel.size)
  clear bw
  obtain ⟨zE0, zE1, zE2, -, -, -⟩ := bE.three.cells
  obtain ⟨zM0, zM1, zM2, -, -, -⟩ := bM.three.cells
  go_wp2_with fail
  clear zE0 zE1 zE2 zM0 zM1 zM2
  refine (sameMap_y2 _ wd hi (some ⟨qE, 0, none⟩) (some ⟨qM, 0, none⟩) N N cE cM _ mE.sl mM.sl).mono ?_
  rintro e wY ⟨rfl, bw⟩
  replace bM := bM.below bw
  replace mM := mM.below bw
  replace bD := bD.below bw
  replace mD := mD.below bw
  replace bE := bE.below bw
  replace mE := mE.below bw
  replace hbel := hbel.trans (bw.mono hbel.size)
  clear bw
  have SM := Lib.hid mM
  have SD := Lib.hid mD
  have BM := Lib.hid bM
  have BD := Lib.hid bD
  have HBEL := Lib.hid hbel
  have KMA := Lib.hid (fun W (hW : Below wY.heap.size wY W) x y (hx : x < wd) (hy : y < hi) => medianAt_q W wd hi N qM cM ks x y r hx hy hr (by omega) HV.out (SM.out.below hW))
  obtain ⟨zM0, zM1, zM2, -, -, -⟩ := bM.three.cells
  clear mM mD mE bM bD bE hbel
  go_wp2_with fail
  clear zM0 zM1 zM2
  go_loopw [81] (fun v81 wr => ∃ i : Nat, v81 = .int .i64 i ∧ i ≤ N ∧ Below wY.heap.size wY wr) (fun v81 _ => N - (intOf v81).toNat)
  case atStart => exact ⟨0, rfl, Nat.zero_le _, Below.refl _ _⟩
  case round =>
    obtain ⟨i, rfl, hi_, hbw⟩ := hrel
    have HBW := Lib.hid hbw
    by_cases hlt : i < N
    · have tm : ((i : Int) % (wd : Int)) = ((i % wd : Nat) : Int) := by simp
      have tq := wrap_divM i wd (by omega)
      have wd0 : ¬ (wd : Int) = 0 := by omega
      have wd0' : ¬ wd = 0 := by omega
      have hxl : i % wd < wd := Nat.mod_lt _ (by omega)
      have hyl : i / wd < hi := Nat.div_lt_of_lt_mul (by rw [← HN.out]; exact hlt)
      have hxy : i % wd + wd * (i / wd) = i := Nat.mod_add_div _ _
      have hmv : medF ks wd hi r i = med (wsF ks wd (i % wd) (i / wd) r N) := by rw [medF_ws, ← HN.out]
      have KA := Lib.hid (fun W hW => KMA.out W hW (i % wd) (i / wd) hxl hyl)
      rw [hxy, hmv] at KA
      have KD := Lib.hid (fun W (hW : Below wY.heap.size wY W) => (SD.out.below hW).get i hlt)
      rw [tabI_get hlt, hmv] at KD
      have hkd := (SD.out.below hbw).kb i
      rw [tabI_get hlt, hmv] at hkd
      have hi2 : (i : Int) < (N : Int) := by omega
      have HI := Lib.hid hi_
      obtain ⟨zM0, zM1, zM2, -, -, -⟩ := (BM.out.below hbw).three.cells
      clear hmv hxy hbw hi_ 
      generalize i % wd = x at *
      generalize i / wd = y at *
      obtain ⟨m, hm⟩ : ∃ m, med (wsF ks wd x y r N) = m := ⟨_, rfl⟩
      have HM := Lib.hid hm
      rw [hm] at KA KD hkd
      clear hm
      go_wp2_with fail
      simp only [tm, tq]
      clear tm tq zM0 zM1 zM2
      go_loopw [93, 16, 17, 18, 19] (fun v93 v16 v17 v18 v19 wz => ∃ k : Nat, v93 = .int .i64 k ∧ k ≤ N ∧ v16 = .int .i64 ((wsF ks wd x y r k).length : Nat) ∧ v17 = .int .i64 (lsN (wsF ks wd x y r k) m : Nat) ∧ v18 = .int .i64 (gtN (wsF ks wd x y r k) m : Nat) ∧ v19 = .bool (isN (wsF ks wd x y r k) m) ∧ Below wr.heap.size wr wz) (fun v93 _ _ _ _ _ => N - (intOf v93).toNat)
      case atStart => exact ⟨0, rfl, Nat.zero_le _, rfl, rfl, rfl, rfl, Below.refl _ _⟩
      case round =>
        obtain ⟨k, rfl, hk_, rfl, rfl, rfl, rfl, hbz⟩ := hrel
        have hbt := HBW.out.trans (hbz.mono HBW.out.size)
        have HBZ := Lib.hid hbz
        by_cases hkl : k < N
        · have kM := (SM.out.below hbt).get k hkl
          have kD := KD.out _ hbt
          have hkb := (SM.out.below hbt).kb k
          obtain ⟨zM0, zM1, zM2, -, -, -⟩ := (BM.out.below hbt).three.cells
          obtain ⟨zD0, zD1, zD2, -, -, -⟩ := (BD.out.below hbt).three.cells
          have hki2 : (k : Int) < (N : Int) := by omega
          have tm : ((k : Int) % (wd : Int)) = ((k % wd : Nat) : Int) := by simp
          have tq := wrap_divM k wd (by omega)
          have HIN := Lib.hid (inW_eq (x := x) (y := y) (r := r) (rfl : k % wd = k % wd) (rfl : k / wd = k / wd))
          have hul : k % wd < wd := Nat.mod_lt _ (by omega)
          have hvl : k / wd < hi := Nat.div_lt_of_lt_mul (by rw [← HN.out]; exact hkl)
          have SOUT := Lib.hid (fun h => wsF_out (ks := ks) (wd := wd) (x := x) (y := y) (r := r) (k := k) h)
          have SHOL := Lib.hid (fun h1 h2 => wsF_hole (ks := ks) (wd := wd) (x := x) (y := y) (r := r) (k := k) h1 h2)
          have SVAL := Lib.hid (fun h1 h2 => wsF_val (ks := ks) (wd := wd) (x := x) (y := y) (r := r) (k := k) h1 h2)
          have hln := wsF_len ks wd x y r k
          have hl1 := lsN_le (wsF ks wd x y r k) m
          have hl2 := gtN_le (wsF ks wd x y r k) m
          have hle := le0_fq (k := ks.getD k 0) (by omega)
          have hc1 := lt32_fq (g := 2) (a := ks.getD k 0) (b := m) (by omega) (by omega)
          have hc2 := lt32_fq (g := 2) (a := m) (b := ks.getD k 0) (by omega) (by omega)
          have hc3 := eq32_fq (g := 2) (a := ks.getD k 0) (b := m) (by omega) (by omega)
          generalize wsF ks wd x y r k = A at *
          generalize ks.getD k 0 = a at *
          generalize k % wd = u at *
          generalize k / wd = v at *
          have HLN := Lib.hid (And.intro hln (And.intro hl1 hl2))
          have w1 : IntKind.i64.wrap ((x : Int) - (r : Int)) = (x : Int) - (r : Int) := IntWalk.i64_in _ (by omega)
          have w2 : IntKind.i64.wrap ((y : Int) - (r : Int)) = (y : Int) - (r : Int) := IntWalk.i64_in _ (by omega)
          have hnI : (A.length : Int) ≤ 30 := by omega
          have hnJ : (lsN A m : Int) ≤ 30 := by omega
          have hnK : (gtN A m : Int) ≤ 30 := by omega
          clear hbt hbz hln hl1 hl2
          go_upto_region 25 with fail
          simp only [tm, tq]
          clear tm tq
          by_cases p1 : x ≤ u + r
          · have A1 : decide ((u : Int) < (x : Int) - (r : Int)) = false := decide_eq_false (by omega)
            by_cases p2 : u ≤ x + r
            · have A2 : decide ((x : Int) + (r : Int) < (u : Int)) = false := decide_eq_false (by omega)
              by_cases p3 : y ≤ v + r
              · have A3 : decide ((v : Int) < (y : Int) - (r : Int)) = false := decide_eq_false (by omega)
                by_cases p4 : v ≤ y + r
                · have A4 : decide ((y : Int) + (r : Int) < (v : Int)) = false := decide_eq_false (by omega)
                  have hin := HIN.out
                  rw [decide_eq_true p1, decide_eq_true p2, decide_eq_true p3, decide_eq_true p4] at hin
                  simp only [Bool.and_true] at hin
                  have HIN2 := Lib.hid hin
                  clear hin HIN SOUT p1 p2 p3 p4
                  by_cases h0 : 0 ≤ a
                  · have hst := SVAL.out HIN2.out h0
                    have HST := Lib.hid hst
                    rw [decide_eq_true h0] at hle
                    generalize fq 2 a = va at *
                    generalize fq 2 m = vm at *
                    clear hst SVAL SHOL HIN2
                    rcases Int.lt_trichotomy a m with c | c | c
                    · as_aux_lemma =>
                      rw [decide_eq_true c] at hc1
                      rw [decide_eq_false (by omega)] at hc2 hc3
                      have hs2 : (A ++ [a]).length = A.length + 1 := by simp
                      have hs3 := lsN_app A m a
                      have hs4 := gtN_app A m a
                      have hs5 := isN_app A m a
                      rw [← HST.out] at hs2 hs3 hs4 hs5
                      rw [if_pos c] at hs3
                      rw [if_neg (by omega)] at hs4
                      rw [decide_eq_false (by omega), Bool.or_false] at hs5
                      have HS := Lib.hid (And.intro hs2 (And.intro hs3 (And.intro hs4 hs5)))
                      clear hs2 hs3 hs4 hs5 HST
                      generalize isN A m = isb at *
                      generalize lsN A m = ls at *
                      generalize gtN A m = gt at *
                      generalize A.length = n at *
                      go_wp2_with fail
                      refine (lHole_any _ _).mono ?_
                      rw [hle]
                      rintro e w' ⟨rfl, rfl⟩
                      cases isb
                      all_goals
                        go_wp2_with fail
                        go_quiet (fail)
                        go_wp2_with fail
                        go_quiet (fail)
                        go_wp2_with fail
                        go_quiet (fail)
                        go_wp2_with fail
                        go_roundw
                        case rel => exact ⟨k + 1, by go_num, by omega, by (rw [HS.out.1]; try rfl), by (rw [HS.out.2.1]; try rfl), by (rw [HS.out.2.2.1]; try rfl), by (rw [HS.out.2.2.2]; try rfl), below_drewN HBZ.out _⟩
                        case measure => simp [intOf]; omega
                    · as_aux_lemma =>
                      rw [decide_eq_false (by omega)] at hc1 hc2
                      rw [decide_eq_true c] at hc3
                      have hs2 : (A ++ [a]).length = A.length + 1 := by simp
                      have hs3 := lsN_app A m a
                      have hs4 := gtN_app A m a
                      have hs5 := isN_app A m a
                      rw [← HST.out] at hs2 hs3 hs4 hs5
                      rw [if_neg (by omega)] at hs3
                      rw [if_neg (by omega)] at hs4
                      rw [decide_eq_true c, Bool.or_true] at hs5
                      have HS := Lib.hid (And.intro hs2 (And.intro hs3 (And.intro hs4 hs5)))
                      clear hs2 hs3 hs4 hs5 HST
                      generalize isN A m = isb at *
                      generalize lsN A m = ls at *
                      generalize gtN A m = gt at *
                      generalize A.length = n at *
                      go_wp2_with fail
                      refine (lHole_any _ _).mono ?_
                      rw [hle]
                      rintro e w' ⟨rfl, rfl⟩
                      cases isb
                      all_goals
                        go_wp2_with fail
                        go_quiet (fail)
                        go_wp2_with fail
                        go_quiet (fail)
                        go_wp2_with fail
                        go_quiet (fail)
                        go_wp2_with fail
                        go_roundw
                        case rel => exact ⟨k + 1, by go_num, by omega, by (rw [HS.out.1]; try rfl), by (rw [HS.out.2.1]; try rfl), by (rw [HS.out.2.2.1]; try rfl), by (rw [HS.out.2.2.2]; try rfl), below_drewN HBZ.out _⟩
                        case measure => simp [intOf]; omega
                    · as_aux_lemma =>
                      rw [decide_eq_true c] at hc2
                      rw [decide_eq_false (by omega)] at hc1 hc3
                      have hs2 : (A ++ [a]).length = A.length + 1 := by simp
                      have hs3 := lsN_app A m a
                      have hs4 := gtN_app A m a
                      have hs5 := isN_app A m a
                      rw [← HST.out] at hs2 hs3 hs4 hs5
                      rw [if_neg (by omega)] at hs3
                      rw [if_pos c] at hs4
                      rw [decide_eq_false (by omega), Bool.or_false] at hs5
                      have HS := Lib.hid (And.intro hs2 (And.intro hs3 (And.intro hs4 hs5)))
                      clear hs2 hs3 hs4 hs5 HST
                      generalize isN A m = isb at *
                      generalize lsN A m = ls at *
                      generalize gtN A m = gt at *
                      generalize A.length = n at *
                      go_wp2_with fail
                      refine (lHole_any _ _).mono ?_
                      rw [hle]
                      rintro e w' ⟨rfl, rfl⟩
                      cases isb
                      all_goals
                        go_wp2_with fail
                        go_quiet (fail)
                        go_wp2_with fail
                        go_quiet (fail)
                        go_wp2_with fail
                        go_quiet (fail)
                        go_wp2_with fail
                        go_roundw
                        case rel => exact ⟨k + 1, by go_num, by omega, by (rw [HS.out.1]; try rfl), by (rw [HS.out.2.1]; try rfl), by (rw [HS.out.2.2.1]; try rfl), by (rw [HS.out.2.2.2]; try rfl), below_drewN HBZ.out _⟩
                        case measure => simp [intOf]; omega
                  · have hst := SHOL.out HIN2.out h0
                    have HST := Lib.hid hst
                    rw [decide_eq_false h0] at hle
                    generalize fq 2 a = va at *
                    generalize fq 2 m = vm at *
                    clear hst SVAL SHOL HIN2 hc1 hc2 hc3
                    go_wp2_with fail
                    refine (lHole_any _ _).mono ?_
                    rw [hle]
                    rintro e w' ⟨rfl, rfl⟩
                    go_wp2
                    go_roundw
                    case rel => exact ⟨k + 1, by go_num, by omega, by rw [HST.out], by rw [HST.out], by rw [HST.out], by rw [HST.out], HBZ.out⟩
                    case measure => simp [intOf]; omega
                · have A4 : decide ((y : Int) + (r : Int) < (v : Int)) = true := decide_eq_true (by omega)
                  have hno := decide_eq_false p4
                  have hin := HIN.out
                  rw [hno] at hin
                  simp only [Bool.and_false, Bool.false_and, Bool.and_true, Bool.true_and] at hin
                  have HST := Lib.hid (SOUT.out hin)
                  clear hin HIN SOUT SHOL SVAL hc1 hc2 hc3 hle hno
                  go_wp2_with fail
                  go_roundw
                  case rel => exact ⟨k + 1, by go_num, by omega, by rw [HST.out], by rw [HST.out], by rw [HST.out], by rw [HST.out], HBZ.out⟩
                  case measure => simp [intOf]; omega
              · have A3 : decide ((v : Int) < (y : Int) - (r : Int)) = true := decide_eq_true (by omega)
                have hno := decide_eq_false p3
                have hin := HIN.out
                rw [hno] at hin
                simp only [Bool.and_false, Bool.false_and, Bool.and_true, Bool.true_and] at hin
                have HST := Lib.hid (SOUT.out hin)
                clear hin HIN SOUT SHOL SVAL hc1 hc2 hc3 hle hno
                go_wp2_with fail
                go_roundw
                case rel => exact ⟨k + 1, by go_num, by omega, by rw [HST.out], by rw [HST.out], by rw [HST.out], by rw [HST.out], HBZ.out⟩
                case measure => simp [intOf]; omega
            · have A2 : decide ((x : Int) + (r : Int) < (u : Int)) = true := decide_eq_true (by omega)
              have hno := decide_eq_false p2
              have hin := HIN.out
              rw [hno] at hin
              simp only [Bool.and_false, Bool.false_and, Bool.and_true, Bool.true_and] at hin
              have HST := Lib.hid (SOUT.out hin)
              clear hin HIN SOUT SHOL SVAL hc1 hc2 hc3 hle hno
              go_wp2_with fail
              go_roundw
              case rel => exact ⟨k + 1, by go_num, by omega, by rw [HST.out], by rw [HST.out], by rw [HST.out], by rw [HST.out], HBZ.out⟩
              case measure => simp [intOf]; omega
          · have A1 : decide ((u : Int) < (x : Int) - (r : Int)) = true := decide_eq_true (by omega)
            have hno := decide_eq_false p1
            have hin := HIN.out
            rw [hno] at hin
            simp only [Bool.and_false, Bool.false_and, Bool.and_true, Bool.true_and] at hin
            have HST := Lib.hid (SOUT.out hin)
            clear hin HIN SOUT SHOL SVAL hc1 hc2 hc3 hle hno
            go_wp2_with fail
            go_roundw
            case rel => exact ⟨k + 1, by go_num, by omega, by rw [HST.out], by rw [HST.out], by rw [HST.out], by rw [HST.out], HBZ.out⟩
            case measure => simp [intOf]; omega
        · obtain rfl : N = k := by omega
          clear hk_ hkl hbz
          have HBT := Lib.hid hbt
          obtain ⟨zM0, zM1, zM2, -, -, -⟩ := (BM.out.below hbt).three.cells
          clear hbt
          obtain ⟨A, hA⟩ : ∃ A, wsF ks wd x y r N = A := ⟨_, rfl⟩
          have hAle : A.length ≤ 30 := by rw [← hA]; exact Nat.le_trans (wsF_len _ _ _ _ _ _) hN1
          rw [hA] at HM ⊢
          clear hA
          have hAl : A.length = 0 → m = -4 := fun h => by
            have e : A = [] := List.length_eq_zero_iff.1 h
            have h2 := HM.out; rw [e, med_nil] at h2; exact h2.symm
          have hAm : 0 < A.length → isN A m = true ∧ lsN A m ≤ A.length / 2 ∧ gtN A m ≤ A.length / 2 := fun h => by
            have h2 := med_law h; rw [HM.out] at h2; exact h2
          have HAL := Lib.hid hAl
          have HAM := Lib.hid hAm
          clear hAl hAm
          go_wp2_with fail
          (with_reducible refine (KA.out _ HBT.out).mono ?_)
          rintro e w2 ⟨rfl, hb2⟩
          have hbt2 := HBT.out.trans (hb2.mono HBT.out.size)
          have HB2 := Lib.hid hbt2
          clear zM0 zM1 zM2 hb2
          obtain ⟨zD0, zD1, zD2, -, -, -⟩ := (BD.out.below hbt2).three.cells
          have kD := KD.out _ hbt2
          have e0 := eq32_fq (g := 2) (a := m) (b := m) (by omega) (by omega)
          rw [decide_eq_true rfl] at e0
          clear hbt2
          by_cases hz : A.length = 0
          · have hm4 := HAL.out hz
            have cm : fq 2 (-4) = 3212836864 := by decide +kernel
            have e1 : eq32 3212836864 3212836864 = true := by decide
            rw [hm4, cm] at kD
            rw [hm4, cm]
            rw [hz]
            have h1 : lsN A m = 0 := by have := lsN_le A m; omega
            have h2 : gtN A m = 0 := by have := gtN_le A m; omega
            rw [hm4] at h1 h2
            rw [h1, h2]
            clear e0 cm hz h1 h2
            go_wp2_with fail
            go_roundw
            case rel => exact ⟨i + 1, by go_num, by have := HI.out; omega, HB2.out⟩
            case measure => simp [intOf]; omega
          · obtain ⟨b1, b2, b3⟩ := HAM.out (by omega)
            rw [b1]
            have q0 : ((A.length : Int) == 0) = false := by rw [beq_eq_false_iff_ne]; omega
            have q0' : (A.length == 0) = false := by rw [beq_eq_false_iff_ne]; omega
            have q7 : 0 < A.length := by omega
            have q3 : decide ((A.length : Int) / 2 < (lsN A m : Int)) = false := decide_eq_false (by omega)
            have q4 : decide ((A.length : Int) / 2 < (gtN A m : Int)) = false := decide_eq_false (by omega)
            clear hz
            clear b1 b2 b3
            go_wp2_with fail
            go_roundw
            case rel => exact ⟨i + 1, by go_num, by have := HI.out; omega, HB2.out⟩
            case measure => simp [intOf]; omega
    · obtain rfl : N = i := by omega
      have hbel := HBEL.out.trans (hbw.mono HBEL.out.size)
      have mM := SM.out.below hbw
      have bM := BM.out.below hbw
      clear SM SD BM BD HBEL HBW hbw KMA hi_ hlt
      go_wp2_with fail
      have c1 : fq 2 4 = 1065353216 := by decide +kernel
      have KF := Lib.hid (fun W => sflat_any W wd hi (fq 2 4) (fq_lt (by decide)) v1 (by omega) v3 (by omega) (by rw [← HN.out]; omega))
      rw [c1] at KF
      clear c1
      refine (KF.out _).mono ?_
      rintro e wG ⟨qG, cG, rfl, sG, hGl, -, bw⟩
      clear KF
      rw [← HN.out] at sG ⊢
      have c1 : fq 2 4 = 1065353216 := by decide +kernel
      have mG : MW wG qG cG N (List.replicate N (fq 2 4)) := ⟨by rw [c1]; exact sG, hGl, List.length_replicate⟩
      clear c1 sG hGl
      have ha : Below wG.heap.size wG (wG.alloc (.cells #[.int .i64 wd, .int .i64 hi, .slice (some ⟨qG, 0, none⟩) N cG] 37)) := (Below.refl _ _).alloc (Nat.le_refl _) _
      have bG := BoxN.last wG #[.int .i64 wd, .int .i64 hi, .slice (some ⟨qG, 0, none⟩) N cG] 37
      replace mG := mG.below ha
      replace bM := (bM.below bw).below ha
      replace mM := (mM.below bw).below ha
      replace hbel := (hbel.trans (bw.mono hbel.size)).trans (ha.mono (Nat.le_trans hbel.size bw.size))
      clear bw ha
      have KP := Lib.hid (fun W (h : MQ W qM cM N ks) (hG : MW W qG cG N (List.replicate N (fq 2 4))) => guidedMap_q W wd hi N qM cM qG cG r ks 0 (.inl rfl) hr HV.out h hG.sl hG.lt)
      rw [fq_zero] at KP
      have KQ := Lib.hid (fun W (h : MQ W qM cM N ks) (hG : MW W qG cG N (List.replicate N (fq 2 4))) => guidedMap_q W wd hi N qM cM qG cG r ks (-4) (.inr rfl) hr HV.out h hG.sl hG.lt)
      rw [show fq 2 (-4) = 3212836864 from by decide +kernel] at KQ
      obtain ⟨zM0, zM1, zM2, -, -, -⟩ := bM.three.cells
      obtain ⟨zG0, zG1, zG2, -, -, -⟩ := bG.three.cells
      go_wp2_with fail
      generalize hoG : wG.heap.size = oG at *
      generalize hwG : wG.alloc (.cells #[.int .i64 wd, .int .i64 hi, .slice (some ⟨qG, 0, none⟩) N cG] 37) = WG at *
      clear hoG hwG
      clear zM0 zM1 zM2 zG0 zG1 zG2
      refine (KP.out _ mM mG).mono ?_
      rintro e wP ⟨qP, cP, rfl, sP, hPl, -, bw⟩
      clear KP
      have mP : MW wP qP cP N ((List.range N).map (gdV ks wd hi r 0)) := ⟨sP, hPl, by simp⟩
      clear sP hPl
      have ha : Below wP.heap.size wP (wP.alloc (.cells #[.int .i64 wd, .int .i64 hi, .slice (some ⟨qP, 0, none⟩) N cP] 27)) := (Below.refl _ _).alloc (Nat.le_refl _) _
      have bP := BoxN.last wP #[.int .i64 wd, .int .i64 hi, .slice (some ⟨qP, 0, none⟩) N cP] 27
      replace mP := mP.below ha
      replace bM := (bM.below bw).below ha
      replace mM := (mM.below bw).below ha
      replace bG := (bG.below bw).below ha
      replace mG := (mG.below bw).below ha
      replace hbel := (hbel.trans (bw.mono hbel.size)).trans (ha.mono (Nat.le_trans hbel.size bw.size))
      clear bw ha
      obtain ⟨zM0, zM1, zM2, -, -, -⟩ := bM.three.cells
      obtain ⟨zG0, zG1, zG2, -, -, -⟩ := bG.three.cells
      go_wp2_with fail
      generalize hoP : wP.heap.size = oP at *
      generalize hwP : wP.alloc (.cells #[.int .i64 wd, .int .i64 hi, .slice (some ⟨qP, 0, none⟩) N cP] 27) = WP at *
      clear hoP hwP
      clear zM0 zM1 zM2 zG0 zG1 zG2
      refine (KQ.out _ mM mG).mono ?_
      rintro e wQ ⟨qQ, cQ, rfl, sQ, hQl, -, bw⟩
      clear KQ
      have mQ : MW wQ qQ cQ N (ks.map (fq 2)) := ⟨by rw [← gdV_still HLK.out HK.out]; exact sQ, hQl, by rw [List.length_map, HLK.out]⟩
      clear sQ hQl
      have ha : Below wQ.heap.size wQ (wQ.alloc (.cells #[.int .i64 wd, .int .i64 hi, .slice (some ⟨qQ, 0, none⟩) N cQ] 27)) := (Below.refl _ _).alloc (Nat.le_refl _) _
      have bQ := BoxN.last wQ #[.int .i64 wd, .int .i64 hi, .slice (some ⟨qQ, 0, none⟩) N cQ] 27
      replace mQ := mQ.below ha
      replace bM := (bM.below bw).below ha
      replace mM := (mM.below bw).below ha
      replace bG := (bG.below bw).below ha
      replace mG := (mG.below bw).below ha
      replace bP := (bP.below bw).below ha
      replace mP := (mP.below bw).below ha
      replace hbel := (hbel.trans (bw.mono hbel.size)).trans (ha.mono (Nat.le_trans hbel.size bw.size))
      clear bw ha
      obtain ⟨zM0, zM1, zM2, -, -, -⟩ := bM.three.cells
      go_wp2_with fail
      generalize hoQ : wQ.heap.size = oQ at *
      generalize hwQ : wQ.alloc (.cells #[.int .i64 wd, .int .i64 hi, .slice (some ⟨qQ, 0, none⟩) N cQ] 27) = WQ at *
      clear hoQ hwQ
      clear zM0 zM1 zM2
      refine (rangeOfMap_q _ wd hi N qM cM ks HV.out mM).mono ?_
      rintro e wR ⟨rfl, bw⟩
      replace bM := bM.below bw
      replace mM := mM.below bw
      replace bG := bG.below bw
      replace mG := mG.below bw
      replace bP := bP.below bw
      replace mP := mP.below bw
      replace bQ := bQ.below bw
      replace mQ := mQ.below bw
      replace hbel := hbel.trans (bw.mono hbel.size)
      clear bw
      obtain ⟨zQ0, zQ1, zQ2, -, -, -⟩ := bQ.three.cells
      obtain ⟨zM0, zM1, zM2, -, -, -⟩ := bM.three.cells
      go_wp2_with fail
      clear zQ0 zQ1 zQ2 zM0 zM1 zM2
      refine (sameMap_y2 _ wd hi (some ⟨qQ, 0, none⟩) (some ⟨qM, 0, none⟩) N N cQ cM _ mQ.sl mM.sl).mono ?_
      rintro e wS ⟨rfl, bw⟩
      replace bM := bM.below bw
      replace mM := mM.below bw
      replace bG := bG.below bw
      replace mG := mG.below bw
      replace bP := bP.below bw
      replace mP := mP.below bw
      replace bQ := bQ.below bw
      replace mQ := mQ.below bw
      replace hbel := hbel.trans (bw.mono hbel.size)
      clear bw
      have SM := Lib.hid mM
      have SP := Lib.hid mP
      have BM := Lib.hid bM
      have BP := Lib.hid bP
      have HBEL := Lib.hid hbel
      obtain ⟨low, hlow⟩ : ∃ v, fq 2 (rgF ks).1 = v := ⟨_, rfl⟩
      obtain ⟨top, htop⟩ : ∃ v, fq 2 (rgF ks).2.1 = v := ⟨_, rfl⟩
      obtain ⟨sev, hsev⟩ : ∃ v, (rgF ks).2.2 = v := ⟨_, rfl⟩
      rw [hlow, htop, hsev]
      have HLOW := Lib.hid hlow
      have HTOP := Lib.hid htop
      have HSEV := Lib.hid hsev
      have hcapM := mM.cap
      have hcapP := mP.cap
      obtain ⟨zM0, zM1, zM2, -, -, -⟩ := bM.three.cells
      clear mM mP mG mQ bM bP bG bQ hbel hlow htop hsev
      go_wp2_with fail
      clear zM0 zM1 zM2
      go_loopw [272] (fun v272 wr => ∃ i : Nat, v272 = .int .i64 i ∧ i ≤ N ∧ Below wS.heap.size wS wr) (fun v272 _ => N - (intOf v272).toNat)
      case atStart => exact ⟨0, rfl, Nat.zero_le _, Below.refl _ _⟩
      case round =>
        obtain ⟨i, rfl, hi_, hbw⟩ := hrel
        have HBW := Lib.hid hbw
        by_cases hlt : i < N
        · have kM := (SM.out.below hbw).get i hlt
          have kP := ((SP.out.below hbw).get i hlt).1
          have eP : ((List.range N).map (gdV ks wd hi r 0)).getD i 0 = gdV ks wd hi r 0 i := by
            rw [List.getD_eq_getElem?_getD, List.getElem?_map, List.getElem?_range hlt]; rfl
          rw [eP] at kP
          have hkb := (SM.out.below hbw).kb i
          obtain ⟨zM0, zM1, zM2, -, -, -⟩ := (BM.out.below hbw).three.cells
          obtain ⟨zP0, zP1, zP2, -, -, -⟩ := (BP.out.below hbw).three.cells
          have hi2 : (i : Int) < (N : Int) := by omega
          have HI := Lib.hid hi_
          have hd0 : ∀ W : World, W.drewN 0 = W := fun _ => rfl
          have l1 := le0_fq (k := ks.getD i 0) (by omega)
          clear hbw eP hi_
          by_cases h0 : 0 ≤ ks.getD i 0
          · obtain ⟨g1, g2, g3, g4, g5, g6, g7⟩ := gdV_law (wd := wd) (hi := hi) (r := r) HN.out (by omega) HLK.out HK.out hlt h0
            obtain rfl : true = sev := by rw [← HSEV.out, g1]
            obtain ⟨t1, u1, u2, u3⟩ := sub_milli (k := (rgF ks).1) (by omega)
            obtain ⟨t2, u4, u5, u6⟩ := add_milli (k := (rgF ks).2.1) (by omega)
            have x1 : lt32 (gdV ks wd hi r 0 i) t1 = false := by rw [lt32_vv g5 u2]; exact decide_eq_false (by omega)
            have x2 : lt32 t2 (gdV ks wd hi r 0 i) = false := by rw [lt32_vv u5 g5]; exact decide_eq_false (by omega)
            rw [HLOW.out] at u1
            rw [HTOP.out] at u4
            have ar1 := fres_some u1
            have af1 := fdr_some u1
            have ar2 := fres_some u4
            have af2 := fdr_some u4
            rw [decide_eq_true h0] at l1
            clear u1 u2 u3 u4 u5 u6 g1 g2 g3 g5 g6 g7
            generalize gdV ks wd hi r 0 i = gv at *
            generalize fq 2 (ks.getD i 0) = vk at *
            clear h0 hkb hlt
            go_wp2_with fail
            go_quiet ((first | with_reducible exact quiet_lHoleT g4 _ | with_reducible exact quiet_lHoleT l1 _))
            go_wp2_with fail
            go_roundw
            case rel => exact ⟨i + 1, by go_num, by have := HI.out; omega, below_drewN HBW.out _⟩
            case measure => simp [intOf]; omega
          · have eV := gdV_hole (wd := wd) (hi := hi) (r := r) h0
            rw [eV] at kP
            rw [decide_eq_false h0] at l1
            have l2 : le32 0 3212836864 = false := by decide
            generalize fq 2 (ks.getD i 0) = vk at *
            clear h0 hkb hlt eV HSEV
            cases sev
            all_goals
              go_wp2_with fail
              go_quiet ((first | with_reducible exact quiet_lHoleF l2 _ | with_reducible exact quiet_lHoleF l1 _))
              go_wp2_with fail
              go_roundw
              case rel => exact ⟨i + 1, by go_num, by have := HI.out; omega, below_drewN HBW.out _⟩
              case measure => simp [intOf]; omega
        · obtain rfl : N = i := by omega
          have hbel := HBEL.out.trans (hbw.mono HBEL.out.size)
          go_wp2
          go_ret
          exact ⟨rfl, hbel⟩

theorem fnMedians_walk (w : World) (a0 a1 : Option Addr) (l0 c0 l1 c1 : Nat) (z0 z1 : List Int)
    (r0 : (a0 = none ∧ l0 = 0 ∧ c0 = 0 ∧ z0 = []) ∨ ∃ x, a0 = some x ∧ l0 ≤ c0 ∧ c0 ≤ maxLen ∧ z0.length = c0 ∧ (∀ i, i < z0.length → w.cell? (x.add i) = some (.int .u8 (z0.getD i 0))) ∧ ∀ n ∈ z0, (Lit.int .u8 n).wf = true)
    (r1 : (a1 = none ∧ l1 = 0 ∧ c1 = 0 ∧ z1 = []) ∨ ∃ x, a1 = some x ∧ l1 ≤ c1 ∧ c1 ≤ maxLen ∧ z1.length = c1 ∧ (∀ i, i < z1.length → w.cell? (x.add i) = some (.int .u8 (z1.getD i 0))) ∧ ∀ n ∈ z1, (Lit.int .u8 n).wf = true) :
    Calls Try.prog 5 #[.slice a0 l0 c0, .slice a1 l1 c1] w fun e w' => e = .returned (.bool true) ∧ Below w.heap.size w w' := by
  by_cases h : l0 ≤ 1048576 ∧ l1 ≤ 1048576
  · exact fnMedians_short w a0 a1 l0 c0 l1 c1 h.1 h.2 (bytesIn_of_row r0 (by omega)) (bytesIn_of_row r1 (by omega))
  · exact fnMedians_long w a0 a1 l0 c0 l1 c1 (len_of_row r0) (len_of_row r1) h

end Go.Proofs.Ytmpbnmmpniganaa
