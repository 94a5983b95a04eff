/- The law of what is checked: the walk of its code. No condition. -/
import Derived.Test.YtmpbnmmpniganaaKl
import Derived.Test.YtmpbnmmpniganaaKm
import Derived.Test.YtmpbnmmpniganaaKr
import Derived.Test.YtmpbnmmpniganaaMv
import Derived.Test.YtmpbnmmpniganaaLaw
import Derived.Deep.RegionHeld3
import Derived.StillTactics
import Derived.Deep.CutRange
import Derived.Deep.LoopGhost
namespace Go.Proofs.Ytmpbnmmpniganaa
open Go.RowKit
set_option maxRecDepth 100000
set_option linter.unusedVariables false
set_option linter.unusedSimpArgs false

theorem fnChecked_long (w : World) (a0 a1 : Option Addr) (l0 c0 l1 c1 : Nat) (m0 : l0 ≤ 9223372036854775807) (m1 : l1 ≤ 9223372036854775807) (h : ¬ (l0 ≤ 1048576 ∧ l1 ≤ 1048576)) :
    Calls Try.prog 6 #[.slice a0 l0 c0, .slice a1 l1 c1] w fun e w' => e = .returned (.bool true) ∧ Below w.heap.size w w' := by
  go_enter Try.func6, Try.ntmps6
  go_wp2_with fail
  refine (b10Long_yes _ _ _ _ _ _ _ m0 m1 h).mono ?_
  rintro e w' ⟨rfl, rfl⟩
  go_wp2
  go_ret
  exact ⟨rfl, Below.refl _ _⟩

theorem wrap_small (x : Nat) (h : x ≤ 24) : wrap64 (x : Int) = (x : Int) := by unfold wrap64; omega
theorem plq_le5 {k : Int} (h0 : 0 ≤ k) (h : k ≤ 19) : plq k ≤ 5 := by
  have t : ∀ i : Fin 20, plq (i.val : Int) ≤ 5 := by decide +kernel
  have := t ⟨k.toNat, by omega⟩
  simpa [Int.toNat_of_nonneg h0] using this
theorem unsL_mem (f : Nat → Bool) (z : Nat) : ∀ n, ((z : Int) ∈ unsL f n ↔ z < n ∧ f z = false) := by
  intro n
  induction n with
  | zero => simp [unsL]
  | succ n ih =>
    unfold unsL
    by_cases h : f n = true
    · rw [if_pos h, ih]
      constructor
      · rintro ⟨a, b⟩; exact ⟨by omega, b⟩
      · rintro ⟨a, b⟩
        have : z ≠ n := by rintro rfl; rw [h] at b; cases b
        exact ⟨by omega, b⟩
    · rw [if_neg h, List.mem_append, ih, List.mem_singleton]
      constructor
      · rintro (⟨a, b⟩ | e)
        · exact ⟨by omega, b⟩
        · have : z = n := by omega
          subst this
          exact ⟨by omega, by simpa using h⟩
      · rintro ⟨a, b⟩
        by_cases e : z = n
        · right; rw [e]
        · left; exact ⟨by omega, b⟩
theorem fq_neg {g : Nat} {k : Int} (hk : k < 0) (h : k.natAbs ≤ 16777216) : Op.negFloat .f32 (fq g k) = fq g (-k) := by
  obtain ⟨r, h1, h2, h3⟩ := (few32 (g := g) (k := k) h).rung f1
  obtain ⟨s, g1, g2, g3⟩ := (few32 (g := g) (k := -k) (by omega)).rung f1
  have e : r = s := unit_inj Ieee.single (by rw [h2, g2]; congr 1; omega)
  have hr : r < 2139095040 := by have := h1; rw [sg_inf] at this; exact this
  unfold fq
  rw [h3, g3, ← e, decide_eq_true hk, decide_eq_false (by omega), neg32_eq _ (by unfold Ieee.Format.word; rw [sg_sw]; simp; omega)]
  unfold Ieee.Format.word
  rw [sg_sw]; simp; omega
theorem lSize_q (k : Int) (w : World) (h : k.natAbs ≤ 1000000) : Calls Try.prog 36 #[.float .f32 (fq 2 k)] w fun e w' => e = .returned (.float .f32 (fq 2 (k.natAbs : Nat))) ∧ w = w' := by
  have l := lt32_fq (g := 2) (a := k) (b := 0) (by omega) (by decide)
  rw [fq_zero] at l
  by_cases hk : k < 0
  · have ng := fq_neg (g := 2) (k := k) hk (by omega)
    rw [show ((k.natAbs : Nat) : Int) = -k by omega]
    simp only [hk, decide_true] at l
    rw [← ng]
    generalize fq 2 k = x at *
    clear hk h ng
    go_enter Try.func36, Try.ntmps36
    go_wp2
    go_ret
    exact ⟨rfl, rfl⟩
  · rw [show ((k.natAbs : Nat) : Int) = k by omega]
    simp only [hk, decide_false] at l
    generalize fq 2 k = x at *
    clear hk h
    go_enter Try.func36, Try.ntmps36
    go_wp2
    go_ret
    exact ⟨rfl, rfl⟩
theorem quiet_lSizeP {z : Nat} {k : Int} (e : fq 2 k = z) {y : Nat} (e2 : fq 2 (k.natAbs : Nat) = y) (h : k.natAbs ≤ 1000000) {w : World} (n : Nat) : Calls Try.prog 36 #[.float .f32 z] (w.drewN n) fun e w'' => e = .returned (.float .f32 y) ∧ ∃ m, w'' = w.drewN m := by
  subst e e2
  refine quiet_same ((lSize_q k (w.drewN n) h).mono ?_)
  rintro e w' ⟨rfl, rfl⟩
  exact ⟨rfl, rfl⟩
theorem lHas_any (w : World) (B g n cap : Nat) (L : List Int) (z : Int) (h : OwnI w B (.slice (some ⟨g, 0, none⟩) n cap) L) (hn : n ≤ 1000) :
    Calls Try.prog 37 #[.slice (some ⟨g, 0, none⟩) n cap, .int .i64 z] w fun e w' => e = .returned (.bool (decide (z ∈ L))) ∧ w = w' := by
  have hl := h.len.1
  have hc := fun i (hi : i < n) => h.cellAt i (by rw [hl]; exact hi)
  have HC := Lib.hid hc
  have HL := Lib.hid hl
  clear h hc hl
  go_enter Try.func37, Try.ntmps37
  go_wp2_with fail
  go_loop [8] (fun v8 => ∃ i : Nat, v8 = .int .i64 i ∧ i ≤ n ∧ ∀ j, j < i → L.getD j 0 ≠ z) (fun v8 => n - (intOf v8).toNat)
  case atStart => exact ⟨0, rfl, Nat.zero_le _, fun j hj => by omega⟩
  case round =>
    obtain ⟨i, rfl, hi, hno⟩ := hrel
    have HNO := Lib.hid hno
    clear hno
    by_cases hlt : i < n
    · have c := HC.out i hlt
      have hmem : L.getD i 0 ∈ L := by
        rw [List.getD_eq_getElem?_getD, List.getElem?_eq_getElem (by rw [HL.out]; exact hlt)]
        exact List.getElem_mem _
      have HME := Lib.hid hmem
      clear hmem
      obtain ⟨k, hk⟩ : ∃ k, k = L.getD i 0 := ⟨_, rfl⟩
      rw [← hk] at c HME
      have HK := Lib.hid hk
      clear hk
      by_cases e : k = z
      · have e2 : (k == z) = true := beq_iff_eq.2 e
        have HD : decide (z ∈ L) = true := decide_eq_true (by rw [← e]; exact HME.out)
        have HD2 := Lib.hid HD
        clear e HD
        go_wp2_with fail
        go_ret
        exact ⟨congrArg (fun b => Ending.returned (.bool b)) HD2.out.symm, rfl⟩
      · have e2 : (k == z) = false := beq_eq_false_iff_ne.2 e
        have HE := Lib.hid e
        clear e
        go_wp2_with fail
        go_round
        case rel => exact ⟨i + 1, by go_num, by omega, fun j hj => by
          by_cases q : j = i
          · rw [q, ← HK.out]; exact HE.out
          · exact HNO.out j (by omega)⟩
        case measure => simp [intOf]; omega
    · obtain rfl : n = i := by omega
      have HD : decide (z ∈ L) = false := decide_eq_false (fun hm => by
        obtain ⟨j, hj, rfl⟩ := List.getElem_of_mem hm
        have := HNO.out j (by rw [← HL.out]; exact hj)
        rw [List.getD_eq_getElem?_getD, List.getElem?_eq_getElem hj] at this
        exact this rfl)
      have HD2 := Lib.hid HD
      clear HD
      go_wp2_with fail
      go_ret
      exact ⟨congrArg (fun b => Ending.returned (.bool b)) HD2.out.symm, rfl⟩
theorem quiet_lHoleT {b : Nat} (h : le32 0 b = true) {w : World} (n : Nat) : Calls Try.prog 14 #[.float .f32 b] (w.drewN n) fun e w'' => e = .returned (.bool false) ∧ ∃ m, w'' = w.drewN m := by
  refine quiet_same ((lHole_any b (w.drewN n)).mono ?_)
  rintro e w' ⟨rfl, rfl⟩
  rw [h]; exact ⟨rfl, rfl⟩
theorem quiet_lHoleF {b : Nat} (h : le32 0 b = false) {w : World} (n : Nat) : Calls Try.prog 14 #[.float .f32 b] (w.drewN n) fun e w'' => e = .returned (.bool true) ∧ ∃ m, w'' = w.drewN m := by
  refine quiet_same ((lHole_any b (w.drewN n)).mono ?_)
  rintro e w' ⟨rfl, rfl⟩
  rw [h]; exact ⟨rfl, rfl⟩
@[go_sem] theorem conv32_i64h (b : Nat) (n : Int) (w : World) (h : floatToIntVal .f32 b .i64 = some n) : (convert 33 2 (.float .f32 b)).run Try.prog w = .ok (.int .i64 n) w := run_convert_float_int w _ _ _ _ _ _ (by rfl) (by rfl) h
theorem int_of_four (D : Nat) (h : D < 8) : floatToIntVal .f32 (fq 2 (4 * (D : Int))) .i64 = some (D : Int) := by
  have t : ∀ i : Fin 8, floatToIntVal .f32 (fq 2 (4 * (i.val : Int))) .i64 = some (i.val : Int) := by decide +kernel
  exact t ⟨D, h⟩
theorem quarters_at {ks : List Int} {N i : Nat} (hl : ks.length = N) (hk : ∀ k ∈ ks, k = -4 ∨ 0 ≤ k ∧ k ≤ 19) (hi_ : i < N) : ks.getD i 0 = -4 ∨ 0 ≤ ks.getD i 0 ∧ ks.getD i 0 ≤ 19 := by
  have hm : ks.getD i 0 ∈ ks := by rw [List.getD_eq_getElem?_getD, List.getElem?_eq_getElem (by rw [hl]; exact hi_)]; exact List.getElem_mem _
  exact hk _ hm
theorem quarters_bd {ks : List Int} (hk : ∀ k ∈ ks, k = -4 ∨ 0 ≤ k ∧ k ≤ 19) : ∀ i, (ks.getD i 0).natAbs ≤ 400 := fun i => by
  rw [List.getD_eq_getElem?_getD]
  cases e : ks[i]? with
  | none => decide
  | some z => rcases hk z (List.mem_of_getElem? e) with h | h <;> simp only [Option.getD_some] <;> omega

set_option maxHeartbeats 40000000 in
theorem fnChecked_short (w : World) (a0 a1 : Option Addr) (l0 c0 l1 c1 : Nat) (h0 : l0 ≤ 1048576) (h1 : l1 ≤ 1048576) (hb0 : BytesIn w a0 l0) (hb1 : BytesIn w a1 l1) :
    Calls Try.prog 6 #[.slice a0 l0 c0, .slice a1 l1 c1] w fun e w' => e = .returned (.bool true) ∧ Below w.heap.size w w' := by
  go_enter Try.func6, Try.ntmps6
  go_wp2_with fail
  refine (b10Long_no _ _ _ _ _ _ _ h0 h1).mono ?_
  rintro e w' ⟨rfl, rfl⟩
  go_wp2_with fail
  refine (b10At_any _ _ _ _ 0 6 (by omega) (by omega) (by omega) hb1).mono ?_
  rintro e w' ⟨x, rfl, x0, x1, rfl⟩
  go_wp2_with fail
  refine (b10At_any _ _ _ _ 1 4 (by omega) (by omega) (by omega) hb1).mono ?_
  rintro e w' ⟨y, rfl, y0, y1, rfl⟩
  obtain ⟨wd, hwd⟩ : ∃ n : Nat, (1 : Int) + x = n := ⟨(1 + x).toNat, by omega⟩
  obtain ⟨hi, hhi⟩ : ∃ n : Nat, (1 : Int) + y = n := ⟨(1 + y).toNat, by omega⟩
  have HWD := Lib.hid hwd
  have HHI := Lib.hid hhi
  have v1 : 1 ≤ wd := by omega
  have v2 : wd ≤ 6 := by omega
  have v3 : 1 ≤ hi := by omega
  have v4 : hi ≤ 4 := by omega
  have hwh := Nat.mul_le_mul v2 v4
  clear hwd hhi
  go_wp2_with fail
  rw [HWD.out, HHI.out]
  refine (b10Quarters_any _ _ _ _ wd hi hb0 v1 (by omega) v3 (by omega) (by omega)).mono ?_
  rintro e wM ⟨qM, cM, ks, rfl, mM, -, hk, bw⟩
  clear x0 x1 y0 y1
  obtain ⟨N, hN⟩ : ∃ N, N = wd * hi := ⟨_, rfl⟩
  rw [← hN] at mM ⊢
  have hv : vPic wd hi N = true := by rw [hN]; exact vPic_of v1 (by omega) v3 (by omega) (by omega)
  have HV := Lib.hid hv
  have HN := Lib.hid hN
  have hN1 : N ≤ 24 := by omega
  have hN0 : 1 ≤ N := by rw [hN]; exact Nat.mul_pos v1 v3
  have HK := Lib.hid hk
  have HLK := Lib.hid mM.len
  have HKL := Lib.hid (show ∀ k ∈ ks, k < 128 ∧ -1000 ≤ k from fun k h => by rcases hk k h with e | e <;> omega)
  clear hv hN hk hwh
  have hbel := bw
  replace hb1 := hb1.below bw
  replace hb0 := hb0.below bw
  have ha : Below wM.heap.size wM (wM.alloc (.cells #[.int .i64 wd, .int .i64 hi, .slice (some ⟨qM, 0, none⟩) N cM] 27)) := (Below.refl _ _).alloc (Nat.le_refl _) _
  have bM := BoxN.last wM #[.int .i64 wd, .int .i64 hi, .slice (some ⟨qM, 0, none⟩) N cM] 27
  replace mM := mM.below ha
  replace hb1 := hb1.below ha
  replace hb0 := hb0.below ha
  replace hbel := hbel.trans (ha.mono hbel.size)
  clear bw ha
  go_wp2_with fail
  generalize hoM : wM.heap.size = oM at *
  generalize hwM : wM.alloc (.cells #[.int .i64 wd, .int .i64 hi, .slice (some ⟨qM, 0, none⟩) N cM] 27) = WM at *
  clear hoM hwM
  refine (b10Quarters_any _ _ _ _ wd hi hb1 v1 (by omega) v3 (by omega) (by rw [← HN.out]; omega)).mono ?_
  rintro e wR ⟨qR, cR, js, rfl, mR, -, hj, bw⟩
  rw [← HN.out] at mR ⊢
  have HJ := Lib.hid hj
  have HLJ := Lib.hid mR.len
  clear hj
  have ha : Below wR.heap.size wR (wR.alloc (.cells #[.int .i64 wd, .int .i64 hi, .slice (some ⟨qR, 0, none⟩) N cR] 27)) := (Below.refl _ _).alloc (Nat.le_refl _) _
  have bR := BoxN.last wR #[.int .i64 wd, .int .i64 hi, .slice (some ⟨qR, 0, none⟩) N cR] 27
  replace mR := mR.below ha
  replace bM := (bM.below bw).below ha
  replace mM := (mM.below bw).below ha
  replace hb0 := (hb0.below bw).below ha
  replace hb1 := (hb1.below bw).below ha
  replace hbel := (hbel.trans (bw.mono hbel.size)).trans (ha.mono (Nat.le_trans hbel.size bw.size))
  clear bw ha
  go_wp2_with fail
  generalize hoR : wR.heap.size = oR at *
  generalize hwR : wR.alloc (.cells #[.int .i64 wd, .int .i64 hi, .slice (some ⟨qR, 0, none⟩) N cR] 27) = WR at *
  clear hoR hwR
  refine (b10At_any _ _ _ _ 2 8 (by omega) (by omega) (by omega) hb1).mono ?_
  rintro e w' ⟨z, rfl, z0, z1, rfl⟩
  obtain ⟨Z, rfl⟩ := Int.eq_ofNat_of_zero_le z0
  have hZ : Z ≤ 7 := by omega
  have qz := quo4m Z (by omega)
  obtain ⟨vm, hvm⟩ : ∃ v, v = fq 2 (Z : Int) := ⟨_, rfl⟩
  rw [← hvm] at qz
  have ar := fres_some qz
  have af := fdr_some qz
  have hd0 : ∀ W : World, W.drewN 0 = W := fun _ => rfl
  have HVM := Lib.hid hvm
  clear qz z0 z1 hvm hb1
  obtain ⟨zM0, zM1, zM2, -, -, -⟩ := bM.three.cells
  obtain ⟨zR0, zR1, zR2, -, -, -⟩ := bR.three.cells
  go_wp2_with fail
  clear zM0 zM1 zM2 zR0 zR1 zR2
  refine (checkMaps_q _ wd hi N qM cM qR cR vm ks js HV.out mM mR (Z : Int) (by omega) HVM HKL.out).mono ?_
  rintro e wC ⟨qC, cC, rfl, mC, -, bw⟩
  clear ar af
  have ha : Below wC.heap.size wC (wC.alloc (.cells #[.int .i64 wd, .int .i64 hi, .slice (some ⟨qC, 0, none⟩) N cC] 27)) := (Below.refl _ _).alloc (Nat.le_refl _) _
  have bC := BoxN.last wC #[.int .i64 wd, .int .i64 hi, .slice (some ⟨qC, 0, none⟩) N cC] 27
  replace mC := mC.below ha
  replace bM := (bM.below bw).below ha
  replace mM := (mM.below bw).below ha
  replace hb0 := (hb0.below bw).below ha
  replace bR := (bR.below bw).below ha
  replace mR := (mR.below bw).below ha
  replace hbel := (hbel.trans (bw.mono hbel.size)).trans (ha.mono (Nat.le_trans hbel.size bw.size))
  clear bw ha
  obtain ⟨zM0, zM1, zM2, -, -, -⟩ := bM.three.cells
  go_wp2_with fail
  generalize hoC : wC.heap.size = oC at *
  generalize hwC : wC.alloc (.cells #[.int .i64 wd, .int .i64 hi, .slice (some ⟨qC, 0, none⟩) N cC] 27) = WC at *
  clear hoC hwC
  clear zM0 zM1 zM2
  refine (roundMap_q _ wd hi N qM cM ks HV.out mM (fun k h => (HKL.out k h).1)).mono ?_
  rintro e wO ⟨qO, cO, rfl, mO, -, bw⟩
  have ha : Below wO.heap.size wO (wO.alloc (.cells #[.int .i64 wd, .int .i64 hi, .slice (some ⟨qO, 0, none⟩) N cO] 27)) := (Below.refl _ _).alloc (Nat.le_refl _) _
  have bO := BoxN.last wO #[.int .i64 wd, .int .i64 hi, .slice (some ⟨qO, 0, none⟩) N cO] 27
  replace mO := mO.below ha
  replace bM := (bM.below bw).below ha
  replace mM := (mM.below bw).below ha
  replace hb0 := (hb0.below bw).below ha
  replace bR := (bR.below bw).below ha
  replace mR := (mR.below bw).below ha
  replace bC := (bC.below bw).below ha
  replace mC := (mC.below bw).below ha
  replace hbel := (hbel.trans (bw.mono hbel.size)).trans (ha.mono (Nat.le_trans hbel.size bw.size))
  clear bw ha
  obtain ⟨zM0, zM1, zM2, -, -, -⟩ := bM.three.cells
  go_wp2_with fail
  generalize hoO : wO.heap.size = oO at *
  generalize hwO : wO.alloc (.cells #[.int .i64 wd, .int .i64 hi, .slice (some ⟨qO, 0, none⟩) N cO] 27) = WO at *
  clear hoO hwO
  clear zM0 zM1 zM2
  refine (unseenOf_q _ wd hi N qM cM ks HV.out mM HK.out).mono ?_
  rintro e wU ⟨gu, cu, rfl, oU, bw⟩
  replace bM := bM.below bw
  replace mM := mM.below bw
  replace hb0 := hb0.below bw
  replace bR := bR.below bw
  replace mR := mR.below bw
  replace bC := bC.below bw
  replace mC := mC.below bw
  replace bO := bO.below bw
  replace mO := mO.below bw
  replace hbel := hbel.trans (bw.mono hbel.size)
  clear bw
  have lU := oU.len
  obtain ⟨nu, hnu⟩ : ∃ n, n = (unsL (seenF ks wd N) N).length := ⟨_, rfl⟩
  have hnu2 : nu ≤ 1000 := by rw [hnu]; exact Nat.le_trans (unsL_len _ _) (by omega)
  rw [← hnu] at oU lU ⊢
  have HHU := Lib.hid (fun w' (hb' : Below wU.heap.size wU w') z => lHas_any w' _ gu nu cu _ z (oU.below hb') hnu2)
  clear hnu lU oU
  have hcC := mC.cap
  have hcM := mM.cap
  have hcR := mR.cap
  have hcO := mO.cap
  obtain ⟨zC0, zC1, zC2, -, -, -⟩ := bC.three.cells
  go_wp2_with fail
  clear zC0 zC1 zC2
  refine (validMap_any _ _ _ _ _ (by omega) _).mono ?_
  rw [HV.out]
  rintro e wV ⟨rfl, bw⟩
  replace HHU := Lib.hid (fun w' (hb' : Below wV.heap.size wV w') z => HHU.out w' (bw.trans (hb'.mono bw.size)) z)
  replace bM := bM.below bw
  replace mM := mM.below bw
  replace hb0 := hb0.below bw
  replace bR := bR.below bw
  replace mR := mR.below bw
  replace bC := bC.below bw
  replace mC := mC.below bw
  replace bO := bO.below bw
  replace mO := mO.below bw
  replace hbel := hbel.trans (bw.mono hbel.size)
  clear bw
  obtain ⟨gs, hgs⟩ : ∃ gs, gs = wV.heap.size := ⟨_, rfl⟩
  obtain ⟨wK, hmk, oB, bK, hsK⟩ := makeB wV N wV.heap.size (Nat.le_refl _) (by omega)
  rw [← hgs] at hmk oB
  have HOB := Lib.hid oB
  have HBK := Lib.hid bK
  have HGS := Lib.hid hgs
  have SM := Lib.hid mM
  have SR := Lib.hid mR
  have SC := Lib.hid mC
  have SO := Lib.hid mO
  have BM := Lib.hid bM
  have BR := Lib.hid bR
  have BC := Lib.hid bC
  have BO := Lib.hid bO
  have HBEL := Lib.hid hbel
  have HB0 := Lib.hid hb0
  obtain ⟨zM0, zM1, zM2, -, -, -⟩ := bM.three.cells
  obtain ⟨yM0, yM1, yM2, -, -, -⟩ := (bM.below bK).three.cells
  clear oB bK mM mR mC mO bM bR bC bO hbel hb0 hgs hsK
  go_wp2_with fail
  clear hmk zM0 zM1 zM2 yM0 yM1 yM2
  go_loopw [93] (fun v93 wr => ∃ i : Nat, v93 = .int .i64 i ∧ i ≤ N ∧ Below wV.heap.size wV wr ∧ OwnB wr gs (.slice (some ⟨gs, 0, none⟩) N N) N (seenF ks wd i)) (fun v93 _ => N - (intOf v93).toNat)
  case atStart => exact ⟨0, rfl, Nat.zero_le _, HBK.out, HOB.out⟩
  case round =>
    clear HBK HOB
    obtain ⟨i, rfl, hi_, hbw, hob⟩ := hrel
    have HBW := Lib.hid hbw
    have HOB := Lib.hid hob
    by_cases hlt : i < N
    · have kM := (SM.out.below hbw).get i hlt
      have kC := (SC.out.below hbw).get i hlt
      rw [tabI_get hlt] at kC
      have kO := (SO.out.below hbw).get i hlt
      rw [tabI_get hlt] at kO
      have kq := quarters_at HLK.out HK.out hlt
      have hst : seenF ks wd (i + 1) = if leads ks wd i = true then updB (seenF ks wd i) (i - (plq (ks.getD i 0)).toNat) true else seenF ks wd i := rfl
      have hch : chkF ks js wd (Z : Int) i = if (decide (0 ≤ ks.getD i 0) && (decide (plq (ks.getD i 0) ≤ ((i % wd : Nat) : Int)) && (decide (0 ≤ js.getD (i - (plq (ks.getD i 0)).toNat) 0) && decide (((ks.getD i 0 - js.getD (i - (plq (ks.getD i 0)).toNat) 0).natAbs : Int) ≤ (Z : Int))))) = true then ks.getD i 0 else -4 := rfl
      have hro : rndF ks i = 4 * min (plq (ks.getD i 0)) 25 := rfl
      have HCH := Lib.hid hch
      have hle : leads ks wd i = (decide (0 ≤ ks.getD i 0) && decide (plq (ks.getD i 0) ≤ ((i % wd : Nat) : Int))) := rfl
      rw [hle] at hst
      rw [hch] at kC
      rw [hro] at kO
      have hxi : i % wd ≤ i := Nat.mod_le _ _
      obtain ⟨zM0, zM1, zM2, -, -, -⟩ := (BM.out.below hbw).three.cells
      obtain ⟨zR0, zR1, zR2, -, -, -⟩ := (BR.out.below hbw).three.cells
      obtain ⟨zC0, zC1, zC2, -, -, -⟩ := (BC.out.below hbw).three.cells
      obtain ⟨zO0, zO1, zO2, -, -, -⟩ := (BO.out.below hbw).three.cells
      have hi2 : (i : Int) < (N : Int) := by omega
      have l1 := le0_fq (k := ks.getD i 0) (by omega)
      have cm : fq 2 (-4) = 3212836864 := by decide +kernel
      have e0 : eq32 3212836864 3212836864 = true := by decide +kernel
      have tm : ((i : Int) % (wd : Int)) = ((i % wd : Nat) : Int) := by simp
      have wd0 : ¬ (wd : Int) = 0 := by omega
      have wd0' : ¬ wd = 0 := by omega
      clear hbw hob hch hle hro
      obtain ⟨x, hx⟩ : ∃ x, i % wd = x := ⟨_, rfl⟩
      rw [hx] at tm hxi
      rw [hx] at hst kC
      have HX := Lib.hid hx
      have tw : wrap64 (x : Int) = (x : Int) := wrap_small x (by omega)
      clear hx
      by_cases h0 : 0 ≤ ks.getD i 0
      · obtain ⟨p0, p1⟩ := plq_pos h0 (by omega)
        obtain ⟨P, hP⟩ := Int.eq_ofNat_of_zero_le p0
        rw [hP] at hst kC kO
        rw [decide_eq_true h0] at l1 hst kC
        have hP5 : P ≤ 7 := by have := plq_le5 h0 (show ks.getD i 0 ≤ 19 by omega); omega
        have e4 : 4 * min (P : Int) 25 = 4 * (P : Int) := by omega
        rw [e4] at kO
        have g0 := le32_fq (g := 2) (a := 0) (b := 4 * (P : Int)) (by decide) (by omega)
        rw [decide_eq_true (by omega), fq_zero] at g0
        have gi := int_of_four P (by omega)
        obtain ⟨vo, hvo⟩ : ∃ v, fq 2 (4 * (P : Int)) = v := ⟨_, rfl⟩
        rw [hvo] at kO g0 gi
        have HL1 := Lib.hid l1
        have HP := Lib.hid hP
        clear l1 hP p0 p1 e4 hvo
        by_cases hPx : P ≤ x
        · rw [decide_eq_true (Int.ofNat_le.mpr hPx), Int.toNat_natCast] at hst kC
          rw [Bool.true_and, Bool.true_and] at kC
          have hjN : i - P < N := Nat.lt_of_le_of_lt (Nat.sub_le _ _) hlt
          have kR := (SR.out.below HBW.out).get (i - P) hjN
          have jq := quarters_at HLJ.out HJ.out hjN
          have cS := HOB.out.cellAt (i - P) hjN
          have fS := HOB.out.free (i - P)
          have HPUT := Lib.hid (HOB.out.put (i - P) true)
          have HST := Lib.hid (hst.trans (if_pos rfl))
          have KC := Lib.hid kC
          have n0 : decide ((P : Int) ≤ (x : Int)) = true := decide_eq_true (Int.ofNat_le.mpr hPx)
          have n1 : decide (P ≤ x) = true := decide_eq_true hPx
          have n2 : P ≤ x := hPx
          have hPi : P ≤ i := Nat.le_trans hPx hxi
          have kI : ((i : Int) - (P : Int)) = ((i - P : Nat) : Int) := (Int.ofNat_sub hPi).symm
          have hcv : chkF ks js wd (Z : Int) i = if (decide (0 ≤ js.getD (i - P) 0) && decide (((ks.getD i 0 - js.getD (i - P) 0).natAbs : Int) ≤ (Z : Int))) = true then ks.getD i 0 else -4 := by rw [HCH.out, HP.out, decide_eq_true h0, HX.out, decide_eq_true (Int.ofNat_le.mpr hPx), Int.toNat_natCast, Bool.true_and, Bool.true_and]
          have hfc : ∀ W : World, Below wV.heap.size wV W → W.cell? ⟨qM, i, none⟩ = some (.float .f32 (fq 2 (ks.getD i 0))) ∧ W.cell? ⟨qR, i - P, none⟩ = some (.float .f32 (fq 2 (js.getD (i - P) 0))) ∧ W.cell? ⟨qC, i, none⟩ = some (.float .f32 (fq 2 (if (decide (0 ≤ js.getD (i - P) 0) && decide (((ks.getD i 0 - js.getD (i - P) 0).natAbs : Int) ≤ (Z : Int))) = true then ks.getD i 0 else -4))) := by
            intro W hb
            have h3 := (SC.out.below hb).get i hlt
            rw [tabI_get hlt, hcv] at h3
            exact ⟨(SM.out.below hb).get i hlt, (SR.out.below hb).get _ hjN, h3⟩
          generalize ks.getD i 0 = k at *
          generalize js.getD (i - P) 0 = jv at *
          have HFC := Lib.hid hfc
          clear hst h0 hPx kC hcv hfc HCH
          go_wp2_with fail
          refine (lHole_any _ _).mono ?_
          rw [HL1.out]
          rintro e w' ⟨rfl, rfl⟩
          go_wp2_with fail
          have hb1 : Below wV.heap.size wV (wr.setCell ⟨gs, i - P, none⟩ (.bool true)) := HBW.out.setCell (by rw [HGS.out]; exact Nat.le_refl _) _
          obtain ⟨W1, hW1⟩ : ∃ W, W = wr.setCell ⟨gs, i - P, none⟩ (.bool true) := ⟨_, rfl⟩
          rw [← hW1] at hb1 HPUT ⊢
          have HB1 := Lib.hid hb1
          obtain ⟨zM0, zM1, zM2, -, -, -⟩ := (BM.out.below hb1).three.cells
          obtain ⟨zR0, zR1, zR2, -, -, -⟩ := (BR.out.below hb1).three.cells
          obtain ⟨zC0, zC1, zC2, -, -, -⟩ := (BC.out.below hb1).three.cells
          obtain ⟨kM1, kR1, kC1⟩ := HFC.out W1 hb1
          have l2 := le0_fq (k := jv) (by omega)
          have e1 : eq32 (fq 2 k) (fq 2 k) = true := by rw [eq32_fq (by omega) (by omega)]; exact decide_eq_true rfl
          clear hW1 kM kR kO cS fS hb1 HFC
          by_cases j0 : 0 ≤ jv
          · rw [decide_eq_true j0] at l2 kC1
            rw [Bool.true_and] at kC1
            have sb := fq_sub (g := 2) (a := k) (b := jv) (by omega) (by omega) (by omega)
            have le := le32_fq (g := 2) (a := ((k - jv).natAbs : Int)) (b := (Z : Int)) (by omega) (by omega)
            rw [← HVM.out] at le
            have hdb : (k - jv).natAbs ≤ 1000000 := by omega
            by_cases hz : ((k - jv).natAbs : Int) ≤ (Z : Int)
            · rw [decide_eq_true hz] at le kC1
              rw [if_pos rfl] at kC1
              generalize hvk : fq 2 k = vk at *
              generalize hvj : fq 2 jv = vj at *
              generalize hdv : fq 2 (k - jv) = dv at *
              generalize hav : fq 2 (((k - jv).natAbs : Nat) : Int) = av at *
              have KSZ := Lib.hid (fun (w : World) n => quiet_lSizeP hdv hav hdb (w := w) n)
              have KHT := Lib.hid (fun (w : World) n => quiet_lHoleT l2 (w := w) n)
              have ar := fres_some sb
              have af := fdr_some sb
              clear hvk hvj hdv hav hdb kq jq l2 j0 hz
              go_quiet (first | (with_reducible exact KHT.out _ _) | (with_reducible exact KSZ.out _ _))
              go_wp2_with fail
              go_quiet (fail)
              go_wp2_with fail
              go_roundw
              case rel => exact ⟨i + 1, by go_num, by omega, by first | exact below_drewN HB1.out _ | exact HB1.out, by rw [HST.out]; first | exact HPUT.out.below (below_drewN (Below.refl _ _) _) | exact HPUT.out⟩
              case measure => simp [intOf]; omega
            · rw [decide_eq_false hz] at le kC1
              rw [if_neg (by decide), cm] at kC1
              generalize hvk : fq 2 k = vk at *
              generalize hvj : fq 2 jv = vj at *
              generalize hdv : fq 2 (k - jv) = dv at *
              generalize hav : fq 2 (((k - jv).natAbs : Nat) : Int) = av at *
              have KSZ := Lib.hid (fun (w : World) n => quiet_lSizeP hdv hav hdb (w := w) n)
              have KHT := Lib.hid (fun (w : World) n => quiet_lHoleT l2 (w := w) n)
              have ar := fres_some sb
              have af := fdr_some sb
              clear hvk hvj hdv hav hdb kq jq l2 j0 hz
              go_quiet (first | (with_reducible exact KHT.out _ _) | (with_reducible exact KSZ.out _ _))
              go_wp2_with fail
              go_quiet (fail)
              go_wp2_with fail
              go_roundw
              case rel => exact ⟨i + 1, by go_num, by omega, by first | exact below_drewN HB1.out _ | exact HB1.out, by rw [HST.out]; first | exact HPUT.out.below (below_drewN (Below.refl _ _) _) | exact HPUT.out⟩
              case measure => simp [intOf]; omega
          · rw [decide_eq_false j0] at l2 kC1
            rw [Bool.false_and, if_neg (by decide), cm] at kC1
            generalize hvk : fq 2 k = vk at *
            generalize hvj : fq 2 jv = vj at *
            have KHF := Lib.hid (fun (w : World) n => quiet_lHoleF l2 (w := w) n)
            clear hvk hvj kq jq l2 j0
            go_quiet (first | (with_reducible exact KHF.out _ _))
            go_wp2_with fail
            go_quiet (fail)
            go_wp2_with fail
            go_roundw
            case rel => exact ⟨i + 1, by go_num, by omega, by first | exact below_drewN HB1.out _ | exact HB1.out, by rw [HST.out]; first | exact HPUT.out.below (below_drewN (Below.refl _ _) _) | exact HPUT.out⟩
            case measure => simp [intOf]; omega
        · have hz : ¬ (P : Int) ≤ (x : Int) := fun h => hPx (Int.ofNat_le.mp h)
          rw [decide_eq_false hz] at hst kC
          rw [Bool.false_and, Bool.and_false, if_neg (by decide), cm] at kC
          rw [Bool.and_false, if_neg (by decide)] at hst
          have HST := Lib.hid hst
          have n0 : decide ((P : Int) ≤ (x : Int)) = false := decide_eq_false hz
          have n1 : decide (P ≤ x) = false := decide_eq_false hPx
          have n2 : ¬ P ≤ x := hPx
          generalize ks.getD i 0 = k at *
          generalize fq 2 k = vk at *
          clear hst h0 cm kq hPx
          go_wp2_with fail
          refine (lHole_any _ _).mono ?_
          rw [HL1.out]
          rintro e w' ⟨rfl, rfl⟩
          go_wp2_with fail
          go_quiet (fail)
          go_wp2_with fail
          go_roundw
          case rel => exact ⟨i + 1, by go_num, by omega, by first | exact below_drewN HBW.out _ | exact HBW.out, by rw [HST.out]; first | exact HOB.out.below (below_drewN (Below.refl _ _) _) | exact HOB.out⟩
          case measure => simp [intOf]; omega
      · rw [decide_eq_false h0] at l1 hst kC
        rw [Bool.false_and, if_neg (by decide), cm] at kC
        rw [Bool.false_and, if_neg (by decide)] at hst
        have HL1 := Lib.hid l1
        have HST := Lib.hid hst
        generalize ks.getD i 0 = k at *
        generalize fq 2 k = vk at *
        generalize fq 2 (4 * min (plq k) 25) = vo at *
        clear l1 hst h0 cm kq
        go_wp2_with fail
        refine (lHole_any _ _).mono ?_
        rw [HL1.out]
        rintro e w' ⟨rfl, rfl⟩
        go_wp2_with fail
        go_quiet (fail)
        go_wp2_with fail
        go_roundw
        case rel => exact ⟨i + 1, by go_num, by omega, by first | exact below_drewN HBW.out _ | exact HBW.out, by rw [HST.out]; first | exact HOB.out.below (below_drewN (Below.refl _ _) _) | exact HOB.out⟩
        case measure => simp [intOf]; omega
    · have hiN : i = N := by omega
      rw [hiN] at hob
      obtain ⟨F, hF⟩ : ∃ F, F = seenF ks wd N := ⟨_, rfl⟩
      rw [← hF] at hob HHU
      have HBW := Lib.hid hbw
      have HOB := Lib.hid hob
      clear hob hbw hF
      go_wp2_with fail
      go_loopw [187] (fun v187 wz => ∃ j : Nat, v187 = .int .i64 j ∧ j ≤ N ∧ Below wV.heap.size wV wz ∧ OwnB wz gs (.slice (some ⟨gs, 0, none⟩) N N) N F) (fun v187 _ => N - (intOf v187).toNat)
      case atStart => exact ⟨0, rfl, Nat.zero_le _, HBW.out, HOB.out⟩
      case round =>
        clear HBW HOB
        obtain ⟨j, rfl, hj_, hbz, hobz⟩ := hrel
        have HBZ := Lib.hid hbz
        have HOZ := Lib.hid hobz
        by_cases hjl : j < N
        · have cz := hobz.cellAt j hjl
          have hjI : (j : Int) < (N : Int) := by omega
          have kh := fun n => quiet_same (HHU.out (wr.drewN n) (below_drewN hbz n) (j : Int))
          have hdm : decide ((j : Int) ∈ unsL F N) = !(F j) := by
            rw [Bool.eq_iff_iff, decide_eq_true_eq, unsL_mem]
            cases F j <;> simp [hjl]
          rw [hdm] at kh
          generalize F j = b at *
          clear hdm hbz hobz
          cases b
          · have KH := Lib.hid kh
            clear kh
            go_wp2_with fail
            go_quiet (with_reducible exact KH.out _)
            go_wp2_with fail
            go_roundw
            case rel => exact ⟨j + 1, by go_num, by omega, below_drewN HBZ.out _, HOZ.out.below (below_drewN (Below.refl _ _) _)⟩
            case measure => simp [intOf]; omega
          · have KH := Lib.hid kh
            clear kh
            go_wp2_with fail
            go_quiet (with_reducible exact KH.out _)
            go_wp2_with fail
            go_roundw
            case rel => exact ⟨j + 1, by go_num, by omega, below_drewN HBZ.out _, HOZ.out.below (below_drewN (Below.refl _ _) _)⟩
            case measure => simp [intOf]; omega
        · clear hobz hbz HOZ SM SR SC SO BM BR BC BO HHU
          have hbel := HBEL.out.trans (HBZ.out.mono HBEL.out.size)
          have hbv := HB0.out.below HBZ.out
          go_wp2_with fail
          refine (b10Volume_any _ _ _ _ hbv).mono ?_
          rintro e wY ⟨vw, vh, vd, M, qY, cY, bs, rfl, hM, vw1, vw2, vh1, vh2, vd1, vd2, mY, -, bw⟩
          clear hbv
          have hwh := Nat.mul_le_mul vw2 vh2
          have hvv : vVol vw vh vd M = true := by rw [hM]; exact vVol_of (by omega) (by omega) vh1 (by omega) (by omega) vd1 (by omega)
          have HVV := Lib.hid hvv
          obtain ⟨N2, hN2⟩ : ∃ N2, N2 = vw * vh := ⟨_, rfl⟩
          have hpic := (vVol_pic hvv).1
          rw [← hN2] at hpic
          have HPC := Lib.hid hpic
          have HN2 := Lib.hid hN2
          clear hvv hM hpic hN2 hwh
          have ha : Below wY.heap.size wY (wY.alloc (.cells #[.int .i64 vw, .int .i64 vh, .int .i64 vd, .slice (some ⟨qY, 0, none⟩) M cY] 44)) := (Below.refl _ _).alloc (Nat.le_refl _) _
          have bY := BoxN.last wY #[.int .i64 vw, .int .i64 vh, .int .i64 vd, .slice (some ⟨qY, 0, none⟩) M cY] 44
          replace mY := mY.below ha
          replace hbel := (hbel.trans (bw.mono hbel.size)).trans (ha.mono (Nat.le_trans hbel.size bw.size))
          clear bw ha
          obtain ⟨zY0, zY1, zY2, zY3, -, -, -, -⟩ := bY.four
          go_wp2_with fail
          generalize hoY : wY.heap.size = oY at *
          generalize hwY : wY.alloc (.cells #[.int .i64 vw, .int .i64 vh, .int .i64 vd, .slice (some ⟨qY, 0, none⟩) M cY] 44) = WY at *
          clear hoY hwY
          clear zY0 zY1 zY2 zY3
          refine (other_w _ vw vh vd M qY cY bs HVV.out mY).mono ?_
          rintro e wT ⟨qT, cT, bs2, rfl, mT, hot, -, bw⟩
          have HOT := Lib.hid hot
          clear hot
          have ha : Below wT.heap.size wT (wT.alloc (.cells #[.int .i64 vw, .int .i64 vh, .int .i64 vd, .slice (some ⟨qT, 0, none⟩) M cT] 44)) := (Below.refl _ _).alloc (Nat.le_refl _) _
          have bT := BoxN.last wT #[.int .i64 vw, .int .i64 vh, .int .i64 vd, .slice (some ⟨qT, 0, none⟩) M cT] 44
          replace mT := mT.below ha
          replace bY := (bY.below bw).below ha
          replace mY := (mY.below bw).below ha
          replace hbel := (hbel.trans (bw.mono hbel.size)).trans (ha.mono (Nat.le_trans hbel.size bw.size))
          clear bw ha
          obtain ⟨zY0, zY1, zY2, zY3, -, -, -, -⟩ := bY.four
          go_wp2_with fail
          generalize hoT : wT.heap.size = oT at *
          generalize hwT : wT.alloc (.cells #[.int .i64 vw, .int .i64 vh, .int .i64 vd, .slice (some ⟨qT, 0, none⟩) M cT] 44) = WT at *
          clear hoT hwT
          clear zY0 zY1 zY2 zY3
          refine (winners_q2 _ vw vh vd M N2 qY cY bs HVV.out HN2.out mY).mono ?_
          rintro e wA ⟨qA, cA, rfl, mA, -, bw⟩
          have ha : Below wA.heap.size wA (wA.alloc (.cells #[.int .i64 vw, .int .i64 vh, .slice (some ⟨qA, 0, none⟩) N2 cA] 27)) := (Below.refl _ _).alloc (Nat.le_refl _) _
          have bA := BoxN.last wA #[.int .i64 vw, .int .i64 vh, .slice (some ⟨qA, 0, none⟩) N2 cA] 27
          replace mA := mA.below ha
          replace bY := (bY.below bw).below ha
          replace mY := (mY.below bw).below ha
          replace bT := (bT.below bw).below ha
          replace mT := (mT.below bw).below ha
          replace hbel := (hbel.trans (bw.mono hbel.size)).trans (ha.mono (Nat.le_trans hbel.size bw.size))
          clear bw ha
          obtain ⟨zT0, zT1, zT2, zT3, -, -, -, -⟩ := bT.four
          go_wp2_with fail
          generalize hoA : wA.heap.size = oA at *
          generalize hwA : wA.alloc (.cells #[.int .i64 vw, .int .i64 vh, .slice (some ⟨qA, 0, none⟩) N2 cA] 27) = WA at *
          clear hoA hwA
          clear zT0 zT1 zT2 zT3
          refine (winners_q2 _ vw vh vd M N2 qT cT bs2 HVV.out HN2.out mT).mono ?_
          rintro e wB ⟨qB, cB, rfl, mB, -, bw⟩
          rw [wonL_oth HOT.out N2 HN2.out] at mB
          have ha : Below wB.heap.size wB (wB.alloc (.cells #[.int .i64 vw, .int .i64 vh, .slice (some ⟨qB, 0, none⟩) N2 cB] 27)) := (Below.refl _ _).alloc (Nat.le_refl _) _
          have bB := BoxN.last wB #[.int .i64 vw, .int .i64 vh, .slice (some ⟨qB, 0, none⟩) N2 cB] 27
          replace mB := mB.below ha
          replace bY := (bY.below bw).below ha
          replace mY := (mY.below bw).below ha
          replace bT := (bT.below bw).below ha
          replace mT := (mT.below bw).below ha
          replace bA := (bA.below bw).below ha
          replace mA := (mA.below bw).below ha
          replace hbel := (hbel.trans (bw.mono hbel.size)).trans (ha.mono (Nat.le_trans hbel.size bw.size))
          clear bw ha
          have hcA := mA.cap
          have hcB := mB.cap
          obtain ⟨zA0, zA1, zA2, -, -, -⟩ := bA.three.cells
          obtain ⟨zB0, zB1, zB2, -, -, -⟩ := bB.three.cells
          go_wp2_with fail
          generalize hoB : wB.heap.size = oB at *
          generalize hwB : wB.alloc (.cells #[.int .i64 vw, .int .i64 vh, .slice (some ⟨qB, 0, none⟩) N2 cB] 27) = WB at *
          clear hoB hwB
          clear zA0 zA1 zA2 zB0 zB1 zB2
          refine (checkMaps_q _ vw vh N2 qA cA qB cB vm _ _ HPC.out mA mB (Z : Int) (by omega) HVM (by
            intro k hk
            obtain ⟨i, hi_, rfl⟩ := mem_tabI hk
            rcases wonL_or bs vw vd i with e | ⟨D, hD, e⟩ <;> rw [e] <;> omega)).mono ?_
          rintro e wD ⟨qD, cD, rfl, mD, -, bw⟩
          have ha : Below wD.heap.size wD (wD.alloc (.cells #[.int .i64 vw, .int .i64 vh, .slice (some ⟨qD, 0, none⟩) N2 cD] 27)) := (Below.refl _ _).alloc (Nat.le_refl _) _
          have bD := BoxN.last wD #[.int .i64 vw, .int .i64 vh, .slice (some ⟨qD, 0, none⟩) N2 cD] 27
          replace mD := mD.below ha
          replace bY := (bY.below bw).below ha
          replace mY := (mY.below bw).below ha
          replace bT := (bT.below bw).below ha
          replace mT := (mT.below bw).below ha
          replace bA := (bA.below bw).below ha
          replace mA := (mA.below bw).below ha
          replace bB := (bB.below bw).below ha
          replace mB := (mB.below bw).below ha
          replace hbel := (hbel.trans (bw.mono hbel.size)).trans (ha.mono (Nat.le_trans hbel.size bw.size))
          clear bw ha
          obtain ⟨zY0, zY1, zY2, zY3, -, -, -, -⟩ := bY.four
          go_wp2_with fail
          generalize hoD : wD.heap.size = oD at *
          generalize hwD : wD.alloc (.cells #[.int .i64 vw, .int .i64 vh, .slice (some ⟨qD, 0, none⟩) N2 cD] 27) = WD at *
          clear hoD hwD
          clear zY0 zY1 zY2 zY3
          refine (checksOf_q _ vw vh vd M N2 qY cY bs vm (Z : Int) HVV.out HN2 mY (by omega) HVM).mono ?_
          rintro e wE ⟨qE, cE, rfl, mE, -, bw⟩
          have ha : Below wE.heap.size wE (wE.alloc (.cells #[.int .i64 vw, .int .i64 vh, .slice (some ⟨qE, 0, none⟩) N2 cE] 27)) := (Below.refl _ _).alloc (Nat.le_refl _) _
          have bE := BoxN.last wE #[.int .i64 vw, .int .i64 vh, .slice (some ⟨qE, 0, none⟩) N2 cE] 27
          replace mE := mE.below ha
          replace bY := (bY.below bw).below ha
          replace mY := (mY.below bw).below ha
          replace bT := (bT.below bw).below ha
          replace mT := (mT.below bw).below ha
          replace bA := (bA.below bw).below ha
          replace mA := (mA.below bw).below ha
          replace bB := (bB.below bw).below ha
          replace mB := (mB.below bw).below ha
          replace bD := (bD.below bw).below ha
          replace mD := (mD.below bw).below ha
          replace hbel := (hbel.trans (bw.mono hbel.size)).trans (ha.mono (Nat.le_trans hbel.size bw.size))
          clear bw ha
          have hcD := mD.cap
          have hcE := mE.cap
          obtain ⟨zD0, zD1, zD2, -, -, -⟩ := bD.three.cells
          obtain ⟨zE0, zE1, zE2, -, -, -⟩ := bE.three.cells
          go_wp2_with fail
          generalize hoE : wE.heap.size = oE at *
          generalize hwE : wE.alloc (.cells #[.int .i64 vw, .int .i64 vh, .slice (some ⟨qE, 0, none⟩) N2 cE] 27) = WE at *
          clear hoE hwE
          clear zD0 zD1 zD2 zE0 zE1 zE2
          refine (sameMap_yes _ vw vh (some ⟨qD, 0, none⟩) (some ⟨qE, 0, none⟩) N2 N2 cD cE _ _ mD.sl mE.sl rfl).mono ?_
          rintro e wF ⟨rfl, bw⟩
          replace hbel := hbel.trans (bw.mono hbel.size)
          go_wp2_with fail
          go_ret
          exact ⟨rfl, hbel⟩

theorem fnChecked_walk (w : World) (a0 a1 : Option Addr) (l0 c0 l1 c1 : Nat) (z0 z1 : List Int)
    (r0 : (a0 = none ∧ l0 = 0 ∧ c0 = 0 ∧ z0 = []) ∨ ∃ x, a0 = some x ∧ l0 ≤ c0 ∧ c0 ≤ maxLen ∧ z0.length = c0 ∧ (∀ i, i < z0.length → w.cell? (x.add i) = some (.int .u8 (z0.getD i 0))) ∧ ∀ n ∈ z0, (Lit.int .u8 n).wf = true)
    (r1 : (a1 = none ∧ l1 = 0 ∧ c1 = 0 ∧ z1 = []) ∨ ∃ x, a1 = some x ∧ l1 ≤ c1 ∧ c1 ≤ maxLen ∧ z1.length = c1 ∧ (∀ i, i < z1.length → w.cell? (x.add i) = some (.int .u8 (z1.getD i 0))) ∧ ∀ n ∈ z1, (Lit.int .u8 n).wf = true) :
    Calls Try.prog 6 #[.slice a0 l0 c0, .slice a1 l1 c1] w fun e w' => e = .returned (.bool true) ∧ Below w.heap.size w w' := by
  by_cases h : l0 ≤ 1048576 ∧ l1 ≤ 1048576
  · exact fnChecked_short w a0 a1 l0 c0 l1 c1 h.1 h.2 (bytesIn_of_row r0 (by omega)) (bytesIn_of_row r1 (by omega))
  · exact fnChecked_long w a0 a1 l0 c0 l1 c1 (len_of_row r0) (len_of_row r1) h

end Go.Proofs.Ytmpbnmmpniganaa
