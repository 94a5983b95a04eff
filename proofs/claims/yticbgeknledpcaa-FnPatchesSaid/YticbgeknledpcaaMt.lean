/- Maps told of maps. Printed by genmt.py. -/
import Derived.Test.YticbgeknledpcaaMs
namespace Go.Proofs.Yticbgeknledpcaa
open Go.RowKit
set_option maxRecDepth 100000
set_option linter.unusedVariables false
set_option linter.unusedSimpArgs false

theorem fq_times4 {k : Int} : fq 0 k = fq 2 (4 * k) := by
  have := fq_shift (g := 0) (j := 2) (by omega) k
  rw [← this, Int.mul_comm]; rfl
theorem plq_bd {k : Int} (h : k.natAbs ≤ 1000) : -1 ≤ plq k ∧ plq k ≤ 252 := by unfold plq; split <;> (try split) <;> (try split) <;> (try split) <;> omega

theorem mapsOk_q (w : World) (wd hi N q c q2 c2 : Nat) (hv : vPic wd hi N = true) :
    Calls Try.prog 54 #[.agg #[.int .i64 wd, .int .i64 hi, .slice (some ⟨q, 0, none⟩) N c], .agg #[.int .i64 wd, .int .i64 hi, .slice (some ⟨q2, 0, none⟩) N c2]] w fun e w' => e = .returned (.bool true) ∧ Below w.heap.size w w' := by
  obtain ⟨e1, e2, e3, e4, e5, e6, e7⟩ := vPic_mul hv
  clear e1
  have hb0 := below_two w (.cells #[.int .i64 wd, .int .i64 hi, .slice (some ⟨q, 0, none⟩) N c] 26) (.cells #[.int .i64 wd, .int .i64 hi, .slice (some ⟨q2, 0, none⟩) N c2] 26)
  have B1 := box_first w (.int .i64 wd) (.int .i64 hi) (.slice (some ⟨q, 0, none⟩) N c) 26 (.cells #[.int .i64 wd, .int .i64 hi, .slice (some ⟨q2, 0, none⟩) N c2] 26)
  have B2 := box_second w (.int .i64 wd) (.int .i64 hi) (.slice (some ⟨q2, 0, none⟩) N c2) 26 (.cells #[.int .i64 wd, .int .i64 hi, .slice (some ⟨q, 0, none⟩) N c] 26)
  go_enter Try.func54, Try.ntmps54
  go_wp2_with fail
  refine (validMap_any _ _ _ _ _ (by omega) _).mono ?_
  rw [hv]
  rintro e w1 ⟨rfl, hb1⟩
  have hbb := hb0.trans (hb1.mono hb0.size)
  have B1 := B1.below hb1
  have B2 := B2.below hb1
  obtain ⟨c0, c1, c2', -, -, -⟩ := B1.cells
  obtain ⟨d0, d1, d2', -, -, -⟩ := B2.cells
  clear hb0 hb1
  go_wp2_with fail
  refine (validMap_any _ _ _ _ _ (by omega) _).mono ?_
  rw [hv]
  rintro e w2 ⟨rfl, hb2⟩
  have hbb := hbb.trans (hb2.mono hbb.size)
  obtain ⟨c0, c1, c2', -, -, -⟩ := (B1.below hb2).cells
  obtain ⟨d0, d1, d2', -, -, -⟩ := (B2.below hb2).cells
  go_wp2
  go_ret
  exact ⟨rfl, hbb⟩

/-- Rounded. -/
def rndF (ks : List Int) (i : Nat) : Int := 4 * min (plq (ks.getD i 0)) 25

theorem roundMap_q (w : World) (wd hi N q c : Nat) (ks : List Int) (hv : vPic wd hi N = true) (h : MQ w q c N ks) (hb : ∀ k ∈ ks, k < 128) :
    Calls Try.prog 22 #[.agg #[.int .i64 wd, .int .i64 hi, .slice (some ⟨q, 0, none⟩) N c]] w (MakesMQ w wd hi N (tabI N (rndF ks))) := by
  obtain ⟨e1, e2, e3, e4, e5, e6, e7⟩ := vPic_mul hv
  have hb0 := below_two w (.cells #[.int .i64 wd, .int .i64 hi, .slice (some ⟨q, 0, none⟩) N c] 26) (.cells #[.int .i64 0, .int .i64 0, .slice none 0 0] 26)
  have hP := h.pic hb0 (box_first w _ _ _ _ _) e1
  have hg := gives_q (fid := 52) (caps := #[.pointer (some ⟨w.heap.size, 0, none⟩)]) (W0 := ((w.alloc (.cells #[.int .i64 wd, .int .i64 hi, .slice (some ⟨q, 0, none⟩) N c] 26)).alloc (.cells #[.int .i64 0, .int .i64 0, .slice none 0 0] 26))) (wd := wd) (hi := hi) (rndF ks) (fun x y hx hy => by have := plq_bd (h.kb (x + wd * y)); unfold rndF; omega) Try.call52 (by
    intro x y W hx hy hbW
    have hPW := hP.below hbW
    have hxy : x + wd * y < N := by rw [e1]; exact xy_lt hx hy
    have KM := Lib.hid (fun n => mat_q (W.drewN n) w.heap.size wd hi _ ks x y x y rfl rfl hx hy (by omega) (by omega) (hPW.drew2 n))
    have hk := h.kb (x + wd * y)
    have hk2 : ks.getD (x + wd * y) 0 < 128 := by
      rw [List.getD_eq_getElem?_getD, List.getElem?_eq_getElem (by rw [h.len]; exact hxy)]; exact hb _ (List.getElem_mem _)
    have hp := plq_bd hk
    have hof := fq_ofInt (n := min (plq (ks.getD (x + wd * y) 0)) 25) (by omega)
    rw [fq_times4] at hof
    have eF : rndF ks (x + wd * y) = 4 * min (plq (ks.getD (x + wd * y) 0)) 25 := rfl
    rw [eF]
    generalize ks.getD (x + wd * y) 0 = k at *
    have KP := Lib.hid (fun W => place_q k W (by omega) hk2)
    have hmin : (if (25 : Int) < plq k then 25 else plq k) = min (plq k) 25 := by omega
    generalize plq k = p at *
    generalize hz : fq 2 (4 * min p 25) = z at *
    have hd0 : W.drewN 0 = W := rfl
    have KM0 := Lib.hid (KM.out 0)
    clear hP hPW hbW hb0 h hv eF e1 hk hk2 hp hb KM hz
    show Calls _ _ #[.int .i64 x, .int .i64 y, .pointer (some ⟨w.heap.size, 0, none⟩)] _ _
    go_enter Try.func52, Try.ntmps52
    go_wp2_with fail
    refine KM0.out.mono ?_
    rintro e w' ⟨rfl, n, rfl⟩
    go_wp2_with fail
    refine (KP.out _).mono ?_
    rintro e w' ⟨rfl, m, rfl⟩
    go_wp2
    go_ret
    exact ⟨by first | rfl | simp [hmin, hof], by first | exact ⟨_, rfl⟩ | exact drewN_drewN _ _ _⟩)
  have HG := Lib.hid hg
  have hbd : ∀ i, i < N → ((rndF ks) i).natAbs ≤ 1000 := fun i hi => by have := plq_bd (h.kb i); unfold rndF; omega
  clear hP hg e1
  go_enter Try.func22, Try.ntmps22
  go_wp2_with fail
  refine (remap_q _ wd hi N _ c _ _ hv hbd HG.out).mono ?_
  rintro e w2 ⟨q2, c2, rfl, hm, hq, hb2⟩
  have hbb := hb0.trans (hb2.mono hb0.size)
  obtain ⟨hc2, hf2⟩ := bcell2 hb2
  have hz2 : w.heap.size + 1 < w2.heap.size := by have := hb2.size; simp at this; omega
  have hq1 : w.heap.size + 2 ≤ q2 := by simpa using hq
  go_wp2
  refine bodyPost_ret (v := .tuple #[.agg #[.int .i64 wd, .int .i64 hi, .slice (some ⟨q2, 0, none⟩) N c2], .bool true]) (by simp [results, Try.results22, go_sem, hc2, hz2]) rfl ?_
  exact ⟨q2, c2, rfl, ((hm.set (by simp; omega) _).set (by simp; omega) _).set (by simp; omega) _, by omega, ((hbb.setCell (by first | omega | (simp; done) | (simp; omega)) _).setCell (by first | omega | (simp; done) | (simp; omega)) _).setCell (by first | omega | (simp; done) | (simp; omega)) _⟩

/-- Differences, where both are no holes. -/
def lesF (ks js : List Int) (i : Nat) : Int := if ks.getD i 0 < 0 ∨ js.getD i 0 < 0 then -4 else ks.getD i 0 - js.getD i 0
theorem lesF_bd {ks js : List Int} {i : Nat} (h1 : (ks.getD i 0).natAbs ≤ 1000) (h2 : (js.getD i 0).natAbs ≤ 1000) : (lesF ks js i).natAbs ≤ 1000 := by unfold lesF; split <;> omega

set_option maxHeartbeats 1000000 in
theorem lessMaps_q (w : World) (wd hi N q c q2 c2 : Nat) (ks js : List Int) (hv : vPic wd hi N = true) (h : MQ w q c N ks) (h2 : MQ w q2 c2 N js) :
    Calls Try.prog 23 #[.agg #[.int .i64 wd, .int .i64 hi, .slice (some ⟨q, 0, none⟩) N c], .agg #[.int .i64 wd, .int .i64 hi, .slice (some ⟨q2, 0, none⟩) N c2]] w (MakesMQ w wd hi N (tabI N (lesF ks js))) := by
  obtain ⟨e1, e2, e3, e4, e5, e6, e7⟩ := vPic_mul hv
  obtain ⟨W0, hW0⟩ : ∃ W0, W0 = (((w.alloc (.cells #[.int .i64 wd, .int .i64 hi, .slice (some ⟨q, 0, none⟩) N c] 26)).alloc (.cells #[.int .i64 wd, .int .i64 hi, .slice (some ⟨q2, 0, none⟩) N c2] 26)).alloc (.cells #[.int .i64 0, .int .i64 0, .slice none 0 0] 26)) := ⟨_, rfl⟩
  have hb0 : Below w.heap.size w W0 := by rw [hW0]; exact ((alb1 w _).alloc (by simp) _).alloc (by simp; omega) _
  have hX1 : Box3 W0 w.heap.size (.int .i64 wd) (.int .i64 hi) (.slice (some ⟨q, 0, none⟩) N c) 26 := by rw [hW0]; exact ((box_last w _ _ _ _).below (alb1 _ _)).below (alb1 _ _)
  have hX2 : Box3 W0 (w.heap.size + 1) (.int .i64 wd) (.int .i64 hi) (.slice (some ⟨q2, 0, none⟩) N c2) 26 := by rw [hW0]; exact by have := (box_last (w.alloc (.cells #[.int .i64 wd, .int .i64 hi, .slice (some ⟨q, 0, none⟩) N c] 26)) (.int .i64 wd) (.int .i64 hi) (.slice (some ⟨q2, 0, none⟩) N c2) 26).below (alb1 _ (.cells #[.int .i64 0, .int .i64 0, .slice none 0 0] 26)); simpa using this
  have hXZ : Box3 W0 (w.heap.size + 2) (.int .i64 0) (.int .i64 0) (.slice none 0 0) 26 := by rw [hW0]; have := box_last ((w.alloc (.cells #[.int .i64 wd, .int .i64 hi, .slice (some ⟨q, 0, none⟩) N c] 26)).alloc (.cells #[.int .i64 wd, .int .i64 hi, .slice (some ⟨q2, 0, none⟩) N c2] 26)) (.int .i64 0) (.int .i64 0) (.slice none 0 0) 26; simpa using this
  have hsz : W0.heap.size = w.heap.size + 3 := by rw [hW0]; simp
  have KO := Lib.hid (mapsOk_q W0 wd hi N q c q2 c2 hv)
  have HW0 := Lib.hid hW0
  have HM1 := Lib.hid (h.below hb0)
  have HM2 := Lib.hid (h2.below hb0)
  have HE1 := Lib.hid e1
  clear h h2 e1
  go_enter Try.func23, Try.ntmps23
  go_wp2_with fail
  rw [← HW0.out]
  refine KO.out.mono ?_
  rintro e w1 ⟨rfl, hb1⟩
  clear hW0
  have hbb1 := hb0.trans (hb1.mono hb0.size)
  have X1 := hX1.below hb1
  have X2 := hX2.below hb1
  have XZ := hXZ.below hb1
  obtain ⟨c0, c1, c2', -, -, -⟩ := X1.cells
  have hg := gives_q (fid := 55) (caps := #[.pointer (some ⟨w.heap.size, 0, none⟩), .pointer (some ⟨w.heap.size + 1, 0, none⟩)]) (W0 := w1) (wd := wd) (hi := hi) (lesF ks js) (fun x y hx hy => by have h := HM1.out; have h2 := HM2.out; have := lesF_bd (h.kb (x + wd * y)) (h2.kb (x + wd * y)); omega) Try.call55 (by
    intro x y W hx hy hbW
    have hPW := (HM1.out.below hb1).pic hbW (X1.below hbW) HE1.out
    have hPV := (HM2.out.below hb1).pic hbW (X2.below hbW) HE1.out
    have hxy : x + wd * y < N := by rw [HE1.out]; exact xy_lt hx hy
    have hka := HM1.out.kb (x + wd * y)
    have hkb := HM2.out.kb (x + wd * y)
    have KM := Lib.hid (fun n => mat_q (W.drewN n) w.heap.size wd hi _ ks x y x y rfl rfl hx hy (by omega) (by omega) (hPW.drew2 n))
    have KV := Lib.hid (fun n X Y u v hX hY hu hv => mat_q (W.drewN n) (w.heap.size + 1) wd hi _ js u v X Y hX hY hu hv (by omega) (by omega) (hPV.drew2 n))
    clear HW0 KO X1 X2 XZ c0 c1 c2' hX1 hX2 hXZ hPW hPV hb1 hbb1 hb0
    have eF : lesF ks js (x + wd * y) = if ks.getD (x + wd * y) 0 < 0 ∨ js.getD (x + wd * y) 0 < 0 then -4 else ks.getD (x + wd * y) 0 - js.getD (x + wd * y) 0 := rfl
    rw [eF]
    have KV := Lib.hid (fun n => KV.out n x y x y rfl rfl hx hy)
    clear eF
    have l1 := le0_fq (k := ks.getD (x + wd * y) 0) (by omega)
    have l2 := le0_fq (k := js.getD (x + wd * y) 0) (by omega)
    have sb := fq_sub (g := 2) (a := ks.getD (x + wd * y) 0) (b := js.getD (x + wd * y) 0) (by omega) (by omega) (by omega)
    generalize ks.getD (x + wd * y) 0 = k at *
    generalize js.getD (x + wd * y) 0 = j at *
    have cm : fq 2 (-4) = 3212836864 := by decide +kernel
    obtain ⟨r, hr⟩ : ∃ r, r = fq 2 (if k < 0 ∨ j < 0 then -4 else k - j) := ⟨_, rfl⟩
    rw [← hr]
    have hr1 : k < 0 ∨ j < 0 → r = 3212836864 := fun e => by rw [hr, if_pos e, cm]
    have hr2 : ¬ (k < 0 ∨ j < 0) → fq 2 (k - j) = r := fun e => by rw [hr, if_neg e]
    by_cases g1 : 0 ≤ k
    · by_cases g2 : 0 ≤ j
      · have hr3 := hr2 (by omega)
        rw [hr3] at sb
        have ar := fres_some sb
        have af := fdr_some sb
        have hd0 : ∀ W : World, W.drewN 0 = W := fun _ => rfl
        simp only [g1, g2, decide_true] at l1 l2
        generalize fq 2 k = x1 at *
        generalize fq 2 j = x2 at *
        clear hr hr1 hr2 hr3 hka hkb g1 g2 sb cm
        have KM0 := Lib.hid (KM.out 0)
        show Calls _ _ #[.int .i64 x, .int .i64 y, .pointer (some ⟨w.heap.size, 0, none⟩), .pointer (some ⟨w.heap.size + 1, 0, none⟩)] _ _
        go_enter Try.func55, Try.ntmps55
        go_wp2_with fail
        refine KM0.out.mono ?_
        rintro e w' ⟨rfl, n, rfl⟩
        go_wp2_with fail
        refine (isHole_any _ _).mono ?_
        rw [l1]
        rintro e w' ⟨rfl, rfl⟩
        go_wp2_with fail
        refine (KV.out _).mono ?_
        rintro e w' ⟨rfl, n2, rfl⟩
        go_wp2_with fail
        refine (isHole_any _ _).mono ?_
        rw [l2]
        rintro e w' ⟨rfl, rfl⟩
        go_wp2_with fail
        refine (KM.out _).mono ?_
        rintro e w' ⟨rfl, n4, rfl⟩
        go_wp2_with fail
        refine (KV.out _).mono ?_
        rintro e w' ⟨rfl, n6, rfl⟩
        go_wp2
        go_ret
        exact ⟨rfl, _, rfl⟩
      · have hr3 := hr1 (by omega)
        simp only [g1, g2, decide_true, decide_false] at l1 l2
        generalize fq 2 k = x1 at *
        generalize fq 2 j = x2 at *
        clear hr hr1 hr2 hka hkb g1 g2 sb cm
        subst hr3
        have KM0 := Lib.hid (KM.out 0)
        show Calls _ _ #[.int .i64 x, .int .i64 y, .pointer (some ⟨w.heap.size, 0, none⟩), .pointer (some ⟨w.heap.size + 1, 0, none⟩)] _ _
        go_enter Try.func55, Try.ntmps55
        go_wp2_with fail
        refine KM0.out.mono ?_
        rintro e w' ⟨rfl, n, rfl⟩
        go_wp2_with fail
        refine (isHole_any _ _).mono ?_
        rw [l1]
        rintro e w' ⟨rfl, rfl⟩
        go_wp2_with fail
        refine (KV.out _).mono ?_
        rintro e w' ⟨rfl, n2, rfl⟩
        go_wp2_with fail
        refine (isHole_any _ _).mono ?_
        rw [l2]
        rintro e w' ⟨rfl, rfl⟩
        go_wp2
        go_ret
        exact ⟨rfl, _, rfl⟩
    · have hr3 := hr1 (by omega)
      simp only [g1, decide_false] at l1
      generalize fq 2 k = x1 at *
      generalize fq 2 j = x2 at *
      clear hr hr1 hr2 hka hkb g1 sb cm l2
      subst hr3
      have KM0 := Lib.hid (KM.out 0)
      show Calls _ _ #[.int .i64 x, .int .i64 y, .pointer (some ⟨w.heap.size, 0, none⟩), .pointer (some ⟨w.heap.size + 1, 0, none⟩)] _ _
      go_enter Try.func55, Try.ntmps55
      go_wp2_with fail
      refine KM0.out.mono ?_
      rintro e w' ⟨rfl, n, rfl⟩
      go_wp2_with fail
      refine (isHole_any _ _).mono ?_
      rw [l1]
      rintro e w' ⟨rfl, rfl⟩
      go_wp2
      go_ret
      exact ⟨rfl, n, rfl⟩)
  have HG := Lib.hid hg
  have hbd : ∀ i, i < N → ((lesF ks js) i).natAbs ≤ 1000 := fun i hi => by have h := HM1.out; have h2 := HM2.out; exact lesF_bd (h.kb i) (h2.kb i)
  clear hg X1 X2 hX1 hX2 hXZ KO
  go_wp2_with fail
  refine (remap_q _ wd hi N _ c _ _ hv hbd HG.out).mono ?_
  rintro e w2 ⟨q3, c3, rfl, hm, hq, hb2⟩
  have hbb := hbb1.trans (hb2.mono hbb1.size)
  obtain ⟨d0, d1, d2, g0, g1, g2⟩ := (XZ.below hb2).cells
  have hz2 : w.heap.size + 2 < w2.heap.size := by have := hb2.size; have := hb1.size; omega
  have hq1 : w.heap.size + 3 ≤ q3 := by have := hb1.size; omega
  go_wp2
  refine bodyPost_ret (v := .tuple #[.agg #[.int .i64 wd, .int .i64 hi, .slice (some ⟨q3, 0, none⟩) N c3], .bool true]) (by simp [results, Try.results23, go_sem, d0, d1, d2, hz2]) rfl ?_
  exact ⟨q3, c3, rfl, ((hm.set (by simp; omega) _).set (by simp; omega) _).set (by simp; omega) _, by omega, ((hbb.setCell (by first | omega | (simp; done) | (simp; omega)) _).setCell (by first | omega | (simp; done) | (simp; omega)) _).setCell (by first | omega | (simp; done) | (simp; omega)) _⟩

end Go.Proofs.Yticbgeknledpcaa
