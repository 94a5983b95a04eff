/- Maps told of maps. Printed by genmt.py. -/
import Derived.Test.YtmpbnmmpniganaaMs
namespace Go.Proofs.Ytmpbnmmpniganaa
open Go.RowKit
set_option maxRecDepth 100000
set_option linter.unusedVariables false
set_option linter.unusedSimpArgs false

theorem fq_times4 {k : Int} : fq 0 k = fq 2 (4 * k) := by
  have := fq_shift (g := 0) (j := 2) (by omega) k
  rw [← this, Int.mul_comm]; rfl
theorem plq_bd {k : Int} (h : k.natAbs ≤ 1000) : -1 ≤ plq k ∧ plq k ≤ 252 := by unfold plq; split <;> (try split) <;> (try split) <;> (try split) <;> omega

theorem mapsOk_q (w : World) (wd hi N q c q2 c2 : Nat) (hv : vPic wd hi N = true) :
    Calls Try.prog 52 #[.agg #[.int .i64 wd, .int .i64 hi, .slice (some ⟨q, 0, none⟩) N c], .agg #[.int .i64 wd, .int .i64 hi, .slice (some ⟨q2, 0, none⟩) N c2]] w fun e w' => e = .returned (.bool true) ∧ Below w.heap.size w w' := by
  obtain ⟨e1, e2, e3, e4, e5, e6, e7⟩ := vPic_mul hv
  clear e1
  have hb0 := below_two w (.cells #[.int .i64 wd, .int .i64 hi, .slice (some ⟨q, 0, none⟩) N c] 27) (.cells #[.int .i64 wd, .int .i64 hi, .slice (some ⟨q2, 0, none⟩) N c2] 27)
  have B1 := box_first w (.int .i64 wd) (.int .i64 hi) (.slice (some ⟨q, 0, none⟩) N c) 27 (.cells #[.int .i64 wd, .int .i64 hi, .slice (some ⟨q2, 0, none⟩) N c2] 27)
  have B2 := box_second w (.int .i64 wd) (.int .i64 hi) (.slice (some ⟨q2, 0, none⟩) N c2) 27 (.cells #[.int .i64 wd, .int .i64 hi, .slice (some ⟨q, 0, none⟩) N c] 27)
  go_enter Try.func52, Try.ntmps52
  go_wp2_with fail
  refine (validMap_any _ _ _ _ _ (by omega) _).mono ?_
  rw [hv]
  rintro e w1 ⟨rfl, hb1⟩
  have hbb := hb0.trans (hb1.mono hb0.size)
  have B1 := B1.below hb1
  have B2 := B2.below hb1
  obtain ⟨c0, c1, c2', -, -, -⟩ := B1.cells
  obtain ⟨d0, d1, d2', -, -, -⟩ := B2.cells
  clear hb0 hb1
  go_wp2_with fail
  refine (validMap_any _ _ _ _ _ (by omega) _).mono ?_
  rw [hv]
  rintro e w2 ⟨rfl, hb2⟩
  have hbb := hbb.trans (hb2.mono hbb.size)
  obtain ⟨c0, c1, c2', -, -, -⟩ := (B1.below hb2).cells
  obtain ⟨d0, d1, d2', -, -, -⟩ := (B2.below hb2).cells
  go_wp2
  go_ret
  exact ⟨rfl, hbb⟩

/-- Rounded. -/
def rndF (ks : List Int) (i : Nat) : Int := 4 * min (plq (ks.getD i 0)) 25

theorem roundMap_q (w : World) (wd hi N q c : Nat) (ks : List Int) (hv : vPic wd hi N = true) (h : MQ w q c N ks) (hb : ∀ k ∈ ks, k < 128) :
    Calls Try.prog 34 #[.agg #[.int .i64 wd, .int .i64 hi, .slice (some ⟨q, 0, none⟩) N c]] w (MakesMQ w wd hi N (tabI N (rndF ks))) := by
  obtain ⟨e1, e2, e3, e4, e5, e6, e7⟩ := vPic_mul hv
  have hb0 := below_two w (.cells #[.int .i64 wd, .int .i64 hi, .slice (some ⟨q, 0, none⟩) N c] 27) (.cells #[.int .i64 0, .int .i64 0, .slice none 0 0] 27)
  have hP := h.pic hb0 (box_first w _ _ _ _ _) e1
  have hg := gives_q (fid := 90) (caps := #[.pointer (some ⟨w.heap.size, 0, none⟩)]) (W0 := ((w.alloc (.cells #[.int .i64 wd, .int .i64 hi, .slice (some ⟨q, 0, none⟩) N c] 27)).alloc (.cells #[.int .i64 0, .int .i64 0, .slice none 0 0] 27))) (wd := wd) (hi := hi) (rndF ks) (fun x y hx hy => by have := plq_bd (h.kb (x + wd * y)); unfold rndF; omega) Try.call90 (by
    intro x y W hx hy hbW
    have hPW := hP.below hbW
    have hxy : x + wd * y < N := by rw [e1]; exact xy_lt hx hy
    have KM := Lib.hid (fun n => mat_q (W.drewN n) w.heap.size wd hi _ ks x y x y rfl rfl hx hy (by omega) (by omega) (hPW.drew2 n))
    have hk := h.kb (x + wd * y)
    have hk2 : ks.getD (x + wd * y) 0 < 128 := by
      rw [List.getD_eq_getElem?_getD, List.getElem?_eq_getElem (by rw [h.len]; exact hxy)]; exact hb _ (List.getElem_mem _)
    have hp := plq_bd hk
    have hof := fq_ofInt (n := min (plq (ks.getD (x + wd * y) 0)) 25) (by omega)
    rw [fq_times4] at hof
    have eF : rndF ks (x + wd * y) = 4 * min (plq (ks.getD (x + wd * y) 0)) 25 := rfl
    rw [eF]
    generalize ks.getD (x + wd * y) 0 = k at *
    have KP := Lib.hid (fun W => place_q k W (by omega) hk2)
    have hmin : (if (25 : Int) < plq k then 25 else plq k) = min (plq k) 25 := by omega
    generalize plq k = p at *
    generalize hz : fq 2 (4 * min p 25) = z at *
    have hd0 : W.drewN 0 = W := rfl
    have KM0 := Lib.hid (KM.out 0)
    clear hP hPW hbW hb0 h hv eF e1 hk hk2 hp hb KM hz
    show Calls _ _ #[.int .i64 x, .int .i64 y, .pointer (some ⟨w.heap.size, 0, none⟩)] _ _
    go_enter Try.func90, Try.ntmps90
    go_wp2_with fail
    refine KM0.out.mono ?_
    rintro e w' ⟨rfl, n, rfl⟩
    go_wp2_with fail
    refine (KP.out _).mono ?_
    rintro e w' ⟨rfl, m, rfl⟩
    go_wp2
    go_ret
    exact ⟨by first | rfl | simp [hmin, hof], by first | exact ⟨_, rfl⟩ | exact drewN_drewN _ _ _⟩)
  have HG := Lib.hid hg
  have hbd : ∀ i, i < N → ((rndF ks) i).natAbs ≤ 1000 := fun i hi => by have := plq_bd (h.kb i); unfold rndF; omega
  clear hP hg e1
  go_enter Try.func34, Try.ntmps34
  go_wp2_with fail
  refine (remap_q _ wd hi N _ c _ _ hv hbd HG.out).mono ?_
  rintro e w2 ⟨q2, c2, rfl, hm, hq, hb2⟩
  have hbb := hb0.trans (hb2.mono hb0.size)
  obtain ⟨hc2, hf2⟩ := bcell2 hb2
  have hz2 : w.heap.size + 1 < w2.heap.size := by have := hb2.size; simp at this; omega
  have hq1 : w.heap.size + 2 ≤ q2 := by simpa using hq
  go_wp2
  refine bodyPost_ret (v := .tuple #[.agg #[.int .i64 wd, .int .i64 hi, .slice (some ⟨q2, 0, none⟩) N c2], .bool true]) (by simp [results, Try.results34, go_sem, hc2, hz2]) rfl ?_
  exact ⟨q2, c2, rfl, ((hm.set (by simp; omega) _).set (by simp; omega) _).set (by simp; omega) _, by omega, ((hbb.setCell (by first | omega | (simp; done) | (simp; omega)) _).setCell (by first | omega | (simp; done) | (simp; omega)) _).setCell (by first | omega | (simp; done) | (simp; omega)) _⟩

/-- Differences, where both are no holes. -/
def lesF (ks js : List Int) (i : Nat) : Int := if ks.getD i 0 < 0 ∨ js.getD i 0 < 0 then -4 else ks.getD i 0 - js.getD i 0
theorem lesF_bd {ks js : List Int} {i : Nat} (h1 : (ks.getD i 0).natAbs ≤ 1000) (h2 : (js.getD i 0).natAbs ≤ 1000) : (lesF ks js i).natAbs ≤ 1000 := by unfold lesF; split <;> omega

end Go.Proofs.Ytmpbnmmpniganaa
