/- FillRows. Printed by genfr.py. -/
import Derived.Test.YticbgeknledpcaaFr
namespace Go.Proofs.Yticbgeknledpcaa
open Go.RowKit
set_option maxRecDepth 100000
set_option linter.unusedVariables false
set_option linter.unusedSimpArgs false

/-- A hole of a row has the less one of its two neighbours. -/
def fill2 (a b : Int) : Int := if a < 0 ∨ 0 ≤ b ∧ b < a then b else a
def fillF (ks : List Int) (wd : Nat) (i : Nat) : Int :=
  if 0 ≤ ks.getD i 0 then ks.getD i 0 else fill2 (nxtL (rowG ks wd (i / wd)) (i % wd)) (nxtR (rowG ks wd (i / wd)) (wd - 1 - i % wd) (i % wd + 1))
theorem nxtL_bd {g : Nat → Int} (h : ∀ u, (g u).natAbs ≤ 1000) (u : Nat) : (nxtL g u).natAbs ≤ 1000 := by
  rcases nxtL_or g u with ⟨h1, _⟩ | ⟨i, _, h1, _⟩
  · omega
  · rw [h1]; exact h i
theorem nxtR_bd {g : Nat → Int} (h : ∀ u, (g u).natAbs ≤ 1000) (n u : Nat) : (nxtR g n u).natAbs ≤ 1000 := by
  rcases nxtR_or g n u with ⟨h1, _⟩ | ⟨i, _, h1, _⟩
  · omega
  · rw [h1]; exact h _
theorem fillF_bd {ks : List Int} (h : ∀ i, (ks.getD i 0).natAbs ≤ 1000) (wd i : Nat) : (fillF ks wd i).natAbs ≤ 1000 := by
  have h1 := h i
  have h2 := nxtL_bd (g := rowG ks wd (i / wd)) (fun u => h _) (i % wd)
  have h3 := nxtR_bd (g := rowG ks wd (i / wd)) (fun u => h _) (wd - 1 - i % wd) (i % wd + 1)
  unfold fillF fill2
  split
  · exact h1
  · split <;> assumption

theorem fillRows_q (w : World) (wd hi N q c : Nat) (ks : List Int) (hv : vPic wd hi N = true) (h : MQ w q c N ks) :
    Calls Try.prog 10 #[.agg #[.int .i64 wd, .int .i64 hi, .slice (some ⟨q, 0, none⟩) N c]] w (MakesMQ w wd hi N (tabI N (fillF ks wd))) := by
  obtain ⟨e1, e2, e3, e4, e5, e6, e7⟩ := vPic_mul hv
  have hb0 := below_two w (.cells #[.int .i64 wd, .int .i64 hi, .slice (some ⟨q, 0, none⟩) N c] 26) (.cells #[.int .i64 0, .int .i64 0, .slice none 0 0] 26)
  have hP := h.pic hb0 (box_first w _ _ _ _ _) e1
  have hg := gives_q (fid := 37) (caps := #[.pointer (some ⟨w.heap.size, 0, none⟩)]) (W0 := ((w.alloc (.cells #[.int .i64 wd, .int .i64 hi, .slice (some ⟨q, 0, none⟩) N c] 26)).alloc (.cells #[.int .i64 0, .int .i64 0, .slice none 0 0] 26))) (wd := wd) (hi := hi) (fillF ks wd) (fun x y hx hy => by have := fillF_bd h.kb wd (x + wd * y); omega) Try.call37 (by
    intro x y W hx hy hbW
    have hPW := hP.below hbW
    have hxy : x + wd * y < N := by rw [e1]; exact xy_lt hx hy
    have KM := Lib.hid (fun n => mat_q (W.drewN n) w.heap.size wd hi _ ks x y x y rfl rfl hx hy (by omega) (by omega) (hPW.drew2 n))
    have hk := h.kb (x + wd * y)
    have eF : fillF ks wd (x + wd * y) = if 0 ≤ ks.getD (x + wd * y) 0 then ks.getD (x + wd * y) 0 else fill2 (nxtL (rowG ks wd y) x) (nxtR (rowG ks wd y) (wd - 1 - x) (x + 1)) := by unfold fillF; rw [xy_mod hx, xy_div hx]
    have KL := Lib.hid (fun n => nextL_q (W.drewN n) w.heap.size wd hi _ ks x y hx hy (by omega) (by omega) (hPW.drew2 n) h.kb)
    have KR := Lib.hid (fun n => nextR_q (W.drewN n) w.heap.size wd hi _ ks x y hx hy (by omega) (by omega) (hPW.drew2 n) h.kb)
    have ha := nxtL_bd (g := rowG ks wd y) (fun u => h.kb _) x
    have hb := nxtR_bd (g := rowG ks wd y) (fun u => h.kb _) (wd - 1 - x) (x + 1)
    generalize nxtL (rowG ks wd y) x = a at *
    generalize nxtR (rowG ks wd y) (wd - 1 - x) (x + 1) = b at *
    have l0 := le0_fq (k := ks.getD (x + wd * y) 0) (by omega)
    have la := le0_fq (k := a) (by omega)
    have lb := le0_fq (k := b) (by omega)
    have lc := lt32_fq (g := 2) (a := b) (b := a) (by omega) (by omega)
    have KM0 := Lib.hid (KM.out 0)
    rw [eF]
    generalize ks.getD (x + wd * y) 0 = k at *
    obtain ⟨r, hr⟩ : ∃ r, r = fq 2 (if 0 ≤ k then k else fill2 a b) := ⟨_, rfl⟩
    rw [← hr]
    clear hP hPW hbW hb0 h hv eF e1
    show Calls _ _ #[.int .i64 x, .int .i64 y, .pointer (some ⟨w.heap.size, 0, none⟩)] _ _
    by_cases g0 : 0 ≤ k
    · rw [if_pos g0] at hr
      simp only [g0, decide_true] at l0
      generalize fq 2 k = xk at *
      clear la lb lc KL KR ha hb g0 hk
      subst hr
      go_enter Try.func37, Try.ntmps37
      go_wp2_with fail
      refine KM0.out.mono ?_
      rintro e w' ⟨rfl, n, rfl⟩
      go_wp2_with fail
      refine (noHole_any _ _).mono ?_
      rw [l0]
      rintro e w' ⟨rfl, rfl⟩
      go_wp2_with fail
      refine (KM.out _).mono ?_
      rintro e w' ⟨rfl, m, rfl⟩
      go_wp2
      go_ret
      exact ⟨rfl, by first | exact ⟨_, rfl⟩ | exact drewN_drewN _ _ _⟩
    · rw [if_neg g0] at hr
      simp only [g0, decide_false] at l0
      generalize fq 2 k = xk at *
      clear KM g0 hk
      by_cases ga : 0 ≤ a
      · by_cases gb : 0 ≤ b
        · by_cases gc : b < a
          · have hv : fill2 a b = b := by unfold fill2; rw [if_pos (by omega)]
            rw [hv] at hr
            simp only [ga, gb, gc, decide_true, decide_false] at la lb lc
            generalize fq 2 a = xa at *
            generalize fq 2 b = xb at *
            clear hv ha hb ga gb gc
            subst hr
            go_enter Try.func37, Try.ntmps37
            go_wp2_with fail
            refine KM0.out.mono ?_
            rintro e w' ⟨rfl, n, rfl⟩
            go_wp2_with fail
            refine (noHole_any _ _).mono ?_
            rw [l0]
            rintro e w' ⟨rfl, rfl⟩
            go_wp2_with fail
            refine (KL.out _).mono ?_
            rintro e w' ⟨rfl, n1, rfl⟩
            go_wp2_with fail
            refine (KR.out _).mono ?_
            rintro e w' ⟨rfl, n2, rfl⟩
            go_wp2_with fail
            refine (isHole_any _ _).mono ?_
            rw [la]
            rintro e w' ⟨rfl, rfl⟩
            go_wp2_with fail
            refine (noHole_any _ _).mono ?_
            rw [lb]
            rintro e w' ⟨rfl, rfl⟩
            go_wp2
            go_ret
            exact ⟨rfl, by first | exact ⟨_, rfl⟩ | exact drewN_drewN _ _ _ | (simp only [World.drewN_drewN']; exact ⟨_, rfl⟩) | exact ⟨n + n1 + n2, by simp [World.drewN, Nat.add_assoc]⟩⟩
          · have hv : fill2 a b = a := by unfold fill2; rw [if_neg (by omega)]
            rw [hv] at hr
            simp only [ga, gb, gc, decide_true, decide_false] at la lb lc
            generalize fq 2 a = xa at *
            generalize fq 2 b = xb at *
            clear hv ha hb ga gb gc
            subst hr
            go_enter Try.func37, Try.ntmps37
            go_wp2_with fail
            refine KM0.out.mono ?_
            rintro e w' ⟨rfl, n, rfl⟩
            go_wp2_with fail
            refine (noHole_any _ _).mono ?_
            rw [l0]
            rintro e w' ⟨rfl, rfl⟩
            go_wp2_with fail
            refine (KL.out _).mono ?_
            rintro e w' ⟨rfl, n1, rfl⟩
            go_wp2_with fail
            refine (KR.out _).mono ?_
            rintro e w' ⟨rfl, n2, rfl⟩
            go_wp2_with fail
            refine (isHole_any _ _).mono ?_
            rw [la]
            rintro e w' ⟨rfl, rfl⟩
            go_wp2_with fail
            refine (noHole_any _ _).mono ?_
            rw [lb]
            rintro e w' ⟨rfl, rfl⟩
            go_wp2
            go_ret
            exact ⟨rfl, by first | exact ⟨_, rfl⟩ | exact drewN_drewN _ _ _ | (simp only [World.drewN_drewN']; exact ⟨_, rfl⟩) | exact ⟨n + n1 + n2, by simp [World.drewN, Nat.add_assoc]⟩⟩
        · have hv : fill2 a b = a := by unfold fill2; rw [if_neg (by omega)]
          rw [hv] at hr
          simp only [ga, gb, decide_true, decide_false] at la lb lc
          generalize fq 2 a = xa at *
          generalize fq 2 b = xb at *
          clear hv ha hb ga gb lc
          subst hr
          go_enter Try.func37, Try.ntmps37
          go_wp2_with fail
          refine KM0.out.mono ?_
          rintro e w' ⟨rfl, n, rfl⟩
          go_wp2_with fail
          refine (noHole_any _ _).mono ?_
          rw [l0]
          rintro e w' ⟨rfl, rfl⟩
          go_wp2_with fail
          refine (KL.out _).mono ?_
          rintro e w' ⟨rfl, n1, rfl⟩
          go_wp2_with fail
          refine (KR.out _).mono ?_
          rintro e w' ⟨rfl, n2, rfl⟩
          go_wp2_with fail
          refine (isHole_any _ _).mono ?_
          rw [la]
          rintro e w' ⟨rfl, rfl⟩
          go_wp2_with fail
          refine (noHole_any _ _).mono ?_
          rw [lb]
          rintro e w' ⟨rfl, rfl⟩
          go_wp2
          go_ret
          exact ⟨rfl, by first | exact ⟨_, rfl⟩ | exact drewN_drewN _ _ _ | (simp only [World.drewN_drewN']; exact ⟨_, rfl⟩) | exact ⟨n + n1 + n2, by simp [World.drewN, Nat.add_assoc]⟩⟩
      · have hv : fill2 a b = b := by unfold fill2; rw [if_pos (by omega)]
        rw [hv] at hr
        simp only [ga, decide_false] at la lb lc
        generalize fq 2 a = xa at *
        generalize fq 2 b = xb at *
        clear hv ha hb ga lb lc
        subst hr
        go_enter Try.func37, Try.ntmps37
        go_wp2_with fail
        refine KM0.out.mono ?_
        rintro e w' ⟨rfl, n, rfl⟩
        go_wp2_with fail
        refine (noHole_any _ _).mono ?_
        rw [l0]
        rintro e w' ⟨rfl, rfl⟩
        go_wp2_with fail
        refine (KL.out _).mono ?_
        rintro e w' ⟨rfl, n1, rfl⟩
        go_wp2_with fail
        refine (KR.out _).mono ?_
        rintro e w' ⟨rfl, n2, rfl⟩
        go_wp2_with fail
        refine (isHole_any _ _).mono ?_
        rw [la]
        rintro e w' ⟨rfl, rfl⟩
        go_wp2
        go_ret
        exact ⟨rfl, by first | exact ⟨_, rfl⟩ | exact drewN_drewN _ _ _ | (simp only [World.drewN_drewN']; exact ⟨_, rfl⟩) | exact ⟨n + n1 + n2, by simp [World.drewN, Nat.add_assoc]⟩⟩)
  have HG := Lib.hid hg
  have hbd : ∀ i, i < N → ((fillF ks wd) i).natAbs ≤ 1000 := fun i hi => by exact fillF_bd h.kb wd i
  clear hP hg e1
  go_enter Try.func10, Try.ntmps10
  go_wp2_with fail
  refine (remap_q _ wd hi N _ c _ _ hv hbd HG.out).mono ?_
  rintro e w2 ⟨q2, c2, rfl, hm, hq, hb2⟩
  have hbb := hb0.trans (hb2.mono hb0.size)
  obtain ⟨hc2, hf2⟩ := bcell2 hb2
  have hz2 : w.heap.size + 1 < w2.heap.size := by have := hb2.size; simp at this; omega
  have hq1 : w.heap.size + 2 ≤ q2 := by simpa using hq
  go_wp2
  refine bodyPost_ret (v := .tuple #[.agg #[.int .i64 wd, .int .i64 hi, .slice (some ⟨q2, 0, none⟩) N c2], .bool true]) (by simp [results, Try.results10, go_sem, hc2, hz2]) rfl ?_
  exact ⟨q2, c2, rfl, ((hm.set (by simp; omega) _).set (by simp; omega) _).set (by simp; omega) _, by omega, ((hbb.setCell (by first | omega | (simp; done) | (simp; omega)) _).setCell (by first | omega | (simp; done) | (simp; omega)) _).setCell (by first | omega | (simp; done) | (simp; omega)) _⟩


end Go.Proofs.Yticbgeknledpcaa
