/- GuidedMap with a flat guide. -/
import Derived.Test.YtmpbnmmpniganaaYn
namespace Go.Proofs.Ytmpbnmmpniganaa
open Go.RowKit
set_option maxRecDepth 100000
set_option linter.unusedVariables false
set_option linter.unusedSimpArgs false

theorem gdV_nan {ks : List Int} {wd hi r i : Nat} {mo : Int} (hN : wd * hi ≤ 256) (hi_ : i < wd * hi) (hkb : ∀ i, (ks.getD i 0).natAbs ≤ 1000) : nan32 (gdV ks wd hi r mo i) = false ∧ gdV ks wd hi r mo i < 4294967296 := by
  unfold gdV
  split
  · exact ⟨fq_nan (by decide), fq_lt (by decide)⟩
  · split
    · have hsb : ∀ k ∈ seenL ks wd hi r i, k.natAbs ≤ 1000 := fun k h => by obtain ⟨j, -, e⟩ := seen_mem h; rw [e]; exact hkb j
      have := meanW_ok (L := seenL ks wd hi r i) (lo := -1000) (hi := 1000) (by have := seen_len ks wd hi r i; omega) hsb (fun k hk _ => by have := hsb k hk; omega) ⟨_, seen_own hi_, by omega⟩ (by decide) (by decide)
      exact ⟨nan_of_fin32 this.2.2.1, this.2.2.2.1⟩
    · have := hkb i
      exact ⟨fq_nan (by omega), fq_lt (by omega)⟩

set_option maxHeartbeats 2000000 in
theorem guidedMap_q (w : World) (wd hi N q c g cg r : Nat) (ks : List Int) (mo : Int) (hmo : mo = 0 ∨ mo = -4) (hr : r ≤ 3) (hv : vPic wd hi N = true) (h : MQ w q c N ks)
    (hgd : SlF w (.slice (some ⟨g, 0, none⟩) N cg) (List.replicate N (fq 2 4))) (hgl : g < w.heap.size) :
    Calls Try.prog 31 #[.agg #[.int .i64 wd, .int .i64 hi, .slice (some ⟨q, 0, none⟩) N c], .agg #[.int .i64 wd, .int .i64 hi, .slice (some ⟨g, 0, none⟩) N cg], .int .i64 r, .float .f32 (fq 2 mo)] w (MakesMG w wd hi N (gdV ks wd hi r mo)) := by
  obtain ⟨e1, e2, e3, e4, e5, e6, e7⟩ := vPic_mul hv
  obtain ⟨W0, hW0⟩ : ∃ W0, W0 = ((((w.alloc (.cells #[.int .i64 wd, .int .i64 hi, .slice (some ⟨q, 0, none⟩) N c] 27)).alloc (.cells #[.int .i64 wd, .int .i64 hi, .slice (some ⟨g, 0, none⟩) N cg] 37)).alloc (.cells #[.int .i64 r] 2)).alloc (.cells #[.float .f32 (fq 2 mo)] 33)).alloc (.cells #[.int .i64 0, .int .i64 0, .slice none 0 0] 27) := ⟨_, rfl⟩
  have hb0 : Below w.heap.size w W0 := by rw [hW0]; exact ((((alb1 w _).alloc (by simp) _).alloc (by simp; omega) _).alloc (by simp; omega) _).alloc (by simp; omega) _
  have hX1 : Box3 W0 w.heap.size (.int .i64 wd) (.int .i64 hi) (.slice (some ⟨q, 0, none⟩) N c) 27 := by
    rw [hW0]; exact (((box_first w _ _ _ _ _).below (alb1 _ _)).below (alb1 _ _)).below (alb1 _ _)
  have hX2 : Box3 W0 (w.heap.size + 1) (.int .i64 wd) (.int .i64 hi) (.slice (some ⟨g, 0, none⟩) N cg) 37 := by
    rw [hW0]; exact (((box_second w _ _ _ _ _).below (alb1 _ _)).below (alb1 _ _)).below (alb1 _ _)
  have hX3 : BoxN W0 (w.heap.size + 2) #[.int .i64 r] 2 := by
    rw [hW0]
    have := ((BoxN.last ((w.alloc (.cells #[.int .i64 wd, .int .i64 hi, .slice (some ⟨q, 0, none⟩) N c] 27)).alloc (.cells #[.int .i64 wd, .int .i64 hi, .slice (some ⟨g, 0, none⟩) N cg] 37)) #[.int .i64 r] 2).below (alb1 _ (.cells #[.float .f32 (fq 2 mo)] 33))).below (alb1 _ (.cells #[.int .i64 0, .int .i64 0, .slice none 0 0] 27))
    simpa using this
  have hX4 : BoxN W0 (w.heap.size + 3) #[.float .f32 (fq 2 mo)] 33 := by
    rw [hW0]
    have := ((BoxN.last (((w.alloc (.cells #[.int .i64 wd, .int .i64 hi, .slice (some ⟨q, 0, none⟩) N c] 27)).alloc (.cells #[.int .i64 wd, .int .i64 hi, .slice (some ⟨g, 0, none⟩) N cg] 37)).alloc (.cells #[.int .i64 r] 2)) #[.float .f32 (fq 2 mo)] 33).below (alb1 _ (.cells #[.int .i64 0, .int .i64 0, .slice none 0 0] 27)))
    simpa using this
  have hX5 : Box3 W0 (w.heap.size + 4) (.int .i64 0) (.int .i64 0) (.slice none 0 0) 27 := by
    rw [hW0]
    have := box_last ((((w.alloc (.cells #[.int .i64 wd, .int .i64 hi, .slice (some ⟨q, 0, none⟩) N c] 27)).alloc (.cells #[.int .i64 wd, .int .i64 hi, .slice (some ⟨g, 0, none⟩) N cg] 37)).alloc (.cells #[.int .i64 r] 2)).alloc (.cells #[.float .f32 (fq 2 mo)] 33)) (.int .i64 0) (.int .i64 0) (.slice none 0 0) 27
    simpa using this
  have hsz : W0.heap.size = w.heap.size + 5 := by rw [hW0]; simp
  have hP := h.pic hb0 hX1 e1
  have hkb := h.kb
  have hGP : PicAt W0 (w.heap.size + 1) wd hi (.slice (some ⟨g, 0, none⟩) N cg) (List.replicate (wd * hi) (fq 2 4)) 37 :=
    ⟨hX2, by rw [← e1]; exact hgd.below hb0, by rw [List.length_replicate]⟩
  have hgv : Gives2 W0 (.func (.func 82) #[] #[.pointer (some ⟨w.heap.size, 0, none⟩), .pointer (some ⟨w.heap.size + 2, 0, none⟩), .pointer (some ⟨w.heap.size + 1, 0, none⟩), .pointer (some ⟨w.heap.size + 3, 0, none⟩)]) wd hi (fun x y => gdV ks wd hi r mo (x + wd * y)) := by
    refine ⟨82, _, rfl, Try.call82, fun x y W hx hy hbW => ?_⟩
    refine (gd_call W w.heap.size (w.heap.size + 1) (w.heap.size + 2) (w.heap.size + 3) wd hi N r _ _ ks mo hmo x y hx hy (by omega) (by omega) (by omega) (by omega) hkb (hP.below hbW) (hGP.below hbW) (hX3.below hbW) (hX4.below hbW)).mono ?_
    rintro e w' ⟨rfl, hb'⟩
    have hn := gdV_nan (r := r) (mo := mo) (by omega) (xy_lt hx hy) hkb
    exact ⟨_, rfl, hn.2, fl_eq hn.1, hb'⟩
  have HG := Lib.hid hgv
  have HNB := Lib.hid (fun i (hi_ : i < N) => (gdV_nan (wd := wd) (hi := hi) (r := r) (mo := mo) (i := i) (by omega) (by rw [← e1]; exact hi_) hkb).1)
  have HW0 := Lib.hid hW0
  have HB0 := Lib.hid hb0
  have HSZ := Lib.hid hsz
  have HX2 := Lib.hid hX2
  have HX1 := Lib.hid hX1
  have HX3 := Lib.hid hX3
  have HX5 := Lib.hid hX5
  obtain ⟨z0, z1, z2, -, -, -⟩ := hX1.cells
  have kv := validMap_any (wd : Int) (hi : Int) (some ⟨q, 0, none⟩) N c (by omega) W0
  rw [hv] at kv
  have KV := Lib.hid kv
  have KP := Lib.hid (fun W' => validPicture_any (wd : Int) (hi : Int) (some ⟨g, 0, none⟩) N cg (by omega) W')
  rw [hv] at KP
  have KI := Lib.hid (fun W' => in_T (r : Int) 0 3 (by omega) (by omega) W')
  clear hP hGP hgv e1 hW0 hb0 hX1 hX2 hX3 hX4 hX5 h hkb hsz hgd kv
  go_enter Try.func31, Try.ntmps31
  go_upto_region 1 with fail
  rw [← HW0.out]
  go_wp2_with fail
  refine KV.out.mono ?_
  rintro e w1 ⟨rfl, hb1⟩
  obtain ⟨z0, z1, z2, -, -, -⟩ := (HX1.out.below hb1).cells
  obtain ⟨y0, y1, y2, -, -, -⟩ := (HX2.out.below hb1).cells
  have y3 : w1.cell? ⟨w.heap.size + 1 + 1, 0, none⟩ = some (.int .i64 r) := (HX3.out.below hb1).cell 0
  go_wp2_with fail
  refine (KP.out _).mono ?_
  rintro e w2 ⟨rfl, hb2⟩
  have hb12 : Below W0.heap.size W0 w2 := hb1.trans (hb2.mono hb1.size)
  clear z0 z1 z2 y0 y1 y2 y3
  obtain ⟨z0, z1, z2, -, -, -⟩ := (HX1.out.below hb12).cells
  obtain ⟨y0, y1, y2, -, -, -⟩ := (HX2.out.below hb12).cells
  have y3 : w2.cell? ⟨w.heap.size + 1 + 1, 0, none⟩ = some (.int .i64 r) := (HX3.out.below hb12).cell 0
  go_wp2_with fail
  refine (KI.out _).mono ?_
  rintro e w3 ⟨rfl, rfl⟩
  go_wp2_with fail
  refine (remap_g _ wd hi N _ c _ _ hv HNB.out (HG.out.below hb12)).mono ?_
  rintro e w3 ⟨q2, c2, rfl, hm, hql, hq, hb3⟩
  have hb03 : Below W0.heap.size W0 w3 := hb12.trans (hb3.mono hb12.size)
  have hbb := HB0.out.trans (hb03.mono HB0.out.size)
  obtain ⟨d0, d1, d2, g0, g1, g2⟩ := (HX5.out.below hb03).cells
  have d0' : w3.cell? ⟨w.heap.size + 1 + 1 + 1 + 1, 0, none⟩ = some (.int .i64 0) := d0
  have d1' : w3.cell? ⟨w.heap.size + 1 + 1 + 1 + 1, 1, none⟩ = some (.int .i64 0) := d1
  have d2' : w3.cell? ⟨w.heap.size + 1 + 1 + 1 + 1, 2, none⟩ = some (.slice none 0 0) := d2
  have g0' : w3.frozen? ⟨w.heap.size + 1 + 1 + 1 + 1, 0, none⟩ = false := g0
  have g1' : w3.frozen? ⟨w.heap.size + 1 + 1 + 1 + 1, 1, none⟩ = false := g1
  have g2' : w3.frozen? ⟨w.heap.size + 1 + 1 + 1 + 1, 2, none⟩ = false := g2
  have hsz3 : w.heap.size + 4 < w3.heap.size := by have := hb03.size; have := HSZ.out; omega
  have hqq : w.heap.size + 5 ≤ q2 := by have := hb12.size; have := HSZ.out; omega
  have HF := Lib.hid (And.intro hm (And.intro hql hbb))
  clear z0 z1 z2 y0 y1 y2 y3 hm hbb hb3 hb12 hb03 hb1 hb2 hql hq hv d0 d1 d2 g0 g1 g2
  go_wp2
  refine bodyPost_ret (v := .tuple #[.agg #[.int .i64 wd, .int .i64 hi, .slice (some ⟨q2, 0, none⟩) N c2], .bool true]) (by simp [results, Try.results31, go_sem, d0', d1', d2', hsz3]) rfl ?_
  have hF : ∀ (W : World) (i : Nat) (v : Value), SlF W (.slice (some ⟨q2, 0, none⟩) N c2) ((List.range N).map (gdV ks wd hi r mo)) → SlF (W.setCell ⟨w.heap.size + 1 + 1 + 1 + 1, i, none⟩ v) (.slice (some ⟨q2, 0, none⟩) N c2) ((List.range N).map (gdV ks wd hi r mo)) := fun W i v h =>
    ⟨h.1.grown (grown_setCell _ _ _) (.inr (by simp [Value.ownBlock]; omega)), h.2⟩
  exact ⟨q2, c2, rfl, hF _ _ _ (hF _ _ _ (hF _ _ _ HF.out.1)), by simpa [World.setCell] using HF.out.2.1, by omega, ((HF.out.2.2.setCell (by first | omega | (simp; done) | (simp; omega)) _).setCell (by first | omega | (simp; done) | (simp; omega)) _).setCell (by first | omega | (simp; done) | (simp; omega)) _⟩

end Go.Proofs.Ytmpbnmmpniganaa
