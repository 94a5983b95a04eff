/- Volumes of two pictures. Words. -/
import Derived.Test.YtmpbnmmpniganaaKc
import Derived.Test.YtmpbnmmpniganaaMs
namespace Go.Proofs.Ytmpbnmmpniganaa
open Go.RowKit
set_option maxRecDepth 100000
set_option linter.unusedVariables false
set_option linter.unusedSimpArgs false

theorem pairOk_k (w : World) (wd hi N : Nat) (s1 s2 : Option Addr) (c1 c2 : Nat) (hv : vPic wd hi N = true) :
    Calls Try.prog 76 #[.agg #[.int .i64 wd, .int .i64 hi, .slice s1 N c1], .agg #[.int .i64 wd, .int .i64 hi, .slice s2 N c2]] w fun e w' => e = .returned (.bool true) ∧ Below w.heap.size w w' := by
  obtain ⟨x1, x2, e1, e2, e3, b1, b2, b3, b4, b5⟩ := vPic_spec hv
  have hn : N ≤ 256 := by omega
  clear e1 e2 e3 b1 b2 b3 b4 b5
  have hb0 := below_two w (.cells #[.int .i64 wd, .int .i64 hi, .slice s1 N c1] 37) (.cells #[.int .i64 wd, .int .i64 hi, .slice s2 N c2] 37)
  have B1 := box_first w (.int .i64 wd) (.int .i64 hi) (.slice s1 N c1) 37 (.cells #[.int .i64 wd, .int .i64 hi, .slice s2 N c2] 37)
  have B2 := box_second w (.int .i64 wd) (.int .i64 hi) (.slice s2 N c2) 37 (.cells #[.int .i64 wd, .int .i64 hi, .slice s1 N c1] 37)
  go_enter Try.func76, Try.ntmps76
  go_wp2_with fail
  refine (validPicture_any _ _ _ _ _ (by omega) _).mono ?_
  rw [hv]
  rintro e w1 ⟨rfl, hb1⟩
  have hbb := hb0.trans (hb1.mono hb0.size)
  have B1 := B1.below hb1
  have B2 := B2.below hb1
  obtain ⟨c0, c1, c2', -, -, -⟩ := B1.cells
  obtain ⟨d0, d1, d2', -, -, -⟩ := B2.cells
  clear hb0 hb1
  go_wp2_with fail
  refine (validPicture_any _ _ _ _ _ (by omega) _).mono ?_
  rw [hv]
  rintro e w2 ⟨rfl, hb2⟩
  have hbb := hbb.trans (hb2.mono hbb.size)
  obtain ⟨c0, c1, c2', -, -, -⟩ := (B1.below hb2).cells
  obtain ⟨d0, d1, d2', -, -, -⟩ := (B2.below hb2).cells
  go_wp2
  go_ret
  exact ⟨rfl, hbb⟩

/-- The result of volumeOf is a volume. -/
theorem MakesVol.mwk {w w' : World} {wd hi dp M : Nat} {g : Nat → Nat → Nat → Nat} {e : Ending} (hM : M = wd * hi * dp) (h0 : 0 < M) (h : MakesVol w wd hi dp g e w') :
    ∃ q c bs, e = .returned (.agg #[.int .i64 wd, .int .i64 hi, .int .i64 dp, .slice (some ⟨q, 0, none⟩) M c]) ∧ MW w' q c M bs ∧ bs.map fl = tab3 wd hi dp g ∧ w.heap.size ≤ q ∧ Below w.heap.size w w' := by
  obtain ⟨a, c, bs, rfl, ho, hc, hb⟩ := h
  have hl := tab3_len2 hM hc
  rw [hl] at ho
  obtain ⟨q, rfl⟩ := own_ptr ho (by omega)
  exact ⟨q, c, bs, by rw [hl], ⟨ho.sl, (ho.lt (k := q) rfl).2, hl⟩, hc, (ho.lt (k := q) rfl).1, hb⟩

set_option maxHeartbeats 1000000 in
theorem pairVolume_w (w : World) (wd hi dp N q1 c1 q2 c2 : Nat) (fv : Value) (g : Nat → Nat → Nat → Nat) (hv : vPic wd hi N = true) (hd1 : 1 ≤ dp) (hd2 : dp ≤ 8) (hf : Gives3 w fv wd hi dp g) :
    Calls Try.prog 61 #[.agg #[.int .i64 wd, .int .i64 hi, .slice (some ⟨q1, 0, none⟩) N c1], .agg #[.int .i64 wd, .int .i64 hi, .slice (some ⟨q2, 0, none⟩) N c2], .int .i64 dp, fv] w (MakesVW w wd hi dp (wd * hi * dp) g) := by
  obtain ⟨e1, e2, e3, e4, e5, e6, e7⟩ := vPic_mul hv
  have hM0 : 0 < wd * hi * dp := Nat.mul_pos (Nat.mul_pos e2 e4) hd1
  obtain ⟨W0, hW0⟩ : ∃ W0, W0 = ((w.alloc (.cells #[.int .i64 wd, .int .i64 hi, .slice (some ⟨q1, 0, none⟩) N c1] 37)).alloc (.cells #[.int .i64 wd, .int .i64 hi, .slice (some ⟨q2, 0, none⟩) N c2] 37)).alloc (.cells #[.int .i64 0, .int .i64 0, .int .i64 0, .slice none 0 0] 44) := ⟨_, rfl⟩
  have hb0 : Below w.heap.size w W0 := by rw [hW0]; exact (below_two w _ _).alloc (by simp; omega) _
  have A1 : Box3 W0 w.heap.size (.int .i64 wd) (.int .i64 hi) (.slice (some ⟨q1, 0, none⟩) N c1) 37 := by rw [hW0]; exact (box_first w _ _ _ _ _).below (alb_k _ _)
  have BZ : BoxN W0 (w.heap.size + 2) #[.int .i64 0, .int .i64 0, .int .i64 0, .slice none 0 0] 44 := by rw [hW0]; have := BoxN.last ((w.alloc (.cells #[.int .i64 wd, .int .i64 hi, .slice (some ⟨q1, 0, none⟩) N c1] 37)).alloc (.cells #[.int .i64 wd, .int .i64 hi, .slice (some ⟨q2, 0, none⟩) N c2] 37)) #[.int .i64 0, .int .i64 0, .int .i64 0, .slice none 0 0] 44; simpa using this
  have KP := Lib.hid (pairOk_k W0 wd hi N (some ⟨q1, 0, none⟩) (some ⟨q2, 0, none⟩) c1 c2 hv)
  have hin : (decide ((1 : Int) ≤ dp) && decide ((dp : Int) ≤ 8)) = true := by simp; omega
  have HW0 := Lib.hid hW0
  have HB := Lib.hid (And.intro hb0 (And.intro A1 BZ))
  have HF := Lib.hid (hf.below hb0)
  have HM := Lib.hid hM0
  clear hW0 hb0 A1 BZ hf e1 hv hM0
  go_enter Try.func61, Try.ntmps61
  go_wp2_with fail
  rw [← HW0.out]
  refine KP.out.mono ?_
  rintro e w1 ⟨rfl, hb1⟩
  obtain ⟨z0, z1, z2, -, -, -⟩ := (HB.out.2.1.below hb1).cells
  have KV := Lib.hid (volumeOf_any w1 wd hi dp fv g e3 e5 hd2 (HF.out.below hb1))
  have HB1 := Lib.hid (HB.out.1.trans (hb1.mono HB.out.1.size))
  have HZ := Lib.hid (HB.out.2.2.below hb1)
  clear hb1
  go_wp2_with fail
  refine (in_any _ _ _ _).mono ?_
  rw [hin]
  rintro e w' ⟨rfl, rfl⟩
  clear hin
  go_wp2_with fail
  refine KV.out.mono ?_
  intro e w2 hmk
  obtain ⟨q', cc, bs', rfl, hm, hcon, hq, hb2⟩ := MakesVol.mwk (g := g) rfl HM.out hmk
  obtain ⟨d0, d1, d2, d3, g0, g1, g2, g3⟩ := (HZ.out.below hb2).four
  have hlt3 := (HZ.out.below hb2).lt
  have hlt4 : w.heap.size + 1 + 1 < w2.heap.size := hlt3
  have hbb := HB1.out.trans (hb2.mono HB1.out.size)
  have hqs := Nat.le_trans HB1.out.size hq
  have hsz := HZ.out.lt
  have hq3 : w.heap.size + 2 < q' := by omega
  have HCON := Lib.hid hcon
  have HMM := Lib.hid hm
  clear hcon hm hq hmk
  go_wp2
  refine bodyPost_ret (v := .tuple #[.agg #[.int .i64 wd, .int .i64 hi, .int .i64 dp, .slice (some ⟨q', 0, none⟩) (wd * hi * dp) cc], .bool true]) (by simp [results, Try.results61, go_sem, d0, d1, d2, d3, hlt3]) rfl ?_
  exact ⟨q', cc, bs', rfl, (((HMM.out.set (by omega) _).set (by omega) _).set (by omega) _).set (by omega) _, HCON.out, hqs, (((hbb.setCell (by first | omega | (simp; done) | (simp; omega)) _).setCell (by first | omega | (simp; done) | (simp; omega)) _).setCell (by first | omega | (simp; done) | (simp; omega)) _).setCell (by first | omega | (simp; done) | (simp; omega)) _⟩

/-- The cost of two cells: the square of their difference. -/
def sqW (bs1 bs2 : List Nat) (wd hi x y d : Nat) : Nat := fop .mul (fop .sub (fl (bs1.getD (ix x y wd hi) 0)) (fl (bs2.getD (ix ((x : Int) - d) y wd hi) 0))) (fop .sub (fl (bs1.getD (ix x y wd hi) 0)) (fl (bs2.getD (ix ((x : Int) - d) y wd hi) 0)))
theorem square1_gives {W0 : World} {p1 p2 wd hi dp : Nat} {v1 v2 : Value} {bs1 bs2 : List Nat} (h1 : PicAt W0 p1 wd hi v1 bs1 37) (h2 : PicAt W0 p2 wd hi v2 bs2 37) (hw0 : 1 ≤ wd) (hh0 : 1 ≤ hi) (hw : wd ≤ 24) (hh : hi ≤ 24) (hd2 : dp ≤ 8) :
    Gives3 W0 (.func (.func 62) #[] #[.pointer (some ⟨p1, 0, none⟩), .pointer (some ⟨p2, 0, none⟩)]) wd hi dp (sqW bs1 bs2 wd hi) := by
  refine ⟨62, _, rfl, Try.call62, fun x y d W hx hy hd hbW => ?_⟩
  have K1 := Lib.hid (fun W' (hb : Below W.heap.size W W') => about_any W' p1 wd hi v1 bs1 x y (by omega) (by omega) (by omega) (by omega) ((h1.below hbW).below hb))
  have K2 := Lib.hid (fun W' (hb : Below W.heap.size W W') => about_any W' p2 wd hi v2 bs2 ((x : Int) - d) y (by omega) (by omega) (by omega) (by omega) ((h2.below hbW).below hb))
  have e1 : IntKind.i64.wrap ((x : Int) - (d : Int)) = (x : Int) - (d : Int) := IntWalk.i64_in _ (by omega)
  have hg : sqW bs1 bs2 wd hi x y d = fop .mul (fop .sub (fl (bs1.getD (ix x y wd hi) 0)) (fl (bs2.getD (ix ((x : Int) - d) y wd hi) 0))) (fop .sub (fl (bs1.getD (ix x y wd hi) 0)) (fl (bs2.getD (ix ((x : Int) - d) y wd hi) 0))) := rfl
  have HG := Lib.hid hg
  generalize bs1.getD (ix x y wd hi) 0 = z1 at *
  generalize bs2.getD (ix ((x : Int) - d) y wd hi) 0 = z2 at *
  clear h1 h2 hg hbW
  show Calls _ _ #[.int .i64 x, .int .i64 y, .int .i64 d, .pointer (some ⟨p1, 0, none⟩), .pointer (some ⟨p2, 0, none⟩)] _ _
  go_enter Try.func62, Try.ntmps62
  go_wp2_with fail
  refine (K1.out _ (Below.refl _ _)).mono ?_
  rintro e w' ⟨rfl, n, rfl⟩
  go_wp2_with fail
  refine (K2.out _ (below_drewN (Below.refl _ _) _)).mono ?_
  rintro e w' ⟨rfl, n2, rfl⟩
  go_wp2_with fail
  go_ret
  exact ⟨_, rfl, fres_lt _ _ _ _, by rw [fl_fres, fl_fres]; exact HG.out.symm, by first | exact below_drewN (Below.refl _ _) _ | exact below_drewN (below_drewN (Below.refl _ _) _) _ | exact below_drewN (below_drewN (below_drewN (Below.refl _ _) _) _) _⟩

set_option maxHeartbeats 1000000 in
theorem square_w (w : World) (wd hi dp N q1 c1 q2 c2 : Nat) (bs1 bs2 : List Nat) (hv : vPic wd hi N = true) (hd1 : 1 ≤ dp) (hd2 : dp ≤ 8) (h1 : MW w q1 c1 N bs1) (h2 : MW w q2 c2 N bs2) :
    Calls Try.prog 19 #[.agg #[.int .i64 wd, .int .i64 hi, .slice (some ⟨q1, 0, none⟩) N c1], .agg #[.int .i64 wd, .int .i64 hi, .slice (some ⟨q2, 0, none⟩) N c2], .int .i64 dp] w (MakesVW w wd hi dp (wd * hi * dp) (sqW bs1 bs2 wd hi)) := by
  obtain ⟨e1, e2, e3, e4, e5, e6, e7⟩ := vPic_mul hv
  obtain ⟨W0, hW0⟩ : ∃ W0, W0 = ((w.alloc (.cells #[.int .i64 wd, .int .i64 hi, .slice (some ⟨q1, 0, none⟩) N c1] 37)).alloc (.cells #[.int .i64 wd, .int .i64 hi, .slice (some ⟨q2, 0, none⟩) N c2] 37)).alloc (.cells #[.int .i64 0, .int .i64 0, .int .i64 0, .slice none 0 0] 44) := ⟨_, rfl⟩
  have hb0 : Below w.heap.size w W0 := by rw [hW0]; exact (below_two w _ _).alloc (by simp; omega) _
  have A1 : Box3 W0 w.heap.size (.int .i64 wd) (.int .i64 hi) (.slice (some ⟨q1, 0, none⟩) N c1) 37 := by rw [hW0]; exact (box_first w _ _ _ _ _).below (alb_k _ _)
  have A2 : Box3 W0 (w.heap.size + 1) (.int .i64 wd) (.int .i64 hi) (.slice (some ⟨q2, 0, none⟩) N c2) 37 := by rw [hW0]; exact (box_second w _ _ _ _ _).below (alb_k _ _)
  have BZ : BoxN W0 (w.heap.size + 2) #[.int .i64 0, .int .i64 0, .int .i64 0, .slice none 0 0] 44 := by rw [hW0]; have := BoxN.last ((w.alloc (.cells #[.int .i64 wd, .int .i64 hi, .slice (some ⟨q1, 0, none⟩) N c1] 37)).alloc (.cells #[.int .i64 wd, .int .i64 hi, .slice (some ⟨q2, 0, none⟩) N c2] 37)) #[.int .i64 0, .int .i64 0, .int .i64 0, .slice none 0 0] 44; simpa using this
  have P1 : PicAt W0 w.heap.size wd hi (.slice (some ⟨q1, 0, none⟩) N c1) bs1 37 := ⟨A1, (h1.below hb0).sl, by rw [h1.len]; exact e1⟩
  have P2 : PicAt W0 (w.heap.size + 1) wd hi (.slice (some ⟨q2, 0, none⟩) N c2) bs2 37 := ⟨A2, (h2.below hb0).sl, by rw [h2.len]; exact e1⟩
  have KP := Lib.hid (pairVolume_w W0 wd hi dp N q1 c1 q2 c2 _ _ hv hd1 hd2 (square1_gives P1 P2 e2 e4 e3 e5 hd2))
  obtain ⟨z0, z1, z2, -, -, -⟩ := A1.cells
  obtain ⟨y0, y1, y2, -, -, -⟩ := A2.cells
  rw [hW0] at z0 z1 z2 y0 y1 y2
  have HW0 := Lib.hid hW0
  have HB := Lib.hid (And.intro hb0 BZ)
  clear hW0 hb0 A1 A2 BZ P1 P2 e1 hv h1 h2
  go_enter Try.func19, Try.ntmps19
  go_wp2_with fail
  rw [← HW0.out]
  refine KP.out.mono ?_
  rintro e w2 ⟨q', cc, bs', rfl, hm, hcon, hq, hb2⟩
  obtain ⟨d0, d1, d2, d3, g0, g1, g2, g3⟩ := (HB.out.2.below hb2).four
  have hlt3 := (HB.out.2.below hb2).lt
  have hbb := HB.out.1.trans (hb2.mono HB.out.1.size)
  have hqs := Nat.le_trans HB.out.1.size hq
  have hsz := HB.out.2.lt
  have hq3 : w.heap.size + 2 < q' := by omega
  have HCON := Lib.hid hcon
  have HMM := Lib.hid hm
  clear hcon hm hq z0 z1 z2 y0 y1 y2
  go_wp2
  refine bodyPost_ret (v := .tuple #[.agg #[.int .i64 wd, .int .i64 hi, .int .i64 dp, .slice (some ⟨q', 0, none⟩) (wd * hi * dp) cc], .bool true]) (by simp [results, Try.results19, go_sem, d0, d1, d2, d3, hlt3]) rfl ?_
  exact ⟨q', cc, bs', rfl, (((HMM.out.set (by omega) _).set (by omega) _).set (by omega) _).set (by omega) _, HCON.out, hqs, (((hbb.setCell (by first | omega | (simp; done) | (simp; omega)) _).setCell (by first | omega | (simp; done) | (simp; omega)) _).setCell (by first | omega | (simp; done) | (simp; omega)) _).setCell (by first | omega | (simp; done) | (simp; omega)) _⟩

end Go.Proofs.Ytmpbnmmpniganaa
