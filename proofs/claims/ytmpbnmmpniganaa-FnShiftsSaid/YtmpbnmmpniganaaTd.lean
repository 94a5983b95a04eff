/- CoarseToFine at one level: the winners of squares. -/
import Derived.Test.YtmpbnmmpniganaaKi
namespace Go.Proofs.Ytmpbnmmpniganaa
open Go.RowKit
set_option maxRecDepth 100000
set_option linter.unusedVariables false
set_option linter.unusedSimpArgs false

theorem winW_fl {f g : Nat → Nat} {but : Int} : ∀ n, (∀ d, d < n → fl (f d) = fl (g d)) → winW f but n = winW g but n := by
  intro n
  induction n with
  | zero => intro _; rfl
  | succ n ih =>
    intro h
    have e := ih (fun d hd => h d (by omega))
    show wnrS f but (winW f but n) n = wnrS g but (winW g but n) n
    rw [e]
    unfold wnrS
    have e1 : nan32 (f n) = nan32 (g n) := by rw [← nan32_fl, h n (by omega), nan32_fl]
    rw [e1]
    obtain ⟨p1, p2⟩ := winW_bd g but n
    by_cases hb : winW g but n < 0
    · simp [hb]
    · have e2 : lt32 (f n) (f (winW g but n).toNat) = lt32 (g n) (g (winW g but n).toNat) := by rw [← lt32_fl, h n (by omega), h (winW g but n).toNat (by omega), lt32_fl]
      rw [e2]
theorem tab3_getK {bs : List Nat} {wd hi dp : Nat} {g : Nat → Nat → Nat → Nat} (h : bs.map fl = tab3 wd hi dp g) {x y d : Nat} (hx : x < wd) (hy : y < hi) (hd : d < dp) : fl (gc bs wd dp x y d) = g x y d := by
  have hl := tab3_len h
  have hle := ic_le (dp := dp) hx hy
  have hlt : ic wd dp x y + d < bs.length := by rw [hl, Nat.mul_comm hi wd]; omega
  have e := congrArg (fun l => l.getD (ic wd dp x y + d) 0) h
  have e1 : (bs.map fl).getD (ic wd dp x y + d) 0 = fl (bs.getD (ic wd dp x y + d) 0) := by
    rw [List.getD_eq_getElem?_getD, List.getD_eq_getElem?_getD, List.getElem?_map, List.getElem?_eq_getElem hlt]; rfl
  unfold gc
  rw [← e1]
  rw [e]
  unfold tab3 tab
  rw [List.getD_eq_getElem?_getD, List.getElem?_map, List.getElem?_range (by rw [← hl]; exact hlt)]
  obtain ⟨p1, p2, p3, p4⟩ := cell_parts (y := y) hx hd
  have ei : ic wd dp x y = (y * wd + x) * dp := by unfold ic; rw [Nat.add_comm, Nat.mul_comm wd y]
  show g _ _ _ = _
  rw [ei, p1, p2, p3, p4]
theorem fl_fop' (op : BinOp) (x y : Nat) : fl (fop op x y) = fop op x y := by
  unfold fop
  split
  · exact fl_fl _
  · decide
/-- The winners of squares. -/
def sqL (bs1 bs2 : List Nat) (wd hi dp : Nat) (i : Nat) : Int := 4 * winW (sqW bs1 bs2 wd hi (i % wd) (i / wd)) (-1) dp
theorem wonL_sq {bs1 bs2 bs' : List Nat} {wd hi dp : Nat} (h : bs'.map fl = tab3 wd hi dp (sqW bs1 bs2 wd hi)) (N : Nat) (hN : N = wd * hi) : tabI N (wonL bs' wd dp) = tabI N (sqL bs1 bs2 wd hi dp) := by
  unfold tabI
  apply List.map_congr_left
  intro i hi_
  rw [List.mem_range] at hi_
  unfold wonL sqL
  have hw : 0 < wd := Nat.pos_of_ne_zero (fun e => by subst e; omega)
  have hx : i % wd < wd := Nat.mod_lt _ hw
  have hy : i / wd < hi := Nat.div_lt_of_lt_mul (by omega)
  rw [winW_fl dp (g := sqW bs1 bs2 wd hi (i % wd) (i / wd)) (fun d hd => by rw [tab3_getK h hx hy hd]; exact (fl_fop' _ _ _).symm)]

set_option maxHeartbeats 2000000 in
theorem ctf_one_w (w : World) (wd hi dp N q1 c1 q2 c2 : Nat) (bs1 bs2 : List Nat) (hv : vPic wd hi N = true) (hd1 : 1 ≤ dp) (hd2 : dp ≤ 8) (h1 : MW w q1 c1 N bs1) (h2 : MW w q2 c2 N bs2) :
    Calls Try.prog 16 #[.agg #[.int .i64 wd, .int .i64 hi, .slice (some ⟨q1, 0, none⟩) N c1], .agg #[.int .i64 wd, .int .i64 hi, .slice (some ⟨q2, 0, none⟩) N c2], .int .i64 dp, .int .i64 1] w (MakesMQ w wd hi N (tabI N (sqL bs1 bs2 wd hi dp))) := by
  obtain ⟨e1, e2, e3, e4, e5, e6, e7⟩ := vPic_mul hv
  obtain ⟨W0, hW0⟩ : ∃ W0, W0 = ((w.alloc (.cells #[.int .i64 wd, .int .i64 hi, .slice (some ⟨q1, 0, none⟩) N c1] 37)).alloc (.cells #[.int .i64 wd, .int .i64 hi, .slice (some ⟨q2, 0, none⟩) N c2] 37)).alloc (.cells #[.int .i64 0, .int .i64 0, .slice none 0 0] 27) := ⟨_, rfl⟩
  have hb0 : Below w.heap.size w W0 := by rw [hW0]; exact (below_two w _ _).alloc (by simp; omega) _
  have A1 : Box3 W0 w.heap.size (.int .i64 wd) (.int .i64 hi) (.slice (some ⟨q1, 0, none⟩) N c1) 37 := by rw [hW0]; exact (box_first w _ _ _ _ _).below (alb_k _ _)
  have A2 : Box3 W0 (w.heap.size + 1) (.int .i64 wd) (.int .i64 hi) (.slice (some ⟨q2, 0, none⟩) N c2) 37 := by rw [hW0]; exact (box_second w _ _ _ _ _).below (alb_k _ _)
  have BZ : Box3 W0 (w.heap.size + 2) (.int .i64 0) (.int .i64 0) (.slice none 0 0) 27 := by rw [hW0]; have := box_last ((w.alloc (.cells #[.int .i64 wd, .int .i64 hi, .slice (some ⟨q1, 0, none⟩) N c1] 37)).alloc (.cells #[.int .i64 wd, .int .i64 hi, .slice (some ⟨q2, 0, none⟩) N c2] 37)) (.int .i64 0) (.int .i64 0) (.slice none 0 0) 27; simpa using this
  obtain ⟨z0, z1, z2, -, -, -⟩ := A1.cells
  obtain ⟨y0, y1, y2, -, -, -⟩ := A2.cells
  rw [hW0] at z0 z1 z2 y0 y1 y2
  have KS := Lib.hid (square_w W0 wd hi dp N q1 c1 q2 c2 bs1 bs2 hv hd1 hd2 (h1.below hb0) (h2.below hb0))
  have HVV := Lib.hid (vVol_mk hv hd1 hd2)
  have HB := Lib.hid (And.intro hb0 (And.intro A1 (And.intro A2 BZ)))
  have HM := Lib.hid (And.intro (h1.below hb0) (h2.below hb0))
  have HN := Lib.hid e1
  have HV := Lib.hid hv
  have HW0 := Lib.hid hW0
  clear hW0 hb0 A1 A2 BZ e1 hv h1 h2
  go_enter Try.func16, Try.ntmps16
  go_wp2_with fail
  rw [← HW0.out]
  refine KS.out.mono ?_
  rintro e w1 ⟨qv, cv, bsv, rfl, hmv, hcon, hqv, hb1⟩
  obtain ⟨WS, hWS⟩ : ∃ WS, WS = w1.alloc (.cells #[.int .i64 wd, .int .i64 hi, .int .i64 dp, .slice (some ⟨qv, 0, none⟩) (wd * hi * dp) cv] 44) := ⟨_, rfl⟩
  have ha1 : Below w1.heap.size w1 WS := by rw [hWS]; exact alb_k _ _
  have BV : BoxN WS w1.heap.size #[.int .i64 wd, .int .i64 hi, .int .i64 dp, .slice (some ⟨qv, 0, none⟩) (wd * hi * dp) cv] 44 := by rw [hWS]; exact BoxN.last w1 _ _
  have hb1S := hb1.trans (ha1.mono hb1.size)
  have hmvS := hmv.below ha1
  have HS := Lib.hid (And.intro hb1S (And.intro BV hmvS))
  have hWs := HB.out.1.size
  have hWs2 := HB.out.2.2.2.lt
  have hWs3 := hb1S.size
  have hwS1 : w1.heap.size < WS.heap.size := BV.lt
  have hw01 := hb1.size
  obtain ⟨v0, v1, v2, v3, -, -, -, -⟩ := BV.four
  rw [hWS] at v0 v1 v2 v3
  have KW := Lib.hid (winners_q2 WS wd hi dp _ N qv cv bsv HVV.out HN.out hmvS)
  rw [wonL_sq hcon N HN.out] at KW
  have HWS := Lib.hid hWS
  clear hWS ha1 BV hb1S hmvS hmv hcon hqv hb1 z0 z1 z2 y0 y1 y2
  go_wp2_with fail
  refine (in_any _ _ _ _).mono ?_
  rintro e w' ⟨rfl, rfl⟩
  go_wp2_with fail
  rw [← HWS.out]
  refine KW.out.mono ?_
  rintro e w2 ⟨q', cc, rfl, hm, hq, hb2⟩
  obtain ⟨d0, d1, d2, g0, g1, g2⟩ := ((HB.out.2.2.2.below HS.out.1).below hb2).cells
  have hlt := ((HB.out.2.2.2.below HS.out.1).below hb2).lt
  have hlt2 : w.heap.size + 1 + 1 < w2.heap.size := hlt
  have hbb := HB.out.1.trans ((HS.out.1.trans (hb2.mono HS.out.1.size)).mono HB.out.1.size)
  have HMM := Lib.hid hm
  clear hm v0 v1 v2 v3
  go_wp2
  refine bodyPost_ret (v := .tuple #[.agg #[.int .i64 wd, .int .i64 hi, .slice (some ⟨q', 0, none⟩) N cc], .bool true]) (by simp [results, Try.results16, go_sem, d0, d1, d2, hlt]) rfl ?_
  exact ⟨q', cc, rfl, ((HMM.out.set (by omega) _).set (by omega) _).set (by omega) _, by omega, ((hbb.setCell (by first | omega | (simp; done) | (simp; omega)) _).setCell (by first | omega | (simp; done) | (simp; omega)) _).setCell (by first | omega | (simp; done) | (simp; omega)) _⟩

end Go.Proofs.Ytmpbnmmpniganaa
