/- ChecksOf: the winners from both sides, checked. -/
import Derived.Test.YtmpbnmmpniganaaKi
import Derived.Test.YtmpbnmmpniganaaKk
namespace Go.Proofs.Ytmpbnmmpniganaa
open Go.RowKit
set_option maxRecDepth 100000
set_option linter.unusedVariables false
set_option linter.unusedSimpArgs false

theorem winW_fl {f g : Nat → Nat} {but : Int} : ∀ n, (∀ d, d < n → fl (f d) = fl (g d)) → winW f but n = winW g but n := by
  intro n
  induction n with
  | zero => intro _; rfl
  | succ n ih =>
    intro h
    have e := ih (fun d hd => h d (by omega))
    show wnrS f but (winW f but n) n = wnrS g but (winW g but n) n
    rw [e]
    unfold wnrS
    have e1 : nan32 (f n) = nan32 (g n) := by rw [← nan32_fl, h n (by omega), nan32_fl]
    rw [e1]
    obtain ⟨p1, p2⟩ := winW_bd g but n
    by_cases hb : winW g but n < 0
    · simp [hb]
    · have e2 : lt32 (f n) (f (winW g but n).toNat) = lt32 (g n) (g (winW g but n).toNat) := by rw [← lt32_fl, h n (by omega), h (winW g but n).toNat (by omega), lt32_fl]
      rw [e2]
/-- The winners seen from the right. -/
def wonO (bs : List Nat) (wd dp : Nat) (i : Nat) : Int := 4 * winW (othW bs wd dp (i % wd) (i / wd)) (-1) dp
theorem tab3_getK {bs : List Nat} {wd hi dp : Nat} {g : Nat → Nat → Nat → Nat} (h : bs.map fl = tab3 wd hi dp g) {x y d : Nat} (hx : x < wd) (hy : y < hi) (hd : d < dp) : fl (gc bs wd dp x y d) = g x y d := by
  have hl := tab3_len h
  have hle := ic_le (dp := dp) hx hy
  have hlt : ic wd dp x y + d < bs.length := by rw [hl, Nat.mul_comm hi wd]; omega
  have e := congrArg (fun l => l.getD (ic wd dp x y + d) 0) h
  have e1 : (bs.map fl).getD (ic wd dp x y + d) 0 = fl (bs.getD (ic wd dp x y + d) 0) := by
    rw [List.getD_eq_getElem?_getD, List.getD_eq_getElem?_getD, List.getElem?_map, List.getElem?_eq_getElem hlt]; rfl
  unfold gc
  rw [← e1]
  rw [e]
  unfold tab3 tab
  rw [List.getD_eq_getElem?_getD, List.getElem?_map, List.getElem?_range (by rw [← hl]; exact hlt)]
  obtain ⟨p1, p2, p3, p4⟩ := cell_parts (y := y) hx hd
  have ei : ic wd dp x y = (y * wd + x) * dp := by unfold ic; rw [Nat.add_comm, Nat.mul_comm wd y]
  show g _ _ _ = _
  rw [ei, p1, p2, p3, p4]
theorem wonL_oth {bs bs' : List Nat} {wd hi dp : Nat} (h : bs'.map fl = tab3 wd hi dp (othW bs wd dp)) (N : Nat) (hN : N = wd * hi) : tabI N (wonL bs' wd dp) = tabI N (wonO bs wd dp) := by
  unfold tabI
  apply List.map_congr_left
  intro i hi_
  rw [List.mem_range] at hi_
  unfold wonL wonO
  have hw : 0 < wd := Nat.pos_of_ne_zero (fun e => by subst e; omega)
  have hx : i % wd < wd := Nat.mod_lt _ hw
  have hy : i / wd < hi := Nat.div_lt_of_lt_mul (by omega)
  rw [winW_fl dp (g := othW bs wd dp (i % wd) (i / wd)) (fun d hd => by rw [tab3_getK h hx hy hd]; exact (fl_fl _).symm)]

set_option maxHeartbeats 2000000 in
theorem checksOf_q (w : World) (wd hi dp M N q c : Nat) (bs : List Nat) (mst : Nat) (mo : Int) (hv : vVol wd hi dp M = true) (hN : Hid (N = wd * hi)) (hp : MW w q c M bs) (hmo : mo.natAbs ≤ 1000) (hms : Hid (mst = fq 2 mo)) :
    Calls Try.prog 40 #[.agg #[.int .i64 wd, .int .i64 hi, .int .i64 dp, .slice (some ⟨q, 0, none⟩) M c], .float .f32 mst] w (MakesMQ w wd hi N (tabI N (chkF (tabI N (wonL bs wd dp)) (tabI N (wonO bs wd dp)) wd mo))) := by
  obtain ⟨hpic, hM, d1, d2, d3, d4, d5, d6, d7, d8⟩ := vVol_pic hv
  obtain ⟨W0, hW0⟩ : ∃ W0, W0 = (w.alloc (.cells #[.int .i64 wd, .int .i64 hi, .int .i64 dp, .slice (some ⟨q, 0, none⟩) M c] 44)).alloc (.cells #[.int .i64 0, .int .i64 0, .slice none 0 0] 27) := ⟨_, rfl⟩
  have hb0 : Below w.heap.size w W0 := by rw [hW0]; exact below_two w _ _
  have B0 : BoxN W0 w.heap.size #[.int .i64 wd, .int .i64 hi, .int .i64 dp, .slice (some ⟨q, 0, none⟩) M c] 44 := by rw [hW0]; exact (BoxN.last w _ _).below (alb1 _ _)
  have B3 : BoxN W0 (w.heap.size + 1) #[.int .i64 0, .int .i64 0, .slice none 0 0] 27 := by rw [hW0]; exact BoxN.second w #[.int .i64 0, .int .i64 0, .slice none 0 0] 27 (.cells #[.int .i64 wd, .int .i64 hi, .int .i64 dp, .slice (some ⟨q, 0, none⟩) M c] 44)
  have HB := Lib.hid (And.intro hb0 (And.intro B0 B3))
  have HM := Lib.hid (hp.below hb0)
  have HV := Lib.hid hv
  have HN := hN
  rw [← hN.out] at hpic
  have HPIC := Lib.hid hpic
  have HW0 := Lib.hid hW0
  clear hM hN hp hpic hv hb0 B0 B3 hW0
  go_enter Try.func40, Try.ntmps40
  go_wp2_with fail
  rw [← HW0.out]
  refine (validVolume_any _ _ _ _ _ _ (by omega) _).mono ?_
  rw [HV.out]
  rintro e w1 ⟨rfl, hb1⟩
  have X1 := Lib.hid hb1
  obtain ⟨v0, v1, v2, v3, -, -, -, -⟩ := (HB.out.2.1.below hb1).four
  clear hb1
  go_wp2_with fail
  refine (winners_q2 w1 wd hi dp M N q c bs HV.out HN.out (HM.out.below X1.out)).mono ?_
  rintro e w2 ⟨q1, c1, rfl, hm1, hq1, hb2⟩
  obtain ⟨W2, hW2⟩ : ∃ W2, W2 = w2.alloc (.cells #[.int .i64 wd, .int .i64 hi, .slice (some ⟨q1, 0, none⟩) N c1] 27) := ⟨_, rfl⟩
  have ha2 : Below w2.heap.size w2 W2 := by rw [hW2]; exact alb_k _ _
  have X2 := Lib.hid ((X1.out.trans (hb2.mono X1.out.size)).trans (ha2.mono (X1.out.trans (hb2.mono X1.out.size)).size))
  have HM1 := Lib.hid (hm1.below ha2)
  have HL := Lib.hid (show BoxN W2 w2.heap.size #[.int .i64 wd, .int .i64 hi, .slice (some ⟨q1, 0, none⟩) N c1] 27 by rw [hW2]; exact BoxN.last w2 _ _)
  obtain ⟨v0, v1, v2, v3, -, -, -, -⟩ := (HB.out.2.1.below X2.out).four
  rw [hW2] at v0 v1 v2 v3
  have HW2 := Lib.hid hW2
  clear hb2 hm1 hW2 ha2
  go_wp2_with fail
  rw [← HW2.out]
  refine (other_w W2 wd hi dp M q c bs HV.out (HM.out.below X2.out)).mono ?_
  rintro e w3 ⟨q2, c2, bs2, rfl, hm2, hcon, hq2, hb3⟩
  obtain ⟨W3, hW3⟩ : ∃ W3, W3 = w3.alloc (.cells #[.int .i64 wd, .int .i64 hi, .int .i64 dp, .slice (some ⟨q2, 0, none⟩) M c2] 44) := ⟨_, rfl⟩
  have ha3 : Below w3.heap.size w3 W3 := by rw [hW3]; exact alb_k _ _
  have hbb3 : Below W2.heap.size W2 W3 := hb3.trans (ha3.mono hb3.size)
  have X3 := Lib.hid (X2.out.trans (hbb3.mono X2.out.size))
  have HM1b := Lib.hid (HM1.out.below hbb3)
  have HLb := Lib.hid (HL.out.below hbb3)
  have HM2 := Lib.hid (hm2.below ha3)
  have HO := Lib.hid (show BoxN W3 w3.heap.size #[.int .i64 wd, .int .i64 hi, .int .i64 dp, .slice (some ⟨q2, 0, none⟩) M c2] 44 by rw [hW3]; exact BoxN.last w3 _ _)
  obtain ⟨v0, v1, v2, v3, -, -, -, -⟩ := HO.out.four
  rw [hW3] at v0 v1 v2 v3
  have HW3 := Lib.hid hW3
  have KO := Lib.hid (winners_q2 W3 wd hi dp M N q2 c2 bs2 HV.out HN.out HM2.out)
  rw [wonL_oth hcon N HN.out] at KO
  clear hb3 hm2 hcon hW3 ha3 hbb3
  go_wp2_with fail
  rw [← HW3.out]
  refine KO.out.mono ?_
  rintro e w4 ⟨q3, c3, rfl, hm3, hq3, hb4⟩
  obtain ⟨W4, hW4⟩ : ∃ W4, W4 = w4.alloc (.cells #[.int .i64 wd, .int .i64 hi, .slice (some ⟨q3, 0, none⟩) N c3] 27) := ⟨_, rfl⟩
  have ha4 : Below w4.heap.size w4 W4 := by rw [hW4]; exact alb_k _ _
  have hbb4 : Below W3.heap.size W3 W4 := hb4.trans (ha4.mono hb4.size)
  have X4 := Lib.hid (X3.out.trans (hbb4.mono X3.out.size))
  have HM1c := Lib.hid (HM1b.out.below hbb4)
  have HM3 := Lib.hid (hm3.below ha4)
  have HR := Lib.hid (show BoxN W4 w4.heap.size #[.int .i64 wd, .int .i64 hi, .slice (some ⟨q3, 0, none⟩) N c3] 27 by rw [hW4]; exact BoxN.last w4 _ _)
  obtain ⟨v0, v1, v2, -, -, -⟩ := HR.out.three.cells
  obtain ⟨y0, y1, y2, -, -, -⟩ := (HLb.out.below hbb4).three.cells
  rw [hW4] at v0 v1 v2 y0 y1 y2
  have HW4 := Lib.hid hW4
  have KC := Lib.hid (checkMaps_q W4 wd hi N q1 c1 q3 c3 mst _ _ HPIC.out HM1c.out HM3.out mo hmo hms (by
    intro k hk
    obtain ⟨i, hi_, rfl⟩ := mem_tabI hk
    rcases wonL_or bs wd dp i with e | ⟨D, hD, e⟩ <;> rw [e] <;> omega))
  clear hb4 hm3 hW4 ha4 hbb4
  go_wp2_with fail
  rw [← HW4.out]
  refine KC.out.mono ?_
  rintro e w5 ⟨q5, c5, rfl, hm5, hq5, hb5⟩
  have X5 := Lib.hid (X4.out.trans (hb5.mono X4.out.size))
  obtain ⟨e0, e1, e2, g0, g1, g2⟩ := (HB.out.2.2.below X5.out).three.cells
  have hlt3 := (HB.out.2.2.below X5.out).lt
  have hbb := HB.out.1.trans (X5.out.mono HB.out.1.size)
  have hs4 := X4.out.size
  have hs0 := HB.out.2.2.lt
  have hq3' : w.heap.size + 1 < q5 := by omega
  have HMM := Lib.hid hm5
  clear hm5
  go_wp2
  refine bodyPost_ret (v := .tuple #[.agg #[.int .i64 wd, .int .i64 hi, .slice (some ⟨q5, 0, none⟩) N c5], .bool true]) (by simp [results, Try.results40, go_sem, e0, e1, e2, hlt3]) rfl ?_
  exact ⟨q5, c5, rfl, ((HMM.out.set (by omega) _).set (by omega) _).set (by omega) _, by omega, ((hbb.setCell (by simp) _).setCell (by simp) _).setCell (by simp) _⟩

end Go.Proofs.Ytmpbnmmpniganaa
