/- From coarse to fine: whole disparities. Printed by genki.py. -/
import Derived.Test.YtmpbnmmpniganaaKh
namespace Go.Proofs.Ytmpbnmmpniganaa
open Go.RowKit
set_option maxRecDepth 100000
set_option linter.unusedVariables false
set_option linter.unusedSimpArgs false

/-- A map of whole disparities, made anew, and true. -/
def MakesWhole (w : World) (wd hi N dp : Nat) (e : Ending) (w' : World) : Prop :=
  ∃ (q c : Nat) (ks : List Int), e = .returned (.tuple #[.agg #[.int .i64 wd, .int .i64 hi, .slice (some ⟨q, 0, none⟩) N c], .bool true]) ∧ MQ w' q c N ks ∧ WholeM dp ks N ∧ w.heap.size ≤ q ∧ Below w.heap.size w w'
def CtfOk (L : Nat) : Prop := ∀ (w : World) (wd hi dp N q1 c1 q2 c2 : Nat) (bs1 bs2 : List Nat), vPic wd hi N = true → 1 ≤ dp → dp ≤ 8 → MW w q1 c1 N bs1 → MW w q2 c2 N bs2 →
  Calls Try.prog 16 #[.agg #[.int .i64 wd, .int .i64 hi, .slice (some ⟨q1, 0, none⟩) N c1], .agg #[.int .i64 wd, .int .i64 hi, .slice (some ⟨q2, 0, none⟩) N c2], .int .i64 dp, .int .i64 L] w (MakesWhole w wd hi N dp)

/-- The winners as quarters. -/
def wonL (bs : List Nat) (wd dp : Nat) (i : Nat) : Int := 4 * winW (gc bs wd dp (i % wd) (i / wd)) (-1) dp
theorem wonL_or (bs : List Nat) (wd dp i : Nat) : wonL bs wd dp i = -4 ∨ ∃ D : Nat, D < dp ∧ wonL bs wd dp i = 4 * (D : Int) := by
  obtain ⟨b1, b2⟩ := winW_bd (gc bs wd dp (i % wd) (i / wd)) (-1) dp
  unfold wonL
  generalize winW (gc bs wd dp (i % wd) (i / wd)) (-1) dp = z at *
  by_cases h0 : z < 0
  · left; omega
  · right; exact ⟨z.toNat, by omega, by omega⟩
theorem wonL_bd (bs : List Nat) (wd : Nat) {dp : Nat} (i : Nat) (hd : dp ≤ 8) : (wonL bs wd dp i).natAbs ≤ 1000 := by
  rcases wonL_or bs wd dp i with e | ⟨D, hD, e⟩ <;> rw [e] <;> omega
theorem won_words {bs bs' : List Nat} {wd hi dp : Nat} (hd : dp ≤ 8) (h : bs'.map fl = tab (hi * wd) (fun i => wonW dp (gc bs wd dp (i % wd) (i / wd)))) : bs' = (tabI (wd * hi) (wonL bs wd dp)).map (fq 2) := by
  apply bs_of_tab (fun i _ => by have := wonL_bd bs wd i hd; omega)
  rw [h]
  unfold tab
  apply List.map_congr_left
  intro i _
  show fq 0 (winW (gc bs wd dp (i % wd) (i / wd)) (-1) dp) = fq 2 (wonL bs wd dp (i % wd + wd * (i / wd)))
  rw [Nat.mod_add_div]
  have hb := winW_bd (gc bs wd dp (i % wd) (i / wd)) (-1) dp
  rw [← fq_ofInt (by omega), four_fq _ (by omega)]
  rfl
theorem winners_q2 (w : World) (wd hi dp M N q c : Nat) (bs : List Nat) (hv : vVol wd hi dp M = true) (hN : N = wd * hi) (hp : MW w q c M bs) :
    Calls Try.prog 20 #[.agg #[.int .i64 wd, .int .i64 hi, .int .i64 dp, .slice (some ⟨q, 0, none⟩) M c]] w (MakesMQ w wd hi N (tabI N (wonL bs wd dp))) := by
  obtain ⟨hpic, hM, d1, d2, d3, d4, d5, d6, d7, d8⟩ := vVol_pic hv
  refine (winners_w w wd hi dp M q c bs hv hp).mono ?_
  rintro e w' ⟨q', c', bs', rfl, hm, hcon, hq, hb⟩
  have e1 := won_words d7 hcon
  rw [← hN] at e1 hm ⊢
  refine ⟨q', c', rfl, ⟨by rw [← e1]; exact hm.sl, hm.lt, ?_⟩, hq, hb⟩
  intro k hk
  obtain ⟨i, hi_, rfl⟩ := mem_tabI hk
  exact wonL_bd bs wd i d7
theorem whole_won (bs : List Nat) (wd dp N : Nat) : WholeM dp (tabI N (wonL bs wd dp)) N := fun i hi_ => by rw [tabI_get hi_]; exact wonL_or bs wd dp i
theorem vVol_mk {wd hi N dp : Nat} (hv : vPic wd hi N = true) (h1 : 1 ≤ dp) (h2 : dp ≤ 8) : vVol wd hi dp (wd * hi * dp) = true := by
  obtain ⟨e1, e2, e3, e4, e5, e6, e7⟩ := vPic_mul hv
  exact vVol_of e2 e3 e4 e5 (by omega) h1 h2
theorem whole_dbl {ks : List Int} {A B NA wd hi N dp dp2 : Nat} (hA : vPic A B NA = true) (hv : vPic wd hi N = true) (hd : dp2 = (dp + 1) / 2) (hd1 : 1 ≤ dp) (h : WholeM dp2 ks NA) : WholeM dp (tabI N (dblF ks A B wd)) N := by
  obtain ⟨a1, a2, a3, a4, a5, a6, a7⟩ := vPic_mul hA
  intro i hi_
  rw [tabI_get hi_]
  have hlt : cl ((i % wd / 2 : Nat) : Int) A + A * cl ((i / wd / 2 : Nat) : Int) B < NA := by rw [a1]; exact xy_lt (cl_lt _ a2) (cl_lt _ a4)
  unfold dblF
  rcases h _ hlt with e | ⟨D, hD, e⟩
  · left; rw [e]; rfl
  · right; rw [e, if_neg (by omega)]; exact ⟨2 * D, by omega, by omega⟩
theorem whole_bd {dp N : Nat} {ks : List Int} (h : WholeM dp ks N) (hl : ks.length = N) (hd : dp ≤ 8) : ∀ i, (ks.getD i 0).natAbs ≤ 400 := fun i => by
  by_cases hi_ : i < N
  · rcases h i hi_ with e | ⟨D, hD, e⟩ <;> rw [e] <;> omega
  · rw [List.getD_eq_getElem?_getD, List.getElem?_eq_none (by omega)]; decide

set_option maxHeartbeats 2000000 in
theorem ctf_one : CtfOk 1 := by
  intro w wd hi dp N q1 c1 q2 c2 bs1 bs2 hv hd1 hd2 h1 h2
  obtain ⟨e1, e2, e3, e4, e5, e6, e7⟩ := vPic_mul hv
  obtain ⟨W0, hW0⟩ : ∃ W0, W0 = ((w.alloc (.cells #[.int .i64 wd, .int .i64 hi, .slice (some ⟨q1, 0, none⟩) N c1] 37)).alloc (.cells #[.int .i64 wd, .int .i64 hi, .slice (some ⟨q2, 0, none⟩) N c2] 37)).alloc (.cells #[.int .i64 0, .int .i64 0, .slice none 0 0] 27) := ⟨_, rfl⟩
  have hb0 : Below w.heap.size w W0 := by rw [hW0]; exact (below_two w _ _).alloc (by simp; omega) _
  have A1 : Box3 W0 w.heap.size (.int .i64 wd) (.int .i64 hi) (.slice (some ⟨q1, 0, none⟩) N c1) 37 := by rw [hW0]; exact (box_first w _ _ _ _ _).below (alb_k _ _)
  have A2 : Box3 W0 (w.heap.size + 1) (.int .i64 wd) (.int .i64 hi) (.slice (some ⟨q2, 0, none⟩) N c2) 37 := by rw [hW0]; exact (box_second w _ _ _ _ _).below (alb_k _ _)
  have BZ : Box3 W0 (w.heap.size + 2) (.int .i64 0) (.int .i64 0) (.slice none 0 0) 27 := by rw [hW0]; have := box_last ((w.alloc (.cells #[.int .i64 wd, .int .i64 hi, .slice (some ⟨q1, 0, none⟩) N c1] 37)).alloc (.cells #[.int .i64 wd, .int .i64 hi, .slice (some ⟨q2, 0, none⟩) N c2] 37)) (.int .i64 0) (.int .i64 0) (.slice none 0 0) 27; simpa using this
  obtain ⟨z0, z1, z2, -, -, -⟩ := A1.cells
  obtain ⟨y0, y1, y2, -, -, -⟩ := A2.cells
  rw [hW0] at z0 z1 z2 y0 y1 y2
  have KS := Lib.hid (square_w W0 wd hi dp N q1 c1 q2 c2 bs1 bs2 hv hd1 hd2 (h1.below hb0) (h2.below hb0))
  have HVV := Lib.hid (vVol_mk hv hd1 hd2)
  have HB := Lib.hid (And.intro hb0 (And.intro A1 (And.intro A2 BZ)))
  have HM := Lib.hid (And.intro (h1.below hb0) (h2.below hb0))
  have HN := Lib.hid e1
  have HV := Lib.hid hv
  have HW0 := Lib.hid hW0
  clear hW0 hb0 A1 A2 BZ e1 hv h1 h2
  go_enter Try.func16, Try.ntmps16
  go_wp2_with fail
  rw [← HW0.out]
  refine KS.out.mono ?_
  rintro e w1 ⟨qv, cv, bsv, rfl, hmv, hcon, hqv, hb1⟩
  obtain ⟨WS, hWS⟩ : ∃ WS, WS = w1.alloc (.cells #[.int .i64 wd, .int .i64 hi, .int .i64 dp, .slice (some ⟨qv, 0, none⟩) (wd * hi * dp) cv] 44) := ⟨_, rfl⟩
  have ha1 : Below w1.heap.size w1 WS := by rw [hWS]; exact alb_k _ _
  have BV : BoxN WS w1.heap.size #[.int .i64 wd, .int .i64 hi, .int .i64 dp, .slice (some ⟨qv, 0, none⟩) (wd * hi * dp) cv] 44 := by rw [hWS]; exact BoxN.last w1 _ _
  have hb1S := hb1.trans (ha1.mono hb1.size)
  have hmvS := hmv.below ha1
  have HS := Lib.hid (And.intro hb1S (And.intro BV hmvS))
  have hWs := HB.out.1.size
  have hWs2 := HB.out.2.2.2.lt
  have hWs3 := hb1S.size
  have hwS1 : w1.heap.size < WS.heap.size := BV.lt
  have hw01 := hb1.size
  obtain ⟨v0, v1, v2, v3, -, -, -, -⟩ := BV.four
  rw [hWS] at v0 v1 v2 v3
  have KW := Lib.hid (winners_q2 WS wd hi dp _ N qv cv bsv HVV.out HN.out hmvS)
  have HWS := Lib.hid hWS
  clear hWS ha1 BV hb1S hmvS hmv hcon hqv hb1 z0 z1 z2 y0 y1 y2
  go_wp2_with fail
  refine (in_any _ _ _ _).mono ?_
  rintro e w' ⟨rfl, rfl⟩
  go_wp2_with fail
  rw [← HWS.out]
  refine KW.out.mono ?_
  rintro e w2 ⟨q', cc, rfl, hm, hq, hb2⟩
  obtain ⟨d0, d1, d2, g0, g1, g2⟩ := ((HB.out.2.2.2.below HS.out.1).below hb2).cells
  have hlt := ((HB.out.2.2.2.below HS.out.1).below hb2).lt
  have hlt2 : w.heap.size + 1 + 1 < w2.heap.size := hlt
  have hbb := HB.out.1.trans ((HS.out.1.trans (hb2.mono HS.out.1.size)).mono HB.out.1.size)
  have HMM := Lib.hid hm
  clear hm v0 v1 v2 v3
  go_wp2
  refine bodyPost_ret (v := .tuple #[.agg #[.int .i64 wd, .int .i64 hi, .slice (some ⟨q', 0, none⟩) N cc], .bool true]) (by simp [results, Try.results16, go_sem, d0, d1, d2, hlt]) rfl ?_
  exact ⟨q', cc, _, rfl, ((HMM.out.set (by omega) _).set (by omega) _).set (by omega) _, whole_won bsv wd dp N, by omega, ((hbb.setCell (by first | omega | (simp; done) | (simp; omega)) _).setCell (by first | omega | (simp; done) | (simp; omega)) _).setCell (by first | omega | (simp; done) | (simp; omega)) _⟩

theorem below4k {W W1 : World} {n b : Nat} {x y z : Value} (h : Below n W1 W) (hb : n ≤ b) : Below n W1 (((W.setCell ⟨b, 0, none⟩ x).setCell ⟨b, 1, none⟩ y).setCell ⟨b, 2, none⟩ z) := ((h.setCell hb _).setCell hb _).setCell hb _
/-- The picture of half the size, by words. -/
theorem halved_w (w : World) (wd hi N A B NA q c : Nat) (bs : List Nat) (hv : vPic wd hi N = true) (hA : A = (wd + 1) / 2) (hB : B = (hi + 1) / 2) (hNA : NA = A * B) (h : MW w q c N bs) :
    Calls Try.prog 59 #[.agg #[.int .i64 wd, .int .i64 hi, .slice (some ⟨q, 0, none⟩) N c]] w fun e w' => ∃ (q' c' : Nat) (bs' : List Nat), e = .returned (.agg #[.int .i64 A, .int .i64 B, .slice (some ⟨q', 0, none⟩) NA c']) ∧ MW w' q' c' NA bs' ∧ Below w.heap.size w w' := by
  obtain ⟨e1, e2, e3, e4, e5, e6, e7⟩ := vPic_mul hv
  have ho : PicOk w wd hi (some ⟨q, 0, none⟩) c bs := ⟨by rw [← e1]; exact hv, by rw [h.len]; exact h.sl, by rw [h.len]; exact e1⟩
  have K := halved_ok w wd hi (some ⟨q, 0, none⟩) c bs ho
  rw [h.len] at K
  refine K.mono ?_
  rintro e w' ⟨a, cc, bs', rfl, hown, hcon, hb⟩
  have hl : bs'.length = NA := by have := congrArg List.length hcon; rw [List.length_map, tab_length] at this; rw [this, hNA, hA, hB, Nat.mul_comm]
  rw [hl] at hown ⊢
  obtain ⟨q', rfl⟩ := own_ptr_k hown (by rw [hl, hNA]; exact Nat.mul_pos (by omega) (by omega))
  rw [← hA, ← hB]
  exact ⟨q', cc, bs', rfl, ⟨hown.sl, (hown.lt (k := q') rfl).2, hl⟩, hb⟩

theorem ctf_end {WS wC : World} {b qc cc A B NA dp2 : Nat} {ksc : List Int} (bx : BoxN wC b #[.int .i64 0, .int .i64 0, .slice none 0 0] 27) (mc : MQ wC qc cc NA ksc) (hwc : WholeM dp2 ksc NA) (hb : Below WS.heap.size WS wC) (hne : b ≠ qc) (h1 : WS.heap.size ≤ b) (h2 : WS.heap.size ≤ qc) :
    ∃ (ob q' c' : Nat) (ks' : List Int), Value.bool true = .bool true ∧ Value.pointer (some ⟨b, 0, none⟩) = .pointer (some ⟨ob, 0, none⟩) ∧ Box3 (((wC.setCell ⟨b, 0, none⟩ (.int .i64 A)).setCell ⟨b, 1, none⟩ (.int .i64 B)).setCell ⟨b, 2, none⟩ (.slice (some ⟨qc, 0, none⟩) NA cc)) ob (.int .i64 A) (.int .i64 B) (.slice (some ⟨q', 0, none⟩) NA c') 27 ∧ MQ (((wC.setCell ⟨b, 0, none⟩ (.int .i64 A)).setCell ⟨b, 1, none⟩ (.int .i64 B)).setCell ⟨b, 2, none⟩ (.slice (some ⟨qc, 0, none⟩) NA cc)) q' c' NA ks' ∧ WholeM dp2 ks' NA ∧ Below WS.heap.size WS (((wC.setCell ⟨b, 0, none⟩ (.int .i64 A)).setCell ⟨b, 1, none⟩ (.int .i64 B)).setCell ⟨b, 2, none⟩ (.slice (some ⟨qc, 0, none⟩) NA cc)) ∧ WS.heap.size ≤ ob ∧ WS.heap.size ≤ q' := by
  refine ⟨b, qc, cc, ksc, rfl, rfl, ?_, ((mc.set hne _).set hne _).set hne _, hwc, below4k hb h1, h1, h2⟩
  have := (((bx.set 0 (.int .i64 A)).set 1 (.int .i64 B)).set 2 (.slice (some ⟨qc, 0, none⟩) NA cc)).three
  simpa using this

set_option maxHeartbeats 8000000 in
theorem ctf_step (L K : Nat) (hK : K = L + 1) (hL1 : 1 ≤ L) (hK4 : K ≤ 4) (ih : CtfOk L) : CtfOk K := by
  intro w wd hi dp N q1 c1 q2 c2 bs1 bs2 hv hd1 hd2 h1 h2
  obtain ⟨e1, e2, e3, e4, e5, e6, e7⟩ := vPic_mul hv
  obtain ⟨W0, hW0⟩ : ∃ W0, W0 = ((w.alloc (.cells #[.int .i64 wd, .int .i64 hi, .slice (some ⟨q1, 0, none⟩) N c1] 37)).alloc (.cells #[.int .i64 wd, .int .i64 hi, .slice (some ⟨q2, 0, none⟩) N c2] 37)).alloc (.cells #[.int .i64 0, .int .i64 0, .slice none 0 0] 27) := ⟨_, rfl⟩
  have hb0 : Below w.heap.size w W0 := by rw [hW0]; exact (below_two w _ _).alloc (by simp; omega) _
  have A1 : Box3 W0 w.heap.size (.int .i64 wd) (.int .i64 hi) (.slice (some ⟨q1, 0, none⟩) N c1) 37 := by rw [hW0]; exact (box_first w _ _ _ _ _).below (alb_k _ _)
  have A2 : Box3 W0 (w.heap.size + 1) (.int .i64 wd) (.int .i64 hi) (.slice (some ⟨q2, 0, none⟩) N c2) 37 := by rw [hW0]; exact (box_second w _ _ _ _ _).below (alb_k _ _)
  have BZ : Box3 W0 (w.heap.size + 2) (.int .i64 0) (.int .i64 0) (.slice none 0 0) 27 := by rw [hW0]; have := box_last ((w.alloc (.cells #[.int .i64 wd, .int .i64 hi, .slice (some ⟨q1, 0, none⟩) N c1] 37)).alloc (.cells #[.int .i64 wd, .int .i64 hi, .slice (some ⟨q2, 0, none⟩) N c2] 37)) (.int .i64 0) (.int .i64 0) (.slice none 0 0) 27; simpa using this
  obtain ⟨z0, z1, z2, -, -, -⟩ := A1.cells
  obtain ⟨y0, y1, y2, -, -, -⟩ := A2.cells
  rw [hW0] at z0 z1 z2 y0 y1 y2
  have KS := Lib.hid (square_w W0 wd hi dp N q1 c1 q2 c2 bs1 bs2 hv hd1 hd2 (h1.below hb0) (h2.below hb0))
  have HVV := Lib.hid (vVol_mk hv hd1 hd2)
  have HB := Lib.hid (And.intro hb0 (And.intro A1 (And.intro A2 BZ)))
  have HM := Lib.hid (And.intro (h1.below hb0) (h2.below hb0))
  have HN := Lib.hid e1
  have HV := Lib.hid hv
  have HW0 := Lib.hid hW0
  clear hW0 hb0 A1 A2 BZ e1 hv h1 h2
  go_enter Try.func16, Try.ntmps16
  go_wp2_with fail
  rw [← HW0.out]
  refine KS.out.mono ?_
  rintro e w1 ⟨qv, cv, bsv, rfl, hmv, hcon, hqv, hb1⟩
  obtain ⟨WS, hWS⟩ : ∃ WS, WS = w1.alloc (.cells #[.int .i64 wd, .int .i64 hi, .int .i64 dp, .slice (some ⟨qv, 0, none⟩) (wd * hi * dp) cv] 44) := ⟨_, rfl⟩
  have ha1 : Below w1.heap.size w1 WS := by rw [hWS]; exact alb_k _ _
  have BV : BoxN WS w1.heap.size #[.int .i64 wd, .int .i64 hi, .int .i64 dp, .slice (some ⟨qv, 0, none⟩) (wd * hi * dp) cv] 44 := by rw [hWS]; exact BoxN.last w1 _ _
  have hb1S := hb1.trans (ha1.mono hb1.size)
  have hmvS := hmv.below ha1
  have HS := Lib.hid (And.intro hb1S (And.intro BV hmvS))
  have hWs := HB.out.1.size
  have hWs2 := HB.out.2.2.2.lt
  have hWs3 := hb1S.size
  have hwS1 : w1.heap.size < WS.heap.size := BV.lt
  have hw01 := hb1.size
  obtain ⟨A, hA⟩ : ∃ A, A = (wd + 1) / 2 := ⟨_, rfl⟩
  obtain ⟨B, hB⟩ : ∃ B, B = (hi + 1) / 2 := ⟨_, rfl⟩
  obtain ⟨NA, hNA⟩ : ∃ NA, NA = A * B := ⟨_, rfl⟩
  obtain ⟨dp2, hdp2⟩ : ∃ d, d = (dp + 1) / 2 := ⟨_, rfl⟩
  have hvA : vPic A B NA = true := by
    rw [hNA]
    refine vPic_of (by omega) (by omega) (by omega) (by omega) ?_
    have h1 : A ≤ wd := by omega
    have h2 : B ≤ hi := by omega
    have := Nat.mul_le_mul h1 h2
    have e1 := HN.out
    omega
  have KHL := Lib.hid (fun W (hW : Below WS.heap.size WS W) => halved_w W wd hi N A B NA q1 c1 bs1 HV.out hA hB hNA (HM.out.1.below (hb1S.trans (hW.mono hb1S.size))))
  have KHR := Lib.hid (fun W (hW : Below WS.heap.size WS W) => halved_w W wd hi N A B NA q2 c2 bs2 HV.out hA hB hNA (HM.out.2.below (hb1S.trans (hW.mono hb1S.size))))
  have KCT := Lib.hid (fun W qa ca qb cb bsa bsb ma mb => ih W A B dp2 NA qa ca qb cb bsa bsb hvA (by omega) (by omega) ma mb)
  have KU := Lib.hid (fun w => halfUp_any dp (by omega) w)
  rw [← hdp2] at KU
  have HVA := Lib.hid hvA
  have HDP := Lib.hid hdp2
  have CELLS : ∀ W, Below WS.heap.size WS W → Below WS.heap.size WS W ∧ W.cell? ⟨w.heap.size, 0, none⟩ = some (.int .i64 wd) ∧ W.cell? ⟨w.heap.size, 1, none⟩ = some (.int .i64 hi) ∧ W.cell? ⟨w.heap.size, 2, none⟩ = some (.slice (some ⟨q1, 0, none⟩) N c1) ∧ W.cell? ⟨w.heap.size + 1, 0, none⟩ = some (.int .i64 wd) ∧ W.cell? ⟨w.heap.size + 1, 1, none⟩ = some (.int .i64 hi) ∧ W.cell? ⟨w.heap.size + 1, 2, none⟩ = some (.slice (some ⟨q2, 0, none⟩) N c2) := fun W hW => by
    have hW2 := hb1S.trans (hW.mono hb1S.size)
    obtain ⟨u0, u1, u2, -, -, -⟩ := (HB.out.2.1.below hW2).cells
    obtain ⟨t0, t1, t2, -, -, -⟩ := (HB.out.2.2.1.below hW2).cells
    exact ⟨hW, u0, u1, u2, t0, t1, t2⟩
  have CELLS := Lib.hid CELLS
  have hA0 : Below WS.heap.size WS WS.drew := below_drewN (Below.refl _ _) 1
  have hA1 : Below WS.heap.size WS (WS.alloc (.cells #[.int .i64 0, .int .i64 0, .slice none 0 0] 27)).drew := below_drewN (alb_k _ _) 1
  have hK1 : IntKind.i64.wrap ((K : Int) - 1) = (L : Int) := by rw [IntWalk.i64_in _ (by omega)]; omega
  have hKn : ((K : Int) == 1) = false := beq_eq_false_iff_ne.2 (by omega)
  have hin : (decide ((1 : Int) ≤ K) && decide ((K : Int) ≤ 4)) = true := by simp; omega
  have HWS := Lib.hid hWS
  have HK1 := Lib.hid hK1
  clear hWS ha1 BV hb1S hmvS hmv hcon hqv hb1 z0 z1 z2 y0 y1 y2 hA hB hNA hvA hdp2 hK1 hK
  go_wp2_with fail
  refine (in_any _ _ _ _).mono ?_
  rw [hin]
  rintro e w' ⟨rfl, rfl⟩
  clear hin
  go_upto_region 6 with fail
  rw [← HWS.out]
  have hK1 := HK1.out
  go_cut [11, 12] from 13 to 45 (fun v11 v12 wx => ∃ (ob qc cc : Nat) (ksc : List Int), v11 = .bool true ∧ v12 = .pointer (some ⟨ob, 0, none⟩) ∧ Box3 wx ob (.int .i64 A) (.int .i64 B) (.slice (some ⟨qc, 0, none⟩) NA cc) 27 ∧ MQ wx qc cc NA ksc ∧ WholeM dp2 ksc NA ∧ Below WS.heap.size WS wx ∧ WS.heap.size ≤ ob ∧ WS.heap.size ≤ qc)
  case first =>
    go_region_held3 (fun W => Below WS.heap.size WS W ∧ W.cell? ⟨w.heap.size, 0, none⟩ = some (.int .i64 wd) ∧ W.cell? ⟨w.heap.size, 1, none⟩ = some (.int .i64 hi) ∧ W.cell? ⟨w.heap.size, 2, none⟩ = some (.slice (some ⟨q1, 0, none⟩) N c1) ∧ W.cell? ⟨w.heap.size + 1, 0, none⟩ = some (.int .i64 wd) ∧ W.cell? ⟨w.heap.size + 1, 1, none⟩ = some (.int .i64 hi) ∧ W.cell? ⟨w.heap.size + 1, 2, none⟩ = some (.slice (some ⟨q2, 0, none⟩) N c2))
      (first | (refine CELLS.out _ ?_; (repeat' (first | (with_reducible assumption) | (with_reducible refine below4k ?_ ?_) | (with_reducible refine Below.alloc ?_ ?_ _))); all_goals (first | omega | (simp; omega))) | go_keep)
      ((first
        | (go_at_call 59; (with_reducible refine (KHL.out _ hA0).mono ?_); rintro e wX ⟨qa, ca, bsa, rfl, ma, hbX1⟩; have hbX := hA0.trans (hbX1.mono hA0.size); have hXs := hbX.size)
        | (go_at_call 59; (with_reducible refine (KHL.out _ hA1).mono ?_); rintro e wX ⟨qa, ca, bsa, rfl, ma, hbX1⟩; have hbX := hA1.trans (hbX1.mono hA1.size); have hXs := hbX.size; have sX : WS.heap.size + 1 ≤ wX.heap.size := (by have := hbX1.size; simpa using this); have bx1 := ((BoxN.last WS #[.int .i64 0, .int .i64 0, .slice none 0 0] 27).drewN 1).below hbX1; have jx1 := bx1.lt; obtain ⟨m0, m1, m2, g0, g1, g2⟩ := bx1.three.cells)
        | (go_at_call 59; (with_reducible refine (KHR.out _ hA0).mono ?_); rintro e wX ⟨qb, cb, bsb, rfl, mb, hbX1⟩; have hbX := hA0.trans (hbX1.mono hA0.size); have hXs := hbX.size)
        | (go_at_call 59; (with_reducible refine (KHR.out _ hA1).mono ?_); rintro e wX ⟨qb, cb, bsb, rfl, mb, hbX1⟩; have hbX := hA1.trans (hbX1.mono hA1.size); have hXs := hbX.size; have sX : WS.heap.size + 1 ≤ wX.heap.size := (by have := hbX1.size; simpa using this); have bx1 := ((BoxN.last WS #[.int .i64 0, .int .i64 0, .slice none 0 0] 27).drewN 1).below hbX1; have jx1 := bx1.lt; obtain ⟨m0, m1, m2, g0, g1, g2⟩ := bx1.three.cells)
        | (go_at_call 59; (with_reducible refine (KHR.out _ hbX).mono ?_); rintro e wY ⟨qb, cb, bsb, rfl, mb, hbY1⟩; have hbY := hbX.trans (hbY1.mono hbX.size); have hYs := hbY.size; have sY : wX.heap.size ≤ wY.heap.size := hbY1.size; replace ma := ma.below hbY1; (try (replace bx1 := bx1.below hbY1; have jx2 := bx1.lt; obtain ⟨n0, n1, n2, h0, h1, h2⟩ := bx1.three.cells)))
        | (go_at_call 59; (with_reducible refine (KHR.out _ (hbX.alloc hbX.size _)).mono ?_); rintro e wY ⟨qb, cb, bsb, rfl, mb, hbY1⟩; have hbY := (hbX.alloc hbX.size _).trans (hbY1.mono (hbX.alloc hbX.size _).size); have hYs := hbY.size; have sY : wX.heap.size + 1 ≤ wY.heap.size := (by have := hbY1.size; simpa using this); replace ma := (ma.below (alb_k wX (.cells #[.int .i64 0, .int .i64 0, .slice none 0 0] 27))).below hbY1; have bx1 := (BoxN.last wX #[.int .i64 0, .int .i64 0, .slice none 0 0] 27).below hbY1; have jx1 := bx1.lt; obtain ⟨n0, n1, n2, h0, h1, h2⟩ := bx1.three.cells)
        | (go_at_call 59; (with_reducible refine (KHL.out _ hbX).mono ?_); rintro e wY ⟨qa, ca, bsa, rfl, ma, hbY1⟩; have hbY := hbX.trans (hbY1.mono hbX.size); have hYs := hbY.size; have sY : wX.heap.size ≤ wY.heap.size := hbY1.size; replace mb := mb.below hbY1; (try (replace bx1 := bx1.below hbY1; have jx2 := bx1.lt; obtain ⟨n0, n1, n2, h0, h1, h2⟩ := bx1.three.cells)))
        | (go_at_call 59; (with_reducible refine (KHL.out _ (hbX.alloc hbX.size _)).mono ?_); rintro e wY ⟨qa, ca, bsa, rfl, ma, hbY1⟩; have hbY := (hbX.alloc hbX.size _).trans (hbY1.mono (hbX.alloc hbX.size _).size); have hYs := hbY.size; have sY : wX.heap.size + 1 ≤ wY.heap.size := (by have := hbY1.size; simpa using this); replace mb := (mb.below (alb_k wX (.cells #[.int .i64 0, .int .i64 0, .slice none 0 0] 27))).below hbY1; have bx1 := (BoxN.last wX #[.int .i64 0, .int .i64 0, .slice none 0 0] 27).below hbY1; have jx1 := bx1.lt; obtain ⟨n0, n1, n2, h0, h1, h2⟩ := bx1.three.cells)
        | (go_at_call 16; (with_reducible refine (KCT.out wY qa ca qb cb bsa bsb ma mb).mono ?_); rintro e wC ⟨qc, cc, ksc, rfl, mc, hwc, hqc, hbC1⟩; have hbC := hbY.trans (hbC1.mono hbY.size); have hqcl := mc.qlt; have hCs := hbC1.size; have hCs2 := hbC.size; (try (replace bx1 := bx1.below hbC1; have jx3 := bx1.lt; obtain ⟨o0, o1, o2, k0, k1, k2⟩ := bx1.three.cells)))
        | (go_at_call 16; (with_reducible refine (KCT.out (wY.alloc (.cells #[.int .i64 0, .int .i64 0, .slice none 0 0] 27)) qa ca qb cb bsa bsb (ma.below (alb_k wY _)) (mb.below (alb_k wY _))).mono ?_); rintro e wC ⟨qc, cc, ksc, rfl, mc, hwc, hqc, hbC1⟩; have hbC := (hbY.alloc hbY.size _).trans (hbC1.mono (hbY.alloc hbY.size _).size); have sC : wY.heap.size + 1 ≤ qc := (by simpa using hqc); have hqcl := mc.qlt; have hCs := hbC1.size; have hCs2 := hbC.size; have bx1 := (BoxN.last wY #[.int .i64 0, .int .i64 0, .slice none 0 0] 27).below hbC1; have jx3 := bx1.lt; obtain ⟨o0, o1, o2, k0, k1, k2⟩ := bx1.three.cells)
        | (go_at_call 50; (with_reducible refine (KU.out _).mono ?_); rintro e w' ⟨rfl, rfl⟩)))
    all_goals
      go_wp2_with fail
      go_meet
      first
        | exact ⟨wC.heap.size, qc, cc, ksc, rfl, rfl, box_last wC _ _ _ _, mc.below (alb_k wC _), hwc, hbC.alloc hbC.size _, hCs2, by omega⟩
        | exact ctf_end bx1 mc hwc hbC (by omega) (by omega) (by omega)
  case rest =>
    obtain ⟨ob, qc, cc, ksc, rfl, rfl, hbx, mc, hwc, hbc, hob, hqc⟩ := hcut
    have hqcl := mc.qlt
    have hobl := hbx.lt
    have hcs := hbc.size
    have HWB := Lib.hid hbc
    have HS2 := Lib.hid (HS.out.1.trans (hbc.mono HS.out.1.size))
    obtain ⟨m0, m1, m2, g0, g1, g2⟩ := hbx.cells
    obtain ⟨u0, u1, u2, -, -, -⟩ := (HB.out.2.1.below HS2.out).cells
    have KDB := Lib.hid (doubleMap_q wc A B NA qc cc wd hi N ksc HVA.out HV.out mc (whole_bd hwc mc.len (by have := HDP.out; omega)))
    have hwd := whole_dbl HVA.out HV.out HDP.out hd1 hwc
    have HWD := Lib.hid hwd
    have HBX := Lib.hid hbx
    have HV1 := Lib.hid (HS.out.2.1.below hbc)
    have HMV := Lib.hid (HS.out.2.2.below hbc)
    clear hbx mc hwc hbc hwd hA0 hA1 hK1 hKn
    go_wp2_with fail
    refine KDB.out.mono ?_
    rintro e w3 ⟨q3, c3, rfl, m3, hq3, hb3⟩
    have hs3 := hb3.size
    have bx3 := HBX.out.below hb3
    obtain ⟨p0, p1, p2, p3, p4, p5⟩ := bx3.cells
    have hne3 : ob ≠ q3 := by omega
    have hobS : W0.heap.size ≤ ob := by omega
    have hv3 := HV1.out.below hb3
    have hv1ob : w1.heap.size ≠ ob := by omega
    obtain ⟨WZ, hWZ⟩ : ∃ WZ, WZ = ((w3.setCell ⟨ob, 0, none⟩ (.int .i64 wd)).setCell ⟨ob, 1, none⟩ (.int .i64 hi)).setCell ⟨ob, 2, none⟩ (.slice (some ⟨q3, 0, none⟩) N c3) := ⟨_, rfl⟩
    have mZ : MQ WZ q3 c3 N (tabI N (dblF ksc A B wd)) := by rw [hWZ]; exact ((m3.set hne3 _).set hne3 _).set hne3 _
    have nsv : some w1.heap.size ≠ some ob := fun e => hv1ob (by injection e)
    have bvZ : BoxN WZ w1.heap.size #[.int .i64 wd, .int .i64 hi, .int .i64 dp, .slice (some ⟨qv, 0, none⟩) (wd * hi * dp) cv] 44 := by rw [hWZ]; exact ((hv3.grown (grown_setCell _ _ _) nsv).grown (grown_setCell _ _ _) nsv).grown (grown_setCell _ _ _) nsv
    have hqvl := HS.out.2.2.lt
    have hqvo : ob ≠ qv := by omega
    have mvZ : MW WZ qv cv (wd * hi * dp) bsv := by rw [hWZ]; exact (((HMV.out.below hb3).set hqvo _).set hqvo _).set hqvo _
    have bZ : Below WS.heap.size WS WZ := by
      have h0 : Below WS.heap.size WS w3 := by
        have := HS2.out
        exact ⟨(hb3.os).trans (HWB.out.os), hb3.tape.trans HWB.out.tape, hb3.output.trans HWB.out.output, Nat.le_trans HWB.out.size hb3.size, fun k hk => (hb3.block k (Nat.lt_of_lt_of_le hk HWB.out.size)).trans (HWB.out.block k hk)⟩
      rw [hWZ]; exact below4k h0 hob
    obtain ⟨v0, v1, v2, v3, -, -, -, -⟩ := bvZ.four
    have zz0 : WZ.cell? ⟨ob, 0, none⟩ = some (.int .i64 wd) ∧ WZ.cell? ⟨ob, 1, none⟩ = some (.int .i64 hi) ∧ WZ.cell? ⟨ob, 2, none⟩ = some (.slice (some ⟨q3, 0, none⟩) N c3) := by
      have h1 : BoxN w3 ob #[.int .i64 A, .int .i64 B, .slice (some ⟨qc, 0, none⟩) NA cc] 27 := bx3
      have h2 := (((h1.set 0 (.int .i64 wd)).set 1 (.int .i64 hi)).set 2 (.slice (some ⟨q3, 0, none⟩) N c3)).three
      have h3 : Box3 WZ ob (.int .i64 wd) (.int .i64 hi) (.slice (some ⟨q3, 0, none⟩) N c3) 27 := by rw [hWZ]; simpa using h2
      exact ⟨h3.cells.1, h3.cells.2.1, h3.cells.2.2.1⟩
    obtain ⟨zz0, zz1, zz2⟩ := zz0
    have KNR := Lib.hid (near_w WZ wd hi dp _ N qv cv q3 c3 bsv _ HVV.out HN.out mvZ mZ HWD.out)
    have HWZ := Lib.hid hWZ
    have HBZ := Lib.hid (HS.out.1.trans (bZ.mono HS.out.1.size))
    rw [hWZ] at v0 v1 v2 v3 zz0 zz1 zz2
    obtain ⟨va0, va1, va2, va3, -, -, -, -⟩ := hv3.four
    have hv1ob2 : ¬ ob = w1.heap.size := fun e => hv1ob e.symm
    clear mZ bvZ mvZ bZ m3 bx3 hv3 hWZ
    go_wp2_with fail
    rw [← HWZ.out]
    refine KNR.out.mono ?_
    rintro e w4 ⟨q4, c4, rfl, m4, hq4, hb4⟩
    obtain ⟨d0, d1, d2, f0, f1, f2⟩ := ((HB.out.2.2.2.below HBZ.out).below hb4).cells
    have hlt := ((HB.out.2.2.2.below HBZ.out).below hb4).lt
    have hbb := HB.out.1.trans ((HBZ.out.trans (hb4.mono HBZ.out.size)).mono HB.out.1.size)
    have hbzs := HBZ.out.size
    have HM4 := Lib.hid m4
    clear m4 v0 v1 v2 v3 zz0 zz1 zz2 va0 va1 va2 va3 p0 p1 p2 p3 p4 p5 m0 m1 m2 u0 u1 u2
    go_wp2
    refine bodyPost_ret (v := .tuple #[.agg #[.int .i64 wd, .int .i64 hi, .slice (some ⟨q4, 0, none⟩) N c4], .bool true]) (by simp [results, Try.results16, go_sem, d0, d1, d2, hlt]) rfl ?_
    exact ⟨q4, c4, _, rfl, ((HM4.out.set (by omega) _).set (by omega) _).set (by omega) _, fun i hi_ => by rw [tabI_get hi_]; exact nearL_or HWD.out hi_ hd2, by omega, ((hbb.setCell (by first | omega | (simp; done) | (simp; omega)) _).setCell (by first | omega | (simp; done) | (simp; omega)) _).setCell (by first | omega | (simp; done) | (simp; omega)) _⟩

theorem ctf_any : ∀ L : Nat, 1 ≤ L → L ≤ 4 → CtfOk L
  | 0, h, _ => by omega
  | 1, _, _ => ctf_one
  | L + 2, _, h => ctf_step (L + 1) (L + 2) rfl (by omega) h (ctf_any (L + 1) (by omega) (by omega))

end Go.Proofs.Ytmpbnmmpniganaa
