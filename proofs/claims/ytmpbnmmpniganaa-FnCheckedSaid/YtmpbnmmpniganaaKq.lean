/- A volume that the laws draw, by words. -/
import Derived.Test.YtmpbnmmpniganaaKo
namespace Go.Proofs.Ytmpbnmmpniganaa
open Go.RowKit
set_option maxRecDepth 100000
set_option linter.unusedVariables false
set_option linter.unusedSimpArgs false

/-- A volume that is drawn. -/
def MakesDV (L sb U : Nat) (w : World) (e : Ending) (w' : World) : Prop :=
  ∃ (wd hi dp M q c : Nat) (bs : List Nat), e = .returned (.agg #[.int .i64 wd, .int .i64 hi, .int .i64 dp, .slice (some ⟨q, 0, none⟩) M c]) ∧ M = wd * hi * dp ∧ 2 ≤ wd ∧ wd ≤ 6 ∧ 1 ≤ hi ∧ hi ≤ 4 ∧ 1 ≤ dp ∧ dp ≤ 5 ∧ MW w' q c M bs ∧ w.heap.size ≤ q ∧ Drew L sb U w w'

/-- What stands at the end of a drawing. -/
structure DvSt (w wz : World) (L sb V q c M : Nat) (bs : List Nat) : Prop where
  gr : w.grownBy wz (some sb)
  ok : SrcOk wz L sb V
  mw : MW wz q c M bs
  lt : sb < w.heap.size ∧ L ≤ w.heap.size
theorem DvSt.set {w wz : World} {L sb V q c M : Nat} {bs : List Nat} (h : DvSt w wz L sb V q c M bs) (b i : Nat) (z : Value) (hb : w.heap.size ≤ b) (hne : b ≠ q) : DvSt w (wz.setCell ⟨b, i, none⟩ z) L sb V q c M bs := by
  have hl := h.lt
  have g := grown_setCell wz ⟨b, i, none⟩ z
  exact ⟨grown_new h.gr g (fun k hk => by injection hk with hk; have hk2 : b = k := hk; omega), h.ok.grown g (fun e => by injection e with e; have e2 : sb = b := e; omega) (fun k hk => by injection hk with hk; have hk2 : b = k := hk; omega), h.mw.set hne z, hl⟩
theorem DvSt.end {w wz : World} {L sb V wd hi dp q c M : Nat} {bs : List Nat} (h : DvSt w wz L sb V q c M bs) (hM : M = wd * hi * dp) (v1 : 2 ≤ wd) (v2 : wd ≤ 6) (v3 : 1 ≤ hi) (v4 : hi ≤ 4) (d1 : 1 ≤ dp) (d2 : dp ≤ 5) (hq : w.heap.size < q) {V2 : Nat} (hV : V ≤ V2) :
    MakesDV L sb V2 w (.returned (.agg #[.int .i64 wd, .int .i64 hi, .int .i64 dp, .slice (some ⟨q, 0, none⟩) M c])) ((((wz.setCell ⟨w.heap.size, 0, none⟩ (.int .i64 wd)).setCell ⟨w.heap.size, 1, none⟩ (.int .i64 hi)).setCell ⟨w.heap.size, 2, none⟩ (.int .i64 dp)).setCell ⟨w.heap.size, 3, none⟩ (.slice (some ⟨q, 0, none⟩) M c)) := by
  have k := (((h.set w.heap.size 0 (.int .i64 wd) (Nat.le_refl _) (by omega)).set w.heap.size 1 (.int .i64 hi) (Nat.le_refl _) (by omega)).set w.heap.size 2 (.int .i64 dp) (Nat.le_refl _) (by omega)).set w.heap.size 3 (.slice (some ⟨q, 0, none⟩) M c) (Nat.le_refl _) (by omega)
  exact ⟨wd, hi, dp, M, q, c, bs, rfl, hM, v1, v2, v3, v4, d1, d2, k.mw, by omega, ⟨k.ok.mono hV, k.gr⟩⟩

structure VSt (w wr : World) (L sb U ob wd hi dp q c M : Nat) (bs : List Nat) : Prop where
  gr : w.grownBy wr (some sb)
  src : SrcOk wr L sb U
  res : BoxN wr w.heap.size #[.int .i64 0, .int .i64 0, .int .i64 0, .slice none 0 0] 44
  bx : BoxN wr ob #[.int .i64 wd, .int .i64 hi, .int .i64 dp, .slice (some ⟨q, 0, none⟩) M c] 44
  own : OwnF wr (w.heap.size + 1) (.slice (some ⟨q, 0, none⟩) M c) bs
  len : bs.length = M
  lt : sb < w.heap.size ∧ L ≤ w.heap.size
  ne : w.heap.size + 1 ≤ ob ∧ q ≠ ob
theorem VSt.draw {w wr w' : World} {L sb U V ob wd hi dp q c M : Nat} {bs : List Nat} (h : VSt w wr L sb U ob wd hi dp q c M bs) (hd : Drew L sb V wr w') : VSt w w' L sb V ob wd hi dp q c M bs := by
  have hl := h.lt
  have hn := h.ne
  have hq2 := (h.own.lt (k := q) rfl).1
  have g := hd.grown
  have ne : ∀ k, w.heap.size ≤ k → some k ≠ some sb := fun k hk e => by injection e with e; omega
  exact ⟨grown_trans h.gr g, hd.ok, h.res.grown g (ne _ (by omega)), h.bx.grown g (ne _ (by omega)), h.own.grown g (.inr (ne q (by omega))), h.len, h.lt, h.ne⟩
theorem VSt.put {w wr : World} {L sb U ob wd hi dp q c M : Nat} {bs : List Nat} (h : VSt w wr L sb U ob wd hi dp q c M bs) (i : Nat) {r : Nat} (hr : r < 4294967296) : VSt w (wr.setCell ⟨q, i, none⟩ (.float .f32 r)) L sb U ob wd hi dp q c M (bs.set i r) := by
  have hl := h.lt
  have hn := h.ne
  have hq2 := (h.own.lt (k := q) rfl).1
  have g := grown_setCell wr ⟨q, i, none⟩ (.float .f32 r)
  have ne : ∀ k, k ≠ q → some k ≠ some q := fun k hk e => by injection e with e; exact hk e
  exact ⟨grown_new h.gr g (fun k hk => by injection hk with hk; have hk2 : q = k := hk; omega), h.src.grown g (ne _ (by omega)) (fun k hk => by injection hk with hk; have hk2 : q = k := hk; omega), h.res.grown g (ne _ (by omega)), h.bx.grown g (ne _ (by omega)), h.own.put i hr, by rw [List.length_set]; exact h.len, h.lt, h.ne⟩
theorem VSt.dv {w wr : World} {L sb U ob wd hi dp q c M : Nat} {bs : List Nat} (h : VSt w wr L sb U ob wd hi dp q c M bs) : DvSt w wr L sb U q c M bs := ⟨h.gr, h.src, ⟨h.own.sl, (h.own.lt (k := q) rfl).2, h.len⟩, h.lt⟩

set_option maxHeartbeats 4000000 in
theorem l03DrawOk_any (w : World) {L : Nat} (sb U : Nat) (hs : SrcOk w L sb U) (hL : L ≤ w.heap.size) (hU : U < 4611686018427000000) :
    Calls Try.prog 91 #[.pointer (some ⟨sb, 0, none⟩)] w (MakesDV L sb (U + 3000) w) := by
  have hslt := hs.lt
  obtain ⟨wA, hwA⟩ : ∃ wA, wA = w.alloc (.cells #[.int .i64 0, .int .i64 0, .int .i64 0, .slice none 0 0] 44) := ⟨_, rfl⟩
  have hbA : Below w.heap.size w wA := by rw [hwA]; exact alb_k _ _
  have BR : BoxN wA w.heap.size #[.int .i64 0, .int .i64 0, .int .i64 0, .slice none 0 0] 44 := by rw [hwA]; exact BoxN.last w _ _
  have hsz : wA.heap.size = w.heap.size + 1 := by rw [hwA]; simp
  have KD := Lib.hid (l02DrawPair_any wA sb U (hs.below hbA) (by omega) (by omega))
  have HB := Lib.hid (And.intro BR hbA)
  have HWA := Lib.hid hwA
  have hsz2 : w.heap.size + 1 ≤ wA.heap.size := by omega
  clear hs hbA BR hwA
  go_enter Try.func91, Try.ntmps91
  go_wp2_with fail
  rw [← HWA.out]
  refine KD.out.mono ?_
  rintro e w1 ⟨wd, hi, N, q1, c1, q2, c2, bs1, bs2, rfl, hN, v1, v2, v3, v4, l1, l2, s1, s2, g1, g2, g3, g4, hd⟩
  have hd1s := hd.grown.size
  obtain ⟨W1, hW1⟩ : ∃ W1, W1 = (w1.alloc (.cells #[.int .i64 wd, .int .i64 hi, .slice (some ⟨q1, 0, none⟩) N c1] 37)).alloc (.cells #[.int .i64 wd, .int .i64 hi, .slice (some ⟨q2, 0, none⟩) N c2] 37) := ⟨_, rfl⟩
  have hb1 : Below w1.heap.size w1 W1 := by rw [hW1]; exact below_two w1 _ _
  have A1 : Box3 W1 w1.heap.size (.int .i64 wd) (.int .i64 hi) (.slice (some ⟨q1, 0, none⟩) N c1) 37 := by rw [hW1]; exact box_first w1 _ _ _ _ _
  have A2 : Box3 W1 (w1.heap.size + 1) (.int .i64 wd) (.int .i64 hi) (.slice (some ⟨q2, 0, none⟩) N c2) 37 := by rw [hW1]; exact box_second w1 _ _ _ _ _
  have KP := Lib.hid (pick_any W1 sb (U + 2000) 5 (by omega) (by omega) (hd.ok.below hb1) (by omega))
  have HN := Lib.hid hN
  have HX := Lib.hid (And.intro hb1 (And.intro A1 (And.intro A2 (And.intro hd (And.intro (s1.below hb1) (s2.below hb1))))))
  have HW1 := Lib.hid hW1
  have hw1s := hb1.size
  have nsb : ∀ k, w.heap.size ≤ k → some k ≠ some sb := fun k hk e => by injection e with e; omega
  clear KD hN hb1 A1 A2 hd s1 s2 hW1
  go_wp2_with fail
  rw [← HW1.out]
  refine KP.out.mono ?_
  rintro e w2 ⟨kz, rfl, k0, k1, hd2⟩
  obtain ⟨dp, hdp⟩ : ∃ dp : Nat, (1 : Int) + kz = (dp : Int) := ⟨(1 + kz).toNat, by omega⟩
  have dp1 : 1 ≤ dp := by omega
  have dp5 : dp ≤ 5 := by omega
  obtain ⟨hb1, A1, A2, hd, s1, s2⟩ := HX.out
  have gW2 : wA.grownBy w2 (some sb) := grown_trans (grown_trans hd.grown (grown_below hb1 _)) hd2.grown
  have B1 := A1.grown hd2.grown (nsb _ (by omega))
  have B2 := A2.grown hd2.grown (nsb _ (by omega))
  have t1 := s1.grownK hd2.grown (nsb q1 (by omega))
  have t2 := s2.grownK hd2.grown (nsb q2 (by omega))
  have KPR := Lib.hid (l03Pair_T w2 w1.heap.size (w1.heap.size + 1) wd hi N dp q1 q2 c1 c2 (by omega) v2 v3 v4 HN.out dp1 dp5 B1 B2)
  have HY := Lib.hid (And.intro gW2 (And.intro B1 (And.intro B2 (And.intro hd2.ok (And.intro t1 t2)))))
  have h2s := hd2.grown.size
  clear hb1 A1 A2 hd s1 s2 gW2 B1 B2 t1 t2 hd2 k0 k1
  go_wp2_with fail
  refine KPR.out.mono ?_
  rintro e w3 ⟨rfl, n3, hw3⟩
  have hb3 : Below w2.heap.size w2 w3 := by rw [hw3]; exact below_drewN (Below.refl _ _) _
  obtain ⟨gW2, B1, B2, ok2, t1, t2⟩ := HY.out
  have KO := Lib.hid (one_any w3 sb (U + 2000 + 2) 2 (by omega) (by omega) (ok2.below hb3) (by omega))
  have HV := Lib.hid (And.intro (grown_trans gW2 (grown_below hb3 _)) (And.intro (B1.below hb3) (And.intro (B2.below hb3) (And.intro (t1.below hb3) (t2.below hb3)))))
  have h3s := hb3.size
  clear hw3 hb3 gW2 B1 B2 ok2 t1 t2
  go_wp2_with fail
  refine KO.out.mono ?_
  rintro e w4 ⟨sq, rfl, hd4⟩
  obtain ⟨gV, B1, B2, t1, t2⟩ := HV.out
  have P1 : PicAt w4 w1.heap.size wd hi (.slice (some ⟨q1, 0, none⟩) N c1) bs1 37 := ⟨B1.grown hd4.grown (nsb _ (by omega)), t1.grownK hd4.grown (nsb q1 (by omega)), by rw [l1]; exact HN.out⟩
  have P2 : PicAt w4 (w1.heap.size + 1) wd hi (.slice (some ⟨q2, 0, none⟩) N c2) bs2 37 := ⟨B2.grown hd4.grown (nsb _ (by omega)), t2.grownK hd4.grown (nsb q2 (by omega)), by rw [l2]; exact HN.out⟩
  have KC := Lib.hid (l03Compare_any w4 w1.heap.size (w1.heap.size + 1) wd hi N dp q1 q2 c1 c2 bs1 bs2 sq (by omega) v2 v3 v4 dp1 dp5 P1 P2)
  have h4s := hd4.grown.size
  have HD4 := Lib.hid (And.intro (grown_trans gV hd4.grown) hd4.ok)
  obtain ⟨M, hM⟩ : ∃ M, M = wd * hi * dp := ⟨_, rfl⟩
  rw [← hM] at KC
  have HM := Lib.hid hM
  have hM120 : M ≤ 120 := by rw [hM]; exact Nat.mul_le_mul (Nat.mul_le_mul v2 v4) dp5
  have hM1 : 1 ≤ M := by rw [hM]; exact Nat.mul_pos (Nat.mul_pos (by omega) (by omega)) (by omega)
  clear gV B1 B2 t1 t2 P1 P2 hd4 hM
  go_wp2_with fail
  refine KC.out.mono ?_
  rintro e w5 ⟨q, c, bs, rfl, hown, hlen, hb5⟩
  obtain ⟨W5, hW5⟩ : ∃ W5, W5 = w5.alloc (.cells #[.int .i64 wd, .int .i64 hi, .int .i64 dp, .slice (some ⟨q, 0, none⟩) M c] 44) := ⟨_, rfl⟩
  have ha5 : Below w5.heap.size w5 W5 := by rw [hW5]; exact alb_k _ _
  have BV : BoxN W5 w5.heap.size #[.int .i64 wd, .int .i64 hi, .int .i64 dp, .slice (some ⟨q, 0, none⟩) M c] 44 := by rw [hW5]; exact BoxN.last w5 _ _
  have hbb : Below w4.heap.size w4 W5 := hb5.trans (ha5.mono hb5.size)
  have h5s := hb5.size
  have h6s : w5.heap.size < W5.heap.size := BV.lt
  have hq := hown.lt (k := q) rfl
  have KO := Lib.hid (one_any W5 sb (U + 2000 + 2 + 2) 4 (by omega) (by omega) (HD4.out.2.below hbb) (by omega))
  have HZ := Lib.hid (And.intro (grown_trans HD4.out.1 (grown_below hbb _)) (And.intro BV (And.intro (hown.below ha5) hlen)))
  have HW5 := Lib.hid hW5
  clear ha5 BV hbb hb5 hown hW5 hlen KC
  go_wp2_with fail
  rw [← HW5.out]
  refine KO.out.mono ?_
  rintro e w6 ⟨b6, rfl, hd6⟩
  obtain ⟨gZ, BV, ow, hlen⟩ := HZ.out
  have BV6 := BV.grown hd6.grown (nsb _ (by omega))
  have ow6 := ow.grown hd6.grown (.inr (by simpa [Value.ownBlock] using (show ¬ q = sb by omega)))
  have g6 := grown_trans gZ hd6.grown
  have h7s := hd6.grown.size
  have HS := Lib.hid (And.intro g6 (And.intro BV6 (And.intro ow6 (And.intro hlen hd6.ok))))
  obtain ⟨x0, x1, x2, x3, -, -, -, -⟩ := BV6.four
  have R6 := HB.out.1.grown g6 (nsb _ (Nat.le_refl _))
  obtain ⟨r0, r1, r2, r3, r4, r5, r6, r7⟩ := R6.four
  have HR := Lib.hid R6
  have r6l := R6.lt
  clear gZ BV ow hlen hd6 g6 BV6 ow6 R6
  cases b6
  · go_wp2_with fail
    refine bodyPost_ret (v := .agg #[.int .i64 wd, .int .i64 hi, .int .i64 dp, .slice (some ⟨q, 0, none⟩) M c]) (by simp [results, Try.results91, go_sem, r0, r1, r2, r3, r6l]) rfl ?_
    obtain ⟨g6, BV6, ow6, hlen, ok6⟩ := HS.out
    have st : DvSt w w6 L sb (U + 2000 + 2 + 2 + 2) q c M bs := ⟨grown_trans (grown_below HB.out.2 _) g6, ok6, ⟨ow6.sl, by omega, hlen⟩, hslt, hL⟩
    exact st.end HM.out v1 v2 v3 v4 dp1 dp5 (by omega) (by omega)
  · have hst : VSt w w6 L sb (U + 2000 + 2 + 2 + 2) w5.heap.size wd hi dp q c M bs := by
      obtain ⟨g6, BV6, ow6, hlen, ok6⟩ := HS.out
      exact ⟨grown_trans (grown_below HB.out.2 _) g6, ok6, HR.out, BV6, ow6.mono (by omega), hlen, ⟨hslt, hL⟩, by omega, by omega⟩
    have HS6 := Lib.hid hst
    have hd0 : ∀ w : World, w.drewN 0 = w := fun _ => rfl
    have KPK := Lib.hid (pick_any w6.drew sb _ M (by omega) (by omega) (hst.src.drewN 1) (by omega))
    have HS6d : VSt w w6.drew L sb (U + 2000 + 2 + 2 + 2) w5.heap.size wd hi dp q c M bs := hst.draw (Drew.drewN (Drew.refl hst.src) 1)
    have HS6D := Lib.hid HS6d
    clear HS6d hst HS
    go_wp2_with fail
    go_region_held3 (fun W => W.cell? ⟨w5.heap.size, 3, none⟩ = some (.slice (some ⟨q, 0, none⟩) M c))
      (first | exact b38 | exact b37 | exact x3 | exact (HS8.out.put zz hrr).bx.four.2.2.2.1 | go_keep)
      ((first
        | (go_at_call 43; (with_reducible refine KPK.out.mono ?_); rintro e w7 ⟨zi, rfl, zi0, zi1, hd7⟩; obtain ⟨zz, rfl⟩ := Int.eq_ofNat_of_zero_le zi0; have zzM : (zz : Int) < (M : Int) := (by omega); have zzN : zz < M := (by omega); have hs7 := HS6D.out.draw hd7; have b37 := hs7.bx.four.2.2.2.1; have HS7 := Lib.hid hs7; have KDF := Lib.hid (drawFloat_any w7 sb _ hs7.src (by omega)); clear hs7 hd7)
        | (go_at_call 115; (with_reducible refine KDF.out.mono ?_); rintro e w8 ⟨rr, rfl, hrr, hd8⟩; have hs8 := HS7.out.draw hd8; have b38 := hs8.bx.four.2.2.2.1; have ff := OwnF.freeK hs8.own zz; have cq := (hs8.own.sl.cellAtK zz (by rw [hs8.len]; exact zzN)); have HS8 := Lib.hid hs8; clear hs8 hd8)))
    all_goals
      have HSP := Lib.hid (HS8.out.put zz hrr)
      obtain ⟨r0, r1, r2, r3, r4, r5, r6, r7⟩ := HSP.out.res.four
      obtain ⟨x0, x1, x2, x3, -, -, -, -⟩ := HSP.out.bx.four
      have r6l := HSP.out.res.lt
      generalize w8.setCell ⟨q, zz, none⟩ (.float .f32 rr) = w9 at *
      go_wp2_with fail
      refine bodyPost_ret (v := .agg #[.int .i64 wd, .int .i64 hi, .int .i64 dp, .slice (some ⟨q, 0, none⟩) M c]) (by simp [results, Try.results91, go_sem, r0, r1, r2, r3, r6l]) rfl ?_
      exact HSP.out.dv.end HM.out v1 v2 v3 v4 dp1 dp5 (by omega) (by omega)

end Go.Proofs.Ytmpbnmmpniganaa
