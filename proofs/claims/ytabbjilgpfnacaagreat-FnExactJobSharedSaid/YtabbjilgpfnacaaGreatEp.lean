/- JobVolume of any arguments: the reference's and the program's. -/
import Derived.Test.YtabbjilgpfnacaaGreatEo
namespace Go.Proofs.YtabbjilgpfnacaaGreat
open Go.RowKit Ieee
set_option maxRecDepth 100000
set_option linter.unusedVariables false
set_option linter.unusedSimpArgs false

theorem fourE {w W : World} {x y z x' y' z' : Value} {js cs : Array Value} {T U J V : TypeId} (h : W = (((w.alloc (.cells #[x, y, z] T)).alloc (.cells #[x', y', z'] U)).alloc (.cells js J)).alloc (.cells cs V)) :
    Below w.heap.size w W ∧ Box3 W w.heap.size x y z T ∧ Box3 W (w.heap.size + 1) x' y' z' U ∧ BoxN W (w.heap.size + 1 + 1) js J ∧ BoxN W (w.heap.size + 1 + 1 + 1) cs V := by
  obtain ⟨W1, hW1⟩ : ∃ W1, W1 = ((w.alloc (.cells #[x, y, z] T)).alloc (.cells #[x', y', z'] U)).alloc (.cells js J) := ⟨_, rfl⟩
  obtain ⟨a, b, c, d⟩ := threeE hW1
  rw [← hW1] at h
  obtain ⟨e, f, g⟩ := box_new h
  have hs : W1.heap.size = w.heap.size + 1 + 1 + 1 := by rw [hW1]; simp
  exact ⟨a.trans (e.mono a.size), b.below e, c.below e, d.below e, by rw [← hs]; exact f⟩

set_option maxHeartbeats 2000000 in
theorem iJobVolume_any (w : World) (p q : Tri) (j : JobX) (xs ys : List Nat) (hp : SlF w (.slice p.s p.l p.c) xs) (hq : SlF w (.slice q.s q.l q.c) ys) (ho : j.one < 4294967296) (hm : j.more < 4294967296) :
    Calls Tryz.prog 32 #[.agg #[.int .i64 p.a, .int .i64 p.b, .slice p.s p.l p.c], .agg #[.int .i64 q.a, .int .i64 q.b, .slice q.s q.l q.c], .agg j.v] w (VRes (jobT j p q xs ys) w) := by
  obtain ⟨W0, hW0⟩ : ∃ W, W = (((w.alloc (.cells #[.int .i64 p.a, .int .i64 p.b, .slice p.s p.l p.c] 35)).alloc (.cells #[.int .i64 q.a, .int .i64 q.b, .slice q.s q.l q.c] 35)).alloc (.cells j.v 39)).alloc (.cells #[.int .i64 0, .int .i64 0, .int .i64 0, .slice none 0 0] 62) := ⟨_, rfl⟩
  obtain ⟨hb0, B1, B2, BJ, BZ⟩ := fourE hW0
  have K0 := Lib.hid (iJobE W0 j ho hm)
  have K1 := Lib.hid (fun W => pairOk_gen W p q hp.leE.2 hq.leE.2)
  have SV := Lib.hid (fun V (hb : Below W0.heap.size W0 V) => And.intro (B1.below hb).cells (And.intro (B2.below hb).cells (six_of_box (BJ.below hb))))
  have HB := Lib.hid (And.intro hb0 BZ)
  have HW0 := Lib.hid hW0
  have HP := Lib.hid (And.intro hp hq)
  have hp1 : w.heap.size + 1 + 1 + 1 < W0.heap.size := BZ.lt
  obtain ⟨⟨a0, a1, a2, -, -, -⟩, ⟨b0, b1, b2, -, -, -⟩, ⟨c0, c1, c2, c3, c4, c5⟩⟩ := SV.out W0 (Below.refl _ _)
  rw [hW0] at a0 a1 a2 b0 b1 b2 c0 c1 c2 c3 c4 c5
  clear hp hq hb0 B1 B2 BJ BZ hW0 ho hm
  cases h1 : j.ok
  · have hjt : jobT j p q xs ys = noVol := by unfold jobT; rw [h1]; simp
    rw [h1] at K0
    rw [hjt]
    unfold JobX.v at HW0 K0 ⊢
    clear h1 hjt
    go_enter Tryz.func32, Tryz.ntmps32
    go_wp2_with fail
    rw [← HW0.out]
    refine K0.out.mono ?_
    rintro e w1 ⟨rfl, hb⟩
    have hF := HB.out.1.trans (hb.mono HB.out.1.size)
    obtain ⟨d0, d1, d2, d3, g0, g1, g2, g3⟩ := (HB.out.2.below hb).four
    have hlt3 := (HB.out.2.below hb).lt
    clear a0 a1 a2 b0 b1 b2 c0 c1 c2 c3 c4 c5
    go_wp2_with fail
    refine bodyPost_ret (v := .tuple #[.agg #[.int .i64 0, .int .i64 0, .int .i64 0, .slice none 0 0], .bool false]) (by simp [results, Tryz.results32, go_sem, d0, d1, d2, d3, hlt3]) rfl ?_
    exact VRes.no (below_set4 hF (by omega) _ _ _ _)
  · rw [h1] at K0
    cases h2 : pairV p q
    · have hjt : jobT j p q xs ys = noVol := by unfold jobT; rw [h1, h2]; simp
      rw [h2] at K1
      rw [hjt]
      unfold JobX.v at HW0 K0 ⊢
      clear h1 h2 hjt
      go_enter Tryz.func32, Tryz.ntmps32
      go_wp2_with fail
      rw [← HW0.out]
      refine K0.out.mono ?_
      rintro e w1 ⟨rfl, hb⟩
      clear a0 a1 a2 b0 b1 b2 c0 c1 c2 c3 c4 c5
      obtain ⟨⟨a0, a1, a2, -, -, -⟩, ⟨b0, b1, b2, -, -, -⟩, -⟩ := SV.out w1 hb
      have HB1 := Lib.hid hb
      have hl1 := Nat.lt_of_lt_of_le hp1 hb.size
      clear hb
      go_wp2_with fail
      clear a0 a1 a2 b0 b1 b2
      refine (K1.out _).mono ?_
      rintro e w2 ⟨rfl, hb2⟩
      have hb := HB1.out.trans (hb2.mono HB1.out.size)
      have hF := HB.out.1.trans (hb.mono HB.out.1.size)
      obtain ⟨d0, d1, d2, d3, g0, g1, g2, g3⟩ := (HB.out.2.below hb).four
      have hlt3 := (HB.out.2.below hb).lt
      go_wp2_with fail
      refine bodyPost_ret (v := .tuple #[.agg #[.int .i64 0, .int .i64 0, .int .i64 0, .slice none 0 0], .bool false]) (by simp [results, Tryz.results32, go_sem, d0, d1, d2, d3, hlt3]) rfl ?_
      exact VRes.no (below_set4 hF (by omega) _ _ _ _)
    · obtain ⟨hk, hr, hd, -⟩ := JobX.ok_spec h1
      have hD := job_pair h1 h2
      obtain ⟨wd, hi, k, e1, e2, e3, e4, e5, e6, e7, e8, e9, e10, e11, e12, e13, e14⟩ := pairD_spec hD
      obtain ⟨r, hre⟩ := Int.eq_ofNat_of_zero_le hr.1
      have hvv := vVolE hD e1 e2 e5
      have hT : ∀ s, pairT s p q j.deep xs ys = ⟨true, wd, hi, k, tabV wd k (cmW s xs ys wd hi) (hi * wd * k)⟩ := fun s => pairT_yes hD e1 e2 e5
      have hTL : ∀ s (bs : List Nat), bs.map fl = (pairT s p q j.deep xs ys).L → bs.length = wd * hi * k := fun s bs h => by
        rw [hT] at h
        have := congrArg List.length h
        rw [List.length_map] at this
        rw [this]; show (tabV _ _ _ _).length = _; rw [tabV_len, Nat.mul_comm hi wd]
      have hjt : jobT j p q xs ys = boxT (pairT (decide (j.kind = 0)) p q j.deep xs ys).L wd hi k r := by
        unfold jobT; rw [h1, h2, e1, e2, e5, hre]; simp
      rw [hjt]
      obtain ⟨t1, ht1⟩ : ∃ t, pairT true p q j.deep xs ys = t := ⟨_, rfl⟩
      obtain ⟨t2, ht2⟩ : ∃ t, pairT false p q j.deep xs ys = t := ⟨_, rfl⟩
      have KS0 := (fun V (hb : Below w.heap.size w V) => square_gen V p q j.deep xs ys (HP.out.1.below hb) (HP.out.2.below hb))
      have KZ0 := (fun V (hb : Below w.heap.size w V) => size_gen V p q j.deep xs ys (HP.out.1.below hb) (HP.out.2.below hb))
      rw [ht1] at KS0
      rw [ht2] at KZ0
      have KS := Lib.hid KS0
      have KZ := Lib.hid KZ0
      have KB0 : ∀ (t : VolT), (t = t1 ∨ t = t2) → ∀ V B s' c (bs : List Nat), OwnF V B (.slice s' bs.length c) bs → bs.map fl = t.L → Calls Tryz.prog 48 #[.agg #[.int .i64 t.a, .int .i64 t.b, .int .i64 t.d, .slice s' bs.length c], .int .i64 j.reach] V (VRes (boxT t.L wd hi k r) V) := by
        intro t ht V B s' c bs ho hc
        obtain ⟨s, hs⟩ : ∃ s, t = pairT s p q j.deep xs ys := by
          rcases ht with h | h
          · exact ⟨true, by rw [h, ht1]⟩
          · exact ⟨false, by rw [h, ht2]⟩
        have hl := hTL s bs (by rw [← hs]; exact hc)
        obtain ⟨q', rfl⟩ := own_ptrE ho (by rw [hl]; exact Nat.mul_pos (Nat.mul_pos e8 e10) e13)
        have := boxE V wd hi k bs.length q' c r bs (by rw [hl]; exact hvv) ho.sl (by omega)
        rw [hc] at this
        have et := hs.trans (hT s)
        have ea : t.a = wd := by rw [et]
        have eb : t.b = hi := by rw [et]
        have ed : t.d = k := by rw [et]
        rw [ea, eb, ed, hre]
        exact this
      have KB := Lib.hid KB0
      rw [h2] at K1
      rcases hk with hk | hk
      · have hcz : (j.kind == 0) = true := by rw [hk]; rfl
        have e0 : pairT (decide (j.kind = 0)) p q j.deep xs ys = t1 := by rw [← ht1, hk]; rfl
        rw [e0]
        obtain ⟨tb, htb⟩ : ∃ tb, boxT t1.L wd hi k r = tb := ⟨_, rfl⟩
        have HTB := Lib.hid htb
        rw [htb]
        unfold JobX.v at HW0 K0 ⊢
        clear h1 h2 hjt hk hr hd hD e0 e1 e2 e3 e4 e5 e6 e7 e8 e9 e10 e11 e12 e13 e14 hre hvv hT hTL KS0 KZ0 KB0 ht1 ht2 htb
        go_enter Tryz.func32, Tryz.ntmps32
        go_wp2_with fail
        rw [← HW0.out]
        refine K0.out.mono ?_
        rintro e w1 ⟨rfl, hb⟩
        clear a0 a1 a2 b0 b1 b2 c0 c1 c2 c3 c4 c5
        obtain ⟨⟨a0, a1, a2, -, -, -⟩, ⟨b0, b1, b2, -, -, -⟩, -⟩ := SV.out w1 hb
        have HB1 := Lib.hid hb
        have hl1 := Nat.lt_of_lt_of_le hp1 hb.size
        clear hb
        go_wp2_with fail
        clear a0 a1 a2 b0 b1 b2
        refine (K1.out _).mono ?_
        rintro e w2 ⟨rfl, hb2⟩
        have hb := HB1.out.trans (hb2.mono HB1.out.size)
        obtain ⟨⟨a0, a1, a2, -, -, -⟩, ⟨b0, b1, b2, -, -, -⟩, ⟨c0, c1, c2, c3, c4, c5⟩⟩ := SV.out w2 hb
        have HB2 := Lib.hid hb
        have hl2 := Nat.lt_of_lt_of_le hp1 hb.size
        clear hb hb2
        go_wp2_with fail
        clear a0 a1 a2 b0 b1 b2 c0 c1 c2 c3 c4 c5
        refine (KZ.out _ (HB.out.1.trans (HB2.out.mono HB.out.1.size))).mono ?_
        rintro e w3 ⟨s3, k3, bs3, rfl, ho3, hc3, hb3⟩
        have hb := HB2.out.trans (hb3.mono HB2.out.size)
        obtain ⟨W3, hW3⟩ : ∃ W, W = w3.alloc (.cells #[.int .i64 t2.a, .int .i64 t2.b, .int .i64 t2.d, .slice s3 bs3.length k3] 62) := ⟨_, rfl⟩
        obtain ⟨hbV, bx, hsV⟩ := box_new hW3
        have hbW := hb.trans (hbV.mono hb.size)
        obtain ⟨⟨a0, a1, a2, -, -, -⟩, ⟨b0, b1, b2, -, -, -⟩, ⟨c0, c1, c2, c3, c4, c5⟩⟩ := SV.out W3 hbW
        have hl3 := Nat.lt_of_lt_of_le hp1 hbW.size
        have H3 := Lib.hid (And.intro hbW bx)
        have HS3 := Lib.hid hb.size
        have HW3 := Lib.hid hW3
        rw [hW3] at a0 a1 a2 b0 b1 b2 c0 c1 c2 c3 c4 c5 hl3
        clear ho3 hc3 hb3 hb hW3 hbV bx hsV hbW
        go_wp2_with fail
        rw [← HW3.out]
        clear a0 a1 a2 b0 b1 b2 c0 c1 c2 c3 c4 c5
        refine (KS.out _ (HB.out.1.trans (H3.out.1.mono HB.out.1.size))).mono ?_
        rintro e w4 ⟨s4, k4, bs4, rfl, ho4, hc4, hb4⟩
        have hst := VBox.set H3.out.2 rfl H3.out.1 HS3.out H3.out.1.size hb4 ho4 hc4
        have hz5 := H3.out.2.below hb4
        obtain ⟨d0, d1, d2, d3, g0, g1, g2, g3⟩ := hz5.four
        have hlz := hz5.lt
        obtain ⟨W5, hW5⟩ : ∃ W5, W5 = (((w4.setCell ⟨w3.heap.size, 0, none⟩ (.int .i64 t1.a)).setCell ⟨w3.heap.size, 1, none⟩ (.int .i64 t1.b)).setCell ⟨w3.heap.size, 2, none⟩ (.int .i64 t1.d)).setCell ⟨w3.heap.size, 3, none⟩ (.slice s4 bs4.length k4) := ⟨_, rfl⟩
        rw [← hW5] at hst
        have HST := Lib.hid hst
        have HW5 := Lib.hid hW5
        go_upto_region 6 with fail
        clear d0 d1 d2 d3 g0 g1 g2 g3 hlz hz5 ho4 hc4 hb4
        obtain ⟨d0, d1, d2, d3⟩ := four_of_box hst.box
        obtain ⟨-, -, ⟨c0, c1, c2, c3, c4, c5⟩⟩ := SV.out W5 hst.bel
        have hl5 := hst.box.lt
        have hl6 := Nat.lt_of_lt_of_le hp1 hst.bel.size
        rw [hW5] at d0 d1 d2 d3 c0 c1 c2 c3 c4 c5 hl5 hl6
        clear hst hW5
        go_wp2_with fail
        rw [← HW5.out]
        clear d0 d1 d2 d3 c0 c1 c2 c3 c4 c5 hl5 hl6
        refine (KB.out t1 (.inl rfl) W5 W0.heap.size _ _ _ HST.out.own HST.out.con).mono ?_
        rw [HTB.out]
        rintro e w6 ⟨s, c, bs, rfl, ho, hc, hb⟩
        have hz := (HB.out.2.below HST.out.bel).below hb
        obtain ⟨d0, d1, d2, d3, g0, g1, g2, g3⟩ := hz.four
        have hlt3 := hz.lt
        have HF := Lib.hid (And.intro ho (And.intro hc hb))
        clear ho hc hb hz
        go_wp2_with fail
        refine bodyPost_ret (v := .tuple #[.agg #[.int .i64 tb.a, .int .i64 tb.b, .int .i64 tb.d, .slice s bs.length c], .bool tb.ok]) (by simp [results, Tryz.results32, go_sem, d0, d1, d2, d3, hlt3]) rfl ?_
        exact VRes.of_box (HB.out.1.trans (HST.out.bel.mono HB.out.1.size)) (HB.out.2.below HST.out.bel).lt (by omega) HF.out.1 HF.out.2.1 HF.out.2.2 _ _ _ _
      · have hcz : (j.kind == 0) = false := by rw [hk]; rfl
        have e0 : pairT (decide (j.kind = 0)) p q j.deep xs ys = t2 := by rw [← ht2, hk]; rfl
        rw [e0]
        obtain ⟨tb, htb⟩ : ∃ tb, boxT t2.L wd hi k r = tb := ⟨_, rfl⟩
        have HTB := Lib.hid htb
        rw [htb]
        unfold JobX.v at HW0 K0 ⊢
        clear h1 h2 hjt hk hr hd hD e0 e1 e2 e3 e4 e5 e6 e7 e8 e9 e10 e11 e12 e13 e14 hre hvv hT hTL KS0 KZ0 KB0 ht1 ht2 htb
        go_enter Tryz.func32, Tryz.ntmps32
        go_wp2_with fail
        rw [← HW0.out]
        refine K0.out.mono ?_
        rintro e w1 ⟨rfl, hb⟩
        clear a0 a1 a2 b0 b1 b2 c0 c1 c2 c3 c4 c5
        obtain ⟨⟨a0, a1, a2, -, -, -⟩, ⟨b0, b1, b2, -, -, -⟩, -⟩ := SV.out w1 hb
        have HB1 := Lib.hid hb
        have hl1 := Nat.lt_of_lt_of_le hp1 hb.size
        clear hb
        go_wp2_with fail
        clear a0 a1 a2 b0 b1 b2
        refine (K1.out _).mono ?_
        rintro e w2 ⟨rfl, hb2⟩
        have hb := HB1.out.trans (hb2.mono HB1.out.size)
        obtain ⟨⟨a0, a1, a2, -, -, -⟩, ⟨b0, b1, b2, -, -, -⟩, ⟨c0, c1, c2, c3, c4, c5⟩⟩ := SV.out w2 hb
        have HB2 := Lib.hid hb
        have hl2 := Nat.lt_of_lt_of_le hp1 hb.size
        clear hb hb2
        go_wp2_with fail
        clear a0 a1 a2 b0 b1 b2 c0 c1 c2 c3 c4 c5
        refine (KZ.out _ (HB.out.1.trans (HB2.out.mono HB.out.1.size))).mono ?_
        rintro e w3 ⟨s3, k3, bs3, rfl, ho3, hc3, hb3⟩
        have hb := HB2.out.trans (hb3.mono HB2.out.size)
        obtain ⟨W5, hW5⟩ : ∃ W, W = w3.alloc (.cells #[.int .i64 t2.a, .int .i64 t2.b, .int .i64 t2.d, .slice s3 bs3.length k3] 62) := ⟨_, rfl⟩
        have hst := VBox.new (t := t2) hb (ho3.mono HB2.out.size) hc3 hb.size
        rw [← hW5] at hst
        have HST := Lib.hid hst
        have HW5 := Lib.hid hW5
        clear hb3 ho3 hc3 hb
        obtain ⟨d0, d1, d2, d3⟩ := four_of_box hst.box
        obtain ⟨-, -, ⟨c0, c1, c2, c3, c4, c5⟩⟩ := SV.out W5 hst.bel
        have hl5 := hst.box.lt
        have hl6 := Nat.lt_of_lt_of_le hp1 hst.bel.size
        rw [hW5] at d0 d1 d2 d3 c0 c1 c2 c3 c4 c5 hl5 hl6
        clear hst hW5
        go_wp2_with fail
        rw [← HW5.out]
        clear d0 d1 d2 d3 c0 c1 c2 c3 c4 c5 hl5 hl6
        refine (KB.out t2 (.inr rfl) W5 W0.heap.size _ _ _ HST.out.own HST.out.con).mono ?_
        rw [HTB.out]
        rintro e w6 ⟨s, c, bs, rfl, ho, hc, hb⟩
        have hz := (HB.out.2.below HST.out.bel).below hb
        obtain ⟨d0, d1, d2, d3, g0, g1, g2, g3⟩ := hz.four
        have hlt3 := hz.lt
        have HF := Lib.hid (And.intro ho (And.intro hc hb))
        clear ho hc hb hz
        go_wp2_with fail
        refine bodyPost_ret (v := .tuple #[.agg #[.int .i64 tb.a, .int .i64 tb.b, .int .i64 tb.d, .slice s bs.length c], .bool tb.ok]) (by simp [results, Tryz.results32, go_sem, d0, d1, d2, d3, hlt3]) rfl ?_
        exact VRes.of_box (HB.out.1.trans (HST.out.bel.mono HB.out.1.size)) (HB.out.2.below HST.out.bel).lt (by omega) HF.out.1 HF.out.2.1 HF.out.2.2 _ _ _ _

end Go.Proofs.YtabbjilgpfnacaaGreat
