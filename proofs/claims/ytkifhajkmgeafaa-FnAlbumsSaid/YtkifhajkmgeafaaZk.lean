/- AddPicture. -/
import Derived.Test.YtkifhajkmgeafaaZi
namespace Go.Proofs.Ytkifhajkmgeafaa
open Go.RowKit
set_option maxRecDepth 100000
set_option linter.unusedVariables false
set_option linter.unusedSimpArgs false

set_option maxHeartbeats 4000000 in
theorem addPicture_yes (w : World) (B : Nat) (sa : Option Addr) (k sc : Nat) (xs : List PicX) (x : PicX) (h : OwnA w B (.slice sa k sc) xs) (hk : xs.length = k) (hk7 : k ≤ 7) (hx : SlF w x.sl x.p.bs) (hxk : x.p.ok) :
    Calls Try.prog 17 #[.agg #[.slice sa k sc], .agg #[.int .i64 (x.p.wd : Int), .int .i64 (x.p.hi : Int), x.sl]] w fun e w' => ∃ v ys, e = .returned (.tuple #[.agg #[v], .bool true]) ∧ OwnA w' w.heap.size v ys ∧ ys.map PicX.p = xs.map PicX.p ++ [x.p] ∧ Below w.heap.size w w' := by
  obtain ⟨i0, hi0, hz0, hz1, hz2⟩ := info_parts info_picI
  obtain ⟨Wx, hWx⟩ : ∃ W, W = w.alloc (.cells #[.slice sa k sc] 26) := ⟨_, rfl⟩
  obtain ⟨Wy, hWy⟩ : ∃ W, W = Wx.alloc (.cells #[.int .i64 x.p.wd, .int .i64 x.p.hi, x.sl] 41) := ⟨_, rfl⟩
  obtain ⟨W0, hW0⟩ : ∃ W, W = Wy.alloc (.cells #[.slice none 0 0] 26) := ⟨_, rfl⟩
  have sx : Wx.heap.size = w.heap.size + 1 := by rw [hWx]; simp
  have sy : Wy.heap.size = w.heap.size + 2 := by rw [hWy]; simp; omega
  have s0 : W0.heap.size = w.heap.size + 3 := by rw [hW0]; simp; omega
  have bx : Below w.heap.size w Wx := by rw [hWx]; exact (Below.refl _ _).alloc (Nat.le_refl _) _
  have by_ : Below Wx.heap.size Wx Wy := by rw [hWy]; exact (Below.refl _ _).alloc (Nat.le_refl _) _
  have b0 : Below Wy.heap.size Wy W0 := by rw [hW0]; exact (Below.refl _ _).alloc (Nat.le_refl _) _
  have bw : Below w.heap.size w W0 := (bx.trans (by_.mono bx.size)).trans (b0.mono (Nat.le_trans bx.size by_.size))
  have m1 : BoxN W0 w.heap.size #[.slice sa k sc] 26 := (BoxN.below (by rw [hWx]; exact BoxN.last _ _ _ : BoxN Wx w.heap.size #[.slice sa k sc] 26) by_).below b0
  have m2 : BoxN W0 (w.heap.size + 1) #[.int .i64 x.p.wd, .int .i64 x.p.hi, x.sl] 41 := (by rw [← sx, hWy]; exact BoxN.last _ _ _ : BoxN Wy (w.heap.size + 1) #[.int .i64 x.p.wd, .int .i64 x.p.hi, x.sl] 41).below b0
  have m3 : BoxN W0 (w.heap.size + 2) #[.slice none 0 0] 26 := by rw [← sy, hW0]; exact BoxN.last _ _ _
  have h0 := h.below bw
  have hx0 := hx.below bw
  obtain ⟨d1, d2, d3, d4, d5, d6, d7⟩ := hxk.dims
  have hne0 : x.p.bs ≠ [] := fun e => by rw [e] at d7; simp at d7
  have KA := Lib.hid (cloneAlbum_any W0 sa k sc (xs.take k) (h0.rd hk (Nat.le_refl _)) (by omega))
  rw [List.take_of_length_le (by omega : xs.length ≤ k)] at KA
  have KV := Lib.hid (fun W (hW : Below W0.heap.size W0 W) => validAlbum_any W B _ xs (h0.below hW) (by omega))
  rw [decide_eq_true (show xs.length ≤ 8 by omega)] at KV
  have KC := Lib.hid (fun W (hW : Below W0.heap.size W0 W) => cloneP_any W (x.p.wd : Int) (x.p.hi : Int) (some ⟨x.q, 0, none⟩) x.c x.p.bs (hx0.below hW) hne0 (by omega))
  have CELL := Lib.hid (And.intro m1 (And.intro m2 m3))
  have HSZ := Lib.hid (And.intro s0 bw)
  have HW0 := Lib.hid (show W0 = ((w.alloc (.cells #[.slice sa k sc] 26)).alloc (.cells #[.int .i64 x.p.wd, .int .i64 x.p.hi, x.sl] 41)).alloc (.cells #[.slice none 0 0] 26) by rw [hW0, hWy, hWx])
  have hc0 : W0.cell? ⟨w.heap.size, 0, none⟩ = some (.slice sa k sc) := m1.cell 0
  rw [HW0.out] at hc0
  have HK := Lib.hid (And.intro hk hxk)
  have hl3 : (xs.map PicX.p).length = k := by rw [List.length_map, hk]
  have HL3 := Lib.hid hl3
  clear hWx hWy hW0 sx sy s0 bx by_ b0 bw m1 m2 m3 h h0 hx hx0 hk hxk d1 d2 d3 d4 d5 d7 hl3
  go_enter Try.func17, Try.ntmps17
  go_wp2_with fail
  rw [← HW0.out]
  refine KA.out.mono ?_
  rintro e w1 ⟨v, ys, rfl, ho, hm, hb1⟩
  clear hc0
  obtain ⟨W2, hW2⟩ : ∃ W, W = w1.alloc (.cells #[v] 26) := ⟨_, rfl⟩
  obtain ⟨ob, hob⟩ : ∃ o, o = w1.heap.size := ⟨_, rfl⟩
  have hyk : ys.length = k := by have := congrArg List.length hm; rwa [List.length_map, HL3.out] at this
  have hacc : AccA W0 W2 ob v ys := by
    refine ⟨?_, ?_, ?_, ?_, ?_, ?_⟩
    · rw [hW2]; exact hb1.alloc hb1.size _
    · rw [hW2, hob]; exact BoxN.last _ _ _
    · rw [hW2]; exact ho.below ((Below.refl _ _).alloc (Nat.le_refl _) _)
    · intro e; have := (ho.row.lt ob e.symm).2; omega
    · intro y hy e; have := (ho.qlt hy).2; omega
    · rw [hob]; exact hb1.size
  obtain ⟨va, vc, rfl, hc1, hc2⟩ := ho.form
  rw [hyk] at hacc hc1 hW2 ⊢
  have HST := Lib.hid (fun q1 c1 w1 gg cap w2 h1 h2 h3 h4 h5 => hacc.stepk (x := ⟨x.p, q1, c1⟩) (w1 := w1) (w2 := w2) (gg := gg) (cap := cap) (T := 41) hyk h1 h2 HK.out.2 rfl h3 h4 h5)
  have HYM := Lib.hid (And.intro hyk hm)
  have hbox := hacc.box
  have hne := hacc.ne
  have hbel2 := hacc.bel
  have hrow : W2.ownsRow W0.heap.size 41 3 (.slice va k vc) k (pxCells ys) := by
    have := hacc.own.row; rwa [hyk] at this
  have HW2 := Lib.hid hW2
  have hsz2 := hbel2.size
  have hpb := CELL.out.2.1.below hbel2
  unfold PicX.sl at *
  unfold PicX.cells PicX.sl at HST
  dsimp only at HST
  clear hyk hm hacc hW2 ho hb1
  generalize hwd : x.p.wd = wd at *
  generalize hhi : x.p.hi = hi_ at *
  generalize hbs : x.p.bs = bs at *
  generalize hn : bs.length = n at *
  clear hwd hhi hbs
  go_upto_region 2 with fail
  rw [← HW2.out, ← hob]
  clear hob
  have c0 : W2.cell? ⟨ob, 0, none⟩ = some (.slice va k vc) := hbox.cell 0
  obtain ⟨p0, p1, p2, -, -, -⟩ := hpb.three.cells
  have hbD : Below W2.heap.size W2 W2.drew := below_drewN (Below.refl _ _) 1
  have hKD := hbel2.trans (hbD.mono hbel2.size)
  have HPB := Lib.hid hpb
  go_region_law (first
    | (refine step_append_lies _ (by rfl) _ _ _ (by rfl) W0.heap.size 41 i0 _ 3 40 Try.underlying24 hi0 hz0 hz1 hz2 rfl (by omega) (.slice va k vc) k _ (by rfl) (World.ownsRow.alloc hown1 _) ⟨w1.heap.size, 0, none⟩ 1 1 [.int .i64 wd, .int .i64 hi_, .slice (some ⟨q1, 0, none⟩) n c1] (by rfl) (by rfl) (cells_new3 _ _ _ _ _) (by simp [Value.oneCell']) (by omega) (by unfold maxLen; omega) (by omega) (by simp; omega) (w1.heap.size + 1) (by simp) ?_; intro gg cap w2 hown2 hgrow hat hlt2; have hbg := (hbox1.below ((Below.refl w1.heap.size w1).alloc (Nat.le_refl _) (.cells #[.int .i64 wd, .int .i64 hi_, .slice (some ⟨q1, 0, none⟩) n c1] 41))).grown hgrow hne; have g0 : w2.cell? ⟨ob, 0, none⟩ = some (.slice va k vc) := hbg.cell 0; have g1 : w2.frozen? ⟨ob, 0, none⟩ = false := hbg.free 0; have g2 := hbg.lt)
    | (go_simp; refine (KC.out _ hKD).mono ?_; rintro e w1 ⟨a1, c1, rfl, hxo, hbk⟩; obtain ⟨q1, rfl⟩ := own_some hxo hne0; rw [hn] at hxo ⊢; have hb2 : Below W2.heap.size W2 w1 := hbD.trans (hbk.mono hbD.size); have hbox1 := hbox.below hb2; have c0' : w1.cell? ⟨ob, 0, none⟩ = some (.slice va k vc) := hbox1.cell 0; have c4 : ∀ o, (w1.alloc o).cell? ⟨ob, 0, none⟩ = some (.slice va k vc) := (fun o => (hbox1.below ((Below.refl _ _).alloc (Nat.le_refl _) o)).cell 0); have hown1 := hrow.kept (grown_below hb2 none) (by cases va <;> simp [Value.ownBlock]); have hz2' : W0.heap.size ≤ w1.heap.size := (by have := hb2.size; omega)))
  all_goals
    have hacc3 := HST.out q1 c1 w1 gg cap w2 hb2 hxo hown2 hgrow hat
    obtain ⟨W3, hW3⟩ : ∃ W, W = w2.setCell ⟨ob, 0, none⟩ (.slice (some ⟨gg, 0, none⟩) (k + 1) cap) := ⟨_, rfl⟩
    rw [← hW3] at hacc3
    have m1 := CELL.out.1.below hacc3.bel
    have q0 : W3.cell? ⟨w.heap.size, 0, none⟩ = some (.slice sa k sc) := m1.cell 0
    have HA3 := Lib.hid hacc3
    rw [← hW3]
    clear hown2 hgrow hat hxo hbk hb2 c0' c4 hown1 hbox1 hbg g0 g1 g2 hW3 hacc3 m1 p0 p1 p2 c0 hbox hne hrow hpb HPB hbD hKD
    go_wp2_with fail
    refine (KV.out _ HA3.out.bel).mono ?_
    rintro e w4 ⟨rfl, hb4⟩
    have hacc4 := HA3.out.below hb4
    have q5 : w4.cell? ⟨ob, 0, none⟩ = some (.slice (some ⟨gg, 0, none⟩) (k + 1) cap) := hacc4.box.cell 0
    have hyl : (ys ++ [(⟨x.p, q1, c1⟩ : PicX)]).length ≤ 8 := by rw [List.length_append, HYM.out.1]; simp; omega
    have KV2 := Lib.hid (validAlbum_any w4 W0.heap.size _ _ hacc4.own (by omega))
    rw [decide_eq_true hyl] at KV2
    have HA4 := Lib.hid hacc4
    clear q0 hb4 hacc4 hyl
    go_wp2_with fail
    refine KV2.out.mono ?_
    rintro e w5 ⟨rfl, hb5⟩
    have hacc5 := HA4.out.below hb5
    clear q5 hb5
    have q5 : w5.cell? ⟨ob, 0, none⟩ = some (.slice (some ⟨gg, 0, none⟩) (k + 1) cap) := hacc5.box.cell 0
    have hR := CELL.out.2.2.below hacc5.bel
    have rr : w5.cell? ⟨w.heap.size + 2, 0, none⟩ = some (.slice none 0 0) := hR.cell 0
    have rf : w5.frozen? ⟨w.heap.size + 2, 0, none⟩ = false := hR.free 0
    have hRl := hR.lt
    have h1 := (hacc5.own.set (a := ⟨w.heap.size + 2, 0, none⟩) (by show w.heap.size + 2 < _; have := HSZ.out.1; omega) (.slice (some ⟨gg, 0, none⟩) (k + 1) cap)).mono (B' := w.heap.size) (by have := HSZ.out.1; omega)
    have h2 := (HSZ.out.2.trans (hacc5.bel.mono HSZ.out.2.size)).setCell (p := ⟨w.heap.size + 2, 0, none⟩) (by show w.heap.size ≤ w.heap.size + 2; omega) (.slice (some ⟨gg, 0, none⟩) (k + 1) cap)
    have HFIN := Lib.hid (And.intro h1 h2)
    clear h1 h2 hR hacc5
    go_wp2_with fail
    refine bodyPost_ret (v := .tuple #[.agg #[.slice (some ⟨gg, 0, none⟩) (k + 1) cap], .bool true]) (by simp [results, Try.results17, go_sem, rr, rf, hRl]) rfl ?_
    exact ⟨_, _, rfl, HFIN.out.1, by rw [List.map_append, HYM.out.2]; rfl, HFIN.out.2⟩

end Go.Proofs.Ytkifhajkmgeafaa
