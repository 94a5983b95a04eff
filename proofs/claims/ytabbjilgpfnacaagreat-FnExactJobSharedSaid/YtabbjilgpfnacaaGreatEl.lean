/- The reference's BoxVolume of a volume that is right, by words. -/
import Derived.Test.YtabbjilgpfnacaaGreatEk
namespace Go.Proofs.YtabbjilgpfnacaaGreat
open Go.RowKit Ieee
set_option maxRecDepth 100000
set_option linter.unusedVariables false
set_option linter.unusedSimpArgs false

theorem l03IsE (W : World) (pb : Nat) (a b d : Int) (sa : Option Addr) (n c : Nat) (hn : n ≤ 9223372036854775807) (c0 : W.cell? ⟨pb, 0, none⟩ = some (.int .i64 a)) (c1 : W.cell? ⟨pb, 1, none⟩ = some (.int .i64 b)) (c2 : W.cell? ⟨pb, 2, none⟩ = some (.int .i64 d)) (c3 : W.cell? ⟨pb, 3, none⟩ = some (.slice sa n c)) :
    Calls Tryz.prog 41 #[.pointer (some ⟨pb, 0, none⟩)] W fun e w' => e = .returned (.bool (vVol a b d n)) ∧ ∃ m, w' = W.drewN m := by
  have K := Lib.hid (fun w => s02Size_any a b w)
  have K2 := Lib.hid (fun w => s00In_any d 1 8 w)
  cases h : szOk a b
  · have e : vVol a b d n = false := by unfold vVol; rw [h]; rfl
    rw [e]; clear e
    rw [h] at K
    go_enter Tryz.func41, Tryz.ntmps41
    go_wp2_with fail
    go_quiet (first | exact quiet_same (K.out _) | exact quiet_same (K2.out _))
    go_wp2_with fail
    go_ret
    exact ⟨rfl, _, rfl⟩
  · cases hd : (decide ((1 : Int) ≤ d) && decide (d ≤ 8))
    · have e : vVol a b d n = false := by unfold vVol; rw [h, hd]; rfl
      rw [e]; clear e
      rw [h] at K
      rw [hd] at K2
      go_enter Tryz.func41, Tryz.ntmps41
      go_wp2_with fail
      go_quiet (first | exact quiet_same (K.out _) | exact quiet_same (K2.out _))
      go_wp2_with fail
      go_ret
      exact ⟨rfl, _, rfl⟩
    · have e : vVol a b d n = ((n : Int) == a * b * d) := by unfold vVol; rw [h, hd, Bool.true_and, Bool.true_and]; rw [Bool.eq_iff_iff]; simp
      rw [e]; clear e
      rw [h] at K
      rw [hd] at K2
      obtain ⟨h1, h2, h3, h4, h5⟩ := szOk_spec h
      simp only [Bool.and_eq_true, decide_eq_true_eq] at hd
      have hab : 0 ≤ a * b := Int.mul_nonneg (by omega) (by omega)
      have hw : IntKind.i64.wrap (a * b) = a * b := IntWalk.i64_in _ (by omega)
      have hv0 : 0 ≤ a * b * d := Int.mul_nonneg hab (by omega)
      have hv1 : a * b * d ≤ 2048 := Int.le_trans (Int.mul_le_mul_of_nonneg_left hd.2 hab) (by omega)
      have hw2 : IntKind.i64.wrap (a * b * d) = a * b * d := IntWalk.i64_in _ (by omega)
      have hle : decide (a * b * d ≤ 2048) = true := decide_eq_true hv1
      obtain ⟨bv, hbv⟩ : ∃ bv, ((n : Int) == a * b * d) = bv := ⟨_, rfl⟩
      have hnI : (n : Int) ≤ 9223372036854775807 := by omega
      rw [hbv]
      go_enter Tryz.func41, Tryz.ntmps41
      go_wp2_with fail
      go_quiet (first | exact quiet_same (K.out _) | exact quiet_same (K2.out _))
      go_wp2_with fail
      go_ret
      exact ⟨rfl, _, rfl⟩

/-- How far a list of pictures is made; the list lies in a slot. -/
structure LsF (w1 wr : World) (B wd hi : Nat) (G : Nat → List Nat) (d : Nat) (v : Value) (cs : List PicE) : Prop where
  bel : Below B w1 wr
  own : wr.ownsRow B 35 3 v d (flatE wd hi cs)
  len : cs.length = d
  pics : ∀ j, j < d → MWE wr (cs.getD j default).q (cs.getD j default).c (wd * hi) (cs.getD j default).qs ∧ (cs.getD j default).qs.map fl = G j ∧ v.ownBlock ≠ some (cs.getD j default).q

theorem LsF.pic {w1 wr : World} {B wd hi d g cap : Nat} {G : Nat → List Nat} {cs : List PicE} (h : LsF w1 wr B wd hi G d (.slice (some ⟨g, 0, none⟩) d cap) cs) : ∀ j, j < d → PicI wr g (j * 3) wd hi (.slice (some ⟨(cs.getD j default).q, 0, none⟩) (wd * hi) (cs.getD j default).c) (cs.getD j default).qs := by
  intro j hj
  have hc := fun i (hi3 : i < 3) => World.ownsRow.cellAt h.own (j * 3 + i) (by omega)
  have hf := fun i (hi3 : i < 3) => flatE_get wd hi cs j i (by rw [h.len]; exact hj) hi3
  have e0 := hc 0 (by omega)
  have e1 := hc 1 (by omega)
  have e2 := hc 2 (by omega)
  rw [hf 0 (by omega)] at e0
  rw [hf 1 (by omega)] at e1
  rw [hf 2 (by omega)] at e2
  have hgl := (World.ownsRow.lt h.own g rfl).2
  exact ⟨e0, e1, e2, (h.pics j hj).1.sl, (h.pics j hj).1.len, hgl⟩

theorem LsF.step {w1 wr w2 w2b w3 : World} {B wd hi d : Nat} {G : Nat → List Nat} {v : Value} {cs : List PicE} {p : PicE} {gg cap : Nat} (h : LsF w1 wr B wd hi G d v cs) (hb : Below wr.heap.size wr w2)
    (hm : MWE w2 p.q p.c (wd * hi) p.qs) (hG : p.qs.map fl = G d) (hq : wr.heap.size ≤ p.q) (ha : Below w2.heap.size w2 w2b)
    (hown : w3.ownsRow B 35 3 (.slice (some ⟨gg, 0, none⟩) (d + 1) cap) (d + 1) (flatE wd hi cs ++ pvE wd hi p))
    (hg : w2b.grownBy w3 v.ownBlock) (hB : B ≤ w1.heap.size)
    (hat : v.ownBlock = some gg ∨ w2b.heap.size ≤ gg) :
    LsF w1 w3 B wd hi G (d + 1) (.slice (some ⟨gg, 0, none⟩) (d + 1) cap) (cs ++ [p]) := by
  have s1 := hb.size
  have s2 := ha.size
  have s0 := h.bel.size
  have hB2 : B ≤ wr.heap.size := by omega
  have b2 := h.bel.trans (hb.mono hB2)
  have b3 : Below B w1 w3 := (b2.trans (ha.mono (by omega))).grown hg (by omega) (fun k hk => by have := (World.ownsRow.lt h.own k hk).1; omega)
  refine ⟨b3, ?_, by rw [List.length_append, h.len]; rfl, fun j hj => ?_⟩
  · rw [flatE_snoc]; exact hown
  · by_cases hjd : j < d
    · have e : (cs ++ [p]).getD j default = cs.getD j default := by rw [List.getD_eq_getElem?_getD, List.getElem?_append_left (by rw [h.len]; exact hjd), List.getD_eq_getElem?_getD]
      rw [e]
      clear e
      obtain ⟨k1, k4, k2⟩ := h.pics j hjd
      have hql := k1.lt
      generalize cs.getD j default = p2 at *
      refine ⟨((k1.below hb).below ha).grown hg k2, k4, ?_⟩
      rcases hat with e1 | e1
      · rw [e1] at k2; simpa [Value.ownBlock] using k2
      · simp [Value.ownBlock]; omega
    · obtain rfl : j = d := by omega
      have e : (cs ++ [p]).getD j default = p := by rw [List.getD_eq_getElem?_getD, List.getElem?_append_right (by rw [h.len]; exact Nat.le_refl _), h.len]; simp
      rw [e]
      have hne : v.ownBlock ≠ some p.q := fun e2 => by have := (World.ownsRow.lt h.own p.q e2).2; omega
      refine ⟨(hm.below ha).grown hg hne, hG, ?_⟩
      rcases hat with e1 | e1
      · rw [e1] at hne; simpa [Value.ownBlock] using hne
      · have := hm.lt
        simp [Value.ownBlock]; omega

theorem LsF.below {w1 wr W : World} {B wd hi d : Nat} {G : Nat → List Nat} {v : Value} {cs : List PicE} (h : LsF w1 wr B wd hi G d v cs) (hB : B ≤ wr.heap.size) (hb : Below wr.heap.size wr W) : LsF w1 W B wd hi G d v cs :=
  ⟨h.bel.trans (hb.mono hB), World.ownsRow.kept h.own (grown_below hb none) (by cases v.ownBlock <;> simp), h.len, fun j hj => ⟨(h.pics j hj).1.below hb, (h.pics j hj).2⟩⟩

set_option maxHeartbeats 4000000 in
theorem sBoxE (w : World) (wd hi dp M q c r : Nat) (bs : List Nat) (hv : vVol wd hi dp M = true) (hp : SlF w (.slice (some ⟨q, 0, none⟩) M c) bs) (hr : r ≤ 3) :
    Calls Tryz.prog 40 #[.agg #[.int .i64 wd, .int .i64 hi, .int .i64 dp, .slice (some ⟨q, 0, none⟩) M c], .int .i64 r] w (VRes (boxT (bs.map fl) wd hi dp r) w) := by
  obtain ⟨i0, hi0, hz0, hz1, hz2⟩ := info_parts info_picE
  obtain ⟨hM, d1, d2, d3, d4, d5, d6, d7, d8⟩ := vVol_picE hv
  obtain ⟨W0, hW0⟩ : ∃ W, W = (w.alloc (.cells #[.int .i64 wd, .int .i64 hi, .int .i64 dp, .slice (some ⟨q, 0, none⟩) M c] 62)).alloc (.cells #[.int .i64 0, .int .i64 0, .int .i64 0, .slice none 0 0] 62) := ⟨_, rfl⟩
  have hb0 : Below w.heap.size w W0 := by rw [hW0]; exact below_two w _ _
  have BV : BoxN W0 w.heap.size #[.int .i64 wd, .int .i64 hi, .int .i64 dp, .slice (some ⟨q, 0, none⟩) M c] 62 := by rw [hW0]; exact BoxN.first _ _ _ _
  have BZ : BoxN W0 (w.heap.size + 1) #[.int .i64 0, .int .i64 0, .int .i64 0, .slice none 0 0] 62 := by rw [hW0]; exact BoxN.second _ _ _ _
  have hpW := hp.below hb0
  obtain ⟨c0, c1, c2, c3⟩ := four_of_box BV
  have KI0 := Lib.hid (l03IsE W0 w.heap.size wd hi dp (some ⟨q, 0, none⟩) M c (by omega) c0 c1 c2 c3)
  rw [hv] at KI0
  have hin : (decide ((0 : Int) ≤ r) && decide ((r : Int) ≤ 3)) = true := by simp; omega
  have K2 := Lib.hid (fun w => s00In_any (r : Int) 0 3 w)
  rw [hin] at K2
  obtain ⟨L, hL⟩ : ∃ L, bs.map fl = L := ⟨_, rfl⟩
  have HL := Lib.hid hL
  have HV := Lib.hid hv
  have HB := Lib.hid (And.intro hb0 (And.intro BV (And.intro BZ hpW)))
  have HW0 := Lib.hid hW0
  have hvl : w.heap.size + 1 < W0.heap.size := BZ.lt
  rw [hL]
  clear hv hb0 BV BZ hpW c0 c1 c2 c3 hin hL hW0 hp hM
  go_enter Tryz.func40, Tryz.ntmps40
  go_wp2_with fail
  rw [← HW0.out]
  refine KI0.out.mono ?_
  rintro e w1 ⟨rfl, n, rfl⟩
  go_wp2_with fail
  refine (K2.out _).mono ?_
  rintro e w1 ⟨rfl, rfl⟩
  obtain ⟨w1, hw1⟩ : ∃ x, W0.drewN n = x := ⟨_, rfl⟩
  rw [hw1]
  have hb1 : Below w.heap.size w w1 := by rw [← hw1]; exact below_drewN HB.out.1 n
  have bv1 : BoxN w1 w.heap.size #[.int .i64 wd, .int .i64 hi, .int .i64 dp, .slice (some ⟨q, 0, none⟩) M c] 62 := by rw [← hw1]; exact HB.out.2.1
  have bz1 : BoxN w1 (w.heap.size + 1) #[.int .i64 0, .int .i64 0, .int .i64 0, .slice none 0 0] 62 := by rw [← hw1]; exact HB.out.2.2.1
  have hp1 : SlF w1 (.slice (some ⟨q, 0, none⟩) M c) bs := by rw [← hw1]; exact ⟨HB.out.2.2.2.1.drewN n, HB.out.2.2.2.2⟩
  have hv1 : w.heap.size + 1 < w1.heap.size := bz1.lt
  have H1 := Lib.hid (And.intro hb1 (And.intro bv1 (And.intro bz1 hp1)))
  clear hb1 bv1 bz1 hp1 hw1 HB hvl
  go_wp2_with fail
  have start : LsF w1 (w1.alloc (.cells #[] 35)) w1.heap.size wd hi (fun d => tab (wd * hi) fun i => boxW (slL L dp d) wd hi r (i % wd) (i / wd)) 0 (.slice (some ⟨w1.heap.size, 0, none⟩) 0 0) [] :=
    ⟨alE w1 _, ⟨rfl, .inr ⟨w1.heap.size, 0, #[], rfl, Nat.le_refl _, heap_alloc_new w1 _, Nat.le_refl _, by unfold maxLen; omega, rfl, rfl⟩⟩, rfl, fun j hj => by omega⟩
  have START := Lib.hid start
  clear start
  go_loopw [6, 7] (fun v6 v7 wr => ∃ (d g cap : Nat) (cs : List PicE), v6 = .slice (some ⟨g, 0, none⟩) d cap ∧ v7 = .int .i64 d ∧ d ≤ dp ∧ LsF w1 wr w1.heap.size wd hi (fun d => tab (wd * hi) fun i => boxW (slL L dp d) wd hi r (i % wd) (i / wd)) d (.slice (some ⟨g, 0, none⟩) d cap) cs) (fun _ v7 _ => dp - (intOf v7).toNat)
  case atStart => exact ⟨0, _, _, [], rfl, rfl, Nat.zero_le _, START.out⟩
  case round =>
    clear START
    obtain ⟨d, g, cap, cs, rfl, rfl, hd, hst⟩ := hrel
    have HST := Lib.hid hst
    have hbel := hst.bel
    have bv2 := H1.out.2.1.below hbel
    obtain ⟨c0, c1, c2, c3⟩ := four_of_box bv2
    have hvl := bv2.lt
    have hbs := hbel.size
    by_cases hlt : d < dp
    · have hcap2 : d ≤ cap ∧ cap ≤ maxLen := by
        rcases hst.own.2 with ⟨h1, _⟩ | ⟨g', cap', cur, h1, h2, h3, h4, h5, h6⟩
        · cases h1
        · simp only [Value.slice.injEq] at h1; omega
      have hcap : d ≤ 8 := by omega
      have K := Lib.hid (l03SliceE wr w.heap.size wd hi dp M q c d bs bv2 (H1.out.2.2.2.below hbel) HV.out hlt)
      clear hst hbel bv2
      go_wp2_with fail
      clear c0 c1 c2 c3
      refine K.out.mono ?_
      rintro e w2 ⟨q', c', qs', rfl, ho, hl, hG, hb2⟩
      obtain ⟨V2, hV2⟩ : ∃ W, W = w2.alloc (.cells #[.int .i64 wd, .int .i64 hi, .slice (some ⟨q', 0, none⟩) (wd * hi) c'] 35) := ⟨_, rfl⟩
      obtain ⟨hbV, bx, hsV⟩ := box_new hV2
      have hP : PicI V2 w2.heap.size 0 wd hi (.slice (some ⟨q', 0, none⟩) (wd * hi) c') qs' := ⟨bx.cell 0, bx.cell 1, bx.cell 2, (ho.below hbV).sl, hl, bx.lt⟩
      have KB := Lib.hid (l02BoxE V2 w2.heap.size wd hi r _ qs' d1 d3 d2 d4 hr hP)
      rw [slW_L, HL.out] at hG
      have HGG := Lib.hid (show (tab (wd * hi) fun i => boxW (fun i => fl (qs'.getD i 0)) wd hi r (i % wd) (i / wd)) = tab (wd * hi) fun i => boxW (slL L dp d) wd hi r (i % wd) (i / wd) by
        unfold tab
        apply List.map_congr_left
        intro i hi_
        exact boxW_congr (fun j hj => fl_getD hG hj) d1 d3 _ _ _)
      have h2V := hb2.trans (hbV.mono hb2.size)
      have HV2 := Lib.hid hV2
      have HB2 := Lib.hid h2V
      clear hV2 hbV bx hsV hP hG hb2 ho hl h2V
      go_wp2_with fail
      rw [← HV2.out]
      refine KB.out.mono ?_
      rintro e w3 ⟨q2, c2, qs2, rfl, ho, hl, hG, hb3⟩
      have hbx := HB2.out.trans (hb3.mono HB2.out.size)
      have hm : MWE w3 q2 c2 (wd * hi) qs2 := ⟨ho.sl, (ho.lt (k := q2) rfl).2, hl⟩
      have hq : wr.heap.size ≤ q2 := Nat.le_trans HB2.out.size (ho.lt (k := q2) rfl).1
      have ho2 := (HST.out.below hbs hbx).own
      have HM := Lib.hid (And.intro hm (And.intro (hG.trans HGG.out) (And.intro hq (And.intro hbx ho2))))
      have hs3 := hbx.size
      clear ho hl hG hb3 hbx hm hq ho2
      go_wp2_with (at_builtin; refine wpList_append_lies _ (by rfl) _ _ _ (by rfl) w1.heap.size 35 i0 _ 3 40 Tryz.underlying90 hi0 hz0 hz1 hz2 rfl (by omega) (.slice (some ⟨g, 0, none⟩) d cap) d _ (by rfl) (World.ownsRow.alloc HM.out.2.2.2.2 _) ⟨w3.heap.size, 0, none⟩ 1 1 (pvE wd hi ⟨q2, c2, qs2⟩) (by rfl) (by rfl) (cell_threeE w3 _ _ _ _) (by simp [pvE, Value.oneCell']) (by omega) (by unfold maxLen; omega) (by omega) (by simp; omega) (w3.heap.size + 1) (by simp) ?_; intro gg cap2 w4 hown3 hgrow hat hlt2)
      go_roundw
      case rel => exact ⟨d + 1, gg, cap2, cs ++ [⟨q2, c2, qs2⟩], rfl, by go_num, by omega, HST.out.step (p := ⟨q2, c2, qs2⟩) HM.out.2.2.2.1 HM.out.1 HM.out.2.1 HM.out.2.2.1 (alE _ _) hown3 hgrow (Nat.le_refl _) (by rcases hat with e | e; exact .inl e; exact .inr (by simp; omega))⟩
      case measure => simp [intOf]; omega
    · obtain rfl : dp = d := by omega
      have hbz := H1.out.1.trans (hbel.mono H1.out.1.size)
      have KK := l03StackE wr g cap wd hi dp _ _ _ d1 d2 d3 d4 d6 d7 d5 hst.pic
      have hLL : (tab (wd * hi * dp) fun k => fl ((cs.getD (k % dp) default).qs.getD (k / dp) 0)) = tabV wd dp (fun x y d => boxW (slL L dp d) wd hi r x y) (hi * wd * dp) := by
        unfold tabV tab
        rw [Nat.mul_comm hi wd]
        apply List.map_congr_left
        intro k hk
        have hk2 : k < wd * hi * dp := List.mem_range.1 hk
        have hk3 : k / dp < wd * hi := (Nat.div_lt_iff_lt_mul (by omega)).2 hk2
        exact fl_getD (hst.pics (k % dp) (Nat.mod_lt _ (by omega))).2.1 hk3
      rw [hLL] at KK
      have K := Lib.hid KK
      have HC2 := Lib.hid (H1.out.2.2.1.below hbel)
      have HBZ := Lib.hid hbz
      clear hst hbel hbz HST hLL KK bv2
      go_wp2_with fail
      clear c0 c1 c2 c3
      refine K.out.mono ?_
      rintro e w2 ⟨s', cc, bs', rfl, hown, hcon, hb2⟩
      obtain ⟨e0, e1, e2, e3, g0, g1, g2, g3⟩ := (HC2.out.below hb2).four
      have hlt3 := (HC2.out.below hb2).lt
      have hsz2 := HC2.out.lt
      have HF := Lib.hid (And.intro hown (And.intro hcon hb2))
      clear hcon hown hb2
      go_wp2
      refine bodyPost_ret (v := .tuple #[.agg #[.int .i64 wd, .int .i64 hi, .int .i64 dp, .slice s' bs'.length cc], .bool true]) (by simp [results, Tryz.results40, go_sem, e0, e1, e2, e3, hlt3]) rfl ?_
      exact VRes.of_box (t := boxT L wd hi dp r) HBZ.out hsz2 (by omega) HF.out.1 HF.out.2.1 HF.out.2.2 _ _ _ _

end Go.Proofs.YtabbjilgpfnacaaGreat
