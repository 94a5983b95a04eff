/- BoxVolume: of quarters. -/
import Derived.Test.YtdeikjiflinkhaaWi
namespace Go.Proofs.Ytdeikjiflinkhaa
open Go.RowKit
set_option maxRecDepth 100000
set_option linter.unusedVariables false
set_option linter.unusedSimpArgs false

theorem info_picJ : (Try.prog.info? 58).map (fun i => (i.zero, i.size, i.bytes)) = some (some (.agg #[.int .i64 0, .int .i64 0, .slice none 0 0]), 3, 40) := by kernel_rfl
theorem cell_threeJ (w : World) (x y z : Value) (t : TypeId) : ∀ j u, [x, y, z][j]? = some u → (w.alloc (.cells #[x, y, z] t)).cell? ((⟨w.heap.size, 0, none⟩ : Addr).add j) = some u := by
  intro j u h
  have hb := BoxN.last w #[x, y, z] t
  match j, h with
  | 0, h => simp at h; subst h; exact hb.cell 0
  | 1, h => simp at h; subst h; exact hb.cell 1
  | 2, h => simp at h; subst h; exact hb.cell 2
  | (n + 3), h => simp at h
theorem cell_threeJ2 (w : World) (o : Obj) (x y z : Value) (t : TypeId) : ∀ j u, [x, y, z][j]? = some u → ((w.alloc o).alloc (.cells #[x, y, z] t)).cell? ((⟨w.heap.size + 1, 0, none⟩ : Addr).add j) = some u := by
  have h := cell_threeJ (w.alloc o) x y z t
  have e : (w.alloc o).heap.size = w.heap.size + 1 := by simp
  rwa [e] at h
def pvj (wd hi q c n : Nat) : List Value := [.int .i64 wd, .int .i64 hi, .slice (some ⟨q, 0, none⟩) n c]
def flatJ (wd hi : Nat) : List (Nat × Nat) → List Value
  | [] => []
  | p :: cs => pvj wd hi p.1 p.2 (wd * hi) ++ flatJ wd hi cs
theorem flatJ_snoc (wd hi : Nat) (cs : List (Nat × Nat)) (p : Nat × Nat) : flatJ wd hi (cs ++ [p]) = flatJ wd hi cs ++ pvj wd hi p.1 p.2 (wd * hi) := by
  induction cs with
  | nil => simp [flatJ]
  | cons a cs ih => simp [flatJ, ih]
theorem flatJ_get (wd hi : Nat) : ∀ (cs : List (Nat × Nat)) (d j : Nat), d < cs.length → j < 3 → (flatJ wd hi cs)[d * 3 + j]? = (pvj wd hi (cs.getD d (0, 0)).1 (cs.getD d (0, 0)).2 (wd * hi))[j]? := by
  intro cs
  induction cs with
  | nil => intro d j hd; simp at hd
  | cons a cs ih =>
    intro d j hd hj
    cases d with
    | zero =>
      show (pvj wd hi a.1 a.2 (wd * hi) ++ flatJ wd hi cs)[0 * 3 + j]? = _
      rw [List.getElem?_append_left (by simp [pvj]; omega)]
      simp
    | succ d =>
      show (pvj wd hi a.1 a.2 (wd * hi) ++ flatJ wd hi cs)[(d + 1) * 3 + j]? = _
      rw [List.getElem?_append_right (by simp [pvj]; omega)]
      have : (d + 1) * 3 + j - (pvj wd hi a.1 a.2 (wd * hi)).length = d * 3 + j := by simp [pvj]; omega
      rw [this, ih d j (by simpa using hd) hj]
      rfl

/-- How far the list of slices is made. -/
structure LsSt (w1 wr : World) (wd hi dp : Nat) (ks : List Int) (d : Nat) (v : Value) (cs : List (Nat × Nat)) : Prop where
  bel : Below w1.heap.size w1 wr
  lbx : BoxN wr (w1.heap.size + 1) #[v] 56
  own : wr.ownsRow w1.heap.size 58 3 v d (flatJ wd hi cs)
  len : cs.length = d
  far : v.ownBlock ≠ some (w1.heap.size + 1)
  pics : ∀ j, j < d → MQ wr (cs.getD j (0, 0)).1 (cs.getD j (0, 0)).2 (wd * hi) (tabI (wd * hi) (slcK ks dp j)) ∧ v.ownBlock ≠ some (cs.getD j (0, 0)).1 ∧ w1.heap.size + 1 < (cs.getD j (0, 0)).1

theorem LsSt.pic {w1 wr : World} {wd hi dp d g cap : Nat} {ks : List Int} {cs : List (Nat × Nat)} (h : LsSt w1 wr wd hi dp ks d (.slice (some ⟨g, 0, none⟩) d cap) cs) : ∀ j, j < d → PicO wr g (j * 3) wd hi (cs.getD j (0, 0)).1 (cs.getD j (0, 0)).2 (tabI (wd * hi) (slcK ks dp j)) := by
  intro j hj
  have hc := fun i (hi3 : i < 3) => World.ownsRow.cellAt h.own (j * 3 + i) (by omega)
  have hf := fun i (hi3 : i < 3) => flatJ_get wd hi cs j i (by rw [h.len]; exact hj) hi3
  have e0 := hc 0 (by omega)
  have e1 := hc 1 (by omega)
  have e2 := hc 2 (by omega)
  rw [hf 0 (by omega)] at e0
  rw [hf 1 (by omega)] at e1
  rw [hf 2 (by omega)] at e2
  exact ⟨e0, e1, e2, (h.pics j hj).1⟩

theorem MQ.grown {W W' : World} {q c N : Nat} {ks : List Int} {r : Option Nat} (h : MQ W q c N ks) (hg : W.grownBy W' r) (hne : r ≠ some q) : MQ W' q c N ks :=
  ⟨⟨h.sl.1.grown hg (.inr (by simpa [Value.ownBlock] using hne.symm)), h.sl.2⟩, Nat.lt_of_lt_of_le h.qlt hg.size, h.bd⟩

/-- A round: a slice is made (w2), boxed, copied, appended (w3), stored. -/
theorem LsSt.step {w1 wr w2 w3 : World} {wd hi dp d q c : Nat} {ks : List Int} {v : Value} {cs : List (Nat × Nat)} {gg cap : Nat} (h : LsSt w1 wr wd hi dp ks d v cs) (hb : Below wr.heap.size wr w2)
    (hm : MQ w2 q c (wd * hi) (tabI (wd * hi) (slcK ks dp d))) (hq : wr.heap.size ≤ q)
    (hown : w3.ownsRow w1.heap.size 58 3 (.slice (some ⟨gg, 0, none⟩) (d + 1) cap) (d + 1) (flatJ wd hi cs ++ pvj wd hi q c (wd * hi)))
    (hg : ((w2.alloc (.cells #[.int .i64 wd, .int .i64 hi, .slice (some ⟨q, 0, none⟩) (wd * hi) c] 58)).alloc (.cells #[.int .i64 wd, .int .i64 hi, .slice (some ⟨q, 0, none⟩) (wd * hi) c] 58)).grownBy w3 v.ownBlock)
    (hat : v.ownBlock = some gg ∨ w2.heap.size + 2 ≤ gg) :
    LsSt w1 (w3.setCell ⟨w1.heap.size + 1, 0, none⟩ (.slice (some ⟨gg, 0, none⟩) (d + 1) cap)) wd hi dp ks (d + 1) (.slice (some ⟨gg, 0, none⟩) (d + 1) cap) (cs ++ [(q, c)]) := by
  have a1 := alb1 w2 (.cells #[.int .i64 wd, .int .i64 hi, .slice (some ⟨q, 0, none⟩) (wd * hi) c] 58)
  have a2 := alb1 (w2.alloc (.cells #[.int .i64 wd, .int .i64 hi, .slice (some ⟨q, 0, none⟩) (wd * hi) c] 58)) (.cells #[.int .i64 wd, .int .i64 hi, .slice (some ⟨q, 0, none⟩) (wd * hi) c] 58)
  have hlt := h.lbx.lt
  have s1 := hb.size
  have s0 := h.bel.size
  have b2 := h.bel.trans (hb.mono h.bel.size)
  have b3 : Below w1.heap.size w1 w3 := ((b2.trans (a1.mono b2.size)).trans (a2.mono (Nat.le_trans b2.size a1.size))).grown hg (by simp; omega) (fun k hk => by have := (World.ownsRow.lt h.own k hk).1; omega)
  have hfar : gg ≠ w1.heap.size + 1 := by
    rcases hat with e | e
    · intro e2; exact h.far (by rw [e, e2])
    · omega
  have hs3 := grown_setCell w3 ⟨w1.heap.size + 1, 0, none⟩ (.slice (some ⟨gg, 0, none⟩) (d + 1) cap)
  refine ⟨b3.setCell (by simp) _, ?_, ?_, by rw [List.length_append, h.len]; rfl, by simpa [Value.ownBlock] using hfar, fun j hj => ?_⟩
  · exact (((((h.lbx.below hb).below a1).below a2).grown hg (fun e => h.far e.symm)).set 0 _)
  · rw [flatJ_snoc]
    exact World.ownsRow.kept hown hs3 (.inr (by simpa [Value.ownBlock] using hfar))
  · by_cases hjd : j < d
    · have e : (cs ++ [(q, c)]).getD j (0, 0) = cs.getD j (0, 0) := by rw [List.getD_eq_getElem?_getD, List.getElem?_append_left (by rw [h.len]; exact hjd), List.getD_eq_getElem?_getD]
      rw [e]
      clear e
      obtain ⟨k1, k2, k3⟩ := h.pics j hjd
      have hql := k1.qlt
      generalize cs.getD j (0, 0) = p at *
      refine ⟨((((k1.below hb).below a1).below a2).grown hg k2).grown hs3 (by simp; omega), ?_, k3⟩
      · rcases hat with e1 | e1
        · rw [e1] at k2; simpa [Value.ownBlock] using k2
        · simp [Value.ownBlock]; omega
    · obtain rfl : j = d := by omega
      have e : (cs ++ [(q, c)]).getD j (0, 0) = (q, c) := by rw [List.getD_eq_getElem?_getD, List.getElem?_append_right (by rw [h.len]; exact Nat.le_refl _), h.len]; simp
      rw [e]
      have hne : v.ownBlock ≠ some q := fun e2 => by have := (World.ownsRow.lt h.own q e2).2; omega
      refine ⟨(((hm.below a1).below a2).grown hg hne).grown hs3 (by simp; omega), ?_, by show _ < q; omega⟩
      rcases hat with e1 | e1
      · rw [e1] at hne; simpa [Value.ownBlock] using hne
      · have := hm.qlt
        simp [Value.ownBlock]; omega

set_option maxHeartbeats 2000000 in
theorem boxV_w (w : World) (wd hi dp M q c r : Nat) (ks : List Int) (hv : vVol wd hi dp M = true) (hp : MQ w q c M ks) (hr : r ≤ 3) (hk : ∀ k ∈ ks, 0 ≤ k ∧ k ≤ 1000) :
    Calls Try.prog 10 #[.agg #[.int .i64 wd, .int .i64 hi, .int .i64 dp, .slice (some ⟨q, 0, none⟩) M c], .int .i64 r] w (MakesVW w wd hi dp M (bxV ks wd hi dp r)) := by
  obtain ⟨i0, hi0, hz0, hz1, hz2⟩ := info_parts info_picJ
  obtain ⟨hpic, hM, d1, d2, d3, d4, d5, d6, d7, d8⟩ := vVol_pic hv
  have hb0 := (below_two w (.cells #[.int .i64 wd, .int .i64 hi, .int .i64 dp, .slice (some ⟨q, 0, none⟩) M c] 26) (.cells #[.int .i64 r] 2)).alloc (by simp; try omega) (.cells #[.int .i64 0, .int .i64 0, .int .i64 0, .slice none 0 0] 26)
  have hb1 := alb1 ((w.alloc (.cells #[.int .i64 wd, .int .i64 hi, .int .i64 dp, .slice (some ⟨q, 0, none⟩) M c] 26)).alloc (.cells #[.int .i64 r] 2)) (.cells #[.int .i64 0, .int .i64 0, .int .i64 0, .slice none 0 0] 26)
  have B0 := (BoxN.first w #[.int .i64 wd, .int .i64 hi, .int .i64 dp, .slice (some ⟨q, 0, none⟩) M c] 26 (.cells #[.int .i64 r] 2)).below hb1
  have B1 := (BoxN.second w #[.int .i64 r] 2 (.cells #[.int .i64 wd, .int .i64 hi, .int .i64 dp, .slice (some ⟨q, 0, none⟩) M c] 26)).below hb1
  have B2 := BoxN.last ((w.alloc (.cells #[.int .i64 wd, .int .i64 hi, .int .i64 dp, .slice (some ⟨q, 0, none⟩) M c] 26)).alloc (.cells #[.int .i64 r] 2)) #[.int .i64 0, .int .i64 0, .int .i64 0, .slice none 0 0] 26
  have hsz : ((w.alloc (.cells #[.int .i64 wd, .int .i64 hi, .int .i64 dp, .slice (some ⟨q, 0, none⟩) M c] 26)).alloc (.cells #[.int .i64 r] 2)).heap.size = w.heap.size + 2 := by simp
  rw [hsz] at B2
  have HP := Lib.hid (hp.below hb0)
  have HB0 := Lib.hid hb0
  have HC0 := Lib.hid B0
  have HB1 := Lib.hid B1
  have HB2 := Lib.hid B2
  have HHM := Lib.hid hM
  have HK := Lib.hid hk
  have HV := Lib.hid hv
  have hin : (decide ((0 : Int) ≤ r) && decide ((r : Int) ≤ 3)) = true := by simp; omega
  have hM2 : M ≤ 2048 := by omega
  clear hb0 hb1 B0 B1 B2 hsz hp hM hpic hk hv
  go_enter Try.func10, Try.ntmps10
  go_wp2_with fail
  refine (validVolume_any _ _ _ _ _ _ (by omega) _).mono ?_
  rw [HV.out]
  rintro e w1 ⟨rfl, hbv⟩
  have hbx := HB0.out.trans (hbv.mono HB0.out.size)
  have C0 := HC0.out.below hbv
  have C1 := HB1.out.below hbv
  have C2 := HB2.out.below hbv
  have CP := HP.out.below hbv
  obtain ⟨c0, c1, c2, c3, -, -, -, -⟩ := C0.four
  have s0 : w1.cell? ⟨w.heap.size + 1, 0, none⟩ = some (.int .i64 r) := C1.cell 0
  have hlt2 := C2.lt
  have KC0 := Lib.hid C0
  have KC1 := Lib.hid C1
  have KC2 := Lib.hid C2
  have KCP := Lib.hid CP
  have KBX := Lib.hid hbx
  clear hbv C0 C1 C2 CP hbx
  go_wp2_with fail
  refine (in_any _ _ _ _).mono ?_
  rw [hin]
  rintro e w' ⟨rfl, rfl⟩
  clear hin
  have hz3 : w.heap.size < w1.heap.size := by omega
  have hz4 : w.heap.size + 1 < w1.heap.size := by omega
  have hz5 : w.heap.size + 1 + 1 < w1.heap.size := by omega
  go_wp2_with fail
  have start : LsSt w1 ((w1.alloc (.cells #[] 58)).alloc (.cells #[.slice (some ⟨w1.heap.size, 0, none⟩) 0 0] 56)) wd hi dp ks 0 (.slice (some ⟨w1.heap.size, 0, none⟩) 0 0) [] := by
    refine ⟨below_two w1 _ _, BoxN.second w1 _ _ _, ⟨rfl, .inr ⟨w1.heap.size, 0, #[], rfl, Nat.le_refl _, ?_, Nat.le_refl _, by unfold maxLen; omega, rfl, rfl⟩⟩, rfl, by simp [Value.ownBlock], fun j hj => by omega⟩
    exact heap_alloc_old _ _ (by simp) |>.trans (heap_alloc_new w1 _)
  have START := Lib.hid start
  clear start c0 c1 c2 c3 s0
  go_loopw [22] (fun v22 wr => ∃ (d g cap : Nat) (cs : List (Nat × Nat)), v22 = .int .i64 d ∧ d ≤ dp ∧ LsSt w1 wr wd hi dp ks d (.slice (some ⟨g, 0, none⟩) d cap) cs) (fun v22 _ => dp - (intOf v22).toNat)
  case atStart => exact ⟨0, _, _, [], rfl, Nat.zero_le _, START.out⟩
  case round =>
    clear START
    obtain ⟨d, g, cap, cs, rfl, hd, hst⟩ := hrel
    have HST := Lib.hid hst
    have hbel := hst.bel
    obtain ⟨c0, c1, c2, c3, -, -, -, -⟩ := (KC0.out.below hbel).four
    have l0 : wr.cell? ⟨w1.heap.size + 1, 0, none⟩ = some (.slice (some ⟨g, 0, none⟩) d cap) := hst.lbx.cell 0
    have hsz := hst.lbx.lt
    have hbs := hbel.size
    by_cases hlt : d < dp
    · have K := Lib.hid (sliceOf_q wr wd hi dp M q c d ks hlt HV.out (KCP.out.below hbel))
      have HD := Lib.hid hd
      have hcap2 : d ≤ cap ∧ cap ≤ maxLen := by
        rcases hst.own.2 with ⟨h1, _⟩ | ⟨g', cap', cur, h1, h2, h3, h4, h5, h6⟩
        · cases h1
        · simp only [Value.slice.injEq] at h1; omega
      have hcap : d ≤ 8 := by omega
      clear hst hbel l0 hd
      go_wp2_with fail
      refine K.out.mono ?_
      rintro e w2 ⟨q', c', rfl, hm, hq, hb2⟩
      have hbx2 := (HST.out.lbx).below hb2
      have l2 : ∀ o, (w2.alloc o).cell? ⟨w1.heap.size + 1, 0, none⟩ = some (.slice (some ⟨g, 0, none⟩) d cap) := fun o => (hbx2.below (alb1 w2 o)).cell 0
      have ho2 := World.ownsRow.kept HST.out.own (grown_below hb2 none) (.inr (by simp [Value.ownBlock]))
      have hs2 := hb2.size
      have HM := Lib.hid hm
      have HQ := Lib.hid hq
      have HB2 := Lib.hid hb2
      have HX2 := Lib.hid hbx2
      have HO2 := Lib.hid ho2
      have hne : some (w1.heap.size + 1) ≠ (Value.slice (some ⟨g, 0, none⟩) d cap).ownBlock := fun e => HST.out.far e.symm
      have HNE := Lib.hid hne
      clear hm hq hb2 hbx2 ho2 c0 c1 c2 c3 hne
      go_wp2_with (at_builtin; refine wpList_append_lies _ (by rfl) _ _ _ (by rfl) w1.heap.size 58 i0 _ 3 40 Try.underlying56 hi0 hz0 hz1 hz2 rfl (by omega) (.slice (some ⟨g, 0, none⟩) d cap) d _ (by rfl) (World.ownsRow.alloc (World.ownsRow.alloc HO2.out _) _) ⟨w2.heap.size + 1, 0, none⟩ 1 1 (pvj wd hi q' c' (wd * hi)) (by rfl) (by rfl) (cell_threeJ2 w2 _ _ _ _ _) (by simp [pvj, Value.oneCell']) (by omega) (by unfold maxLen; omega) (by omega) (by simp; omega) (w2.heap.size + 2) (by simp) ?_; intro gg cap2 w3 hown3 hgrow hat hlt2; have hx3 := (((HX2.out.below (alb1 w2 (.cells #[.int .i64 wd, .int .i64 hi, .slice (some ⟨q', 0, none⟩) (wd * hi) c'] 58))).below (alb1 (w2.alloc (.cells #[.int .i64 wd, .int .i64 hi, .slice (some ⟨q', 0, none⟩) (wd * hi) c'] 58)) (.cells #[.int .i64 wd, .int .i64 hi, .slice (some ⟨q', 0, none⟩) (wd * hi) c'] 58))).grown hgrow HNE.out); have z0 : w3.cell? ⟨w1.heap.size + 1, 0, none⟩ = some (.slice (some ⟨g, 0, none⟩) d cap) := hx3.cell 0; have g0 := hx3.free 0)
      go_roundw
      case rel => exact ⟨d + 1, gg, cap2, cs ++ [(q', c')], by go_num, by omega, HST.out.step HB2.out HM.out HQ.out hown3 hgrow (by rcases hat with e | e; exact .inl e; exact .inr (by omega))⟩
      case measure => simp [intOf]; omega
    · obtain rfl : dp = d := by omega
      have hbz := KBX.out.trans (hbel.mono KBX.out.size)
      have hcap2 : dp ≤ cap ∧ cap ≤ maxLen := by
        rcases hst.own.2 with ⟨h1, _⟩ | ⟨g', cap', cur, h1, h2, h3, h4, h5, h6⟩
        · cases h1
        · simp only [Value.slice.injEq] at h1; omega
      have G := box1V_gives (n := dp) HK.out hst.lbx (KC1.out.below hbel) hr hst.pic hcap2.1 (by have := hcap2.2; unfold maxLen at this; omega) d1 d3 d2 d4 d6 d7
      have K := Lib.hid (revolume_ok wr wd hi dp M (some ⟨q, 0, none⟩) c _ _ HV.out G)
      have HC2 := Lib.hid (KC2.out.below hbel)
      have HBZ := Lib.hid hbz
      clear G hst hbel hbz hcap2 HST
      go_wp2_with fail
      refine K.out.mono ?_
      rintro e w2 ⟨q', cc, bs', rfl, hown, hcon, hb2⟩
      obtain ⟨e0, e1, e2, e3, g0, g1, g2, g3⟩ := (HC2.out.below hb2).four
      have hlt3 := (HC2.out.below hb2).lt
      have hbb := HBZ.out.trans (hb2.mono HBZ.out.size)
      have hl := tab3_len2 HHM.out hcon
      rw [hl] at hown ⊢
      have hq := (hown.lt (k := q') rfl).1
      have hqs := Nat.le_trans HBZ.out.size hq
      have hsz2 := HC2.out.lt
      have hq3 : w.heap.size + 2 < q' := by omega
      have HCON := Lib.hid hcon
      have HL := Lib.hid hl
      clear hcon hq hl
      go_wp2
      refine bodyPost_ret (v := .tuple #[.agg #[.int .i64 wd, .int .i64 hi, .int .i64 dp, .slice (some ⟨q', 0, none⟩) M cc], .bool true]) (by simp [results, Try.results10, go_sem, e0, e1, e2, e3, hlt3]) rfl ?_
      have ho := ((((hown.set (by first | omega | (simp; done) | (simp; omega)) (.int .i64 wd) (a := ⟨w.heap.size + 2, 0, none⟩)).set (by first | omega | (simp; done) | (simp; omega)) (.int .i64 hi) (a := ⟨w.heap.size + 2, 1, none⟩)).set (by first | omega | (simp; done) | (simp; omega)) (.int .i64 dp) (a := ⟨w.heap.size + 2, 2, none⟩)).set (by first | omega | (simp; done) | (simp; omega)) (.slice (some ⟨q', 0, none⟩) M cc) (a := ⟨w.heap.size + 2, 3, none⟩))
      exact ⟨q', cc, bs', rfl, ⟨ho.sl, (ho.lt (k := q') rfl).2, HL.out⟩, HCON.out, hqs, (((hbb.setCell (by simp; try omega) _).setCell (by simp; try omega) _).setCell (by simp; try omega) _).setCell (by simp; try omega) _⟩

end Go.Proofs.Ytdeikjiflinkhaa
