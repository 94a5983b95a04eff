/- The program's BoxVolume of a volume that is right, by words. -/
import Derived.Test.YtabbjilgpfnacaaEg
namespace Go.Proofs.Ytabbjilgpfnacaa
open Go.RowKit Ieee
set_option maxRecDepth 100000
set_option linter.unusedVariables false
set_option linter.unusedSimpArgs false

def slL (L : List Nat) (dp d i : Nat) : Nat := L.getD (i * dp + d) 0
theorem slW_L (bs : List Nat) (dp d : Nat) : slW bs dp d = slL (bs.map fl) dp d := by
  funext i
  unfold slW slL
  rw [List.getD_eq_getElem?_getD, List.getD_eq_getElem?_getD, List.getElem?_map]
  cases bs[i * dp + d]? <;> rfl
/-- The volume of windows of a volume. -/
def boxT (L : List Nat) (wd hi dp r : Nat) : VolT := ⟨true, wd, hi, dp, tabV wd dp (fun x y d => boxW (slL L dp d) wd hi r x y) (hi * wd * dp)⟩
theorem tab_getD {n i : Nat} {f : Nat → Nat} (h : i < n) : (tab n f).getD i 0 = f i := by
  unfold tab
  rw [List.getD_eq_getElem?_getD, List.getElem?_map, List.getElem?_range h]; rfl
theorem fl_getD {qs : List Nat} {n i : Nat} {f : Nat → Nat} (h : qs.map fl = tab n f) (hi : i < n) : fl (qs.getD i 0) = f i := by
  have e := congrArg (fun l => l.getD i 0) h
  rw [tab_getD hi] at e
  rw [← e, List.getD_eq_getElem?_getD, List.getD_eq_getElem?_getD, List.getElem?_map]
  cases qs[i]? <;> rfl

theorem box1E {W0 : World} {lb rb wd hi dp g cap r : Nat} {L : List Nat} {pv : Nat → Value} {qs : Nat → List Nat} (hl : BoxN W0 lb #[.slice (some ⟨g, 0, none⟩) dp cap] 117) (hr : BoxN W0 rb #[.int .i64 r] 2) (hr3 : r ≤ 3) (hp : ∀ d, d < dp → PicI W0 g (d * 3) wd hi (pv d) (qs d) ∧ (qs d).map fl = tab (wd * hi) (slL L dp d)) (hc1 : dp ≤ cap) (hc2 : cap ≤ 9223372036854775807) (hw0 : 0 < wd) (hh0 : 0 < hi) (hw : wd ≤ 24) (hh : hi ≤ 24) (hd1 : 1 ≤ dp) (hd2 : dp ≤ 8) :
    Gives3 W0 (.func (.func 80) #[] #[.pointer (some ⟨lb, 0, none⟩), .pointer (some ⟨rb, 0, none⟩)]) wd hi dp (fun x y d => boxW (slL L dp d) wd hi r x y) := by
  refine ⟨80, _, rfl, Try.call80, fun x y d W hx hy hd hbW => ?_⟩
  have l0 : W.cell? ⟨lb, 0, none⟩ = some (.slice (some ⟨g, 0, none⟩) dp cap) := (hl.below hbW).cell 0
  have r0 : W.cell? ⟨rb, 0, none⟩ = some (.int .i64 r) := (hr.below hbW).cell 0
  obtain ⟨P, hqs⟩ := hp d hd
  have P := P.below hbW
  have K := Lib.hid (fun n => boxedI (W.drewN n) g (d * 3) wd hi (pv d) (qs d) x y r hw0 hh0 hw hh (by omega) (by omega) hr3 (P.drewN n))
  have K0 := Lib.hid (boxedI W.drew g (d * 3) wd hi (pv d) (qs d) x y r hw0 hh0 hw hh (by omega) (by omega) hr3 (P.drewN 1))
  have b1 : (d : Int) < (dp : Int) := by omega
  have HQ := Lib.hid (boxW_congr (F := fun i => fl ((qs d).getD i 0)) (G := slL L dp d) (wd := wd) (hi := hi) (fun i hi_ => fl_getD hqs hi_) hw0 hh0 r x y)
  clear hl hr hp P hbW hqs
  show Calls _ _ #[.int .i64 x, .int .i64 y, .int .i64 d, .pointer (some ⟨lb, 0, none⟩), .pointer (some ⟨rb, 0, none⟩)] _ _
  go_enter Try.func80, Try.ntmps80
  go_wp2_with fail
  go_region_law (first | (go_simp; (with_reducible refine K0.out.mono ?_); rintro e w' ⟨⟨z, rfl, hz1, hz2⟩, m, rfl⟩) | (go_simp; (with_reducible refine (K.out _).mono ?_); rintro e w' ⟨⟨z, rfl, hz1, hz2⟩, m, rfl⟩))
  all_goals
    go_wp2
    go_ret
    exact ⟨z, rfl, hz1, by rw [hz2]; exact HQ.out, below_drewN (Below.refl _ _) _⟩

set_option maxHeartbeats 2000000 in
theorem boxE (w : World) (wd hi dp M q c r : Nat) (bs : List Nat) (hv : vVol wd hi dp M = true) (hp : SlF w (.slice (some ⟨q, 0, none⟩) M c) bs) (hr : r ≤ 3) :
    Calls Try.prog 49 #[.agg #[.int .i64 wd, .int .i64 hi, .int .i64 dp, .slice (some ⟨q, 0, none⟩) M c], .int .i64 r] w (VRes (boxT (bs.map fl) wd hi dp r) w) := by
  obtain ⟨i0, hi0, hz0, hz1, hz2⟩ := info_parts info_picE
  obtain ⟨hM, d1, d2, d3, d4, d5, d6, d7, d8⟩ := vVol_picE hv
  have hb0 := (below_two w (.cells #[.int .i64 wd, .int .i64 hi, .int .i64 dp, .slice (some ⟨q, 0, none⟩) M c] 31) (.cells #[.int .i64 r] 2)).alloc (by simp; try omega) (.cells #[.int .i64 0, .int .i64 0, .int .i64 0, .slice none 0 0] 31)
  have hb1 := alE ((w.alloc (.cells #[.int .i64 wd, .int .i64 hi, .int .i64 dp, .slice (some ⟨q, 0, none⟩) M c] 31)).alloc (.cells #[.int .i64 r] 2)) (.cells #[.int .i64 0, .int .i64 0, .int .i64 0, .slice none 0 0] 31)
  have B0 := (BoxN.first w #[.int .i64 wd, .int .i64 hi, .int .i64 dp, .slice (some ⟨q, 0, none⟩) M c] 31 (.cells #[.int .i64 r] 2)).below hb1
  have B1 := (BoxN.second w #[.int .i64 r] 2 (.cells #[.int .i64 wd, .int .i64 hi, .int .i64 dp, .slice (some ⟨q, 0, none⟩) M c] 31)).below hb1
  have B2 := BoxN.last ((w.alloc (.cells #[.int .i64 wd, .int .i64 hi, .int .i64 dp, .slice (some ⟨q, 0, none⟩) M c] 31)).alloc (.cells #[.int .i64 r] 2)) #[.int .i64 0, .int .i64 0, .int .i64 0, .slice none 0 0] 31
  have hsz : ((w.alloc (.cells #[.int .i64 wd, .int .i64 hi, .int .i64 dp, .slice (some ⟨q, 0, none⟩) M c] 31)).alloc (.cells #[.int .i64 r] 2)).heap.size = w.heap.size + 2 := by simp
  rw [hsz] at B2
  have HP := Lib.hid (hp.below hb0)
  have HB0 := Lib.hid hb0
  have HC0 := Lib.hid B0
  have HB1 := Lib.hid B1
  have HB2 := Lib.hid B2
  have HHM := Lib.hid hM
  have HV := Lib.hid hv
  have hin : (decide ((0 : Int) ≤ r) && decide ((r : Int) ≤ 3)) = true := by simp; omega
  have hM2 : M ≤ 2048 := by omega
  obtain ⟨L, hL⟩ : ∃ L, bs.map fl = L := ⟨_, rfl⟩
  have HL := Lib.hid hL
  rw [hL]
  clear hb0 hb1 B0 B1 B2 hsz hp hM hv hL
  go_enter Try.func49, Try.ntmps49
  go_wp2_with fail
  refine (validVolume_any _ _ _ _ _ _ (by omega) _).mono ?_
  rw [HV.out]
  rintro e w1 ⟨rfl, hbv⟩
  have hbx := HB0.out.trans (hbv.mono HB0.out.size)
  have C0 := HC0.out.below hbv
  have C1 := HB1.out.below hbv
  have C2 := HB2.out.below hbv
  have CP := HP.out.below hbv
  obtain ⟨c0, c1, c2, c3, -, -, -, -⟩ := C0.four
  have s0 : w1.cell? ⟨w.heap.size + 1, 0, none⟩ = some (.int .i64 r) := C1.cell 0
  have hlt2 := C2.lt
  have KC0 := Lib.hid C0
  have KC1 := Lib.hid C1
  have KC2 := Lib.hid C2
  have KCP := Lib.hid CP
  have KBX := Lib.hid hbx
  clear hbv C0 C1 C2 CP hbx
  go_wp2_with fail
  refine (in_any _ _ _ _).mono ?_
  rw [hin]
  rintro e w' ⟨rfl, rfl⟩
  clear hin
  have hz3 : w.heap.size < w1.heap.size := by omega
  have hz4 : w.heap.size + 1 < w1.heap.size := by omega
  have hz5 : w.heap.size + 1 + 1 < w1.heap.size := by omega
  go_wp2_with fail
  have start : LsE w1 ((w1.alloc (.cells #[] 34)).alloc (.cells #[.slice (some ⟨w1.heap.size, 0, none⟩) 0 0] 117)) w1.heap.size (w1.heap.size + 1) wd hi (fun d => tab (wd * hi) (slL L dp d)) 0 (.slice (some ⟨w1.heap.size, 0, none⟩) 0 0) [] := by
    refine ⟨below_two w1 _ _, BoxN.second w1 _ _ _, ⟨rfl, .inr ⟨w1.heap.size, 0, #[], rfl, Nat.le_refl _, ?_, Nat.le_refl _, by unfold maxLen; omega, rfl, rfl⟩⟩, rfl, by simp [Value.ownBlock], by omega, fun j hj => by omega⟩
    exact heap_alloc_old _ _ (by simp) |>.trans (heap_alloc_new w1 _)
  have START := Lib.hid start
  clear start c0 c1 c2 c3 s0
  go_loopw [22] (fun v22 wr => ∃ (d g cap : Nat) (cs : List PicE), v22 = .int .i64 d ∧ d ≤ dp ∧ LsE w1 wr w1.heap.size (w1.heap.size + 1) wd hi (fun d => tab (wd * hi) (slL L dp d)) d (.slice (some ⟨g, 0, none⟩) d cap) cs) (fun v22 _ => dp - (intOf v22).toNat)
  case atStart => exact ⟨0, _, _, [], rfl, Nat.zero_le _, START.out⟩
  case round =>
    clear START
    obtain ⟨d, g, cap, cs, rfl, hd, hst⟩ := hrel
    have HST := Lib.hid hst
    have hbel := hst.bel
    obtain ⟨c0, c1, c2, c3, -, -, -, -⟩ := (KC0.out.below hbel).four
    have l0 : wr.cell? ⟨w1.heap.size + 1, 0, none⟩ = some (.slice (some ⟨g, 0, none⟩) d cap) := hst.lbx.cell 0
    have hsz := hst.lbx.lt
    have hbs := hbel.size
    by_cases hlt : d < dp
    · have K0 := sliceOfE wr wd hi dp M q c d bs hlt HV.out (KCP.out.below hbel)
      rw [slW_L, HL.out] at K0
      have K := Lib.hid K0
      have HD := Lib.hid hd
      have hcap2 : d ≤ cap ∧ cap ≤ maxLen := by
        rcases hst.own.2 with ⟨h1, _⟩ | ⟨g', cap', cur, h1, h2, h3, h4, h5, h6⟩
        · cases h1
        · simp only [Value.slice.injEq] at h1; omega
      have hcap : d ≤ 8 := by omega
      clear hst hbel l0 hd K0
      go_wp2_with fail
      refine K.out.mono ?_
      rintro e w2 ⟨q', c', qs', rfl, hm, hq, hG, hb2⟩
      have hbx2 := (HST.out.lbx).below hb2
      have l2 : ∀ o, (w2.alloc o).cell? ⟨w1.heap.size + 1, 0, none⟩ = some (.slice (some ⟨g, 0, none⟩) d cap) := fun o => (hbx2.below (alE w2 o)).cell 0
      have ho2 := World.ownsRow.kept HST.out.own (grown_below hb2 none) (.inr (by simp [Value.ownBlock]))
      have hs2 := hb2.size
      have HM := Lib.hid (And.intro hm hG)
      have HQ := Lib.hid hq
      have HB2 := Lib.hid hb2
      have HX2 := Lib.hid hbx2
      have HO2 := Lib.hid ho2
      have hne : some (w1.heap.size + 1) ≠ (Value.slice (some ⟨g, 0, none⟩) d cap).ownBlock := fun e => HST.out.far e.symm
      have HNE := Lib.hid hne
      clear hm hq hb2 hbx2 ho2 c0 c1 c2 c3 hne hG
      go_wp2_with (at_builtin; refine wpList_append_lies _ (by rfl) _ _ _ (by rfl) w1.heap.size 34 i0 _ 3 40 Try.underlying117 hi0 hz0 hz1 hz2 rfl (by omega) (.slice (some ⟨g, 0, none⟩) d cap) d _ (by rfl) (World.ownsRow.alloc (World.ownsRow.alloc HO2.out _) _) ⟨w2.heap.size + 1, 0, none⟩ 1 1 (pvE wd hi ⟨q', c', qs'⟩) (by rfl) (by rfl) (cell_threeE2 w2 _ _ _ _ _) (by simp [pvE, Value.oneCell']) (by omega) (by unfold maxLen; omega) (by omega) (by simp; omega) (w2.heap.size + 2) (by simp) ?_; intro gg cap2 w3 hown3 hgrow hat hlt2; have hx3 := (((HX2.out.below (alE w2 (.cells #[.int .i64 wd, .int .i64 hi, .slice (some ⟨q', 0, none⟩) (wd * hi) c'] 34))).below (alE (w2.alloc (.cells #[.int .i64 wd, .int .i64 hi, .slice (some ⟨q', 0, none⟩) (wd * hi) c'] 34)) (.cells #[.int .i64 wd, .int .i64 hi, .slice (some ⟨q', 0, none⟩) (wd * hi) c'] 34))).grown hgrow HNE.out); have z0 : w3.cell? ⟨w1.heap.size + 1, 0, none⟩ = some (.slice (some ⟨g, 0, none⟩) d cap) := hx3.cell 0; have g0 := hx3.free 0)
      go_roundw
      case rel => exact ⟨d + 1, gg, cap2, cs ++ [⟨q', c', qs'⟩], by go_num, by omega, HST.out.step (p := ⟨q', c', qs'⟩) HB2.out HM.out.1 HM.out.2 HQ.out (((Below.refl _ _).alloc (Nat.le_refl _) _).alloc (by simp) _) hown3 hgrow (Nat.le_refl _) (by rcases hat with e | e; exact .inl e; exact .inr (by simp; omega))⟩
      case measure => simp [intOf]; omega
    · obtain rfl : dp = d := by omega
      have hbz := KBX.out.trans (hbel.mono KBX.out.size)
      have hcap2 : dp ≤ cap ∧ cap ≤ maxLen := by
        rcases hst.own.2 with ⟨h1, _⟩ | ⟨g', cap', cur, h1, h2, h3, h4, h5, h6⟩
        · cases h1
        · simp only [Value.slice.injEq] at h1; omega
      have G := box1E (L := L) hst.lbx (KC1.out.below hbel) hr (fun d hd => ⟨hst.pic d hd, (hst.pics d hd).2.1⟩) hcap2.1 (by have := hcap2.2; unfold maxLen at this; omega) d1 d3 d2 d4 d6 d7
      have K := Lib.hid (revolume_ok wr wd hi dp M (some ⟨q, 0, none⟩) c _ _ HV.out G)
      have HC2 := Lib.hid (KC2.out.below hbel)
      have HBZ := Lib.hid hbz
      clear G hst hbel hbz hcap2 HST
      go_wp2_with fail
      refine K.out.mono ?_
      rintro e w2 ⟨q', cc, bs', rfl, hown, hcon, hb2⟩
      obtain ⟨e0, e1, e2, e3, g0, g1, g2, g3⟩ := (HC2.out.below hb2).four
      have hlt3 := (HC2.out.below hb2).lt
      have hsz2 := HC2.out.lt
      have HF := Lib.hid (And.intro hown (And.intro hcon hb2))
      clear hcon hown hb2
      go_wp2
      refine bodyPost_ret (v := .tuple #[.agg #[.int .i64 wd, .int .i64 hi, .int .i64 dp, .slice (some ⟨q', 0, none⟩) bs'.length cc], .bool true]) (by simp [results, Try.results49, go_sem, e0, e1, e2, e3, hlt3]) rfl ?_
      exact VRes.of_box (t := boxT L wd hi dp r) HBZ.out hsz2 (by omega) HF.out.1 HF.out.2.1 HF.out.2.2 _ _ _ _

end Go.Proofs.Ytabbjilgpfnacaa
