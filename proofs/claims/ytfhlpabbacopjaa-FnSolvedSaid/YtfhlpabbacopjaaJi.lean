/- SolveColumns. -/
import Derived.Test.YtfhlpabbacopjaaJh
import Derived.Test.YtfhlpabbacopjaaSv
import Derived.Test.YtfhlpabbacopjaaPy
namespace Go.Proofs.Ytfhlpabbacopjaa
open Go.RowKit Go.Shelf
set_option maxRecDepth 100000
set_option linter.unusedVariables false
set_option linter.unusedSimpArgs false

theorem vPic_turn {wd hi : Nat} (h : vPic wd hi (wd * hi) = true) : vPic hi wd (hi * wd) = true := by
  obtain ⟨x1, x2, e1, e2, e3, b1, b2, b3, b4, b5⟩ := vPic_spec h
  have : x1 = wd := by omega
  have : x2 = hi := by omega
  subst_vars; exact vPic_of b3 b4 b1 b2 (by rw [Nat.mul_comm]; exact b5)
def qbS (wd hi dp : Nat) (P : Int → Int → List Int) : Prop := ∀ x y, insI x y wd hi → ∀ d, d < dp → ((P x y).getD d 0).natAbs ≤ 16777216
theorem qbS.nat {wd hi dp : Nat} {P : Int → Int → List Int} (h : qbS wd hi dp P) {x y d : Nat} (hx : x < wd) (hy : y < hi) (hd : d < dp) : ((P x y).getD d 0).natAbs ≤ 16777216 := h x y ⟨Int.natCast_nonneg _, Int.ofNat_lt.2 hx, Int.natCast_nonneg _, Int.ofNat_lt.2 hy⟩ d hd

theorem swap_vs {W : World} {wd hi dp q c N : Nat} {bs : List Nat} {P : Int → Int → List Int} (h : VQ W wd hi dp q c N bs P) (hv : vVol wd hi dp (wd * hi * dp) = true) (hN : N = wd * hi * dp) (hb : qbS wd hi dp P) :
    Calls Try.prog 32 #[.agg #[.int .i64 wd, .int .i64 hi, .int .i64 dp, .slice (some ⟨q, 0, none⟩) N c]] W fun e w' =>
      ∃ (q2 c2 : Nat) (bs2 : List Nat), e = .returned (.tuple #[.agg #[.int .i64 hi, .int .i64 wd, .int .i64 dp, .slice (some ⟨q2, 0, none⟩) N c2], .bool true]) ∧ VQ w' hi wd dp q2 c2 N bs2 (fun x y => P y x) ∧ Below W.heap.size W w' := by
  have K := swapV_ok W wd hi dp q 0 c bs (h.ok hv)
  rw [h.len] at K
  refine K.mono ?_
  rintro e w' ⟨q2, c2, bs2, rfl, hown, hcon, hbb⟩
  have hq : QV bs2 hi wd dp (fun x y => P y x) := by
    refine QV.of_tab hcon (fun x y hx hy => (h.qv.2 y x hy hx).1) (fun x y hx hy d hd => hb.nat hy hx hd) (fun x y d hx hy hd => ?_)
    unfold gc
    rw [(h.qv.2 y x hy hx).2 d hd, fl_fq (hb.nat hy hx hd)]
  have hl : bs2.length = N := by rw [hq.1, hN, Nat.mul_comm hi wd]
  exact ⟨q2, c2, bs2, by rw [hl], .of hown hl hq, hbb⟩

def flipP (P : Int → Int → List Int) : Int → Int → List Int := fun x y => P y x
theorem Cst.flip {P : Int → Int → List Int} {bs bs2 : List Nat} {wd hi dp N Nv : Nat} {one more : Int} (h : Cst P bs wd hi dp N Nv one more) (hq : QV bs2 hi wd dp (flipP P)) : Cst (flipP P) bs2 hi wd dp N Nv one more := by
  obtain ⟨d1, d2, d3, d4, d5, d6, d7, d8, d9, d10⟩ := h.dims
  obtain ⟨wd', hi', dp', g1, g2, g3, g4, g5, g6, g7, g8, g9, g10, g11⟩ := vVol_spec h.vv
  obtain rfl : wd = wd' := by omega
  obtain rfl : hi = hi' := by omega
  obtain rfl : dp = dp' := by omega
  have hv := vVol_of d3 d4 d1 d2 (by rw [Nat.mul_comm]; exact g9) d5 d6
  have hp := h.vp
  rw [d7] at hp
  exact ⟨by rw [g4, Nat.mul_comm wd hi]; exact hv, by rw [d7, Nat.mul_comm wd hi]; exact vPic_turn hp, hq, fun x y d hx hy hd => h.hc y x d hy hx hd, h.o0, h.o1, h.o2⟩

/-- The map of the columns. -/
def solN (P : Int → Int → List Int) (one more : Int) (dp wd hi : Nat) : List Nat := (List.range (wd * hi)).map fun i => solR (flipP P) one more dp hi (i % wd) (i / wd)
theorem solN_q (P : Int → Int → List Int) (one more : Int) (dp wd hi : Nat) : (solN P one more dp wd hi).map wW = (tabI (wd * hi) fun i => 4 * (solR (flipP P) one more dp hi (i % wd) (i / wd) : Int)).map (fq 2) := by
  unfold solN tabI
  rw [List.map_map, List.map_map]
  refine List.map_congr_left fun i _ => ?_
  rw [Function.comp_apply, Function.comp_apply]
  exact wW_q _
theorem solN_len (P : Int → Int → List Int) (one more : Int) (dp wd hi : Nat) : (solN P one more dp wd hi).length = wd * hi := by simp [solN]
theorem solN_get {P : Int → Int → List Int} {one more : Int} {dp wd hi x y : Nat} (hx : x < wd) (hy : y < hi) : (solN P one more dp wd hi).getD (x + wd * y) 0 = solR (flipP P) one more dp hi x y := by
  have h := cell_lt hx hy
  unfold solN
  rw [List.getD_eq_getElem?_getD, List.getElem?_map, List.getElem?_range h]
  show solR (flipP P) one more dp hi ((x + wd * y) % wd) ((x + wd * y) / wd) = _
  rw [Nat.add_mul_div_left _ _ (by omega), Nat.div_eq_of_lt hx, Nat.add_mul_mod_self_left, Nat.mod_eq_of_lt hx, Nat.zero_add]
theorem solN_lt {P : Int → Int → List Int} {one more : Int} {dp wd hi : Nat} (h : 1 ≤ dp) : ∀ m ∈ solN P one more dp wd hi, m < dp := by
  intro m hm
  obtain ⟨i, _, rfl⟩ := List.mem_map.1 hm
  exact sol_lt h _

theorem solveColumns1_gives {W0 : World} {pb wd hi q c N dp : Nat} {ms : List Nat} (h : MB W0 pb hi wd q c N ms dp) (hN : N = hi * wd) (hw : wd ≤ 24) (hh : hi ≤ 24) (hd : dp ≤ 8) :
    Gives2 W0 (.func (.func 83) #[] #[.pointer (some ⟨pb, 0, none⟩)]) wd hi (fun x y => wW (ms.getD (y + hi * x) 0)) := by
  refine ⟨83, _, rfl, Try.call83, fun x y W hx hy hbW => ?_⟩
  have hP := (h.below hbW).at hN
  have hb := h.wm.mat hN hy hx
  have K := Lib.hid (mat_any W pb hi wd _ _ y x y x rfl rfl hy hx (by omega) (by omega) hP)
  have hl : y + hi * x < ms.length := by rw [h.wm.len, hN]; exact cell_lt hy hx
  rw [wW_get hl] at K
  have hb2 : ms.getD (y + hi * x) 0 < 8 := Nat.lt_of_lt_of_le hb hd
  obtain ⟨z, hzr⟩ : ∃ z, ms.getD (y + hi * x) 0 = z := ⟨_, rfl⟩
  rw [hzr] at K hb2
  have hzz := Lib.hid hzr
  obtain ⟨vz, hvz⟩ : ∃ vz, wW z = vz := ⟨_, rfl⟩
  rw [hvz] at K
  have HV := Lib.hid hvz
  clear h hP hvz hb hzr
  show Calls _ _ #[.int .i64 x, .int .i64 y, .pointer (some ⟨pb, 0, none⟩)] _ _
  go_enter Try.func83, Try.ntmps83
  go_wp2_with fail
  refine K.out.mono ?_
  rintro e w' ⟨rfl, m, rfl⟩
  go_wp2
  go_ret
  refine ⟨_, rfl, ?_, ?_, below_drewN (Below.refl _ _) _⟩
  · rw [← HV.out, ← wW_def]; exact fq_lt (by omega)
  · have := fl_fq (g := 0) (k := (z : Int)) (by omega)
    rw [wW_def] at this
    show fl vz = wW (ms.getD (y + hi * x) 0)
    rw [hzz.out, ← HV.out, this]

set_option maxHeartbeats 4000000 in
theorem solveColumns_ok (w : World) (wd hi dp N qv Nv cv : Nat) (bs : List Nat) (P : Int → Int → List Int) (one more : Int) (hC : Cst P bs wd hi dp N Nv one more) (hvv : vVol wd hi dp (wd * hi * dp) = true) (hNv : Nv = wd * hi * dp)
    (hV : VQ w wd hi dp qv cv Nv bs P) (hqb : qbS wd hi dp P) :
    Calls Try.prog 37 #[.agg #[.int .i64 wd, .int .i64 hi, .int .i64 dp, .slice (some ⟨qv, 0, none⟩) Nv cv], .agg #[.float .f32 (fq 2 one), .float .f32 (fq 2 more)]] w (MakesWM w wd hi N (solN P one more dp wd hi) dp) := by
  obtain ⟨d1, d2, d3, d4, d5, d6, d7, d8, d9, d10⟩ := hC.dims
  have KS := Lib.hid (fun w1 q2 c2 bs2 (h : VQ w1 hi wd dp q2 c2 Nv bs2 (flipP P)) => solveRows_ok w1 hi wd dp N q2 Nv c2 bs2 (flipP P) one more (hC.flip h.qv) h.sl h.qv.1 h.qlt)
  have HN := Lib.hid d7
  obtain ⟨vo, hvo⟩ : ∃ vo, vo = fq 2 one := ⟨_, rfl⟩
  obtain ⟨vm, hvm⟩ : ∃ vm, vm = fq 2 more := ⟨_, rfl⟩
  rw [← hvo, ← hvm] at KS ⊢
  have hb0 := (below_two w (.cells #[.int .i64 wd, .int .i64 hi, .int .i64 dp, .slice (some ⟨qv, 0, none⟩) Nv cv] 26) (.cells #[.float .f32 vo, .float .f32 vm] 30)).alloc (by simp; omega) (.cells #[.int .i64 0, .int .i64 0, .slice none 0 0] 48)
  have BV := (BoxN.first w #[.int .i64 wd, .int .i64 hi, .int .i64 dp, .slice (some ⟨qv, 0, none⟩) Nv cv] 26 (.cells #[.float .f32 vo, .float .f32 vm] 30)).below (alb1_ _ (.cells #[.int .i64 0, .int .i64 0, .slice none 0 0] 48))
  have BP := (BoxN.second w #[.float .f32 vo, .float .f32 vm] 30 (.cells #[.int .i64 wd, .int .i64 hi, .int .i64 dp, .slice (some ⟨qv, 0, none⟩) Nv cv] 26)).below (alb1_ _ (.cells #[.int .i64 0, .int .i64 0, .slice none 0 0] 48))
  have BM := box_last ((w.alloc (.cells #[.int .i64 wd, .int .i64 hi, .int .i64 dp, .slice (some ⟨qv, 0, none⟩) Nv cv] 26)).alloc (.cells #[.float .f32 vo, .float .f32 vm] 30)) (.int .i64 0) (.int .i64 0) (.slice none 0 0) 48
  rw [show ((w.alloc (.cells #[.int .i64 wd, .int .i64 hi, .int .i64 dp, .slice (some ⟨qv, 0, none⟩) Nv cv] 26)).alloc (.cells #[.float .f32 vo, .float .f32 vm] 30)).heap.size = w.heap.size + 2 by simp] at BM
  have KW := Lib.hid (swap_vs (hV.below hb0) hvv hNv hqb)
  have HB0 := Lib.hid hb0
  clear hb0 hC d7 hvo hvm hV hvv hNv
  go_enter Try.func37, Try.ntmps37
  go_wp2_with fail
  refine KW.out.mono ?_
  rintro e w1 ⟨q2, c2, bs2, rfl, hV2, hb1⟩
  have ha1 := alb1_ w1 (.cells #[.int .i64 hi, .int .i64 wd, .int .i64 dp, .slice (some ⟨q2, 0, none⟩) Nv c2] 26)
  have BP1 := (BP.below hb1).below ha1
  have BV1 := (BV.below hb1).below ha1
  have BM1 := (BM.below hb1).below ha1
  have hs1 : w.heap.size + 2 < w1.heap.size := (BM.below hb1).lt
  have HB1 := Lib.hid ((HB0.out.trans (hb1.mono HB0.out.size)).trans (ha1.mono (by omega)))
  have KS1 := Lib.hid (KS.out _ q2 c2 bs2 (hV2.below ha1))
  have BS1 := BoxN.last w1 #[.int .i64 hi, .int .i64 wd, .int .i64 dp, .slice (some ⟨q2, 0, none⟩) Nv c2] 26
  obtain ⟨s0, s1, s2, s3, -, -, -, -⟩ := BS1.four
  have zp0 := BP1.cell 0
  have zp1 := BP1.cell 1
  simp only [List.size_toArray, List.length_cons, List.length_nil, List.getElem?_toArray, List.getElem?_cons_zero, List.getElem?_cons_succ] at zp0 zp1
  have HBV := Lib.hid BV1
  have HBM := Lib.hid BM1
  clear hb1 BP BV BM hV2 BP1 BV1 BM1 ha1 BS1
  go_wp2_with fail
  refine KS1.out.mono ?_
  rintro e w2 ⟨q, c, rfl, hwm, hq, hb2⟩
  have ha2 := alb1_ w2 (.cells #[.int .i64 hi, .int .i64 wd, .slice (some ⟨q, 0, none⟩) N c] 48)
  have BB := box_last w2 (.int .i64 hi) (.int .i64 wd) (.slice (some ⟨q, 0, none⟩) N c) 48
  have G := solveColumns1_gives (wd := wd) (hi := hi) (MB.mk BB (hwm.below ha2)) (by rw [HN.out, Nat.mul_comm]) d2 d4 d6
  have K := Lib.hid (mapOf_any _ wd hi _ _ d2 d4 G)
  have hbz := (hb2.trans (ha2.mono hb2.size))
  obtain ⟨y0, y1, y2, y3, -, -, -, -⟩ := (HBV.out.below hbz).four
  have HBM2 := Lib.hid (HBM.out.below hbz)
  have HB2 := Lib.hid (HB1.out.trans (hbz.mono HB1.out.size))
  have hs2 := hbz.size
  have hsA : (w1.alloc (.cells #[.int .i64 hi, .int .i64 wd, .int .i64 dp, .slice (some ⟨q2, 0, none⟩) Nv c2] 26)).heap.size = w1.heap.size + 1 := by simp
  rw [hsA] at hs2
  clear hb2 ha2 BB G hwm hbz HBM HBV zp0 zp1 s0 s1 s2 s3
  go_wp2_with fail
  (with_reducible refine K.out.mono ?_)
  rintro e w3 ⟨a, cc, bs3, rfl, hown, hcon, hb3⟩
  have hbs : bs3 = (solN P one more dp wd hi).map wW := by
    rw [solN_q]
    refine bs_of_tab (fun i _ => by have := sol_lt (P := flipP P) (one := one) (more := more) (wd := hi) (y := i % wd) d5 (i / wd); omega) ?_
    rw [hcon]
    unfold tab
    refine List.map_congr_left fun i hi_ => ?_
    have hi_ := List.mem_range.1 hi_
    have e1 : (i % wd + wd * (i / wd)) / wd = i / wd := by rw [Nat.mod_add_div]
    have e2 : (i % wd + wd * (i / wd)) % wd = i % wd := by rw [Nat.mod_add_div]
    have hx : i % wd < wd := Nat.mod_lt _ (by omega)
    have hy : i / wd < hi := Nat.div_lt_of_lt_mul (by rw [Nat.mul_comm]; exact hi_)
    show wW ((solM (flipP P) one more dp hi wd).getD (i / wd + hi * (i % wd)) 0) = fq 2 (4 * (solR (flipP P) one more dp hi ((i % wd + wd * (i / wd)) % wd) ((i % wd + wd * (i / wd)) / wd) : Int))
    rw [e1, e2, solM_get hy hx]
    exact wW_q _
  have hl : bs3.length = N := by rw [hbs, List.length_map, solN_len, HN.out]
  rw [hl] at hown ⊢
  obtain ⟨q', rfl⟩ := own_ptr hown (by omega)
  obtain ⟨e0, e1, e2, g0, g1, g2⟩ := (HBM2.out.below hb3).cells
  have hbb := HB2.out.trans (hb3.mono HB2.out.size)
  have hq' := (hown.lt (k := q') rfl).1
  have hqs : w.heap.size + 2 < q' := by omega
  have HCON := Lib.hid hbs
  have HOWN := Lib.hid hown
  have HBB := Lib.hid hbb
  clear hcon hbs hown hbb hb3
  go_wp2
  refine bodyPost_ret (v := .tuple #[.agg #[.int .i64 wd, .int .i64 hi, .slice (some ⟨q', 0, none⟩) N cc], .bool true]) (by simp [results, Try.results37, go_sem, e0, e1, e2]) rfl ?_
  have hsB : w.heap.size + 2 < (w2.alloc (.cells #[.int .i64 hi, .int .i64 wd, .slice (some ⟨q, 0, none⟩) N c] 48)).heap.size := by omega
  have ho := (((HOWN.out.set (by first | omega | (simp; done) | (simp; omega)) (.int .i64 wd) (a := ⟨w.heap.size + 2, 0, none⟩)).set (by first | omega | (simp; done) | (simp; omega)) (.int .i64 hi) (a := ⟨w.heap.size + 2, 1, none⟩)).set (by first | omega | (simp; done) | (simp; omega)) (.slice (some ⟨q', 0, none⟩) N cc) (a := ⟨w.heap.size + 2, 2, none⟩))
  refine ⟨q', cc, rfl, ⟨?_, (ho.lt (k := q') rfl).2, by rw [solN_len, HN.out], solN_lt d5⟩, by first | omega | (have := HB2.out.size; omega), ((HBB.out.setCell (by simp; omega) _).setCell (by simp; omega) _).setCell (by simp; omega) _⟩
  have := ho.sl
  rw [HCON.out] at this
  simpa using this

end Go.Proofs.Ytfhlpabbacopjaa
