/- The law FnTurns. -/
import Derived.Test.YtdaaookaphdnaaaLaw
import Derived.Test.YtdaaookaphdnaaaPix
namespace Go.Proofs.Ytdaaookaphdnaaa
open Go.RowKit Ieee
set_option maxRecDepth 100000
set_option linter.unusedVariables false
set_option linter.unusedSimpArgs false
set_option maxHeartbeats 2000000

theorem crop_ok' (w : World) (wd hi : Nat) (sa : Option Addr) (c : Nat) (bs : List Nat) (x0 y0 wd2 hi2 : Nat) (W H : Int) (hW : W = wd2) (hH : H = hi2) (k1 : x0 + wd2 ≤ wd) (k2 : y0 + hi2 ≤ hi) (k3 : 1 ≤ wd2) (k4 : 1 ≤ hi2) (h : PicOk w wd hi sa c bs) :
    Calls Try.prog 13 #[.agg #[.int .i64 wd, .int .i64 hi, .slice sa bs.length c], .int .i64 x0, .int .i64 y0, .int .i64 W, .int .i64 H] w (MakesPicOk w wd2 hi2 fun x y => fl (bs.getD (ix ((x0 : Int) + x) ((y0 : Int) + y) wd hi) 0)) := by
  subst hW; subst hH; exact crop_ok w wd hi sa c bs x0 y0 wd2 hi2 k1 k2 k3 k4 h
theorem greyAt_ok' (w : World) (wd hi : Nat) (sa : Option Addr) (c : Nat) (bs : List Nat) (x y : Nat) (X Y : Int) (hX : X = x) (hY : Y = y) (k1 : x < wd) (k2 : y < hi) (h : PicOk w wd hi sa c bs) :
    Calls Try.prog 14 #[.agg #[.int .i64 wd, .int .i64 hi, .slice sa bs.length c], .int .i64 X, .int .i64 Y] w fun e w' => e = .returned (.tuple #[.float .f32 (bs.getD (ix X Y wd hi) 0), .bool true]) ∧ Below w.heap.size w w' := by
  subst hX; subst hY; exact greyAt_ok w wd hi sa c bs x y k1 k2 h
theorem double_ok' (w : World) (wd hi : Nat) (sa : Option Addr) (c : Nat) (bs : List Nat) (wd2 hi2 : Nat) (W H : Int) (hW : W = wd2) (hH : H = hi2) (hS : szOk wd2 hi2 = true) (h : PicOk w wd hi sa c bs) :
    Calls Try.prog 18 #[.agg #[.int .i64 wd, .int .i64 hi, .slice sa bs.length c], .int .i64 W, .int .i64 H] w (MakesPicOk w wd2 hi2 fun x y => fl (bs.getD (ix ((x / 2 : Nat) : Int) ((y / 2 : Nat) : Int) wd hi) 0)) := by
  subst hW; subst hH; exact double_ok w wd hi sa c bs wd2 hi2 hS h

theorem slf_pos {w : World} {v : Value} {bs : List Nat} (h : SlF w v bs) (i : Nat) : bs.getD i 0 < 4294967296 := by
  by_cases hi : i < bs.length
  · rw [← getD_of _ _ hi]; exact h.2 _ (List.getElem_mem hi)
  · rw [List.getD_eq_getElem?_getD, List.getElem?_eq_none (by omega)]; simp

theorem halve_ok' (w : World) (wd hi : Nat) (sa : Option Addr) (c : Nat) (bs : List Nat) (wd2 hi2 : Nat) (hW : (wd + 1) / 2 = wd2) (hH : (hi + 1) / 2 = hi2) (h : PicOk w wd hi sa c bs) :
    Calls Try.prog 19 #[.agg #[.int .i64 wd, .int .i64 hi, .slice sa bs.length c]] w (MakesPicOk w wd2 hi2 (halfG bs wd hi)) := by
  subst hW; subst hH; exact halve_ok w wd hi sa c bs h

theorem half_double {bq bd : List Nat} {wd hi wD hD : Nat} (hq : ∀ b ∈ bq, ∃ k, k ≤ 16 ∧ b = qt k) (hl : bq.length = wd * hi) (hW : wD = 2 * wd) (hH : hD = 2 * hi)
    (hd : bd.map fl = tab (hD * wD) (fun i => fl (bq.getD (ix ((i % wD / 2 : Nat) : Int) ((i / wD / 2 : Nat) : Int) wd hi) 0))) {x y : Nat} (hx : x < wd) (hy : y < hi) :
    halfG bd wD hD x y = fl (bq.getD (ix x y wd hi) 0) := by
  unfold halfG
  rw [tab_ix hd (2 * x) (2 * y) (by omega) (by omega) (by omega) (by omega), tab_ix hd (2 * x + 1) (2 * y) (by omega) (by omega) (by omega) (by omega), tab_ix hd (2 * x) (2 * y + 1) (by omega) (by omega) (by omega) (by omega), tab_ix hd (2 * x + 1) (2 * y + 1) (by omega) (by omega) (by omega) (by omega)]
  simp only [md1 (show 2 * x < wD by omega), md2 (show 2 * x < wD by omega), md1 (show 2 * x + 1 < wD by omega), md2 (show 2 * x + 1 < wD by omega)]
  rw [show 2 * x / 2 = x by omega, show 2 * y / 2 = y by omega, show (2 * x + 1) / 2 = x by omega, show (2 * y + 1) / 2 = y by omega]
  have hlt : ix x y wd hi < bq.length := by rw [hl]; exact ix_lt _ _ (by omega) (by omega)
  obtain ⟨k, hk, e⟩ := hq _ (List.getElem_mem hlt)
  rw [getD_of _ _ hlt] at e
  rw [e, (four_quarters k hk).1, (four_quarters k hk).2]

theorem fnTurns_short (w : World) (a0 a1 : Option Addr) (l0 c0 l1 c1 : Nat) (h0 : l0 ≤ 48) (h1 : l1 ≤ 48) (hb0 : BytesIn w a0 l0) (hb1 : BytesIn w a1 l1) :
    Calls Try.prog 3 #[.slice a0 l0 c0, .slice a1 l1 c1] w fun e w' => e = .returned (.bool true) ∧ Below w.heap.size w w' := by
  go_enter Try.func3, Try.ntmps3
  go_wp2_with fail
  refine (r8Long_no _ _ _ _ _ _ _ h0 h1).mono ?_
  rintro e w1 ⟨rfl, rfl⟩
  go_wp2_with fail
  refine (r8Wild_any _ _ _ _ hb0).mono ?_
  rintro e w2 ⟨wd, hi, a, c, bs, rfl, d1, d2, d3, d4, d5, hown, B⟩
  have P := hown.pic d5 d1 (by omega) d3 (by omega) (by have := mul_le_six d2 d4; omega)
  clear d5 hown
  go_wp2_with fail
  refine (mirror_ok _ wd hi a c bs (P.below (alb _ _))).mono ?_
  rintro e w3 ⟨a6, c6, bs6, rfl, ho, ht6, hb⟩
  have t5 := PBox.new P hb
  have P6 := ho.pic' ht6 P.v
  have B := bnext B (Nat.le_refl _) hb
  clear ho hb
  go_wp2_with fail
  refine (mirror_ok _ wd hi a6 c6 bs6 (P6.below (alb _ _))).mono ?_
  rintro e w4 ⟨a8, c8, bs8, rfl, ho, ht8, hb⟩
  have t5 := t5.next hb
  have P8 := ho.pic' ht8 P.v
  have B := bnext B (Nat.le_refl _) hb
  clear ho hb
  obtain ⟨x0, x1, x2⟩ := t5.cellsA
  go_wp2_with fail
  refine (flip_ok _ wd hi a c bs (t5.more _).ok).mono ?_
  rintro e w5 ⟨a10, c10, bs10, rfl, ho, ht10, hb⟩
  have t5 := t5.next hb
  have t8 := PBox.new P8 hb
  have P10 := ho.pic' ht10 P.v
  have B := bnext B (Nat.le_refl _) hb
  clear ho hb x0 x1 x2
  go_wp2_with fail
  refine (flip_ok _ wd hi a10 c10 bs10 (P10.below (alb _ _))).mono ?_
  rintro e w6 ⟨a12, c12, bs12, rfl, ho, ht12, hb⟩
  have t5 := t5.next hb
  have t8 := t8.next hb
  have P12 := ho.pic' ht12 P.v
  have B := bnext B (Nat.le_refl _) hb
  clear ho hb
  obtain ⟨x0, x1, x2⟩ := t5.cellsA
  go_wp2_with fail
  refine (swap_ok _ wd hi a c bs (t5.more _).ok).mono ?_
  rintro e w7 ⟨a14, c14, bs14, rfl, ho, ht14, hb⟩
  have t5 := t5.next hb
  have t8 := t8.next hb
  have t12 := PBox.new P12 hb
  have P14 := ho.pic' ht14 (vPic_swap P.v)
  have B := bnext B (Nat.le_refl _) hb
  clear ho hb x0 x1 x2
  go_wp2_with fail
  refine (swap_ok _ hi wd a14 c14 bs14 (P14.below (alb _ _))).mono ?_
  rintro e w8 ⟨a16, c16, bs16, rfl, ho, ht16, hb⟩
  have t5 := t5.next hb
  have t8 := t8.next hb
  have t12 := t12.next hb
  have t14 := PBox.new P14 hb
  have P16 := ho.pic' ht16 P.v
  have B := bnext B (Nat.le_refl _) hb
  clear ho hb
  obtain ⟨x0, x1, x2⟩ := t5.cellsA
  go_wp2_with fail
  refine (shift_ok _ wd hi a c bs 0 (by omega) (by omega) (t5.more _).ok).mono ?_
  rintro e w9 ⟨a18, c18, bs18, rfl, ho, ht18, hb⟩
  have t5 := t5.next hb
  have t8 := t8.next hb
  have t12 := t12.next hb
  have t14 := t14.next hb
  have t16 := PBox.new P16 hb
  have P18 := ho.pic' ht18 P.v
  have B := bnext B (Nat.le_refl _) hb
  clear ho hb x0 x1 x2
  have E1 := tab_same ht8 P.len (fun x y hx hy => by simp only [md1 hx, md2 hx]; rw [tab_ix ht6 (wd - 1 - x) y (by omega) rfl (by omega) hy]; simp only [md1 (show wd - 1 - x < wd by omega), md2 (show wd - 1 - x < wd by omega)]; congr 2; congr 1; omega)
  have E2 := tab_same ht12 P.len (fun x y hx hy => by simp only [md1 hx, md2 hx]; rw [tab_ix ht10 x (hi - 1 - y) rfl (by omega) hx (by omega)]; simp only [md1 hx, md2 hx]; congr 2; congr 1; omega)
  have E3 := tab_same ht16 P.len (fun x y hx hy => by simp only [md1 hx, md2 hx]; rw [tab_ix ht14 y x rfl rfl hy hx]; simp only [md1 hy, md2 hy])
  have E4 := tab_same ht18 P.len (fun x y hx hy => by simp only [md1 hx, md2 hx, Int.add_zero])
  clear ht6 ht8 ht10 ht12 ht14 ht16 ht18
  obtain ⟨x0, x1, x2⟩ := t5.cellsA
  obtain ⟨y0, y1, y2⟩ := t8.cellsA
  go_wp2_with fail
  refine (samePicture_yes _ _ _ _ _ _ _ _ _ bs8 bs (t8.more _).ok.sl (t5.more _).ok.sl E1).mono ?_
  rintro e w10 ⟨rfl, hb⟩
  have t5 := t5.next hb
  have t12 := t12.next hb
  have t14 := t14.next hb
  have t16 := t16.next hb
  have t18 := PBox.new P18 hb
  have B := bnext B (Nat.le_refl _) hb
  clear hb x0 x1 x2 y0 y1 y2
  obtain ⟨x0, x1, x2⟩ := t5.cells
  obtain ⟨y0, y1, y2⟩ := t12.cells
  go_wp2_with fail
  refine (samePicture_yes _ _ _ _ _ _ _ _ _ bs12 bs t12.ok.sl t5.ok.sl E2).mono ?_
  rintro e w11 ⟨rfl, hb⟩
  have t5 := t5.below hb
  have t14 := t14.below hb
  have t16 := t16.below hb
  have t18 := t18.below hb
  have B := B.trans (hb.mono B.size)
  clear hb x0 x1 x2 y0 y1 y2
  obtain ⟨x0, x1, x2⟩ := t5.cells
  obtain ⟨y0, y1, y2⟩ := t16.cells
  go_wp2_with fail
  refine (samePicture_yes _ _ _ _ _ _ _ _ _ bs16 bs t16.ok.sl t5.ok.sl E3).mono ?_
  rintro e w12 ⟨rfl, hb⟩
  have t5 := t5.below hb
  have t14 := t14.below hb
  have t18 := t18.below hb
  have B := B.trans (hb.mono B.size)
  clear hb x0 x1 x2 y0 y1 y2
  obtain ⟨x0, x1, x2⟩ := t5.cells
  obtain ⟨y0, y1, y2⟩ := t18.cells
  go_wp2_with fail
  refine (samePicture_yes _ _ _ _ _ _ _ _ _ bs18 bs t18.ok.sl t5.ok.sl E4).mono ?_
  rintro e w13 ⟨rfl, hb⟩
  have t5 := t5.below hb
  have t14 := t14.below hb
  have B := B.trans (hb.mono B.size)
  clear hb x0 x1 x2 y0 y1 y2
  have hV := t14.ok.vl
  have hL : bs14.length ≤ 9223372036854775807 := by rw [t14.ok.len]; have := mul_le_six d2 d4; rw [Nat.mul_comm]; omega
  obtain ⟨y0, y1, y2⟩ := t14.cells
  go_wp2_with fail
  refine (validPicture_any _ _ _ _ _ hL _).mono ?_
  rw [hV]
  rintro e w14 ⟨rfl, hb⟩
  have t5 := t5.below hb
  have t14 := t14.below hb
  have B := B.trans (hb.mono B.size)
  clear hb y0 y1 y2 hV hL
  obtain ⟨x0, x1, x2⟩ := t5.cells
  obtain ⟨y0, y1, y2⟩ := t14.cells
  go_wp2_with fail
  refine (r8At_any _ _ _ _ 0 _ (by omega) (by omega) (by omega) (hb1.below B)).mono ?_
  rintro e w15 ⟨n, rfl, h0, h1, rfl⟩
  obtain ⟨x, rfl⟩ := Int.eq_ofNat_of_zero_le h0
  clear y0 y1 y2
  go_wp2_with fail
  refine (r8At_any _ _ _ _ 1 _ (by omega) (by omega) (by omega) (hb1.below B)).mono ?_
  rintro e w15 ⟨n, rfl, h2, h3, rfl⟩
  obtain ⟨y, rfl⟩ := Int.eq_ofNat_of_zero_le h2
  go_wp2_with fail
  refine (r8At_any _ _ _ _ 2 _ (by omega) (by omega) (by omega) (hb1.below B)).mono ?_
  rintro e w15 ⟨n, rfl, h4, h5, rfl⟩
  obtain ⟨k, rfl⟩ := Int.eq_ofNat_of_zero_le h4
  go_wp2_with fail
  refine (r8At_any _ _ _ _ 3 _ (by omega) (by omega) (by omega) (hb1.below B)).mono ?_
  rintro e w15 ⟨n, rfl, h6, h7, rfl⟩
  obtain ⟨l, rfl⟩ := Int.eq_ofNat_of_zero_le h6
  go_wp2_with fail
  obtain ⟨wd2, eW⟩ : ∃ n : Nat, (1 + (k : Int)) = n := ⟨1 + k, by omega⟩
  obtain ⟨hi2, eH⟩ : ∃ n : Nat, (1 + (l : Int)) = n := ⟨1 + l, by omega⟩
  rw [eW, eH]
  have q1 : x + wd2 ≤ wd := by omega
  have q2 : y + hi2 ≤ hi := by omega
  have q3 : 1 ≤ wd2 := by omega
  have q4 : 1 ≤ hi2 := by omega
  clear eW eH h4 h5 h6 h7
  refine (crop_ok _ wd hi a c bs x y wd2 hi2 q1 q2 q3 q4 t5.ok).mono ?_
  rintro e w15 ⟨a24, c24, bs24, rfl, ho, ht24, hb⟩
  have hv24 : vPic wd2 hi2 (wd2 * hi2) = true := vPic_of (by omega) (by omega) (by omega) (by omega) (by have := mul_le_six (show wd2 ≤ 6 by omega) (show hi2 ≤ 4 by omega); omega)
  have P24 := ho.pic' ht24 hv24
  have t5 := t5.below hb
  have B := B.trans (hb.mono B.size)
  clear hb ho x0 x1 x2
  go_wp2_with fail
  refine (r8At_any _ _ _ _ 4 _ (by omega) (by omega) (by omega) ((hb1.below B).below (alb _ _))).mono ?_
  rintro e w16 ⟨n, rfl, h8, h9, rfl⟩
  obtain ⟨u, rfl⟩ := Int.eq_ofNat_of_zero_le h8
  go_wp2_with fail
  refine (r8At_any _ _ _ _ 5 _ (by omega) (by omega) (by omega) ((hb1.below B).below (alb _ _))).mono ?_
  rintro e w16 ⟨n, rfl, h10, h11, rfl⟩
  obtain ⟨v, rfl⟩ := Int.eq_ofNat_of_zero_le h10
  go_wp2_with fail
  refine (greyAt_ok _ wd2 hi2 a24 c24 bs24 u v (by omega) (by omega) (P24.below (alb _ _))).mono ?_
  rintro e w16 ⟨rfl, hb⟩
  obtain ⟨own, eo⟩ : ∃ o, o = bs24.getD (ix u v wd2 hi2) 0 := ⟨_, rfl⟩
  rw [← eo]
  have EO := Lib.hid eo
  clear eo
  have t5 := t5.next hb
  have t24 := PBox.new P24 hb
  have B := bnext B (Nat.le_refl _) hb
  clear hb
  obtain ⟨x0, x1, x2⟩ := t5.cells
  go_wp2_with fail
  refine (greyAt_ok' _ wd hi a c bs (x + u) (y + v) _ _ (by omega) (by omega) (by omega) (by omega) t5.ok).mono ?_
  rintro e w17 ⟨rfl, hb⟩
  obtain ⟨told, et⟩ : ∃ o, o = bs.getD (ix ((x : Int) + u) ((y : Int) + v) wd hi) 0 := ⟨_, rfl⟩
  rw [← et]
  have ht1 : told < 4294967296 := by rw [et]; exact slf_pos t5.ok.sl _
  have ho1 : own < 4294967296 := by rw [EO.out]; exact slf_pos t24.ok.sl _
  have hsm : sm own told = true := by
    unfold sm
    rw [EO.out, et, decide_eq_true_eq, tab_ix ht24 u v rfl rfl (by omega) (by omega)]
    simp only [md1 (show u < wd2 by omega), md2 (show u < wd2 by omega)]
  clear et EO ht24 t24
  have t5 := t5.below hb
  have B := B.trans (hb.mono B.size)
  clear hb x0 x1 x2
  obtain ⟨x0, x1, x2⟩ := t5.cells
  go_wp2_with fail
  refine (put_ok _ wd hi a c bs x y 1056964608 (by omega) (by omega) (by omega) t5.ok).mono ?_
  rintro e w18 ⟨a32, c32, bs32, rfl, ho, ht32, hb⟩
  have P32 := ho.pic' ht32 P.v
  have B := B.trans (hb.mono B.size)
  clear hb ho x0 x1 x2
  go_wp2_with fail
  refine (greyAt_ok _ wd hi a32 c32 bs32 x y (by omega) (by omega) (P32.below (alb _ _))).mono ?_
  rintro e w19 ⟨rfl, hb⟩
  have hn : bs32.getD (ix x y wd hi) 0 = 1056964608 := by
    have e1 := tab_ix ht32 x y rfl rfl (by omega) (by omega)
    simp only [md1 (show x < wd by omega), md2 (show x < wd by omega), and_self, if_true] at e1
    have e2 : fl 1056964608 = 1056964608 := by decide
    rw [e2] at e1
    cases hx : nan32 (bs32.getD (ix x y wd hi) 0)
    · rwa [fl_eq hx] at e1
    · rw [fl_nan hx] at e1; omega
  rw [hn]
  clear hn ht32
  have B := bnext B (Nat.le_refl _) hb
  clear hb
  go_wp2_with fail
  refine (same_any _ _ _ ho1 ht1).mono ?_
  rintro e w20 ⟨rfl, rfl⟩
  rw [hsm]
  clear hsm
  go_wp2_with fail
  refine (r8Picture_any _ _ _ _ (hb0.below B)).mono ?_
  rintro e w21 ⟨wq, hq, aq, cq, bq, rfl, g1, g2, g3, g4, g5, ho, hk, hb⟩
  have PQ := ho.pic g5 (by omega) (by omega) g3 (by omega) (by have := mul_le_six g2 g4; omega)
  have B := B.trans (hb.mono B.size)
  have G5 := Lib.hid g5
  clear hb ho g5
  obtain ⟨wD, eW⟩ : ∃ n : Nat, n = 2 * wq := ⟨_, rfl⟩
  obtain ⟨hD, eH⟩ : ∃ n : Nat, n = 2 * hq := ⟨_, rfl⟩
  have hDs : szOk wD hD = true := szOk_of (by omega) (by omega) (by omega) (by omega) (by have := mul_le_six g2 g4; rw [eW, eH]; have e : ((2 * wq : Nat) : Int) * ((2 * hq : Nat) : Int) = ((4 * (wq * hq) : Nat) : Int) := (by rw [show 4 * (wq * hq) = (2 * wq) * (2 * hq) by rw [Nat.mul_mul_mul_comm]]; exact (Int.natCast_mul _ _).symm); rw [e]; omega)
  have hvD : vPic wD hD (wD * hD) = true := vPic_of (by omega) (by omega) (by omega) (by omega) (by have := (szOk_spec hDs).2.2.2.2; exact_mod_cast this)
  have eW1 : 2 * (wq : Int) = wD := by omega
  have eH1 : 2 * (hq : Int) = hD := by omega
  have eW2 : (wD + 1) / 2 = wq := by omega
  have eH2 : (hD + 1) / 2 = hq := by omega
  have EW := Lib.hid eW
  have EH := Lib.hid eH
  have EW1 := Lib.hid eW1
  have EH1 := Lib.hid eH1
  have EW2 := Lib.hid eW2
  have EH2 := Lib.hid eH2
  have hd1 : wD ≤ 12 := by omega
  have hd2 : hD ≤ 8 := by omega
  clear eW eH eW1 eH1 eW2 eH2 hDs
  go_wp2_with fail
  refine (double_ok' _ wq hq aq cq bq wD hD _ _ EW1.out EH1.out (by have := hvD; unfold vPic at this; rw [Bool.and_eq_true] at this; exact this.1) (PQ.below (alb _ _))).mono ?_
  rintro e w22 ⟨ad, cd, bd, rfl, ho, htd, hb⟩
  have tq := PBox.new PQ hb
  have PD := ho.pic' htd hvD
  have B := bnext B (Nat.le_refl _) hb
  clear hb ho
  go_wp2_with fail
  refine (halve_ok' _ wD hD ad cd bd wq hq EW2.out EH2.out (PD.below (alb _ _))).mono ?_
  rintro e w23 ⟨ah, ch, bh, rfl, ho, hth, hb⟩
  have hsame := tab_same hth G5.out (fun x y hx hy => by simp only [md1 hx, md2 hx]; exact half_double hk G5.out EW.out EH.out htd hx hy)
  have tq := tq.next hb
  have PH := ho.pic' hth PQ.v
  have B := bnext B (Nat.le_refl _) hb
  clear hb ho hth htd
  obtain ⟨x0, x1, x2⟩ := tq.cellsA
  go_wp2_with fail
  refine (samePicture_yes _ _ _ _ _ _ _ _ _ bh bq (PH.below (alb _ _)).sl (tq.more _).ok.sl hsame).mono ?_
  rintro e w24 ⟨rfl, hb⟩
  have B := bnext B (Nat.le_refl _) hb
  clear hb hsame
  go_wp2
  go_ret
  exact ⟨rfl, B⟩

theorem fnTurns_long (w : World) (a0 a1 : Option Addr) (l0 c0 l1 c1 : Nat) (m0 : l0 ≤ 9223372036854775807) (m1 : l1 ≤ 9223372036854775807) (h : ¬ (l0 ≤ 48 ∧ l1 ≤ 48)) :
    Calls Try.prog 3 #[.slice a0 l0 c0, .slice a1 l1 c1] w fun e w' => e = .returned (.bool true) ∧ Below w.heap.size w w' := by
  go_enter Try.func3, Try.ntmps3
  go_wp2_with fail
  refine (r8Long_yes _ _ _ _ _ _ _ m0 m1 h).mono ?_
  rintro e w1 ⟨rfl, rfl⟩
  go_wp2
  go_ret
  exact ⟨rfl, Below.refl _ _⟩

theorem fnTurns_walk (w : World) (a0 a1 : Option Addr) (l0 c0 l1 c1 : Nat) (z0 z1 : List Int)
    (r0 : (a0 = none ∧ l0 = 0 ∧ c0 = 0 ∧ z0 = []) ∨ ∃ x, a0 = some x ∧ l0 ≤ c0 ∧ c0 ≤ maxLen ∧ z0.length = c0 ∧ (∀ i, i < z0.length → w.cell? (x.add i) = some (.int .u8 (z0.getD i 0))) ∧ ∀ n ∈ z0, (Lit.int .u8 n).wf = true)
    (r1 : (a1 = none ∧ l1 = 0 ∧ c1 = 0 ∧ z1 = []) ∨ ∃ x, a1 = some x ∧ l1 ≤ c1 ∧ c1 ≤ maxLen ∧ z1.length = c1 ∧ (∀ i, i < z1.length → w.cell? (x.add i) = some (.int .u8 (z1.getD i 0))) ∧ ∀ n ∈ z1, (Lit.int .u8 n).wf = true) :
    Calls Try.prog 3 #[.slice a0 l0 c0, .slice a1 l1 c1] w fun e w' => e = .returned (.bool true) ∧ Below w.heap.size w w' := by
  by_cases h : l0 ≤ 48 ∧ l1 ≤ 48
  · exact fnTurns_short w a0 a1 l0 c0 l1 c1 h.1 h.2 (bytesIn_of_row r0 (by omega)) (bytesIn_of_row r1 (by omega))
  · exact fnTurns_long w a0 a1 l0 c0 l1 c1 (len_of_row r0) (len_of_row r1) h

end Go.Proofs.Ytdaaookaphdnaaa
