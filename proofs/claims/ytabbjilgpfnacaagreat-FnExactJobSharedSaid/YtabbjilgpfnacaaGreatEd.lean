/- Volumes of two pictures, of any arguments: the program's SquareVolume, SizeVolume, DeskVolume. -/
import Derived.Test.YtabbjilgpfnacaaGreatEc
namespace Go.Proofs.YtabbjilgpfnacaaGreat
open Go.RowKit Ieee
set_option maxRecDepth 100000
set_option linter.unusedVariables false
set_option linter.unusedSimpArgs false

theorem andNot_absE (b : Nat) (hb : b < 4294967296) : bits .andNot .u32 (b : Int) 2147483648 = ((b % 2147483648 : Nat) : Int) := by
  show IntKind.u32.wrap ((BitVec.ofInt 32 ((b : Nat) : Int) &&& ~~~ BitVec.ofInt 32 2147483648).toNat : Int) = _
  have e1 : (~~~ BitVec.ofInt 32 2147483648 : BitVec 32) = BitVec.ofNat 32 2147483647 := by decide
  have e2 : b &&& 2147483647 = b % 2147483648 := Nat.and_two_pow_sub_one_eq_mod b 31
  rw [e1, BitVec.ofInt_natCast, BitVec.toNat_and, BitVec.toNat_ofNat, BitVec.toNat_ofNat, Nat.mod_eq_of_lt (by omega), show 2147483647 % 2 ^ 32 = 2147483647 from rfl, e2]
  have := Nat.mod_lt b (show 0 < 2147483648 by omega)
  show (((b % 2147483648 : Nat) : Int)) % 4294967296 = _
  omega

theorem abs_anyE (b : Nat) (hb : b < 4294967296) (w : World) : Calls Tryz.prog 67 #[.float .f32 b] w fun e w' => e = .returned (.float .f32 (b % 2147483648)) ∧ w = w' := by
  have e := andNot_absE b hb
  go_enter Tryz.func67, Tryz.ntmps67
  go_wp2
  go_ret
  exact ⟨by simp [e], rfl⟩

theorem size1_gives {W0 : World} {p1 p2 wd hi dp : Nat} {v1 v2 : Value} {bs1 bs2 : List Nat} (h1 : PicAt W0 p1 wd hi v1 bs1 35) (h2 : PicAt W0 p2 wd hi v2 bs2 35) (hw0 : 1 ≤ wd) (hh0 : 1 ≤ hi) (hw : wd ≤ 24) (hh : hi ≤ 24) (hd2 : dp ≤ 8) :
    Gives3 W0 (.func (.func 66) #[] #[.pointer (some ⟨p1, 0, none⟩), .pointer (some ⟨p2, 0, none⟩)]) wd hi dp (cmW false bs1 bs2 wd hi) := by
  refine ⟨66, _, rfl, Tryz.call66, fun x y d W hx hy hd hbW => ?_⟩
  have K1 := Lib.hid (fun W' (hb : Below W.heap.size W W') => about_any W' p1 wd hi v1 bs1 x y (by omega) (by omega) (by omega) (by omega) ((h1.below hbW).below hb))
  have K2 := Lib.hid (fun W' (hb : Below W.heap.size W W') => about_any W' p2 wd hi v2 bs2 ((x : Int) - d) y (by omega) (by omega) (by omega) (by omega) ((h2.below hbW).below hb))
  have e1 : IntKind.i64.wrap ((x : Int) - (d : Int)) = (x : Int) - (d : Int) := IntWalk.i64_in _ (by omega)
  have hg : cmW false bs1 bs2 wd hi x y d = abW (fop .sub (fl (bs1.getD (ix x y wd hi) 0)) (fl (bs2.getD (ix ((x : Int) - d) y wd hi) 0))) := rfl
  have HG := Lib.hid hg
  generalize bs1.getD (ix x y wd hi) 0 = z1 at *
  generalize bs2.getD (ix ((x : Int) - d) y wd hi) 0 = z2 at *
  clear h1 h2 hg hbW
  show Calls _ _ #[.int .i64 x, .int .i64 y, .int .i64 d, .pointer (some ⟨p1, 0, none⟩), .pointer (some ⟨p2, 0, none⟩)] _ _
  go_enter Tryz.func66, Tryz.ntmps66
  go_wp2_with fail
  refine (K1.out _ (Below.refl _ _)).mono ?_
  rintro e w' ⟨rfl, n, rfl⟩
  go_wp2_with fail
  refine (K2.out _ (below_drewN (Below.refl _ _) _)).mono ?_
  rintro e w' ⟨rfl, n2, rfl⟩
  go_wp2_with fail
  refine (abs_anyE _ (fres_lt _ _ _ _) _).mono ?_
  rintro e w' ⟨rfl, rfl⟩
  go_wp2_with fail
  go_ret
  refine ⟨_, rfl, by have := fres_lt .sub z1 z2 ((W.drewN n).drewN n2); omega, ?_, by first | exact below_drewN (Below.refl _ _) _ | exact below_drewN (below_drewN (Below.refl _ _) _) _ | exact below_drewN (below_drewN (below_drewN (Below.refl _ _) _) _) _⟩
  rw [HG.out, ← fl_fres .sub z1 z2 _, abW_fl]; rfl

theorem square1E {W0 : World} {p1 p2 wd hi dp : Nat} {v1 v2 : Value} {bs1 bs2 : List Nat} (h1 : PicAt W0 p1 wd hi v1 bs1 35) (h2 : PicAt W0 p2 wd hi v2 bs2 35) (hw0 : 1 ≤ wd) (hh0 : 1 ≤ hi) (hw : wd ≤ 24) (hh : hi ≤ 24) (hd2 : dp ≤ 8) :
    Gives3 W0 (.func (.func 69) #[] #[.pointer (some ⟨p1, 0, none⟩), .pointer (some ⟨p2, 0, none⟩)]) wd hi dp (cmW true bs1 bs2 wd hi) := by
  refine ⟨69, _, rfl, Tryz.call69, fun x y d W hx hy hd hbW => ?_⟩
  have K1 := Lib.hid (fun W' (hb : Below W.heap.size W W') => about_any W' p1 wd hi v1 bs1 x y (by omega) (by omega) (by omega) (by omega) ((h1.below hbW).below hb))
  have K2 := Lib.hid (fun W' (hb : Below W.heap.size W W') => about_any W' p2 wd hi v2 bs2 ((x : Int) - d) y (by omega) (by omega) (by omega) (by omega) ((h2.below hbW).below hb))
  have e1 : IntKind.i64.wrap ((x : Int) - (d : Int)) = (x : Int) - (d : Int) := IntWalk.i64_in _ (by omega)
  have hg : cmW true bs1 bs2 wd hi x y d = fop .mul (fop .sub (fl (bs1.getD (ix x y wd hi) 0)) (fl (bs2.getD (ix ((x : Int) - d) y wd hi) 0))) (fop .sub (fl (bs1.getD (ix x y wd hi) 0)) (fl (bs2.getD (ix ((x : Int) - d) y wd hi) 0))) := rfl
  have HG := Lib.hid hg
  generalize bs1.getD (ix x y wd hi) 0 = z1 at *
  generalize bs2.getD (ix ((x : Int) - d) y wd hi) 0 = z2 at *
  clear h1 h2 hg hbW
  show Calls _ _ #[.int .i64 x, .int .i64 y, .int .i64 d, .pointer (some ⟨p1, 0, none⟩), .pointer (some ⟨p2, 0, none⟩)] _ _
  go_enter Tryz.func69, Tryz.ntmps69
  go_wp2_with fail
  refine (K1.out _ (Below.refl _ _)).mono ?_
  rintro e w' ⟨rfl, n, rfl⟩
  go_wp2_with fail
  refine (K2.out _ (below_drewN (Below.refl _ _) _)).mono ?_
  rintro e w' ⟨rfl, n2, rfl⟩
  go_wp2_with fail
  go_ret
  exact ⟨_, rfl, fres_lt _ _ _ _, by rw [fl_fres, fl_fres]; exact HG.out.symm, by first | exact below_drewN (Below.refl _ _) _ | exact below_drewN (below_drewN (Below.refl _ _) _) _ | exact below_drewN (below_drewN (below_drewN (Below.refl _ _) _) _) _⟩

set_option maxHeartbeats 1000000 in
theorem pairVolume_gen (w : World) (p q : Tri) (dp : Int) (fv : Value) (L : List Nat) (hl : p.l ≤ 9223372036854775807) (hl2 : q.l ≤ 9223372036854775807)
    (hg : ∀ wd hi k : Nat, pairD p q dp = true → p.a = wd → p.b = hi → dp = k → ∃ g, Gives3 w fv wd hi k g ∧ L = tabV wd k g (hi * wd * k)) :
    Calls Tryz.prog 65 #[.agg #[.int .i64 p.a, .int .i64 p.b, .slice p.s p.l p.c], .agg #[.int .i64 q.a, .int .i64 q.b, .slice q.s q.l q.c], .int .i64 dp, fv] w (VRes (if pairD p q dp then ⟨true, p.a, p.b, dp, L⟩ else noVol) w) := by
  obtain ⟨W0, hW0⟩ : ∃ W0, W0 = ((w.alloc (.cells #[.int .i64 p.a, .int .i64 p.b, .slice p.s p.l p.c] 35)).alloc (.cells #[.int .i64 q.a, .int .i64 q.b, .slice q.s q.l q.c] 35)).alloc (.cells #[.int .i64 0, .int .i64 0, .int .i64 0, .slice none 0 0] 62) := ⟨_, rfl⟩
  have hb0 : Below w.heap.size w W0 := by rw [hW0]; exact (below_two w _ _).alloc (by simp; omega) _
  have A1 : Box3 W0 w.heap.size (.int .i64 p.a) (.int .i64 p.b) (.slice p.s p.l p.c) 35 := by rw [hW0]; exact (box_first w _ _ _ _ _).below ((Below.refl _ _).alloc (Nat.le_refl _) _)
  have BZ : BoxN W0 (w.heap.size + 2) #[.int .i64 0, .int .i64 0, .int .i64 0, .slice none 0 0] 62 := by rw [hW0]; have := BoxN.last ((w.alloc (.cells #[.int .i64 p.a, .int .i64 p.b, .slice p.s p.l p.c] 35)).alloc (.cells #[.int .i64 q.a, .int .i64 q.b, .slice q.s q.l q.c] 35)) #[.int .i64 0, .int .i64 0, .int .i64 0, .slice none 0 0] 62; simpa using this
  have KP := Lib.hid (pairOk_gen W0 p q hl hl2)
  have KI := Lib.hid (fun w => in_any dp 1 8 w)
  have HW0 := Lib.hid hW0
  have HB := Lib.hid (And.intro hb0 (And.intro A1 BZ))
  cases h1 : pairV p q
  · have e0 : pairD p q dp = false := by unfold pairD; rw [h1]; rfl
    rw [e0, if_neg (by simp)]
    rw [h1] at KP
    clear hW0 hb0 A1 BZ hg h1 e0 hl hl2
    go_enter Tryz.func65, Tryz.ntmps65
    go_wp2_with fail
    rw [← HW0.out]
    refine KP.out.mono ?_
    rintro e w1 ⟨rfl, hb1⟩
    obtain ⟨d0, d1, d2, d3, g0, g1, g2, g3⟩ := (HB.out.2.2.below hb1).four
    have hlt3 := (HB.out.2.2.below hb1).lt
    have HF := Lib.hid (HB.out.1.trans (hb1.mono HB.out.1.size))
    clear hb1
    go_wp2
    first
      | (go_ret2; exact VRes.no HF.out)
      | (refine bodyPost_ret (v := .tuple #[.agg #[.int .i64 0, .int .i64 0, .int .i64 0, .slice none 0 0], .bool false]) (by simp [results, Tryz.results65, go_sem, d0, d1, d2, d3, hlt3]) rfl ?_
         refine VRes.no ?_
         first | exact HF.out | exact (((HF.out.setCell (by simp; omega) _).setCell (by simp; omega) _).setCell (by simp; omega) _).setCell (by simp; omega) _)
  · cases h2 : (decide ((1 : Int) ≤ dp) && decide (dp ≤ 8))
    · have e0 : pairD p q dp = false := by unfold pairD; rw [h1, h2]; rfl
      rw [e0, if_neg (by simp)]
      rw [h1] at KP
      rw [h2] at KI
      clear hW0 hb0 A1 BZ hg h1 e0 h2 hl hl2
      go_enter Tryz.func65, Tryz.ntmps65
      go_wp2_with fail
      rw [← HW0.out]
      refine KP.out.mono ?_
      rintro e w1 ⟨rfl, hb1⟩
      obtain ⟨d0, d1, d2, d3, g0, g1, g2, g3⟩ := (HB.out.2.2.below hb1).four
      have hlt3 := (HB.out.2.2.below hb1).lt
      have HF := Lib.hid (HB.out.1.trans (hb1.mono HB.out.1.size))
      clear hb1
      go_wp2_with fail
      refine (KI.out _).mono ?_
      rintro e w' ⟨rfl, rfl⟩
      go_wp2
      first
        | (go_ret2; exact VRes.no HF.out)
        | (refine bodyPost_ret (v := .tuple #[.agg #[.int .i64 0, .int .i64 0, .int .i64 0, .slice none 0 0], .bool false]) (by simp [results, Tryz.results65, go_sem, d0, d1, d2, d3, hlt3]) rfl ?_
           refine VRes.no ?_
           first | exact HF.out | exact (((HF.out.setCell (by simp; omega) _).setCell (by simp; omega) _).setCell (by simp; omega) _).setCell (by simp; omega) _)
    · have e0 : pairD p q dp = true := by unfold pairD; rw [h1, h2]; rfl
      rw [e0, if_pos rfl]
      rw [h1] at KP
      rw [h2] at KI
      obtain ⟨wd, hi, k, e1, e2, e3, e4, e5, e6, e7, e8, e9, e10, e11, e12, e13, e14⟩ := pairD_spec e0
      obtain ⟨g, hf, hL⟩ := hg wd hi k e0 e1 e2 e5
      have HFG := Lib.hid (hf.below hb0)
      have HL := Lib.hid hL
      rw [e1, e2] at HB
      have HE := Lib.hid (And.intro e9 (And.intro e11 e14))
      rw [e1, e2, e5]
      rw [e5] at KI
      rw [e1, e2] at HW0
      have KP1 := KP.out
      rw [e1, e2] at KP1
      have KP2 := Lib.hid KP1
      clear hW0 hb0 A1 BZ hg h1 e0 h2 hl hl2 e1 e2 e3 e4 e5 e6 e7 e8 e9 e10 e11 e12 e13 e14 hf hL KP KP1
      go_enter Tryz.func65, Tryz.ntmps65
      go_wp2_with fail
      rw [← HW0.out]
      refine KP2.out.mono ?_
      rintro e w1 ⟨rfl, hb1⟩
      obtain ⟨z0, z1, z2, -, -, -⟩ := (HB.out.2.1.below hb1).cells
      have KV := Lib.hid (volumeOf_any w1 wd hi k fv g HE.out.1 HE.out.2.1 HE.out.2.2 (HFG.out.below hb1))
      have HB1 := Lib.hid (HB.out.1.trans (hb1.mono HB.out.1.size))
      have HZ := Lib.hid (HB.out.2.2.below hb1)
      clear hb1
      go_wp2_with fail
      refine (KI.out _).mono ?_
      rintro e w' ⟨rfl, rfl⟩
      go_wp2_with fail
      refine KV.out.mono ?_
      rintro e w2 ⟨s, cc, bs, rfl, hm, hcon, hb2⟩
      obtain ⟨d0, d1, d2, d3, g0, g1, g2, g3⟩ := (HZ.out.below hb2).four
      have hlt3 := (HZ.out.below hb2).lt
      have hlt4 : w.heap.size + 1 + 1 < w2.heap.size := hlt3
      have hbb := HB1.out.trans (hb2.mono HB1.out.size)
      have hsz := HZ.out.lt
      have HCON := Lib.hid hcon
      have HMM := Lib.hid hm
      have HS1 := Lib.hid HB1.out.size
      clear hcon hm
      go_wp2
      refine bodyPost_ret (v := .tuple #[.agg #[.int .i64 wd, .int .i64 hi, .int .i64 k, .slice s bs.length cc], .bool true]) (by simp [results, Tryz.results65, go_sem, d0, d1, d2, d3, hlt3]) rfl ?_
      refine ⟨s, cc, bs, rfl, (((((HMM.out.set (by simp; omega) _).set (by simp; omega) _).set (by simp; omega) _).set (by simp; omega) _)).mono HS1.out, by rw [HCON.out, HL.out]; rfl, (((hbb.setCell (by first | omega | (simp; done) | (simp; omega)) _).setCell (by first | omega | (simp; done) | (simp; omega)) _).setCell (by first | omega | (simp; done) | (simp; omega)) _).setCell (by first | omega | (simp; done) | (simp; omega)) _⟩

theorem VRes.of_box {t : VolT} {w W0 w2 : World} {b c : Nat} {s : Option Addr} {bs : List Nat} (hb0 : Below w.heap.size w W0) (hlt : b < W0.heap.size) (hge : w.heap.size ≤ b) (ho : OwnF w2 W0.heap.size (.slice s bs.length c) bs) (hc : bs.map fl = t.L) (hb : Below W0.heap.size W0 w2) (x y z u : Value) :
    VRes t w (.returned (.tuple #[.agg #[.int .i64 t.a, .int .i64 t.b, .int .i64 t.d, .slice s bs.length c], .bool t.ok])) ((((w2.setCell ⟨b, 0, none⟩ x).setCell ⟨b, 1, none⟩ y).setCell ⟨b, 2, none⟩ z).setCell ⟨b, 3, none⟩ u) :=
  ⟨s, c, bs, rfl, (own_set4 ho hlt _ _ _ _).mono hb0.size, hc, below_set4 (hb0.trans (hb.mono hb0.size)) hge _ _ _ _⟩

theorem square_gen (w : World) (p q : Tri) (dp : Int) (xs ys : List Nat) (hp : SlF w (.slice p.s p.l p.c) xs) (hq : SlF w (.slice q.s q.l q.c) ys) :
    Calls Tryz.prog 47 #[.agg #[.int .i64 p.a, .int .i64 p.b, .slice p.s p.l p.c], .agg #[.int .i64 q.a, .int .i64 q.b, .slice q.s q.l q.c], .int .i64 dp] w (VRes (pairT true p q dp xs ys) w) := by
  obtain ⟨W0, hW0⟩ : ∃ W, W = ((w.alloc (.cells #[.int .i64 p.a, .int .i64 p.b, .slice p.s p.l p.c] 35)).alloc (.cells #[.int .i64 q.a, .int .i64 q.b, .slice q.s q.l q.c] 35)).alloc (.cells #[.int .i64 0, .int .i64 0, .int .i64 0, .slice none 0 0] 62) := ⟨_, rfl⟩
  obtain ⟨hb0, B1, B2, BZ⟩ := threeE hW0
  have KP := Lib.hid (pairVolume_gen W0 p q dp (.func (.func 69) #[] #[.pointer (some ⟨w.heap.size, 0, none⟩), .pointer (some ⟨w.heap.size + 1, 0, none⟩)]) (tabV p.a.toNat dp.toNat (cmW true xs ys p.a.toNat p.b.toNat) (p.b.toNat * p.a.toNat * dp.toNat)) hp.leE.2 hq.leE.2 (fun wd hi k hd f1 f2 f3 => by
    obtain ⟨wd', hi', k', e1, e2, e3, e4, e5, e6, e7, e8, e9, e10, e11, e12, e13, e14⟩ := pairD_spec hd
    obtain rfl : wd' = wd := by omega
    obtain rfl : hi' = hi := by omega
    obtain rfl : k' = k := by omega
    refine ⟨cmW true xs ys wd' hi', ?_, by rw [f1, f2, f3]; simp⟩
    rw [e1, e2] at B1
    rw [e3, e4] at B2
    exact square1E (v1 := .slice p.s p.l p.c) (v2 := .slice q.s q.l q.c) ⟨B1, hp.below hb0, by rw [hp.leE.1, e6]⟩ ⟨B2, hq.below hb0, by rw [hq.leE.1, e7]⟩ e8 e10 e9 e11 e14))
  rw [show (if pairD p q dp then (⟨true, p.a, p.b, dp, tabV p.a.toNat dp.toNat (cmW true xs ys p.a.toNat p.b.toNat) (p.b.toNat * p.a.toNat * dp.toNat)⟩ : VolT) else noVol) = pairT true p q dp xs ys from rfl] at KP
  obtain ⟨t, ht⟩ : ∃ t, pairT true p q dp xs ys = t := ⟨_, rfl⟩
  rw [ht] at KP ⊢
  have HW0 := Lib.hid hW0
  have HB := Lib.hid (And.intro hb0 BZ)
  obtain ⟨z0, z1, z2, -, -, -⟩ := B1.cells
  obtain ⟨y0, y1, y2, -, -, -⟩ := B2.cells
  rw [hW0] at z0 z1 z2 y0 y1 y2
  clear hW0 hb0 B1 B2 BZ hp hq ht
  go_enter Tryz.func47, Tryz.ntmps47
  go_wp2_with fail
  rw [← HW0.out]
  refine KP.out.mono ?_
  rintro e w2 ⟨s, c, bs, rfl, ho, hc, hb2⟩
  have hz := HB.out.2.below hb2
  obtain ⟨d0, d1, d2, d3, g0, g1, g2, g3⟩ := hz.four
  have hlt3 := hz.lt
  have hz0 := HB.out.2.lt
  have HF := Lib.hid (And.intro ho (And.intro hc hb2))
  clear ho hc hb2 hz z0 z1 z2 y0 y1 y2
  go_wp2_with fail
  refine bodyPost_ret (v := .tuple #[.agg #[.int .i64 t.a, .int .i64 t.b, .int .i64 t.d, .slice s bs.length c], .bool t.ok]) (by simp [results, Tryz.results47, go_sem, d0, d1, d2, d3, hlt3]) rfl ?_
  exact VRes.of_box HB.out.1 hz0 (by omega) HF.out.1 HF.out.2.1 HF.out.2.2 _ _ _ _

theorem size_gen (w : World) (p q : Tri) (dp : Int) (xs ys : List Nat) (hp : SlF w (.slice p.s p.l p.c) xs) (hq : SlF w (.slice q.s q.l q.c) ys) :
    Calls Tryz.prog 46 #[.agg #[.int .i64 p.a, .int .i64 p.b, .slice p.s p.l p.c], .agg #[.int .i64 q.a, .int .i64 q.b, .slice q.s q.l q.c], .int .i64 dp] w (VRes (pairT false p q dp xs ys) w) := by
  obtain ⟨W0, hW0⟩ : ∃ W, W = ((w.alloc (.cells #[.int .i64 p.a, .int .i64 p.b, .slice p.s p.l p.c] 35)).alloc (.cells #[.int .i64 q.a, .int .i64 q.b, .slice q.s q.l q.c] 35)).alloc (.cells #[.int .i64 0, .int .i64 0, .int .i64 0, .slice none 0 0] 62) := ⟨_, rfl⟩
  obtain ⟨hb0, B1, B2, BZ⟩ := threeE hW0
  have KP := Lib.hid (pairVolume_gen W0 p q dp (.func (.func 66) #[] #[.pointer (some ⟨w.heap.size, 0, none⟩), .pointer (some ⟨w.heap.size + 1, 0, none⟩)]) (tabV p.a.toNat dp.toNat (cmW false xs ys p.a.toNat p.b.toNat) (p.b.toNat * p.a.toNat * dp.toNat)) hp.leE.2 hq.leE.2 (fun wd hi k hd f1 f2 f3 => by
    obtain ⟨wd', hi', k', e1, e2, e3, e4, e5, e6, e7, e8, e9, e10, e11, e12, e13, e14⟩ := pairD_spec hd
    obtain rfl : wd' = wd := by omega
    obtain rfl : hi' = hi := by omega
    obtain rfl : k' = k := by omega
    refine ⟨cmW false xs ys wd' hi', ?_, by rw [f1, f2, f3]; simp⟩
    rw [e1, e2] at B1
    rw [e3, e4] at B2
    exact size1_gives (v1 := .slice p.s p.l p.c) (v2 := .slice q.s q.l q.c) ⟨B1, hp.below hb0, by rw [hp.leE.1, e6]⟩ ⟨B2, hq.below hb0, by rw [hq.leE.1, e7]⟩ e8 e10 e9 e11 e14))
  rw [show (if pairD p q dp then (⟨true, p.a, p.b, dp, tabV p.a.toNat dp.toNat (cmW false xs ys p.a.toNat p.b.toNat) (p.b.toNat * p.a.toNat * dp.toNat)⟩ : VolT) else noVol) = pairT false p q dp xs ys from rfl] at KP
  obtain ⟨t, ht⟩ : ∃ t, pairT false p q dp xs ys = t := ⟨_, rfl⟩
  rw [ht] at KP ⊢
  have HW0 := Lib.hid hW0
  have HB := Lib.hid (And.intro hb0 BZ)
  obtain ⟨z0, z1, z2, -, -, -⟩ := B1.cells
  obtain ⟨y0, y1, y2, -, -, -⟩ := B2.cells
  rw [hW0] at z0 z1 z2 y0 y1 y2
  clear hW0 hb0 B1 B2 BZ hp hq ht
  go_enter Tryz.func46, Tryz.ntmps46
  go_wp2_with fail
  rw [← HW0.out]
  refine KP.out.mono ?_
  rintro e w2 ⟨s, c, bs, rfl, ho, hc, hb2⟩
  have hz := HB.out.2.below hb2
  obtain ⟨d0, d1, d2, d3, g0, g1, g2, g3⟩ := hz.four
  have hlt3 := hz.lt
  have hz0 := HB.out.2.lt
  have HF := Lib.hid (And.intro ho (And.intro hc hb2))
  clear ho hc hb2 hz z0 z1 z2 y0 y1 y2
  go_wp2_with fail
  refine bodyPost_ret (v := .tuple #[.agg #[.int .i64 t.a, .int .i64 t.b, .int .i64 t.d, .slice s bs.length c], .bool t.ok]) (by simp [results, Tryz.results46, go_sem, d0, d1, d2, d3, hlt3]) rfl ?_
  exact VRes.of_box HB.out.1 hz0 (by omega) HF.out.1 HF.out.2.1 HF.out.2.2 _ _ _ _

end Go.Proofs.YtabbjilgpfnacaaGreat
