/- Volumes mixed, shallow volumes, slices. -/
import Derived.Test.YtdeikjiflinkhaaWd
namespace Go.Proofs.Ytdeikjiflinkhaa
open Go.RowKit
set_option maxRecDepth 100000
set_option linter.unusedVariables false
set_option linter.unusedSimpArgs false

theorem alike_y (w : World) (wd hi dp : Nat) (sa sb : Option Addr) (n c c2 : Nat) (hv : vVol wd hi dp n = true) :
    Calls Try.prog 29 #[.agg #[.int .i64 wd, .int .i64 hi, .int .i64 dp, .slice sa n c], .agg #[.int .i64 wd, .int .i64 hi, .int .i64 dp, .slice sb n c2]] w fun e w' => e = .returned (.bool true) ∧ Below w.heap.size w w' := by
  obtain ⟨x1, x2, x3, e1, e2, e3, e4, b1, b2, b3, b4, b5, b6, b7, b8⟩ := vVol_spec hv
  have hn : n ≤ 2048 := by omega
  clear e1 e2 e3 e4 b1 b2 b3 b4 b5 b6 b7 b8
  have hb0 := below_two w (.cells #[.int .i64 wd, .int .i64 hi, .int .i64 dp, .slice sa n c] 26) (.cells #[.int .i64 wd, .int .i64 hi, .int .i64 dp, .slice sb n c2] 26)
  go_enter Try.func29, Try.ntmps29
  go_wp2_with fail
  refine (validVolume_any _ _ _ _ _ _ (by omega) _).mono ?_
  rw [hv]
  rintro e w1 ⟨rfl, hb1⟩
  obtain ⟨hc1, hf1⟩ := bcellV hb1
  have hz1 : w.heap.size + 1 < w1.heap.size := by have := hb1.size; simp at this; omega
  have hbb := hb0.trans (hb1.mono hb0.size)
  have hz1a : w.heap.size < w1.heap.size := by omega
  clear hb1 hb0
  go_wp2_with fail
  refine (validVolume_any _ _ _ _ _ _ (by omega) _).mono ?_
  rw [hv]
  rintro e w2 ⟨rfl, hb2⟩
  obtain ⟨hc2, hf2⟩ := bcellV hb2
  have hz2 : w.heap.size + 1 < w2.heap.size := by have := hb2.size; omega
  have hbc := hbb.trans (hb2.mono hbb.size)
  have hz2a : w.heap.size < w2.heap.size := by omega
  clear hb2 hbb
  go_wp2
  go_ret
  exact ⟨rfl, hbc⟩

/-- Sums of products that are told exactly. -/
def MixTold (bs bs2 : List Nat) (wd hi dp share less : Nat) (g : Nat → Nat → Nat → Nat) : Prop :=
  ∀ x y d, x < wd → y < hi → d < dp → ∃ p q r, floatBits .mul .f32 (gc bs wd dp x y d) share = some p ∧ floatBits .mul .f32 (gc bs2 wd dp x y d) less = some q ∧ floatBits .add .f32 p q = some r ∧ r < 4294967296 ∧ fl r = g x y d

theorem mix_gives {W0 : World} {pb sb pb2 lb wd hi dp b off n c b2 off2 n2 c2 share less : Nat} {bs bs2 : List Nat} {g : Nat → Nat → Nat → Nat} (hs : BoxN W0 sb #[.float .f32 share] 28) (hl : BoxN W0 lb #[.float .f32 less] 28) (hg : MixTold bs bs2 wd hi dp share less g) (h : VolAt W0 pb wd hi dp b off n c bs) (h2 : VolAt W0 pb2 wd hi dp b2 off2 n2 c2 bs2) (hw : wd ≤ 24) (hh : hi ≤ 24) (hd1 : 1 ≤ dp) (hd2 : dp ≤ 8) :
    Gives3 W0 (.func (.func 31) #[] #[.pointer (some ⟨pb, 0, none⟩), .pointer (some ⟨sb, 0, none⟩), .pointer (some ⟨pb2, 0, none⟩), .pointer (some ⟨lb, 0, none⟩)]) wd hi dp g := by
  refine ⟨31, _, rfl, Try.call31, fun x y d W hx hy hd hbW => ?_⟩
  have hp := h.below hbW
  have hp2 := h2.below hbW
  have K := Lib.hid (fun q => cell_quiet W pb wd hi dp b off n c bs x y x y rfl rfl hx hy hw hh hd1 hd2 hp q)
  have K1 := Lib.hid (fun q => cell_quiet W pb2 wd hi dp b2 off2 n2 c2 bs2 x y x y rfl rfl hx hy hw hh hd1 hd2 hp2 q)
  have hc := (hp.cost hx hy hd).1
  have hc2 := (hp2.cost hx hy hd).1
  have s0 := (hs.below hbW).cell 0
  have l0 := (hl.below hbW).cell 0
  obtain ⟨p, q, r, m1, m2, ad, hr, hfl⟩ := hg x y d hx hy hd
  have HFL := Lib.hid hfl
  generalize gc bs wd dp x y d = z at *
  generalize gc bs2 wd dp x y d = z2 at *
  generalize ic wd dp x y = k at *
  have b1 : (d : Int) < (dp : Int) := by omega
  have ar1 := fres_some m1
  have af1 := fdr_some m1
  have ar2 := fres_some m2
  have af2 := fdr_some m2
  have ar3 := fres_some ad
  have af3 := fdr_some ad
  have hd0 : ∀ W : World, W.drewN 0 = W := fun _ => rfl
  have s1 : W.cell? ⟨sb, 0, none⟩ = some (.float .f32 share) := s0
  have l1 : W.cell? ⟨lb, 0, none⟩ = some (.float .f32 less) := l0
  clear h h2 hp hp2 m1 m2 ad hg hs hl s0 l0 hfl
  show Calls _ _ #[.int .i64 x, .int .i64 y, .int .i64 d, .pointer (some ⟨pb, 0, none⟩), .pointer (some ⟨sb, 0, none⟩), .pointer (some ⟨pb2, 0, none⟩), .pointer (some ⟨lb, 0, none⟩)] _ _
  go_enter Try.func31, Try.ntmps31
  go_wp2_with fail
  go_quiet (first | with_reducible exact K.out _ | with_reducible exact K1.out _)
  go_wp2
  go_ret
  exact ⟨_, rfl, hr, HFL.out, below_drewN (Below.refl _ _) _⟩

set_option maxHeartbeats 1000000 in
theorem mix_w (w : World) (wd hi dp M q c q2 c2 share less : Nat) (bs bs2 : List Nat) (g : Nat → Nat → Nat → Nat) (hsub : floatBits .sub .f32 1065353216 share = some less) (hg : MixTold bs bs2 wd hi dp share less g) (hv : vVol wd hi dp M = true) (hp : MW w q c M bs) (hp2 : MW w q2 c2 M bs2) :
    Calls Try.prog 8 #[.agg #[.int .i64 wd, .int .i64 hi, .int .i64 dp, .slice (some ⟨q, 0, none⟩) M c], .agg #[.int .i64 wd, .int .i64 hi, .int .i64 dp, .slice (some ⟨q2, 0, none⟩) M c2], .float .f32 share] w (MakesVW w wd hi dp M g) := by
  obtain ⟨hpic, hM, d1, d2, d3, d4, d5, d6, d7, d8⟩ := vVol_pic hv
  have hb0 := ((below_two w (.cells #[.int .i64 wd, .int .i64 hi, .int .i64 dp, .slice (some ⟨q, 0, none⟩) M c] 26) (.cells #[.int .i64 wd, .int .i64 hi, .int .i64 dp, .slice (some ⟨q2, 0, none⟩) M c2] 26)).alloc (by simp; try omega) (.cells #[.float .f32 share] 28)).alloc (by simp; try omega) (.cells #[.int .i64 0, .int .i64 0, .int .i64 0, .slice none 0 0] 26)
  have B0 := BoxN.last w #[.int .i64 wd, .int .i64 hi, .int .i64 dp, .slice (some ⟨q, 0, none⟩) M c] 26
  replace B0 := B0.below (alb1 (w.alloc (.cells #[.int .i64 wd, .int .i64 hi, .int .i64 dp, .slice (some ⟨q, 0, none⟩) M c] 26)) (.cells #[.int .i64 wd, .int .i64 hi, .int .i64 dp, .slice (some ⟨q2, 0, none⟩) M c2] 26))
  replace B0 := B0.below (alb1 ((w.alloc (.cells #[.int .i64 wd, .int .i64 hi, .int .i64 dp, .slice (some ⟨q, 0, none⟩) M c] 26)).alloc (.cells #[.int .i64 wd, .int .i64 hi, .int .i64 dp, .slice (some ⟨q2, 0, none⟩) M c2] 26)) (.cells #[.float .f32 share] 28))
  replace B0 := B0.below (alb1 (((w.alloc (.cells #[.int .i64 wd, .int .i64 hi, .int .i64 dp, .slice (some ⟨q, 0, none⟩) M c] 26)).alloc (.cells #[.int .i64 wd, .int .i64 hi, .int .i64 dp, .slice (some ⟨q2, 0, none⟩) M c2] 26)).alloc (.cells #[.float .f32 share] 28)) (.cells #[.int .i64 0, .int .i64 0, .int .i64 0, .slice none 0 0] 26))
  have B1 := BoxN.last (w.alloc (.cells #[.int .i64 wd, .int .i64 hi, .int .i64 dp, .slice (some ⟨q, 0, none⟩) M c] 26)) #[.int .i64 wd, .int .i64 hi, .int .i64 dp, .slice (some ⟨q2, 0, none⟩) M c2] 26
  replace B1 := B1.below (alb1 ((w.alloc (.cells #[.int .i64 wd, .int .i64 hi, .int .i64 dp, .slice (some ⟨q, 0, none⟩) M c] 26)).alloc (.cells #[.int .i64 wd, .int .i64 hi, .int .i64 dp, .slice (some ⟨q2, 0, none⟩) M c2] 26)) (.cells #[.float .f32 share] 28))
  replace B1 := B1.below (alb1 (((w.alloc (.cells #[.int .i64 wd, .int .i64 hi, .int .i64 dp, .slice (some ⟨q, 0, none⟩) M c] 26)).alloc (.cells #[.int .i64 wd, .int .i64 hi, .int .i64 dp, .slice (some ⟨q2, 0, none⟩) M c2] 26)).alloc (.cells #[.float .f32 share] 28)) (.cells #[.int .i64 0, .int .i64 0, .int .i64 0, .slice none 0 0] 26))
  have hs1 : (w.alloc (.cells #[.int .i64 wd, .int .i64 hi, .int .i64 dp, .slice (some ⟨q, 0, none⟩) M c] 26)).heap.size = w.heap.size + 1 := by simp
  rw [hs1] at B1
  have B2 := BoxN.last ((w.alloc (.cells #[.int .i64 wd, .int .i64 hi, .int .i64 dp, .slice (some ⟨q, 0, none⟩) M c] 26)).alloc (.cells #[.int .i64 wd, .int .i64 hi, .int .i64 dp, .slice (some ⟨q2, 0, none⟩) M c2] 26)) #[.float .f32 share] 28
  replace B2 := B2.below (alb1 (((w.alloc (.cells #[.int .i64 wd, .int .i64 hi, .int .i64 dp, .slice (some ⟨q, 0, none⟩) M c] 26)).alloc (.cells #[.int .i64 wd, .int .i64 hi, .int .i64 dp, .slice (some ⟨q2, 0, none⟩) M c2] 26)).alloc (.cells #[.float .f32 share] 28)) (.cells #[.int .i64 0, .int .i64 0, .int .i64 0, .slice none 0 0] 26))
  have hs2 : ((w.alloc (.cells #[.int .i64 wd, .int .i64 hi, .int .i64 dp, .slice (some ⟨q, 0, none⟩) M c] 26)).alloc (.cells #[.int .i64 wd, .int .i64 hi, .int .i64 dp, .slice (some ⟨q2, 0, none⟩) M c2] 26)).heap.size = w.heap.size + 2 := by simp
  rw [hs2] at B2
  have B3 := BoxN.last (((w.alloc (.cells #[.int .i64 wd, .int .i64 hi, .int .i64 dp, .slice (some ⟨q, 0, none⟩) M c] 26)).alloc (.cells #[.int .i64 wd, .int .i64 hi, .int .i64 dp, .slice (some ⟨q2, 0, none⟩) M c2] 26)).alloc (.cells #[.float .f32 share] 28)) #[.int .i64 0, .int .i64 0, .int .i64 0, .slice none 0 0] 26
  have hs3 : (((w.alloc (.cells #[.int .i64 wd, .int .i64 hi, .int .i64 dp, .slice (some ⟨q, 0, none⟩) M c] 26)).alloc (.cells #[.int .i64 wd, .int .i64 hi, .int .i64 dp, .slice (some ⟨q2, 0, none⟩) M c2] 26)).alloc (.cells #[.float .f32 share] 28)).heap.size = w.heap.size + 3 := by simp
  rw [hs3] at B3
  have ar := fres_some hsub
  have af := fdr_some hsub
  have hd0 : ∀ W : World, W.drewN 0 = W := fun _ => rfl
  have HB0 := Lib.hid hb0
  have HP := Lib.hid hp
  have HP2 := Lib.hid hp2
  have HG := Lib.hid hg
  have HHM := Lib.hid hM
  have HV := Lib.hid hv
  have HB0_ := Lib.hid B0
  have HB1_ := Lib.hid B1
  have HB2_ := Lib.hid B2
  have HB3_ := Lib.hid B3
  clear hb0 hp hp2 hg hM hv hpic hsub B0 B1 B2 B3 hs1 hs2 hs3
  go_enter Try.func8, Try.ntmps8
  go_wp2_with fail
  refine (alike_y _ _ _ _ _ _ _ _ _ HV.out).mono ?_
  rintro e w1 ⟨rfl, hb1⟩
  have hbx := HB0.out.trans (hb1.mono HB0.out.size)
  have C0 := HB0_.out.below hb1
  have C1 := HB1_.out.below hb1
  have C2 := HB2_.out.below hb1
  have C3 := HB3_.out.below hb1
  have hsz1 := hb1.size
  have hz1 : w.heap.size + 3 < w1.heap.size := by simp at hsz1; omega
  have hz2 : w.heap.size < w1.heap.size := by omega
  have hz3 : w.heap.size + 1 < w1.heap.size := by omega
  have hz4 : w.heap.size + 1 + 1 < w1.heap.size := by omega
  have hz5 : w.heap.size + 1 + 1 + 1 < w1.heap.size := by omega
  obtain ⟨c0, c1, c2_, c3, -, -, -, -⟩ := C0.four
  have c4 := C2.cell 0
  have c5 : w1.cell? ⟨w.heap.size + 2, 0, none⟩ = some (.float .f32 share) := c4
  have ha := alb1 w1 (.cells #[.float .f32 less] 28)
  have BL := BoxN.last w1 #[.float .f32 less] 28
  have hb2 := hbx.trans (ha.mono hbx.size)
  have HG2 := Lib.hid (mix_gives (C2.below ha) BL HG.out (HP.out.vol hb2 HHM.out (C0.below ha)) (HP2.out.vol hb2 HHM.out (C1.below ha)) d2 d4 d6 d7)
  have HC3 := Lib.hid (C3.below ha)
  have HB2 := Lib.hid hb2
  have K := Lib.hid (revolume_ok _ wd hi dp M (some ⟨q, 0, none⟩) c _ _ HV.out HG2.out)
  clear C0 C1 C2 C3 c4 ha BL hb2 hbx hb1 hsz1
  go_wp2_with fail
  refine K.out.mono ?_
  rintro e w3 ⟨q', cc, bs', rfl, hown, hcon, hb3⟩
  obtain ⟨e0, e1, e2, e3, g0, g1, g2, g3⟩ := (HC3.out.below hb3).four
  have hlt3 := (HC3.out.below hb3).lt
  have hbb := HB2.out.trans (hb3.mono HB2.out.size)
  have hl := tab3_len2 HHM.out hcon
  rw [hl] at hown ⊢
  have hq := (hown.lt (k := q') rfl).1
  have hqs := Nat.le_trans HB2.out.size hq
  have hq3 : w.heap.size + 3 < q' := by simp at hq; omega
  have HCON := Lib.hid hcon
  have HL := Lib.hid hl
  clear hcon hq hl
  go_wp2
  refine bodyPost_ret (v := .tuple #[.agg #[.int .i64 wd, .int .i64 hi, .int .i64 dp, .slice (some ⟨q', 0, none⟩) M cc], .bool true]) (by simp [results, Try.results8, go_sem, e0, e1, e2, e3, hlt3]) rfl ?_
  have ho := ((((hown.set (by first | omega | (simp; done) | (simp; omega)) (.int .i64 wd) (a := ⟨w.heap.size + 3, 0, none⟩)).set (by first | omega | (simp; done) | (simp; omega)) (.int .i64 hi) (a := ⟨w.heap.size + 3, 1, none⟩)).set (by first | omega | (simp; done) | (simp; omega)) (.int .i64 dp) (a := ⟨w.heap.size + 3, 2, none⟩)).set (by first | omega | (simp; done) | (simp; omega)) (.slice (some ⟨q', 0, none⟩) M cc) (a := ⟨w.heap.size + 3, 3, none⟩))
  exact ⟨q', cc, bs', rfl, ⟨ho.sl, (ho.lt (k := q') rfl).2, HL.out⟩, HCON.out, hqs, (((hbb.setCell (by simp; try omega) _).setCell (by simp; try omega) _).setCell (by simp; try omega) _).setCell (by simp; try omega) _⟩

end Go.Proofs.Ytdeikjiflinkhaa
