/- PathOver, SumOver over a flat picture. -/
import Derived.Test.YtfhlpabbacopjaaOv
namespace Go.Proofs.Ytfhlpabbacopjaa
open Go.RowKit
set_option maxRecDepth 100000
set_option linter.unusedVariables false
set_option linter.unusedSimpArgs false

theorem over_any (w : World) (vo vm gb : Nat) :
    Calls Try.prog 80 #[.agg #[.float .f32 vo, .float .f32 vm], .pointer (some ⟨gb, 0, none⟩)] w fun e w' => e = .returned (.func (.func 103) #[] #[.pointer (some ⟨w.heap.size, 0, none⟩), .pointer (some ⟨w.heap.size + 1, 0, none⟩)]) ∧
      BoxN w' w.heap.size #[.float .f32 vo, .float .f32 vm] 30 ∧ w'.cell? ⟨w.heap.size + 1, 0, none⟩ = some (.pointer (some ⟨gb, 0, none⟩)) ∧ w.heap.size + 1 < w'.heap.size ∧ Below w.heap.size w w' := by
  go_enter Try.func80, Try.ntmps80
  go_wp2
  go_ret
  exact ⟨rfl, BoxN.first w _ _ _, by simp [go_sem], by simp, below_two w _ _⟩

/-- A flat picture that came in. -/
structure FQ (W : World) (wd hi g c : Nat) (gs : List Nat) : Prop where
  sl : SlF W (.slice (some ⟨g, 0, none⟩) (wd * hi) c) gs
  two : ∀ i, i < gs.length → gs.getD i 0 = 1073741824
theorem FQ.below {W W' : World} {wd hi g c : Nat} {gs : List Nat} (h : FQ W wd hi g c gs) (hb : Below W.heap.size W W') : FQ W' wd hi g c gs := ⟨h.sl.below hb, h.two⟩
theorem FQ.at {W W' : World} {wd hi g c gb : Nat} {gs : List Nat} (h : FQ W wd hi g c gs) (hb : Below W.heap.size W W') (hx : BoxN W' gb #[.int .i64 wd, .int .i64 hi, .slice (some ⟨g, 0, none⟩) (wd * hi) c] 60) : FlatAt W' gb wd hi (.slice (some ⟨g, 0, none⟩) (wd * hi) c) gs := ⟨⟨hx.three, h.sl.below hb, h.sl.size.1⟩, h.two⟩

set_option maxHeartbeats 4000000 in
theorem pathOver_ok (w : World) (wd hi dp b off c k g gc_ : Nat) (bs gs : List Nat) (own : Int → Int → List Int) (one more : Int)
    (h : VolOk w wd hi dp b off c bs) (hblt : b < w.heap.size) (hq : QV bs wd hi dp own) (hk : k < 8) (hqb : ∀ x y, insI x y wd hi → qb2 (own x y)) (h1 : 0 ≤ one) (h2 : one ≤ more) (h3 : more ≤ 64) (hg : FQ w wd hi g gc_ gs) :
    Calls Try.prog 35 #[.agg #[.int .i64 wd, .int .i64 hi, .int .i64 dp, .slice (some ⟨b, off, none⟩) bs.length c], .agg #[.float .f32 (fq 2 one), .float .f32 (fq 2 more)], .agg #[.int .i64 wd, .int .i64 hi, .slice (some ⟨g, 0, none⟩) (wd * hi) gc_], .int .i64 k] w (MakesAlOk w wd hi dp (wayX k) (wayY k) (pathG (fun _ _ _ _ => (one, more)) (wayX k) (wayY k)) own (PathOkI own dp)) := by
  obtain ⟨d1, d2, d3, d4, d5, d6, d7, d8⟩ := h.dims
  have K := Lib.hid (fun W => pathOk_yes W wd hi dp k (some ⟨b, off, none⟩) bs.length c one more h.vl hk h1 h2 (by omega))
  have hvp : vPic wd hi (wd * hi) = true := vPic_of d1 d3 d2 d4 d7
  have K2 := Lib.hid (fun W => overOk_yes W wd hi dp (some ⟨b, off, none⟩) (some ⟨g, 0, none⟩) bs.length c (wd * hi) gc_ d3 d4 (by omega) hvp)
  have KO := Lib.hid (fun W => over_any W (fq 2 one) (fq 2 more))
  have hb0 := ((below_two w (.cells #[.int .i64 wd, .int .i64 hi, .int .i64 dp, .slice (some ⟨b, off, none⟩) bs.length c] 26) (.cells #[.float .f32 (fq 2 one), .float .f32 (fq 2 more)] 30)).alloc (by simp; omega) (.cells #[.int .i64 wd, .int .i64 hi, .slice (some ⟨g, 0, none⟩) (wd * hi) gc_] 60)).alloc (by simp; omega) (.cells #[.int .i64 0, .int .i64 0, .int .i64 0, .slice none 0 0] 26)
  have hbx : BoxN ((((w.alloc (.cells #[.int .i64 wd, .int .i64 hi, .int .i64 dp, .slice (some ⟨b, off, none⟩) bs.length c] 26)).alloc (.cells #[.float .f32 (fq 2 one), .float .f32 (fq 2 more)] 30)).alloc (.cells #[.int .i64 wd, .int .i64 hi, .slice (some ⟨g, 0, none⟩) (wd * hi) gc_] 60)).alloc (.cells #[.int .i64 0, .int .i64 0, .int .i64 0, .slice none 0 0] 26)) (w.heap.size + 2) #[.int .i64 wd, .int .i64 hi, .slice (some ⟨g, 0, none⟩) (wd * hi) gc_] 60 := by
    have := (BoxN.last ((w.alloc (.cells #[.int .i64 wd, .int .i64 hi, .int .i64 dp, .slice (some ⟨b, off, none⟩) bs.length c] 26)).alloc (.cells #[.float .f32 (fq 2 one), .float .f32 (fq 2 more)] 30)) #[.int .i64 wd, .int .i64 hi, .slice (some ⟨g, 0, none⟩) (wd * hi) gc_] 60).below ((Below.refl _ _).alloc (Nat.le_refl _) (.cells #[.int .i64 0, .int .i64 0, .int .i64 0, .slice none 0 0] 26))
    simpa using this
  have KF := Lib.hid (hg.at hb0 hbx)
  have H := Lib.hid h
  have KG := Lib.hid (fun w0 wd hi pb gpb gb gw gh v bs => over_gives w0 wd hi pb gpb gb gw gh v bs one more h1 h2 h3)
  generalize wd * hi = M at *
  generalize hVO : fq 2 one = vo at *
  generalize hVM : fq 2 more = vm at *
  clear hVO hVM h hbx hg hvp
  go_enter Try.func35, Try.ntmps35
  go_wp2_with fail
  refine (K.out _).mono ?_
  rintro e w1 ⟨rfl, hb1⟩
  obtain ⟨hc1, hf1⟩ := bcellV hb1
  have hz1 : w.heap.size + 3 < w1.heap.size := by have := hb1.size; simp at this; omega
  have hz1a : w.heap.size + 2 < w1.heap.size := by omega
  have hz1b : w.heap.size + 1 < w1.heap.size := by omega
  have hz1c : w.heap.size < w1.heap.size := by omega
  have KF1 := Lib.hid (KF.out.below hb1)
  have hbb := hb0.trans (hb1.mono hb0.size)
  clear hb1 KF hb0
  go_wp2_with fail
  refine (K2.out _).mono ?_
  rintro e w2 ⟨rfl, hb2⟩
  obtain ⟨hc2, hf2⟩ := bcellV hb2
  have hz2 : w.heap.size + 3 < w2.heap.size := by have := hb2.size; omega
  have hz2a : w.heap.size + 2 < w2.heap.size := by omega
  have hz2b : w.heap.size + 1 < w2.heap.size := by omega
  have hz2c : w.heap.size < w2.heap.size := by omega
  have KF2 := Lib.hid (KF1.out.below hb2)
  have hbc := hbb.trans (hb2.mono hbb.size)
  have HBC := Lib.hid hbc
  clear hb2 hbb KF1 K K2
  go_wp2_with fail
  go_region_law (first
    | (go_simp; refine (KO.out _ _).mono ?_; rintro e w3 ⟨rfl, hx3, hp3, hl3, hb3⟩; have hb3' : Below w2.heap.size w2 w3 := ⟨hb3.os, hb3.tape, hb3.output, hb3.size, hb3.block⟩; obtain ⟨hc3, hf3⟩ := bcellV hb3'; have hz3 : w.heap.size + 3 < w3.heap.size := (by have := hb3'.size; omega); have hz3a : w.heap.size < w3.heap.size := (by omega); have HX3 := Lib.hid hx3; have HP3 := Lib.hid hp3; have HL3 := Lib.hid hl3; have HB3 := Lib.hid hb3'; clear hx3 hp3 hl3 hb3 hb3')
    | (go_simp; refine (path_any w3 wd hi dp b off c k bs own _ (fun _ _ _ _ => (one, more)) (H.out.below (HBC.out.trans (HB3.out.mono HBC.out.size))) (by omega) hq hk hqb (KG.out w3 wd hi _ _ (w.heap.size + 2) wd hi _ gs HX3.out HP3.out HL3.out (KF2.out.below HB3.out) (by omega) (by omega) d3 d4) (fun x y u t _ _ => ⟨h1, by show 0 ≤ more; omega, by show one ≤ _; omega, by show more ≤ _; omega⟩)).mono ?_; rintro e w4 ⟨q, cc, bs', P, rfl, hown, hqv, hal, hok, hb4⟩; obtain ⟨hc4, hf4⟩ := bcellV hb4; have hz4 : w.heap.size + 3 < w4.heap.size := (by have := hb4.size; omega); have HQ := Lib.hid hqv; have HA := Lib.hid hal; have HO := Lib.hid hok; have HB4 := Lib.hid hb4; clear hqv hal hok hb4))
  all_goals
    go_wp2
    refine bodyPost_ret (v := .tuple #[.agg #[.int .i64 wd, .int .i64 hi, .int .i64 dp, .slice (some ⟨q, 0, none⟩) bs'.length cc], .bool true]) (by simp [results, Try.results35, go_sem, hc4, hz4, hc3, hz3, hc2, hz2, hc1, hz1]) rfl ?_
    have hbd := (HBC.out.trans (HB3.out.mono HBC.out.size)).trans (HB4.out.mono (by omega))
    exact ⟨q, cc, bs', P, rfl, ((((hown.set (by first | omega | (simp; done) | (simp; omega)) _).set (by first | omega | (simp; done) | (simp; omega)) _).set (by first | omega | (simp; done) | (simp; omega)) _).set (by first | omega | (simp; done) | (simp; omega)) _).mono (by first | omega | (simp; done) | (simp; omega)), HQ.out, HA.out, HO.out, (((hbd.setCell (by first | omega | (simp; done) | (simp; omega)) _).setCell (by first | omega | (simp; done) | (simp; omega)) _).setCell (by first | omega | (simp; done) | (simp; omega)) _).setCell (by first | omega | (simp; done) | (simp; omega)) _⟩

end Go.Proofs.Ytfhlpabbacopjaa
