/- Pictures turned: mirror, flip, swap, shift, crop, flat, put, double. -/
import Derived.Test.YtialajgobpokmaaPic
namespace Go.Proofs.Ytialajgobpokmaa
open Go.RowKit
set_option maxRecDepth 100000
set_option linter.unusedVariables false
set_option linter.unusedSimpArgs false

theorem PicAt.pos {W : World} {pb wd hi : Nat} {v : Value} {bs : List Nat} {T : TypeId} (h : PicAt W pb wd hi v bs T) {i : Nat} (hi_ : i < wd * hi) : bs.getD i 0 < 4294967296 := by
  rw [← getD_of bs i (by rw [h.len]; exact hi_)]; exact h.sl.lt _

/-- A number read off a picture, and nothing else. -/
theorem gives_about {fid : FuncId} {caps : Array Value} {W0 : World} {pb wd hi : Nat} {v : Value} {bs : List Nat} {wd' hi' : Nat} (px py : Nat → Nat → Int) (h : PicAt W0 pb wd hi v bs 26) (hw : 0 < wd) (hh : 0 < hi)
    (hcall : ∀ args w, (callFunc fid args).run Try.prog w = .ok (.enter fid args) w)
    (hrun : ∀ (x y : Nat) (W : World), x < wd' → y < hi' → PicAt W pb wd hi v bs 26 → Below W0.heap.size W0 W → Calls Try.prog fid (#[.int .i64 x, .int .i64 y] ++ caps) W fun e w' => e = .returned (.float .f32 (bs.getD (ix (px x y) (py x y) wd hi) 0)) ∧ ∃ n, w' = W.drewN n) :
    Gives2 W0 (.func (.func fid) #[] caps) wd' hi' (fun x y => fl (bs.getD (ix (px x y) (py x y) wd hi) 0)) := by
  refine ⟨fid, caps, rfl, hcall, fun x y W hx hy hb => ?_⟩
  refine (hrun x y W hx hy (h.below hb) hb).mono ?_
  rintro e w' ⟨rfl, n, rfl⟩
  exact ⟨_, rfl, h.pos (ix_lt _ _ hw hh), rfl, below_drewN (Below.refl _ _) n⟩

theorem mirror_gives {W0 : World} {pb wd hi : Nat} {v : Value} {bs : List Nat} (h : PicAt W0 pb wd hi v bs 26) (hw : 0 < wd) (hh : 0 < hi) (hw2 : wd ≤ 24) (hh2 : hi ≤ 24) :
    Gives2 W0 (.func (.func 45) #[] #[.pointer (some ⟨pb, 0, none⟩)]) wd hi (fun x y => fl (bs.getD (ix ((wd : Int) - 1 - x) y wd hi) 0)) := by
  refine gives_about (fun x y => (wd : Int) - 1 - x) (fun x y => y) h hw hh Try.call45 fun x y W hx hy hp _ => ?_
  obtain ⟨c0, c1, c2, -, -, -⟩ := hp.box.cells
  have b1 : (wd : Int) ≤ 24 := by omega
  have b2 : (x : Int) < wd := by omega
  show Calls _ _ #[.int .i64 x, .int .i64 y, .pointer (some ⟨pb, 0, none⟩)] _ _
  go_enter Try.func45, Try.ntmps45
  go_wp2_with fail
  refine (about_any W pb wd hi v bs _ _ hw hh (by omega) (by omega) hp).mono ?_
  rintro e w' ⟨rfl, n, rfl⟩
  go_wp2
  go_ret
  exact ⟨rfl, n, rfl⟩

/-- A picture that came in: right sizes, a slice that reads as a list. -/
structure PicOk (w : World) (wd hi : Nat) (sa : Option Addr) (c : Nat) (bs : List Nat) : Prop where
  v : vPic wd hi (wd * hi) = true
  sl : SlF w (.slice sa bs.length c) bs
  len : bs.length = wd * hi
theorem PicOk.below {w w' : World} {wd hi : Nat} {sa : Option Addr} {c : Nat} {bs : List Nat} (h : PicOk w wd hi sa c bs) (hb : Below w.heap.size w w') : PicOk w' wd hi sa c bs := ⟨h.v, h.sl.below hb, h.len⟩
theorem PicOk.vl {w : World} {wd hi : Nat} {sa : Option Addr} {c : Nat} {bs : List Nat} (h : PicOk w wd hi sa c bs) : vPic wd hi bs.length = true := by rw [h.len]; exact h.v
theorem PicOk.dims {w : World} {wd hi : Nat} {sa : Option Addr} {c : Nat} {bs : List Nat} (h : PicOk w wd hi sa c bs) : 0 < wd ∧ 0 < hi ∧ wd ≤ 24 ∧ hi ≤ 24 ∧ wd * hi ≤ 256 := by
  obtain ⟨x1, x2, e1, e2, e3, b1, b2, b3, b4, b5⟩ := vPic_spec h.v
  have : x1 = wd := by omega
  have : x2 = hi := by omega
  subst_vars; omega

theorem mirror_ok (w : World) (wd hi : Nat) (sa : Option Addr) (c : Nat) (bs : List Nat) (h : PicOk w wd hi sa c bs) :
    Calls Try.prog 13 #[.agg #[.int .i64 wd, .int .i64 hi, .slice sa bs.length c]] w (MakesPicOk w wd hi fun x y => fl (bs.getD (ix ((wd : Int) - 1 - x) y wd hi) 0)) := by
  obtain ⟨d1, d2, d3, d4, d5⟩ := h.dims
  have hb0 := below_two w (.cells #[.int .i64 wd, .int .i64 hi, .slice sa bs.length c] 26) (.cells #[.int .i64 0, .int .i64 0, .slice none 0 0] 26)
  have B1 := box_first w (.int .i64 wd) (.int .i64 hi) (.slice sa bs.length c) 26 (.cells #[.int .i64 0, .int .i64 0, .slice none 0 0] 26)
  have B2 := box_second w (.int .i64 0) (.int .i64 0) (.slice none 0 0) 26 (.cells #[.int .i64 wd, .int .i64 hi, .slice sa bs.length c] 26)
  have hP : PicAt _ w.heap.size wd hi (.slice sa bs.length c) bs 26 := ⟨B1, h.sl.below hb0, h.len⟩
  have hG := mirror_gives hP d1 d2 d3 d4
  have hV := h.vl
  have hs := B2.lt
  obtain ⟨c0, c1, c2, -, -, -⟩ := B1.cells
  go_enter Try.func13, Try.ntmps13
  go_wp2_with fail
  refine (remade_ok _ wd hi _ sa c _ _ hV hG).mono ?_
  rintro e w2 ⟨a, cc, bs', rfl, hown, hcon, hb2⟩
  obtain ⟨q0, q1, q2, g0, g1, g2⟩ := (B2.below hb2).cells
  have hbb := hb0.trans (hb2.mono hb0.size)
  go_wp2
  refine bodyPost_ret (v := .tuple #[.agg #[.int .i64 wd, .int .i64 hi, .slice a bs'.length cc], .bool true]) (by simp [results, Try.results13, go_sem, q0, q1, q2]) rfl ?_
  exact ⟨a, cc, bs', rfl, (((hown.set (by first | omega | (simp; done) | (simp; omega)) _).set (by first | omega | (simp; done) | (simp; omega)) _).set (by first | omega | (simp; done) | (simp; omega)) _).mono (by omega), hcon, ((hbb.setCell (by first | omega | (simp; done) | (simp; omega)) _).setCell (by first | omega | (simp; done) | (simp; omega)) _).setCell (by first | omega | (simp; done) | (simp; omega)) _⟩

theorem bcell {W w1 : World} (hb : Below W.heap.size W w1) : (∀ b o, b < W.heap.size → w1.cell? ⟨b, o, none⟩ = W.cell? ⟨b, o, none⟩) ∧ (∀ b o, b < W.heap.size → w1.frozen? ⟨b, o, none⟩ = W.frozen? ⟨b, o, none⟩) :=
  ⟨fun b o h => hb.cell (p := ⟨b, o, none⟩) h, fun b o h => hb.frozen (p := ⟨b, o, none⟩) h⟩

theorem PicOk.at {w W : World} {wd hi : Nat} {sa : Option Addr} {c : Nat} {bs : List Nat} {T : TypeId} {pb : Nat} (h : PicOk w wd hi sa c bs) (hb : Below w.heap.size w W) (hx : Box3 W pb (.int .i64 wd) (.int .i64 hi) (.slice sa bs.length c) T) : PicAt W pb wd hi (.slice sa bs.length c) bs T := ⟨hx, h.sl.below hb, h.len⟩

theorem shift_gives {W0 : World} {pb wd hi : Nat} {v : Value} {bs : List Nat} {qb : Nat} {by_ : Int} (hq : W0.cell? ⟨qb, 0, none⟩ = some (.int .i64 by_)) (hqb : qb < W0.heap.size) (hb1 : -24 ≤ by_) (hb2 : by_ ≤ 24) (h : PicAt W0 pb wd hi v bs 26) (hw : 0 < wd) (hh : 0 < hi) (hw2 : wd ≤ 24) (hh2 : hi ≤ 24) :
    Gives2 W0 (.func (.func 59) #[] #[.pointer (some ⟨pb, 0, none⟩), .pointer (some ⟨qb, 0, none⟩)]) wd hi (fun x y => fl (bs.getD (ix ((x : Int) + by_) y wd hi) 0)) := by
  refine gives_about (fun x y => ((x : Int) + by_)) (fun x y => y) h hw hh Try.call59 fun x y W hx hy hp hbW => ?_
  have hq' : W.cell? ⟨qb, 0, none⟩ = some (.int .i64 by_) := by rw [hbW.cell (p := ⟨qb, 0, none⟩) hqb]; exact hq
  have b2 : (x : Int) < 24 := by omega
  clear hq
  show Calls _ _ #[.int .i64 x, .int .i64 y, .pointer (some ⟨pb, 0, none⟩), .pointer (some ⟨qb, 0, none⟩)] _ _
  go_enter Try.func59, Try.ntmps59
  go_wp2_with fail
  refine (about_any W pb wd hi v bs _ _ hw hh (by omega) (by omega) hp).mono ?_
  rintro e w' ⟨rfl, n, rfl⟩
  go_wp2
  go_ret
  exact ⟨rfl, n, rfl⟩

theorem shift_ok (w : World) (wd hi : Nat) (sa : Option Addr) (c : Nat) (bs : List Nat) (by_ : Int) (k1 : -24 ≤ by_) (k2 : by_ ≤ 24) (h : PicOk w wd hi sa c bs) :
    Calls Try.prog 25 #[.agg #[.int .i64 wd, .int .i64 hi, .slice sa bs.length c], .int .i64 by_] w (MakesPicOk w wd hi fun x y => fl (bs.getD (ix ((x : Int) + by_) y wd hi) 0)) := by
  obtain ⟨d1, d2, d3, d4, d5⟩ := h.dims
  have hV := h.vl
  have hin : (decide (-24 ≤ by_) && decide (by_ ≤ 24)) = true := by simp [k1, k2]
  have hb0 := (below_two w (.cells #[.int .i64 wd, .int .i64 hi, .slice sa bs.length c] 26) (.cells #[.int .i64 by_] 2)).alloc (by simp; omega) (.cells #[.int .i64 0, .int .i64 0, .slice none 0 0] 26)
  have hP := h.at hb0 ((box_first w _ _ _ _ _).below ((Below.refl _ _).alloc (Nat.le_refl _) _))
  go_enter Try.func25, Try.ntmps25
  go_wp2_with fail
  refine (in_any _ _ _ _).mono ?_
  rw [hin]
  rintro e w1 ⟨rfl, rfl⟩
  clear hin
  go_wp2_with fail
  refine (remade_ok _ wd hi _ sa c _ _ hV (shift_gives (qb := w.heap.size + 1) (by simp [go_sem]) (by simp) k1 k2 hP d1 d2 d3 d4)).mono ?_
  rintro e w2 ⟨a, cc, bs', rfl, hown, hcon, hb2⟩
  have hbb := hb0.trans (hb2.mono hb0.size)
  obtain ⟨hc2, hf2⟩ := bcell hb2
  have hz2 : w.heap.size + 2 < w2.heap.size := by have := hb2.size; simp at this; omega
  go_wp2
  refine bodyPost_ret (v := .tuple #[.agg #[.int .i64 wd, .int .i64 hi, .slice a bs'.length cc], .bool true]) (by simp [results, Try.results25, go_sem, hc2, hz2]) rfl ?_
  exact ⟨a, cc, bs', rfl, (((hown.set (by first | omega | (simp; done) | (simp; omega)) _).set (by first | omega | (simp; done) | (simp; omega)) _).set (by first | omega | (simp; done) | (simp; omega)) _).mono (by first | omega | (simp; done) | (simp; omega)), hcon, ((hbb.setCell (by first | omega | (simp; done) | (simp; omega)) _).setCell (by first | omega | (simp; done) | (simp; omega)) _).setCell (by first | omega | (simp; done) | (simp; omega)) _⟩

/-- Half of a sum of four. -/
def hsum (a b c d : Nat) : Nat := fop .quo (fop .add (fop .add (fop .add a b) c) d) 1082130432
def halfG (bs : List Nat) (wd hi : Nat) (x y : Nat) : Nat :=
  hsum (fl (bs.getD (ix (2 * (x : Int)) (2 * (y : Int)) wd hi) 0)) (fl (bs.getD (ix (2 * (x : Int) + 1) (2 * (y : Int)) wd hi) 0)) (fl (bs.getD (ix (2 * (x : Int)) (2 * (y : Int) + 1) wd hi) 0)) (fl (bs.getD (ix (2 * (x : Int) + 1) (2 * (y : Int) + 1) wd hi) 0))

theorem fl_c4 : fl 1082130432 = 1082130432 := by decide

theorem PicAt.drewN {W : World} {pb wd hi : Nat} {v : Value} {bs : List Nat} {T : TypeId} (h : PicAt W pb wd hi v bs T) (n : Nat) : PicAt (W.drewN n) pb wd hi v bs T := ⟨h.box, ⟨h.sl.1.drewN n, h.sl.2⟩, h.len⟩

theorem halved_gives {W0 : World} {pb wd hi : Nat} {v : Value} {bs : List Nat} {wd2 hi2 : Nat} (hb3 : wd2 ≤ 24) (hb4 : hi2 ≤ 24) (h : PicAt W0 pb wd hi v bs 26) (hw : 0 < wd) (hh : 0 < hi) (hw2 : wd ≤ 24) (hh2 : hi ≤ 24) :
    Gives2 W0 (.func (.func 69) #[] #[.pointer (some ⟨pb, 0, none⟩)]) wd2 hi2 (halfG bs wd hi) := by
  refine ⟨69, _, rfl, Try.call69, fun x y W hx hy hbW => ?_⟩
  have hp := h.below hbW
  have b1 : (x : Int) < 24 := by omega
  have b2 : (y : Int) < 24 := by omega
  show Calls _ _ #[.int .i64 x, .int .i64 y, .pointer (some ⟨pb, 0, none⟩)] _ _
  go_enter Try.func69, Try.ntmps69
  go_wp2_with fail
  refine (about_any _ pb wd hi v bs _ _ hw hh (by omega) (by omega) hp).mono ?_
  rintro e w' ⟨rfl, n1, rfl⟩
  go_wp2_with fail
  refine (about_any _ pb wd hi v bs _ _ hw hh (by omega) (by omega) (by exact (hp.drewN _))).mono ?_
  rintro e w' ⟨rfl, n2, rfl⟩
  go_wp2_with fail
  refine (about_any _ pb wd hi v bs _ _ hw hh (by omega) (by omega) (by exact (hp.drewN _))).mono ?_
  rintro e w' ⟨rfl, n3, rfl⟩
  go_wp2_with fail
  refine (about_any _ pb wd hi v bs _ _ hw hh (by omega) (by omega) (by exact (hp.drewN _))).mono ?_
  rintro e w' ⟨rfl, n4, rfl⟩
  go_wp2
  go_ret
  exact ⟨_, rfl, fres_lt _ _ _ _, by rw [fl_fres, fl_fres, fl_fres, fl_fres, fl_c4]; rfl, below_drewN (Below.refl _ _) _⟩

theorem halfUp_any (n : Nat) (hn : n ≤ 1000) (w : World) : Calls Try.prog 68 #[.int .i64 n] w fun e w' => e = .returned (.int .i64 ((n + 1) / 2 : Nat)) ∧ w = w' := by
  have h : (n : Int) ≤ 1000 := by omega
  go_enter Try.func68, Try.ntmps68
  go_wp2
  go_ret
  simp

theorem halved_ok (w : World) (wd hi : Nat) (sa : Option Addr) (c : Nat) (bs : List Nat) (h : PicOk w wd hi sa c bs) :
    Calls Try.prog 42 #[.agg #[.int .i64 wd, .int .i64 hi, .slice sa bs.length c]] w (MakesPic w ((wd + 1) / 2) ((hi + 1) / 2) (halfG bs wd hi)) := by
  obtain ⟨d1, d2, d3, d4, d5⟩ := h.dims
  have hb0 := below_two w (.cells #[.int .i64 wd, .int .i64 hi, .slice sa bs.length c] 26) (.cells #[.int .i64 0, .int .i64 0, .slice none 0 0] 26)
  have hP := h.at hb0 (box_first w _ _ _ _ _)
  have e1 : (wd + 1) / 2 ≤ 24 := by omega
  have e2 : (hi + 1) / 2 ≤ 24 := by omega
  have hG := halved_gives e1 e2 (hP.drewN 1) d1 d2 d3 d4
  have k1 := fun w => halfUp_any wd (by omega) w
  have k2 := fun w => halfUp_any hi (by omega) w
  generalize hA : (wd + 1) / 2 = A at *
  generalize hB : (hi + 1) / 2 = B at *
  have K1 := Lib.hid k1
  have K2 := Lib.hid k2
  clear k1 k2 hA hB
  go_enter Try.func42, Try.ntmps42
  go_wp2_with fail
  go_region_law (first
    | (go_simp; with_reducible refine (K1.out _).mono ?_; rintro e w1 ⟨rfl, rfl⟩)
    | (go_simp; with_reducible refine (K2.out _).mono ?_; rintro e w1 ⟨rfl, rfl⟩)
    | (go_simp; refine (made_any _ _ _ _ _ e1 e2 hG).mono ?_; rintro e w2 ⟨a, cc, bs', rfl, hown, hcon, hb2⟩; have hbb := hb0.trans ((below_drewN (Below.refl _ _) 1).trans (hb2.mono hb0.size)); obtain ⟨hc2, hf2⟩ := bcell hb2; have hz2 : w.heap.size + 1 < w2.heap.size := (by have := hb2.size; simp at this; omega)))
  all_goals
    go_wp2
    refine bodyPost_ret (v := .agg #[.int .i64 A, .int .i64 B, .slice a bs'.length cc]) (by simp [results, Try.results42, go_sem, hc2, hz2]) rfl ?_
    exact ⟨a, cc, bs', rfl, (((hown.set (by first | omega | (simp; done) | (simp; omega)) _).set (by first | omega | (simp; done) | (simp; omega)) _).set (by first | omega | (simp; done) | (simp; omega)) _).mono (by first | omega | (simp; done) | (simp; omega)), hcon, ((hbb.setCell (by first | omega | (simp; done) | (simp; omega)) _).setCell (by first | omega | (simp; done) | (simp; omega)) _).setCell (by first | omega | (simp; done) | (simp; omega)) _⟩

theorem halve_ok (w : World) (wd hi : Nat) (sa : Option Addr) (c : Nat) (bs : List Nat) (h : PicOk w wd hi sa c bs) :
    Calls Try.prog 11 #[.agg #[.int .i64 wd, .int .i64 hi, .slice sa bs.length c]] w (MakesPicOk w ((wd + 1) / 2) ((hi + 1) / 2) (halfG bs wd hi)) := by
  obtain ⟨d1, d2, d3, d4, d5⟩ := h.dims
  have hV := h.vl
  have hL : bs.length ≤ 256 := by rw [h.len]; omega
  have hK := fun w' h' => halved_ok w' wd hi sa c bs h'
  generalize (wd + 1) / 2 = A at hK ⊢
  generalize (hi + 1) / 2 = B at hK ⊢
  go_enter Try.func11, Try.ntmps11
  go_wp2_with fail
  refine (validPicture_any _ _ _ _ _ (by omega) _).mono ?_
  rw [hV]
  rintro e w1 ⟨rfl, hb1⟩
  have hb0 := (below_two w (.cells #[.int .i64 wd, .int .i64 hi, .slice sa bs.length c] 26) (.cells #[.int .i64 0, .int .i64 0, .slice none 0 0] 26)).trans (hb1.mono (by simp; omega))
  obtain ⟨hc, hf⟩ := bcell hb1
  have hz : w.heap.size + 1 < w1.heap.size := by have := hb1.size; simp at this; omega
  go_wp2_with fail
  refine (hK w1 (h.below hb0)).mono ?_
  rintro e w2 ⟨a, cc, bs', rfl, hown, hcon, hb2⟩
  have hbb := hb0.trans (hb2.mono hb0.size)
  obtain ⟨hc2, hf2⟩ := bcell hb2
  have hz2 : w.heap.size + 1 < w2.heap.size := by have := hb2.size; omega
  go_wp2
  refine bodyPost_ret (v := .tuple #[.agg #[.int .i64 A, .int .i64 B, .slice a bs'.length cc], .bool true]) (by simp [results, Try.results11, go_sem, hc2, hc, hz, hz2]) rfl ?_
  exact ⟨a, cc, bs', rfl, (((hown.set (by first | omega | (simp; done) | (simp; omega)) _).set (by first | omega | (simp; done) | (simp; omega)) _).set (by first | omega | (simp; done) | (simp; omega)) _).mono (by first | omega | (simp; done) | (simp; omega)), hcon, ((hbb.setCell (by first | omega | (simp; done) | (simp; omega)) _).setCell (by first | omega | (simp; done) | (simp; omega)) _).setCell (by first | omega | (simp; done) | (simp; omega)) _⟩

end Go.Proofs.Ytialajgobpokmaa
