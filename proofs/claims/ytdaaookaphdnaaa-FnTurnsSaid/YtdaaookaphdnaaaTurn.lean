/- Pictures turned: mirror, flip, swap, shift, crop, flat, put, double. -/
import Derived.Test.YtdaaookaphdnaaaPic
namespace Go.Proofs.Ytdaaookaphdnaaa
open Go.RowKit
set_option maxRecDepth 100000
set_option linter.unusedVariables false
set_option linter.unusedSimpArgs false

theorem PicAt.pos {W : World} {pb wd hi : Nat} {v : Value} {bs : List Nat} {T : TypeId} (h : PicAt W pb wd hi v bs T) {i : Nat} (hi_ : i < wd * hi) : bs.getD i 0 < 4294967296 := by
  rw [← getD_of bs i (by rw [h.len]; exact hi_)]; exact h.sl.lt _

/-- A number read off a picture, and nothing else. -/
theorem gives_about {fid : FuncId} {caps : Array Value} {W0 : World} {pb wd hi : Nat} {v : Value} {bs : List Nat} {wd' hi' : Nat} (px py : Nat → Nat → Int) (h : PicAt W0 pb wd hi v bs 26) (hw : 0 < wd) (hh : 0 < hi)
    (hcall : ∀ args w, (callFunc fid args).run Try.prog w = .ok (.enter fid args) w)
    (hrun : ∀ (x y : Nat) (W : World), x < wd' → y < hi' → PicAt W pb wd hi v bs 26 → Below W0.heap.size W0 W → Calls Try.prog fid (#[.int .i64 x, .int .i64 y] ++ caps) W fun e w' => e = .returned (.float .f32 (bs.getD (ix (px x y) (py x y) wd hi) 0)) ∧ ∃ n, w' = W.drewN n) :
    Gives2 W0 (.func (.func fid) #[] caps) wd' hi' (fun x y => fl (bs.getD (ix (px x y) (py x y) wd hi) 0)) := by
  refine ⟨fid, caps, rfl, hcall, fun x y W hx hy hb => ?_⟩
  refine (hrun x y W hx hy (h.below hb) hb).mono ?_
  rintro e w' ⟨rfl, n, rfl⟩
  exact ⟨_, rfl, h.pos (ix_lt _ _ hw hh), rfl, below_drewN (Below.refl _ _) n⟩

theorem mirror_gives {W0 : World} {pb wd hi : Nat} {v : Value} {bs : List Nat} (h : PicAt W0 pb wd hi v bs 26) (hw : 0 < wd) (hh : 0 < hi) (hw2 : wd ≤ 24) (hh2 : hi ≤ 24) :
    Gives2 W0 (.func (.func 23) #[] #[.pointer (some ⟨pb, 0, none⟩)]) wd hi (fun x y => fl (bs.getD (ix ((wd : Int) - 1 - x) y wd hi) 0)) := by
  refine gives_about (fun x y => (wd : Int) - 1 - x) (fun x y => y) h hw hh Try.call23 fun x y W hx hy hp _ => ?_
  obtain ⟨c0, c1, c2, -, -, -⟩ := hp.box.cells
  have b1 : (wd : Int) ≤ 24 := by omega
  have b2 : (x : Int) < wd := by omega
  show Calls _ _ #[.int .i64 x, .int .i64 y, .pointer (some ⟨pb, 0, none⟩)] _ _
  go_enter Try.func23, Try.ntmps23
  go_wp2_with fail
  refine (about_any W pb wd hi v bs _ _ hw hh (by omega) (by omega) hp).mono ?_
  rintro e w' ⟨rfl, n, rfl⟩
  go_wp2
  go_ret
  exact ⟨rfl, n, rfl⟩

/-- A picture that came in: right sizes, a slice that reads as a list. -/
structure PicOk (w : World) (wd hi : Nat) (sa : Option Addr) (c : Nat) (bs : List Nat) : Prop where
  v : vPic wd hi (wd * hi) = true
  sl : SlF w (.slice sa bs.length c) bs
  len : bs.length = wd * hi
theorem PicOk.below {w w' : World} {wd hi : Nat} {sa : Option Addr} {c : Nat} {bs : List Nat} (h : PicOk w wd hi sa c bs) (hb : Below w.heap.size w w') : PicOk w' wd hi sa c bs := ⟨h.v, h.sl.below hb, h.len⟩
theorem PicOk.vl {w : World} {wd hi : Nat} {sa : Option Addr} {c : Nat} {bs : List Nat} (h : PicOk w wd hi sa c bs) : vPic wd hi bs.length = true := by rw [h.len]; exact h.v
theorem PicOk.dims {w : World} {wd hi : Nat} {sa : Option Addr} {c : Nat} {bs : List Nat} (h : PicOk w wd hi sa c bs) : 0 < wd ∧ 0 < hi ∧ wd ≤ 24 ∧ hi ≤ 24 ∧ wd * hi ≤ 256 := by
  obtain ⟨x1, x2, e1, e2, e3, b1, b2, b3, b4, b5⟩ := vPic_spec h.v
  have : x1 = wd := by omega
  have : x2 = hi := by omega
  subst_vars; omega

theorem mirror_ok (w : World) (wd hi : Nat) (sa : Option Addr) (c : Nat) (bs : List Nat) (h : PicOk w wd hi sa c bs) :
    Calls Try.prog 6 #[.agg #[.int .i64 wd, .int .i64 hi, .slice sa bs.length c]] w (MakesPicOk w wd hi fun x y => fl (bs.getD (ix ((wd : Int) - 1 - x) y wd hi) 0)) := by
  obtain ⟨d1, d2, d3, d4, d5⟩ := h.dims
  have hb0 := below_two w (.cells #[.int .i64 wd, .int .i64 hi, .slice sa bs.length c] 26) (.cells #[.int .i64 0, .int .i64 0, .slice none 0 0] 26)
  have B1 := box_first w (.int .i64 wd) (.int .i64 hi) (.slice sa bs.length c) 26 (.cells #[.int .i64 0, .int .i64 0, .slice none 0 0] 26)
  have B2 := box_second w (.int .i64 0) (.int .i64 0) (.slice none 0 0) 26 (.cells #[.int .i64 wd, .int .i64 hi, .slice sa bs.length c] 26)
  have hP : PicAt _ w.heap.size wd hi (.slice sa bs.length c) bs 26 := ⟨B1, h.sl.below hb0, h.len⟩
  have hG := mirror_gives hP d1 d2 d3 d4
  have hV := h.vl
  have hs := B2.lt
  obtain ⟨c0, c1, c2, -, -, -⟩ := B1.cells
  go_enter Try.func6, Try.ntmps6
  go_wp2_with fail
  refine (remade_ok _ wd hi _ sa c _ _ hV hG).mono ?_
  rintro e w2 ⟨a, cc, bs', rfl, hown, hcon, hb2⟩
  obtain ⟨q0, q1, q2, g0, g1, g2⟩ := (B2.below hb2).cells
  have hbb := hb0.trans (hb2.mono hb0.size)
  go_wp2
  refine bodyPost_ret (v := .tuple #[.agg #[.int .i64 wd, .int .i64 hi, .slice a bs'.length cc], .bool true]) (by simp [results, Try.results6, go_sem, q0, q1, q2]) rfl ?_
  exact ⟨a, cc, bs', rfl, (((hown.set (by first | omega | (simp; done) | (simp; omega)) _).set (by first | omega | (simp; done) | (simp; omega)) _).set (by first | omega | (simp; done) | (simp; omega)) _).mono (by omega), hcon, ((hbb.setCell (by first | omega | (simp; done) | (simp; omega)) _).setCell (by first | omega | (simp; done) | (simp; omega)) _).setCell (by first | omega | (simp; done) | (simp; omega)) _⟩

theorem bcell {W w1 : World} (hb : Below W.heap.size W w1) : (∀ b o, b < W.heap.size → w1.cell? ⟨b, o, none⟩ = W.cell? ⟨b, o, none⟩) ∧ (∀ b o, b < W.heap.size → w1.frozen? ⟨b, o, none⟩ = W.frozen? ⟨b, o, none⟩) :=
  ⟨fun b o h => hb.cell (p := ⟨b, o, none⟩) h, fun b o h => hb.frozen (p := ⟨b, o, none⟩) h⟩

theorem PicOk.at {w W : World} {wd hi : Nat} {sa : Option Addr} {c : Nat} {bs : List Nat} {T : TypeId} {pb : Nat} (h : PicOk w wd hi sa c bs) (hb : Below w.heap.size w W) (hx : Box3 W pb (.int .i64 wd) (.int .i64 hi) (.slice sa bs.length c) T) : PicAt W pb wd hi (.slice sa bs.length c) bs T := ⟨hx, h.sl.below hb, h.len⟩

theorem swap_gives {W0 : World} {pb wd hi : Nat} {v : Value} {bs : List Nat} (h : PicAt W0 pb wd hi v bs 26) (hw : 0 < wd) (hh : 0 < hi) (hw2 : wd ≤ 24) (hh2 : hi ≤ 24) :
    Gives2 W0 (.func (.func 27) #[] #[.pointer (some ⟨pb, 0, none⟩)]) hi wd (fun x y => fl (bs.getD (ix y x wd hi) 0)) := by
  refine gives_about (fun x y => y) (fun x y => x) h hw hh Try.call27 fun x y W hx hy hp _ => ?_
  show Calls _ _ #[.int .i64 x, .int .i64 y, .pointer (some ⟨pb, 0, none⟩)] _ _
  go_enter Try.func27, Try.ntmps27
  go_wp2_with fail
  refine (about_any W pb wd hi v bs _ _ hw hh (by omega) (by omega) hp).mono ?_
  rintro e w' ⟨rfl, n, rfl⟩
  go_wp2
  go_ret
  exact ⟨rfl, n, rfl⟩

theorem swap_ok (w : World) (wd hi : Nat) (sa : Option Addr) (c : Nat) (bs : List Nat) (h : PicOk w wd hi sa c bs) :
    Calls Try.prog 8 #[.agg #[.int .i64 wd, .int .i64 hi, .slice sa bs.length c]] w (MakesPicOk w hi wd fun x y => fl (bs.getD (ix y x wd hi) 0)) := by
  obtain ⟨d1, d2, d3, d4, d5⟩ := h.dims
  have hV := h.vl
  have hL : bs.length ≤ 256 := by rw [h.len]; omega
  go_enter Try.func8, Try.ntmps8
  go_wp2_with fail
  refine (validPicture_any _ _ _ _ _ (by omega) _).mono ?_
  rw [hV]
  rintro e w1 ⟨rfl, hb1⟩
  have hb0 := (below_two w _ _).trans (hb1.mono (by simp; omega))
  have hP := h.at hb0 ((box_first w _ _ _ _ _).below hb1)
  obtain ⟨hc, hf⟩ := bcell hb1
  have hz : w.heap.size + 1 < w1.heap.size := by have := hb1.size; simp at this; omega
  go_wp2_with fail
  refine (made_any w1 hi wd _ _ d4 d3 (swap_gives hP d1 d2 d3 d4)).mono ?_
  rintro e w2 ⟨a, cc, bs', rfl, hown, hcon, hb2⟩
  have hbb := hb0.trans (hb2.mono hb0.size)
  obtain ⟨hc2, hf2⟩ := bcell hb2
  have hz2 : w.heap.size + 1 < w2.heap.size := by have := hb2.size; omega
  go_wp2
  refine bodyPost_ret (v := .tuple #[.agg #[.int .i64 hi, .int .i64 wd, .slice a bs'.length cc], .bool true]) (by simp [results, Try.results8, go_sem, hc2, hc, hz, hz2]) rfl ?_
  exact ⟨a, cc, bs', rfl, (((hown.set (by first | omega | (simp; done) | (simp; omega)) _).set (by first | omega | (simp; done) | (simp; omega)) _).set (by first | omega | (simp; done) | (simp; omega)) _).mono (by omega), hcon, ((hbb.setCell (by first | omega | (simp; done) | (simp; omega)) _).setCell (by first | omega | (simp; done) | (simp; omega)) _).setCell (by first | omega | (simp; done) | (simp; omega)) _⟩

theorem flip_gives {W0 : World} {pb wd hi : Nat} {v : Value} {bs : List Nat} (h : PicAt W0 pb wd hi v bs 26) (hw : 0 < wd) (hh : 0 < hi) (hw2 : wd ≤ 24) (hh2 : hi ≤ 24) :
    Gives2 W0 (.func (.func 25) #[] #[.pointer (some ⟨pb, 0, none⟩)]) wd hi (fun x y => fl (bs.getD (ix x ((hi : Int) - 1 - y) wd hi) 0)) := by
  refine gives_about (fun x y => x) (fun x y => ((hi : Int) - 1 - y)) h hw hh Try.call25 fun x y W hx hy hp hbW => ?_
  obtain ⟨c0, c1, c2, -, -, -⟩ := hp.box.cells
  have b1 : (hi : Int) ≤ 24 := by omega
  have b2 : (y : Int) < hi := by omega
  show Calls _ _ #[.int .i64 x, .int .i64 y, .pointer (some ⟨pb, 0, none⟩)] _ _
  go_enter Try.func25, Try.ntmps25
  go_wp2_with fail
  refine (about_any W pb wd hi v bs _ _ hw hh (by omega) (by omega) hp).mono ?_
  rintro e w' ⟨rfl, n, rfl⟩
  go_wp2
  go_ret
  exact ⟨rfl, n, rfl⟩

theorem flip_ok (w : World) (wd hi : Nat) (sa : Option Addr) (c : Nat) (bs : List Nat) (h : PicOk w wd hi sa c bs) :
    Calls Try.prog 7 #[.agg #[.int .i64 wd, .int .i64 hi, .slice sa bs.length c]] w (MakesPicOk w wd hi fun x y => fl (bs.getD (ix x ((hi : Int) - 1 - y) wd hi) 0)) := by
  obtain ⟨d1, d2, d3, d4, d5⟩ := h.dims
  have hV := h.vl
  have hb0 := below_two w (.cells #[.int .i64 wd, .int .i64 hi, .slice sa bs.length c] 26) (.cells #[.int .i64 0, .int .i64 0, .slice none 0 0] 26)
  have hP := h.at hb0 (box_first w _ _ _ _ _)
  go_enter Try.func7, Try.ntmps7
  go_wp2_with fail
  refine (remade_ok _ wd hi _ sa c _ _ hV (flip_gives hP d1 d2 d3 d4)).mono ?_
  rintro e w2 ⟨a, cc, bs', rfl, hown, hcon, hb2⟩
  have hbb := hb0.trans (hb2.mono hb0.size)
  obtain ⟨hc2, hf2⟩ := bcell hb2
  have hz2 : w.heap.size + 1 < w2.heap.size := by have := hb2.size; simp at this; omega
  go_wp2
  refine bodyPost_ret (v := .tuple #[.agg #[.int .i64 wd, .int .i64 hi, .slice a bs'.length cc], .bool true]) (by simp [results, Try.results7, go_sem, hc2, hz2]) rfl ?_
  exact ⟨a, cc, bs', rfl, (((hown.set (by first | omega | (simp; done) | (simp; omega)) _).set (by first | omega | (simp; done) | (simp; omega)) _).set (by first | omega | (simp; done) | (simp; omega)) _).mono (by first | omega | (simp; done) | (simp; omega)), hcon, ((hbb.setCell (by first | omega | (simp; done) | (simp; omega)) _).setCell (by first | omega | (simp; done) | (simp; omega)) _).setCell (by first | omega | (simp; done) | (simp; omega)) _⟩

theorem shift_gives {W0 : World} {pb wd hi : Nat} {v : Value} {bs : List Nat} {qb : Nat} {by_ : Int} (hq : W0.cell? ⟨qb, 0, none⟩ = some (.int .i64 by_)) (hqb : qb < W0.heap.size) (hb1 : -24 ≤ by_) (hb2 : by_ ≤ 24) (h : PicAt W0 pb wd hi v bs 26) (hw : 0 < wd) (hh : 0 < hi) (hw2 : wd ≤ 24) (hh2 : hi ≤ 24) :
    Gives2 W0 (.func (.func 29) #[] #[.pointer (some ⟨pb, 0, none⟩), .pointer (some ⟨qb, 0, none⟩)]) wd hi (fun x y => fl (bs.getD (ix ((x : Int) + by_) y wd hi) 0)) := by
  refine gives_about (fun x y => ((x : Int) + by_)) (fun x y => y) h hw hh Try.call29 fun x y W hx hy hp hbW => ?_
  have hq' : W.cell? ⟨qb, 0, none⟩ = some (.int .i64 by_) := by rw [hbW.cell (p := ⟨qb, 0, none⟩) hqb]; exact hq
  have b2 : (x : Int) < 24 := by omega
  clear hq
  show Calls _ _ #[.int .i64 x, .int .i64 y, .pointer (some ⟨pb, 0, none⟩), .pointer (some ⟨qb, 0, none⟩)] _ _
  go_enter Try.func29, Try.ntmps29
  go_wp2_with fail
  refine (about_any W pb wd hi v bs _ _ hw hh (by omega) (by omega) hp).mono ?_
  rintro e w' ⟨rfl, n, rfl⟩
  go_wp2
  go_ret
  exact ⟨rfl, n, rfl⟩

theorem shift_ok (w : World) (wd hi : Nat) (sa : Option Addr) (c : Nat) (bs : List Nat) (by_ : Int) (k1 : -24 ≤ by_) (k2 : by_ ≤ 24) (h : PicOk w wd hi sa c bs) :
    Calls Try.prog 9 #[.agg #[.int .i64 wd, .int .i64 hi, .slice sa bs.length c], .int .i64 by_] w (MakesPicOk w wd hi fun x y => fl (bs.getD (ix ((x : Int) + by_) y wd hi) 0)) := by
  obtain ⟨d1, d2, d3, d4, d5⟩ := h.dims
  have hV := h.vl
  have hin : (decide (-24 ≤ by_) && decide (by_ ≤ 24)) = true := by simp [k1, k2]
  have hb0 := (below_two w (.cells #[.int .i64 wd, .int .i64 hi, .slice sa bs.length c] 26) (.cells #[.int .i64 by_] 2)).alloc (by simp; omega) (.cells #[.int .i64 0, .int .i64 0, .slice none 0 0] 26)
  have hP := h.at hb0 ((box_first w _ _ _ _ _).below ((Below.refl _ _).alloc (Nat.le_refl _) _))
  go_enter Try.func9, Try.ntmps9
  go_wp2_with fail
  refine (in_any _ _ _ _).mono ?_
  rw [hin]
  rintro e w1 ⟨rfl, rfl⟩
  clear hin
  go_wp2_with fail
  refine (remade_ok _ wd hi _ sa c _ _ hV (shift_gives (qb := w.heap.size + 1) (by simp [go_sem]) (by simp) k1 k2 hP d1 d2 d3 d4)).mono ?_
  rintro e w2 ⟨a, cc, bs', rfl, hown, hcon, hb2⟩
  have hbb := hb0.trans (hb2.mono hb0.size)
  obtain ⟨hc2, hf2⟩ := bcell hb2
  have hz2 : w.heap.size + 2 < w2.heap.size := by have := hb2.size; simp at this; omega
  go_wp2
  refine bodyPost_ret (v := .tuple #[.agg #[.int .i64 wd, .int .i64 hi, .slice a bs'.length cc], .bool true]) (by simp [results, Try.results9, go_sem, hc2, hz2]) rfl ?_
  exact ⟨a, cc, bs', rfl, (((hown.set (by first | omega | (simp; done) | (simp; omega)) _).set (by first | omega | (simp; done) | (simp; omega)) _).set (by first | omega | (simp; done) | (simp; omega)) _).mono (by first | omega | (simp; done) | (simp; omega)), hcon, ((hbb.setCell (by first | omega | (simp; done) | (simp; omega)) _).setCell (by first | omega | (simp; done) | (simp; omega)) _).setCell (by first | omega | (simp; done) | (simp; omega)) _⟩

theorem crop_gives {W0 : World} {pb wd hi : Nat} {v : Value} {bs : List Nat} {qb rb : Nat} {x0 y0 : Nat} {wd2 hi2 : Nat} (hq : W0.cell? ⟨qb, 0, none⟩ = some (.int .i64 x0)) (hqb : qb < W0.heap.size) (hr : W0.cell? ⟨rb, 0, none⟩ = some (.int .i64 y0)) (hrb : rb < W0.heap.size) (hb1 : x0 ≤ 24) (hb2 : y0 ≤ 24) (hb3 : wd2 ≤ 24) (hb4 : hi2 ≤ 24) (h : PicAt W0 pb wd hi v bs 26) (hw : 0 < wd) (hh : 0 < hi) (hw2 : wd ≤ 24) (hh2 : hi ≤ 24) :
    Gives2 W0 (.func (.func 33) #[] #[.pointer (some ⟨pb, 0, none⟩), .pointer (some ⟨qb, 0, none⟩), .pointer (some ⟨rb, 0, none⟩)]) wd2 hi2 (fun x y => fl (bs.getD (ix ((x0 : Int) + x) ((y0 : Int) + y) wd hi) 0)) := by
  refine gives_about (fun x y => ((x0 : Int) + x)) (fun x y => ((y0 : Int) + y)) h hw hh Try.call33 fun x y W hx hy hp hbW => ?_
  have hq' : W.cell? ⟨qb, 0, none⟩ = some (.int .i64 x0) := by rw [hbW.cell (p := ⟨qb, 0, none⟩) hqb]; exact hq
  have hr' : W.cell? ⟨rb, 0, none⟩ = some (.int .i64 y0) := by rw [hbW.cell (p := ⟨rb, 0, none⟩) hrb]; exact hr
  have b1 : (x : Int) < 24 := by omega
  have b2 : (y : Int) < 24 := by omega
  have b3 : (x0 : Int) ≤ 24 := by omega
  have b4 : (y0 : Int) ≤ 24 := by omega
  clear hq hr
  show Calls _ _ #[.int .i64 x, .int .i64 y, .pointer (some ⟨pb, 0, none⟩), .pointer (some ⟨qb, 0, none⟩), .pointer (some ⟨rb, 0, none⟩)] _ _
  go_enter Try.func33, Try.ntmps33
  go_wp2_with fail
  refine (about_any W pb wd hi v bs _ _ hw hh (by omega) (by omega) hp).mono ?_
  rintro e w' ⟨rfl, n, rfl⟩
  go_wp2
  go_ret
  exact ⟨rfl, n, rfl⟩

theorem crop_ok (w : World) (wd hi : Nat) (sa : Option Addr) (c : Nat) (bs : List Nat) (x0 y0 wd2 hi2 : Nat) (k1 : x0 + wd2 ≤ wd) (k2 : y0 + hi2 ≤ hi) (k3 : 1 ≤ wd2) (k4 : 1 ≤ hi2) (h : PicOk w wd hi sa c bs) :
    Calls Try.prog 13 #[.agg #[.int .i64 wd, .int .i64 hi, .slice sa bs.length c], .int .i64 x0, .int .i64 y0, .int .i64 wd2, .int .i64 hi2] w (MakesPicOk w wd2 hi2 fun x y => fl (bs.getD (ix ((x0 : Int) + x) ((y0 : Int) + y) wd hi) 0)) := by
  obtain ⟨d1, d2, d3, d4, d5⟩ := h.dims
  have hV := h.vl
  have hL : bs.length ≤ 256 := by rw [h.len]; omega
  have hS : szOk wd2 hi2 = true := szOk_of (by omega) (by omega) (by omega) (by omega) (by rw [← Int.natCast_mul]; have := Nat.mul_le_mul (show wd2 ≤ wd by omega) (show hi2 ≤ hi by omega); omega)
  have hI1 : inB x0 y0 wd hi = true := inB_iff.2 (by omega)
  have hI2 : inB ((x0 : Int) + wd2 - 1) ((y0 : Int) + hi2 - 1) wd hi = true := inB_iff.2 (by omega)
  have b1 : (x0 : Int) ≤ 24 := by omega
  have b2 : (y0 : Int) ≤ 24 := by omega
  have b3 : (wd2 : Int) ≤ 24 := by omega
  have b4 : (hi2 : Int) ≤ 24 := by omega
  have b5 : (1 : Int) ≤ (wd2 : Int) := by omega
  have b6 : (1 : Int) ≤ (hi2 : Int) := by omega
  go_enter Try.func13, Try.ntmps13
  go_wp2_with fail
  refine (validPicture_any _ _ _ _ _ (by omega) _).mono ?_
  rw [hV]
  rintro e w1 ⟨rfl, hb1⟩
  have hb0 := (((below_two w (.cells #[.int .i64 wd, .int .i64 hi, .slice sa bs.length c] 26) (.cells #[.int .i64 x0] 2)).alloc (by simp; omega) (.cells #[.int .i64 y0] 2)).alloc (by simp; omega) (.cells #[.int .i64 0, .int .i64 0, .slice none 0 0] 26)).trans (hb1.mono (by simp; omega))
  have hP := h.at hb0 ((((box_first w _ _ _ _ _).below ((Below.refl _ _).alloc (Nat.le_refl _) _)).below ((Below.refl _ _).alloc (Nat.le_refl _) _)).below hb1)
  obtain ⟨hc, hf⟩ := bcell hb1
  have hz : w.heap.size + 3 < w1.heap.size := by have := hb1.size; simp at this; omega
  have q1 : w1.cell? ⟨w.heap.size + 1, 0, none⟩ = some (.int .i64 x0) := by rw [hc _ _ (by first | (simp; done) | (simp; omega))]; simp [go_sem]
  have q2 : w1.cell? ⟨w.heap.size + 2, 0, none⟩ = some (.int .i64 y0) := by rw [hc _ _ (by simp)]; simp [go_sem]
  clear hb1
  go_wp2_with fail
  refine (sizeOk_any _ _ _).mono ?_
  rw [hS]
  rintro e w2 ⟨rfl, rfl⟩
  go_wp2_with fail
  refine (picHas_any _ _ _ _ _ _ _ (by omega) (by omega) hP.box).mono ?_
  rw [hI1]
  rintro e w2 ⟨rfl, rfl⟩
  go_wp2_with fail
  refine (picHas_any _ _ _ _ _ _ _ (by omega) (by omega) hP.box).mono ?_
  rw [hI2]
  rintro e w2 ⟨rfl, rfl⟩
  clear hI1 hI2 hS hV
  go_wp2_with fail
  refine (made_any w1 wd2 hi2 _ _ (by omega) (by omega) (crop_gives (qb := w.heap.size + 1) (rb := w.heap.size + 2) q1 (by omega) q2 (by omega) (by omega) (by omega) (by omega) (by omega) hP d1 d2 d3 d4)).mono ?_
  rintro e w2 ⟨a, cc, bs', rfl, hown, hcon, hb2⟩
  have hbb := hb0.trans (hb2.mono hb0.size)
  obtain ⟨hc2, hf2⟩ := bcell hb2
  have hz2 : w.heap.size + 3 < w2.heap.size := by have := hb2.size; omega
  go_wp2
  refine bodyPost_ret (v := .tuple #[.agg #[.int .i64 wd2, .int .i64 hi2, .slice a bs'.length cc], .bool true]) (by simp [results, Try.results13, go_sem, hc2, hc, hz, hz2]) rfl ?_
  exact ⟨a, cc, bs', rfl, (((hown.set (by first | omega | (simp; done) | (simp; omega)) _).set (by first | omega | (simp; done) | (simp; omega)) _).set (by first | omega | (simp; done) | (simp; omega)) _).mono (by first | omega | (simp; done) | (simp; omega)), hcon, ((hbb.setCell (by first | omega | (simp; done) | (simp; omega)) _).setCell (by first | omega | (simp; done) | (simp; omega)) _).setCell (by first | omega | (simp; done) | (simp; omega)) _⟩

theorem double_gives {W0 : World} {pb wd hi : Nat} {v : Value} {bs : List Nat} {wd2 hi2 : Nat} (hb3 : wd2 ≤ 24) (hb4 : hi2 ≤ 24) (h : PicAt W0 pb wd hi v bs 26) (hw : 0 < wd) (hh : 0 < hi) (hw2 : wd ≤ 24) (hh2 : hi ≤ 24) :
    Gives2 W0 (.func (.func 39) #[] #[.pointer (some ⟨pb, 0, none⟩)]) wd2 hi2 (fun x y => fl (bs.getD (ix ((x / 2 : Nat) : Int) ((y / 2 : Nat) : Int) wd hi) 0)) := by
  refine gives_about (fun x y => ((x / 2 : Nat) : Int)) (fun x y => ((y / 2 : Nat) : Int)) h hw hh Try.call39 fun x y W hx hy hp hbW => ?_
  have b1 : (x : Int) < 24 := by omega
  have b2 : (y : Int) < 24 := by omega
  show Calls _ _ #[.int .i64 x, .int .i64 y, .pointer (some ⟨pb, 0, none⟩)] _ _
  go_enter Try.func39, Try.ntmps39
  go_wp2_with fail
  refine (about_any W pb wd hi v bs _ _ hw hh (by omega) (by omega) hp).mono ?_
  rintro e w' ⟨rfl, n, rfl⟩
  go_wp2
  go_ret
  exact ⟨rfl, n, rfl⟩

theorem double_ok (w : World) (wd hi : Nat) (sa : Option Addr) (c : Nat) (bs : List Nat) (wd2 hi2 : Nat) (hS : szOk wd2 hi2 = true) (h : PicOk w wd hi sa c bs) :
    Calls Try.prog 18 #[.agg #[.int .i64 wd, .int .i64 hi, .slice sa bs.length c], .int .i64 wd2, .int .i64 hi2] w (MakesPicOk w wd2 hi2 fun x y => fl (bs.getD (ix ((x / 2 : Nat) : Int) ((y / 2 : Nat) : Int) wd hi) 0)) := by
  obtain ⟨d1, d2, d3, d4, d5⟩ := h.dims
  have hV := h.vl
  have hL : bs.length ≤ 256 := by rw [h.len]; omega
  have hS2 := szOk_spec hS
  have b3 : wd2 ≤ 24 := by omega
  have b4 : hi2 ≤ 24 := by omega
  clear hS2
  go_enter Try.func18, Try.ntmps18
  go_wp2_with fail
  refine (validPicture_any _ _ _ _ _ (by omega) _).mono ?_
  rw [hV]
  rintro e w1 ⟨rfl, hb1⟩
  have hb0 := (below_two w (.cells #[.int .i64 wd, .int .i64 hi, .slice sa bs.length c] 26) (.cells #[.int .i64 0, .int .i64 0, .slice none 0 0] 26)).trans (hb1.mono (by simp; omega))
  have hP := h.at hb0 ((box_first w _ _ _ _ _).below hb1)
  obtain ⟨hc, hf⟩ := bcell hb1
  have hz : w.heap.size + 1 < w1.heap.size := by have := hb1.size; simp at this; omega
  go_wp2_with fail
  refine (sizeOk_any _ _ _).mono ?_
  rw [hS]
  rintro e w2 ⟨rfl, rfl⟩
  clear hS hV
  go_wp2_with fail
  refine (made_any w1 wd2 hi2 _ _ b3 b4 (double_gives b3 b4 hP d1 d2 d3 d4)).mono ?_
  rintro e w2 ⟨a, cc, bs', rfl, hown, hcon, hb2⟩
  have hbb := hb0.trans (hb2.mono hb0.size)
  obtain ⟨hc2, hf2⟩ := bcell hb2
  have hz2 : w.heap.size + 1 < w2.heap.size := by have := hb2.size; omega
  go_wp2
  refine bodyPost_ret (v := .tuple #[.agg #[.int .i64 wd2, .int .i64 hi2, .slice a bs'.length cc], .bool true]) (by simp [results, Try.results18, go_sem, hc2, hc, hz, hz2]) rfl ?_
  exact ⟨a, cc, bs', rfl, (((hown.set (by first | omega | (simp; done) | (simp; omega)) _).set (by first | omega | (simp; done) | (simp; omega)) _).set (by first | omega | (simp; done) | (simp; omega)) _).mono (by first | omega | (simp; done) | (simp; omega)), hcon, ((hbb.setCell (by first | omega | (simp; done) | (simp; omega)) _).setCell (by first | omega | (simp; done) | (simp; omega)) _).setCell (by first | omega | (simp; done) | (simp; omega)) _⟩

theorem greyAt_ok (w : World) (wd hi : Nat) (sa : Option Addr) (c : Nat) (bs : List Nat) (x y : Nat) (k1 : x < wd) (k2 : y < hi) (h : PicOk w wd hi sa c bs) :
    Calls Try.prog 14 #[.agg #[.int .i64 wd, .int .i64 hi, .slice sa bs.length c], .int .i64 x, .int .i64 y] w fun e w' => e = .returned (.tuple #[.float .f32 (bs.getD (ix x y wd hi) 0), .bool true]) ∧ Below w.heap.size w w' := by
  obtain ⟨d1, d2, d3, d4, d5⟩ := h.dims
  have hV := h.vl
  have hL : bs.length ≤ 256 := by rw [h.len]; omega
  have hI1 : inB x y wd hi = true := inB_iff.2 (by omega)
  go_enter Try.func14, Try.ntmps14
  go_wp2_with fail
  refine (validPicture_any _ _ _ _ _ (by omega) _).mono ?_
  rw [hV]
  rintro e w1 ⟨rfl, hb1⟩
  have hb0 := ((Below.refl w.heap.size w).alloc (Nat.le_refl _) (.cells #[.int .i64 wd, .int .i64 hi, .slice sa bs.length c] 26)).trans (hb1.mono (by simp))
  have hP := h.at hb0 ((box_last w _ _ _ _).below hb1)
  go_wp2_with fail
  refine (picHas_any _ _ _ _ _ _ _ (by omega) (by omega) hP.box).mono ?_
  rw [hI1]
  rintro e w2 ⟨rfl, rfl⟩
  go_wp2_with fail
  refine (about_any _ _ wd hi _ bs _ _ d1 d2 (by omega) (by omega) hP).mono ?_
  rintro e w' ⟨rfl, n, rfl⟩
  go_wp2
  go_ret2
  exact ⟨rfl, below_drewN hb0 n⟩

/-- Half of a sum of four. -/
def hsum (a b c d : Nat) : Nat := fop .quo (fop .add (fop .add (fop .add a b) c) d) 1082130432
def halfG (bs : List Nat) (wd hi : Nat) (x y : Nat) : Nat :=
  hsum (fl (bs.getD (ix (2 * (x : Int)) (2 * (y : Int)) wd hi) 0)) (fl (bs.getD (ix (2 * (x : Int) + 1) (2 * (y : Int)) wd hi) 0)) (fl (bs.getD (ix (2 * (x : Int)) (2 * (y : Int) + 1) wd hi) 0)) (fl (bs.getD (ix (2 * (x : Int) + 1) (2 * (y : Int) + 1) wd hi) 0))

theorem fl_c4 : fl 1082130432 = 1082130432 := by decide

theorem PicAt.drewN {W : World} {pb wd hi : Nat} {v : Value} {bs : List Nat} {T : TypeId} (h : PicAt W pb wd hi v bs T) (n : Nat) : PicAt (W.drewN n) pb wd hi v bs T := ⟨h.box, ⟨h.sl.1.drewN n, h.sl.2⟩, h.len⟩

theorem halved_gives {W0 : World} {pb wd hi : Nat} {v : Value} {bs : List Nat} {wd2 hi2 : Nat} (hb3 : wd2 ≤ 24) (hb4 : hi2 ≤ 24) (h : PicAt W0 pb wd hi v bs 26) (hw : 0 < wd) (hh : 0 < hi) (hw2 : wd ≤ 24) (hh2 : hi ≤ 24) :
    Gives2 W0 (.func (.func 47) #[] #[.pointer (some ⟨pb, 0, none⟩)]) wd2 hi2 (halfG bs wd hi) := by
  refine ⟨47, _, rfl, Try.call47, fun x y W hx hy hbW => ?_⟩
  have hp := h.below hbW
  have b1 : (x : Int) < 24 := by omega
  have b2 : (y : Int) < 24 := by omega
  show Calls _ _ #[.int .i64 x, .int .i64 y, .pointer (some ⟨pb, 0, none⟩)] _ _
  go_enter Try.func47, Try.ntmps47
  go_wp2_with fail
  refine (about_any _ pb wd hi v bs _ _ hw hh (by omega) (by omega) hp).mono ?_
  rintro e w' ⟨rfl, n1, rfl⟩
  go_wp2_with fail
  refine (about_any _ pb wd hi v bs _ _ hw hh (by omega) (by omega) (by exact (hp.drewN _))).mono ?_
  rintro e w' ⟨rfl, n2, rfl⟩
  go_wp2_with fail
  refine (about_any _ pb wd hi v bs _ _ hw hh (by omega) (by omega) (by exact (hp.drewN _))).mono ?_
  rintro e w' ⟨rfl, n3, rfl⟩
  go_wp2_with fail
  refine (about_any _ pb wd hi v bs _ _ hw hh (by omega) (by omega) (by exact (hp.drewN _))).mono ?_
  rintro e w' ⟨rfl, n4, rfl⟩
  go_wp2
  go_ret
  exact ⟨_, rfl, fres_lt _ _ _ _, by rw [fl_fres, fl_fres, fl_fres, fl_fres, fl_c4]; rfl, below_drewN (Below.refl _ _) _⟩

theorem halfUp_any (n : Nat) (hn : n ≤ 1000) (w : World) : Calls Try.prog 46 #[.int .i64 n] w fun e w' => e = .returned (.int .i64 ((n + 1) / 2 : Nat)) ∧ w = w' := by
  have h : (n : Int) ≤ 1000 := by omega
  go_enter Try.func46, Try.ntmps46
  go_wp2
  go_ret
  simp

theorem halved_ok (w : World) (wd hi : Nat) (sa : Option Addr) (c : Nat) (bs : List Nat) (h : PicOk w wd hi sa c bs) :
    Calls Try.prog 40 #[.agg #[.int .i64 wd, .int .i64 hi, .slice sa bs.length c]] w (MakesPic w ((wd + 1) / 2) ((hi + 1) / 2) (halfG bs wd hi)) := by
  obtain ⟨d1, d2, d3, d4, d5⟩ := h.dims
  have hb0 := below_two w (.cells #[.int .i64 wd, .int .i64 hi, .slice sa bs.length c] 26) (.cells #[.int .i64 0, .int .i64 0, .slice none 0 0] 26)
  have hP := h.at hb0 (box_first w _ _ _ _ _)
  have e1 : (wd + 1) / 2 ≤ 24 := by omega
  have e2 : (hi + 1) / 2 ≤ 24 := by omega
  have hG := halved_gives e1 e2 (hP.drewN 1) d1 d2 d3 d4
  have k1 := fun w => halfUp_any wd (by omega) w
  have k2 := fun w => halfUp_any hi (by omega) w
  generalize hA : (wd + 1) / 2 = A at *
  generalize hB : (hi + 1) / 2 = B at *
  have K1 := Lib.hid k1
  have K2 := Lib.hid k2
  clear k1 k2 hA hB
  go_enter Try.func40, Try.ntmps40
  go_wp2_with fail
  go_region_law (first
    | (go_simp; with_reducible refine (K1.out _).mono ?_; rintro e w1 ⟨rfl, rfl⟩)
    | (go_simp; with_reducible refine (K2.out _).mono ?_; rintro e w1 ⟨rfl, rfl⟩)
    | (go_simp; refine (made_any _ _ _ _ _ e1 e2 hG).mono ?_; rintro e w2 ⟨a, cc, bs', rfl, hown, hcon, hb2⟩; have hbb := hb0.trans ((below_drewN (Below.refl _ _) 1).trans (hb2.mono hb0.size)); obtain ⟨hc2, hf2⟩ := bcell hb2; have hz2 : w.heap.size + 1 < w2.heap.size := (by have := hb2.size; simp at this; omega)))
  all_goals
    go_wp2
    refine bodyPost_ret (v := .agg #[.int .i64 A, .int .i64 B, .slice a bs'.length cc]) (by simp [results, Try.results40, go_sem, hc2, hz2]) rfl ?_
    exact ⟨a, cc, bs', rfl, (((hown.set (by first | omega | (simp; done) | (simp; omega)) _).set (by first | omega | (simp; done) | (simp; omega)) _).set (by first | omega | (simp; done) | (simp; omega)) _).mono (by first | omega | (simp; done) | (simp; omega)), hcon, ((hbb.setCell (by first | omega | (simp; done) | (simp; omega)) _).setCell (by first | omega | (simp; done) | (simp; omega)) _).setCell (by first | omega | (simp; done) | (simp; omega)) _⟩

theorem halve_ok (w : World) (wd hi : Nat) (sa : Option Addr) (c : Nat) (bs : List Nat) (h : PicOk w wd hi sa c bs) :
    Calls Try.prog 19 #[.agg #[.int .i64 wd, .int .i64 hi, .slice sa bs.length c]] w (MakesPicOk w ((wd + 1) / 2) ((hi + 1) / 2) (halfG bs wd hi)) := by
  obtain ⟨d1, d2, d3, d4, d5⟩ := h.dims
  have hV := h.vl
  have hL : bs.length ≤ 256 := by rw [h.len]; omega
  have hK := fun w' h' => halved_ok w' wd hi sa c bs h'
  generalize (wd + 1) / 2 = A at hK ⊢
  generalize (hi + 1) / 2 = B at hK ⊢
  go_enter Try.func19, Try.ntmps19
  go_wp2_with fail
  refine (validPicture_any _ _ _ _ _ (by omega) _).mono ?_
  rw [hV]
  rintro e w1 ⟨rfl, hb1⟩
  have hb0 := (below_two w (.cells #[.int .i64 wd, .int .i64 hi, .slice sa bs.length c] 26) (.cells #[.int .i64 0, .int .i64 0, .slice none 0 0] 26)).trans (hb1.mono (by simp; omega))
  obtain ⟨hc, hf⟩ := bcell hb1
  have hz : w.heap.size + 1 < w1.heap.size := by have := hb1.size; simp at this; omega
  go_wp2_with fail
  refine (hK w1 (h.below hb0)).mono ?_
  rintro e w2 ⟨a, cc, bs', rfl, hown, hcon, hb2⟩
  have hbb := hb0.trans (hb2.mono hb0.size)
  obtain ⟨hc2, hf2⟩ := bcell hb2
  have hz2 : w.heap.size + 1 < w2.heap.size := by have := hb2.size; omega
  go_wp2
  refine bodyPost_ret (v := .tuple #[.agg #[.int .i64 A, .int .i64 B, .slice a bs'.length cc], .bool true]) (by simp [results, Try.results19, go_sem, hc2, hc, hz, hz2]) rfl ?_
  exact ⟨a, cc, bs', rfl, (((hown.set (by first | omega | (simp; done) | (simp; omega)) _).set (by first | omega | (simp; done) | (simp; omega)) _).set (by first | omega | (simp; done) | (simp; omega)) _).mono (by first | omega | (simp; done) | (simp; omega)), hcon, ((hbb.setCell (by first | omega | (simp; done) | (simp; omega)) _).setCell (by first | omega | (simp; done) | (simp; omega)) _).setCell (by first | omega | (simp; done) | (simp; omega)) _⟩

theorem putG_gives {W0 : World} {pb qb rb gb wd hi x0 y0 gr : Nat} {v : Value} {bs : List Nat} (h : PicAt W0 pb wd hi v bs 26) (hw : 0 < wd) (hh : 0 < hi) (hw2 : wd ≤ 24) (hh2 : hi ≤ 24)
    (hq : W0.cell? ⟨qb, 0, none⟩ = some (.int .i64 x0)) (hqb : qb < W0.heap.size) (hr : W0.cell? ⟨rb, 0, none⟩ = some (.int .i64 y0)) (hrb : rb < W0.heap.size) (hg : W0.cell? ⟨gb, 0, none⟩ = some (.float .f32 gr)) (hgb : gb < W0.heap.size) (hgr : gr < 4294967296) :
    Gives2 W0 (.func (.func 34) #[] #[.pointer (some ⟨qb, 0, none⟩), .pointer (some ⟨rb, 0, none⟩), .pointer (some ⟨gb, 0, none⟩), .pointer (some ⟨pb, 0, none⟩)]) wd hi (fun x y => if x = x0 ∧ y = y0 then fl gr else fl (bs.getD (ix x y wd hi) 0)) := by
  refine ⟨34, _, rfl, Try.call34, fun x y W hx hy hbW => ?_⟩
  have hp := h.below hbW
  have hq' : W.cell? ⟨qb, 0, none⟩ = some (.int .i64 x0) := by rw [hbW.cell (p := ⟨qb, 0, none⟩) hqb]; exact hq
  have hr' : W.cell? ⟨rb, 0, none⟩ = some (.int .i64 y0) := by rw [hbW.cell (p := ⟨rb, 0, none⟩) hrb]; exact hr
  have hg' : W.cell? ⟨gb, 0, none⟩ = some (.float .f32 gr) := by rw [hbW.cell (p := ⟨gb, 0, none⟩) hgb]; exact hg
  clear hq hr hg
  show Calls _ _ #[.int .i64 x, .int .i64 y, .pointer (some ⟨qb, 0, none⟩), .pointer (some ⟨rb, 0, none⟩), .pointer (some ⟨gb, 0, none⟩), .pointer (some ⟨pb, 0, none⟩)] _ _
  by_cases hxx : x = x0
  · by_cases hyy : y = y0
    · subst hxx; subst hyy
      dsimp only
      rw [if_pos ⟨rfl, rfl⟩]
      go_enter Try.func34, Try.ntmps34
      go_wp2
      go_ret
      exact ⟨_, rfl, hgr, rfl, Below.refl _ _⟩
    · dsimp only
      rw [if_neg (by omega)]
      have k2 : ((y : Int) == (y0 : Int)) = false := by rw [beq_eq_false_iff_ne]; omega
      have k3 : decide (y = y0) = false := by simpa using hyy
      subst hxx
      go_enter Try.func34, Try.ntmps34
      go_wp2_with fail
      refine (about_any _ pb wd hi v bs _ _ hw hh (by omega) (by omega) hp).mono ?_
      rintro e w' ⟨rfl, n1, rfl⟩
      go_wp2
      go_ret
      exact ⟨_, rfl, h.pos (ix_lt _ _ hw hh), rfl, below_drewN (Below.refl _ _) _⟩
  · dsimp only
    rw [if_neg (by omega)]
    have k2 : ((x : Int) == (x0 : Int)) = false := by rw [beq_eq_false_iff_ne]; omega
    have k3 : decide (x = x0) = false := by simpa using hxx
    go_enter Try.func34, Try.ntmps34
    go_wp2_with fail
    refine (about_any _ pb wd hi v bs _ _ hw hh (by omega) (by omega) hp).mono ?_
    rintro e w' ⟨rfl, n1, rfl⟩
    go_wp2
    go_ret
    exact ⟨_, rfl, h.pos (ix_lt _ _ hw hh), rfl, below_drewN (Below.refl _ _) _⟩

theorem put_ok (w : World) (wd hi : Nat) (sa : Option Addr) (c : Nat) (bs : List Nat) (x0 y0 gr : Nat) (k1 : x0 < wd) (k2 : y0 < hi) (hgr : gr < 4294967296) (h : PicOk w wd hi sa c bs) :
    Calls Try.prog 15 #[.agg #[.int .i64 wd, .int .i64 hi, .slice sa bs.length c], .int .i64 x0, .int .i64 y0, .float .f32 gr] w (MakesPicOk w wd hi fun x y => if x = x0 ∧ y = y0 then fl gr else fl (bs.getD (ix x y wd hi) 0)) := by
  obtain ⟨d1, d2, d3, d4, d5⟩ := h.dims
  have hV := h.vl
  have hL : bs.length ≤ 256 := by rw [h.len]; omega
  have hI1 : inB x0 y0 wd hi = true := inB_iff.2 (by omega)
  go_enter Try.func15, Try.ntmps15
  go_wp2_with fail
  refine (validPicture_any _ _ _ _ _ (by omega) _).mono ?_
  rw [hV]
  rintro e w1 ⟨rfl, hb1⟩
  have hb0 := ((((below_two w (.cells #[.int .i64 wd, .int .i64 hi, .slice sa bs.length c] 26) (.cells #[.int .i64 x0] 2)).alloc (by simp; omega) (.cells #[.int .i64 y0] 2)).alloc (by simp; omega) (.cells #[.float .f32 gr] 35)).alloc (by simp; omega) (.cells #[.int .i64 0, .int .i64 0, .slice none 0 0] 26)).trans (hb1.mono (by simp; omega))
  have hP := h.at hb0 (((((box_first w _ _ _ _ _).below ((Below.refl _ _).alloc (Nat.le_refl _) _)).below ((Below.refl _ _).alloc (Nat.le_refl _) _)).below ((Below.refl _ _).alloc (Nat.le_refl _) _)).below hb1)
  obtain ⟨hc, hf⟩ := bcell hb1
  have hz : w.heap.size + 4 < w1.heap.size := by have := hb1.size; simp at this; omega
  have q1 : w1.cell? ⟨w.heap.size + 1, 0, none⟩ = some (.int .i64 x0) := by rw [hc _ _ (by first | (simp; done) | (simp; omega))]; simp [go_sem]
  have q2 : w1.cell? ⟨w.heap.size + 2, 0, none⟩ = some (.int .i64 y0) := by rw [hc _ _ (by first | (simp; done) | (simp; omega))]; simp [go_sem]
  have q3 : w1.cell? ⟨w.heap.size + 3, 0, none⟩ = some (.float .f32 gr) := by rw [hc _ _ (by first | (simp; done) | (simp; omega))]; simp [go_sem]
  clear hb1
  go_wp2_with fail
  refine (picHas_any _ _ _ _ _ _ _ (by omega) (by omega) hP.box).mono ?_
  rw [hI1]
  rintro e w2 ⟨rfl, rfl⟩
  clear hI1
  go_wp2_with fail
  refine (remade_ok _ wd hi _ sa c _ _ hV (putG_gives hP d1 d2 d3 d4 q1 (by omega) q2 (by omega) q3 (by omega) hgr)).mono ?_
  rintro e w2 ⟨a, cc, bs', rfl, hown, hcon, hb2⟩
  have hbb := hb0.trans (hb2.mono hb0.size)
  obtain ⟨hc2, hf2⟩ := bcell hb2
  have hz2 : w.heap.size + 4 < w2.heap.size := by have := hb2.size; omega
  go_wp2
  refine bodyPost_ret (v := .tuple #[.agg #[.int .i64 wd, .int .i64 hi, .slice a bs'.length cc], .bool true]) (by simp [results, Try.results15, go_sem, hc2, hc, hz, hz2]) rfl ?_
  exact ⟨a, cc, bs', rfl, (((hown.set (by first | omega | (simp; done) | (simp; omega)) _).set (by first | omega | (simp; done) | (simp; omega)) _).set (by first | omega | (simp; done) | (simp; omega)) _).mono (by first | omega | (simp; done) | (simp; omega)), hcon, ((hbb.setCell (by first | omega | (simp; done) | (simp; omega)) _).setCell (by first | omega | (simp; done) | (simp; omega)) _).setCell (by first | omega | (simp; done) | (simp; omega)) _⟩

end Go.Proofs.Ytdaaookaphdnaaa
