/- Pictures turned: mirror, flip, swap, shift, crop, flat, put, double. -/
import Derived.Test.YtmpbnmmpniganaaPic
namespace Go.Proofs.Ytmpbnmmpniganaa
open Go.RowKit
set_option maxRecDepth 100000
set_option linter.unusedVariables false
set_option linter.unusedSimpArgs false

theorem PicAt.pos {W : World} {pb wd hi : Nat} {v : Value} {bs : List Nat} {T : TypeId} (h : PicAt W pb wd hi v bs T) {i : Nat} (hi_ : i < wd * hi) : bs.getD i 0 < 4294967296 := by
  rw [← getD_of bs i (by rw [h.len]; exact hi_)]; exact h.sl.lt _

/-- A number read off a picture, and nothing else. -/
theorem gives_about {fid : FuncId} {caps : Array Value} {W0 : World} {pb wd hi : Nat} {v : Value} {bs : List Nat} {wd' hi' : Nat} (px py : Nat → Nat → Int) (h : PicAt W0 pb wd hi v bs 37) (hw : 0 < wd) (hh : 0 < hi)
    (hcall : ∀ args w, (callFunc fid args).run Try.prog w = .ok (.enter fid args) w)
    (hrun : ∀ (x y : Nat) (W : World), x < wd' → y < hi' → PicAt W pb wd hi v bs 37 → Below W0.heap.size W0 W → Calls Try.prog fid (#[.int .i64 x, .int .i64 y] ++ caps) W fun e w' => e = .returned (.float .f32 (bs.getD (ix (px x y) (py x y) wd hi) 0)) ∧ ∃ n, w' = W.drewN n) :
    Gives2 W0 (.func (.func fid) #[] caps) wd' hi' (fun x y => fl (bs.getD (ix (px x y) (py x y) wd hi) 0)) := by
  refine ⟨fid, caps, rfl, hcall, fun x y W hx hy hb => ?_⟩
  refine (hrun x y W hx hy (h.below hb) hb).mono ?_
  rintro e w' ⟨rfl, n, rfl⟩
  exact ⟨_, rfl, h.pos (ix_lt _ _ hw hh), rfl, below_drewN (Below.refl _ _) n⟩

/-- A picture that came in: right sizes, a slice that reads as a list. -/
structure PicOk (w : World) (wd hi : Nat) (sa : Option Addr) (c : Nat) (bs : List Nat) : Prop where
  v : vPic wd hi (wd * hi) = true
  sl : SlF w (.slice sa bs.length c) bs
  len : bs.length = wd * hi
theorem PicOk.below {w w' : World} {wd hi : Nat} {sa : Option Addr} {c : Nat} {bs : List Nat} (h : PicOk w wd hi sa c bs) (hb : Below w.heap.size w w') : PicOk w' wd hi sa c bs := ⟨h.v, h.sl.below hb, h.len⟩
theorem PicOk.vl {w : World} {wd hi : Nat} {sa : Option Addr} {c : Nat} {bs : List Nat} (h : PicOk w wd hi sa c bs) : vPic wd hi bs.length = true := by rw [h.len]; exact h.v
theorem PicOk.dims {w : World} {wd hi : Nat} {sa : Option Addr} {c : Nat} {bs : List Nat} (h : PicOk w wd hi sa c bs) : 0 < wd ∧ 0 < hi ∧ wd ≤ 24 ∧ hi ≤ 24 ∧ wd * hi ≤ 256 := by
  obtain ⟨x1, x2, e1, e2, e3, b1, b2, b3, b4, b5⟩ := vPic_spec h.v
  have : x1 = wd := by omega
  have : x2 = hi := by omega
  subst_vars; omega

theorem bcell {W w1 : World} (hb : Below W.heap.size W w1) : (∀ b o, b < W.heap.size → w1.cell? ⟨b, o, none⟩ = W.cell? ⟨b, o, none⟩) ∧ (∀ b o, b < W.heap.size → w1.frozen? ⟨b, o, none⟩ = W.frozen? ⟨b, o, none⟩) :=
  ⟨fun b o h => hb.cell (p := ⟨b, o, none⟩) h, fun b o h => hb.frozen (p := ⟨b, o, none⟩) h⟩

theorem PicOk.at {w W : World} {wd hi : Nat} {sa : Option Addr} {c : Nat} {bs : List Nat} {T : TypeId} {pb : Nat} (h : PicOk w wd hi sa c bs) (hb : Below w.heap.size w W) (hx : Box3 W pb (.int .i64 wd) (.int .i64 hi) (.slice sa bs.length c) T) : PicAt W pb wd hi (.slice sa bs.length c) bs T := ⟨hx, h.sl.below hb, h.len⟩

/-- Half of a sum of four. -/
def hsum (a b c d : Nat) : Nat := fop .quo (fop .add (fop .add (fop .add a b) c) d) 1082130432
def halfG (bs : List Nat) (wd hi : Nat) (x y : Nat) : Nat :=
  hsum (fl (bs.getD (ix (2 * (x : Int)) (2 * (y : Int)) wd hi) 0)) (fl (bs.getD (ix (2 * (x : Int) + 1) (2 * (y : Int)) wd hi) 0)) (fl (bs.getD (ix (2 * (x : Int)) (2 * (y : Int) + 1) wd hi) 0)) (fl (bs.getD (ix (2 * (x : Int) + 1) (2 * (y : Int) + 1) wd hi) 0))

theorem fl_c4 : fl 1082130432 = 1082130432 := by decide

theorem PicAt.drewN {W : World} {pb wd hi : Nat} {v : Value} {bs : List Nat} {T : TypeId} (h : PicAt W pb wd hi v bs T) (n : Nat) : PicAt (W.drewN n) pb wd hi v bs T := ⟨h.box, ⟨h.sl.1.drewN n, h.sl.2⟩, h.len⟩

theorem halved_gives {W0 : World} {pb wd hi : Nat} {v : Value} {bs : List Nat} {wd2 hi2 : Nat} (hb3 : wd2 ≤ 24) (hb4 : hi2 ≤ 24) (h : PicAt W0 pb wd hi v bs 37) (hw : 0 < wd) (hh : 0 < hi) (hw2 : wd ≤ 24) (hh2 : hi ≤ 24) :
    Gives2 W0 (.func (.func 99) #[] #[.pointer (some ⟨pb, 0, none⟩)]) wd2 hi2 (halfG bs wd hi) := by
  refine ⟨99, _, rfl, Try.call99, fun x y W hx hy hbW => ?_⟩
  have hp := h.below hbW
  have b1 : (x : Int) < 24 := by omega
  have b2 : (y : Int) < 24 := by omega
  show Calls _ _ #[.int .i64 x, .int .i64 y, .pointer (some ⟨pb, 0, none⟩)] _ _
  go_enter Try.func99, Try.ntmps99
  go_wp2_with fail
  refine (about_any _ pb wd hi v bs _ _ hw hh (by omega) (by omega) hp).mono ?_
  rintro e w' ⟨rfl, n1, rfl⟩
  go_wp2_with fail
  refine (about_any _ pb wd hi v bs _ _ hw hh (by omega) (by omega) (by exact (hp.drewN _))).mono ?_
  rintro e w' ⟨rfl, n2, rfl⟩
  go_wp2_with fail
  refine (about_any _ pb wd hi v bs _ _ hw hh (by omega) (by omega) (by exact (hp.drewN _))).mono ?_
  rintro e w' ⟨rfl, n3, rfl⟩
  go_wp2_with fail
  refine (about_any _ pb wd hi v bs _ _ hw hh (by omega) (by omega) (by exact (hp.drewN _))).mono ?_
  rintro e w' ⟨rfl, n4, rfl⟩
  go_wp2
  go_ret
  exact ⟨_, rfl, fres_lt _ _ _ _, by rw [fl_fres, fl_fres, fl_fres, fl_fres, fl_c4]; rfl, below_drewN (Below.refl _ _) _⟩

theorem halfUp_any (n : Nat) (hn : n ≤ 1000) (w : World) : Calls Try.prog 50 #[.int .i64 n] w fun e w' => e = .returned (.int .i64 ((n + 1) / 2 : Nat)) ∧ w = w' := by
  have h : (n : Int) ≤ 1000 := by omega
  go_enter Try.func50, Try.ntmps50
  go_wp2
  go_ret
  simp

theorem halved_ok (w : World) (wd hi : Nat) (sa : Option Addr) (c : Nat) (bs : List Nat) (h : PicOk w wd hi sa c bs) :
    Calls Try.prog 59 #[.agg #[.int .i64 wd, .int .i64 hi, .slice sa bs.length c]] w (MakesPic w ((wd + 1) / 2) ((hi + 1) / 2) (halfG bs wd hi)) := by
  obtain ⟨d1, d2, d3, d4, d5⟩ := h.dims
  have hb0 := below_two w (.cells #[.int .i64 wd, .int .i64 hi, .slice sa bs.length c] 37) (.cells #[.int .i64 0, .int .i64 0, .slice none 0 0] 37)
  have hP := h.at hb0 (box_first w _ _ _ _ _)
  have e1 : (wd + 1) / 2 ≤ 24 := by omega
  have e2 : (hi + 1) / 2 ≤ 24 := by omega
  have hG := halved_gives e1 e2 (hP.drewN 1) d1 d2 d3 d4
  have k1 := fun w => halfUp_any wd (by omega) w
  have k2 := fun w => halfUp_any hi (by omega) w
  generalize hA : (wd + 1) / 2 = A at *
  generalize hB : (hi + 1) / 2 = B at *
  have K1 := Lib.hid k1
  have K2 := Lib.hid k2
  clear k1 k2 hA hB
  go_enter Try.func59, Try.ntmps59
  go_wp2_with fail
  go_region_law (first
    | (go_simp; with_reducible refine (K1.out _).mono ?_; rintro e w1 ⟨rfl, rfl⟩)
    | (go_simp; with_reducible refine (K2.out _).mono ?_; rintro e w1 ⟨rfl, rfl⟩)
    | (go_simp; refine (made_any _ _ _ _ _ e1 e2 hG).mono ?_; rintro e w2 ⟨a, cc, bs', rfl, hown, hcon, hb2⟩; have hbb := hb0.trans ((below_drewN (Below.refl _ _) 1).trans (hb2.mono hb0.size)); obtain ⟨hc2, hf2⟩ := bcell hb2; have hz2 : w.heap.size + 1 < w2.heap.size := (by have := hb2.size; simp at this; omega)))
  all_goals
    go_wp2
    refine bodyPost_ret (v := .agg #[.int .i64 A, .int .i64 B, .slice a bs'.length cc]) (by simp [results, Try.results59, go_sem, hc2, hz2]) rfl ?_
    exact ⟨a, cc, bs', rfl, (((hown.set (by first | omega | (simp; done) | (simp; omega)) _).set (by first | omega | (simp; done) | (simp; omega)) _).set (by first | omega | (simp; done) | (simp; omega)) _).mono (by first | omega | (simp; done) | (simp; omega)), hcon, ((hbb.setCell (by first | omega | (simp; done) | (simp; omega)) _).setCell (by first | omega | (simp; done) | (simp; omega)) _).setCell (by first | omega | (simp; done) | (simp; omega)) _⟩

end Go.Proofs.Ytmpbnmmpniganaa
