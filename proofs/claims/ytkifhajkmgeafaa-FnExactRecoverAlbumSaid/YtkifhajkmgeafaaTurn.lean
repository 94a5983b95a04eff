/- Pictures turned: mirror, flip, swap, shift, crop, flat, put, double. -/
import Derived.Test.YtkifhajkmgeafaaPic
namespace Go.Proofs.Ytkifhajkmgeafaa
open Go.RowKit
set_option maxRecDepth 100000
set_option linter.unusedVariables false
set_option linter.unusedSimpArgs false

theorem PicAt.pos {W : World} {pb wd hi : Nat} {v : Value} {bs : List Nat} {T : TypeId} (h : PicAt W pb wd hi v bs T) {i : Nat} (hi_ : i < wd * hi) : bs.getD i 0 < 4294967296 := by
  rw [← getD_of bs i (by rw [h.len]; exact hi_)]; exact h.sl.lt _

/-- A number read off a picture, and nothing else. -/
theorem gives_about {fid : FuncId} {caps : Array Value} {W0 : World} {pb wd hi : Nat} {v : Value} {bs : List Nat} {wd' hi' : Nat} (px py : Nat → Nat → Int) (h : PicAt W0 pb wd hi v bs 41) (hw : 0 < wd) (hh : 0 < hi)
    (hcall : ∀ args w, (callFunc fid args).run Try.prog w = .ok (.enter fid args) w)
    (hrun : ∀ (x y : Nat) (W : World), x < wd' → y < hi' → PicAt W pb wd hi v bs 41 → Below W0.heap.size W0 W → Calls Try.prog fid (#[.int .i64 x, .int .i64 y] ++ caps) W fun e w' => e = .returned (.float .f32 (bs.getD (ix (px x y) (py x y) wd hi) 0)) ∧ ∃ n, w' = W.drewN n) :
    Gives2 W0 (.func (.func fid) #[] caps) wd' hi' (fun x y => fl (bs.getD (ix (px x y) (py x y) wd hi) 0)) := by
  refine ⟨fid, caps, rfl, hcall, fun x y W hx hy hb => ?_⟩
  refine (hrun x y W hx hy (h.below hb) hb).mono ?_
  rintro e w' ⟨rfl, n, rfl⟩
  exact ⟨_, rfl, h.pos (ix_lt _ _ hw hh), rfl, below_drewN (Below.refl _ _) n⟩

/-- A picture that came in: right sizes, a slice that reads as a list. -/
structure PicOk (w : World) (wd hi : Nat) (sa : Option Addr) (c : Nat) (bs : List Nat) : Prop where
  v : vPic wd hi (wd * hi) = true
  sl : SlF w (.slice sa bs.length c) bs
  len : bs.length = wd * hi
theorem PicOk.below {w w' : World} {wd hi : Nat} {sa : Option Addr} {c : Nat} {bs : List Nat} (h : PicOk w wd hi sa c bs) (hb : Below w.heap.size w w') : PicOk w' wd hi sa c bs := ⟨h.v, h.sl.below hb, h.len⟩
theorem PicOk.vl {w : World} {wd hi : Nat} {sa : Option Addr} {c : Nat} {bs : List Nat} (h : PicOk w wd hi sa c bs) : vPic wd hi bs.length = true := by rw [h.len]; exact h.v
theorem PicOk.dims {w : World} {wd hi : Nat} {sa : Option Addr} {c : Nat} {bs : List Nat} (h : PicOk w wd hi sa c bs) : 0 < wd ∧ 0 < hi ∧ wd ≤ 24 ∧ hi ≤ 24 ∧ wd * hi ≤ 256 := by
  obtain ⟨x1, x2, e1, e2, e3, b1, b2, b3, b4, b5⟩ := vPic_spec h.v
  have : x1 = wd := by omega
  have : x2 = hi := by omega
  subst_vars; omega

theorem bcell {W w1 : World} (hb : Below W.heap.size W w1) : (∀ b o, b < W.heap.size → w1.cell? ⟨b, o, none⟩ = W.cell? ⟨b, o, none⟩) ∧ (∀ b o, b < W.heap.size → w1.frozen? ⟨b, o, none⟩ = W.frozen? ⟨b, o, none⟩) :=
  ⟨fun b o h => hb.cell (p := ⟨b, o, none⟩) h, fun b o h => hb.frozen (p := ⟨b, o, none⟩) h⟩

theorem PicOk.at {w W : World} {wd hi : Nat} {sa : Option Addr} {c : Nat} {bs : List Nat} {T : TypeId} {pb : Nat} (h : PicOk w wd hi sa c bs) (hb : Below w.heap.size w W) (hx : Box3 W pb (.int .i64 wd) (.int .i64 hi) (.slice sa bs.length c) T) : PicAt W pb wd hi (.slice sa bs.length c) bs T := ⟨hx, h.sl.below hb, h.len⟩

/-- Half of a sum of four. -/
def hsum (a b c d : Nat) : Nat := fop .quo (fop .add (fop .add (fop .add a b) c) d) 1082130432
def halfG (bs : List Nat) (wd hi : Nat) (x y : Nat) : Nat :=
  hsum (fl (bs.getD (ix (2 * (x : Int)) (2 * (y : Int)) wd hi) 0)) (fl (bs.getD (ix (2 * (x : Int) + 1) (2 * (y : Int)) wd hi) 0)) (fl (bs.getD (ix (2 * (x : Int)) (2 * (y : Int) + 1) wd hi) 0)) (fl (bs.getD (ix (2 * (x : Int) + 1) (2 * (y : Int) + 1) wd hi) 0))

theorem fl_c4 : fl 1082130432 = 1082130432 := by decide

theorem PicAt.drewN {W : World} {pb wd hi : Nat} {v : Value} {bs : List Nat} {T : TypeId} (h : PicAt W pb wd hi v bs T) (n : Nat) : PicAt (W.drewN n) pb wd hi v bs T := ⟨h.box, ⟨h.sl.1.drewN n, h.sl.2⟩, h.len⟩

end Go.Proofs.Ytkifhajkmgeafaa
