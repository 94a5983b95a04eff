/- Contracts of the pictures' small functions: sizes, clamp, about, has, remade. -/
import Derived.Test.YtjibghjongplpaaDoorMade
import Derived.IntWalk
namespace Go.Proofs.YtjibghjongplpaaDoor
open Go.RowKit
set_option maxRecDepth 100000
set_option linter.unusedVariables false

/-- A contract that leaves the world alone, met in a region that draws. -/
theorem quiet_same {P : Program} {f : FuncId} {args : Array Value} {w : World} {n : Nat} {v : Value} (h : Calls P f args (w.drewN n) fun e w' => e = .returned v ∧ w.drewN n = w') :
    Calls P f args (w.drewN n) fun e w'' => e = .returned v ∧ ∃ m, w'' = w.drewN m := h.mono fun _ _ ⟨he, hw⟩ => ⟨he, n, hw.symm⟩

/-- The place among m that is nearest to n. -/
def cl (n : Int) (m : Nat) : Nat := (max 0 (min n ((m : Int) - 1))).toNat

theorem cl_lt (n : Int) {m : Nat} (h : 0 < m) : cl n m < m := by unfold cl; omega

theorem cl_in {n : Int} {m : Nat} (h0 : 0 ≤ n) (h1 : n < m) : (cl n m : Int) = n := by unfold cl; omega

theorem cl_nat {n m : Nat} (h1 : n < m) : cl (n : Int) m = n := by unfold cl; omega

/-- The cells of a picture's box, and what its slice reads as. -/
structure PicAt (W : World) (pb : Nat) (wd hi : Nat) (v : Value) (bs : List Nat) (T : TypeId) : Prop where
  box : Box3 W pb (.int .i64 wd) (.int .i64 hi) v T
  sl : SlF W v bs
  len : bs.length = wd * hi

theorem PicAt.below {W W' : World} {pb wd hi : Nat} {v : Value} {bs : List Nat} {T : TypeId} (h : PicAt W pb wd hi v bs T) (hb : Below W.heap.size W W') : PicAt W' pb wd hi v bs T := ⟨h.box.below hb, h.sl.below hb, h.len⟩

/-- The place of a cell about a place. -/
def ix (x y : Int) (wd hi : Nat) : Nat := cl x wd + wd * cl y hi

theorem ix_lt (x y : Int) {wd hi : Nat} (hw : 0 < wd) (hh : 0 < hi) : ix x y wd hi < wd * hi := by
  unfold ix
  have h1 := cl_lt x hw
  have h2 := cl_lt y hh
  calc cl x wd + wd * cl y hi < wd + wd * cl y hi := by omega
    _ = wd * (cl y hi + 1) := by rw [Nat.mul_add]; omega
    _ ≤ wd * hi := Nat.mul_le_mul_left _ h2

theorem getD_of (bs : List Nat) (i : Nat) (h : i < bs.length) : bs[i] = bs.getD i 0 := by rw [List.getD_eq_getElem?_getD, List.getElem?_eq_getElem h]; rfl

/-- A size that a picture may have. -/
def szOk (a b : Int) : Bool := decide (1 ≤ a) && decide (a ≤ 24) && (decide (1 ≤ b) && decide (b ≤ 24)) && decide (a * b ≤ 256)

theorem szOk_spec {a b : Int} (h : szOk a b = true) : 1 ≤ a ∧ a ≤ 24 ∧ 1 ≤ b ∧ b ≤ 24 ∧ a * b ≤ 256 := by
  unfold szOk at h; simp only [Bool.and_eq_true, decide_eq_true_eq] at h; omega

theorem szOk_of {a b : Int} (h1 : 1 ≤ a) (h2 : a ≤ 24) (h3 : 1 ≤ b) (h4 : b ≤ 24) (h5 : a * b ≤ 256) : szOk a b = true := by
  unfold szOk; simp [h1, h2, h3, h4, h5]

/-- A picture, a map that is right. -/
def vPic (a b : Int) (n : Nat) : Bool := szOk a b && decide ((n : Int) = a * b)

theorem vPic_spec {a b : Int} {n : Nat} (h : vPic a b n = true) : ∃ wd hi : Nat, a = wd ∧ b = hi ∧ n = wd * hi ∧ 1 ≤ wd ∧ wd ≤ 24 ∧ 1 ≤ hi ∧ hi ≤ 24 ∧ wd * hi ≤ 256 := by
  unfold vPic at h
  simp only [Bool.and_eq_true, decide_eq_true_eq] at h
  obtain ⟨h1, h2, h3, h4, h5⟩ := szOk_spec h.1
  obtain ⟨wd, rfl⟩ := Int.eq_ofNat_of_zero_le (show 0 ≤ a by omega)
  obtain ⟨hi, rfl⟩ := Int.eq_ofNat_of_zero_le (show 0 ≤ b by omega)
  have e : ((wd : Int) * (hi : Int)) = ((wd * hi : Nat) : Int) := by simp
  rw [e] at h5 h
  exact ⟨wd, hi, rfl, rfl, by omega, by omega, by omega, by omega, by omega, by omega⟩

theorem vPic_of {wd hi : Nat} (h1 : 1 ≤ wd) (h2 : wd ≤ 24) (h3 : 1 ≤ hi) (h4 : hi ≤ 24) (h5 : wd * hi ≤ 256) : vPic wd hi (wd * hi) = true := by
  unfold vPic
  rw [szOk_of (by omega) (by omega) (by omega) (by omega) (by rw [← Int.natCast_mul]; omega)]
  simp

/-- Is a place in a picture? -/
def inB (x y : Int) (wd hi : Nat) : Bool := decide (0 ≤ x) && decide (x ≤ (wd : Int) - 1) && (decide (0 ≤ y) && decide (y ≤ (hi : Int) - 1))

theorem inB_iff {x y : Int} {wd hi : Nat} : inB x y wd hi = true ↔ 0 ≤ x ∧ x < wd ∧ 0 ≤ y ∧ y < hi := by unfold inB; simp; omega

/-- A picture made anew, and true. -/
def MakesPicOk (w : World) (wd hi : Nat) (g : Nat → Nat → Nat) (e : Ending) (w' : World) : Prop :=
  ∃ a c bs, e = .returned (.tuple #[.agg #[.int .i64 wd, .int .i64 hi, .slice a (List.length bs) c], .bool true]) ∧ OwnF w' w.heap.size (.slice a (List.length bs) c) bs ∧ bs.map fl = tab (hi * wd) (fun i => g (i % wd) (i / wd)) ∧ Below w.heap.size w w'

theorem Gives2.below {w0 w1 : World} {fv : Value} {wd hi : Nat} {g : Nat → Nat → Nat} (h : Gives2 w0 fv wd hi g) (hb : Below w0.heap.size w0 w1) : Gives2 w1 fv wd hi g := by
  obtain ⟨fid, caps, h1, h2, h3⟩ := h
  exact ⟨fid, caps, h1, h2, fun x y W hx hy hW => h3 x y W hx hy (hb.trans (hW.mono hb.size))⟩

end Go.Proofs.YtjibghjongplpaaDoor
