/- Cameras: right ones, depths, points, heights: walks by words. -/
import Derived.Test.YtkhoifgljalfcaaOi
import Derived.Test.YtkhoifgljalfcaaDh
import Derived.Test.YtkhoifgljalfcaaBox
import Derived.Test.YtkhoifgljalfcaaNum
import Derived.Deep.QuietTactic
import Derived.Deep.Cut
import Derived.Deep.CutRange
namespace Go.Proofs.Ytkhoifgljalfcaa
open Go.RowKit Ieee
set_option maxRecDepth 100000
set_option linter.unusedVariables false
set_option linter.unusedSimpArgs false

/-- A number that is finite and greater than zero. -/
def plusB (x : Nat) : Bool := fin32 x && lt32 0 x
theorem plus_any (x : Nat) (w : World) : Calls Try.prog 66 #[.float .f32 x] w fun e w' => e = .returned (.bool (plusB x)) ∧ ∃ n, w' = w.drewN n := by
  unfold plusB
  have KF := Lib.hid (isFinite_any x w)
  obtain ⟨b, hb⟩ : ∃ b, fin32 x = b := ⟨_, rfl⟩
  rw [hb] at KF ⊢
  clear hb
  cases b
  · go_enter Try.func66, Try.ntmps66
    go_wp2_with fail
    refine KF.out.mono ?_
    rintro e w1 ⟨rfl, n, rfl⟩
    go_wp2_with fail
    go_ret
    exact ⟨rfl, n, rfl⟩
  · go_enter Try.func66, Try.ntmps66
    go_wp2_with fail
    refine KF.out.mono ?_
    rintro e w1 ⟨rfl, n, rfl⟩
    go_wp2_with fail
    go_ret
    exact ⟨by simp, n, rfl⟩

/-- A camera's words. -/
structure CamOk (F B mx my : Nat) : Prop where
  f : plusB F = true
  b : plusB B = true
  fx : fin32 mx = true
  fy : fin32 my = true
  lx : mx < 4294967296
  ly : my < 4294967296
def camC (F B mx my : Nat) : Array Value := #[.float .f32 F, .float .f32 B, .float .f32 mx, .float .f32 my]
theorem cam_cells {w : World} {b F B mx my : Nat} (h : BoxN w b (camC F B mx my) 37) : w.cell? ⟨b, 0, none⟩ = some (.float .f32 F) ∧ w.cell? ⟨b, 1, none⟩ = some (.float .f32 B) ∧ w.cell? ⟨b, 2, none⟩ = some (.float .f32 mx) ∧ w.cell? ⟨b, 3, none⟩ = some (.float .f32 my) :=
  ⟨h.cell 0, h.cell 1, h.cell 2, h.cell 3⟩

theorem validCam_any (w : World) {F B mx my : Nat} (h : CamOk F B mx my) : Calls Try.prog 27 #[.agg (camC F B mx my)] w fun e w' => e = .returned (.bool true) ∧ Below w.heap.size w w' := by
  obtain ⟨W0, hW0⟩ : ∃ W, W = w.alloc (.cells (camC F B mx my) 37) := ⟨_, rfl⟩
  have hb0 : Below w.heap.size w W0 := by rw [hW0]; exact (Below.refl _ _).alloc (Nat.le_refl _) _
  have hx0 : BoxN W0 w.heap.size (camC F B mx my) 37 := by rw [hW0]; exact BoxN.last w _ _
  have hsz : W0.heap.size = w.heap.size + 1 := by rw [hW0]; simp
  have HX := Lib.hid (And.intro hb0 hx0)
  have HW0 := Lib.hid hW0
  have K1 := Lib.hid (plus_any F W0)
  rw [h.f] at K1
  have K2 := Lib.hid (fun W => plus_any B W)
  rw [h.b] at K2
  have KF := Lib.hid (fun (W : World) => finite_yes (W.alloc (.cells #[.float .f32 mx, .float .f32 my] 24)) W.heap.size 0 2 2 [mx, my] ⟨⟨_, 2, rfl, by simp, by simp, .inr ⟨_, 0, rfl, by simp, by
      intro i hi
      have hbx := BoxN.last W #[.float .f32 mx, .float .f32 my] 24
      match i, hi with
      | 0, _ => exact hbx.cell 0
      | 1, _ => exact hbx.cell 1⟩⟩, by intro z hz; simp at hz; rcases hz with rfl | rfl; exact h.lx; exact h.ly⟩ (by intro z hz; simp at hz; rcases hz with rfl | rfl; exact h.fx; exact h.fy))
  clear h hb0 hx0 hW0
  unfold camC at *
  go_enter Try.func27, Try.ntmps27
  go_upto_region 1 with fail
  rw [← HW0.out]
  obtain ⟨c0, c1, c2, c3⟩ := cam_cells HX.out.2
  go_wp2_with fail
  refine K1.out.mono ?_
  rintro e w1 ⟨rfl, n1, hw1⟩
  have hb1 : Below W0.heap.size W0 w1 := by rw [hw1]; exact below_drewN (Below.refl _ _) n1
  have HB1 := Lib.hid hb1
  obtain ⟨d0, d1, d2, d3⟩ := cam_cells (HX.out.2.below hb1)
  clear hw1 c0 c1 c2 c3 hb1
  go_wp2_with fail
  refine (K2.out _).mono ?_
  rintro e w2 ⟨rfl, n2, hw2⟩
  have hb2 : Below W0.heap.size W0 w2 := by rw [hw2]; exact below_drewN HB1.out n2
  have HB2 := Lib.hid hb2
  obtain ⟨c0, c1, c2, c3⟩ := cam_cells (HX.out.2.below hb2)
  clear hw2 d0 d1 d2 d3 hb2
  go_wp2_with fail
  refine (KF.out _).mono ?_
  rintro e w3 ⟨rfl, n3, hw3⟩
  have hb3 : Below w.heap.size w w3 := by rw [hw3]; exact below_drewN ((HX.out.1.trans (HB2.out.mono HX.out.1.size)).alloc (by have := HX.out.1.size; have := HB2.out.size; omega) _) n3
  have HB3 := Lib.hid hb3
  clear hw3 hb3
  go_wp2_with fail
  go_ret
  exact ⟨rfl, HB3.out⟩

theorem f32op {a b r : Nat} (op : BinOp) (h : floatBits op .f32 a b = some r) : (∀ W, fres op .f32 a b W = r) ∧ fdr op .f32 a b = 0 := ⟨fun W => fres_some h W, fdr_some h⟩

theorem far_no (w : World) (cb F B mx my d : Nat) (hd : plusB d = false) : Calls Try.prog 68 #[.pointer (some ⟨cb, 0, none⟩), .float .f32 d] w fun e w' => e = .returned (.tuple #[.float .f32 0, .bool false]) ∧ ∃ n, w' = w.drewN n := by
  have K1 := Lib.hid (plus_any d w)
  rw [hd] at K1
  clear hd
  go_enter Try.func68, Try.ntmps68
  go_wp2_with fail
  refine K1.out.mono ?_
  rintro e w1 ⟨rfl, n, rfl⟩
  go_wp2_with fail
  go_ret2
  exact ⟨rfl, n, rfl⟩
theorem far_yes (w : World) {cb F B mx my d fb z : Nat} (hbx : BoxN w cb (camC F B mx my) 37) (hd : plusB d = true) (e1 : floatBits .mul .f32 F B = some fb) (e2 : floatBits .quo .f32 fb d = some z) (hz : plusB z = true) :
    Calls Try.prog 68 #[.pointer (some ⟨cb, 0, none⟩), .float .f32 d] w fun e w' => e = .returned (.tuple #[.float .f32 z, .bool true]) ∧ ∃ n, w' = w.drewN n := by
  have K1 := Lib.hid (plus_any d w)
  rw [hd] at K1
  have K2 := Lib.hid (fun W => plus_any z W)
  rw [hz] at K2
  obtain ⟨g1, g2⟩ := f32op .mul e1
  obtain ⟨g3, g4⟩ := f32op .quo e2
  have HX := Lib.hid hbx
  have hd0 : ∀ W : World, W.drewN 0 = W := fun _ => rfl
  clear hbx hd e1 e2 hz
  go_enter Try.func68, Try.ntmps68
  go_wp2_with fail
  refine K1.out.mono ?_
  rintro e w1 ⟨rfl, n1, hw1⟩
  have hx1 : BoxN w1 cb (camC F B mx my) 37 := by rw [hw1]; exact HX.out
  obtain ⟨c0, c1, c2, c3⟩ := cam_cells hx1
  have HW1 := Lib.hid hw1
  clear hw1 hx1
  go_upto_region 3 with fail
  go_region
  go_wp2_with fail
  refine (K2.out _).mono ?_
  rintro e w2 ⟨rfl, n2, hw2⟩
  have HW2 := Lib.hid hw2
  clear hw2
  go_wp2_with fail
  go_ret2
  refine ⟨rfl, ?_⟩
  rw [HW2.out, HW1.out]
  exact ⟨n1 + 1 + n2, by rw [← World.drewN_drewN, ← World.drewN_drewN]; rfl⟩

/-- The depth that a camera tells of a disparity. -/
structure DepOk (F B mx my d fb z : Nat) : Prop where
  cam : CamOk F B mx my
  hd : plusB d = true
  e1 : floatBits .mul .f32 F B = some fb
  e2 : floatBits .quo .f32 fb d = some z
  hz : plusB z = true
theorem depthOf_yes (w : World) {F B mx my d fb z : Nat} (h : DepOk F B mx my d fb z) : Calls Try.prog 28 #[.agg (camC F B mx my), .float .f32 d] w fun e w' => e = .returned (.tuple #[.float .f32 z, .bool true]) ∧ Below w.heap.size w w' := by
  obtain ⟨W0, hW0⟩ : ∃ W, W = w.alloc (.cells (camC F B mx my) 37) := ⟨_, rfl⟩
  have hb0 : Below w.heap.size w W0 := by rw [hW0]; exact (Below.refl _ _).alloc (Nat.le_refl _) _
  have hx0 : BoxN W0 w.heap.size (camC F B mx my) 37 := by rw [hW0]; exact BoxN.last w _ _
  have HX := Lib.hid (And.intro hb0 hx0)
  have HW0 := Lib.hid hW0
  have K1 := Lib.hid (validCam_any W0 h.cam)
  have K2 := Lib.hid (fun W hb => far_yes W (F := F) (B := B) (mx := mx) (my := my) (cb := w.heap.size) hb h.hd h.e1 h.e2 h.hz)
  clear h hb0 hx0 hW0
  unfold camC at *
  go_enter Try.func28, Try.ntmps28
  go_upto_region 1 with fail
  rw [← HW0.out]
  obtain ⟨c0, c1, c2, c3⟩ := cam_cells HX.out.2
  go_wp2_with fail
  refine K1.out.mono ?_
  rintro e w1 ⟨rfl, hb1⟩
  have HB1 := Lib.hid hb1
  clear c0 c1 c2 c3 hb1
  go_wp2_with fail
  refine (K2.out _ (HX.out.2.below HB1.out)).mono ?_
  rintro e w2 ⟨rfl, n, hw2⟩
  have hb2 : Below w.heap.size w w2 := by rw [hw2]; exact below_drewN (HX.out.1.trans (HB1.out.mono HX.out.1.size)) n
  have HB2 := Lib.hid hb2
  clear hw2 hb2
  go_wp2_with fail
  go_ret2
  exact ⟨rfl, HB2.out⟩
theorem disparityOf_yes (w : World) {F B mx my d fb z : Nat} (h : DepOk F B mx my d fb z) : Calls Try.prog 22 #[.agg (camC F B mx my), .float .f32 d] w fun e w' => e = .returned (.tuple #[.float .f32 z, .bool true]) ∧ Below w.heap.size w w' := by
  obtain ⟨W0, hW0⟩ : ∃ W, W = w.alloc (.cells (camC F B mx my) 37) := ⟨_, rfl⟩
  have hb0 : Below w.heap.size w W0 := by rw [hW0]; exact (Below.refl _ _).alloc (Nat.le_refl _) _
  have hx0 : BoxN W0 w.heap.size (camC F B mx my) 37 := by rw [hW0]; exact BoxN.last w _ _
  have HX := Lib.hid (And.intro hb0 hx0)
  have HW0 := Lib.hid hW0
  have K1 := Lib.hid (depthOf_yes W0 h)
  clear h hb0 hx0 hW0
  unfold camC at *
  go_enter Try.func22, Try.ntmps22
  go_upto_region 1 with fail
  rw [← HW0.out]
  obtain ⟨c0, c1, c2, c3⟩ := cam_cells HX.out.2
  go_wp2_with fail
  refine K1.out.mono ?_
  rintro e w1 ⟨rfl, hb1⟩
  have HB1 := Lib.hid (HX.out.1.trans (hb1.mono HX.out.1.size))
  clear c0 c1 c2 c3 hb1
  go_wp2_with fail
  go_ret2
  exact ⟨rfl, HB1.out⟩

/-- The words of a point. -/
structure PtOk (F mx my x y z dx ux X dy uy Y : Nat) : Prop where
  e1 : floatBits .sub .f32 x mx = some dx
  e2 : floatBits .quo .f32 dx F = some ux
  e3 : floatBits .mul .f32 z ux = some X
  e4 : floatBits .sub .f32 y my = some dy
  e5 : floatBits .quo .f32 dy F = some uy
  e6 : floatBits .mul .f32 z uy = some Y
theorem point_any (w : World) {cb F B mx my x y z dx ux X dy uy Y : Nat} (hbx : BoxN w cb (camC F B mx my) 37) (h : PtOk F mx my x y z dx ux X dy uy Y) :
    Calls Try.prog 69 #[.pointer (some ⟨cb, 0, none⟩), .float .f32 x, .float .f32 y, .float .f32 z] w fun e w' => e = .returned (vecV X Y z) ∧ Below w.heap.size w w' := by
  obtain ⟨W0, hW0⟩ : ∃ W, W = w.alloc (.cells #[.float .f32 0, .float .f32 0, .float .f32 0] 29) := ⟨_, rfl⟩
  have hb0 : Below w.heap.size w W0 := by rw [hW0]; exact (Below.refl _ _).alloc (Nat.le_refl _) _
  have hx0 : BoxN W0 w.heap.size #[.float .f32 0, .float .f32 0, .float .f32 0] 29 := by rw [hW0]; exact BoxN.last w _ _
  obtain ⟨c0, c1, c2, c3⟩ := cam_cells (hbx.below hb0)
  have d0 : W0.cell? ⟨w.heap.size, 0, none⟩ = some (.float .f32 0) := hx0.cell 0
  have d1 : W0.cell? ⟨w.heap.size, 1, none⟩ = some (.float .f32 0) := hx0.cell 1
  have d2 : W0.cell? ⟨w.heap.size, 2, none⟩ = some (.float .f32 0) := hx0.cell 2
  have f0 := hx0.free 0
  have f1 := hx0.free 1
  have f2 := hx0.free 2
  have lt := hx0.lt
  obtain ⟨g1, g2⟩ := f32op .sub h.e1
  obtain ⟨g3, g4⟩ := f32op .quo h.e2
  obtain ⟨g5, g6⟩ := f32op .mul h.e3
  obtain ⟨g7, g8⟩ := f32op .sub h.e4
  obtain ⟨g9, ga⟩ := f32op .quo h.e5
  obtain ⟨gb, gc⟩ := f32op .mul h.e6
  have HB := Lib.hid hb0
  have HW0 := Lib.hid hW0
  have hd0 : ∀ W : World, W.drewN 0 = W := fun _ => rfl
  clear h hb0 hx0 hW0 hbx
  unfold vecV vecC
  go_enter Try.func69, Try.ntmps69
  go_upto_region 1 with fail
  rw [← HW0.out]
  go_region
  go_wp2_with fail
  refine bodyPost_ret (v := .agg #[.float .f32 X, .float .f32 Y, .float .f32 z]) (by simp [results, Try.results69, go_sem, d0, d1, d2, lt]) rfl ?_
  exact ⟨rfl, below_drewN (((HB.out.setCell (show w.heap.size ≤ (⟨w.heap.size, 0, none⟩ : Addr).block from Nat.le_refl _) _).setCell (show w.heap.size ≤ (⟨w.heap.size, 1, none⟩ : Addr).block from Nat.le_refl _) _).setCell (show w.heap.size ≤ (⟨w.heap.size, 2, none⟩ : Addr).block from Nat.le_refl _) _) 1⟩

/-- The words of a height. -/
structure HgOk (A B C x y p q s h : Nat) : Prop where
  e1 : floatBits .mul .f32 A x = some p
  e2 : floatBits .mul .f32 B y = some q
  e3 : floatBits .add .f32 p q = some s
  e4 : floatBits .add .f32 s C = some h
theorem heightAt_any (w : World) {A B C x y p q s h : Nat} (H : HgOk A B C x y p q s h) :
    Calls Try.prog 24 #[.agg #[.float .f32 A, .float .f32 B, .float .f32 C], .float .f32 x, .float .f32 y] w fun e w' => e = .returned (.float .f32 h) ∧ Below w.heap.size w w' := by
  obtain ⟨g1, g2⟩ := f32op .mul H.e1
  obtain ⟨g3, g4⟩ := f32op .mul H.e2
  obtain ⟨g5, g6⟩ := f32op .add H.e3
  obtain ⟨g7, g8⟩ := f32op .add H.e4
  have hd0 : ∀ W : World, W.drewN 0 = W := fun _ => rfl
  have HB := Lib.hid (below_1v w (.cells #[.float .f32 A, .float .f32 B, .float .f32 C] 40))
  clear H
  go_enter Try.func24, Try.ntmps24
  go_wp2_with fail
  go_ret
  exact ⟨rfl, HB.out⟩

end Go.Proofs.Ytkhoifgljalfcaa
