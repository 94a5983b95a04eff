/- Vectors: the cross product, and what lies between, the program's. -/
import Derived.Test.YtjibghjongplpaaDoorDh
import Derived.Test.YtjibghjongplpaaDoorAh
namespace Go.Proofs.YtjibghjongplpaaDoor
open Go.RowKit Ieee
set_option maxRecDepth 100000
set_option linter.unusedVariables false
set_option linter.unusedSimpArgs false

theorem three_cells {W V : World} {b : Nat} {x y z : Value} {T : TypeId} (h : BoxN W b #[x, y, z] T) (hb : Below W.heap.size W V) : V.cell? ⟨b, 0, none⟩ = some x ∧ V.cell? ⟨b, 1, none⟩ = some y ∧ V.cell? ⟨b, 2, none⟩ = some z :=
  ⟨(h.below hb).cell 0, (h.below hb).cell 1, (h.below hb).cell 2⟩

theorem put3N {W : World} {b c : Nat} {cs : Array Value} {T : TypeId} (h : BoxN W b cs T) (hc : b ≠ c) (x y z : Value) : BoxN (((W.setCell ⟨c, 0, none⟩ x).setCell ⟨c, 1, none⟩ y).setCell ⟨c, 2, none⟩ z) b cs T := by
  have hn : some b ≠ some c := by simpa using hc
  exact ((h.grown (grown_setCell _ _ _) hn).grown (grown_setCell _ _ _) hn).grown (grown_setCell _ _ _) hn

theorem below_set3v {B b : Nat} {w W : World} (h : Below B w W) (hb : B ≤ b) (x y z : Value) : Below B w (((W.setCell ⟨b, 0, none⟩ x).setCell ⟨b, 1, none⟩ y).setCell ⟨b, 2, none⟩ z) :=
  ((h.setCell hb _).setCell hb _).setCell hb _

theorem crossW (w : World) {a b c d : Nat} {x y z u : Int} {m : Nat} (ha : IsW a x) (hb : IsW b y) (hc : IsW c z) (hd : IsW d u) (h1 : (x * y).natAbs ≤ m) (h2 : (z * u).natAbs ≤ m) (hm : 2 * m ≤ 16777216) :
    Calls Tryd.prog 41 #[.float .f32 a, .float .f32 b, .float .f32 c, .float .f32 d] w fun e w' => (∃ r, e = .returned (.float .f32 r) ∧ IsW r (x * y - z * u)) ∧ w = w' := by
  obtain ⟨p, e1, i1⟩ := ha.mul hb (by omega)
  obtain ⟨q, e2, i2⟩ := hc.mul hd (by omega)
  obtain ⟨r, e3, i3⟩ := i1.sub i2 (by omega)
  refine (crossed_w w _ _ _ _ _ _ _ e1 e2 e3).mono ?_
  rintro e w' ⟨rfl, rfl⟩
  exact ⟨⟨_, rfl, i3⟩, rfl⟩

set_option maxHeartbeats 4000000 in
theorem crossV (w : World) {v u : Value} {p q : Z3} {m n : Nat} (hv : IsV v p) (hu : IsV u q) (hp : p.le m) (hq : q.le n) (h : 2 * (m * n) ≤ 16777216) :
    Calls Tryd.prog 15 #[v, u] w fun e w' => (∃ x, e = .returned x ∧ IsV x (p.cross q)) ∧ Below w.heap.size w w' := by
  obtain ⟨a1, a2, a3, rfl, h1, h2, h3⟩ := hv
  obtain ⟨b1, b2, b3, rfl, k1, k2, k3⟩ := hu
  have l1 := abs_mul_le hp.2.1 hq.2.2
  have l2 := abs_mul_le hp.2.2 hq.2.1
  have l3 := abs_mul_le hp.2.2 hq.1
  have l4 := abs_mul_le hp.1 hq.2.2
  have l5 := abs_mul_le hp.1 hq.2.1
  have l6 := abs_mul_le hp.2.1 hq.1
  have C1 := Lib.hid (fun W => crossW W h2 k3 h3 k2 l1 l2 h)
  have C2 := Lib.hid (fun W => crossW W h3 k1 h1 k3 l3 l4 h)
  have C3 := Lib.hid (fun W => crossW W h1 k2 h2 k1 l5 l6 h)
  obtain ⟨W0, hW0⟩ : ∃ W, W = ((w.alloc (.cells (vecC a1 a2 a3) 39)).alloc (.cells (vecC b1 b2 b3) 39)).alloc (.cells (vecC 0 0 0) 39) := ⟨_, rfl⟩
  obtain ⟨hb0, x0, x1, x2⟩ := three_boxes hW0
  have HX := Lib.hid (And.intro hb0 (And.intro x0 (And.intro x1 x2)))
  have HW0 := Lib.hid hW0
  clear h1 h2 h3 k1 k2 k3 l1 l2 l3 l4 l5 l6 hp hq h hW0 hb0 x0 x1 x2
  unfold vecV vecC at *
  go_enter Tryd.func15, Tryd.ntmps15
  go_upto_region 1 with fail
  rw [← HW0.out]
  have SV := Lib.hid (fun W (hW : Below W0.heap.size W0 W) => (show (W.cell? ⟨w.heap.size, 0, none⟩ = some (.float .f32 a1) ∧ W.cell? ⟨w.heap.size, 1, none⟩ = some (.float .f32 a2) ∧ W.cell? ⟨w.heap.size, 2, none⟩ = some (.float .f32 a3) ∧ W.cell? ⟨w.heap.size + 1, 0, none⟩ = some (.float .f32 b1) ∧ W.cell? ⟨w.heap.size + 1, 1, none⟩ = some (.float .f32 b2) ∧ W.cell? ⟨w.heap.size + 1, 2, none⟩ = some (.float .f32 b3)) from
    ⟨(three_cells HX.out.2.1 hW).1, (three_cells HX.out.2.1 hW).2.1, (three_cells HX.out.2.1 hW).2.2, (three_cells HX.out.2.2.1 hW).1, (three_cells HX.out.2.2.1 hW).2.1, (three_cells HX.out.2.2.1 hW).2.2⟩))
  have SV3 := Lib.hid (fun r1 r2 r3 : Value => (show (fun W => (W.cell? ⟨w.heap.size, 0, none⟩ = some (.float .f32 a1) ∧ W.cell? ⟨w.heap.size, 1, none⟩ = some (.float .f32 a2) ∧ W.cell? ⟨w.heap.size, 2, none⟩ = some (.float .f32 a3) ∧ W.cell? ⟨w.heap.size + 1, 0, none⟩ = some (.float .f32 b1) ∧ W.cell? ⟨w.heap.size + 1, 1, none⟩ = some (.float .f32 b2) ∧ W.cell? ⟨w.heap.size + 1, 2, none⟩ = some (.float .f32 b3))) (((W0.setCell ⟨w.heap.size + 1 + 1, 0, none⟩ r1).setCell ⟨w.heap.size + 1 + 1, 1, none⟩ r2).setCell ⟨w.heap.size + 1 + 1, 2, none⟩ r3) from by
    have t0 := three_cells (put3N HX.out.2.1 (show w.heap.size ≠ w.heap.size + 1 + 1 by omega) r1 r2 r3) (Below.refl _ _)
    have t1 := three_cells (put3N HX.out.2.2.1 (show w.heap.size + 1 ≠ w.heap.size + 1 + 1 by omega) r1 r2 r3) (Below.refl _ _)
    exact ⟨t0.1, t0.2.1, t0.2.2, t1.1, t1.2.1, t1.2.2⟩))
  have hA1 : Below W0.heap.size W0 W0.drew := below_drewN (Below.refl _ _) 1
  have y2 := HX.out.2.2.2
  obtain ⟨d0, d1, d2⟩ := three_cells y2 (Below.refl _ _)
  have e0 := y2.free 0
  have e1 := y2.free 1
  have e2 := y2.free 2
  have z2 := y2.lt
  clear y2
  go_region_held3 (fun W => (W.cell? ⟨w.heap.size, 0, none⟩ = some (.float .f32 a1) ∧ W.cell? ⟨w.heap.size, 1, none⟩ = some (.float .f32 a2) ∧ W.cell? ⟨w.heap.size, 2, none⟩ = some (.float .f32 a3) ∧ W.cell? ⟨w.heap.size + 1, 0, none⟩ = some (.float .f32 b1) ∧ W.cell? ⟨w.heap.size + 1, 1, none⟩ = some (.float .f32 b2) ∧ W.cell? ⟨w.heap.size + 1, 2, none⟩ = some (.float .f32 b3)))
    (first | exact SV.out _ hA1 | exact SV.out _ (Below.refl _ _) | exact SV3.out _ _ _ | go_keep)
    (first
      | (go_at_call 41; (with_reducible refine (C1.out _).mono ?_); rintro e wS ⟨⟨r1, rfl, i1⟩, rfl⟩)
      | (go_at_call 41; (with_reducible refine (C2.out _).mono ?_); rintro e wS ⟨⟨r2, rfl, i2⟩, rfl⟩)
      | (go_at_call 41; (with_reducible refine (C3.out _).mono ?_); rintro e wS ⟨⟨r3, rfl, i3⟩, rfl⟩))
  go_wp2_with fail
  refine bodyPost_ret (v := .agg #[.float .f32 r1, .float .f32 r2, .float .f32 r3]) (by simp [results, Tryd.results15, go_sem, d0, d1, d2, z2]) rfl ?_
  exact ⟨⟨_, rfl, _, _, _, rfl, i1, i2, i3⟩, below_drewN (below_set3v HX.out.1 (by omega) _ _ _) 1⟩

set_option maxHeartbeats 4000000 in
theorem betweenV (w : World) {v u : Value} {p q : Z3} {k : Nat} {z : Int} (hv : IsV v p) (hu : IsV u q) (hk : IsW k z) (hp : p.le 50) (hq : q.le 50) (hz : z.natAbs ≤ 1) :
    Calls Tryd.prog 25 #[v, u, .float .f32 k] w fun e w' => (∃ x, e = .returned x ∧ IsV x (p.add ((q.sub p).mul z))) ∧ Below w.heap.size w w' := by
  have hs : (q.sub p).le 100 := ⟨by have := hp.1; have := hq.1; unfold Z3.sub; simp only; omega, by have := hp.2.1; have := hq.2.1; unfold Z3.sub; simp only; omega, by have := hp.2.2; have := hq.2.2; unfold Z3.sub; simp only; omega⟩
  have hs2 : ((q.sub p).mul z).le 100 := ⟨Nat.le_trans (abs_mul_le hs.1 hz) (by omega), Nat.le_trans (abs_mul_le hs.2.1 hz) (by omega), Nat.le_trans (abs_mul_le hs.2.2 hz) (by omega)⟩
  have K1 := fun W => lessV W hu hv hq hp (by omega)
  have K2 : ∀ (W : World) (c1 c2 c3 : Nat), IsW c1 (q.sub p).x → IsW c2 (q.sub p).y → IsW c3 (q.sub p).z → Calls Tryd.prog 18 #[.agg #[.float .f32 c1, .float .f32 c2, .float .f32 c3], .float .f32 k] W fun e w' => (∃ x, e = .returned x ∧ IsV x ((q.sub p).mul z)) ∧ Below W.heap.size W w' := fun W c1 c2 c3 i1 i2 i3 => scaleV W (v := vecV c1 c2 c3) ⟨c1, c2, c3, rfl, i1, i2, i3⟩ hk hs hz (by omega)
  have K2 := Lib.hid K2
  have K3 := fun (W : World) (c1 c2 c3 : Nat) (i1 : IsW c1 ((q.sub p).mul z).x) (i2 : IsW c2 ((q.sub p).mul z).y) (i3 : IsW c3 ((q.sub p).mul z).z) => addV W (u := vecV c1 c2 c3) hv ⟨c1, c2, c3, rfl, i1, i2, i3⟩ hp hs2 (by omega)
  obtain ⟨a1, a2, a3, rfl, h1, h2, h3⟩ := hv
  obtain ⟨b1, b2, b3, rfl, k1, k2, k3⟩ := hu
  have K1 := Lib.hid K1
  have K3 := Lib.hid K3
  obtain ⟨W0, hW0⟩ : ∃ W, W = ((w.alloc (.cells (vecC a1 a2 a3) 39)).alloc (.cells (vecC b1 b2 b3) 39)).alloc (.cells (vecC 0 0 0) 39) := ⟨_, rfl⟩
  obtain ⟨hb0, x0, x1, x2⟩ := three_boxes hW0
  have HX := Lib.hid (And.intro hb0 (And.intro x0 (And.intro x1 x2)))
  have HW0 := Lib.hid hW0
  clear h1 h2 h3 k1 k2 k3 hp hq hs hs2 hk hz hW0 hb0 x0 x1 x2
  unfold vecV vecC at *
  go_enter Tryd.func25, Tryd.ntmps25
  go_upto_region 1 with fail
  rw [← HW0.out]
  have SV := Lib.hid (fun W (hW : Below W0.heap.size W0 W) => (show (W.cell? ⟨w.heap.size, 0, none⟩ = some (.float .f32 a1) ∧ W.cell? ⟨w.heap.size, 1, none⟩ = some (.float .f32 a2) ∧ W.cell? ⟨w.heap.size, 2, none⟩ = some (.float .f32 a3) ∧ W.cell? ⟨w.heap.size + 1, 0, none⟩ = some (.float .f32 b1) ∧ W.cell? ⟨w.heap.size + 1, 1, none⟩ = some (.float .f32 b2) ∧ W.cell? ⟨w.heap.size + 1, 2, none⟩ = some (.float .f32 b3)) from
    ⟨(three_cells HX.out.2.1 hW).1, (three_cells HX.out.2.1 hW).2.1, (three_cells HX.out.2.1 hW).2.2, (three_cells HX.out.2.2.1 hW).1, (three_cells HX.out.2.2.1 hW).2.1, (three_cells HX.out.2.2.1 hW).2.2⟩))
  have SV3 := Lib.hid (fun W (hW : Below W0.heap.size W0 W) (r1 r2 r3 : Value) => (show (fun W => (W.cell? ⟨w.heap.size, 0, none⟩ = some (.float .f32 a1) ∧ W.cell? ⟨w.heap.size, 1, none⟩ = some (.float .f32 a2) ∧ W.cell? ⟨w.heap.size, 2, none⟩ = some (.float .f32 a3) ∧ W.cell? ⟨w.heap.size + 1, 0, none⟩ = some (.float .f32 b1) ∧ W.cell? ⟨w.heap.size + 1, 1, none⟩ = some (.float .f32 b2) ∧ W.cell? ⟨w.heap.size + 1, 2, none⟩ = some (.float .f32 b3))) (((W.setCell ⟨w.heap.size + 1 + 1, 0, none⟩ r1).setCell ⟨w.heap.size + 1 + 1, 1, none⟩ r2).setCell ⟨w.heap.size + 1 + 1, 2, none⟩ r3) from by
    have t0 := three_cells (put3N (HX.out.2.1.below hW) (show w.heap.size ≠ w.heap.size + 1 + 1 by omega) r1 r2 r3) (Below.refl _ _)
    have t1 := three_cells (put3N (HX.out.2.2.1.below hW) (show w.heap.size + 1 ≠ w.heap.size + 1 + 1 by omega) r1 r2 r3) (Below.refl _ _)
    exact ⟨t0.1, t0.2.1, t0.2.2, t1.1, t1.2.1, t1.2.2⟩))
  have hA1 : Below W0.heap.size W0 W0.drew := below_drewN (Below.refl _ _) 1
  go_region_held3 (fun W => (W.cell? ⟨w.heap.size, 0, none⟩ = some (.float .f32 a1) ∧ W.cell? ⟨w.heap.size, 1, none⟩ = some (.float .f32 a2) ∧ W.cell? ⟨w.heap.size, 2, none⟩ = some (.float .f32 a3) ∧ W.cell? ⟨w.heap.size + 1, 0, none⟩ = some (.float .f32 b1) ∧ W.cell? ⟨w.heap.size + 1, 1, none⟩ = some (.float .f32 b2) ∧ W.cell? ⟨w.heap.size + 1, 2, none⟩ = some (.float .f32 b3)))
    (first | exact SV.out _ hW3 | exact SV.out _ hW2 | exact SV.out _ hW1 | exact SV.out _ hA1 | exact SV.out _ (Below.refl _ _) | exact SV3.out _ hW3 _ _ _ | go_keep)
    (first
      | (go_at_call 17; (with_reducible refine (K1.out _).mono ?_); rintro e w1 ⟨⟨x1, rfl, c1, c2, c3, rfl, i1, i2, i3⟩, hb1⟩; unfold vecV vecC; have hW1 := hA1.trans (hb1.mono hA1.size))
      | (go_at_call 18; (with_reducible refine (K2.out _ c1 c2 c3 i1 i2 i3).mono ?_); rintro e w2 ⟨⟨x2, rfl, f1, f2, f3, rfl, m1, m2, m3⟩, hb2⟩; unfold vecV vecC; have hW2 := hW1.trans (hb2.mono hW1.size))
      | (go_at_call 16; (with_reducible refine (K3.out _ f1 f2 f3 m1 m2 m3).mono ?_); rintro e w3 ⟨⟨x3, rfl, g1, g2, g3, rfl, n1, n2, n3⟩, hb3⟩; unfold vecV vecC; have hW3 := hW2.trans (hb3.mono hW2.size); have y2 := HX.out.2.2.2.below hW3; obtain ⟨d0, d1, d2⟩ := three_cells y2 (Below.refl _ _); have e0 := y2.free 0; have e1 := y2.free 1; have e2 := y2.free 2; have z2 := y2.lt; clear y2))
  go_wp2_with fail
  refine bodyPost_ret (v := .agg #[.float .f32 g1, .float .f32 g2, .float .f32 g3]) (by simp [results, Tryd.results25, go_sem, d0, d1, d2, z2]) rfl ?_
  exact ⟨⟨_, rfl, _, _, _, rfl, n1, n2, n3⟩, below_set3v (HX.out.1.trans (hW3.mono HX.out.1.size)) (by omega) _ _ _⟩

end Go.Proofs.YtjibghjongplpaaDoor
