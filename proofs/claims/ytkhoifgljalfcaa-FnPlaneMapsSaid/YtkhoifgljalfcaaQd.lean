/- The disparities of a plane: impl.PlaneMap, by words. -/
import Derived.Test.YtkhoifgljalfcaaQb
import Derived.Test.YtkhoifgljalfcaaMp
namespace Go.Proofs.Ytkhoifgljalfcaa
open Go.RowKit Ieee
set_option maxRecDepth 100000
set_option linter.unusedVariables false
set_option linter.unusedSimpArgs false

/-- The words of a plane's disparity at a cell. -/
structure PmOk (F B mx my A A' C : Nat) (x y : Nat) (d : Nat) : Prop where
  ex : ∃ xw yw dx p l1 dy q l2 lb, floatOfInt .f32 (x : Int) = xw ∧ floatOfInt .f32 (y : Int) = yw ∧ floatBits .sub .f32 xw mx = some dx ∧ floatBits .mul .f32 A dx = some p ∧ floatBits .sub .f32 F p = some l1 ∧
    floatBits .sub .f32 yw my = some dy ∧ floatBits .mul .f32 A' dy = some q ∧ floatBits .sub .f32 l1 q = some l2 ∧ floatBits .mul .f32 l2 B = some lb ∧ floatBits .quo .f32 lb C = some d
  lt : d < 4294967296
  nan : nan32 d = false
def pmW (d : Nat) : Nat := if plusB d then d else 3212836864

theorem pm1_any (W : World) {cb pb F B mx my A A' C x y d : Nat} (hc : BoxN W cb (camC F B mx my) 37) (hp : BoxN W pb #[.float .f32 A, .float .f32 A', .float .f32 C] 40) (h : PmOk F B mx my A A' C x y d) :
    Calls Try.prog 65 #[.int .i64 x, .int .i64 y, .pointer (some ⟨cb, 0, none⟩), .pointer (some ⟨pb, 0, none⟩)] W fun e w' => e = .returned (.float .f32 (pmW d)) ∧ ∃ n, w' = W.drewN n := by
  obtain ⟨xw, yw, dx, p, l1, dy, q, l2, lb, ox, oy, e1, e2, e3, e4, e5, e6, e7, e8⟩ := h.ex
  obtain ⟨c0, c1, c2, c3⟩ := cam_cells hc
  have p0 : W.cell? ⟨pb, 0, none⟩ = some (.float .f32 A) := hp.cell 0
  have p1 : W.cell? ⟨pb, 1, none⟩ = some (.float .f32 A') := hp.cell 1
  have p2 : W.cell? ⟨pb, 2, none⟩ = some (.float .f32 C) := hp.cell 2
  obtain ⟨g1, g2⟩ := f32op .sub e1
  obtain ⟨g3, g4⟩ := f32op .mul e2
  obtain ⟨g5, g6⟩ := f32op .sub e3
  obtain ⟨g7, g8⟩ := f32op .sub e4
  obtain ⟨g9, ga⟩ := f32op .mul e5
  obtain ⟨gb, gc⟩ := f32op .sub e6
  obtain ⟨gd, ge⟩ := f32op .mul e7
  obtain ⟨gf, gg⟩ := f32op .quo e8
  have hd0 : ∀ W : World, W.drewN 0 = W := fun _ => rfl
  have KP := Lib.hid (fun V => plus_any d V)
  unfold pmW
  obtain ⟨b, hb⟩ : ∃ b, plusB d = b := ⟨_, rfl⟩
  rw [hb] at KP ⊢
  clear h hc hp e1 e2 e3 e4 e5 e6 e7 e8 hb
  go_enter Try.func65, Try.ntmps65
  go_wp2_with fail
  refine (KP.out _).mono ?_
  rintro e w1 ⟨rfl, n, hw1⟩
  have HW1 := Lib.hid hw1
  clear hw1
  cases b
  · go_wp2_with fail
    go_ret
    exact ⟨by simp, n, HW1.out⟩
  · go_wp2_with fail
    go_ret
    exact ⟨by simp, n, HW1.out⟩

theorem pm_bs {bs : List Nat} {G : Nat → Nat → Nat} (hb : ∀ x y, x < 4 → y < 3 → nan32 (G x y) = false) (h : bs.map fl = tab (3 * 4) fun i => G (i % 4) (i / 4)) : bs = (List.range 12).map fun i => G (i % 4) (i / 4) := by
  have hl : bs.length = 12 := by have := congrArg List.length h; rw [List.length_map, tab_length] at this; exact this
  apply List.ext_getElem
  · simp [hl]
  · intro i h1 h2
    have h3 : (bs.map fl)[i]'(by rw [List.length_map]; exact h1) = (tab (3 * 4) fun i => G (i % 4) (i / 4))[i]'(by rw [tab_length]; omega) := by simp only [h]
    rw [List.getElem_map, tab_get] at h3
    rw [List.getElem_map, List.getElem_range, ← h3]
    have : nan32 bs[i] = false := by rw [← nan32_fl, h3]; exact hb _ _ (by omega) (by omega)
    exact (fl_eq this).symm
theorem pmW_ok {d : Nat} (h : nan32 d = false) (hl : d < 4294967296) : nan32 (pmW d) = false ∧ pmW d < 4294967296 := by
  unfold pmW; split
  · exact ⟨h, hl⟩
  · exact ⟨by decide, by omega⟩

set_option maxHeartbeats 4000000 in
theorem planeMap_any (w : World) {F B mx my A A' C : Nat} (G : Nat → Nat → Nat) (h : CamOk F B mx my) (hG : ∀ x y, x < 4 → y < 3 → PmOk F B mx my A A' C x y (G x y)) :
    Calls Try.prog 20 #[.agg (camC F B mx my), .agg #[.float .f32 A, .float .f32 A', .float .f32 C], .int .i64 4, .int .i64 3] w fun e w' => ∃ g c, e = .returned (.tuple #[.agg #[.int .i64 4, .int .i64 3, .slice (some ⟨g, 0, none⟩) 12 c], .bool true]) ∧ OwnF w' w.heap.size (.slice (some ⟨g, 0, none⟩) 12 c) ((List.range 12).map fun i => pmW (G (i % 4) (i / 4))) ∧ Below w.heap.size w w' := by
  obtain ⟨W0, hW0⟩ : ∃ W, W = ((w.alloc (.cells (camC F B mx my) 37)).alloc (.cells #[.float .f32 A, .float .f32 A', .float .f32 C] 40)).alloc (.cells #[.int .i64 0, .int .i64 0, .slice none 0 0] 43) := ⟨_, rfl⟩
  have hb1 : Below w.heap.size w (w.alloc (.cells (camC F B mx my) 37)) := (Below.refl _ _).alloc (Nat.le_refl _) _
  have hb2 : Below w.heap.size w ((w.alloc (.cells (camC F B mx my) 37)).alloc (.cells #[.float .f32 A, .float .f32 A', .float .f32 C] 40)) := hb1.alloc (by simp) _
  have hb0 : Below w.heap.size w W0 := by rw [hW0]; exact hb2.alloc (by simp; omega) _
  have hx2 : BoxN W0 (w.heap.size + 1 + 1) #[.int .i64 0, .int .i64 0, .slice none 0 0] 43 := by
    have := BoxN.last ((w.alloc (.cells (camC F B mx my) 37)).alloc (.cells #[.float .f32 A, .float .f32 A', .float .f32 C] 40)) #[.int .i64 0, .int .i64 0, .slice none 0 0] 43
    rw [hW0]; simpa using this
  have hx1 : BoxN W0 (w.heap.size + 1) #[.float .f32 A, .float .f32 A', .float .f32 C] 40 := by
    have := BoxN.last (w.alloc (.cells (camC F B mx my) 37)) #[.float .f32 A, .float .f32 A', .float .f32 C] 40
    rw [show (w.alloc (.cells (camC F B mx my) 37)).heap.size = w.heap.size + 1 by simp] at this
    rw [hW0]; exact this.below ((Below.refl _ _).alloc (Nat.le_refl _) _)
  have hx0 : BoxN W0 w.heap.size (camC F B mx my) 37 := by
    have := BoxN.last w (camC F B mx my) 37
    rw [hW0]; exact (this.below ((Below.refl _ _).alloc (Nat.le_refl _) _)).below ((Below.refl _ _).alloc (Nat.le_refl _) _)
  have HX := Lib.hid (And.intro hb0 (And.intro hx0 (And.intro hx1 hx2)))
  have HW0 := Lib.hid hW0
  have K1 := Lib.hid (validCam_any W0 h)
  have KM := Lib.hid (fun W (hb : Below W0.heap.size W0 W) => mapOf_any W 4 3 (.func (.func 65) #[] #[.pointer (some ⟨w.heap.size, 0, none⟩), .pointer (some ⟨w.heap.size + 1, 0, none⟩)]) (fun x y => pmW (G x y)) (by omega) (by omega)
    ⟨_, _, rfl, fun args w => rfl, fun x y V hx hy hV => by
      have hb' := hb.trans (hV.mono hb.size)
      refine (pm1_any V (HX.out.2.1.below hb') (HX.out.2.2.1.below hb') (hG x y hx hy)).mono ?_
      rintro e w' ⟨rfl, n, rfl⟩
      have hq := pmW_ok (hG x y hx hy).nan (hG x y hx hy).lt
      exact ⟨_, rfl, hq.2, fl_eq hq.1, below_drewN (Below.refl _ _) n⟩⟩)
  have HN := Lib.hid (fun x y (hx : x < 4) (hy : y < 3) => (pmW_ok (hG x y hx hy).nan (hG x y hx hy).lt).1)
  have hsz : szOk 4 3 = true := by decide
  clear h hG hb1 hb2 hb0 hx0 hx1 hx2 hW0
  unfold camC at *
  go_enter Try.func20, Try.ntmps20
  go_upto_region 1 with fail
  rw [← HW0.out]
  obtain ⟨c0, c1, c2, c3⟩ := cam_cells HX.out.2.1
  go_wp2_with fail
  refine K1.out.mono ?_
  rintro e w1 ⟨rfl, hb1⟩
  have HB1 := Lib.hid hb1
  clear c0 c1 c2 c3 hb1
  go_wp2_with fail
  refine (sizeOk_any _ _ _).mono ?_
  rw [hsz]
  rintro e w2 ⟨rfl, rfl⟩
  go_wp2_with fail
  refine (KM.out _ HB1.out).mono ?_
  rintro e w3 ⟨a, c, bs, rfl, hown, hcon, hb3⟩
  have hbs := pm_bs HN.out hcon
  have hl : bs.length = 12 := by rw [hbs]; simp
  rw [hl] at hown ⊢
  obtain ⟨q, rfl⟩ := own_ptr hown (by omega)
  have HB3 := Lib.hid (HB1.out.trans (hb3.mono HB1.out.size))
  have hR := HX.out.2.2.2.below HB3.out
  obtain ⟨d0, d1, d2, f0, f1, f2⟩ := hR.three.cells
  have lt := hR.lt
  have HO := Lib.hid hown
  have HBS := Lib.hid hbs
  have hqn : q ≠ w.heap.size + 1 + 1 := by
    have := (hown.lt (k := q) rfl).1
    have := HB1.out.size
    have := HX.out.2.2.2.lt
    omega
  have HQ := Lib.hid hqn
  clear hR hown hcon hbs hb3 hl hqn KM K1
  go_wp2_with fail
  refine bodyPost_ret (v := .tuple #[.agg #[.int .i64 4, .int .i64 3, .slice (some ⟨q, 0, none⟩) 12 c], .bool true]) (by simp [results, Try.results20, go_sem, d0, d1, d2, lt]) rfl ?_
  refine ⟨q, c, rfl, ?_, ?_⟩
  · rw [← HBS.out]
    have hn : (Value.slice (some ⟨q, 0, none⟩) 12 c).ownBlock = none ∨ (Value.slice (some ⟨q, 0, none⟩) 12 c).ownBlock ≠ some (w.heap.size + 1 + 1) := .inr (by simpa [Value.ownBlock] using HQ.out)
    have hz := HX.out.1.size
    exact ((((HO.out.mono (Nat.le_trans hz HB1.out.size)).grown (grown_setCell _ ⟨w.heap.size + 1 + 1, 0, none⟩ _) hn).grown (grown_setCell _ ⟨w.heap.size + 1 + 1, 1, none⟩ _) hn).grown (grown_setCell _ ⟨w.heap.size + 1 + 1, 2, none⟩ _) hn)
  · exact (((HX.out.1.trans (HB3.out.mono HX.out.1.size)).setCell (show w.heap.size ≤ (⟨w.heap.size + 1 + 1, 0, none⟩ : Addr).block by show w.heap.size ≤ w.heap.size + 1 + 1; omega) _).setCell (show w.heap.size ≤ (⟨w.heap.size + 1 + 1, 1, none⟩ : Addr).block by show w.heap.size ≤ w.heap.size + 1 + 1; omega) _).setCell (show w.heap.size ≤ (⟨w.heap.size + 1 + 1, 2, none⟩ : Addr).block by show w.heap.size ≤ w.heap.size + 1 + 1; omega) _

end Go.Proofs.Ytkhoifgljalfcaa
