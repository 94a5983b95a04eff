/- PictureText: the reference's and the program's. -/
import Derived.Test.YtogojmimflgmmaaDoorAr
namespace Go.Proofs.YtogojmimflgmmaaDoor
open Go.RowKit
set_option maxRecDepth 100000
set_option linter.unusedVariables false
set_option linter.unusedSimpArgs false

theorem sPictureText_any (w : World) (a b : Int) (sa : Option Addr) (n c : Nat) (bs : List Nat) (h : SlF w (.slice sa n c) bs) :
    Calls Tryd.prog 12 #[.agg #[.int .i64 a, .int .i64 b, .slice sa n c]] w fun e w' => e = .returned (.tuple #[.string ⟨(mtS a b n bs).toArray⟩, .bool (vPic a b n)]) ∧ Below w.heap.size w w' := by
  obtain ⟨W0, hW0⟩ : ∃ W, W = w.alloc (.cells #[.int .i64 a, .int .i64 b, .slice sa n c] 36) := ⟨_, rfl⟩
  have hb0 : Below w.heap.size w W0 := by rw [hW0]; exact (Below.refl _ _).alloc (Nat.le_refl _) _
  have hx : BoxN W0 w.heap.size #[.int .i64 a, .int .i64 b, .slice sa n c] 36 := by rw [hW0]; exact BoxN.last w _ _
  have KV := Lib.hid (l02Is_gen W0 w.heap.size 0 a b sa n c h.leX.2 (hx.cell 0) (hx.cell 1) (hx.cell 2))
  have HX := Lib.hid (And.intro hb0 hx)
  have HW0 := Lib.hid hW0
  cases hok : vPic a b n
  · have e : mtS a b n bs = [] := by unfold mtS; rw [hok]; simp
    rw [e]
    rw [hok] at KV
    clear h hb0 hx hW0 e hok
    go_enter Tryd.func12, Tryd.ntmps12
    go_wp2_with fail
    rw [← HW0.out]
    refine KV.out.mono ?_
    rintro e w1 ⟨rfl, m, rfl⟩
    have HB := Lib.hid (below_drewN HX.out.1 m)
    go_wp2_with fail
    go_ret2
    exact ⟨rfl, HB.out⟩
  · obtain ⟨x1, x2, e1, e2, e3, d1, d2, d3, d4, d5⟩ := vPic_spec hok
    subst e1 e2
    have e : mtS x1 x2 n bs = txtL [x1, x2] bs := by unfold mtS; rw [hok]; simp
    rw [e]
    rw [hok] at KV
    have KT := Lib.hid (fun W (hb : Below w.heap.size w W) => s08Text_any (W.alloc (.cells #[.int .i64 (x1 : Int), .int .i64 (x2 : Int)] 2)) W.heap.size 2 2 [x1, x2] sa n c bs (LitN.made2 W x1 x2 (by omega) (by omega)) rfl (h.below (hb.alloc hb.size _)) (by omega))
    clear h hb0 hx hW0 e hok e3 d1 d2 d3 d4 d5
    go_enter Tryd.func12, Tryd.ntmps12
    go_wp2_with fail
    rw [← HW0.out]
    refine KV.out.mono ?_
    rintro e w0 ⟨rfl, m, rfl⟩
    obtain ⟨w1, hw1⟩ : ∃ w1, W0.drewN m = w1 := ⟨_, rfl⟩
    have hB : Below w.heap.size w w1 := by rw [← hw1]; exact below_drewN HX.out.1 m
    have hx1 : BoxN w1 w.heap.size #[.int .i64 (x1 : Int), .int .i64 (x2 : Int), .slice sa n c] 36 := by rw [← hw1]; exact HX.out.2.below (below_drewN (Below.refl _ _) m)
    rw [hw1]
    obtain ⟨a0, a1, a2⟩ : w1.cell? ⟨w.heap.size, 0, none⟩ = some (.int .i64 (x1 : Int)) ∧ w1.cell? ⟨w.heap.size, 1, none⟩ = some (.int .i64 (x2 : Int)) ∧ w1.cell? ⟨w.heap.size, 2, none⟩ = some (.slice sa n c) := ⟨hx1.cell 0, hx1.cell 1, hx1.cell 2⟩
    have s1 := hx1.lt
    have HB := Lib.hid hB
    clear hB hx1 hw1
    go_wp2_with fail
    clear a0 a1 a2
    refine (KT.out _ HB.out).mono ?_
    rintro e w2 ⟨rfl, hb2⟩
    have HF := Lib.hid ((HB.out.alloc HB.out.size _).trans (hb2.mono (HB.out.alloc HB.out.size _).size))
    clear hb2
    go_wp2_with fail
    go_ret2
    exact ⟨rfl, HF.out⟩

theorem iPictureText_any (w : World) (a b : Int) (sa : Option Addr) (n c : Nat) (bs : List Nat) (h : SlF w (.slice sa n c) bs) :
    Calls Tryd.prog 14 #[.agg #[.int .i64 a, .int .i64 b, .slice sa n c]] w fun e w' => e = .returned (.tuple #[.string ⟨(mtS a b n bs).toArray⟩, .bool (vPic a b n)]) ∧ Below w.heap.size w w' := by
  obtain ⟨W0, hW0⟩ : ∃ W, W = w.alloc (.cells #[.int .i64 a, .int .i64 b, .slice sa n c] 36) := ⟨_, rfl⟩
  have hb0 : Below w.heap.size w W0 := by rw [hW0]; exact (Below.refl _ _).alloc (Nat.le_refl _) _
  have hx : BoxN W0 w.heap.size #[.int .i64 a, .int .i64 b, .slice sa n c] 36 := by rw [hW0]; exact BoxN.last w _ _
  have KV := Lib.hid (fun W => validPicture_any a b sa n c h.leX.2 W)
  have HX := Lib.hid (And.intro hb0 hx)
  have HW0 := Lib.hid hW0
  have hbl := hx.lt
  obtain ⟨a0, a1, a2⟩ : W0.cell? ⟨w.heap.size, 0, none⟩ = some (.int .i64 a) ∧ W0.cell? ⟨w.heap.size, 1, none⟩ = some (.int .i64 b) ∧ W0.cell? ⟨w.heap.size, 2, none⟩ = some (.slice sa n c) := ⟨hx.cell 0, hx.cell 1, hx.cell 2⟩
  rw [hW0] at a0 a1 a2
  cases hok : vPic a b n
  · have e : mtS a b n bs = [] := by unfold mtS; rw [hok]; simp
    rw [e]
    rw [hok] at KV
    clear h hb0 hx hW0 e hok
    go_enter Tryd.func14, Tryd.ntmps14
    go_wp2_with fail
    clear a0 a1 a2
    rw [← HW0.out]
    refine (KV.out _).mono ?_
    rintro e w1 ⟨rfl, hb1⟩
    have HB := Lib.hid (HX.out.1.trans (hb1.mono HX.out.1.size))
    go_wp2_with fail
    go_ret2
    exact ⟨rfl, HB.out⟩
  · obtain ⟨x1, x2, e1, e2, e3, d1, d2, d3, d4, d5⟩ := vPic_spec hok
    subst e1 e2
    have e : mtS x1 x2 n bs = txtL [x1, x2] bs := by unfold mtS; rw [hok]; simp
    rw [e]
    rw [hok] at KV
    have KT := Lib.hid (fun W (hb : Below w.heap.size w W) => sizedText_any (W.alloc (.cells #[.int .i64 (x1 : Int), .int .i64 (x2 : Int)] 2)) W.heap.size 2 2 [x1, x2] sa n c bs (LitN.made2 W x1 x2 (by omega) (by omega)) rfl (h.below (hb.alloc hb.size _)) (by omega))
    clear h hb0 hx hW0 e hok e3 d1 d2 d3 d4 d5
    go_enter Tryd.func14, Tryd.ntmps14
    go_wp2_with fail
    clear a0 a1 a2
    rw [← HW0.out]
    refine (KV.out _).mono ?_
    rintro e w1 ⟨rfl, hb1⟩
    have hB := HX.out.1.trans (hb1.mono HX.out.1.size)
    have hx1 := HX.out.2.below hb1
    obtain ⟨a0, a1, a2⟩ : w1.cell? ⟨w.heap.size, 0, none⟩ = some (.int .i64 (x1 : Int)) ∧ w1.cell? ⟨w.heap.size, 1, none⟩ = some (.int .i64 (x2 : Int)) ∧ w1.cell? ⟨w.heap.size, 2, none⟩ = some (.slice sa n c) := ⟨hx1.cell 0, hx1.cell 1, hx1.cell 2⟩
    have s1 := hx1.lt
    have HB := Lib.hid hB
    clear hB hx1 hb1
    go_wp2_with fail
    clear a0 a1 a2
    refine (KT.out _ HB.out).mono ?_
    rintro e w2 ⟨rfl, hb2⟩
    have HF := Lib.hid ((HB.out.alloc HB.out.size _).trans (hb2.mono (HB.out.alloc HB.out.size _).size))
    clear hb2
    go_wp2_with fail
    go_ret2
    exact ⟨rfl, HF.out⟩

end Go.Proofs.YtogojmimflgmmaaDoor
