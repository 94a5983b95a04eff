/- MapText: the reference's and the program's. -/
import Derived.Test.YtogojmimflgmmaaDoorAq
import Derived.Test.YtogojmimflgmmaaDoorAi
namespace Go.Proofs.YtogojmimflgmmaaDoor
open Go.RowKit
set_option maxRecDepth 100000
set_option linter.unusedVariables false
set_option linter.unusedSimpArgs false

theorem LitN.made2 (W : World) (x y : Nat) (hx : x < 100) (hy : y < 100) : LitN (W.alloc (.cells #[.int .i64 (x : Int), .int .i64 (y : Int)] 2)) W.heap.size [x, y] := by
  refine ⟨by simp, ?_, ?_, by simp, by simp⟩
  · intro i hi
    have hbx := BoxN.last W #[.int .i64 (x : Int), .int .i64 (y : Int)] 2
    match i, hi with
    | 0, _ => exact hbx.cell 0
    | 1, _ => exact hbx.cell 1
  · intro n hn
    simp at hn
    rcases hn with rfl | rfl
    · exact hx
    · exact hy

theorem s08Map_any (w : World) (pb : Nat) (x y : Nat) (sa : Option Addr) (n c : Nat) (bs : List Nat) (hx : x < 100) (hy : y < 100) (hn : n ≤ 256) (h : SlF w (.slice sa n c) bs) (hpb : pb < w.heap.size)
    (c0 : w.cell? ⟨pb, 0, none⟩ = some (.int .i64 (x : Int))) (c1 : w.cell? ⟨pb, 1, none⟩ = some (.int .i64 (y : Int))) (c2 : w.cell? ⟨pb, 2, none⟩ = some (.slice sa n c)) :
    Calls Tryd.prog 23 #[.pointer (some ⟨pb, 0, none⟩)] w fun e w' => e = .returned (.string ⟨(txtL [x, y] bs).toArray⟩) ∧ Below w.heap.size w w' := by
  have hA : Below w.heap.size w (w.alloc (.cells #[.int .i64 (x : Int), .int .i64 (y : Int)] 2)) := (Below.refl _ _).alloc (Nat.le_refl _) _
  have hA2 : Below w.heap.size w (w.alloc (.cells #[.int .i64 (x : Int), .int .i64 (y : Int)] 2)).drew := hA.drew
  have hD : Below w.heap.size w w.drew := (Below.refl _ _).drew
  have KT := Lib.hid (s08Text_any (w.alloc (.cells #[.int .i64 (x : Int), .int .i64 (y : Int)] 2)).drew w.heap.size 2 2 [x, y] sa n c bs ((LitN.made2 w x y hx hy).below ((Below.refl _ _).drew)) rfl (h.below hA2) hn)
  have SV := Lib.hid (fun W (hb : Below w.heap.size w W) => (show (W.cell? ⟨pb, 0, none⟩ = some (.int .i64 (x : Int)) ∧ W.cell? ⟨pb, 1, none⟩ = some (.int .i64 (y : Int)) ∧ W.cell? ⟨pb, 2, none⟩ = some (.slice sa n c)) from
    ⟨by rw [hb.cell (p := ⟨pb, 0, none⟩) hpb]; exact c0, by rw [hb.cell (p := ⟨pb, 1, none⟩) hpb]; exact c1, by rw [hb.cell (p := ⟨pb, 2, none⟩) hpb]; exact c2⟩))
  have HB0 := Lib.hid (Below.refl w.heap.size w)
  clear h hn c0 c1 c2
  go_enter Tryd.func23, Tryd.ntmps23
  go_upto_region 1 with fail
  go_region_held3 (fun W => W.cell? ⟨pb, 0, none⟩ = some (.int .i64 (x : Int)) ∧ W.cell? ⟨pb, 1, none⟩ = some (.int .i64 (y : Int)) ∧ W.cell? ⟨pb, 2, none⟩ = some (.slice sa n c))
    (first | exact SV.out _ hbT | exact SV.out _ hA2 | exact SV.out _ hD | exact SV.out _ hA | go_keep)
    (first | (go_at_call 29; (with_reducible refine KT.out.mono ?_); rintro e wT ⟨rfl, hbT1⟩; have hbT := hA2.trans (hbT1.mono hA2.size)))
  go_wp2_with fail
  go_ret
  exact ⟨rfl, hbT⟩

/-- The text of a map that is one; none of another. -/
def mtS (a b : Int) (n : Nat) (bs : List Nat) : List UInt8 := if vPic a b n = true then txtL [a.toNat, b.toNat] bs else []

theorem sMapText_any (w : World) (a b : Int) (sa : Option Addr) (n c : Nat) (bs : List Nat) (h : SlF w (.slice sa n c) bs) :
    Calls Tryd.prog 7 #[.agg #[.int .i64 a, .int .i64 b, .slice sa n c]] w fun e w' => e = .returned (.tuple #[.string ⟨(mtS a b n bs).toArray⟩, .bool (vPic a b n)]) ∧ Below w.heap.size w w' := by
  obtain ⟨W0, hW0⟩ : ∃ W, W = w.alloc (.cells #[.int .i64 a, .int .i64 b, .slice sa n c] 28) := ⟨_, rfl⟩
  have hb0 : Below w.heap.size w W0 := by rw [hW0]; exact (Below.refl _ _).alloc (Nat.le_refl _) _
  have hx : BoxN W0 w.heap.size #[.int .i64 a, .int .i64 b, .slice sa n c] 28 := by rw [hW0]; exact BoxN.last w _ _
  have KV := Lib.hid (l03IsMap_gen W0 w.heap.size 0 a b sa n c h.leX.2 (hx.cell 0) (hx.cell 1) (hx.cell 2))
  have HX := Lib.hid (And.intro hb0 hx)
  have HW0 := Lib.hid hW0
  cases hok : vPic a b n
  · have e : mtS a b n bs = [] := by unfold mtS; rw [hok]; simp
    rw [e]
    rw [hok] at KV
    clear h hb0 hx hW0 e hok
    go_enter Tryd.func7, Tryd.ntmps7
    go_wp2_with fail
    rw [← HW0.out]
    refine KV.out.mono ?_
    rintro e w1 ⟨rfl, m, rfl⟩
    have HB := Lib.hid (below_drewN HX.out.1 m)
    go_wp2_with fail
    go_ret2
    exact ⟨rfl, HB.out⟩
  · obtain ⟨x1, x2, e1, e2, e3, d1, d2, d3, d4, d5⟩ := vPic_spec hok
    subst e1 e2
    have e : mtS x1 x2 n bs = txtL [x1, x2] bs := by unfold mtS; rw [hok]; simp
    rw [e]
    rw [hok] at KV
    have KT := Lib.hid (fun m => s08Map_any (W0.drewN m) w.heap.size x1 x2 sa n c bs (by omega) (by omega) (by omega) (h.below (below_drewN hb0 m)) (hx.below (below_drewN (Below.refl _ _) m)).lt ((hx.below (below_drewN (Below.refl _ _) m)).cell 0) ((hx.below (below_drewN (Below.refl _ _) m)).cell 1) ((hx.below (below_drewN (Below.refl _ _) m)).cell 2))
    clear h hb0 hx hW0 e hok e3 d1 d2 d3 d4 d5
    go_enter Tryd.func7, Tryd.ntmps7
    go_wp2_with fail
    rw [← HW0.out]
    refine KV.out.mono ?_
    rintro e w1 ⟨rfl, m, rfl⟩
    go_wp2_with fail
    refine (KT.out m).mono ?_
    rintro e w2 ⟨rfl, hb2⟩
    have HB := Lib.hid ((below_drewN HX.out.1 m).trans (hb2.mono (below_drewN HX.out.1 m).size))
    go_wp2_with fail
    go_ret2
    exact ⟨rfl, HB.out⟩

theorem iMapText_any (w : World) (a b : Int) (sa : Option Addr) (n c : Nat) (bs : List Nat) (h : SlF w (.slice sa n c) bs) :
    Calls Tryd.prog 9 #[.agg #[.int .i64 a, .int .i64 b, .slice sa n c]] w fun e w' => e = .returned (.tuple #[.string ⟨(mtS a b n bs).toArray⟩, .bool (vPic a b n)]) ∧ Below w.heap.size w w' := by
  obtain ⟨W0, hW0⟩ : ∃ W, W = w.alloc (.cells #[.int .i64 a, .int .i64 b, .slice sa n c] 28) := ⟨_, rfl⟩
  have hb0 : Below w.heap.size w W0 := by rw [hW0]; exact (Below.refl _ _).alloc (Nat.le_refl _) _
  have hx : BoxN W0 w.heap.size #[.int .i64 a, .int .i64 b, .slice sa n c] 28 := by rw [hW0]; exact BoxN.last w _ _
  have KV := Lib.hid (fun W => validMap_any a b sa n c h.leX.2 W)
  have HX := Lib.hid (And.intro hb0 hx)
  have HW0 := Lib.hid hW0
  have hbl := hx.lt
  obtain ⟨a0, a1, a2⟩ : W0.cell? ⟨w.heap.size, 0, none⟩ = some (.int .i64 a) ∧ W0.cell? ⟨w.heap.size, 1, none⟩ = some (.int .i64 b) ∧ W0.cell? ⟨w.heap.size, 2, none⟩ = some (.slice sa n c) := ⟨hx.cell 0, hx.cell 1, hx.cell 2⟩
  rw [hW0] at a0 a1 a2
  cases hok : vPic a b n
  · have e : mtS a b n bs = [] := by unfold mtS; rw [hok]; simp
    rw [e]
    rw [hok] at KV
    clear h hb0 hx hW0 e hok
    go_enter Tryd.func9, Tryd.ntmps9
    go_wp2_with fail
    clear a0 a1 a2
    rw [← HW0.out]
    refine (KV.out _).mono ?_
    rintro e w1 ⟨rfl, hb1⟩
    have HB := Lib.hid (HX.out.1.trans (hb1.mono HX.out.1.size))
    go_wp2_with fail
    go_ret2
    exact ⟨rfl, HB.out⟩
  · obtain ⟨x1, x2, e1, e2, e3, d1, d2, d3, d4, d5⟩ := vPic_spec hok
    subst e1 e2
    have e : mtS x1 x2 n bs = txtL [x1, x2] bs := by unfold mtS; rw [hok]; simp
    rw [e]
    rw [hok] at KV
    have KT := Lib.hid (fun W (hb : Below w.heap.size w W) => sizedText_any (W.alloc (.cells #[.int .i64 (x1 : Int), .int .i64 (x2 : Int)] 2)) W.heap.size 2 2 [x1, x2] sa n c bs (LitN.made2 W x1 x2 (by omega) (by omega)) rfl (h.below (hb.alloc hb.size _)) (by omega))
    clear h hb0 hx hW0 e hok e3 d1 d2 d3 d4 d5
    go_enter Tryd.func9, Tryd.ntmps9
    go_wp2_with fail
    clear a0 a1 a2
    rw [← HW0.out]
    refine (KV.out _).mono ?_
    rintro e w1 ⟨rfl, hb1⟩
    have hB := HX.out.1.trans (hb1.mono HX.out.1.size)
    have hx1 := HX.out.2.below hb1
    obtain ⟨a0, a1, a2⟩ : w1.cell? ⟨w.heap.size, 0, none⟩ = some (.int .i64 (x1 : Int)) ∧ w1.cell? ⟨w.heap.size, 1, none⟩ = some (.int .i64 (x2 : Int)) ∧ w1.cell? ⟨w.heap.size, 2, none⟩ = some (.slice sa n c) := ⟨hx1.cell 0, hx1.cell 1, hx1.cell 2⟩
    have s1 := hx1.lt
    have HB := Lib.hid hB
    clear hB hx1 hb1
    go_wp2_with fail
    clear a0 a1 a2
    refine (KT.out _ HB.out).mono ?_
    rintro e w2 ⟨rfl, hb2⟩
    have HF := Lib.hid ((HB.out.alloc HB.out.size _).trans (hb2.mono (HB.out.alloc HB.out.size _).size))
    clear hb2
    go_wp2_with fail
    go_ret2
    exact ⟨rfl, HF.out⟩

end Go.Proofs.YtogojmimflgmmaaDoor
