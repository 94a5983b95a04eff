/- The law FnExactVolumeText: its walk. -/
import Derived.Test.YtogojmimflgmmaaDoorAx
import Derived.Test.YtogojmimflgmmaaDoorAh
import Derived.Test.YtogojmimflgmmaaDoorDe
namespace Go.Proofs.YtogojmimflgmmaaDoor
open Go.RowKit Ieee
set_option maxRecDepth 100000
set_option linter.unusedVariables false
set_option linter.unusedSimpArgs false

set_option maxHeartbeats 4000000 in
theorem fnExactVolumeText_walk (w : World) (a b d : Int) (sa : Option Addr) (n c : Nat) (bs : List Nat) (h : SlF w (.slice sa n c) bs) :
    Calls Tryd.prog 5 #[.agg #[.int .i64 a, .int .i64 b, .int .i64 d, .slice sa n c]] w fun e w' => e = .returned (.bool true) ∧ Below w.heap.size w w' := by
  obtain ⟨W0, hW0⟩ : ∃ W, W = w.alloc (.cells #[.int .i64 a, .int .i64 b, .int .i64 d, .slice sa n c] 41) := ⟨_, rfl⟩
  have hb0 : Below w.heap.size w W0 := by rw [hW0]; exact (Below.refl _ _).alloc (Nat.le_refl _) _
  have hx : BoxN W0 w.heap.size #[.int .i64 a, .int .i64 b, .int .i64 d, .slice sa n c] 41 := by rw [hW0]; exact BoxN.last w _ _
  have KZ := Lib.hid (fun W => szV_any W a b d sa n c 1048576 (Nat.le_refl _) h.leX.2)
  rw [show ((1048576 : Nat) : Int) = 1048576 from rfl] at KZ
  have hbl := hx.lt
  obtain ⟨a0, a1, a2, a3⟩ : W0.cell? ⟨w.heap.size, 0, none⟩ = some (.int .i64 a) ∧ W0.cell? ⟨w.heap.size, 1, none⟩ = some (.int .i64 b) ∧ W0.cell? ⟨w.heap.size, 2, none⟩ = some (.int .i64 d) ∧ W0.cell? ⟨w.heap.size, 3, none⟩ = some (.slice sa n c) := ⟨hx.cell 0, hx.cell 1, hx.cell 2, hx.cell 3⟩
  have HX := Lib.hid (And.intro hb0 (And.intro hx h))
  have HW0 := Lib.hid hW0
  rw [hW0] at a0 a1 a2 a3
  clear h hb0 hx hW0
  by_cases hsz : n ≤ 1048576
  · have ez : szL 1048576 n = ((1048576 - n : Nat) : Int) := by unfold szL; rw [if_pos hsz]
    rw [ez] at KZ
    have KD := Lib.hid (fun W (hb : Below w.heap.size w W) => toV_any W a b d sa n c bs (HX.out.2.2.below hb) HX.out.2.2.leX.1 hsz)
    unfold MakesV2 at KD
    rw [HX.out.2.2.leX.1] at KD
    have HL := Lib.hid (And.intro HX.out.2.2.leX.1 hsz)
    obtain ⟨z, hz⟩ : ∃ z : Nat, 1048576 - n = z := ⟨_, rfl⟩
    rw [hz] at KZ
    have hd : decide ((z : Int) < 0) = false := decide_eq_false (by omega)
    have KS := Lib.hid (fun W s2 c2 (hs : SlF W (.slice s2 n c2) bs) => sVolumeText_any W a b d s2 n c2 bs hs)
    have KI := Lib.hid (fun W s2 c2 (hs : SlF W (.slice s2 n c2) bs) => iVolumeText_any W a b d s2 n c2 bs hs)
    obtain ⟨t, ht⟩ : ∃ t : ByteArray, (⟨(vtS a b d n bs).toArray⟩ : ByteArray) = t := ⟨_, rfl⟩
    obtain ⟨ok, hok⟩ : ∃ ok, vtOk a b d n = ok := ⟨_, rfl⟩
    rw [ht, hok] at KS KI
    have hoo : (ok != ok) = false := by simp
    have htt : True := trivial
    clear ez hz hsz ht hok
    go_enter Tryd.func5, Tryd.ntmps5
    go_wp2_with fail
    clear a0 a1 a2 a3
    rw [← HW0.out]
    refine (KZ.out _).mono ?_
    rintro e w1 ⟨rfl, hb1⟩
    have H1 := Lib.hid (HX.out.1.trans (hb1.mono HX.out.1.size))
    have hx1 := HX.out.2.1.below hb1
    obtain ⟨a0, a1, a2, a3⟩ : w1.cell? ⟨w.heap.size, 0, none⟩ = some (.int .i64 a) ∧ w1.cell? ⟨w.heap.size, 1, none⟩ = some (.int .i64 b) ∧ w1.cell? ⟨w.heap.size, 2, none⟩ = some (.int .i64 d) ∧ w1.cell? ⟨w.heap.size, 3, none⟩ = some (.slice sa n c) := ⟨hx1.cell 0, hx1.cell 1, hx1.cell 2, hx1.cell 3⟩
    have s1 := hx1.lt
    have HB1 := Lib.hid hx1
    clear hb1 hx1
    go_wp2_with fail
    clear a0 a1 a2 a3
    refine (KD.out _ H1.out).mono ?_
    rintro e w2 ⟨k1, rfl, o1, hb2⟩
    have H2 := Lib.hid (H1.out.trans (hb2.mono H1.out.size))
    have HB2 := Lib.hid (HB1.out.below hb2)
    have KS2 := Lib.hid (KS.out w2 _ _ o1.sl)
    clear o1 hb2
    go_wp2_with fail
    refine KS2.out.mono ?_
    rintro e w3 ⟨rfl, hb3⟩
    have H3 := Lib.hid (H2.out.trans (hb3.mono H2.out.size))
    have hx3 := HB2.out.below hb3
    obtain ⟨a0, a1, a2, a3⟩ : w3.cell? ⟨w.heap.size, 0, none⟩ = some (.int .i64 a) ∧ w3.cell? ⟨w.heap.size, 1, none⟩ = some (.int .i64 b) ∧ w3.cell? ⟨w.heap.size, 2, none⟩ = some (.int .i64 d) ∧ w3.cell? ⟨w.heap.size, 3, none⟩ = some (.slice sa n c) := ⟨hx3.cell 0, hx3.cell 1, hx3.cell 2, hx3.cell 3⟩
    have s3 := hx3.lt
    have HB3 := Lib.hid hx3
    clear hb3 hx3
    go_wp2_with fail
    clear a0 a1 a2 a3
    refine (KD.out _ H3.out).mono ?_
    rintro e w4 ⟨k2, rfl, o2, hb4⟩
    obtain ⟨W4, hW4⟩ : ∃ W, W = w4.alloc (.cells #[.int .i64 a, .int .i64 b, .int .i64 d, .slice (some ⟨k2, 0, none⟩) n n] 44) := ⟨_, rfl⟩
    have c4 : Below w4.heap.size w4 W4 := by rw [hW4]; exact (Below.refl _ _).alloc (Nat.le_refl _) _
    have x4 : BoxN W4 w4.heap.size #[.int .i64 a, .int .i64 b, .int .i64 d, .slice (some ⟨k2, 0, none⟩) n n] 44 := by rw [hW4]; exact BoxN.last w4 _ _
    have b34 : Below w3.heap.size w3 W4 := hb4.trans (c4.mono hb4.size)
    have hk2 := (o2.lt (k := k2) rfl)
    have HO2 := Lib.hid (o2.below c4)
    have H4 := Lib.hid (And.intro (H3.out.trans (b34.mono H3.out.size)) (And.intro (HB3.out.below b34) (And.intro x4 b34)))
    obtain ⟨y0, y1, y2, y3⟩ : W4.cell? ⟨w4.heap.size, 0, none⟩ = some (.int .i64 a) ∧ W4.cell? ⟨w4.heap.size, 1, none⟩ = some (.int .i64 b) ∧ W4.cell? ⟨w4.heap.size, 2, none⟩ = some (.int .i64 d) ∧ W4.cell? ⟨w4.heap.size, 3, none⟩ = some (.slice (some ⟨k2, 0, none⟩) n n) := ⟨x4.cell 0, x4.cell 1, x4.cell 2, x4.cell 3⟩
    have s4 := x4.lt
    have HW4 := Lib.hid hW4
    rw [hW4] at y0 y1 y2 y3
    clear o2 hb4 c4 x4 b34 hW4
    go_wp2_with fail
    clear y0 y1 y2 y3
    rw [← HW4.out]
    refine (KI.out W4 _ _ HO2.out.sl).mono ?_
    rintro e w5 ⟨rfl, hb5⟩
    have hx5 := H4.out.2.1.below hb5
    have hy5 := H4.out.2.2.1.below hb5
    have HB5 := Lib.hid (H4.out.1.trans (hb5.mono H4.out.1.size))
    have SV := Lib.hid (fun W (hW : Below w5.heap.size w5 W) => (show (W.cell? ⟨w4.heap.size, 0, none⟩ = some (.int .i64 a) ∧ W.cell? ⟨w4.heap.size, 1, none⟩ = some (.int .i64 b) ∧ W.cell? ⟨w4.heap.size, 2, none⟩ = some (.int .i64 d) ∧ W.cell? ⟨w4.heap.size, 3, none⟩ = some (.slice (some ⟨k2, 0, none⟩) n n) ∧ W.cell? ⟨w.heap.size, 0, none⟩ = some (.int .i64 a) ∧ W.cell? ⟨w.heap.size, 1, none⟩ = some (.int .i64 b) ∧ W.cell? ⟨w.heap.size, 2, none⟩ = some (.int .i64 d) ∧ W.cell? ⟨w.heap.size, 3, none⟩ = some (.slice sa n c)) from
      ⟨(hy5.below hW).cell 0, (hy5.below hW).cell 1, (hy5.below hW).cell 2, (hy5.below hW).cell 3, (hx5.below hW).cell 0, (hx5.below hW).cell 1, (hx5.below hW).cell 2, (hx5.below hW).cell 3⟩))
    have HB45 := Lib.hid hb5
    clear hb5 hx5 hy5
    go_upto_region 10 with fail
    have hA1 : Below w5.heap.size w5 w5.drew := below_drewN (Below.refl _ _) 1
    have hbA : Below w.heap.size w w5.drew := HB5.out.trans (hA1.mono HB5.out.size)
    go_region_held3 (fun W => W.cell? ⟨w4.heap.size, 0, none⟩ = some (.int .i64 a) ∧ W.cell? ⟨w4.heap.size, 1, none⟩ = some (.int .i64 b) ∧ W.cell? ⟨w4.heap.size, 2, none⟩ = some (.int .i64 d) ∧ W.cell? ⟨w4.heap.size, 3, none⟩ = some (.slice (some ⟨k2, 0, none⟩) n n) ∧ W.cell? ⟨w.heap.size, 0, none⟩ = some (.int .i64 a) ∧ W.cell? ⟨w.heap.size, 1, none⟩ = some (.int .i64 b) ∧ W.cell? ⟨w.heap.size, 2, none⟩ = some (.int .i64 d) ∧ W.cell? ⟨w.heap.size, 3, none⟩ = some (.slice sa n c))
      (first | exact SV.out _ hbT | exact SV.out _ hbS | exact SV.out _ hA1 | go_keep)
      (first
        | (go_at_call 18; (with_reducible refine (KD.out _ hbA).mono ?_); rintro e wS ⟨j1, rfl, u1, hbS1⟩; have hbS := hA1.trans (hbS1.mono hA1.size); have KE3 := Lib.hid (eqV_yes wS a b d (some ⟨k2, 0, none⟩) (some ⟨j1, 0, none⟩) n n n n bs bs (HO2.out.below (HB45.out.trans (hbS.mono HB45.out.size))).sl u1.sl rfl))
        | (go_at_call 20; (with_reducible refine KE3.out.mono ?_); rintro e wT ⟨rfl, hbT1⟩; have hbT := hbS.trans (hbT1.mono hbS.size)))
    have HF := Lib.hid (HB5.out.trans (hbT.mono HB5.out.size))
    go_wp2_with fail
    go_ret
    exact ⟨rfl, HF.out⟩
  · have ez : szL 1048576 n = -1 := by unfold szL; rw [if_neg hsz]
    rw [ez] at KZ
    clear ez hsz
    go_enter Tryd.func5, Tryd.ntmps5
    go_wp2_with fail
    clear a0 a1 a2 a3
    rw [← HW0.out]
    refine (KZ.out _).mono ?_
    rintro e w1 ⟨rfl, hb1⟩
    have HF := Lib.hid (HX.out.1.trans (hb1.mono HX.out.1.size))
    clear hb1
    go_wp2_with fail
    go_ret
    exact ⟨rfl, HF.out⟩

end Go.Proofs.YtogojmimflgmmaaDoor
