/- Vectors that a law draws: spec.B10Vector, spec.B10Any. -/
import Derived.Test.YtjibghjongplpaaDoorDj
import Derived.Test.YtjibghjongplpaaDoorSrc
import Derived.Test.YtjibghjongplpaaDoorEx
import Derived.Deep.Cut
namespace Go.Proofs.YtjibghjongplpaaDoor
open Go.RowKit Ieee
set_option maxRecDepth 100000
set_option linter.unusedVariables false
set_option linter.unusedSimpArgs false

/-- A vector of small whole numbers that the call has made. -/
def MakesV (w : World) (m : Nat) (e : Ending) (w' : World) : Prop := ∃ v p, e = .returned v ∧ IsV v p ∧ p.le m ∧ Below w.heap.size w w'

theorem small_word (w : World) {L : Nat} (sb U : Nat) (h : SrcOk w L sb U) (hU : U < 4611686018427380000) :
    Calls Tryd.prog 63 #[.pointer (some ⟨sb, 0, none⟩)] w (DrawsF L sb (U + 2) w) := by
  go_enter Tryd.func63, Tryd.ntmps63
  go_wp2_with fail
  refine (pick_any _ _ _ 33 (by omega) (by omega) h (by omega)).mono ?_
  rintro e w1 ⟨x, rfl, hx0, hx1, hd⟩
  have HD := Lib.hid hd
  clear hd
  go_wp2_with fail
  go_ret
  exact ⟨_, rfl, fres_lt _ _ _ _, HD.out.drewN _⟩

set_option maxHeartbeats 4000000 in
theorem b10Vector_any (w : World) (a : Option Addr) (len cap : Nat) (h : BytesIn w a len) :
    Calls Tryd.prog 14 #[.slice a len cap, .int .i64 50] w (MakesV w 50) := by
  obtain ⟨W0, hW0⟩ : ∃ W, W = w.alloc (.cells #[.float .f32 0, .float .f32 0, .float .f32 0] 39) := ⟨_, rfl⟩
  have hb0 : Below w.heap.size w W0 := by rw [hW0]; exact (Below.refl _ _).alloc (Nat.le_refl _) _
  have hx0 : BoxN W0 w.heap.size #[.float .f32 0, .float .f32 0, .float .f32 0] 39 := by rw [hW0]; exact BoxN.last w _ _
  have hs0 : W0.heap.size = w.heap.size + 1 := by rw [hW0]; simp
  have H0 := Lib.hid (And.intro hb0 hx0)
  have KF := Lib.hid (from_any W0 a len cap (h.below hb0).at (Nat.le_refl _))
  have HW0 := Lib.hid hW0
  clear h hb0 hx0 hW0
  go_enter Tryd.func14, Tryd.ntmps14
  go_wp2_with fail
  rw [← HW0.out]
  refine KF.out.mono ?_
  rintro e w1 ⟨rfl, hs, hb1, hlt⟩
  rw [hs0] at hs hlt
  have HB1 := Lib.hid (And.intro (H0.out.1.trans (hb1.mono H0.out.1.size)) (H0.out.2.below hb1))
  have HS := Lib.hid hs
  clear hs hb1
  go_wp2_with fail
  refine (pick_any _ _ _ 101 (by omega) (by omega) HS.out (by omega)).mono ?_
  rintro e w2 ⟨x, rfl, hx0, hx1, hd2⟩
  have HD2 := Lib.hid hd2
  have hx2 : x ≤ 100 := by omega
  obtain ⟨r1, hr1⟩ : ∃ r, floatOfInt .f32 (x - 50) = r := ⟨_, rfl⟩
  have HX := Lib.hid (show IsW r1 (x - 50) ∧ (x - 50).natAbs ≤ 50 from ⟨by rw [← hr1, fq_ofInt (by omega)]; exact isW_fq (by omega), by omega⟩)
  have hg2 := hd2.grown.size
  clear hd2 hx1
  obtain ⟨V2, hV2⟩ : ∃ W, W = w2.alloc (.cells #[.float .f32 r1, .float .f32 0, .float .f32 0] 39) := ⟨_, rfl⟩
  have hbv : Below w2.heap.size w2 V2 := by rw [hV2]; exact (Below.refl _ _).alloc (Nat.le_refl _) _
  have hxv : BoxN V2 w2.heap.size #[.float .f32 r1, .float .f32 0, .float .f32 0] 39 := by rw [hV2]; exact BoxN.last w2 _ _
  have hD2 := HD2.out.below hbv
  have hnb : w2.heap.size ≠ w.heap.size + 1 := by omega
  have hnr : w.heap.size ≠ w.heap.size + 1 := by omega
  have hB2 := hD2.away HB1.out.1 (by omega)
  have hR2 := (HB1.out.2).grown hD2.grown (show some w.heap.size ≠ some (w.heap.size + 1) by simp)
  have HV := Lib.hid (And.intro hD2.ok (And.intro hxv (And.intro hB2 hR2)))
  have HV2 := Lib.hid hV2
  generalize hvb : w2.heap.size = vb at *
  have HNB := Lib.hid (And.intro hnb hnr)
  have HVB := Lib.hid hvb
  have hvlt : w.heap.size + 1 < vb := by omega
  clear hV2 hbv hxv hD2 hB2 hR2 hnb hnr HD2 HB1 HS H0 KF hg2 hvb hlt
  go_upto_region 3 with fail
  rw [← HV2.out, HVB.out]
  go_wp2_with fail
  refine (pick_any _ _ _ 101 (by omega) (by omega) HV.out.1 (by omega)).mono ?_
  rintro e w3 ⟨y, rfl, hy0, hy1, hd3⟩
  have hy2 : y ≤ 100 := by omega
  obtain ⟨r2, hr2⟩ : ∃ r, floatOfInt .f32 (y - 50) = r := ⟨_, rfl⟩
  have HY := Lib.hid (show IsW r2 (y - 50) ∧ (y - 50).natAbs ≤ 50 from ⟨by rw [← hr2, fq_ofInt (by omega)]; exact isW_fq (by omega), by omega⟩)
  have hx3 := HV.out.2.1.grown hd3.grown (fun e => HNB.out.1 (Option.some.inj e))
  have hR3 := HV.out.2.2.2.grown hd3.grown (fun e => HNB.out.2 (Option.some.inj e))
  have hB3 := hd3.away HV.out.2.2.1 (by omega)
  have c3 : w3.cell? ⟨vb, 1, none⟩ = some (.float .f32 0) := hx3.cell 1
  have f3 := hx3.free 1
  have l3 := hx3.lt
  have hs3 : SrcOk (w3.setCell ⟨vb, 1, none⟩ (.float .f32 r2)) (w.heap.size + 1) (w.heap.size + 1) 4 := (hd3.ok.mono (by omega)).grown (grown_setCell _ _ _) (fun e => HNB.out.1 (Option.some.inj e).symm) (fun k hk => by cases hk; show w.heap.size + 1 ≤ vb; omega)
  have HV3 := Lib.hid (And.intro hs3 (And.intro (hx3.set 1 (.float .f32 r2)) (And.intro (hB3.setCell (show w.heap.size ≤ (⟨vb, 1, none⟩ : Addr).block by show w.heap.size ≤ vb; omega) (.float .f32 r2)) (hR3.grown (grown_setCell w3 ⟨vb, 1, none⟩ (.float .f32 r2)) (by show some w.heap.size ≠ some vb; simp; omega)))))
  clear hx3 hR3 hB3 hs3 hd3 hy1 HV HV2
  go_upto_region 4 with fail
  obtain ⟨V3, hV3⟩ : ∃ W, W = w3.setCell ⟨vb, 1, none⟩ (.float .f32 r2) := ⟨_, rfl⟩
  rw [← hV3] at HV3 ⊢
  clear hV3 c3 f3 l3
  go_wp2_with fail
  refine (pick_any _ _ _ 101 (by omega) (by omega) HV3.out.1 (by omega)).mono ?_
  rintro e w4 ⟨z, rfl, hz0, hz1, hd4⟩
  have hz2 : z ≤ 100 := by omega
  obtain ⟨r3, hr3⟩ : ∃ r, floatOfInt .f32 (z - 50) = r := ⟨_, rfl⟩
  have HZ := Lib.hid (show IsW r3 (z - 50) ∧ (z - 50).natAbs ≤ 50 from ⟨by rw [← hr3, fq_ofInt (by omega)]; exact isW_fq (by omega), by omega⟩)
  have hx4 := HV3.out.2.1.grown hd4.grown (fun e => HNB.out.1 (Option.some.inj e))
  have hR4 := HV3.out.2.2.2.grown hd4.grown (fun e => HNB.out.2 (Option.some.inj e))
  have hB4 := hd4.away HV3.out.2.2.1 (by omega)
  have c4 : w4.cell? ⟨vb, 2, none⟩ = some (.float .f32 0) := hx4.cell 2
  have f4 := hx4.free 2
  have l4 := hx4.lt
  have HV4 := Lib.hid (And.intro (hx4.set 2 (.float .f32 r3)) (And.intro (hB4.setCell (show w.heap.size ≤ (⟨vb, 2, none⟩ : Addr).block by show w.heap.size ≤ vb; omega) (.float .f32 r3)) (hR4.grown (grown_setCell w4 ⟨vb, 2, none⟩ (.float .f32 r3)) (by show some w.heap.size ≠ some vb; simp; omega))))
  clear hx4 hR4 hB4 hd4 hz1 HV3
  go_upto_region 5 with fail
  obtain ⟨V4, hV4⟩ : ∃ W, W = w4.setCell ⟨vb, 2, none⟩ (.float .f32 r3) := ⟨_, rfl⟩
  rw [← hV4] at HV4 ⊢
  clear hV4 c4 f4 l4
  obtain ⟨v0, v1, v2⟩ := three_cells (show BoxN V4 vb #[.float .f32 r1, .float .f32 r2, .float .f32 r3] 39 from HV4.out.1) (Below.refl _ _)
  have hR := HV4.out.2.2
  obtain ⟨d0, d1, d2⟩ := three_cells hR (Below.refl _ _)
  have e0 := hR.free 0
  have e1 := hR.free 1
  have e2 := hR.free 2
  have z2 := hR.lt
  clear hR
  go_wp2_with fail
  refine bodyPost_ret (v := .agg #[.float .f32 r1, .float .f32 r2, .float .f32 r3]) (by simp [results, Tryd.results14, go_sem, d0, d1, d2, z2]) rfl ?_
  exact ⟨_, ⟨x - 50, y - 50, z - 50⟩, rfl, ⟨r1, r2, r3, rfl, HX.out.1, HY.out.1, HZ.out.1⟩, ⟨HX.out.2, HY.out.2, HZ.out.2⟩, below_set3v HV4.out.2.1 (Nat.le_refl _) _ _ _⟩

end Go.Proofs.YtjibghjongplpaaDoor
