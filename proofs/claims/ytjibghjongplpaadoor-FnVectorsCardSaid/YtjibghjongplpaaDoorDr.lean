/- Texts of vectors, written and read. -/
import Derived.Test.YtjibghjongplpaaDoorDp
import Derived.Test.YtjibghjongplpaaDoorCy
import Derived.Test.YtjibghjongplpaaDoorDa
import Derived.Test.YtjibghjongplpaaDoorTz
namespace Go.Proofs.YtjibghjongplpaaDoor
open Go.RowKit Ieee
set_option maxRecDepth 100000
set_option linter.unusedVariables false
set_option linter.unusedSimpArgs false

theorem vectorText_any (w : World) {a b c : Nat} (ha : a < 4294967296) (hb : b < 4294967296) (hc : c < 4294967296) :
    Calls Tryd.prog 27 #[vecV a b c] w fun e w' => e = .returned (.string ⟨(numT [a, b, c]).toArray⟩) ∧ Below w.heap.size w w' := by
  have N1 := Lib.hid (fun W => numbers_any W ha hb hc)
  have HB := Lib.hid (below_1v w (.cells (vecC a b c) 39))
  clear ha hb hc
  unfold vecV vecC at *
  go_enter Tryd.func27, Tryd.ntmps27
  go_wp2_with fail
  refine (N1.out _).mono ?_
  rintro e w1 ⟨g, rfl, s1, hb1⟩
  have H1 := Lib.hid (HB.out.trans (hb1.mono HB.out.size))
  have K := Lib.hid (numbersText_any w1 (some ⟨g, 0, none⟩) 3 3 [a, b, c] s1 rfl (by omega))
  clear hb1 s1
  go_wp2_with fail
  refine K.out.mono ?_
  rintro e w2 ⟨rfl, hb2⟩
  have H2 := Lib.hid (H1.out.trans (hb2.mono H1.out.size))
  clear hb2 K
  go_wp2_with fail
  go_ret
  exact ⟨rfl, H2.out⟩

set_option maxHeartbeats 4000000 in
theorem readVector_any (w : World) (s : ByteArray) (m : Int) {a b c : Nat} (hs : s.size ≤ 2000000) (hm : w.cell? ⟨1, 0, none⟩ = some (.int .i64 m)) (hn : numR s.data.toList = ([a, b, c], true)) :
    Calls Tryd.prog 28 #[.string s] w fun e w' => e = .returned (.tuple #[vecV a b c, .bool true]) ∧ a < 4294967296 ∧ b < 4294967296 ∧ c < 4294967296 ∧ Below w.heap.size w w' := by
  obtain ⟨W0, hW0⟩ : ∃ W, W = w.alloc (.cells #[.float .f32 0, .float .f32 0, .float .f32 0] 39) := ⟨_, rfl⟩
  have hb0 : Below w.heap.size w W0 := by rw [hW0]; exact (Below.refl _ _).alloc (Nat.le_refl _) _
  have hx0 : BoxN W0 w.heap.size #[.float .f32 0, .float .f32 0, .float .f32 0] 39 := by rw [hW0]; exact BoxN.last w _ _
  have H0 := Lib.hid (And.intro hb0 hx0)
  have hml := World.block_lt_of_cell? _ _ hm
  have KF := readNumsP_any W0 s m hs ((hb0.cell (p := ⟨1, 0, none⟩) hml).trans hm)
  rw [hn] at KF
  have KF := Lib.hid KF
  have HW0 := Lib.hid hW0
  clear hm hb0 hx0 hW0 hml hn
  go_enter Tryd.func28, Tryd.ntmps28
  go_wp2_with fail
  rw [← HW0.out]
  refine KF.out.mono ?_
  rintro e w1 ⟨g, cp, rfl, hob, hb1⟩
  have hob := hob rfl
  have hl := hob.2
  have ha : a < 4294967296 := hl a (by simp)
  have hb : b < 4294967296 := hl b (by simp)
  have hc : c < 4294967296 := hl c (by simp)
  have HL := Lib.hid (And.intro ha (And.intro hb hc))
  have hR := H0.out.2.below hb1
  obtain ⟨d0, d1, d2⟩ := three_cells hR (Below.refl _ _)
  have e0 := hR.free 0
  have e1 := hR.free 1
  have e2 := hR.free 2
  have z2 := hR.lt
  have HB1 := Lib.hid (H0.out.1.trans (hb1.mono H0.out.1.size))
  have HO := Lib.hid hob
  obtain ⟨gb, off, cp2, hv, hlt2, hcc⟩ := hob.sl.form (by simp)
  obtain ⟨rfl, -⟩ : g = some ⟨gb, off, none⟩ ∧ True := ⟨by injection hv, trivial⟩
  have k0 : w1.cell? ⟨gb, off, none⟩ = some (.float .f32 a) := hcc 0 (by simp)
  have k1 : w1.cell? ⟨gb, off + 1, none⟩ = some (.float .f32 b) := hcc 1 (by simp)
  have k2 : w1.cell? ⟨gb, off + 2, none⟩ = some (.float .f32 c) := hcc 2 (by simp)
  clear hR hb1 KF hl ha hb hc hob HW0 hv hlt2 hcc
  go_upto_region 4 with fail
  go_region
  go_wp2_with fail
  refine bodyPost_ret (v := .tuple #[.agg #[.float .f32 a, .float .f32 b, .float .f32 c], .bool true]) (by simp [results, Tryd.results28, go_sem, d0, d1, d2, z2]) rfl ?_
  exact ⟨rfl, HL.out.1, HL.out.2.1, HL.out.2.2, below_drewN (below_set3v HB1.out (Nat.le_refl _) _ _ _) 1⟩

end Go.Proofs.YtjibghjongplpaaDoor
