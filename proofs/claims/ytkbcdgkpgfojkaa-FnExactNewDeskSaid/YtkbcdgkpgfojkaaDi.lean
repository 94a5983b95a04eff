/- The program's new desk. -/
import Derived.Test.YtkbcdgkpgfojkaaDn
namespace Go.Proofs.Ytkbcdgkpgfojkaa
open Go.RowKit Ieee
set_option maxRecDepth 100000
set_option linter.unusedVariables false
set_option linter.unusedSimpArgs false
set_option maxHeartbeats 1000000

theorem implNew_any (w : World) : Calls Try.prog 31 #[] w (MakesDesk w) := by
  have S0 := NewSt.start w
  go_enter Try.func31, Try.ntmps31
  go_wp2_with fail
  generalize hW1 : ((w.alloc (.cells #[.int .i64 0, .int .i64 0, .slice none 0 0, .int .i64 0, .int .i64 0, .slice none 0 0, .int .i64 0, .int .i64 0, .slice none 0 0] 57)).alloc (.cells #[.float .f32 0] 24)).alloc (.cells #[.int .i64 1, .int .i64 1, .slice (some ⟨w.heap.size + 1, 0, none⟩) 1 1] 55) = W1 at *
  clear hW1
  obtain ⟨x0, x1, x2, _, _, _⟩ := S0.box.cells
  have hs0 := S0.size
  have hal := (Below.refl W1.heap.size W1).alloc (Nat.le_refl _) (.cells #[.float .f32 3212836864] 24)
  have SA := S0.below hal
  obtain ⟨y0, y1, y2, _, _, _⟩ := SA.box.cells
  have S1 : NewSt w W1.drew := ⟨S0.desk, S0.box, ⟨S0.own.1, S0.own.2⟩, below_drewN S0.bel 1⟩
  have S1A : NewSt w (W1.alloc (.cells #[.float .f32 3212836864] 24)).drew := ⟨SA.desk, SA.box, ⟨SA.own.1, SA.own.2⟩, below_drewN SA.bel 1⟩
  have L1 : OwnF (W1.alloc (.cells #[.float .f32 3212836864] 24)).drew W1.heap.size (.slice (some ⟨W1.heap.size, 0, none⟩) 1 1) [3212836864] := ⟨(lit_own W1 3212836864 (by omega)).1, (lit_own W1 3212836864 (by omega)).2⟩
  have k1 : ∀ X, NewSt w X → Calls Try.prog 71 #[.agg #[.int .i64 1, .int .i64 1, .slice (some ⟨w.heap.size + 1, 0, none⟩) 1 1]] X (MakesRow X 1 1 [0]) := fun X h => cloneP_any X 1 1 (some ⟨w.heap.size + 1, 0, none⟩) 1 [0] h.own.sl (by simp) (by simp)
  have K1 := Lib.hid k1
  clear k1
  have HS := Lib.hid S1
  have HA := Lib.hid S1A
  have HL := Lib.hid L1
  clear S0 S1 S1A SA L1 hal
  go_region_law (first
    | (go_simp; (with_reducible refine (K1.out _ HS.out).mono ?_); rintro e w2 ⟨a2, c2, rfl, ho2, hb2⟩; have S2 := HS.out.below hb2; have S3 := S2.below ((Below.refl w2.heap.size w2).alloc (Nat.le_refl _) (.cells #[.float .f32 3212836864] 24)); obtain ⟨z0, z1, z2, _, _, _⟩ := S2.box.cells; obtain ⟨d0, d1⟩ := S2.cells; obtain ⟨u0, u1, u2, _, _, _⟩ := S3.box.cells; obtain ⟨v0, v1⟩ := S3.cells)
    | (go_simp; (with_reducible refine (K1.out _ HA.out).mono ?_); rintro e w2 ⟨a2, c2, rfl, ho2, hb2⟩; have S2 := HA.out.below hb2; have HL3 := HL.out.below hb2; obtain ⟨z0, z1, z2, _, _, _⟩ := S2.box.cells; obtain ⟨d0, d1⟩ := S2.cells))
  all_goals
    have hB1 : w.heap.size + 1 ≤ W1.drew.heap.size := by have : W1.drew.heap.size = W1.heap.size := rfl
                                                         omega
    first
    | have hB2 := hb2.size
      have OD : OwnDesk (w2.alloc (.cells #[.float .f32 3212836864] 24)) (w.heap.size + 1) ⟨1, 1, some ⟨w.heap.size + 1, 0, none⟩, 1, 1⟩ ⟨1, 1, a2, 1, c2⟩ ⟨1, 1, some ⟨w2.heap.size, 0, none⟩, 1, 1⟩ [0] [0] [3212836864] := ⟨S3.own, (ho2.below ((Below.refl _ _).alloc (Nat.le_refl _) _)).mono hB1, OwnF.mono (lit_own w2 3212836864 (by omega)) (by omega), far_of HS.out.own ho2, far_of S2.own (lit_own w2 3212836864 (by omega)), far_of ho2 (lit_own w2 3212836864 (by omega))⟩
      have hBel := S3.bel
      clear S2 S3 d0 d1 u0 u1 u2 ho2 hb2 HS HA HL K1 x0 x1 x2 y0 y1 y2 z0 z1 z2
      go_wp2
      refine bodyPost_ret (v := .agg (desk ⟨1, 1, some ⟨w.heap.size + 1, 0, none⟩, 1, 1⟩ ⟨1, 1, a2, 1, c2⟩ ⟨1, 1, some ⟨w2.heap.size, 0, none⟩, 1, 1⟩)) (by simp [results, Try.results31, go_sem, v0, v1, desk]) rfl ?_
      exact ⟨_, _, _, rfl, ⟨rfl, rfl⟩, ⟨rfl, rfl⟩, ⟨rfl, rfl⟩, (OwnDesk.set9 OD (Nat.lt_succ_self _) _ _ _ _ _ _ _ _ _).mono (Nat.le_succ _), below_set9 hBel (Nat.le_refl _) _ _ _ _ _ _ _ _ _⟩
    | have hB3 : W1.heap.size + 1 = (W1.alloc (.cells #[.float .f32 3212836864] 24)).drew.heap.size := by show _ = (W1.alloc (.cells #[.float .f32 3212836864] 24)).heap.size; simp
      have OD : OwnDesk w2 (w.heap.size + 1) ⟨1, 1, some ⟨w.heap.size + 1, 0, none⟩, 1, 1⟩ ⟨1, 1, a2, 1, c2⟩ ⟨1, 1, some ⟨W1.heap.size, 0, none⟩, 1, 1⟩ [0] [0] [3212836864] := ⟨S2.own, ho2.mono (by omega), HL3.mono (by omega), far_of HA.out.own ho2, far_of HS.out.own HL3, (far_of HL.out ho2).symm⟩
      have hBel := S2.bel
      clear S2 HL3 ho2 hb2 HS HA HL K1 x0 x1 x2 y0 y1 y2 z0 z1 z2
      go_wp2
      refine bodyPost_ret (v := .agg (desk ⟨1, 1, some ⟨w.heap.size + 1, 0, none⟩, 1, 1⟩ ⟨1, 1, a2, 1, c2⟩ ⟨1, 1, some ⟨W1.heap.size, 0, none⟩, 1, 1⟩)) (by simp [results, Try.results31, go_sem, d0, d1, desk]) rfl ?_
      exact ⟨_, _, _, rfl, ⟨rfl, rfl⟩, ⟨rfl, rfl⟩, ⟨rfl, rfl⟩, (OwnDesk.set9 OD (Nat.lt_succ_self _) _ _ _ _ _ _ _ _ _).mono (Nat.le_succ _), below_set9 hBel (Nat.le_refl _) _ _ _ _ _ _ _ _ _⟩

end Go.Proofs.Ytkbcdgkpgfojkaa
