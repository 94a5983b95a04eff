/- Two pictures of one size; volumes of two pictures. Words. -/
import Derived.Test.YtmpbnmmpniganaaKb
import Derived.Test.YtmpbnmmpniganaaWd
import Derived.Test.YtmpbnmmpniganaaWc
import Derived.Test.YtmpbnmmpniganaaVl
namespace Go.Proofs.Ytmpbnmmpniganaa
open Go.RowKit
set_option maxRecDepth 100000
set_option linter.unusedVariables false
set_option linter.unusedSimpArgs false

/-- Two pictures of one size, nothing told of a source. -/
def MakesTwo (w : World) (e : Ending) (w' : World) : Prop :=
  ∃ (wd hi N q1 c1 q2 c2 : Nat) (bs1 bs2 : List Nat), e = .returned (.tuple #[.agg #[.int .i64 wd, .int .i64 hi, .slice (some ⟨q1, 0, none⟩) N c1], .agg #[.int .i64 wd, .int .i64 hi, .slice (some ⟨q2, 0, none⟩) N c2]]) ∧ N = wd * hi ∧ 2 ≤ wd ∧ wd ≤ 6 ∧ 1 ≤ hi ∧ hi ≤ 4 ∧
    MW w' q1 c1 N bs1 ∧ MW w' q2 c2 N bs2 ∧ w.heap.size ≤ q1 ∧ w.heap.size ≤ q2 ∧ Below w.heap.size w w'

set_option maxHeartbeats 2000000 in
theorem b10Pictures_any (w : World) (a : Option Addr) (len cap : Nat) (h : BytesIn w a len) :
    Calls Try.prog 15 #[.slice a len cap] w (MakesTwo w) := by
  obtain ⟨wA, hwA⟩ : ∃ wA, wA = (w.alloc (.cells #[.int .i64 0, .int .i64 0, .slice none 0 0] 37)).alloc (.cells #[.int .i64 0, .int .i64 0, .slice none 0 0] 37) := ⟨_, rfl⟩
  have hbA : Below w.heap.size w wA := by rw [hwA]; exact below_two w _ _
  have B1 : Box3 wA w.heap.size (.int .i64 0) (.int .i64 0) (.slice none 0 0) 37 := by rw [hwA]; exact box_first w _ _ _ _ _
  have B2 : Box3 wA (w.heap.size + 1) (.int .i64 0) (.int .i64 0) (.slice none 0 0) 37 := by rw [hwA]; exact box_second w _ _ _ _ _
  have hsz : wA.heap.size = w.heap.size + 2 := by rw [hwA]; simp
  have hsz2 : w.heap.size + 2 ≤ wA.heap.size := by omega
  have KF := Lib.hid (from_any wA a len cap (h.at.grown (grown_below hbA none) (fun k hk => by cases hk)) (by omega))
  have HWA := Lib.hid hwA
  have HB := Lib.hid (And.intro B1 (And.intro B2 hbA))
  clear hwA hbA B1 B2 hsz h
  go_enter Try.func15, Try.ntmps15
  go_wp2_with fail
  rw [← HWA.out]
  refine KF.out.mono ?_
  rintro e w1 ⟨rfl, hs, hb, hlt⟩
  have h1s := hb.size
  have KD := Lib.hid (l02DrawPair_any w1 wA.heap.size 0 hs (by omega) (by omega))
  have HB1 := Lib.hid hb
  clear hs hb KF
  go_wp2_with fail
  refine KD.out.mono ?_
  rintro e w2 ⟨wd, hi, N, q1, c1, q2, c2, bs1, bs2, rfl, hN, v1, v2, v3, v4, l1, l2, s1, s2, g1, g2, g3, g4, hd⟩
  have hbel : Below w.heap.size w w2 := (HB.out.2.2.trans (HB1.out.mono HB.out.2.2.size)).grown hd.grown (by omega) (fun k hk => by injection hk with e; omega)
  have gs := hd.grown.size
  have R1 := (HB.out.1.below HB1.out).grown hd.grown (by intro e; injection e with e; omega)
  have R2 := (HB.out.2.1.below HB1.out).grown hd.grown (by intro e; injection e with e; omega)
  obtain ⟨W3, hW3⟩ : ∃ W3, W3 = (w2.alloc (.cells #[.int .i64 wd, .int .i64 hi, .slice (some ⟨q1, 0, none⟩) N c1] 37)).alloc (.cells #[.int .i64 wd, .int .i64 hi, .slice (some ⟨q2, 0, none⟩) N c2] 37) := ⟨_, rfl⟩
  have hb3 : Below w2.heap.size w2 W3 := by rw [hW3]; exact below_two w2 _ _
  have A1 : Box3 W3 w2.heap.size (.int .i64 wd) (.int .i64 hi) (.slice (some ⟨q1, 0, none⟩) N c1) 37 := by rw [hW3]; exact box_first w2 _ _ _ _ _
  have A2 : Box3 W3 (w2.heap.size + 1) (.int .i64 wd) (.int .i64 hi) (.slice (some ⟨q2, 0, none⟩) N c2) 37 := by rw [hW3]; exact box_second w2 _ _ _ _ _
  have m1 : MW W3 q1 c1 N bs1 := MW.below ⟨s1, g3, l1⟩ hb3
  have m2 : MW W3 q2 c2 N bs2 := MW.below ⟨s2, g4, l2⟩ hb3
  obtain ⟨x0, x1, x2, x3, x4, x5⟩ := (R1.below hb3).cells
  obtain ⟨y0, y1, y2, y3, y4, y5⟩ := (R2.below hb3).cells
  obtain ⟨a0, a1, a2, -, -, -⟩ := A1.cells
  obtain ⟨b0, b1, b2, -, -, -⟩ := A2.cells
  have r1l := (R1.below hb3).lt
  have r2l := (R2.below hb3).lt
  have HMM := Lib.hid (And.intro m1 (And.intro m2 (hbel.trans (hb3.mono hbel.size))))
  have HN := Lib.hid hN
  have HW3 := Lib.hid hW3
  have hb3b := Lib.hid hb3
  clear hbel R1 R2 m1 m2 hN hW3 A1 A2 hb3 s1 s2 l1 l2 hd KD
  go_upto_region 3 with fail
  rw [← HW3.out]
  go_region
  all_goals
    go_wp2_with fail
    refine bodyPost_ret (v := .tuple #[.agg #[.int .i64 wd, .int .i64 hi, .slice (some ⟨q1, 0, none⟩) N c1], .agg #[.int .i64 wd, .int .i64 hi, .slice (some ⟨q2, 0, none⟩) N c2]]) (by simp [results, Try.results15, go_sem, x0, x1, x2, y0, y1, y2, r1l, r2l]) rfl ?_
    obtain ⟨m1, m2, hbl⟩ := HMM.out
    have n1 := ((((((m1.set (show w.heap.size ≠ q1 by omega) (.int .i64 wd) (i := 0)).set (show w.heap.size ≠ q1 by omega) (.int .i64 hi) (i := 1)).set (show w.heap.size ≠ q1 by omega) (.slice (some ⟨q1, 0, none⟩) N c1) (i := 2)).set (show w.heap.size + 1 ≠ q1 by omega) (.int .i64 wd) (i := 0)).set (show w.heap.size + 1 ≠ q1 by omega) (.int .i64 hi) (i := 1)).set (show w.heap.size + 1 ≠ q1 by omega) (.slice (some ⟨q2, 0, none⟩) N c2) (i := 2)).drewN 1
    have n2 := ((((((m2.set (show w.heap.size ≠ q2 by omega) (.int .i64 wd) (i := 0)).set (show w.heap.size ≠ q2 by omega) (.int .i64 hi) (i := 1)).set (show w.heap.size ≠ q2 by omega) (.slice (some ⟨q1, 0, none⟩) N c1) (i := 2)).set (show w.heap.size + 1 ≠ q2 by omega) (.int .i64 wd) (i := 0)).set (show w.heap.size + 1 ≠ q2 by omega) (.int .i64 hi) (i := 1)).set (show w.heap.size + 1 ≠ q2 by omega) (.slice (some ⟨q2, 0, none⟩) N c2) (i := 2)).drewN 1
    have n3 := below_drewN ((((((hbl.setCell (p := ⟨w.heap.size, 0, none⟩) (Nat.le_refl _) (.int .i64 wd)).setCell (p := ⟨w.heap.size, 1, none⟩) (Nat.le_refl _) (.int .i64 hi)).setCell (p := ⟨w.heap.size, 2, none⟩) (Nat.le_refl _) (.slice (some ⟨q1, 0, none⟩) N c1)).setCell (p := ⟨w.heap.size + 1, 0, none⟩) (Nat.le_succ _) (.int .i64 wd)).setCell (p := ⟨w.heap.size + 1, 1, none⟩) (Nat.le_succ _) (.int .i64 hi)).setCell (p := ⟨w.heap.size + 1, 2, none⟩) (Nat.le_succ _) (.slice (some ⟨q2, 0, none⟩) N c2)) 1
    clear x0 x1 x2 x3 x4 x5 y0 y1 y2 y3 y4 y5 a0 a1 a2 b0 b1 b2
    generalize hwz : (((((W3.setCell ⟨w.heap.size, 0, none⟩ (.int .i64 wd)).setCell ⟨w.heap.size, 1, none⟩ (.int .i64 hi)).setCell ⟨w.heap.size, 2, none⟩ (.slice (some ⟨q1, 0, none⟩) N c1)).setCell ⟨w.heap.size + 1, 0, none⟩ (.int .i64 wd)).setCell ⟨w.heap.size + 1, 1, none⟩ (.int .i64 hi)).setCell ⟨w.heap.size + 1, 2, none⟩ (.slice (some ⟨q2, 0, none⟩) N c2) = wz at *
    exact ⟨wd, hi, N, q1, c1, q2, c2, bs1, bs2, rfl, HN.out, v1, v2, v3, v4, n1, n2, by omega, by omega, n3⟩

end Go.Proofs.Ytmpbnmmpniganaa
