/- B10Volume, by words. -/
import Derived.Test.YtmpbnmmpniganaaKq
namespace Go.Proofs.Ytmpbnmmpniganaa
open Go.RowKit
set_option maxRecDepth 100000
set_option linter.unusedVariables false
set_option linter.unusedSimpArgs false

/-- A small volume, nothing told of a source. -/
def MakesSmallV (w : World) (e : Ending) (w' : World) : Prop :=
  ∃ (wd hi dp M q c : Nat) (bs : List Nat), e = .returned (.agg #[.int .i64 wd, .int .i64 hi, .int .i64 dp, .slice (some ⟨q, 0, none⟩) M c]) ∧ M = wd * hi * dp ∧ 2 ≤ wd ∧ wd ≤ 6 ∧ 1 ≤ hi ∧ hi ≤ 4 ∧ 1 ≤ dp ∧ dp ≤ 5 ∧ MW w' q c M bs ∧ w.heap.size ≤ q ∧ Below w.heap.size w w'

set_option maxHeartbeats 2000000 in
theorem b10Volume_any (w : World) (a : Option Addr) (len cap : Nat) (h : BytesIn w a len) :
    Calls Try.prog 38 #[.slice a len cap] w (MakesSmallV w) := by
  obtain ⟨wA, hwA⟩ : ∃ wA, wA = w.alloc (.cells #[.int .i64 0, .int .i64 0, .int .i64 0, .slice none 0 0] 44) := ⟨_, rfl⟩
  have hbA : Below w.heap.size w wA := by rw [hwA]; exact alb_k _ _
  have BR : BoxN wA w.heap.size #[.int .i64 0, .int .i64 0, .int .i64 0, .slice none 0 0] 44 := by rw [hwA]; exact BoxN.last w _ _
  have hsz : wA.heap.size = w.heap.size + 1 := by rw [hwA]; simp
  have KF := Lib.hid (from_any wA a len cap (h.at.grown (grown_below hbA none) (fun k hk => by cases hk)) (by omega))
  have HWA := Lib.hid hwA
  have HB := Lib.hid (And.intro BR hbA)
  have hsz2 : w.heap.size + 1 ≤ wA.heap.size := by omega
  clear hwA hbA BR h hsz
  go_enter Try.func38, Try.ntmps38
  go_wp2_with fail
  rw [← HWA.out]
  refine KF.out.mono ?_
  rintro e w1 ⟨rfl, hs, hb, hlt⟩
  have h1s := hb.size
  have KD := Lib.hid (l03DrawOk_any w1 wA.heap.size 0 hs (by omega) (by omega))
  have HB1 := Lib.hid hb
  clear hs hb KF
  go_wp2_with fail
  refine KD.out.mono ?_
  rintro e w2 ⟨wd, hi, dp, M, q, c, bs, rfl, hM, v1, v2, v3, v4, d1, d2, hm, hq, hd⟩
  have hbel : Below w.heap.size w w2 := (HB.out.2.trans (HB1.out.mono HB.out.2.size)).grown hd.grown (by omega) (fun k hk => by injection hk with e; omega)
  have R1 := (HB.out.1.below HB1.out).grown hd.grown (by intro e; injection e with e; omega)
  obtain ⟨r0, r1, r2, r3, r4, r5, r6, r7⟩ := R1.four
  have r6l := R1.lt
  have HM := Lib.hid hM
  have HMM := Lib.hid (And.intro hm hbel)
  clear hM hm hbel R1 hd KD
  go_wp2_with fail
  refine bodyPost_ret (v := .agg #[.int .i64 wd, .int .i64 hi, .int .i64 dp, .slice (some ⟨q, 0, none⟩) M c]) (by simp [results, Try.results38, go_sem, r0, r1, r2, r3, r6l]) rfl ?_
  exact ⟨wd, hi, dp, M, q, c, bs, rfl, HM.out, v1, v2, v3, v4, d1, d2, (((HMM.out.1.set (by omega) _).set (by omega) _).set (by omega) _).set (by omega) _, by omega, (((HMM.out.2.setCell (by simp) _).setCell (by simp) _).setCell (by simp) _).setCell (by simp) _⟩

end Go.Proofs.Ytmpbnmmpniganaa
