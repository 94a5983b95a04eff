/- Shares of what differs. -/
import Derived.Test.YtmpbnmmpniganaaKi
import Derived.Test.YtmpbnmmpniganaaKj
namespace Go.Proofs.Ytmpbnmmpniganaa
open Go.RowKit
set_option maxRecDepth 100000
set_option linter.unusedVariables false
set_option linter.unusedSimpArgs false

/-- So many numbers differ. -/
def misF (ks js : List Int) : Nat → Nat
  | 0 => 0
  | n + 1 => if ks.getD n 0 = js.getD n 0 then misF ks js n else misF ks js n + 1
theorem misF_le (ks js : List Int) : ∀ n, misF ks js n ≤ n := by
  intro n
  induction n with
  | zero => exact Nat.le_refl _
  | succ n ih => unfold misF; split <;> omega

set_option maxHeartbeats 1000000 in
theorem unlike_q (W : World) (q c q2 c2 N : Nat) (ks js : List Int) (h : MQ W q c N ks) (h2 : MQ W q2 c2 N js) (hN : N ≤ 1000) :
    Calls Try.prog 75 #[.slice (some ⟨q, 0, none⟩) N c, .slice (some ⟨q2, 0, none⟩) N c2, .float .f32 0] W fun e w' => e = .returned (.int .i64 (misF ks js N : Nat)) ∧ ∃ n, w' = W.drewN n := by
  have H1 := Lib.hid h
  have H2 := Lib.hid h2
  have HL := Lib.hid (misF_le ks js)
  clear h h2
  go_enter Try.func75, Try.ntmps75
  go_wp2_with fail
  go_loopw [7, 12] (fun v7 v12 wr => ∃ i m : Nat, v12 = .int .i64 i ∧ i ≤ N ∧ v7 = .int .i64 (misF ks js i : Nat) ∧ W.drewN m = wr) (fun _ v12 _ => N - (intOf v12).toNat)
  case atStart => exact ⟨0, 0, rfl, Nat.zero_le _, rfl, rfl⟩
  case round =>
    obtain ⟨i, m, rfl, hi, rfl, hw⟩ := hrel
    have HW := Lib.hid hw
    by_cases hlt : i < N
    · have kA : wr.cell? ⟨q, i, none⟩ = some (.float .f32 (fq 2 (ks.getD i 0))) := by rw [← hw]; exact H1.out.get i hlt
      have kB : wr.cell? ⟨q2, i, none⟩ = some (.float .f32 (fq 2 (js.getD i 0))) := by rw [← hw]; exact H2.out.get i hlt
      have b1 := H1.out.kb i
      have b2 := H2.out.kb i
      have KN := Lib.hid (fun w => nearTo_q (ks.getD i 0) (js.getD i 0) 0 (by omega) (by omega) (by omega) w)
      rw [fq_zero] at KN
      have hst : misF ks js (i + 1) = if ks.getD i 0 = js.getD i 0 then misF ks js i else misF ks js i + 1 := rfl
      have hml := HL.out i
      have hiI : (i : Int) < (N : Int) := by omega
      by_cases hz : ks.getD i 0 = js.getD i 0
      · have hd : decide ((((ks.getD i 0 - js.getD i 0).natAbs : Nat) : Int) ≤ 0) = true := by rw [hz]; simp
        rw [if_pos hz] at hst
        rw [hd] at KN
        have HST := Lib.hid hst
        clear hst hd hz b1 b2 hw
        generalize ks.getD i 0 = k at *
        generalize js.getD i 0 = j at *
        generalize hmi : misF ks js i = mi at *
        generalize fq 2 k = vk at *
        generalize fq 2 j = vj at *
        go_wp2_with fail
        refine (KN.out _).mono ?_
        rintro e w' ⟨rfl, hw'⟩
        go_wp2_with fail
        go_roundw
        case rel => exact ⟨i + 1, m, by go_num, by omega, by rw [HST.out], by first | exact HW.out | (rw [hw']; exact HW.out)⟩
        case measure => simp [intOf]; omega
      · have hd : decide ((((ks.getD i 0 - js.getD i 0).natAbs : Nat) : Int) ≤ 0) = false := by rw [decide_eq_false_iff_not]; omega
        rw [if_neg hz] at hst
        rw [hd] at KN
        have HST := Lib.hid hst
        clear hst hd hz b1 b2 hw
        generalize ks.getD i 0 = k at *
        generalize js.getD i 0 = j at *
        generalize hmi : misF ks js i = mi at *
        generalize fq 2 k = vk at *
        generalize fq 2 j = vj at *
        go_wp2_with fail
        refine (KN.out _).mono ?_
        rintro e w' ⟨rfl, hw'⟩
        go_wp2_with fail
        go_roundw
        case rel => exact ⟨i + 1, m, by go_num, by omega, by rw [HST.out]; go_num, by first | exact HW.out | (rw [hw']; exact HW.out)⟩
        case measure => simp [intOf]; omega
    · obtain rfl : N = i := by omega
      clear hw
      go_wp2_with fail
      go_ret
      exact ⟨rfl, m, HW.out.symm⟩

set_option maxHeartbeats 1000000 in
theorem wrongShare_q (w : World) (wd hi N q c q2 c2 r : Nat) (ks js : List Int) (hv : vPic wd hi N = true) (h : MQ w q c N ks) (h2 : MQ w q2 c2 N js) (hr : floatBits .quo .f32 (floatOfInt .f32 ((misF ks js N : Nat) : Int)) (floatOfInt .f32 (N : Int)) = some r) :
    Calls Try.prog 26 #[.agg #[.int .i64 wd, .int .i64 hi, .slice (some ⟨q, 0, none⟩) N c], .agg #[.int .i64 wd, .int .i64 hi, .slice (some ⟨q2, 0, none⟩) N c2], .float .f32 0] w fun e w' => e = .returned (.tuple #[.float .f32 r, .bool true]) ∧ Below w.heap.size w w' := by
  obtain ⟨e1, e2, e3, e4, e5, e6, e7⟩ := vPic_mul hv
  obtain ⟨W0, hW0⟩ : ∃ W0, W0 = (w.alloc (.cells #[.int .i64 wd, .int .i64 hi, .slice (some ⟨q, 0, none⟩) N c] 27)).alloc (.cells #[.int .i64 wd, .int .i64 hi, .slice (some ⟨q2, 0, none⟩) N c2] 27) := ⟨_, rfl⟩
  have hb0 : Below w.heap.size w W0 := by rw [hW0]; exact below_two w _ _
  have hX1 : Box3 W0 w.heap.size (.int .i64 wd) (.int .i64 hi) (.slice (some ⟨q, 0, none⟩) N c) 27 := by rw [hW0]; exact box_first w _ _ _ _ _
  have hX2 : Box3 W0 (w.heap.size + 1) (.int .i64 wd) (.int .i64 hi) (.slice (some ⟨q2, 0, none⟩) N c2) 27 := by rw [hW0]; exact box_second w _ _ _ _ _
  have KO := Lib.hid (mapsOk_q W0 wd hi N q c q2 c2 hv)
  have HM1 := Lib.hid (h.below hb0)
  have HM2 := Lib.hid (h2.below hb0)
  obtain ⟨c0, c1, c2', -, -, -⟩ := hX1.cells
  obtain ⟨d0, d1, d2', -, -, -⟩ := hX2.cells
  rw [hW0] at c0 c1 c2' d0 d1 d2'
  have HW0 := Lib.hid hW0
  have HB := Lib.hid (And.intro hb0 (And.intro hX1 hX2))
  have hN2 : N ≤ 1000 := by omega
  have a1 := fres_some hr
  have a2 := fdr_some hr
  have hml := misF_le ks js N
  clear hW0 hb0 hX1 hX2 h h2 e1 hv hr
  go_enter Try.func26, Try.ntmps26
  go_wp2_with fail
  rw [← HW0.out]
  refine KO.out.mono ?_
  rintro e w1 ⟨rfl, hb1⟩
  obtain ⟨hb0, hX1, hX2⟩ := HB.out
  obtain ⟨c0, c1, c2', -, -, -⟩ := (hX1.below hb1).cells
  obtain ⟨d0, d1, d2', -, -, -⟩ := (hX2.below hb1).cells
  have HBB := Lib.hid (hb0.trans (hb1.mono hb0.size))
  have KU := Lib.hid (fun n => quiet_drew (unlike_q (w1.drewN n) q c q2 c2 N ks js ((HM1.out.below hb1).below (below_drewN (Below.refl _ _) n)) ((HM2.out.below hb1).below (below_drewN (Below.refl _ _) n)) hN2))
  clear hb0 hX1 hX2 hb1
  generalize misF ks js N = mi at *
  go_wp2_with fail
  go_quiet (with_reducible exact KU.out _)
  go_wp2_with fail
  go_ret2
  exact ⟨rfl, below_drewN HBB.out _⟩

end Go.Proofs.Ytmpbnmmpniganaa
