/- Errors of warped pictures. -/
import Derived.Test.YtmpbnmmpniganaaTe
import Derived.Test.YtmpbnmmpniganaaKj
namespace Go.Proofs.Ytmpbnmmpniganaa
open Go.RowKit
set_option maxRecDepth 100000
set_option linter.unusedVariables false
set_option linter.unusedSimpArgs false

/-- So far are the greys from those to which the map leads. -/
def errF (ks : List Int) (wd hi p : Nat) : Nat → Nat
  | 0 => 0
  | n + 1 => errF ks wd hi p n + (ks.getD n 0 - wrpF ks wd hi p n).natAbs
theorem errF_le {ks : List Int} (wd hi p : Nat) (h : ∀ i, (ks.getD i 0).natAbs ≤ 1000) : ∀ n, errF ks wd hi p n ≤ 2000 * n := by
  intro n
  induction n with
  | zero => exact Nat.le_refl _
  | succ n ih =>
    have h1 := h n
    have h2 := h (ix ((n % wd : Nat) - (p : Int)) (n / wd : Nat) wd hi)
    unfold errF wrpF
    omega

set_option maxHeartbeats 2000000 in
theorem errorOf_q (w : World) (wd hi N q c q2 c2 p r : Nat) (ks ms : List Int) (hv : vPic wd hi N = true) (h : MQ w q c N ks) (h2 : MQ w q2 c2 N ms) (hp : p ≤ 24) (hms : ∀ i, i < N → ms.getD i 0 = 4 * (p : Int))
    (hr : floatBits .quo .f32 (fq 2 ((errF ks wd hi p N : Nat) : Int)) (floatOfInt .f32 (N : Int)) = some r) :
    Calls Try.prog 27 #[.agg #[.int .i64 wd, .int .i64 hi, .slice (some ⟨q, 0, none⟩) N c], .agg #[.int .i64 wd, .int .i64 hi, .slice (some ⟨q, 0, none⟩) N c], .agg #[.int .i64 wd, .int .i64 hi, .slice (some ⟨q2, 0, none⟩) N c2]] w fun e w' => e = .returned (.tuple #[.float .f32 r, .bool true]) ∧ Below w.heap.size w w' := by
  obtain ⟨e1, e2, e3, e4, e5, e6, e7⟩ := vPic_mul hv
  obtain ⟨W0, hW0⟩ : ∃ W0, W0 = ((w.alloc (.cells #[.int .i64 wd, .int .i64 hi, .slice (some ⟨q, 0, none⟩) N c] 37)).alloc (.cells #[.int .i64 wd, .int .i64 hi, .slice (some ⟨q, 0, none⟩) N c] 37)).alloc (.cells #[.int .i64 wd, .int .i64 hi, .slice (some ⟨q2, 0, none⟩) N c2] 27) := ⟨_, rfl⟩
  have hb0 : Below w.heap.size w W0 := by rw [hW0]; exact (below_two w _ _).alloc (by simp; omega) _
  have hX1 : Box3 W0 w.heap.size (.int .i64 wd) (.int .i64 hi) (.slice (some ⟨q, 0, none⟩) N c) 37 := by rw [hW0]; exact (box_first w _ _ _ _ _).below (alb1 _ _)
  have hX2 : Box3 W0 (w.heap.size + 1) (.int .i64 wd) (.int .i64 hi) (.slice (some ⟨q, 0, none⟩) N c) 37 := by rw [hW0]; exact (box_second w _ _ _ _ _).below (alb1 _ _)
  have hX3 : Box3 W0 (w.heap.size + 2) (.int .i64 wd) (.int .i64 hi) (.slice (some ⟨q2, 0, none⟩) N c2) 27 := by rw [hW0]; have := box_last ((w.alloc (.cells #[.int .i64 wd, .int .i64 hi, .slice (some ⟨q, 0, none⟩) N c] 37)).alloc (.cells #[.int .i64 wd, .int .i64 hi, .slice (some ⟨q, 0, none⟩) N c] 37)) (.int .i64 wd) (.int .i64 hi) (.slice (some ⟨q2, 0, none⟩) N c2) 27; simpa using this
  have KO := Lib.hid (pairOk_k W0 wd hi N (some ⟨q, 0, none⟩) (some ⟨q, 0, none⟩) c c hv)
  have KV := Lib.hid (fun W => validMap_any (wd : Int) (hi : Int) (some ⟨q2, 0, none⟩) N c2 (by omega) W)
  rw [hv] at KV
  have HW0 := Lib.hid hW0
  have HM1 := Lib.hid (h.below hb0)
  have HM2 := Lib.hid (h2.below hb0)
  have HE1 := Lib.hid e1
  obtain ⟨c0, c1, c2', -, -, -⟩ := hX1.cells
  obtain ⟨d0, d1, d2', -, -, -⟩ := hX2.cells
  obtain ⟨f0, f1, f2', -, -, -⟩ := hX3.cells
  rw [hW0] at c0 c1 c2' d0 d1 d2' f0 f1 f2'
  have HB := Lib.hid (And.intro hb0 (And.intro hX1 (And.intro hX2 hX3)))
  have hN0 : 1 ≤ N := by rw [e1]; exact Nat.mul_pos e2 e4
  have a1 := fres_some hr
  have a2 := fdr_some hr
  have A1 := Lib.hid a1
  have A2 := Lib.hid a2
  have HLE := Lib.hid (errF_le wd hi p h.kb)
  have hd0 : ∀ W : World, W.drewN 0 = W := fun _ => rfl
  clear h h2 e1 hW0 hb0 hX1 hX2 hX3 hv hr a1 a2
  go_enter Try.func27, Try.ntmps27
  go_wp2_with fail
  rw [← HW0.out]
  refine KO.out.mono ?_
  rintro e w1 ⟨rfl, hb1⟩
  obtain ⟨hb0, hX1, hX2, hX3⟩ := HB.out
  obtain ⟨c0, c1, c2', -, -, -⟩ := (hX1.below hb1).cells
  obtain ⟨f0, f1, f2', -, -, -⟩ := (hX3.below hb1).cells
  have HB1 := Lib.hid hb1
  clear hb1 hb0 hX1 hX2 hX3
  go_wp2_with fail
  refine (KV.out _).mono ?_
  rintro e w2 ⟨rfl, hb2⟩
  obtain ⟨hb0, hX1, hX2, hX3⟩ := HB.out
  have hb3 : Below W0.heap.size W0 w2 := HB1.out.trans (hb2.mono HB1.out.size)
  obtain ⟨c0, c1, c2', -, -, -⟩ := (hX1.below hb3).cells
  obtain ⟨f0, f1, f2', -, -, -⟩ := (hX3.below hb3).cells
  have PA : PicAt w2 w.heap.size wd hi _ (ks.map (fq 2)) 37 := ⟨hX1.below hb3, (HM1.out.below hb3).sl, by rw [List.length_map, HM1.out.len, HE1.out]⟩
  have PB : PicAt w2 (w.heap.size + 1) wd hi _ (ks.map (fq 2)) 37 := ⟨hX2.below hb3, (HM1.out.below hb3).sl, by rw [List.length_map, HM1.out.len, HE1.out]⟩
  have PM : PicAt w2 (w.heap.size + 2) wd hi _ (ms.map (fq 2)) 27 := ⟨hX3.below hb3, (HM2.out.below hb3).sl, by rw [List.length_map, HM2.out.len, HE1.out]⟩
  have HP := Lib.hid (And.intro PA (And.intro PB PM))
  have HBB := Lib.hid (hb0.trans (hb3.mono hb0.size))
  clear hb0 hX1 hX2 hX3 hb3 hb2 PA PB PM
  go_wp2_with fail
  go_loopw [8, 9, 39] (fun v8 v9 v39 wr => ∃ y m : Nat, v39 = .int .i64 y ∧ y ≤ hi ∧ v8 = .float .f32 (fq 2 ((errF ks wd hi p (wd * y) : Nat) : Int)) ∧ v9 = .int .i64 ((wd * y : Nat) : Int) ∧ w2.drewN m = wr) (fun _ _ v39 _ => hi - (intOf v39).toNat)
  case atStart => exact ⟨0, 0, rfl, Nat.zero_le _, by rw [Nat.mul_zero]; show _ = Value.float .f32 (fq 2 0); rw [fq_zero], by rw [Nat.mul_zero]; rfl, rfl⟩
  case round =>
    obtain ⟨y, m, rfl, hy, rfl, rfl, hw⟩ := hrel
    have HW := Lib.hid hw
    obtain ⟨f0, f1, f2', -, -, -⟩ := (show PicAt wr (w.heap.size + 2) wd hi (.slice (some ⟨q2, 0, none⟩) N c2) (ms.map (fq 2)) 27 by rw [← hw]; exact HP.out.2.2.drew2 m).box.cells
    clear hw
    by_cases hyl : y < hi
    · have hyI : (y : Int) < (hi : Int) := by omega
      go_wp2_with fail
      go_loopw [8, 9, 44] (fun v8 v9 v44 wz => ∃ x m : Nat, v44 = .int .i64 x ∧ x ≤ wd ∧ v8 = .float .f32 (fq 2 ((errF ks wd hi p (x + wd * y) : Nat) : Int)) ∧ v9 = .int .i64 ((x + wd * y : Nat) : Int) ∧ w2.drewN m = wz) (fun _ _ v44 _ => wd - (intOf v44).toNat)
      case atStart => exact ⟨0, m, rfl, Nat.zero_le _, by rw [Nat.zero_add], by rw [Nat.zero_add], HW.out⟩
      case round =>
        clear f0 f1 f2' HW m
        obtain ⟨x, m, rfl, hx, rfl, rfl, hw⟩ := hrel
        by_cases hxl : x < wd
        · have hxI : (x : Int) < (wd : Int) := by omega
          have hin : x + wd * y < N := by rw [HE1.out]; exact xy_lt hxl hyl
          have PA : PicAt wr w.heap.size wd hi (.slice (some ⟨q, 0, none⟩) N c) (ks.map (fq 2)) 37 := by rw [← hw]; exact HP.out.1.drew2 m
          have PB : PicAt wr (w.heap.size + 1) wd hi (.slice (some ⟨q, 0, none⟩) N c) (ks.map (fq 2)) 37 := by rw [← hw]; exact HP.out.2.1.drew2 m
          have PM : PicAt wr (w.heap.size + 2) wd hi (.slice (some ⟨q2, 0, none⟩) N c2) (ms.map (fq 2)) 27 := by rw [← hw]; exact HP.out.2.2.drew2 m
          obtain ⟨f0, f1, f2', -, -, -⟩ := PM.box.cells
          have KW := Lib.hid (warped_q wr (w.heap.size + 1) (w.heap.size + 2) wd hi p x y _ _ ks ms hxl hyl e3 e5 hp PB PM (hms _ hin))
          have KA := Lib.hid (fun n => about_any (wr.drewN n) w.heap.size wd hi _ _ (x : Int) (y : Int) (by omega) (by omega) (by omega) (by omega) (PA.drew2 n))
          have hix : ix (x : Int) (y : Int) wd hi = x + wd * y := by unfold ix; rw [cl_nat hxl, cl_nat hyl]
          rw [hix, fqD] at KA
          have hst : errF ks wd hi p (x + wd * y + 1) = errF ks wd hi p (x + wd * y) + (ks.getD (x + wd * y) 0 - wrpF ks wd hi p (x + wd * y)).natAbs := rfl
          have eF : wrpF ks wd hi p (x + wd * y) = ks.getD (ix ((x : Int) - (p : Int)) y wd hi) 0 := by unfold wrpF; rw [xy_mod hxl, xy_div hxl]
          rw [eF] at hst
          have hle := HLE.out (x + wd * y)
          have k1 := HM1.out.kb (x + wd * y)
          have k2 := HM1.out.kb (ix ((x : Int) - (p : Int)) y wd hi)
          clear PA PB PM eF hix
          generalize ks.getD (ix ((x : Int) - (p : Int)) y wd hi) 0 = g at *
          generalize ks.getD (x + wd * y) 0 = a at *
          generalize errF ks wd hi p (x + wd * y) = E at *
          have q1 := fq_sub (g := 2) (a := a) (b := g) (by omega) (by omega) (by omega)
          have KB := Lib.hid (fun w => abs_any (fq 2 (a - g)) (fq_lt (by omega)) w)
          rw [fq_abs (z := a - g) (by omega)] at KB
          have q2 := fq_add (g := 2) (a := (E : Int)) (b := ((a - g).natAbs : Int)) (by omega) (by omega) (by omega)
          have HST := Lib.hid hst
          have e5' : ((E : Int) + ((a - g).natAbs : Int)) = ((E + (a - g).natAbs : Nat) : Int) := by omega
          rw [e5', ← hst] at q2
          have hxy1 : x + wd * y ≤ 1000 := by omega
          obtain ⟨va, hva⟩ : ∃ v, fq 2 a = v := ⟨_, rfl⟩
          obtain ⟨vg, hvg⟩ : ∃ v, fq 2 g = v := ⟨_, rfl⟩
          obtain ⟨vd, hvd⟩ : ∃ v, fq 2 (a - g) = v := ⟨_, rfl⟩
          obtain ⟨vz, hvz⟩ : ∃ v, fq 2 (((a - g).natAbs : Nat) : Int) = v := ⟨_, rfl⟩
          obtain ⟨vE, hvE⟩ : ∃ v, fq 2 (E : Int) = v := ⟨_, rfl⟩
          obtain ⟨vF, hvF⟩ : ∃ v, fq 2 ((errF ks wd hi p (x + wd * y + 1) : Nat) : Int) = v := ⟨_, rfl⟩
          rw [hva, hvg, hvd] at q1
          rw [hva] at KA
          rw [hvg] at KW
          rw [hvd, hvz] at KB
          rw [hvE, hvz, hvF] at q2
          rw [hvE]
          have r1 := fres_some q1
          have r2 := fdr_some q1
          have r3 := fres_some q2
          have r4 := fdr_some q2
          have HVF := Lib.hid hvF
          have HW := Lib.hid hw
          obtain ⟨n, hn⟩ : ∃ n, n = x + wd * y := ⟨_, rfl⟩
          rw [← hn] at hxy1 HVF hin ⊢
          have HNN := Lib.hid hn
          clear q1 q2 hva hvg hvd hvz hvE hvF hst HST e5' k1 k2 hle hw hn
          go_wp2_with fail
          refine KW.out.mono ?_
          rintro e w3 ⟨rfl, i1, hw3⟩
          obtain ⟨j1, hj1⟩ : ∃ j, w3 = wr.drewN j := ⟨i1, by first | exact hw3 | rfl⟩
          clear hw3
          obtain ⟨f0, f1, f2', -, -, -⟩ : w3.cell? ⟨w.heap.size + 2, 0, none⟩ = some (.int .i64 wd) ∧ True ∧ True ∧ True ∧ True ∧ True := ⟨by rw [hj1]; exact f0, trivial, trivial, trivial, trivial, trivial⟩
          have KA3 := KA.out j1
          rw [← hj1] at KA3
          have HJ1 := Lib.hid hj1
          clear hj1
          go_wp2_with fail
          refine KA3.mono ?_
          rintro e w4 ⟨rfl, i2, hw4⟩
          obtain ⟨j2, hj2⟩ : ∃ j, w4 = w3.drewN j := ⟨i2, by first | exact hw4 | rfl⟩
          clear hw4 KA3
          have HJ2 := Lib.hid hj2
          clear hj2
          go_wp2_with fail
          refine (KB.out _).mono ?_
          rintro e w5 ⟨rfl, hw5⟩
          have hj5 : w4 = w5 := by first | exact hw5 | rfl
          have HJ5 := Lib.hid hj5
          clear hw5 hj5
          go_wp2_with fail
          go_roundw
          case rel =>
            have hd : ∃ m2, w2.drewN m2 = w5 := by
              obtain ⟨k1, e1⟩ := drewN_drewN w2 m j1
              obtain ⟨k2, e2⟩ := drewN_drewN w2 k1 j2
              exact ⟨k2, by rw [← HJ5.out, HJ2.out, HJ1.out, ← HW.out, e1, e2]⟩
            obtain ⟨m2, hm2⟩ := hd
            refine ⟨x + 1, m2, by go_num, by omega, ?_, ?_, hm2⟩
            · rw [show x + 1 + wd * y = n + 1 by rw [HNN.out]; omega, HVF.out]
            · rw [show x + 1 + wd * y = n + 1 by rw [HNN.out]; omega]; go_num
          case measure => simp [intOf]; omega
        · obtain rfl : wd = x := by omega
          have HW := Lib.hid hw
          have e1 : wd + wd * y = wd * (y + 1) := by rw [Nat.mul_add, Nat.mul_one, Nat.add_comm]
          rw [e1]
          clear hw e1
          go_wp2_with fail
          go_roundw
          case rel => exact ⟨y + 1, m, by go_num, by omega, rfl, rfl, HW.out⟩
          case measure => simp [intOf]; omega
    · obtain rfl : hi = y := by omega
      rw [← HE1.out]
      have hNI : ¬ ((N : Int) == 0) = true := by simp; omega
      have hNI2 : ¬ (N : Int) = 0 := by omega
      have a1 := A1.out
      have a2 := A2.out
      generalize fq 2 ((errF ks wd hi p N : Nat) : Int) = vS at *
      go_wp2_with fail
      go_ret2
      refine ⟨rfl, ?_⟩
      have := HBB.out
      rw [← HW.out]
      first | exact below_drewN this _ | exact below_drewN (below_drewN this _) _

end Go.Proofs.Ytmpbnmmpniganaa
