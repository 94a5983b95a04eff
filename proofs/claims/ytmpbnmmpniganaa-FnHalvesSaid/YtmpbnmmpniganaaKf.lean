/- Maps of half the size. -/
import Derived.Test.YtmpbnmmpniganaaKe
namespace Go.Proofs.Ytmpbnmmpniganaa
open Go.RowKit
set_option maxRecDepth 100000
set_option linter.unusedVariables false
set_option linter.unusedSimpArgs false

theorem halve1_q (W : World) (pb wd hi q c N x y : Nat) (ks : List Int) (k : Int) (hx : 2 * x < wd) (hy : 2 * y < hi) (hw : wd ≤ 24) (hh : hi ≤ 24) (hk : ks.getD (2 * x + wd * (2 * y)) 0 = if k < 0 then -4 else 2 * k) (hkb : k.natAbs ≤ 400) (hP : PicAt W pb wd hi (.slice (some ⟨q, 0, none⟩) N c) (ks.map (fq 2)) 27) :
    Calls Try.prog 51 #[.int .i64 x, .int .i64 y, .pointer (some ⟨pb, 0, none⟩)] W fun e w' => e = .returned (.float .f32 (fq 2 (if k < 0 then -4 else k))) ∧ ∃ n, w' = W.drewN n := by
  have KM := Lib.hid (fun n => mat_q (W.drewN n) pb wd hi _ ks (2 * x) (2 * y) (2 * (x : Int)) (2 * (y : Int)) (by omega) (by omega) hx hy (by omega) (by omega) (hP.drew2 n))
  rw [hk] at KM
  have KM0 := Lib.hid (KM.out 0)
  have hx12 : (x : Int) ≤ 12 := by omega
  have hy12 : (y : Int) ≤ 12 := by omega
  have cm : fq 2 (-4) = 3212836864 := by decide +kernel
  by_cases h0 : 0 ≤ k
  · rw [if_neg (by omega)] at KM KM0 ⊢
    have tw := half_fq h0 hkb
    have ar := fres_some tw
    have af := fdr_some tw
    have hd0 : ∀ W : World, W.drewN 0 = W := fun _ => rfl
    have l1 := le0_fq (k := 2 * k) (by omega)
    rw [decide_eq_true (by omega)] at l1
    generalize fq 2 (2 * k) = vr at *
    generalize fq 2 k = vk at *
    have HL := Lib.hid l1
    clear tw l1 h0 hP hkb cm hk hx hy
    go_enter Try.func51, Try.ntmps51
    go_wp2_with fail
    refine KM0.out.mono ?_
    rintro e w' ⟨rfl, n, rfl⟩
    go_wp2_with fail
    refine (isHole_any _ _).mono ?_
    rw [HL.out]
    rintro e w' ⟨rfl, rfl⟩
    go_wp2_with fail
    refine (KM.out _).mono ?_
    rintro e w' ⟨rfl, n2, rfl⟩
    go_wp2_with fail
    go_ret
    exact ⟨rfl, _, rfl⟩
  · rw [if_pos (by omega)] at KM KM0 ⊢
    have l1 := le0_fq (k := -4) (by decide)
    rw [decide_eq_false (by decide)] at l1
    rw [cm] at KM0 l1 ⊢
    have HL := Lib.hid l1
    clear l1 h0 hP hkb cm hk hx hy
    go_enter Try.func51, Try.ntmps51
    go_wp2_with fail
    refine KM0.out.mono ?_
    rintro e w' ⟨rfl, n, rfl⟩
    go_wp2_with fail
    refine (isHole_any _ _).mono ?_
    rw [HL.out]
    rintro e w' ⟨rfl, rfl⟩
    go_wp2_with fail
    go_ret
    exact ⟨rfl, _, rfl⟩

set_option maxHeartbeats 2000000 in
theorem halveMap_q (w : World) (wd hi N q c A B NA : Nat) (ks : List Int) (F : Nat → Int) (hv : vPic wd hi N = true) (hvA : vPic A B NA = true) (hA : A = (wd + 1) / 2) (hB : B = (hi + 1) / 2) (h : MQ w q c N ks) (hF : ∀ x y, x < A → y < B → ks.getD (2 * x + wd * (2 * y)) 0 = if F (x + A * y) < 0 then -4 else 2 * F (x + A * y)) (hFb : ∀ i, (F i).natAbs ≤ 400) :
    Calls Try.prog 11 #[.agg #[.int .i64 wd, .int .i64 hi, .slice (some ⟨q, 0, none⟩) N c]] w (MakesMQ w A B NA (tabI NA fun i => if F i < 0 then -4 else F i)) := by
  obtain ⟨e1, e2, e3, e4, e5, e6, e7⟩ := vPic_mul hv
  obtain ⟨W0, hW0⟩ : ∃ W0, W0 = (w.alloc (.cells #[.int .i64 wd, .int .i64 hi, .slice (some ⟨q, 0, none⟩) N c] 27)).alloc (.cells #[.int .i64 0, .int .i64 0, .slice none 0 0] 27) := ⟨_, rfl⟩
  have hb0 : Below w.heap.size w W0 := by rw [hW0]; exact below_two w _ _
  have BM : Box3 W0 w.heap.size (.int .i64 wd) (.int .i64 hi) (.slice (some ⟨q, 0, none⟩) N c) 27 := by rw [hW0]; exact box_first w _ _ _ _ _
  have BZ : Box3 W0 (w.heap.size + 1) (.int .i64 0) (.int .i64 0) (.slice none 0 0) 27 := by rw [hW0]; exact box_second w _ _ _ _ _
  have HP := Lib.hid ((h.below hb0).pic (Below.refl _ _) BM e1)
  have HW0 := Lib.hid hW0
  have HB := Lib.hid (And.intro hb0 (And.intro BM BZ))
  have HV := Lib.hid hv
  have hbd : ∀ i, (if F i < 0 then -4 else F i).natAbs ≤ 1000 := fun i => by have := hFb i; split <;> omega
  have KG := Lib.hid (fun w1 (hb1 : Below W0.heap.size W0 w1) => mapOf_q w1 A B NA _ (fun i => if F i < 0 then -4 else F i) hvA (fun i _ => hbd i) (gives_q (fid := 51) (caps := #[.pointer (some ⟨w.heap.size, 0, none⟩)]) (W0 := w1) (wd := A) (hi := B) (fun i => if F i < 0 then -4 else F i) (fun x y hx hy => by have := hbd (x + A * y); show (if F (x + A * y) < 0 then (-4 : Int) else F (x + A * y)).natAbs ≤ 16777216; omega) Try.call51 (by
    intro x y W hx hy hbW
    exact halve1_q W w.heap.size wd hi q c N x y ks (F (x + A * y)) (by omega) (by omega) e3 e5 (hF x y hx hy) (hFb _) ((HP.out.below hb1).below hbW))))
  have k1 := fun w => halfUp_any wd (by omega) w
  have k2 := fun w => halfUp_any hi (by omega) w
  rw [← hA] at k1
  rw [← hB] at k2
  have K1 := Lib.hid k1
  have K2 := Lib.hid k2
  clear k1 k2 hA hB e1 hW0 hb0 BM BZ h hv hvA hF hFb hbd
  go_enter Try.func11, Try.ntmps11
  go_wp2_with fail
  rw [← HW0.out]
  refine (validMap_any _ _ _ _ _ (by omega) _).mono ?_
  rw [HV.out]
  rintro e w1 ⟨rfl, hb1⟩
  have HB1 := Lib.hid (HB.out.1.trans (hb1.mono HB.out.1.size))
  have HZ := Lib.hid (HB.out.2.2.below hb1)
  obtain ⟨z0, z1, z2, -, -, -⟩ := (HB.out.2.1.below hb1).cells
  have KO := Lib.hid (KG.out (w1.drewN 1) (below_drewN hb1 1))
  have KO : Hid _ := KO
  have hs1 := HB1.out.size
  clear hb1
  go_wp2_with fail
  go_region_law (first
    | (go_simp; with_reducible refine (K1.out _).mono ?_; rintro e w1 ⟨rfl, rfl⟩)
    | (go_simp; with_reducible refine (K2.out _).mono ?_; rintro e w1 ⟨rfl, rfl⟩)
    | (go_simp; refine KO.out.mono ?_; rintro e w2 ⟨q2, c2, rfl, hm, hq, hb2⟩; have hb3 : Below w1.heap.size w1 w2 := below_undrew hb2; have hbb := HB1.out.trans (hb3.mono HB1.out.size); obtain ⟨d0, d1, d2, g0, g1, g2⟩ := (HZ.out.below hb3).cells; have hz2 := (HZ.out.below hb3).lt))
  all_goals
    go_wp2
    refine bodyPost_ret (v := .tuple #[.agg #[.int .i64 A, .int .i64 B, .slice (some ⟨q2, 0, none⟩) NA c2], .bool true]) (by simp [results, Try.results11, go_sem, d0, d1, d2, hz2]) rfl ?_
    have hzl := HZ.out.lt
    have hq3 : w1.heap.size ≤ q2 := hq
    exact ⟨q2, c2, rfl, ((hm.set (by omega) _).set (by omega) _).set (by omega) _, by omega, ((hbb.setCell (by first | omega | (simp; done) | (simp; omega)) _).setCell (by first | omega | (simp; done) | (simp; omega)) _).setCell (by first | omega | (simp; done) | (simp; omega)) _⟩

end Go.Proofs.Ytmpbnmmpniganaa
