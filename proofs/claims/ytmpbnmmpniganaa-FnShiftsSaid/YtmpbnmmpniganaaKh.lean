/- The function of winners near to a map. Words. -/
import Derived.Test.YtmpbnmmpniganaaKg
namespace Go.Proofs.Ytmpbnmmpniganaa
open Go.RowKit
set_option maxRecDepth 100000
set_option linter.unusedVariables false
set_option linter.unusedSimpArgs false

/-- Whole disparities, or holes. -/
def WholeM (dp : Nat) (ms : List Int) (N : Nat) : Prop := ∀ i, i < N → ms.getD i 0 = -4 ∨ ∃ D : Nat, D < dp ∧ ms.getD i 0 = 4 * (D : Int)
def nearL (bs : List Nat) (wd dp : Nat) (ms : List Int) (i : Nat) : Int := nearV (gc bs wd dp (i % wd) (i / wd)) dp (ms.getD i 0)
theorem nearL_or {bs : List Nat} {wd dp N i : Nat} {ms : List Int} (h : WholeM dp ms N) (hi_ : i < N) (hd : dp ≤ 8) : nearL bs wd dp ms i = -4 ∨ ∃ D : Nat, D < dp ∧ nearL bs wd dp ms i = 4 * (D : Int) := by
  unfold nearL nearV
  rcases h i hi_ with e | ⟨D, hD, e⟩
  · left; rw [e]; rfl
  · rw [e, if_neg (by omega), show (4 * (D : Int) / 4).toNat = D by omega]
    obtain ⟨b1, b2⟩ := nearF_bd (gc bs wd dp (i % wd) (i / wd)) hD
    generalize nearF (gc bs wd dp (i % wd) (i / wd)) dp D = z at *
    by_cases h0 : z < 0
    · left; omega
    · right; exact ⟨z.toNat, by omega, by omega⟩
theorem nearL_bd {bs : List Nat} {wd dp N i : Nat} {ms : List Int} (h : WholeM dp ms N) (hi_ : i < N) (hd : dp ≤ 8) : (nearL bs wd dp ms i).natAbs ≤ 1000 := by
  rcases nearL_or (bs := bs) (wd := wd) h hi_ hd with e | ⟨D, hD, e⟩ <;> rw [e] <;> omega

set_option maxHeartbeats 2000000 in
theorem near_w (w : World) (wd hi dp M N q c q2 c2 : Nat) (bs : List Nat) (ms : List Int) (hv : vVol wd hi dp M = true) (hN : N = wd * hi) (hp : MW w q c M bs) (hm : MQ w q2 c2 N ms) (hW : WholeM dp ms N) :
    Calls Try.prog 60 #[.agg #[.int .i64 wd, .int .i64 hi, .int .i64 dp, .slice (some ⟨q, 0, none⟩) M c], .agg #[.int .i64 wd, .int .i64 hi, .slice (some ⟨q2, 0, none⟩) N c2], .int .i64 1] w (MakesMQ w wd hi N (tabI N (nearL bs wd dp ms))) := by
  obtain ⟨hpic, hM, d1, d2, d3, d4, d5, d6, d7, d8⟩ := vVol_pic hv
  rw [← hN] at hpic
  obtain ⟨W0, hW0⟩ : ∃ W0, W0 = (((w.alloc (.cells #[.int .i64 wd, .int .i64 hi, .int .i64 dp, .slice (some ⟨q, 0, none⟩) M c] 44)).alloc (.cells #[.int .i64 wd, .int .i64 hi, .slice (some ⟨q2, 0, none⟩) N c2] 27)).alloc (.cells #[.int .i64 1] 2)).alloc (.cells #[.int .i64 0, .int .i64 0, .slice none 0 0] 27) := ⟨_, rfl⟩
  have hb0 : Below w.heap.size w W0 := by rw [hW0]; exact ((below_two w _ _).alloc (by simp; omega) _).alloc (by simp; omega) _
  have B0 : BoxN W0 w.heap.size #[.int .i64 wd, .int .i64 hi, .int .i64 dp, .slice (some ⟨q, 0, none⟩) M c] 44 := by rw [hW0]; exact ((BoxN.first w _ _ _).below (alb_k _ _)).below (alb_k _ _)
  have B1 : Box3 W0 (w.heap.size + 1) (.int .i64 wd) (.int .i64 hi) (.slice (some ⟨q2, 0, none⟩) N c2) 27 := by rw [hW0]; exact ((box_second w _ _ _ _ _).below (alb_k _ _)).below (alb_k _ _)
  have B2 : BoxN W0 (w.heap.size + 2) #[.int .i64 1] 2 := by rw [hW0]; have := (BoxN.last ((w.alloc (.cells #[.int .i64 wd, .int .i64 hi, .int .i64 dp, .slice (some ⟨q, 0, none⟩) M c] 44)).alloc (.cells #[.int .i64 wd, .int .i64 hi, .slice (some ⟨q2, 0, none⟩) N c2] 27)) #[.int .i64 1] 2).below (alb_k _ (.cells #[.int .i64 0, .int .i64 0, .slice none 0 0] 27)); simpa using this
  have B3 : Box3 W0 (w.heap.size + 3) (.int .i64 0) (.int .i64 0) (.slice none 0 0) 27 := by rw [hW0]; have := box_last (((w.alloc (.cells #[.int .i64 wd, .int .i64 hi, .int .i64 dp, .slice (some ⟨q, 0, none⟩) M c] 44)).alloc (.cells #[.int .i64 wd, .int .i64 hi, .slice (some ⟨q2, 0, none⟩) N c2] 27)).alloc (.cells #[.int .i64 1] 2)) (.int .i64 0) (.int .i64 0) (.slice none 0 0) 27; simpa using this
  have HP := Lib.hid (hp.vol hb0 hM B0)
  have HMP := Lib.hid (MQ.pic hm hb0 B1 hN)
  have HB0 := Lib.hid hb0
  have HB2 := Lib.hid B2
  have HB3 := Lib.hid B3
  have HN := Lib.hid hN
  have HVV := Lib.hid hv
  have HPP := Lib.hid hpic
  have HWM := Lib.hid hW
  have HW0 := Lib.hid hW0
  have hN2 : N ≤ 256 := by omega
  clear hb0 B0 B1 B2 B3 hp hm hM hN hv hpic hW hW0
  go_enter Try.func60, Try.ntmps60
  go_wp2_with fail
  rw [← HW0.out]
  refine (validVolume_any _ _ _ _ _ _ (by omega) _).mono ?_
  rw [HVV.out]
  rintro e w1 ⟨rfl, hb1⟩
  have hm1 := HMP.out.below hb1
  obtain ⟨zm0, zm1, zm2, -, -, -⟩ := hm1.box.cells
  have HB1 := Lib.hid hb1
  clear hm1 hb1
  go_wp2_with fail
  refine (validMap_any _ _ _ _ _ (by omega) _).mono ?_
  rw [HPP.out]
  rintro e w2 ⟨rfl, hb2⟩
  have hb12 := HB1.out.trans (hb2.mono HB1.out.size)
  have hbx := HB0.out.trans (hb12.mono HB0.out.size)
  have hv2 := HP.out.below hb12
  have hm2 := HMP.out.below hb12
  have hr2 : w2.cell? ⟨w.heap.size + 2, 0, none⟩ = some (.int .i64 1) := (HB2.out.below hb12).cell 0
  clear zm0 zm1 zm2
  obtain ⟨zv0, zv1, zv2, zv3, -, -, -, -⟩ := hv2.box.four
  obtain ⟨zm0, zm1, zm2, -, -, -⟩ := hm2.box.cells
  have zr1 : w2.cell? ⟨w.heap.size + 1 + 1, 0, none⟩ = some (.int .i64 1) := hr2
  have hbr := (HB2.out.below hb12).lt
  have hg := gives_q (fid := 100) (caps := #[.pointer (some ⟨w.heap.size + 1, 0, none⟩), .pointer (some ⟨w.heap.size + 1 + 1, 0, none⟩), .pointer (some ⟨w.heap.size, 0, none⟩)]) (W0 := w2) (wd := wd) (hi := hi) (nearL bs wd dp ms) (fun x y hx hy => by have := nearL_bd (bs := bs) (wd := wd) HWM.out (show x + wd * y < N by rw [HN.out]; exact xy_lt hx hy) d7; omega) Try.call100 (by
    intro x y W hx hy hbW
    have hxy : x + wd * y < N := by rw [HN.out]; exact xy_lt hx hy
    have r0 : W.cell? ⟨w.heap.size + 1 + 1, 0, none⟩ = some (.int .i64 1) := ((HB2.out.below hb12).below hbW).cell 0
    have e : nearL bs wd dp ms (x + wd * y) = nearV (gc bs wd dp x y) dp (ms.getD (x + wd * y) 0) := by unfold nearL; rw [xy_mod hx, xy_div hx]
    rw [e]
    rcases HWM.out _ hxy with hk | ⟨D, hD, hk⟩
    · have e2 : nearV (gc bs wd dp x y) dp (ms.getD (x + wd * y) 0) = -4 := by rw [hk]; rfl
      rw [e2]
      exact near1w_hole W _ _ _ wd hi x y _ ms hx hy d2 d4 (hm2.below hbW) hk r0 dp (.int .i64 0) (hv2.below hbW).box.four.2.2.1 d7 d6
    · have e2 : nearV (gc bs wd dp x y) dp (ms.getD (x + wd * y) 0) = 4 * nearF (gc bs wd dp x y) dp D := by rw [hk]; unfold nearV; rw [if_neg (by omega), show (4 * (D : Int) / 4).toNat = D by omega]
      rw [e2]
      exact near1w_val W _ _ _ wd hi dp q M c x y D _ _ _ ms bs hx hy d2 d4 (hm2.below hbW) hk r0 (hv2.below hbW) d7 d6 hD rfl rfl)
  have K := Lib.hid (remap_q w2 wd hi N (some ⟨q2, 0, none⟩) c2 _ (nearL bs wd dp ms) HPP.out (fun i hi_ => nearL_bd HWM.out hi_ d7) hg)
  have HB32 := Lib.hid (HB3.out.below hb12)
  have HBX2 := Lib.hid hbx
  clear hbx hv2 hm2 hb2 hb12 hg
  go_wp2_with fail
  refine (in_any _ _ _ _).mono ?_
  rintro e w' ⟨rfl, rfl⟩
  go_wp2_with fail
  refine K.out.mono ?_
  rintro e w3 ⟨q', cc, rfl, hmq, hq, hb3⟩
  obtain ⟨e0, e1, e2, g0, g1, g2⟩ := (HB32.out.below hb3).cells
  have hlt3 := (HB32.out.below hb3).lt
  have hbb := HBX2.out.trans (hb3.mono HBX2.out.size)
  have hqs := Nat.le_trans HBX2.out.size hq
  have hsz := HB32.out.lt
  have hq3 : w.heap.size + 3 < q' := by omega
  have HMQ := Lib.hid hmq
  clear hmq hq zv0 zv1 zv2 zv3 zm0 zm1 zm2 hr2 zr1
  go_wp2
  refine bodyPost_ret (v := .tuple #[.agg #[.int .i64 wd, .int .i64 hi, .slice (some ⟨q', 0, none⟩) N cc], .bool true]) (by simp [results, Try.results60, go_sem, e0, e1, e2, hlt3]) rfl ?_
  exact ⟨q', cc, rfl, ((HMQ.out.set (by omega) _).set (by omega) _).set (by omega) _, hqs, ((hbb.setCell (by first | omega | (simp; done) | (simp; omega)) _).setCell (by first | omega | (simp; done) | (simp; omega)) _).setCell (by first | omega | (simp; done) | (simp; omega)) _⟩

end Go.Proofs.Ytmpbnmmpniganaa
