/- Flat maps, costs and values at a place. -/
import Derived.Test.YtmpbnmmpniganaaKi
namespace Go.Proofs.Ytmpbnmmpniganaa
open Go.RowKit
set_option maxRecDepth 100000
set_option linter.unusedVariables false
set_option linter.unusedSimpArgs false

theorem flat1_gives {W0 : World} {qb v : Nat} (hv : v < 4294967296) (hq : BoxN W0 qb #[.float .f32 v] 33) (wd hi : Nat) :
    Gives2 W0 (.func (.func 67) #[] #[.pointer (some ⟨qb, 0, none⟩)]) wd hi (fun _ _ => fl v) := by
  refine ⟨67, _, rfl, Try.call67, fun x y W hx hy hbW => ?_⟩
  have hq' : W.cell? ⟨qb, 0, none⟩ = some (.float .f32 v) := (hq.below hbW).cell 0
  clear hq
  show Calls _ _ #[.int .i64 x, .int .i64 y, .pointer (some ⟨qb, 0, none⟩)] _ _
  go_enter Try.func67, Try.ntmps67
  go_wp2
  go_ret
  exact ⟨v, rfl, hv, rfl, Below.refl _ _⟩

set_option maxHeartbeats 1000000 in
theorem flatMap_q (w : World) (wd hi N : Nat) (k : Int) (hk : k.natAbs ≤ 1000) (hv : vPic wd hi N = true) :
    Calls Try.prog 21 #[.int .i64 wd, .int .i64 hi, .float .f32 (fq 2 k)] w (MakesMQ w wd hi N (tabI N fun _ => k)) := by
  obtain ⟨hN, d1, d2, d3, d4, d5, d6⟩ := vPic_mul hv
  have hlt := fq_lt (g := 2) (k := k) (by omega)
  have hfl := fl_fq (g := 2) (k := k) (by omega)
  have hs : szOk wd hi = true := by
    have h := hv
    unfold vPic at h
    rw [Bool.and_eq_true] at h
    exact h.1
  have hb0 := below_two w (.cells #[.float .f32 (fq 2 k)] 33) (.cells #[.int .i64 0, .int .i64 0, .slice none 0 0] 27)
  have B0 := BoxN.first w #[.float .f32 (fq 2 k)] 33 (.cells #[.int .i64 0, .int .i64 0, .slice none 0 0] 27)
  have B1 := BoxN.second w #[.int .i64 0, .int .i64 0, .slice none 0 0] 27 (.cells #[.float .f32 (fq 2 k)] 33)
  have K := Lib.hid (mapOf_any _ wd hi _ _ d2 d4 (flat1_gives hlt B0 wd hi))
  have HB0 := Lib.hid hb0
  have HB1 := Lib.hid B1
  have HN := Lib.hid hN
  have HFL := Lib.hid hfl
  clear hb0 B0 B1 hv hN hfl
  go_enter Try.func21, Try.ntmps21
  go_wp2_with fail
  refine (sizeOk_any _ _ _).mono ?_
  rw [hs]
  rintro e w1 ⟨rfl, rfl⟩
  clear hs
  go_wp2_with fail
  refine K.out.mono ?_
  rintro e w2 ⟨a, cc, bs', rfl, hown, hcon, hb2⟩
  have hbs := bs_of_tab (wd := wd) (hi := hi) (F := fun _ => k) (fun i hi => by omega) (by rw [hcon]; unfold tab; simp only [HFL.out])
  have hl : bs'.length = N := by rw [hbs, List.length_map, tabI_length, HN.out]
  rw [hl] at hown ⊢
  obtain ⟨q', rfl⟩ := own_ptr hown (by omega)
  obtain ⟨e0, e1, e2, g0, g1, g2⟩ := (HB1.out.below hb2).three.cells
  have hlt4 := (HB1.out.below hb2).lt
  have hbb := HB0.out.trans (hb2.mono HB0.out.size)
  have hq := (hown.lt (k := q') rfl).1
  have hqs : w.heap.size ≤ q' := Nat.le_trans HB0.out.size hq
  have hq3 : w.heap.size + 1 < q' := by simp at hq; omega
  have HBS := Lib.hid hbs
  clear hcon hbs hl hq
  go_wp2
  refine bodyPost_ret (v := .tuple #[.agg #[.int .i64 wd, .int .i64 hi, .slice (some ⟨q', 0, none⟩) N cc], .bool true]) (by simp [results, Try.results21, go_sem, e0, e1, e2, hlt4]) rfl ?_
  have ho := (((hown.set (by first | omega | (simp; done) | (simp; omega)) (.int .i64 wd) (a := ⟨w.heap.size + 1, 0, none⟩)).set (by first | omega | (simp; done) | (simp; omega)) (.int .i64 hi) (a := ⟨w.heap.size + 1, 1, none⟩)).set (by first | omega | (simp; done) | (simp; omega)) (.slice (some ⟨q', 0, none⟩) N cc) (a := ⟨w.heap.size + 1, 2, none⟩))
  refine ⟨q', cc, rfl, ⟨?_, (ho.lt (k := q') rfl).2, ?_⟩, hqs, ((hbb.setCell (by simp; try omega) _).setCell (by simp; try omega) _).setCell (by simp; try omega) _⟩
  · have := ho.sl
    rw [HBS.out, ← HN.out] at this
    exact this
  · intro z hz
    obtain ⟨i, hi_, rfl⟩ := mem_tabI hz
    exact hk


def inV (x y : Int) (wd hi : Nat) : Bool := decide (0 ≤ x) && decide (x ≤ (wd : Int) - 1) && (decide (0 ≤ y) && decide (y ≤ (hi : Int) - 1))
theorem volHas_any (W : World) (pb wd hi dp b off n c : Nat) (bs : List Nat) (x y : Int) (hw2 : wd ≤ 1000) (hh2 : hi ≤ 1000) (h : VolAt W pb wd hi dp b off n c bs) :
    Calls Try.prog 72 #[.pointer (some ⟨pb, 0, none⟩), .int .i64 x, .int .i64 y] W fun e w' => e = .returned (.bool (inV x y wd hi)) ∧ W = w' := by
  obtain ⟨c0, c1, c2, c3, -, -, -, -⟩ := h.box.four
  have b1 : (wd : Int) ≤ 1000 := by omega
  have b2 : (hi : Int) ≤ 1000 := by omega
  cases hx : (decide (0 ≤ x) && decide (x ≤ (wd : Int) - 1))
  · have e : inV x y wd hi = false := by unfold inV; rw [hx]; rfl
    rw [e]; clear e h
    go_enter Try.func72, Try.ntmps72
    go_wp2_with (go_at_call 58; refine (in_any _ _ _ _).mono ?_; rintro e w' ⟨rfl, rfl⟩)
    go_ret
    simp
  · have e : inV x y wd hi = (decide (0 ≤ y) && decide (y ≤ (hi : Int) - 1)) := by unfold inV; rw [hx, Bool.true_and]
    rw [e]; clear e h
    go_enter Try.func72, Try.ntmps72
    go_wp2_with (go_at_call 58; refine (in_any _ _ _ _).mono ?_; rintro e w' ⟨rfl, rfl⟩)
    go_ret
    simp

theorem costAt_w (w : World) (wd hi dp M q c x y d : Nat) (bs : List Nat) (hx : x < wd) (hy : y < hi) (hd : d < dp) (hv : vVol wd hi dp M = true) (hp : MW w q c M bs) :
    Calls Try.prog 24 #[.agg #[.int .i64 wd, .int .i64 hi, .int .i64 dp, .slice (some ⟨q, 0, none⟩) M c], .int .i64 x, .int .i64 y, .int .i64 d] w fun e w' => e = .returned (.tuple #[.float .f32 (gc bs wd dp x y d), .bool true]) ∧ Below w.heap.size w w' := by
  obtain ⟨hpic, hM, d1, d2, d3, d4, d5, d6, d7, d8⟩ := vVol_pic hv
  have hb0 := alb1 w (.cells #[.int .i64 wd, .int .i64 hi, .int .i64 dp, .slice (some ⟨q, 0, none⟩) M c] 44)
  have B0 := BoxN.last w #[.int .i64 wd, .int .i64 hi, .int .i64 dp, .slice (some ⟨q, 0, none⟩) M c] 44
  have HP := Lib.hid (hp.vol hb0 hM B0)
  have HB0 := Lib.hid hb0
  have hin : (decide ((0 : Int) ≤ d) && decide ((d : Int) ≤ dp - 1)) = true := by simp; omega
  have hin2 : inV x y wd hi = true := by unfold inV; simp; omega
  have hM2 : M ≤ 2048 := by omega
  clear hb0 B0 hp hM hpic
  go_enter Try.func24, Try.ntmps24
  go_wp2_with fail
  refine (validVolume_any _ _ _ _ _ _ (by omega) _).mono ?_
  rw [hv]
  rintro e w1 ⟨rfl, hb1⟩
  have hp1 := HP.out.below hb1
  obtain ⟨c0, c1, c2, c3, -, -, -, -⟩ := hp1.box.four
  have hbx := HB0.out.trans (hb1.mono HB0.out.size)
  have K1 := Lib.hid (volHas_any w1 w.heap.size wd hi dp q 0 M c bs x y (by omega) (by omega) hp1)
  have K2 := Lib.hid (cell_any w1 w.heap.size wd hi dp q 0 M c bs x y x y rfl rfl hx hy d2 d4 d6 d7 hp1)
  have hc := (hp1.cost hx hy hd).1
  rw [Nat.zero_add] at hc
  generalize hgc : gc bs wd dp x y d = z at *
  have HZ := Lib.hid hgc
  generalize ic wd dp x y = k at *
  have b1 : (d : Int) < (dp : Int) := by omega
  have hbm := fun m => below_drewN hbx m
  have HBM := Lib.hid hbm
  clear hgc hp1 hb1 hbx hbm
  go_wp2_with fail
  refine K1.out.mono ?_
  rw [hin2]
  rintro e w' ⟨rfl, rfl⟩
  go_wp2_with fail
  refine (in_any _ _ _ _).mono ?_
  rw [hin]
  rintro e w' ⟨rfl, rfl⟩
  clear hin hin2
  go_wp2_with fail
  refine K2.out.mono ?_
  rintro e w' ⟨rfl, m, rfl⟩
  go_wp2
  go_ret2
  exact ⟨by rw [HZ.out]; rfl, HBM.out m⟩

theorem valueAt_q (w : World) (wd hi N q c x y : Nat) (ks : List Int) (hx : x < wd) (hy : y < hi) (hv : vPic wd hi N = true) (hp : MQ w q c N ks) :
    Calls Try.prog 25 #[.agg #[.int .i64 wd, .int .i64 hi, .slice (some ⟨q, 0, none⟩) N c], .int .i64 x, .int .i64 y] w fun e w' => e = .returned (.tuple #[.float .f32 (fq 2 (ks.getD (x + wd * y) 0)), .bool true]) ∧ Below w.heap.size w w' := by
  obtain ⟨e1, e2, e3, e4, e5, e6, e7⟩ := vPic_mul hv
  have hb0 := alb1 w (.cells #[.int .i64 wd, .int .i64 hi, .slice (some ⟨q, 0, none⟩) N c] 27)
  have B0 := box_last w (.int .i64 wd) (.int .i64 hi) (.slice (some ⟨q, 0, none⟩) N c) 27
  have HP := Lib.hid (hp.pic hb0 B0 e1)
  have HB0 := Lib.hid hb0
  have hin2 : inB x y wd hi = true := by unfold inB; simp; omega
  have hN1 : N ≤ 9223372036854775807 := by omega
  have HV := Lib.hid hv
  clear hb0 B0 hp e1 hv
  go_enter Try.func25, Try.ntmps25
  go_wp2_with fail
  refine (validMap_any _ _ _ _ _ hN1 _).mono ?_
  rw [HV.out]
  rintro e w1 ⟨rfl, hb1⟩
  have hp1 := HP.out.below hb1
  obtain ⟨c0, c1, c2, -, -, -⟩ := hp1.box.cells
  have hbx := HB0.out.trans (hb1.mono HB0.out.size)
  have K1 := Lib.hid (mapHas_any w1 w.heap.size wd hi _ x y (by omega) (by omega) hp1.box)
  have K2 := Lib.hid (mat_q w1 w.heap.size wd hi _ ks x y x y rfl rfl hx hy (by omega) (by omega) hp1)
  have HBM := Lib.hid (fun m => below_drewN hbx m)
  clear hp1 hb1 hbx
  go_wp2_with fail
  refine K1.out.mono ?_
  rw [hin2]
  rintro e w' ⟨rfl, rfl⟩
  go_wp2_with fail
  refine K2.out.mono ?_
  rintro e w' ⟨rfl, m, rfl⟩
  go_wp2
  go_ret2
  exact ⟨rfl, HBM.out m⟩

end Go.Proofs.Ytmpbnmmpniganaa
