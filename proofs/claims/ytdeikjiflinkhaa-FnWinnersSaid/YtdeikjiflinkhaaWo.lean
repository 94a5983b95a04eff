/- Maps of sharp disparities and of trust; flat maps; costs of maps. -/
import Derived.Test.YtdeikjiflinkhaaWn
import Derived.Test.YtdeikjiflinkhaaWl
import Derived.Test.YtdeikjiflinkhaaMs
namespace Go.Proofs.Ytdeikjiflinkhaa
open Go.RowKit
set_option maxRecDepth 100000
set_option linter.unusedVariables false
set_option linter.unusedSimpArgs false

theorem sharp1_gives (w : World) (dp : Nat) (hd : dp ≤ 8) : GivesL w (.func (.func 56) #[] #[]) dp (sharpW dp) :=
  ⟨56, _, rfl, Try.call56, fun W b off f hW hR => sharp_any W b off dp dp f (by omega) hR⟩
theorem trust1_gives (w : World) (dp : Nat) (hd : dp ≤ 8) : GivesL w (.func (.func 52) #[] #[]) dp (trustW dp) :=
  ⟨52, _, rfl, Try.call52, fun W b off f hW hR => trust1_any W b off dp f (by omega) hR⟩

set_option maxHeartbeats 1000000 in
theorem sharp_w (w : World) (wd hi dp M q c : Nat) (bs : List Nat) (hv : vVol wd hi dp M = true) (hp : MW w q c M bs) :
    Calls Try.prog 21 #[.agg #[.int .i64 wd, .int .i64 hi, .int .i64 dp, .slice (some ⟨q, 0, none⟩) M c]] w (MakesMW w wd hi (wd * hi) (fun x y => sharpW dp (gc bs wd dp x y))) := by
  obtain ⟨hpic, hM, d1, d2, d3, d4, d5, d6, d7, d8⟩ := vVol_pic hv
  have hb0 := below_two w (.cells #[.int .i64 wd, .int .i64 hi, .int .i64 dp, .slice (some ⟨q, 0, none⟩) M c] 26) (.cells #[.int .i64 0, .int .i64 0, .slice none 0 0] 40)
  have B3 := (BoxN.second w #[.int .i64 0, .int .i64 0, .slice none 0 0] 40 (.cells #[.int .i64 wd, .int .i64 hi, .int .i64 dp, .slice (some ⟨q, 0, none⟩) M c] 26))
  have K := Lib.hid (cellMap_w _ wd hi dp M q c bs _ _ hv (hp.below hb0) (sharp1_gives _ dp d7))
  have HB0 := Lib.hid hb0
  have HB3 := Lib.hid B3
  clear hM hp hb0 B3 hv hpic
  go_enter Try.func21, Try.ntmps21
  go_wp2_with fail
  refine K.out.mono ?_
  rintro e w2 ⟨q', cc, bs', rfl, hm, hcon, hq, hb2⟩
  obtain ⟨e0, e1, e2, g0, g1, g2⟩ := (HB3.out.below hb2).three.cells
  have hlt3 := (HB3.out.below hb2).lt
  have hbb := HB0.out.trans (hb2.mono HB0.out.size)
  have hqs := Nat.le_trans HB0.out.size hq
  have hq3 : w.heap.size + 1 < q' := by simp at hq; omega
  have HCON := Lib.hid hcon
  have HMM := Lib.hid hm
  clear hcon hm hq
  go_wp2
  refine bodyPost_ret (v := .tuple #[.agg #[.int .i64 wd, .int .i64 hi, .slice (some ⟨q', 0, none⟩) (wd * hi) cc], .bool true]) (by simp [results, Try.results21, go_sem, e0, e1, e2, hlt3]) rfl ?_
  exact ⟨q', cc, bs', rfl, ((HMM.out.set (by omega) _).set (by omega) _).set (by omega) _, HCON.out, hqs, ((hbb.setCell (by simp) _).setCell (by simp) _).setCell (by simp) _⟩

set_option maxHeartbeats 1000000 in
theorem trust_w (w : World) (wd hi dp M q c : Nat) (bs : List Nat) (hv : vVol wd hi dp M = true) (hp : MW w q c M bs) :
    Calls Try.prog 20 #[.agg #[.int .i64 wd, .int .i64 hi, .int .i64 dp, .slice (some ⟨q, 0, none⟩) M c]] w (MakesMW w wd hi (wd * hi) (fun x y => trustW dp (gc bs wd dp x y))) := by
  obtain ⟨hpic, hM, d1, d2, d3, d4, d5, d6, d7, d8⟩ := vVol_pic hv
  have hb0 := below_two w (.cells #[.int .i64 wd, .int .i64 hi, .int .i64 dp, .slice (some ⟨q, 0, none⟩) M c] 26) (.cells #[.int .i64 0, .int .i64 0, .slice none 0 0] 40)
  have B3 := (BoxN.second w #[.int .i64 0, .int .i64 0, .slice none 0 0] 40 (.cells #[.int .i64 wd, .int .i64 hi, .int .i64 dp, .slice (some ⟨q, 0, none⟩) M c] 26))
  have K := Lib.hid (cellMap_w _ wd hi dp M q c bs _ _ hv (hp.below hb0) (trust1_gives _ dp d7))
  have HB0 := Lib.hid hb0
  have HB3 := Lib.hid B3
  clear hM hp hb0 B3 hv hpic
  go_enter Try.func20, Try.ntmps20
  go_wp2_with fail
  refine K.out.mono ?_
  rintro e w2 ⟨q', cc, bs', rfl, hm, hcon, hq, hb2⟩
  obtain ⟨e0, e1, e2, g0, g1, g2⟩ := (HB3.out.below hb2).three.cells
  have hlt3 := (HB3.out.below hb2).lt
  have hbb := HB0.out.trans (hb2.mono HB0.out.size)
  have hqs := Nat.le_trans HB0.out.size hq
  have hq3 : w.heap.size + 1 < q' := by simp at hq; omega
  have HCON := Lib.hid hcon
  have HMM := Lib.hid hm
  clear hcon hm hq
  go_wp2
  refine bodyPost_ret (v := .tuple #[.agg #[.int .i64 wd, .int .i64 hi, .slice (some ⟨q', 0, none⟩) (wd * hi) cc], .bool true]) (by simp [results, Try.results20, go_sem, e0, e1, e2, hlt3]) rfl ?_
  exact ⟨q', cc, bs', rfl, ((HMM.out.set (by omega) _).set (by omega) _).set (by omega) _, HCON.out, hqs, ((hbb.setCell (by simp) _).setCell (by simp) _).setCell (by simp) _⟩

theorem flat1_gives {W0 : World} {qb v : Nat} (hv : v < 4294967296) (hq : BoxN W0 qb #[.float .f32 v] 28) (wd hi : Nat) :
    Gives2 W0 (.func (.func 58) #[] #[.pointer (some ⟨qb, 0, none⟩)]) wd hi (fun _ _ => fl v) := by
  refine ⟨58, _, rfl, Try.call58, fun x y W hx hy hbW => ?_⟩
  have hq' : W.cell? ⟨qb, 0, none⟩ = some (.float .f32 v) := (hq.below hbW).cell 0
  clear hq
  show Calls _ _ #[.int .i64 x, .int .i64 y, .pointer (some ⟨qb, 0, none⟩)] _ _
  go_enter Try.func58, Try.ntmps58
  go_wp2
  go_ret
  exact ⟨v, rfl, hv, rfl, Below.refl _ _⟩

set_option maxHeartbeats 1000000 in
theorem flatMap_q (w : World) (wd hi N : Nat) (k : Int) (hk : k.natAbs ≤ 1000) (hv : vPic wd hi N = true) :
    Calls Try.prog 24 #[.int .i64 wd, .int .i64 hi, .float .f32 (fq 2 k)] w (MakesMQ w wd hi N (tabI N fun _ => k)) := by
  obtain ⟨hN, d1, d2, d3, d4, d5, d6⟩ := vPic_mul hv
  have hlt := fq_lt (g := 2) (k := k) (by omega)
  have hfl := fl_fq (g := 2) (k := k) (by omega)
  have hs : szOk wd hi = true := by
    have h := hv
    unfold vPic at h
    rw [Bool.and_eq_true] at h
    exact h.1
  have hb0 := below_two w (.cells #[.float .f32 (fq 2 k)] 28) (.cells #[.int .i64 0, .int .i64 0, .slice none 0 0] 40)
  have B0 := BoxN.first w #[.float .f32 (fq 2 k)] 28 (.cells #[.int .i64 0, .int .i64 0, .slice none 0 0] 40)
  have B1 := BoxN.second w #[.int .i64 0, .int .i64 0, .slice none 0 0] 40 (.cells #[.float .f32 (fq 2 k)] 28)
  have K := Lib.hid (mapOf_any _ wd hi _ _ d2 d4 (flat1_gives hlt B0 wd hi))
  have HB0 := Lib.hid hb0
  have HB1 := Lib.hid B1
  have HN := Lib.hid hN
  have HFL := Lib.hid hfl
  clear hb0 B0 B1 hv hN hfl
  go_enter Try.func24, Try.ntmps24
  go_wp2_with fail
  refine (sizeOk_any _ _ _).mono ?_
  rw [hs]
  rintro e w1 ⟨rfl, rfl⟩
  clear hs
  go_wp2_with fail
  refine K.out.mono ?_
  rintro e w2 ⟨a, cc, bs', rfl, hown, hcon, hb2⟩
  have hbs := bs_of_tab (wd := wd) (hi := hi) (F := fun _ => k) (fun i hi => by omega) (by rw [hcon]; unfold tab; simp only [HFL.out])
  have hl : bs'.length = N := by rw [hbs, List.length_map, tabI_length, HN.out]
  rw [hl] at hown ⊢
  obtain ⟨q', rfl⟩ := own_ptr hown (by omega)
  obtain ⟨e0, e1, e2, g0, g1, g2⟩ := (HB1.out.below hb2).three.cells
  have hlt4 := (HB1.out.below hb2).lt
  have hbb := HB0.out.trans (hb2.mono HB0.out.size)
  have hq := (hown.lt (k := q') rfl).1
  have hqs : w.heap.size ≤ q' := Nat.le_trans HB0.out.size hq
  have hq3 : w.heap.size + 1 < q' := by simp at hq; omega
  have HBS := Lib.hid hbs
  clear hcon hbs hl hq
  go_wp2
  refine bodyPost_ret (v := .tuple #[.agg #[.int .i64 wd, .int .i64 hi, .slice (some ⟨q', 0, none⟩) N cc], .bool true]) (by simp [results, Try.results24, go_sem, e0, e1, e2, hlt4]) rfl ?_
  have ho := (((hown.set (by first | omega | (simp; done) | (simp; omega)) (.int .i64 wd) (a := ⟨w.heap.size + 1, 0, none⟩)).set (by first | omega | (simp; done) | (simp; omega)) (.int .i64 hi) (a := ⟨w.heap.size + 1, 1, none⟩)).set (by first | omega | (simp; done) | (simp; omega)) (.slice (some ⟨q', 0, none⟩) N cc) (a := ⟨w.heap.size + 1, 2, none⟩))
  refine ⟨q', cc, rfl, ⟨?_, (ho.lt (k := q') rfl).2, ?_⟩, hqs, ((hbb.setCell (by simp; try omega) _).setCell (by simp; try omega) _).setCell (by simp; try omega) _⟩
  · have := ho.sl
    rw [HBS.out, ← HN.out] at this
    exact this
  · intro z hz
    obtain ⟨i, hi_, rfl⟩ := mem_tabI hz
    exact hk

end Go.Proofs.Ytdeikjiflinkhaa
