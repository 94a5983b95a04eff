/- Shallow volumes, costs at a place, slices. Words. -/
import Derived.Test.YtdeikjiflinkhaaWe
namespace Go.Proofs.Ytdeikjiflinkhaa
open Go.RowKit
set_option maxRecDepth 100000
set_option linter.unusedVariables false
set_option linter.unusedSimpArgs false

theorem shal_gives {W0 : World} {pb wd hi dp b off n c D : Nat} {bs : List Nat} (h : VolAt W0 pb wd hi dp b off n c bs) (hD : D ≤ dp) (hw : wd ≤ 24) (hh : hi ≤ 24) (hd1 : 1 ≤ dp) (hd2 : dp ≤ 8) :
    Gives3 W0 (.func (.func 40) #[] #[.pointer (some ⟨pb, 0, none⟩)]) wd hi D (fun x y d => fl (gc bs wd dp x y d)) := by
  refine ⟨40, _, rfl, Try.call40, fun x y d W hx hy hd hbW => ?_⟩
  have hp := h.below hbW
  have hc := hp.cost hx hy (show d < dp by omega)
  have hcl := hc.2
  have hc := hc.1
  have K := Lib.hid (cell_any W pb wd hi dp b off n c bs x y x y rfl rfl hx hy hw hh hd1 hd2 hp)
  generalize hgc : gc bs wd dp x y d = z at *
  have HZ := Lib.hid hgc
  generalize ic wd dp x y = k at *
  have b1 : (d : Int) < (dp : Int) := by omega
  clear hgc h hp
  show Calls _ _ #[.int .i64 x, .int .i64 y, .int .i64 d, .pointer (some ⟨pb, 0, none⟩)] _ _
  go_enter Try.func40, Try.ntmps40
  go_wp2_with fail
  refine K.out.mono ?_
  rintro e w' ⟨rfl, m, rfl⟩
  go_wp2
  go_ret
  exact ⟨_, rfl, hcl, by show _ = fl (gc bs wd dp x y d); rw [HZ.out], below_drewN (Below.refl _ _) _⟩

/-- The result of volumeOf is a volume. -/
theorem MakesVol.mw {w w' : World} {wd hi dp M : Nat} {g : Nat → Nat → Nat → Nat} {e : Ending} (hM : M = wd * hi * dp) (h0 : 0 < M) (h : MakesVol w wd hi dp g e w') :
    ∃ q c bs, e = .returned (.agg #[.int .i64 wd, .int .i64 hi, .int .i64 dp, .slice (some ⟨q, 0, none⟩) M c]) ∧ MW w' q c M bs ∧ bs.map fl = tab3 wd hi dp g ∧ w.heap.size ≤ q ∧ Below w.heap.size w w' := by
  obtain ⟨a, c, bs, rfl, ho, hc, hb⟩ := h
  have hl := tab3_len2 hM hc
  rw [hl] at ho
  obtain ⟨q, rfl⟩ := own_ptr ho (by omega)
  exact ⟨q, c, bs, by rw [hl], ⟨ho.sl, (ho.lt (k := q) rfl).2, hl⟩, hc, (ho.lt (k := q) rfl).1, hb⟩

set_option maxHeartbeats 1000000 in
theorem shallow_w (w : World) (wd hi dp M q c D : Nat) (bs : List Nat) (hD1 : 1 ≤ D) (hD : D ≤ dp) (hv : vVol wd hi dp M = true) (hp : MW w q c M bs) :
    Calls Try.prog 12 #[.agg #[.int .i64 wd, .int .i64 hi, .int .i64 dp, .slice (some ⟨q, 0, none⟩) M c], .int .i64 D] w (MakesVW w wd hi D (wd * hi * D) (fun x y d => fl (gc bs wd dp x y d))) := by
  obtain ⟨hpic, hM, d1, d2, d3, d4, d5, d6, d7, d8⟩ := vVol_pic hv
  have hMD : 0 < wd * hi * D := Nat.mul_pos (Nat.mul_pos d1 d3) hD1
  have hb0 := below_two w (.cells #[.int .i64 wd, .int .i64 hi, .int .i64 dp, .slice (some ⟨q, 0, none⟩) M c] 26) (.cells #[.int .i64 0, .int .i64 0, .int .i64 0, .slice none 0 0] 26)
  have B0 := BoxN.first w #[.int .i64 wd, .int .i64 hi, .int .i64 dp, .slice (some ⟨q, 0, none⟩) M c] 26 (.cells #[.int .i64 0, .int .i64 0, .int .i64 0, .slice none 0 0] 26)
  have B1 := BoxN.second w #[.int .i64 0, .int .i64 0, .int .i64 0, .slice none 0 0] 26 (.cells #[.int .i64 wd, .int .i64 hi, .int .i64 dp, .slice (some ⟨q, 0, none⟩) M c] 26)
  have HP := Lib.hid (hp.vol hb0 hM B0)
  have HB0 := Lib.hid hb0
  have HB1 := Lib.hid B1
  have HC0 := Lib.hid B0
  have HHM := Lib.hid hM
  have HMD := Lib.hid hMD
  have hM2 : M ≤ 2048 := by omega
  have hin : (decide ((1 : Int) ≤ D) && decide ((D : Int) ≤ dp)) = true := by simp; omega
  clear hb0 B0 B1 hp hM hpic hMD
  go_enter Try.func12, Try.ntmps12
  go_wp2_with fail
  refine (validVolume_any _ _ _ _ _ _ (by omega) _).mono ?_
  rw [hv]
  rintro e w1 ⟨rfl, hb1⟩
  have C0 := HC0.out.below hb1
  obtain ⟨c0, c1, c2, c3, -, -, -, -⟩ := C0.four
  have hbx := HB0.out.trans (hb1.mono HB0.out.size)
  have HG := Lib.hid (shal_gives (HP.out.below hb1) hD d2 d4 d6 d7)
  have HC1 := Lib.hid (HB1.out.below hb1)
  clear hb1 C0
  go_wp2_with fail
  refine (in_any _ _ _ _).mono ?_
  rw [hin]
  rintro e w' ⟨rfl, rfl⟩
  have K := Lib.hid (volumeOf_any w1 wd hi D _ _ d2 d4 (by omega) HG.out)
  clear hin
  go_wp2_with fail
  refine K.out.mono ?_
  intro e w2 hmk
  obtain ⟨q', cc, bs', rfl, hm, hcon, hq, hb2⟩ := hmk.mw rfl HMD.out
  obtain ⟨e0, e1, e2, e3, g0, g1, g2, g3⟩ := (HC1.out.below hb2).four
  have hlt3 := (HC1.out.below hb2).lt
  have hbb := hbx.trans (hb2.mono hbx.size)
  have hqs := Nat.le_trans hbx.size hq
  have hsz := HC1.out.lt
  have hq3 : w.heap.size + 1 < q' := by omega
  have HCON := Lib.hid hcon
  have HMM := Lib.hid hm
  clear hcon hm hq hmk
  go_wp2
  refine bodyPost_ret (v := .tuple #[.agg #[.int .i64 wd, .int .i64 hi, .int .i64 D, .slice (some ⟨q', 0, none⟩) (wd * hi * D) cc], .bool true]) (by simp [results, Try.results12, go_sem, e0, e1, e2, e3, hlt3]) rfl ?_
  exact ⟨q', cc, bs', rfl, (((HMM.out.set (by omega) _).set (by omega) _).set (by omega) _).set (by omega) _, HCON.out, hqs, (((hbb.setCell (by simp) _).setCell (by simp) _).setCell (by simp) _).setCell (by simp) _⟩

def inV (x y : Int) (wd hi : Nat) : Bool := decide (0 ≤ x) && decide (x ≤ (wd : Int) - 1) && (decide (0 ≤ y) && decide (y ≤ (hi : Int) - 1))
theorem volHas_any (W : World) (pb wd hi dp b off n c : Nat) (bs : List Nat) (x y : Int) (hw2 : wd ≤ 1000) (hh2 : hi ≤ 1000) (h : VolAt W pb wd hi dp b off n c bs) :
    Calls Try.prog 43 #[.pointer (some ⟨pb, 0, none⟩), .int .i64 x, .int .i64 y] W fun e w' => e = .returned (.bool (inV x y wd hi)) ∧ W = w' := by
  obtain ⟨c0, c1, c2, c3, -, -, -, -⟩ := h.box.four
  have b1 : (wd : Int) ≤ 1000 := by omega
  have b2 : (hi : Int) ≤ 1000 := by omega
  cases hx : (decide (0 ≤ x) && decide (x ≤ (wd : Int) - 1))
  · have e : inV x y wd hi = false := by unfold inV; rw [hx]; rfl
    rw [e]; clear e h
    go_enter Try.func43, Try.ntmps43
    go_wp2_with (go_at_call 34; refine (in_any _ _ _ _).mono ?_; rintro e w' ⟨rfl, rfl⟩)
    go_ret
    simp
  · have e : inV x y wd hi = (decide (0 ≤ y) && decide (y ≤ (hi : Int) - 1)) := by unfold inV; rw [hx, Bool.true_and]
    rw [e]; clear e h
    go_enter Try.func43, Try.ntmps43
    go_wp2_with (go_at_call 34; refine (in_any _ _ _ _).mono ?_; rintro e w' ⟨rfl, rfl⟩)
    go_ret
    simp

theorem costAt_w (w : World) (wd hi dp M q c x y d : Nat) (bs : List Nat) (hx : x < wd) (hy : y < hi) (hd : d < dp) (hv : vVol wd hi dp M = true) (hp : MW w q c M bs) :
    Calls Try.prog 15 #[.agg #[.int .i64 wd, .int .i64 hi, .int .i64 dp, .slice (some ⟨q, 0, none⟩) M c], .int .i64 x, .int .i64 y, .int .i64 d] w fun e w' => e = .returned (.tuple #[.float .f32 (gc bs wd dp x y d), .bool true]) ∧ Below w.heap.size w w' := by
  obtain ⟨hpic, hM, d1, d2, d3, d4, d5, d6, d7, d8⟩ := vVol_pic hv
  have hb0 := alb1 w (.cells #[.int .i64 wd, .int .i64 hi, .int .i64 dp, .slice (some ⟨q, 0, none⟩) M c] 26)
  have B0 := BoxN.last w #[.int .i64 wd, .int .i64 hi, .int .i64 dp, .slice (some ⟨q, 0, none⟩) M c] 26
  have HP := Lib.hid (hp.vol hb0 hM B0)
  have HB0 := Lib.hid hb0
  have hin : (decide ((0 : Int) ≤ d) && decide ((d : Int) ≤ dp - 1)) = true := by simp; omega
  have hin2 : inV x y wd hi = true := by unfold inV; simp; omega
  have hM2 : M ≤ 2048 := by omega
  clear hb0 B0 hp hM hpic
  go_enter Try.func15, Try.ntmps15
  go_wp2_with fail
  refine (validVolume_any _ _ _ _ _ _ (by omega) _).mono ?_
  rw [hv]
  rintro e w1 ⟨rfl, hb1⟩
  have hp1 := HP.out.below hb1
  obtain ⟨c0, c1, c2, c3, -, -, -, -⟩ := hp1.box.four
  have hbx := HB0.out.trans (hb1.mono HB0.out.size)
  have K1 := Lib.hid (volHas_any w1 w.heap.size wd hi dp q 0 M c bs x y (by omega) (by omega) hp1)
  have K2 := Lib.hid (cell_any w1 w.heap.size wd hi dp q 0 M c bs x y x y rfl rfl hx hy d2 d4 d6 d7 hp1)
  have hc := (hp1.cost hx hy hd).1
  rw [Nat.zero_add] at hc
  generalize hgc : gc bs wd dp x y d = z at *
  have HZ := Lib.hid hgc
  generalize ic wd dp x y = k at *
  have b1 : (d : Int) < (dp : Int) := by omega
  have hbm := fun m => below_drewN hbx m
  have HBM := Lib.hid hbm
  clear hgc hp1 hb1 hbx hbm
  go_wp2_with fail
  refine K1.out.mono ?_
  rw [hin2]
  rintro e w' ⟨rfl, rfl⟩
  go_wp2_with fail
  refine (in_any _ _ _ _).mono ?_
  rw [hin]
  rintro e w' ⟨rfl, rfl⟩
  clear hin hin2
  go_wp2_with fail
  refine K2.out.mono ?_
  rintro e w' ⟨rfl, m, rfl⟩
  go_wp2
  go_ret2
  exact ⟨by rw [HZ.out]; rfl, HBM.out m⟩

end Go.Proofs.Ytdeikjiflinkhaa
