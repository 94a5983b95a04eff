/- Volumes that are told of others: seen from the right, capped, shallow. Words. -/
import Derived.Test.YtmpbnmmpniganaaWc
namespace Go.Proofs.Ytmpbnmmpniganaa
open Go.RowKit
set_option maxRecDepth 100000
set_option linter.unusedVariables false
set_option linter.unusedSimpArgs false

/-- A volume of words, made anew, and true. -/
def MakesVW (w : World) (wd hi dp M : Nat) (g : Nat → Nat → Nat → Nat) (e : Ending) (w' : World) : Prop :=
  ∃ q c bs, e = .returned (.tuple #[.agg #[.int .i64 wd, .int .i64 hi, .int .i64 dp, .slice (some ⟨q, 0, none⟩) M c], .bool true]) ∧ MW w' q c M bs ∧ bs.map fl = tab3 wd hi dp g ∧ w.heap.size ≤ q ∧ Below w.heap.size w w'
theorem tab3_len2 {bs : List Nat} {wd hi dp M : Nat} {g : Nat → Nat → Nat → Nat} (hM : M = wd * hi * dp) (h : bs.map fl = tab3 wd hi dp g) : bs.length = M := by
  rw [tab3_len h, hM, Nat.mul_comm hi wd]
theorem MakesVolOk.vw {w w' : World} {wd hi dp M : Nat} {g : Nat → Nat → Nat → Nat} {e : Ending} (hM : M = wd * hi * dp) (h : MakesVolOk w wd hi dp g e w') : MakesVW w wd hi dp M g e w' := by
  obtain ⟨q, c, bs, rfl, ho, hc, hb⟩ := h
  have hl := tab3_len2 hM hc
  rw [hl] at ho
  exact ⟨q, c, bs, by rw [hl], ⟨ho.sl, (ho.lt (k := q) rfl).2, hl⟩, hc, (ho.lt (k := q) rfl).1, hb⟩
theorem MW.vol {w W : World} {q c M wd hi dp pb : Nat} {bs : List Nat} (h : MW w q c M bs) (hb : Below w.heap.size w W) (hM : M = wd * hi * dp) (hx : BoxN W pb #[.int .i64 wd, .int .i64 hi, .int .i64 dp, .slice (some ⟨q, 0, none⟩) M c] 44) : VolAt W pb wd hi dp q 0 M c bs := ⟨hx, h.sl.below hb, by rw [h.len]; exact hM⟩

def othW (bs : List Nat) (wd dp : Nat) (x y d : Nat) : Nat := fl (gc bs wd dp (min (x + d) (wd - 1)) y d)
theorem other_gives {W0 : World} {pb wd hi dp b off n c : Nat} {bs : List Nat} (h : VolAt W0 pb wd hi dp b off n c bs) (hw : wd ≤ 24) (hh : hi ≤ 24) (hd1 : 1 ≤ dp) (hd2 : dp ≤ 8) :
    Gives3 W0 (.func (.func 93) #[] #[.pointer (some ⟨pb, 0, none⟩)]) wd hi dp (othW bs wd dp) := by
  refine ⟨93, _, rfl, Try.call93, fun x y d W hx hy hd hbW => ?_⟩
  have hp := h.below hbW
  obtain ⟨c0, c1, c2, c3, -, -, -, -⟩ := hp.box.four
  have hc := hp.cost (show min (x + d) (wd - 1) < wd by omega) hy hd
  have hcl := hc.2
  have hc := hc.1
  have K := Lib.hid (fun X hX => cell_any W pb wd hi dp b off n c bs X y (min (x + d) (wd - 1)) y hX rfl (by omega) hy hw hh hd1 hd2 hp)
  generalize hgc : gc bs wd dp (min (x + d) (wd - 1)) y d = z at *
  have HZ := Lib.hid hgc
  generalize ic wd dp (min (x + d) (wd - 1)) y = k at *
  have b1 : (d : Int) < (dp : Int) := by omega
  have b2 : (wd : Int) ≤ 24 := by omega
  have b3 : (x : Int) < wd := by omega
  have b4 : (dp : Int) ≤ 8 := by omega
  clear hgc h hp
  show Calls _ _ #[.int .i64 x, .int .i64 y, .int .i64 d, .pointer (some ⟨pb, 0, none⟩)] _ _
  go_enter Try.func93, Try.ntmps93
  go_wp2_with (refine (K.out _ (by omega)).mono ?_; rintro e w' ⟨rfl, m, rfl⟩)
  all_goals
    go_ret
    exact ⟨_, rfl, hcl, by show _ = fl (gc bs wd dp (min (x + d) (wd - 1)) y d); rw [HZ.out], below_drewN (Below.refl _ _) _⟩

set_option maxHeartbeats 1000000 in
theorem other_w (w : World) (wd hi dp M q c : Nat) (bs : List Nat) (hv : vVol wd hi dp M = true) (hp : MW w q c M bs) :
    Calls Try.prog 39 #[.agg #[.int .i64 wd, .int .i64 hi, .int .i64 dp, .slice (some ⟨q, 0, none⟩) M c]] w (MakesVW w wd hi dp M (othW bs wd dp)) := by
  obtain ⟨hpic, hM, d1, d2, d3, d4, d5, d6, d7, d8⟩ := vVol_pic hv
  have hb0 := below_two w (.cells #[.int .i64 wd, .int .i64 hi, .int .i64 dp, .slice (some ⟨q, 0, none⟩) M c] 44) (.cells #[.int .i64 0, .int .i64 0, .int .i64 0, .slice none 0 0] 44)
  have B0 := BoxN.last w #[.int .i64 wd, .int .i64 hi, .int .i64 dp, .slice (some ⟨q, 0, none⟩) M c] 44
  replace B0 := B0.below (alb1 (w.alloc (.cells #[.int .i64 wd, .int .i64 hi, .int .i64 dp, .slice (some ⟨q, 0, none⟩) M c] 44)) (.cells #[.int .i64 0, .int .i64 0, .int .i64 0, .slice none 0 0] 44))
  have B1 := BoxN.last (w.alloc (.cells #[.int .i64 wd, .int .i64 hi, .int .i64 dp, .slice (some ⟨q, 0, none⟩) M c] 44)) #[.int .i64 0, .int .i64 0, .int .i64 0, .slice none 0 0] 44
  have hs1 : (w.alloc (.cells #[.int .i64 wd, .int .i64 hi, .int .i64 dp, .slice (some ⟨q, 0, none⟩) M c] 44)).heap.size = w.heap.size + 1 := by simp
  rw [hs1] at B1
  have hP := hp.vol hb0 hM B0
  have K := Lib.hid (revolume_ok _ wd hi dp M (some ⟨q, 0, none⟩) c _ _ hv (other_gives hP d2 d4 d6 d7))
  have HB0 := Lib.hid hb0
  have HBR := Lib.hid B1
  have HHM := Lib.hid hM
  clear hb0 hp hP hM hv hpic B0 B1 hs1
  go_enter Try.func39, Try.ntmps39
  go_wp2_with fail
  refine K.out.mono ?_
  rintro e w2 ⟨q', cc, bs', rfl, hown, hcon, hb2⟩
  obtain ⟨e0, e1, e2, e3, g0, g1, g2, g3⟩ := (HBR.out.below hb2).four
  have hlt3 := (HBR.out.below hb2).lt
  have hbb := HB0.out.trans (hb2.mono HB0.out.size)
  have hl := tab3_len2 HHM.out hcon
  rw [hl] at hown ⊢
  have hq := (hown.lt (k := q') rfl).1
  have hqs := Nat.le_trans HB0.out.size hq
  have hq3 : w.heap.size + 1 < q' := by simp at hq; omega
  have HCON := Lib.hid hcon
  have HL := Lib.hid hl
  clear hcon hq hl
  go_wp2
  refine bodyPost_ret (v := .tuple #[.agg #[.int .i64 wd, .int .i64 hi, .int .i64 dp, .slice (some ⟨q', 0, none⟩) M cc], .bool true]) (by simp [results, Try.results39, go_sem, e0, e1, e2, e3, hlt3]) rfl ?_
  have ho := ((((hown.set (by first | omega | (simp; done) | (simp; omega)) (.int .i64 wd) (a := ⟨w.heap.size + 1, 0, none⟩)).set (by first | omega | (simp; done) | (simp; omega)) (.int .i64 hi) (a := ⟨w.heap.size + 1, 1, none⟩)).set (by first | omega | (simp; done) | (simp; omega)) (.int .i64 dp) (a := ⟨w.heap.size + 1, 2, none⟩)).set (by first | omega | (simp; done) | (simp; omega)) (.slice (some ⟨q', 0, none⟩) M cc) (a := ⟨w.heap.size + 1, 3, none⟩))
  exact ⟨q', cc, bs', rfl, ⟨ho.sl, (ho.lt (k := q') rfl).2, HL.out⟩, HCON.out, hqs, (((hbb.setCell (by simp; try omega) _).setCell (by simp; try omega) _).setCell (by simp; try omega) _).setCell (by simp; try omega) _⟩

end Go.Proofs.Ytmpbnmmpniganaa
