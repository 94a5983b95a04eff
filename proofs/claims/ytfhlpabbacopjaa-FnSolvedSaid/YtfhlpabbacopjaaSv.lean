/- Volumes flipped, swapped, added. -/
import Derived.Test.YtfhlpabbacopjaaPy
namespace Go.Proofs.Ytfhlpabbacopjaa
open Go.RowKit
set_option maxRecDepth 100000
set_option linter.unusedVariables false
set_option linter.unusedSimpArgs false

theorem flipV_gives {W0 : World} {pb wd hi dp b off n c : Nat} {bs : List Nat} (h : VolAt W0 pb wd hi dp b off n c bs) (hw : wd ≤ 24) (hh : hi ≤ 24) (hd1 : 1 ≤ dp) (hd2 : dp ≤ 8) :
    Gives3 W0 (.func (.func 74) #[] #[.pointer (some ⟨pb, 0, none⟩)]) wd hi dp (fun x y d => fl (gc bs wd dp x (hi - 1 - y) d)) := by
  refine ⟨74, _, rfl, Try.call74, fun x y d W hx hy hd hbW => ?_⟩
  have hp := h.below hbW
  obtain ⟨c0, c1, c2, c3, -, -, -, -⟩ := hp.box.four
  have hc := hp.cost hx (show hi - 1 - y < hi by omega) hd
  have hcl := hc.2
  have hc := hc.1
  have K := Lib.hid (fun Y hY => cell_any W pb wd hi dp b off n c bs x Y x (hi - 1 - y) rfl hY hx (by omega) hw hh hd1 hd2 hp)
  generalize hgc : gc bs wd dp x (hi - 1 - y) d = z at *
  have HZ := Lib.hid hgc
  generalize ic wd dp x (hi - 1 - y) = k at *
  have b1 : (d : Int) < (dp : Int) := by omega
  have b2 : (hi : Int) ≤ 24 := by omega
  have b3 : (y : Int) < hi := by omega
  clear hgc h hp
  show Calls _ _ #[.int .i64 x, .int .i64 y, .int .i64 d, .pointer (some ⟨pb, 0, none⟩)] _ _
  go_enter Try.func74, Try.ntmps74
  go_wp2_with fail
  refine (K.out _ (by omega)).mono ?_
  rintro e w' ⟨rfl, m, rfl⟩
  go_wp2
  go_ret
  exact ⟨_, rfl, hcl, by show _ = fl (gc bs wd dp x (hi - 1 - y) d); rw [HZ.out], below_drewN (Below.refl _ _) _⟩

theorem flipV_ok (w : World) (wd hi dp b off c : Nat) (bs : List Nat) (h : VolOk w wd hi dp b off c bs) :
    Calls Try.prog 31 #[.agg #[.int .i64 wd, .int .i64 hi, .int .i64 dp, .slice (some ⟨b, off, none⟩) bs.length c]] w (MakesVolOk w wd hi dp fun x y d => fl (gc bs wd dp x (hi - 1 - y) d)) := by
  obtain ⟨d1, d2, d3, d4, d5, d6, d7, d8⟩ := h.dims
  have hb0 := below_two w (.cells #[.int .i64 wd, .int .i64 hi, .int .i64 dp, .slice (some ⟨b, off, none⟩) bs.length c] 26) (.cells #[.int .i64 0, .int .i64 0, .int .i64 0, .slice none 0 0] 26)
  have hP := h.at hb0 (BoxN.first w _ _ _)
  have hV := h.vl
  go_enter Try.func31, Try.ntmps31
  go_wp2_with fail
  refine (revolume_ok _ wd hi dp _ _ c _ _ hV (flipV_gives hP d3 d4 d5 d6)).mono ?_
  rintro e w2 ⟨q, cc, bs', rfl, hown, hcon, hb2⟩
  have hbb := hb0.trans (hb2.mono hb0.size)
  obtain ⟨hc2, hf2⟩ := bcellV hb2
  have hz2 : w.heap.size + 1 < w2.heap.size := by have := hb2.size; simp at this; omega
  go_wp2
  refine bodyPost_ret (v := .tuple #[.agg #[.int .i64 wd, .int .i64 hi, .int .i64 dp, .slice (some ⟨q, 0, none⟩) bs'.length cc], .bool true]) (by simp [results, Try.results31, go_sem, hc2, hz2]) rfl ?_
  exact ⟨q, cc, bs', rfl, ((((hown.set (by first | omega | (simp; done) | (simp; omega)) _).set (by first | omega | (simp; done) | (simp; omega)) _).set (by first | omega | (simp; done) | (simp; omega)) _).set (by first | omega | (simp; done) | (simp; omega)) _).mono (by first | omega | (simp; done) | (simp; omega)), hcon, (((hbb.setCell (by first | omega | (simp; done) | (simp; omega)) _).setCell (by first | omega | (simp; done) | (simp; omega)) _).setCell (by first | omega | (simp; done) | (simp; omega)) _).setCell (by first | omega | (simp; done) | (simp; omega)) _⟩

theorem swapV_gives {W0 : World} {pb wd hi dp b off n c : Nat} {bs : List Nat} (h : VolAt W0 pb wd hi dp b off n c bs) (hw : wd ≤ 24) (hh : hi ≤ 24) (hd1 : 1 ≤ dp) (hd2 : dp ≤ 8) :
    Gives3 W0 (.func (.func 76) #[] #[.pointer (some ⟨pb, 0, none⟩)]) hi wd dp (fun x y d => fl (gc bs wd dp y x d)) := by
  refine ⟨76, _, rfl, Try.call76, fun x y d W hx hy hd hbW => ?_⟩
  have hp := h.below hbW
  have hc := hp.cost hy hx hd
  have hcl := hc.2
  have hc := hc.1
  have K := Lib.hid (cell_any W pb wd hi dp b off n c bs y x y x rfl rfl hy hx hw hh hd1 hd2 hp)
  generalize hgc : gc bs wd dp y x d = z at *
  have HZ := Lib.hid hgc
  generalize ic wd dp y x = k at *
  have b1 : (d : Int) < (dp : Int) := by omega
  clear hgc h hp
  show Calls _ _ #[.int .i64 x, .int .i64 y, .int .i64 d, .pointer (some ⟨pb, 0, none⟩)] _ _
  go_enter Try.func76, Try.ntmps76
  go_wp2_with fail
  refine K.out.mono ?_
  rintro e w' ⟨rfl, m, rfl⟩
  go_wp2
  go_ret
  exact ⟨_, rfl, hcl, by show _ = fl (gc bs wd dp y x d); rw [HZ.out], below_drewN (Below.refl _ _) _⟩

theorem swapV_ok (w : World) (wd hi dp b off c : Nat) (bs : List Nat) (h : VolOk w wd hi dp b off c bs) :
    Calls Try.prog 32 #[.agg #[.int .i64 wd, .int .i64 hi, .int .i64 dp, .slice (some ⟨b, off, none⟩) bs.length c]] w (MakesVolOk w hi wd dp fun x y d => fl (gc bs wd dp y x d)) := by
  obtain ⟨d1, d2, d3, d4, d5, d6, d7, d8⟩ := h.dims
  have hb0 := below_two w (.cells #[.int .i64 wd, .int .i64 hi, .int .i64 dp, .slice (some ⟨b, off, none⟩) bs.length c] 26) (.cells #[.int .i64 0, .int .i64 0, .int .i64 0, .slice none 0 0] 26)
  have hP := h.at hb0 (BoxN.first w _ _ _)
  have hV := h.vl
  have HB := Lib.hid hb0
  clear hb0
  go_enter Try.func32, Try.ntmps32
  go_wp2_with fail
  refine (validVolume_any _ _ _ _ _ _ (by omega) _).mono ?_
  rw [hV]
  rintro e w1 ⟨rfl, hb1⟩
  obtain ⟨hc1, hf1⟩ := bcellV hb1
  have hz1 : w.heap.size + 1 < w1.heap.size := by have := hb1.size; simp at this; omega
  have hP1 := hP.below hb1
  have hb1' := HB.out.trans (hb1.mono HB.out.size)
  clear hb1 hP hV
  go_wp2_with fail
  refine (volumeOf_any w1 hi wd dp _ _ d4 d3 d6 (swapV_gives hP1 d3 d4 d5 d6)).mono ?_
  rintro e w2 ⟨a, cc, bs', rfl, hown, hcon, hb2⟩
  obtain ⟨q, rfl⟩ := own_addr hown (by rw [tab3_len hcon]; exact Nat.mul_pos (Nat.mul_pos (by omega) (by omega)) (by omega))
  have hbb := hb1'.trans (hb2.mono hb1'.size)
  obtain ⟨hc2, hf2⟩ := bcellV hb2
  have hz2 : w.heap.size + 1 < w2.heap.size := by have := hb2.size; omega
  go_wp2
  refine bodyPost_ret (v := .tuple #[.agg #[.int .i64 hi, .int .i64 wd, .int .i64 dp, .slice (some ⟨q, 0, none⟩) bs'.length cc], .bool true]) (by simp [results, Try.results32, go_sem, hc2, hz2, hc1, hz1]) rfl ?_
  exact ⟨q, cc, bs', rfl, ((((hown.set (by first | omega | (simp; done) | (simp; omega)) _).set (by first | omega | (simp; done) | (simp; omega)) _).set (by first | omega | (simp; done) | (simp; omega)) _).set (by first | omega | (simp; done) | (simp; omega)) _).mono (by first | omega | (simp; done) | (simp; omega)), hcon, (((hbb.setCell (by first | omega | (simp; done) | (simp; omega)) _).setCell (by first | omega | (simp; done) | (simp; omega)) _).setCell (by first | omega | (simp; done) | (simp; omega)) _).setCell (by first | omega | (simp; done) | (simp; omega)) _⟩

theorem addV_gives {W0 : World} {pb pb2 wd hi dp b off n c b2 off2 n2 c2 : Nat} {bs bs2 : List Nat} (h : VolAt W0 pb wd hi dp b off n c bs) (h2 : VolAt W0 pb2 wd hi dp b2 off2 n2 c2 bs2) (hw : wd ≤ 24) (hh : hi ≤ 24) (hd1 : 1 ≤ dp) (hd2 : dp ≤ 8) :
    Gives3 W0 (.func (.func 73) #[] #[.pointer (some ⟨pb, 0, none⟩), .pointer (some ⟨pb2, 0, none⟩)]) wd hi dp (fun x y d => fop .add (fl (gc bs wd dp x y d)) (fl (gc bs2 wd dp x y d))) := by
  refine ⟨73, _, rfl, Try.call73, fun x y d W hx hy hd hbW => ?_⟩
  have hp := h.below hbW
  have hp2 := h2.below hbW
  have K := Lib.hid (fun q => cell_any (W.drewN q) pb wd hi dp b off n c bs x y x y rfl rfl hx hy hw hh hd1 hd2 (hp.drewN q))
  have K0 := Lib.hid (cell_drew W pb wd hi dp b off n c bs x y x y rfl rfl hx hy hw hh hd1 hd2 hp)
  have K1 := Lib.hid (fun q => cell_any (W.drewN q) pb2 wd hi dp b2 off2 n2 c2 bs2 x y x y rfl rfl hx hy hw hh hd1 hd2 (hp2.drewN q))
  have K2 := Lib.hid (cell_drew W pb2 wd hi dp b2 off2 n2 c2 bs2 x y x y rfl rfl hx hy hw hh hd1 hd2 hp2)
  have hc := (hp.cost hx hy hd).1
  have hc2 := (hp2.cost hx hy hd).1
  generalize hgc : gc bs wd dp x y d = z at *
  generalize hgc2 : gc bs2 wd dp x y d = z2 at *
  have HZ := Lib.hid hgc
  have HZ2 := Lib.hid hgc2
  generalize ic wd dp x y = k at *
  have b1 : (d : Int) < (dp : Int) := by omega
  clear hgc hgc2 h h2 hp hp2
  show Calls _ _ #[.int .i64 x, .int .i64 y, .int .i64 d, .pointer (some ⟨pb, 0, none⟩), .pointer (some ⟨pb2, 0, none⟩)] _ _
  go_enter Try.func73, Try.ntmps73
  go_wp2_with fail
  go_region_law (first | (go_simp; (with_reducible refine K0.out.mono ?_); rintro e w' ⟨rfl, m, rfl⟩) | (go_simp; (with_reducible refine K2.out.mono ?_); rintro e w' ⟨rfl, m2, rfl⟩) | (go_simp; (with_reducible refine (K.out _).mono ?_); rintro e w' ⟨rfl, m, rfl⟩) | (go_simp; (with_reducible refine (K1.out _).mono ?_); rintro e w' ⟨rfl, m2, rfl⟩))
  all_goals
    go_wp2
    go_ret
    exact ⟨_, rfl, fres_lt _ _ _ _, by rw [fl_fres]; show _ = fop .add (fl (gc bs wd dp x y d)) (fl (gc bs2 wd dp x y d)); rw [HZ.out, HZ2.out], below_drewN (Below.refl _ _) _⟩

end Go.Proofs.Ytfhlpabbacopjaa
