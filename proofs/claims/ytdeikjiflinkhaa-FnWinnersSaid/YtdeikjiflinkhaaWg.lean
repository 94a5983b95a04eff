/- Slices of volumes of quarters; windows of pictures that lie anywhere in a block. -/
import Derived.Test.YtdeikjiflinkhaaWf
import Derived.Test.YtdeikjiflinkhaaMs
import Derived.Test.YtdeikjiflinkhaaPc
namespace Go.Proofs.Ytdeikjiflinkhaa
open Go.RowKit
set_option maxRecDepth 100000
set_option linter.unusedVariables false
set_option linter.unusedSimpArgs false

theorem MQ.mw {W : World} {q c N : Nat} {ks : List Int} (h : MQ W q c N ks) : MW W q c N (ks.map (fq 2)) := ⟨h.sl, h.qlt, by rw [List.length_map, h.len]⟩
theorem gc_q {ks : List Int} {wd hi dp M x y d : Nat} (hM : M = wd * hi * dp) (hl : ks.length = M) (hx : x < wd) (hy : y < hi) (hd : d < dp) : gc (ks.map (fq 2)) wd dp x y d = fq 2 (ks.getD ((x + wd * y) * dp + d) 0) := by
  have hle := ic_le (dp := dp) hx hy
  unfold gc
  rw [List.getD_eq_getElem?_getD, List.getD_eq_getElem?_getD, List.getElem?_map]
  unfold ic at *
  rw [List.getElem?_eq_getElem (by omega)]; rfl
/-- The cells of a slice. -/
def slcK (ks : List Int) (dp d : Nat) (i : Nat) : Int := ks.getD (i * dp + d) 0
theorem slcK_bd {ks : List Int} (hk : ∀ k ∈ ks, k.natAbs ≤ 1000) (dp d i : Nat) : (slcK ks dp d i).natAbs ≤ 1000 := by
  unfold slcK
  rw [List.getD_eq_getElem?_getD]
  cases e : ks[i * dp + d]? with
  | none => simp
  | some z => exact hk z (List.mem_of_getElem? e)

theorem slice1_gives {W0 : World} {pb db wd hi dp b off n c d : Nat} {bs : List Nat} (h : VolAt W0 pb wd hi dp b off n c bs) (hdb : BoxN W0 db #[.int .i64 d] 2) (hd : d < dp) (hw : wd ≤ 24) (hh : hi ≤ 24) (hd1 : 1 ≤ dp) (hd2 : dp ≤ 8) :
    Gives2 W0 (.func (.func 63) #[] #[.pointer (some ⟨pb, 0, none⟩), .pointer (some ⟨db, 0, none⟩)]) wd hi (fun x y => fl (gc bs wd dp x y d)) := by
  refine ⟨63, _, rfl, Try.call63, fun x y W hx hy hbW => ?_⟩
  have hp := h.below hbW
  have hc := hp.cost hx hy hd
  have hcl := hc.2
  have hc := hc.1
  have d0 := (hdb.below hbW).cell 0
  have d0 : W.cell? ⟨db, 0, none⟩ = some (.int .i64 d) := d0
  have K := Lib.hid (fun q => cell_quiet W pb wd hi dp b off n c bs x y x y rfl rfl hx hy hw hh hd1 hd2 hp q)
  generalize hgc : gc bs wd dp x y d = z at *
  have HZ := Lib.hid hgc
  generalize ic wd dp x y = k at *
  have b1 : (d : Int) < (dp : Int) := by omega
  clear hgc h hp hdb
  show Calls _ _ #[.int .i64 x, .int .i64 y, .pointer (some ⟨pb, 0, none⟩), .pointer (some ⟨db, 0, none⟩)] _ _
  go_enter Try.func63, Try.ntmps63
  go_wp2_with fail
  go_quiet (with_reducible exact K.out _)
  go_wp2
  go_ret
  exact ⟨_, rfl, hcl, by show _ = fl (gc bs wd dp x y d); rw [HZ.out], below_drewN (Below.refl _ _) _⟩

set_option maxHeartbeats 1000000 in
theorem sliceOf_q (w : World) (wd hi dp M q c d : Nat) (ks : List Int) (hd : d < dp) (hv : vVol wd hi dp M = true) (hp : MQ w q c M ks) :
    Calls Try.prog 35 #[.agg #[.int .i64 wd, .int .i64 hi, .int .i64 dp, .slice (some ⟨q, 0, none⟩) M c], .int .i64 d] w (MakesMQ w wd hi (wd * hi) (tabI (wd * hi) (slcK ks dp d))) := by
  obtain ⟨hpic, hM, d1, d2, d3, d4, d5, d6, d7, d8⟩ := vVol_pic hv
  have hN0 : 0 < wd * hi := Nat.mul_pos d1 d3
  have hb0 := (below_two w (.cells #[.int .i64 wd, .int .i64 hi, .int .i64 dp, .slice (some ⟨q, 0, none⟩) M c] 26) (.cells #[.int .i64 d] 2)).alloc (by simp; try omega) (.cells #[.int .i64 0, .int .i64 0, .slice none 0 0] 58)
  have hb1 := alb1 ((w.alloc (.cells #[.int .i64 wd, .int .i64 hi, .int .i64 dp, .slice (some ⟨q, 0, none⟩) M c] 26)).alloc (.cells #[.int .i64 d] 2)) (.cells #[.int .i64 0, .int .i64 0, .slice none 0 0] 58)
  have B0 := (BoxN.first w #[.int .i64 wd, .int .i64 hi, .int .i64 dp, .slice (some ⟨q, 0, none⟩) M c] 26 (.cells #[.int .i64 d] 2)).below hb1
  have B1 := (BoxN.second w #[.int .i64 d] 2 (.cells #[.int .i64 wd, .int .i64 hi, .int .i64 dp, .slice (some ⟨q, 0, none⟩) M c] 26)).below hb1
  have B2 := BoxN.last ((w.alloc (.cells #[.int .i64 wd, .int .i64 hi, .int .i64 dp, .slice (some ⟨q, 0, none⟩) M c] 26)).alloc (.cells #[.int .i64 d] 2)) #[.int .i64 0, .int .i64 0, .slice none 0 0] 58
  have hsz : ((w.alloc (.cells #[.int .i64 wd, .int .i64 hi, .int .i64 dp, .slice (some ⟨q, 0, none⟩) M c] 26)).alloc (.cells #[.int .i64 d] 2)).heap.size = w.heap.size + 2 := by simp
  rw [hsz] at B2
  have HP := Lib.hid (hp.mw.vol hb0 hM B0)
  have HKS := Lib.hid (And.intro hp.len hp.bd)
  have HB0 := Lib.hid hb0
  have HB1 := Lib.hid B1
  have HB2 := Lib.hid B2
  have HHM := Lib.hid hM
  have hin : (decide ((0 : Int) ≤ d) && decide ((d : Int) ≤ dp - 1)) = true := by simp; omega
  have hM2 : M ≤ 2048 := by omega
  clear hb0 hb1 B0 B1 B2 hsz hp hM hpic
  go_enter Try.func35, Try.ntmps35
  go_wp2_with fail
  refine (validVolume_any _ _ _ _ _ _ (by omega) _).mono ?_
  rw [hv]
  rintro e w1 ⟨rfl, hbv⟩
  have hbx := HB0.out.trans (hbv.mono HB0.out.size)
  have C0 := HP.out.below hbv
  have C1 := HB1.out.below hbv
  have C2 := HB2.out.below hbv
  obtain ⟨c0, c1, c2, c3, -, -, -, -⟩ := C0.box.four
  have s0 : w1.cell? ⟨w.heap.size + 1, 0, none⟩ = some (.int .i64 d) := C1.cell 0
  have HG := Lib.hid (made_any w1 wd hi _ _ d2 d4 (slice1_gives C0 C1 hd d2 d4 d6 d7))
  have HC2 := Lib.hid C2
  have hlt3 := C2.lt
  clear hbv C0 C1 C2
  go_wp2_with fail
  refine (in_any _ _ _ _).mono ?_
  rw [hin]
  rintro e w' ⟨rfl, rfl⟩
  clear hin
  go_wp2_with fail
  refine HG.out.mono ?_
  rintro e w2 ⟨a, cc, bs', rfl, hown, hcon, hb2⟩
  have hbs := bs_of_tab (F := slcK ks dp d) (fun i hi => by have := slcK_bd HKS.out.2 dp d i; omega) (by
    rw [hcon]
    unfold tab
    apply List.map_congr_left
    intro i hi_
    have hi3 : i < hi * wd := List.mem_range.1 hi_
    have hx : i % wd < wd := Nat.mod_lt _ d1
    have hy : i / wd < hi := (Nat.div_lt_iff_lt_mul (by omega)).2 hi3
    show fl (gc (ks.map (fq 2)) wd dp (i % wd) (i / wd) d) = fq 2 (slcK ks dp d (i % wd + wd * (i / wd)))
    rw [gc_q HHM.out HKS.out.1 hx hy hd]
    exact fl_fq (by have := slcK_bd HKS.out.2 dp d (i % wd + wd * (i / wd)); unfold slcK at this; omega))
  have hl : bs'.length = wd * hi := by rw [hbs, List.length_map, tabI_length]
  rw [hl] at hown ⊢
  obtain ⟨q', rfl⟩ := own_ptr hown (by omega)
  obtain ⟨e0, e1, e2, g0, g1, g2⟩ := (HC2.out.below hb2).three.cells
  have hlt4 := (HC2.out.below hb2).lt
  have hbb := hbx.trans (hb2.mono hbx.size)
  have hq := (hown.lt (k := q') rfl).1
  have hqs : w.heap.size ≤ q' := Nat.le_trans hbx.size hq
  have HBS := Lib.hid hbs
  clear hcon hbs hl
  go_wp2
  refine bodyPost_ret (v := .tuple #[.agg #[.int .i64 wd, .int .i64 hi, .slice (some ⟨q', 0, none⟩) (wd * hi) cc], .bool true]) (by simp [results, Try.results35, go_sem, e0, e1, e2, hlt4]) rfl ?_
  have ho := (((hown.set (by first | omega | (simp; done) | (simp; omega)) (.int .i64 wd) (a := ⟨w.heap.size + 2, 0, none⟩)).set (by first | omega | (simp; done) | (simp; omega)) (.int .i64 hi) (a := ⟨w.heap.size + 2, 1, none⟩)).set (by first | omega | (simp; done) | (simp; omega)) (.slice (some ⟨q', 0, none⟩) (wd * hi) cc) (a := ⟨w.heap.size + 2, 2, none⟩))
  refine ⟨q', cc, rfl, ⟨?_, (ho.lt (k := q') rfl).2, ?_⟩, hqs, ((hbb.setCell (by simp; try omega) _).setCell (by simp; try omega) _).setCell (by simp; try omega) _⟩
  · have := ho.sl
    rw [HBS.out] at this
    exact this
  · intro k hk
    obtain ⟨i, hi_, rfl⟩ := mem_tabI hk
    exact slcK_bd HKS.out.2 dp d i

end Go.Proofs.Ytdeikjiflinkhaa
