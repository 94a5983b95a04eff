/- Slices and windows of volumes, by words: the program's SliceOf, BoxVolume. -/
import Derived.Test.YtabbjilgpfnacaaEf
namespace Go.Proofs.Ytabbjilgpfnacaa
open Go.RowKit Ieee
set_option maxRecDepth 100000
set_option linter.unusedVariables false
set_option linter.unusedSimpArgs false

theorem alE (w : World) (o : Obj) : Below w.heap.size w (w.alloc o) := (Below.refl _ _).alloc (Nat.le_refl _) _
theorem vVol_picE {wd hi dp N : Nat} (h : vVol wd hi dp N = true) : N = wd * hi * dp ∧ 1 ≤ wd ∧ wd ≤ 24 ∧ 1 ≤ hi ∧ hi ≤ 24 ∧ wd * hi ≤ 256 ∧ 1 ≤ dp ∧ dp ≤ 8 ∧ N ≤ 2048 := by
  obtain ⟨x1, x2, x3, e1, e2, e3, e4, b1, b2, b3, b4, b5, b6, b7, b8⟩ := vVol_spec h
  have : x1 = wd := by omega
  have : x2 = hi := by omega
  have : x3 = dp := by omega
  subst_vars; exact ⟨rfl, b1, b2, b3, b4, b5, b6, b7, b8⟩

theorem slice1E {W0 : World} {pb db wd hi dp b off n c d : Nat} {bs : List Nat} (h : VolAt W0 pb wd hi dp b off n c bs) (hdb : BoxN W0 db #[.int .i64 d] 2) (hd : d < dp) (hw : wd ≤ 24) (hh : hi ≤ 24) (hd1 : 1 ≤ dp) (hd2 : dp ≤ 8) :
    Gives2 W0 (.func (.func 111) #[] #[.pointer (some ⟨pb, 0, none⟩), .pointer (some ⟨db, 0, none⟩)]) wd hi (fun x y => fl (gc bs wd dp x y d)) := by
  refine ⟨111, _, rfl, Try.call111, fun x y W hx hy hbW => ?_⟩
  have hp := h.below hbW
  have hc := hp.cost hx hy hd
  have hcl := hc.2
  have hc := hc.1
  have d0 := (hdb.below hbW).cell 0
  have d0 : W.cell? ⟨db, 0, none⟩ = some (.int .i64 d) := d0
  have K := Lib.hid (fun q => cell_quiet W pb wd hi dp b off n c bs x y x y rfl rfl hx hy hw hh hd1 hd2 hp q)
  generalize hgc : gc bs wd dp x y d = z at *
  have HZ := Lib.hid hgc
  generalize ic wd dp x y = k at *
  have b1 : (d : Int) < (dp : Int) := by omega
  clear hgc h hp hdb
  show Calls _ _ #[.int .i64 x, .int .i64 y, .pointer (some ⟨pb, 0, none⟩), .pointer (some ⟨db, 0, none⟩)] _ _
  go_enter Try.func111, Try.ntmps111
  go_wp2_with fail
  go_quiet (with_reducible exact K.out _)
  go_wp2
  go_ret
  exact ⟨_, rfl, hcl, by show _ = fl (gc bs wd dp x y d); rw [HZ.out], below_drewN (Below.refl _ _) _⟩

/-- The cells of a slice. -/
def slW (bs : List Nat) (dp d i : Nat) : Nat := fl (bs.getD (i * dp + d) 0)
/-- A picture of words at a block's beginning. -/
structure MWE (W : World) (q c N : Nat) (qs : List Nat) : Prop where
  sl : SlF W (.slice (some ⟨q, 0, none⟩) N c) qs
  lt : q < W.heap.size
  len : qs.length = N
theorem MWE.below {W W' : World} {q c N : Nat} {qs : List Nat} (h : MWE W q c N qs) (hb : Below W.heap.size W W') : MWE W' q c N qs := ⟨h.sl.below hb, Nat.lt_of_lt_of_le h.lt hb.size, h.len⟩
theorem MWE.grown {W W' : World} {q c N : Nat} {qs : List Nat} {r : Option Nat} (h : MWE W q c N qs) (hg : W.grownBy W' r) (hne : r ≠ some q) : MWE W' q c N qs :=
  ⟨⟨h.sl.1.grown hg (.inr (by simpa [Value.ownBlock] using hne.symm)), h.sl.2⟩, Nat.lt_of_lt_of_le h.lt hg.size, h.len⟩
def MakesSE (w : World) (wd hi : Nat) (L : List Nat) (e : Ending) (w' : World) : Prop :=
  ∃ q c qs, e = .returned (.tuple #[.agg #[.int .i64 wd, .int .i64 hi, .slice (some ⟨q, 0, none⟩) (wd * hi) c], .bool true]) ∧ MWE w' q c (wd * hi) qs ∧ w.heap.size ≤ q ∧ qs.map fl = L ∧ Below w.heap.size w w'

theorem slice_tab {bs : List Nat} {wd hi dp d : Nat} (h1 : 1 ≤ wd) : (tab (hi * wd) fun i => (fun x y => fl (gc bs wd dp x y d)) (i % wd) (i / wd)) = tab (wd * hi) (slW bs dp d) := by
  rw [Nat.mul_comm]
  unfold tab
  apply List.map_congr_left
  intro i hi_
  show fl (bs.getD (ic wd dp (i % wd) (i / wd) + d) 0) = fl (bs.getD (i * dp + d) 0)
  have : ic wd dp (i % wd) (i / wd) = i * dp := by unfold ic; rw [Nat.mod_add_div]
  rw [this]

set_option maxHeartbeats 1000000 in
theorem sliceOfE (w : World) (wd hi dp M q c d : Nat) (bs : List Nat) (hd : d < dp) (hv : vVol wd hi dp M = true) (hp : SlF w (.slice (some ⟨q, 0, none⟩) M c) bs) :
    Calls Try.prog 78 #[.agg #[.int .i64 wd, .int .i64 hi, .int .i64 dp, .slice (some ⟨q, 0, none⟩) M c], .int .i64 d] w (MakesSE w wd hi (tab (wd * hi) (slW bs dp d))) := by
  obtain ⟨hM, d1, d2, d3, d4, d5, d6, d7, d8⟩ := vVol_picE hv
  have hN0 : 0 < wd * hi := Nat.mul_pos d1 d3
  have hb0 := (below_two w (.cells #[.int .i64 wd, .int .i64 hi, .int .i64 dp, .slice (some ⟨q, 0, none⟩) M c] 31) (.cells #[.int .i64 d] 2)).alloc (by simp; try omega) (.cells #[.int .i64 0, .int .i64 0, .slice none 0 0] 34)
  have hb1 := alE ((w.alloc (.cells #[.int .i64 wd, .int .i64 hi, .int .i64 dp, .slice (some ⟨q, 0, none⟩) M c] 31)).alloc (.cells #[.int .i64 d] 2)) (.cells #[.int .i64 0, .int .i64 0, .slice none 0 0] 34)
  have B0 := (BoxN.first w #[.int .i64 wd, .int .i64 hi, .int .i64 dp, .slice (some ⟨q, 0, none⟩) M c] 31 (.cells #[.int .i64 d] 2)).below hb1
  have B1 := (BoxN.second w #[.int .i64 d] 2 (.cells #[.int .i64 wd, .int .i64 hi, .int .i64 dp, .slice (some ⟨q, 0, none⟩) M c] 31)).below hb1
  have B2 := BoxN.last ((w.alloc (.cells #[.int .i64 wd, .int .i64 hi, .int .i64 dp, .slice (some ⟨q, 0, none⟩) M c] 31)).alloc (.cells #[.int .i64 d] 2)) #[.int .i64 0, .int .i64 0, .slice none 0 0] 34
  have hsz : ((w.alloc (.cells #[.int .i64 wd, .int .i64 hi, .int .i64 dp, .slice (some ⟨q, 0, none⟩) M c] 31)).alloc (.cells #[.int .i64 d] 2)).heap.size = w.heap.size + 2 := by simp
  rw [hsz] at B2
  have hva : VolAt ((((w.alloc (.cells #[.int .i64 wd, .int .i64 hi, .int .i64 dp, .slice (some ⟨q, 0, none⟩) M c] 31)).alloc (.cells #[.int .i64 d] 2))).alloc (.cells #[.int .i64 0, .int .i64 0, .slice none 0 0] 34)) w.heap.size wd hi dp q 0 M c bs := ⟨B0, hp.below hb0, by rw [hp.leE.1, hM]⟩
  have HP := Lib.hid hva
  have HB0 := Lib.hid hb0
  have HB1 := Lib.hid B1
  have HB2 := Lib.hid B2
  have HD := Lib.hid (And.intro d1 hN0)
  have hin : (decide ((0 : Int) ≤ d) && decide ((d : Int) ≤ dp - 1)) = true := by simp; omega
  have hM2 : M ≤ 2048 := by omega
  clear hb0 hb1 B0 B1 B2 hsz hp hM hva hN0
  go_enter Try.func78, Try.ntmps78
  go_wp2_with fail
  refine (validVolume_any _ _ _ _ _ _ (by omega) _).mono ?_
  rw [hv]
  rintro e w1 ⟨rfl, hbv⟩
  have hbx := HB0.out.trans (hbv.mono HB0.out.size)
  have C0 := HP.out.below hbv
  have C1 := HB1.out.below hbv
  have C2 := HB2.out.below hbv
  obtain ⟨c0, c1, c2, c3, -, -, -, -⟩ := C0.box.four
  have s0 : w1.cell? ⟨w.heap.size + 1, 0, none⟩ = some (.int .i64 d) := C1.cell 0
  have HG := Lib.hid (made_any w1 wd hi _ _ d2 d4 (slice1E C0 C1 hd d2 d4 d6 d7))
  have HC2 := Lib.hid C2
  have hlt3 := C2.lt
  have HBX := Lib.hid hbx
  clear hbv C0 C1 C2 hbx
  go_wp2_with fail
  refine (in_any _ _ _ _).mono ?_
  rw [hin]
  rintro e w' ⟨rfl, rfl⟩
  clear hin
  go_wp2_with fail
  refine HG.out.mono ?_
  rintro e w2 ⟨a, cc, bs', rfl, hown, hcon, hb2⟩
  have hcon2 := hcon.trans (slice_tab HD.out.1)
  have hl : bs'.length = wd * hi := by have := congrArg List.length hcon2; rwa [List.length_map, tab_length] at this
  rw [hl] at hown ⊢
  obtain ⟨q', rfl⟩ := own_ptrE hown (by rw [hl]; exact HD.out.2)
  obtain ⟨e0, e1, e2, g0, g1, g2⟩ := (HC2.out.below hb2).three.cells
  have hlt4 := (HC2.out.below hb2).lt
  have hbb := HBX.out.trans (hb2.mono HBX.out.size)
  have hq := (hown.lt (k := q') rfl).1
  have hqs : w.heap.size ≤ q' := Nat.le_trans HBX.out.size hq
  have HBS := Lib.hid (And.intro hcon2 hl)
  have HOW := Lib.hid hown
  clear hcon hcon2 hl hown
  go_wp2
  refine bodyPost_ret (v := .tuple #[.agg #[.int .i64 wd, .int .i64 hi, .slice (some ⟨q', 0, none⟩) (wd * hi) cc], .bool true]) (by simp [results, Try.results78, go_sem, e0, e1, e2, hlt4]) rfl ?_
  have ho := (((HOW.out.set (by first | omega | (simp; done) | (simp; omega)) (.int .i64 wd) (a := ⟨w.heap.size + 2, 0, none⟩)).set (by first | omega | (simp; done) | (simp; omega)) (.int .i64 hi) (a := ⟨w.heap.size + 2, 1, none⟩)).set (by first | omega | (simp; done) | (simp; omega)) (.slice (some ⟨q', 0, none⟩) (wd * hi) cc) (a := ⟨w.heap.size + 2, 2, none⟩))
  exact ⟨q', cc, bs', rfl, ⟨ho.sl, (ho.lt (k := q') rfl).2, HBS.out.2⟩, hqs, HBS.out.1, ((hbb.setCell (by simp; try omega) _).setCell (by simp; try omega) _).setCell (by simp; try omega) _⟩

theorem info_picE : (Try.prog.info? 34).map (fun i => (i.zero, i.size, i.bytes)) = some (some (.agg #[.int .i64 0, .int .i64 0, .slice none 0 0]), 3, 40) := by kernel_rfl
theorem cell_threeE (w : World) (x y z : Value) (t : TypeId) : ∀ j u, [x, y, z][j]? = some u → (w.alloc (.cells #[x, y, z] t)).cell? ((⟨w.heap.size, 0, none⟩ : Addr).add j) = some u := by
  intro j u h
  have hb := BoxN.last w #[x, y, z] t
  match j, h with
  | 0, h => simp at h; subst h; exact hb.cell 0
  | 1, h => simp at h; subst h; exact hb.cell 1
  | 2, h => simp at h; subst h; exact hb.cell 2
  | n + 3, h => simp at h
theorem cell_threeE2 (w : World) (o : Obj) (x y z : Value) (t : TypeId) : ∀ j u, [x, y, z][j]? = some u → ((w.alloc o).alloc (.cells #[x, y, z] t)).cell? ((⟨w.heap.size + 1, 0, none⟩ : Addr).add j) = some u := by
  have := cell_threeE (w.alloc o) x y z t
  simpa using this

/-- Pictures in a list. -/
structure PicE where
  q : Nat
  c : Nat
  qs : List Nat
instance : Inhabited PicE := ⟨⟨0, 0, []⟩⟩
def pvE (wd hi : Nat) (p : PicE) : List Value := [.int .i64 wd, .int .i64 hi, .slice (some ⟨p.q, 0, none⟩) (wd * hi) p.c]
def flatE (wd hi : Nat) : List PicE → List Value
  | [] => []
  | a :: cs => pvE wd hi a ++ flatE wd hi cs
theorem flatE_snoc (wd hi : Nat) (cs : List PicE) (p : PicE) : flatE wd hi (cs ++ [p]) = flatE wd hi cs ++ pvE wd hi p := by
  induction cs with
  | nil => simp [flatE]
  | cons a cs ih => simp [flatE, ih]
theorem flatE_get (wd hi : Nat) : ∀ (cs : List PicE) (d j : Nat), d < cs.length → j < 3 → (flatE wd hi cs)[d * 3 + j]? = (pvE wd hi (cs.getD d default))[j]? := by
  intro cs
  induction cs with
  | nil => intro d j hd; simp at hd
  | cons a cs ih =>
    intro d j hd hj
    cases d with
    | zero =>
      show (pvE wd hi a ++ flatE wd hi cs)[0 * 3 + j]? = _
      rw [List.getElem?_append_left (by simp [pvE]; omega)]
      simp
    | succ d =>
      show (pvE wd hi a ++ flatE wd hi cs)[(d + 1) * 3 + j]? = _
      rw [List.getElem?_append_right (by simp [pvE]; omega)]
      have : (d + 1) * 3 + j - (pvE wd hi a).length = d * 3 + j := by simp [pvE]; omega
      rw [this, ih d j (by simpa using hd) hj]
      rfl

/-- How far a list of pictures is made: the list's box lies at lb, above the bound; pics tells each picture's greys. -/
structure LsE (w1 wr : World) (B lb wd hi : Nat) (G : Nat → List Nat) (d : Nat) (v : Value) (cs : List PicE) : Prop where
  bel : Below B w1 wr
  lbx : BoxN wr lb #[v] 117
  own : wr.ownsRow B 34 3 v d (flatE wd hi cs)
  len : cs.length = d
  far : v.ownBlock ≠ some lb
  hlb : B ≤ lb
  pics : ∀ j, j < d → MWE wr (cs.getD j default).q (cs.getD j default).c (wd * hi) (cs.getD j default).qs ∧ (cs.getD j default).qs.map fl = G j ∧ v.ownBlock ≠ some (cs.getD j default).q ∧ lb ≠ (cs.getD j default).q ∧ B ≤ (cs.getD j default).q

theorem LsE.pic {w1 wr : World} {B lb wd hi d g cap : Nat} {G : Nat → List Nat} {cs : List PicE} (h : LsE w1 wr B lb wd hi G d (.slice (some ⟨g, 0, none⟩) d cap) cs) : ∀ j, j < d → PicI wr g (j * 3) wd hi (.slice (some ⟨(cs.getD j default).q, 0, none⟩) (wd * hi) (cs.getD j default).c) (cs.getD j default).qs := by
  intro j hj
  have hc := fun i (hi3 : i < 3) => World.ownsRow.cellAt h.own (j * 3 + i) (by omega)
  have hf := fun i (hi3 : i < 3) => flatE_get wd hi cs j i (by rw [h.len]; exact hj) hi3
  have e0 := hc 0 (by omega)
  have e1 := hc 1 (by omega)
  have e2 := hc 2 (by omega)
  rw [hf 0 (by omega)] at e0
  rw [hf 1 (by omega)] at e1
  rw [hf 2 (by omega)] at e2
  have hgl := (World.ownsRow.lt h.own g rfl).2
  exact ⟨e0, e1, e2, (h.pics j hj).1.sl, (h.pics j hj).1.len, hgl⟩

/-- A round: a picture is made (w2), boxed or not (w2b), appended (w3), the list stored. -/
theorem LsE.step {w1 wr w2 w2b w3 : World} {B lb wd hi d : Nat} {G : Nat → List Nat} {v : Value} {cs : List PicE} {p : PicE} {gg cap : Nat} (h : LsE w1 wr B lb wd hi G d v cs) (hb : Below wr.heap.size wr w2)
    (hm : MWE w2 p.q p.c (wd * hi) p.qs) (hG : p.qs.map fl = G d) (hq : wr.heap.size ≤ p.q) (ha : Below w2.heap.size w2 w2b)
    (hown : w3.ownsRow B 34 3 (.slice (some ⟨gg, 0, none⟩) (d + 1) cap) (d + 1) (flatE wd hi cs ++ pvE wd hi p))
    (hg : w2b.grownBy w3 v.ownBlock) (hB : B ≤ w1.heap.size)
    (hat : v.ownBlock = some gg ∨ w2b.heap.size ≤ gg) :
    LsE w1 (w3.setCell ⟨lb, 0, none⟩ (.slice (some ⟨gg, 0, none⟩) (d + 1) cap)) B lb wd hi G (d + 1) (.slice (some ⟨gg, 0, none⟩) (d + 1) cap) (cs ++ [p]) := by
  have hlt := h.lbx.lt
  have s1 := hb.size
  have s2 := ha.size
  have s0 := h.bel.size
  have hB2 : B ≤ wr.heap.size := by omega
  have b2 := h.bel.trans (hb.mono hB2)
  have b3 : Below B w1 w3 := (b2.trans (ha.mono (by omega))).grown hg (by omega) (fun k hk => by have := (World.ownsRow.lt h.own k hk).1; omega)
  have hfar : gg ≠ lb := by
    rcases hat with e | e
    · intro e2; exact h.far (by rw [e, e2])
    · omega
  have hs3 := grown_setCell w3 ⟨lb, 0, none⟩ (.slice (some ⟨gg, 0, none⟩) (d + 1) cap)
  refine ⟨b3.setCell h.hlb _, ?_, ?_, by rw [List.length_append, h.len]; rfl, by simpa [Value.ownBlock] using hfar, h.hlb, fun j hj => ?_⟩
  · exact ((((h.lbx.below hb).below ha).grown hg (fun e => h.far e.symm)).set 0 _)
  · rw [flatE_snoc]
    exact World.ownsRow.kept hown hs3 (.inr (by simpa [Value.ownBlock] using hfar))
  · by_cases hjd : j < d
    · have e : (cs ++ [p]).getD j default = cs.getD j default := by rw [List.getD_eq_getElem?_getD, List.getElem?_append_left (by rw [h.len]; exact hjd), List.getD_eq_getElem?_getD]
      rw [e]
      clear e
      obtain ⟨k1, k4, k2, k3, k5⟩ := h.pics j hjd
      have hql := k1.lt
      generalize cs.getD j default = p2 at *
      refine ⟨(((k1.below hb).below ha).grown hg k2).grown hs3 (by simpa using k3), k4, ?_, k3, k5⟩
      · rcases hat with e1 | e1
        · rw [e1] at k2; simpa [Value.ownBlock] using k2
        · simp [Value.ownBlock]; omega
    · obtain rfl : j = d := by omega
      have e : (cs ++ [p]).getD j default = p := by rw [List.getD_eq_getElem?_getD, List.getElem?_append_right (by rw [h.len]; exact Nat.le_refl _), h.len]; simp
      rw [e]
      have hne : v.ownBlock ≠ some p.q := fun e2 => by have := (World.ownsRow.lt h.own p.q e2).2; omega
      have hlq : lb ≠ p.q := by omega
      refine ⟨((hm.below ha).grown hg hne).grown hs3 (by simpa using hlq), hG, ?_, hlq, by omega⟩
      rcases hat with e1 | e1
      · rw [e1] at hne; simpa [Value.ownBlock] using hne
      · have := hm.lt
        simp [Value.ownBlock]; omega

end Go.Proofs.Ytabbjilgpfnacaa
