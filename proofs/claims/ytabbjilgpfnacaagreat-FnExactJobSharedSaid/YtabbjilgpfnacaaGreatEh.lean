/- Slices and windows of volumes, by words: the program's SliceOf, BoxVolume. -/
import Derived.Test.YtabbjilgpfnacaaGreatEf
namespace Go.Proofs.YtabbjilgpfnacaaGreat
section
open Go.RowKit Ieee
set_option maxRecDepth 100000
set_option linter.unusedVariables false
set_option linter.unusedSimpArgs false

theorem alE (w : World) (o : Obj) : Below w.heap.size w (w.alloc o) := (Below.refl _ _).alloc (Nat.le_refl _) _
theorem vVol_picE {wd hi dp N : Nat} (h : vVol wd hi dp N = true) : N = wd * hi * dp ∧ 1 ≤ wd ∧ wd ≤ 24 ∧ 1 ≤ hi ∧ hi ≤ 24 ∧ wd * hi ≤ 256 ∧ 1 ≤ dp ∧ dp ≤ 8 ∧ N ≤ 2048 := by
  obtain ⟨x1, x2, x3, e1, e2, e3, e4, b1, b2, b3, b4, b5, b6, b7, b8⟩ := vVol_spec h
  have : x1 = wd := by omega
  have : x2 = hi := by omega
  have : x3 = dp := by omega
  subst_vars; exact ⟨rfl, b1, b2, b3, b4, b5, b6, b7, b8⟩

theorem slice1E {W0 : World} {pb db wd hi dp b off n c d : Nat} {bs : List Nat} (h : VolAt W0 pb wd hi dp b off n c bs) (hdb : BoxN W0 db #[.int .i64 d] 2) (hd : d < dp) (hw : wd ≤ 24) (hh : hi ≤ 24) (hd1 : 1 ≤ dp) (hd2 : dp ≤ 8) :
    Gives2 W0 (.func (.func 98) #[] #[.pointer (some ⟨pb, 0, none⟩), .pointer (some ⟨db, 0, none⟩)]) wd hi (fun x y => fl (gc bs wd dp x y d)) := by
  refine ⟨98, _, rfl, Tryz.call98, fun x y W hx hy hbW => ?_⟩
  have hp := h.below hbW
  have hc := hp.cost hx hy hd
  have hcl := hc.2
  have hc := hc.1
  have d0 := (hdb.below hbW).cell 0
  have d0 : W.cell? ⟨db, 0, none⟩ = some (.int .i64 d) := d0
  have K := Lib.hid (fun q => cell_quiet W pb wd hi dp b off n c bs x y x y rfl rfl hx hy hw hh hd1 hd2 hp q)
  generalize hgc : gc bs wd dp x y d = z at *
  have HZ := Lib.hid hgc
  generalize ic wd dp x y = k at *
  have b1 : (d : Int) < (dp : Int) := by omega
  clear hgc h hp hdb
  show Calls _ _ #[.int .i64 x, .int .i64 y, .pointer (some ⟨pb, 0, none⟩), .pointer (some ⟨db, 0, none⟩)] _ _
  go_enter Tryz.func98, Tryz.ntmps98
  go_wp2_with fail
  go_quiet (with_reducible exact K.out _)
  go_wp2
  go_ret
  exact ⟨_, rfl, hcl, by show _ = fl (gc bs wd dp x y d); rw [HZ.out], below_drewN (Below.refl _ _) _⟩

/-- The cells of a slice. -/
def slW (bs : List Nat) (dp d i : Nat) : Nat := fl (bs.getD (i * dp + d) 0)
/-- A picture of words at a block's beginning. -/
structure MWE (W : World) (q c N : Nat) (qs : List Nat) : Prop where
  sl : SlF W (.slice (some ⟨q, 0, none⟩) N c) qs
  lt : q < W.heap.size
  len : qs.length = N
theorem MWE.below {W W' : World} {q c N : Nat} {qs : List Nat} (h : MWE W q c N qs) (hb : Below W.heap.size W W') : MWE W' q c N qs := ⟨h.sl.below hb, Nat.lt_of_lt_of_le h.lt hb.size, h.len⟩
theorem MWE.grown {W W' : World} {q c N : Nat} {qs : List Nat} {r : Option Nat} (h : MWE W q c N qs) (hg : W.grownBy W' r) (hne : r ≠ some q) : MWE W' q c N qs :=
  ⟨⟨h.sl.1.grown hg (.inr (by simpa [Value.ownBlock] using hne.symm)), h.sl.2⟩, Nat.lt_of_lt_of_le h.lt hg.size, h.len⟩
def MakesSE (w : World) (wd hi : Nat) (L : List Nat) (e : Ending) (w' : World) : Prop :=
  ∃ q c qs, e = .returned (.tuple #[.agg #[.int .i64 wd, .int .i64 hi, .slice (some ⟨q, 0, none⟩) (wd * hi) c], .bool true]) ∧ MWE w' q c (wd * hi) qs ∧ w.heap.size ≤ q ∧ qs.map fl = L ∧ Below w.heap.size w w'

theorem slice_tab {bs : List Nat} {wd hi dp d : Nat} (h1 : 1 ≤ wd) : (tab (hi * wd) fun i => (fun x y => fl (gc bs wd dp x y d)) (i % wd) (i / wd)) = tab (wd * hi) (slW bs dp d) := by
  rw [Nat.mul_comm]
  unfold tab
  apply List.map_congr_left
  intro i hi_
  show fl (bs.getD (ic wd dp (i % wd) (i / wd) + d) 0) = fl (bs.getD (i * dp + d) 0)
  have : ic wd dp (i % wd) (i / wd) = i * dp := by unfold ic; rw [Nat.mod_add_div]
  rw [this]

set_option maxHeartbeats 1000000 in
theorem sliceOfE (w : World) (wd hi dp M q c d : Nat) (bs : List Nat) (hd : d < dp) (hv : vVol wd hi dp M = true) (hp : SlF w (.slice (some ⟨q, 0, none⟩) M c) bs) :
    Calls Tryz.prog 71 #[.agg #[.int .i64 wd, .int .i64 hi, .int .i64 dp, .slice (some ⟨q, 0, none⟩) M c], .int .i64 d] w (MakesSE w wd hi (tab (wd * hi) (slW bs dp d))) := by
  obtain ⟨hM, d1, d2, d3, d4, d5, d6, d7, d8⟩ := vVol_picE hv
  have hN0 : 0 < wd * hi := Nat.mul_pos d1 d3
  have hb0 := (below_two w (.cells #[.int .i64 wd, .int .i64 hi, .int .i64 dp, .slice (some ⟨q, 0, none⟩) M c] 62) (.cells #[.int .i64 d] 2)).alloc (by simp; try omega) (.cells #[.int .i64 0, .int .i64 0, .slice none 0 0] 35)
  have hb1 := alE ((w.alloc (.cells #[.int .i64 wd, .int .i64 hi, .int .i64 dp, .slice (some ⟨q, 0, none⟩) M c] 62)).alloc (.cells #[.int .i64 d] 2)) (.cells #[.int .i64 0, .int .i64 0, .slice none 0 0] 35)
  have B0 := (BoxN.first w #[.int .i64 wd, .int .i64 hi, .int .i64 dp, .slice (some ⟨q, 0, none⟩) M c] 62 (.cells #[.int .i64 d] 2)).below hb1
  have B1 := (BoxN.second w #[.int .i64 d] 2 (.cells #[.int .i64 wd, .int .i64 hi, .int .i64 dp, .slice (some ⟨q, 0, none⟩) M c] 62)).below hb1
  have B2 := BoxN.last ((w.alloc (.cells #[.int .i64 wd, .int .i64 hi, .int .i64 dp, .slice (some ⟨q, 0, none⟩) M c] 62)).alloc (.cells #[.int .i64 d] 2)) #[.int .i64 0, .int .i64 0, .slice none 0 0] 35
  have hsz : ((w.alloc (.cells #[.int .i64 wd, .int .i64 hi, .int .i64 dp, .slice (some ⟨q, 0, none⟩) M c] 62)).alloc (.cells #[.int .i64 d] 2)).heap.size = w.heap.size + 2 := by simp
  rw [hsz] at B2
  have hva : VolAt ((((w.alloc (.cells #[.int .i64 wd, .int .i64 hi, .int .i64 dp, .slice (some ⟨q, 0, none⟩) M c] 62)).alloc (.cells #[.int .i64 d] 2))).alloc (.cells #[.int .i64 0, .int .i64 0, .slice none 0 0] 35)) w.heap.size wd hi dp q 0 M c bs := ⟨B0, hp.below hb0, by rw [hp.leE.1, hM]⟩
  have HP := Lib.hid hva
  have HB0 := Lib.hid hb0
  have HB1 := Lib.hid B1
  have HB2 := Lib.hid B2
  have HD := Lib.hid (And.intro d1 hN0)
  have hin : (decide ((0 : Int) ≤ d) && decide ((d : Int) ≤ dp - 1)) = true := by simp; omega
  have hM2 : M ≤ 2048 := by omega
  clear hb0 hb1 B0 B1 B2 hsz hp hM hva hN0
  go_enter Tryz.func71, Tryz.ntmps71
  go_wp2_with fail
  refine (validVolume_any _ _ _ _ _ _ (by omega) _).mono ?_
  rw [hv]
  rintro e w1 ⟨rfl, hbv⟩
  have hbx := HB0.out.trans (hbv.mono HB0.out.size)
  have C0 := HP.out.below hbv
  have C1 := HB1.out.below hbv
  have C2 := HB2.out.below hbv
  obtain ⟨c0, c1, c2, c3, -, -, -, -⟩ := C0.box.four
  have s0 : w1.cell? ⟨w.heap.size + 1, 0, none⟩ = some (.int .i64 d) := C1.cell 0
  have HG := Lib.hid (made_any w1 wd hi _ _ d2 d4 (slice1E C0 C1 hd d2 d4 d6 d7))
  have HC2 := Lib.hid C2
  have hlt3 := C2.lt
  have HBX := Lib.hid hbx
  clear hbv C0 C1 C2 hbx
  go_wp2_with fail
  refine (in_any _ _ _ _).mono ?_
  rw [hin]
  rintro e w' ⟨rfl, rfl⟩
  clear hin
  go_wp2_with fail
  refine HG.out.mono ?_
  rintro e w2 ⟨a, cc, bs', rfl, hown, hcon, hb2⟩
  have hcon2 := hcon.trans (slice_tab HD.out.1)
  have hl : bs'.length = wd * hi := by have := congrArg List.length hcon2; rwa [List.length_map, tab_length] at this
  rw [hl] at hown ⊢
  obtain ⟨q', rfl⟩ := own_ptrE hown (by rw [hl]; exact HD.out.2)
  obtain ⟨e0, e1, e2, g0, g1, g2⟩ := (HC2.out.below hb2).three.cells
  have hlt4 := (HC2.out.below hb2).lt
  have hbb := HBX.out.trans (hb2.mono HBX.out.size)
  have hq := (hown.lt (k := q') rfl).1
  have hqs : w.heap.size ≤ q' := Nat.le_trans HBX.out.size hq
  have HBS := Lib.hid (And.intro hcon2 hl)
  have HOW := Lib.hid hown
  clear hcon hcon2 hl hown
  go_wp2
  refine bodyPost_ret (v := .tuple #[.agg #[.int .i64 wd, .int .i64 hi, .slice (some ⟨q', 0, none⟩) (wd * hi) cc], .bool true]) (by simp [results, Tryz.results71, go_sem, e0, e1, e2, hlt4]) rfl ?_
  have ho := (((HOW.out.set (by first | omega | (simp; done) | (simp; omega)) (.int .i64 wd) (a := ⟨w.heap.size + 2, 0, none⟩)).set (by first | omega | (simp; done) | (simp; omega)) (.int .i64 hi) (a := ⟨w.heap.size + 2, 1, none⟩)).set (by first | omega | (simp; done) | (simp; omega)) (.slice (some ⟨q', 0, none⟩) (wd * hi) cc) (a := ⟨w.heap.size + 2, 2, none⟩))
  exact ⟨q', cc, bs', rfl, ⟨ho.sl, (ho.lt (k := q') rfl).2, HBS.out.2⟩, hqs, HBS.out.1, ((hbb.setCell (by simp; try omega) _).setCell (by simp; try omega) _).setCell (by simp; try omega) _⟩

theorem info_picE : (Tryz.prog.info? 35).map (fun i => (i.zero, i.size, i.bytes)) = some (some (.agg #[.int .i64 0, .int .i64 0, .slice none 0 0]), 3, 40) := by kernel_rfl
theorem cell_threeE (w : World) (x y z : Value) (t : TypeId) : ∀ j u, [x, y, z][j]? = some u → (w.alloc (.cells #[x, y, z] t)).cell? ((⟨w.heap.size, 0, none⟩ : Addr).add j) = some u := by
  intro j u h
  have hb := BoxN.last w #[x, y, z] t
  match j, h with
  | 0, h => simp at h; subst h; exact hb.cell 0
  | 1, h => simp at h; subst h; exact hb.cell 1
  | 2, h => simp at h; subst h; exact hb.cell 2
  | n + 3, h => simp at h
theorem cell_threeE2 (w : World) (o : Obj) (x y z : Value) (t : TypeId) : ∀ j u, [x, y, z][j]? = some u → ((w.alloc o).alloc (.cells #[x, y, z] t)).cell? ((⟨w.heap.size + 1, 0, none⟩ : Addr).add j) = some u := by
  have := cell_threeE (w.alloc o) x y z t
  simpa using this

/-- Pictures in a list. -/
structure PicE where
  q : Nat
  c : Nat
  qs : List Nat
instance : Inhabited PicE := ⟨⟨0, 0, []⟩⟩
def pvE (wd hi : Nat) (p : PicE) : List Value := [.int .i64 wd, .int .i64 hi, .slice (some ⟨p.q, 0, none⟩) (wd * hi) p.c]
def flatE (wd hi : Nat) : List PicE → List Value
  | [] => []
  | a :: cs => pvE wd hi a ++ flatE wd hi cs
theorem flatE_snoc (wd hi : Nat) (cs : List PicE) (p : PicE) : flatE wd hi (cs ++ [p]) = flatE wd hi cs ++ pvE wd hi p := by
  induction cs with
  | nil => simp [flatE]
  | cons a cs ih => simp [flatE, ih]
theorem flatE_get (wd hi : Nat) : ∀ (cs : List PicE) (d j : Nat), d < cs.length → j < 3 → (flatE wd hi cs)[d * 3 + j]? = (pvE wd hi (cs.getD d default))[j]? := by
  intro cs
  induction cs with
  | nil => intro d j hd; simp at hd
  | cons a cs ih =>
    intro d j hd hj
    cases d with
    | zero =>
      show (pvE wd hi a ++ flatE wd hi cs)[0 * 3 + j]? = _
      rw [List.getElem?_append_left (by simp [pvE]; omega)]
      simp
    | succ d =>
      show (pvE wd hi a ++ flatE wd hi cs)[(d + 1) * 3 + j]? = _
      rw [List.getElem?_append_right (by simp [pvE]; omega)]
      have : (d + 1) * 3 + j - (pvE wd hi a).length = d * 3 + j := by simp [pvE]; omega
      rw [this, ih d j (by simpa using hd) hj]
      rfl

/-- How far a list of pictures is made: the list's box lies at lb, above the bound; pics tells each picture's greys. -/
structure LsE (w1 wr : World) (B lb wd hi : Nat) (G : Nat → List Nat) (d : Nat) (v : Value) (cs : List PicE) : Prop where
  bel : Below B w1 wr
  lbx : BoxN wr lb #[v] 90
  own : wr.ownsRow B 35 3 v d (flatE wd hi cs)
  len : cs.length = d
  far : v.ownBlock ≠ some lb
  hlb : B ≤ lb
  pics : ∀ j, j < d → MWE wr (cs.getD j default).q (cs.getD j default).c (wd * hi) (cs.getD j default).qs ∧ (cs.getD j default).qs.map fl = G j ∧ v.ownBlock ≠ some (cs.getD j default).q ∧ lb ≠ (cs.getD j default).q ∧ B ≤ (cs.getD j default).q

theorem LsE.pic {w1 wr : World} {B lb wd hi d g cap : Nat} {G : Nat → List Nat} {cs : List PicE} (h : LsE w1 wr B lb wd hi G d (.slice (some ⟨g, 0, none⟩) d cap) cs) : ∀ j, j < d → PicI wr g (j * 3) wd hi (.slice (some ⟨(cs.getD j default).q, 0, none⟩) (wd * hi) (cs.getD j default).c) (cs.getD j default).qs := by
  intro j hj
  have hc := fun i (hi3 : i < 3) => World.ownsRow.cellAt h.own (j * 3 + i) (by omega)
  have hf := fun i (hi3 : i < 3) => flatE_get wd hi cs j i (by rw [h.len]; exact hj) hi3
  have e0 := hc 0 (by omega)
  have e1 := hc 1 (by omega)
  have e2 := hc 2 (by omega)
  rw [hf 0 (by omega)] at e0
  rw [hf 1 (by omega)] at e1
  rw [hf 2 (by omega)] at e2
  have hgl := (World.ownsRow.lt h.own g rfl).2
  exact ⟨e0, e1, e2, (h.pics j hj).1.sl, (h.pics j hj).1.len, hgl⟩

/-- A round: a picture is made (w2), boxed or not (w2b), appended (w3), the list stored. -/
theorem LsE.step {w1 wr w2 w2b w3 : World} {B lb wd hi d : Nat} {G : Nat → List Nat} {v : Value} {cs : List PicE} {p : PicE} {gg cap : Nat} (h : LsE w1 wr B lb wd hi G d v cs) (hb : Below wr.heap.size wr w2)
    (hm : MWE w2 p.q p.c (wd * hi) p.qs) (hG : p.qs.map fl = G d) (hq : wr.heap.size ≤ p.q) (ha : Below w2.heap.size w2 w2b)
    (hown : w3.ownsRow B 35 3 (.slice (some ⟨gg, 0, none⟩) (d + 1) cap) (d + 1) (flatE wd hi cs ++ pvE wd hi p))
    (hg : w2b.grownBy w3 v.ownBlock) (hB : B ≤ w1.heap.size)
    (hat : v.ownBlock = some gg ∨ w2b.heap.size ≤ gg) :
    LsE w1 (w3.setCell ⟨lb, 0, none⟩ (.slice (some ⟨gg, 0, none⟩) (d + 1) cap)) B lb wd hi G (d + 1) (.slice (some ⟨gg, 0, none⟩) (d + 1) cap) (cs ++ [p]) := by
  have hlt := h.lbx.lt
  have s1 := hb.size
  have s2 := ha.size
  have s0 := h.bel.size
  have hB2 : B ≤ wr.heap.size := by omega
  have b2 := h.bel.trans (hb.mono hB2)
  have b3 : Below B w1 w3 := (b2.trans (ha.mono (by omega))).grown hg (by omega) (fun k hk => by have := (World.ownsRow.lt h.own k hk).1; omega)
  have hfar : gg ≠ lb := by
    rcases hat with e | e
    · intro e2; exact h.far (by rw [e, e2])
    · omega
  have hs3 := grown_setCell w3 ⟨lb, 0, none⟩ (.slice (some ⟨gg, 0, none⟩) (d + 1) cap)
  refine ⟨b3.setCell h.hlb _, ?_, ?_, by rw [List.length_append, h.len]; rfl, by simpa [Value.ownBlock] using hfar, h.hlb, fun j hj => ?_⟩
  · exact ((((h.lbx.below hb).below ha).grown hg (fun e => h.far e.symm)).set 0 _)
  · rw [flatE_snoc]
    exact World.ownsRow.kept hown hs3 (.inr (by simpa [Value.ownBlock] using hfar))
  · by_cases hjd : j < d
    · have e : (cs ++ [p]).getD j default = cs.getD j default := by rw [List.getD_eq_getElem?_getD, List.getElem?_append_left (by rw [h.len]; exact hjd), List.getD_eq_getElem?_getD]
      rw [e]
      clear e
      obtain ⟨k1, k4, k2, k3, k5⟩ := h.pics j hjd
      have hql := k1.lt
      generalize cs.getD j default = p2 at *
      refine ⟨(((k1.below hb).below ha).grown hg k2).grown hs3 (by simpa using k3), k4, ?_, k3, k5⟩
      · rcases hat with e1 | e1
        · rw [e1] at k2; simpa [Value.ownBlock] using k2
        · simp [Value.ownBlock]; omega
    · obtain rfl : j = d := by omega
      have e : (cs ++ [p]).getD j default = p := by rw [List.getD_eq_getElem?_getD, List.getElem?_append_right (by rw [h.len]; exact Nat.le_refl _), h.len]; simp
      rw [e]
      have hne : v.ownBlock ≠ some p.q := fun e2 => by have := (World.ownsRow.lt h.own p.q e2).2; omega
      have hlq : lb ≠ p.q := by omega
      refine ⟨((hm.below ha).grown hg hne).grown hs3 (by simpa using hlq), hG, ?_, hlq, by omega⟩
      rcases hat with e1 | e1
      · rw [e1] at hne; simpa [Value.ownBlock] using hne
      · have := hm.lt
        simp [Value.ownBlock]; omega
end

section
open Go.RowKit Ieee
set_option maxRecDepth 100000
set_option linter.unusedVariables false
set_option linter.unusedSimpArgs false

def slL (L : List Nat) (dp d i : Nat) : Nat := L.getD (i * dp + d) 0
theorem slW_L (bs : List Nat) (dp d : Nat) : slW bs dp d = slL (bs.map fl) dp d := by
  funext i
  unfold slW slL
  rw [List.getD_eq_getElem?_getD, List.getD_eq_getElem?_getD, List.getElem?_map]
  cases bs[i * dp + d]? <;> rfl
/-- The volume of windows of a volume. -/
def boxT (L : List Nat) (wd hi dp r : Nat) : VolT := ⟨true, wd, hi, dp, tabV wd dp (fun x y d => boxW (slL L dp d) wd hi r x y) (hi * wd * dp)⟩
theorem tab_getD {n i : Nat} {f : Nat → Nat} (h : i < n) : (tab n f).getD i 0 = f i := by
  unfold tab
  rw [List.getD_eq_getElem?_getD, List.getElem?_map, List.getElem?_range h]; rfl
theorem fl_getD {qs : List Nat} {n i : Nat} {f : Nat → Nat} (h : qs.map fl = tab n f) (hi : i < n) : fl (qs.getD i 0) = f i := by
  have e := congrArg (fun l => l.getD i 0) h
  rw [tab_getD hi] at e
  rw [← e, List.getD_eq_getElem?_getD, List.getD_eq_getElem?_getD, List.getElem?_map]
  cases qs[i]? <;> rfl

theorem box1E {W0 : World} {lb rb wd hi dp g cap r : Nat} {L : List Nat} {pv : Nat → Value} {qs : Nat → List Nat} (hl : BoxN W0 lb #[.slice (some ⟨g, 0, none⟩) dp cap] 90) (hr : BoxN W0 rb #[.int .i64 r] 2) (hr3 : r ≤ 3) (hp : ∀ d, d < dp → PicI W0 g (d * 3) wd hi (pv d) (qs d) ∧ (qs d).map fl = tab (wd * hi) (slL L dp d)) (hc1 : dp ≤ cap) (hc2 : cap ≤ 9223372036854775807) (hw0 : 0 < wd) (hh0 : 0 < hi) (hw : wd ≤ 24) (hh : hi ≤ 24) (hd1 : 1 ≤ dp) (hd2 : dp ≤ 8) :
    Gives3 W0 (.func (.func 73) #[] #[.pointer (some ⟨lb, 0, none⟩), .pointer (some ⟨rb, 0, none⟩)]) wd hi dp (fun x y d => boxW (slL L dp d) wd hi r x y) := by
  refine ⟨73, _, rfl, Tryz.call73, fun x y d W hx hy hd hbW => ?_⟩
  have l0 : W.cell? ⟨lb, 0, none⟩ = some (.slice (some ⟨g, 0, none⟩) dp cap) := (hl.below hbW).cell 0
  have r0 : W.cell? ⟨rb, 0, none⟩ = some (.int .i64 r) := (hr.below hbW).cell 0
  obtain ⟨P, hqs⟩ := hp d hd
  have P := P.below hbW
  have K := Lib.hid (fun n => boxedI (W.drewN n) g (d * 3) wd hi (pv d) (qs d) x y r hw0 hh0 hw hh (by omega) (by omega) hr3 (P.drewN n))
  have K0 := Lib.hid (boxedI W.drew g (d * 3) wd hi (pv d) (qs d) x y r hw0 hh0 hw hh (by omega) (by omega) hr3 (P.drewN 1))
  have b1 : (d : Int) < (dp : Int) := by omega
  have HQ := Lib.hid (boxW_congr (F := fun i => fl ((qs d).getD i 0)) (G := slL L dp d) (wd := wd) (hi := hi) (fun i hi_ => fl_getD hqs hi_) hw0 hh0 r x y)
  clear hl hr hp P hbW hqs
  show Calls _ _ #[.int .i64 x, .int .i64 y, .int .i64 d, .pointer (some ⟨lb, 0, none⟩), .pointer (some ⟨rb, 0, none⟩)] _ _
  go_enter Tryz.func73, Tryz.ntmps73
  go_wp2_with fail
  go_region_law (first | (go_simp; (with_reducible refine K0.out.mono ?_); rintro e w' ⟨⟨z, rfl, hz1, hz2⟩, m, rfl⟩) | (go_simp; (with_reducible refine (K.out _).mono ?_); rintro e w' ⟨⟨z, rfl, hz1, hz2⟩, m, rfl⟩))
  all_goals
    go_wp2
    go_ret
    exact ⟨z, rfl, hz1, by rw [hz2]; exact HQ.out, below_drewN (Below.refl _ _) _⟩

set_option maxHeartbeats 2000000 in
theorem boxE (w : World) (wd hi dp M q c r : Nat) (bs : List Nat) (hv : vVol wd hi dp M = true) (hp : SlF w (.slice (some ⟨q, 0, none⟩) M c) bs) (hr : r ≤ 3) :
    Calls Tryz.prog 48 #[.agg #[.int .i64 wd, .int .i64 hi, .int .i64 dp, .slice (some ⟨q, 0, none⟩) M c], .int .i64 r] w (VRes (boxT (bs.map fl) wd hi dp r) w) := by
  obtain ⟨i0, hi0, hz0, hz1, hz2⟩ := info_parts info_picE
  obtain ⟨hM, d1, d2, d3, d4, d5, d6, d7, d8⟩ := vVol_picE hv
  have hb0 := (below_two w (.cells #[.int .i64 wd, .int .i64 hi, .int .i64 dp, .slice (some ⟨q, 0, none⟩) M c] 62) (.cells #[.int .i64 r] 2)).alloc (by simp; try omega) (.cells #[.int .i64 0, .int .i64 0, .int .i64 0, .slice none 0 0] 62)
  have hb1 := alE ((w.alloc (.cells #[.int .i64 wd, .int .i64 hi, .int .i64 dp, .slice (some ⟨q, 0, none⟩) M c] 62)).alloc (.cells #[.int .i64 r] 2)) (.cells #[.int .i64 0, .int .i64 0, .int .i64 0, .slice none 0 0] 62)
  have B0 := (BoxN.first w #[.int .i64 wd, .int .i64 hi, .int .i64 dp, .slice (some ⟨q, 0, none⟩) M c] 62 (.cells #[.int .i64 r] 2)).below hb1
  have B1 := (BoxN.second w #[.int .i64 r] 2 (.cells #[.int .i64 wd, .int .i64 hi, .int .i64 dp, .slice (some ⟨q, 0, none⟩) M c] 62)).below hb1
  have B2 := BoxN.last ((w.alloc (.cells #[.int .i64 wd, .int .i64 hi, .int .i64 dp, .slice (some ⟨q, 0, none⟩) M c] 62)).alloc (.cells #[.int .i64 r] 2)) #[.int .i64 0, .int .i64 0, .int .i64 0, .slice none 0 0] 62
  have hsz : ((w.alloc (.cells #[.int .i64 wd, .int .i64 hi, .int .i64 dp, .slice (some ⟨q, 0, none⟩) M c] 62)).alloc (.cells #[.int .i64 r] 2)).heap.size = w.heap.size + 2 := by simp
  rw [hsz] at B2
  have HP := Lib.hid (hp.below hb0)
  have HB0 := Lib.hid hb0
  have HC0 := Lib.hid B0
  have HB1 := Lib.hid B1
  have HB2 := Lib.hid B2
  have HHM := Lib.hid hM
  have HV := Lib.hid hv
  have hin : (decide ((0 : Int) ≤ r) && decide ((r : Int) ≤ 3)) = true := by simp; omega
  have hM2 : M ≤ 2048 := by omega
  obtain ⟨L, hL⟩ : ∃ L, bs.map fl = L := ⟨_, rfl⟩
  have HL := Lib.hid hL
  rw [hL]
  clear hb0 hb1 B0 B1 B2 hsz hp hM hv hL
  go_enter Tryz.func48, Tryz.ntmps48
  go_wp2_with fail
  refine (validVolume_any _ _ _ _ _ _ (by omega) _).mono ?_
  rw [HV.out]
  rintro e w1 ⟨rfl, hbv⟩
  have hbx := HB0.out.trans (hbv.mono HB0.out.size)
  have C0 := HC0.out.below hbv
  have C1 := HB1.out.below hbv
  have C2 := HB2.out.below hbv
  have CP := HP.out.below hbv
  obtain ⟨c0, c1, c2, c3, -, -, -, -⟩ := C0.four
  have s0 : w1.cell? ⟨w.heap.size + 1, 0, none⟩ = some (.int .i64 r) := C1.cell 0
  have hlt2 := C2.lt
  have KC0 := Lib.hid C0
  have KC1 := Lib.hid C1
  have KC2 := Lib.hid C2
  have KCP := Lib.hid CP
  have KBX := Lib.hid hbx
  clear hbv C0 C1 C2 CP hbx
  go_wp2_with fail
  refine (in_any _ _ _ _).mono ?_
  rw [hin]
  rintro e w' ⟨rfl, rfl⟩
  clear hin
  have hz3 : w.heap.size < w1.heap.size := by omega
  have hz4 : w.heap.size + 1 < w1.heap.size := by omega
  have hz5 : w.heap.size + 1 + 1 < w1.heap.size := by omega
  go_wp2_with fail
  have start : LsE w1 ((w1.alloc (.cells #[] 35)).alloc (.cells #[.slice (some ⟨w1.heap.size, 0, none⟩) 0 0] 90)) w1.heap.size (w1.heap.size + 1) wd hi (fun d => tab (wd * hi) (slL L dp d)) 0 (.slice (some ⟨w1.heap.size, 0, none⟩) 0 0) [] := by
    refine ⟨below_two w1 _ _, BoxN.second w1 _ _ _, ⟨rfl, .inr ⟨w1.heap.size, 0, #[], rfl, Nat.le_refl _, ?_, Nat.le_refl _, by unfold maxLen; omega, rfl, rfl⟩⟩, rfl, by simp [Value.ownBlock], by omega, fun j hj => by omega⟩
    exact heap_alloc_old _ _ (by simp) |>.trans (heap_alloc_new w1 _)
  have START := Lib.hid start
  clear start c0 c1 c2 c3 s0
  go_loopw [22] (fun v22 wr => ∃ (d g cap : Nat) (cs : List PicE), v22 = .int .i64 d ∧ d ≤ dp ∧ LsE w1 wr w1.heap.size (w1.heap.size + 1) wd hi (fun d => tab (wd * hi) (slL L dp d)) d (.slice (some ⟨g, 0, none⟩) d cap) cs) (fun v22 _ => dp - (intOf v22).toNat)
  case atStart => exact ⟨0, _, _, [], rfl, Nat.zero_le _, START.out⟩
  case round =>
    clear START
    obtain ⟨d, g, cap, cs, rfl, hd, hst⟩ := hrel
    have HST := Lib.hid hst
    have hbel := hst.bel
    obtain ⟨c0, c1, c2, c3, -, -, -, -⟩ := (KC0.out.below hbel).four
    have l0 : wr.cell? ⟨w1.heap.size + 1, 0, none⟩ = some (.slice (some ⟨g, 0, none⟩) d cap) := hst.lbx.cell 0
    have hsz := hst.lbx.lt
    have hbs := hbel.size
    by_cases hlt : d < dp
    · have K0 := sliceOfE wr wd hi dp M q c d bs hlt HV.out (KCP.out.below hbel)
      rw [slW_L, HL.out] at K0
      have K := Lib.hid K0
      have HD := Lib.hid hd
      have hcap2 : d ≤ cap ∧ cap ≤ maxLen := by
        rcases hst.own.2 with ⟨h1, _⟩ | ⟨g', cap', cur, h1, h2, h3, h4, h5, h6⟩
        · cases h1
        · simp only [Value.slice.injEq] at h1; omega
      have hcap : d ≤ 8 := by omega
      clear hst hbel l0 hd K0
      go_wp2_with fail
      refine K.out.mono ?_
      rintro e w2 ⟨q', c', qs', rfl, hm, hq, hG, hb2⟩
      have hbx2 := (HST.out.lbx).below hb2
      have l2 : ∀ o, (w2.alloc o).cell? ⟨w1.heap.size + 1, 0, none⟩ = some (.slice (some ⟨g, 0, none⟩) d cap) := fun o => (hbx2.below (alE w2 o)).cell 0
      have ho2 := World.ownsRow.kept HST.out.own (grown_below hb2 none) (.inr (by simp [Value.ownBlock]))
      have hs2 := hb2.size
      have HM := Lib.hid (And.intro hm hG)
      have HQ := Lib.hid hq
      have HB2 := Lib.hid hb2
      have HX2 := Lib.hid hbx2
      have HO2 := Lib.hid ho2
      have hne : some (w1.heap.size + 1) ≠ (Value.slice (some ⟨g, 0, none⟩) d cap).ownBlock := fun e => HST.out.far e.symm
      have HNE := Lib.hid hne
      clear hm hq hb2 hbx2 ho2 c0 c1 c2 c3 hne hG
      go_wp2_with (at_builtin; refine wpList_append_lies _ (by rfl) _ _ _ (by rfl) w1.heap.size 35 i0 _ 3 40 Tryz.underlying90 hi0 hz0 hz1 hz2 rfl (by omega) (.slice (some ⟨g, 0, none⟩) d cap) d _ (by rfl) (World.ownsRow.alloc (World.ownsRow.alloc HO2.out _) _) ⟨w2.heap.size + 1, 0, none⟩ 1 1 (pvE wd hi ⟨q', c', qs'⟩) (by rfl) (by rfl) (cell_threeE2 w2 _ _ _ _ _) (by simp [pvE, Value.oneCell']) (by omega) (by unfold maxLen; omega) (by omega) (by simp; omega) (w2.heap.size + 2) (by simp) ?_; intro gg cap2 w3 hown3 hgrow hat hlt2; have hx3 := (((HX2.out.below (alE w2 (.cells #[.int .i64 wd, .int .i64 hi, .slice (some ⟨q', 0, none⟩) (wd * hi) c'] 35))).below (alE (w2.alloc (.cells #[.int .i64 wd, .int .i64 hi, .slice (some ⟨q', 0, none⟩) (wd * hi) c'] 35)) (.cells #[.int .i64 wd, .int .i64 hi, .slice (some ⟨q', 0, none⟩) (wd * hi) c'] 35))).grown hgrow HNE.out); have z0 : w3.cell? ⟨w1.heap.size + 1, 0, none⟩ = some (.slice (some ⟨g, 0, none⟩) d cap) := hx3.cell 0; have g0 := hx3.free 0)
      go_roundw
      case rel => exact ⟨d + 1, gg, cap2, cs ++ [⟨q', c', qs'⟩], by go_num, by omega, HST.out.step (p := ⟨q', c', qs'⟩) HB2.out HM.out.1 HM.out.2 HQ.out (((Below.refl _ _).alloc (Nat.le_refl _) _).alloc (by simp) _) hown3 hgrow (Nat.le_refl _) (by rcases hat with e | e; exact .inl e; exact .inr (by simp; omega))⟩
      case measure => simp [intOf]; omega
    · obtain rfl : dp = d := by omega
      have hbz := KBX.out.trans (hbel.mono KBX.out.size)
      have hcap2 : dp ≤ cap ∧ cap ≤ maxLen := by
        rcases hst.own.2 with ⟨h1, _⟩ | ⟨g', cap', cur, h1, h2, h3, h4, h5, h6⟩
        · cases h1
        · simp only [Value.slice.injEq] at h1; omega
      have G := box1E (L := L) hst.lbx (KC1.out.below hbel) hr (fun d hd => ⟨hst.pic d hd, (hst.pics d hd).2.1⟩) hcap2.1 (by have := hcap2.2; unfold maxLen at this; omega) d1 d3 d2 d4 d6 d7
      have K := Lib.hid (revolume_ok wr wd hi dp M (some ⟨q, 0, none⟩) c _ _ HV.out G)
      have HC2 := Lib.hid (KC2.out.below hbel)
      have HBZ := Lib.hid hbz
      clear G hst hbel hbz hcap2 HST
      go_wp2_with fail
      refine K.out.mono ?_
      rintro e w2 ⟨q', cc, bs', rfl, hown, hcon, hb2⟩
      obtain ⟨e0, e1, e2, e3, g0, g1, g2, g3⟩ := (HC2.out.below hb2).four
      have hlt3 := (HC2.out.below hb2).lt
      have hsz2 := HC2.out.lt
      have HF := Lib.hid (And.intro hown (And.intro hcon hb2))
      clear hcon hown hb2
      go_wp2
      refine bodyPost_ret (v := .tuple #[.agg #[.int .i64 wd, .int .i64 hi, .int .i64 dp, .slice (some ⟨q', 0, none⟩) bs'.length cc], .bool true]) (by simp [results, Tryz.results48, go_sem, e0, e1, e2, e3, hlt3]) rfl ?_
      exact VRes.of_box (t := boxT L wd hi dp r) HBZ.out hsz2 (by omega) HF.out.1 HF.out.2.1 HF.out.2.2 _ _ _ _
end

end Go.Proofs.YtabbjilgpfnacaaGreat
