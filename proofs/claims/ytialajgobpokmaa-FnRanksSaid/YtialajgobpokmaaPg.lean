/- Pyramids of three pictures. Printed by genpy.py. -/
import Derived.Test.YtialajgobpokmaaPf
namespace Go.Proofs.Ytialajgobpokmaa
open Go.RowKit
set_option maxRecDepth 100000
set_option linter.unusedVariables false
set_option linter.unusedSimpArgs false

theorem info_pic : (Try.prog.info? 26).map (fun i => (i.zero, i.size, i.bytes)) = some (some (.agg #[.int .i64 0, .int .i64 0, .slice none 0 0]), 3, 40) := by kernel_rfl
theorem cell_three_new (w : World) (x y z : Value) (t : TypeId) : ∀ j u, [x, y, z][j]? = some u → (w.alloc (.cells #[x, y, z] t)).cell? ((⟨w.heap.size, 0, none⟩ : Addr).add j) = some u := by
  intro j u h
  have hb := BoxN.last w #[x, y, z] t
  match j, h with
  | 0, h => simp at h; subst h; exact hb.cell 0
  | 1, h => simp at h; subst h; exact hb.cell 1
  | 2, h => simp at h; subst h; exact hb.cell 2
  | (n + 3), h => simp at h
theorem vPic_half {wd hi : Nat} (h : vPic wd hi (wd * hi) = true) : vPic ((wd + 1) / 2 : Nat) ((hi + 1) / 2 : Nat) ((wd + 1) / 2 * ((hi + 1) / 2)) = true := by
  obtain ⟨x1, x2, e1, e2, e3, b1, b2, b3, b4, b5⟩ := vPic_spec h
  have h1 : x1 = wd := by omega
  have h2 : x2 = hi := by omega
  subst h1 h2
  exact vPic_of (by omega) (by omega) (by omega) (by omega) (Nat.le_trans (Nat.mul_le_mul (show (x1 + 1) / 2 ≤ x1 by omega) (show (x2 + 1) / 2 ≤ x2 by omega)) b5)

theorem pyr_self {W0 : World} {pb wd hi : Nat} {v : Value} {bs : List Nat} (h : PicAt W0 pb wd hi v bs 26) (hw : 0 < wd) (hh : 0 < hi) (hw2 : wd ≤ 24) (hh2 : hi ≤ 24) :
    Gives2 W0 (.func (.func 51) #[] #[.pointer (some ⟨pb, 0, none⟩)]) wd hi (fun x y => fl (bs.getD (ix (x : Int) (y : Int) wd hi) 0)) := by
  refine gives_about (fun x y => x) (fun x y => y) h hw hh Try.call51 fun x y W hx hy hp hbW => ?_
  show Calls _ _ #[.int .i64 x, .int .i64 y, .pointer (some ⟨pb, 0, none⟩)] _ _
  go_enter Try.func51, Try.ntmps51
  go_wp2_with fail
  refine (about_any W pb wd hi v bs _ _ hw hh (by omega) (by omega) hp).mono ?_
  rintro e w' ⟨rfl, n, rfl⟩
  go_wp2
  go_ret
  exact ⟨rfl, n, rfl⟩

/-- A picture that lies apart from the block g. -/
structure Apart (W : World) (g wd hi q c : Nat) (bs : List Nat) : Prop where
  ok : PicOk W wd hi (some ⟨q, 0, none⟩) c bs
  lt : q < W.heap.size
  ne : q ≠ g
theorem Apart.below {W W' : World} {g wd hi q c : Nat} {bs : List Nat} (h : Apart W g wd hi q c bs) (hb : Below W.heap.size W W') : Apart W' g wd hi q c bs := ⟨h.ok.below hb, Nat.lt_of_lt_of_le h.lt hb.size, h.ne⟩
theorem Apart.grown {W W' : World} {g g' wd hi q c : Nat} {bs : List Nat} (h : Apart W g wd hi q c bs) (hg : W.grownBy W' (some g)) (hne : g' = g ∨ W.heap.size ≤ g') : Apart W' g' wd hi q c bs :=
  ⟨⟨h.ok.v, ⟨h.ok.sl.1.grown hg (.inr (by simpa [Value.ownBlock] using h.ne)), h.ok.sl.2⟩, h.ok.len⟩, Nat.lt_of_lt_of_le h.lt hg.size, by rcases hne with e | e <;> have := h.lt <;> have := h.ne <;> omega⟩
def pv (wd hi q c n : Nat) : List Value := [.int .i64 wd, .int .i64 hi, .slice (some ⟨q, 0, none⟩) n c]

/-- How far a pyramid is made: 0. -/
def Pyr0 (w wr : World) (A0 B0 : Nat) (bs : List Nat) (v : Value) : Prop := ∃ g cap : Nat, v = .slice (some ⟨g, 0, none⟩) 1 cap ∧ ∃ (q0 k0 : Nat) (bs0 : List Nat), wr.ownsRow w.heap.size 26 3 (.slice (some ⟨g, 0, none⟩) 1 cap) 1 (pv A0 B0 q0 k0 bs0.length) ∧ Apart wr g A0 B0 q0 k0 bs0 ∧ bs0.map fl = tab (B0 * A0) (fun i => (fun x y => fl (bs.getD (ix (x : Int) (y : Int) A0 B0) 0)) (i % A0) (i / A0))

/-- How far a pyramid is made: 1. -/
def Pyr1 (w wr : World) (A0 B0 : Nat) (bs : List Nat) (v : Value) : Prop := ∃ g cap : Nat, v = .slice (some ⟨g, 0, none⟩) 2 cap ∧ ∃ (q0 k0 A1 B1 q1 k1 : Nat) (bs0 bs1 : List Nat), wr.ownsRow w.heap.size 26 3 (.slice (some ⟨g, 0, none⟩) 2 cap) 2 (pv A0 B0 q0 k0 bs0.length ++ pv A1 B1 q1 k1 bs1.length) ∧ Apart wr g A0 B0 q0 k0 bs0 ∧ Apart wr g A1 B1 q1 k1 bs1 ∧ A1 = (A0 + 1) / 2 ∧ B1 = (B0 + 1) / 2 ∧ bs0.map fl = tab (B0 * A0) (fun i => (fun x y => fl (bs.getD (ix (x : Int) (y : Int) A0 B0) 0)) (i % A0) (i / A0)) ∧ bs1.map fl = tab (B1 * A1) (fun i => halfG bs0 A0 B0 (i % A1) (i / A1))

/-- How far a pyramid is made: 2. -/
def Pyr2 (w wr : World) (A0 B0 : Nat) (bs : List Nat) (v : Value) : Prop := ∃ g cap : Nat, v = .slice (some ⟨g, 0, none⟩) 3 cap ∧ ∃ (q0 k0 A1 B1 q1 k1 A2 B2 q2 k2 : Nat) (bs0 bs1 bs2 : List Nat), wr.ownsRow w.heap.size 26 3 (.slice (some ⟨g, 0, none⟩) 3 cap) 3 (pv A0 B0 q0 k0 bs0.length ++ pv A1 B1 q1 k1 bs1.length ++ pv A2 B2 q2 k2 bs2.length) ∧ Apart wr g A0 B0 q0 k0 bs0 ∧ Apart wr g A1 B1 q1 k1 bs1 ∧ Apart wr g A2 B2 q2 k2 bs2 ∧ A1 = (A0 + 1) / 2 ∧ B1 = (B0 + 1) / 2 ∧ A2 = (A1 + 1) / 2 ∧ B2 = (B1 + 1) / 2 ∧ bs0.map fl = tab (B0 * A0) (fun i => (fun x y => fl (bs.getD (ix (x : Int) (y : Int) A0 B0) 0)) (i % A0) (i / A0)) ∧ bs1.map fl = tab (B1 * A1) (fun i => halfG bs0 A0 B0 (i % A1) (i / A1)) ∧ bs2.map fl = tab (B2 * A2) (fun i => halfG bs1 A1 B1 (i % A2) (i / A2))

set_option maxHeartbeats 4000000 in
theorem pyramid_ok (w : World) (A0 B0 : Nat) (sa : Option Addr) (c : Nat) (bs : List Nat) (h : PicOk w A0 B0 sa c bs) :
    Calls Try.prog 16 #[.agg #[.int .i64 A0, .int .i64 B0, .slice sa bs.length c], .int .i64 3] w fun e w' => ∃ v, e = .returned (.tuple #[v, .bool true]) ∧ Pyr2 w w' A0 B0 bs v ∧ Below w.heap.size w w' := by
  obtain ⟨i0, hi0, hz0, hz1, hz2⟩ := info_parts info_pic
  obtain ⟨d1, d2, d3, d4, d5⟩ := h.dims
  have hV := h.vl
  have hL : bs.length ≤ 256 := by rw [h.len]; omega
  have hb0 := alb1 w (.cells #[.int .i64 A0, .int .i64 B0, .slice sa bs.length c] 26)
  have hX := box_last w (.int .i64 A0) (.int .i64 B0) (.slice sa bs.length c) 26
  have HH := Lib.hid h
  go_enter Try.func16, Try.ntmps16
  go_wp2_with fail
  refine (in_any _ _ _ _).mono ?_
  rintro e w1 ⟨rfl, rfl⟩
  go_wp2_with fail
  refine (validPicture_any _ _ _ _ _ (by omega) _).mono ?_
  rw [hV]
  rintro e w1 ⟨rfl, hb1⟩
  have hbb := hb0.trans (hb1.mono hb0.size)
  have hX1 := hX.below hb1
  obtain ⟨z0, z1, z2, -, -, -⟩ := hX1.cells
  have hP := HH.out.at hbb hX1
  have K := Lib.hid (remade_ok w1 A0 B0 bs.length sa c _ _ hV (pyr_self hP d1 d2 d3 d4))
  have HBB := Lib.hid hbb
  clear hb0 hX hb1 hX1 hP h hbb
  go_wp2_with fail
  refine K.out.mono ?_
  rintro e w2 ⟨a, k0, bs0, rfl, hown, hcon, hb2⟩
  have hbel := HBB.out.trans (hb2.mono HBB.out.size)
  have hlen := tab_len hcon
  have hpos : 0 < bs0.length := by rw [hlen]; exact Nat.mul_pos d1 d2
  obtain ⟨q0, rfl⟩ := own_ptr hown hpos
  have hqB := hown.lt (k := q0) rfl
  have hv2 : vPic A0 B0 (A0 * B0) = true := HH.out.v
  have hp : PicOk w2 A0 B0 (some ⟨q0, 0, none⟩) k0 bs0 := ⟨hv2, hown.sl, hlen⟩
  obtain ⟨M, hM⟩ : ∃ M, M = bs0.length := ⟨_, rfl⟩
  have HM := Lib.hid hM
  rw [← hM]
  have ha1 := alb1 w2 (.cells #[.int .i64 A0, .int .i64 B0, .slice (some ⟨q0, 0, none⟩) M k0] 26)
  have ha2 := alb1 (w2.alloc (.cells #[.int .i64 A0, .int .i64 B0, .slice (some ⟨q0, 0, none⟩) M k0] 26)) (.cells #[.int .i64 A0, .int .i64 B0, .slice (some ⟨q0, 0, none⟩) M k0] 26)
  have hbf : Below w.heap.size w ((w2.alloc (.cells #[.int .i64 A0, .int .i64 B0, .slice (some ⟨q0, 0, none⟩) M k0] 26)).alloc (.cells #[.int .i64 A0, .int .i64 B0, .slice (some ⟨q0, 0, none⟩) M k0] 26)) := (hbel.trans (ha1.mono hbel.size)).trans (ha2.mono (Nat.le_trans hbel.size ha1.size))
  have start : Pyr0 w ((w2.alloc (.cells #[.int .i64 A0, .int .i64 B0, .slice (some ⟨q0, 0, none⟩) M k0] 26)).alloc (.cells #[.int .i64 A0, .int .i64 B0, .slice (some ⟨q0, 0, none⟩) M k0] 26)) A0 B0 bs (.slice (some ⟨w2.heap.size + 1, 0, none⟩) 1 1) := by
    refine ⟨w2.heap.size + 1, 1, rfl, q0, k0, bs0, ⟨rfl, .inr ⟨w2.heap.size + 1, 1, #[.int .i64 A0, .int .i64 B0, .slice (some ⟨q0, 0, none⟩) M k0], rfl, ?_, ?_, by omega, by unfold maxLen; omega, ?_, ?_⟩⟩, ⟨(hp.below ha1).below ha2, by simp; omega, by omega⟩, hcon⟩
    · have := hbel.size; omega
    · have := heap_alloc_new (w2.alloc (.cells #[.int .i64 A0, .int .i64 B0, .slice (some ⟨q0, 0, none⟩) M k0] 26)) (.cells #[.int .i64 A0, .int .i64 B0, .slice (some ⟨q0, 0, none⟩) M k0] 26)
      simpa using this
    · rfl
    · rw [HM.out]; rfl
  have START := Lib.hid start
  have HBF := Lib.hid hbf
  clear start hbf ha1 ha2 hp hown hcon hbel hb2 K HBB hM
  go_wp2_with fail
  go_loopw [27, 8] (fun v27 v8 wr => ∃ k : Nat, v27 = .int .i64 k ∧ k ≤ 2 ∧ Below w.heap.size w wr ∧ (match k with | 0 => Pyr0 w wr A0 B0 bs v8 | 1 => Pyr1 w wr A0 B0 bs v8 | _ => Pyr2 w wr A0 B0 bs v8)) (fun v27 _ _ => 2 - (intOf v27).toNat)
  case atStart => exact ⟨0, rfl, by omega, HBF.out, START.out⟩
  case round =>
    clear START HBF
    obtain ⟨k, rfl, hk, hbel, hst⟩ := hrel
    obtain rfl | rfl | rfl : k = 0 ∨ k = 1 ∨ k = 2 := by omega
    · obtain ⟨g, cap, rfl, q0, k0, bs0, ho, p0, c0⟩ := hst
      have hcap : 1 ≤ cap ∧ cap ≤ maxLen := by
        rcases ho.2 with ⟨h1, _⟩ | ⟨g', cap', cur, h1, h2, h3, h4, h5, h6⟩
        · cases h1
        · simp only [Value.slice.injEq] at h1; omega
      have hgB := World.ownsRow.lt ho g rfl
      have z0 := World.ownsRow.cells (g := g) ho rfl 0 (.int .i64 A0) (by rfl)
      have z1 := World.ownsRow.cells (g := g) ho rfl 1 (.int .i64 B0) (by rfl)
      have z2 := World.ownsRow.cells (g := g) ho rfl 2 (.slice (some ⟨q0, 0, none⟩) bs0.length k0) (by rfl)
      simp [Addr.add] at z0 z1 z2
      have HOW := Lib.hid ho
      have HBEL := Lib.hid hbel
      have hsz := hbel.size
      have P0 := Lib.hid p0
      have C0 := Lib.hid c0
      have K := Lib.hid (halved_ok wr A0 B0 (some ⟨q0, 0, none⟩) k0 bs0 p0.ok)
      have HV := Lib.hid (vPic_half p0.ok.v)
      clear ho hbel p0 c0
      generalize hA : (A0 + 1) / 2 = A1 at K HV
      generalize hB : (B0 + 1) / 2 = B1 at K HV
      have HA := Lib.hid hA
      have HB := Lib.hid hB
      clear hA hB
      go_wp2_with fail
      refine K.out.mono ?_
      rintro e w1 ⟨a, k1, bs1, rfl, hown, hcon, hb1⟩
      have hlen := tab_len hcon
      have hpos : 0 < bs1.length := by
        obtain ⟨x1, x2, x3, x4, x5⟩ := (show PicOk w1 A1 B1 a k1 bs1 from ⟨HV.out, hown.sl, hlen⟩).dims
        rw [hlen]; exact Nat.mul_pos x1 x2
      obtain ⟨q1, rfl⟩ := own_ptr hown hpos
      have hqB := hown.lt (k := q1) rfl
      have pn : Apart w1 g A1 B1 q1 k1 bs1 := ⟨⟨HV.out, hown.sl, hlen⟩, hqB.2, by omega⟩
      have PN := Lib.hid pn
      have CN := Lib.hid hcon
      have ho1 := World.ownsRow.kept HOW.out (grown_below hb1 none) (.inr (by simp [Value.ownBlock]))
      have hbel1 := HBEL.out.trans (hb1.mono HBEL.out.size)
      have hsz1 := hb1.size
      have Q0 := Lib.hid (P0.out.below hb1)
      have HB1 := Lib.hid hbel1
      have HO1 := Lib.hid ho1
      clear hown hcon hb1 pn hbel1 hlen ho1 z0 z1 z2
      generalize hn1 : bs1.length = n1 at *
      go_wp2_with (at_builtin; refine wpList_append_lies _ (by rfl) _ _ _ (by rfl) w.heap.size 26 i0 _ 3 40 Try.underlying35 hi0 hz0 hz1 hz2 rfl (by omega) (.slice (some ⟨g, 0, none⟩) 1 cap) 1 _ (by rfl) (World.ownsRow.alloc HO1.out _) ⟨w1.heap.size, 0, none⟩ 1 1 (pv A1 B1 q1 k1 n1) (by rfl) (by rfl) (cell_three_new _ _ _ _ _) (by simp [pv, Value.oneCell']) (by omega) (by unfold maxLen; omega) (by omega) (by simp; omega) (w1.heap.size + 1) (by simp) ?_; intro gg cap2 w2 hown2 hgrow hat hlt2)
      go_roundw
      case rel =>
        have hgg : gg = g ∨ w1.heap.size + 1 ≤ gg := by
          rcases hat with e | e
          · simp [Value.ownBlock] at e; exact .inl e.symm
          · exact .inr (by omega)
        have hal := alb1 w1 (.cells #[.int .i64 A1, .int .i64 B1, .slice (some ⟨q1, 0, none⟩) n1 k1] 26)
        have hgr : (w1.alloc (.cells #[.int .i64 A1, .int .i64 B1, .slice (some ⟨q1, 0, none⟩) n1 k1] 26)).grownBy w2 (some g) := hgrow
        have hbf : Below w.heap.size w w2 := (HB1.out.trans (hal.mono HB1.out.size)).grown hgr (by simp; omega) (fun k hk => by injection hk with e; omega)
        refine ⟨1, by go_num, by omega, hbf, ?_⟩
        show Pyr1 w w2 A0 B0 bs _
        refine ⟨gg, cap2, rfl, q0, k0, A1, B1, q1, k1, bs0, bs1, ?_, (Q0.out.below hal).grown hgr (by simp; omega), (PN.out.below hal).grown hgr (by simp; omega), HA.out.symm, HB.out.symm, C0.out, CN.out⟩
        · have := hown2
          rw [← hn1] at this
          exact this
      case measure => simp [intOf]
    · obtain ⟨g, cap, rfl, q0, k0, A1, B1, q1, k1, bs0, bs1, ho, p0, p1, ea1, eb1, c0, c1⟩ := hst
      have hcap : 2 ≤ cap ∧ cap ≤ maxLen := by
        rcases ho.2 with ⟨h1, _⟩ | ⟨g', cap', cur, h1, h2, h3, h4, h5, h6⟩
        · cases h1
        · simp only [Value.slice.injEq] at h1; omega
      have hgB := World.ownsRow.lt ho g rfl
      have z0 := World.ownsRow.cells (g := g) ho rfl 3 (.int .i64 A1) (by rfl)
      have z1 := World.ownsRow.cells (g := g) ho rfl 4 (.int .i64 B1) (by rfl)
      have z2 := World.ownsRow.cells (g := g) ho rfl 5 (.slice (some ⟨q1, 0, none⟩) bs1.length k1) (by rfl)
      simp [Addr.add] at z0 z1 z2
      have HOW := Lib.hid ho
      have HBEL := Lib.hid hbel
      have hsz := hbel.size
      have P0 := Lib.hid p0
      have C0 := Lib.hid c0
      have P1 := Lib.hid p1
      have C1 := Lib.hid c1
      have EA1 := Lib.hid ea1
      have EB1 := Lib.hid eb1
      have K := Lib.hid (halved_ok wr A1 B1 (some ⟨q1, 0, none⟩) k1 bs1 p1.ok)
      have HV := Lib.hid (vPic_half p1.ok.v)
      clear ho hbel p0 c0 p1 c1 ea1 eb1
      generalize hA : (A1 + 1) / 2 = A2 at K HV
      generalize hB : (B1 + 1) / 2 = B2 at K HV
      have HA := Lib.hid hA
      have HB := Lib.hid hB
      clear hA hB
      go_wp2_with fail
      refine K.out.mono ?_
      rintro e w1 ⟨a, k2, bs2, rfl, hown, hcon, hb1⟩
      have hlen := tab_len hcon
      have hpos : 0 < bs2.length := by
        obtain ⟨x1, x2, x3, x4, x5⟩ := (show PicOk w1 A2 B2 a k2 bs2 from ⟨HV.out, hown.sl, hlen⟩).dims
        rw [hlen]; exact Nat.mul_pos x1 x2
      obtain ⟨q2, rfl⟩ := own_ptr hown hpos
      have hqB := hown.lt (k := q2) rfl
      have pn : Apart w1 g A2 B2 q2 k2 bs2 := ⟨⟨HV.out, hown.sl, hlen⟩, hqB.2, by omega⟩
      have PN := Lib.hid pn
      have CN := Lib.hid hcon
      have ho1 := World.ownsRow.kept HOW.out (grown_below hb1 none) (.inr (by simp [Value.ownBlock]))
      have hbel1 := HBEL.out.trans (hb1.mono HBEL.out.size)
      have hsz1 := hb1.size
      have Q0 := Lib.hid (P0.out.below hb1)
      have Q1 := Lib.hid (P1.out.below hb1)
      have HB1 := Lib.hid hbel1
      have HO1 := Lib.hid ho1
      clear hown hcon hb1 pn hbel1 hlen ho1 z0 z1 z2
      generalize hn2 : bs2.length = n2 at *
      go_wp2_with (at_builtin; refine wpList_append_lies _ (by rfl) _ _ _ (by rfl) w.heap.size 26 i0 _ 3 40 Try.underlying35 hi0 hz0 hz1 hz2 rfl (by omega) (.slice (some ⟨g, 0, none⟩) 2 cap) 2 _ (by rfl) (World.ownsRow.alloc HO1.out _) ⟨w1.heap.size, 0, none⟩ 1 1 (pv A2 B2 q2 k2 n2) (by rfl) (by rfl) (cell_three_new _ _ _ _ _) (by simp [pv, Value.oneCell']) (by omega) (by unfold maxLen; omega) (by omega) (by simp; omega) (w1.heap.size + 1) (by simp) ?_; intro gg cap2 w2 hown2 hgrow hat hlt2)
      go_roundw
      case rel =>
        have hgg : gg = g ∨ w1.heap.size + 1 ≤ gg := by
          rcases hat with e | e
          · simp [Value.ownBlock] at e; exact .inl e.symm
          · exact .inr (by omega)
        have hal := alb1 w1 (.cells #[.int .i64 A2, .int .i64 B2, .slice (some ⟨q2, 0, none⟩) n2 k2] 26)
        have hgr : (w1.alloc (.cells #[.int .i64 A2, .int .i64 B2, .slice (some ⟨q2, 0, none⟩) n2 k2] 26)).grownBy w2 (some g) := hgrow
        have hbf : Below w.heap.size w w2 := (HB1.out.trans (hal.mono HB1.out.size)).grown hgr (by simp; omega) (fun k hk => by injection hk with e; omega)
        refine ⟨2, by go_num, by omega, hbf, ?_⟩
        show Pyr2 w w2 A0 B0 bs _
        refine ⟨gg, cap2, rfl, q0, k0, A1, B1, q1, k1, A2, B2, q2, k2, bs0, bs1, bs2, ?_, (Q0.out.below hal).grown hgr (by simp; omega), (Q1.out.below hal).grown hgr (by simp; omega), (PN.out.below hal).grown hgr (by simp; omega), EA1.out, EB1.out, HA.out.symm, HB.out.symm, C0.out, C1.out, CN.out⟩
        · have := hown2
          rw [← hn2] at this
          exact this
      case measure => simp [intOf]
    · have HST := Lib.hid hst
      have HBEL := Lib.hid hbel
      obtain ⟨g, cap, rfl, -⟩ := hst
      clear hbel
      go_wp2
      go_ret2
      exact ⟨_, rfl, HST.out, HBEL.out⟩

end Go.Proofs.Ytialajgobpokmaa
