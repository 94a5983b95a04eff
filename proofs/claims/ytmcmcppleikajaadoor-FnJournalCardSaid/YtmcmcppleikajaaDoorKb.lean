/- Two pictures of one size that the laws draw, by words. -/
import Derived.Test.YtmcmcppleikajaaDoorKa
import Derived.RegionTactic
import Derived.BigRegion
import Derived.Deep.LoopGhost
namespace Go.Proofs.YtmcmcppleikajaaDoor
open Go.RowKit
set_option maxRecDepth 100000
set_option linter.unusedVariables false
set_option linter.unusedSimpArgs false

/-- Two pictures of one size. -/
def MakesPair (L sb U : Nat) (w : World) (e : Ending) (w' : World) : Prop :=
  ∃ (wd hi N q1 c1 q2 c2 : Nat) (bs1 bs2 : List Nat), e = .returned (.tuple #[.agg #[.int .i64 wd, .int .i64 hi, .slice (some ⟨q1, 0, none⟩) N c1], .agg #[.int .i64 wd, .int .i64 hi, .slice (some ⟨q2, 0, none⟩) N c2]]) ∧ N = wd * hi ∧ 2 ≤ wd ∧ wd ≤ 6 ∧ 1 ≤ hi ∧ hi ≤ 4 ∧ bs1.length = N ∧ bs2.length = N ∧
    SlF w' (.slice (some ⟨q1, 0, none⟩) N c1) bs1 ∧ SlF w' (.slice (some ⟨q2, 0, none⟩) N c2) bs2 ∧ w.heap.size ≤ q1 ∧ w.heap.size ≤ q2 ∧ q1 < w'.heap.size ∧ q2 < w'.heap.size ∧ Drew L sb U w w'

theorem SlF.grownK {w w' : World} {b n c : Nat} {bs : List Nat} {r : Option Nat} (h : SlF w (.slice (some ⟨b, 0, none⟩) n c) bs) (hg : w.grownBy w' r) (hne : some b ≠ r) : SlF w' (.slice (some ⟨b, 0, none⟩) n c) bs := ⟨h.1.grown hg (.inr hne), h.2⟩

theorem SlF.cellAtK {w : World} {b n c : Nat} {bs : List Nat} (h : SlF w (.slice (some ⟨b, 0, none⟩) n c) bs) (i : Nat) (hi : i < bs.length) : w.cell? ⟨b, i, none⟩ = some (.float .f32 (bs.getD i 0)) := by
  obtain ⟨b', off', cap', h1, h2, h3⟩ := h.form (by intro e; rw [e] at hi; simp at hi)
  simp only [Value.slice.injEq, Option.some.injEq, Addr.mk.injEq, and_true] at h1
  obtain ⟨⟨rfl, rfl⟩, -, -⟩ := h1
  have := h3 i hi
  rw [Nat.zero_add] at this
  rw [this, getD_of bs i hi]
theorem OwnF.freeK {w : World} {B g n cap : Nat} {bs : List Nat} (h : OwnF w B (.slice (some ⟨g, 0, none⟩) n cap) bs) (i : Nat) : w.frozen? ⟨g, i, none⟩ = false := by
  obtain ⟨h1, -⟩ := h
  have e : n = bs.length := by
    rcases h1.2 with ⟨h, _⟩ | ⟨g', cap', cur, e1, _⟩
    · cases h
    · injection e1
  subst e
  exact World.ownsRow.frozenAt h1 i
/-- What stands between two steps of the drawing of a pair. -/
structure PairSt (w wr : World) (L sb U oa ob wd hi N q1 c1 q2 c2 : Nat) (bs1 bs2 : List Nat) : Prop where
  gr : w.grownBy wr (some sb)
  src : SrcOk wr L sb U
  r1 : Box3 wr w.heap.size (.int .i64 0) (.int .i64 0) (.slice none 0 0) 28
  r2 : Box3 wr (w.heap.size + 1) (.int .i64 0) (.int .i64 0) (.slice none 0 0) 28
  ba : Box3 wr oa (.int .i64 wd) (.int .i64 hi) (.slice (some ⟨q1, 0, none⟩) N c1) 28
  bb : Box3 wr ob (.int .i64 wd) (.int .i64 hi) (.slice (some ⟨q2, 0, none⟩) N c2) 28
  sa : SlF wr (.slice (some ⟨q1, 0, none⟩) N c1) bs1
  o2 : OwnF wr (w.heap.size + 2) (.slice (some ⟨q2, 0, none⟩) N c2) bs2
  l1 : bs1.length = N
  l2 : bs2.length = N
  ql : w.heap.size + 2 ≤ q1 ∧ q1 < wr.heap.size
  lt : sb < w.heap.size ∧ L ≤ w.heap.size
  ne : w.heap.size + 2 ≤ oa ∧ w.heap.size + 2 ≤ ob ∧ q1 ≠ q2 ∧ q2 ≠ oa ∧ q2 ≠ ob
theorem PairSt.draw {w wr w' : World} {L sb U V oa ob wd hi N q1 c1 q2 c2 : Nat} {bs1 bs2 : List Nat} (h : PairSt w wr L sb U oa ob wd hi N q1 c1 q2 c2 bs1 bs2) (hd : Drew L sb V wr w') : PairSt w w' L sb V oa ob wd hi N q1 c1 q2 c2 bs1 bs2 := by
  have hl := h.lt
  have hn := h.ne
  have hq := h.ql
  have hq2 := (h.o2.lt (k := q2) rfl).1
  have g := hd.grown
  have ne : ∀ k, w.heap.size ≤ k → some k ≠ some sb := fun k hk e => by injection e with e; omega
  exact ⟨grown_trans h.gr g, hd.ok, h.r1.grown g (ne _ (by omega)), h.r2.grown g (ne _ (by omega)), h.ba.grown g (ne _ (by omega)), h.bb.grown g (ne _ (by omega)), h.sa.grownK g (ne _ (by omega)), h.o2.grown g (.inr (ne q2 (by omega))), h.l1, h.l2, ⟨hq.1, Nat.lt_of_lt_of_le hq.2 g.size⟩, h.lt, h.ne⟩
theorem PairSt.put {w wr : World} {L sb U oa ob wd hi N q1 c1 q2 c2 : Nat} {bs1 bs2 : List Nat} (h : PairSt w wr L sb U oa ob wd hi N q1 c1 q2 c2 bs1 bs2) (i : Nat) {r : Nat} (hr : r < 4294967296) : PairSt w (wr.setCell ⟨q2, i, none⟩ (.float .f32 r)) L sb U oa ob wd hi N q1 c1 q2 c2 bs1 (bs2.set i r) := by
  have hl := h.lt
  have hn := h.ne
  have hq := h.ql
  have hq2 := (h.o2.lt (k := q2) rfl).1
  have g := grown_setCell wr ⟨q2, i, none⟩ (.float .f32 r)
  have ne : ∀ k, k ≠ q2 → some k ≠ some q2 := fun k hk e => by injection e with e; exact hk e
  exact ⟨grown_new h.gr g (fun k hk => by injection hk with hk; have hk2 : q2 = k := hk; omega), h.src.grown g (ne _ (by omega)) (fun k hk => by injection hk with hk; have hk2 : q2 = k := hk; omega), h.r1.grown g (ne _ (by omega)), h.r2.grown g (ne _ (by omega)), h.ba.grown g (ne _ (by omega)), h.bb.grown g (ne _ (by omega)), h.sa.grownK g (ne _ (by omega)), h.o2.put i hr, h.l1, by rw [List.length_set]; exact h.l2, ⟨hq.1, by simpa using hq.2⟩, h.lt, h.ne⟩

/-- What is left of it. -/
structure PairF (w wr : World) (L sb U N q1 c1 q2 c2 : Nat) (bs1 bs2 : List Nat) : Prop where
  gr : w.grownBy wr (some sb)
  src : SrcOk wr L sb U
  sa : SlF wr (.slice (some ⟨q1, 0, none⟩) N c1) bs1
  sb_ : SlF wr (.slice (some ⟨q2, 0, none⟩) N c2) bs2
  l1 : w.heap.size + 2 ≤ q1 ∧ q1 < wr.heap.size
  l2 : w.heap.size + 2 ≤ q2 ∧ q2 < wr.heap.size
  lt : sb < w.heap.size ∧ L ≤ w.heap.size
theorem PairSt.fin {w wr : World} {L sb U oa ob wd hi N q1 c1 q2 c2 : Nat} {bs1 bs2 : List Nat} (h : PairSt w wr L sb U oa ob wd hi N q1 c1 q2 c2 bs1 bs2) : PairF w wr L sb U N q1 c1 q2 c2 bs1 bs2 :=
  ⟨h.gr, h.src, h.sa, h.o2.sl, h.ql, h.o2.lt (k := q2) rfl, h.lt⟩
theorem PairF.set {w wr : World} {L sb U N q1 c1 q2 c2 : Nat} {bs1 bs2 : List Nat} (h : PairF w wr L sb U N q1 c1 q2 c2 bs1 bs2) (b i : Nat) (v : Value) (h1 : w.heap.size ≤ b) (h2 : b < w.heap.size + 2) : PairF w (wr.setCell ⟨b, i, none⟩ v) L sb U N q1 c1 q2 c2 bs1 bs2 := by
  have g := grown_setCell wr ⟨b, i, none⟩ v
  have hl := h.lt
  have a1 := h.l1
  have a2 := h.l2
  have ne : ∀ k, k ≠ b → some k ≠ some b := fun k hk e => by injection e with e; exact hk e
  exact ⟨grown_new h.gr g (fun k hk => by injection hk with hk; have hk2 : b = k := hk; omega), h.src.grown g (ne _ (by omega)) (fun k hk => by injection hk with hk; have hk2 : b = k := hk; omega), h.sa.grownK g (ne q1 (by omega)), h.sb_.grownK g (ne q2 (by omega)), ⟨a1.1, by simpa using a1.2⟩, ⟨a2.1, by simpa using a2.2⟩, h.lt⟩
theorem PairF.end {w wr : World} {L sb U V wd hi N q1 c1 q2 c2 : Nat} {bs1 bs2 : List Nat} (h : PairF w wr L sb U N q1 c1 q2 c2 bs1 bs2) (hV : U ≤ V) (hN : N = wd * hi) (v1 : 2 ≤ wd) (v2 : wd ≤ 6) (v3 : 1 ≤ hi) (v4 : hi ≤ 4) (l1 : bs1.length = N) (l2 : bs2.length = N) :
    MakesPair L sb V w (.returned (.tuple #[.agg #[.int .i64 wd, .int .i64 hi, .slice (some ⟨q1, 0, none⟩) N c1], .agg #[.int .i64 wd, .int .i64 hi, .slice (some ⟨q2, 0, none⟩) N c2]])) (((((((wr.setCell ⟨w.heap.size, 0, none⟩ (.int .i64 wd)).setCell ⟨w.heap.size, 1, none⟩ (.int .i64 hi)).setCell ⟨w.heap.size, 2, none⟩ (.slice (some ⟨q1, 0, none⟩) N c1)).setCell ⟨w.heap.size + 1, 0, none⟩ (.int .i64 wd)).setCell ⟨w.heap.size + 1, 1, none⟩ (.int .i64 hi)).setCell ⟨w.heap.size + 1, 2, none⟩ (.slice (some ⟨q2, 0, none⟩) N c2)).drew) := by
  have k := (((((h.set w.heap.size 0 (.int .i64 wd) (Nat.le_refl _) (by omega)).set w.heap.size 1 (.int .i64 hi) (Nat.le_refl _) (by omega)).set w.heap.size 2 (.slice (some ⟨q1, 0, none⟩) N c1) (Nat.le_refl _) (by omega)).set (w.heap.size + 1) 0 (.int .i64 wd) (by omega) (by omega)).set (w.heap.size + 1) 1 (.int .i64 hi) (by omega) (by omega)).set (w.heap.size + 1) 2 (.slice (some ⟨q2, 0, none⟩) N c2) (by omega) (by omega)
  have a1 := k.l1
  have a2 := k.l2
  generalize (((((wr.setCell ⟨w.heap.size, 0, none⟩ (.int .i64 wd)).setCell ⟨w.heap.size, 1, none⟩ (.int .i64 hi)).setCell ⟨w.heap.size, 2, none⟩ (.slice (some ⟨q1, 0, none⟩) N c1)).setCell ⟨w.heap.size + 1, 0, none⟩ (.int .i64 wd)).setCell ⟨w.heap.size + 1, 1, none⟩ (.int .i64 hi)).setCell ⟨w.heap.size + 1, 2, none⟩ (.slice (some ⟨q2, 0, none⟩) N c2) = wz at *
  show MakesPair L sb V w _ (wz.drewN 1)
  exact ⟨wd, hi, N, q1, c1, q2, c2, bs1, bs2, rfl, hN, v1, v2, v3, v4, l1, l2, ⟨k.sa.1.drewN 1, k.sa.2⟩, ⟨k.sb_.1.drewN 1, k.sb_.2⟩, by omega, by omega, a1.2, a2.2, ⟨k.src.mono hV, grown_trans k.gr (grown_drewN _ 1 _)⟩⟩

set_option maxHeartbeats 4000000 in
theorem l02DrawPair_any (w : World) {L : Nat} (sb U : Nat) (hs : SrcOk w L sb U) (hL : L ≤ w.heap.size) (hU : U < 4611686018427200000) :
    Calls Tryd.prog 26 #[.pointer (some ⟨sb, 0, none⟩)] w (MakesPair L sb (U + 2000) w) := by
  have hslt := hs.lt
  obtain ⟨wA, hwA⟩ : ∃ wA, wA = (w.alloc (.cells #[.int .i64 0, .int .i64 0, .slice none 0 0] 28)).alloc (.cells #[.int .i64 0, .int .i64 0, .slice none 0 0] 28) := ⟨_, rfl⟩
  have hbA : Below w.heap.size w wA := by rw [hwA]; exact below_two w _ _
  have B1 : Box3 wA w.heap.size (.int .i64 0) (.int .i64 0) (.slice none 0 0) 28 := by rw [hwA]; exact box_first w _ _ _ _ _
  have B2 : Box3 wA (w.heap.size + 1) (.int .i64 0) (.int .i64 0) (.slice none 0 0) 28 := by rw [hwA]; exact box_second w _ _ _ _ _
  have hsz : wA.heap.size = w.heap.size + 2 := by rw [hwA]; simp
  have KD := Lib.hid (l02DrawOk_any wA sb U (hs.below hbA) (by omega) (by omega))
  have HB := Lib.hid (And.intro B1 (And.intro B2 (And.intro hbA hsz)))
  have HWA := Lib.hid hwA
  have hsz2 : w.heap.size + 2 ≤ wA.heap.size := by omega
  clear hs hbA B1 B2 hsz hwA
  go_enter Tryd.func26, Tryd.ntmps26
  go_wp2_with fail
  rw [← HWA.out]
  refine KD.out.mono ?_
  rintro e w1 ⟨wd, hi, a, c1, bs1, rfl, v1, v2, v3, v4, hl1, hown, hdr⟩
  have hpos : 0 < bs1.length := by rw [hl1]; exact Nat.mul_pos (by omega) v3
  obtain ⟨q1, rfl⟩ := own_ptr_k hown hpos
  rw [hl1] at hown ⊢
  have ha1 := alb_k w1 (.cells #[.int .i64 wd, .int .i64 hi, .slice (some ⟨q1, 0, none⟩) (wd * hi) c1] 28)
  have BA := box_last w1 (.int .i64 wd) (.int .i64 hi) (.slice (some ⟨q1, 0, none⟩) (wd * hi) c1) 28
  have hqa := hown.lt (k := q1) rfl
  have hdr1 := hdr.below ha1
  have own1 := hown.below ha1
  have HD1 := Lib.hid (And.intro hdr1 (And.intro own1 BA))
  have h1s := hdr.grown.size
  have HL1 := Lib.hid hl1
  obtain ⟨P, hP⟩ : ∃ P, P = wd * hi := ⟨_, rfl⟩
  rw [← hP] at HD1 HL1 ⊢
  have HP := Lib.hid hP
  have hU2 : U + 1000 < 4611686018427300000 := by omega
  clear hdr ha1 BA hdr1 own1 hown hl1 hP hpos KD
  go_wp2_with fail
  refine (pick_any _ _ _ 3 (by omega) (by omega) HD1.out.1.ok (by omega)).mono ?_
  rintro e w2 ⟨kz, rfl, k0, k1, hd2⟩
  obtain ⟨k, rfl⟩ := Int.eq_ofNat_of_zero_le k0
  have hkk : k ≤ 24 := by omega
  have nsb : ∀ k, w.heap.size ≤ k → some k ≠ some sb := fun k hk e => by injection e with e; omega
  have g2 := hd2.grown
  have g2s : w1.heap.size + 1 ≤ w2.heap.size := by have := g2.size; simp at this; exact this
  have ba2 := HD1.out.2.2.grown g2 (nsb _ (by omega))
  have o2 := HD1.out.2.1.grown g2 (.inr (nsb q1 (by omega)))
  have hP2 : PicAt w2 w1.heap.size wd hi (.slice (some ⟨q1, 0, none⟩) P c1) bs1 28 := ⟨ba2, o2.sl, by rw [HL1.out]; exact HP.out⟩
  have KS := Lib.hid (l02Shift_any w2 w1.heap.size wd hi k _ bs1 (by omega) v3 (by omega) (by omega) hkk hP2)
  rw [← HP.out] at KS
  have gA : wA.grownBy w2 (some sb) := grown_trans HD1.out.1.grown g2
  have HG2 := Lib.hid (And.intro gA (And.intro hd2.ok (And.intro ba2 o2)))
  clear g2 ba2 o2 hP2 hd2 gA k0 k1
  go_wp2_with fail
  refine KS.out.mono ?_
  rintro e w3 ⟨q2, c2, rfl, hown2, hl2, hb3⟩
  rw [← HP.out] at hown2 ⊢
  have hq2 := hown2.lt (k := q2) rfl
  have h3s := hb3.size
  have ha3 := alb_k w3 (.cells #[.int .i64 wd, .int .i64 hi, .slice (some ⟨q2, 0, none⟩) P c2] 28)
  have hbb := box_last w3 (.int .i64 wd) (.int .i64 hi) (.slice (some ⟨q2, 0, none⟩) P c2) 28
  have hb4 := hb3.trans (ha3.mono h3s)
  have g3 : wA.grownBy (w3.alloc (.cells #[.int .i64 wd, .int .i64 hi, .slice (some ⟨q2, 0, none⟩) P c2] 28)) (some sb) := grown_trans HG2.out.1 (grown_below hb4 _)
  have nsA : ∀ k, w.heap.size ≤ k → some k ≠ some sb := nsb
  have start : PairSt w (w3.alloc (.cells #[.int .i64 wd, .int .i64 hi, .slice (some ⟨q2, 0, none⟩) P c2] 28)) L sb (U + 1000 + 2) w1.heap.size w3.heap.size wd hi P q1 c1 q2 c2 bs1 (tab P (shW bs1 wd hi k)) := by
    refine ⟨grown_trans (grown_below HB.out.2.2.1 _) g3, HG2.out.2.1.below hb4, HB.out.1.grown g3 (nsA _ (by omega)), HB.out.2.1.grown g3 (nsA _ (by omega)), HG2.out.2.2.1.below hb4, hbb, (HG2.out.2.2.2.below hb4).sl, (hown2.below ha3).mono (B' := w.heap.size + 2) (by omega), HL1.out, by rw [tab_length], ⟨by omega, by simp; omega⟩, ⟨hslt, hL⟩, ⟨by omega, by omega, by omega, by omega, by omega⟩⟩
  have HST := Lib.hid start
  clear start hown2 hl2 hb3 ha3 hbb hb4 g3 KS
  go_wp2_with fail
  refine (one_any _ _ _ 3 (by omega) (by omega) HST.out.src (by omega)).mono ?_
  rintro e w5 ⟨bz, rfl, hd5⟩
  have HS5 := Lib.hid (HST.out.draw hd5)
  clear hd5 HST HG2 HD1
  cases bz
  · obtain ⟨x0, x1, x2, x3, x4, x5⟩ := HS5.out.r1.cells
    obtain ⟨y0, y1, y2, y3, y4, y5⟩ := HS5.out.r2.cells
    obtain ⟨a0, a1, a2, -, -, -⟩ := HS5.out.ba.cells
    obtain ⟨b0, b1, b2, -, -, -⟩ := HS5.out.bb.cells
    go_wp2_with fail
    go_region
    all_goals
      go_wp2_with fail
      refine bodyPost_ret (v := .tuple #[.agg #[.int .i64 wd, .int .i64 hi, .slice (some ⟨q1, 0, none⟩) P c1], .agg #[.int .i64 wd, .int .i64 hi, .slice (some ⟨q2, 0, none⟩) P c2]]) (by simp [results, Tryd.results26, go_sem, x0, x1, x2, y0, y1, y2, HS5.out.r1.lt, HS5.out.r2.lt]) rfl ?_
      exact HS5.out.fin.end (by omega) HP.out v1 v2 v3 v4 HL1.out HS5.out.l2
  · have hP24 : P ≤ 24 := by rw [HP.out]; exact Nat.mul_le_mul v2 v4
    go_wp2_with fail
    go_loopw [6] (fun v6 wr => ∃ (i : Nat) (cs : List Nat), v6 = .int .i64 i ∧ i ≤ P ∧ PairSt w wr L sb (U + 1004 + 5 * i) w1.heap.size w3.heap.size wd hi P q1 c1 q2 c2 bs1 cs) (fun v6 _ => P - (intOf v6).toNat)
    case atStart => exact ⟨0, _, rfl, Nat.zero_le _, HS5.out⟩
    case round =>
      clear HS5
      obtain ⟨i, cs, rfl, hi_, hst⟩ := hrel
      have HST := Lib.hid hst
      obtain ⟨b0, b1, b2, -, -, -⟩ := hst.bb.cells
      clear hst
      by_cases hlt : i < P
      · go_wp2_with fail
        refine (one_any _ _ _ 3 (by omega) (by omega) HST.out.src (by omega)).mono ?_
        rintro e w6 ⟨oz, rfl, hd6⟩
        have HS6 := Lib.hid (HST.out.draw hd6)
        clear hd6 HST b0 b1 b2
        cases oz
        · go_wp2_with fail
          go_roundw
          case rel => exact ⟨i + 1, cs, by go_num, by omega, HS6.out.draw (Drew.refl (HS6.out.src.mono (by omega)))⟩
          case measure => simp [intOf]; omega
        · obtain ⟨b0, b1, b2, -, -, -⟩ := HS6.out.bb.cells
          have hd0 : ∀ w : World, w.drewN 0 = w := fun _ => rfl
          have KPK := Lib.hid (pick_any w6.drew sb _ 17 (by omega) (by omega) (HS6.out.src.drewN 1) (by omega))
          have HS6d : PairSt w w6.drew L sb (U + 1004 + 5 * i + 2) w1.heap.size w3.heap.size wd hi P q1 c1 q2 c2 bs1 cs := HS6.out.draw (Drew.drewN (Drew.refl HS6.out.src) 1)
          have HS6D := Lib.hid HS6d
          have q2I : (i : Int) < (P : Int) := by omega
          clear HS6d
          go_wp2_with fail
          go_region_held3 (fun W => W.cell? ⟨w3.heap.size, 2, none⟩ = some (.slice (some ⟨q2, 0, none⟩) P c2))
            (first | exact b27 | exact b2 | exact (HS7.out.put i (qt_lt zz (by omega))).bb.cells.2.2.1 | go_keep)
            ((go_at_call 11; (with_reducible refine KPK.out.mono ?_); rintro e w7 ⟨zi, rfl, zi0, zi1, hd7⟩; obtain ⟨zz, rfl⟩ := Int.eq_ofNat_of_zero_le zi0; have hs7 := HS6D.out.draw hd7; have b27 := hs7.bb.cells.2.2.1; have p1 := fres_some (qt_some zz (by omega)); have p0 := fdr_some (qt_some zz (by omega)); have ff := OwnF.freeK hs7.o2 i; have cq := (hs7.o2.sl.cellAtK i (by rw [hs7.l2]; exact hlt)); have HS7 := Lib.hid hs7; clear hs7 hd7))
          all_goals
            go_wp2_with fail
            go_roundw
            case rel => exact ⟨i + 1, _, by go_num, by omega, (HS7.out.put i (qt_lt zz (by omega))).draw (Drew.drewN (Drew.refl ((HS7.out.put i (qt_lt zz (by omega))).src.mono (by omega))) 0)⟩
            case measure => simp [intOf]; omega
      · obtain rfl : P = i := by omega
        have HS5 := HST
        obtain ⟨x0, x1, x2, x3, x4, x5⟩ := HS5.out.r1.cells
        obtain ⟨y0, y1, y2, y3, y4, y5⟩ := HS5.out.r2.cells
        obtain ⟨a0, a1, a2, -, -, -⟩ := HS5.out.ba.cells
        go_wp2_with fail
        go_region
        all_goals
          go_wp2_with fail
          refine bodyPost_ret (v := .tuple #[.agg #[.int .i64 wd, .int .i64 hi, .slice (some ⟨q1, 0, none⟩) P c1], .agg #[.int .i64 wd, .int .i64 hi, .slice (some ⟨q2, 0, none⟩) P c2]]) (by simp [results, Tryd.results26, go_sem, x0, x1, x2, y0, y1, y2, HS5.out.r1.lt, HS5.out.r2.lt]) rfl ?_
          exact HS5.out.fin.end (by omega) HP.out v1 v2 v3 v4 HL1.out HS5.out.l2

end Go.Proofs.YtmcmcppleikajaaDoor
