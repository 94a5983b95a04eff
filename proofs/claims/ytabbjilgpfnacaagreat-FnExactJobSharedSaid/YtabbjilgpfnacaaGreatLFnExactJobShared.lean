/- The law FnExactJobShared: its walk. -/
import Derived.Test.YtabbjilgpfnacaaGreatGj
namespace Go.Proofs.YtabbjilgpfnacaaGreat
open Go.RowKit Ieee
set_option maxRecDepth 100000
set_option linter.unusedVariables false
set_option linter.unusedSimpArgs false

set_option maxHeartbeats 2000000 in
theorem box3_cells {w W : World} {p q : Tri} {j : JobX} {TP TJ : TypeId} {bx : List BxE} {sl : List SlE} (h : StG w W (⟨w.heap.size, #[.int .i64 p.a, .int .i64 p.b, .slice p.s p.l p.c], TP⟩ :: ⟨w.heap.size + 1, #[.int .i64 q.a, .int .i64 q.b, .slice q.s q.l q.c], TP⟩ :: ⟨w.heap.size + 1 + 1, j.v, TJ⟩ :: bx) sl) :
    (W.cell? ⟨w.heap.size, 0, none⟩ = some (.int .i64 p.a) ∧ W.cell? ⟨w.heap.size, 1, none⟩ = some (.int .i64 p.b) ∧ W.cell? ⟨w.heap.size, 2, none⟩ = some (.slice p.s p.l p.c)) ∧ (W.cell? ⟨w.heap.size + 1, 0, none⟩ = some (.int .i64 q.a) ∧ W.cell? ⟨w.heap.size + 1, 1, none⟩ = some (.int .i64 q.b) ∧ W.cell? ⟨w.heap.size + 1, 2, none⟩ = some (.slice q.s q.l q.c)) ∧ (W.cell? ⟨w.heap.size + 1 + 1, 0, none⟩ = some (.int .i64 j.kind) ∧ W.cell? ⟨w.heap.size + 1 + 1, 1, none⟩ = some (.int .i64 j.reach) ∧ W.cell? ⟨w.heap.size + 1 + 1, 2, none⟩ = some (.int .i64 j.deep) ∧ W.cell? ⟨w.heap.size + 1 + 1, 3, none⟩ = some (.bool j.solve) ∧ W.cell? ⟨w.heap.size + 1 + 1, 4, none⟩ = some (.float .f32 j.one) ∧ W.cell? ⟨w.heap.size + 1 + 1, 5, none⟩ = some (.float .f32 j.more)) := by
  have h0 : BoxN W w.heap.size #[.int .i64 p.a, .int .i64 p.b, .slice p.s p.l p.c] TP := h.box 0 _ rfl
  have h1 : BoxN W (w.heap.size + 1) #[.int .i64 q.a, .int .i64 q.b, .slice q.s q.l q.c] TP := h.box 1 _ rfl
  have h2 : BoxN W (w.heap.size + 1 + 1) #[.int .i64 j.kind, .int .i64 j.reach, .int .i64 j.deep, .bool j.solve, .float .f32 j.one, .float .f32 j.more] TJ := h.box 2 _ rfl
  exact ⟨⟨h0.cell 0, h0.cell 1, h0.cell 2⟩, ⟨h1.cell 0, h1.cell 1, h1.cell 2⟩, six_of_box h2⟩

theorem pic_cellsE {W V : World} {b : Nat} {x y z : Value} {T : TypeId} (h : BoxN W b #[x, y, z] T) (hb : Below W.heap.size W V) : V.cell? ⟨b, 0, none⟩ = some x ∧ V.cell? ⟨b, 1, none⟩ = some y ∧ V.cell? ⟨b, 2, none⟩ = some z :=
  ⟨(h.below hb).cell 0, (h.below hb).cell 1, (h.below hb).cell 2⟩

set_option maxHeartbeats 8000000 in
theorem fnExactJobShared_walk (w : World) (p q : Tri) (j : JobX) (wk : Int) (xs ys : List Nat) (hp : SlF w (.slice p.s p.l p.c) xs) (hq : SlF w (.slice q.s q.l q.c) ys) (ho : j.one < 4294967296) (hm : j.more < 4294967296) :
    Calls Tryz.prog 3 #[.agg #[.int .i64 p.a, .int .i64 p.b, .slice p.s p.l p.c], .agg #[.int .i64 q.a, .int .i64 q.b, .slice q.s q.l q.c], .agg j.v, .int .i64 wk] w fun e w' => e = .returned (.bool true) ∧ Below w.heap.size w w' := by
  obtain ⟨W0, hW0⟩ : ∃ W, W = ((w.alloc (.cells #[.int .i64 p.a, .int .i64 p.b, .slice p.s p.l p.c] 24)).alloc (.cells #[.int .i64 q.a, .int .i64 q.b, .slice q.s q.l q.c] 24)).alloc (.cells j.v 29) := ⟨_, rfl⟩
  have st0 : StG w W0 [⟨w.heap.size, #[.int .i64 p.a, .int .i64 p.b, .slice p.s p.l p.c], 24⟩, ⟨w.heap.size + 1, #[.int .i64 q.a, .int .i64 q.b, .slice q.s q.l q.c], 24⟩, ⟨w.heap.size + 1 + 1, j.v, 29⟩] [] := by
    have h := (((StG.start (Below.refl _ w)).addBox (cs := #[.int .i64 p.a, .int .i64 p.b, .slice p.s p.l p.c]) (T := 24) rfl).addBox (cs := #[.int .i64 q.a, .int .i64 q.b, .slice q.s q.l q.c]) (T := 24) rfl).addBox (cs := j.v) (T := 29) hW0
    simpa using h
  have KZp := Lib.hid (fun W => szP_any W p.a p.b p.s p.l p.c 1048576 (Nat.le_refl _) hp.leE.2)
  rw [show ((1048576 : Nat) : Int) = 1048576 from rfl] at KZp
  have KZq := Lib.hid (fun W (left : Nat) (hl : left ≤ 1048576) => szP_any W q.a q.b q.s q.l q.c left hl hq.leE.2)
  have HP := Lib.hid (And.intro hp hq)
  have HLN := Lib.hid (And.intro hp.leE.1 hq.leE.1)
  have HO := Lib.hid (And.intro ho hm)
  have H0 := Lib.hid st0
  have HW0 := Lib.hid hW0
  obtain ⟨⟨a0, a1, a2⟩, -, -⟩ := box3_cells st0
  have hl := (st0.box 0 _ rfl).lt
  rw [hW0] at a0 a1 a2 hl
  clear hp hq ho hm hW0 st0
  by_cases hz1 : p.l ≤ 1048576
  case neg =>
    have ez : szL 1048576 p.l = -1 := by unfold szL; rw [if_neg hz1]
    rw [ez] at KZp
    unfold JobX.v at HW0 ⊢
    clear ez hz1
    go_enter Tryz.func3, Tryz.ntmps3
    go_wp2_with fail
    clear a0 a1 a2 hl
    rw [← HW0.out]
    refine (KZp.out _).mono ?_
    rintro e w1 ⟨rfl, hb1⟩
    have HF := Lib.hid (H0.out.bel.trans (hb1.mono H0.out.bel.size))
    clear hb1
    go_wp2_with fail
    go_ret
    exact ⟨rfl, HF.out⟩
  case pos =>
    have ez : szL 1048576 p.l = ((1048576 - p.l : Nat) : Int) := by unfold szL; rw [if_pos hz1]
    rw [ez] at KZp
    obtain ⟨lf, hlf⟩ : ∃ lf : Nat, 1048576 - p.l = lf := ⟨_, rfl⟩
    rw [hlf] at KZp
    have hd1 : decide ((lf : Int) < 0) = false := decide_eq_false (by omega)
    have KZ2 := Lib.hid (fun W => KZq.out W lf (by omega))
    by_cases hz2 : q.l ≤ lf
    case neg =>
      have ez2 : szL lf q.l = -1 := by unfold szL; rw [if_neg hz2]
      rw [ez2] at KZ2
      unfold JobX.v at HW0 ⊢
      clear ez ez2 hz1 hz2 hlf
      go_enter Tryz.func3, Tryz.ntmps3
      go_wp2_with fail
      clear a0 a1 a2 hl
      rw [← HW0.out]
      refine (KZp.out _).mono ?_
      rintro e w1 ⟨rfl, hb1⟩
      have H1 := Lib.hid (H0.out.below hb1)
      clear hb1
      obtain ⟨-, ⟨a0, a1, a2⟩, -⟩ := box3_cells H1.out
      have hl := (H1.out.box 1 _ rfl).lt
      go_wp2_with fail
      clear a0 a1 a2 hl
      refine (KZ2.out _).mono ?_
      rintro e w2 ⟨rfl, hb2⟩
      have HF := Lib.hid (H1.out.below hb2).bel
      clear hb2
      go_wp2_with fail
      go_ret
      exact ⟨rfl, HF.out⟩
    case pos =>
      have ez2 : szL lf q.l = ((lf - q.l : Nat) : Int) := by unfold szL; rw [if_pos hz2]
      rw [ez2] at KZ2
      obtain ⟨lg, hlg⟩ : ∃ lg : Nat, lf - q.l = lg := ⟨_, rfl⟩
      rw [hlg] at KZ2
      have hd2 : decide ((lg : Int) < 0) = false := decide_eq_false (by omega)
      have HL := Lib.hid (show p.l ≤ 1048576 ∧ q.l ≤ 1048576 from ⟨hz1, by omega⟩)
      obtain ⟨t, ht⟩ : ∃ t, sharedT wk j p q xs ys = t := ⟨_, rfl⟩
      have HT := Lib.hid (show t.L.length ≤ 576 by rw [← ht]; exact sharedT_len _ _ _ _ _ _)
      have KS : ∀ (w0 V : World) (g1 g2 : Nat), SlF V (.slice (some ⟨g1, 0, none⟩) p.l p.l) xs → SlF V (.slice (some ⟨g2, 0, none⟩) q.l q.l) ys → Below w0.heap.size w0 V →
          Calls Tryz.prog 5 #[.agg #[.int .i64 p.a, .int .i64 p.b, .slice (some ⟨g1, 0, none⟩) p.l p.l], .agg #[.int .i64 q.a, .int .i64 q.b, .slice (some ⟨g2, 0, none⟩) q.l q.l], .agg j.v, .int .i64 wk] V (MFar t w0 V) := fun w0 V g1 g2 h1 h2 hb => by
        rw [← ht]; exact (sJobShared_any V wk ⟨p.a, p.b, some ⟨g1, 0, none⟩, p.l, p.l⟩ ⟨q.a, q.b, some ⟨g2, 0, none⟩, q.l, q.l⟩ j xs ys h1 h2).mono fun e w' h => MRes.far h hb
      have KI : ∀ (w0 V : World) (g1 g2 : Nat), SlF V (.slice (some ⟨g1, 0, none⟩) p.l p.l) xs → SlF V (.slice (some ⟨g2, 0, none⟩) q.l q.l) ys → Below w0.heap.size w0 V →
          Calls Tryz.prog 8 #[.agg #[.int .i64 p.a, .int .i64 p.b, .slice (some ⟨g1, 0, none⟩) p.l p.l], .agg #[.int .i64 q.a, .int .i64 q.b, .slice (some ⟨g2, 0, none⟩) q.l q.l], .agg j.v, .int .i64 wk] V (MFar t w0 V) := fun w0 V g1 g2 h1 h2 hb => by
        rw [← ht]; exact (iJobShared_any V wk ⟨p.a, p.b, some ⟨g1, 0, none⟩, p.l, p.l⟩ ⟨q.a, q.b, some ⟨g2, 0, none⟩, q.l, q.l⟩ j xs ys h1 h2 HO.out.1 HO.out.2).mono fun e w' h => MRes.far h hb
      have hoo : (t.ok != t.ok) = false := by simp
      have KS := Lib.hid KS
      have KI := Lib.hid KI
      unfold JobX.v at HW0 KS KI ⊢
      clear ez ez2 hz1 hz2 hlf hlg ht
      go_enter Tryz.func3, Tryz.ntmps3
      go_wp2_with fail
      clear a0 a1 a2 hl
      rw [← HW0.out]
      refine (KZp.out _).mono ?_
      rintro e w1 ⟨rfl, hb1⟩
      have H1 := Lib.hid (H0.out.below hb1)
      clear hb1
      obtain ⟨-, ⟨a0, a1, a2⟩, -⟩ := box3_cells H1.out
      have hl := (H1.out.box 1 _ rfl).lt
      go_wp2_with fail
      clear a0 a1 a2 hl
      refine (KZ2.out _).mono ?_
      rintro e w2 ⟨rfl, hb2⟩
      have H2 := Lib.hid (H1.out.below hb2)
      clear hb2
      have KS2 := Lib.hid (fun V g1 g2 h1 h2 hb => KS.out w2 V g1 g2 h1 h2 hb)
      go_upto_region 8 with fail
      go_cut [10, 11] from 32 to 41 (fun v8 v9 wx => ∃ (ob : Nat) (s : Option Addr) (c : Nat) (bs : List Nat), v8 = .pointer (some ⟨ob, 0, none⟩) ∧ v9 = .bool t.ok ∧ MBox w2.heap.size w2 wx ob t s c bs)
      case first =>
        have hd1 : Below w2.heap.size w2 w2.drew := below_drewN (Below.refl _ _) 1
        have hd2 : Below w2.heap.size w2 (w2.alloc (.cells #[.int .i64 0, .int .i64 0, .slice none 0 0] 32)).drew := below_drewN (alE _ _) 1
        have BX : BoxN (w2.alloc (.cells #[.int .i64 0, .int .i64 0, .slice none 0 0] 32)).drew w2.heap.size #[.int .i64 0, .int .i64 0, .slice none 0 0] 32 := (BoxN.last w2 _ _).drewN 1
        have SV := Lib.hid (fun V (hb : Below w2.heap.size w2 V) => (show Below w2.heap.size w2 V ∧ (V.cell? ⟨w.heap.size, 0, none⟩ = some (.int .i64 p.a) ∧ V.cell? ⟨w.heap.size, 1, none⟩ = some (.int .i64 p.b) ∧ V.cell? ⟨w.heap.size, 2, none⟩ = some (.slice p.s p.l p.c)) ∧ (V.cell? ⟨w.heap.size + 1, 0, none⟩ = some (.int .i64 q.a) ∧ V.cell? ⟨w.heap.size + 1, 1, none⟩ = some (.int .i64 q.b) ∧ V.cell? ⟨w.heap.size + 1, 2, none⟩ = some (.slice q.s q.l q.c)) ∧ (V.cell? ⟨w.heap.size + 1 + 1, 0, none⟩ = some (.int .i64 j.kind) ∧ V.cell? ⟨w.heap.size + 1 + 1, 1, none⟩ = some (.int .i64 j.reach) ∧ V.cell? ⟨w.heap.size + 1 + 1, 2, none⟩ = some (.int .i64 j.deep) ∧ V.cell? ⟨w.heap.size + 1 + 1, 3, none⟩ = some (.bool j.solve) ∧ V.cell? ⟨w.heap.size + 1 + 1, 4, none⟩ = some (.float .f32 j.one) ∧ V.cell? ⟨w.heap.size + 1 + 1, 5, none⟩ = some (.float .f32 j.more)) from ⟨hb, box3_cells (H2.out.below hb)⟩))
        have KDp := Lib.hid (fun V (hb : Below w2.heap.size w2 V) => toPFar w2 V p xs (HP.out.1.below H2.out.bel) HL.out.1 hb)
        have KDq := Lib.hid (fun V (hb : Below w2.heap.size w2 V) => toPFar w2 V q ys (HP.out.2.below H2.out.bel) HL.out.2 hb)
        have KJ := Lib.hid (fun V => toJobE V j)
        unfold JobX.v at KJ
        go_region_held3 (fun V => Below w2.heap.size w2 V ∧ (V.cell? ⟨w.heap.size, 0, none⟩ = some (.int .i64 p.a) ∧ V.cell? ⟨w.heap.size, 1, none⟩ = some (.int .i64 p.b) ∧ V.cell? ⟨w.heap.size, 2, none⟩ = some (.slice p.s p.l p.c)) ∧ (V.cell? ⟨w.heap.size + 1, 0, none⟩ = some (.int .i64 q.a) ∧ V.cell? ⟨w.heap.size + 1, 1, none⟩ = some (.int .i64 q.b) ∧ V.cell? ⟨w.heap.size + 1, 2, none⟩ = some (.slice q.s q.l q.c)) ∧ (V.cell? ⟨w.heap.size + 1 + 1, 0, none⟩ = some (.int .i64 j.kind) ∧ V.cell? ⟨w.heap.size + 1 + 1, 1, none⟩ = some (.int .i64 j.reach) ∧ V.cell? ⟨w.heap.size + 1 + 1, 2, none⟩ = some (.int .i64 j.deep) ∧ V.cell? ⟨w.heap.size + 1 + 1, 3, none⟩ = some (.bool j.solve) ∧ V.cell? ⟨w.heap.size + 1 + 1, 4, none⟩ = some (.float .f32 j.one) ∧ V.cell? ⟨w.heap.size + 1 + 1, 5, none⟩ = some (.float .f32 j.more)))
          (first | (refine SV.out _ ?_; ((repeat' (first | (with_reducible exact Below.refl _ _) | (with_reducible assumption) | (with_reducible refine belowA ?_ _) | (with_reducible refine belowT ?_ (by with_reducible assumption)) | (with_reducible refine below_setMM ?_ ?_ _ _ _) | (show _ ≤ _; omega))); done)) | go_keep)
          (first
            | (go_at_call 6; (with_reducible refine (KDp.out _ ?_).mono ?_); (focus ((repeat' (first | (with_reducible exact Below.refl _ _) | (with_reducible assumption) | (with_reducible refine belowA ?_ _) | (with_reducible refine belowT ?_ (by with_reducible assumption)) | (with_reducible refine below_setMM ?_ ?_ _ _ _) | (show _ ≤ _; omega))); done)); rintro e wp ⟨g1, rfl, o1, hbp⟩)
            | (go_at_call 6; (with_reducible refine (KDq.out _ ?_).mono ?_); (focus ((repeat' (first | (with_reducible exact Below.refl _ _) | (with_reducible assumption) | (with_reducible refine belowA ?_ _) | (with_reducible refine belowT ?_ (by with_reducible assumption)) | (with_reducible refine below_setMM ?_ ?_ _ _ _) | (show _ ≤ _; omega))); done)); rintro e wq ⟨g2, rfl, o2, hbq⟩)
            | (go_at_call 7; (with_reducible refine (KJ.out _).mono ?_); rintro e wj ⟨rfl, hbj⟩)
            | (go_at_call 5; (with_reducible refine (KS2.out _ g1 g2 ?_ ?_ ?_).mono ?_); (focus (refine (o1.below ?_).sl; ((repeat' (first | (with_reducible exact Below.refl _ _) | (with_reducible assumption) | (with_reducible refine belowA ?_ _) | (with_reducible refine belowT ?_ (by with_reducible assumption)) | (with_reducible refine below_setMM ?_ ?_ _ _ _) | (show _ ≤ _; omega))); done))); (focus (refine (o2.below ?_).sl; ((repeat' (first | (with_reducible exact Below.refl _ _) | (with_reducible assumption) | (with_reducible refine belowA ?_ _) | (with_reducible refine belowT ?_ (by with_reducible assumption)) | (with_reducible refine below_setMM ?_ ?_ _ _ _) | (show _ ≤ _; omega))); done))); (focus ((repeat' (first | (with_reducible exact Below.refl _ _) | (with_reducible assumption) | (with_reducible refine belowA ?_ _) | (with_reducible refine belowT ?_ (by with_reducible assumption)) | (with_reducible refine below_setMM ?_ ?_ _ _ _) | (show _ ≤ _; omega))); done)); rintro e wf ⟨s, c, bs, rfl, ho, hc, hbf, hfar⟩; refine mpE (T := _ ∧ _) (hfar w2.heap.size #[.int .i64 0, .int .i64 0, .slice none 0 0] 32 (BX.below ?_)) ?_; (focus ((repeat' (first | (with_reducible exact Below.refl _ _) | (with_reducible assumption) | (with_reducible refine belowA ?_ _) | (with_reducible refine belowT ?_ (by with_reducible assumption)) | (with_reducible refine below_setMM ?_ ?_ _ _ _) | (show _ ≤ _; omega))); done)); rintro ⟨hbx, hbn⟩; obtain ⟨x0, x1, x2, y0, y1, y2⟩ := hbx.three.cells; refine mpE (T := Below w2.heap.size w2 w2) ?_ ?_; (focus ((repeat' (first | (with_reducible exact Below.refl _ _) | (with_reducible assumption) | (with_reducible refine belowA ?_ _) | (with_reducible refine belowT ?_ (by with_reducible assumption)) | (with_reducible refine below_setMM ?_ ?_ _ _ _) | (show _ ≤ _; omega))); done)); intro hbo0; have hbo := hbo0.size; refine mpE (T := Below w2.heap.size w2 wf) ?_ ?_; (focus ((repeat' (first | (with_reducible exact Below.refl _ _) | (with_reducible assumption) | (with_reducible refine belowA ?_ _) | (with_reducible refine belowT ?_ (by with_reducible assumption)) | (with_reducible refine below_setMM ?_ ?_ _ _ _) | (show _ ≤ _; omega))); done)); intro hbw)
            | (go_at_call 5; (with_reducible refine (KS2.out _ g1 g2 ?_ ?_ ?_).mono ?_); (focus (refine (o1.below ?_).sl; ((repeat' (first | (with_reducible exact Below.refl _ _) | (with_reducible assumption) | (with_reducible refine belowA ?_ _) | (with_reducible refine belowT ?_ (by with_reducible assumption)) | (with_reducible refine below_setMM ?_ ?_ _ _ _) | (show _ ≤ _; omega))); done))); (focus (refine (o2.below ?_).sl; ((repeat' (first | (with_reducible exact Below.refl _ _) | (with_reducible assumption) | (with_reducible refine belowA ?_ _) | (with_reducible refine belowT ?_ (by with_reducible assumption)) | (with_reducible refine below_setMM ?_ ?_ _ _ _) | (show _ ≤ _; omega))); done))); (focus ((repeat' (first | (with_reducible exact Below.refl _ _) | (with_reducible assumption) | (with_reducible refine belowA ?_ _) | (with_reducible refine belowT ?_ (by with_reducible assumption)) | (with_reducible refine below_setMM ?_ ?_ _ _ _) | (show _ ≤ _; omega))); done)); rintro e wf ⟨s, c, bs, rfl, ho, hc, hbf, hfar⟩; refine mpE (T := _ ∧ _) (hfar wp.heap.size #[.int .i64 0, .int .i64 0, .slice none 0 0] 32 ((BoxN.last wp #[.int .i64 0, .int .i64 0, .slice none 0 0] 32).below ?_)) ?_; (focus ((repeat' (first | (with_reducible exact Below.refl _ _) | (with_reducible assumption) | (with_reducible refine belowA ?_ _) | (with_reducible refine belowT ?_ (by with_reducible assumption)) | (with_reducible refine below_setMM ?_ ?_ _ _ _) | (show _ ≤ _; omega))); done)); rintro ⟨hbx, hbn⟩; obtain ⟨x0, x1, x2, y0, y1, y2⟩ := hbx.three.cells; refine mpE (T := Below w2.heap.size w2 wp) ?_ ?_; (focus ((repeat' (first | (with_reducible exact Below.refl _ _) | (with_reducible assumption) | (with_reducible refine belowA ?_ _) | (with_reducible refine belowT ?_ (by with_reducible assumption)) | (with_reducible refine below_setMM ?_ ?_ _ _ _) | (show _ ≤ _; omega))); done)); intro hbo0; have hbo := hbo0.size; refine mpE (T := Below w2.heap.size w2 wf) ?_ ?_; (focus ((repeat' (first | (with_reducible exact Below.refl _ _) | (with_reducible assumption) | (with_reducible refine belowA ?_ _) | (with_reducible refine belowT ?_ (by with_reducible assumption)) | (with_reducible refine below_setMM ?_ ?_ _ _ _) | (show _ ≤ _; omega))); done)); intro hbw)
            | (go_at_call 5; (with_reducible refine (KS2.out _ g1 g2 ?_ ?_ ?_).mono ?_); (focus (refine (o1.below ?_).sl; ((repeat' (first | (with_reducible exact Below.refl _ _) | (with_reducible assumption) | (with_reducible refine belowA ?_ _) | (with_reducible refine belowT ?_ (by with_reducible assumption)) | (with_reducible refine below_setMM ?_ ?_ _ _ _) | (show _ ≤ _; omega))); done))); (focus (refine (o2.below ?_).sl; ((repeat' (first | (with_reducible exact Below.refl _ _) | (with_reducible assumption) | (with_reducible refine belowA ?_ _) | (with_reducible refine belowT ?_ (by with_reducible assumption)) | (with_reducible refine below_setMM ?_ ?_ _ _ _) | (show _ ≤ _; omega))); done))); (focus ((repeat' (first | (with_reducible exact Below.refl _ _) | (with_reducible assumption) | (with_reducible refine belowA ?_ _) | (with_reducible refine belowT ?_ (by with_reducible assumption)) | (with_reducible refine below_setMM ?_ ?_ _ _ _) | (show _ ≤ _; omega))); done)); rintro e wf ⟨s, c, bs, rfl, ho, hc, hbf, hfar⟩; refine mpE (T := _ ∧ _) (hfar wq.heap.size #[.int .i64 0, .int .i64 0, .slice none 0 0] 32 ((BoxN.last wq #[.int .i64 0, .int .i64 0, .slice none 0 0] 32).below ?_)) ?_; (focus ((repeat' (first | (with_reducible exact Below.refl _ _) | (with_reducible assumption) | (with_reducible refine belowA ?_ _) | (with_reducible refine belowT ?_ (by with_reducible assumption)) | (with_reducible refine below_setMM ?_ ?_ _ _ _) | (show _ ≤ _; omega))); done)); rintro ⟨hbx, hbn⟩; obtain ⟨x0, x1, x2, y0, y1, y2⟩ := hbx.three.cells; refine mpE (T := Below w2.heap.size w2 wq) ?_ ?_; (focus ((repeat' (first | (with_reducible exact Below.refl _ _) | (with_reducible assumption) | (with_reducible refine belowA ?_ _) | (with_reducible refine belowT ?_ (by with_reducible assumption)) | (with_reducible refine below_setMM ?_ ?_ _ _ _) | (show _ ≤ _; omega))); done)); intro hbo0; have hbo := hbo0.size; refine mpE (T := Below w2.heap.size w2 wf) ?_ ?_; (focus ((repeat' (first | (with_reducible exact Below.refl _ _) | (with_reducible assumption) | (with_reducible refine belowA ?_ _) | (with_reducible refine belowT ?_ (by with_reducible assumption)) | (with_reducible refine below_setMM ?_ ?_ _ _ _) | (show _ ≤ _; omega))); done)); intro hbw)
            | (go_at_call 5; (with_reducible refine (KS2.out _ g1 g2 ?_ ?_ ?_).mono ?_); (focus (refine (o1.below ?_).sl; ((repeat' (first | (with_reducible exact Below.refl _ _) | (with_reducible assumption) | (with_reducible refine belowA ?_ _) | (with_reducible refine belowT ?_ (by with_reducible assumption)) | (with_reducible refine below_setMM ?_ ?_ _ _ _) | (show _ ≤ _; omega))); done))); (focus (refine (o2.below ?_).sl; ((repeat' (first | (with_reducible exact Below.refl _ _) | (with_reducible assumption) | (with_reducible refine belowA ?_ _) | (with_reducible refine belowT ?_ (by with_reducible assumption)) | (with_reducible refine below_setMM ?_ ?_ _ _ _) | (show _ ≤ _; omega))); done))); (focus ((repeat' (first | (with_reducible exact Below.refl _ _) | (with_reducible assumption) | (with_reducible refine belowA ?_ _) | (with_reducible refine belowT ?_ (by with_reducible assumption)) | (with_reducible refine below_setMM ?_ ?_ _ _ _) | (show _ ≤ _; omega))); done)); rintro e wf ⟨s, c, bs, rfl, ho, hc, hbf, hfar⟩; refine mpE (T := _ ∧ _) (hfar wj.heap.size #[.int .i64 0, .int .i64 0, .slice none 0 0] 32 ((BoxN.last wj #[.int .i64 0, .int .i64 0, .slice none 0 0] 32).below ?_)) ?_; (focus ((repeat' (first | (with_reducible exact Below.refl _ _) | (with_reducible assumption) | (with_reducible refine belowA ?_ _) | (with_reducible refine belowT ?_ (by with_reducible assumption)) | (with_reducible refine below_setMM ?_ ?_ _ _ _) | (show _ ≤ _; omega))); done)); rintro ⟨hbx, hbn⟩; obtain ⟨x0, x1, x2, y0, y1, y2⟩ := hbx.three.cells; refine mpE (T := Below w2.heap.size w2 wj) ?_ ?_; (focus ((repeat' (first | (with_reducible exact Below.refl _ _) | (with_reducible assumption) | (with_reducible refine belowA ?_ _) | (with_reducible refine belowT ?_ (by with_reducible assumption)) | (with_reducible refine below_setMM ?_ ?_ _ _ _) | (show _ ≤ _; omega))); done)); intro hbo0; have hbo := hbo0.size; refine mpE (T := Below w2.heap.size w2 wf) ?_ ?_; (focus ((repeat' (first | (with_reducible exact Below.refl _ _) | (with_reducible assumption) | (with_reducible refine belowA ?_ _) | (with_reducible refine belowT ?_ (by with_reducible assumption)) | (with_reducible refine below_setMM ?_ ?_ _ _ _) | (show _ ≤ _; omega))); done)); intro hbw)
            | (go_at_call 5; (with_reducible refine (KS2.out _ g1 g2 ?_ ?_ ?_).mono ?_); (focus (refine (o1.below ?_).sl; ((repeat' (first | (with_reducible exact Below.refl _ _) | (with_reducible assumption) | (with_reducible refine belowA ?_ _) | (with_reducible refine belowT ?_ (by with_reducible assumption)) | (with_reducible refine below_setMM ?_ ?_ _ _ _) | (show _ ≤ _; omega))); done))); (focus (refine (o2.below ?_).sl; ((repeat' (first | (with_reducible exact Below.refl _ _) | (with_reducible assumption) | (with_reducible refine belowA ?_ _) | (with_reducible refine belowT ?_ (by with_reducible assumption)) | (with_reducible refine below_setMM ?_ ?_ _ _ _) | (show _ ≤ _; omega))); done))); (focus ((repeat' (first | (with_reducible exact Below.refl _ _) | (with_reducible assumption) | (with_reducible refine belowA ?_ _) | (with_reducible refine belowT ?_ (by with_reducible assumption)) | (with_reducible refine below_setMM ?_ ?_ _ _ _) | (show _ ≤ _; omega))); done)); rintro e wf ⟨s, c, bs, rfl, ho, hc, hbf, hfar⟩; refine mpE (T := Below w2.heap.size w2 wf) ?_ ?_; (focus ((repeat' (first | (with_reducible exact Below.refl _ _) | (with_reducible assumption) | (with_reducible refine belowA ?_ _) | (with_reducible refine belowT ?_ (by with_reducible assumption)) | (with_reducible refine below_setMM ?_ ?_ _ _ _) | (show _ ≤ _; omega))); done)); intro hbw))
        all_goals
          go_wp2_with fail
          go_meet
          first
            | exact ⟨_, s, c, bs, rfl, rfl, MBox.put hbw hbx ho hbn hbo hc⟩
            | exact ⟨_, s, c, bs, rfl, rfl, MBox.new hbw ho hc hbw.size⟩
      case rest =>
        obtain ⟨ob0, s0, c0, ws, rfl, rfl, hv0⟩ := hcut
        have st3 : StG w wc [⟨w.heap.size, #[.int .i64 p.a, .int .i64 p.b, .slice p.s p.l p.c], 24⟩, ⟨w.heap.size + 1, #[.int .i64 q.a, .int .i64 q.b, .slice q.s q.l q.c], 24⟩, ⟨w.heap.size + 1 + 1, j.v, 29⟩, ⟨ob0, #[.int .i64 t.a, .int .i64 t.b, .slice s0 ws.length c0], 32⟩] [⟨.slice s0 ws.length c0, ws⟩] := H2.out.addV hv0.bel hv0.box hv0.obf hv0.own hv0.ne
        have HC0 := Lib.hid hv0.con
        obtain ⟨w3, hw3⟩ : ∃ w3, w3 = wc := ⟨_, rfl⟩
        rw [← hw3] at st3 ⊢
        have H3 := Lib.hid st3
        have KDp := Lib.hid (fun V (hb : Below w.heap.size w V) => toPFar w V p xs HP.out.1 HL.out.1 hb)
        have KDq := Lib.hid (fun V (hb : Below w.heap.size w V) => toPFar w V q ys HP.out.2 HL.out.2 hb)
        clear hv0 hw3
        obtain ⟨⟨a0, a1, a2⟩, -, -⟩ := box3_cells st3
        have hl := (st3.box 0 _ rfl).lt
        clear st3
        go_wp2_with fail
        clear a0 a1 a2 hl
        refine (KDp.out _ H3.out.bel).mono ?_
        rintro e w4 ⟨g3, rfl, o3, hb4⟩
        obtain ⟨V4, hV4⟩ : ∃ W, W = w4.alloc (.cells #[.int .i64 p.a, .int .i64 p.b, .slice (some ⟨g3, 0, none⟩) p.l p.l] 35) := ⟨_, rfl⟩
        have st4 : StG w V4 [⟨w.heap.size, #[.int .i64 p.a, .int .i64 p.b, .slice p.s p.l p.c], 24⟩, ⟨w.heap.size + 1, #[.int .i64 q.a, .int .i64 q.b, .slice q.s q.l q.c], 24⟩, ⟨w.heap.size + 1 + 1, j.v, 29⟩, ⟨ob0, #[.int .i64 t.a, .int .i64 t.b, .slice s0 ws.length c0], 32⟩, ⟨w4.heap.size, #[.int .i64 p.a, .int .i64 p.b, .slice (some ⟨g3, 0, none⟩) p.l p.l], 35⟩] [⟨.slice s0 ws.length c0, ws⟩, ⟨.slice (some ⟨g3, 0, none⟩) p.l p.l, xs⟩] := (H3.out.addSl hb4 o3).addBox hV4
        have H4 := Lib.hid st4
        obtain ⟨-, ⟨a0, a1, a2⟩, -⟩ := box3_cells st4
        have hl := (st4.box 1 _ rfl).lt
        have HV4 := Lib.hid hV4
        rw [hV4] at a0 a1 a2 hl
        clear st4 hV4 o3 hb4
        go_wp2_with fail
        clear a0 a1 a2 hl
        rw [← HV4.out]
        refine (KDq.out _ H4.out.bel).mono ?_
        rintro e w5 ⟨g4, rfl, o4, hb5⟩
        obtain ⟨V5, hV5⟩ : ∃ W, W = w5.alloc (.cells #[.int .i64 q.a, .int .i64 q.b, .slice (some ⟨g4, 0, none⟩) q.l q.l] 35) := ⟨_, rfl⟩
        have st5 : StG w V5 [⟨w.heap.size, #[.int .i64 p.a, .int .i64 p.b, .slice p.s p.l p.c], 24⟩, ⟨w.heap.size + 1, #[.int .i64 q.a, .int .i64 q.b, .slice q.s q.l q.c], 24⟩, ⟨w.heap.size + 1 + 1, j.v, 29⟩, ⟨ob0, #[.int .i64 t.a, .int .i64 t.b, .slice s0 ws.length c0], 32⟩, ⟨w4.heap.size, #[.int .i64 p.a, .int .i64 p.b, .slice (some ⟨g3, 0, none⟩) p.l p.l], 35⟩, ⟨w5.heap.size, #[.int .i64 q.a, .int .i64 q.b, .slice (some ⟨g4, 0, none⟩) q.l q.l], 35⟩] [⟨.slice s0 ws.length c0, ws⟩, ⟨.slice (some ⟨g3, 0, none⟩) p.l p.l, xs⟩, ⟨.slice (some ⟨g4, 0, none⟩) q.l q.l, ys⟩] := (H4.out.addSl hb5 o4).addBox hV5
        obtain ⟨bx0, hbx0⟩ : ∃ b, b = w4.heap.size := ⟨_, rfl⟩
        obtain ⟨bx1, hbx1⟩ : ∃ b, b = w5.heap.size := ⟨_, rfl⟩
        rw [← hbx0, ← hbx1] at st5
        rw [← hbx0]
        have H5 := Lib.hid st5
        have HV5 := Lib.hid hV5
        clear st5 o4 hb5 hbx0
        go_upto_region 11 with fail
        rw [← hbx1, ← hV5]
        clear hbx1 hV5
        have KI5 := Lib.hid (fun V g1 g2 h1 h2 hb => KI.out V5 V g1 g2 h1 h2 hb)
        go_cut [14, 15] from 47 to 54 (fun v8 v9 wx => ∃ (ob : Nat) (s : Option Addr) (c : Nat) (bs : List Nat), v8 = .pointer (some ⟨ob, 0, none⟩) ∧ v9 = .bool t.ok ∧ MBox V5.heap.size V5 wx ob t s c bs)
        case first =>
          have hd1 : Below V5.heap.size V5 V5.drew := below_drewN (Below.refl _ _) 1
          have hd2 : Below V5.heap.size V5 (V5.alloc (.cells #[.int .i64 0, .int .i64 0, .slice none 0 0] 32)).drew := below_drewN (alE _ _) 1
          have BX : BoxN (V5.alloc (.cells #[.int .i64 0, .int .i64 0, .slice none 0 0] 32)).drew V5.heap.size #[.int .i64 0, .int .i64 0, .slice none 0 0] 32 := (BoxN.last V5 _ _).drewN 1
          have SV := Lib.hid (fun V (hb : Below V5.heap.size V5 V) => (show Below V5.heap.size V5 V ∧ (V.cell? ⟨bx0, 0, none⟩ = some (.int .i64 p.a) ∧ V.cell? ⟨bx0, 1, none⟩ = some (.int .i64 p.b) ∧ V.cell? ⟨bx0, 2, none⟩ = some (.slice (some ⟨g3, 0, none⟩) p.l p.l)) ∧ (V.cell? ⟨bx1, 0, none⟩ = some (.int .i64 q.a) ∧ V.cell? ⟨bx1, 1, none⟩ = some (.int .i64 q.b) ∧ V.cell? ⟨bx1, 2, none⟩ = some (.slice (some ⟨g4, 0, none⟩) q.l q.l)) ∧ (V.cell? ⟨w.heap.size + 1 + 1, 0, none⟩ = some (.int .i64 j.kind) ∧ V.cell? ⟨w.heap.size + 1 + 1, 1, none⟩ = some (.int .i64 j.reach) ∧ V.cell? ⟨w.heap.size + 1 + 1, 2, none⟩ = some (.int .i64 j.deep) ∧ V.cell? ⟨w.heap.size + 1 + 1, 3, none⟩ = some (.bool j.solve) ∧ V.cell? ⟨w.heap.size + 1 + 1, 4, none⟩ = some (.float .f32 j.one) ∧ V.cell? ⟨w.heap.size + 1 + 1, 5, none⟩ = some (.float .f32 j.more)) from ⟨hb, pic_cellsE (H5.out.box 4 _ rfl) hb, pic_cellsE (H5.out.box 5 _ rfl) hb, six_of_box ((H5.out.box 2 _ rfl).below hb)⟩))
          have KJ := Lib.hid (fun V => toJobE V j)
          unfold JobX.v at KJ
          go_region_held3 (fun V => Below V5.heap.size V5 V ∧ (V.cell? ⟨bx0, 0, none⟩ = some (.int .i64 p.a) ∧ V.cell? ⟨bx0, 1, none⟩ = some (.int .i64 p.b) ∧ V.cell? ⟨bx0, 2, none⟩ = some (.slice (some ⟨g3, 0, none⟩) p.l p.l)) ∧ (V.cell? ⟨bx1, 0, none⟩ = some (.int .i64 q.a) ∧ V.cell? ⟨bx1, 1, none⟩ = some (.int .i64 q.b) ∧ V.cell? ⟨bx1, 2, none⟩ = some (.slice (some ⟨g4, 0, none⟩) q.l q.l)) ∧ (V.cell? ⟨w.heap.size + 1 + 1, 0, none⟩ = some (.int .i64 j.kind) ∧ V.cell? ⟨w.heap.size + 1 + 1, 1, none⟩ = some (.int .i64 j.reach) ∧ V.cell? ⟨w.heap.size + 1 + 1, 2, none⟩ = some (.int .i64 j.deep) ∧ V.cell? ⟨w.heap.size + 1 + 1, 3, none⟩ = some (.bool j.solve) ∧ V.cell? ⟨w.heap.size + 1 + 1, 4, none⟩ = some (.float .f32 j.one) ∧ V.cell? ⟨w.heap.size + 1 + 1, 5, none⟩ = some (.float .f32 j.more)))
            (first | (refine SV.out _ ?_; ((repeat' (first | (with_reducible exact Below.refl _ _) | (with_reducible assumption) | (with_reducible refine belowA ?_ _) | (with_reducible refine belowT ?_ (by with_reducible assumption)) | (with_reducible refine below_setMM ?_ ?_ _ _ _) | (show _ ≤ _; omega))); done)) | go_keep)
            (first
              | (go_at_call 7; (with_reducible refine (KJ.out _).mono ?_); rintro e wj ⟨rfl, hbj⟩)
              | (go_at_call 8; (with_reducible refine (KI5.out _ g3 g4 ?_ ?_ ?_).mono ?_); (focus (refine ((H5.out.own 1 _ rfl).below ?_).sl; ((repeat' (first | (with_reducible exact Below.refl _ _) | (with_reducible assumption) | (with_reducible refine belowA ?_ _) | (with_reducible refine belowT ?_ (by with_reducible assumption)) | (with_reducible refine below_setMM ?_ ?_ _ _ _) | (show _ ≤ _; omega))); done))); (focus (refine ((H5.out.own 2 _ rfl).below ?_).sl; ((repeat' (first | (with_reducible exact Below.refl _ _) | (with_reducible assumption) | (with_reducible refine belowA ?_ _) | (with_reducible refine belowT ?_ (by with_reducible assumption)) | (with_reducible refine below_setMM ?_ ?_ _ _ _) | (show _ ≤ _; omega))); done))); (focus ((repeat' (first | (with_reducible exact Below.refl _ _) | (with_reducible assumption) | (with_reducible refine belowA ?_ _) | (with_reducible refine belowT ?_ (by with_reducible assumption)) | (with_reducible refine below_setMM ?_ ?_ _ _ _) | (show _ ≤ _; omega))); done)); rintro e wf ⟨s, c, bs, rfl, ho, hc, hbf, hfar⟩; refine mpE (T := _ ∧ _) (hfar V5.heap.size #[.int .i64 0, .int .i64 0, .slice none 0 0] 32 (BX.below ?_)) ?_; (focus ((repeat' (first | (with_reducible exact Below.refl _ _) | (with_reducible assumption) | (with_reducible refine belowA ?_ _) | (with_reducible refine belowT ?_ (by with_reducible assumption)) | (with_reducible refine below_setMM ?_ ?_ _ _ _) | (show _ ≤ _; omega))); done)); rintro ⟨hbx, hbn⟩; obtain ⟨x0, x1, x2, y0, y1, y2⟩ := hbx.three.cells; refine mpE (T := Below V5.heap.size V5 V5) ?_ ?_; (focus ((repeat' (first | (with_reducible exact Below.refl _ _) | (with_reducible assumption) | (with_reducible refine belowA ?_ _) | (with_reducible refine belowT ?_ (by with_reducible assumption)) | (with_reducible refine below_setMM ?_ ?_ _ _ _) | (show _ ≤ _; omega))); done)); intro hbo0; have hbo := hbo0.size; refine mpE (T := Below V5.heap.size V5 wf) ?_ ?_; (focus ((repeat' (first | (with_reducible exact Below.refl _ _) | (with_reducible assumption) | (with_reducible refine belowA ?_ _) | (with_reducible refine belowT ?_ (by with_reducible assumption)) | (with_reducible refine below_setMM ?_ ?_ _ _ _) | (show _ ≤ _; omega))); done)); intro hbw)
              | (go_at_call 8; (with_reducible refine (KI5.out _ g3 g4 ?_ ?_ ?_).mono ?_); (focus (refine ((H5.out.own 1 _ rfl).below ?_).sl; ((repeat' (first | (with_reducible exact Below.refl _ _) | (with_reducible assumption) | (with_reducible refine belowA ?_ _) | (with_reducible refine belowT ?_ (by with_reducible assumption)) | (with_reducible refine below_setMM ?_ ?_ _ _ _) | (show _ ≤ _; omega))); done))); (focus (refine ((H5.out.own 2 _ rfl).below ?_).sl; ((repeat' (first | (with_reducible exact Below.refl _ _) | (with_reducible assumption) | (with_reducible refine belowA ?_ _) | (with_reducible refine belowT ?_ (by with_reducible assumption)) | (with_reducible refine below_setMM ?_ ?_ _ _ _) | (show _ ≤ _; omega))); done))); (focus ((repeat' (first | (with_reducible exact Below.refl _ _) | (with_reducible assumption) | (with_reducible refine belowA ?_ _) | (with_reducible refine belowT ?_ (by with_reducible assumption)) | (with_reducible refine below_setMM ?_ ?_ _ _ _) | (show _ ≤ _; omega))); done)); rintro e wf ⟨s, c, bs, rfl, ho, hc, hbf, hfar⟩; refine mpE (T := _ ∧ _) (hfar wj.heap.size #[.int .i64 0, .int .i64 0, .slice none 0 0] 32 ((BoxN.last wj #[.int .i64 0, .int .i64 0, .slice none 0 0] 32).below ?_)) ?_; (focus ((repeat' (first | (with_reducible exact Below.refl _ _) | (with_reducible assumption) | (with_reducible refine belowA ?_ _) | (with_reducible refine belowT ?_ (by with_reducible assumption)) | (with_reducible refine below_setMM ?_ ?_ _ _ _) | (show _ ≤ _; omega))); done)); rintro ⟨hbx, hbn⟩; obtain ⟨x0, x1, x2, y0, y1, y2⟩ := hbx.three.cells; refine mpE (T := Below V5.heap.size V5 wj) ?_ ?_; (focus ((repeat' (first | (with_reducible exact Below.refl _ _) | (with_reducible assumption) | (with_reducible refine belowA ?_ _) | (with_reducible refine belowT ?_ (by with_reducible assumption)) | (with_reducible refine below_setMM ?_ ?_ _ _ _) | (show _ ≤ _; omega))); done)); intro hbo0; have hbo := hbo0.size; refine mpE (T := Below V5.heap.size V5 wf) ?_ ?_; (focus ((repeat' (first | (with_reducible exact Below.refl _ _) | (with_reducible assumption) | (with_reducible refine belowA ?_ _) | (with_reducible refine belowT ?_ (by with_reducible assumption)) | (with_reducible refine below_setMM ?_ ?_ _ _ _) | (show _ ≤ _; omega))); done)); intro hbw)
              | (go_at_call 8; (with_reducible refine (KI5.out _ g3 g4 ?_ ?_ ?_).mono ?_); (focus (refine ((H5.out.own 1 _ rfl).below ?_).sl; ((repeat' (first | (with_reducible exact Below.refl _ _) | (with_reducible assumption) | (with_reducible refine belowA ?_ _) | (with_reducible refine belowT ?_ (by with_reducible assumption)) | (with_reducible refine below_setMM ?_ ?_ _ _ _) | (show _ ≤ _; omega))); done))); (focus (refine ((H5.out.own 2 _ rfl).below ?_).sl; ((repeat' (first | (with_reducible exact Below.refl _ _) | (with_reducible assumption) | (with_reducible refine belowA ?_ _) | (with_reducible refine belowT ?_ (by with_reducible assumption)) | (with_reducible refine below_setMM ?_ ?_ _ _ _) | (show _ ≤ _; omega))); done))); (focus ((repeat' (first | (with_reducible exact Below.refl _ _) | (with_reducible assumption) | (with_reducible refine belowA ?_ _) | (with_reducible refine belowT ?_ (by with_reducible assumption)) | (with_reducible refine below_setMM ?_ ?_ _ _ _) | (show _ ≤ _; omega))); done)); rintro e wf ⟨s, c, bs, rfl, ho, hc, hbf, hfar⟩; refine mpE (T := Below V5.heap.size V5 wf) ?_ ?_; (focus ((repeat' (first | (with_reducible exact Below.refl _ _) | (with_reducible assumption) | (with_reducible refine belowA ?_ _) | (with_reducible refine belowT ?_ (by with_reducible assumption)) | (with_reducible refine below_setMM ?_ ?_ _ _ _) | (show _ ≤ _; omega))); done)); intro hbw))
          all_goals
            go_wp2_with fail
            go_meet
            first
              | exact ⟨_, s, c, bs, rfl, rfl, MBox.put hbw hbx ho hbn hbo hc⟩
              | exact ⟨_, s, c, bs, rfl, rfl, MBox.new hbw ho hc hbw.size⟩
        case rest =>
          obtain ⟨ob2, s2, c2, gs, rfl, rfl, hv2⟩ := hcut
          have st6 : StG w wc [⟨w.heap.size, #[.int .i64 p.a, .int .i64 p.b, .slice p.s p.l p.c], 24⟩, ⟨w.heap.size + 1, #[.int .i64 q.a, .int .i64 q.b, .slice q.s q.l q.c], 24⟩, ⟨w.heap.size + 1 + 1, j.v, 29⟩, ⟨ob0, #[.int .i64 t.a, .int .i64 t.b, .slice s0 ws.length c0], 32⟩, ⟨bx0, #[.int .i64 p.a, .int .i64 p.b, .slice (some ⟨g3, 0, none⟩) p.l p.l], 35⟩, ⟨bx1, #[.int .i64 q.a, .int .i64 q.b, .slice (some ⟨g4, 0, none⟩) q.l q.l], 35⟩, ⟨ob2, #[.int .i64 t.a, .int .i64 t.b, .slice s2 gs.length c2], 32⟩] [⟨.slice s0 ws.length c0, ws⟩, ⟨.slice (some ⟨g3, 0, none⟩) p.l p.l, xs⟩, ⟨.slice (some ⟨g4, 0, none⟩) q.l q.l, ys⟩, ⟨.slice s2 gs.length c2, gs⟩] := H5.out.addV hv2.bel hv2.box hv2.obf hv2.own hv2.ne
          have HC2 := Lib.hid hv2.con
          obtain ⟨w6, hw6⟩ : ∃ w6, w6 = wc := ⟨_, rfl⟩
          rw [← hw6] at st6 ⊢
          have H6 := Lib.hid st6
          obtain ⟨d0, d1, d2⟩ := pic_cellsE (st6.box 6 _ rfl) (Below.refl _ _)
          obtain ⟨e0, e1, e2⟩ := pic_cellsE (st6.box 3 _ rfl) (Below.refl _ _)
          have hl1 := (st6.box 6 _ rfl).lt
          have hl2 := (st6.box 3 _ rfl).lt
          clear hv2 hw6 st6
          go_wp2_with fail
          clear d0 d1 d2 e0 e1 e2 hl1 hl2
          refine (eqM_yes w6 _ _ s2 s0 _ _ c2 c0 gs ws (H6.out.own 3 _ rfl).sl (H6.out.own 0 _ rfl).sl (HC2.out.trans HC0.out.symm)).mono ?_
          rintro e w7 ⟨rfl, hb7⟩
          have H7 := Lib.hid (show StG w w7 [⟨w.heap.size, #[.int .i64 p.a, .int .i64 p.b, .slice p.s p.l p.c], 24⟩, ⟨w.heap.size + 1, #[.int .i64 q.a, .int .i64 q.b, .slice q.s q.l q.c], 24⟩, ⟨w.heap.size + 1 + 1, j.v, 29⟩, ⟨ob0, #[.int .i64 t.a, .int .i64 t.b, .slice s0 ws.length c0], 32⟩, ⟨bx0, #[.int .i64 p.a, .int .i64 p.b, .slice (some ⟨g3, 0, none⟩) p.l p.l], 35⟩, ⟨bx1, #[.int .i64 q.a, .int .i64 q.b, .slice (some ⟨g4, 0, none⟩) q.l q.l], 35⟩, ⟨ob2, #[.int .i64 t.a, .int .i64 t.b, .slice s2 gs.length c2], 32⟩] [⟨.slice s0 ws.length c0, ws⟩, ⟨.slice (some ⟨g3, 0, none⟩) p.l p.l, xs⟩, ⟨.slice (some ⟨g4, 0, none⟩) q.l q.l, ys⟩, ⟨.slice s2 gs.length c2, gs⟩] from H6.out.below hb7)
          clear hb7
          go_upto_region 14 with fail
          have hd1 : Below w7.heap.size w7 w7.drew := below_drewN (Below.refl _ _) 1
          have SV := Lib.hid (fun V (hb : Below w7.heap.size w7 V) => (show Below w7.heap.size w7 V ∧ (V.cell? ⟨bx0, 0, none⟩ = some (.int .i64 p.a) ∧ V.cell? ⟨bx0, 1, none⟩ = some (.int .i64 p.b) ∧ V.cell? ⟨bx0, 2, none⟩ = some (.slice (some ⟨g3, 0, none⟩) p.l p.l)) ∧ (V.cell? ⟨w.heap.size, 0, none⟩ = some (.int .i64 p.a) ∧ V.cell? ⟨w.heap.size, 1, none⟩ = some (.int .i64 p.b) ∧ V.cell? ⟨w.heap.size, 2, none⟩ = some (.slice p.s p.l p.c)) from ⟨hb, pic_cellsE (H7.out.box 4 _ rfl) hb, pic_cellsE (H7.out.box 0 _ rfl) hb⟩))
          have KDx := Lib.hid (fun V (hb : Below w7.heap.size w7 V) => KDp.out V (H7.out.bel.trans (hb.mono H7.out.bel.size)))
          go_region_held3 (fun V => Below w7.heap.size w7 V ∧ (V.cell? ⟨bx0, 0, none⟩ = some (.int .i64 p.a) ∧ V.cell? ⟨bx0, 1, none⟩ = some (.int .i64 p.b) ∧ V.cell? ⟨bx0, 2, none⟩ = some (.slice (some ⟨g3, 0, none⟩) p.l p.l)) ∧ (V.cell? ⟨w.heap.size, 0, none⟩ = some (.int .i64 p.a) ∧ V.cell? ⟨w.heap.size, 1, none⟩ = some (.int .i64 p.b) ∧ V.cell? ⟨w.heap.size, 2, none⟩ = some (.slice p.s p.l p.c)))
            (first | (refine SV.out _ ?_; ((repeat' (first | (with_reducible exact Below.refl _ _) | (with_reducible assumption) | (with_reducible refine belowA ?_ _) | (with_reducible refine belowT ?_ (by with_reducible assumption)) | (with_reducible refine below_setMM ?_ ?_ _ _ _) | (show _ ≤ _; omega))); done)) | go_keep)
            (first
              | (go_at_call 6; (with_reducible refine (KDx.out _ ?_).mono ?_); (focus ((repeat' (first | (with_reducible exact Below.refl _ _) | (with_reducible assumption) | (with_reducible refine belowA ?_ _) | (with_reducible refine belowT ?_ (by with_reducible assumption)) | (with_reducible refine below_setMM ?_ ?_ _ _ _) | (show _ ≤ _; omega))); done)); rintro e wS ⟨gx, rfl, ox, hbx⟩)
              | (go_at_call 10; (with_reducible refine (eqP_yes _ _ _ _ _ _ _ _ _ xs xs ((H7.out.own 1 _ rfl).below ?_).sl ox.sl rfl).mono ?_); (focus ((repeat' (first | (with_reducible exact Below.refl _ _) | (with_reducible assumption) | (with_reducible refine belowA ?_ _) | (with_reducible refine belowT ?_ (by with_reducible assumption)) | (with_reducible refine below_setMM ?_ ?_ _ _ _) | (show _ ≤ _; omega))); done)); rintro e wT ⟨rfl, hbt⟩))
          have H7T := Lib.hid (show Below w7.heap.size w7 wT by (focus ((repeat' (first | (with_reducible exact Below.refl _ _) | (with_reducible assumption) | (with_reducible refine belowA ?_ _) | (with_reducible refine belowT ?_ (by with_reducible assumption)) | (with_reducible refine below_setMM ?_ ?_ _ _ _) | (show _ ≤ _; omega))); done)))
          obtain ⟨w8, hw8⟩ : ∃ w8, w8 = wT := ⟨_, rfl⟩
          rw [← hw8] at H7T ⊢
          have H8 := Lib.hid (show StG w w8 [⟨w.heap.size, #[.int .i64 p.a, .int .i64 p.b, .slice p.s p.l p.c], 24⟩, ⟨w.heap.size + 1, #[.int .i64 q.a, .int .i64 q.b, .slice q.s q.l q.c], 24⟩, ⟨w.heap.size + 1 + 1, j.v, 29⟩, ⟨ob0, #[.int .i64 t.a, .int .i64 t.b, .slice s0 ws.length c0], 32⟩, ⟨bx0, #[.int .i64 p.a, .int .i64 p.b, .slice (some ⟨g3, 0, none⟩) p.l p.l], 35⟩, ⟨bx1, #[.int .i64 q.a, .int .i64 q.b, .slice (some ⟨g4, 0, none⟩) q.l q.l], 35⟩, ⟨ob2, #[.int .i64 t.a, .int .i64 t.b, .slice s2 gs.length c2], 32⟩] [⟨.slice s0 ws.length c0, ws⟩, ⟨.slice (some ⟨g3, 0, none⟩) p.l p.l, xs⟩, ⟨.slice (some ⟨g4, 0, none⟩) q.l q.l, ys⟩, ⟨.slice s2 gs.length c2, gs⟩] from H7.out.below H7T.out)
          clear hw8 hbt hbx hd1 ox
          go_upto_region 16 with fail
          have hd1 : Below w8.heap.size w8 w8.drew := below_drewN (Below.refl _ _) 1
          have SV := Lib.hid (fun V (hb : Below w8.heap.size w8 V) => (show Below w8.heap.size w8 V ∧ (V.cell? ⟨bx1, 0, none⟩ = some (.int .i64 q.a) ∧ V.cell? ⟨bx1, 1, none⟩ = some (.int .i64 q.b) ∧ V.cell? ⟨bx1, 2, none⟩ = some (.slice (some ⟨g4, 0, none⟩) q.l q.l)) ∧ (V.cell? ⟨w.heap.size + 1, 0, none⟩ = some (.int .i64 q.a) ∧ V.cell? ⟨w.heap.size + 1, 1, none⟩ = some (.int .i64 q.b) ∧ V.cell? ⟨w.heap.size + 1, 2, none⟩ = some (.slice q.s q.l q.c)) from ⟨hb, pic_cellsE (H8.out.box 5 _ rfl) hb, pic_cellsE (H8.out.box 1 _ rfl) hb⟩))
          have KDx := Lib.hid (fun V (hb : Below w8.heap.size w8 V) => KDq.out V (H8.out.bel.trans (hb.mono H8.out.bel.size)))
          go_region_held3 (fun V => Below w8.heap.size w8 V ∧ (V.cell? ⟨bx1, 0, none⟩ = some (.int .i64 q.a) ∧ V.cell? ⟨bx1, 1, none⟩ = some (.int .i64 q.b) ∧ V.cell? ⟨bx1, 2, none⟩ = some (.slice (some ⟨g4, 0, none⟩) q.l q.l)) ∧ (V.cell? ⟨w.heap.size + 1, 0, none⟩ = some (.int .i64 q.a) ∧ V.cell? ⟨w.heap.size + 1, 1, none⟩ = some (.int .i64 q.b) ∧ V.cell? ⟨w.heap.size + 1, 2, none⟩ = some (.slice q.s q.l q.c)))
            (first | (refine SV.out _ ?_; ((repeat' (first | (with_reducible exact Below.refl _ _) | (with_reducible assumption) | (with_reducible refine belowA ?_ _) | (with_reducible refine belowT ?_ (by with_reducible assumption)) | (with_reducible refine below_setMM ?_ ?_ _ _ _) | (show _ ≤ _; omega))); done)) | go_keep)
            (first
              | (go_at_call 6; (with_reducible refine (KDx.out _ ?_).mono ?_); (focus ((repeat' (first | (with_reducible exact Below.refl _ _) | (with_reducible assumption) | (with_reducible refine belowA ?_ _) | (with_reducible refine belowT ?_ (by with_reducible assumption)) | (with_reducible refine below_setMM ?_ ?_ _ _ _) | (show _ ≤ _; omega))); done)); rintro e wS ⟨gx, rfl, ox, hbx⟩)
              | (go_at_call 10; (with_reducible refine (eqP_yes _ _ _ _ _ _ _ _ _ ys ys ((H8.out.own 2 _ rfl).below ?_).sl ox.sl rfl).mono ?_); (focus ((repeat' (first | (with_reducible exact Below.refl _ _) | (with_reducible assumption) | (with_reducible refine belowA ?_ _) | (with_reducible refine belowT ?_ (by with_reducible assumption)) | (with_reducible refine below_setMM ?_ ?_ _ _ _) | (show _ ≤ _; omega))); done)); rintro e wT ⟨rfl, hbt⟩))
          have H8T := Lib.hid (show Below w8.heap.size w8 wT by (focus ((repeat' (first | (with_reducible exact Below.refl _ _) | (with_reducible assumption) | (with_reducible refine belowA ?_ _) | (with_reducible refine belowT ?_ (by with_reducible assumption)) | (with_reducible refine below_setMM ?_ ?_ _ _ _) | (show _ ≤ _; omega))); done)))
          obtain ⟨w9, hw9⟩ : ∃ w9, w9 = wT := ⟨_, rfl⟩
          rw [← hw9] at H8T ⊢
          have st9 : StG w w9 [⟨w.heap.size, #[.int .i64 p.a, .int .i64 p.b, .slice p.s p.l p.c], 24⟩, ⟨w.heap.size + 1, #[.int .i64 q.a, .int .i64 q.b, .slice q.s q.l q.c], 24⟩, ⟨w.heap.size + 1 + 1, j.v, 29⟩, ⟨ob0, #[.int .i64 t.a, .int .i64 t.b, .slice s0 ws.length c0], 32⟩, ⟨bx0, #[.int .i64 p.a, .int .i64 p.b, .slice (some ⟨g3, 0, none⟩) p.l p.l], 35⟩, ⟨bx1, #[.int .i64 q.a, .int .i64 q.b, .slice (some ⟨g4, 0, none⟩) q.l q.l], 35⟩, ⟨ob2, #[.int .i64 t.a, .int .i64 t.b, .slice s2 gs.length c2], 32⟩] [⟨.slice s0 ws.length c0, ws⟩, ⟨.slice (some ⟨g3, 0, none⟩) p.l p.l, xs⟩, ⟨.slice (some ⟨g4, 0, none⟩) q.l q.l, ys⟩, ⟨.slice s2 gs.length c2, gs⟩] := H8.out.below H8T.out
          have H9 := Lib.hid st9
          clear hw9 hbt hbx hd1 ox
          have KMp : ∀ W k, OwnF W w.heap.size (.slice (some ⟨g3, 0, none⟩) p.l p.l) xs → w.heap.size ≤ W.heap.size → k + p.l ≤ 9223372036854775000 → Calls Tryz.prog 11 #[.agg #[.int .i64 p.a, .int .i64 p.b, .slice (some ⟨g3, 0, none⟩) p.l p.l], .int .i64 k] W (Marks W w.heap.size (.slice (some ⟨g3, 0, none⟩) p.l p.l) p.l k) := fun W k h1 h2 h3 => by
            have h := markP_any W w.heap.size p.a p.b (some ⟨g3, 0, none⟩) p.l xs k (by rw [HLN.out.1]; exact h3) h2 (by rw [HLN.out.1]; exact h1)
            rw [HLN.out.1] at h
            exact h
          have KMq : ∀ W k, OwnF W w.heap.size (.slice (some ⟨g4, 0, none⟩) q.l q.l) ys → w.heap.size ≤ W.heap.size → k + q.l ≤ 9223372036854775000 → Calls Tryz.prog 11 #[.agg #[.int .i64 q.a, .int .i64 q.b, .slice (some ⟨g4, 0, none⟩) q.l q.l], .int .i64 k] W (Marks W w.heap.size (.slice (some ⟨g4, 0, none⟩) q.l q.l) q.l k) := fun W k h1 h2 h3 => by
            have h := markP_any W w.heap.size q.a q.b (some ⟨g4, 0, none⟩) q.l ys k (by rw [HLN.out.2]; exact h3) h2 (by rw [HLN.out.2]; exact h1)
            rw [HLN.out.2] at h
            exact h
          have KP1 := Lib.hid (KMp w9 1 (st9.own 1 _ rfl) st9.bel.size (by have := HL.out.1; omega))
          obtain ⟨k1, hk1⟩ : ∃ k, 1 + p.l = k := ⟨_, rfl⟩
          unfold Marks at KP1
          rw [hk1] at KP1
          have KQ1 := Lib.hid (fun W h1 h2 => KMq W k1 h1 h2 (by have := HL.out.1; have := HL.out.2; omega))
          obtain ⟨k2, hk2⟩ : ∃ k, k1 + q.l = k := ⟨_, rfl⟩
          unfold Marks at KQ1
          rw [hk2] at KQ1
          have hkd : decide ((k2 : Int) < 0) = false := decide_eq_false (by omega)
          obtain ⟨a0, a1, a2⟩ := pic_cellsE (st9.box 4 _ rfl) (Below.refl _ _)
          have hl := (st9.box 4 _ rfl).lt
          clear KMp KMq hk1 hk2 st9
          go_wp2_with fail
          clear a0 a1 a2 hl
          refine KP1.out.mono ?_
          rintro e wa ⟨rfl, hoa, hga⟩
          have sta : StG w wa [⟨w.heap.size, #[.int .i64 p.a, .int .i64 p.b, .slice p.s p.l p.c], 24⟩, ⟨w.heap.size + 1, #[.int .i64 q.a, .int .i64 q.b, .slice q.s q.l q.c], 24⟩, ⟨w.heap.size + 1 + 1, j.v, 29⟩, ⟨ob0, #[.int .i64 t.a, .int .i64 t.b, .slice s0 ws.length c0], 32⟩, ⟨bx0, #[.int .i64 p.a, .int .i64 p.b, .slice (some ⟨g3, 0, none⟩) p.l p.l], 35⟩, ⟨bx1, #[.int .i64 q.a, .int .i64 q.b, .slice (some ⟨g4, 0, none⟩) q.l q.l], 35⟩, ⟨ob2, #[.int .i64 t.a, .int .i64 t.b, .slice s2 gs.length c2], 32⟩] [⟨.slice s0 ws.length c0, ws⟩, ⟨.slice (some ⟨g3, 0, none⟩) p.l p.l, marks 1 p.l⟩, ⟨.slice (some ⟨g4, 0, none⟩) q.l q.l, ys⟩, ⟨.slice s2 gs.length c2, gs⟩] := H9.out.mark (k := 1) rfl hoa hga
          have HA := Lib.hid sta
          obtain ⟨a0, a1, a2⟩ := pic_cellsE (sta.box 5 _ rfl) (Below.refl _ _)
          have hl := (sta.box 5 _ rfl).lt
          clear sta hoa hga
          go_wp2_with fail
          clear a0 a1 a2 hl
          refine (KQ1.out _ (HA.out.own 2 _ rfl) HA.out.bel.size).mono ?_
          rintro e wb ⟨rfl, hob, hgb⟩
          have stb : StG w wb [⟨w.heap.size, #[.int .i64 p.a, .int .i64 p.b, .slice p.s p.l p.c], 24⟩, ⟨w.heap.size + 1, #[.int .i64 q.a, .int .i64 q.b, .slice q.s q.l q.c], 24⟩, ⟨w.heap.size + 1 + 1, j.v, 29⟩, ⟨ob0, #[.int .i64 t.a, .int .i64 t.b, .slice s0 ws.length c0], 32⟩, ⟨bx0, #[.int .i64 p.a, .int .i64 p.b, .slice (some ⟨g3, 0, none⟩) p.l p.l], 35⟩, ⟨bx1, #[.int .i64 q.a, .int .i64 q.b, .slice (some ⟨g4, 0, none⟩) q.l q.l], 35⟩, ⟨ob2, #[.int .i64 t.a, .int .i64 t.b, .slice s2 gs.length c2], 32⟩] [⟨.slice s0 ws.length c0, ws⟩, ⟨.slice (some ⟨g3, 0, none⟩) p.l p.l, marks 1 p.l⟩, ⟨.slice (some ⟨g4, 0, none⟩) q.l q.l, marks k1 q.l⟩, ⟨.slice s2 gs.length c2, gs⟩] := HA.out.mark (k := 2) rfl hob hgb
          have HBs := Lib.hid stb
          obtain ⟨d0, d1, d2⟩ := pic_cellsE (stb.box 6 _ rfl) (Below.refl _ _)
          obtain ⟨e0, e1, e2⟩ := pic_cellsE (stb.box 3 _ rfl) (Below.refl _ _)
          have hl1 := (stb.box 6 _ rfl).lt
          have hl2 := (stb.box 3 _ rfl).lt
          clear stb hob hgb
          go_wp2_with fail
          clear d0 d1 d2 e0 e1 e2 hl1 hl2
          refine (eqM_yes wb _ _ s2 s0 _ _ c2 c0 gs ws (HBs.out.own 3 _ rfl).sl (HBs.out.own 0 _ rfl).sl (HC2.out.trans HC0.out.symm)).mono ?_
          rintro e wd ⟨rfl, hbd⟩
          have std : StG w wd [⟨w.heap.size, #[.int .i64 p.a, .int .i64 p.b, .slice p.s p.l p.c], 24⟩, ⟨w.heap.size + 1, #[.int .i64 q.a, .int .i64 q.b, .slice q.s q.l q.c], 24⟩, ⟨w.heap.size + 1 + 1, j.v, 29⟩, ⟨ob0, #[.int .i64 t.a, .int .i64 t.b, .slice s0 ws.length c0], 32⟩, ⟨bx0, #[.int .i64 p.a, .int .i64 p.b, .slice (some ⟨g3, 0, none⟩) p.l p.l], 35⟩, ⟨bx1, #[.int .i64 q.a, .int .i64 q.b, .slice (some ⟨g4, 0, none⟩) q.l q.l], 35⟩, ⟨ob2, #[.int .i64 t.a, .int .i64 t.b, .slice s2 gs.length c2], 32⟩] [⟨.slice s0 ws.length c0, ws⟩, ⟨.slice (some ⟨g3, 0, none⟩) p.l p.l, marks 1 p.l⟩, ⟨.slice (some ⟨g4, 0, none⟩) q.l q.l, marks k1 q.l⟩, ⟨.slice s2 gs.length c2, gs⟩] := HBs.out.below hbd
          have HDs := Lib.hid std
          have hgl : gs.length ≤ 576 := by
            have h1 := HT.out
            have h2 := congrArg List.length HC2.out
            rw [List.length_map] at h2
            omega
          have KV := Lib.hid (markM_any wd w.heap.size t.a t.b s2 c2 gs 1 (by omega) std.bel.size (std.own 3 _ rfl))
          unfold Marks at KV
          obtain ⟨nn, hnn⟩ : ∃ nn, 1 + gs.length = nn := ⟨_, rfl⟩
          rw [hnn] at KV
          have KH : ∀ W, SlF W (.slice s2 gs.length c2) (marks 1 gs.length) → Calls Tryz.prog 13 #[.agg #[.int .i64 t.a, .int .i64 t.b, .slice s2 gs.length c2], .int .i64 1] W fun e w' => e = .returned (.int .i64 (nn : Int)) ∧ Below W.heap.size W w' := fun W h => by
            have := heldM_yes W t.a t.b s2 gs.length c2 1 gs.length (by omega) h
            rw [hnn] at this
            exact this
          have KH := Lib.hid KH
          have hnd : decide ((nn : Int) < 0) = false := decide_eq_false (by omega)
          have hne : ((nn : Int) != (nn : Int)) = false := by simp
          obtain ⟨d0, d1, d2⟩ := pic_cellsE (std.box 6 _ rfl) (Below.refl _ _)
          have hl1 := (std.box 6 _ rfl).lt
          clear std hbd hgl hnn
          go_wp2_with fail
          clear d0 d1 d2 hl1
          refine KV.out.mono ?_
          rintro e wg ⟨rfl, hog, hgg⟩
          have stg : StG w wg [⟨w.heap.size, #[.int .i64 p.a, .int .i64 p.b, .slice p.s p.l p.c], 24⟩, ⟨w.heap.size + 1, #[.int .i64 q.a, .int .i64 q.b, .slice q.s q.l q.c], 24⟩, ⟨w.heap.size + 1 + 1, j.v, 29⟩, ⟨ob0, #[.int .i64 t.a, .int .i64 t.b, .slice s0 ws.length c0], 32⟩, ⟨bx0, #[.int .i64 p.a, .int .i64 p.b, .slice (some ⟨g3, 0, none⟩) p.l p.l], 35⟩, ⟨bx1, #[.int .i64 q.a, .int .i64 q.b, .slice (some ⟨g4, 0, none⟩) q.l q.l], 35⟩, ⟨ob2, #[.int .i64 t.a, .int .i64 t.b, .slice s2 gs.length c2], 32⟩] [⟨.slice s0 ws.length c0, ws⟩, ⟨.slice (some ⟨g3, 0, none⟩) p.l p.l, marks 1 p.l⟩, ⟨.slice (some ⟨g4, 0, none⟩) q.l q.l, marks k1 q.l⟩, ⟨.slice s2 gs.length c2, marks 1 gs.length⟩] := HDs.out.mark (k := 3) rfl hog hgg
          have HG := Lib.hid stg
          obtain ⟨d0, d1, d2⟩ := pic_cellsE (stg.box 6 _ rfl) (Below.refl _ _)
          have hl1 := (stg.box 6 _ rfl).lt
          clear stg hog hgg
          go_wp2_with fail
          clear d0 d1 d2 hl1
          refine (KH.out _ (HG.out.own 3 _ rfl).sl).mono ?_
          rintro e wh ⟨rfl, hbh⟩
          have HH := Lib.hid (show StG w wh [⟨w.heap.size, #[.int .i64 p.a, .int .i64 p.b, .slice p.s p.l p.c], 24⟩, ⟨w.heap.size + 1, #[.int .i64 q.a, .int .i64 q.b, .slice q.s q.l q.c], 24⟩, ⟨w.heap.size + 1 + 1, j.v, 29⟩, ⟨ob0, #[.int .i64 t.a, .int .i64 t.b, .slice s0 ws.length c0], 32⟩, ⟨bx0, #[.int .i64 p.a, .int .i64 p.b, .slice (some ⟨g3, 0, none⟩) p.l p.l], 35⟩, ⟨bx1, #[.int .i64 q.a, .int .i64 q.b, .slice (some ⟨g4, 0, none⟩) q.l q.l], 35⟩, ⟨ob2, #[.int .i64 t.a, .int .i64 t.b, .slice s2 gs.length c2], 32⟩] [⟨.slice s0 ws.length c0, ws⟩, ⟨.slice (some ⟨g3, 0, none⟩) p.l p.l, marks 1 p.l⟩, ⟨.slice (some ⟨g4, 0, none⟩) q.l q.l, marks k1 q.l⟩, ⟨.slice s2 gs.length c2, marks 1 gs.length⟩] from HG.out.below hbh)
          clear hbh
          have KI6 := Lib.hid (fun V g1 g2 h1 h2 hb => KI.out wh V g1 g2 h1 h2 hb)
          go_upto_region 31 with fail
          go_cut [19, 20] from 105 to 114 (fun v8 v9 wx => ∃ (ob : Nat) (s : Option Addr) (c : Nat) (bs : List Nat), v8 = .pointer (some ⟨ob, 0, none⟩) ∧ v9 = .bool t.ok ∧ MBox wh.heap.size wh wx ob t s c bs)
          case first =>
            have hd1 : Below wh.heap.size wh wh.drew := below_drewN (Below.refl _ _) 1
            have hd2 : Below wh.heap.size wh (wh.alloc (.cells #[.int .i64 0, .int .i64 0, .slice none 0 0] 32)).drew := below_drewN (alE _ _) 1
            have BX : BoxN (wh.alloc (.cells #[.int .i64 0, .int .i64 0, .slice none 0 0] 32)).drew wh.heap.size #[.int .i64 0, .int .i64 0, .slice none 0 0] 32 := (BoxN.last wh _ _).drewN 1
            have SV := Lib.hid (fun V (hb : Below wh.heap.size wh V) => (show Below wh.heap.size wh V ∧ (V.cell? ⟨w.heap.size, 0, none⟩ = some (.int .i64 p.a) ∧ V.cell? ⟨w.heap.size, 1, none⟩ = some (.int .i64 p.b) ∧ V.cell? ⟨w.heap.size, 2, none⟩ = some (.slice p.s p.l p.c)) ∧ (V.cell? ⟨w.heap.size + 1, 0, none⟩ = some (.int .i64 q.a) ∧ V.cell? ⟨w.heap.size + 1, 1, none⟩ = some (.int .i64 q.b) ∧ V.cell? ⟨w.heap.size + 1, 2, none⟩ = some (.slice q.s q.l q.c)) ∧ (V.cell? ⟨w.heap.size + 1 + 1, 0, none⟩ = some (.int .i64 j.kind) ∧ V.cell? ⟨w.heap.size + 1 + 1, 1, none⟩ = some (.int .i64 j.reach) ∧ V.cell? ⟨w.heap.size + 1 + 1, 2, none⟩ = some (.int .i64 j.deep) ∧ V.cell? ⟨w.heap.size + 1 + 1, 3, none⟩ = some (.bool j.solve) ∧ V.cell? ⟨w.heap.size + 1 + 1, 4, none⟩ = some (.float .f32 j.one) ∧ V.cell? ⟨w.heap.size + 1 + 1, 5, none⟩ = some (.float .f32 j.more)) from ⟨hb, box3_cells (HH.out.below hb)⟩))
            have KDp := Lib.hid (fun V (hb : Below wh.heap.size wh V) => toPFar wh V p xs (HP.out.1.below HH.out.bel) HL.out.1 hb)
            have KDq := Lib.hid (fun V (hb : Below wh.heap.size wh V) => toPFar wh V q ys (HP.out.2.below HH.out.bel) HL.out.2 hb)
            have KJ := Lib.hid (fun V => toJobE V j)
            unfold JobX.v at KJ
            go_region_held3 (fun V => Below wh.heap.size wh V ∧ (V.cell? ⟨w.heap.size, 0, none⟩ = some (.int .i64 p.a) ∧ V.cell? ⟨w.heap.size, 1, none⟩ = some (.int .i64 p.b) ∧ V.cell? ⟨w.heap.size, 2, none⟩ = some (.slice p.s p.l p.c)) ∧ (V.cell? ⟨w.heap.size + 1, 0, none⟩ = some (.int .i64 q.a) ∧ V.cell? ⟨w.heap.size + 1, 1, none⟩ = some (.int .i64 q.b) ∧ V.cell? ⟨w.heap.size + 1, 2, none⟩ = some (.slice q.s q.l q.c)) ∧ (V.cell? ⟨w.heap.size + 1 + 1, 0, none⟩ = some (.int .i64 j.kind) ∧ V.cell? ⟨w.heap.size + 1 + 1, 1, none⟩ = some (.int .i64 j.reach) ∧ V.cell? ⟨w.heap.size + 1 + 1, 2, none⟩ = some (.int .i64 j.deep) ∧ V.cell? ⟨w.heap.size + 1 + 1, 3, none⟩ = some (.bool j.solve) ∧ V.cell? ⟨w.heap.size + 1 + 1, 4, none⟩ = some (.float .f32 j.one) ∧ V.cell? ⟨w.heap.size + 1 + 1, 5, none⟩ = some (.float .f32 j.more)))
              (first | (refine SV.out _ ?_; ((repeat' (first | (with_reducible exact Below.refl _ _) | (with_reducible assumption) | (with_reducible refine belowA ?_ _) | (with_reducible refine belowT ?_ (by with_reducible assumption)) | (with_reducible refine below_setMM ?_ ?_ _ _ _) | (show _ ≤ _; omega))); done)) | go_keep)
              (first
              | (go_at_call 6; (with_reducible refine (KDp.out _ ?_).mono ?_); (focus ((repeat' (first | (with_reducible exact Below.refl _ _) | (with_reducible assumption) | (with_reducible refine belowA ?_ _) | (with_reducible refine belowT ?_ (by with_reducible assumption)) | (with_reducible refine below_setMM ?_ ?_ _ _ _) | (show _ ≤ _; omega))); done)); rintro e wp ⟨g1, rfl, o1, hbp⟩)
              | (go_at_call 6; (with_reducible refine (KDq.out _ ?_).mono ?_); (focus ((repeat' (first | (with_reducible exact Below.refl _ _) | (with_reducible assumption) | (with_reducible refine belowA ?_ _) | (with_reducible refine belowT ?_ (by with_reducible assumption)) | (with_reducible refine below_setMM ?_ ?_ _ _ _) | (show _ ≤ _; omega))); done)); rintro e wq ⟨g2, rfl, o2, hbq⟩)
              | (go_at_call 7; (with_reducible refine (KJ.out _).mono ?_); rintro e wj ⟨rfl, hbj⟩)
              | (go_at_call 8; (with_reducible refine (KI6.out _ g1 g2 ?_ ?_ ?_).mono ?_); (focus (refine (o1.below ?_).sl; ((repeat' (first | (with_reducible exact Below.refl _ _) | (with_reducible assumption) | (with_reducible refine belowA ?_ _) | (with_reducible refine belowT ?_ (by with_reducible assumption)) | (with_reducible refine below_setMM ?_ ?_ _ _ _) | (show _ ≤ _; omega))); done))); (focus (refine (o2.below ?_).sl; ((repeat' (first | (with_reducible exact Below.refl _ _) | (with_reducible assumption) | (with_reducible refine belowA ?_ _) | (with_reducible refine belowT ?_ (by with_reducible assumption)) | (with_reducible refine below_setMM ?_ ?_ _ _ _) | (show _ ≤ _; omega))); done))); (focus ((repeat' (first | (with_reducible exact Below.refl _ _) | (with_reducible assumption) | (with_reducible refine belowA ?_ _) | (with_reducible refine belowT ?_ (by with_reducible assumption)) | (with_reducible refine below_setMM ?_ ?_ _ _ _) | (show _ ≤ _; omega))); done)); rintro e wf ⟨s, c, bs, rfl, ho, hc, hbf, hfar⟩; refine mpE (T := _ ∧ _) (hfar wh.heap.size #[.int .i64 0, .int .i64 0, .slice none 0 0] 32 (BX.below ?_)) ?_; (focus ((repeat' (first | (with_reducible exact Below.refl _ _) | (with_reducible assumption) | (with_reducible refine belowA ?_ _) | (with_reducible refine belowT ?_ (by with_reducible assumption)) | (with_reducible refine below_setMM ?_ ?_ _ _ _) | (show _ ≤ _; omega))); done)); rintro ⟨hbx, hbn⟩; obtain ⟨x0, x1, x2, y0, y1, y2⟩ := hbx.three.cells; refine mpE (T := Below wh.heap.size wh wh) ?_ ?_; (focus ((repeat' (first | (with_reducible exact Below.refl _ _) | (with_reducible assumption) | (with_reducible refine belowA ?_ _) | (with_reducible refine belowT ?_ (by with_reducible assumption)) | (with_reducible refine below_setMM ?_ ?_ _ _ _) | (show _ ≤ _; omega))); done)); intro hbo0; have hbo := hbo0.size; refine mpE (T := Below wh.heap.size wh wf) ?_ ?_; (focus ((repeat' (first | (with_reducible exact Below.refl _ _) | (with_reducible assumption) | (with_reducible refine belowA ?_ _) | (with_reducible refine belowT ?_ (by with_reducible assumption)) | (with_reducible refine below_setMM ?_ ?_ _ _ _) | (show _ ≤ _; omega))); done)); intro hbw)
              | (go_at_call 8; (with_reducible refine (KI6.out _ g1 g2 ?_ ?_ ?_).mono ?_); (focus (refine (o1.below ?_).sl; ((repeat' (first | (with_reducible exact Below.refl _ _) | (with_reducible assumption) | (with_reducible refine belowA ?_ _) | (with_reducible refine belowT ?_ (by with_reducible assumption)) | (with_reducible refine below_setMM ?_ ?_ _ _ _) | (show _ ≤ _; omega))); done))); (focus (refine (o2.below ?_).sl; ((repeat' (first | (with_reducible exact Below.refl _ _) | (with_reducible assumption) | (with_reducible refine belowA ?_ _) | (with_reducible refine belowT ?_ (by with_reducible assumption)) | (with_reducible refine below_setMM ?_ ?_ _ _ _) | (show _ ≤ _; omega))); done))); (focus ((repeat' (first | (with_reducible exact Below.refl _ _) | (with_reducible assumption) | (with_reducible refine belowA ?_ _) | (with_reducible refine belowT ?_ (by with_reducible assumption)) | (with_reducible refine below_setMM ?_ ?_ _ _ _) | (show _ ≤ _; omega))); done)); rintro e wf ⟨s, c, bs, rfl, ho, hc, hbf, hfar⟩; refine mpE (T := _ ∧ _) (hfar wp.heap.size #[.int .i64 0, .int .i64 0, .slice none 0 0] 32 ((BoxN.last wp #[.int .i64 0, .int .i64 0, .slice none 0 0] 32).below ?_)) ?_; (focus ((repeat' (first | (with_reducible exact Below.refl _ _) | (with_reducible assumption) | (with_reducible refine belowA ?_ _) | (with_reducible refine belowT ?_ (by with_reducible assumption)) | (with_reducible refine below_setMM ?_ ?_ _ _ _) | (show _ ≤ _; omega))); done)); rintro ⟨hbx, hbn⟩; obtain ⟨x0, x1, x2, y0, y1, y2⟩ := hbx.three.cells; refine mpE (T := Below wh.heap.size wh wp) ?_ ?_; (focus ((repeat' (first | (with_reducible exact Below.refl _ _) | (with_reducible assumption) | (with_reducible refine belowA ?_ _) | (with_reducible refine belowT ?_ (by with_reducible assumption)) | (with_reducible refine below_setMM ?_ ?_ _ _ _) | (show _ ≤ _; omega))); done)); intro hbo0; have hbo := hbo0.size; refine mpE (T := Below wh.heap.size wh wf) ?_ ?_; (focus ((repeat' (first | (with_reducible exact Below.refl _ _) | (with_reducible assumption) | (with_reducible refine belowA ?_ _) | (with_reducible refine belowT ?_ (by with_reducible assumption)) | (with_reducible refine below_setMM ?_ ?_ _ _ _) | (show _ ≤ _; omega))); done)); intro hbw)
              | (go_at_call 8; (with_reducible refine (KI6.out _ g1 g2 ?_ ?_ ?_).mono ?_); (focus (refine (o1.below ?_).sl; ((repeat' (first | (with_reducible exact Below.refl _ _) | (with_reducible assumption) | (with_reducible refine belowA ?_ _) | (with_reducible refine belowT ?_ (by with_reducible assumption)) | (with_reducible refine below_setMM ?_ ?_ _ _ _) | (show _ ≤ _; omega))); done))); (focus (refine (o2.below ?_).sl; ((repeat' (first | (with_reducible exact Below.refl _ _) | (with_reducible assumption) | (with_reducible refine belowA ?_ _) | (with_reducible refine belowT ?_ (by with_reducible assumption)) | (with_reducible refine below_setMM ?_ ?_ _ _ _) | (show _ ≤ _; omega))); done))); (focus ((repeat' (first | (with_reducible exact Below.refl _ _) | (with_reducible assumption) | (with_reducible refine belowA ?_ _) | (with_reducible refine belowT ?_ (by with_reducible assumption)) | (with_reducible refine below_setMM ?_ ?_ _ _ _) | (show _ ≤ _; omega))); done)); rintro e wf ⟨s, c, bs, rfl, ho, hc, hbf, hfar⟩; refine mpE (T := _ ∧ _) (hfar wq.heap.size #[.int .i64 0, .int .i64 0, .slice none 0 0] 32 ((BoxN.last wq #[.int .i64 0, .int .i64 0, .slice none 0 0] 32).below ?_)) ?_; (focus ((repeat' (first | (with_reducible exact Below.refl _ _) | (with_reducible assumption) | (with_reducible refine belowA ?_ _) | (with_reducible refine belowT ?_ (by with_reducible assumption)) | (with_reducible refine below_setMM ?_ ?_ _ _ _) | (show _ ≤ _; omega))); done)); rintro ⟨hbx, hbn⟩; obtain ⟨x0, x1, x2, y0, y1, y2⟩ := hbx.three.cells; refine mpE (T := Below wh.heap.size wh wq) ?_ ?_; (focus ((repeat' (first | (with_reducible exact Below.refl _ _) | (with_reducible assumption) | (with_reducible refine belowA ?_ _) | (with_reducible refine belowT ?_ (by with_reducible assumption)) | (with_reducible refine below_setMM ?_ ?_ _ _ _) | (show _ ≤ _; omega))); done)); intro hbo0; have hbo := hbo0.size; refine mpE (T := Below wh.heap.size wh wf) ?_ ?_; (focus ((repeat' (first | (with_reducible exact Below.refl _ _) | (with_reducible assumption) | (with_reducible refine belowA ?_ _) | (with_reducible refine belowT ?_ (by with_reducible assumption)) | (with_reducible refine below_setMM ?_ ?_ _ _ _) | (show _ ≤ _; omega))); done)); intro hbw)
              | (go_at_call 8; (with_reducible refine (KI6.out _ g1 g2 ?_ ?_ ?_).mono ?_); (focus (refine (o1.below ?_).sl; ((repeat' (first | (with_reducible exact Below.refl _ _) | (with_reducible assumption) | (with_reducible refine belowA ?_ _) | (with_reducible refine belowT ?_ (by with_reducible assumption)) | (with_reducible refine below_setMM ?_ ?_ _ _ _) | (show _ ≤ _; omega))); done))); (focus (refine (o2.below ?_).sl; ((repeat' (first | (with_reducible exact Below.refl _ _) | (with_reducible assumption) | (with_reducible refine belowA ?_ _) | (with_reducible refine belowT ?_ (by with_reducible assumption)) | (with_reducible refine below_setMM ?_ ?_ _ _ _) | (show _ ≤ _; omega))); done))); (focus ((repeat' (first | (with_reducible exact Below.refl _ _) | (with_reducible assumption) | (with_reducible refine belowA ?_ _) | (with_reducible refine belowT ?_ (by with_reducible assumption)) | (with_reducible refine below_setMM ?_ ?_ _ _ _) | (show _ ≤ _; omega))); done)); rintro e wf ⟨s, c, bs, rfl, ho, hc, hbf, hfar⟩; refine mpE (T := _ ∧ _) (hfar wj.heap.size #[.int .i64 0, .int .i64 0, .slice none 0 0] 32 ((BoxN.last wj #[.int .i64 0, .int .i64 0, .slice none 0 0] 32).below ?_)) ?_; (focus ((repeat' (first | (with_reducible exact Below.refl _ _) | (with_reducible assumption) | (with_reducible refine belowA ?_ _) | (with_reducible refine belowT ?_ (by with_reducible assumption)) | (with_reducible refine below_setMM ?_ ?_ _ _ _) | (show _ ≤ _; omega))); done)); rintro ⟨hbx, hbn⟩; obtain ⟨x0, x1, x2, y0, y1, y2⟩ := hbx.three.cells; refine mpE (T := Below wh.heap.size wh wj) ?_ ?_; (focus ((repeat' (first | (with_reducible exact Below.refl _ _) | (with_reducible assumption) | (with_reducible refine belowA ?_ _) | (with_reducible refine belowT ?_ (by with_reducible assumption)) | (with_reducible refine below_setMM ?_ ?_ _ _ _) | (show _ ≤ _; omega))); done)); intro hbo0; have hbo := hbo0.size; refine mpE (T := Below wh.heap.size wh wf) ?_ ?_; (focus ((repeat' (first | (with_reducible exact Below.refl _ _) | (with_reducible assumption) | (with_reducible refine belowA ?_ _) | (with_reducible refine belowT ?_ (by with_reducible assumption)) | (with_reducible refine below_setMM ?_ ?_ _ _ _) | (show _ ≤ _; omega))); done)); intro hbw)
              | (go_at_call 8; (with_reducible refine (KI6.out _ g1 g2 ?_ ?_ ?_).mono ?_); (focus (refine (o1.below ?_).sl; ((repeat' (first | (with_reducible exact Below.refl _ _) | (with_reducible assumption) | (with_reducible refine belowA ?_ _) | (with_reducible refine belowT ?_ (by with_reducible assumption)) | (with_reducible refine below_setMM ?_ ?_ _ _ _) | (show _ ≤ _; omega))); done))); (focus (refine (o2.below ?_).sl; ((repeat' (first | (with_reducible exact Below.refl _ _) | (with_reducible assumption) | (with_reducible refine belowA ?_ _) | (with_reducible refine belowT ?_ (by with_reducible assumption)) | (with_reducible refine below_setMM ?_ ?_ _ _ _) | (show _ ≤ _; omega))); done))); (focus ((repeat' (first | (with_reducible exact Below.refl _ _) | (with_reducible assumption) | (with_reducible refine belowA ?_ _) | (with_reducible refine belowT ?_ (by with_reducible assumption)) | (with_reducible refine below_setMM ?_ ?_ _ _ _) | (show _ ≤ _; omega))); done)); rintro e wf ⟨s, c, bs, rfl, ho, hc, hbf, hfar⟩; refine mpE (T := Below wh.heap.size wh wf) ?_ ?_; (focus ((repeat' (first | (with_reducible exact Below.refl _ _) | (with_reducible assumption) | (with_reducible refine belowA ?_ _) | (with_reducible refine belowT ?_ (by with_reducible assumption)) | (with_reducible refine below_setMM ?_ ?_ _ _ _) | (show _ ≤ _; omega))); done)); intro hbw))
            all_goals
              go_wp2_with fail
              go_meet
              first
                | exact ⟨_, s, c, bs, rfl, rfl, MBox.put hbw hbx ho hbn hbo hc⟩
                | exact ⟨_, s, c, bs, rfl, rfl, MBox.new hbw ho hc hbw.size⟩
          case rest =>
            obtain ⟨ob7, s7, c7, hs, rfl, rfl, hv7⟩ := hcut
            have st7 : StG w wc [⟨w.heap.size, #[.int .i64 p.a, .int .i64 p.b, .slice p.s p.l p.c], 24⟩, ⟨w.heap.size + 1, #[.int .i64 q.a, .int .i64 q.b, .slice q.s q.l q.c], 24⟩, ⟨w.heap.size + 1 + 1, j.v, 29⟩, ⟨ob0, #[.int .i64 t.a, .int .i64 t.b, .slice s0 ws.length c0], 32⟩, ⟨bx0, #[.int .i64 p.a, .int .i64 p.b, .slice (some ⟨g3, 0, none⟩) p.l p.l], 35⟩, ⟨bx1, #[.int .i64 q.a, .int .i64 q.b, .slice (some ⟨g4, 0, none⟩) q.l q.l], 35⟩, ⟨ob2, #[.int .i64 t.a, .int .i64 t.b, .slice s2 gs.length c2], 32⟩, ⟨ob7, #[.int .i64 t.a, .int .i64 t.b, .slice s7 hs.length c7], 32⟩] [⟨.slice s0 ws.length c0, ws⟩, ⟨.slice (some ⟨g3, 0, none⟩) p.l p.l, marks 1 p.l⟩, ⟨.slice (some ⟨g4, 0, none⟩) q.l q.l, marks k1 q.l⟩, ⟨.slice s2 gs.length c2, marks 1 gs.length⟩, ⟨.slice s7 hs.length c7, hs⟩] := HH.out.addV hv7.bel hv7.box hv7.obf hv7.own hv7.ne
            have HC7 := Lib.hid hv7.con
            obtain ⟨wi, hwi⟩ : ∃ wi, wi = wc := ⟨_, rfl⟩
            rw [← hwi] at st7 ⊢
            have HI := Lib.hid st7
            obtain ⟨d0, d1, d2⟩ := pic_cellsE (st7.box 7 _ rfl) (Below.refl _ _)
            obtain ⟨e0, e1, e2⟩ := pic_cellsE (st7.box 3 _ rfl) (Below.refl _ _)
            have hl1 := (st7.box 7 _ rfl).lt
            have hl2 := (st7.box 3 _ rfl).lt
            clear hv7 hwi st7
            go_wp2_with fail
            clear d0 d1 d2 e0 e1 e2 hl1 hl2
            refine (eqM_yes wi _ _ s7 s0 _ _ c7 c0 hs ws (HI.out.own 4 _ rfl).sl (HI.out.own 0 _ rfl).sl (HC7.out.trans HC0.out.symm)).mono ?_
            rintro e wk ⟨rfl, hbk⟩
            have stk : StG w wk [⟨w.heap.size, #[.int .i64 p.a, .int .i64 p.b, .slice p.s p.l p.c], 24⟩, ⟨w.heap.size + 1, #[.int .i64 q.a, .int .i64 q.b, .slice q.s q.l q.c], 24⟩, ⟨w.heap.size + 1 + 1, j.v, 29⟩, ⟨ob0, #[.int .i64 t.a, .int .i64 t.b, .slice s0 ws.length c0], 32⟩, ⟨bx0, #[.int .i64 p.a, .int .i64 p.b, .slice (some ⟨g3, 0, none⟩) p.l p.l], 35⟩, ⟨bx1, #[.int .i64 q.a, .int .i64 q.b, .slice (some ⟨g4, 0, none⟩) q.l q.l], 35⟩, ⟨ob2, #[.int .i64 t.a, .int .i64 t.b, .slice s2 gs.length c2], 32⟩, ⟨ob7, #[.int .i64 t.a, .int .i64 t.b, .slice s7 hs.length c7], 32⟩] [⟨.slice s0 ws.length c0, ws⟩, ⟨.slice (some ⟨g3, 0, none⟩) p.l p.l, marks 1 p.l⟩, ⟨.slice (some ⟨g4, 0, none⟩) q.l q.l, marks k1 q.l⟩, ⟨.slice s2 gs.length c2, marks 1 gs.length⟩, ⟨.slice s7 hs.length c7, hs⟩] := HI.out.below hbk
            have HK := Lib.hid stk
            obtain ⟨d0, d1, d2⟩ := pic_cellsE (stk.box 6 _ rfl) (Below.refl _ _)
            have hl1 := (stk.box 6 _ rfl).lt
            clear stk hbk
            go_wp2_with fail
            clear d0 d1 d2 hl1
            refine (KH.out _ (HK.out.own 3 _ rfl).sl).mono ?_
            rintro e wl ⟨rfl, hbl⟩
            have HF := Lib.hid (HK.out.below hbl).bel
            clear hbl
            go_wp2_with fail
            go_ret
            exact ⟨rfl, HF.out⟩

end Go.Proofs.YtabbjilgpfnacaaGreat
