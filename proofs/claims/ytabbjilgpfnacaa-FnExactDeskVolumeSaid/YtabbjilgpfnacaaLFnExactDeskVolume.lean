/- The law FnExactDeskVolume: its walk. -/
import Derived.Test.YtabbjilgpfnacaaEe
namespace Go.Proofs.Ytabbjilgpfnacaa
open Go.RowKit Ieee
set_option maxRecDepth 100000
set_option linter.unusedVariables false
set_option linter.unusedSimpArgs false

theorem pairT_len (s : Bool) (p q : Tri) (dp : Int) (xs ys : List Nat) : (pairT s p q dp xs ys).L.length ≤ 2048 := by
  cases h : pairD p q dp
  · rw [pairT_no h]; simp [noVol]
  · obtain ⟨wd, hi, k, e1, e2, e3, e4, e5, e6, e7, e8, e9, e10, e11, e12, e13, e14⟩ := pairD_spec h
    rw [pairT_yes h e1 e2 e5]
    show (tabV _ _ _ _).length ≤ _
    rw [tabV_len, Nat.mul_comm hi wd]
    exact Nat.mul_le_mul e12 e14
theorem deskT_len (p q m : Tri) (dp : Int) (xs ys : List Nat) : (deskT p q m dp xs ys).L.length ≤ 2048 := by
  unfold deskT
  split
  · exact pairT_len _ _ _ _ _ _
  · simp [noVol]

/-- What stands when the program has answered: the argument, its copy, both answers. -/
structure StD (w V W : World) (N : Nat) (p q m tp tq tm : Tri) (b0 b1 b2 : Nat) (t : VolT) (v0 v2 : Value) (xs ys zs gs : List Nat) : Prop where
  bel : Below w.heap.size w W
  arg : BoxN W w.heap.size (desk p q m) 28
  x0 : BoxN W b1 (desk tp tq tm) 37
  w0 : BoxN W b0 #[.int .i64 t.a, .int .i64 t.b, .int .i64 t.d, v0] 31
  g0 : BoxN W b2 #[.int .i64 t.a, .int .i64 t.b, .int .i64 t.d, v2] 31
  blw : Below V.heap.size V W
  own : OwnDesk W V.heap.size tp tq tm xs ys zs
  gown : OwnF W N v2 gs
  ge : N ≤ W.heap.size
theorem OwnDesk.belowE {W W' : World} {B : Nat} {p q m : Tri} {xs ys zs : List Nat} (h : OwnDesk W B p q m xs ys zs) (hb : Below W.heap.size W W') : OwnDesk W' B p q m xs ys zs := ⟨h.op.below hb, h.oq.below hb, h.om.below hb, h.pq, h.pm, h.qm⟩
theorem StD.below {w V W W' : World} {N : Nat} {p q m tp tq tm : Tri} {b0 b1 b2 : Nat} {t : VolT} {v0 v2 : Value} {xs ys zs gs : List Nat} (h : StD w V W N p q m tp tq tm b0 b1 b2 t v0 v2 xs ys zs gs) (hb : Below W.heap.size W W') : StD w V W' N p q m tp tq tm b0 b1 b2 t v0 v2 xs ys zs gs :=
  ⟨h.bel.trans (hb.mono h.bel.size), h.arg.below hb, h.x0.below hb, h.w0.below hb, h.g0.below hb, h.blw.trans (hb.mono h.blw.size), h.own.belowE hb, h.gown.below hb, Nat.le_trans h.ge hb.size⟩
/-- Where the blocks lie. -/
structure Apart (w V : World) (N : Nat) (tp tq tm : Tri) (b0 b1 b2 : Nat) (v2 : Value) : Prop where
  a : w.heap.size < V.heap.size
  b : b0 < V.heap.size
  p : ∀ g, (Value.slice tp.s tp.l tp.c).ownBlock = some g → V.heap.size ≤ g ∧ g < b1
  q : ∀ g, (Value.slice tq.s tq.l tq.c).ownBlock = some g → V.heap.size ≤ g ∧ g < b1
  m : ∀ g, (Value.slice tm.s tm.l tm.c).ownBlock = some g → V.heap.size ≤ g ∧ g < b1
  v : ∀ g, v2.ownBlock = some g → b1 < g ∧ g < b2
  x : V.heap.size ≤ b1
  y : b1 < b2
theorem StD.mark {w V W W' : World} {N : Nat} {p q m tp tq tm : Tri} {b0 b1 b2 : Nat} {t : VolT} {v0 v2 : Value} {xs ys zs gs xs' ys' zs' : List Nat} (h : StD w V W N p q m tp tq tm b0 b1 b2 t v0 v2 xs ys zs gs) (A : Apart w V N tp tq tm b0 b1 b2 v2)
    (ho : OwnDesk W' V.heap.size tp tq tm xs' ys' zs') (hb : Below V.heap.size W W') (kept : ∀ b, b < W.heap.size → some b ≠ (Value.slice tp.s tp.l tp.c).ownBlock → some b ≠ (Value.slice tq.s tq.l tq.c).ownBlock → some b ≠ (Value.slice tm.s tm.l tm.c).ownBlock → W'.heap[b]? = W.heap[b]?) :
    StD w V W' N p q m tp tq tm b0 b1 b2 t v0 v2 xs' ys' zs' gs := by
  have far : ∀ b, b < W.heap.size → b1 ≤ b → W'.heap[b]? = W.heap[b]? := fun b hl hge => kept b hl (fun e => by have := (A.p _ e.symm).2; omega) (fun e => by have := (A.q _ e.symm).2; omega) (fun e => by have := (A.m _ e.symm).2; omega)
  have a := A.a
  have b := A.b
  refine ⟨h.bel.trans (hb.mono (by omega)), h.arg.block (hb.block _ (by omega)), h.x0.block (far _ h.x0.lt (Nat.le_refl _)), h.w0.block (hb.block _ (by omega)), h.g0.block (far _ h.g0.lt (by have := A.y; omega)), h.blw.trans hb, ho, h.gown.block fun g hg => far _ (h.gown.lt hg).2 (by have := (A.v g hg).1; omega), Nat.le_trans h.ge hb.size⟩
theorem StD.markV {w V W W' : World} {N : Nat} {p q m tp tq tm : Tri} {b0 b1 b2 : Nat} {t : VolT} {v0 v2 : Value} {xs ys zs gs gs' : List Nat} (h : StD w V W N p q m tp tq tm b0 b1 b2 t v0 v2 xs ys zs gs) (A : Apart w V N tp tq tm b0 b1 b2 v2)
    (ho : OwnF W' N v2 gs') (hg : W.grownBy W' v2.ownBlock) : StD w V W' N p q m tp tq tm b0 b1 b2 t v0 v2 xs ys zs gs' := by
  have a := A.a
  have b := A.b
  have x := A.x
  have y := A.y
  have ne : ∀ k, k ≤ b1 ∨ b2 ≤ k → some k ≠ v2.ownBlock := fun k hk e => by have := A.v k e.symm; omega
  have own : ∀ v : Value, (∀ g, v.ownBlock = some g → V.heap.size ≤ g ∧ g < b1) → v.ownBlock = none ∨ v.ownBlock ≠ v2.ownBlock := fun v hv => by
    cases e : v.ownBlock with
    | none => exact .inl rfl
    | some g => exact .inr (ne g (by have := (hv g e).2; omega))
  exact ⟨h.bel.grown hg h.bel.size (fun k hk => by have := A.v k hk; omega), h.arg.grown hg (ne _ (by omega)), h.x0.grown hg (ne _ (by omega)), h.w0.grown hg (ne _ (by omega)), h.g0.grown hg (ne _ (by omega)), h.blw.grown hg h.blw.size (fun k hk => by have := A.v k hk; omega),
    ⟨h.own.op.grown hg (own _ A.p), h.own.oq.grown hg (own _ A.q), h.own.om.grown hg (own _ A.m), h.own.pq, h.own.pm, h.own.qm⟩, ho, Nat.le_trans h.ge hg.size⟩

set_option maxHeartbeats 4000000 in
theorem fnExactDeskVolume_walk (w : World) (p q m : Tri) (xs ys zs : List Nat) (dp : Int) (hp : SlF w (.slice p.s p.l p.c) xs) (hq : SlF w (.slice q.s q.l q.c) ys) (hm : SlF w (.slice m.s m.l m.c) zs) :
    Calls Try.prog 3 #[.agg (desk p q m), .int .i64 dp] w fun e w' => e = .returned (.bool true) ∧ Below w.heap.size w w' := by
  obtain ⟨W0, hW0⟩ : ∃ W, W = w.alloc (.cells (desk p q m) 28) := ⟨_, rfl⟩
  obtain ⟨hb0, hx, hs0⟩ := box_new hW0
  have KZ := Lib.hid (fun W => szDesk_any W p q m hp.leE.2 hq.leE.2 hm.leE.2)
  have HP := Lib.hid (And.intro hp (And.intro hq hm))
  have H0 := Lib.hid (And.intro hb0 hx)
  obtain ⟨a0, a1, a2, a3, a4, a5, a6, a7, a8⟩ := nine_of_box hx
  rw [hW0] at a0 a1 a2 a3 a4 a5 a6 a7 a8
  have HW0 := Lib.hid hW0
  clear hp hq hm hb0 hW0 hx hs0
  unfold desk at HW0 ⊢
  go_enter Try.func3, Try.ntmps3
  go_wp2_with fail
  clear a0 a1 a2 a3 a4 a5 a6 a7 a8
  rw [← HW0.out]
  refine (KZ.out _).mono ?_
  rintro e w1 ⟨hb1, rfl | ⟨z, rfl, l1, l2, l3⟩⟩
  · have HB := Lib.hid (H0.out.1.trans (hb1.mono H0.out.1.size))
    clear hb1
    go_wp2_with fail
    go_ret
    exact ⟨rfl, HB.out⟩
  · have KD := Lib.hid (fun W (hb : Below w.heap.size w W) => toDesk_far W p q m xs ys zs (HP.out.1.below hb) (HP.out.2.1.below hb) (HP.out.2.2.below hb) HP.out.1.leE.1 HP.out.2.1.leE.1 HP.out.2.2.leE.1 l1 l2 l3)
    obtain ⟨t, ht⟩ : ∃ t, deskT p q m dp xs ys = t := ⟨_, rfl⟩
    have HT := Lib.hid (show t.L.length ≤ 2048 by rw [← ht]; exact deskT_len _ _ _ _ _ _)
    have KS : ∀ (W : World) (g1 g2 g3 : Nat), SlF W (.slice (some ⟨g1, 0, none⟩) p.l p.l) xs → SlF W (.slice (some ⟨g2, 0, none⟩) q.l q.l) ys → SlF W (.slice (some ⟨g3, 0, none⟩) m.l m.l) zs →
        Calls Try.prog 8 #[.agg (desk ⟨p.a, p.b, some ⟨g1, 0, none⟩, p.l, p.l⟩ ⟨q.a, q.b, some ⟨g2, 0, none⟩, q.l, q.l⟩ ⟨m.a, m.b, some ⟨g3, 0, none⟩, m.l, m.l⟩), .int .i64 dp] W (VRes t W) := fun W g1 g2 g3 h1 h2 h3 => by rw [← ht]; exact sDeskVolume_any W ⟨p.a, p.b, some ⟨g1, 0, none⟩, p.l, p.l⟩ ⟨q.a, q.b, some ⟨g2, 0, none⟩, q.l, q.l⟩ ⟨m.a, m.b, some ⟨g3, 0, none⟩, m.l, m.l⟩ dp xs ys zs h1 h2 h3
    have KI : ∀ (W : World) (g1 g2 g3 : Nat), SlF W (.slice (some ⟨g1, 0, none⟩) p.l p.l) xs → SlF W (.slice (some ⟨g2, 0, none⟩) q.l q.l) ys → SlF W (.slice (some ⟨g3, 0, none⟩) m.l m.l) zs →
        Calls Try.prog 10 #[.agg (desk ⟨p.a, p.b, some ⟨g1, 0, none⟩, p.l, p.l⟩ ⟨q.a, q.b, some ⟨g2, 0, none⟩, q.l, q.l⟩ ⟨m.a, m.b, some ⟨g3, 0, none⟩, m.l, m.l⟩), .int .i64 dp] W (VRes t W) := fun W g1 g2 g3 h1 h2 h3 => by rw [← ht]; exact iDeskVolume_any W ⟨p.a, p.b, some ⟨g1, 0, none⟩, p.l, p.l⟩ ⟨q.a, q.b, some ⟨g2, 0, none⟩, q.l, q.l⟩ ⟨m.a, m.b, some ⟨g3, 0, none⟩, m.l, m.l⟩ dp xs ys zs h1 h2 h3
    have hd : decide ((z : Int) < 0) = false := decide_eq_false (by omega)
    have HL := Lib.hid (And.intro l1 (And.intro l2 (And.intro l3 (And.intro HP.out.1.leE.1 (And.intro HP.out.2.1.leE.1 HP.out.2.2.leE.1)))))
    have KS := Lib.hid KS
    have KI := Lib.hid KI
    have hoo : (t.ok != t.ok) = false := by simp
    have H1 := Lib.hid (And.intro (H0.out.1.trans (hb1.mono H0.out.1.size)) (H0.out.2.below hb1))
    clear hb1 l1 l2 l3 ht
    obtain ⟨a0, a1, a2, a3, a4, a5, a6, a7, a8⟩ := nine_of_box H1.out.2
    have hl := H1.out.2.lt
    go_wp2_with fail
    clear a0 a1 a2 a3 a4 a5 a6 a7 a8 hl
    refine (KD.out _ H1.out.1).mono ?_
    rintro e w2 ⟨g1, g2, g3, rfl, o1, o2, o3, d12, d23, hb2⟩
    have KS2 := Lib.hid (KS.out w2 g1 g2 g3 o1.sl o2.sl o3.sl)
    have H2 := Lib.hid (And.intro (H1.out.1.trans (hb2.mono H1.out.1.size)) (H1.out.2.below hb2))
    clear o1 o2 o3 d12 d23 hb2
    unfold desk at KS2
    dsimp only [desk]
    go_wp2_with fail
    refine KS2.out.mono ?_
    rintro e w3 ⟨s0, c0, ws, rfl, ho0, hc0, hb3⟩
    obtain ⟨V3, hV3⟩ : ∃ W, W = w3.alloc (.cells #[.int .i64 t.a, .int .i64 t.b, .int .i64 t.d, .slice s0 ws.length c0] 31) := ⟨_, rfl⟩
    obtain ⟨hbV3, bx0, hsV3⟩ := box_new hV3
    have h23 := hb3.trans (hbV3.mono hb3.size)
    have H3 := Lib.hid (And.intro (H2.out.1.trans (h23.mono H2.out.1.size)) (And.intro (H2.out.2.below h23) (And.intro bx0 (And.intro (ho0.below hbV3).sl hc0))))
    obtain ⟨a0, a1, a2, a3, a4, a5, a6, a7, a8⟩ := nine_of_box H3.out.2.1
    have hl := H3.out.2.1.lt
    have HV3 := Lib.hid hV3
    rw [hV3] at a0 a1 a2 a3 a4 a5 a6 a7 a8 hl
    clear ho0 hc0 hb3 hV3 hbV3 bx0 hsV3 h23
    go_wp2_with fail
    clear a0 a1 a2 a3 a4 a5 a6 a7 a8 hl
    rw [← HV3.out]
    refine (KD.out _ H3.out.1).mono ?_
    rintro e w4 ⟨k1, k2, k3, rfl, o1, o2, o3, d12, d23, hb4⟩
    obtain ⟨tp, htp⟩ : ∃ t : Tri, t = ⟨p.a, p.b, some ⟨k1, 0, none⟩, p.l, p.l⟩ := ⟨_, rfl⟩
    obtain ⟨tq, htq⟩ : ∃ t : Tri, t = ⟨q.a, q.b, some ⟨k2, 0, none⟩, q.l, q.l⟩ := ⟨_, rfl⟩
    obtain ⟨tm, htm⟩ : ∃ t : Tri, t = ⟨m.a, m.b, some ⟨k3, 0, none⟩, m.l, m.l⟩ := ⟨_, rfl⟩
    have OD : OwnDesk w4 V3.heap.size tp tq tm xs ys zs := by
      refine ⟨by rw [htp]; exact o1, by rw [htq]; exact o2, by rw [htm]; exact o3, ?_, ?_, ?_⟩
      · rw [htp, htq]; unfold Far; simp [Value.ownBlock]; omega
      · rw [htp, htm]; unfold Far; simp [Value.ownBlock]; omega
      · rw [htq, htm]; unfold Far; simp [Value.ownBlock]; omega
    have E := Lib.hid (And.intro (show tp.a = p.a ∧ tp.b = p.b by rw [htp]; exact ⟨rfl, rfl⟩) (And.intro (show tq.a = q.a ∧ tq.b = q.b by rw [htq]; exact ⟨rfl, rfl⟩) (show tm.a = m.a ∧ tm.b = m.b by rw [htm]; exact ⟨rfl, rfl⟩)))
    have KI4 : ∀ W, Below w4.heap.size w4 W → Calls Try.prog 10 #[.agg (desk tp tq tm), .int .i64 dp] W (VRes t W) := fun W hb => by
      rw [htp, htq, htm]; exact KI.out W k1 k2 k3 (o1.below hb).sl (o2.below hb).sl (o3.below hb).sl
    have KI4 := Lib.hid KI4
    have HNE := Lib.hid (show (∀ g, (Value.slice tp.s tp.l tp.c).ownBlock = some g → V3.heap.size ≤ g ∧ g < w4.heap.size) ∧ (∀ g, (Value.slice tq.s tq.l tq.c).ownBlock = some g → V3.heap.size ≤ g ∧ g < w4.heap.size) ∧ (∀ g, (Value.slice tm.s tm.l tm.c).ownBlock = some g → V3.heap.size ≤ g ∧ g < w4.heap.size) from ⟨fun g hg => OD.op.lt hg, fun g hg => OD.oq.lt hg, fun g hg => OD.om.lt hg⟩)
    have hb4s := Lib.hid hb4.size
    obtain ⟨V4, hV4⟩ : ∃ W, W = w4.alloc (.cells (desk tp tq tm) 37) := ⟨_, rfl⟩
    obtain ⟨hbV4, bx1, hsV4⟩ := box_new hV4
    have h34 := hb4.trans (hbV4.mono hb4.size)
    have OD4 : OwnDesk V4 V3.heap.size tp tq tm xs ys zs := ⟨OD.op.below hbV4, OD.oq.below hbV4, OD.om.below hbV4, OD.pq, OD.pm, OD.qm⟩
    have H4 := Lib.hid (And.intro (H3.out.1.trans (h34.mono H3.out.1.size)) (And.intro (H3.out.2.1.below h34) (And.intro (H3.out.2.2.1.below h34) (And.intro h34 (And.intro bx1 (And.intro OD4 hbV4))))))
    obtain ⟨a0, a1, a2, a3, a4, a5, a6, a7, a8⟩ := nine_of_box H4.out.2.2.2.2.1
    have hl := H4.out.2.2.2.2.1.lt
    have HV4 := Lib.hid hV4
    rw [hV4] at a0 a1 a2 a3 a4 a5 a6 a7 a8 hl
    have eqt : (Value.agg (desk ⟨p.a, p.b, some ⟨k1, 0, none⟩, p.l, p.l⟩ ⟨q.a, q.b, some ⟨k2, 0, none⟩, q.l, q.l⟩ ⟨m.a, m.b, some ⟨k3, 0, none⟩, m.l, m.l⟩)) = .agg (desk tp tq tm) := by rw [htp, htq, htm]
    rw [eqt]
    clear o1 o2 o3 d12 d23 hb4 OD hV4 hbV4 bx1 hsV4 h34 OD4 eqt htp htq htm
    unfold desk at KI4 HV4 ⊢
    go_wp2_with fail
    clear a0 a1 a2 a3 a4 a5 a6 a7 a8 hl
    rw [← HV4.out]
    refine (KI4.out _ H4.out.2.2.2.2.2.2).mono ?_
    rintro e w5 ⟨s2, c2, gs, rfl, ho2, hc2, hb5⟩
    obtain ⟨V5, hV5⟩ : ∃ W, W = w5.alloc (.cells #[.int .i64 t.a, .int .i64 t.b, .int .i64 t.d, .slice s2 gs.length c2] 31) := ⟨_, rfl⟩
    obtain ⟨hbV5, bx2, hsV5⟩ := box_new hV5
    have h45 := hb5.trans (hbV5.mono hb5.size)
    have st5 : StD w V3 V5 V4.heap.size p q m tp tq tm w3.heap.size w4.heap.size w5.heap.size t (.slice s0 ws.length c0) (.slice s2 gs.length c2) xs ys zs gs :=
      ⟨H4.out.1.trans (h45.mono H4.out.1.size), H4.out.2.1.below h45, H4.out.2.2.2.2.1.below h45, H4.out.2.2.1.below h45, bx2, H4.out.2.2.2.1.trans (h45.mono H4.out.2.2.2.1.size), H4.out.2.2.2.2.2.1.belowE h45, ho2.below hbV5, h45.size⟩
    have AP : Apart w V3 V4.heap.size tp tq tm w3.heap.size w4.heap.size w5.heap.size (.slice s2 gs.length c2) :=
      ⟨H3.out.2.1.lt, H3.out.2.2.1.lt, HNE.out.1, HNE.out.2.1, HNE.out.2.2, fun g hg => by have h1 := ho2.lt hg; have h2 := H4.out.2.2.2.2.1.lt; omega, hb4s.out, by have h1 := H4.out.2.2.2.2.1.lt; have h2 := hb5.size; omega⟩
    have H5 := Lib.hid (And.intro st5 hc2)
    have AP := Lib.hid AP
    obtain ⟨b0, b1, b2, b3⟩ := four_of_box st5.g0
    obtain ⟨c0', c1', c2', c3'⟩ := four_of_box st5.w0
    have hl1 := st5.g0.lt
    have hl2 := st5.w0.lt
    have HV5 := Lib.hid hV5
    rw [hV5] at b0 b1 b2 b3 c0' c1' c2' c3' hl1 hl2
    clear ho2 hc2 hb5 hV5 hbV5 bx2 hsV5 h45 st5
    go_wp2_with fail
    clear b0 b1 b2 b3 c0' c1' c2' c3' hl1 hl2
    rw [← HV5.out]
    refine (eqV_yes V5 _ _ _ s2 s0 _ _ c2 c0 gs ws H5.out.1.gown.sl (H3.out.2.2.2.1.below H5.out.1.blw) (H5.out.2.trans H3.out.2.2.2.2.symm)).mono ?_
    rintro e w6 ⟨rfl, hb6⟩
    have H6 := Lib.hid (H5.out.1.below hb6)
    clear hb6
    unfold desk at KD
    go_upto_region 10 with fail
    have SV := Lib.hid (fun W (hW : Below w6.heap.size w6 W) => And.intro (nine_of_box (H6.out.x0.below hW)) (nine_of_box (H6.out.arg.below hW)))
    have hA1 : Below w6.heap.size w6 w6.drew := below_drewN (Below.refl _ _) 1
    have hbA : Below w.heap.size w w6.drew := H6.out.bel.trans (hA1.mono H6.out.bel.size)
    go_region_held3 (fun W => (W.cell? ⟨w4.heap.size, 0, none⟩ = some (.int .i64 tp.a) ∧ W.cell? ⟨w4.heap.size, 1, none⟩ = some (.int .i64 tp.b) ∧ W.cell? ⟨w4.heap.size, 2, none⟩ = some (.slice tp.s tp.l tp.c) ∧ W.cell? ⟨w4.heap.size, 3, none⟩ = some (.int .i64 tq.a) ∧ W.cell? ⟨w4.heap.size, 4, none⟩ = some (.int .i64 tq.b) ∧ W.cell? ⟨w4.heap.size, 5, none⟩ = some (.slice tq.s tq.l tq.c) ∧ W.cell? ⟨w4.heap.size, 6, none⟩ = some (.int .i64 tm.a) ∧ W.cell? ⟨w4.heap.size, 7, none⟩ = some (.int .i64 tm.b) ∧ W.cell? ⟨w4.heap.size, 8, none⟩ = some (.slice tm.s tm.l tm.c)) ∧ W.cell? ⟨w.heap.size, 0, none⟩ = some (.int .i64 p.a) ∧ W.cell? ⟨w.heap.size, 1, none⟩ = some (.int .i64 p.b) ∧ W.cell? ⟨w.heap.size, 2, none⟩ = some (.slice p.s p.l p.c) ∧ W.cell? ⟨w.heap.size, 3, none⟩ = some (.int .i64 q.a) ∧ W.cell? ⟨w.heap.size, 4, none⟩ = some (.int .i64 q.b) ∧ W.cell? ⟨w.heap.size, 5, none⟩ = some (.slice q.s q.l q.c) ∧ W.cell? ⟨w.heap.size, 6, none⟩ = some (.int .i64 m.a) ∧ W.cell? ⟨w.heap.size, 7, none⟩ = some (.int .i64 m.b) ∧ W.cell? ⟨w.heap.size, 8, none⟩ = some (.slice m.s m.l m.c))
      (first | exact SV.out _ hbT | exact SV.out _ hbS | exact SV.out _ hA1 | go_keep)
      (first
        | (go_at_call 9; (with_reducible refine (KD.out _ hbA).mono ?_); rintro e wS ⟨j1, j2, j3, rfl, u1, u2, u3, f12, f23, hbS1⟩; have hbS := hA1.trans (hbS1.mono hA1.size); have KE := Lib.hid (eqDesk_yes wS tp tq tm ⟨p.a, p.b, some ⟨j1, 0, none⟩, p.l, p.l⟩ ⟨q.a, q.b, some ⟨j2, 0, none⟩, q.l, q.l⟩ ⟨m.a, m.b, some ⟨j3, 0, none⟩, m.l, m.l⟩ xs ys zs xs ys zs (H6.out.own.op.below hbS).sl (H6.out.own.oq.below hbS).sl (H6.out.own.om.below hbS).sl u1.sl u2.sl u3.sl E.out.1 E.out.2.1 E.out.2.2 rfl rfl rfl); unfold desk at KE; dsimp only [desk])
        | (go_at_call 12; (with_reducible refine KE.out.mono ?_); rintro e wT ⟨rfl, hbT1⟩; have hbT := hbS.trans (hbT1.mono hbS.size)))
    have st7 := H6.out.below hbT
    have H7 := Lib.hid st7
    obtain ⟨a0, a1, a2, a3, a4, a5, a6, a7, a8⟩ := nine_of_box st7.x0
    have hl := st7.x0.lt
    have KM := Lib.hid (markDesk_any wT V3.heap.size tp tq tm xs ys zs 1 (by have h1 := HL.out.1; have h2 := HL.out.2.1; have h3 := HL.out.2.2.1; have h4 := HL.out.2.2.2.1; have h5 := HL.out.2.2.2.2.1; have h6 := HL.out.2.2.2.2.2; omega) st7.blw.size st7.own)
    obtain ⟨kk, hkk⟩ : ∃ kk, 1 + xs.length + ys.length + zs.length = kk := ⟨_, rfl⟩
    rw [hkk] at KM
    have hkd : decide ((kk : Int) < 0) = false := decide_eq_false (by omega)
    clear hbT hbT1 hbS hbS1 hbA hA1 st7 hkk
    unfold desk at KM
    go_wp2_with fail
    clear a0 a1 a2 a3 a4 a5 a6 a7 a8 hl
    refine KM.out.mono ?_
    rintro e w8 ⟨rfl, ho8, hb8, hs8, kept8⟩
    have st8 := H7.out.mark AP.out ho8 hb8 kept8
    have H8 := Lib.hid st8
    obtain ⟨b0, b1, b2, b3⟩ := four_of_box st8.g0
    obtain ⟨c0', c1', c2', c3'⟩ := four_of_box st8.w0
    have hl1 := st8.g0.lt
    have hl2 := st8.w0.lt
    clear st8 ho8 hb8 hs8 kept8
    go_wp2_with fail
    clear b0 b1 b2 b3 c0' c1' c2' c3' hl1 hl2
    refine (eqV_yes w8 _ _ _ s2 s0 _ _ c2 c0 gs ws H8.out.gown.sl (H3.out.2.2.2.1.below H8.out.blw) (H5.out.2.trans H3.out.2.2.2.2.symm)).mono ?_
    rintro e w9 ⟨rfl, hb9⟩
    have st9 := H8.out.below hb9
    have H9 := Lib.hid st9
    obtain ⟨b0, b1, b2, b3⟩ := four_of_box st9.g0
    have hl1 := st9.g0.lt
    have hgl : gs.length ≤ 9223372036854775000 - 1 := by
      have h1 := HT.out
      have h2 := congrArg List.length H5.out.2
      rw [List.length_map] at h2
      omega
    have KV := Lib.hid (markV_any w9 V4.heap.size t.a t.b t.d s2 c2 gs 1 (by omega) H9.out.ge st9.gown)
    have HGL := Lib.hid hgl
    unfold Marks at KV
    obtain ⟨nn, hnn⟩ : ∃ nn, 1 + gs.length = nn := ⟨_, rfl⟩
    rw [hnn] at KV
    have HNN := Lib.hid hnn
    have hnd : decide ((nn : Int) < 0) = false := decide_eq_false (by omega)
    have hne : ((nn : Int) != (nn : Int)) = false := by simp
    clear hb9 st9 hgl hnn
    go_wp2_with fail
    clear b0 b1 b2 b3 hl1
    refine KV.out.mono ?_
    rintro e wa ⟨rfl, hoa, hga⟩
    have sta := H9.out.markV AP.out hoa hga
    have HA := Lib.hid sta
    obtain ⟨b0, b1, b2, b3⟩ := four_of_box sta.g0
    have hl1 := sta.g0.lt
    have KH : ∀ W v, SlF W v (marks 1 gs.length) → ∀ s c, v = .slice s gs.length c → Calls Try.prog 15 #[.agg #[.int .i64 t.a, .int .i64 t.b, .int .i64 t.d, .slice s gs.length c], .int .i64 1] W fun e w' => e = .returned (.int .i64 (nn : Int)) ∧ Below W.heap.size W w' := by
      rintro W v h s c rfl
      have := heldV_yes W t.a t.b t.d s gs.length c 1 gs.length (by have := HGL.out; omega) h
      rw [HNN.out] at this
      exact this
    have KH := Lib.hid (fun W h => KH W _ h s2 c2 rfl)
    clear sta hoa hga
    go_wp2_with fail
    clear b0 b1 b2 b3 hl1
    refine (KH.out _ HA.out.gown.sl).mono ?_
    rintro e wb ⟨rfl, hbb⟩
    have stb := HA.out.below hbb
    have HBs := Lib.hid stb
    obtain ⟨a0, a1, a2, a3, a4, a5, a6, a7, a8⟩ := nine_of_box stb.arg
    have hl := stb.arg.lt
    clear stb hbb
    go_wp2_with fail
    clear a0 a1 a2 a3 a4 a5 a6 a7 a8 hl
    refine (KD.out _ HBs.out.bel).mono ?_
    rintro e wc ⟨j1, j2, j3, rfl, o1, o2, o3, d12, d23, hbc⟩
    have stc := HBs.out.below hbc
    have HC := Lib.hid stc
    have KI2 := Lib.hid (KI.out wc j1 j2 j3 o1.sl o2.sl o3.sl)
    clear stc hbc o1 o2 o3 d12 d23
    unfold desk at KI2
    dsimp only [desk]
    go_wp2_with fail
    refine KI2.out.mono ?_
    rintro e wd ⟨s3, c3, hs, rfl, ho3, hc3, hbd⟩
    obtain ⟨V6, hV6⟩ : ∃ W, W = wd.alloc (.cells #[.int .i64 t.a, .int .i64 t.b, .int .i64 t.d, .slice s3 hs.length c3] 31) := ⟨_, rfl⟩
    obtain ⟨hbV6, bx3, hsV6⟩ := box_new hV6
    have std := (HC.out.below hbd).below hbV6
    have HD := Lib.hid (And.intro std (And.intro (ho3.below hbV6).sl hc3))
    obtain ⟨b0, b1, b2, b3⟩ := four_of_box bx3
    obtain ⟨c0', c1', c2', c3'⟩ := four_of_box std.w0
    have hl1 := bx3.lt
    have hl2 := std.w0.lt
    have HV6 := Lib.hid hV6
    rw [hV6] at b0 b1 b2 b3 c0' c1' c2' c3' hl1 hl2
    clear ho3 hc3 hbd hV6 hbV6 bx3 hsV6 std
    go_wp2_with fail
    clear b0 b1 b2 b3 c0' c1' c2' c3' hl1 hl2
    rw [← HV6.out]
    refine (eqV_yes V6 _ _ _ s3 s0 _ _ c3 c0 hs ws HD.out.2.1 (H3.out.2.2.2.1.below HD.out.1.blw) (HD.out.2.2.trans H3.out.2.2.2.2.symm)).mono ?_
    rintro e we ⟨rfl, hbe⟩
    have ste := HD.out.1.below hbe
    have HE := Lib.hid ste
    obtain ⟨b0, b1, b2, b3⟩ := four_of_box ste.g0
    have hl1 := ste.g0.lt
    clear ste hbe
    go_wp2_with fail
    clear b0 b1 b2 b3 hl1
    refine (KH.out _ HE.out.gown.sl).mono ?_
    rintro e wf ⟨rfl, hbf⟩
    have HF := Lib.hid (HE.out.below hbf).bel
    clear hbf
    go_wp2_with fail
    go_ret
    exact ⟨rfl, HF.out⟩

end Go.Proofs.Ytabbjilgpfnacaa
