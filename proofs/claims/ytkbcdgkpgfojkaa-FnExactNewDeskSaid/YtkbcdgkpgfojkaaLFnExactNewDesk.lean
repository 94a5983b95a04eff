/- The law FnExactNewDesk. -/
import Derived.Test.YtkbcdgkpgfojkaaDi
namespace Go.Proofs.Ytkbcdgkpgfojkaa
open Go.RowKit Ieee
set_option maxRecDepth 100000
set_option linter.unusedVariables false
set_option linter.unusedSimpArgs false
set_option maxHeartbeats 2000000

/-- A box that holds a desk. -/
def Box9 (w : World) (b : Nat) (p q m : Tri) : Prop := w.heap[b]? = some (.cells (desk p q m) 57 (0, 0))
theorem Box9.below {w w' : World} {b : Nat} {p q m : Tri} (h : Box9 w b p q m) (hb : Below w.heap.size w w') : Box9 w' b p q m := by unfold Box9 at *; rw [hb.block b (lt_of_block h)]; exact h
theorem Box9.cells {w : World} {b : Nat} {p q m : Tri} (h : Box9 w b p q m) : ∀ o, w.cell? ⟨b, o, none⟩ = (desk p q m)[o]? := fun o => by unfold Box9 at h; simp [World.cell?, h]
theorem Box9.new (w : World) (p q m : Tri) : Box9 (w.alloc (.cells (desk p q m) 57)) w.heap.size p q m := heap_alloc_new w _

/-- A desk's slices can be read. -/
structure DeskSl (w : World) (p q m : Tri) (xs ys zs : List Nat) : Prop where
  a : SlF w (.slice p.s p.l p.c) xs
  b : SlF w (.slice q.s q.l q.c) ys
  c : SlF w (.slice m.s m.l m.c) zs
theorem DeskSl.below {w w' : World} {p q m : Tri} {xs ys zs : List Nat} (h : DeskSl w p q m xs ys zs) (hb : Below w.heap.size w w') : DeskSl w' p q m xs ys zs := ⟨h.a.below hb, h.b.below hb, h.c.below hb⟩
theorem OwnDesk.sl {w : World} {B : Nat} {p q m : Tri} {xs ys zs : List Nat} (h : OwnDesk w B p q m xs ys zs) : DeskSl w p q m xs ys zs := ⟨h.op.sl, h.oq.sl, h.om.sl⟩
theorem OwnDesk.below {w w' : World} {B : Nat} {p q m : Tri} {xs ys zs : List Nat} (h : OwnDesk w B p q m xs ys zs) (hb : Below w.heap.size w w') : OwnDesk w' B p q m xs ys zs := ⟨h.op.below hb, h.oq.below hb, h.om.below hb, h.pq, h.pm, h.qm⟩

/-- A new desk in its parts. -/
theorem MakesDesk.parts {w : World} {e : Ending} {w' : World} (h : MakesDesk w e w') : ∃ s1 l1 c1 s2 l2 c2 s3 l3 c3, e = .returned (.agg #[.int .i64 1, .int .i64 1, .slice s1 l1 c1, .int .i64 1, .int .i64 1, .slice s2 l2 c2, .int .i64 1, .int .i64 1, .slice s3 l3 c3]) ∧ OwnDesk w' w.heap.size ⟨1, 1, s1, l1, c1⟩ ⟨1, 1, s2, l2, c2⟩ ⟨1, 1, s3, l3, c3⟩ [0] [0] [3212836864] ∧ Below w.heap.size w w' := by
  obtain ⟨⟨pa, pb, ps, pl, pc⟩, ⟨qa, qb, qs, ql, qc⟩, ⟨ma, mb, ms, ml, mc⟩, rfl, ⟨e1, e2⟩, ⟨e3, e4⟩, ⟨e5, e6⟩, h1, h2⟩ := h
  dsimp only at e1 e2 e3 e4 e5 e6
  subst e1; subst e2; subst e3; subst e4; subst e5; subst e6
  exact ⟨ps, pl, pc, qs, ql, qc, ms, ml, mc, rfl, h1, h2⟩

theorem fnExactNewDesk_walk (w : World) : Calls Try.prog 6 #[] w fun e w' => e = .returned (.bool true) ∧ Below w.heap.size w w' := by
  go_enter Try.func6, Try.ntmps6
  go_wp2_with fail
  refine (specNew_any _).mono ?_
  intro e w1 hm
  obtain ⟨s1, l1, c1, s2, l2, c2, s3, l3, c3, rfl, O0, hb1⟩ := hm.parts
  clear hm
  go_wp2_with fail
  refine (implNew_any _).mono ?_
  intro e w2 hm
  obtain ⟨t1, k1, d1, t2, k2, d2, t3, k3, d3, rfl, G0, hb2⟩ := hm.parts
  clear hm
  have X1 : Box9 (w1.alloc (.cells #[.int .i64 1, .int .i64 1, .slice s1 l1 c1, .int .i64 1, .int .i64 1, .slice s2 l2 c2, .int .i64 1, .int .i64 1, .slice s3 l3 c3] 57)) w1.heap.size ⟨1, 1, s1, l1, c1⟩ ⟨1, 1, s2, l2, c2⟩ ⟨1, 1, s3, l3, c3⟩ := heap_alloc_new w1 _
  have al1 : Below w1.heap.size w1 (w1.alloc (.cells #[.int .i64 1, .int .i64 1, .slice s1 l1 c1, .int .i64 1, .int .i64 1, .slice s2 l2 c2, .int .i64 1, .int .i64 1, .slice s3 l3 c3] 57)) := (Below.refl _ _).alloc (Nat.le_refl _) _
  have D1 := (O0.sl.below al1)
  generalize hV : w1.alloc (.cells #[.int .i64 1, .int .i64 1, .slice s1 l1 c1, .int .i64 1, .int .i64 1, .slice s2 l2 c2, .int .i64 1, .int .i64 1, .slice s3 l3 c3] 57) = V at *
  clear hV
  have D0 := Lib.hid D1
  obtain ⟨V0, V1⟩ : Below w.heap.size w V ∧ w1.heap.size < V.heap.size := ⟨hb1.trans (al1.mono hb1.size), lt_of_block X1⟩
  have hs1 := hb1.size
  have hs2 := hb2.size
  have Y1 := X1.below hb2
  have E1 := D1.below hb2
  have X2 : Box9 (w2.alloc (.cells #[.int .i64 1, .int .i64 1, .slice t1 k1 d1, .int .i64 1, .int .i64 1, .slice t2 k2 d2, .int .i64 1, .int .i64 1, .slice t3 k3 d3] 57)) w2.heap.size ⟨1, 1, t1, k1, d1⟩ ⟨1, 1, t2, k2, d2⟩ ⟨1, 1, t3, k3, d3⟩ := heap_alloc_new w2 _
  have al2 : Below w2.heap.size w2 (w2.alloc (.cells #[.int .i64 1, .int .i64 1, .slice t1 k1 d1, .int .i64 1, .int .i64 1, .slice t2 k2 d2, .int .i64 1, .int .i64 1, .slice t3 k3 d3] 57)) := (Below.refl _ _).alloc (Nat.le_refl _) _
  have Y2 := Y1.below al2
  have E2 := E1.below al2
  have G2 := G0.below al2
  have N2 : Below V.heap.size V (w2.alloc (.cells #[.int .i64 1, .int .i64 1, .slice t1 k1 d1, .int .i64 1, .int .i64 1, .slice t2 k2 d2, .int .i64 1, .int .i64 1, .slice t3 k3 d3] 57)) := hb2.trans (al2.mono hb2.size)
  have hcA : ∀ o, _ := Y2.cells
  have hcB : ∀ o, _ := X2.cells
  unfold desk at hcA hcB
  go_wp2_with fail
  refine (eqDesk_yes _ ⟨1, 1, t1, k1, d1⟩ ⟨1, 1, t2, k2, d2⟩ ⟨1, 1, t3, k3, d3⟩ ⟨1, 1, s1, l1, c1⟩ ⟨1, 1, s2, l2, c2⟩ ⟨1, 1, s3, l3, c3⟩ [0] [0] [3212836864] [0] [0] [3212836864] G2.sl.a G2.sl.b G2.sl.c E2.a E2.b E2.c ⟨rfl, rfl⟩ ⟨rfl, rfl⟩ ⟨rfl, rfl⟩ rfl rfl rfl).mono ?_
  rintro e w3 ⟨rfl, hb3⟩
  have Z1 := Y2.below hb3
  have Z2 := X2.below hb3
  have F3 := E2.below hb3
  have G3 := G2.below hb3
  have G9 := Lib.hid G3
  have N3 := N2.trans (hb3.mono N2.size)
  have sz3 : w2.heap.size < w3.heap.size := lt_of_block Z2
  clear Y1 Y2 X1 X2 E1 E2 G2 al1 al2 D1 hcA hcB hb3
  have hcA := Z1.cells
  have hcB := Z2.cells
  unfold desk at hcA hcB
  have M := markDesk_any w3 V.heap.size ⟨1, 1, t1, k1, d1⟩ ⟨1, 1, t2, k2, d2⟩ ⟨1, 1, t3, k3, d3⟩ [0] [0] [3212836864] 1 (by simp) (by have := N3.size; omega) G3
  unfold desk at M
  go_wp2_with fail
  refine M.mono ?_
  rintro e w4 ⟨rfl, G4, N4, sz4, kept⟩
  clear M
  have q1 := fun k hk => (G0.op.lt (k := k) hk).2
  have q2 := fun k hk => (G0.oq.lt (k := k) hk).2
  have q3 := fun k hk => (G0.om.lt (k := k) hk).2
  have U1 : Box9 w4 w1.heap.size ⟨1, 1, s1, l1, c1⟩ ⟨1, 1, s2, l2, c2⟩ ⟨1, 1, s3, l3, c3⟩ := by
    unfold Box9
    rw [kept w1.heap.size (by omega) (fun e => by have := (G0.op.lt e.symm).1; omega) (fun e => by have := (G0.oq.lt e.symm).1; omega) (fun e => by have := (G0.om.lt e.symm).1; omega)]
    exact Z1
  have U2 : Box9 w4 w2.heap.size ⟨1, 1, t1, k1, d1⟩ ⟨1, 1, t2, k2, d2⟩ ⟨1, 1, t3, k3, d3⟩ := by
    unfold Box9
    rw [kept w2.heap.size (by omega) (fun e => by have := (G0.op.lt e.symm).2; omega) (fun e => by have := (G0.oq.lt e.symm).2; omega) (fun e => by have := (G0.om.lt e.symm).2; omega)]
    exact Z2
  have N4 := N3.trans N4
  have F4 := D0.out.below N4
  clear Z1 Z2 F3 G3 G0 q1 q2 q3 kept hcA hcB
  have S4 := G4.sl
  clear G4
  have hcA := U1.cells
  have hcB := U2.cells
  unfold desk at hcA hcB
  have H := heldDesk_yes w4 ⟨1, 1, t1, k1, d1⟩ ⟨1, 1, t2, k2, d2⟩ ⟨1, 1, t3, k3, d3⟩ 1 1 1 1 (by omega) S4.a S4.b S4.c
  unfold desk at H
  go_wp2_with fail
  refine H.mono ?_
  rintro e w5 ⟨rfl, hb5⟩
  have U1 := U1.below hb5
  have U2 := U2.below hb5
  have S5 := S4.below hb5
  have F5 := F4.below hb5
  have N5 := N4.trans (hb5.mono N4.size)
  clear H hcA hcB hb5 S4 F4
  have hcA := U1.cells
  have hcB := U2.cells
  unfold desk at hcA hcB
  go_wp2_with fail
  refine (implNew_any _).mono ?_
  intro e w6 hm
  obtain ⟨r1, j1, i1, r2, j2, i2, r3, j3, i3, rfl, R0, hb6⟩ := hm.parts
  clear hm hcA hcB
  have al6 : Below w6.heap.size w6 (w6.alloc (.cells #[.int .i64 1, .int .i64 1, .slice r1 j1 i1, .int .i64 1, .int .i64 1, .slice r2 j2 i2, .int .i64 1, .int .i64 1, .slice r3 j3 i3] 57)) := (Below.refl _ _).alloc (Nat.le_refl _) _
  have U1 := (U1.below hb6).below al6
  have U2 := (U2.below hb6).below al6
  have S6 := (S5.below hb6).below al6
  have F6 := (F5.below hb6).below al6
  have R6 := R0.sl.below al6
  have N6 := N5.trans ((hb6.trans (al6.mono hb6.size)).mono N5.size)
  have hcA := U1.cells
  have hcB := U2.cells
  unfold desk at hcA hcB
  go_wp2_with fail
  refine (eqDesk_yes _ ⟨1, 1, r1, j1, i1⟩ ⟨1, 1, r2, j2, i2⟩ ⟨1, 1, r3, j3, i3⟩ ⟨1, 1, s1, l1, c1⟩ ⟨1, 1, s2, l2, c2⟩ ⟨1, 1, s3, l3, c3⟩ [0] [0] [3212836864] [0] [0] [3212836864] R6.a R6.b R6.c F6.a F6.b F6.c ⟨rfl, rfl⟩ ⟨rfl, rfl⟩ ⟨rfl, rfl⟩ rfl rfl rfl).mono ?_
  rintro e w7 ⟨rfl, hb7⟩
  have U2 := U2.below hb7
  have S7 := S6.below hb7
  have N7 := N6.trans (hb7.mono N6.size)
  clear hcA hcB hb7 U1 F6 R6 R0
  have hcB := U2.cells
  unfold desk at hcB
  have H := heldDesk_yes w7 ⟨1, 1, t1, k1, d1⟩ ⟨1, 1, t2, k2, d2⟩ ⟨1, 1, t3, k3, d3⟩ 1 1 1 1 (by omega) S7.a S7.b S7.c
  unfold desk at H
  go_wp2_with fail
  refine H.mono ?_
  rintro e w8 ⟨rfl, hb8⟩
  have N8 := N7.trans (hb8.mono N7.size)
  go_wp2
  go_ret
  exact ⟨rfl, V0.trans (N8.mono (by omega))⟩

end Go.Proofs.Ytkbcdgkpgfojkaa
