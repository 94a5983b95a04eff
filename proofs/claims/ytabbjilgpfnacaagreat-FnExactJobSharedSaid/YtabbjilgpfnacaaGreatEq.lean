/- The state of a law: boxes and slices of one's own, kept by calls, copies and marks. Copies of jobs. -/
import Derived.Test.YtabbjilgpfnacaaGreatEe
import Derived.Test.YtabbjilgpfnacaaGreatEp
namespace Go.Proofs.YtabbjilgpfnacaaGreat
open Go.RowKit Ieee
set_option maxRecDepth 100000
set_option linter.unusedVariables false
set_option linter.unusedSimpArgs false

def nthE {α : Type} : List α → Nat → Option α
  | [], _ => none
  | a :: _, 0 => some a
  | _ :: l, n + 1 => nthE l n

def setE {α : Type} : List α → Nat → α → List α
  | [], _, _ => []
  | _ :: l, 0, b => b :: l
  | a :: l, n + 1, b => a :: setE l n b

theorem nthE_app {α : Type} {l : List α} {a x : α} {k : Nat} (h : nthE (l ++ [a]) k = some x) : nthE l k = some x ∨ (k = l.length ∧ x = a) := by
  induction l generalizing k with
  | nil =>
    cases k with
    | zero => simp [nthE] at h; exact .inr ⟨rfl, h.symm⟩
    | succ k => simp [nthE] at h
  | cons b l ih =>
    cases k with
    | zero => exact .inl h
    | succ k =>
      rcases ih (k := k) h with h1 | ⟨h1, h2⟩
      · exact .inl h1
      · exact .inr ⟨by simp [h1], h2⟩

theorem nthE_lt {α : Type} {l : List α} {x : α} {k : Nat} (h : nthE l k = some x) : k < l.length := by
  induction l generalizing k with
  | nil => simp [nthE] at h
  | cons b l ih =>
    cases k with
    | zero => simp
    | succ k => have := ih (k := k) h; simp; omega

theorem nthE_set {α : Type} {l : List α} {a b x : α} {k i : Nat} (hk : nthE l k = some a) (h : nthE (setE l k b) i = some x) : (i = k ∧ x = b) ∨ (i ≠ k ∧ nthE l i = some x) := by
  induction l generalizing k i with
  | nil => simp [nthE] at hk
  | cons c l ih =>
    cases k with
    | zero =>
      cases i with
      | zero => simp [setE, nthE] at h; exact .inl ⟨rfl, h.symm⟩
      | succ i => exact .inr ⟨by omega, h⟩
    | succ k =>
      cases i with
      | zero => exact .inr ⟨by omega, h⟩
      | succ i =>
        rcases ih (k := k) (i := i) hk h with ⟨h1, h2⟩ | ⟨h1, h2⟩
        · exact .inl ⟨by omega, h2⟩
        · exact .inr ⟨by omega, h2⟩

structure BxE where
  b : Nat
  cs : Array Value
  T : TypeId

structure SlE where
  v : Value
  bs : List Nat

/-- What a law holds: boxes, and slices that it owns, all in blocks of their own. -/
structure StG (w W : World) (bx : List BxE) (sl : List SlE) : Prop where
  bel : Below w.heap.size w W
  box : ∀ k x, nthE bx k = some x → BoxN W x.b x.cs x.T
  own : ∀ k x, nthE sl k = some x → OwnF W w.heap.size x.v x.bs
  nb : ∀ i j x y, nthE bx i = some x → nthE sl j = some y → some x.b ≠ y.v.ownBlock
  ns : ∀ i j x y, i ≠ j → nthE sl i = some x → nthE sl j = some y → x.v.ownBlock = none ∨ x.v.ownBlock ≠ y.v.ownBlock

theorem nthE_nil {α : Type} {k : Nat} {x : α} (h : nthE ([] : List α) k = some x) : False := by cases k <;> simp [nthE] at h

theorem StG.start {w W : World} (h : Below w.heap.size w W) : StG w W [] [] :=
  ⟨h, fun k x h => (nthE_nil h).elim, fun k x h => (nthE_nil h).elim, fun i j x y h => (nthE_nil h).elim, fun i j x y _ h => (nthE_nil h).elim⟩

theorem StG.below {w W W' : World} {bx : List BxE} {sl : List SlE} (h : StG w W bx sl) (hb : Below W.heap.size W W') : StG w W' bx sl :=
  ⟨h.bel.trans (hb.mono h.bel.size), fun k x hx => (h.box k x hx).below hb, fun k x hx => (h.own k x hx).below hb, h.nb, h.ns⟩

theorem StG.addBox {w W W' : World} {bx : List BxE} {sl : List SlE} {cs : Array Value} {T : TypeId} (h : StG w W bx sl) (hw : W' = W.alloc (.cells cs T)) : StG w W' (bx ++ [⟨W.heap.size, cs, T⟩]) sl := by
  obtain ⟨hb, hx, -⟩ := box_new hw
  refine ⟨h.bel.trans (hb.mono h.bel.size), fun k x hk => ?_, fun k x hk => (h.own k x hk).below hb, fun i j x y hi hj => ?_, h.ns⟩
  · rcases nthE_app hk with h1 | ⟨-, rfl⟩
    · exact (h.box k x h1).below hb
    · exact hx
  · rcases nthE_app hi with h1 | ⟨-, rfl⟩
    · exact h.nb i j x y h1 hj
    · intro e
      have := ((h.own j y hj).lt e.symm).2
      exact Nat.lt_irrefl _ this

theorem StG.addSl {w W W' : World} {bx : List BxE} {sl : List SlE} {v : Value} {bs : List Nat} (h : StG w W bx sl) (hb : Below W.heap.size W W') (ho : OwnF W' W.heap.size v bs) : StG w W' bx (sl ++ [⟨v, bs⟩]) := by
  refine ⟨h.bel.trans (hb.mono h.bel.size), fun k x hk => (h.box k x hk).below hb, fun k x hk => ?_, fun i j x y hi hj => ?_, fun i j x y hij hi hj => ?_⟩
  · rcases nthE_app hk with h1 | ⟨-, rfl⟩
    · exact (h.own k x h1).below hb
    · exact ho.mono h.bel.size
  · rcases nthE_app hj with h1 | ⟨-, rfl⟩
    · exact h.nb i j x y hi h1
    · intro e
      have h1 := (h.box i x hi).lt
      have h2 := (ho.lt e.symm).1
      omega
  · have key : ∀ z, (∃ k, nthE sl k = some z) → z.v.ownBlock = none ∨ z.v.ownBlock ≠ v.ownBlock := by
      rintro z ⟨k, hk⟩
      cases e : z.v.ownBlock with
      | none => exact .inl rfl
      | some g =>
        refine .inr fun e2 => ?_
        have h1 := ((h.own k z hk).lt e).2
        have h2 := (ho.lt e2.symm).1
        omega
    rcases nthE_app hi with h1 | ⟨hi1, rfl⟩
    · rcases nthE_app hj with h2 | ⟨-, rfl⟩
      · exact h.ns i j x y hij h1 h2
      · exact key x ⟨i, h1⟩
    · rcases nthE_app hj with h2 | ⟨hj1, -⟩
      · rcases key y ⟨j, h2⟩ with h3 | h3
        · cases e : v.ownBlock with
          | none => exact .inl rfl
          | some g => exact .inr (by rw [h3]; simp)
        · exact .inr (fun e => h3 e.symm)
      · omega

/-- A box and a slice that it holds, both new. -/
theorem StG.addV {w W W' : World} {bx : List BxE} {sl : List SlE} {v : Value} {bs : List Nat} {ob : Nat} {cs : Array Value} {T : TypeId} (h : StG w W bx sl) (hb : Below W.heap.size W W') (hx : BoxN W' ob cs T) (hob : W.heap.size ≤ ob) (ho : OwnF W' W.heap.size v bs) (hne : some ob ≠ v.ownBlock) :
    StG w W' (bx ++ [⟨ob, cs, T⟩]) (sl ++ [⟨v, bs⟩]) := by
  have h1 := h.addSl hb ho
  refine ⟨h1.bel, fun k x hk => ?_, h1.own, fun i j x y hi hj => ?_, h1.ns⟩
  · rcases nthE_app hk with h2 | ⟨-, rfl⟩
    · exact h1.box k x h2
    · exact hx
  · rcases nthE_app hi with h2 | ⟨-, rfl⟩
    · exact h1.nb i j x y h2 hj
    · rcases nthE_app hj with h3 | ⟨-, rfl⟩
      · intro e
        exact Nat.lt_irrefl _ (Nat.lt_of_lt_of_le ((h.own j y h3).lt e.symm).2 hob)
      · exact hne

/-- A slice is marked. -/
theorem StG.mark {w W W' : World} {bx : List BxE} {sl : List SlE} {x : SlE} {bs' : List Nat} {k : Nat} (h : StG w W bx sl) (hk : nthE sl k = some x) (ho : OwnF W' w.heap.size x.v bs') (hg : W.grownBy W' x.v.ownBlock) : StG w W' bx (setE sl k ⟨x.v, bs'⟩) := by
  refine ⟨h.bel.grown hg h.bel.size (fun g hgx => ((h.own k x hk).lt hgx).1), fun i y hi => (h.box i y hi).grown hg (h.nb i k y x hi hk), fun i y hi => ?_, fun i j y z hi hj => ?_, fun i j y z hij hi hj => ?_⟩
  · rcases nthE_set hk hi with ⟨-, rfl⟩ | ⟨h1, h2⟩
    · exact ho
    · exact (h.own i y h2).grown hg (h.ns i k y x h1 h2 hk)
  · rcases nthE_set hk hj with ⟨-, rfl⟩ | ⟨h1, h2⟩
    · exact h.nb i k y x hi hk
    · exact h.nb i j y z hi h2
  · rcases nthE_set hk hi with ⟨h1, rfl⟩ | ⟨h1, h2⟩
    · rcases nthE_set hk hj with ⟨h3, rfl⟩ | ⟨h3, h4⟩
      · omega
      · exact h.ns k j x z (by omega) hk h4
    · rcases nthE_set hk hj with ⟨h3, rfl⟩ | ⟨h3, h4⟩
      · exact h.ns i k y x h1 h2 hk
      · exact h.ns i j y z hij h2 h4

theorem mpE {T G : Prop} (h : T) (k : T → G) : G := k h

theorem belowA {w W : World} (h : Below w.heap.size w W) (o : Obj) : Below w.heap.size w (W.alloc o) := h.alloc h.size o

theorem belowT {w W W' : World} (h : Below w.heap.size w W) (h2 : Below W.heap.size W W') : Below w.heap.size w W' := h.trans (h2.mono h.size)

theorem own_put4 {W : World} {B b : Nat} {v : Value} {bs : List Nat} (h : OwnF W B v bs) (hb : some b ≠ v.ownBlock) (x y z u : Value) : OwnF ((((W.setCell ⟨b, 0, none⟩ x).setCell ⟨b, 1, none⟩ y).setCell ⟨b, 2, none⟩ z).setCell ⟨b, 3, none⟩ u) B v bs := by
  have hn : v.ownBlock = none ∨ v.ownBlock ≠ some b := .inr fun e => hb e.symm
  exact (((h.grown (grown_setCell _ _ _) hn).grown (grown_setCell _ _ _) hn).grown (grown_setCell _ _ _) hn).grown (grown_setCell _ _ _) hn

theorem VBox.put {B : Nat} {w wf : World} {ob : Nat} {t : VolT} {s : Option Addr} {c : Nat} {bs : List Nat} {x y z u : Value} (hb : Below B w wf) (hx : BoxN wf ob #[x, y, z, u] 62) (ho : OwnF wf B (.slice s bs.length c) bs) (hne : some ob ≠ (Value.slice s bs.length c).ownBlock) (hob : B ≤ ob) (hc : bs.map fl = t.L) :
    VBox B w ((((wf.setCell ⟨ob, 0, none⟩ (.int .i64 t.a)).setCell ⟨ob, 1, none⟩ (.int .i64 t.b)).setCell ⟨ob, 2, none⟩ (.int .i64 t.d)).setCell ⟨ob, 3, none⟩ (.slice s bs.length c)) ob t s c bs := by
  refine ⟨below_set4 hb hob _ _ _ _, ?_, own_put4 ho hne _ _ _ _, hne, hob, hc⟩
  have h4 := (((hx.set 0 (.int .i64 t.a)).set 1 (.int .i64 t.b)).set 2 (.int .i64 t.d)).set 3 (.slice s bs.length c)
  simpa using h4

/-- What a call that makes a volume leaves, seen from an earlier world. -/
def VFar (t : VolT) (w0 V : World) (e : Ending) (w' : World) : Prop :=
  ∃ s c bs, e = .returned (.tuple #[.agg #[.int .i64 t.a, .int .i64 t.b, .int .i64 t.d, .slice s (List.length bs) c], .bool t.ok]) ∧ OwnF w' w0.heap.size (.slice s (List.length bs) c) bs ∧ bs.map fl = t.L ∧ Below V.heap.size V w' ∧ ∀ b cs T, BoxN V b cs T → BoxN w' b cs T ∧ some b ≠ (Value.slice s (List.length bs) c).ownBlock

theorem VRes.far {t : VolT} {w0 V w' : World} {e : Ending} (h : VRes t V e w') (hb : Below w0.heap.size w0 V) : VFar t w0 V e w' := by
  obtain ⟨s, c, bs, he, ho, hc, hbv⟩ := h
  exact ⟨s, c, bs, he, ho.mono hb.size, hc, hbv, fun b cs T hx => ⟨hx.below hbv, fun e => by have h1 := (ho.lt e.symm).1; have h2 := hx.lt; omega⟩⟩

/-- A picture that is copied, seen from an earlier world. -/
def PFar (V : World) (a b : Int) (n : Nat) (bs : List Nat) (e : Ending) (w' : World) : Prop :=
  ∃ g, e = .returned (.agg #[.int .i64 a, .int .i64 b, .slice (some ⟨g, 0, none⟩) n n]) ∧ OwnF w' V.heap.size (.slice (some ⟨g, 0, none⟩) n n) bs ∧ Below V.heap.size V w'

theorem toPFar (w0 V : World) (p : Tri) (xs : List Nat) (hp : SlF w0 (.slice p.s p.l p.c) xs) (hl : p.l ≤ 1048576) (hb : Below w0.heap.size w0 V) :
    Calls Tryz.prog 6 #[.agg #[.int .i64 p.a, .int .i64 p.b, .slice p.s p.l p.c]] V (PFar V p.a p.b p.l xs) := by
  have h := toP_any V p.a p.b p.s p.l p.c xs (hp.below hb) hp.leE.1 hl
  unfold MakesP2 at h
  rw [hp.leE.1] at h
  exact h

theorem toPricesE (w : World) (a b : Nat) : Calls Tryz.prog 20 #[.agg #[.float .f32 a, .float .f32 b]] w fun e w' => e = .returned (.agg #[.float .f32 a, .float .f32 b]) ∧ Below w.heap.size w w' := by
  obtain ⟨W0, hW0⟩ : ∃ W, W = ((w.alloc (.cells #[.float .f32 a, .float .f32 b] 27)).alloc (.cells #[.float .f32 0, .float .f32 0] 37)).alloc (.cells #[.float .f32 0, .float .f32 0] 37) := ⟨_, rfl⟩
  go_enter Tryz.func20, Tryz.ntmps20
  go_wp2_with fail
  refine bodyPost_ret (v := .agg #[.float .f32 a, .float .f32 b]) (by simp [results, Tryz.results20, go_sem]) rfl ?_
  refine ⟨rfl, ?_⟩
  first
    | exact ((below_two w _ _).alloc (by simp; try omega) _)
    | (repeat' (first | exact ((below_two w _ _).alloc (by simp; try omega) _) | (refine Below.setCell ?_ (by simp; try omega) _)))

set_option maxHeartbeats 2000000 in
theorem toJobE (w : World) (j : JobX) : Calls Tryz.prog 7 #[.agg j.v] w fun e w' => e = .returned (.agg j.v) ∧ Below w.heap.size w w' := by
  obtain ⟨a, b, d, sv, o, m⟩ := j
  obtain ⟨W0, hW0⟩ : ∃ W, W = (((w.alloc (.cells #[.int .i64 a, .int .i64 b, .int .i64 d, .bool sv, .float .f32 o, .float .f32 m] 29)).alloc (.cells #[.int .i64 0, .int .i64 0, .int .i64 0, .bool false, .float .f32 0, .float .f32 0] 39)).alloc (.cells #[.int .i64 a, .int .i64 b, .int .i64 d, .bool sv, .float .f32 0, .float .f32 0] 39)) := ⟨_, rfl⟩
  obtain ⟨hb0, x0, x1, x2⟩ := three_boxes hW0
  have KP := Lib.hid (toPricesE W0 o m)
  have HX := Lib.hid (And.intro hb0 (And.intro x1 x2))
  have HW0 := Lib.hid hW0
  clear hW0 hb0 x0 x1 x2
  unfold JobX.v
  go_enter Tryz.func7, Tryz.ntmps7
  go_wp2_with fail
  rw [← HW0.out]
  refine KP.out.mono ?_
  rintro e w1 ⟨rfl, hb1⟩
  have b1 : Below w.heap.size w w1 := HX.out.1.trans (hb1.mono HX.out.1.size)
  have y1 := HX.out.2.1.below hb1
  have y2 := HX.out.2.2.below hb1
  obtain ⟨r0, r1, r2, r3, r4, r5⟩ := six_of_box y1
  obtain ⟨s0, s1, s2, s3, s4, s5⟩ := six_of_box y2
  have e0 := y1.free 0
  have e1 := y1.free 1
  have e2 := y1.free 2
  have e3 := y1.free 3
  have e4 := y1.free 4
  have e5 := y1.free 5
  have f4 := y2.free 4
  have f5 := y2.free 5
  have z2 := y2.lt
  have z1 : w.heap.size + 1 < w1.heap.size := y1.lt
  have HE := Lib.hid b1
  clear b1 hb1 y1 y2
  go_wp2_with fail
  refine bodyPost_ret (v := .agg #[.int .i64 a, .int .i64 b, .int .i64 d, .bool sv, .float .f32 o, .float .f32 m]) (by simp [results, Tryz.results7, go_sem, r0, r1, r2, r3, r4, r5, z1, z2]) rfl ?_
  refine ⟨rfl, ?_⟩
  have hE := HE.out
  repeat' (first | (with_reducible assumption) | (with_reducible refine Below.setCell ?_ ?_ _) | (simp; done) | (simp; omega) | (show w.heap.size ≤ w.heap.size + 1 + 1; omega) | (show w.heap.size ≤ w.heap.size + 1; omega))

end Go.Proofs.YtabbjilgpfnacaaGreat
