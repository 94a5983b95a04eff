/- The state of a law: boxes and slices of one's own, kept by calls, copies and marks. -/
import Derived.Test.YtcppoadeelnphaaDoorMem
import Derived.Test.YtcppoadeelnphaaDoorBox
namespace Go.Proofs.YtcppoadeelnphaaDoor
open Go.RowKit Ieee
set_option maxRecDepth 100000
set_option linter.unusedVariables false
set_option linter.unusedSimpArgs false

/-- The new box at the end of a world. -/
theorem box_new {w W : World} {cs : Array Value} {T : TypeId} (h : W = w.alloc (.cells cs T)) : Below w.heap.size w W ∧ BoxN W w.heap.size cs T ∧ W.heap.size = w.heap.size + 1 := by
  subst h; exact ⟨(Below.refl _ _).alloc (Nat.le_refl _) _, BoxN.last w _ _, by simp⟩

def nthE {α : Type} : List α → Nat → Option α
  | [], _ => none
  | a :: _, 0 => some a
  | _ :: l, n + 1 => nthE l n

def setE {α : Type} : List α → Nat → α → List α
  | [], _, _ => []
  | _ :: l, 0, b => b :: l
  | a :: l, n + 1, b => a :: setE l n b

theorem nthE_app {α : Type} {l : List α} {a x : α} {k : Nat} (h : nthE (l ++ [a]) k = some x) : nthE l k = some x ∨ (k = l.length ∧ x = a) := by
  induction l generalizing k with
  | nil =>
    cases k with
    | zero => simp [nthE] at h; exact .inr ⟨rfl, h.symm⟩
    | succ k => simp [nthE] at h
  | cons b l ih =>
    cases k with
    | zero => exact .inl h
    | succ k =>
      rcases ih (k := k) h with h1 | ⟨h1, h2⟩
      · exact .inl h1
      · exact .inr ⟨by simp [h1], h2⟩

theorem nthE_lt {α : Type} {l : List α} {x : α} {k : Nat} (h : nthE l k = some x) : k < l.length := by
  induction l generalizing k with
  | nil => simp [nthE] at h
  | cons b l ih =>
    cases k with
    | zero => simp
    | succ k => have := ih (k := k) h; simp; omega

theorem nthE_set {α : Type} {l : List α} {a b x : α} {k i : Nat} (hk : nthE l k = some a) (h : nthE (setE l k b) i = some x) : (i = k ∧ x = b) ∨ (i ≠ k ∧ nthE l i = some x) := by
  induction l generalizing k i with
  | nil => simp [nthE] at hk
  | cons c l ih =>
    cases k with
    | zero =>
      cases i with
      | zero => simp [setE, nthE] at h; exact .inl ⟨rfl, h.symm⟩
      | succ i => exact .inr ⟨by omega, h⟩
    | succ k =>
      cases i with
      | zero => exact .inr ⟨by omega, h⟩
      | succ i =>
        rcases ih (k := k) (i := i) hk h with ⟨h1, h2⟩ | ⟨h1, h2⟩
        · exact .inl ⟨by omega, h2⟩
        · exact .inr ⟨by omega, h2⟩

structure BxE where
  b : Nat
  cs : Array Value
  T : TypeId

structure SlE where
  v : Value
  bs : List Nat

/-- What a law holds: boxes, and slices that it owns, all in blocks of their own. -/
structure StG (w W : World) (bx : List BxE) (sl : List SlE) : Prop where
  bel : Below w.heap.size w W
  box : ∀ k x, nthE bx k = some x → BoxN W x.b x.cs x.T
  own : ∀ k x, nthE sl k = some x → OwnF W w.heap.size x.v x.bs
  nb : ∀ i j x y, nthE bx i = some x → nthE sl j = some y → some x.b ≠ y.v.ownBlock
  ns : ∀ i j x y, i ≠ j → nthE sl i = some x → nthE sl j = some y → x.v.ownBlock = none ∨ x.v.ownBlock ≠ y.v.ownBlock

theorem nthE_nil {α : Type} {k : Nat} {x : α} (h : nthE ([] : List α) k = some x) : False := by cases k <;> simp [nthE] at h

theorem StG.start {w W : World} (h : Below w.heap.size w W) : StG w W [] [] :=
  ⟨h, fun k x h => (nthE_nil h).elim, fun k x h => (nthE_nil h).elim, fun i j x y h => (nthE_nil h).elim, fun i j x y _ h => (nthE_nil h).elim⟩

theorem StG.below {w W W' : World} {bx : List BxE} {sl : List SlE} (h : StG w W bx sl) (hb : Below W.heap.size W W') : StG w W' bx sl :=
  ⟨h.bel.trans (hb.mono h.bel.size), fun k x hx => (h.box k x hx).below hb, fun k x hx => (h.own k x hx).below hb, h.nb, h.ns⟩

theorem StG.addBox {w W W' : World} {bx : List BxE} {sl : List SlE} {cs : Array Value} {T : TypeId} (h : StG w W bx sl) (hw : W' = W.alloc (.cells cs T)) : StG w W' (bx ++ [⟨W.heap.size, cs, T⟩]) sl := by
  obtain ⟨hb, hx, -⟩ := box_new hw
  refine ⟨h.bel.trans (hb.mono h.bel.size), fun k x hk => ?_, fun k x hk => (h.own k x hk).below hb, fun i j x y hi hj => ?_, h.ns⟩
  · rcases nthE_app hk with h1 | ⟨-, rfl⟩
    · exact (h.box k x h1).below hb
    · exact hx
  · rcases nthE_app hi with h1 | ⟨-, rfl⟩
    · exact h.nb i j x y h1 hj
    · intro e
      have := ((h.own j y hj).lt e.symm).2
      exact Nat.lt_irrefl _ this

theorem StG.addSl {w W W' : World} {bx : List BxE} {sl : List SlE} {v : Value} {bs : List Nat} (h : StG w W bx sl) (hb : Below W.heap.size W W') (ho : OwnF W' W.heap.size v bs) : StG w W' bx (sl ++ [⟨v, bs⟩]) := by
  refine ⟨h.bel.trans (hb.mono h.bel.size), fun k x hk => (h.box k x hk).below hb, fun k x hk => ?_, fun i j x y hi hj => ?_, fun i j x y hij hi hj => ?_⟩
  · rcases nthE_app hk with h1 | ⟨-, rfl⟩
    · exact (h.own k x h1).below hb
    · exact ho.mono h.bel.size
  · rcases nthE_app hj with h1 | ⟨-, rfl⟩
    · exact h.nb i j x y hi h1
    · intro e
      have h1 := (h.box i x hi).lt
      have h2 := (ho.lt e.symm).1
      omega
  · have key : ∀ z, (∃ k, nthE sl k = some z) → z.v.ownBlock = none ∨ z.v.ownBlock ≠ v.ownBlock := by
      rintro z ⟨k, hk⟩
      cases e : z.v.ownBlock with
      | none => exact .inl rfl
      | some g =>
        refine .inr fun e2 => ?_
        have h1 := ((h.own k z hk).lt e).2
        have h2 := (ho.lt e2.symm).1
        omega
    rcases nthE_app hi with h1 | ⟨hi1, rfl⟩
    · rcases nthE_app hj with h2 | ⟨-, rfl⟩
      · exact h.ns i j x y hij h1 h2
      · exact key x ⟨i, h1⟩
    · rcases nthE_app hj with h2 | ⟨hj1, -⟩
      · rcases key y ⟨j, h2⟩ with h3 | h3
        · cases e : v.ownBlock with
          | none => exact .inl rfl
          | some g => exact .inr (by rw [h3]; simp)
        · exact .inr (fun e => h3 e.symm)
      · omega

/-- A box and a slice that it holds, both new. -/
theorem StG.addV {w W W' : World} {bx : List BxE} {sl : List SlE} {v : Value} {bs : List Nat} {ob : Nat} {cs : Array Value} {T : TypeId} (h : StG w W bx sl) (hb : Below W.heap.size W W') (hx : BoxN W' ob cs T) (hob : W.heap.size ≤ ob) (ho : OwnF W' W.heap.size v bs) (hne : some ob ≠ v.ownBlock) :
    StG w W' (bx ++ [⟨ob, cs, T⟩]) (sl ++ [⟨v, bs⟩]) := by
  have h1 := h.addSl hb ho
  refine ⟨h1.bel, fun k x hk => ?_, h1.own, fun i j x y hi hj => ?_, h1.ns⟩
  · rcases nthE_app hk with h2 | ⟨-, rfl⟩
    · exact h1.box k x h2
    · exact hx
  · rcases nthE_app hi with h2 | ⟨-, rfl⟩
    · exact h1.nb i j x y h2 hj
    · rcases nthE_app hj with h3 | ⟨-, rfl⟩
      · intro e
        exact Nat.lt_irrefl _ (Nat.lt_of_lt_of_le ((h.own j y h3).lt e.symm).2 hob)
      · exact hne

/-- A slice is marked. -/
theorem StG.mark {w W W' : World} {bx : List BxE} {sl : List SlE} {x : SlE} {bs' : List Nat} {k : Nat} (h : StG w W bx sl) (hk : nthE sl k = some x) (ho : OwnF W' w.heap.size x.v bs') (hg : W.grownBy W' x.v.ownBlock) : StG w W' bx (setE sl k ⟨x.v, bs'⟩) := by
  refine ⟨h.bel.grown hg h.bel.size (fun g hgx => ((h.own k x hk).lt hgx).1), fun i y hi => (h.box i y hi).grown hg (h.nb i k y x hi hk), fun i y hi => ?_, fun i j y z hi hj => ?_, fun i j y z hij hi hj => ?_⟩
  · rcases nthE_set hk hi with ⟨-, rfl⟩ | ⟨h1, h2⟩
    · exact ho
    · exact (h.own i y h2).grown hg (h.ns i k y x h1 h2 hk)
  · rcases nthE_set hk hj with ⟨-, rfl⟩ | ⟨h1, h2⟩
    · exact h.nb i k y x hi hk
    · exact h.nb i j y z hi h2
  · rcases nthE_set hk hi with ⟨h1, rfl⟩ | ⟨h1, h2⟩
    · rcases nthE_set hk hj with ⟨h3, rfl⟩ | ⟨h3, h4⟩
      · omega
      · exact h.ns k j x z (by omega) hk h4
    · rcases nthE_set hk hj with ⟨h3, rfl⟩ | ⟨h3, h4⟩
      · exact h.ns i k y x h1 h2 hk
      · exact h.ns i j y z hij h2 h4

theorem mpE {T G : Prop} (h : T) (k : T → G) : G := k h

theorem belowA {w W : World} (h : Below w.heap.size w W) (o : Obj) : Below w.heap.size w (W.alloc o) := h.alloc h.size o

theorem belowT {w W W' : World} (h : Below w.heap.size w W) (h2 : Below W.heap.size W W') : Below w.heap.size w W' := h.trans (h2.mono h.size)

end Go.Proofs.YtcppoadeelnphaaDoor
