/- Desks: sizes and copies of an argument. -/
import Derived.Test.YtabbjilgpfnacaaGreatAj
namespace Go.Proofs.YtabbjilgpfnacaaGreat
open Go.RowKit Ieee
set_option maxRecDepth 100000
set_option linter.unusedVariables false
set_option linter.unusedSimpArgs false

/-- A size that is told: not negative only where all slices are small. -/
def SzPost (w : World) (p q m : Tri) (e : Ending) (w' : World) : Prop :=
  Below w.heap.size w w' ∧ ((e = .returned (.int .i64 (-1))) ∨ ∃ z : Nat, e = .returned (.int .i64 (z : Int)) ∧ p.l ≤ 1048576 ∧ q.l ≤ 1048576 ∧ m.l ≤ 1048576)

/-- A desk that a call makes, with its lists. -/
def MakesD2 (w : World) (p q m : Tri) (xs ys zs : List Nat) (e : Ending) (w' : World) : Prop :=
  ∃ g1 g2 g3, e = .returned (.agg (desk ⟨p.a, p.b, some ⟨g1, 0, none⟩, p.l, p.l⟩ ⟨q.a, q.b, some ⟨g2, 0, none⟩, q.l, q.l⟩ ⟨m.a, m.b, some ⟨g3, 0, none⟩, m.l, m.l⟩)) ∧
    OwnF w' w.heap.size (.slice (some ⟨g1, 0, none⟩) p.l p.l) xs ∧ OwnF w' w.heap.size (.slice (some ⟨g2, 0, none⟩) q.l q.l) ys ∧ OwnF w' w.heap.size (.slice (some ⟨g3, 0, none⟩) m.l m.l) zs ∧ Below w.heap.size w w'

/-- The same, and its slices lie in blocks that are three. -/
def MakesD3 (w : World) (p q m : Tri) (xs ys zs : List Nat) (e : Ending) (w' : World) : Prop :=
  ∃ g1 g2 g3, e = .returned (.agg (desk ⟨p.a, p.b, some ⟨g1, 0, none⟩, p.l, p.l⟩ ⟨q.a, q.b, some ⟨g2, 0, none⟩, q.l, q.l⟩ ⟨m.a, m.b, some ⟨g3, 0, none⟩, m.l, m.l⟩)) ∧
    OwnF w' w.heap.size (.slice (some ⟨g1, 0, none⟩) p.l p.l) xs ∧ OwnF w' w.heap.size (.slice (some ⟨g2, 0, none⟩) q.l q.l) ys ∧ OwnF w' w.heap.size (.slice (some ⟨g3, 0, none⟩) m.l m.l) zs ∧ g1 < g2 ∧ g2 < g3 ∧ Below w.heap.size w w'

theorem Tri.at_.grown {t : Tri} {W W' : World} {pb o0 r : Nat} (h : t.at_ W pb o0) (hl : pb < W.heap.size) (hg : W.grownBy W' (some r)) (hr : pb ≠ r) : t.at_ W' pb o0 := by
  have e : W'.heap[pb]? = W.heap[pb]? := hg.block pb hl (by intro e; injection e with e; exact hr e)
  have z : ∀ j, W'.cell? ⟨pb, j, none⟩ = W.cell? ⟨pb, j, none⟩ := fun j => by simp only [World.cell?, e]
  exact ⟨by rw [z]; exact h.1, by rw [z]; exact h.2.1, by rw [z]; exact h.2.2⟩

theorem OwnF.set3 {W : World} {B b i j k : Nat} {v : Value} {bs : List Nat} (h : OwnF W B v bs) (hb : b < B) (x y z : Value) : OwnF (((W.setCell ⟨b, i, none⟩ x).setCell ⟨b, j, none⟩ y).setCell ⟨b, k, none⟩ z) B v bs :=
  ((h.set (a := ⟨b, i, none⟩) hb x).set (a := ⟨b, j, none⟩) hb y).set (a := ⟨b, k, none⟩) hb z

theorem below_set9 {B b : Nat} {w W : World} (h : Below B w W) (hb : B ≤ b) (x0 x1 x2 x3 x4 x5 x6 x7 x8 : Value) : Below B w (((((((((W.setCell ⟨b, 0, none⟩ x0).setCell ⟨b, 1, none⟩ x1).setCell ⟨b, 2, none⟩ x2).setCell ⟨b, 3, none⟩ x3).setCell ⟨b, 4, none⟩ x4).setCell ⟨b, 5, none⟩ x5).setCell ⟨b, 6, none⟩ x6).setCell ⟨b, 7, none⟩ x7).setCell ⟨b, 8, none⟩ x8) :=
  ((((((((h.setCell (p := ⟨b, 0, none⟩) hb _).setCell (p := ⟨b, 1, none⟩) hb _).setCell (p := ⟨b, 2, none⟩) hb _).setCell (p := ⟨b, 3, none⟩) hb _).setCell (p := ⟨b, 4, none⟩) hb _).setCell (p := ⟨b, 5, none⟩) hb _).setCell (p := ⟨b, 6, none⟩) hb _).setCell (p := ⟨b, 7, none⟩) hb _).setCell (p := ⟨b, 8, none⟩) hb _

end Go.Proofs.YtabbjilgpfnacaaGreat
