/- The exact laws' functions on volumes: eqVolume, markVolume, heldVolume; what stays of a law's values. -/
import Derived.Test.YtabbjilgpfnacaaGreatEd
import Derived.Test.YtabbjilgpfnacaaGreatAk
import Derived.Test.YtabbjilgpfnacaaGreatAv
namespace Go.Proofs.YtabbjilgpfnacaaGreat
open Go.RowKit Ieee
set_option maxRecDepth 100000
set_option linter.unusedVariables false
set_option linter.unusedSimpArgs false

/-- What a slice of one's own needs is its block. -/
theorem OwnF.block {w w' : World} {B : Nat} {v : Value} {bs : List Nat} (h : OwnF w B v bs) (hk : ∀ g, v.ownBlock = some g → w'.heap[g]? = w.heap[g]?) : OwnF w' B v bs := by
  refine ⟨⟨h.1.1, ?_⟩, h.2⟩
  rcases h.1.2 with hn | ⟨g, cap, cur, rfl, hb, hgg, rest⟩
  · exact .inl hn
  · exact .inr ⟨g, cap, cur, rfl, hb, by rw [hk g rfl]; exact hgg, rest⟩

theorem BoxN.block {w w' : World} {b : Nat} {cs : Array Value} {T : TypeId} (h : BoxN w b cs T) (hk : w'.heap[b]? = w.heap[b]?) : BoxN w' b cs T := by unfold BoxN at *; rw [hk]; exact h

theorem at_of_box {W : World} {b : Nat} {p q m : Tri} {T : TypeId} (h : BoxN W b (desk p q m) T) : p.at_ W b 0 ∧ q.at_ W b 3 ∧ m.at_ W b 6 :=
  ⟨⟨h.cell 0, h.cell 1, h.cell 2⟩, ⟨h.cell 3, h.cell 4, h.cell 5⟩, ⟨h.cell 6, h.cell 7, h.cell 8⟩⟩

theorem nine_of_box {W : World} {b : Nat} {p q m : Tri} {T : TypeId} (h : BoxN W b (desk p q m) T) :
    W.cell? ⟨b, 0, none⟩ = some (.int .i64 p.a) ∧ W.cell? ⟨b, 1, none⟩ = some (.int .i64 p.b) ∧ W.cell? ⟨b, 2, none⟩ = some (.slice p.s p.l p.c) ∧ W.cell? ⟨b, 3, none⟩ = some (.int .i64 q.a) ∧ W.cell? ⟨b, 4, none⟩ = some (.int .i64 q.b) ∧ W.cell? ⟨b, 5, none⟩ = some (.slice q.s q.l q.c) ∧ W.cell? ⟨b, 6, none⟩ = some (.int .i64 m.a) ∧ W.cell? ⟨b, 7, none⟩ = some (.int .i64 m.b) ∧ W.cell? ⟨b, 8, none⟩ = some (.slice m.s m.l m.c) :=
  ⟨h.cell 0, h.cell 1, h.cell 2, h.cell 3, h.cell 4, h.cell 5, h.cell 6, h.cell 7, h.cell 8⟩

theorem four_of_box {W : World} {b : Nat} {x y z u : Value} {T : TypeId} (h : BoxN W b #[x, y, z, u] T) :
    W.cell? ⟨b, 0, none⟩ = some x ∧ W.cell? ⟨b, 1, none⟩ = some y ∧ W.cell? ⟨b, 2, none⟩ = some z ∧ W.cell? ⟨b, 3, none⟩ = some u := ⟨h.cell 0, h.cell 1, h.cell 2, h.cell 3⟩

/-- The new box at the end of a world. -/
theorem box_new {w W : World} {cs : Array Value} {T : TypeId} (h : W = w.alloc (.cells cs T)) : Below w.heap.size w W ∧ BoxN W w.heap.size cs T ∧ W.heap.size = w.heap.size + 1 := by
  subst h; exact ⟨(Below.refl _ _).alloc (Nat.le_refl _) _, BoxN.last w _ _, by simp⟩

end Go.Proofs.YtabbjilgpfnacaaGreat
