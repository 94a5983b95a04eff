/- Slices of strings of one's own. -/
import Derived.Test.YtjibghjongplpaaDoorUb
namespace Go.Proofs.YtjibghjongplpaaDoor
open Go.RowKit
set_option maxRecDepth 100000
set_option linter.unusedVariables false
set_option linter.unusedSimpArgs false

theorem info_strT : (Tryd.prog.info? 9).map (fun i => (i.zero, i.size, i.bytes)) = some (some (.string ⟨#[]⟩), 1, 16) := by kernel_rfl

def sCells (ps : List (List UInt8)) : List Value := ps.map fun p => .string ⟨p.toArray⟩

/-- Strings in a block of one's own. -/
def OwnS (w : World) (B : Nat) (v : Value) (ps : List (List UInt8)) : Prop := w.ownsRow B 9 1 v ps.length (sCells ps)

theorem OwnS.below {w w' : World} {B : Nat} {v : Value} {ps : List (List UInt8)} (h : OwnS w B v ps) (hb : Below w.heap.size w w') : OwnS w' B v ps := World.ownsRow.kept h (grown_below hb none) (by cases v.ownBlock <;> simp)

theorem OwnS.lt {w : World} {B : Nat} {v : Value} {ps : List (List UInt8)} (h : OwnS w B v ps) {k : Nat} (hk : v.ownBlock = some k) : B ≤ k ∧ k < w.heap.size := World.ownsRow.lt h k hk

theorem OwnS.start (w : World) (B : Nat) (hB : B ≤ w.heap.size) : OwnS (w.alloc (.cells #[] 9)) B (.slice (some ⟨w.heap.size, 0, none⟩) 0 0) [] :=
  ⟨rfl, .inr ⟨w.heap.size, 0, #[], rfl, hB, heap_alloc_new w _, Nat.le_refl _, by unfold maxLen; omega, rfl, rfl⟩⟩

theorem own_snocS {w : World} {B n gg cap : Nat} {ps : List (List UInt8)} {p : List UInt8} (hl : ps.length = n) (h : w.ownsRow B 9 1 (.slice (some ⟨gg, 0, none⟩) (n + 1) cap) (n + 1) (sCells ps ++ [.string ⟨p.toArray⟩])) :
    OwnS w B (.slice (some ⟨gg, 0, none⟩) (n + 1) cap) (ps ++ [p]) := by
  subst hl
  unfold OwnS
  rw [List.length_append, List.length_singleton]
  have e : sCells (ps ++ [p]) = sCells ps ++ [.string ⟨p.toArray⟩] := by unfold sCells; rw [List.map_append]; rfl
  rw [e]; exact h

end Go.Proofs.YtjibghjongplpaaDoor
