/- Slices of bytes of one's own; their strings; bytesOf. -/
import Derived.Test.YtjibghjongplpaaDoorExt
import Derived.Test.YtjibghjongplpaaDoorMem
import Derived.Test.YtjibghjongplpaaDoorSrc
import Derived.Laws.IdiomStrings
import Derived.Laws.BytesArg
import Derived.Deep.AppendLies
namespace Go.Proofs.YtjibghjongplpaaDoor
open Go.RowKit
set_option maxRecDepth 100000
set_option linter.unusedVariables false
set_option linter.unusedSimpArgs false

theorem info_u8 : (Tryd.prog.info? 5).map (fun i => (i.zero, i.size, i.bytes)) = some (some (.int .u8 0), 1, 1) := by kernel_rfl

def uCells (l : List UInt8) : List Value := l.map fun b => Value.int .u8 (b.toNat : Int)

/-- A slice of bytes of the call's own. -/
def OwnU (w : World) (B : Nat) (v : Value) (l : List UInt8) : Prop := w.ownsRow B 5 1 v l.length (uCells l)

theorem OwnU.grown {w w' : World} {B : Nat} {v : Value} {l : List UInt8} {r : Option Nat} (h : OwnU w B v l) (hg : w.grownBy w' r) (hne : v.ownBlock = none ∨ v.ownBlock ≠ r) : OwnU w' B v l := World.ownsRow.kept h hg hne

theorem OwnU.below {w w' : World} {B : Nat} {v : Value} {l : List UInt8} (h : OwnU w B v l) (hb : Below w.heap.size w w') : OwnU w' B v l := h.grown (grown_below hb none) (by cases v.ownBlock <;> simp)

theorem OwnU.lt {w : World} {B : Nat} {v : Value} {l : List UInt8} (h : OwnU w B v l) {k : Nat} (hk : v.ownBlock = some k) : B ≤ k ∧ k < w.heap.size := World.ownsRow.lt h k hk

theorem OwnU.start (w : World) (B : Nat) (hB : B ≤ w.heap.size) : OwnU (w.alloc (.cells #[] 5)) B (.slice (some ⟨w.heap.size, 0, none⟩) 0 0) [] :=
  ⟨rfl, .inr ⟨w.heap.size, 0, #[], rfl, hB, heap_alloc_new w _, Nat.le_refl _, by unfold maxLen; omega, rfl, rfl⟩⟩

/-- The string of a slice's bytes. -/
theorem OwnU.str {w : World} {B : Nat} {v : Value} {l : List UInt8} (h : OwnU w B v l) : (convert 22 9 v).run Tryd.prog w = .ok (.string ⟨l.toArray⟩) w := by
  rcases h.2 with ⟨rfl, h0⟩ | ⟨g, cap, cur, rfl, hg, hh, hn, hm, hs, ht⟩
  · have : l = [] := List.length_eq_zero_iff.1 h0
    subst this
    exact run_convert_bytes_nil (P := Tryd.prog) w 22 5 (by rfl) (by rfl) 0 0 9 (by rfl)
  · refine run_convert_bytes_back w 22 9 5 ⟨g, 0, none⟩ cap l (by rfl) (by rfl) (by rfl) fun j hj => ?_
    exact World.ownsRow.cells (g := g) h rfl j _ (by unfold uCells; rw [List.getElem?_map, List.getElem?_eq_getElem hj]; rfl)

/-- The bytes of a number, the least one first. -/
def leB (n : Nat) : Nat → List UInt8
  | 0 => []
  | i + 1 => leB n i ++ [UInt8.ofNat (n / 256 ^ i % 256)]

theorem leB_len (n : Nat) : ∀ i, (leB n i).length = i := by
  intro i
  induction i with
  | zero => rfl
  | succ i ih => unfold leB; rw [List.length_append, ih]; rfl

end Go.Proofs.YtjibghjongplpaaDoor
