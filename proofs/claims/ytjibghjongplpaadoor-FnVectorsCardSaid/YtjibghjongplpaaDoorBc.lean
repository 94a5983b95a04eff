/- Lines of a text: the reference's and the program's; CountOutputs. -/
import Derived.Test.YtjibghjongplpaaDoorBb
import Derived.Test.YtjibghjongplpaaDoorSj
import Derived.StillTactics
import Derived.Deep.RegionHeld3
namespace Go.Proofs.YtjibghjongplpaaDoor
open Go.RowKit
set_option maxRecDepth 100000
set_option linter.unusedVariables false
set_option linter.unusedSimpArgs false

/-- The lines of a text, each ended by a newline, and what is left. -/
def lnsL (l : List UInt8) : List (List UInt8) := (cutL 10 l).dropLast
def restL (l : List UInt8) : List UInt8 := (cutL 10 l).getLastD []
theorem lns_split (l : List UInt8) : cutL 10 l = lnsL l ++ [restL l] := by
  unfold lnsL restL
  have h := cutL_ne 10 l
  rw [List.getLastD_eq_getLast?, List.getLast?_eq_some_getLast h, Option.getD_some, List.dropLast_concat_getLast]
theorem lns_len (l : List UInt8) : (cutL 10 l).length = (lnsL l).length + 1 := by rw [lns_split, List.length_append]; rfl
theorem lns_le (l : List UInt8) : (lnsL l).length ≤ l.length := by have h1 := lns_len l; have h2 := cutL_count 10 l; omega
theorem rest_empty (l : List UInt8) : restL l = [] ↔ l = [] ∨ l.getLast? = some 10 := by
  rw [← cutL_last (c := 10) (l := l)]
  unfold restL
  have h := cutL_ne 10 l
  rw [List.getLastD_eq_getLast?, List.getLast?_eq_some_getLast h, Option.getD_some, Option.some.injEq]
/-- Strings that lie from the beginning of a block on. -/
def StrAt (w : World) (g : Nat) (P : List (List UInt8)) : Prop := g < w.heap.size ∧ ∀ i, i < P.length → w.cell? ⟨g, i, none⟩ = some (.string ⟨(P.getD i []).toArray⟩)
theorem StrAt.below {w w' : World} {g : Nat} {P : List (List UInt8)} (h : StrAt w g P) (hb : Below w.heap.size w w') : StrAt w' g P :=
  ⟨Nat.lt_of_lt_of_le h.1 hb.size, fun i hi => (hb.cell (p := ⟨g, i, none⟩) h.1).trans (h.2 i hi)⟩
theorem StrAt.sub {w : World} {g : Nat} {P Q : List (List UInt8)} (h : StrAt w g (P ++ Q)) : StrAt w g P :=
  ⟨h.1, fun i hi => by
    have := h.2 i (by rw [List.length_append]; omega)
    rw [List.getD_eq_getElem?_getD, List.getElem?_append_left hi, ← List.getD_eq_getElem?_getD] at this
    exact this⟩
theorem OwnS.strAt {w : World} {B g n cap : Nat} {P : List (List UInt8)} (h : OwnS w B (.slice (some ⟨g, 0, none⟩) n cap) P) : StrAt w g P := by
  have hl := (OwnS.lt h (k := g) rfl).2
  refine ⟨hl, fun i hi => ?_⟩
  unfold OwnS at h
  have hn : P.length = n := by
    rcases h.2 with ⟨h1, _⟩ | ⟨g', cap', cur, h1, _⟩
    · simp at h1
    · simp only [Value.slice.injEq] at h1; omega
  rw [hn] at h
  have h2 := World.ownsRow.cellAt h i (by omega)
  rw [h2]
  unfold sCells
  rw [List.getElem?_map, List.getD_eq_getElem?_getD, List.getElem?_eq_getElem hi]
  rfl

theorem cells_newS (w : World) (cs : List Value) (T : TypeId) (j : Nat) (u : Value) (h : cs[j]? = some u) : (w.alloc (.cells cs.toArray T)).cell? ⟨w.heap.size, j, none⟩ = some u := by
  rw [World.cell?_alloc_new]
  simpa using h
theorem suffix_one (l : List UInt8) : Lib.hasSuffix l (⟨#[10]⟩ : ByteArray).data.toList = decide (l.getLast? = some 10) := by
  unfold Lib.hasSuffix
  rw [Bool.eq_iff_iff, decide_eq_true_eq, List.isSuffixOf_iff_suffix]
  constructor
  · rintro ⟨t, rfl⟩
    show (t ++ [10]).getLast? = some 10
    simp
  · intro h
    obtain ⟨t, rfl⟩ := List.getLast?_eq_some_iff.1 h
    exact ⟨t, rfl⟩

end Go.Proofs.YtjibghjongplpaaDoor
