/- Lists that are read: slices of whole numbers and of numbers of one's own. -/
import Derived.Test.YtjibghjongplpaaDoorCf
import Derived.Test.YtjibghjongplpaaDoorSs
import Derived.Test.YtjibghjongplpaaDoorMem
import Derived.Test.YtjibghjongplpaaDoorBs
namespace Go.Proofs.YtjibghjongplpaaDoor
open Go.RowKit
set_option maxRecDepth 100000
set_option linter.unusedVariables false
set_option linter.unusedSimpArgs false

theorem info_int64 : (Tryd.prog.info? 2).map (fun i => (i.zero, i.size, i.bytes)) = some (some (.int .i64 0), 1, 8) := by kernel_rfl
def zCells (zs : List Int) : List Value := zs.map (Value.int .i64)
/-- Whole numbers in a block of one's own. -/
def OwnZ (w : World) (B : Nat) (v : Value) (zs : List Int) : Prop := w.ownsRow B 2 1 v zs.length (zCells zs)
theorem OwnZ.below {w w' : World} {B : Nat} {v : Value} {zs : List Int} (h : OwnZ w B v zs) (hb : Below w.heap.size w w') : OwnZ w' B v zs := World.ownsRow.kept h (grown_below hb none) (by cases v.ownBlock <;> simp)
theorem OwnZ.lt {w : World} {B : Nat} {v : Value} {zs : List Int} (h : OwnZ w B v zs) {k : Nat} (hk : v.ownBlock = some k) : B ≤ k ∧ k < w.heap.size := World.ownsRow.lt h k hk
theorem OwnZ.start (w : World) (B : Nat) (hB : B ≤ w.heap.size) : OwnZ (w.alloc (.cells #[] 2)) B (.slice (some ⟨w.heap.size, 0, none⟩) 0 0) [] :=
  ⟨rfl, .inr ⟨w.heap.size, 0, #[], rfl, hB, heap_alloc_new w _, Nat.le_refl _, by unfold maxLen; omega, rfl, rfl⟩⟩
theorem own_snocZ {w : World} {B n gg cap : Nat} {zs : List Int} {z : Int} (hl : zs.length = n) (h : w.ownsRow B 2 1 (.slice (some ⟨gg, 0, none⟩) (n + 1) cap) (n + 1) (zCells zs ++ [.int .i64 z])) :
    OwnZ w B (.slice (some ⟨gg, 0, none⟩) (n + 1) cap) (zs ++ [z]) := by
  subst hl
  unfold OwnZ
  rw [List.length_append, List.length_singleton]
  have e : zCells (zs ++ [z]) = zCells zs ++ [.int .i64 z] := by unfold zCells; rw [List.map_append]; rfl
  rw [e]; exact h
theorem add0 (g i : Nat) : (⟨g, 0, none⟩ : Addr).add i = ⟨g, i, none⟩ := by
  by_cases h : i = 0
  · subst h; simp [Addr.add]
  · simp [Addr.add, h]
theorem OwnZ.cellAt {w : World} {B g n cap : Nat} {zs : List Int} (h : OwnZ w B (.slice (some ⟨g, 0, none⟩) n cap) zs) (i : Nat) (hi : i < zs.length) : w.cell? ⟨g, i, none⟩ = some (.int .i64 (zs.getD i 0)) := by
  have := World.ownsRow.cells (g := g) h rfl i (Value.int .i64 (zs.getD i 0)) (by unfold zCells; rw [List.getElem?_map, List.getElem?_eq_getElem hi, List.getD_eq_getElem?_getD, List.getElem?_eq_getElem hi]; rfl)
  have z : (⟨g, 0, none⟩ : Addr).add i = ⟨g, i, none⟩ := add0 g i
  rw [z] at this; exact this
/-- A string of a slice of one's own. -/
theorem strAt {w : World} {B g n cap : Nat} {P : List (List UInt8)} (h : OwnS w B (.slice (some ⟨g, 0, none⟩) n cap) P) (i : Nat) (hi : i < P.length) : w.cell? ⟨g, i, none⟩ = some (.string ⟨(P.getD i []).toArray⟩) := by
  have := World.ownsRow.cells (g := g) h rfl i (.string ⟨(P.getD i []).toArray⟩) (by unfold sCells; rw [List.getElem?_map, List.getElem?_eq_getElem hi, List.getD_eq_getElem?_getD, List.getElem?_eq_getElem hi]; rfl)
  have z : (⟨g, 0, none⟩ : Addr).add i = ⟨g, i, none⟩ := add0 g i
  rw [z] at this; exact this
theorem cutL_mem_le {c : UInt8} : ∀ (l : List UInt8) (p : List UInt8), p ∈ cutL c l → p.length ≤ l.length
  | [], p, h => by
    rw [cutL] at h
    simp at h
    simp [h]
  | d :: l, p, h => by
    rw [cutL] at h
    split at h
    · rcases List.mem_cons.1 h with rfl | h
      · simp
      · have := cutL_mem_le l p h; simp; omega
    · obtain ⟨q, qs, hq⟩ := List.exists_cons_of_ne_nil (cutL_ne c l)
      rw [hq] at h
      have h2 := cutL_mem_le (c := c) l
      rw [hq] at h2
      rcases List.mem_cons.1 h with rfl | h
      · have := h2 q (List.mem_cons_self ..); simp; omega
      · have := h2 p (List.mem_cons_of_mem _ h); simp; omega
/-- What a reading of a list gives: the numbers in memory of one's own, or nothing. -/
def ReadZ (w : World) (e : Ending) (w' : World) (r : List Int × Bool) : Prop := ∃ sa c, e = .returned (.tuple #[.slice sa r.1.length c, .bool r.2]) ∧ (r.2 = true → OwnZ w' w.heap.size (.slice sa r.1.length c) r.1) ∧ Below w.heap.size w w'
theorem all_take {P : List (List UInt8)} {f : List UInt8 → Bool} (h : P.all f = false) : ∃ i, i < P.length ∧ f (P.getD i []) = false := by
  rw [List.all_eq_false] at h
  obtain ⟨x, hx, hf⟩ := h
  obtain ⟨i, hi, rfl⟩ := List.getElem_of_mem hx
  exact ⟨i, hi, by rw [List.getD_eq_getElem?_getD, List.getElem?_eq_getElem hi]; simpa using hf⟩
theorem getD_mem {P : List (List UInt8)} {i : Nat} (h : i < P.length) : P.getD i [] ∈ P := by
  rw [List.getD_eq_getElem?_getD, List.getElem?_eq_getElem h]; exact List.getElem_mem _
theorem take_snocP {P : List (List UInt8)} {i : Nat} (h : i < P.length) : P.take (i + 1) = P.take i ++ [P.getD i []] := by
  rw [List.take_succ_eq_append_getElem h, List.getD_eq_getElem?_getD, List.getElem?_eq_getElem h]; rfl

theorem info_flt : (Tryd.prog.info? 37).map (fun i => (i.zero, i.size, i.bytes)) = some (some (.float .f32 0), 1, 4) := by kernel_rfl
def fCells (bs : List Nat) : List Value := bs.map (Value.float .f32)
theorem OwnF.start (w : World) (B : Nat) (hB : B ≤ w.heap.size) : OwnF (w.alloc (.cells #[] 37)) B (.slice (some ⟨w.heap.size, 0, none⟩) 0 0) [] :=
  ⟨⟨rfl, .inr ⟨w.heap.size, 0, #[], rfl, hB, heap_alloc_new w _, Nat.le_refl _, by unfold maxLen; omega, rfl, rfl⟩⟩, by simp⟩
theorem own_snocF {w : World} {B n gg cap : Nat} {bs : List Nat} {b : Nat} (hl : bs.length = n) (hb : ∀ x ∈ bs, x < 4294967296) (hb2 : b < 4294967296) (h : w.ownsRow B 37 1 (.slice (some ⟨gg, 0, none⟩) (n + 1) cap) (n + 1) (fCells bs ++ [.float .f32 b])) :
    OwnF w B (.slice (some ⟨gg, 0, none⟩) (n + 1) cap) (bs ++ [b]) := by
  subst hl
  refine ⟨?_, fun x hx => ?_⟩
  · rw [List.length_append, List.length_singleton, List.map_append]; exact h
  · rcases List.mem_append.1 hx with h | h
    · exact hb x h
    · simp at h; rw [h]; exact hb2
/-- What a reading of a list gives: the numbers in memory of one's own, or nothing. -/
def ReadF (w : World) (e : Ending) (w' : World) (r : List Nat × Bool) : Prop := ∃ sa c, e = .returned (.tuple #[.slice sa r.1.length c, .bool r.2]) ∧ (r.2 = true → OwnF w' w.heap.size (.slice sa r.1.length c) r.1) ∧ Below w.heap.size w w'
theorem valH_lt {p : List UInt8} : (valH p).1 < 4294967296 := by
  unfold valH
  split
  · rename_i n h
    split
    · rename_i h2
      have := accH_lt p 0 0 n (by simp) h
      rw [h2.1] at this
      simpa using this
    · simp
  · simp
theorem byteN_get {q : ByteArray} {p : List UInt8} (h : (⟨p.toArray⟩ : ByteArray) = q) {k : Nat} (hk : k < p.length) : byteN q k = (p.getD k 0).toNat := by
  subst h; rfl
theorem take_snocU {p : List UInt8} {k : Nat} (h : k < p.length) : p.take (k + 1) = p.take k ++ [p.getD k 0] := by
  rw [List.take_succ_eq_append_getElem h, List.getD_eq_getElem?_getD, List.getElem?_eq_getElem h]; rfl
theorem getD_memU {p : List UInt8} {k : Nat} (h : k < p.length) : p.getD k 0 ∈ p := by
  rw [List.getD_eq_getElem?_getD, List.getElem?_eq_getElem h]; exact List.getElem_mem _

end Go.Proofs.YtjibghjongplpaaDoor
