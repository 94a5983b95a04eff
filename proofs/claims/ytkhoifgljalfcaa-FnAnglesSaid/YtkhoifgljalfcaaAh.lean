/- The exact laws' sizes and copies of their arguments: szFloat32S, szPicture, szMap, toFloat32S, toPicture, toMap. -/
import Derived.Test.YtkhoifgljalfcaaEx
import Derived.Test.YtkhoifgljalfcaaPic
import Derived.Test.YtkhoifgljalfcaaBox
import Derived.Laws.OwnMore
import Derived.Deep.Cut
namespace Go.Proofs.Ytkhoifgljalfcaa
open Go.RowKit Ieee
set_option maxRecDepth 100000
set_option linter.unusedVariables false
set_option linter.unusedSimpArgs false

/-- What a size leaves. -/
def szL (left n : Nat) : Int := if n ≤ left then ((left - n : Nat) : Int) else -1

theorem info_f32h : (Try.prog.info? 24).map (fun i => (i.zero, i.size, i.bytes)) = some (some (.float .f32 0), 1, 4) := by kernel_rfl

theorem makeF (w : World) (n B : Nat) (hB : B ≤ w.heap.size) (hn : n ≤ 1048576) :
    ∃ w', (Instr.makeSlice 41 (.int .i64 (n : Int)) (.int .i64 (n : Int))).run Try.prog w = .ok (.slice (some ⟨w.heap.size, 0, none⟩) n n) w' ∧ OwnF w' B (.slice (some ⟨w.heap.size, 0, none⟩) n n) (List.replicate n 0) ∧ Below w.heap.size w w' := by
  obtain ⟨i0, hi0, hz0, hz1, hz2⟩ := info_parts info_f32h
  obtain ⟨w', h1, h2, h3⟩ := run_makeSlice_full (P := Try.prog) (w := w) B 41 24 i0 (.float .f32 0) 1 (by rfl) hi0 hz0 hz1 .i64 .i64 n (by omega) (by rw [hz2]; omega) (by unfold maxLen; omega) hB
  have h4 : (madeCells (Value.cells (.float .f32 0)) (n * 1)).toList = (List.replicate n 0).map (Value.float .f32) := by
    rw [Nat.mul_one, List.map_replicate]; exact toList_madeCells_one _ _
  refine ⟨w', h1, ⟨by rw [List.length_replicate, ← h4]; exact h2, fun b hb => by rw [(List.mem_replicate.1 hb).2]; decide⟩, ?_⟩
  exact ⟨h3.os, h3.tape, h3.output, h3.size, fun k hk => h3.block k hk (by simp)⟩

/-- A slice of one's own of a list's words. -/
def MakesF2 (w : World) (bs : List Nat) (e : Ending) (w' : World) : Prop := ∃ g, e = .returned (.slice (some ⟨g, 0, none⟩) bs.length bs.length) ∧ OwnF w' w.heap.size (.slice (some ⟨g, 0, none⟩) bs.length bs.length) bs ∧ Below w.heap.size w w'

/-- A picture or a map that a call makes. -/
def MakesP2 (w : World) (a b : Int) (bs : List Nat) (e : Ending) (w' : World) : Prop :=
  ∃ g, e = .returned (.agg #[.int .i64 a, .int .i64 b, .slice (some ⟨g, 0, none⟩) bs.length bs.length]) ∧ OwnF w' w.heap.size (.slice (some ⟨g, 0, none⟩) bs.length bs.length) bs ∧ Below w.heap.size w w'

theorem three_boxes {w W : World} {x y z : Array Value} {T U V : TypeId} (h : W = (((w.alloc (.cells x T)).alloc (.cells y U)).alloc (.cells z V))) :
    Below w.heap.size w W ∧ BoxN W w.heap.size x T ∧ BoxN W (w.heap.size + 1) y U ∧ BoxN W (w.heap.size + 1 + 1) z V := by
  obtain ⟨A, hA⟩ : ∃ A, A = w.alloc (.cells x T) := ⟨_, rfl⟩
  obtain ⟨B, hB⟩ : ∃ B, B = A.alloc (.cells y U) := ⟨_, rfl⟩
  rw [← hA, ← hB] at h
  have sA : A.heap.size = w.heap.size + 1 := by rw [hA]; simp
  have sB : B.heap.size = w.heap.size + 1 + 1 := by rw [hB]; simp; omega
  have bA : Below w.heap.size w A := by rw [hA]; exact (Below.refl _ _).alloc (Nat.le_refl _) _
  have bB : Below A.heap.size A B := by rw [hB]; exact (Below.refl _ _).alloc (Nat.le_refl _) _
  have bC : Below B.heap.size B W := by rw [h]; exact (Below.refl _ _).alloc (Nat.le_refl _) _
  have xA : BoxN A w.heap.size x T := by rw [hA]; exact BoxN.last w _ _
  have xB : BoxN B (w.heap.size + 1) y U := by rw [hB, ← sA]; exact BoxN.last A _ _
  have xC : BoxN W (w.heap.size + 1 + 1) z V := by rw [h, ← sB]; exact BoxN.last B _ _
  exact ⟨(bA.trans (bB.mono bA.size)).trans (bC.mono (Nat.le_trans bA.size bB.size)), (xA.below bB).below bC, xB.below bC, xC⟩

end Go.Proofs.Ytkhoifgljalfcaa
