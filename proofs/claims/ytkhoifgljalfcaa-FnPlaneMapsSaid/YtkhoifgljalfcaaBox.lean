/- Blocks that are known whole; a function value of three integers; impl.volumeOf. -/
import Derived.Test.YtkhoifgljalfcaaMade
namespace Go.Proofs.Ytkhoifgljalfcaa
open Go.RowKit
set_option maxRecDepth 100000
set_option linter.unusedVariables false
set_option linter.unusedSimpArgs false

/-- A block of cells, known whole. -/
def BoxN (w : World) (b : Nat) (cs : Array Value) (T : TypeId) : Prop := w.heap[b]? = some (.cells cs T (0, 0))

theorem BoxN.below {w w' : World} {b : Nat} {cs : Array Value} {T : TypeId} (h : BoxN w b cs T) (hb : Below w.heap.size w w') : BoxN w' b cs T := by unfold BoxN at *; rw [hb.block b (lt_of_block h)]; exact h

theorem BoxN.lt {w : World} {b : Nat} {cs : Array Value} {T : TypeId} (h : BoxN w b cs T) : b < w.heap.size := lt_of_block h

theorem BoxN.grown {w w' : World} {b : Nat} {cs : Array Value} {T : TypeId} {r : Option Nat} (h : BoxN w b cs T) (hg : w.grownBy w' r) (hne : some b ≠ r) : BoxN w' b cs T := by unfold BoxN at *; rw [hg.block b (lt_of_block h) hne]; exact h

theorem BoxN.cell {w : World} {b : Nat} {cs : Array Value} {T : TypeId} (h : BoxN w b cs T) (i : Nat) : w.cell? ⟨b, i, none⟩ = cs[i]? := by unfold BoxN at h; simp [World.cell?, h]

theorem BoxN.free {w : World} {b : Nat} {cs : Array Value} {T : TypeId} (h : BoxN w b cs T) (i : Nat) : w.frozen? ⟨b, i, none⟩ = false := by unfold BoxN at h; simp [World.frozen?, h]

theorem BoxN.set {w : World} {b : Nat} {cs : Array Value} {T : TypeId} (h : BoxN w b cs T) (i : Nat) (z : Value) : BoxN (w.setCell ⟨b, i, none⟩ z) b (cs.setIfInBounds i z) T := by
  have hlt := lt_of_block h
  unfold BoxN at *
  have h' : w.heap[b] = .cells cs T (0, 0) := by simpa [Array.getElem?_eq_getElem hlt] using h
  simp only [World.setCell]
  rw [Array.getElem?_eq_getElem (by simpa using hlt), Array.getElem_modify_self, h']
  rfl

theorem BoxN.last (w : World) (cs : Array Value) (T : TypeId) : BoxN (w.alloc (.cells cs T)) w.heap.size cs T := heap_alloc_new w _

theorem BoxN.three {w : World} {b : Nat} {x y z : Value} {T : TypeId} (h : BoxN w b #[x, y, z] T) : Box3 w b x y z T := h

theorem BoxN.drewN {w : World} {b : Nat} {cs : Array Value} {T : TypeId} (h : BoxN w b cs T) (n : Nat) : BoxN (w.drewN n) b cs T := h

theorem BoxN.first (w : World) (cs : Array Value) (T : TypeId) (o : Obj) : BoxN ((w.alloc (.cells cs T)).alloc o) w.heap.size cs T := by
  unfold BoxN; rw [heap_alloc_old _ _ (by simp)]; exact heap_alloc_new w _

theorem BoxN.second (w : World) (cs : Array Value) (T : TypeId) (o : Obj) : BoxN ((w.alloc o).alloc (.cells cs T)) (w.heap.size + 1) cs T := by
  unfold BoxN
  have := heap_alloc_new (w.alloc o) (.cells cs T)
  simpa using this

/-- Four cells. -/
theorem BoxN.four {w : World} {b : Nat} {x y z u : Value} {T : TypeId} (h : BoxN w b #[x, y, z, u] T) : w.cell? ⟨b, 0, none⟩ = some x ∧ w.cell? ⟨b, 1, none⟩ = some y ∧ w.cell? ⟨b, 2, none⟩ = some z ∧ w.cell? ⟨b, 3, none⟩ = some u ∧ w.frozen? ⟨b, 0, none⟩ = false ∧ w.frozen? ⟨b, 1, none⟩ = false ∧ w.frozen? ⟨b, 2, none⟩ = false ∧ w.frozen? ⟨b, 3, none⟩ = false :=
  ⟨h.cell 0, h.cell 1, h.cell 2, h.cell 3, h.free 0, h.free 1, h.free 2, h.free 3⟩

/-- A fact that a call between leaves: a world that was drawn from. -/
theorem below_undrew {w w2 : World} {n : Nat} (h : Below (w.drewN n).heap.size (w.drewN n) w2) : Below w.heap.size w w2 := ⟨h.os, h.tape, h.output, h.size, h.block⟩

/-- A function value of three integers that gives numbers and writes nothing that was there. -/
def Gives3 (w0 : World) (fv : Value) (wd hi dp : Nat) (g : Nat → Nat → Nat → Nat) : Prop :=
  ∃ fid caps, fv = .func (.func fid) #[] caps ∧ (∀ args w, (callFunc fid args).run Try.prog w = .ok (.enter fid args) w) ∧
    ∀ (x y d : Nat) (W : World), x < wd → y < hi → d < dp → Below w0.heap.size w0 W →
      Calls Try.prog fid (#[.int .i64 x, .int .i64 y, .int .i64 d] ++ caps) W fun e w' => ∃ r, e = .returned (.float .f32 r) ∧ r < 4294967296 ∧ fl r = g x y d ∧ Below W.heap.size W w'

theorem Gives3.below {w0 w1 : World} {fv : Value} {wd hi dp : Nat} {g : Nat → Nat → Nat → Nat} (h : Gives3 w0 fv wd hi dp g) (hb : Below w0.heap.size w0 w1) : Gives3 w1 fv wd hi dp g := by
  obtain ⟨fid, caps, h1, h2, h3⟩ := h
  exact ⟨fid, caps, h1, h2, fun x y d W hx hy hd hW => h3 x y d W hx hy hd (hb.trans (hW.mono hb.size))⟩

/-- The table of three places. -/
def tab3 (wd hi dp : Nat) (g : Nat → Nat → Nat → Nat) : List Nat := tab (hi * wd * dp) fun i => g (i / dp % wd) (i / dp / wd) (i % dp)

end Go.Proofs.Ytkhoifgljalfcaa
