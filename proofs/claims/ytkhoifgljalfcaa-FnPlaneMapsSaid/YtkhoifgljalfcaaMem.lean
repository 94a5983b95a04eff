/- Memory: slices that read as lists; slices that the call itself has made. -/
import Derived.Test.YtkhoifgljalfcaaLaw
import Derived.Deep.AppendLies
import Derived.Deep.RegionHeld3
import Derived.Deep.RegionLaw
namespace Go.Proofs.Ytkhoifgljalfcaa
open Go.RowKit

/-- A slice of one-cell elements that reads as a list. -/
def Sl (w : World) (v : Value) (xs : List Value) : Prop :=
  ∃ a cap, v = .slice a xs.length cap ∧ xs.length ≤ cap ∧ cap ≤ 9223372036854775807 ∧ (xs = [] ∨ ∃ b off, a = some ⟨b, off, none⟩ ∧ b < w.heap.size ∧ ∀ i (h : i < xs.length), w.cell? ⟨b, off + i, none⟩ = some xs[i])

theorem Sl.keep {w w' : World} {v : Value} {xs : List Value} (h : Sl w v xs) (hs : w.heap.size ≤ w'.heap.size) (hk : ∀ b, b < w.heap.size → v.ownBlock = some b → w'.heap[b]? = w.heap[b]?) : Sl w' v xs := by
  obtain ⟨a, cap, rfl, h1, h2, h3⟩ := h
  refine ⟨a, cap, rfl, h1, h2, ?_⟩
  rcases h3 with h3 | ⟨b, off, rfl, hb, hc⟩
  · exact .inl h3
  · refine .inr ⟨b, off, rfl, by omega, fun i hi => ?_⟩
    rw [← hc i hi]
    exact World.cell?_of_block (hk b hb rfl)

theorem Sl.below {w w' : World} {v : Value} {xs : List Value} (h : Sl w v xs) (hb : Below w.heap.size w w') : Sl w' v xs := h.keep hb.size fun b hlt _ => hb.block b hlt

theorem Sl.grown {w w' : World} {v : Value} {xs : List Value} {r : Option Nat} (h : Sl w v xs) (hg : w.grownBy w' r) (hne : v.ownBlock = none ∨ v.ownBlock ≠ r) : Sl w' v xs :=
  h.keep hg.size fun b hlt hv => hg.block b hlt (by rcases hne with h | h <;> rw [hv] at h; cases h; exact h)

theorem Sl.drewN {w : World} {v : Value} {xs : List Value} (h : Sl w v xs) (n : Nat) : Sl (w.drewN n) v xs := h

/-- What the walk wants of it. -/
theorem Sl.form {w : World} {v : Value} {xs : List Value} (h : Sl w v xs) (h0 : xs ≠ []) : ∃ b off cap, v = .slice (some ⟨b, off, none⟩) xs.length cap ∧ b < w.heap.size ∧ ∀ i (h : i < xs.length), w.cell? ⟨b, off + i, none⟩ = some xs[i] := by
  obtain ⟨a, cap, rfl, h1, h2, h3⟩ := h
  rcases h3 with h3 | ⟨b, off, rfl, hb, hc⟩
  · exact absurd h3 h0
  · exact ⟨b, off, cap, rfl, hb, hc⟩

theorem Sl.nil (w : World) : Sl w (.slice none 0 0) [] := ⟨none, 0, rfl, by simp, by omega, .inl rfl⟩

/-- A slice of 32-bit numbers, by its words. -/
def SlF (w : World) (v : Value) (bs : List Nat) : Prop := Sl w v (bs.map (Value.float .f32)) ∧ ∀ b ∈ bs, b < 4294967296

theorem SlF.below {w w' : World} {v : Value} {bs : List Nat} (h : SlF w v bs) (hb : Below w.heap.size w w') : SlF w' v bs := ⟨h.1.below hb, h.2⟩

theorem SlF.form {w : World} {v : Value} {bs : List Nat} (h : SlF w v bs) (h0 : bs ≠ []) : ∃ b off cap, v = .slice (some ⟨b, off, none⟩) bs.length cap ∧ b < w.heap.size ∧ ∀ i (h : i < bs.length), w.cell? ⟨b, off + i, none⟩ = some (.float .f32 bs[i]) := by
  obtain ⟨b, off, cap, h1, h2, h3⟩ := h.1.form (by simpa using h0)
  exact ⟨b, off, cap, by simpa using h1, h2, fun i hi => by have := h3 i (by simpa using hi); simpa using this⟩

theorem SlF.len {w : World} {v : Value} {bs : List Nat} (h : SlF w v bs) : ∃ a cap, v = .slice a bs.length cap := by
  obtain ⟨a, cap, h1, _⟩ := h.1; exact ⟨a, cap, by simpa using h1⟩

theorem SlF.lt {w : World} {v : Value} {bs : List Nat} (h : SlF w v bs) {i : Nat} (hi : i < bs.length) : bs[i] < 4294967296 := h.2 _ (List.getElem_mem hi)

/-- A slice of numbers that lies in a block of its own, from block B on. -/
def OwnF (w : World) (B : Nat) (v : Value) (bs : List Nat) : Prop := w.ownsRow B 24 1 v bs.length (bs.map (Value.float .f32)) ∧ ∀ b ∈ bs, b < 4294967296

theorem OwnF.sl {w : World} {B : Nat} {v : Value} {bs : List Nat} (h : OwnF w B v bs) : SlF w v bs := by
  refine ⟨?_, h.2⟩
  rcases h.1.2 with ⟨rfl, h0⟩ | ⟨g, cap, cur, rfl, hg, hh, hn, hm, hs, ht⟩
  · have : bs = [] := List.length_eq_zero_iff.1 h0
    subst this; exact Sl.nil w
  · refine ⟨some ⟨g, 0, none⟩, cap, by simp, by simpa using hn, by unfold maxLen at hm; simpa using hm, ?_⟩
    refine .inr ⟨g, 0, rfl, lt_of_block hh, fun i hi => ?_⟩
    have hi' : i < bs.length := by simpa using hi
    have := h.1.cells (g := g) rfl i (Value.float .f32 bs[i]) (by simp [hi'])
    by_cases hi0 : i = 0
    · subst hi0; simpa [Addr.add] using this
    · simpa [Addr.add, hi0] using this

theorem OwnF.mono {w : World} {B B' : Nat} {v : Value} {bs : List Nat} (h : OwnF w B v bs) (hB : B' ≤ B) : OwnF w B' v bs := by
  obtain ⟨⟨h1, h2⟩, h3⟩ := h
  refine ⟨⟨h1, ?_⟩, h3⟩
  rcases h2 with h | ⟨g, cap, cur, h4, h5, h6⟩
  · exact .inl h
  · exact .inr ⟨g, cap, cur, h4, by omega, h6⟩

theorem OwnF.lt {w : World} {B : Nat} {v : Value} {bs : List Nat} (h : OwnF w B v bs) {k : Nat} (hk : v.ownBlock = some k) : B ≤ k ∧ k < w.heap.size := World.ownsRow.lt h.1 k hk

theorem OwnF.grown {w w' : World} {B : Nat} {v : Value} {bs : List Nat} {r : Option Nat} (h : OwnF w B v bs) (hg : w.grownBy w' r) (hne : v.ownBlock = none ∨ v.ownBlock ≠ r) : OwnF w' B v bs := ⟨h.1.kept hg hne, h.2⟩

theorem OwnF.below {w w' : World} {B : Nat} {v : Value} {bs : List Nat} (h : OwnF w B v bs) (hb : Below w.heap.size w w') : OwnF w' B v bs := h.grown (grown_below hb none) (by cases v.ownBlock <;> simp)

theorem OwnF.drewN {w : World} {B : Nat} {v : Value} {bs : List Nat} (h : OwnF w B v bs) (n : Nat) : OwnF (w.drewN n) B v bs := h.grown (grown_drewN w n none) (by cases v.ownBlock <;> simp)

theorem OwnF.nil (w : World) (B : Nat) : OwnF w B (.slice none 0 0) [] := ⟨World.ownsRow_nil w B _ _, by simp⟩

theorem OwnF.form {w : World} {B : Nat} {v : Value} {bs : List Nat} (h : OwnF w B v bs) : (v = .slice none 0 0 ∧ bs = []) ∨ ∃ g cap, v = .slice (some ⟨g, 0, none⟩) bs.length cap ∧ bs.length ≤ maxLen := by
  rcases h.1.2 with ⟨rfl, h0⟩ | ⟨g, cap, cur, rfl, hg, hh, hn, hm, hs, ht⟩
  · exact .inl ⟨rfl, List.length_eq_zero_iff.1 h0⟩
  · exact .inr ⟨g, cap, rfl, Nat.le_trans hn hm⟩

/-- An owned slice, one cell written. -/
theorem OwnF.put {w : World} {B g n cap : Nat} {bs : List Nat} (h : OwnF w B (.slice (some ⟨g, 0, none⟩) n cap) bs) (i : Nat) {r : Nat} (hr : r < 4294967296) : OwnF (w.setCell ⟨g, i, none⟩ (.float .f32 r)) B (.slice (some ⟨g, 0, none⟩) n cap) (bs.set i r) := by
  have hn : bs.length = n := by
    have := h.sl.len
    obtain ⟨a, c, e⟩ := this
    simp only [Value.slice.injEq] at e; omega
  subst hn
  refine ⟨?_, fun b hb => ?_⟩
  · have := (World.ownsRow.stored h.1 i (.float .f32 r)).1
    simpa [OwnF, List.map_set] using this
  · rcases List.mem_or_eq_of_mem_set hb with h1 | h1
    · exact h.2 b h1
    · omega

section
variable (P : Program) (w : World) (a : Addr) (m : Mode)
@[go_sem] theorem run_store_float (k : FloatKind) (b : Nat) : (store a (.float k b) m).run P w = stored P w a (.float k b) m := run_store P w a _ m rfl
end

/-- A block of three cells. -/
def Box3 (w : World) (b : Nat) (x y z : Value) (T : TypeId) : Prop := w.heap[b]? = some (.cells #[x, y, z] T (0, 0))

theorem Box3.below {w w' : World} {b : Nat} {x y z : Value} {T : TypeId} (h : Box3 w b x y z T) (hb : Below w.heap.size w w') : Box3 w' b x y z T := by unfold Box3 at *; rw [hb.block b (lt_of_block h)]; exact h

theorem Box3.cells {w : World} {b : Nat} {x y z : Value} {T : TypeId} (h : Box3 w b x y z T) : w.cell? ⟨b, 0, none⟩ = some x ∧ w.cell? ⟨b, 1, none⟩ = some y ∧ w.cell? ⟨b, 2, none⟩ = some z ∧ w.frozen? ⟨b, 0, none⟩ = false ∧ w.frozen? ⟨b, 1, none⟩ = false ∧ w.frozen? ⟨b, 2, none⟩ = false := by
  unfold Box3 at h; simp [World.cell?, World.frozen?, h]

theorem Box3.lt {w : World} {b : Nat} {x y z : Value} {T : TypeId} (h : Box3 w b x y z T) : b < w.heap.size := lt_of_block h

theorem Box3.set2 {w : World} {b : Nat} {x y z : Value} {T : TypeId} (h : Box3 w b x y z T) (z' : Value) : Box3 (w.setCell ⟨b, 2, none⟩ z') b x y z' T := by
  have hlt := lt_of_block h
  unfold Box3 at *
  have h' : w.heap[b] = .cells #[x, y, z] T (0, 0) := by simpa [Array.getElem?_eq_getElem hlt] using h
  simp only [World.setCell]
  rw [Array.getElem?_eq_getElem (by simpa using hlt), Array.getElem_modify_self, h']
  rfl

theorem Box3.grown {w w' : World} {b : Nat} {x y z : Value} {T : TypeId} {r : Option Nat} (h : Box3 w b x y z T) (hg : w.grownBy w' r) (hne : some b ≠ r) : Box3 w' b x y z T := by unfold Box3 at *; rw [hg.block b (lt_of_block h) hne]; exact h

theorem grown_setCell (w : World) (a : Addr) (u : Value) : w.grownBy (w.setCell a u) (some a.block) := by
  refine ⟨rfl, rfl, rfl, by simp [World.setCell], fun i hi hne => ?_⟩
  simp only [World.setCell, Array.getElem?_modify]
  rw [if_neg (fun e => hne (by rw [e]))]

theorem OwnF.set {w : World} {B : Nat} {v : Value} {bs : List Nat} (h : OwnF w B v bs) {a : Addr} (ha : a.block < B) (u : Value) : OwnF (w.setCell a u) B v bs := by
  refine h.grown (grown_setCell w a u) ?_
  cases hv : v.ownBlock with
  | none => exact .inl rfl
  | some k => right; intro e; have := (h.lt hv).1; injection e with e; omega

theorem heap_alloc_old (w : World) (o : Obj) {k : Nat} (h : k < w.heap.size) : (w.alloc o).heap[k]? = w.heap[k]? := Below.heap_alloc w o k h

theorem box_last (w : World) (x y z : Value) (T : TypeId) : Box3 (w.alloc (.cells #[x, y, z] T)) w.heap.size x y z T := by unfold Box3; exact heap_alloc_new w _

theorem box_first (w : World) (x y z : Value) (T : TypeId) (o : Obj) : Box3 ((w.alloc (.cells #[x, y, z] T)).alloc o) w.heap.size x y z T := by
  unfold Box3; rw [heap_alloc_old _ _ (by simp)]; exact heap_alloc_new w _

theorem box_second (w : World) (x y z : Value) (T : TypeId) (o : Obj) : Box3 ((w.alloc o).alloc (.cells #[x, y, z] T)) (w.heap.size + 1) x y z T := by
  unfold Box3
  have := heap_alloc_new (w.alloc o) (.cells #[x, y, z] T)
  simpa using this

theorem below_two (w : World) (o o' : Obj) : Below w.heap.size w ((w.alloc o).alloc o') := ((Below.refl _ _).alloc (Nat.le_refl _) _).alloc (by simp) _

end Go.Proofs.Ytkhoifgljalfcaa
