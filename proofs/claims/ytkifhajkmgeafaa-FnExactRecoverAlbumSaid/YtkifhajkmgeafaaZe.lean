/- Albums in memory: a slice of pictures of one's own. -/
import Derived.Test.YtkifhajkmgeafaaZb
import Derived.Test.YtkifhajkmgeafaaBox
namespace Go.Proofs.Ytkifhajkmgeafaa
open Go.RowKit
set_option maxRecDepth 100000
set_option linter.unusedVariables false
set_option linter.unusedSimpArgs false

/-- A picture and where it lies. -/
structure PicX where
  p : PicB
  q : Nat
  c : Nat
def PicX.sl (x : PicX) : Value := .slice (some ⟨x.q, 0, none⟩) x.p.bs.length x.c
def PicX.cells (x : PicX) : List Value := [.int .i64 (x.p.wd : Int), .int .i64 (x.p.hi : Int), x.sl]
def pxCells (xs : List PicX) : List Value := xs.flatMap PicX.cells
theorem pxCells_len (xs : List PicX) : (pxCells xs).length = xs.length * 3 := by
  unfold pxCells
  induction xs with
  | nil => rfl
  | cons x xs ih => rw [List.flatMap_cons, List.length_append, ih, List.length_cons]; simp [PicX.cells]; omega
theorem pxCells_app (xs : List PicX) (x : PicX) : pxCells (xs ++ [x]) = pxCells xs ++ x.cells := by unfold pxCells; rw [List.flatMap_append]; simp
theorem pxCells_get : ∀ (xs : List PicX) (i : Nat) (h : i < xs.length), (pxCells xs)[3 * i]? = some (.int .i64 (xs[i].p.wd : Int)) ∧ (pxCells xs)[3 * i + 1]? = some (.int .i64 (xs[i].p.hi : Int)) ∧ (pxCells xs)[3 * i + 2]? = some xs[i].sl
  | [], i, h => absurd h (by simp)
  | x :: xs, 0, _ => ⟨rfl, rfl, rfl⟩
  | x :: xs, i + 1, h => by
    have ih := pxCells_get xs i (by simpa using h)
    have e : ∀ j, (pxCells (x :: xs))[3 * (i + 1) + j]? = (pxCells xs)[3 * i + j]? := fun j => by
      show (x.cells ++ pxCells xs)[_]? = _
      rw [List.getElem?_append_right (by simp [PicX.cells]; omega)]
      congr 1
      simp [PicX.cells]; omega
    exact ⟨by have := e 0; rw [Nat.add_zero, Nat.add_zero] at this; rw [this]; exact ih.1, by rw [e 1]; exact ih.2.1, by rw [e 2]; exact ih.2.2⟩

/-- A slice of pictures of one's own, each with greys of its own. -/
structure OwnA (w : World) (B : Nat) (v : Value) (xs : List PicX) : Prop where
  row : w.ownsRow B 41 3 v xs.length (pxCells xs)
  pic : ∀ x ∈ xs, OwnF w B x.sl x.p.bs ∧ x.p.ok
  ne : ∀ x ∈ xs, v.ownBlock ≠ some x.q
  nd : (xs.map PicX.q).Pairwise (· ≠ ·)
theorem OwnA.below {w w' : World} {B : Nat} {v : Value} {xs : List PicX} (h : OwnA w B v xs) (hb : Below w.heap.size w w') : OwnA w' B v xs :=
  ⟨h.row.kept (grown_below hb none) (by cases v.ownBlock <;> simp), fun x hx => ⟨(h.pic x hx).1.below hb, (h.pic x hx).2⟩, h.ne, h.nd⟩
theorem OwnA.mono {w : World} {B B' : Nat} {v : Value} {xs : List PicX} (h : OwnA w B v xs) (hB : B' ≤ B) : OwnA w B' v xs := by
  refine ⟨⟨h.row.1, ?_⟩, fun x hx => ⟨(h.pic x hx).1.mono hB, (h.pic x hx).2⟩, h.ne, h.nd⟩
  rcases h.row.2 with h1 | ⟨g, cap, cur, e, hg, r⟩
  · exact .inl h1
  · exact .inr ⟨g, cap, cur, e, Nat.le_trans hB hg, r⟩
theorem OwnA.nil (w : World) (B : Nat) : OwnA w B (.slice none 0 0) [] := ⟨World.ownsRow_nil w B _ _, by simp, by simp, by simp⟩
theorem OwnA.form {w : World} {B : Nat} {v : Value} {xs : List PicX} (h : OwnA w B v xs) : ∃ a c, v = .slice a xs.length c ∧ xs.length ≤ c ∧ c ≤ maxLen := by
  rcases h.row.2 with ⟨h1, h2⟩ | ⟨g, cap, cur, e, hg, hh, h3, h4, r⟩
  · exact ⟨none, 0, by rw [h1, h2], by omega, by unfold maxLen; omega⟩
  · exact ⟨_, cap, e, h3, h4⟩
theorem OwnA.set {w : World} {B : Nat} {v : Value} {xs : List PicX} (h : OwnA w B v xs) {a : Addr} (ha : a.block < B) (u : Value) : OwnA (w.setCell a u) B v xs := by
  refine ⟨h.row.kept (grown_setCell w a u) ?_, fun x hx => ⟨(h.pic x hx).1.set ha u, (h.pic x hx).2⟩, h.ne, h.nd⟩
  cases e : v.ownBlock with
  | none => exact .inl rfl
  | some k => exact .inr (by have := (h.row.lt k e).1; intro q; injection q with q; omega)
theorem OwnA.qlt {w : World} {B : Nat} {v : Value} {xs : List PicX} (h : OwnA w B v xs) {x : PicX} (hx : x ∈ xs) : B ≤ x.q ∧ x.q < w.heap.size := (h.pic x hx).1.lt (k := x.q) rfl
/-- The cells of a picture in its album. -/
theorem OwnA.at_ {w : World} {B : Nat} {v : Value} {xs : List PicX} (h : OwnA w B v xs) (i : Nat) (hi : i < xs.length) : ∃ g c, v = .slice (some ⟨g, 0, none⟩) xs.length c ∧ g < w.heap.size ∧
    w.cell? ⟨g, i * 3, none⟩ = some (.int .i64 (xs[i].p.wd : Int)) ∧ w.cell? ⟨g, i * 3 + 1, none⟩ = some (.int .i64 (xs[i].p.hi : Int)) ∧ w.cell? ⟨g, i * 3 + 2, none⟩ = some xs[i].sl := by
  obtain ⟨g0, g1, g2⟩ := pxCells_get xs i hi
  rw [Nat.mul_comm 3 i] at g0 g1 g2
  rcases h.row.2 with ⟨h1, h2⟩ | ⟨g, cap, cur, e, hg, hh, h3, h4, r⟩
  · omega
  · have hc := h.row.cells (g := g) (by rw [e]; rfl)
    have z : ∀ j, (⟨g, 0, none⟩ : Addr).add j = ⟨g, j, none⟩ := fun j => by simp [Addr.add]; try omega
    refine ⟨g, cap, e, (h.row.lt g (by rw [e]; rfl)).2, ?_, ?_, ?_⟩
    · have := hc _ _ g0; rwa [z] at this
    · have := hc _ _ g1; rwa [z] at this
    · have := hc _ _ g2; rwa [z] at this

/-- .. told by its own words. -/
theorem OwnA.atk {w : World} {B : Nat} {sa : Option Addr} {k sc : Nat} {xs : List PicX} (h : OwnA w B (.slice sa k sc) xs) (hk : xs.length = k) (i : Nat) (hi : i < k) : ∃ (g : Nat) (x : PicX), x ∈ xs ∧ xs[i]? = some x ∧ sa = some ⟨g, 0, none⟩ ∧ g < w.heap.size ∧
    w.cell? ⟨g, i * 3, none⟩ = some (.int .i64 (x.p.wd : Int)) ∧ w.cell? ⟨g, i * 3 + 1, none⟩ = some (.int .i64 (x.p.hi : Int)) ∧ w.cell? ⟨g, i * 3 + 2, none⟩ = some x.sl := by
  subst hk
  obtain ⟨g, c, e, h1, h2, h3, h4⟩ := h.at_ i hi
  injection e with e1 e2 e3
  exact ⟨g, xs[i], List.getElem_mem _, List.getElem?_eq_getElem hi, e1, h1, h2, h3, h4⟩

/-- An album that is being made: its slice in a box. -/
structure AccA (w wr : World) (lb : Nat) (v : Value) (xs : List PicX) : Prop where
  bel : Below w.heap.size w wr
  box : BoxN wr lb #[v] 26
  own : OwnA wr w.heap.size v xs
  ne : some lb ≠ v.ownBlock
  nq : ∀ x ∈ xs, x.q ≠ lb
  lbf : w.heap.size ≤ lb
theorem AccA.below {w wr w' : World} {lb : Nat} {v : Value} {xs : List PicX} (h : AccA w wr lb v xs) (hb : Below wr.heap.size wr w') : AccA w w' lb v xs :=
  ⟨h.bel.trans (hb.mono h.bel.size), h.box.below hb, h.own.below hb, h.ne, h.nq, h.lbf⟩
/-- A picture of one's own is appended. -/
theorem AccA.step {w wr w1 w2 : World} {lb : Nat} {v : Value} {xs : List PicX} {x : PicX} {T : TypeId} {gg cap : Nat} (h : AccA w wr lb v xs)
    (hb : Below wr.heap.size wr w1) (hx : OwnF w1 wr.heap.size x.sl x.p.bs) (hok : x.p.ok)
    (hown : w2.ownsRow w.heap.size 41 3 (.slice (some ⟨gg, 0, none⟩) (xs.length + 1) cap) (xs.length + 1) (pxCells xs ++ x.cells))
    (hg : (w1.alloc (.cells x.cells.toArray T)).grownBy w2 v.ownBlock) (hat : v.ownBlock = some gg ∨ gg = w1.heap.size + 1) :
    AccA w (w2.setCell ⟨lb, 0, none⟩ (.slice (some ⟨gg, 0, none⟩) (xs.length + 1) cap)) lb (.slice (some ⟨gg, 0, none⟩) (xs.length + 1) cap) (xs ++ [x]) := by
  have hal : Below w1.heap.size w1 (w1.alloc (.cells x.cells.toArray T)) := (Below.refl _ _).alloc (Nat.le_refl _) _
  have hlt := h.box.lt
  have s1 : wr.heap.size ≤ w1.heap.size := hb.size
  have hxq := hx.lt (k := x.q) rfl
  have hgg : gg ≠ lb := by
    rcases hat with e | e
    · intro q; exact h.ne (by rw [e, q])
    · omega
  have hgv : ∀ k, v.ownBlock = some k → k < wr.heap.size := fun k hk => (h.own.row.lt k hk).2
  have hgq : ∀ y ∈ xs, gg ≠ y.q := fun y hy e => by
    have := (h.own.qlt hy).2
    rcases hat with e2 | e2
    · exact h.own.ne y hy (by rw [e2, e])
    · omega
  have hgx : gg ≠ x.q := fun e => by
    rcases hat with e2 | e2
    · have := hgv gg e2; omega
    · omega
  have b2 : Below w.heap.size w w2 := ((h.bel.trans (hb.mono h.bel.size)).trans (hal.mono (Nat.le_trans h.bel.size s1))).grown hg (by simp; have := h.bel.size; omega) (fun k hk => by have := (h.own.row.lt k hk).1; omega)
  have hset := grown_setCell w2 ⟨lb, 0, none⟩ (.slice (some ⟨gg, 0, none⟩) (xs.length + 1) cap)
  refine ⟨b2.setCell h.lbf _, ?_, ⟨?_, ?_, ?_, ?_⟩, by simp [Value.ownBlock]; exact fun e => hgg e.symm, ?_, h.lbf⟩
  · have := (((h.box.below hb).below hal).grown hg h.ne).set 0 (.slice (some ⟨gg, 0, none⟩) (xs.length + 1) cap)
    simpa using this
  · have k := hown.kept hset (.inr (by simp [Value.ownBlock]; exact hgg))
    rw [List.length_append, List.length_singleton, pxCells_app]
    exact k
  · intro y hy
    rcases List.mem_append.1 hy with hy | hy
    · have hq := h.own.ne y hy
      have h1 := ((((h.own.pic y hy).1.below hb).below hal).grown hg (.inr (by show some y.q ≠ _; exact fun e => hq e.symm))).grown hset (.inr (by show some y.q ≠ some lb; intro e; injection e with e; exact h.nq y hy e))
      exact ⟨h1, (h.own.pic y hy).2⟩
    · rw [List.mem_singleton] at hy; subst hy
      have h1 := (((hx.below hal).grown hg (.inr (by show some y.q ≠ _; intro e; have := hgv y.q e.symm; omega))).grown hset (.inr (by show some y.q ≠ some lb; intro e; injection e with e; omega))).mono h.bel.size
      exact ⟨h1, hok⟩
  · intro y hy
    rcases List.mem_append.1 hy with hy | hy
    · intro e; simp only [Value.ownBlock, Option.some.injEq] at e; exact hgq y hy e
    · rw [List.mem_singleton] at hy; subst hy
      intro e; simp only [Value.ownBlock, Option.some.injEq] at e; exact hgx e
  · rw [List.map_append, List.map_singleton, List.pairwise_append]
    refine ⟨h.own.nd, by simp, fun a ha b hb => ?_⟩
    rw [List.mem_singleton] at hb; subst hb
    obtain ⟨y, hy, rfl⟩ := List.mem_map.1 ha
    have := (h.own.qlt hy).2
    omega
  · intro y hy
    rcases List.mem_append.1 hy with hy | hy
    · exact h.nq y hy
    · rw [List.mem_singleton] at hy; subst hy; omega

theorem AccA.stepk {w wr w1 w2 : World} {lb k : Nat} {v : Value} {xs : List PicX} {x : PicX} {T : TypeId} {gg cap : Nat} (h : AccA w wr lb v xs) (hk : xs.length = k)
    (hb : Below wr.heap.size wr w1) (hx : OwnF w1 wr.heap.size x.sl x.p.bs) (hok : x.p.ok) {cs : List Value} (hcs : x.cells = cs)
    (hown : w2.ownsRow w.heap.size 41 3 (.slice (some ⟨gg, 0, none⟩) (k + 1) cap) (k + 1) (pxCells xs ++ cs))
    (hg : (w1.alloc (.cells cs.toArray T)).grownBy w2 v.ownBlock) (hat : v.ownBlock = some gg ∨ gg = w1.heap.size + 1) :
    AccA w (w2.setCell ⟨lb, 0, none⟩ (.slice (some ⟨gg, 0, none⟩) (k + 1) cap)) lb (.slice (some ⟨gg, 0, none⟩) (k + 1) cap) (xs ++ [x]) := by
  subst hk hcs
  exact h.step hb hx hok hown hg hat
theorem cells_new3 (w : World) (a b c : Value) (T : TypeId) : ∀ j u, [a, b, c][j]? = some u → (w.alloc (.cells #[a, b, c] T)).cell? ((⟨w.heap.size, 0, none⟩ : Addr).add j) = some u := by
  intro j u h
  have hb := BoxN.last w #[a, b, c] T
  have z : (⟨w.heap.size, 0, none⟩ : Addr).add j = ⟨w.heap.size, j, none⟩ := by simp [Addr.add]; try omega
  rw [z, hb.cell j]
  rw [← h]; simp

end Go.Proofs.Ytkifhajkmgeafaa
