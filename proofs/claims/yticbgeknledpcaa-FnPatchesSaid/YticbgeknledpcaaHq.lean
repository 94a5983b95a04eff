/- A queue of numbers: a slice that is cut at its head and appended to. -/
import Derived.Test.YticbgeknledpcaaOi
import Derived.ArgAppend
namespace Go.Proofs.Yticbgeknledpcaa
open Go.RowKit
set_option maxRecDepth 100000
set_option linter.unusedVariables false
set_option linter.unusedSimpArgs false

structure QI (W : World) (B g off len cap : Nat) (xs : List Int) : Prop where
  lo : B ≤ g
  lt : g < W.heap.size
  ln : xs.length = len
  cells : ∀ j, j < len → W.cell? ⟨g, off + j, none⟩ = some (.int .i64 (xs.getD j 0))
  spare : ∀ j, j < cap → (W.cell? ⟨g, off + j, none⟩).isSome = true ∧ W.frozen? ⟨g, off + j, none⟩ = false
  capl : len ≤ cap
  capm : cap ≤ maxLen
theorem QI.below {W W' : World} {B g off len cap : Nat} {xs : List Int} (h : QI W B g off len cap xs) (hb : Below W.heap.size W W') : QI W' B g off len cap xs :=
  ⟨h.lo, Nat.lt_of_lt_of_le h.lt hb.size, h.ln, fun j hj => (hb.cell (p := ⟨g, off + j, none⟩) h.lt).trans (h.cells j hj), fun j hj => by
    have e1 := hb.cell (p := ⟨g, off + j, none⟩) h.lt
    have e2 : W'.frozen? ⟨g, off + j, none⟩ = W.frozen? ⟨g, off + j, none⟩ := World.frozen?_of_block (w := W) (hb.block g h.lt)
    rw [e1, e2]; exact h.spare j hj, h.capl, h.capm⟩
theorem QI.grown {W W' : World} {B g off len cap : Nat} {xs : List Int} {r : Option Nat} (h : QI W B g off len cap xs) (hg : W.grownBy W' r) (hne : some g ≠ r) : QI W' B g off len cap xs :=
  ⟨h.lo, Nat.lt_of_lt_of_le h.lt hg.size, h.ln, fun j hj => (World.cell?_of_block (hg.block g h.lt hne)).trans (h.cells j hj), fun j hj => by
    have e1 : W'.cell? ⟨g, off + j, none⟩ = W.cell? ⟨g, off + j, none⟩ := World.cell?_of_block (hg.block g h.lt hne)
    have e2 : W'.frozen? ⟨g, off + j, none⟩ = W.frozen? ⟨g, off + j, none⟩ := World.frozen?_of_block (w := W) (hg.block g h.lt hne)
    rw [e1, e2]; exact h.spare j hj, h.capl, h.capm⟩
theorem QI.tail {W : World} {B g off len cap : Nat} {x : Int} {xs : List Int} (h : QI W B g off (len + 1) cap (x :: xs)) : QI W B g (off + 1) len (cap - 1) xs :=
  ⟨h.lo, h.lt, by have := h.ln; simp at this; exact this, fun j hj => by
    have := h.cells (j + 1) (by omega)
    rw [show off + 1 + j = off + (j + 1) by omega]
    simpa using this, fun j hj => by rw [show off + 1 + j = off + (j + 1) by omega]; exact h.spare (j + 1) (by omega), by have := h.capl; omega, by have := h.capm; omega⟩
theorem QI.of_own {W : World} {B n cap g : Nat} {xs : List Int} (h : OwnI W B (.slice (some ⟨g, 0, none⟩) n cap) xs) : QI W B g 0 n cap xs := by
  have hl := h.len
  have hlt := h.lt (k := g) rfl
  have hc := fun j (hj : j < n) => h.cellAt j (by rw [hl.1]; exact hj)
  obtain ⟨h1, h2⟩ := h
  rcases h2 with ⟨h, _⟩ | ⟨g', cap', cur, e1, e2, e3, e4, e5, e6, e7⟩
  · cases h
  · simp only [Value.slice.injEq, Option.some.injEq, Addr.mk.injEq, and_true] at e1
    obtain ⟨rfl, e8, rfl⟩ := e1
    exact ⟨hlt.1, hlt.2, hl.1, fun j hj => by rw [Nat.zero_add]; exact hc j hj, fun j hj => by
      rw [Nat.zero_add]
      have hs : j < cur.size := by omega
      constructor
      · simp [World.cell?, e3, hs]
      · simp [World.frozen?, e3], hl.2.1, hl.2.2⟩

theorem cells_one (w : World) (b o : Nat) (v : Value) : w.setCells b o [v] = w.setCell ⟨b, o, none⟩ v := rfl

/-- A number at a queue's end. -/
theorem wpList_append_q {w : World} {ops : Array Oper} {rest : List Oper} {o : Oper} {a : Act} {Q : Exit → Act → World → Prop} (hg : o.guard = none) (s x : Operand)
    (hop : o.op = Op.call { callee := Callee.builtin Builtin.append, args := #[s, x], argTypes := #[39, 39] })
    (B g off len cap : Nat) (xs : List Int) (hs : a.eval s = .slice (some ⟨g, off, none⟩) len cap) (hq : QI w B g off len cap xs) (hB : B ≤ w.heap.size) (hl : len + 1 ≤ 100000)
    (ad : Addr) (c : Nat) (k : Int) (hx : a.eval x = .slice (some ad) 1 c) (hc : ∀ j u, [Value.int .i64 k][j]? = some u → w.cell? (ad.add j) = some u)
    (h : ∀ g2 off2 cap2 w', QI w' B g2 off2 (len + 1) cap2 (xs ++ [k]) → w.grownBy w' (some g) → (g2 = g ∨ w.heap.size ≤ g2) → wpList Try.prog ops Q rest (a.put o.dst (.slice (some ⟨g2, off2, none⟩) (len + 1) cap2)) w') :
    wpList Try.prog ops Q (o :: rest) a w := by
  obtain ⟨i0, hi0, hz0, hz1, hz2⟩ := info_parts info_i64
  have hln := hq.ln
  refine wpList_append_arg w hg s x 39 hop 2 i0 (.int .i64 0) 1 8 (by rfl) hi0 hz0 hz1 hz2 rfl (by decide) g off len cap (xs.map (Value.int .i64)) hs (by simp [hln])
    (fun j u hj => by
      rw [List.getElem?_map] at hj
      obtain ⟨z, hz, rfl⟩ := Option.map_eq_some_iff.1 hj
      obtain ⟨hjl, rfl⟩ := List.getElem?_eq_some_iff.1 hz
      have := hq.cells j (by omega)
      rw [List.getD_eq_getElem?_getD, List.getElem?_eq_getElem hjl] at this
      exact this)
    ad 1 c [.int .i64 k] hx (by rfl) hc (by simp [Value.oneCell'])
    (fun hr j hj => by
      have : j = 0 := by simp at hj; exact hj
      subst this
      have := hq.spare len (by omega)
      simpa using this)
    (by unfold maxLen; omega) (by omega) (fun hr => ?_) (fun hr v' w' hown hgr => ?_)
  · rw [cells_one, Nat.mul_one]
    have hne : ∀ {j : Nat}, ¬ j = len → (⟨g, off + len, none⟩ : Addr) ≠ ⟨g, off + j, none⟩ := fun hj q => by injection q with q1 q2; omega
    have hgr : w.grownBy (w.setCell ⟨g, off + len, none⟩ (.int .i64 k)) (some g) := grown_setCell _ _ _
    refine h g off cap _ ⟨hq.lo, by simpa using hq.lt, by simp [hln], fun j hj => ?_, fun j hj => ?_, hr, hq.capm⟩ hgr (.inl rfl)
    · by_cases e : j = len
      · subst e
        have hsp := (hq.spare j (by omega)).1
        rw [World.cell?_setCell_same' _ _ _ hsp, List.getD_eq_getElem?_getD, List.getElem?_append_right (by omega), hln]
        simp
      · rw [World.cell?_setCell_other (h := hne e), hq.cells j (by omega)]
        rw [List.getD_eq_getElem?_getD, List.getD_eq_getElem?_getD, List.getElem?_append_left (by omega)]
    · have := hq.spare j hj
      refine ⟨?_, by rw [World.frozen?_setCell]; exact this.2⟩
      by_cases e : j = len
      · subst e; rw [World.cell?_setCell_same' _ _ _ this.1]; rfl
      · rw [World.cell?_setCell_other (h := hne e)]; exact this.1
  · obtain ⟨g2, cap2, hv⟩ : ∃ g2 cap2, v' = .slice (some ⟨g2, 0, none⟩) (len + 1) cap2 := by
      rcases hown.2 with ⟨_, h0⟩ | ⟨g2, cap2, _, e, _⟩
      · omega
      · exact ⟨g2, cap2, e⟩
    subst hv
    have hO : OwnI w' w.heap.size (.slice (some ⟨g2, 0, none⟩) (len + 1) cap2) (xs ++ [k]) := by
      unfold OwnI
      rw [List.length_append, hln, List.map_append]
      exact hown
    have hQ := QI.of_own hO
    exact h g2 0 cap2 w' ⟨Nat.le_trans hB hQ.lo, hQ.lt, hQ.ln, hQ.cells, hQ.spare, hQ.capl, hQ.capm⟩ ⟨hgr.os, hgr.tape, hgr.output, hgr.size, fun k hk hne => hgr.block k hk (by simp)⟩ (.inr hQ.lo)

end Go.Proofs.Yticbgeknledpcaa
