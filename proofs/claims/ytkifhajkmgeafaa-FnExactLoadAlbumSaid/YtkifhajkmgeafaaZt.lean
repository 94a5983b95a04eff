/- The exact laws' functions on albums: marks. -/
import Derived.Test.YtkifhajkmgeafaaZe
import Derived.Test.YtkifhajkmgeafaaDe
namespace Go.Proofs.Ytkifhajkmgeafaa
open Go.RowKit Ieee
set_option maxRecDepth 100000
set_option linter.unusedVariables false
set_option linter.unusedSimpArgs false

/-- A slice of pictures of one's own, whatever they hold. -/
structure OwnM (w : World) (B : Nat) (v : Value) (xs : List PicX) : Prop where
  row : w.ownsRow B 41 3 v xs.length (pxCells xs)
  pic : ∀ x ∈ xs, OwnF w B x.sl x.p.bs
  ne : ∀ x ∈ xs, v.ownBlock ≠ some x.q
  nd : (xs.map PicX.q).Pairwise (· ≠ ·)
theorem OwnA.om {w : World} {B : Nat} {v : Value} {xs : List PicX} (h : OwnA w B v xs) : OwnM w B v xs := ⟨h.row, fun x hx => (h.pic x hx).1, h.ne, h.nd⟩
theorem OwnM.below {w w' : World} {B : Nat} {v : Value} {xs : List PicX} (h : OwnM w B v xs) (hb : Below w.heap.size w w') : OwnM w' B v xs :=
  ⟨h.row.kept (grown_below hb none) (by cases v.ownBlock <;> simp), fun x hx => (h.pic x hx).below hb, h.ne, h.nd⟩
/-- The cells of a picture in its album. -/
theorem OwnM.atk {w : World} {B : Nat} {sa : Option Addr} {k sc : Nat} {xs : List PicX} (h : OwnM w B (.slice sa k sc) xs) (hk : xs.length = k) (i : Nat) (hi : i < k) : ∃ (g : Nat) (x : PicX), x ∈ xs ∧ xs[i]? = some x ∧ sa = some ⟨g, 0, none⟩ ∧ B ≤ g ∧ g < w.heap.size ∧
    w.cell? ⟨g, i * 3, none⟩ = some (.int .i64 (x.p.wd : Int)) ∧ w.cell? ⟨g, i * 3 + 1, none⟩ = some (.int .i64 (x.p.hi : Int)) ∧ w.cell? ⟨g, i * 3 + 2, none⟩ = some x.sl := by
  subst hk
  obtain ⟨g0, g1, g2⟩ := pxCells_get xs i hi
  rw [Nat.mul_comm 3 i] at g0 g1 g2
  rcases h.row.2 with ⟨h1, h2⟩ | ⟨g, cap, cur, e, hg, hh, h3, h4, r⟩
  · omega
  · have hc := h.row.cells (g := g) (by rw [e]; rfl)
    have z : ∀ j, (⟨g, 0, none⟩ : Addr).add j = ⟨g, j, none⟩ := fun j => by simp [Addr.add]; try omega
    injection e with e1 e2 e3
    refine ⟨g, xs[i], List.getElem_mem _, List.getElem?_eq_getElem hi, e1, hg, (h.row.lt g (by rw [e1]; rfl)).2, ?_, ?_, ?_⟩
    · have := hc _ _ g0; rwa [z] at this
    · have := hc _ _ g1; rwa [z] at this
    · have := hc _ _ g2; rwa [z] at this

theorem pxCells_set : ∀ (xs : List PicX) (i : Nat) (hi : i < xs.length) (x : PicX), x.q = xs[i].q → x.c = xs[i].c → x.p.bs.length = xs[i].p.bs.length → pxCells (xs.set i x) = ((pxCells xs).set (i * 3) (.int .i64 (x.p.wd : Int))).set (i * 3 + 1) (.int .i64 (x.p.hi : Int))
  | [], i, hi, _, _, _, _ => absurd hi (by simp)
  | y :: ys, 0, _, x, h1, h2, h3 => by
    have e : x.sl = y.sl := by unfold PicX.sl; rw [h1, h2, h3]; rfl
    show x.cells ++ pxCells ys = (y.cells ++ pxCells ys |>.set 0 _).set 1 _
    unfold PicX.cells
    rw [e]; rfl
  | y :: ys, i + 1, hi, x, h1, h2, h3 => by
    have ih := pxCells_set ys i (by simpa using hi) x h1 h2 h3
    have e : ∀ (l : List Value) (j : Nat) (u : Value), (y.cells ++ l).set (3 + j) u = y.cells ++ l.set j u := fun l j u => by
      rw [List.set_append_right _ _ (by simp [PicX.cells])]; congr 2; simp [PicX.cells]
    show y.cells ++ pxCells (ys.set i x) = ((y.cells ++ pxCells ys).set ((i + 1) * 3) _).set ((i + 1) * 3 + 1) _
    rw [ih, show (i + 1) * 3 = 3 + i * 3 by omega, show 3 + i * 3 + 1 = 3 + (i * 3 + 1) by omega, e, e]

/-- A picture with marks. -/
def mkP (k : Nat) (x : PicX) : PicX := ⟨⟨k, k + 1, marks (k + 2) x.p.bs.length⟩, x.q, x.c⟩
theorem mkP_len (k : Nat) (x : PicX) : (mkP k x).p.bs.length = x.p.bs.length := by unfold mkP; rw [marks_length]
def endK (k : Nat) (xs : List PicX) : Nat := xs.foldl (fun a x => a + 2 + x.p.bs.length) k
theorem endK_app (k : Nat) (xs ys : List PicX) : endK k (xs ++ ys) = endK (endK k xs) ys := by unfold endK; rw [List.foldl_append]
def mkL : Nat → List PicX → List PicX
  | _, [] => []
  | k, x :: xs => mkP k x :: mkL (k + 2 + x.p.bs.length) xs
theorem mkL_length : ∀ (xs : List PicX) (k : Nat), (mkL k xs).length = xs.length
  | [], _ => rfl
  | _ :: xs, k => by unfold mkL; rw [List.length_cons, List.length_cons, mkL_length]
theorem mkL_app : ∀ (xs : List PicX) (y : PicX) (k : Nat), mkL k (xs ++ [y]) = mkL k xs ++ [mkP (endK k xs) y]
  | [], y, k => rfl
  | x :: xs, y, k => by
    show mkP k x :: mkL _ (xs ++ [y]) = mkP k x :: (mkL _ xs ++ [mkP (endK k (x :: xs)) y])
    rw [mkL_app]; rfl
theorem endK_le : ∀ (xs : List PicX) (k : Nat), (∀ x ∈ xs, x.p.bs.length ≤ 256) → endK k xs ≤ k + 258 * xs.length
  | [], k, _ => by simp [endK]
  | x :: xs, k, h => by
    have h1 := h x (by simp)
    have h2 := endK_le xs (k + 2 + x.p.bs.length) fun y hy => h y (by simp [hy])
    show endK (k + 2 + x.p.bs.length) xs ≤ _
    rw [List.length_cons]; omega
theorem mkL_get {xs : List PicX} {k i : Nat} {x : PicX} (h : xs[i]? = some x) : (mkL k xs)[i]? = some (mkP (endK k (xs.take i)) x) := by
  induction xs generalizing k i with
  | nil => simp at h
  | cons y ys ih =>
    cases i with
    | zero => simp at h; subst h; rfl
    | succ i =>
      have h' : ys[i]? = some x := by simpa using h
      show (mkL _ ys)[i]? = _
      rw [ih h']; rfl

/-- The album, marked up to a picture. -/
def mkT (k i : Nat) (xs : List PicX) : List PicX := mkL k (xs.take i) ++ xs.drop i
theorem mkT_zero (k : Nat) (xs : List PicX) : mkT k 0 xs = xs := by unfold mkT; simp [mkL]
theorem mkT_all (k : Nat) (xs : List PicX) : mkT k xs.length xs = mkL k xs := by unfold mkT; simp
theorem mkT_len (k i : Nat) (xs : List PicX) : (mkT k i xs).length = xs.length := by unfold mkT; rw [List.length_append, mkL_length, ← List.length_append, List.take_append_drop]
theorem mkT_get {k i : Nat} {xs : List PicX} {x : PicX} (h : xs[i]? = some x) : (mkT k i xs)[i]? = some x := by
  have hi : i < xs.length := (List.getElem?_eq_some_iff.1 h).1
  unfold mkT
  rw [List.getElem?_append_right (by rw [mkL_length, List.length_take]; omega), mkL_length, List.length_take, Nat.min_eq_left (by omega), Nat.sub_self, List.getElem?_drop]
  exact h
theorem mkT_succ {k i : Nat} {xs : List PicX} {x : PicX} (h : xs[i]? = some x) : mkT k (i + 1) xs = (mkT k i xs).set i (mkP (endK k (xs.take i)) x) := by
  have hi : i < xs.length := (List.getElem?_eq_some_iff.1 h).1
  have hx : xs[i] = x := by rw [List.getElem?_eq_getElem hi] at h; injection h
  unfold mkT
  have l1 : (mkL k (xs.take i)).length = i := by rw [mkL_length, List.length_take]; omega
  rw [List.set_append_right _ _ (by omega), l1, Nat.sub_self, List.take_succ_eq_append_getElem hi, hx, mkL_app, List.append_assoc]
  congr 1
  rw [List.drop_eq_getElem_cons hi]; rfl
theorem endK_succ {k i : Nat} {xs : List PicX} {x : PicX} (h : xs[i]? = some x) : endK k (xs.take (i + 1)) = endK k (xs.take i) + 2 + x.p.bs.length := by
  have hi : i < xs.length := (List.getElem?_eq_some_iff.1 h).1
  have hx : xs[i] = x := by rw [List.getElem?_eq_getElem hi] at h; injection h
  rw [List.take_succ_eq_append_getElem hi, hx, endK_app]; rfl

/-- One picture is marked. -/
theorem OwnM.mark {w w1 w2 : World} {B g k c i : Nat} {xs : List PicX} {x : PicX} {wd hi : Nat} {ms : List Nat} (h : OwnM w B (.slice (some ⟨g, 0, none⟩) k c) xs) (hk : xs.length = k) (hi_ : xs[i]? = some x) (hml : ms.length = x.p.bs.length)
    (h1 : w1 = (w.setCell ⟨g, i * 3, none⟩ (.int .i64 (wd : Int))).setCell ⟨g, i * 3 + 1, none⟩ (.int .i64 (hi : Int)))
    (ho : OwnF w2 B x.sl ms) (hg : w1.grownBy w2 (some x.q)) : OwnM w2 B (.slice (some ⟨g, 0, none⟩) k c) (xs.set i ⟨⟨wd, hi, ms⟩, x.q, x.c⟩) := by
  subst hk
  have hlt : i < xs.length := (List.getElem?_eq_some_iff.1 hi_).1
  have hx : xs[i] = x := by rw [List.getElem?_eq_getElem hlt] at hi_; injection hi_
  have hxm : x ∈ xs := hx ▸ List.getElem_mem hlt
  have hgq : g ≠ x.q := fun e => h.ne x hxm (by rw [e]; rfl)
  have hgB := h.row.lt g rfl
  have r1 := World.ownsRow.stored (h.row) (i * 3) (.int .i64 (wd : Int))
  have r2 := World.ownsRow.stored r1.1 (i * 3 + 1) (.int .i64 (hi : Int))
  rw [← h1] at r2
  have hw1 : w.grownBy w1 (some g) := by rw [h1]; exact grown_trans2 (grown_setCell _ _ _) (grown_setCell _ _ _)
  have r3 := r2.1.kept hg (.inr (by simp [Value.ownBlock]; exact hgq))
  rw [← pxCells_set xs i hlt ⟨⟨wd, hi, ms⟩, x.q, x.c⟩ (by rw [hx]) (by rw [hx]) (by rw [hx]; exact hml)] at r3
  have hq : (xs.set i ⟨⟨wd, hi, ms⟩, x.q, x.c⟩).map PicX.q = xs.map PicX.q := by
    rw [List.map_set]
    have : x.q = (xs.map PicX.q)[i]'(by simpa using hlt) := by rw [List.getElem_map, hx]
    show (xs.map PicX.q).set i x.q = _
    rw [this, List.set_getElem_self]
  refine ⟨by rw [List.length_set]; exact r3, fun y hy => ?_, fun y hy => ?_, by rw [hq]; exact h.nd⟩
  · obtain ⟨j, hj, rfl⟩ := List.getElem_of_mem hy
    rw [List.length_set] at hj
    by_cases hji : j = i
    · subst hji
      rw [List.getElem_set_self]
      have : (⟨⟨wd, hi, ms⟩, x.q, x.c⟩ : PicX).sl = x.sl := by unfold PicX.sl; rw [hml]
      rw [this]; exact ho
    · rw [List.getElem_set_ne (by omega)]
      have hne : xs[j].q ≠ x.q := by
        have hp := List.pairwise_iff_getElem.1 h.nd
        rw [← hx]
        rcases Nat.lt_or_gt_of_ne hji with hl | hl
        · have := hp j i (by simpa using hj) (by simpa using hlt) hl
          rwa [List.getElem_map, List.getElem_map] at this
        · have := hp i j (by simpa using hlt) (by simpa using hj) hl
          rw [List.getElem_map, List.getElem_map] at this
          exact fun e => this e.symm
      have hp := h.pic xs[j] (List.getElem_mem hj)
      have hne2 := h.ne xs[j] (List.getElem_mem hj)
      exact (hp.grown hw1 (.inr (by show some xs[j].q ≠ some g; intro e; exact hne2 (by rw [e]; rfl)))).grown hg (.inr (by show some xs[j].q ≠ some x.q; intro e; injection e with e; exact hne e))
  · have : some y.q ∈ (xs.map PicX.q).map some := by
      rw [← hq, List.map_map]; exact List.mem_map.2 ⟨y, hy, rfl⟩
    rw [List.map_map] at this
    obtain ⟨z, hz, e⟩ := List.mem_map.1 this
    intro e2; exact h.ne z hz (e2.trans e.symm)

end Go.Proofs.Ytkifhajkmgeafaa
