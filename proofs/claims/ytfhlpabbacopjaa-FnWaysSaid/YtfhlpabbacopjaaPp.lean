/- The plain law of paths: volumes that are told along a direction; no program in sight. -/
import Derived.Below
namespace Go.Proofs.Ytfhlpabbacopjaa
set_option linter.unusedVariables false

/-- The least of some numbers. -/
def minL : List Int → Int
  | [] => 0
  | x :: xs => xs.foldl (fun o y => if y < o then y else o) x

theorem foldmin_le (xs : List Int) (o : Int) : xs.foldl (fun o y => if y < o then y else o) o ≤ o := by
  induction xs generalizing o with
  | nil => exact Int.le_refl _
  | cons x xs ih =>
    rw [List.foldl_cons]
    exact Int.le_trans (ih _) (by split <;> omega)
theorem foldmin_mem (xs : List Int) (o : Int) : xs.foldl (fun o y => if y < o then y else o) o = o ∨ xs.foldl (fun o y => if y < o then y else o) o ∈ xs := by
  induction xs generalizing o with
  | nil => exact .inl rfl
  | cons x xs ih =>
    rw [List.foldl_cons]
    rcases ih (if x < o then x else o) with h | h
    · rw [h]; split
      · exact .inr (List.mem_cons_self)
      · exact .inl rfl
    · exact .inr (List.mem_cons_of_mem _ h)
theorem foldmin_le_mem (xs : List Int) (o x : Int) (h : x ∈ xs) : xs.foldl (fun o y => if y < o then y else o) o ≤ x := by
  induction xs generalizing o with
  | nil => cases h
  | cons z xs ih =>
    rw [List.foldl_cons]
    rcases List.mem_cons.1 h with rfl | h
    · exact Int.le_trans (foldmin_le xs _) (by split <;> omega)
    · exact ih _ h
theorem minL_le {l : List Int} {x : Int} (h : x ∈ l) : minL l ≤ x := by
  cases l with
  | nil => cases h
  | cons a l =>
    rcases List.mem_cons.1 h with rfl | h
    · exact foldmin_le l x
    · exact foldmin_le_mem l a x h
theorem minL_mem {l : List Int} (h : l ≠ []) : minL l ∈ l := by
  cases l with
  | nil => exact absurd rfl h
  | cons a l =>
    rcases foldmin_mem l a with e | e
    · show l.foldl _ a ∈ _
      rw [e]; exact List.mem_cons_self
    · exact List.mem_cons_of_mem _ e
theorem minL_unique {l : List Int} {m : Int} (h : m ∈ l) (hl : ∀ x ∈ l, m ≤ x) : minL l = m := by
  have h1 := minL_le h
  have h2 := hl _ (minL_mem (by intro e; rw [e] at h; cases h))
  omega
theorem minL_map (l : List Int) (c : Int) (hc : 0 ≤ c) (h : l ≠ []) : minL (l.map (c * ·)) = c * minL l := by
  refine minL_unique (List.mem_map.2 ⟨_, minL_mem h, rfl⟩) fun x hx => ?_
  obtain ⟨y, hy, rfl⟩ := List.mem_map.1 hx
  exact Int.mul_le_mul_of_nonneg_left (minL_le hy) hc

/-- What can come before: the same disparity, one less, one more, any. -/
def jumpC (b : List Int) (one more : Int) (d : Nat) : List Int :=
  [b.getD d 0] ++ (if 0 < d then [b.getD (d - 1) 0 + one] else []) ++ (if d + 1 < b.length then [b.getD (d + 1) 0 + one] else []) ++ [more + minL b]
def jumpAt (b : List Int) (one more : Int) (d : Nat) : Int := minL (jumpC b one more d)
/-- What it costs to come to each disparity. -/
def jumpI (b : List Int) (one more : Int) : List Int := (List.range b.length).map (jumpAt b one more)
theorem jumpC_ne (b : List Int) (one more : Int) (d : Nat) : jumpC b one more d ≠ [] := by unfold jumpC; simp

theorem getD_mem {b : List Int} {d : Nat} (h : d < b.length) : b.getD d 0 ∈ b := by
  rw [List.getD_eq_getElem?_getD, List.getElem?_eq_getElem h]; exact List.getElem_mem h

theorem jumpAt_le_own (b : List Int) (one more : Int) (d : Nat) : jumpAt b one more d ≤ b.getD d 0 := minL_le (by unfold jumpC; simp)
theorem jumpAt_le_more (b : List Int) (one more : Int) (d : Nat) : jumpAt b one more d ≤ more + minL b := minL_le (by unfold jumpC; simp)
theorem jumpAt_ge {b : List Int} {one more : Int} {d : Nat} (h1 : 0 ≤ one) (h2 : 0 ≤ more) (hd : d < b.length) : minL b ≤ jumpAt b one more d := by
  have hm := minL_mem (jumpC_ne b one more d)
  unfold jumpAt
  generalize minL (jumpC b one more d) = z at hm
  unfold jumpC at hm
  simp only [List.mem_append, List.mem_singleton] at hm
  rcases hm with ((h | h) | h) | h
  · rw [h]; exact minL_le (getD_mem hd)
  · split at h
    · simp only [List.mem_singleton] at h
      have := minL_le (getD_mem (b := b) (d := d - 1) (by omega)); omega
    · cases h
  · split at h
    · simp only [List.mem_singleton] at h
      have := minL_le (getD_mem (b := b) (d := d + 1) (by assumption)); omega
    · cases h
  · omega

theorem getD_map_mul (b : List Int) (c : Int) (d : Nat) : (b.map (c * ·)).getD d 0 = c * b.getD d 0 := by
  rw [List.getD_eq_getElem?_getD, List.getD_eq_getElem?_getD, List.getElem?_map]
  cases b[d]? <;> simp
theorem jumpAt_scale (b : List Int) (one more c : Int) (hc : 0 ≤ c) (hb : b ≠ []) (d : Nat) : jumpAt (b.map (c * ·)) (c * one) (c * more) d = c * jumpAt b one more d := by
  unfold jumpAt
  rw [← minL_map _ _ hc (jumpC_ne b one more d)]
  congr 1
  unfold jumpC
  rw [List.length_map, minL_map b c hc hb, getD_map_mul, getD_map_mul, getD_map_mul]
  simp only [List.map_append, List.map_cons, List.map_nil, Int.mul_add]
  congr 2
  · congr 1
    split <;> simp [Int.mul_add]
  · split <;> simp [Int.mul_add]

/-- A cell's costs along a path. -/
def pathF (one more : Int) (own b : List Int) : List Int := (List.range own.length).map fun d => own.getD d 0 + (jumpAt b one more d - minL b)
theorem pathF_length (one more : Int) (own b : List Int) : (pathF one more own b).length = own.length := by simp [pathF]
theorem getD_range_map (n : Nat) (f : Nat → Int) (d : Nat) (h : d < n) : ((List.range n).map f).getD d 0 = f d := by
  rw [List.getD_eq_getElem?_getD, List.getElem?_map, List.getElem?_range h]; rfl
theorem pathF_get (one more : Int) (own b : List Int) (d : Nat) (h : d < own.length) : (pathF one more own b).getD d 0 = own.getD d 0 + (jumpAt b one more d - minL b) := getD_range_map _ _ _ h
theorem ext_getD {a b : List Int} (h : a.length = b.length) (hd : ∀ d, d < a.length → a.getD d 0 = b.getD d 0) : a = b := by
  apply List.ext_getElem h
  intro i h1 h2
  have := hd i h1
  rwa [List.getD_eq_getElem?_getD, List.getD_eq_getElem?_getD, List.getElem?_eq_getElem h1, List.getElem?_eq_getElem h2] at this
theorem pathF_scale (one more c : Int) (hc : 0 ≤ c) (own b : List Int) (hb : b ≠ []) : pathF (c * one) (c * more) (own.map (c * ·)) (b.map (c * ·)) = (pathF one more own b).map (c * ·) := by
  apply ext_getD
  · simp [pathF]
  · intro d hd
    have hd' : d < own.length := by simpa [pathF] using hd
    rw [pathF_get _ _ _ _ _ (by simpa using hd'), getD_map_mul, getD_map_mul, pathF_get _ _ _ _ _ hd', jumpAt_scale b one more c hc hb, minL_map b c hc hb, ← Int.mul_sub, ← Int.mul_add]
theorem pathF_bounds {one more : Int} (h1 : 0 ≤ one) (h2 : 0 ≤ more) {own b : List Int} (hl : own.length = b.length) {d : Nat} (hd : d < own.length) : own.getD d 0 ≤ (pathF one more own b).getD d 0 ∧ (pathF one more own b).getD d 0 ≤ own.getD d 0 + more := by
  rw [pathF_get _ _ _ _ _ hd]
  have a := jumpAt_ge (b := b) h1 h2 (d := d) (by omega)
  have c := jumpAt_le_more b one more d
  omega

/-- Is a place in a field? -/
def insI (x y : Int) (wd hi : Nat) : Prop := 0 ≤ x ∧ x < wd ∧ 0 ≤ y ∧ y < hi
instance (x y : Int) (wd hi : Nat) : Decidable (insI x y wd hi) := by unfold insI; infer_instance

/-- A volume that is told along a direction: of the costs of a cell, and of the cell before in the result. -/
def IsAlong (F : Int → Int → List Int → List Int → List Int) (own : Int → Int → List Int) (dx dy : Int) (wd hi : Nat) (P : Int → Int → List Int) : Prop :=
  ∀ x y, insI x y wd hi → P x y = if insI (x - dx) (y - dy) wd hi then F x y (own x y) (P (x - dx) (y - dy)) else own x y

/-- How many cells lie before one, at most. -/
def stepsI (dx dy : Int) (wd hi : Nat) (x y : Int) : Nat :=
  if dy = 1 then y.toNat else if dy = -1 then (hi - 1 - y).toNat else if dx = 1 then x.toNat else (wd - 1 - x).toNat
def isDir (dx dy : Int) : Prop := (dx = 1 ∨ dx = -1 ∨ dx = 0) ∧ (dy = 1 ∨ dy = -1 ∨ dy = 0) ∧ ¬ (dx = 0 ∧ dy = 0)
theorem steps_lt {dx dy : Int} {wd hi : Nat} {x y : Int} (hd : isDir dx dy) (h : insI x y wd hi) (hp : insI (x - dx) (y - dy) wd hi) : stepsI dx dy wd hi (x - dx) (y - dy) < stepsI dx dy wd hi x y := by
  unfold insI at *
  obtain ⟨h1, h2, h3⟩ := hd
  unfold stepsI
  rcases h2 with rfl | rfl | rfl
  · simp; omega
  · simp; omega
  · rcases h1 with rfl | rfl | rfl
    · simp; omega
    · simp; omega
    · exact absurd ⟨rfl, rfl⟩ h3

/-- What is told along a direction is told. -/
theorem along_unique {F G : Int → Int → List Int → List Int → List Int} {own own' : Int → Int → List Int} {dx dy : Int} {wd hi : Nat} {P Q : Int → Int → List Int} (hd : isDir dx dy)
    (hP : IsAlong F own dx dy wd hi P) (hQ : IsAlong G own' dx dy wd hi Q) (ho : ∀ x y, insI x y wd hi → own x y = own' x y)
    (hFG : ∀ x y, insI x y wd hi → insI (x - dx) (y - dy) wd hi → F x y (own x y) (P (x - dx) (y - dy)) = G x y (own x y) (P (x - dx) (y - dy))) :
    ∀ x y, insI x y wd hi → P x y = Q x y := by
  have key : ∀ n x y, insI x y wd hi → stepsI dx dy wd hi x y ≤ n → P x y = Q x y := by
    intro n
    induction n with
    | zero =>
      intro x y hi' hn
      rw [hP x y hi', hQ x y hi', ho x y hi']
      by_cases hp : insI (x - dx) (y - dy) wd hi
      · have := steps_lt hd hi' hp; omega
      · rw [if_neg hp, if_neg hp]
    | succ n ih =>
      intro x y hi' hn
      rw [hP x y hi', hQ x y hi']
      by_cases hp : insI (x - dx) (y - dy) wd hi
      · rw [if_pos hp, if_pos hp, hFG x y hi' hp, ih _ _ hp (by have := steps_lt hd hi' hp; omega), ho x y hi']
      · rw [if_neg hp, if_neg hp, ho x y hi']
  exact fun x y h => key _ x y h (Nat.le_refl _)

end Go.Proofs.Ytfhlpabbacopjaa
