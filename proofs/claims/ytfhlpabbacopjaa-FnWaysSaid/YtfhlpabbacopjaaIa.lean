/- Costs of whole maps: plain. -/
import Derived.Test.YtfhlpabbacopjaaPy
namespace Go.Proofs.Ytfhlpabbacopjaa
open Go.RowKit
set_option maxRecDepth 100000
set_option linter.unusedVariables false
set_option linter.unusedSimpArgs false

/-- Sums. -/
def sN : Nat → (Nat → Int) → Int
  | 0, _ => 0
  | n + 1, F => sN n F + F n
theorem sN_bd {F : Nat → Int} {B : Int} (n : Nat) (h : ∀ i, i < n → 0 ≤ F i ∧ F i ≤ B) : 0 ≤ sN n F ∧ sN n F ≤ B * n := by
  induction n with
  | zero => simp [sN]
  | succ n ih =>
    have h1 := ih (fun i hi => h i (by omega))
    have h2 := h n (by omega)
    rw [Int.natCast_add, Int.natCast_one, Int.mul_add, Int.mul_one]
    show 0 ≤ sN n F + F n ∧ sN n F + F n ≤ _
    omega
theorem sN_congr {F G : Nat → Int} (n : Nat) (h : ∀ i, i < n → F i = G i) : sN n F = sN n G := by
  induction n with
  | zero => rfl
  | succ n ih => show sN n F + F n = sN n G + G n; rw [ih (fun i hi => h i (by omega)), h n (by omega)]
theorem sN_add (n : Nat) (F G : Nat → Int) : sN n (fun i => F i + G i) = sN n F + sN n G := by
  induction n with
  | zero => rfl
  | succ n ih => show sN n (fun i => F i + G i) + (F n + G n) = (sN n F + F n) + (sN n G + G n); rw [ih]; omega
theorem sN_one {F G : Nat → Int} {n i : Nat} (hi : i < n) (h : ∀ j, j < n → j ≠ i → F j = G j) : sN n F - sN n G = F i - G i := by
  induction n with
  | zero => omega
  | succ n ih =>
    show (sN n F + F n) - (sN n G + G n) = _
    by_cases e : i = n
    · subst e
      rw [sN_congr i (fun j hj => h j (by omega) (by omega))]; omega
    · have := ih (by omega) (fun j hj hne => h j (by omega) hne)
      have h2 := h n (by omega) (by omega)
      omega
theorem sN_two {F G : Nat → Int} {n i k : Nat} (hi : i < n) (hk : k < n) (hne : k < i) (h : ∀ j, j < n → j ≠ i → j ≠ k → F j = G j) : sN n F - sN n G = (F i - G i) + (F k - G k) := by
  induction n with
  | zero => omega
  | succ n ih =>
    show (sN n F + F n) - (sN n G + G n) = _
    by_cases e : i = n
    · subst e
      have := sN_one (F := F) (G := G) (n := i) (i := k) hne (fun j hj hn => h j (by omega) (by omega) hn)
      omega
    · have := ih (by omega) (by omega) (fun j hj h1 h2 => h j (by omega) h1 h2)
      have h2 := h n (by omega) (by omega) (by omega)
      omega
def grid (wd hi : Nat) (f : Nat → Nat → Int) : Int := sN hi fun y => sN wd fun x => f x y
theorem grid_add (wd hi : Nat) (f g : Nat → Nat → Int) : grid wd hi (fun x y => f x y + g x y) = grid wd hi f + grid wd hi g := by
  unfold grid
  rw [← sN_add]
  exact sN_congr hi (fun y _ => sN_add wd _ _)
theorem grid_one {wd hi x0 y0 : Nat} {f g : Nat → Nat → Int} (hx : x0 < wd) (hy : y0 < hi) (h : ∀ x y, x < wd → y < hi → ¬ (x = x0 ∧ y = y0) → f x y = g x y) : grid wd hi f - grid wd hi g = f x0 y0 - g x0 y0 := by
  unfold grid
  rw [sN_one hy (fun y hy' hne => sN_congr wd (fun x hx' => h x y hx' hy' (by omega)))]
  exact sN_one hx (fun x hx' hne => h x y0 hx' hy (by omega))
theorem grid_row {wd hi x0 x1 y0 : Nat} {f g : Nat → Nat → Int} (hx : x0 < wd) (hx1 : x1 < x0) (hy : y0 < hi) (h : ∀ x y, x < wd → y < hi → ¬ ((x = x0 ∨ x = x1) ∧ y = y0) → f x y = g x y) : grid wd hi f - grid wd hi g = (f x0 y0 - g x0 y0) + (f x1 y0 - g x1 y0) := by
  unfold grid
  rw [sN_one hy (fun y hy' hne => sN_congr wd (fun x hx' => h x y hx' hy' (by omega)))]
  exact sN_two hx (by omega) hx1 (fun x hx' hne hne2 => h x y0 hx' hy (by omega))
theorem grid_col {wd hi x0 y0 y1 : Nat} {f g : Nat → Nat → Int} (hx : x0 < wd) (hy1 : y1 < y0) (hy : y0 < hi) (h : ∀ x y, x < wd → y < hi → ¬ (x = x0 ∧ (y = y0 ∨ y = y1)) → f x y = g x y) : grid wd hi f - grid wd hi g = (f x0 y0 - g x0 y0) + (f x0 y1 - g x0 y1) := by
  unfold grid
  rw [sN_two hy (by omega) hy1 (fun y hy' hne hne2 => sN_congr wd (fun x hx' => h x y hx' hy' (by omega)))]
  rw [sN_one hx (fun x hx' hne => h x y0 hx' hy (by omega)), sN_one hx (fun x hx' hne => h x y1 hx' (by omega) (by omega))]

/-- The price of a jump, in quarters. -/
def prI (one more : Int) (a b : Nat) : Int := if a = b then 0 else if a = b + 1 ∨ b = a + 1 then one else more
theorem prI_symm (one more : Int) (a b : Nat) : prI one more a b = prI one more b a := by
  unfold prI
  split <;> split <;> (try split) <;> (try split) <;> first | rfl | (exfalso; omega)
theorem prI_bd {one more : Int} (h1 : 0 ≤ one) (h2 : one ≤ more) (a b : Nat) : 0 ≤ prI one more a b ∧ prI one more a b ≤ more := by
  unfold prI
  split
  · omega
  · split <;> omega
def mAt (ms : List Nat) (wd x y : Nat) : Nat := ms.getD (x + wd * y) 0
/-- The price of a cell's jump to the right; down. -/
def jR (ms : List Nat) (wd : Nat) (one more : Int) (x y : Nat) : Int := if x + 1 < wd then prI one more (mAt ms wd x y) (mAt ms wd (x + 1) y) else 0
def jD (ms : List Nat) (wd hi : Nat) (one more : Int) (x y : Nat) : Int := if y + 1 < hi then prI one more (mAt ms wd x y) (mAt ms wd x (y + 1)) else 0
def cC (P : Int → Int → List Int) (x y d : Nat) : Int := (P x y).getD d 0
def cellI (P : Int → Int → List Int) (ms : List Nat) (wd hi : Nat) (one more : Int) (x y : Nat) : Int := cC P x y (mAt ms wd x y) + jR ms wd one more x y + jD ms wd hi one more x y
def costI (P : Int → Int → List Int) (ms : List Nat) (wd hi : Nat) (one more : Int) : Int := grid wd hi (cellI P ms wd hi one more)
/-- The neighbours of a cell, in their order. -/
def nbX (x : Nat) : Nat → Int
  | 0 => (x : Int) - 1 | 1 => (x : Int) + 1 | _ => x
def nbY (y : Nat) : Nat → Int
  | 2 => (y : Int) - 1 | 3 => (y : Int) + 1 | _ => y
def nbI (ms : List Nat) (wd hi : Nat) (one more : Int) (x y d : Nat) : Nat → Int
  | 0 => if 1 ≤ x then prI one more d (mAt ms wd (x - 1) y) else 0
  | 1 => if x + 1 < wd then prI one more d (mAt ms wd (x + 1) y) else 0
  | 2 => if 1 ≤ y then prI one more d (mAt ms wd x (y - 1)) else 0
  | _ => if y + 1 < hi then prI one more d (mAt ms wd x (y + 1)) else 0
def locI (P : Int → Int → List Int) (ms : List Nat) (wd hi : Nat) (one more : Int) (x y d : Nat) : Int := cC P x y d + sN 4 (nbI ms wd hi one more x y d)

theorem mAt_set {ms : List Nat} {wd hi x0 y0 d : Nat} (hl : ms.length = wd * hi) (hx : x0 < wd) (hy : y0 < hi) {x y : Nat} (hx' : x < wd) (hy' : y < hi) : mAt (ms.set (x0 + wd * y0) d) wd x y = if x = x0 ∧ y = y0 then d else mAt ms wd x y := by
  unfold mAt
  have hlt : x0 + wd * y0 < ms.length := by
    rw [hl]
    calc x0 + wd * y0 < wd + wd * y0 := by omega
      _ = wd * (y0 + 1) := by rw [Nat.mul_add, Nat.mul_one, Nat.add_comm]
      _ ≤ wd * hi := Nat.mul_le_mul_left _ hy
  rw [List.getD_eq_getElem?_getD, List.getD_eq_getElem?_getD, List.getElem?_set]
  by_cases h : x = x0 ∧ y = y0
  · rw [if_pos h, h.1, h.2, if_pos rfl, if_pos hlt]; rfl
  · rw [if_neg h, if_neg]
    intro e
    apply h
    have m1 : (x0 + wd * y0) % wd = x0 := by rw [Nat.add_mul_mod_self_left, Nat.mod_eq_of_lt hx]
    have m2 : (x + wd * y) % wd = x := by rw [Nat.add_mul_mod_self_left, Nat.mod_eq_of_lt hx']
    have d1 : (x0 + wd * y0) / wd = y0 := by rw [Nat.add_mul_div_left _ _ (by omega), Nat.div_eq_of_lt hx, Nat.zero_add]
    have d2 : (x + wd * y) / wd = y := by rw [Nat.add_mul_div_left _ _ (by omega), Nat.div_eq_of_lt hx', Nat.zero_add]
    rw [e] at m1 d1
    exact ⟨by rw [← m1, m2], by rw [← d1, d2]⟩

/-- One cell that is changed changes the cost by its own share. -/
theorem cost_set {P : Int → Int → List Int} {ms : List Nat} {wd hi x0 y0 d : Nat} {one more : Int} (hl : ms.length = wd * hi) (hx : x0 < wd) (hy : y0 < hi) :
    costI P (ms.set (x0 + wd * y0) d) wd hi one more - costI P ms wd hi one more = locI P ms wd hi one more x0 y0 d - locI P ms wd hi one more x0 y0 (mAt ms wd x0 y0) := by
  have hs := fun {x y : Nat} (hx' : x < wd) (hy' : y < hi) => mAt_set (d := d) hl hx hy hx' hy'
  have h0 := hs hx hy
  rw [if_pos ⟨rfl, rfl⟩] at h0
  have e1 : grid wd hi (fun x y => cC P x y (mAt (ms.set (x0 + wd * y0) d) wd x y)) - grid wd hi (fun x y => cC P x y (mAt ms wd x y)) = cC P x0 y0 d - cC P x0 y0 (mAt ms wd x0 y0) := by
    rw [grid_one hx hy (fun x y h1 h2 hne => by rw [hs h1 h2, if_neg hne]), h0]
  have e2 : grid wd hi (jR (ms.set (x0 + wd * y0) d) wd one more) - grid wd hi (jR ms wd one more) = nbI ms wd hi one more x0 y0 d 0 - nbI ms wd hi one more x0 y0 (mAt ms wd x0 y0) 0 + (nbI ms wd hi one more x0 y0 d 1 - nbI ms wd hi one more x0 y0 (mAt ms wd x0 y0) 1) := by
    have r1 : jR (ms.set (x0 + wd * y0) d) wd one more x0 y0 - jR ms wd one more x0 y0 = nbI ms wd hi one more x0 y0 d 1 - nbI ms wd hi one more x0 y0 (mAt ms wd x0 y0) 1 := by
      simp only [jR, nbI]
      by_cases g : x0 + 1 < wd
      · simp only [if_pos g]
        rw [h0, hs g hy, if_neg (by omega)]
      · simp only [if_neg g]; try omega
    by_cases hg : 1 ≤ x0
    · rw [grid_row (x1 := x0 - 1) hx (by omega) hy (fun x y h1 h2 hne => by
        unfold jR
        by_cases g : x + 1 < wd
        · rw [if_pos g, if_pos g, hs h1 h2, hs g h2, if_neg (by omega), if_neg (by omega)]
        · rw [if_neg g, if_neg g]), r1]
      have r2 : jR (ms.set (x0 + wd * y0) d) wd one more (x0 - 1) y0 - jR ms wd one more (x0 - 1) y0 = nbI ms wd hi one more x0 y0 d 0 - nbI ms wd hi one more x0 y0 (mAt ms wd x0 y0) 0 := by
        simp only [jR, nbI]
        simp only [if_pos hg]
        rw [if_pos (by omega), if_pos (by omega), hs (by omega) hy, if_neg (by omega), show x0 - 1 + 1 = x0 by omega, h0, prI_symm one more (mAt ms wd (x0 - 1) y0) d, prI_symm one more (mAt ms wd (x0 - 1) y0)]
      rw [r2]; omega
    · rw [grid_one hx hy (fun x y h1 h2 hne => by
        unfold jR
        by_cases g : x + 1 < wd
        · rw [if_pos g, if_pos g, hs h1 h2, hs g h2, if_neg (by omega), if_neg (by omega)]
        · rw [if_neg g, if_neg g]), r1]
      have z : ∀ d, nbI ms wd hi one more x0 y0 d 0 = 0 := fun d => by simp only [nbI]; rw [if_neg hg]
      rw [z, z]; omega
  have e3 : grid wd hi (jD (ms.set (x0 + wd * y0) d) wd hi one more) - grid wd hi (jD ms wd hi one more) = nbI ms wd hi one more x0 y0 d 2 - nbI ms wd hi one more x0 y0 (mAt ms wd x0 y0) 2 + (nbI ms wd hi one more x0 y0 d 3 - nbI ms wd hi one more x0 y0 (mAt ms wd x0 y0) 3) := by
    have r1 : jD (ms.set (x0 + wd * y0) d) wd hi one more x0 y0 - jD ms wd hi one more x0 y0 = nbI ms wd hi one more x0 y0 d 3 - nbI ms wd hi one more x0 y0 (mAt ms wd x0 y0) 3 := by
      simp only [jD, nbI]
      by_cases g : y0 + 1 < hi
      · simp only [if_pos g]
        rw [h0, hs hx g, if_neg (by omega)]
      · simp only [if_neg g]; try omega
    by_cases hg : 1 ≤ y0
    · rw [grid_col (y1 := y0 - 1) hx (by omega) hy (fun x y h1 h2 hne => by
        unfold jD
        by_cases g : y + 1 < hi
        · rw [if_pos g, if_pos g, hs h1 h2, hs h1 g, if_neg (by omega), if_neg (by omega)]
        · rw [if_neg g, if_neg g]), r1]
      have r2 : jD (ms.set (x0 + wd * y0) d) wd hi one more x0 (y0 - 1) - jD ms wd hi one more x0 (y0 - 1) = nbI ms wd hi one more x0 y0 d 2 - nbI ms wd hi one more x0 y0 (mAt ms wd x0 y0) 2 := by
        simp only [jD, nbI]
        simp only [if_pos hg]
        rw [if_pos (by omega), if_pos (by omega), hs hx (by omega), if_neg (by omega), show y0 - 1 + 1 = y0 by omega, h0, prI_symm one more (mAt ms wd x0 (y0 - 1)) d, prI_symm one more (mAt ms wd x0 (y0 - 1))]
      rw [r2]; omega
    · rw [grid_one hx hy (fun x y h1 h2 hne => by
        unfold jD
        by_cases g : y + 1 < hi
        · rw [if_pos g, if_pos g, hs h1 h2, hs h1 g, if_neg (by omega), if_neg (by omega)]
        · rw [if_neg g, if_neg g]), r1]
      have z : ∀ d, nbI ms wd hi one more x0 y0 d 2 = 0 := fun d => by simp only [nbI]; rw [if_neg hg]
      rw [z, z]; omega
  have s : ∀ m : List Nat, costI P m wd hi one more = grid wd hi (fun x y => cC P x y (mAt m wd x y)) + grid wd hi (jR m wd one more) + grid wd hi (jD m wd hi one more) := by
    intro m
    rw [← grid_add, ← grid_add]; rfl
  have l : ∀ d, locI P ms wd hi one more x0 y0 d = cC P x0 y0 d + (0 + nbI ms wd hi one more x0 y0 d 0 + nbI ms wd hi one more x0 y0 d 1 + nbI ms wd hi one more x0 y0 d 2 + nbI ms wd hi one more x0 y0 d 3) := fun _ => rfl
  rw [s, s, l, l]
  omega

end Go.Proofs.Ytfhlpabbacopjaa
