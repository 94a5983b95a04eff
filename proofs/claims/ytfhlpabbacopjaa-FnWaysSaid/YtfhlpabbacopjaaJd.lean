/- Rows with the least cost: plain. -/
import Derived.Test.YtfhlpabbacopjaaIb
namespace Go.Proofs.Ytfhlpabbacopjaa
set_option linter.unusedVariables false
set_option linter.unusedSimpArgs false

/-- The first of the least numbers is one alone. -/
theorem FstL.unique {ks : List Int} {n d e : Nat} (h : FstL ks n d) (g : FstL ks n e) : d = e := by
  rcases Nat.lt_trichotomy d e with hh | hh | hh
  · have a := g.2.2 d hh
    have b := h.2.1 e g.1
    omega
  · exact hh
  · have a := h.2.2 e hh
    have b := g.2.1 d h.1
    omega
def fstA (ks : List Int) : Nat → Nat
  | 0 => 0
  | i + 1 => if ks.getD i 0 < ks.getD (fstA ks i) 0 then i else fstA ks i
theorem fstA_ok (ks : List Int) : ∀ n, 1 ≤ n → FstL ks n (fstA ks n) := by
  intro n
  induction n with
  | zero => intro h; omega
  | succ n ih =>
    intro _
    by_cases hn : n = 0
    · subst hn
      have e : fstA ks 1 = 0 := by unfold fstA; rw [if_neg (by unfold fstA; omega)]; rfl
      rw [e]
      exact ⟨by omega, fun j hj => by rw [show j = 0 by omega]; exact Int.le_refl _, fun j hj => by omega⟩
    · have h := (ih (by omega)).step
      show FstL ks (n + 1) (if ks.getD n 0 < ks.getD (fstA ks n) 0 then n else fstA ks n)
      by_cases g : ks.getD n 0 < ks.getD (fstA ks n) 0
      · rw [if_pos g]; exact h.1 g
      · rw [if_neg g]; exact h.2 g

section
variable (C : Nat → Nat → Int) (pr : Nat → Nat → Int) (dp : Nat)
/-- The least cost of the ways that end at a disparity, and the disparity before. -/
def dpG : Nat → Nat → Int
  | 0, d => C 0 d
  | x + 1, d => (fun ks : List Int => ks.getD (fstA ks dp) 0 + C (x + 1) d) (tabI dp fun e => dpG x e + pr e d)
def dpW (x d : Nat) : List Int := tabI dp fun e => dpG C pr dp x e + pr e d
def dpT (x d : Nat) : Nat := fstA (dpW C pr dp x d) dp
theorem dpG_succ (x d : Nat) : dpG C pr dp (x + 1) d = (dpW C pr dp x d).getD (dpT C pr dp x d) 0 + C (x + 1) d := rfl
theorem dpT_lt (h : 1 ≤ dp) (x d : Nat) : dpT C pr dp x d < dp := (fstA_ok _ dp h).1
theorem dpG_at (h : 1 ≤ dp) (x d : Nat) : dpG C pr dp (x + 1) d = dpG C pr dp x (dpT C pr dp x d) + pr (dpT C pr dp x d) d + C (x + 1) d := by
  rw [dpG_succ]
  unfold dpW
  rw [tabI_get (dpT_lt C pr dp h x d)]
theorem dpG_le (h : 1 ≤ dp) (x d e : Nat) (he : e < dp) : dpG C pr dp (x + 1) d ≤ dpG C pr dp x e + pr e d + C (x + 1) d := by
  have hf := (fstA_ok (dpW C pr dp x d) dp h).2.1 e he
  rw [dpG_succ]
  have : (dpW C pr dp x d).getD e 0 = dpG C pr dp x e + pr e d := by unfold dpW; exact tabI_get he
  rw [this] at hf
  unfold dpT
  omega
/-- The cost of a row. -/
def rowC (v : Nat → Nat) : Nat → Int
  | 0 => C 0 (v 0)
  | x + 1 => rowC v x + pr (v x) (v (x + 1)) + C (x + 1) (v (x + 1))
theorem dpG_least (h : 1 ≤ dp) (v : Nat → Nat) : ∀ x, (∀ k, k ≤ x → v k < dp) → dpG C pr dp x (v x) ≤ rowC C pr v x := by
  intro x
  induction x with
  | zero => intro _; exact Int.le_refl _
  | succ x ih =>
    intro hv
    have h1 := ih (fun k hk => hv k (by omega))
    have h2 := dpG_le C pr dp h x (v (x + 1)) (v x) (hv x (by omega))
    show _ ≤ rowC C pr v x + pr (v x) (v (x + 1)) + C (x + 1) (v (x + 1))
    omega
/-- The row that is led back from its end. -/
def backR : Nat → Nat → Nat → Nat
  | 0, d => fun _ => d
  | x + 1, d => fun k => if k = x + 1 then d else backR x (dpT C pr dp x d) k
theorem rowC_congr {v u : Nat → Nat} : ∀ x, (∀ k, k ≤ x → v k = u k) → rowC C pr v x = rowC C pr u x := by
  intro x
  induction x with
  | zero => intro h; show C 0 (v 0) = C 0 (u 0); rw [h 0 (Nat.le_refl _)]
  | succ x ih =>
    intro h
    show rowC C pr v x + pr (v x) (v (x + 1)) + C (x + 1) (v (x + 1)) = rowC C pr u x + pr (u x) (u (x + 1)) + C (x + 1) (u (x + 1))
    rw [ih (fun k hk => h k (by omega)), h x (by omega), h (x + 1) (Nat.le_refl _)]
theorem backR_end (x d : Nat) : backR C pr dp x d x = d := by
  cases x with
  | zero => rfl
  | succ x => show (if x + 1 = x + 1 then d else _) = d; rw [if_pos rfl]
theorem backR_lt (h : 1 ≤ dp) : ∀ x d, d < dp → ∀ k, backR C pr dp x d k < dp := by
  intro x
  induction x with
  | zero => intro d hd k; exact hd
  | succ x ih =>
    intro d hd k
    show (if k = x + 1 then d else backR C pr dp x (dpT C pr dp x d) k) < dp
    split
    · exact hd
    · exact ih _ (dpT_lt C pr dp h x d) k
theorem backR_cost (h : 1 ≤ dp) : ∀ x d, rowC C pr (backR C pr dp x d) x = dpG C pr dp x d := by
  intro x
  induction x with
  | zero => intro d; rfl
  | succ x ih =>
    intro d
    have e : ∀ k, k ≤ x → backR C pr dp (x + 1) d k = backR C pr dp x (dpT C pr dp x d) k := by
      intro k hk
      show (if k = x + 1 then d else _) = _
      rw [if_neg (by omega)]
    show rowC C pr (backR C pr dp (x + 1) d) x + pr (backR C pr dp (x + 1) d x) (backR C pr dp (x + 1) d (x + 1)) + C (x + 1) (backR C pr dp (x + 1) d (x + 1)) = _
    rw [rowC_congr C pr x e, ih, e x (Nat.le_refl _), backR_end, backR_end, dpG_at C pr dp h]
/-- The cost of a row from a place on. -/
def sufC (v : Nat → Nat) : Nat → Nat → Int
  | x, 0 => C x (v x)
  | x, m + 1 => C x (v x) + pr (v x) (v (x + 1)) + sufC v (x + 1) m
theorem row_split (v : Nat → Nat) : ∀ m x, rowC C pr v (x + m) + C x (v x) = rowC C pr v x + sufC C pr v x m := by
  intro m
  induction m with
  | zero => intro x; rfl
  | succ m ih =>
    intro x
    have h := ih (x + 1)
    rw [show x + (m + 1) = x + 1 + m by omega]
    have e : rowC C pr v (x + 1) = rowC C pr v x + pr (v x) (v (x + 1)) + C (x + 1) (v (x + 1)) := rfl
    show _ = rowC C pr v x + (C x (v x) + pr (v x) (v (x + 1)) + sufC C pr v (x + 1) m)
    omega
theorem row_rev (n : Nat) (v : Nat → Nat) : ∀ m, m ≤ n → rowC (fun k d => C (n - k) d) (fun a b => pr b a) (fun k => v (n - k)) m = sufC C pr v (n - m) m := by
  intro m
  induction m with
  | zero => intro _; rfl
  | succ m ih =>
    intro hm
    have h := ih (by omega)
    show rowC (fun k d => C (n - k) d) (fun a b => pr b a) (fun k => v (n - k)) m + pr (v (n - (m + 1))) (v (n - m)) + C (n - (m + 1)) (v (n - (m + 1))) = C (n - (m + 1)) (v (n - (m + 1))) + pr (v (n - (m + 1))) (v (n - (m + 1) + 1)) + sufC C pr v (n - (m + 1) + 1) m
    rw [h, show n - (m + 1) + 1 = n - m by omega]
    omega
/-- Ways from both sides: the cost of the best row through a cell's disparity. -/
theorem both_le (h : 1 ≤ dp) (n x : Nat) (hx : x ≤ n) (v : Nat → Nat) (hv : ∀ k, k ≤ n → v k < dp) :
    dpG C pr dp x (v x) + dpG (fun k d => C (n - k) d) (fun a b => pr b a) dp (n - x) (v x) - C x (v x) ≤ rowC C pr v n := by
  have h1 := dpG_least C pr dp h v x (fun k hk => hv k (by omega))
  have h2 := dpG_least (fun k d => C (n - k) d) (fun a b => pr b a) dp h (fun k => v (n - k)) (n - x) (fun k hk => hv _ (by omega))
  rw [row_rev C pr n v (n - x) (by omega), show n - (n - x) = x by omega] at h2
  have h3 := row_split C pr v (n - x) x
  rw [show x + (n - x) = n by omega] at h3
  omega
theorem both_at (h : 1 ≤ dp) (n x d : Nat) (hx : x ≤ n) (hd : d < dp) : ∃ v : Nat → Nat, (∀ k, v k < dp) ∧ v x = d ∧ rowC C pr v n = dpG C pr dp x d + dpG (fun k d => C (n - k) d) (fun a b => pr b a) dp (n - x) d - C x d := by
  obtain ⟨F, hF⟩ : ∃ F, F = backR C pr dp x d := ⟨_, rfl⟩
  obtain ⟨B, hB⟩ : ∃ B, B = backR (fun k d => C (n - k) d) (fun a b => pr b a) dp (n - x) d := ⟨_, rfl⟩
  have f1 : F x = d := by rw [hF]; exact backR_end C pr dp x d
  have b1 : B (n - x) = d := by rw [hB]; exact backR_end _ _ dp (n - x) d
  have f2 := backR_cost C pr dp h x d
  have b2 := backR_cost (fun k d => C (n - k) d) (fun a b => pr b a) dp h (n - x) d
  rw [← hF] at f2
  rw [← hB] at b2
  refine ⟨fun k => if k ≤ x then F k else B (n - k), fun k => ?_, ?_, ?_⟩
  · show (if k ≤ x then F k else B (n - k)) < dp
    split
    · rw [hF]; exact backR_lt C pr dp h x d hd k
    · rw [hB]; exact backR_lt _ _ dp h (n - x) d hd _
  · show (if x ≤ x then F x else B (n - x)) = d
    rw [if_pos (Nat.le_refl _)]; exact f1
  · have h3 := row_split C pr (fun k => if k ≤ x then F k else B (n - k)) (n - x) x
    rw [show x + (n - x) = n by omega] at h3
    have e1 : rowC C pr (fun k => if k ≤ x then F k else B (n - k)) x = rowC C pr F x := rowC_congr C pr x (fun k hk => by show (if k ≤ x then F k else B (n - k)) = F k; rw [if_pos hk])
    have e2 := row_rev C pr n (fun k => if k ≤ x then F k else B (n - k)) (n - x) (by omega)
    rw [show n - (n - x) = x by omega] at e2
    have e3 : rowC (fun k d => C (n - k) d) (fun a b => pr b a) (fun k => (fun k => if k ≤ x then F k else B (n - k)) (n - k)) (n - x) = rowC (fun k d => C (n - k) d) (fun a b => pr b a) B (n - x) := rowC_congr _ _ (n - x) (fun k hk => by
      show (if n - k ≤ x then F (n - k) else B (n - (n - k))) = B k
      by_cases g : n - k ≤ x
      · have : k = n - x := by omega
        rw [if_pos g, this, show n - (n - x) = x by omega, f1, b1]
      · rw [if_neg g, show n - (n - k) = k by omega])
    rw [e3] at e2
    rw [e1, f2, if_pos (Nat.le_refl x), f1, ← e2, b2] at h3
    omega
end

end Go.Proofs.Ytfhlpabbacopjaa
