/- Sums of numbers that are not less than 0; rows with the least cost, by words: plain. -/
import Derived.Test.YtabbjilgpfnacaaGreatEq
namespace Go.Proofs.YtabbjilgpfnacaaGreat
open Go.RowKit Ieee
set_option maxRecDepth 100000
set_option linter.unusedVariables false
set_option linter.unusedSimpArgs false

theorem le0_parts {a : Nat} (h : le32 0 a = true) : a % 2147483648 ≤ 2139095040 ∧ (a / 2147483648 % 2 = 1 → a % 2147483648 = 0) ∧ nan32 a = false := by
  unfold le32 at h
  simp only [Bool.and_eq_true, Bool.not_eq_true', decide_eq_true_eq] at h
  obtain ⟨⟨-, h1⟩, h2⟩ := h
  refine ⟨by unfold nan32 at h1; simpa using h1, fun hs => ?_, h1⟩
  have e0 : sr32 0 = 0 := by decide
  rw [e0] at h2
  unfold sr32 at h2
  rw [if_pos hs] at h2
  omega
theorem le0_of {a : Nat} (h1 : a % 2147483648 ≤ 2139095040) (h2 : a / 2147483648 % 2 = 1 → a % 2147483648 = 0) : le32 0 a = true := by
  have e0 : nan32 0 = false := by decide
  have e1 : nan32 a = false := by unfold nan32; simp; omega
  have e2 : sr32 0 = 0 := by decide
  unfold le32
  rw [e0, e1, e2]
  simp
  unfold sr32
  split
  · rename_i hs; rw [h2 hs]; simp
  · omega
theorem le0_rnd {neg : Bool} {N : Nat} (h : neg = true → N = 0) : le32 0 (rnd single neg N 0) = true := by
  have hlt := rd_lt single (rd0 single N 0)
  have hle : min (rd0 single N 0) single.infRung ≤ single.infRung := Nat.min_le_right _ _
  have hr := rg_word single neg hlt
  have hs := sgn_word single neg hlt
  unfold rg at hr
  unfold sgn at hs
  rw [sg_sw] at hr hs
  rw [sg_inf] at hle hr
  unfold rnd
  rw [sg_inf] at hs ⊢
  apply le0_of
  · rw [hr]; exact hle
  · intro h1
    rw [h1] at hs
    have hn : neg = true := by rw [← hs]; rfl
    rw [hr, h hn]
    unfold rd0
    simp
theorem add_nonneg {a b : Nat} (ha : le32 0 a = true) (hb : le32 0 b = true) : ∃ r, floatBits .add .f32 a b = some r ∧ r < 4294967296 ∧ le32 0 r = true := by
  suffices H : ∃ r, floatBits .add .f32 a b = some r ∧ le32 0 r = true by
    obtain ⟨r, h1, h2⟩ := H
    have := floatBits_wf h1
    exact ⟨r, h1, by simpa [Lit.wf] using this, h2⟩
  obtain ⟨a1, a2, a3⟩ := le0_parts ha
  obtain ⟨b1, b2, b3⟩ := le0_parts hb
  have rga : rg single a = a % 2147483648 := by unfold rg; rw [sg_sw]
  have rgb : rg single b = b % 2147483648 := by unfold rg; rw [sg_sw]
  have sga : a % 2147483648 ≠ 0 → sgn single a = false := fun h => by
    unfold sgn; rw [sg_sw]
    cases e : (a / 2147483648 % 2 == 1)
    · rfl
    · exact absurd (a2 (by simpa using e)) h
  have sgb : b % 2147483648 ≠ 0 → sgn single b = false := fun h => by
    unfold sgn; rw [sg_sw]
    cases e : (b / 2147483648 % 2 == 1)
    · rfl
    · exact absurd (b2 (by simpa using e)) h
  have inf : le32 0 2139095040 = true := by decide
  by_cases ia : a % 2147483648 = 2139095040
  · have ea := read_inf single (by decide) (w := a) (by rw [rga, sg_inf]; exact ia)
    rw [sga (by omega)] at ea
    by_cases ib : b % 2147483648 = 2139095040
    · have eb := read_inf single (by decide) (w := b) (by rw [rgb, sg_inf]; exact ib)
      rw [sgb (by omega)] at eb
      refine ⟨2139095040, ?_, inf⟩
      show single.add a b = _
      unfold Format.add
      rw [ea, eb]; rfl
    · obtain ⟨m, t, eb, -⟩ := read_fin single (w := b) ((fin32_iff b).2 (by unfold fin32; simp; omega))
      refine ⟨2139095040, ?_, inf⟩
      show single.add a b = _
      unfold Format.add
      rw [ea, eb]; rfl
  · have fa := (fin32_iff a).2 (by unfold fin32; simp; omega)
    by_cases ib : b % 2147483648 = 2139095040
    · have eb := read_inf single (by decide) (w := b) (by rw [rgb, sg_inf]; exact ib)
      rw [sgb (by omega)] at eb
      obtain ⟨m, t, ea, -⟩ := read_fin single (w := a) fa
      refine ⟨2139095040, ?_, inf⟩
      show single.add a b = _
      unfold Format.add
      rw [ea, eb]; rfl
    · have fb := (fin32_iff b).2 (by unfold fin32; simp; omega)
      refine ⟨_, add_fin single fa fb, ?_⟩
      have sv0 : ∀ {w : Nat}, (w % 2147483648 ≠ 0 → sgn single w = false) → rg single w = w % 2147483648 → 0 ≤ sv single w := fun {w} h1 h2 => by
        unfold sv
        split
        · rename_i hs
          have : w % 2147483648 = 0 := by
            rcases Nat.eq_zero_or_pos (w % 2147483648) with h | h
            · exact h
            · rw [h1 (by omega)] at hs; cases hs
          rw [h2, this, unit_zero]; simp
        · omega
      have s1 := sv0 sga rga
      have s2 := sv0 sgb rgb
      apply le0_rnd
      intro hneg
      split at hneg
      · rename_i hz; rw [hz]; rfl
      · simp at hneg; omega

/-- The sum, where there is one. -/
def sm32 (a b : Nat) : Nat := (floatBits .add .f32 a b).getD 0
theorem sm32_of {a b : Nat} (ha : le32 0 a = true) (hb : le32 0 b = true) : floatBits .add .f32 a b = some (sm32 a b) ∧ sm32 a b < 4294967296 ∧ le32 0 (sm32 a b) = true := by
  obtain ⟨r, h1, h2, h3⟩ := add_nonneg ha hb
  have e : sm32 a b = r := by unfold sm32; rw [h1]; rfl
  rw [e]; exact ⟨h1, h2, h3⟩
/-- The price of a jump. -/
def prW (o m a b : Nat) : Nat := if a = b then 0 else if a = b + 1 ∨ b = a + 1 then o else m
theorem prW_ok {o m : Nat} (ho : le32 0 o = true) (hm : le32 0 m = true) (a b : Nat) : le32 0 (prW o m a b) = true := by
  unfold prW; split
  · decide
  · split <;> assumption
/-- The first of the least numbers. -/
def fstW (f : Nat → Nat) : Nat → Nat
  | 0 => 0
  | n + 1 => if lt32 (f n) (f (fstW f n)) then n else fstW f n
theorem fstW_lt (f : Nat → Nat) : ∀ n, 1 ≤ n → fstW f n < n := by
  intro n
  induction n with
  | zero => intro h; omega
  | succ n ih =>
    intro _
    unfold fstW
    split
    · omega
    · rcases Nat.eq_zero_or_pos n with h | h
      · subst h; show fstW f 0 < 1; unfold fstW; omega
      · have := ih h; omega
theorem fstW_congr {f g : Nat → Nat} {n : Nat} (h : ∀ i, i < n → f i = g i) : fstW f n = fstW g n := by
  induction n with
  | zero => rfl
  | succ n ih =>
    have e := ih (fun i hi => h i (by omega))
    unfold fstW
    rcases Nat.eq_zero_or_pos n with h0 | h0
    · subst h0
      show (if lt32 (f 0) (f 0) then 0 else 0) = (if lt32 (g 0) (g 0) then 0 else 0)
      rw [h 0 (by omega)]
    · have h1 := fstW_lt g n h0
      rw [e, h n (by omega), h (fstW g n) (by omega)]
section
variable (C : Nat → Nat → Nat) (o m dp : Nat)
/-- The least costs that end at a disparity, and from where. -/
def vW : Nat → Nat → Nat
  | 0, d => C 0 d
  | x + 1, d => sm32 (sm32 (vW x (fstW (fun e => sm32 (vW x e) (prW o m e d)) dp)) (prW o m (fstW (fun e => sm32 (vW x e) (prW o m e d)) dp) d)) (C (x + 1) d)
def uW (x d e : Nat) : Nat := sm32 (vW C o m dp x e) (prW o m e d)
def tW (x d : Nat) : Nat := fstW (uW C o m dp x d) dp
theorem vW_succ (x d : Nat) : vW C o m dp (x + 1) d = sm32 (uW C o m dp x d (tW C o m dp x d)) (C (x + 1) d) := rfl
theorem tW_lt (h : 1 ≤ dp) (x d : Nat) : tW C o m dp x d < dp := fstW_lt _ _ h
theorem vW_ok {nb : Nat} (hd : 1 ≤ dp) (hc : ∀ x d, x < nb → d < dp → le32 0 (C x d) = true) (ho : le32 0 o = true) (hm : le32 0 m = true) : ∀ x, x < nb → ∀ d, d < dp → le32 0 (vW C o m dp x d) = true := by
  intro x
  induction x with
  | zero => intro h d hd; exact hc 0 d h hd
  | succ x ih =>
    intro h d hd2
    rw [vW_succ]
    have h1 := ih (by omega) _ (tW_lt C o m dp hd x d)
    exact (sm32_of (sm32_of h1 (prW_ok ho hm _ _)).2.2 (hc _ _ h hd2)).2.2
theorem uW_ok {nb : Nat} (hd : 1 ≤ dp) (hc : ∀ x d, x < nb → d < dp → le32 0 (C x d) = true) (ho : le32 0 o = true) (hm : le32 0 m = true) {x : Nat} (hx : x < nb) (d : Nat) {e : Nat} (he : e < dp) :
    floatBits .add .f32 (vW C o m dp x e) (prW o m e d) = some (uW C o m dp x d e) ∧ uW C o m dp x d e < 4294967296 ∧ le32 0 (uW C o m dp x d e) = true :=
  sm32_of (vW_ok C o m dp hd hc ho hm x hx e he) (prW_ok ho hm _ _)
end

end Go.Proofs.YtabbjilgpfnacaaGreat
