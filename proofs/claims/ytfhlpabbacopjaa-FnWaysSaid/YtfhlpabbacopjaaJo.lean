/- The least of two words of quarters; costs of jumps by all disparities. -/
import Derived.Test.YtfhlpabbacopjaaJg
namespace Go.Proofs.Ytfhlpabbacopjaa
open Go.RowKit Go.Shelf
set_option maxRecDepth 100000
set_option linter.unusedVariables false
set_option linter.unusedSimpArgs false

def fminW (k : FloatKind) (x y : Nat) : Option Nat := match k.format.order x y with
  | none => none
  | some .lt => some x
  | some .gt => some y
  | some .eq => some (if (k.decode x).neg then x else y)
@[go_sem] theorem run_min_floatW {P : Program} {w : World} (ts : Array TypeId) (t : TypeId) (k k' : FloatKind) (x y r : Nat) (h : fminW k x y = some r) : (Builtin.min_ ts t #[.float k x, .float k' y]).run P w = .ok (.float k r) w := by
  unfold fminW at h
  cases e : k.format.order x y with
  | none => rw [e] at h; cases h
  | some o =>
    rw [e] at h
    cases o <;> simp only [Option.some.injEq] at h <;> subst h <;> simp [Builtin.min_, Builtin.min2, e]
theorem fminW_q {a b : Int} (ha : a.natAbs ≤ 16777216) (hb : b.natAbs ≤ 16777216) : fminW .f32 (fq 2 a) (fq 2 b) = some (fq 2 (min a b)) := by
  have ho : FloatKind.f32.format.order (fq 2 a) (fq 2 b) = some (compare a b) := qw_order f1 (few32 (g := 2) ha) (few32 (g := 2) hb)
  unfold fminW
  rw [ho]
  rcases Int.lt_trichotomy a b with h | h | h
  · rw [compare_lt h]; show some _ = _; congr 2; omega
  · subst h
    rw [compare_eq rfl]
    show some (if _ then fq 2 a else fq 2 a) = _
    split <;> (congr 2; omega)
  · rw [compare_gt h]; show some _ = _; congr 2; omega

/-- The least of a cost itself and the first ones with their prices. -/
def wantI (ks : List Int) (one more : Int) (d : Nat) : Nat → Int
  | 0 => ks.getD d 0
  | e + 1 => min (wantI ks one more d e) (ks.getD e 0 + prI one more e d)
theorem wantI_le (ks : List Int) (one more : Int) (d : Nat) : ∀ n e, e < n → wantI ks one more d n ≤ ks.getD e 0 + prI one more e d := by
  intro n
  induction n with
  | zero => intro e he; omega
  | succ n ih =>
    intro e he
    show min _ _ ≤ _
    by_cases g : e = n
    · subst g; exact Int.min_le_right _ _
    · exact Int.le_trans (Int.min_le_left _ _) (ih e (by omega))
theorem wantI_own (ks : List Int) (one more : Int) (d : Nat) : ∀ n, wantI ks one more d n ≤ ks.getD d 0 := by
  intro n
  induction n with
  | zero => exact Int.le_refl _
  | succ n ih => exact Int.le_trans (Int.min_le_left _ _) ih
theorem wantI_is (ks : List Int) (one more : Int) (d : Nat) : ∀ n, wantI ks one more d n = ks.getD d 0 ∨ ∃ e, e < n ∧ wantI ks one more d n = ks.getD e 0 + prI one more e d := by
  intro n
  induction n with
  | zero => exact .inl rfl
  | succ n ih =>
    show (min _ _ = _) ∨ ∃ e, e < n + 1 ∧ min _ _ = _
    rcases Int.le_total (wantI ks one more d n) (ks.getD n 0 + prI one more n d) with h | h
    · rw [Int.min_eq_left h]
      rcases ih with g | ⟨e, g1, g2⟩
      · exact .inl g
      · exact .inr ⟨e, by omega, g2⟩
    · rw [Int.min_eq_right h]; exact .inr ⟨n, by omega, rfl⟩
theorem want_jump {ks : List Int} {one more : Int} {d : Nat} (h1 : 0 ≤ one) (h2 : one ≤ more) (hd : d < ks.length) : jumpAt ks one more d = wantI ks one more d ks.length := by
  apply Int.le_antisymm
  · rcases wantI_is ks one more d ks.length with h | ⟨e, he, h⟩
    · rw [h]; exact jumpAt_le_own _ _ _ _
    · rw [h]
      unfold prI
      split
      · rename_i g; subst g; have := jumpAt_le_own ks one more e; omega
      · split
        · rename_i g1 g2
          refine minL_le ?_
          unfold jumpC
          simp only [List.mem_append, List.mem_singleton]
          rcases g2 with g2 | g2
          · refine .inl (.inr ?_)
            rw [if_pos (by omega), ← g2]; exact List.mem_singleton.2 rfl
          · refine .inl (.inl (.inr ?_))
            rw [if_pos (by omega), show d - 1 = e by omega]; exact List.mem_singleton.2 rfl
        · have a := jumpAt_le_more ks one more d
          have b := minL_le (getD_mem (b := ks) he)
          omega
  · have hm := minL_mem (jumpC_ne ks one more d)
    unfold jumpAt
    have key : ∀ e, e < ks.length → wantI ks one more d ks.length ≤ ks.getD e 0 + prI one more e d := fun e he => wantI_le ks one more d _ e he
    generalize minL (jumpC ks one more d) = z at hm
    unfold jumpC at hm
    simp only [List.mem_append, List.mem_singleton] at hm
    rcases hm with ((h | h) | h) | h
    · rw [h]; exact wantI_own _ _ _ _ _
    · split at h
      · simp only [List.mem_singleton] at h
        have := key (d - 1) (by omega)
        unfold prI at this
        rw [if_neg (by omega), if_pos (by omega)] at this
        omega
      · cases h
    · split at h
      · rename_i g
        simp only [List.mem_singleton] at h
        have := key (d + 1) g
        unfold prI at this
        rw [if_neg (by omega), if_pos (by omega)] at this
        omega
      · cases h
    · have hne : ks ≠ [] := by intro e; rw [e] at hd; simp at hd
      obtain ⟨e, he, hz⟩ := List.getElem_of_mem (minL_mem hne)
      have := key e he
      have hb := prI_bd h1 h2 e d
      have hg : ks.getD e 0 = minL ks := by rw [List.getD_eq_getElem?_getD, List.getElem?_eq_getElem he]; exact hz
      omega
theorem wantI_bd {ks : List Int} {one more : Int} {d B : Nat} (h : ∀ k ∈ ks, 0 ≤ k ∧ k ≤ B) (h1 : 0 ≤ one) (h2 : one ≤ more) (hd : d < ks.length) : ∀ n, n ≤ ks.length → 0 ≤ wantI ks one more d n ∧ wantI ks one more d n ≤ B := by
  intro n
  induction n with
  | zero => intro _; exact h _ (getD_mem hd)
  | succ n ih =>
    intro hn
    have a := ih (by omega)
    have b := (h _ (getD_mem (b := ks) (d := n) (by omega))).1
    have c := (prI_bd h1 h2 n d).1
    show 0 ≤ min _ _ ∧ min _ _ ≤ _
    omega

end Go.Proofs.Ytfhlpabbacopjaa
