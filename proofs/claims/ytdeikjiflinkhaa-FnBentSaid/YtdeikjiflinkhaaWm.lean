/- The least of two float words. -/
import Derived.Test.YtdeikjiflinkhaaWl
namespace Go.Proofs.Ytdeikjiflinkhaa
open Go.RowKit
set_option maxRecDepth 100000
set_option linter.unusedVariables false
set_option linter.unusedSimpArgs false

def fminW (k : FloatKind) (x y : Nat) : Option Nat := match k.format.order x y with
  | none => none
  | some .lt => some x
  | some .gt => some y
  | some .eq => some (if (k.decode x).neg then x else y)
@[go_sem] theorem run_min_floatW {P : Program} {w : World} (ts : Array TypeId) (t : TypeId) (k k' : FloatKind) (x y r : Nat) (h : fminW k x y = some r) : (Builtin.min_ ts t #[.float k x, .float k' y]).run P w = .ok (.float k r) w := by
  unfold fminW at h
  cases e : k.format.order x y with
  | none => rw [e] at h; cases h
  | some o =>
    rw [e] at h
    cases o <;> simp only [Option.some.injEq] at h <;> subst h <;> simp [Builtin.min_, Builtin.min2, e]
theorem fminW_q {a b : Int} (ha : a.natAbs ≤ 1000) (hb : b.natAbs ≤ 1000) : fminW .f32 (fq 2 a) (fq 2 b) = some (fq 2 (min a b)) := by
  have ho : FloatKind.f32.format.order (fq 2 a) (fq 2 b) = some (compare a b) := qw_order f1 (few32 (g := 2) (by omega)) (few32 (g := 2) (by omega))
  unfold fminW
  rw [ho]
  rcases Int.lt_trichotomy a b with h | h | h
  · rw [compare_lt h]; show some _ = _; congr 2; omega
  · subst h
    rw [compare_eq rfl]
    show some (if _ then fq 2 a else fq 2 a) = _
    split <;> (congr 2; omega)
  · rw [compare_gt h]; show some _ = _; congr 2; omega

end Go.Proofs.Ytdeikjiflinkhaa
