/- What the walk of the program's text makes of conversions between floats. -/
import Derived.Test.YtkhoifgljalfcaaFd
namespace Go.Proofs.Ytkhoifgljalfcaa
open Go.RowKit

/-- The word that a conversion gives, whatever the word; and how often the tape is asked. -/
def cvq (s d : FloatKind) (b : Nat) : Question := if (s.decode b).isNaN then .nanConv d b else .floatToFloat b
def cvr (s d : FloatKind) (b : Nat) (w : World) : Nat := (floatToFloatBits s b d).getD ((cvq s d b).cut (w.tape w.drawn (cvq s d b)))
def cvd (s d : FloatKind) (b : Nat) : Nat := if (floatToFloatBits s b d).isSome then 0 else 1

section
variable {P : Program} (w : World)
@[go_sem] theorem run_cv (src dst : TypeId) (s k : FloatKind) (b : Nat) (hs : (P.underlying src).isSome = true) (hd : P.underlying dst = some (.float k)) :
    (convert src dst (.float s b)).run P w = .ok (.float k (cvr s k b w)) (w.drewN (cvd s k b)) := by
  unfold cvr cvd
  cases h : floatToFloatBits s b k with
  | some r => rw [run_convert_float_float w src dst s k b r hs hd h]; rfl
  | none =>
    obtain ⟨u, hs'⟩ := Option.isSome_iff_exists.1 hs
    unfold floatToFloatBits at h
    split at h
    · cases h
    · rename_i ne
      split at h
      · rename_i sg fr he
        have hq : cvq s k b = .nanConv k b := by unfold cvq; rw [he]; rfl
        rw [hq]
        cases u <;> simp [convert, run_underlying hs', run_underlying hd, Conv.floatToFloat, ne, he, Question.forced, World.drew_is_drewN]
      · cases h
      · rename_i sg m e he
        split at h
        · rename_i ho
          have hq : cvq s k b = .floatToFloat b := by unfold cvq; rw [he]; rfl
          rw [hq]
          cases u <;> simp [convert, run_underlying hs', run_underlying hd, Conv.floatToFloat, ne, he, ho, Question.forced, World.drew_is_drewN]
        · cases h
end

theorem cvr_some {s d : FloatKind} {b r : Nat} (h : floatToFloatBits s b d = some r) (w : World) : cvr s d b w = r := by unfold cvr; rw [h]; rfl
theorem cvd_some {s d : FloatKind} {b r : Nat} (h : floatToFloatBits s b d = some r) : cvd s d b = 0 := by unfold cvd; rw [h]; rfl
theorem cv_nan32 {b : Nat} (h : nan32 b = true) (w : World) : nan64 (cvr .f32 .f64 b w) = true := by
  obtain ⟨s, t, e⟩ := read_nan32 h
  have e' : FloatKind.f32.decode b = .nan s t := e
  have hn : floatToFloatBits .f32 b .f64 = none := by unfold floatToFloatBits; rw [if_neg (by decide), e']
  have hq : cvq .f32 .f64 b = .nanConv .f64 b := by unfold cvq; rw [e']; rfl
  unfold cvr
  rw [hn, hq]
  exact (cut_nan64 0 0 _).1
theorem cv_nan64 {b : Nat} (h : nan64 b = true) (w : World) : nan32 (cvr .f64 .f32 b w) = true := by
  obtain ⟨s, t, e⟩ := read_nan64 h
  have e' : FloatKind.f64.decode b = .nan s t := e
  have hn : floatToFloatBits .f64 b .f32 = none := by unfold floatToFloatBits; rw [if_neg (by decide), e']
  have hq : cvq .f64 .f32 b = .nanConv .f32 b := by unfold cvq; rw [e']; rfl
  unfold cvr
  rw [hn, hq]
  exact (cut_nan32 0 0 _).1
theorem cvr_lt32 (b : Nat) (w : World) : cvr .f64 .f32 b w < 4294967296 := by
  unfold cvr
  cases h : floatToFloatBits .f64 b .f32 with
  | some r =>
    unfold floatToFloatBits at h
    rw [if_neg (by decide)] at h
    have lt : ∀ d, FloatKind.f32.encode d < 4294967296 := fun d => Ieee.Format.write_lt Ieee.single d
    split at h
    · cases h
    · cases h; exact lt _
    · split at h
      · cases h
      · cases h; exact lt _
  | none =>
    unfold cvq
    split
    · exact (cut_nan32 0 0 _).2
    · exact Nat.mod_lt _ (by omega)
theorem cv_inf32 (neg : Bool) : floatToFloatBits .f32 (Ieee.single.word neg Ieee.single.infRung) .f64 = some (Ieee.double.word neg Ieee.double.infRung) := by cases neg <;> rfl
theorem cv_inf64 (neg : Bool) : floatToFloatBits .f64 (Ieee.double.word neg Ieee.double.infRung) .f32 = some (Ieee.single.word neg Ieee.single.infRung) := by cases neg <;> rfl

end Go.Proofs.Ytkhoifgljalfcaa
