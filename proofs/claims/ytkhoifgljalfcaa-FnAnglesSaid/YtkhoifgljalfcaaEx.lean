/- The exact laws' own functions on numbers and slices of numbers: sameFloat, eqFloat32S, markFloat32S, heldFloat32S. -/
import Derived.Test.YtkhoifgljalfcaaLaw
import Derived.Test.YtkhoifgljalfcaaFc
import Derived.Test.YtkhoifgljalfcaaMem
namespace Go.Proofs.Ytkhoifgljalfcaa
open Go.RowKit Ieee
set_option maxRecDepth 100000
set_option linter.unusedVariables false
set_option linter.unusedSimpArgs false

theorem wide_num {b : Nat} (hb : b < 4294967296) (h : nan32 b = false) : ∃ r, floatToFloatBits .f32 b .f64 = some r ∧ nan64 r = false ∧ r < 18446744073709551616 := by
  by_cases hf : fin32 b = true
  · obtain ⟨c, ec, lc, fc, gc, uc⟩ := wide_fin hf
    have := (fin64_iff c).1 fc
    refine ⟨c, ec, ?_, lc⟩
    unfold nan64; unfold fin64 at this; simp at *; omega
  · have hi : rg single b = single.infRung := by
      unfold rg; rw [sg_sw, sg_inf]; unfold fin32 at hf; unfold nan32 at h; simp at *; omega
    have e : b = single.word (sgn single b) single.infRung := by rw [← hi]; exact (word32 hb).symm
    have h1 := cv_inf32 (sgn single b)
    rw [← e] at h1
    exact ⟨_, h1, by cases sgn single b <;> decide, by cases sgn single b <;> decide⟩

/-- Two words of 64 bits that are one number. -/
def one64 (x y : Nat) : Prop := (x = y ∧ nan64 x = false ∧ x < 18446744073709551616) ∨ (nan64 x = true ∧ nan64 y = true)

theorem one64_of {a b : Nat} (ha : a < 4294967296) (hb : b < 4294967296) (h : fl a = fl b) (w1 w2 : World) : one64 (cvr .f32 .f64 a w1) (cvr .f32 .f64 b w2) := by
  cases na : nan32 a
  · cases nb : nan32 b
    · rw [fl_eq na, fl_eq nb] at h
      subst h
      obtain ⟨r, hr, h1, h2⟩ := wide_num ha na
      rw [cvr_some hr, cvr_some hr]
      exact .inl ⟨rfl, h1, h2⟩
    · rw [fl_eq na, fl_nan nb] at h
      subst h; exact absurd na (by decide)
  · cases nb : nan32 b
    · rw [fl_nan na, fl_eq nb] at h
      subst h; exact absurd nb (by decide)
    · exact .inr ⟨cv_nan32 na w1, cv_nan32 nb w2⟩

theorem zero64 {x : Nat} (hx : x < 18446744073709551616) (h : eq64 x 0 = true) : x = 0 ∨ x = 9223372036854775808 := by
  unfold eq64 sr64 at h
  simp at h
  obtain ⟨_, h⟩ := h
  split at h <;> omega

theorem cellAt2 {w : World} {b off cap : Nat} {n : Nat} {bs : List Nat} (h : SlF w (.slice (some ⟨b, off, none⟩) n cap) bs) (i : Nat) (hi : i < bs.length) : w.cell? ⟨b, off + i, none⟩ = some (.float .f32 (bs.getD i 0)) ∧ bs.getD i 0 < 4294967296 := by
  obtain ⟨b', off', cap', h1, h2, h3⟩ := h.form (by intro e; rw [e] at hi; simp at hi)
  simp only [Value.slice.injEq, Option.some.injEq, Addr.mk.injEq] at h1
  obtain ⟨⟨rfl, rfl, _⟩, _, _⟩ := h1
  have hg : bs.getD i 0 = bs[i] := by rw [List.getD_eq_getElem?_getD, List.getElem?_eq_getElem hi]; rfl
  exact ⟨by rw [h3 i hi, hg], by rw [hg]; exact h.lt hi⟩

theorem nan_word {neg : Bool} {r : Nat} (h : r ≤ single.infRung) : nan32 (single.word neg r) = false := by
  have := rg_word single neg (Nat.lt_of_le_of_lt h single.infRung_lt)
  unfold rg at this
  rw [sg_sw] at this
  rw [sg_inf] at h
  unfold nan32
  rw [this, decide_eq_false_iff_not]; omega

theorem nan_ofInt (n : Int) : nan32 (floatOfInt .f32 n) = false := by
  unfold floatOfInt FloatKind.nearest
  show nan32 (single.nearest _ _ _) = false
  unfold Format.nearest
  split
  · exact nan_word (Nat.zero_le _)
  · exact nan_word (Nat.min_le_right _ _)

/-- The marks from a number on. -/
def marks (k n : Nat) : List Nat := (List.range n).map (fun i => floatOfInt .f32 ((k + i : Nat) : Int))

theorem marks_length (k n : Nat) : (marks k n).length = n := by simp [marks]

theorem marks_get (k n i : Nat) (h : i < n) : (marks k n).getD i 0 = floatOfInt .f32 ((k + i : Nat) : Int) := by
  unfold marks
  rw [List.getD_eq_getElem?_getD, List.getElem?_map, List.getElem?_range h]; rfl

theorem getD_of2 (bs : List Nat) (i : Nat) (h : i < bs.length) : bs[i] = bs.getD i 0 := by rw [List.getD_eq_getElem?_getD, List.getElem?_eq_getElem h]; rfl

theorem ofInt_lt (n : Int) : floatOfInt .f32 n < 4294967296 := by have := floatOfInt_wf .f32 n; simpa [Lit.wf] using this

theorem grown_trans2 {w1 w2 w3 : World} {r : Option Nat} (h : w1.grownBy w2 r) (h' : w2.grownBy w3 r) : w1.grownBy w3 r :=
  ⟨h'.os.trans h.os, h'.tape.trans h.tape, h'.output.trans h.output, Nat.le_trans h.size h'.size, fun k hk hn => (h'.block k (Nat.lt_of_lt_of_le hk h.size) hn).trans (h.block k hk hn)⟩

theorem grown_self (w : World) (r : Option Nat) : w.grownBy w r := ⟨rfl, rfl, rfl, Nat.le_refl _, fun _ _ _ => rfl⟩

end Go.Proofs.Ytkhoifgljalfcaa
