/- The reckoning of angles and sines in intervals: whatever it finds true holds for the words. No program. -/
import Derived.Test.YtkhoifgljalfcaaLb
namespace Go.Proofs.Ytkhoifgljalfcaa
open Ieee
set_option linter.unusedVariables false
set_option linter.unusedSimpArgs false

/-- A number is reckoned out before it is used. -/
def seqN (n : Nat) (f : Nat → Bool) : Bool := Nat.casesOn n (f 0) (fun k => f (k + 1))
theorem seqN_eq (n : Nat) (f : Nat → Bool) : seqN n f = f n := by cases n <;> rfl
def Iv.seq (A : Iv) (f : Iv → Bool) : Bool := seqN A.lo fun l => seqN A.hi fun h => f ⟨l, h⟩
theorem Iv.seq_eq (A : Iv) (f : Iv → Bool) : A.seq f = f A := by unfold Iv.seq; rw [seqN_eq, seqN_eq]
def cI (n : Nat) : Iv := ⟨n * one40, n * one40⟩

def cAd (A B : Iv) (k : Iv → Bool) : Bool := (adI A B).seq fun R => R.ok && k R
def cSb (A B : Iv) (k : Iv → Bool) : Bool := Nat.ble B.hi A.lo && (sbI A B).seq fun R => R.ok && k R
def cMl (A B : Iv) (k : Iv → Bool) : Bool := (mlI A B).seq fun R => R.ok && k R
def cDv (A B : Iv) (k : Iv → Bool) : Bool := Nat.ble 1 B.lo && (dvI A B).seq fun R => R.ok && k R
def cSq (A : Iv) (k : Iv → Bool) : Bool := (sqI A).seq fun R => sqOk A R && (R.ok && k R)

theorem cAd_ok {a b : Nat} {A B : Iv} {k : Iv → Bool} (h : cAd A B k = true) (ha : I64 a A) (hb : I64 b B) : double.add a b = some (ad a b) ∧ ∃ R, I64 (ad a b) R ∧ k R = true := by
  unfold cAd at h
  rw [Iv.seq_eq, Bool.and_eq_true] at h
  obtain ⟨e, q⟩ := ha.add hb h.1
  exact ⟨e, _, q, h.2⟩
theorem cSb_ok {a b : Nat} {A B : Iv} {k : Iv → Bool} (h : cSb A B k = true) (ha : I64 a A) (hb : I64 b B) : double.sub a b = some (sb a b) ∧ ∃ R, I64 (sb a b) R ∧ k R = true := by
  unfold cSb at h
  rw [Iv.seq_eq, Bool.and_eq_true, Bool.and_eq_true] at h
  obtain ⟨e, q⟩ := ha.sub hb h.2.1 (Nat.le_of_ble_eq_true h.1)
  exact ⟨e, _, q, h.2.2⟩
theorem cMl_ok {a b : Nat} {A B : Iv} {k : Iv → Bool} (h : cMl A B k = true) (ha : I64 a A) (hb : I64 b B) : double.mul a b = some (ml a b) ∧ ∃ R, I64 (ml a b) R ∧ k R = true := by
  unfold cMl at h
  rw [Iv.seq_eq, Bool.and_eq_true] at h
  obtain ⟨e, q⟩ := ha.mul hb h.1
  exact ⟨e, _, q, h.2⟩
theorem cDv_ok {a b : Nat} {A B : Iv} {k : Iv → Bool} (h : cDv A B k = true) (ha : I64 a A) (hb : I64 b B) : double.div a b = some (dv a b) ∧ ∃ R, I64 (dv a b) R ∧ k R = true := by
  unfold cDv at h
  rw [Iv.seq_eq, Bool.and_eq_true, Bool.and_eq_true] at h
  obtain ⟨e, q⟩ := ha.div hb h.2.1 (Nat.le_of_ble_eq_true h.1)
  exact ⟨e, _, q, h.2.2⟩
theorem cSq_ok {a : Nat} {A : Iv} {k : Iv → Bool} (h : cSq A k = true) (ha : I64 a A) : double.sqrt a = some (sq a) ∧ ∃ R, I64 (sq a) R ∧ k R = true := by
  unfold cSq at h
  rw [Iv.seq_eq, Bool.and_eq_true, Bool.and_eq_true] at h
  obtain ⟨e, q⟩ := ha.sqrt h.1 h.2.1
  exact ⟨e, _, q, h.2.2⟩

/-- A word that is known. -/
def cst (w lo hi : Nat) : Bool := Nat.blt w double.infRung && Nat.ble (lo * 2 ^ k64) (unit double w) && Nat.ble (unit double w) (hi * 2 ^ k64)
theorem i64_cst {w lo hi : Nat} (h : cst w lo hi = true) : I64 w ⟨lo, hi⟩ := by
  unfold cst at h
  rw [Bool.and_eq_true, Bool.and_eq_true] at h
  have h0 : w < double.infRung := by have := h.1.1; unfold Nat.blt at this; exact Nat.le_of_ble_eq_true this
  have h1 := Nat.le_of_ble_eq_true h.1.2
  have h2 := Nat.le_of_ble_eq_true h.2
  have hl : w < double.signWeight := Nat.lt_trans h0 double.infRung_lt
  have e : double.word false w = w := by unfold Format.word; simp
  have e1 := sv_word double false hl
  rw [e] at e1
  simp only [Bool.false_eq_true, if_false] at e1
  have e2 := fin_word double false h0
  rw [e] at e2
  refine ⟨e2, ?_, ?_⟩
  · rw [e1, ← Int.natCast_mul]; exact Int.ofNat_le.2 h1
  · rw [e1, ← Int.natCast_mul]; exact Int.ofNat_le.2 h2
def wOne : Nat := 4607182418800017408
def wEight : Nat := 4620693217682128896
def wTurn : Nat := 4618760256179416344
def wQuart : Nat := 4598175219545276416
def wHalf : Nat := 4602678819172646912
def turnI : Iv := ⟨6908435304715, 6908435304716⟩
theorem i_one : I64 wOne (cI 1) := i64_cst (by decide +kernel)
theorem i_eight : I64 wEight (cI 8) := i64_cst (by decide +kernel)
theorem i_turn : I64 wTurn turnI := i64_cst (by decide +kernel)
theorem i_quart : I64 wQuart ⟨one40 / 4, one40 / 4⟩ := i64_cst (by decide +kernel)
theorem i_half : I64 wHalf ⟨one40 / 2, one40 / 2⟩ := i64_cst (by decide +kernel)
theorem i_zero : I64 0 ⟨0, 0⟩ := i64_cst (by decide +kernel)
/-- The word of a whole number. -/
def kw64 (n : Nat) : Nat := FloatKind.f64.encode (.number false n 0)

/-! ### One step of the tangent's halving -/
def tS (t : Nat) : Nat := dv t (ad wOne (sq (ad wOne (ml t t))))
structure StepE (t : Nat) : Prop where
  e1 : double.mul t t = some (ml t t)
  e2 : double.add wOne (ml t t) = some (ad wOne (ml t t))
  e3 : double.sqrt (ad wOne (ml t t)) = some (sq (ad wOne (ml t t)))
  e4 : double.add wOne (sq (ad wOne (ml t t))) = some (ad wOne (sq (ad wOne (ml t t))))
  e5 : double.div t (ad wOne (sq (ad wOne (ml t t)))) = some (tS t)
def stC (A : Iv) (k : Iv → Bool) : Bool := cMl A A fun u => cAd (cI 1) u fun v => cSq v fun s => cAd (cI 1) s fun d => cDv A d k
theorem stC_ok {t : Nat} {A : Iv} {k : Iv → Bool} (h : stC A k = true) (ha : I64 t A) : StepE t ∧ ∃ R, I64 (tS t) R ∧ k R = true := by
  obtain ⟨e1, U, q1, h⟩ := cMl_ok h ha ha
  obtain ⟨e2, V, q2, h⟩ := cAd_ok h i_one q1
  obtain ⟨e3, S, q3, h⟩ := cSq_ok h q2
  obtain ⟨e4, D, q4, h⟩ := cAd_ok h i_one q3
  obtain ⟨e5, R, q5, h⟩ := cDv_ok h ha q4
  exact ⟨⟨e1, e2, e3, e4, e5⟩, R, q5, h⟩

/-! ### The arc tangent's row -/
def pN (u : Nat) : Nat → Nat
  | 0 => 0
  | i + 1 => sb (dv wOne (kw64 (15 - 2 * i))) (ml u (pN u i))
structure RowE (u i : Nat) : Prop where
  e1 : double.div wOne (kw64 (15 - 2 * i)) = some (dv wOne (kw64 (15 - 2 * i)))
  e2 : double.mul u (pN u i) = some (ml u (pN u i))
  e3 : double.sub (dv wOne (kw64 (15 - 2 * i))) (ml u (pN u i)) = some (pN u (i + 1))
def pCm (U : Iv) : Nat → Nat → Iv → (Iv → Bool) → Bool
  | 0, _, P, k => k P
  | m + 1, i, P, k => cMl U P fun q => cDv (cI 1) (cI (15 - 2 * i)) fun d => cSb d q fun Q => pCm U m (i + 1) Q k
theorem i_odd : ∀ j : Fin 8, cst (kw64 (15 - 2 * j.val)) ((15 - 2 * j.val) * one40) ((15 - 2 * j.val) * one40) = true := by decide +kernel
theorem pCm_ok {u : Nat} {U : Iv} (hu : I64 u U) : ∀ (m i : Nat) (P : Iv) (k : Iv → Bool), m + i ≤ 8 → pCm U m i P k = true → I64 (pN u i) P → (∀ l, i ≤ l → l < m + i → RowE u l) ∧ ∃ R, I64 (pN u (m + i)) R ∧ k R = true
  | 0, i, P, k, hj, h, hp => by
    rw [Nat.zero_add]
    exact ⟨fun l h1 h2 => by omega, P, hp, h⟩
  | m + 1, i, P, k, hj, h, hp => by
    have hn : I64 (kw64 (15 - 2 * i)) (cI (15 - 2 * i)) := i64_cst (i_odd ⟨i, by omega⟩)
    obtain ⟨e2, M, q2, h⟩ := cMl_ok h hu hp
    obtain ⟨e1, D, q1, h⟩ := cDv_ok h i_one hn
    obtain ⟨e3, Q, q3, h⟩ := cSb_ok h q1 q2
    obtain ⟨a, b⟩ := pCm_ok hu m (i + 1) Q k (by omega) h q3
    rw [show m + 1 + i = m + (i + 1) by omega]
    refine ⟨fun l h1 h2 => ?_, b⟩
    by_cases hl : l = i
    · subst hl; exact ⟨e1, e2, e3⟩
    · exact a l (by omega) h2
def within (lo hi : Nat) (R : Iv) : Bool := Nat.ble lo R.lo && Nat.ble R.hi hi
theorem I64.within {w : Nat} {R : Iv} {lo hi : Nat} (h : I64 w R) (hw : within lo hi R = true) : I64 w ⟨lo, hi⟩ := by
  unfold Go.Proofs.Ytkhoifgljalfcaa.within at hw
  rw [Bool.and_eq_true] at hw
  exact h.mono (Nat.le_of_ble_eq_true hw.1) (Nat.le_of_ble_eq_true hw.2)
def pTop : Nat := 11000000000
def p5I : Iv := ⟨155000000000, 158000000000⟩
theorem p_coarse {u : Nat} {U : Iv} (hu : I64 u U) (h : Nat.ble U.hi pTop = true) : (∀ l, l < 5 → RowE u l) ∧ I64 (pN u 5) p5I := by
  obtain ⟨a, R, b, c⟩ := pCm_ok (hu.mono (B := ⟨0, pTop⟩) (Nat.zero_le _) (Nat.le_of_ble_eq_true h)) 5 0 ⟨0, 0⟩ (within 155000000000 158000000000) (by omega) (by decide +kernel) i_zero
  exact ⟨fun l hl => a l (Nat.zero_le _) (by omega), b.within c⟩

/-! ### The sine's row -/
def sN (u : Nat) : Nat → Nat
  | 0 => wOne
  | i + 1 => sb wOne (dv (ml u (sN u i)) (kw64 (2 * (8 - i) * (2 * (8 - i) + 1))))
structure SinE (u i : Nat) : Prop where
  e1 : double.mul u (sN u i) = some (ml u (sN u i))
  e2 : double.div (ml u (sN u i)) (kw64 (2 * (8 - i) * (2 * (8 - i) + 1))) = some (dv (ml u (sN u i)) (kw64 (2 * (8 - i) * (2 * (8 - i) + 1))))
  e3 : double.sub wOne (dv (ml u (sN u i)) (kw64 (2 * (8 - i) * (2 * (8 - i) + 1)))) = some (sN u (i + 1))
def sCm (U : Iv) : Nat → Nat → Iv → (Iv → Bool) → Bool
  | 0, _, P, k => k P
  | m + 1, i, P, k => cMl U P fun q => cDv q (cI (2 * (8 - i) * (2 * (8 - i) + 1))) fun d => cSb (cI 1) d fun Q => sCm U m (i + 1) Q k
theorem i_even : ∀ j : Fin 8, cst (kw64 (2 * (8 - j.val) * (2 * (8 - j.val) + 1))) ((2 * (8 - j.val) * (2 * (8 - j.val) + 1)) * one40) ((2 * (8 - j.val) * (2 * (8 - j.val) + 1)) * one40) = true := by decide +kernel
theorem sCm_ok {u : Nat} {U : Iv} (hu : I64 u U) : ∀ (m i : Nat) (P : Iv) (k : Iv → Bool), m + i ≤ 8 → sCm U m i P k = true → I64 (sN u i) P → (∀ l, i ≤ l → l < m + i → SinE u l) ∧ ∃ R, I64 (sN u (m + i)) R ∧ k R = true
  | 0, i, P, k, hj, h, hp => by
    rw [Nat.zero_add]
    exact ⟨fun l h1 h2 => by omega, P, hp, h⟩
  | m + 1, i, P, k, hj, h, hp => by
    have hn : I64 (kw64 (2 * (8 - i) * (2 * (8 - i) + 1))) (cI (2 * (8 - i) * (2 * (8 - i) + 1))) := i64_cst (i_even ⟨i, by omega⟩)
    obtain ⟨e1, M, q1, h⟩ := cMl_ok h hu hp
    obtain ⟨e2, D, q2, h⟩ := cDv_ok h q1 hn
    obtain ⟨e3, Q, q3, h⟩ := cSb_ok h i_one q2
    obtain ⟨a, b⟩ := sCm_ok hu m (i + 1) Q k (by omega) h q3
    rw [show m + 1 + i = m + (i + 1) by omega]
    refine ⟨fun l h1 h2 => ?_, b⟩
    by_cases hl : l = i
    · subst hl; exact ⟨e1, e2, e3⟩
    · exact a l (by omega) h2
def sTop : Nat := 2748779069440
def s4I : Iv := ⟨1065000000000, 1099511627776⟩
theorem s_coarse {u : Nat} {U : Iv} (hu : I64 u U) (h : Nat.ble U.hi sTop = true) : (∀ l, l < 4 → SinE u l) ∧ I64 (sN u 4) s4I := by
  obtain ⟨a, R, b, c⟩ := sCm_ok (hu.mono (B := ⟨0, sTop⟩) (Nat.zero_le _) (Nat.le_of_ble_eq_true h)) 4 0 (cI 1) (within 1065000000000 1099511627776) (by omega) (by decide +kernel) i_one
  exact ⟨fun l hl => a l (Nat.zero_le _) (by omega), b.within c⟩

end Go.Proofs.Ytkhoifgljalfcaa
