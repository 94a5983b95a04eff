/- Points in sixteenths: what the reckoning tells of the words of their angles, lengths and sines. No program. -/
import Derived.Test.YtkhoifgljalfcaaLe
namespace Go.Proofs.Ytkhoifgljalfcaa
open Ieee
set_option linter.unusedVariables false
set_option linter.unusedSimpArgs false

/-! ### The angle's words -/
def tN (t : Nat) : Nat → Nat
  | 0 => t
  | i + 1 => tS (tN t i)
def t3W (s g : Nat) : Nat := tN (dv s g) 3
def uA (s g : Nat) : Nat := ml (t3W s g) (t3W s g)
def mA (s g : Nat) : Nat := ml (t3W s g) (pN (uA s g) 8)
def a0W (s g : Nat) : Nat := dv (ml wEight (mA s g)) wTurn
def a1W (s g : Nat) (gt : Bool) : Nat := if gt then sb wQuart (a0W s g) else a0W s g
def a2W (s g : Nat) (gt xn : Bool) : Nat := if xn then sb wHalf (a1W s g gt) else a1W s g gt
structure AngE (s g : Nat) (gt : Bool) : Prop where
  e0 : double.div s g = some (dv s g)
  e1 : ∀ i, i < 3 → StepE (tN (dv s g) i)
  e2 : double.mul (t3W s g) (t3W s g) = some (uA s g)
  e3 : ∀ l, l < 8 → RowE (uA s g) l
  e4 : double.mul (t3W s g) (pN (uA s g) 8) = some (mA s g)
  e5 : double.mul wEight (mA s g) = some (ml wEight (mA s g))
  e6 : double.div (ml wEight (mA s g)) wTurn = some (a0W s g)
  e7 : gt = true → double.sub wQuart (a0W s g) = some (sb wQuart (a0W s g))
theorem angC_ok {s g : Nat} {S B : Iv} {gt : Bool} {k : Iv → Bool} (h : angC S B gt k = true) (hs : I64 s S) (hg : I64 g B) : AngE s g gt ∧ ∃ R, I64 (a1W s g gt) R ∧ k R = true := by
  unfold angC at h
  obtain ⟨e0, T0, q0, h⟩ := cDv_ok h hs hg
  obtain ⟨s0, T1, q1, h⟩ := stC_ok h q0
  obtain ⟨s1, T2, q2, h⟩ := stC_ok h q1
  obtain ⟨s2, T3, q3, h⟩ := stC_ok h q2
  obtain ⟨e2, U, q4, h⟩ := cMl_ok h q3 q3
  rw [Bool.and_eq_true] at h
  obtain ⟨c0, c1⟩ := p_coarse q4 h.1
  obtain ⟨e3, P, q5, h⟩ := pCm_ok q4 3 5 p5I _ (by omega) h.2 c1
  obtain ⟨e4, M, q6, h⟩ := cMl_ok h q3 q5
  obtain ⟨e5, E, q7, h⟩ := cMl_ok h i_eight q6
  obtain ⟨e6, A0, q8, h⟩ := cDv_ok h q7 i_turn
  have rows : ∀ l, l < 8 → RowE (uA s g) l := fun l hl => by
    by_cases h5 : l < 5
    · exact c0 l h5
    · exact e3 l (by omega) (by omega)
  have steps : ∀ i, i < 3 → StepE (tN (dv s g) i) := fun i hi => by
    match i, hi with
    | 0, _ => exact s0
    | 1, _ => exact s1
    | 2, _ => exact s2
  cases gt
  · exact ⟨⟨e0, steps, e2, rows, e4, e5, e6, fun h => (by cases h)⟩, A0, q8, h⟩
  · have iq : I64 wQuart ⟨quart, quart⟩ := i_quart
    obtain ⟨e7, R, q9, h⟩ := cSb_ok h iq q8
    exact ⟨⟨e0, steps, e2, rows, e4, e5, e6, fun _ => e7⟩, R, q9, h⟩

/-! ### Coarser grids -/
theorem crs_ok {A : Iv} {s : Nat} (hs : 0 < s) {k : Nat → Nat → Bool} (h : crs A s k = true) : ∃ l u, l * s ≤ A.lo ∧ A.hi ≤ u * s ∧ u ≤ 16777216 ∧ k l u = true := by
  unfold crs at h
  rw [seqN_eq, seqN_eq, Bool.and_eq_true] at h
  exact ⟨_, _, Nat.div_mul_le_self _ _, ceil_mul _ _ hs, Nat.le_of_ble_eq_true h.1, h.2⟩
theorem iv_le {w : Nat} {A : Iv} (h : I64 w A) : A.lo ≤ A.hi := by
  have := Int.le_trans h.lo h.hi
  have := Int.le_of_mul_le_mul_right this (pow_pos_z k64)
  omega

/-! ### The length -/
/-- The root of a word, told by conversions. -/
structure RootL (x q : Nat) : Prop where
  ex : ∃ d s, floatToFloatBits .f32 x .f64 = some d ∧ double.sqrt d = some s ∧ floatToFloatBits .f64 s .f32 = some q
  lt : q < 4294967296
  fin : isFin single q
theorem lngC_ok {p q : Nat} {k : Iv → Bool} (h : lngC p q k = true) {r : Nat} (hr : In single 141 r ((p * p + q * q : Nat) : Int) ((p * p + q * q : Nat) : Int)) :
    ∃ lw, RootL r lw ∧ floatToFloatBits .f32 lw .f64 = some (wdn lw) ∧ ∃ G, I64 (wdn lw) G ∧ k G = true := by
  unfold lngC at h
  rw [seqN_eq] at h
  obtain ⟨e1, d1, _, _⟩ := in_wide (k := 141) (s := 32) rfl hr
  have hd : I64 (wdn r) ⟨(p * p + q * q) * 4294967296, (p * p + q * q) * 4294967296⟩ := by
    refine ⟨d1.fin, ?_, ?_⟩
    · show (((p * p + q * q) * 4294967296 : Nat) : Int) * _ ≤ _
      rw [Int.natCast_mul]; exact d1.lo
    · show _ ≤ (((p * p + q * q) * 4294967296 : Nat) : Int) * _
      rw [Int.natCast_mul]; exact d1.hi
  obtain ⟨e2, S, q2, h⟩ := cSq_ok h hd
  obtain ⟨l, u, h1, h2, h3, h⟩ := crs_ok (by omega) h
  have hlu : l ≤ u := by have := iv_le q2; omega
  obtain ⟨e3, n3, lt3⟩ := in_narrow (k := 128) (s := 19) rfl (by omega) q2 (L := (l : Int)) (H := (u : Int)) (by
      rw [← Int.natCast_mul]; exact Int.ofNat_le.2 (by simpa using h1)) (by rw [← Int.natCast_mul]; exact Int.ofNat_le.2 (by simpa using h2)) (by simp; omega) (by simpa using h3)
  obtain ⟨e4, d4, _, _⟩ := in_wide (k := 128) (s := 19) rfl n3
  refine ⟨_, ⟨⟨_, _, e1, e2, e3⟩, lt3, n3.fin⟩, e4, _, ⟨d4.fin, ?_, ?_⟩, h⟩
  · show ((l * 524288 : Nat) : Int) * _ ≤ _
    rw [Int.natCast_mul]; exact d4.lo
  · show _ ≤ ((u * 524288 : Nat) : Int) * _
    rw [Int.natCast_mul]; exact d4.hi

/-! ### Gaps -/
def wEps : Nat := 4547007122018943789
theorem i_eps : I64 wEps ⟨109951162, 109951163⟩ := i64_cst (by decide +kernel)
/-- The sine's word of 64 bits, with its sign. -/
def sgW (f : Nat) : Nat := if tu f then neg_ double (outW f) else outW f
/-- What a product stands near to. -/
structure NearZ (pr : Nat) (Z : Int) : Prop where
  ex : ∃ lo hi : Int, In double k64 pr lo hi ∧ hi - Z ≤ 109951162 ∧ Z - lo ≤ 109951162
theorem gapK_ok {f lw : Nat} {G S : Iv} {Z : Int} (hG : I64 lw G) (hS : I64 (outW f) S) (h : gapK G Z S (tu f) = true) :
    floatToFloatBits .f64 (sgW f) .f32 = some (nr (sgW f)) ∧ nr (sgW f) < 4294967296 ∧ floatToFloatBits .f32 (nr (sgW f)) .f64 = some (wdn (nr (sgW f))) ∧ ∃ pr, double.mul (wdn (nr (sgW f))) lw = some pr ∧ NearZ pr Z := by
  unfold gapK at h
  obtain ⟨l, u, h1, h2, h3, h⟩ := crs_ok (by omega) h
  rw [Iv.seq_eq, Bool.and_eq_true] at h
  obtain ⟨hok, h⟩ := h
  have hok2 := Iv.ok_hi hok
  have hlu : l ≤ u := by have := iv_le hS; omega
  obtain ⟨t, et, t1, t2⟩ := nat_pos_scale hG
  have h1' : ((l : Nat) : Int) * ((2 ^ 17 : Nat) : Int) ≤ ((S.lo : Nat) : Int) := by rw [← Int.natCast_mul]; exact Int.ofNat_le.2 (by simpa using h1)
  have h2' : ((S.hi : Nat) : Int) ≤ ((u : Nat) : Int) * ((2 ^ 17 : Nat) : Int) := by rw [← Int.natCast_mul]; exact Int.ofNat_le.2 (by simpa using h2)
  have hM : ∀ s : Nat, l * 131072 * 2 ^ k64 ≤ s → s ≤ u * 131072 * 2 ^ k64 → (mlI ⟨l * 131072, u * 131072⟩ G).lo * 2 ^ k64 * 2 ^ (40 + k64) ≤ s * t ∧ s * t ≤ (mlI ⟨l * 131072, u * 131072⟩ G).hi * 2 ^ k64 * 2 ^ (40 + k64) := by
    intro s s1 s2
    constructor
    · refine Nat.le_trans ?_ (Nat.mul_le_mul s1 t1)
      show l * 131072 * G.lo / one40 * 2 ^ k64 * 2 ^ (40 + k64) ≤ l * 131072 * 2 ^ k64 * (G.lo * 2 ^ k64)
      have := Nat.div_mul_le_self (l * 131072 * G.lo) one40
      rw [Nat.pow_add, ← one40_eq]
      generalize 2 ^ k64 = p at *
      calc l * 131072 * G.lo / one40 * p * (one40 * p) = l * 131072 * G.lo / one40 * one40 * (p * p) := by rw [Nat.mul_mul_mul_comm]
        _ ≤ l * 131072 * G.lo * (p * p) := Nat.mul_le_mul_right _ this
        _ = _ := by rw [Nat.mul_mul_mul_comm]
    · refine Nat.le_trans (Nat.mul_le_mul s2 t2) ?_
      show u * 131072 * 2 ^ k64 * (G.hi * 2 ^ k64) ≤ (u * 131072 * G.hi + (one40 - 1)) / one40 * 2 ^ k64 * 2 ^ (40 + k64)
      have : u * 131072 * G.hi ≤ (u * 131072 * G.hi + (one40 - 1)) / one40 * one40 := ceil_mul _ _ (by unfold one40; omega)
      rw [Nat.pow_add, ← one40_eq]
      generalize 2 ^ k64 = p at *
      calc u * 131072 * p * (G.hi * p) = u * 131072 * G.hi * (p * p) := by rw [Nat.mul_mul_mul_comm]
        _ ≤ (u * 131072 * G.hi + (one40 - 1)) / one40 * one40 * (p * p) := Nat.mul_le_mul_right _ this
        _ = _ := by rw [Nat.mul_mul_mul_comm]
  generalize mlI ⟨l * 131072, u * 131072⟩ G = M at *
  have htop : ((M.lo : Nat) : Int).natAbs ≤ 2 * double.binade ∧ ((M.hi : Nat) : Int).natAbs ≤ 2 * double.binade := by rw [bin64, Int.natAbs_natCast, Int.natAbs_natCast]; exact ⟨by omega, hok2.2⟩
  have hE : (gapE : Int) = 109951162 := rfl
  have h17 : (2 : Nat) ^ 17 = 131072 := rfl
  cases ht : tu f
  · rw [ht] at h
    simp only [Bool.and_eq_true, decide_eq_true_eq, hE] at h
    have eS : sgW f = outW f := by unfold sgW; rw [ht]; rfl
    rw [eS]
    obtain ⟨e1, n1, lt1⟩ := in_narrow (k := 126) (s := 17) rfl (by omega) hS (L := (l : Int)) (H := (u : Int)) h1' h2' (by simp; omega) (by simpa using h3)
    obtain ⟨e2, d2, lt2, _⟩ := in_wide (k := 126) (s := 17) rfl n1
    refine ⟨e1, lt1, e2, ?_⟩
    have a1 := d2.lo
    have a2 := d2.hi
    rw [← Int.natCast_mul, ← Int.natCast_mul] at a1 a2
    obtain ⟨s, es⟩ := Int.eq_ofNat_of_zero_le (show 0 ≤ sv double (wdn (nr (outW f))) by omega)
    rw [es] at a1 a2
    have a1' := Int.ofNat_le.1 a1
    have a2' := Int.ofNat_le.1 a2
    rw [h17] at a1' a2'
    obtain ⟨b1, b2⟩ := hM s a1' a2'
    obtain ⟨pr, e3, i3⟩ := in_mul hf64 hL64 (grid64 (k := k64) (by unfold k64; omega)) d2.fin hG.fin (lo := (M.lo : Int)) (hi := (M.hi : Int)) (by rw [toL64, es, et, ← Int.natCast_mul, ← Int.natCast_mul, ← Int.natCast_mul]; exact Int.ofNat_le.2 b1) (by rw [toL64, es, et, ← Int.natCast_mul, ← Int.natCast_mul, ← Int.natCast_mul]; exact Int.ofNat_le.2 b2) htop.1 htop.2
    exact ⟨pr, e3, ⟨_, _, i3, h.1, h.2⟩⟩
  · rw [ht] at h
    simp only [Bool.and_eq_true, decide_eq_true_eq, hE] at h
    have eS : sgW f = neg_ double (outW f) := by unfold sgW; rw [ht]; rfl
    rw [eS]
    obtain ⟨e1, n1, lt1⟩ := in_narrow (k := 126) (s := 17) rfl (by omega) (in_neg hS) (L := -(u : Int)) (H := -(l : Int)) (by rw [Int.neg_mul]; exact Int.neg_le_neg h2') (by rw [Int.neg_mul]; exact Int.neg_le_neg h1') (by rw [Int.natAbs_neg, Int.natAbs_natCast]; exact h3) (by rw [Int.natAbs_neg, Int.natAbs_natCast]; exact Nat.le_trans hlu h3)
    obtain ⟨e2, d2, lt2, _⟩ := in_wide (k := 126) (s := 17) rfl n1
    refine ⟨e1, lt1, e2, ?_⟩
    have a1 := d2.lo
    have a2 := d2.hi
    rw [Int.neg_mul, Int.neg_mul, ← Int.natCast_mul, ← Int.natCast_mul] at a1 a2
    have hneg : sv double (wdn (nr (neg_ double (outW f)))) ≤ 0 := Int.le_trans a2 (Int.neg_nonpos_of_nonneg (Int.natCast_nonneg _))
    obtain ⟨s, es⟩ := Int.eq_ofNat_of_zero_le (Int.neg_nonneg_of_nonpos hneg)
    have es' : sv double (wdn (nr (neg_ double (outW f)))) = -(s : Int) := by rw [← es, Int.neg_neg]
    rw [es'] at a1 a2
    have a1' := Int.ofNat_le.1 (Int.le_of_neg_le_neg a1)
    have a2' := Int.ofNat_le.1 (Int.le_of_neg_le_neg a2)
    rw [h17] at a1' a2'
    obtain ⟨b1, b2⟩ := hM s a2' a1'
    obtain ⟨pr, e3, i3⟩ := in_mul hf64 hL64 (grid64 (k := k64) (by unfold k64; omega)) d2.fin hG.fin (lo := -(M.hi : Int)) (hi := -(M.lo : Int)) (by rw [toL64, es', et, Int.neg_mul, Int.neg_mul, Int.neg_mul, ← Int.natCast_mul, ← Int.natCast_mul, ← Int.natCast_mul]; exact Int.neg_le_neg (Int.ofNat_le.2 b2)) (by rw [toL64, es', et, Int.neg_mul, Int.neg_mul, Int.neg_mul, ← Int.natCast_mul, ← Int.natCast_mul, ← Int.natCast_mul]; exact Int.neg_le_neg (Int.ofNat_le.2 b1)) (by rw [Int.natAbs_neg]; exact htop.2) (by rw [Int.natAbs_neg]; exact htop.1)
    exact ⟨pr, e3, ⟨_, _, i3, by have := h.2; omega, by have := h.1; omega⟩⟩
/-- The gap is small, whichever way it is taken. -/
theorem gap_small {pr y : Nat} {Z : Int} (hp : NearZ pr Z) (hy : In double k64 y Z Z) :
    (∃ r, double.sub y pr = some r ∧ lt64 wEps r = false) ∧ (∃ r, double.sub pr y = some r ∧ lt64 wEps r = false) := by
  obtain ⟨lo, hi, i1, h1, h2⟩ := hp.ex
  have fin : ∀ r, In double k64 r (-109951162) 109951162 → lt64 wEps r = false := by
    intro r ir
    rw [lt64_sv i_eps.fin ir.fin, decide_eq_false_iff_not]
    have a := i_eps.lo
    have b := ir.hi
    have : ((109951162 : Nat) : Int) = 109951162 := rfl
    rw [this] at a
    omega
  obtain ⟨r1, e1, q1⟩ := in_sub hf64 (grid64 (k := k64) (by unfold k64; omega)) hy i1 (lo := -109951162) (hi := 109951162) (by omega) (by omega) (by rw [bin64]; decide) (by rw [bin64]; decide)
  obtain ⟨r2, e2, q2⟩ := in_sub hf64 (grid64 (k := k64) (by unfold k64; omega)) i1 hy (lo := -109951162) (hi := 109951162) (by omega) (by omega) (by rw [bin64]; decide) (by rw [bin64]; decide)
  exact ⟨⟨r1, e1, fin _ q1⟩, ⟨r2, e2, fin _ q2⟩⟩

/-! ### Whole parts -/
def trW (x : Nat) : Nat := FloatKind.f64.encode ((FloatKind.f64.decode x).integral .zero)
theorem trunc_small {x : Nat} {b : Int} (h : In double k64 x (-b) b) (hb : b < (one40 : Int)) : trW x = double.word (sgn double x) 0 ∧ ∃ s m i, FloatKind.f64.decode x = .number s m i := by
  obtain ⟨m, t, e, u⟩ := read_fin double h.fin
  have hlt : m * 2 ^ t < 2 ^ kd := by
    rw [u]
    have h1 := h.lo
    have h2 := h.hi
    have hp := pow_pos_z k64
    have h3 : b * ((2 ^ k64 : Nat) : Int) < ((2 ^ kd : Nat) : Int) := by
      rw [show kd = 40 + k64 from rfl, Nat.pow_add, ← one40_eq, Int.natCast_mul]
      exact Int.mul_lt_mul_of_pos_right hb hp
    rw [Int.neg_mul] at h1
    have h4 : (unit double (rg double x) : Int) < ((2 ^ kd : Nat) : Int) := by
      unfold sv at h1 h2
      generalize unit double (rg double x) = U at *
      cases hs : sgn double x
      · rw [hs] at h2
        simp only [Bool.false_eq_true, if_false] at h2
        exact Int.lt_of_le_of_lt h2 h3
      · rw [hs] at h1
        simp only [if_true] at h1
        exact Int.lt_of_le_of_lt (Int.le_of_neg_le_neg h1) h3
    exact Int.ofNat_lt.1 h4
  have e' : FloatKind.f64.decode x = .number (sgn double x) m (double.leastPlace + t) := e
  refine ⟨?_, _, _, _, e'⟩
  unfold trW
  rw [e']
  have hc : Toward.zero.cut (sgn double x) (m <<< (double.leastPlace + (t : Int)).toNat) (-(double.leastPlace + (t : Int))).toNat = 0 := by
    rw [db_L]
    unfold Toward.cut
    simp only [Bool.toNat_false, Nat.add_zero, Nat.shiftLeft_eq, Nat.one_mul]
    apply Nat.div_eq_of_lt
    rcases Nat.lt_or_ge t kd with g | g
    · have e1 : (-1074 + (t : Int)).toNat = 0 := by unfold kd at g; omega
      have e2 : (-(-1074 + (t : Int))).toNat = kd - t := by unfold kd; omega
      rw [e1, e2, Nat.pow_zero, Nat.mul_one]
      rcases Nat.le_total (kd - t) (m.log2 + 2) with g2 | g2
      · rw [Nat.min_eq_left g2]
        have : m * 2 ^ t < 2 ^ (kd - t) * 2 ^ t := by rw [← Nat.pow_add, Nat.sub_add_cancel (Nat.le_of_lt g)]; exact hlt
        exact Nat.lt_of_mul_lt_mul_right this
      · rw [Nat.min_eq_right g2]
        exact Nat.lt_of_lt_of_le Nat.lt_log2_self (Nat.pow_le_pow_right (by omega) (by omega))
    · have hm : m = 0 := by
        rcases Nat.eq_zero_or_pos m with g2 | g2
        · exact g2
        · exfalso
          have : 2 ^ kd ≤ m * 2 ^ t := Nat.le_trans (Nat.pow_le_pow_right (by omega) g) (Nat.le_mul_of_pos_left _ g2)
          omega
      subst hm
      rw [Nat.zero_mul]
      exact Nat.two_pow_pos _
  show double.nearest (sgn double x) (Toward.zero.cut (sgn double x) (m <<< (double.leastPlace + (t : Int)).toNat) (-(double.leastPlace + (t : Int))).toNat) 0 = _
  rw [hc, nearest_eq double _ 0 0 0 (by rw [db_L]; omega)]
  have : rd0 double (0 * 2 ^ (0 + ((0 : Nat) : Int) - double.leastPlace).toNat) 0 = 0 := by unfold rd0; simp
  rw [this]; simp

/-! ### A point -/
/-- What is told of a sine: of the word A, with the length lw, near to Z. -/
structure SinP (A lw : Nat) (Z : Int) : Prop where
  lt : A < 4294967296
  fin : isFin single A
  w : floatToFloatBits .f32 A .f64 = some (wdn A)
  bd : In double k64 (wdn A) (-824633720832) 824633720832
  e : SineE (wdn A)
  n : floatToFloatBits .f64 (sgW (wdn A)) .f32 = some (nr (sgW (wdn A)))
  nl : nr (sgW (wdn A)) < 4294967296
  nw : floatToFloatBits .f32 (nr (sgW (wdn A))) .f64 = some (wdn (nr (sgW (wdn A))))
  pr : ∃ pr, double.mul (wdn (nr (sgW (wdn A)))) (wdn lw) = some pr ∧ NearZ pr Z
theorem sinP_of {A lw : Nat} {L H Z : Int} {G : Iv} (hA : In single 125 A L H) (hlt : A < 4294967296) (h1 : -12582912 ≤ L) (h2 : H ≤ 12582912) (hG : I64 (wdn lw) G) (hk : sinK (L * 65536) (H * 65536) (gapK G Z) = true) : SinP A lw Z := by
  obtain ⟨e1, d1, _, _⟩ := in_wide (k := 125) (s := 16) rfl hA
  obtain ⟨se, R, iR, hR⟩ := sinK_ok hk d1
  obtain ⟨n1, n2, n3, n4⟩ := gapK_ok hG iR hR
  exact ⟨hlt, hA.fin, e1, in_mono d1 (by show (-824633720832 : Int) ≤ L * 65536; omega) (by show H * 65536 ≤ (824633720832 : Int); omega), se, n1, n2, n3, n4⟩
def wQ32 : Nat := 1048576000
theorem in_q32 : In single 125 wQ32 4194304 4194304 := ⟨by unfold isFin; decide, by decide +kernel, by decide +kernel⟩
/-- What is told of a point: of the angle's word of 64 bits, its word of 32 bits, its sine and its cosine. -/
structure PntE (c lw : Nat) (Y X : Int) : Prop where
  n : floatToFloatBits .f64 c .f32 = some (nr c)
  a : ∃ L H, In single 125 (nr c) L H ∧ -8388608 ≤ L ∧ H ≤ 8388608
  s : SinP (nr c) lw Y
  q : ∃ A, floatBits .add .f32 (nr c) wQ32 = some A ∧ SinP A lw X
theorem twoC_ok {c lw p q l h : Nat} {xn yn : Bool} {G T : Iv} (hT : I64 c T) (hl : l * 65536 ≤ T.lo) (hh : T.hi ≤ h * 65536) (hG : I64 (wdn lw) G) (hk : twoC G p q xn yn l h = true) :
    PntE (if yn then neg_ double c else c) lw (sgZ yn (p * p36)) (sgZ xn (q * p36)) := by
  unfold twoC at hk
  rw [Bool.and_eq_true] at hk
  obtain ⟨h8, hk⟩ := hk
  have h8 := Nat.le_of_ble_eq_true h8
  have hlh : l ≤ h := by have := iv_le hT; omega
  have h1' : ((l : Nat) : Int) * ((2 ^ 16 : Nat) : Int) ≤ ((T.lo : Nat) : Int) := by rw [← Int.natCast_mul]; exact Int.ofNat_le.2 (by simpa using hl)
  have h2' : ((T.hi : Nat) : Int) ≤ ((h : Nat) : Int) * ((2 ^ 16 : Nat) : Int) := by rw [← Int.natCast_mul]; exact Int.ofNat_le.2 (by simpa using hh)
  have key : ∀ (c' : Nat) (L H : Int), In double k64 c' (L * 65536) (H * 65536) → -8388608 ≤ L → H ≤ 8388608 → L ≤ H → sinK (L * 65536) (H * 65536) (gapK G (sgZ yn (p * p36))) = true → sinK ((L + 4194304) * 65536) ((H + 4194304) * 65536) (gapK G (sgZ xn (q * p36))) = true → PntE c' lw (sgZ yn (p * p36)) (sgZ xn (q * p36)) := by
    intro c' L H hc g1 g2 g3 k1 k2
    obtain ⟨e1, n1, lt1⟩ := in_narrow (k := 125) (s := 16) rfl (by omega) hc (L := L) (H := H) (Int.le_refl _) (Int.le_refl _) (by omega) (by omega)
    refine ⟨e1, ⟨L, H, n1, g1, g2⟩, sinP_of n1 lt1 (by omega) (by omega) hG k1, ?_⟩
    obtain ⟨A, eA, iA⟩ := in_add (f := single) (by decide) (grid32 (k := 125) (by omega)) n1 in_q32 (lo := L + 4194304) (hi := H + 4194304) (Int.le_refl _) (Int.le_refl _) (by rw [sg_bin]; omega) (by rw [sg_bin]; omega)
    have hlt : A < 4294967296 := by
      have := add_fin single n1.fin in_q32.fin
      rw [this] at eA
      injection eA with eA
      rw [← eA]
      exact word_lt32 _ (Nat.min_le_right _ _)
    exact ⟨A, eA, sinP_of iA hlt (by omega) (by omega) hG k2⟩
  cases yn
  · simp only [Bool.and_eq_true] at hk
    simp only [Bool.false_eq_true, if_false]
    refine key c l h (in_mono hT h1' h2') (by omega) (by omega) (by omega) ?_ ?_
    · have := hk.1
      rw [Int.natCast_mul, Int.natCast_mul] at this
      exact this
    · have := hk.2
      rw [Int.natCast_mul, Int.natCast_mul, Int.natCast_add, Int.natCast_add] at this
      exact this
  · simp only [Bool.and_eq_true] at hk
    simp only [if_true]
    refine key (neg_ double c) (-(h : Int)) (-(l : Int)) (in_mono (in_neg hT) (by omega) (by omega)) (by omega) (by omega) (by omega) ?_ ?_
    · have := hk.1
      rw [Int.natCast_mul, Int.natCast_mul] at this
      rw [Int.neg_mul, Int.neg_mul]
      exact this
    · have := hk.2
      rw [Int.natCast_mul, Int.natCast_mul] at this
      rw [show (-(h : Int) + 4194304) * 65536 = 274877906944 - (h : Int) * ((65536 : Nat) : Int) by omega, show (-(l : Int) + 4194304) * 65536 = 274877906944 - (l : Int) * ((65536 : Nat) : Int) by omega]
      exact this
/-- What is told of a point in sixteenths: |y| is p, |x| is q. -/
structure PntF (p q : Nat) (s g r lw : Nat) : Prop where
  root : RootL r lw
  wide : floatToFloatBits .f32 lw .f64 = some (wdn lw)
  ang : AngE s g (Nat.blt q p)
  e8 : double.sub wHalf (a1W s g (Nat.blt q p)) = some (sb wHalf (a1W s g (Nat.blt q p)))
  pos : ∀ xn, In double k64 (a2W s g (Nat.blt q p) xn) 0 (one40 : Int)
  pt : ∀ xn yn, PntE (if yn then neg_ double (a2W s g (Nat.blt q p) xn) else a2W s g (Nat.blt q p) xn) lw (sgZ yn (p * p36)) (sgZ xn (q * p36))
theorem i_half' : I64 wHalf ⟨half, half⟩ := i_half
theorem small_pos {c l h : Nat} {T : Iv} (hT : I64 c T) (hh : T.hi ≤ h * 65536) (h8 : h ≤ 8388608) : In double k64 c 0 (one40 : Int) :=
  in_mono hT (Int.natCast_nonneg _) (Int.ofNat_le.2 (by unfold one40; omega))
theorem pnt_ok {p q : Nat} (h : pnt p q = true) {s g r : Nat} (hs : I64 s ⟨min p q * p36, min p q * p36⟩) (hg : I64 g ⟨max p q * p36, max p q * p36⟩) (hr : In single 141 r ((p * p + q * q : Nat) : Int) ((p * p + q * q : Nat) : Int)) : ∃ lw, PntF p q s g r lw := by
  unfold pnt at h
  obtain ⟨lw, hrt, hw, G, iG, h⟩ := lngC_ok h hr
  obtain ⟨ae, T, iT, h⟩ := angC_ok h hs hg
  rw [Bool.and_eq_true] at h
  obtain ⟨hA, hB⟩ := h
  obtain ⟨l, u, a1, a2, a3, hA⟩ := crs_ok (by omega) hA
  rw [Bool.and_eq_true] at hA
  obtain ⟨e8, T2, iT2, hB⟩ := cSb_ok hB i_half' iT
  obtain ⟨l2, u2, b1, b2, b3, hB⟩ := crs_ok (by omega) hB
  rw [Bool.and_eq_true] at hB
  have g1 : u ≤ 8388608 := by
    have := hA.1
    unfold twoC at this
    rw [Bool.and_eq_true] at this
    exact Nat.le_of_ble_eq_true this.1
  have g2 : u2 ≤ 8388608 := by
    have := hB.1
    unfold twoC at this
    rw [Bool.and_eq_true] at this
    exact Nat.le_of_ble_eq_true this.1
  refine ⟨lw, hrt, hw, ae, e8, fun xn => ?_, fun xn yn => ?_⟩
  · cases xn
    · exact small_pos (l := l) iT a2 g1
    · exact small_pos (l := l2) iT2 b2 g2
  · cases xn
    · cases yn
      · exact twoC_ok iT a1 a2 iG hA.1
      · exact twoC_ok iT a1 a2 iG hA.2
    · cases yn
      · exact twoC_ok iT2 b1 b2 iG hB.1
      · exact twoC_ok iT2 b1 b2 iG hB.2
/-- Some columns. -/
def colsC (a n : Nat) : Bool := Nat.rec true (fun i ih => colC (a + i) 64 && ih) n
theorem colC_at {q : Nat} : ∀ {n : Nat}, colC q n = true → ∀ p, p ≤ n → (p = 0 ∧ q = 0) ∨ pnt p q = true
  | 0, h, p, hp => by
    have h : (Nat.beq q 0 || pnt 0 q) = true := h
    rw [Bool.or_eq_true] at h
    obtain rfl : p = 0 := by omega
    rcases h with h | h
    · exact .inl ⟨rfl, Nat.eq_of_beq_eq_true h⟩
    · exact .inr h
  | n + 1, h, p, hp => by
    have h : (pnt (n + 1) q && colC q n) = true := h
    rw [Bool.and_eq_true] at h
    by_cases hn : p = n + 1
    · subst hn; exact .inr h.1
    · exact colC_at h.2 p (by omega)
theorem colsC_at {a : Nat} : ∀ {n : Nat}, colsC a n = true → ∀ q, a ≤ q → q < a + n → ∀ p, p ≤ 64 → (p = 0 ∧ q = 0) ∨ pnt p q = true
  | 0, h, q, h1, h2, p, hp => by omega
  | n + 1, h, q, h1, h2, p, hp => by
    have h : (colC (a + n) 64 && colsC a n) = true := h
    rw [Bool.and_eq_true] at h
    by_cases hn : q = a + n
    · subst hn; exact colC_at h.1 p hp
    · exact colsC_at h.2 q h1 (by omega) p hp

end Go.Proofs.Ytkhoifgljalfcaa
