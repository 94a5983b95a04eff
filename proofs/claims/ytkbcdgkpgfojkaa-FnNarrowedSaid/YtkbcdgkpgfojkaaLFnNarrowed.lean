/- The law FnNarrowed: the plain part and the walk. -/
import Derived.Test.YtkbcdgkpgfojkaaLaw
import Derived.Test.YtkbcdgkpgfojkaaFc
namespace Go.Proofs.Ytkbcdgkpgfojkaa
open Go.RowKit Ieee
set_option maxRecDepth 100000
set_option linter.unusedVariables false

theorem unit_bits2 (f : Format) (r : Nat) : ∃ K d, K < 2 * f.binade ∧ unit f r = K * 2 ^ d ∧ unit f (r + 1) = (K + 1) * 2 ^ d := by
  have hb := binade_pos f
  rw [unit_succ]
  unfold unit ulpr
  split
  · rename_i h
    refine ⟨r, 0, by omega, by simp, ?_⟩
    rw [Nat.div_eq_of_lt h]; simp
  · exact ⟨_, _, by have := Nat.mod_lt r hb; omega, rfl, by rw [Nat.add_mul (f.binade + r % f.binade), Nat.one_mul]⟩

/-- A word of 64 bits by its sign and its value, in units of the least place. -/
structure W64 (c : Nat) (neg : Bool) (N : Nat) : Prop where
  lt : c < 18446744073709551616
  fin : isFin double c
  sg : sgn double c = neg
  un : unit double (rg double c) = N
theorem W64.sv {c : Nat} {neg : Bool} {N : Nat} (h : W64 c neg N) : sv double c = if neg then -(N : Int) else (N : Int) := by
  unfold Go.Proofs.Ytkbcdgkpgfojkaa.sv; rw [h.sg, h.un]
theorem W64.fin64 {c : Nat} {neg : Bool} {N : Nat} (h : W64 c neg N) : fin64 c = true := (fin64_iff c).1 h.fin

theorem w64_word {neg : Bool} {r : Nat} (h : r < double.infRung) : W64 (double.word neg r) neg (unit double r) := by
  have hl : r < double.signWeight := Nat.lt_trans h double.infRung_lt
  exact ⟨double.word_lt neg hl, fin_word double neg h, sgn_word double neg hl, by rw [rg_word double neg hl]⟩

/-- A sum of two numbers of one sign that the format has. -/
theorem add64_same {a b : Nat} {s1 s2 neg : Bool} {M N K d : Nat} (ha : W64 a s1 M) (hb : W64 b s2 N) (h1 : s1 = neg ∨ M = 0) (h2 : s2 = neg ∨ N = 0) (h : M + N = K * 2 ^ d) (hK : K ≤ 2 * double.binade) (hlt : M + N < 2 ^ kE) (hpos : 0 < M + N) :
    ∃ c, floatBits .add .f64 a b = some c ∧ W64 c neg (M + N) := by
  obtain ⟨r, hr, ur⟩ := rung64_of h hK hlt
  refine ⟨double.word neg r, ?_, by rw [← ur]; exact w64_word hr⟩
  show double.add a b = _
  rw [add_fin double ha.fin hb.fin, ha.sv, hb.sv, ha.sg, hb.sg]
  have e0 : ((if s1 then -(M : Int) else (M : Int)) + (if s2 then -(N : Int) else (N : Int))) = if neg then -((M + N : Nat) : Int) else ((M + N : Nat) : Int) := by
    cases s1 <;> cases s2 <;> cases neg <;> simp at h1 h2 ⊢ <;> omega
  rw [e0]
  have e1 : (if neg then -((M + N : Nat) : Int) else ((M + N : Nat) : Int)).natAbs = M + N := by cases neg <;> simp <;> omega
  rw [e1]
  congr 1
  have e2 : (if (if neg then -((M + N : Nat) : Int) else ((M + N : Nat) : Int)) = 0 then s1 && s2 else decide ((if neg then -((M + N : Nat) : Int) else ((M + N : Nat) : Int)) < 0)) = neg := by
    have g1 : ¬ ((M + N : Nat) : Int) = 0 := by omega
    have g2 : ¬ ((M + N : Nat) : Int) < 0 := by omega
    have g3 : ¬ -((M + N : Nat) : Int) = 0 := by omega
    have g4 : -((M + N : Nat) : Int) < 0 := by omega
    cases neg
    · simp only [Bool.false_eq_true, if_false, if_neg g1, decide_eq_false g2]
    · simp only [if_true, if_neg g3, decide_eq_true g4]
  rw [e2]
  exact rnd_exact double (by decide) neg (by rw [Nat.pow_zero, Nat.mul_one, ur]) (Nat.le_of_lt hr)

def km : Nat := 1074
theorem db_km : (-double.leastPlace).toNat = km := by decide
theorem two64 : W64 4611686018427387904 false (2 ^ (km + 1)) := by
  refine ⟨by omega, (fin64_iff _).2 (by decide), by decide, ?_⟩
  decide +kernel

/-- Half of a number that the format has. -/
theorem half64 {a : Nat} {neg : Bool} {M N K d : Nat} (ha : W64 a neg M) (h : M = 2 * N) (hN : N = K * 2 ^ d) (hK : K ≤ 2 * double.binade) (hlt : N < 2 ^ kE) :
    ∃ c, floatBits .quo .f64 a 4611686018427387904 = some c ∧ W64 c neg N := by
  obtain ⟨r, hr, ur⟩ := rung64_of hN hK hlt
  refine ⟨double.word neg r, ?_, by rw [← ur]; exact w64_word hr⟩
  show double.div a _ = _
  obtain ⟨q, hq, e⟩ := div_fin double (by decide) (by decide) ha.fin two64.fin (by rw [two64.un]; exact Nat.two_pow_pos _)
  rw [e, ha.sg, two64.sg]
  rw [ha.un, two64.un] at hq
  have hqr : q = r := by
    refine hq.unique (Nat.two_pow_pos _) (D' := 1) (by omega) (IsRd.exact double (by omega) r) ?_
    rw [ur, h, db_km, Nat.pow_succ 2 km]
    generalize 2 ^ km = p
    rw [Nat.mul_one, Nat.mul_one, Nat.mul_comm p 2, ← Nat.mul_assoc, Nat.mul_comm N 2]
  subst hqr
  rw [Nat.min_eq_left (Nat.le_of_lt hr)]
  cases neg <;> rfl

/-- A word of 32 bits by its sign and its rung. -/
theorem sr32_word (neg : Bool) {r : Nat} (h : r < single.signWeight) : sr32 (single.word neg r) = if neg then -(r : Int) else (r : Int) := by
  rw [← sr_single]; unfold sr; rw [rg_word single neg h, sgn_word single neg h]
theorem nan32_word (neg : Bool) {r : Nat} (h : r ≤ single.infRung) : nan32 (single.word neg r) = false := by
  rw [← notNan_single]; unfold notNan; rw [rg_word single neg (Nat.lt_of_le_of_lt h single.infRung_lt)]; exact h
theorem sr32_rg (x : Nat) : sr32 x = if sgn single x then -(rg single x : Int) else (rg single x : Int) := by rw [← sr_single]; rfl

theorem isRd_tie {N p D : Nat} (hD : 0 < D) (h : 2 * N = mid single p * D) : IsRd single N D (if p % 2 = 0 then p else p + 1) := by
  split
  · rename_i hp
    refine ⟨fun q hq => .inl ?_, .inr ⟨h, hp⟩⟩
    rw [h]; exact Nat.mul_lt_mul_of_pos_right (mid_lt single (by omega)) hD
  · rename_i hp
    refine ⟨fun q hq => .inr ?_, .inl ?_⟩
    · have : q = p := by omega
      subst this; exact ⟨h.symm, by omega⟩
    · rw [h]; exact Nat.mul_lt_mul_of_pos_right (mid_lt single (by omega)) hD
theorem isRd_low {N p D : Nat} (hD : 0 < D) (h1 : 2 * unit single p * D ≤ 2 * N) (h2 : 2 * N < mid single p * D) : IsRd single N D p := by
  refine ⟨fun q hq => .inl ?_, .inl h2⟩
  have : mid single q < 2 * unit single p := by rw [mid_eq, hq]; have := unit_lt_succ single q; rw [hq] at this; omega
  exact Nat.lt_of_lt_of_le (Nat.mul_lt_mul_of_pos_right this hD) h1
theorem isRd_high {N p D : Nat} (hD : 0 < D) (h1 : mid single p * D < 2 * N) (h2 : 2 * N ≤ 2 * unit single (p + 1) * D) : IsRd single N D (p + 1) := by
  refine ⟨fun q hq => .inl ?_, .inl ?_⟩
  · have : q = p := by omega
    subst this; exact h1
  · have : 2 * unit single (p + 1) < mid single (p + 1) := by unfold mid; have := ulpr_pos single (p + 1); omega
    exact Nat.lt_of_le_of_lt h2 (Nat.mul_lt_mul_of_pos_right this hD)

/-- The whole chain of the law, for numbers of which one is the next of the other: 'p' the rung nearer to zero. -/
structure Chain (x y : Nat) : Prop where
  out : ∃ cx cy s1 md s2 lo s3 hi n1 n2 n3 : Nat, floatToFloatBits .f32 x .f64 = some cx ∧ floatToFloatBits .f32 y .f64 = some cy ∧
    floatBits .add .f64 cx cy = some s1 ∧ floatBits .quo .f64 s1 4611686018427387904 = some md ∧
    floatBits .add .f64 cx md = some s2 ∧ floatBits .quo .f64 s2 4611686018427387904 = some lo ∧
    floatBits .add .f64 cy md = some s3 ∧ floatBits .quo .f64 s3 4611686018427387904 = some hi ∧
    floatToFloatBits .f64 md .f32 = some n1 ∧ floatToFloatBits .f64 lo .f32 = some n2 ∧ floatToFloatBits .f64 hi .f32 = some n3 ∧
    eq32 n1 (if rg single x % 2 = 1 then y else x) = true ∧ eq32 n2 x = true ∧ eq32 n3 y = true

/-- What both signs have in common: the magnitudes A, B of x and y are K and K + 1, in some order. -/
theorem chain_of {x y : Nat} (hx : fin32 x = true) (hy : fin32 y = true) (neg : Bool) (p K d A B : Nat) (hK : K < 2 * single.binade)
    (up : unit single p = K * 2 ^ d) (uq : unit single (p + 1) = (K + 1) * 2 ^ d) (hp : p + 1 < single.infRung)
    (ux : unit single (rg single x) = A * 2 ^ d) (uy : unit single (rg single y) = B * 2 ^ d) (hAB : (A = K ∧ B = K + 1) ∨ (A = K + 1 ∧ B = K))
    (sx : sgn single x = neg ∨ A = 0) (sy : sgn single y = neg ∨ B = 0) : Chain x y := by
  obtain ⟨cx, ex, lx, fx, gx, vx⟩ := wide_fin hx
  obtain ⟨cy, ey, ly, fy, gy, vy⟩ := wide_fin hy
  rw [ux] at vx
  rw [uy] at vy
  have hkw : kw = (kw - 2) + 2 := by decide
  generalize hw : kw - 2 = v at hkw
  have wx : W64 cx (sgn single x) (4 * A * 2 ^ (d + v)) := ⟨lx, fx, gx, by rw [vx, hkw, Nat.pow_add, Nat.pow_add]; generalize 2 ^ d = P; generalize 2 ^ v = Q; rw [Nat.mul_assoc 4, Nat.mul_comm 4, ← Nat.mul_assoc, ← Nat.mul_assoc]⟩
  have wy : W64 cy (sgn single y) (4 * B * 2 ^ (d + v)) := ⟨ly, fy, gy, by rw [vy, hkw, Nat.pow_add, Nat.pow_add]; generalize 2 ^ d = P; generalize 2 ^ v = Q; rw [Nat.mul_assoc 4, Nat.mul_comm 4, ← Nat.mul_assoc, ← Nat.mul_assoc]⟩
  have hbig : (K + 1) * 2 ^ d < 2 ^ ke := by rw [← uq, ← top32]; exact unit_lt single hp
  have hPP : 0 < 2 ^ (d + v) := Nat.two_pow_pos _
  have hcap : 8 * (K + 1) * 2 ^ (d + v) < 2 ^ kE := by
    have h1 : (K + 1) * 2 ^ d * 2 ^ (v + 3) < 2 ^ ke * 2 ^ (v + 3) := Nat.mul_lt_mul_of_pos_right hbig (Nat.two_pow_pos _)
    have h2 : (K + 1) * 2 ^ d * 2 ^ (v + 3) = 8 * (K + 1) * 2 ^ (d + v) := by rw [Nat.pow_add 2 v 3, Nat.pow_add 2 d v]; generalize 2 ^ d = P; generalize 2 ^ v = Q; rw [Nat.mul_assoc, Nat.mul_comm 8, Nat.mul_assoc (K + 1), Nat.mul_comm 8, Nat.mul_assoc P]
    have h3 : 2 ^ ke * 2 ^ (v + 3) ≤ 2 ^ kE := by rw [← Nat.pow_add]; exact Nat.pow_le_pow_right (by omega) (by rw [← hw]; decide)
    omega
  rw [sg_bin] at hK
  have hb : 2 * double.binade = 9007199254740992 := by decide
  generalize hP : 2 ^ (d + v) = P at *
  have cap : ∀ z, z ≤ 8 * (K + 1) → z * P < 2 ^ kE := fun z hz => Nat.lt_of_le_of_lt (Nat.mul_le_mul_right _ hz) hcap
  -- x + y
  obtain ⟨s1, es1, w1⟩ := add64_same (neg := neg) (K := 4 * (2 * K + 1)) (d := d + v) wx wy (by rcases sx with h | h; exact .inl h; exact .inr (by rw [h]; simp)) (by rcases sy with h | h; exact .inl h; exact .inr (by rw [h]; simp))
    (by rw [hP, ← Nat.add_mul]; congr 1; omega) (by rw [hb]; omega) (by rw [← Nat.add_mul]; exact cap _ (by omega)) (by rw [← Nat.add_mul]; exact Nat.mul_pos (by omega) hPP)
  have ew1 : 4 * A * P + 4 * B * P = 4 * (2 * K + 1) * P := by rw [← Nat.add_mul]; congr 1; omega
  rw [ew1] at w1
  obtain ⟨md, emd, wm⟩ := half64 (N := 2 * (2 * K + 1) * P) (K := 2 * (2 * K + 1)) (d := d + v) w1 (by rw [← Nat.mul_assoc]; congr 1; omega) (by rw [hP]) (by rw [hb]; omega) (cap _ (by omega))
  -- x + middle
  obtain ⟨s2, es2, w2⟩ := add64_same (neg := neg) (K := 4 * A + 2 * (2 * K + 1)) (d := d + v) wx wm (by rcases sx with h | h; exact .inl h; exact .inr (by rw [h]; simp)) (.inl rfl)
    (by rw [hP, ← Nat.add_mul]) (by rw [hb]; omega) (by rw [← Nat.add_mul]; exact cap _ (by omega)) (by rw [← Nat.add_mul]; exact Nat.mul_pos (by omega) hPP)
  rw [← Nat.add_mul] at w2
  obtain ⟨lo, elo, wl⟩ := half64 (N := (2 * A + (2 * K + 1)) * P) (K := 2 * A + (2 * K + 1)) (d := d + v) w2 (by rw [← Nat.mul_assoc]; congr 1; omega) (by rw [hP]) (by rw [hb]; omega) (cap _ (by omega))
  obtain ⟨s3, es3, w3⟩ := add64_same (neg := neg) (K := 4 * B + 2 * (2 * K + 1)) (d := d + v) wy wm (by rcases sy with h | h; exact .inl h; exact .inr (by rw [h]; simp)) (.inl rfl)
    (by rw [hP, ← Nat.add_mul]) (by rw [hb]; omega) (by rw [← Nat.add_mul]; exact cap _ (by omega)) (by rw [← Nat.add_mul]; exact Nat.mul_pos (by omega) hPP)
  rw [← Nat.add_mul] at w3
  obtain ⟨hi, ehi, wh⟩ := half64 (N := (2 * B + (2 * K + 1)) * P) (K := 2 * B + (2 * K + 1)) (d := d + v) w3 (by rw [← Nat.mul_assoc]; congr 1; omega) (by rw [hP]) (by rw [hb]; omega) (cap _ (by omega))
  -- back to 32 bits
  have hDk : 0 < 2 ^ kw := Nat.two_pow_pos _
  have hmid : mid single p * 2 ^ kw = 4 * (2 * K + 1) * P := by
    rw [mid_eq, up, uq, ← Nat.add_mul, hkw, ← hP, Nat.pow_add 2 v 2, Nat.pow_add 2 d v]; generalize 2 ^ d = P; generalize 2 ^ v = Q
    rw [Nat.mul_assoc (K + (K + 1)), ← Nat.mul_assoc P, Nat.mul_comm (P * Q), ← Nat.mul_assoc]; congr 1; omega
  have hup : unit single p * 2 ^ kw = 4 * K * P := by
    rw [up, hkw, ← hP, Nat.pow_add 2 v 2, Nat.pow_add 2 d v]; generalize 2 ^ d = P; generalize 2 ^ v = Q
    rw [Nat.mul_assoc K, ← Nat.mul_assoc P, Nat.mul_comm (P * Q), ← Nat.mul_assoc]; congr 1; omega
  have huq : unit single (p + 1) * 2 ^ kw = 4 * (K + 1) * P := by
    rw [uq, hkw, ← hP, Nat.pow_add 2 v 2, Nat.pow_add 2 d v]; generalize 2 ^ d = P; generalize 2 ^ v = Q
    rw [Nat.mul_assoc (K + 1), ← Nat.mul_assoc P, Nat.mul_comm (P * Q), ← Nat.mul_assoc]; congr 1; omega
  have nlow : ∀ c, W64 c neg ((4 * K + 1) * P) → floatToFloatBits .f64 c .f32 = some (single.word neg p) := by
    intro c hc
    have := narrow_fin hc.fin64 p (by rw [hc.un]; exact isRd_low hDk (by rw [Nat.mul_assoc, hup]; exact Nat.mul_le_mul_left 2 (Nat.mul_le_mul_right P (by omega))) (by rw [hmid, ← Nat.mul_assoc]; exact Nat.mul_lt_mul_of_pos_right (by omega) hPP)) (Nat.lt_trans (Nat.lt_succ_self _) hp)
    rw [this, hc.sg]
  have nhigh : ∀ c, W64 c neg ((4 * K + 3) * P) → floatToFloatBits .f64 c .f32 = some (single.word neg (p + 1)) := by
    intro c hc
    have := narrow_fin hc.fin64 (p + 1) (by rw [hc.un]; exact isRd_high hDk (by rw [hmid, ← Nat.mul_assoc]; exact Nat.mul_lt_mul_of_pos_right (by omega) hPP) (by rw [Nat.mul_assoc, huq]; exact Nat.mul_le_mul_left 2 (Nat.mul_le_mul_right P (by omega)))) hp
    rw [this, hc.sg]
  have nmid : floatToFloatBits .f64 md .f32 = some (single.word neg (if p % 2 = 0 then p else p + 1)) := by
    have hq : (if p % 2 = 0 then p else p + 1) < single.infRung := by split; exact Nat.lt_trans (Nat.lt_succ_self _) hp; exact hp
    have := narrow_fin wm.fin64 _ (by rw [wm.un]; exact isRd_tie hDk (by rw [hmid, ← Nat.mul_assoc]; congr 1; omega)) hq
    rw [this, wm.sg]
  have hsw := single.infRung_lt
  have eqw : ∀ z q, fin32 z = true → unit single (rg single z) = unit single q → (sgn single z = neg ∨ q = 0) → q < single.infRung → eq32 (single.word neg q) z = true := by
    intro z q hz hu hs hq
    have hrg : rg single z = q := unit_inj single hu
    unfold eq32
    rw [nan32_word neg (Nat.le_of_lt hq), nan_of_fin32 hz, sr32_word neg (Nat.lt_trans hq hsw), sr32_rg z, hrg]
    rcases hs with h | h
    · rw [h]; simp
    · subst h; cases neg <;> cases sgn single z <;> simp
  have hpi : p < single.infRung := Nat.lt_trans (Nat.lt_succ_self _) hp
  have zero_of : ∀ q, unit single q = 0 * 2 ^ d → q = 0 := by intro q h; rw [Nat.zero_mul] at h; rw [← unit_zero single] at h; exact unit_inj single h
  rcases hAB with ⟨rfl, rfl⟩ | ⟨rfl, rfl⟩
  · have rx : rg single x = p := unit_inj single (by rw [ux, up])
    have ry : rg single y = p + 1 := unit_inj single (by rw [uy, uq])
    have sx' : sgn single x = neg ∨ p = 0 := by rcases sx with h | h; exact .inl h; subst h; exact .inr (zero_of p up)
    have sy' : sgn single y = neg ∨ p + 1 = 0 := by rcases sy with h | h; exact .inl h; omega
    have xl := eqw x p hx (by rw [rx]) sx' hpi
    have yl := eqw y (p + 1) hy (by rw [ry]) sy' hp
    have wl' : W64 lo neg ((4 * A + 1) * P) := by rw [show 4 * A + 1 = 2 * A + (2 * A + 1) by omega]; exact wl
    have wh' : W64 hi neg ((4 * A + 3) * P) := by rw [show 4 * A + 3 = 2 * (A + 1) + (2 * A + 1) by omega]; exact wh
    refine ⟨cx, cy, s1, md, s2, lo, s3, hi, _, _, _, ex, ey, es1, emd, es2, elo, es3, ehi, nmid, nlow lo wl', nhigh hi wh', ?_, xl, yl⟩
    rw [rx]
    by_cases h2 : p % 2 = 0
    · rw [if_pos h2, if_neg (by omega)]; exact xl
    · rw [if_neg h2, if_pos (by omega)]; exact yl
  · have rx : rg single x = p + 1 := unit_inj single (by rw [ux, uq])
    have ry : rg single y = p := unit_inj single (by rw [uy, up])
    have sx' : sgn single x = neg ∨ p + 1 = 0 := by rcases sx with h | h; exact .inl h; omega
    have sy' : sgn single y = neg ∨ p = 0 := by rcases sy with h | h; exact .inl h; subst h; exact .inr (zero_of p up)
    have xl := eqw x (p + 1) hx (by rw [rx]) sx' hp
    have yl := eqw y p hy (by rw [ry]) sy' hpi
    have wl' : W64 lo neg ((4 * B + 3) * P) := by rw [show 4 * B + 3 = 2 * (B + 1) + (2 * B + 1) by omega]; exact wl
    have wh' : W64 hi neg ((4 * B + 1) * P) := by rw [show 4 * B + 1 = 2 * B + (2 * B + 1) by omega]; exact wh
    refine ⟨cx, cy, s1, md, s2, lo, s3, hi, _, _, _, ex, ey, es1, emd, es2, elo, es3, ehi, nmid, nhigh lo wl', nlow hi wh', ?_, xl, yl⟩
    rw [rx]
    by_cases h2 : p % 2 = 0
    · rw [if_pos h2, if_pos (by omega)]; exact yl
    · rw [if_neg h2, if_neg (by omega)]; exact xl

theorem chain_next {x : Nat} (hb : x < 4294967296) (hx : fin32 x = true) (hy : fin32 (nu x) = true) : Chain x (nu x) := by
  have hsw : single.signWeight = 2147483648 := sg_sw
  have hir : single.infRung = 2139095040 := sg_inf
  rcases shape x hb with h | h | ⟨h, h1, h2, h3, h4, h5⟩ | ⟨h, h1, h2, h3, h4, h5, h6⟩ | ⟨h, h1, h2, h3, h4, h5, h6⟩
  · rw [nan_of_fin32 hx] at h; cases h
  · subst h; exact absurd hx (by decide)
  · have e : nu x = 1 := by unfold nu; rw [h, if_neg (by simp), if_neg (by omega), if_pos h5]
    have rx : rg single x = 0 := by unfold rg; rw [hsw]; exact h5
    rw [e] at hy ⊢
    refine chain_of hx hy false 0 0 0 0 1 (by rw [sg_bin]; omega) (unit_zero _) (by decide) (by rw [hir]; omega) (by rw [rx, unit_zero]) (by decide) (.inl ⟨rfl, rfl⟩) (.inr rfl) (.inl (by decide))
  · have e : nu x = x - 1 := by unfold nu; rw [h, if_neg (by simp), if_neg (by omega), if_neg (by omega), if_neg (by omega)]
    have rx : rg single x = (x - 2147483649) + 1 := by unfold rg; rw [hsw]; omega
    have ry : rg single (x - 1) = x - 2147483649 := by unfold rg; rw [hsw]; omega
    have gx : sgn single x = true := by unfold sgn; rw [hsw, beq_iff_eq]; omega
    have gy : sgn single (x - 1) = true := by unfold sgn; rw [hsw, beq_iff_eq]; omega
    rw [e] at hy ⊢
    have hf : x % 2147483648 < 2139095040 := by unfold fin32 at hx; simpa using hx
    obtain ⟨K, d, hK, u1, u2⟩ := unit_bits2 single (x - 2147483649)
    exact chain_of hx hy true (x - 2147483649) K d (K + 1) K hK u1 u2 (by rw [hir]; omega) (by rw [rx]; exact u2) (by rw [ry]; exact u1) (.inr ⟨rfl, rfl⟩) (.inl gx) (.inl gy)
  · have e : nu x = x + 1 := by unfold nu; rw [h, if_neg (by simp), if_neg (by omega), if_neg (by omega), if_pos (by omega)]
    have rx : rg single x = x := by unfold rg; rw [hsw]; omega
    have ry : rg single (x + 1) = x + 1 := by unfold rg; rw [hsw]; omega
    have gx : sgn single x = false := by unfold sgn; rw [hsw, beq_eq_false_iff_ne]; omega
    have gy : sgn single (x + 1) = false := by unfold sgn; rw [hsw, beq_eq_false_iff_ne]; omega
    rw [e] at hy ⊢
    have hf : (x + 1) % 2147483648 < 2139095040 := by unfold fin32 at hy; simpa using hy
    obtain ⟨K, d, hK, u1, u2⟩ := unit_bits2 single x
    exact chain_of hx hy false x K d K (K + 1) hK u1 u2 (by rw [hir]; omega) (by rw [rx]; exact u1) (by rw [ry]; exact u2) (.inl ⟨rfl, rfl⟩) (.inl gx) (.inl gy)

/-- There and back. -/
theorem there_back {x : Nat} (hb : x < 4294967296) (w1 w2 : World) : sm (cvr .f64 .f32 (cvr .f32 .f64 x w1) w2) x = true := by
  cases hn : nan32 x
  · by_cases hf : fin32 x = true
    · obtain ⟨c, ec, lc, fc, gc, uc⟩ := wide_fin hf
      rw [cvr_some ec]
      have hi : rg single x < single.infRung := (fin32_iff x).2 hf
      have := narrow_fin ((fin64_iff c).1 fc) (rg single x) (by rw [uc]; exact IsRd.exact single (Nat.two_pow_pos _) _) hi
      rw [gc, word32 hb] at this
      rw [cvr_some this]
      unfold sm; simp
    · have hi : rg single x = single.infRung := by
        unfold rg; rw [sg_sw, sg_inf]; unfold fin32 at hf; unfold nan32 at hn; simp at *; omega
      have e : x = single.word (sgn single x) single.infRung := by rw [← hi]; exact (word32 hb).symm
      have h1 := cv_inf32 (sgn single x)
      rw [← e] at h1
      rw [cvr_some h1]
      have h2 := cv_inf64 (sgn single x)
      rw [← e] at h2
      rw [cvr_some h2]
      unfold sm; simp
  · rw [sm_nan (cv_nan64 (cv_nan32 hn w1) w2)]; exact hn

theorem narrow_any (c : Nat) (w : World) : Calls Try.prog 12 #[.float .f64 c] w fun e w' => e = .returned (.float .f32 (cvr .f64 .f32 c w)) ∧ w' = w.drewN (cvd .f64 .f32 c) := by
  go_enter Try.func12, Try.ntmps12
  go_wp2
  go_ret
  exact ⟨rfl, rfl⟩

theorem fnNarrowed_long (w : World) (a0 a1 : Option Addr) (l0 c0 l1 c1 : Nat) (m0 : l0 ≤ 9223372036854775807) (m1 : l1 ≤ 9223372036854775807) (h : ¬ (l0 ≤ 1048576 ∧ l1 ≤ 1048576)) :
    Calls Try.prog 3 #[.slice a0 l0 c0, .slice a1 l1 c1] w fun e w' => e = .returned (.bool true) ∧ Below w.heap.size w w' := by
  go_enter Try.func3, Try.ntmps3
  go_wp2_with fail
  refine (b10Long_yes _ _ _ _ _ _ _ m0 m1 h).mono ?_
  rintro e w1 ⟨rfl, rfl⟩
  go_wp2
  go_ret
  exact ⟨rfl, Below.refl _ _⟩

theorem fnNarrowed_short (w : World) (a0 a1 : Option Addr) (l0 c0 l1 c1 : Nat) (h0 : l0 ≤ 1048576) (h1 : l1 ≤ 1048576) (r0 : BytesIn w a0 l0) :
    Calls Try.prog 3 #[.slice a0 l0 c0, .slice a1 l1 c1] w fun e w' => e = .returned (.bool true) ∧ Below w.heap.size w w' := by
  go_enter Try.func3, Try.ntmps3
  go_wp2_with fail
  refine (b10Long_no _ _ _ _ _ _ _ h0 h1).mono ?_
  rintro e w1 ⟨rfl, rfl⟩
  go_wp2_with fail
  refine (b10Number_any _ _ _ _ r0).mono ?_
  rintro e w1 ⟨x, rfl, hb, hw⟩
  go_wp2_with fail
  refine (narrow_any _ _).mono ?_
  rintro e w2 ⟨rfl, rfl⟩
  go_wp2_with fail
  refine (sSame_any _ _ _ (cvr_lt32 _ _) hb).mono ?_
  rw [there_back hb]
  rintro e w2 ⟨rfl, rfl⟩
  go_wp2_with fail
  refine (sNextUp_any _ _ hb).mono ?_
  rintro e w2 ⟨rfl, rfl⟩
  cases hx : fin32 x
  · go_wp2_with fail
    refine (sIsFinite_any _ _).mono ?_
    rintro e w2 ⟨rfl, n, rfl⟩
    go_wp2
    go_ret
    exact ⟨rfl, below_drewN hw _⟩
  · cases hy : fin32 (nu x)
    · go_wp2_with fail
      refine (sIsFinite_any _ _).mono ?_
      rintro e w2 ⟨rfl, n, rfl⟩
      go_wp2_with fail
      refine (sIsFinite_any _ _).mono ?_
      rintro e w2 ⟨rfl, n2, rfl⟩
      go_wp2
      go_ret
      exact ⟨rfl, below_drewN hw _⟩
    · obtain ⟨cx, cy, s1, md, s2, lo, s3, hi, n1, n2, n3, q1, q2, q3, q4, q5, q6, q7, q8, q9, q10, q11, e1, e2, e3⟩ := (chain_next hb hx hy).out
      go_wp2_with fail
      refine (sIsFinite_any _ _).mono ?_
      rintro e w2 ⟨rfl, n, rfl⟩
      go_wp2_with fail
      refine (sIsFinite_any _ _).mono ?_
      rintro e w2 ⟨rfl, n2, rfl⟩
      have p1 := cvr_some q1
      have p2 := cvr_some q2
      have p3 := fres_some q3
      have p4 := fres_some q4
      have p5 := fres_some q5
      have p6 := fres_some q6
      have p7 := fres_some q7
      have p8 := fres_some q8
      have p9 := cvr_some q9
      have p10 := cvr_some q10
      have p11 := cvr_some q11
      have hfl := fl_eq (nan_of_fin32 hx)
      have hrg : rg single x % 2 = x % 2 := by unfold rg; rw [sg_sw]; omega
      rw [hrg] at e1
      clear q1 q2 q3 q4 q5 q6 q7 q8 q9 q10 q11 hrg
      by_cases hpar : x % 2 = 1
      · rw [if_pos hpar] at e1
        have ht : (((x : Nat) : Int) % 2 == 1) = true := by rw [beq_iff_eq]; omega
        clear hpar
        go_wp2_with (first | (go_at_call 15; refine (sBitsOf_any _ _ hb).mono ?_; rintro e w2 ⟨rfl, rfl⟩) | (go_at_call 12; refine (narrow_any _ _).mono ?_; rintro e w2 ⟨rfl, rfl⟩))
        go_ret
        exact ⟨rfl, below_drewN hw _⟩
      · rw [if_neg hpar] at e1
        have ht : (((x : Nat) : Int) % 2 == 1) = false := by rw [beq_eq_false_iff_ne]; omega
        clear hpar
        go_wp2_with (first | (go_at_call 15; refine (sBitsOf_any _ _ hb).mono ?_; rintro e w2 ⟨rfl, rfl⟩) | (go_at_call 12; refine (narrow_any _ _).mono ?_; rintro e w2 ⟨rfl, rfl⟩))
        go_ret
        exact ⟨rfl, below_drewN hw _⟩

theorem fnNarrowed_walk (w : World) (a0 a1 : Option Addr) (l0 c0 l1 c1 : Nat) (z0 z1 : List Int)
    (r0 : (a0 = none ∧ l0 = 0 ∧ c0 = 0 ∧ z0 = []) ∨ ∃ x, a0 = some x ∧ l0 ≤ c0 ∧ c0 ≤ maxLen ∧ z0.length = c0 ∧ (∀ i, i < z0.length → w.cell? (x.add i) = some (.int .u8 (z0.getD i 0))) ∧ ∀ n ∈ z0, (Lit.int .u8 n).wf = true)
    (r1 : (a1 = none ∧ l1 = 0 ∧ c1 = 0 ∧ z1 = []) ∨ ∃ x, a1 = some x ∧ l1 ≤ c1 ∧ c1 ≤ maxLen ∧ z1.length = c1 ∧ (∀ i, i < z1.length → w.cell? (x.add i) = some (.int .u8 (z1.getD i 0))) ∧ ∀ n ∈ z1, (Lit.int .u8 n).wf = true) :
    Calls Try.prog 3 #[.slice a0 l0 c0, .slice a1 l1 c1] w fun e w' => e = .returned (.bool true) ∧ Below w.heap.size w w' := by
  by_cases h : l0 ≤ 1048576 ∧ l1 ≤ 1048576
  · exact fnNarrowed_short w a0 a1 l0 c0 l1 c1 h.1 h.2 (bytesIn_of_row r0 h.1)
  · exact fnNarrowed_long w a0 a1 l0 c0 l1 c1 (len_of_row r0) (len_of_row r1) h

end Go.Proofs.Ytkbcdgkpgfojkaa
