/- Plain facts on the model's binary floating point: sums, products, quotients and comparisons of words, told by integers. No program in sight. -/
import Derived.Test.YtkhoifgljalfcaaFl
namespace Go.Proofs.Ytkhoifgljalfcaa
open Ieee

def sgn (f : Format) (w : Nat) : Bool := w / f.signWeight % 2 == 1
def rg (f : Format) (w : Nat) : Nat := w % f.signWeight
def isFin (f : Format) (w : Nat) : Prop := rg f w < f.infRung
def notNan (f : Format) (w : Nat) : Prop := rg f w ≤ f.infRung
def sv (f : Format) (w : Nat) : Int := if sgn f w then -(unit f (rg f w) : Int) else (unit f (rg f w) : Int)
/-- The word of the number N / 2^k in units of the least place, rounded. -/
def rnd (f : Format) (neg : Bool) (N k : Nat) : Nat := f.word neg (min (rd0 f N k) f.infRung)

theorem sw_pos (f : Format) : 0 < f.signWeight := Nat.two_pow_pos _

theorem rg_word (f : Format) (neg : Bool) {r : Nat} (h : r < f.signWeight) : rg f (f.word neg r) = r := by
  unfold rg Format.word
  cases neg
  · simp [Nat.mod_eq_of_lt h]
  · simp [Nat.mod_eq_of_lt h]

theorem sgn_word (f : Format) (neg : Bool) {r : Nat} (h : r < f.signWeight) : sgn f (f.word neg r) = neg := by
  unfold sgn Format.word
  cases neg
  · simp [Nat.div_eq_of_lt h]
  · simp only [if_true]
    rw [Nat.add_div_left _ (sw_pos f), Nat.div_eq_of_lt h]; simp

theorem sv_word (f : Format) (neg : Bool) {r : Nat} (h : r < f.signWeight) : sv f (f.word neg r) = if neg then -(unit f r : Int) else (unit f r : Int) := by
  unfold sv; rw [rg_word f neg h, sgn_word f neg h]

theorem rd_lt (f : Format) (n : Nat) : min n f.infRung < f.signWeight := Nat.lt_of_le_of_lt (Nat.min_le_right _ _) f.infRung_lt

theorem read_fin (f : Format) {w : Nat} (h : isFin f w) : ∃ m t : Nat, f.read w = .number (sgn f w) m (f.leastPlace + t) ∧ m * 2 ^ t = unit f (rg f w) := by
  unfold isFin at h
  unfold Format.read unit sgn
  unfold rg at *
  dsimp only
  split
  · exact ⟨w % f.signWeight, 0, by simp, by simp⟩
  · exact ⟨_, _, rfl, rfl⟩

theorem read_inf (f : Format) (hb : f.binade ≤ f.infRung) {w : Nat} (h : rg f w = f.infRung) : f.read w = .infinity (sgn f w) := by
  unfold Format.read sgn
  unfold rg at h
  dsimp only
  rw [if_neg (by omega), if_neg (by omega), if_pos h]

theorem read_nan (f : Format) (hb : f.binade ≤ f.infRung) {w : Nat} (h : f.infRung < rg f w) : ∃ t, f.read w = .nan (sgn f w) t := by
  unfold Format.read sgn
  unfold rg at h
  dsimp only
  rw [if_neg (by omega), if_neg (by omega), if_neg (by omega)]
  exact ⟨_, rfl⟩

theorem signed_mul (neg : Bool) (m j t : Nat) : signed neg m j * (2 : Int) ^ t = if neg then -((m * 2 ^ (j + t) : Nat) : Int) else ((m * 2 ^ (j + t) : Nat) : Int) := by
  unfold signed
  rw [Nat.shiftLeft_eq]
  have e : (m * 2 ^ j : Nat) * (2 : Int) ^ t = ((m * 2 ^ (j + t) : Nat) : Int) := by
    rw [Nat.pow_add, ← Nat.mul_assoc]; simp [Int.natCast_mul, Int.natCast_pow]
  cases neg
  · simpa using e
  · simp only [if_true]; rw [Int.neg_mul, e]

theorem natAbs_mul_pow (a : Int) (t : Nat) : (a * (2 : Int) ^ t).natAbs = a.natAbs * 2 ^ t := by
  rw [Int.natAbs_mul, Int.natAbs_pow]; rfl

theorem add_fin (f : Format) {a b : Nat} (ha : isFin f a) (hb : isFin f b) :
    f.add a b = some (rnd f (if sv f a + sv f b = 0 then sgn f a && sgn f b else decide (sv f a + sv f b < 0)) (sv f a + sv f b).natAbs 0) := by
  obtain ⟨m, i, ea, ua⟩ := read_fin f ha
  obtain ⟨n, j, eb, ub⟩ := read_fin f hb
  unfold Format.add
  rw [ea, eb]
  simp only [Datum.sum, Option.map_some]
  congr 1
  unfold Format.write rnd
  have hbase : min (f.leastPlace + (i : Int)) (f.leastPlace + (j : Int)) = f.leastPlace + ((min i j : Nat) : Int) := by omega
  rw [hbase]
  have e1 : (f.leastPlace + (i : Int) - (f.leastPlace + ((min i j : Nat) : Int))).toNat = i - min i j := by omega
  have e2 : (f.leastPlace + (j : Int) - (f.leastPlace + ((min i j : Nat) : Int))).toNat = j - min i j := by omega
  rw [e1, e2]
  generalize hT : signed (sgn f a) m (i - min i j) + signed (sgn f b) n (j - min i j) = T
  have hS : T * (2 : Int) ^ (min i j) = sv f a + sv f b := by
    rw [← hT, Int.add_mul, signed_mul, signed_mul, Nat.sub_add_cancel (Nat.min_le_left _ _), Nat.sub_add_cancel (Nat.min_le_right _ _), ua, ub]
    unfold sv
    rfl
  have hp : (0 : Int) < 2 ^ (min i j) := Int.pow_pos (by omega)
  rw [← hS]
  have z : (T * (2 : Int) ^ (min i j) = 0) ↔ T = 0 := by
    constructor
    · intro h; rcases Int.mul_eq_zero.1 h with g | g <;> omega
    · intro h; rw [h]; simp
  have l : (T * (2 : Int) ^ (min i j) < 0) ↔ T < 0 := by
    constructor
    · intro h; rcases Int.lt_or_le T 0 with g | g
      · exact g
      · have := Int.mul_nonneg g (Int.le_of_lt hp); omega
    · intro h; exact Int.mul_neg_of_neg_of_pos h hp
  simp only [z, l]
  have e3 := nearest_eq f (if T = 0 then sgn f a && sgn f b else decide (T < 0)) T.natAbs (f.leastPlace + ((min i j : Nat) : Int)) 0 (by omega)
  rw [e3, natAbs_mul_pow]
  have e4 : (f.leastPlace + ((min i j : Nat) : Int) + ((0 : Nat) : Int) - f.leastPlace).toNat = min i j := by omega
  rw [e4]

theorem sgn_opp (d : Datum) (neg : Bool) (m : Nat) (e : Int) (h : d = .number neg m e) : d.opposite = .number (!neg) m e := by rw [h]; rfl

/-- The word with the other sign. -/
def neg_ (f : Format) (w : Nat) : Nat := f.word (!(sgn f w)) (rg f w)
theorem rg_lt (f : Format) (w : Nat) : rg f w < f.signWeight := Nat.mod_lt _ (sw_pos f)
theorem rg_neg (f : Format) (w : Nat) : rg f (neg_ f w) = rg f w := rg_word f _ (rg_lt f w)
theorem sgn_neg (f : Format) (w : Nat) : sgn f (neg_ f w) = !(sgn f w) := sgn_word f _ (rg_lt f w)
theorem sv_neg (f : Format) (w : Nat) : sv f (neg_ f w) = -(sv f w) := by
  unfold sv; rw [rg_neg, sgn_neg]; cases sgn f w <;> simp
theorem read_neg (f : Format) (w : Nat) : f.read (neg_ f w) = (f.read w).opposite := by
  have h1 := rg_neg f w
  have h2 := sgn_neg f w
  unfold rg at h1
  unfold sgn at h2
  unfold Format.read
  dsimp only
  rw [h1, h2]
  split
  · rfl
  · split
    · rfl
    · split <;> rfl
theorem sub_eq (f : Format) (a b : Nat) : f.sub a b = f.add a (neg_ f b) := by
  unfold Format.sub Format.add; rw [read_neg]
theorem isFin_neg (f : Format) {w : Nat} : isFin f (neg_ f w) ↔ isFin f w := by unfold isFin; rw [rg_neg]

theorem sub_fin (f : Format) {a b : Nat} (ha : isFin f a) (hb : isFin f b) :
    f.sub a b = some (rnd f (if sv f a - sv f b = 0 then sgn f a && !(sgn f b) else decide (sv f a - sv f b < 0)) (sv f a - sv f b).natAbs 0) := by
  rw [sub_eq, add_fin f ha ((isFin_neg f).2 hb), sv_neg, sgn_neg, Int.sub_eq_add_neg]

theorem mul_fin (f : Format) {a b : Nat} (hL : f.leastPlace ≤ 0) (ha : isFin f a) (hb : isFin f b) :
    f.mul a b = some (rnd f (sgn f a ^^ sgn f b) (unit f (rg f a) * unit f (rg f b)) (-f.leastPlace).toNat) := by
  obtain ⟨m, i, ea, ua⟩ := read_fin f ha
  obtain ⟨n, j, eb, ub⟩ := read_fin f hb
  unfold Format.mul
  rw [ea, eb]
  simp only [Datum.product, Option.map_some]
  congr 1
  unfold Format.write rnd
  dsimp only
  rw [nearest_eq f _ (m * n) _ (-f.leastPlace).toNat (by omega)]
  have e : (f.leastPlace + (i : Int) + (f.leastPlace + (j : Int)) + ((-f.leastPlace).toNat : Int) - f.leastPlace).toNat = i + j := by omega
  rw [e, ← ua, ← ub, Nat.pow_add]
  congr 3
  rw [Nat.mul_mul_mul_comm]

theorem order_fin (f : Format) {a b : Nat} (ha : isFin f a) (hb : isFin f b) : f.order a b = some (compare (sv f a) (sv f b)) := by
  obtain ⟨m, i, ea, ua⟩ := read_fin f ha
  obtain ⟨n, j, eb, ub⟩ := read_fin f hb
  unfold Format.order
  rw [ea, eb]
  simp only [Datum.order]
  have hbase : min (f.leastPlace + (i : Int)) (f.leastPlace + (j : Int)) = f.leastPlace + ((min i j : Nat) : Int) := by omega
  rw [hbase]
  have e1 : (f.leastPlace + (i : Int) - (f.leastPlace + ((min i j : Nat) : Int))).toNat = i - min i j := by omega
  have e2 : (f.leastPlace + (j : Int) - (f.leastPlace + ((min i j : Nat) : Int))).toNat = j - min i j := by omega
  rw [e1, e2]
  have hp : (0 : Int) < 2 ^ (min i j) := Int.pow_pos (by omega)
  have h1 : sv f a = signed (sgn f a) m (i - min i j) * (2 : Int) ^ (min i j) := by
    rw [signed_mul, Nat.sub_add_cancel (Nat.min_le_left _ _), ua]; rfl
  have h2 : sv f b = signed (sgn f b) n (j - min i j) * (2 : Int) ^ (min i j) := by
    rw [signed_mul, Nat.sub_add_cancel (Nat.min_le_right _ _), ub]; rfl
  rw [h1, h2]
  generalize signed (sgn f a) m (i - min i j) = x
  generalize signed (sgn f b) n (j - min i j) = y
  generalize (2 : Int) ^ (min i j) = p at *
  congr 1
  simp only [compare, compareOfLessAndEq]
  have l1 : (x * p < y * p) ↔ x < y := Int.mul_lt_mul_right hp
  have l2 : (x * p = y * p) ↔ x = y := Int.mul_eq_mul_right_iff (by omega)
  simp only [l1, l2]

theorem compare_lt {a b : Int} (h : a < b) : compare a b = .lt := by simp [compare, compareOfLessAndEq, h]
theorem compare_gt {a b : Int} (h : b < a) : compare a b = .gt := by
  have h1 : ¬ a < b := by omega
  have h2 : ¬ a = b := by omega
  simp [compare, compareOfLessAndEq, h1, h2]
theorem compare_eq {a b : Int} (h : a = b) : compare a b = .eq := by subst h; simp [compare, compareOfLessAndEq]

/-- Comparison of whatever is no NaN: infinities stand at the rung behind the greatest number. -/
theorem order_notNan (f : Format) (hB : f.binade ≤ f.infRung) {a b : Nat} (ha : notNan f a) (hb : notNan f b) : f.order a b = some (compare (sv f a) (sv f b)) := by
  unfold notNan at ha hb
  have hpos : 0 < f.infRung := by have := binade_pos f; omega
  have hu : 0 < unit f f.infRung := by have := unit_lt f hpos; rw [unit_zero] at this; exact this
  by_cases h1 : rg f a < f.infRung
  · by_cases h2 : rg f b < f.infRung
    · exact order_fin f h1 h2
    · have h2 : rg f b = f.infRung := by omega
      have lt := unit_lt f h1
      obtain ⟨m, i, ea, ua⟩ := read_fin f h1
      unfold Format.order
      rw [ea, read_inf f hB h2]
      simp only [Datum.order]
      unfold sv
      rw [h2]
      cases sgn f b <;> cases sgn f a <;> simp only [if_true, if_false, Bool.false_eq_true] <;> first | rw [compare_lt (by omega)] | rw [compare_gt (by omega)]
  · have h1 : rg f a = f.infRung := by omega
    by_cases h2 : rg f b < f.infRung
    · have lt := unit_lt f h2
      obtain ⟨m, i, eb, ub⟩ := read_fin f h2
      unfold Format.order
      rw [eb, read_inf f hB h1]
      simp only [Datum.order]
      unfold sv
      rw [h1]
      cases sgn f b <;> cases sgn f a <;> simp only [if_true, if_false, Bool.false_eq_true] <;> first | rw [compare_lt (by omega)] | rw [compare_gt (by omega)]
    · have h2 : rg f b = f.infRung := by omega
      unfold Format.order
      rw [read_inf f hB h1, read_inf f hB h2]
      simp only [Datum.order]
      unfold sv
      rw [h1, h2]
      cases sgn f b <;> cases sgn f a <;> simp only [if_true, if_false, Bool.false_eq_true] <;> first | (rw [compare_lt (by omega)]; rfl) | (rw [compare_gt (by omega)]; rfl) | (rw [compare_eq rfl]; rfl)

theorem order_nan (f : Format) (hB : f.binade ≤ f.infRung) {a b : Nat} (h : ¬ notNan f a ∨ ¬ notNan f b) : f.order a b = none := by
  unfold notNan at h
  unfold Format.order
  rcases h with h | h
  · obtain ⟨t, e⟩ := read_nan f hB (show f.infRung < rg f a by omega)
    rw [e]; rfl
  · obtain ⟨t, e⟩ := read_nan f hB (show f.infRung < rg f b by omega)
    rw [e]; cases f.read a <;> rfl

/-- Numbers that a format has: few digits. -/
theorem rung_of (f : Format) (K d : Nat) (h : K ≤ 2 * f.binade) : ∃ r, unit f r = K * 2 ^ d := by
  induction d generalizing K with
  | zero => exact ⟨0 * f.binade + K, by rw [unit_of f 0 K h (.inl rfl)]⟩
  | succ d ih =>
    by_cases hk : f.binade ≤ K
    · exact ⟨_, unit_of f (d + 1) K h (.inr hk)⟩
    · obtain ⟨r, hr⟩ := ih (K * 2) (by omega)
      exact ⟨r, by rw [hr, Nat.mul_assoc, Nat.pow_succ, Nat.mul_comm 2]⟩

theorem rd0_exact (f : Format) (hf : 1 ≤ f.fractionBits) {N k r : Nat} (h : N = unit f r * 2 ^ k) : rd0 f N k = r :=
  (rd0_isRd f hf N k).unique (Nat.two_pow_pos _) (Nat.two_pow_pos _) (IsRd.exact f (Nat.two_pow_pos k) r) (by rw [h])

theorem rnd_exact (f : Format) (hf : 1 ≤ f.fractionBits) (neg : Bool) {N k r : Nat} (h : N = unit f r * 2 ^ k) (hr : r ≤ f.infRung) : rnd f neg N k = f.word neg r := by
  unfold rnd; rw [rd0_exact f hf h, Nat.min_eq_left hr]

/-- A sum that the format has is exact. -/
theorem sv_rnd (f : Format) (hf : 1 ≤ f.fractionBits) (neg : Bool) {N k r : Nat} (h : N = unit f r * 2 ^ k) (hr : r < f.infRung) :
    isFin f (rnd f neg N k) ∧ rg f (rnd f neg N k) = r ∧ sgn f (rnd f neg N k) = neg ∧ sv f (rnd f neg N k) = if neg then -(unit f r : Int) else (unit f r : Int) := by
  have hl : r < f.signWeight := Nat.lt_trans hr f.infRung_lt
  rw [rnd_exact f hf neg h (by omega)]
  refine ⟨?_, rg_word f neg hl, sgn_word f neg hl, sv_word f neg hl⟩
  unfold isFin; rw [rg_word f neg hl]; exact hr

theorem rg_lt_of_unit (f : Format) {r s : Nat} (h : unit f r < unit f s) : r < s := (unit_lt_iff f).1 h
end Go.Proofs.Ytkhoifgljalfcaa
