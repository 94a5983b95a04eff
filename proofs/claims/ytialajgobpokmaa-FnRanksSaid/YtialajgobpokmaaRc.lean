/- Digits of ranks. -/
import Derived.Test.YtialajgobpokmaaRb
namespace Go.Proofs.Ytialajgobpokmaa
open Go.RowKit
set_option maxRecDepth 100000
set_option linter.unusedVariables false
set_option linter.unusedSimpArgs false

/-- Bytes of a number: and, one by one. -/
theorem and_byte (a n p q : Nat) (ha : a < 256) (hp : p < 256) : (a + 256 * n) &&& (p + 256 * q) = (a &&& p) + 256 * (n &&& q) := by
  have h1 := Nat.and_mod_two_pow (a := a + 256 * n) (b := p + 256 * q) (n := 8)
  have h2 := Nat.and_div_two_pow (a := a + 256 * n) (b := p + 256 * q) (n := 8)
  have e1 : (a + 256 * n) % 2 ^ 8 = a := by omega
  have e2 : (p + 256 * q) % 2 ^ 8 = p := by omega
  have e3 : (a + 256 * n) / 2 ^ 8 = n := by omega
  have e4 : (p + 256 * q) / 2 ^ 8 = q := by omega
  rw [e1, e2] at h1
  rw [e3, e4] at h2
  have := Nat.mod_add_div ((a + 256 * n) &&& (p + 256 * q)) (2 ^ 8)
  rw [h1, h2] at this
  omega
def p1 (n : Nat) : Nat := (n / 2 &&& 6148914691236517205) + (n &&& 6148914691236517205)
def p2 (n : Nat) : Nat := (n / 4 &&& 3689348814741910323) + (n &&& 3689348814741910323)
def p3 (n : Nat) : Nat := (n / 16 + n) &&& 1085102592571150095
def popN (n : Nat) : Nat := p3 (p2 (p1 n))
/-- Masks of bytes. -/
def msk (p : Nat) : Nat → Nat
  | 0 => p
  | k + 1 => p + 256 * msk p k
def q1 (m n : Nat) : Nat := (n / 2 &&& m) + (n &&& m)
def q2 (m n : Nat) : Nat := (n / 4 &&& m) + (n &&& m)
def q3 (m n : Nat) : Nat := (n / 16 + n) &&& m
theorem b1_tab : ∀ (a : Fin 128) (k : Fin 2), ((a.val + 128 * k.val) &&& 85) = (a.val &&& 85) := by decide +kernel
theorem b2_tab : ∀ (a : Fin 64) (k : Fin 4), ((a.val + 64 * k.val) &&& 51) = (a.val &&& 51) := by decide +kernel
theorem q1_byte (a n k : Nat) (ha : a < 256) : q1 (msk 85 (k + 1)) (a + 256 * n) = q1 85 a + 256 * q1 (msk 85 k) n := by
  unfold q1
  have e : (a + 256 * n) / 2 = (a / 2 + 128 * (n % 2)) + 256 * (n / 2) := by omega
  show _ = (a / 2 &&& 85) + (a &&& 85) + 256 * _
  rw [e]
  show ((a / 2 + 128 * (n % 2)) + 256 * (n / 2) &&& 85 + 256 * msk 85 k) + ((a + 256 * n) &&& 85 + 256 * msk 85 k) = _
  rw [and_byte _ _ 85 _ (by omega) (by decide), and_byte _ _ 85 _ ha (by decide)]
  have t := b1_tab ⟨a / 2, by omega⟩ ⟨n % 2, by omega⟩
  simp only at t
  rw [t]
  omega
theorem q2_byte (a n k : Nat) (ha : a < 256) : q2 (msk 51 (k + 1)) (a + 256 * n) = q2 51 a + 256 * q2 (msk 51 k) n := by
  unfold q2
  have e : (a + 256 * n) / 4 = (a / 4 + 64 * (n % 4)) + 256 * (n / 4) := by omega
  show _ = (a / 4 &&& 51) + (a &&& 51) + 256 * _
  rw [e]
  show ((a / 4 + 64 * (n % 4)) + 256 * (n / 4) &&& 51 + 256 * msk 51 k) + ((a + 256 * n) &&& 51 + 256 * msk 51 k) = _
  rw [and_byte _ _ 51 _ (by omega) (by decide), and_byte _ _ 51 _ ha (by decide)]
  have t := b2_tab ⟨a / 4, by omega⟩ ⟨n % 4, by omega⟩
  simp only at t
  rw [t]
  omega
theorem b3_tab : ∀ (a : Fin 69) (k : Fin 5), ((a.val + a.val / 16 + 16 * k.val) &&& 15) = ((a.val / 16 + a.val) &&& 15) ∧ a.val + a.val / 16 + 16 * k.val < 256 := by decide +kernel
theorem q3_byte (a n k : Nat) (ha : a ≤ 68) (hn : n % 16 ≤ 4) : q3 (msk 15 (k + 1)) (a + 256 * n) = q3 15 a + 256 * q3 (msk 15 k) n := by
  unfold q3
  have e : (a + 256 * n) / 16 + (a + 256 * n) = (a + a / 16 + 16 * (n % 16)) + 256 * (n / 16 + n) := by omega
  have t := b3_tab ⟨a, by omega⟩ ⟨n % 16, by omega⟩
  simp only at t
  rw [e]
  show ((a + a / 16 + 16 * (n % 16)) + 256 * (n / 16 + n) &&& 15 + 256 * msk 15 k) = _
  rw [and_byte _ _ 15 _ t.2 (by decide), t.1]
def t2 (a : Nat) : Nat := q2 51 (q1 85 a)
def t3 (a : Nat) : Nat := q3 15 (t2 a)
theorem t_tab : ∀ a : Fin 256, q1 85 a.val < 256 ∧ t2 a.val ≤ 68 ∧ t2 a.val % 16 ≤ 4 ∧ t3 a.val ≤ 8 ∧ (t3 a.val = 0 → a.val = 0) := by decide +kernel
theorem k1_tab : ∀ a : Fin 256, q1 (msk 85 5) a.val = q1 85 a.val := by decide +kernel
theorem k2_tab : ∀ a : Fin 256, q2 (msk 51 5) a.val = q2 51 a.val := by decide +kernel
theorem k3_tab : ∀ a : Fin 69, q3 (msk 15 5) a.val = q3 15 a.val := by decide +kernel
theorem popN_bytes (a b c : Nat) (ha : a < 256) (hb : b < 256) (hc : c < 256) : popN (a + 256 * (b + 256 * c)) = t3 a + 256 * (t3 b + 256 * t3 c) ∧ p2 (p1 (a + 256 * (b + 256 * c))) < 16777216 ∧ p1 (a + 256 * (b + 256 * c)) < 16777216 := by
  have ta := t_tab ⟨a, ha⟩
  have tb := t_tab ⟨b, hb⟩
  have tc := t_tab ⟨c, hc⟩
  simp only at ta tb tc
  have e1 : p1 (a + 256 * (b + 256 * c)) = q1 85 a + 256 * (q1 85 b + 256 * q1 85 c) := by
    show q1 (msk 85 7) _ = _
    rw [q1_byte _ _ 6 ha, q1_byte _ _ 5 hb]
    have := k1_tab ⟨c, hc⟩
    simp only at this
    rw [this]
  have e2 : p2 (q1 85 a + 256 * (q1 85 b + 256 * q1 85 c)) = t2 a + 256 * (t2 b + 256 * t2 c) := by
    show q2 (msk 51 7) _ = _
    rw [q2_byte _ _ 6 ta.1, q2_byte _ _ 5 tb.1]
    have := k2_tab ⟨q1 85 c, tc.1⟩
    simp only at this
    rw [this]; rfl
  have e3 : p3 (t2 a + 256 * (t2 b + 256 * t2 c)) = t3 a + 256 * (t3 b + 256 * t3 c) := by
    show q3 (msk 15 7) _ = _
    rw [q3_byte _ _ 6 ta.2.1 (by omega), q3_byte _ _ 5 tb.2.1 tc.2.2.1]
    have := k3_tab ⟨t2 c, by omega⟩
    simp only at this
    rw [this]; rfl
  refine ⟨by unfold popN; rw [e1, e2, e3], by rw [e1, e2]; omega, by rw [e1]; omega⟩
def onesF (n : Nat) : Nat := t3 (n % 256) + t3 (n / 256 % 256) + t3 (n / 65536 % 256)
theorem ones_parts (n : Nat) (hn : n < 16777216) : ∃ a b c, a ≤ 8 ∧ b ≤ 8 ∧ c ≤ 8 ∧ popN n = a + 256 * (b + 256 * c) ∧ onesF n = a + b + c ∧ p2 (p1 n) < 16777216 ∧ p1 n < 16777216 := by
  have e : n = n % 256 + 256 * (n / 256 % 256 + 256 * (n / 65536 % 256)) := by omega
  have h := popN_bytes (n % 256) (n / 256 % 256) (n / 65536 % 256) (by omega) (by omega) (by omega)
  rw [← e] at h
  exact ⟨_, _, _, (t_tab ⟨n % 256, by omega⟩).2.2.2.1, (t_tab ⟨n / 256 % 256, by omega⟩).2.2.2.1, (t_tab ⟨n / 65536 % 256, by omega⟩).2.2.2.1, h.1, rfl, h.2.1, h.2.2⟩
theorem onesF_zero {n : Nat} (hn : n < 16777216) : onesF n = 0 ↔ n = 0 := by
  constructor
  · intro h
    unfold onesF at h
    have h1 := (t_tab ⟨n % 256, by omega⟩).2.2.2.2 (by show t3 (n % 256) = 0; omega)
    have h2 := (t_tab ⟨n / 256 % 256, by omega⟩).2.2.2.2 (by show t3 (n / 256 % 256) = 0; omega)
    have h3 := (t_tab ⟨n / 65536 % 256, by omega⟩).2.2.2.2 (by show t3 (n / 65536 % 256) = 0; omega)
    simp only at h1 h2 h3
    omega
  · rintro rfl; decide +kernel
theorem onesF_all : onesF 16777215 = 24 := by decide +kernel
theorem xor_all {a : Nat} (h : a < 16777216) : a ^^^ (16777215 - a) = 16777215 := by
  apply Nat.eq_of_testBit_eq
  intro i
  have e : 16777215 - a = 2 ^ 24 - (a + 1) := by omega
  have e2 : (16777215 : Nat) = 2 ^ 24 - 1 := by decide
  rw [Nat.testBit_xor, e, Nat.testBit_two_pow_sub_succ h, e2, Nat.testBit_two_pow_sub_one]
  by_cases hi : i < 24
  · rw [decide_eq_true hi]; cases a.testBit i <;> rfl
  · rw [decide_eq_false hi, Nat.testBit_lt_two_pow (Nat.lt_of_lt_of_le h (Nat.pow_le_pow_right (show 0 < 2 by decide) (by omega : 24 ≤ i)))]; rfl
theorem xor_lt {a b : Nat} (ha : a < 16777216) (hb : b < 16777216) : a ^^^ b < 16777216 := Nat.xor_lt_two_pow (n := 24) ha hb

theorem and64 (a m : Nat) (ha : a < 18446744073709551616) (hm : m < 18446744073709551616) : bits .and .u64 (a : Int) (m : Int) = ((a &&& m : Nat) : Int) := by
  show IntKind.u64.wrap ((BitVec.ofInt 64 ((a : Nat) : Int) &&& BitVec.ofInt 64 (m : Int)).toNat : Int) = _
  rw [BitVec.ofInt_natCast, BitVec.ofInt_natCast, BitVec.toNat_and, BitVec.toNat_ofNat, BitVec.toNat_ofNat, Nat.mod_eq_of_lt ha, Nat.mod_eq_of_lt hm]
  have : a &&& m ≤ a := Nat.and_le_left
  show (((a &&& m : Nat) : Int)) % 18446744073709551616 = _
  omega

theorem sum_bytes {a b c s3 s4 s5 : Nat} (ha : a ≤ 8) (hb : b ≤ 8) (hc : c ≤ 8) (h3 : s3 = a + 256 * (b + 256 * c)) (h4 : s4 = s3 + s3 / 256) (h5 : s5 = s4 + s4 / 65536) : s5 % 2 ^ 7 = a + b + c := by
  have e1 : s3 / 256 = b + 256 * c := by omega
  have e2 : s4 = (a + b) + 256 * (b + c) + 65536 * c := by omega
  have e3 : s4 / 65536 = c := by omega
  have e4 : s5 = (a + b + c) + 128 * (2 * (b + c) + 512 * c) := by omega
  rw [e4, show (2 ^ 7 : Nat) = 128 from rfl, Nat.add_mul_mod_self_left, Nat.mod_eq_of_lt (by omega)]
theorem ones_any (n : Nat) (hn : n < 16777216) (w : World) : Calls Try.prog 56 #[.int .u64 n] w fun e w' => e = .returned (.int .i64 (onesF n)) ∧ w = w' := by
  obtain ⟨a, b, c, ha, hb, hc, h3, h4, h2, h1⟩ := ones_parts n hn
  have w64 : ∀ k : Nat, k < 18446744073709551616 → IntKind.u64.wrap (k : Int) = k := fun k hk => by show (k : Int) % 18446744073709551616 = _; omega
  have e1 : bits .and .u64 ((n : Int) / 2) 6148914691236517205 = ((n / 2 &&& 6148914691236517205 : Nat) : Int) := by
    rw [← and64 (n / 2) 6148914691236517205 (by omega) (by decide)]; simp
  have e2 : bits .and .u64 (n : Int) 6148914691236517205 = ((n &&& 6148914691236517205 : Nat) : Int) := by
    rw [← and64 n 6148914691236517205 (by omega) (by decide)]; simp
  have e3 : IntKind.u64.wrap (((n / 2 &&& 6148914691236517205 : Nat) : Int) + ((n &&& 6148914691236517205 : Nat) : Int)) = (p1 n : Nat) := by
    rw [← Int.natCast_add]; exact w64 (p1 n) (by omega)
  obtain ⟨s1, hs1⟩ : ∃ s, s = p1 n := ⟨_, rfl⟩
  rw [← hs1] at e3 h1 h2
  have e4 : bits .and .u64 ((s1 : Int) / 4) 3689348814741910323 = ((s1 / 4 &&& 3689348814741910323 : Nat) : Int) := by
    rw [← and64 (s1 / 4) 3689348814741910323 (by omega) (by decide)]; simp
  have e5 : bits .and .u64 (s1 : Int) 3689348814741910323 = ((s1 &&& 3689348814741910323 : Nat) : Int) := by
    rw [← and64 s1 3689348814741910323 (by omega) (by decide)]; simp
  have e6 : IntKind.u64.wrap (((s1 / 4 &&& 3689348814741910323 : Nat) : Int) + ((s1 &&& 3689348814741910323 : Nat) : Int)) = (p2 s1 : Nat) := by
    rw [← Int.natCast_add]; exact w64 (p2 s1) (by omega)
  have h3' : p3 (p2 s1) = a + 256 * (b + 256 * c) := by rw [hs1]; exact h3
  obtain ⟨s2, hs2⟩ : ∃ s, s = p2 s1 := ⟨_, rfl⟩
  rw [← hs2] at e6 h3' h2
  have e7 : IntKind.u64.wrap ((s2 : Int) / 16 + (s2 : Int)) = ((s2 / 16 + s2 : Nat) : Int) := by
    rw [show (s2 : Int) / 16 + (s2 : Int) = ((s2 / 16 + s2 : Nat) : Int) by simp]; exact w64 _ (by omega)
  have e8 : bits .and .u64 ((s2 / 16 + s2 : Nat) : Int) 1085102592571150095 = ((a + 256 * (b + 256 * c) : Nat) : Int) := by
    rw [← h3']; exact and64 (s2 / 16 + s2) 1085102592571150095 (by omega) (by decide)
  obtain ⟨s3, hs3⟩ : ∃ s, s = a + 256 * (b + 256 * c) := ⟨_, rfl⟩
  rw [← hs3] at e8
  obtain ⟨t, ht⟩ : ∃ t, t = s2 / 16 + s2 := ⟨_, rfl⟩
  rw [← ht] at e7 e8
  obtain ⟨s4, hs4⟩ : ∃ s, s = s3 + s3 / 256 := ⟨_, rfl⟩
  have e9 : IntKind.u64.wrap ((s3 : Int) + (s3 : Int) / 256) = (s4 : Int) := by
    rw [show (s3 : Int) + (s3 : Int) / 256 = (s4 : Nat) by rw [hs4]; simp]; exact w64 _ (by omega)
  obtain ⟨s5, hs5⟩ : ∃ s, s = s4 + s4 / 65536 := ⟨_, rfl⟩
  have e10 : IntKind.u64.wrap ((s4 : Int) + (s4 : Int) / 65536) = (s5 : Int) := by
    rw [show (s4 : Int) + (s4 : Int) / 65536 = (s5 : Nat) by rw [hs5]; simp]; exact w64 _ (by omega)
  have e11 : IntKind.u64.wrap ((s5 : Int) + (s5 : Int) / 4294967296) = (s5 : Int) := by
    rw [show (s5 : Int) + (s5 : Int) / 4294967296 = (s5 : Nat) by omega]; exact w64 _ (by omega)
  have e12 : IntKind.i64.wrap (s5 : Int) = (s5 : Int) := IntWalk.i64_in _ (by omega)
  have e13 : bits .and .i64 (s5 : Int) 127 = ((onesF n : Nat) : Int) := by
    show IntKind.i64.wrap ((BitVec.ofInt 64 ((s5 : Nat) : Int) &&& BitVec.ofInt 64 ((127 : Nat) : Int)).toNat : Int) = _
    rw [BitVec.ofInt_natCast, BitVec.ofInt_natCast, BitVec.toNat_and, BitVec.toNat_ofNat, BitVec.toNat_ofNat, Nat.mod_eq_of_lt (by omega), Nat.mod_eq_of_lt (by decide), Nat.and_two_pow_sub_one_eq_mod s5 7]
    rw [show s5 % 2 ^ 7 = onesF n by rw [h4]; exact sum_bytes ha hb hc hs3 hs4 hs5]
    exact IntWalk.i64_in _ (by omega)
  have HN := Lib.hid hn
  clear h3 h4 h1 h2 h3' hs1 hs2 hs3 hs4 hs5 ht w64 ha hb hc hn
  go_enter Try.func56, Try.ntmps56
  go_wp2
  go_ret
  refine ⟨?_, rfl⟩
  simp only [e1, e2, e3, e4, e5, e6, e7, e8, e9, e10, e11, e12, e13]
  rfl

theorem dist_any (a b : Nat) (ha : a < 16777216) (hb : b < 16777216) (w : World) : Calls Try.prog 22 #[.int .i64 a, .int .i64 b] w fun e w' => e = .returned (.int .i64 (onesF (a ^^^ b))) ∧ w = w' := by
  have hx := xor_lt ha hb
  have e1 : bits .xor .i64 (a : Int) (b : Int) = ((a ^^^ b : Nat) : Int) := by
    show IntKind.i64.wrap ((BitVec.ofInt 64 ((a : Nat) : Int) ^^^ BitVec.ofInt 64 ((b : Nat) : Int)).toNat : Int) = _
    rw [BitVec.ofInt_natCast, BitVec.ofInt_natCast, BitVec.toNat_xor, BitVec.toNat_ofNat, BitVec.toNat_ofNat, Nat.mod_eq_of_lt (by omega), Nat.mod_eq_of_lt (by omega)]
    exact IntWalk.i64_in _ (by omega)
  generalize a ^^^ b = x at *
  have e2 : IntKind.u64.wrap (x : Int) = (x : Int) := by show (x : Int) % 18446744073709551616 = _; omega
  have e3 : bits .and .u64 (x : Int) 16777215 = (x : Int) := by
    have := and64 x 16777215 (by omega) (by decide)
    rw [Nat.and_two_pow_sub_one_eq_mod x 24, Nat.mod_eq_of_lt hx] at this
    exact this
  have KO := Lib.hid (ones_any x hx w)
  go_enter Try.func22, Try.ntmps22
  go_wp2_with fail
  refine KO.out.mono ?_
  rintro e w' ⟨rfl, rfl⟩
  go_wp2
  go_ret
  exact ⟨rfl, rfl⟩

end Go.Proofs.Ytialajgobpokmaa
