/- Words of sixteenths; gaps; flushed numbers. -/
import Derived.Test.YtkhoifgljalfcaaLi
import Derived.Test.YtkhoifgljalfcaaLaw
import Derived.Test.YtkhoifgljalfcaaQf
import Derived.Test.YtkhoifgljalfcaaFm
import Derived.Test.YtkhoifgljalfcaaLg0
import Derived.Test.YtkhoifgljalfcaaLg1
import Derived.Test.YtkhoifgljalfcaaLg2
import Derived.Test.YtkhoifgljalfcaaLg3
import Derived.Test.YtkhoifgljalfcaaLg4
namespace Go.Proofs.Ytkhoifgljalfcaa
open Go.RowKit Ieee
set_option maxRecDepth 100000
set_option linter.unusedVariables false
set_option linter.unusedSimpArgs false

/-- A word of K sixteenths, a zero of either sign. -/
structure YW (y : Nat) (K : Int) : Prop where
  lt : y < 4294967296
  fin : isFin single y
  val : sv single y = K * ((2 ^ 145 : Nat) : Int)
theorem yw_fq {k : Int} (h : k.natAbs ≤ 64) : YW (fq 4 k) k := ⟨fq_lt (by omega), (fin32_iff _).2 (fq_fin (by omega)), vv_fq (by omega)⟩
theorem YW.neg {y : Nat} {K : Int} (h : YW y K) : YW (Op.negFloat .f32 y) (-K) := by
  rw [neg32_is h.lt]
  exact ⟨word_lt32 _ (Nat.le_of_lt ((show isFin single y from h.fin))), (isFin_neg single).2 h.fin, by rw [sv_neg, h.val, Int.neg_mul]⟩
theorem YW.in {y : Nat} {K : Int} (h : YW y K) : In single 125 y (K * 1048576) (K * 1048576) := by
  have e : K * 1048576 * ((2 ^ 125 : Nat) : Int) = K * ((2 ^ 145 : Nat) : Int) := by rw [Int.mul_assoc]; congr 1
  exact ⟨h.fin, by rw [h.val, e]; exact Int.le_refl _, by rw [h.val, e]; exact Int.le_refl _⟩
theorem YW.nan {y : Nat} {K : Int} (h : YW y K) : nan32 y = false := nan_of_fin32 ((fin32_iff y).1 h.fin)
theorem YW.zero {y : Nat} {K : Int} (h : YW y K) : eq32 y 0 = decide (K = 0) := by
  have h0 : fin32 0 = true := by decide
  rw [eq32_vv ((fin32_iff y).1 h.fin) h0, decide_eq_decide]
  show sv single y = sv single 0 ↔ _
  rw [h.val, show sv single 0 = 0 by decide +kernel]
  have hp := pow_pos_z 145
  constructor
  · intro e
    rcases Int.mul_eq_zero.1 e with g | g
    · exact g
    · omega
  · intro e; rw [e, Int.zero_mul]
theorem YW.neg0 {y : Nat} {K : Int} (h : YW y K) : lt32 y 0 = decide (K < 0) := by
  have h0 : fin32 0 = true := by decide
  rw [lt32_vv ((fin32_iff y).1 h.fin) h0, decide_eq_decide]
  show sv single y < sv single 0 ↔ _
  rw [h.val, show sv single 0 = 0 by decide +kernel]
  have hp := pow_pos_z 145
  constructor
  · intro e
    rcases Int.lt_or_le K 0 with g | g
    · exact g
    · have := Int.mul_nonneg g (Int.le_of_lt hp); omega
  · intro e; exact Int.mul_neg_of_neg_of_pos e hp
/-- The double of p sixteenths. -/
def aw (p : Nat) : Nat := wdn (fq 4 (p : Int)) % 9223372036854775808
theorem same_word {a b : Nat} (ha : a < 9223372036854775808) (hb : b < 9223372036854775808) (h : unit double (rg double a) = unit double (rg double b)) : a = b := by
  have e := unit_inj double h
  unfold rg at e
  rw [db_sw] at e
  omega
theorem YW.wide {y : Nat} {K : Int} (h : YW y K) (hK : K.natAbs ≤ 64) : floatToFloatBits .f32 y .f64 = some (wdn y) ∧ wdn y < 18446744073709551616 ∧ wdn y % 9223372036854775808 = aw K.natAbs ∧ In double k64 (wdn y) (K * (p36 : Int)) (K * (p36 : Int)) := by
  have key : ∀ (z : Nat) (L : Int), YW z L → floatToFloatBits .f32 z .f64 = some (wdn z) ∧ wdn z < 18446744073709551616 ∧ isFin double (wdn z) ∧ sv double (wdn z) = L * ((2 ^ 145 : Nat) : Int) * ((2 ^ kw : Nat) : Int) ∧ In double k64 (wdn z) (L * (p36 : Int)) (L * (p36 : Int)) := by
    intro z L hz
    obtain ⟨e1, d1, l1, s1⟩ := in_wide (k := 125) (s := 16) rfl hz.in
    have e : L * 1048576 * ((2 ^ 16 : Nat) : Int) = L * (p36 : Int) := by rw [Int.mul_assoc]; congr 1
    rw [e] at d1
    exact ⟨e1, l1, d1.fin, by rw [s1, hz.val], d1⟩
  obtain ⟨e1, l1, f1, s1, i1⟩ := key y K h
  obtain ⟨e2, l2, f2, s2, i2⟩ := key (fq 4 (K.natAbs : Int)) (K.natAbs : Int) (yw_fq (by omega))
  obtain ⟨fa, ea⟩ := abs_word l1 f1
  obtain ⟨fb, eb⟩ := abs_word l2 f2
  refine ⟨e1, l1, ?_, i1⟩
  unfold aw
  have hu : ∀ a, a < 9223372036854775808 → sv double a = (unit double (rg double a) : Int) := by
    intro a ha
    unfold sv
    have : sgn double a = false := by unfold sgn; rw [db_sw, Nat.div_eq_of_lt ha]; rfl
    rw [this]; rfl
  have ha : wdn y % 9223372036854775808 < 9223372036854775808 := Nat.mod_lt _ (by omega)
  have hb : wdn (fq 4 (K.natAbs : Int)) % 9223372036854775808 < 9223372036854775808 := Nat.mod_lt _ (by omega)
  refine same_word ha hb ?_
  have h1 := hu _ ha
  have h2 := hu _ hb
  rw [ea, s1] at h1
  rw [eb, s2] at h2
  have h3 : (K * ((2 ^ 145 : Nat) : Int) * ((2 ^ kw : Nat) : Int)).natAbs = ((K.natAbs : Int) * ((2 ^ 145 : Nat) : Int) * ((2 ^ kw : Nat) : Int)).natAbs := by
    rw [Int.natAbs_mul, Int.natAbs_mul, Int.natAbs_mul, Int.natAbs_mul, Int.natAbs_natCast (K.natAbs)]
  rw [h3, h2] at h1
  exact (Int.ofNat.inj h1).symm
theorem aw_iv {p : Nat} (h : p ≤ 64) : I64 (aw p) ⟨p * p36, p * p36⟩ := by
  obtain ⟨e1, l1, a1, i1⟩ := (yw_fq (k := (p : Int)) (by omega)).wide (by omega)
  rw [Int.natAbs_natCast] at a1
  obtain ⟨fa, ea⟩ := abs_word l1 i1.fin
  rw [a1] at fa ea
  have h0 : (0 : Int) ≤ sv double (wdn (fq 4 (p : Int))) := by
    have := i1.lo
    rw [← Int.natCast_mul, ← Int.natCast_mul] at this
    omega
  rw [Int.natAbs_of_nonneg h0] at ea
  refine ⟨fa, ?_, ?_⟩
  · rw [ea]; show ((p * p36 : Nat) : Int) * _ ≤ _; rw [Int.natCast_mul]; exact i1.lo
  · rw [ea]; show _ ≤ ((p * p36 : Nat) : Int) * _; rw [Int.natCast_mul]; exact i1.hi
theorem aw_lt {p q : Nat} (hp : p ≤ 64) (hq : q ≤ 64) : lt64 (aw q) (aw p) = Nat.blt q p := by
  rw [lt64_sv (aw_iv hq).fin (aw_iv hp).fin, svc (aw_iv hq), svc (aw_iv hp), Bool.eq_iff_iff, decide_eq_true_iff]
  have h0 := pow_pos_z k64
  have e : Nat.blt q p = true ↔ q < p := by unfold Nat.blt; exact ⟨Nat.le_of_ble_eq_true, Nat.ble_eq_true_of_le⟩
  rw [e]
  constructor
  · intro g
    have := Int.lt_of_mul_lt_mul_right g (Int.le_of_lt h0)
    have := Int.ofNat_lt.1 this
    unfold p36 at this
    omega
  · intro g
    refine Int.mul_lt_mul_of_pos_right (Int.ofNat_lt.2 ?_) h0
    unfold p36
    omega
theorem quo16 : ∀ i : Fin 129, floatBits .quo .f32 (fq 0 ((i.val : Int) - 64)) 1098907648 = some (fq 4 ((i.val : Int) - 64)) := by decide +kernel
theorem all_pnt {p q : Nat} (hp : p ≤ 64) (hq : q ≤ 64) (h : ¬ (p = 0 ∧ q = 0)) : pnt p q = true := by
  have key : (p = 0 ∧ q = 0) ∨ pnt p q = true := by
    by_cases h1 : q < 13
    · exact colsC_at cols_0 q (by omega) (by omega) p hp
    · by_cases h2 : q < 26
      · exact colsC_at cols_1 q (by omega) (by omega) p hp
      · by_cases h3 : q < 39
        · exact colsC_at cols_2 q (by omega) (by omega) p hp
        · by_cases h4 : q < 52
          · exact colsC_at cols_3 q (by omega) (by omega) p hp
          · exact colsC_at cols_4 q (by omega) (by omega) p hp
  rcases key with g | g
  · exact absurd g h
  · exact g

/-! ### The gap -/
theorem gap_any (w : World) {pr y : Nat} {Z : Int} (hp : NearZ pr Z) (hy : In double k64 y Z Z) :
    Calls Try.prog 12 #[.float .f64 pr, .float .f64 y] w fun e w' => (∃ r, e = .returned (.float .f64 r) ∧ lt64 4547007122018943789 r = false) ∧ w = w' := by
  obtain ⟨⟨r1, e1, l1⟩, ⟨r2, e2, l2⟩⟩ := gap_small hp hy
  obtain ⟨d1, d2⟩ := b64 .sub e1
  obtain ⟨d3, d4⟩ := b64 .sub e2
  have hd0 : ∀ W : World, W.drewN 0 = W := fun _ => rfl
  have L1 := Lib.hid l1
  have L2 := Lib.hid l2
  clear e1 e2 l1 l2 hp hy
  obtain ⟨c, hc⟩ : ∃ c, lt64 pr y = c := ⟨_, rfl⟩
  cases c
  · go_enter Try.func12, Try.ntmps12
    go_wp2
    go_ret
    exact ⟨⟨_, rfl, L2.out⟩, rfl⟩
  · go_enter Try.func12, Try.ntmps12
    go_wp2
    go_ret
    exact ⟨⟨_, rfl, L1.out⟩, rfl⟩

/-! ### Flushed numbers -/
theorem andNot_abs' (b : Nat) (hb : b < 4294967296) : bits .andNot .u32 (b : Int) 2147483648 = ((b % 2147483648 : Nat) : Int) := by
  show IntKind.u32.wrap ((BitVec.ofInt 32 ((b : Nat) : Int) &&& ~~~ BitVec.ofInt 32 2147483648).toNat : Int) = _
  have e1 : (~~~ BitVec.ofInt 32 2147483648 : BitVec 32) = BitVec.ofNat 32 2147483647 := by decide
  have e2 : b &&& 2147483647 = b % 2147483648 := Nat.and_two_pow_sub_one_eq_mod b 31
  rw [e1, BitVec.ofInt_natCast, BitVec.toNat_and, BitVec.toNat_ofNat, BitVec.toNat_ofNat, Nat.mod_eq_of_lt (by omega), show 2147483647 % 2 ^ 32 = 2147483647 from rfl, e2]
  have := Nat.mod_lt b (show 0 < 2147483648 by omega)
  show (((b % 2147483648 : Nat) : Int)) % 4294967296 = _
  omega
theorem abs32_any (b : Nat) (hb : b < 4294967296) (w : World) : Calls Try.prog 60 #[.float .f32 b] w fun e w' => e = .returned (.float .f32 (b % 2147483648)) ∧ w = w' := by
  have e := andNot_abs' b hb
  go_enter Try.func60, Try.ntmps60
  go_wp2
  go_ret
  exact ⟨by simp [e], rfl⟩
def subN (z : Nat) : Bool := !(eq32 z 0) && lt32 (z % 2147483648) 8388608
theorem isSub_any (w : World) (z : Nat) (hz : z < 4294967296) : Calls Try.prog 15 #[.float .f32 z] w fun e w' => e = .returned (.bool (subN z)) ∧ w = w' := by
  have KA := Lib.hid (abs32_any z hz)
  unfold subN
  cases h : eq32 z 0
  · go_enter Try.func15, Try.ntmps15
    go_wp2_with fail
    refine (KA.out _).mono ?_
    rintro e w' ⟨rfl, rfl⟩
    go_wp2_with fail
    go_ret
    exact ⟨by simp, rfl⟩
  · go_enter Try.func15, Try.ntmps15
    go_wp2_with fail
    go_ret
    exact ⟨by simp, rfl⟩
theorem and_top (z : Nat) (hz : z < 4294967296) : bits .and .u32 (z : Int) 2147483648 = ((if z < 2147483648 then 0 else 2147483648 : Nat) : Int) := by
  show IntKind.u32.wrap ((BitVec.ofInt 32 ((z : Nat) : Int) &&& BitVec.ofInt 32 2147483648).toNat : Int) = _
  have e1 : (BitVec.ofInt 32 2147483648 : BitVec 32) = BitVec.ofNat 32 2147483648 := by decide
  have e2 : z &&& 2147483648 = if z < 2147483648 then 0 else 2147483648 := by
    have ht : z.testBit 31 = decide (2147483648 ≤ z) := by
      rw [Nat.testBit_eq_decide_div_mod_eq, decide_eq_decide, show (2 : Nat) ^ 31 = 2147483648 from rfl]
      omega
    apply Nat.eq_of_testBit_eq
    intro i
    rw [Nat.testBit_and, show (2147483648 : Nat) = 2 ^ 31 from rfl, Nat.testBit_two_pow]
    by_cases hi : 31 = i
    · subst hi
      rw [ht, decide_eq_true rfl, Bool.and_true]
      by_cases hc : z < 2 ^ 31
      · rw [if_pos hc, decide_eq_false (by have : (2 : Nat) ^ 31 = 2147483648 := rfl; omega)]; simp
      · rw [if_neg hc, decide_eq_true (by have : (2 : Nat) ^ 31 = 2147483648 := rfl; omega), Nat.testBit_two_pow]; simp
    · rw [decide_eq_false hi, Bool.and_false]
      split
      · simp
      · rw [Nat.testBit_two_pow, decide_eq_false hi]
  rw [e1, BitVec.ofInt_natCast, BitVec.toNat_and, BitVec.toNat_ofNat, BitVec.toNat_ofNat, Nat.mod_eq_of_lt (by omega), show 2147483648 % 2 ^ 32 = 2147483648 from rfl, e2]
  split <;> rfl
def flW (z : Nat) : Nat := if subN z then (if z < 2147483648 then 0 else 2147483648) else z
theorem flush_any (w : World) (z : Nat) (hz : z < 4294967296) : Calls Try.prog 14 #[.float .f32 z] w fun e w' => e = .returned (.float .f32 (flW z)) ∧ w = w' := by
  have KS := Lib.hid (fun W => isSub_any W z hz)
  have ea := and_top z hz
  unfold flW
  obtain ⟨b, hb⟩ : ∃ b, subN z = b := ⟨_, rfl⟩
  rw [hb] at KS ⊢
  clear hb
  obtain ⟨v, hv⟩ : ∃ v, (if z < 2147483648 then 0 else 2147483648) = v := ⟨_, rfl⟩
  rw [hv] at ea ⊢
  clear hv
  cases b
  · go_enter Try.func14, Try.ntmps14
    go_wp2_with fail
    refine (KS.out _).mono ?_
    rintro e w' ⟨rfl, rfl⟩
    go_wp2_with fail
    go_ret
    exact ⟨rfl, rfl⟩
  · go_enter Try.func14, Try.ntmps14
    go_wp2_with fail
    refine (KS.out _).mono ?_
    rintro e w' ⟨rfl, rfl⟩
    go_wp2_with fail
    go_ret
    exact ⟨by simp [ea], rfl⟩
theorem flW_lt {z : Nat} (hz : z < 4294967296) : flW z < 4294967296 := by
  unfold flW; split
  · split <;> omega
  · exact hz
theorem flush_law {z : Nat} (hz : z < 4294967296) : subN (flW z) = false ∧ (subN z != sm z (flW z)) = true := by
  unfold flW
  cases h : subN z
  · simp only [Bool.false_eq_true, if_false]
    refine ⟨h, ?_⟩
    unfold sm; simp
  · simp only [if_true]
    unfold subN at h
    rw [Bool.and_eq_true] at h
    have h0 : eq32 z 0 = false := by simpa using h.1
    have hn : nan32 z = false := by
      have h1 := h.2
      cases hc : nan32 z
      · rfl
      · exfalso
        unfold nan32 at hc
        unfold lt32 sr32 at h1
        simp at hc h1
        omega
    by_cases hc : z < 2147483648
    · rw [if_pos hc]
      refine ⟨by decide, ?_⟩
      have : z ≠ 0 := by rintro rfl; exact absurd h0 (by decide)
      rw [sm_not hn (by decide)]
      simp [this]
    · rw [if_neg hc]
      refine ⟨by decide, ?_⟩
      have : z ≠ 2147483648 := by rintro rfl; exact absurd h0 (by decide)
      rw [sm_not hn (by decide)]
      simp [this]

end Go.Proofs.Ytkhoifgljalfcaa
