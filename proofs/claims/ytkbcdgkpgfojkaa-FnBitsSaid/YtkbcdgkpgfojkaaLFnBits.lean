/- The walk of the law FnBits. -/
import Derived.Test.YtkbcdgkpgfojkaaLaw
namespace Go.Proofs.Ytkbcdgkpgfojkaa
open Go.RowKit
set_option maxRecDepth 100000
set_option linter.unusedVariables false

theorem fnBits_long (w : World) (a0 a1 : Option Addr) (l0 c0 l1 c1 : Nat) (m0 : l0 ≤ 9223372036854775807) (m1 : l1 ≤ 9223372036854775807) (h : ¬ (l0 ≤ 1048576 ∧ l1 ≤ 1048576)) :
    Calls Try.prog 4 #[.slice a0 l0 c0, .slice a1 l1 c1] w fun e w' => e = .returned (.bool true) ∧ Below w.heap.size w w' := by
  go_enter Try.func4, Try.ntmps4
  go_wp2_with fail
  refine (b10Long_yes _ _ _ _ _ _ _ m0 m1 h).mono ?_
  rintro e w1 ⟨rfl, rfl⟩
  go_wp2
  go_ret
  exact ⟨rfl, Below.refl _ _⟩

theorem bo_and (b : Nat) (hb : b < 4294967296) : (bits .and .i64 ((fl b : Nat) : Int) 2139095040 != 2139095040) = fin32 b := by
  have h1 : bits .and .i64 ((fl b : Nat) : Int) 2139095040 = ((fl b &&& 2139095040 : Nat) : Int) := by
    show IntKind.i64.wrap ((BitVec.ofInt 64 ((fl b : Nat) : Int) &&& BitVec.ofInt 64 ((2139095040 : Nat) : Int)).toNat : Int) = _
    rw [BitVec.toNat_and, ofInt_u64 _ (by have := fl_lt hb; omega), ofInt_u64 _ (by omega)]
    have : fl b &&& 2139095040 ≤ 2139095040 := Nat.and_le_right
    exact IntWalk.i64_in _ (by omega)
  rw [h1]
  have h2 : fl b &&& 2139095040 = fl b % 2147483648 / 8388608 * 8388608 := by
    have e1 : (2139095040 : Nat) = (2 ^ 8 - 1) <<< 23 := by decide
    apply Nat.eq_of_testBit_eq
    intro i
    rw [Nat.testBit_and, e1, Nat.testBit_shiftLeft, Nat.testBit_two_pow_sub_one, show fl b % 2147483648 / 8388608 * 8388608 = (fl b % 2 ^ 31 / 2 ^ 23) <<< 23 by rw [Nat.shiftLeft_eq], Nat.testBit_shiftLeft, Nat.testBit_div_two_pow, Nat.testBit_mod_two_pow]
    by_cases hi : 23 ≤ i
    · simp only [ge_iff_le, hi, decide_true, Bool.true_and, Nat.sub_add_cancel hi]
      rw [Bool.and_comm]; congr 1; rw [decide_eq_decide]; omega
    · simp [hi]
  rw [h2]
  have hfb : fl b % 2147483648 < 2147483648 := Nat.mod_lt _ (by omega)
  have e : (((fl b % 2147483648 / 8388608 * 8388608 : Nat) : Int) != 2139095040) = fin32 (fl b) := by
    unfold fin32
    rw [Bool.eq_iff_iff]; simp only [bne_iff_ne, ne_eq, decide_eq_true_eq]; omega
  rw [e]
  cases h : nan32 b
  · rw [fl_eq h]
  · rw [fl_nan h]; unfold nan32 at h; unfold fin32; simp at *; omega

theorem neg_val {b : Nat} (hb : b < 4294967296) : Op.negFloat .f32 b < 4294967296 ∧ nan32 (Op.negFloat .f32 b) = nan32 b ∧ sr32 (Op.negFloat .f32 b) = -(sr32 b) := by
  rw [neg32_eq b hb]
  split
  · refine ⟨by omega, ?_, ?_⟩
    · unfold nan32; rw [decide_eq_decide]; omega
    · unfold sr32; split <;> split <;> omega
  · refine ⟨by omega, ?_, ?_⟩
    · unfold nan32; rw [decide_eq_decide]; omega
    · unfold sr32; split <;> split <;> omega
theorem nu_val {b : Nat} (hb : b < 4294967296) (hn : nan32 b = false) (h : b ≠ 2139095040) : nan32 (nu b) = false ∧ sr32 (nu b) = sr32 b + 1 := by
  unfold nan32 at hn
  rw [decide_eq_false_iff_not] at hn
  unfold nu nan32
  rw [if_neg (by simp; omega), if_neg h]
  split
  · rename_i h0
    refine ⟨by decide, ?_⟩
    unfold sr32; split <;> split <;> omega
  · split
    · refine ⟨by rw [decide_eq_false_iff_not]; omega, ?_⟩
      unfold sr32; split <;> split <;> omega
    · refine ⟨by rw [decide_eq_false_iff_not]; omega, ?_⟩
      unfold sr32; split <;> split <;> omega
theorem nu_inf : nu 2139095040 = 2139095040 := by decide
theorem neg_neg_val {b : Nat} (hb : b < 4294967296) : Op.negFloat .f32 (Op.negFloat .f32 b) = b := by
  rw [neg32_eq b hb]
  split
  · rw [neg32_eq _ (by omega)]; split <;> omega
  · rw [neg32_eq _ (by omega)]; split <;> omega
theorem nd_val {b : Nat} (hb : b < 4294967296) (hn : nan32 b = false) (h : b ≠ 4286578688) : nan32 (nd b) = false ∧ sr32 (nd b) = sr32 b - 1 := by
  obtain ⟨a1, a2, a3⟩ := neg_val hb
  have hne : Op.negFloat .f32 b ≠ 2139095040 := by rw [neg32_eq b hb]; split <;> omega
  obtain ⟨b1, b2⟩ := nu_val a1 (by rw [a2]; exact hn) hne
  obtain ⟨c1, c2, c3⟩ := neg_val (nu_lt a1)
  unfold nd
  exact ⟨by rw [c2]; exact b1, by rw [c3, b2, a3]; omega⟩
theorem nan_nu {b : Nat} (hn : nan32 b = true) : nan32 (nu b) = true := by unfold nu; rw [if_pos hn]; exact hn
theorem nan_nd {b : Nat} (hb : b < 4294967296) (hn : nan32 b = true) : nan32 (nd b) = true := by
  obtain ⟨a1, a2, a3⟩ := neg_val hb
  unfold nd
  rw [(neg_val (nu_lt a1)).2.1]; exact nan_nu (by rw [a2]; exact hn)

theorem fnBits_short (w : World) (a0 a1 : Option Addr) (l0 c0 l1 c1 : Nat) (h0 : l0 ≤ 1048576) (h1 : l1 ≤ 1048576) (r0 : BytesIn w a0 l0) (r1 : BytesIn w a1 l1) :
    Calls Try.prog 4 #[.slice a0 l0 c0, .slice a1 l1 c1] w fun e w' => e = .returned (.bool true) ∧ Below w.heap.size w w' := by
  go_enter Try.func4, Try.ntmps4
  go_wp2_with fail
  refine (b10Long_no _ _ _ _ _ _ _ h0 h1).mono ?_
  rintro e w1 ⟨rfl, rfl⟩
  go_wp2_with fail
  refine (b10Number_any _ _ _ _ r0).mono ?_
  rintro e w1 ⟨b, rfl, hb, hw1⟩
  go_wp2_with fail
  refine (b10Number_any _ _ _ _ (r1.below hw1)).mono ?_
  rintro e w2 ⟨c, rfl, hc, hw2⟩
  have hw := hw1.trans (hw2.mono hw1.size)
  clear hw1 hw2 r0 r1
  go_wp2_with fail
  refine (bitsOf_any _ _ hb).mono ?_
  rintro e w3 ⟨rfl, rfl⟩
  go_wp2_with fail
  refine (fromBits_ok _ _ (fl_lt hb)).mono ?_
  rintro e w3 ⟨rfl, rfl⟩
  have hN : decide (4294967295 < ((fl b : Nat) : Int)) = false := by have := fl_lt hb; simp; omega
  have hN0 : decide (((fl b : Nat) : Int) < 0) = false := by simp
  have hs1 : sm (fl b) b = true := by unfold sm; rw [fl_fl]; simp
  have hs2 : (((fl b : Nat) : Int) == ((fl c : Nat) : Int)) = sm b c := by unfold sm; rw [Bool.eq_iff_iff]; simp; omega
  have hs3 : (((fl b : Nat) : Int) == 2143289344) = nan32 b := by
    cases h : nan32 b
    · rw [fl_eq h]; unfold nan32 at h; rw [decide_eq_false_iff_not] at h; rw [beq_eq_false_iff_ne]; omega
    · rw [fl_nan h]; decide
  have hs4 := bo_and b hb
  go_wp2_with fail
  refine (same_any _ _ _ (fl_lt hb) hb).mono ?_
  rw [hs1]
  rintro e w3 ⟨rfl, rfl⟩
  go_wp2_with fail
  refine (same_any _ _ _ hb hc).mono ?_
  rintro e w3 ⟨rfl, rfl⟩
  go_wp2_with fail
  refine (bitsOf_any _ _ hc).mono ?_
  rintro e w3 ⟨rfl, rfl⟩
  go_wp2_with fail
  refine (isFinite_any _ _).mono ?_
  rintro e w3 ⟨rfl, n, rfl⟩
  go_wp2_with fail
  refine (nextUp_any _ _ hb).mono ?_
  rintro e w3 ⟨rfl, rfl⟩
  go_wp2_with fail
  refine (nextDown_any _ _ hb).mono ?_
  rintro e w3 ⟨rfl, rfl⟩
  have hw' : Below w.heap.size w (w2.drewN n) := below_drewN hw n
  clear hs1 hs2 hs3 hs4 hN hN0
  cases hnan : nan32 b
  · by_cases hp : b = 2139095040
    · subst hp
      have hf : fin32 2139095040 = false := by decide
      have h1 : lt32 0 2139095040 = true := by decide
      have h2 : eq32 (nu 2139095040) 2139095040 = true := by decide
      have h3 : lt32 (nd 2139095040) 2139095040 = true := by decide
      go_wp2_with (go_at_call 19; refine (isFinite_any _ _).mono ?_; rintro e w3 ⟨rfl, m, rfl⟩)
      go_ret
      exact ⟨rfl, below_drewN hw _⟩
    · by_cases hm : b = 4286578688
      · subst hm
        have hf : fin32 4286578688 = false := by decide
        have h1 : lt32 4286578688 0 = true := by decide
        have h1' : lt32 0 4286578688 = false := by decide
        have h2 : lt32 4286578688 (nu 4286578688) = true := by decide
        have h3 : eq32 (nd 4286578688) 4286578688 = true := by decide
        go_wp2_with (go_at_call 19; refine (isFinite_any _ _).mono ?_; rintro e w3 ⟨rfl, m, rfl⟩)
        go_ret
        exact ⟨rfl, below_drewN hw _⟩
      · have hf : fin32 b = true := by unfold nan32 at hnan; unfold fin32; simp at *; omega
        obtain ⟨u1, u2⟩ := nu_val hb hnan hp
        obtain ⟨d1, d2⟩ := nd_val hb hnan hm
        have f1 : lt32 b (nu b) = true := by unfold lt32; rw [hnan, u1]; simp; omega
        have f2 : lt32 (nd b) b = true := by unfold lt32; rw [hnan, d1]; simp; omega
        have f3 : (lt32 b c = true ∧ lt32 c (nu b) = false ∧ lt32 c b = false) ∨ (lt32 b c = false ∧ lt32 c b = true ∧ lt32 (nd b) c = false) ∨ (lt32 b c = false ∧ lt32 c b = false) := by
          unfold lt32; rw [hnan, u1, d1]
          cases nan32 c <;> simp
          omega
        have nd_nu : eq32 (nd (nu b)) b = true := by
          by_cases hx : nu b = 4286578688
          · have : sr32 (nu b) = -2139095040 := by rw [hx]; decide
            unfold nan32 at hnan
            rw [decide_eq_false_iff_not] at hnan
            unfold sr32 at this u2
            omega
          · obtain ⟨e1, e2⟩ := nd_val (nu_lt hb) u1 hx
            unfold eq32; rw [hnan, e1]; simp; omega
        have nu_nd : eq32 (nu (nd b)) b = true := by
          by_cases hx : nd b = 2139095040
          · have : sr32 (nd b) = 2139095040 := by rw [hx]; decide
            unfold nan32 at hnan
            rw [decide_eq_false_iff_not] at hnan
            unfold sr32 at this d2
            omega
          · obtain ⟨e1, e2⟩ := nu_val (nd_lt hb) d1 hx
            unfold eq32; rw [hnan, e1]; simp; omega
        have hu := nu_lt hb
        have hd := nd_lt hb
        clear u1 u2 d1 d2 hp hm
        rcases f3 with ⟨g1, g2, g3⟩ | ⟨g1, g2, g3⟩ | ⟨g1, g2⟩
        all_goals
          go_wp2_with fail
          refine (isFinite_any _ _).mono ?_
          rintro e w3 ⟨rfl, m, rfl⟩
          go_wp2_with fail
          refine (nextDown_any _ _ hu).mono ?_
          rintro e w3 ⟨rfl, rfl⟩
          go_wp2_with fail
          refine (nextUp_any _ _ hd).mono ?_
          rintro e w3 ⟨rfl, rfl⟩
          go_wp2
          go_ret
          exact ⟨rfl, below_drewN hw _⟩
  · have hu := nan_nu hnan
    have hd := nan_nd hb hnan
    go_wp2
    go_ret
    exact ⟨rfl, hw'⟩

theorem fnBits_walk (w : World) (a0 a1 : Option Addr) (l0 c0 l1 c1 : Nat) (z0 z1 : List Int)
    (r0 : (a0 = none ∧ l0 = 0 ∧ c0 = 0 ∧ z0 = []) ∨ ∃ x, a0 = some x ∧ l0 ≤ c0 ∧ c0 ≤ maxLen ∧ z0.length = c0 ∧ (∀ i, i < z0.length → w.cell? (x.add i) = some (.int .u8 (z0.getD i 0))) ∧ ∀ n ∈ z0, (Lit.int .u8 n).wf = true)
    (r1 : (a1 = none ∧ l1 = 0 ∧ c1 = 0 ∧ z1 = []) ∨ ∃ x, a1 = some x ∧ l1 ≤ c1 ∧ c1 ≤ maxLen ∧ z1.length = c1 ∧ (∀ i, i < z1.length → w.cell? (x.add i) = some (.int .u8 (z1.getD i 0))) ∧ ∀ n ∈ z1, (Lit.int .u8 n).wf = true) :
    Calls Try.prog 4 #[.slice a0 l0 c0, .slice a1 l1 c1] w fun e w' => e = .returned (.bool true) ∧ Below w.heap.size w w' := by
  by_cases h : l0 ≤ 1048576 ∧ l1 ≤ 1048576
  · exact fnBits_short w a0 a1 l0 c0 l1 c1 h.1 h.2 (bytesIn_of_row r0 h.1) (bytesIn_of_row r1 h.2)
  · exact fnBits_long w a0 a1 l0 c0 l1 c1 (len_of_row r0) (len_of_row r1) h

end Go.Proofs.Ytkbcdgkpgfojkaa
