/- Bounds of 32-bit results: what lies between two words is rounded to what lies between them. No program in sight. -/
import Derived.Test.YtkhoifgljalfcaaQf
namespace Go.Proofs.Ytkhoifgljalfcaa
open Go.RowKit Ieee
set_option maxRecDepth 100000
set_option linter.unusedVariables false
set_option linter.unusedSimpArgs false

/-- The value of a word in units of the least place. -/
def vv (w : Nat) : Int := sv single w
theorem vv_fq {g : Nat} {k : Int} (h : k.natAbs ≤ 16777216) : vv (fq g k) = k * ((2 ^ (149 - g) : Nat) : Int) := (qw_spec f1 (few32 (g := g) h)).2.1
theorem lt32_vv {a b : Nat} (ha : fin32 a = true) (hb : fin32 b = true) : lt32 a b = decide (vv a < vv b) := by
  rw [← ord_lt32, order_fin single ((fin32_iff a).2 ha) ((fin32_iff b).2 hb)]; exact cmp_beq_lt _ _
theorem eq32_vv {a b : Nat} (ha : fin32 a = true) (hb : fin32 b = true) : eq32 a b = decide (vv a = vv b) := by
  rw [← ord_eq32, order_fin single ((fin32_iff a).2 ha) ((fin32_iff b).2 hb)]; exact cmp_beq_eq _ _
theorem le32_vv {a b : Nat} (ha : fin32 a = true) (hb : fin32 b = true) : le32 a b = decide (vv a ≤ vv b) := by
  rw [← ord_le32, lt32_vv ha hb, eq32_vv ha hb, Bool.eq_iff_iff]; simp; omega

theorem rd0_le {N k r : Nat} (h : N ≤ unit single r * 2 ^ k) : rd0 single N k ≤ r := by
  refine IsRd.mono (Nat.two_pow_pos k) (Nat.two_pow_pos k) (rd0_isRd single f1 N k) (IsRd.exact single (Nat.two_pow_pos k) r) ?_
  exact Nat.mul_le_mul_right _ h
theorem le_rd0 {N k r : Nat} (h : unit single r * 2 ^ k ≤ N) : r ≤ rd0 single N k := by
  refine IsRd.mono (Nat.two_pow_pos k) (Nat.two_pow_pos k) (IsRd.exact single (Nat.two_pow_pos k) r) (rd0_isRd single f1 N k) ?_
  exact Nat.mul_le_mul_right _ h

/-- What a word of a sign and a rung is, where its rung is bounded. -/
theorem word_bd {neg : Bool} {rd : Nat} {lo hi : Nat} (hlo : fin32 lo = true) (hhi : fin32 hi = true)
    (h1 : neg = true → 0 ≤ vv lo → rd = 0) (h2 : neg = true → vv lo < 0 → rd ≤ rg single lo) (h3 : neg = true → vv hi < 0 → rg single hi ≤ rd)
    (h4 : neg = false → vv hi ≤ 0 → rd = 0) (h5 : neg = false → 0 < vv hi → rd ≤ rg single hi) (h6 : neg = false → 0 < vv lo → rg single lo ≤ rd) (h7 : neg = true → vv lo ≤ 0) (h8 : neg = false → 0 ≤ vv hi) :
    fin32 (single.word neg (min rd single.infRung)) = true ∧ single.word neg (min rd single.infRung) < 4294967296 ∧ vv lo ≤ vv (single.word neg (min rd single.infRung)) ∧ vv (single.word neg (min rd single.infRung)) ≤ vv hi := by
  have flo : rg single lo < single.infRung := (fin32_iff lo).2 hlo
  have fhi : rg single hi < single.infRung := (fin32_iff hi).2 hhi
  have hinf : 0 < single.infRung := by rw [sg_inf]; omega
  have hrd : rd < single.infRung := by
    cases neg
    · rcases Int.lt_or_le 0 (vv hi) with g | g
      · have := h5 rfl g; omega
      · have := h4 rfl g; omega
    · rcases Int.lt_or_le (vv lo) 0 with g | g
      · have := h2 rfl g; omega
      · have := h1 rfl g; omega
  have hm : min rd single.infRung = rd := Nat.min_eq_left (Nat.le_of_lt hrd)
  rw [hm]
  have hsw : rd < single.signWeight := Nat.lt_trans hrd single.infRung_lt
  have hv : vv (single.word neg rd) = if neg then -(unit single rd : Int) else (unit single rd : Int) := sv_word single neg hsw
  have hfin : fin32 (single.word neg rd) = true := (fin32_iff _).1 (fin_word single neg hrd)
  have hlt : single.word neg rd < 4294967296 := by
    have : single.word neg rd < 2 * single.signWeight := by unfold Format.word; split <;> omega
    rw [sg_sw] at this; exact this
  refine ⟨hfin, hlt, ?_, ?_⟩
  · rw [hv]
    cases neg
    · simp only [Bool.false_eq_true, if_false]
      rcases Int.lt_or_le 0 (vv lo) with g | g
      · have e := unit_mono single (h6 rfl g)
        have : vv lo = (unit single (rg single lo) : Int) := by
          unfold vv sv at g ⊢
          split
          · rename_i hs; rw [if_pos hs] at g; omega
          · rfl
        omega
      · omega
    · simp only [if_true]
      rcases Int.lt_or_le (vv lo) 0 with g | g
      · have e := unit_mono single (h2 rfl g)
        have : vv lo = -(unit single (rg single lo) : Int) := by
          unfold vv sv at g ⊢
          split
          · rfl
          · rename_i hs; rw [if_neg hs] at g; omega
        omega
      · have e := h1 rfl g
        have := h7 rfl
        rw [e, unit_zero]; omega
  · rw [hv]
    cases neg
    · simp only [Bool.false_eq_true, if_false]
      rcases Int.lt_or_le 0 (vv hi) with g | g
      · have e := unit_mono single (h5 rfl g)
        have : vv hi = (unit single (rg single hi) : Int) := by
          unfold vv sv at g ⊢
          split
          · rename_i hs; rw [if_pos hs] at g; omega
          · rfl
        omega
      · have e := h4 rfl g
        have := h8 rfl
        rw [e, unit_zero]; omega
    · simp only [if_true]
      rcases Int.lt_or_le (vv hi) 0 with g | g
      · have e := unit_mono single (h3 rfl g)
        have : vv hi = -(unit single (rg single hi) : Int) := by
          unfold vv sv at g ⊢
          split
          · rfl
          · rename_i hs; rw [if_neg hs] at g; omega
        omega
      · omega

theorem vv_neg {w : Nat} (h : vv w < 0) : vv w = -(unit single (rg single w) : Int) := by
  unfold vv sv at h ⊢
  split
  · rfl
  · rename_i hs; rw [if_neg hs] at h; omega
theorem vv_pos {w : Nat} (h : 0 < vv w) : vv w = (unit single (rg single w) : Int) := by
  unfold vv sv at h ⊢
  split
  · rename_i hs; rw [if_pos hs] at h; omega
  · rfl
theorem unit_of_zero {N k : Nat} (h : N = 0) : rd0 single N k = 0 := by
  have := rd0_le (N := N) (k := k) (r := 0) (by rw [h]; omega)
  omega

/-- A rounded number lies between the words that it lay between. -/
theorem rnd_bd {neg : Bool} {N k : Nat} {lo hi : Nat} (hlo : fin32 lo = true) (hhi : fin32 hi = true)
    (h1 : vv lo * ((2 ^ k : Nat) : Int) ≤ (if neg then -(N : Int) else (N : Int))) (h2 : (if neg then -(N : Int) else (N : Int)) ≤ vv hi * ((2 ^ k : Nat) : Int)) :
    fin32 (rnd single neg N k) = true ∧ rnd single neg N k < 4294967296 ∧ vv lo ≤ vv (rnd single neg N k) ∧ vv (rnd single neg N k) ≤ vv hi := by
  have hp := pow_pos_int k
  unfold rnd
  apply word_bd hlo hhi
  · intro e g
    rw [e] at h1 h2; simp only [if_true] at h1 h2
    have := Int.mul_nonneg g (Int.le_of_lt hp)
    exact unit_of_zero (by omega)
  · intro e g
    rw [e] at h1 h2; simp only [if_true] at h1 h2
    apply rd0_le
    rw [vv_neg g, Int.neg_mul, ← Int.natCast_mul] at h1
    omega
  · intro e g
    rw [e] at h1 h2; simp only [if_true] at h1 h2
    apply le_rd0
    rw [vv_neg g, Int.neg_mul, ← Int.natCast_mul] at h2
    omega
  · intro e g
    rw [e] at h1 h2; simp only [Bool.false_eq_true, if_false] at h1 h2
    have := Int.mul_nonpos_of_nonpos_of_nonneg g (Int.le_of_lt hp)
    exact unit_of_zero (by omega)
  · intro e g
    rw [e] at h1 h2; simp only [Bool.false_eq_true, if_false] at h1 h2
    apply rd0_le
    rw [vv_pos g, ← Int.natCast_mul] at h2
    omega
  · intro e g
    rw [e] at h1 h2; simp only [Bool.false_eq_true, if_false] at h1 h2
    apply le_rd0
    rw [vv_pos g, ← Int.natCast_mul] at h1
    omega
  · intro e
    rw [e] at h1; simp only [if_true] at h1
    rcases Int.lt_or_le 0 (vv lo) with g | g
    · have := Int.mul_pos g hp; omega
    · exact g
  · intro e
    rw [e] at h2; simp only [Bool.false_eq_true, if_false] at h2
    rcases Int.lt_or_le (vv hi) 0 with g | g
    · have := Int.mul_neg_of_neg_of_pos g hp; omega
    · exact g

theorem add_bd {a b lo hi : Nat} (ha : fin32 a = true) (hb : fin32 b = true) (hlo : fin32 lo = true) (hhi : fin32 hi = true) (h1 : vv lo ≤ vv a + vv b) (h2 : vv a + vv b ≤ vv hi) :
    ∃ r, floatBits .add .f32 a b = some r ∧ fin32 r = true ∧ r < 4294967296 ∧ vv lo ≤ vv r ∧ vv r ≤ vv hi := by
  have e := add_fin single ((fin32_iff a).2 ha) ((fin32_iff b).2 hb)
  refine ⟨_, e, ?_⟩
  apply rnd_bd hlo hhi
  · rw [Nat.pow_zero, Int.natCast_one, Int.mul_one]
    show vv lo ≤ if (if vv a + vv b = 0 then sgn single a && sgn single b else decide (vv a + vv b < 0)) = true then -((vv a + vv b).natAbs : Int) else ((vv a + vv b).natAbs : Int)
    by_cases z : vv a + vv b = 0
    · rw [z] at h1 ⊢; split <;> simp <;> omega
    · rw [if_neg z]; split <;> rename_i g <;> simp at g <;> omega
  · rw [Nat.pow_zero, Int.natCast_one, Int.mul_one]
    show (if (if vv a + vv b = 0 then sgn single a && sgn single b else decide (vv a + vv b < 0)) = true then -((vv a + vv b).natAbs : Int) else ((vv a + vv b).natAbs : Int)) ≤ vv hi
    by_cases z : vv a + vv b = 0
    · rw [z] at h2 ⊢; split <;> simp <;> omega
    · rw [if_neg z]; split <;> rename_i g <;> simp at g <;> omega
theorem sub_bd {a b lo hi : Nat} (ha : fin32 a = true) (hb : fin32 b = true) (hlo : fin32 lo = true) (hhi : fin32 hi = true) (h1 : vv lo ≤ vv a - vv b) (h2 : vv a - vv b ≤ vv hi) :
    ∃ r, floatBits .sub .f32 a b = some r ∧ fin32 r = true ∧ r < 4294967296 ∧ vv lo ≤ vv r ∧ vv r ≤ vv hi := by
  have e := sub_fin single ((fin32_iff a).2 ha) ((fin32_iff b).2 hb)
  refine ⟨_, e, ?_⟩
  apply rnd_bd hlo hhi
  · rw [Nat.pow_zero, Int.natCast_one, Int.mul_one]
    show vv lo ≤ if (if vv a - vv b = 0 then sgn single a && !sgn single b else decide (vv a - vv b < 0)) = true then -((vv a - vv b).natAbs : Int) else ((vv a - vv b).natAbs : Int)
    by_cases z : vv a - vv b = 0
    · rw [z] at h1 ⊢; split <;> simp <;> omega
    · rw [if_neg z]; split <;> rename_i g <;> simp at g <;> omega
  · rw [Nat.pow_zero, Int.natCast_one, Int.mul_one]
    show (if (if vv a - vv b = 0 then sgn single a && !sgn single b else decide (vv a - vv b < 0)) = true then -((vv a - vv b).natAbs : Int) else ((vv a - vv b).natAbs : Int)) ≤ vv hi
    by_cases z : vv a - vv b = 0
    · rw [z] at h2 ⊢; split <;> simp <;> omega
    · rw [if_neg z]; split <;> rename_i g <;> simp at g <;> omega

/-- A quotient by a positive number. -/
theorem div_bd {a b lo hi : Nat} (ha : fin32 a = true) (hb : fin32 b = true) (hlo : fin32 lo = true) (hhi : fin32 hi = true) (hb0 : 0 < vv b) (ha0 : 0 ≤ vv a) (h1 : vv lo * vv b ≤ vv a * ((2 ^ 149 : Nat) : Int)) (h2 : vv a * ((2 ^ 149 : Nat) : Int) ≤ vv hi * vv b) :
    ∃ r, floatBits .quo .f32 a b = some r ∧ fin32 r = true ∧ r < 4294967296 ∧ vv lo ≤ vv r ∧ vv r ≤ vv hi := by
  have hvb := vv_pos hb0
  have hpb : 0 < unit single (rg single b) := by omega
  have hsb : sgn single b = false := by
    cases h : sgn single b
    · rfl
    · exfalso
      have : vv b = -(unit single (rg single b) : Int) := by unfold vv sv; rw [if_pos h]
      omega
  have hva : vv a = (unit single (rg single a) : Int) := by
    cases hs : sgn single a
    · unfold vv sv; rw [if_neg (by rw [hs]; simp)]
    · have e : vv a = -(unit single (rg single a) : Int) := by unfold vv sv; rw [if_pos hs]
      omega
  obtain ⟨r, hr, e⟩ := div_fin single f1 (by rw [sg_L]; omega) ((fin32_iff a).2 ha) ((fin32_iff b).2 hb) hpb
  have eL : (-single.leastPlace).toNat = 149 := by rw [sg_L]; rfl
  rw [eL] at hr
  have hz : sgn single a = true → r = 0 := by
    intro hs
    have e1 : vv a = -(unit single (rg single a) : Int) := by unfold vv sv; rw [if_pos hs]
    have e2 : unit single (rg single a) = 0 := by omega
    have := IsRd.mono hpb hpb hr (IsRd.exact single hpb 0) (Nat.mul_le_mul_right _ (by rw [e2, unit_zero, Nat.zero_mul, Nat.zero_mul]; exact Nat.le_refl 0))
    exact Nat.le_zero.1 this
  rw [hva, hvb, ← Int.natCast_mul] at h1 h2
  refine ⟨_, e, ?_⟩
  rw [hsb, Bool.xor_false]
  have hle : ∀ x : Nat, unit single (rg single a) * 2 ^ 149 ≤ unit single x * unit single (rg single b) → r ≤ x := fun x hx =>
    IsRd.mono hpb hpb hr (IsRd.exact single hpb x) (Nat.mul_le_mul_right _ hx)
  have hge : ∀ x : Nat, unit single x * unit single (rg single b) ≤ unit single (rg single a) * 2 ^ 149 → x ≤ r := fun x hx =>
    IsRd.mono hpb hpb (IsRd.exact single hpb x) hr (Nat.mul_le_mul_right _ hx)
  have hpbi : (0 : Int) < (unit single (rg single b) : Int) := by omega
  obtain ⟨P149, hP149⟩ : ∃ p, p = 2 ^ 149 := ⟨_, rfl⟩
  have hN : (0 : Int) ≤ ((unit single (rg single a) * P149 : Nat) : Int) := Int.natCast_nonneg _
  rw [hP149] at hN
  apply word_bd hlo hhi
  · intro g _; exact hz g
  · intro g _; rw [hz g]; exact Nat.zero_le _
  · intro g g2
    have := Int.mul_neg_of_neg_of_pos g2 hpbi
    omega
  · intro _ g
    have := Int.mul_nonpos_of_nonpos_of_nonneg g (Int.le_of_lt hpbi)
    have h0 := hle 0 (by rw [unit_zero]; omega)
    omega
  · intro _ g
    apply hle
    rw [vv_pos g, ← Int.natCast_mul] at h2
    exact_mod_cast h2
  · intro _ g
    apply hge
    rw [vv_pos g, ← Int.natCast_mul] at h1
    exact_mod_cast h1
  · intro g
    rcases Int.lt_or_le 0 (vv lo) with g2 | g2
    · have e1 := hz g
      have e2 : vv a = -(unit single (rg single a) : Int) := by unfold vv sv; rw [if_pos g]
      have e3 : unit single (rg single a) = 0 := by omega
      rw [e3, Nat.zero_mul] at h1
      have := Int.mul_pos g2 hpbi
      omega
    · exact g2
  · intro _
    rcases Int.lt_or_le (vv hi) 0 with g | g
    · have := Int.mul_neg_of_neg_of_pos g hpbi; omega
    · exact g

/-- The quotient of quarters by a whole number lies between quarters. -/
theorem quo_q {s m : Int} (hs0 : 0 ≤ s) (hs1 : s ≤ 16777216) (hm0 : 0 < m) (hm1 : m ≤ 16777216) {lo hi : Int} (hlo : lo.natAbs ≤ 16777216) (hhi : hi.natAbs ≤ 16777216) (h1 : lo * m ≤ s) (h2 : s ≤ hi * m) :
    ∃ r, floatBits .quo .f32 (fq 2 s) (fq 0 m) = some r ∧ fin32 r = true ∧ r < 4294967296 ∧ vv (fq 2 lo) ≤ vv r ∧ vv r ≤ vv (fq 2 hi) := by
  have e : ((2 ^ 149 : Nat) : Int) = ((2 ^ (149 - 0) : Nat) : Int) := rfl
  have p1 := pow_pos_int (149 - 2)
  have p2 := pow_pos_int (149 - 0)
  have va := vv_fq (g := 2) (k := s) (by omega)
  have vb := vv_fq (g := 0) (k := m) (by omega)
  have vl := vv_fq (g := 2) (k := lo) hlo
  have vh := vv_fq (g := 2) (k := hi) hhi
  refine div_bd (fq_fin (by omega)) (fq_fin (by omega)) (fq_fin hlo) (fq_fin hhi) ?_ ?_ ?_ ?_
  · rw [vb]; exact Int.mul_pos hm0 p2
  · rw [va]; exact Int.mul_nonneg hs0 (Int.le_of_lt p1)
  · rw [vl, vb, va, e]
    have := Int.mul_le_mul_of_nonneg_right h1 (Int.le_of_lt (Int.mul_pos p1 p2))
    rw [show lo * m * (((2 ^ (149 - 2) : Nat) : Int) * ((2 ^ (149 - 0) : Nat) : Int)) = lo * ((2 ^ (149 - 2) : Nat) : Int) * (m * ((2 ^ (149 - 0) : Nat) : Int)) by ac_rfl, ← Int.mul_assoc s] at this
    exact this
  · rw [vh, vb, va, e]
    have := Int.mul_le_mul_of_nonneg_right h2 (Int.le_of_lt (Int.mul_pos p1 p2))
    rw [show hi * m * (((2 ^ (149 - 2) : Nat) : Int) * ((2 ^ (149 - 0) : Nat) : Int)) = hi * ((2 ^ (149 - 2) : Nat) : Int) * (m * ((2 ^ (149 - 0) : Nat) : Int)) by ac_rfl, ← Int.mul_assoc s] at this
    exact this

end Go.Proofs.Ytkhoifgljalfcaa
