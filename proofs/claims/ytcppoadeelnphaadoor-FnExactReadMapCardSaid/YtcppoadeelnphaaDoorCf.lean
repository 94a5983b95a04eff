/- Numbers that are read from their texts: the plain law. -/
import Derived.Test.YtcppoadeelnphaaDoorDc
import Derived.Lib.ItoaNum
import Derived.Lib.ParseIntBTie
namespace Go.Proofs.YtcppoadeelnphaaDoor
open Go.RowKit
set_option maxRecDepth 100000
set_option linter.unusedVariables false
set_option linter.unusedSimpArgs false

theorem dig_nat {k : Nat} (h : k < 10) : (UInt8.ofNat (48 + k)).toNat = 48 + k := by rw [UInt8.toNat_ofNat']; omega
theorem parse_snoc (c : UInt8) : ∀ (a : List UInt8) (acc u : Nat), Lib.parseUint10 acc a = .ok u → Lib.parseUint10 acc (a ++ [c]) = Lib.parseUint10 u [c]
  | [], acc, u, h => by
    simp only [Lib.parseUint10] at h
    injection h with h
    rw [h]; rfl
  | d :: r, acc, u, h => by
    rw [List.cons_append]
    simp only [Lib.parseUint10] at h ⊢
    split at h
    · split at h
      · cases h
      · split at h
        · cases h
        · rename_i h1 h2 h3
          rw [if_pos h1, if_neg h2, if_neg h3, parse_snoc c r _ u h]
          simp only [Lib.parseUint10]
    · cases h
theorem parse_dec (u : Nat) : u ≤ 1000000000000000 → Lib.parseUint10 0 (Lib.decDigits u) = .ok u := by
  induction u using Nat.strongRecOn with
  | _ u ih =>
    intro hu
    by_cases h : u < 10
    · rw [Lib.decDigits, dif_pos h]
      have hd := dig_nat h
      simp only [Lib.parseUint10, hd]
      rw [if_pos (by omega), if_neg (by omega), if_neg (by omega)]
      congr 1; omega
    · rw [Lib.decDigits, dif_neg h, parse_snoc _ _ _ _ (ih (u / 10) (by omega) (by omega))]
      have hd := dig_nat (k := u % 10) (by omega)
      simp only [Lib.parseUint10, hd]
      rw [if_pos (by omega), if_neg (by omega), if_neg (by omega)]
      congr 1; omega
theorem dec_head (u : Nat) : ∃ k r, k < 10 ∧ Lib.decDigits u = UInt8.ofNat (48 + k) :: r := by
  induction u using Nat.strongRecOn with
  | _ u ih =>
    by_cases h : u < 10
    · exact ⟨u, [], h, by rw [Lib.decDigits, dif_pos h]⟩
    · obtain ⟨k, r, hk, e⟩ := ih (u / 10) (by omega)
      exact ⟨k, r ++ [UInt8.ofNat (48 + u % 10)], hk, by rw [Lib.decDigits, dif_neg h, e, List.cons_append]⟩
theorem atoi_itoa {n : Int} (h1 : -1000000000000000 ≤ n) (h2 : n ≤ 1000000000000000) : Lib.parseIntB 64 (Lib.itoa n) = .ok n := by
  rw [Lib.parseIntB_64]
  obtain ⟨k, r, hk, e⟩ := dec_head n.natAbs
  have hp := parse_dec n.natAbs (by omega)
  have hm : Lib.parseMag (Lib.decDigits n.natAbs) = .ok n.natAbs := by
    unfold Lib.parseMag; rw [if_neg (by rw [e]; simp)]; exact hp
  unfold Lib.itoa
  by_cases hn : n < 0
  · rw [if_pos hn]
    unfold Lib.atoiAll
    have h45 : (45 : UInt8).toNat = 45 := rfl
    simp only [h45]
    simp
    rw [hm]
    simp only
    rw [if_neg (by omega)]
    congr 1; omega
  · rw [if_neg hn, show n.toNat = n.natAbs by omega]
    rw [e] at hm ⊢
    unfold Lib.atoiAll
    have hd := dig_nat hk
    simp only [hd]
    rw [if_neg (by omega), hm]
    simp only
    rw [if_neg (by omega), if_neg (by omega), if_neg (by omega)]
    congr 1; omega
/-- What the digits of a text spell, other bytes left out. -/
def digF (p : List UInt8) : Nat := p.foldl (fun n c => if 48 ≤ c.toNat ∧ c.toNat ≤ 57 then 10 * n + (c.toNat - 48) else n) 0
theorem digF_snoc (p : List UInt8) (c : UInt8) : digF (p ++ [c]) = if 48 ≤ c.toNat ∧ c.toNat ≤ 57 then 10 * digF p + (c.toNat - 48) else digF p := by
  unfold digF; rw [List.foldl_append]; rfl
theorem digF_dec (u : Nat) : digF (Lib.decDigits u) = u := by
  induction u using Nat.strongRecOn with
  | _ u ih =>
    by_cases h : u < 10
    · rw [Lib.decDigits, dif_pos h, show [UInt8.ofNat (48 + u)] = [] ++ [UInt8.ofNat (48 + u)] from rfl, digF_snoc, dig_nat h, if_pos (by omega)]
      show 10 * 0 + _ = _
      omega
    · rw [Lib.decDigits, dif_neg h, digF_snoc, dig_nat (by omega), if_pos (by omega), ih (u / 10) (by omega)]
      omega
theorem digF_minus (p : List UInt8) : digF (45 :: p) = digF p := by unfold digF; rw [List.foldl_cons]; rfl
theorem digF_itoa (n : Int) : digF (Lib.itoa n) = n.natAbs := by
  unfold Lib.itoa
  split
  · rw [digF_minus, digF_dec]
  · rw [digF_dec]; omega
theorem itoa_head (n : Int) : (Lib.itoa n).head? = some 45 ↔ n < 0 := by
  unfold Lib.itoa
  split
  · rename_i h; simp [h]
  · rename_i h
    obtain ⟨k, r, hk, e⟩ := dec_head n.toNat
    rw [e]
    simp only [List.head?_cons, Option.some.injEq]
    constructor
    · intro h2
      have := congrArg UInt8.toNat h2
      rw [dig_nat hk] at this
      have h45 : (45 : UInt8).toNat = 45 := rfl
      omega
    · intro h2; omega
theorem dec_len : ∀ (k u : Nat), 1 ≤ k → u < 10 ^ k → (Lib.decDigits u).length ≤ k
  | 0, u, h, _ => by omega
  | k + 1, u, _, h => by
    by_cases h1 : u < 10
    · rw [Lib.decDigits, dif_pos h1]; simp
    · rw [Lib.decDigits, dif_neg h1, List.length_append, List.length_singleton]
      have hk : 1 ≤ k := by
        rcases Nat.eq_zero_or_pos k with h0 | h0
        · subst h0; simp at h; omega
        · exact h0
      have := dec_len k (u / 10) hk (by rw [Nat.pow_succ] at h; omega)
      omega
theorem itoa_len {n : Int} (h1 : -1000000000000000 ≤ n) (h2 : n ≤ 1000000000000000) : 1 ≤ (Lib.itoa n).length ∧ (Lib.itoa n).length ≤ 17 := by
  obtain ⟨k, r, _, e⟩ := dec_head n.natAbs
  have hp : 1 ≤ (Lib.decDigits n.natAbs).length := by rw [e]; simp
  have hl := dec_len 16 n.natAbs (by decide) (by omega)
  unfold Lib.itoa
  split
  · simp; omega
  · rw [show n.toNat = n.natAbs by omega]; omega
/-- What a text is read as. -/
def valD (p : List UInt8) : Int × Bool := match Lib.parseIntB 64 p with
  | .ok v => if (-1000000000000000 ≤ v ∧ v ≤ 1000000000000000) ∧ Lib.itoa v = p then (v, true) else (0, false)
  | _ => (0, false)
/-- The reference's way. -/
def sgnF (p : List UInt8) : Int := if p.head? = some 45 then -(digF p : Int) else (digF p : Int)
def valS (p : List UInt8) : Int × Bool := if (1 ≤ p.length ∧ p.length ≤ 17) ∧ (-1000000000000000 ≤ sgnF p ∧ sgnF p ≤ 1000000000000000) ∧ Lib.itoa (sgnF p) = p then (sgnF p, true) else (0, false)
theorem sgnF_itoa (n : Int) : sgnF (Lib.itoa n) = n := by
  unfold sgnF
  rw [digF_itoa]
  split
  · rename_i h; have := (itoa_head n).1 h; omega
  · rename_i h; have : ¬ n < 0 := fun h2 => h ((itoa_head n).2 h2); omega
theorem valD_itoa {n : Int} (h1 : -1000000000000000 ≤ n) (h2 : n ≤ 1000000000000000) : valD (Lib.itoa n) = (n, true) := by
  unfold valD
  rw [atoi_itoa h1 h2]
  simp [h1, h2]
theorem valS_eq (p : List UInt8) : valS p = valD p := by
  unfold valS
  split
  · rename_i h
    obtain ⟨-, ⟨h1, h2⟩, h3⟩ := h
    conv => rhs; rw [← h3]
    rw [valD_itoa h1 h2]
  · rename_i h
    unfold valD
    split
    · rename_i v hv
      split
      · rename_i h2
        obtain ⟨⟨h2, h3⟩, h4⟩ := h2
        exfalso
        apply h
        have e : sgnF p = v := by rw [← h4, sgnF_itoa]
        have hl := itoa_len h2 h3
        rw [h4] at hl
        exact ⟨hl, by rw [e]; exact ⟨h2, h3⟩, by rw [e]; exact h4⟩
      · rfl
    · rfl

end Go.Proofs.YtcppoadeelnphaaDoor
