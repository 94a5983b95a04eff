/- Numbers that are read from their texts: the plain law. -/
import Derived.Test.YtjibghjongplpaaDoorDc
import Derived.Lib.ItoaNum
import Derived.Lib.ParseIntBTie
import Derived.Test.YtjibghjongplpaaDoorBa
import Derived.Test.YtjibghjongplpaaDoorTx
import Derived.Test.YtjibghjongplpaaDoorBe
namespace Go.Proofs.YtjibghjongplpaaDoor
section
open Go.RowKit
set_option maxRecDepth 100000
set_option linter.unusedVariables false
set_option linter.unusedSimpArgs false

theorem dig_nat {k : Nat} (h : k < 10) : (UInt8.ofNat (48 + k)).toNat = 48 + k := by rw [UInt8.toNat_ofNat']; omega
theorem parse_snoc (c : UInt8) : ∀ (a : List UInt8) (acc u : Nat), Lib.parseUint10 acc a = .ok u → Lib.parseUint10 acc (a ++ [c]) = Lib.parseUint10 u [c]
  | [], acc, u, h => by
    simp only [Lib.parseUint10] at h
    injection h with h
    rw [h]; rfl
  | d :: r, acc, u, h => by
    rw [List.cons_append]
    simp only [Lib.parseUint10] at h ⊢
    split at h
    · split at h
      · cases h
      · split at h
        · cases h
        · rename_i h1 h2 h3
          rw [if_pos h1, if_neg h2, if_neg h3, parse_snoc c r _ u h]
          simp only [Lib.parseUint10]
    · cases h
theorem parse_dec (u : Nat) : u ≤ 1000000000000000 → Lib.parseUint10 0 (Lib.decDigits u) = .ok u := by
  induction u using Nat.strongRecOn with
  | _ u ih =>
    intro hu
    by_cases h : u < 10
    · rw [Lib.decDigits, dif_pos h]
      have hd := dig_nat h
      simp only [Lib.parseUint10, hd]
      rw [if_pos (by omega), if_neg (by omega), if_neg (by omega)]
      congr 1; omega
    · rw [Lib.decDigits, dif_neg h, parse_snoc _ _ _ _ (ih (u / 10) (by omega) (by omega))]
      have hd := dig_nat (k := u % 10) (by omega)
      simp only [Lib.parseUint10, hd]
      rw [if_pos (by omega), if_neg (by omega), if_neg (by omega)]
      congr 1; omega
theorem dec_head (u : Nat) : ∃ k r, k < 10 ∧ Lib.decDigits u = UInt8.ofNat (48 + k) :: r := by
  induction u using Nat.strongRecOn with
  | _ u ih =>
    by_cases h : u < 10
    · exact ⟨u, [], h, by rw [Lib.decDigits, dif_pos h]⟩
    · obtain ⟨k, r, hk, e⟩ := ih (u / 10) (by omega)
      exact ⟨k, r ++ [UInt8.ofNat (48 + u % 10)], hk, by rw [Lib.decDigits, dif_neg h, e, List.cons_append]⟩
theorem atoi_itoa {n : Int} (h1 : -1000000000000000 ≤ n) (h2 : n ≤ 1000000000000000) : Lib.parseIntB 64 (Lib.itoa n) = .ok n := by
  rw [Lib.parseIntB_64]
  obtain ⟨k, r, hk, e⟩ := dec_head n.natAbs
  have hp := parse_dec n.natAbs (by omega)
  have hm : Lib.parseMag (Lib.decDigits n.natAbs) = .ok n.natAbs := by
    unfold Lib.parseMag; rw [if_neg (by rw [e]; simp)]; exact hp
  unfold Lib.itoa
  by_cases hn : n < 0
  · rw [if_pos hn]
    unfold Lib.atoiAll
    have h45 : (45 : UInt8).toNat = 45 := rfl
    simp only [h45]
    simp
    rw [hm]
    simp only
    rw [if_neg (by omega)]
    congr 1; omega
  · rw [if_neg hn, show n.toNat = n.natAbs by omega]
    rw [e] at hm ⊢
    unfold Lib.atoiAll
    have hd := dig_nat hk
    simp only [hd]
    rw [if_neg (by omega), hm]
    simp only
    rw [if_neg (by omega), if_neg (by omega), if_neg (by omega)]
    congr 1; omega
/-- What the digits of a text spell, other bytes left out. -/
def digF (p : List UInt8) : Nat := p.foldl (fun n c => if 48 ≤ c.toNat ∧ c.toNat ≤ 57 then 10 * n + (c.toNat - 48) else n) 0
theorem digF_snoc (p : List UInt8) (c : UInt8) : digF (p ++ [c]) = if 48 ≤ c.toNat ∧ c.toNat ≤ 57 then 10 * digF p + (c.toNat - 48) else digF p := by
  unfold digF; rw [List.foldl_append]; rfl
theorem digF_dec (u : Nat) : digF (Lib.decDigits u) = u := by
  induction u using Nat.strongRecOn with
  | _ u ih =>
    by_cases h : u < 10
    · rw [Lib.decDigits, dif_pos h, show [UInt8.ofNat (48 + u)] = [] ++ [UInt8.ofNat (48 + u)] from rfl, digF_snoc, dig_nat h, if_pos (by omega)]
      show 10 * 0 + _ = _
      omega
    · rw [Lib.decDigits, dif_neg h, digF_snoc, dig_nat (by omega), if_pos (by omega), ih (u / 10) (by omega)]
      omega
theorem digF_minus (p : List UInt8) : digF (45 :: p) = digF p := by unfold digF; rw [List.foldl_cons]; rfl
theorem digF_itoa (n : Int) : digF (Lib.itoa n) = n.natAbs := by
  unfold Lib.itoa
  split
  · rw [digF_minus, digF_dec]
  · rw [digF_dec]; omega
theorem itoa_head (n : Int) : (Lib.itoa n).head? = some 45 ↔ n < 0 := by
  unfold Lib.itoa
  split
  · rename_i h; simp [h]
  · rename_i h
    obtain ⟨k, r, hk, e⟩ := dec_head n.toNat
    rw [e]
    simp only [List.head?_cons, Option.some.injEq]
    constructor
    · intro h2
      have := congrArg UInt8.toNat h2
      rw [dig_nat hk] at this
      have h45 : (45 : UInt8).toNat = 45 := rfl
      omega
    · intro h2; omega
theorem dec_len : ∀ (k u : Nat), 1 ≤ k → u < 10 ^ k → (Lib.decDigits u).length ≤ k
  | 0, u, h, _ => by omega
  | k + 1, u, _, h => by
    by_cases h1 : u < 10
    · rw [Lib.decDigits, dif_pos h1]; simp
    · rw [Lib.decDigits, dif_neg h1, List.length_append, List.length_singleton]
      have hk : 1 ≤ k := by
        rcases Nat.eq_zero_or_pos k with h0 | h0
        · subst h0; simp at h; omega
        · exact h0
      have := dec_len k (u / 10) hk (by rw [Nat.pow_succ] at h; omega)
      omega
theorem itoa_len {n : Int} (h1 : -1000000000000000 ≤ n) (h2 : n ≤ 1000000000000000) : 1 ≤ (Lib.itoa n).length ∧ (Lib.itoa n).length ≤ 17 := by
  obtain ⟨k, r, _, e⟩ := dec_head n.natAbs
  have hp : 1 ≤ (Lib.decDigits n.natAbs).length := by rw [e]; simp
  have hl := dec_len 16 n.natAbs (by decide) (by omega)
  unfold Lib.itoa
  split
  · simp; omega
  · rw [show n.toNat = n.natAbs by omega]; omega
/-- What a text is read as. -/
def valD (p : List UInt8) : Int × Bool := match Lib.parseIntB 64 p with
  | .ok v => if (-1000000000000000 ≤ v ∧ v ≤ 1000000000000000) ∧ Lib.itoa v = p then (v, true) else (0, false)
  | _ => (0, false)
/-- The reference's way. -/
def sgnF (p : List UInt8) : Int := if p.head? = some 45 then -(digF p : Int) else (digF p : Int)
def valS (p : List UInt8) : Int × Bool := if (1 ≤ p.length ∧ p.length ≤ 17) ∧ (-1000000000000000 ≤ sgnF p ∧ sgnF p ≤ 1000000000000000) ∧ Lib.itoa (sgnF p) = p then (sgnF p, true) else (0, false)
theorem sgnF_itoa (n : Int) : sgnF (Lib.itoa n) = n := by
  unfold sgnF
  rw [digF_itoa]
  split
  · rename_i h; have := (itoa_head n).1 h; omega
  · rename_i h; have : ¬ n < 0 := fun h2 => h ((itoa_head n).2 h2); omega
theorem valD_itoa {n : Int} (h1 : -1000000000000000 ≤ n) (h2 : n ≤ 1000000000000000) : valD (Lib.itoa n) = (n, true) := by
  unfold valD
  rw [atoi_itoa h1 h2]
  simp [h1, h2]
theorem valS_eq (p : List UInt8) : valS p = valD p := by
  unfold valS
  split
  · rename_i h
    obtain ⟨-, ⟨h1, h2⟩, h3⟩ := h
    conv => rhs; rw [← h3]
    rw [valD_itoa h1 h2]
  · rename_i h
    unfold valD
    split
    · rename_i v hv
      split
      · rename_i h2
        obtain ⟨⟨h2, h3⟩, h4⟩ := h2
        exfalso
        apply h
        have e : sgnF p = v := by rw [← h4, sgnF_itoa]
        have hl := itoa_len h2 h3
        rw [h4] at hl
        exact ⟨hl, by rw [e]; exact ⟨h2, h3⟩, by rw [e]; exact h4⟩
      · rfl
    · rfl
end

section
open Go.RowKit
set_option maxRecDepth 100000
set_option linter.unusedVariables false
set_option linter.unusedSimpArgs false

/-- The text of no items. -/
def noneT : List UInt8 := [110, 111, 110, 101]
/-- A list of whole numbers, as a text is read. -/
def lstR (t : List UInt8) : List Int × Bool :=
  if t = noneT then ([], true)
  else if (cutL 44 t).length ≤ 64 ∧ (cutL 44 t).all (fun p => (valD p).2) = true then ((cutL 44 t).map fun p => (valD p).1, true) else ([], false)
/-- A digit of sixteen. -/
def hexV (c : Nat) : Option Nat := if 48 ≤ c ∧ c ≤ 57 then some (c - 48) else if 97 ≤ c ∧ c ≤ 102 then some (c - 87) else none
theorem hexV_lt {c d : Nat} (h : hexV c = some d) : d < 16 := by
  unfold hexV at h
  split at h
  · injection h with h; omega
  · split at h
    · injection h with h; omega
    · cases h
/-- The word that digits spell, if all are digits. -/
def accH : List UInt8 → Nat → Option Nat
  | [], n => some n
  | c :: r, n => match hexV c.toNat with
    | some d => accH r (16 * n + d)
    | none => none
theorem accH_lt : ∀ (p : List UInt8) (n k m : Nat), n < 16 ^ k → accH p n = some m → m < 16 ^ (k + p.length)
  | [], n, k, m, hn, h => by
    simp only [accH] at h
    injection h with h
    rw [← h]; simpa using hn
  | c :: r, n, k, m, hn, h => by
    simp only [accH] at h
    split at h
    · rename_i d hd
      have hd2 := hexV_lt hd
      have := accH_lt r (16 * n + d) (k + 1) m (by rw [Nat.pow_succ]; omega) h
      rw [List.length_cons, show k + (r.length + 1) = k + 1 + r.length by omega]
      exact this
    · cases h
theorem accH_snoc : ∀ (p : List UInt8) (c : UInt8) (n : Nat), accH (p ++ [c]) n = (accH p n).bind fun m => (hexV c.toNat).map fun d => 16 * m + d
  | [], c, n => by
    simp only [List.nil_append, accH, Option.bind_some]
    cases hexV c.toNat <;> rfl
  | d :: r, c, n => by
    rw [List.cons_append]
    simp only [accH]
    cases hexV d.toNat with
    | none => rfl
    | some e => exact accH_snoc r c _
/-- A number, as a text of eight digits is read. -/
def valH (p : List UInt8) : Nat × Bool := match accH p 0 with
  | some n => if p.length = 8 ∧ fl n = n then (n, true) else (0, false)
  | none => (0, false)
def numR (t : List UInt8) : List Nat × Bool :=
  if t = noneT then ([], true)
  else if (cutL 44 t).length ≤ 256 ∧ (cutL 44 t).all (fun p => (valH p).2) = true then ((cutL 44 t).map fun p => (valH p).1, true) else ([], false)

theorem accH_bad : ∀ (p : List UInt8) (n : Nat) (b : UInt8), b ∈ p → hexV b.toNat = none → accH p n = none
  | [], n, b, hb, _ => by simp at hb
  | c :: r, n, b, hb, h => by
    simp only [accH]
    rcases List.mem_cons.1 hb with rfl | hb
    · rw [h]
    · cases hexV c.toNat with
      | none => rfl
      | some d => exact accH_bad r _ b hb h
theorem cutL_has {c b : UInt8} (hne : b ≠ c) : ∀ {l : List UInt8}, b ∈ l → ∃ p ∈ cutL c l, b ∈ p
  | [], h => by simp at h
  | d :: l, h => by
    rw [cutL]
    split
    · rename_i hd
      rcases List.mem_cons.1 h with rfl | h
      · exact absurd hd hne
      · obtain ⟨p, hp, hb⟩ := cutL_has hne h
        exact ⟨p, List.mem_cons_of_mem _ hp, hb⟩
    · obtain ⟨p, ps, hps⟩ := List.exists_cons_of_ne_nil (cutL_ne c l)
      rcases List.mem_cons.1 h with rfl | h
      · rw [hps]
        exact ⟨b :: p, List.mem_cons_self .., List.mem_cons_self ..⟩
      · obtain ⟨q, hq, hb⟩ := cutL_has hne h
        rw [hps] at hq ⊢
        rcases List.mem_cons.1 hq with rfl | hq
        · exact ⟨d :: q, List.mem_cons_self .., List.mem_cons_of_mem _ hb⟩
        · exact ⟨q, List.mem_cons_of_mem _ hq, hb⟩
/-- A text with a colon is no list of numbers. -/
theorem numR_bad {t : List UInt8} (h : (58 : UInt8) ∈ t) : (numR t).2 = false := by
  unfold numR
  have h1 : t ≠ noneT := by rintro rfl; revert h; decide
  rw [if_neg h1]
  obtain ⟨p, hp, hb⟩ := cutL_has (c := 44) (by decide) h
  have hv : (valH p).2 = false := by
    unfold valH
    rw [accH_bad p 0 58 hb (by decide)]
  rw [if_neg]
  rintro ⟨-, h2⟩
  rw [List.all_eq_true] at h2
  have := h2 p hp
  rw [hv] at this; cases this
end

section
open Go.RowKit
set_option maxRecDepth 100000
set_option linter.unusedVariables false
set_option linter.unusedSimpArgs false

/-- What the program reads: cut at the first colon. -/
def rdI (k : Nat) (t : List UInt8) : Option (List Int × List Nat) :=
  let c := Lib.cut t [58]
  if c.2.2 = true ∧ (lstR c.1).2 = true ∧ (numR c.2.1).2 = true ∧ (lstR c.1).1.length = k then some ((lstR c.1).1, (numR c.2.1).1) else none
/-- What the reference reads: cut at all colons. -/
def rdS (k : Nat) (t : List UInt8) : Option (List Int × List Nat) :=
  match cutL 58 t with
  | [a, b] => if (lstR a).2 = true ∧ (numR b).2 = true ∧ (lstR a).1.length = k then some ((lstR a).1, (numR b).1) else none
  | _ => none
theorem colon_split : ∀ t : List UInt8, (∀ b ∈ t, b ≠ 58) ∨ ∃ a r, t = a ++ 58 :: r ∧ ∀ b ∈ a, b ≠ 58
  | [] => .inl (by simp)
  | b :: t => by
    by_cases hb : b = 58
    · exact .inr ⟨[], t, by rw [hb]; rfl, by simp⟩
    · rcases colon_split t with h | ⟨a, r, rfl, h⟩
      · exact .inl fun x hx => by rcases List.mem_cons.1 hx with rfl | hx; exact hb; exact h x hx
      · exact .inr ⟨b :: a, r, rfl, fun x hx => by rcases List.mem_cons.1 hx with rfl | hx; exact hb; exact h x hx⟩
theorem cut_colon {a r : List UInt8} (h : ∀ b ∈ a, b ≠ 58) : Lib.cut (a ++ 58 :: r) [58] = (a, r, true) := by
  unfold Lib.cut
  rw [index_one h, if_pos (by omega)]
  simp
theorem cut_colon_no {t : List UInt8} (h : ∀ b ∈ t, b ≠ 58) : Lib.cut t [58] = (t, [], false) := by
  unfold Lib.cut
  rw [index_no h, if_neg (by omega)]
theorem rd_same (k : Nat) (t : List UInt8) : rdI k t = rdS k t := by
  unfold rdI rdS
  rcases colon_split t with h | ⟨a, r, rfl, h⟩
  · rw [cut_colon_no h, cutL_none h]
    simp
  · rw [cut_colon h, cutL_hit h]
    rcases colon_split r with h2 | ⟨a2, r2, rfl, h2⟩
    · rw [cutL_none h2]
      simp
    · have hb : (numR (a2 ++ 58 :: r2)).2 = false := numR_bad (by simp)
      rw [cutL_hit h2]
      obtain ⟨p, ps, hp⟩ := List.exists_cons_of_ne_nil (cutL_ne 58 r2)
      rw [hp]
      simp [hb]
end

end Go.Proofs.YtjibghjongplpaaDoor
