/- Lists of numbers that are read from their texts: the plain law. -/
import Derived.Test.YtcppoadeelnphaaDoorCf
import Derived.Test.YtcppoadeelnphaaDoorBa
import Derived.Test.YtcppoadeelnphaaDoorTx
namespace Go.Proofs.YtcppoadeelnphaaDoor
open Go.RowKit
set_option maxRecDepth 100000
set_option linter.unusedVariables false
set_option linter.unusedSimpArgs false

/-- The text of no items. -/
def noneT : List UInt8 := [110, 111, 110, 101]
/-- A list of whole numbers, as a text is read. -/
def lstR (t : List UInt8) : List Int × Bool :=
  if t = noneT then ([], true)
  else if (cutL 44 t).length ≤ 64 ∧ (cutL 44 t).all (fun p => (valD p).2) = true then ((cutL 44 t).map fun p => (valD p).1, true) else ([], false)
/-- A digit of sixteen. -/
def hexV (c : Nat) : Option Nat := if 48 ≤ c ∧ c ≤ 57 then some (c - 48) else if 97 ≤ c ∧ c ≤ 102 then some (c - 87) else none
theorem hexV_lt {c d : Nat} (h : hexV c = some d) : d < 16 := by
  unfold hexV at h
  split at h
  · injection h with h; omega
  · split at h
    · injection h with h; omega
    · cases h
/-- The word that digits spell, if all are digits. -/
def accH : List UInt8 → Nat → Option Nat
  | [], n => some n
  | c :: r, n => match hexV c.toNat with
    | some d => accH r (16 * n + d)
    | none => none
theorem accH_lt : ∀ (p : List UInt8) (n k m : Nat), n < 16 ^ k → accH p n = some m → m < 16 ^ (k + p.length)
  | [], n, k, m, hn, h => by
    simp only [accH] at h
    injection h with h
    rw [← h]; simpa using hn
  | c :: r, n, k, m, hn, h => by
    simp only [accH] at h
    split at h
    · rename_i d hd
      have hd2 := hexV_lt hd
      have := accH_lt r (16 * n + d) (k + 1) m (by rw [Nat.pow_succ]; omega) h
      rw [List.length_cons, show k + (r.length + 1) = k + 1 + r.length by omega]
      exact this
    · cases h
theorem accH_snoc : ∀ (p : List UInt8) (c : UInt8) (n : Nat), accH (p ++ [c]) n = (accH p n).bind fun m => (hexV c.toNat).map fun d => 16 * m + d
  | [], c, n => by
    simp only [List.nil_append, accH, Option.bind_some]
    cases hexV c.toNat <;> rfl
  | d :: r, c, n => by
    rw [List.cons_append]
    simp only [accH]
    cases hexV d.toNat with
    | none => rfl
    | some e => exact accH_snoc r c _
/-- A number, as a text of eight digits is read. -/
def valH (p : List UInt8) : Nat × Bool := match accH p 0 with
  | some n => if p.length = 8 ∧ fl n = n then (n, true) else (0, false)
  | none => (0, false)
def numR (t : List UInt8) : List Nat × Bool :=
  if t = noneT then ([], true)
  else if (cutL 44 t).length ≤ 256 ∧ (cutL 44 t).all (fun p => (valH p).2) = true then ((cutL 44 t).map fun p => (valH p).1, true) else ([], false)

theorem accH_bad : ∀ (p : List UInt8) (n : Nat) (b : UInt8), b ∈ p → hexV b.toNat = none → accH p n = none
  | [], n, b, hb, _ => by simp at hb
  | c :: r, n, b, hb, h => by
    simp only [accH]
    rcases List.mem_cons.1 hb with rfl | hb
    · rw [h]
    · cases hexV c.toNat with
      | none => rfl
      | some d => exact accH_bad r _ b hb h
theorem cutL_has {c b : UInt8} (hne : b ≠ c) : ∀ {l : List UInt8}, b ∈ l → ∃ p ∈ cutL c l, b ∈ p
  | [], h => by simp at h
  | d :: l, h => by
    rw [cutL]
    split
    · rename_i hd
      rcases List.mem_cons.1 h with rfl | h
      · exact absurd hd hne
      · obtain ⟨p, hp, hb⟩ := cutL_has hne h
        exact ⟨p, List.mem_cons_of_mem _ hp, hb⟩
    · obtain ⟨p, ps, hps⟩ := List.exists_cons_of_ne_nil (cutL_ne c l)
      rcases List.mem_cons.1 h with rfl | h
      · rw [hps]
        exact ⟨b :: p, List.mem_cons_self .., List.mem_cons_self ..⟩
      · obtain ⟨q, hq, hb⟩ := cutL_has hne h
        rw [hps] at hq ⊢
        rcases List.mem_cons.1 hq with rfl | hq
        · exact ⟨d :: q, List.mem_cons_self .., List.mem_cons_of_mem _ hb⟩
        · exact ⟨q, List.mem_cons_of_mem _ hq, hb⟩
/-- A text with a colon is no list of numbers. -/
theorem numR_bad {t : List UInt8} (h : (58 : UInt8) ∈ t) : (numR t).2 = false := by
  unfold numR
  have h1 : t ≠ noneT := by rintro rfl; revert h; decide
  rw [if_neg h1]
  obtain ⟨p, hp, hb⟩ := cutL_has (c := 44) (by decide) h
  have hv : (valH p).2 = false := by
    unfold valH
    rw [accH_bad p 0 58 hb (by decide)]
  rw [if_neg]
  rintro ⟨-, h2⟩
  rw [List.all_eq_true] at h2
  have := h2 p hp
  rw [hv] at this; cases this

end Go.Proofs.YtcppoadeelnphaaDoor
