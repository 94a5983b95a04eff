/- Texts cut at a byte by the reference: l01Cut. -/
import Derived.Test.YtjibghjongplpaaDoorBa
import Derived.Test.YtjibghjongplpaaDoorBs
import Derived.Test.YtjibghjongplpaaDoorSs
import Derived.Deep.AppendLies
namespace Go.Proofs.YtjibghjongplpaaDoor
open Go.RowKit
set_option maxRecDepth 100000
set_option linter.unusedVariables false
set_option linter.unusedSimpArgs false

/-- What is cut so far: parts, and where the next one begins. -/
def CutI (c : UInt8) (l : List UInt8) (i F : Nat) (P : List (List UInt8)) : Prop :=
  (i ≤ l.length ∧ F ≤ i ∧ P ++ cutL c (l.drop F) = cutL c l ∧ ∀ k, F ≤ k → k < i → l[k]? ≠ some c) ∨ (i = l.length + 1 ∧ P = cutL c l)
theorem CutI.start (c : UInt8) (l : List UInt8) : CutI c l 0 0 [] := .inl ⟨Nat.zero_le _, Nat.le_refl _, by simp, fun k h1 h2 => by omega⟩
theorem CutI.len {c : UInt8} {l : List UInt8} {i F : Nat} {P : List (List UInt8)} (h : CutI c l i F P) : P.length ≤ l.length + 1 := by
  have := cutL_count c l
  rcases h with ⟨-, -, h, -⟩ | ⟨-, h⟩
  · rw [← h, List.length_append] at this; omega
  · rw [h]; exact this
theorem drop_split {l : List UInt8} {F i : Nat} {c : UInt8} (h1 : F ≤ i) (h2 : l[i]? = some c) : l.drop F = (l.drop F).take (i - F) ++ c :: l.drop (i + 1) := by
  have h3 : i < l.length := (List.getElem?_eq_some_iff.1 h2).1
  have h4 : l[i] = c := (List.getElem?_eq_some_iff.1 h2).2
  have h5 : (l.drop F).drop (i - F) = c :: l.drop (i + 1) := by
    rw [List.drop_drop, show F + (i - F) = i by omega, List.drop_eq_getElem_cons h3, h4]
  conv => lhs; rw [← List.take_append_drop (i - F) (l.drop F), h5]
theorem none_in {l : List UInt8} {F i : Nat} {c : UInt8} (h : ∀ k, F ≤ k → k < i → l[k]? ≠ some c) : ∀ b ∈ (l.drop F).take (i - F), b ≠ c := by
  intro b hb e
  subst e
  obtain ⟨k, hk, he⟩ := List.getElem_of_mem hb
  rw [List.length_take, List.length_drop] at hk
  rw [List.getElem_take, List.getElem_drop] at he
  exact h (F + k) (by omega) (by omega) (by rw [← he]; exact List.getElem?_eq_getElem _)
theorem CutI.skip {c : UInt8} {l : List UInt8} {i F : Nat} {P : List (List UInt8)} (h : CutI c l i F P) (hi : i < l.length) (hc : l[i]? ≠ some c) : CutI c l (i + 1) F P := by
  rcases h with ⟨h1, h2, h3, h4⟩ | ⟨h1, h2⟩
  · refine .inl ⟨by omega, by omega, h3, fun k h5 h6 => ?_⟩
    by_cases h7 : k = i
    · subst h7; exact hc
    · exact h4 k h5 (by omega)
  · omega
theorem CutI.hit {c : UInt8} {l : List UInt8} {i F : Nat} {P : List (List UInt8)} (h : CutI c l i F P) (hi : i < l.length) (hc : l[i]? = some c) : CutI c l (i + 1) (i + 1) (P ++ [(l.drop F).take (i - F)]) := by
  rcases h with ⟨h1, h2, h3, h4⟩ | ⟨h1, h2⟩
  · refine .inl ⟨by omega, Nat.le_refl _, ?_, fun k h5 h6 => by omega⟩
    rw [List.append_assoc, ← h3]
    congr 1
    conv => rhs; rw [drop_split h2 hc]
    rw [cutL_hit (none_in h4)]; rfl
  · omega
theorem CutI.last {c : UInt8} {l : List UInt8} {F : Nat} {P : List (List UInt8)} (h : CutI c l l.length F P) : P ++ [(l.drop F).take (l.length - F)] = cutL c l := by
  rcases h with ⟨h1, h2, h3, h4⟩ | ⟨h1, h2⟩
  · rw [← h3]
    congr 1
    have h5 : (l.drop F).take (l.length - F) = l.drop F := by rw [List.take_of_length_le (by rw [List.length_drop]; omega)]
    rw [h5]
    have h6 := none_in h4
    rw [h5] at h6
    rw [cutL_none h6]
  · omega
theorem CutI.from_le {c : UInt8} {l : List UInt8} {i F : Nat} {P : List (List UInt8)} (h : CutI c l i F P) (hi : i ≤ l.length) : F ≤ i := by
  rcases h with ⟨h1, h2, h3, h4⟩ | ⟨h1, h2⟩
  · exact h2
  · omega
theorem byteN_eq {s : ByteArray} {i : Nat} {c : UInt8} (h : i < s.size) : ((byteN s i : Int) == (c.toNat : Int)) = decide (s.data.toList[i]? = some c) := by
  have hl : i < s.data.toList.length := by rw [ba_size]; exact h
  unfold byteN
  rw [List.getD_eq_getElem?_getD, List.getElem?_eq_getElem hl, Option.getD_some, Bool.eq_iff_iff, beq_iff_eq, decide_eq_true_eq, Option.some.injEq, ← UInt8.toNat_inj]
  omega
theorem ext_take (s : ByteArray) (a b : Nat) (h : a ≤ b) : s.extract a b = ⟨((s.data.toList.drop a).take (b - a)).toArray⟩ := by
  apply ba_of
  rw [ext_list, List.drop_take]

end Go.Proofs.YtjibghjongplpaaDoor
