/- Sizes and numbers that are read from a text: the two ways agree. -/
import Derived.Test.YtcppoadeelnphaaDoorCg
import Derived.Test.YtcppoadeelnphaaDoorBe
namespace Go.Proofs.YtcppoadeelnphaaDoor
open Go.RowKit
set_option maxRecDepth 100000
set_option linter.unusedVariables false
set_option linter.unusedSimpArgs false

/-- What the program reads: cut at the first colon. -/
def rdI (k : Nat) (t : List UInt8) : Option (List Int × List Nat) :=
  let c := Lib.cut t [58]
  if c.2.2 = true ∧ (lstR c.1).2 = true ∧ (numR c.2.1).2 = true ∧ (lstR c.1).1.length = k then some ((lstR c.1).1, (numR c.2.1).1) else none
/-- What the reference reads: cut at all colons. -/
def rdS (k : Nat) (t : List UInt8) : Option (List Int × List Nat) :=
  match cutL 58 t with
  | [a, b] => if (lstR a).2 = true ∧ (numR b).2 = true ∧ (lstR a).1.length = k then some ((lstR a).1, (numR b).1) else none
  | _ => none
theorem colon_split : ∀ t : List UInt8, (∀ b ∈ t, b ≠ 58) ∨ ∃ a r, t = a ++ 58 :: r ∧ ∀ b ∈ a, b ≠ 58
  | [] => .inl (by simp)
  | b :: t => by
    by_cases hb : b = 58
    · exact .inr ⟨[], t, by rw [hb]; rfl, by simp⟩
    · rcases colon_split t with h | ⟨a, r, rfl, h⟩
      · exact .inl fun x hx => by rcases List.mem_cons.1 hx with rfl | hx; exact hb; exact h x hx
      · exact .inr ⟨b :: a, r, rfl, fun x hx => by rcases List.mem_cons.1 hx with rfl | hx; exact hb; exact h x hx⟩
theorem cut_colon {a r : List UInt8} (h : ∀ b ∈ a, b ≠ 58) : Lib.cut (a ++ 58 :: r) [58] = (a, r, true) := by
  unfold Lib.cut
  rw [index_one h, if_pos (by omega)]
  simp
theorem cut_colon_no {t : List UInt8} (h : ∀ b ∈ t, b ≠ 58) : Lib.cut t [58] = (t, [], false) := by
  unfold Lib.cut
  rw [index_no h, if_neg (by omega)]
theorem rd_same (k : Nat) (t : List UInt8) : rdI k t = rdS k t := by
  unfold rdI rdS
  rcases colon_split t with h | ⟨a, r, rfl, h⟩
  · rw [cut_colon_no h, cutL_none h]
    simp
  · rw [cut_colon h, cutL_hit h]
    rcases colon_split r with h2 | ⟨a2, r2, rfl, h2⟩
    · rw [cutL_none h2]
      simp
    · have hb : (numR (a2 ++ 58 :: r2)).2 = false := numR_bad (by simp)
      rw [cutL_hit h2]
      obtain ⟨p, ps, hp⟩ := List.exists_cons_of_ne_nil (cutL_ne 58 r2)
      rw [hp]
      simp [hb]

end Go.Proofs.YtcppoadeelnphaaDoor
