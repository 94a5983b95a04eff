/- The reference's text of a whole number: spec.l01Dec. -/
import Derived.Test.YtjibghjongplpaaDoorBs
import Derived.Lib.ItoaNum
namespace Go.Proofs.YtjibghjongplpaaDoor
open Go.RowKit
set_option maxRecDepth 100000
set_option linter.unusedVariables false
set_option linter.unusedSimpArgs false

/-- A byte in a block that a literal made. -/
theorem OwnU.one (w : World) (B : Nat) (hB : B ≤ w.heap.size) (d : UInt8) : OwnU (w.alloc (.cells #[.int .u8 ((d.toNat : Nat) : Int)] 5)) B (.slice (some ⟨w.heap.size, 0, none⟩) 1 1) [d] :=
  ⟨rfl, .inr ⟨w.heap.size, 1, #[.int .u8 ((d.toNat : Nat) : Int)], rfl, hB, heap_alloc_new w _, Nat.le_refl _, by unfold maxLen; omega, rfl, rfl⟩⟩

/-- What is to come, and what is there. -/
def finD (r : Nat) (l : List UInt8) : List UInt8 := if r = 0 ∧ l ≠ [] then l else Lib.decDigits r ++ l
theorem finD_step {r : Nat} {l : List UInt8} (h : l = [] ∨ r ≠ 0) : finD (r / 10) (UInt8.ofNat (48 + r % 10) :: l) = finD r l := by
  have e2 : finD r l = Lib.decDigits r ++ l := by
    unfold finD
    rw [if_neg (by rintro ⟨h1, h2⟩; rcases h with h | h; exact h2 h; exact h h1)]
  rw [e2]
  unfold finD
  by_cases h10 : r < 10
  · rw [if_pos ⟨by omega, by simp⟩, Lib.decDigits_one h10, Nat.mod_eq_of_lt h10]; rfl
  · rw [if_neg (by rintro ⟨h1, _⟩; omega)]
    conv => rhs; rw [Lib.decDigits, dif_neg h10]
    simp

theorem own_somewhere {w : World} {B n : Nat} {e : TypeId} {size : Nat} {v : Value} {xs : List Value} (hn : 0 < n) (h : w.ownsRow B e size v n xs) : ∃ g cap, v = .slice (some ⟨g, 0, none⟩) n cap := by
  rcases h.2 with ⟨_, h0⟩ | ⟨g, cap, cur, e, _⟩
  · omega
  · exact ⟨g, cap, e⟩
def lenV : Value → Nat
  | .slice _ n _ => n
  | _ => 0

end Go.Proofs.YtjibghjongplpaaDoor
