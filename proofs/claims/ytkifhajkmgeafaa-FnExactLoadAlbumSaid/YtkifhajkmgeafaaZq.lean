/- Four bytes joined by shifts and ors. -/
import Derived.Test.YtkifhajkmgeafaaZp
import Derived.Laws.BitsLemmas
namespace Go.Proofs.Ytkifhajkmgeafaa
open Go.RowKit
set_option maxRecDepth 100000
set_option linter.unusedVariables false
set_option linter.unusedSimpArgs false

theorem or_comm64 (x y : Int) : bits .or .i64 x y = bits .or .i64 y x := by simp only [bits, BitVec.or_comm]
theorem or_join (x y i : Nat) (hi : i ≤ 40) (hx : x < 2 ^ i) (hy : y < 256) : bits .or .i64 (x : Int) (((y * 2 ^ i : Nat)) : Int) = ((x + y * 2 ^ i : Nat) : Int) := by
  have hp : 2 ^ i ≤ 2 ^ 40 := Nat.pow_le_pow_right (by decide) hi
  have hm : y * 2 ^ i ≤ 255 * 2 ^ 40 := Nat.mul_le_mul (by omega) hp
  rw [or_comm64, bits_join .i64 50 (by decide) (fun n h1 h2 => IntWalk.i64_in _ (by omega)) i _ _ (by omega) ?_ (by omega) (by omega) (by exact_mod_cast hx) (by omega)]
  · omega
  · exact_mod_cast Nat.mul_mod_left y (2 ^ i)

/-- The word of four bytes. -/
theorem or_four (b0 b1 b2 b3 : Nat) (h0 : b0 < 256) (h1 : b1 < 256) (h2 : b2 < 256) (h3 : b3 < 256) :
    bits .or .i64 (b0 : Int) ((b1 : Int) * 256) = ((b0 + 256 * b1 : Nat) : Int) ∧ bits .or .i64 ((b0 + 256 * b1 : Nat) : Int) ((b2 : Int) * 65536) = ((b0 + 256 * b1 + 65536 * b2 : Nat) : Int) ∧ bits .or .i64 ((b0 + 256 * b1 + 65536 * b2 : Nat) : Int) ((b3 : Int) * 16777216) = ((b0 + 256 * b1 + 65536 * b2 + 16777216 * b3 : Nat) : Int) := by
  have e1 := or_join b0 b1 8 (by decide) (by omega) h1
  have e2 := or_join (b0 + 256 * b1) b2 16 (by decide) (by omega) h2
  have e3 := or_join (b0 + 256 * b1 + 65536 * b2) b3 24 (by decide) (by omega) h3
  have p8 : (2 : Nat) ^ 8 = 256 := by decide
  have p16 : (2 : Nat) ^ 16 = 65536 := by decide
  have p24 : (2 : Nat) ^ 24 = 16777216 := by decide
  rw [p8] at e1
  rw [p16] at e2
  rw [p24] at e3
  rw [Int.natCast_mul] at e1 e2 e3
  rw [show b0 + 256 * b1 = b0 + b1 * 256 by omega] at *
  rw [show b0 + b1 * 256 + 65536 * b2 = b0 + b1 * 256 + b2 * 65536 by omega] at *
  rw [show b0 + b1 * 256 + b2 * 65536 + 16777216 * b3 = b0 + b1 * 256 + b2 * 65536 + b3 * 16777216 by omega]
  exact ⟨e1, e2, e3⟩

end Go.Proofs.Ytkifhajkmgeafaa
