/- Texts of numbers: plain, and the digits' string. -/
import Derived.Test.YtjibghjongplpaaDoorUb
import Derived.Test.YtjibghjongplpaaDoorNum
namespace Go.Proofs.YtjibghjongplpaaDoor
open Go.RowKit
set_option maxRecDepth 100000
set_option linter.unusedVariables false
set_option linter.unusedSimpArgs false

/-- A digit of sixteen. -/
def hexC (d : Nat) : UInt8 := UInt8.ofNat (if d < 10 then 48 + d else 87 + d)
/-- The k digits of a word that come first. -/
def hexN (z k : Nat) : List UInt8 := (List.range k).map fun i => hexC (z / 2 ^ (28 - 4 * i) % 16)
def hexL (z : Nat) : List UInt8 := hexN z 8
theorem hexN_len (z k : Nat) : (hexN z k).length = k := by simp [hexN]
theorem hexL_len (z : Nat) : (hexL z).length = 8 := hexN_len z 8
theorem hexN_succ (z k : Nat) : hexN z (k + 1) = hexN z k ++ [hexC (z / 2 ^ (28 - 4 * k) % 16)] := by unfold hexN; rw [List.range_succ, List.map_append]; rfl

theorem hex_idx (w : World) (d : Nat) (hd : d < 16) : (Instr.index 9 (.string ⟨#[48, 49, 50, 51, 52, 53, 54, 55, 56, 57, 97, 98, 99, 100, 101, 102]⟩) (.int .i64 (d : Int))).run Tryd.prog w = .ok (.int .u8 ((hexC d).toNat : Nat)) w := by
  rcases (by omega : d = 0 ∨ d = 1 ∨ d = 2 ∨ d = 3 ∨ d = 4 ∨ d = 5 ∨ d = 6 ∨ d = 7 ∨ d = 8 ∨ d = 9 ∨ d = 10 ∨ d = 11 ∨ d = 12 ∨ d = 13 ∨ d = 14 ∨ d = 15) with h | h | h | h | h | h | h | h | h | h | h | h | h | h | h | h <;> subst h <;>
    (rw [run_index_string w 9 _ .i64 _ (by rfl), dif_pos ⟨by decide, by decide⟩]; rfl)

/-- Texts joined by commas; none is told by a word. -/
def commaL (ps : List (List UInt8)) : List UInt8 := match ps with
  | [] => [110, 111, 110, 101]
  | p :: rest => p ++ rest.flatMap (fun q => 44 :: q)
theorem commaL_snoc (p : List UInt8) (ps : List (List UInt8)) (q : List UInt8) : commaL (p :: (ps ++ [q])) = commaL (p :: ps) ++ 44 :: q := by
  show p ++ (ps ++ [q]).flatMap _ = p ++ ps.flatMap _ ++ 44 :: q
  rw [List.flatMap_append, List.append_assoc]; simp
/-- The text of numbers. -/
def numT (bs : List Nat) : List UInt8 := commaL (bs.map fun b => hexL (fl b))
theorem and15 (n : Int) : bits .and .i64 n 15 = n % 16 := by
  have h15 : (BitVec.ofInt 64 15).toNat = 2 ^ 4 - 1 := by decide
  have key : (BitVec.ofInt 64 n &&& BitVec.ofInt 64 15).toNat = (n % ((2 ^ 64 : Nat) : Int)).toNat % 2 ^ 4 := by
    rw [BitVec.toNat_and, BitVec.toNat_ofInt, h15, Nat.and_two_pow_sub_one_eq_mod]
  show IntKind.i64.wrap ((BitVec.ofInt 64 n &&& BitVec.ofInt 64 15).toNat : Nat) = n % 16
  rw [key, IntKind.wrap_i64]
  omega

end Go.Proofs.YtjibghjongplpaaDoor
