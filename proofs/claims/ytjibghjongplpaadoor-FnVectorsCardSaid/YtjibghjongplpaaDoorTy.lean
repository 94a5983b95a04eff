/- The reference's texts of numbers. -/
import Derived.Test.YtjibghjongplpaaDoorTx
import Derived.Test.YtjibghjongplpaaDoorEx
namespace Go.Proofs.YtjibghjongplpaaDoor
open Go.RowKit
set_option maxRecDepth 100000
set_option linter.unusedVariables false
set_option linter.unusedSimpArgs false

/-- A byte behind bytes. -/
theorem own_snocU {w : World} {B n gg cap : Nat} {l : List UInt8} {d : UInt8} (hl : l.length = n) (h : w.ownsRow B 5 1 (.slice (some ⟨gg, 0, none⟩) (n + 1) cap) (n + 1) (uCells l ++ [.int .u8 ((d.toNat : Nat) : Int)])) :
    OwnU w B (.slice (some ⟨gg, 0, none⟩) (n + 1) cap) (l ++ [d]) := by
  subst hl
  unfold OwnU
  rw [List.length_append, List.length_singleton]
  have e : uCells (l ++ [d]) = uCells l ++ [Value.int .u8 ((d.toNat : Nat) : Int)] := by unfold uCells; rw [List.map_append]; rfl
  rw [e]; exact h

theorem commaL_len : ∀ (ps : List (List UInt8)), (∀ p ∈ ps, p.length = 8) → ps ≠ [] → (commaL ps).length = 9 * ps.length - 1
  | [], _, h => absurd rfl h
  | p :: ps, hp, _ => by
    have h1 := hp p (by simp)
    have h2 : ∀ (qs : List (List UInt8)), (∀ q ∈ qs, q.length = 8) → (qs.flatMap fun q => (44 : UInt8) :: q).length = 9 * qs.length := by
      intro qs hq
      induction qs with
      | nil => rfl
      | cons q qs ih =>
        rw [List.flatMap_cons, List.length_append, ih fun x hx => hq x (by simp [hx]), List.length_cons, List.length_cons, hq q (by simp)]; omega
    show (p ++ ps.flatMap _).length = _
    rw [List.length_append, h1, h2 ps fun q hq => hp q (by simp [hq]), List.length_cons]; omega
theorem numT_len {bs : List Nat} (h : bs ≠ []) : (numT bs).length = 9 * bs.length - 1 := by
  unfold numT
  rw [commaL_len _ (fun p hp => by obtain ⟨b, _, rfl⟩ := List.mem_map.1 hp; exact hexL_len _) (by simpa using h), List.length_map]
theorem numT_le (bs : List Nat) : (numT bs).length ≤ 9 * bs.length + 4 := by
  by_cases h : bs = []
  · rw [h]; simp [numT, commaL]
  · rw [numT_len h]; omega
theorem numT_one (b : Nat) : numT [b] = hexL (fl b) := by unfold numT commaL; simp
theorem numT_snoc {bs : List Nat} (h : bs ≠ []) (b : Nat) : numT (bs ++ [b]) = numT bs ++ 44 :: hexL (fl b) := by
  match bs, h with
  | c :: cs, _ =>
    unfold numT
    rw [List.cons_append, List.map_cons, List.map_append, List.map_cons, List.map_nil, List.map_cons, commaL_snoc]
theorem ba_appT (s t : ByteArray) : (s ++ t).data.toList = s.data.toList ++ t.data.toList := by rw [ByteArray.data_append, Array.toList_append]
theorem ba_sizeT (s : ByteArray) : s.data.toList.length = s.size := by rw [Array.length_toList]; rfl
theorem ba_ofT {s : ByteArray} {l : List UInt8} (h : s.data.toList = l) : s = ⟨l.toArray⟩ := by
  apply ByteArray.ext; apply Array.ext'; rw [h]
theorem take_last {bs : List Nat} {i : Nat} (h : i < bs.length) : bs.take (i + 1) = bs.take i ++ [bs.getD i 0] := by
  rw [List.take_succ_eq_append_getElem h, getD_of2 _ _ h]

end Go.Proofs.YtjibghjongplpaaDoor
