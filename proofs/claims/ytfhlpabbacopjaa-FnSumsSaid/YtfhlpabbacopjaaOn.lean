/- Lists of quarters as volumes. -/
import Derived.Test.YtfhlpabbacopjaaSx
namespace Go.Proofs.Ytfhlpabbacopjaa
open Go.RowKit
set_option maxRecDepth 100000
set_option linter.unusedVariables false
set_option linter.unusedSimpArgs false

/-- Bounds of small quarters. -/
theorem qb2_of {l : List Int} {dp : Nat} (hl : l.length = dp) (h : ∀ d, d < dp → (l.getD d 0).natAbs ≤ 1000000) : qb2 l := by
  intro k hk
  obtain ⟨i, hi, rfl⟩ := List.getElem_of_mem hk
  have := h i (by omega)
  rwa [List.getD_eq_getElem?_getD, List.getElem?_eq_getElem hi] at this
/-- The cells of a list of quarters. -/
def ownOf (ks : List Int) (wd dp : Nat) : Int → Int → List Int := fun x y => (ks.drop (ic wd dp x.toNat y.toNat)).take dp
theorem own_qv {ks : List Int} {wd hi dp : Nat} (hl : ks.length = wd * hi * dp) : QV (ks.map (fq 2)) wd hi dp (ownOf ks wd dp) := by
  refine ⟨by simpa using hl, fun x y hx hy => ?_⟩
  have hle := ic_le (dp := dp) hx hy
  unfold ownOf
  simp only [Int.toNat_natCast]
  refine ⟨by rw [List.length_take, List.length_drop]; omega, fun d hd => ?_⟩
  rw [getD_map_fq 2 _ _ (by omega)]
  congr 1
  rw [List.getD_eq_getElem?_getD, List.getD_eq_getElem?_getD, List.getElem?_take, if_pos hd, List.getElem?_drop]
theorem own_bd {ks : List Int} {wd dp : Nat} (hb : ∀ k ∈ ks, 0 ≤ k ∧ k ≤ 16) (x y : Int) : ∀ k ∈ ownOf ks wd dp x y, 0 ≤ k ∧ k ≤ 16 := fun k hk => hb k (List.mem_of_mem_drop (List.mem_of_mem_take hk))
theorem own_len {ks : List Int} {wd hi dp : Nat} (hl : ks.length = wd * hi * dp) {x y : Int} (h : insI x y wd hi) : (ownOf ks wd dp x y).length = dp := by
  obtain ⟨h0, h1, h2, h3⟩ := h
  obtain ⟨x, rfl⟩ := Int.eq_ofNat_of_zero_le h0
  obtain ⟨y, rfl⟩ := Int.eq_ofNat_of_zero_le h2
  exact ((own_qv hl).2 x y (by omega) (by omega)).1
theorem map2_qb {l : List Int} (h : ∀ k ∈ l, 0 ≤ k ∧ k ≤ 16) : qb2 (l.map ((2 : Int) * ·)) := by
  intro k hk
  obtain ⟨z, hz, rfl⟩ := List.mem_map.1 hk
  have := h z hz
  show (2 * z).natAbs ≤ _
  omega

end Go.Proofs.Ytfhlpabbacopjaa
