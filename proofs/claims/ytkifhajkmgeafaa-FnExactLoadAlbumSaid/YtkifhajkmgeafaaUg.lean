/- Pictures that are loaded. -/
import Derived.Test.YtkifhajkmgeafaaUf
import Derived.Test.YtkifhajkmgeafaaPix
namespace Go.Proofs.Ytkifhajkmgeafaa
open Go.RowKit
set_option maxRecDepth 100000
set_option linter.unusedVariables false
set_option linter.unusedSimpArgs false

theorem leB_get (n : Nat) : ∀ {i j : Nat}, j < i → (leB n i).getD j 0 = UInt8.ofNat (n / 256 ^ j % 256) := by
  intro i
  induction i with
  | zero => intro j h; omega
  | succ i ih =>
    intro j h
    unfold leB
    by_cases e : j < i
    · rw [List.getD_eq_getElem?_getD, List.getElem?_append_left (by rw [leB_len]; exact e), ← List.getD_eq_getElem?_getD, ih e]
    · have : j = i := by omega
      subst this
      rw [List.getD_eq_getElem?_getD, List.getElem?_append_right (by rw [leB_len]; exact Nat.le_refl _), leB_len, Nat.sub_self]; rfl
theorem flat4_get : ∀ (bs : List Nat) {i j : Nat}, i < bs.length → j < 4 → (bs.flatMap fun b => leB (fl b) 4).getD (4 * i + j) 0 = UInt8.ofNat (fl (bs.getD i 0) / 256 ^ j % 256) := by
  intro bs
  induction bs with
  | nil => intro i j h; simp at h
  | cons b l ih =>
    intro i j hi hj
    rw [List.flatMap_cons]
    cases i with
    | zero =>
      rw [List.getD_eq_getElem?_getD, List.getElem?_append_left (by rw [leB_len]; omega), ← List.getD_eq_getElem?_getD, Nat.mul_zero, Nat.zero_add, leB_get _ hj]; rfl
    | succ i =>
      rw [List.getD_eq_getElem?_getD, List.getElem?_append_right (by rw [leB_len]; omega), leB_len, show 4 * (i + 1) + j - 4 = 4 * i + j by omega, ← List.getD_eq_getElem?_getD, ih (by simp at hi; omega) hj]; rfl
theorem stoL_len (wd hi : Nat) (bs : List Nat) : (stoL wd hi bs).length = 6 + 4 * bs.length := by
  unfold stoL
  rw [List.length_append, List.length_append, List.length_append, leB_len, leB_len, flat4_len]; simp
theorem stoL_fl {wd hi : Nat} {bs bs' : List Nat} (h : bs'.map fl = bs.map fl) : stoL wd hi bs' = stoL wd hi bs := by
  have e : ∀ l : List Nat, (l.flatMap fun b => leB (fl b) 4) = (l.map fl).flatMap fun z => leB z 4 := by
    intro l; rw [List.flatMap_map]
  unfold stoL
  rw [e, e, h]
/-- What is told of a picture's text. -/
structure TextOf (s : ByteArray) (wd hi n : Nat) (bs : List Nat) (m : Nat) : Prop where
  size : s.size = 6 + 4 * n + m
  mark : s.extract 0 4 = ⟨#[69, 89, 69, 49]⟩
  b4 : byteN s 4 = wd
  b5 : byteN s 5 = hi
  at_ : ∀ i j, i < n → j < 4 → byteN s (6 + 4 * i + j) = fl (bs.getD i 0) / 256 ^ j % 256
  cut : s.extract 0 (6 + 4 * n) = ⟨(stoL wd hi bs).toArray⟩
theorem text_of {wd hi n : Nat} {bs : List Nat} (ext : List UInt8) (hw : wd ≤ 24) (hh : hi ≤ 24) (hl : bs.length = n) : TextOf ⟨(stoL wd hi bs ++ ext).toArray⟩ wd hi n bs ext.length := by
  have hL := stoL_len wd hi bs
  rw [hl] at hL
  have hgb : ∀ k, byteN ⟨(stoL wd hi bs ++ ext).toArray⟩ k = ((stoL wd hi bs ++ ext).getD k 0).toNat := fun k => rfl
  have hlo : ∀ k, k < 6 + 4 * n → (stoL wd hi bs ++ ext).getD k 0 = (stoL wd hi bs).getD k 0 := fun k hk => by
    rw [List.getD_eq_getElem?_getD, List.getElem?_append_left (by omega), ← List.getD_eq_getElem?_getD]
  refine ⟨?_, ?_, ?_, ?_, ?_, ?_⟩
  · show (stoL wd hi bs ++ ext).toArray.size = _
    rw [List.size_toArray, List.length_append, hL]
  · apply ByteArray.ext
    rw [ByteArray.data_extract]
    apply Array.ext'
    simp
    unfold stoL
    rfl
  · rw [hgb, hlo _ (by omega)]
    show (UInt8.ofNat (wd / 256 ^ 0 % 256)).toNat = wd
    rw [UInt8.toNat_ofNat', Nat.pow_zero, Nat.div_one]; omega
  · rw [hgb, hlo _ (by omega)]
    show (UInt8.ofNat (hi / 256 ^ 0 % 256)).toNat = hi
    rw [UInt8.toNat_ofNat', Nat.pow_zero, Nat.div_one]; omega
  · intro i j hi_ hj
    rw [hgb, hlo _ (by omega)]
    have e : (stoL wd hi bs).getD (6 + 4 * i + j) 0 = (bs.flatMap fun b => leB (fl b) 4).getD (4 * i + j) 0 := by
      unfold stoL
      rw [List.getD_eq_getElem?_getD, List.getElem?_append_right (by rw [List.length_append, List.length_append, leB_len, leB_len]; simp; omega), List.length_append, List.length_append, leB_len, leB_len, ← List.getD_eq_getElem?_getD]
      congr 1
      simp; omega
    rw [e, flat4_get bs (by omega) hj, UInt8.toNat_ofNat']
    exact Nat.mod_eq_of_lt (by omega)
  · apply ByteArray.ext
    rw [ByteArray.data_extract]
    apply Array.ext'
    simp
    rw [List.take_append_of_le_length (by omega), List.take_of_length_le (by omega)]

end Go.Proofs.Ytkifhajkmgeafaa
