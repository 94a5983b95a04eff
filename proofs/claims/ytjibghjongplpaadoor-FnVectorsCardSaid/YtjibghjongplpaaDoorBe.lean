/- Journals: the plain law of what is recovered; decimals of check numbers. -/
import Derived.Test.YtjibghjongplpaaDoorBc
import Derived.Test.YtjibghjongplpaaDoorDc
import Derived.Lib.ItoaMem
namespace Go.Proofs.YtjibghjongplpaaDoor
open Go.RowKit
set_option maxRecDepth 100000
set_option linter.unusedVariables false
set_option linter.unusedSimpArgs false

theorem index_one {c : UInt8} : ∀ {a t : List UInt8}, (∀ b ∈ a, b ≠ c) → Lib.index (a ++ c :: t) [c] = (a.length : Int)
  | [], t, _ => by rw [List.nil_append, Lib.index]; simp [List.isPrefixOf]
  | b :: a, t, ha => by
    have hb := ha b (List.mem_cons_self ..)
    have hp : ([c] : List UInt8).isPrefixOf (b :: (a ++ c :: t)) = false := by simp [List.isPrefixOf, Ne.symm hb]
    rw [List.cons_append, Lib.index, hp, index_one (fun x hx => ha x (List.mem_cons_of_mem _ hx))]
    have : ((a.length : Int) == -1) = false := by rw [beq_eq_false_iff_ne]; omega
    simp [this]
theorem index_no {c : UInt8} : ∀ {l : List UInt8}, (∀ b ∈ l, b ≠ c) → Lib.index l [c] = -1
  | [], _ => by simp [Lib.index]
  | b :: l, h => by
    have hb := h b (List.mem_cons_self ..)
    have hp : ([c] : List UInt8).isPrefixOf (b :: l) = false := by simp [List.isPrefixOf, Ne.symm hb]
    rw [Lib.index, hp, index_no (fun x hx => h x (List.mem_cons_of_mem _ hx))]
    simp
/-- The place of the first blank, or the length. -/
def spI (p : List UInt8) : Nat := (p.takeWhile (· != 32)).length
def linB (p : List UInt8) : List UInt8 := p.drop (spI p + 1)
theorem sp_split (p : List UInt8) : (spI p < p.length ∧ p = p.take (spI p) ++ 32 :: linB p ∧ ∀ b ∈ p.take (spI p), b ≠ 32) ∨ (spI p = p.length ∧ ∀ b ∈ p, b ≠ 32) := by
  unfold linB spI
  induction p with
  | nil => right; simp
  | cons b p ih =>
    by_cases hb : b = 32
    · left
      subst hb
      simp
    · have e : (b :: p).takeWhile (· != 32) = b :: p.takeWhile (· != 32) := by rw [List.takeWhile_cons]; simp [hb]
      rw [e, List.length_cons]
      rcases ih with ⟨h1, h2, h3⟩ | ⟨h1, h2⟩
      · left
        refine ⟨by simp; omega, ?_, fun x hx => ?_⟩
        · rw [List.take_succ_cons, List.drop_succ_cons, List.cons_append]
          congr 1
        · rw [List.take_succ_cons] at hx
          rcases List.mem_cons.1 hx with rfl | hx
          · exact hb
          · exact h3 x hx
      · right
        refine ⟨by simp; omega, fun x hx => ?_⟩
        rcases List.mem_cons.1 hx with rfl | hx
        · exact hb
        · exact h2 x hx
theorem cut_blank (p : List UInt8) : Lib.cut p [32] = if spI p < p.length then (p.take (spI p), linB p, true) else (p, [], false) := by
  rcases sp_split p with ⟨h1, h2, h3⟩ | ⟨h1, h2⟩
  · rw [if_pos h1]
    have hi : Lib.index p [32] = (spI p : Int) := by
      conv => lhs; rw [h2]
      rw [index_one h3, List.length_take]
      congr 1
      omega
    unfold Lib.cut
    rw [hi, if_pos (by omega)]
    rfl
  · rw [if_neg (by omega)]
    unfold Lib.cut
    rw [index_no h2, if_neg (by omega)]
/-- Whether a line of a journal is right behind a check number. -/
def okJ (z : Nat) (p : List UInt8) : Bool := decide (spI p < p.length) && decide (p.take (spI p) = Lib.decDigits (ckF z (linB p)))
/-- The lines that are recovered, and how many bytes these are. -/
def recJ : Nat → List (List UInt8) → List (List UInt8) × Nat
  | _, [] => ([], 0)
  | z, p :: ps => if okJ z p then (linB p :: (recJ (ckF z (linB p)) ps).1, p.length + 1 + (recJ (ckF z (linB p)) ps).2) else ([], 0)
theorem recJ_yes {z : Nat} {p : List UInt8} {ps : List (List UInt8)} (h : okJ z p = true) : recJ z (p :: ps) = (linB p :: (recJ (ckF z (linB p)) ps).1, p.length + 1 + (recJ (ckF z (linB p)) ps).2) := by
  rw [recJ, if_pos h]
theorem recJ_no {z : Nat} {p : List UInt8} {ps : List (List UInt8)} (h : okJ z p = false) : recJ z (p :: ps) = ([], 0) := by
  rw [recJ, if_neg (by rw [h]; simp)]
theorem recJ_len : ∀ (ps : List (List UInt8)) (z : Nat), (recJ z ps).1.length ≤ ps.length
  | [], z => by simp [recJ]
  | p :: ps, z => by
    unfold recJ
    split
    · have := recJ_len ps (ckF z (linB p)); simp; omega
    · simp
theorem okJ_text {z : Nat} {p : List UInt8} (h : spI p < p.length) : okJ z p = decide (Lib.decDigits (ckF z (linB p)) ++ [32] ++ linB p = p) := by
  unfold okJ
  rw [decide_eq_true h, Bool.true_and, decide_eq_decide]
  rcases sp_split p with ⟨h1, h2, h3⟩ | ⟨h1, h2⟩
  · constructor
    · intro e
      rw [← e]
      conv => rhs; rw [h2]
      simp
    · intro e
      have h4 : Lib.decDigits (ckF z (linB p)) ++ 32 :: linB p = p.take (spI p) ++ 32 :: linB p := by rw [← h2]; simpa using e
      exact (List.append_cancel_right h4).symm
  · omega
/-- The lines of a text whose first newline is known. -/
theorem lns_hit {a t : List UInt8} (h : ∀ b ∈ a, b ≠ 10) : lnsL (a ++ 10 :: t) = a :: lnsL t := by
  unfold lnsL
  rw [cutL_hit h]
  obtain ⟨p, ps, hp⟩ := List.exists_cons_of_ne_nil (cutL_ne 10 t)
  rw [hp]; rfl
theorem lns_none {l : List UInt8} (h : ∀ b ∈ l, b ≠ 10) : lnsL l = [] := by
  unfold lnsL
  rw [cutL_none h]; rfl
theorem byte_split (c : UInt8) (l : List UInt8) : (Lib.indexByte l c = -1 ∧ ∀ b ∈ l, b ≠ c) ∨ (∃ i : Nat, Lib.indexByte l c = i ∧ i < l.length ∧ l = l.take i ++ c :: l.drop (i + 1) ∧ ∀ b ∈ l.take i, b ≠ c) := by
  have hge := Lib.indexByte_ge l c
  by_cases h : Lib.indexByte l c = -1
  · refine .inl ⟨h, fun b hb e => ?_⟩
    subst e
    obtain ⟨k, hk, he⟩ := List.getElem_of_mem hb
    exact Lib.indexByte_none h k (by rw [List.getElem?_eq_getElem hk, he])
  · obtain ⟨i, hi⟩ : ∃ i : Nat, Lib.indexByte l c = i := ⟨(Lib.indexByte l c).toNat, by omega⟩
    obtain ⟨h1, h2⟩ := Lib.indexByte_some hi
    have h3 : i < l.length := (List.getElem?_eq_some_iff.1 h1).1
    have h4 : l[i] = c := (List.getElem?_eq_some_iff.1 h1).2
    refine .inr ⟨i, hi, h3, ?_, fun b hb e => ?_⟩
    · conv => lhs; rw [← List.take_append_drop i l, List.drop_eq_getElem_cons h3, h4]
    · subst e
      obtain ⟨k, hk, he⟩ := List.getElem_of_mem hb
      rw [List.length_take] at hk
      rw [List.getElem_take] at he
      exact h2 k (by omega) (by rw [List.getElem?_eq_getElem (by omega), he])

/-- The table of the powers of ten. -/
abbrev TabT (w : World) : Prop := Lib.TabIs Tryd.prog w "internal/strconv.uint64pow10" .u64 Lib.pow10Tab
theorem TabT.below {w w' : World} (h : TabT w) (hb : Below w.heap.size w w') : TabT w' :=
by
  have hg : Tryd.prog.globalNamed "internal/strconv.uint64pow10" = some 2 := by kernel_rfl
  unfold TabT Lib.TabIs World.var? at h ⊢
  rw [hg] at h ⊢
  simp only [Option.bind_some] at h ⊢
  have hlt : 2 < w.heap.size := by
    rcases Nat.lt_or_ge 2 w.heap.size with h1 | h1
    · exact h1
    · rw [Array.getElem?_eq_none h1] at h; cases h
  rw [hb.block _ hlt]
  exact h
theorem below_grow (w : World) (q : Nat) (os : Array Obj) : Below w.heap.size w (Go.Sort.grow (w.drewN q) os) := by
  refine ⟨rfl, rfl, rfl, by simp [Go.Sort.grow], fun i hi => ?_⟩
  show ((w.drewN q).heap ++ os)[i]? = _
  rw [Array.getElem?_append_left (by show i < w.heap.size; exact hi)]
  rfl
theorem dec_all (w : World) (n : Nat) (hn : n < 9223372036854775808) (ht : TabT w) :
    Calls Tryd.prog 38 #[.int .i64 n] w fun e w' => e = .returned (.string ⟨(Lib.decDigits n).toArray⟩) ∧ Below w.heap.size w w' := by
  have K := Tryd.strconv_FormatInt_10 (n : Int) (by omega) (by omega) w ht
  rw [Lib.itoa_nonneg] at K
  have K := Lib.hid K
  go_enter Tryd.func38, Tryd.ntmps38
  go_wp2_with fail
  refine K.out.mono ?_
  rintro e w' ⟨rfl, k, os, rfl⟩
  have hb : Below w.heap.size w (Go.Sort.grow (w.drewN k) os) := below_grow w k os
  have HB := Lib.hid hb
  clear hb
  go_wp2_with fail
  go_ret
  exact ⟨rfl, HB.out⟩

end Go.Proofs.YtjibghjongplpaaDoor
