/- A text that is cut at a byte: the parts, as a list; strings.Split tells the same. No program. -/
import Derived.Lib.Split
import Derived.Lib.SplitLaws
namespace Go.Proofs.YtjibghjongplpaaDoor
set_option linter.unusedVariables false
set_option linter.unusedSimpArgs false

/-- The parts of a list between the places of a byte. -/
def cutL (c : UInt8) : List UInt8 → List (List UInt8)
  | [] => [[]]
  | b :: l => if b = c then [] :: cutL c l else match cutL c l with
    | [] => [[b]]
    | p :: ps => (b :: p) :: ps
theorem cutL_ne (c : UInt8) (l : List UInt8) : cutL c l ≠ [] := by
  cases l with
  | nil => simp [cutL]
  | cons b l =>
    unfold cutL
    split
    · simp
    · split <;> simp
theorem cutL_none {c : UInt8} : ∀ {l : List UInt8}, (∀ b ∈ l, b ≠ c) → cutL c l = [l]
  | [], _ => rfl
  | b :: l, h => by
    unfold cutL
    rw [if_neg (h b (List.mem_cons_self ..)), cutL_none (fun x hx => h x (List.mem_cons_of_mem _ hx))]
theorem cutL_hit {c : UInt8} : ∀ {a l : List UInt8}, (∀ b ∈ a, b ≠ c) → cutL c (a ++ c :: l) = a :: cutL c l
  | [], l, _ => by rw [List.nil_append, cutL, if_pos rfl]
  | b :: a, l, h => by
    rw [List.cons_append, cutL, if_neg (h b (List.mem_cons_self ..)), cutL_hit (fun x hx => h x (List.mem_cons_of_mem _ hx))]
theorem cutL_len (c : UInt8) : ∀ l : List UInt8, (cutL c l).length = l.count c + 1
  | [] => rfl
  | b :: l => by
    unfold cutL
    by_cases h : b = c
    · rw [if_pos h, List.length_cons, cutL_len c l, h, List.count_cons_self]
    · rw [if_neg h, List.count_cons_of_ne (by simpa using h)]
      have := cutL_len c l
      revert this
      cases cutL c l with
      | nil => intro h2; simp at h2
      | cons p ps => intro h2; simpa using h2
theorem cutL_count (c : UInt8) (l : List UInt8) : (cutL c l).length ≤ l.length + 1 := by rw [cutL_len]; have := List.count_le_length (a := c) (l := l); omega
theorem cutL_mem {c : UInt8} : ∀ {l p : List UInt8}, p ∈ cutL c l → (∀ b ∈ p, b ≠ c ∧ b ∈ l) ∧ p.length ≤ l.length
  | [], p, h => by simp [cutL] at h; subst h; simp
  | b :: l, p, h => by
    unfold cutL at h
    by_cases hb : b = c
    · rw [if_pos hb] at h
      rcases List.mem_cons.1 h with rfl | h1
      · simp
      · obtain ⟨h2, h3⟩ := cutL_mem h1
        exact ⟨fun x hx => ⟨(h2 x hx).1, List.mem_cons_of_mem _ (h2 x hx).2⟩, by simp; omega⟩
    · rw [if_neg hb] at h
      have key := fun q (hq : q ∈ cutL c l) => cutL_mem hq
      revert h key
      cases cutL c l with
      | nil => intro h _; simp at h; subst h; simp [hb]
      | cons q qs =>
        intro h key
        rcases List.mem_cons.1 h with rfl | h1
        · obtain ⟨h2, h3⟩ := key q (List.mem_cons_self ..)
          refine ⟨fun x hx => ?_, by simpa using h3⟩
          rcases List.mem_cons.1 hx with rfl | h4
          · exact ⟨hb, List.mem_cons_self ..⟩
          · exact ⟨(h2 x h4).1, List.mem_cons_of_mem _ (h2 x h4).2⟩
        · obtain ⟨h2, h3⟩ := key p (List.mem_cons_of_mem _ h1)
          exact ⟨fun x hx => ⟨(h2 x hx).1, List.mem_cons_of_mem _ (h2 x hx).2⟩, by simp; omega⟩
/-- The last part is empty where the list is empty or ends with the byte. -/
theorem cutL_last {c : UInt8} : ∀ {l : List UInt8}, (cutL c l).getLast? = some [] ↔ l = [] ∨ l.getLast? = some c
  | [] => by simp [cutL]
  | b :: l => by
    have ih := cutL_last (c := c) (l := l)
    obtain ⟨p, ps, hp⟩ := List.exists_cons_of_ne_nil (cutL_ne c l)
    by_cases hb : b = c
    · subst hb
      have e : cutL b (b :: l) = [] :: cutL b l := by rw [cutL, if_pos rfl]
      rw [e, hp, List.getLast?_cons_cons, ← hp, ih]
      cases l with
      | nil => simp
      | cons d l => simp
    · have h1 : cutL c (b :: l) = (b :: p) :: ps := by rw [cutL, if_neg hb, hp]
      have h2 := cutL_len c l
      rw [hp] at h2
      rw [h1]
      cases ps with
      | nil =>
        have h0 : l.count c = 0 := by simp at h2; omega
        have hc : c ∉ b :: l := fun h => by
          rcases List.mem_cons.1 h with h | h
          · exact hb h.symm
          · have := List.count_pos_iff.2 h; omega
        constructor
        · intro h; simp at h
        · rintro (h | h)
          · simp at h
          · exact absurd (List.mem_of_getLast? h) hc
      | cons q qs =>
        rw [List.getLast?_cons_cons, ← List.getLast?_cons_cons (a := p), ← hp, ih]
        cases l with
        | nil => simp [cutL] at hp
        | cons d l => simp

theorem splitK_cutL (c : UInt8) : ∀ (k : Nat) (l : List UInt8), l.count c = k → Lib.splitK [c] 0 k l = cutL c l
  | 0, l, h => by
    rw [cutL_none (fun b hb e => by subst e; have := List.count_pos_iff.2 hb; omega)]
    rfl
  | k + 1, l, h => by
    have hi := Lib.index_spec l [c]
    have hm : c ∈ l := List.count_pos_iff.1 (by omega)
    obtain ⟨a, t, rfl, ha⟩ : ∃ a t, l = a ++ c :: t ∧ ∀ b ∈ a, b ≠ c := by
      clear h hi
      induction l with
      | nil => simp at hm
      | cons b l ih =>
        by_cases hb : b = c
        · exact ⟨[], l, by rw [hb]; rfl, by simp⟩
        · obtain ⟨a, t, e, ha⟩ := ih (by rcases List.mem_cons.1 hm with h | h; exact absurd h.symm hb; exact h)
          exact ⟨b :: a, t, by rw [e]; rfl, fun x hx => by rcases List.mem_cons.1 hx with rfl | h; exact hb; exact ha x h⟩
    have hix : Lib.index (a ++ c :: t) [c] = (a.length : Int) := by
      clear h hi hm
      induction a with
      | nil => rw [List.nil_append, Lib.index]; simp [List.isPrefixOf]
      | cons b a ih =>
        have hb := ha b (List.mem_cons_self ..)
        have hp : ([c] : List UInt8).isPrefixOf (b :: (a ++ c :: t)) = false := by simp [List.isPrefixOf, Ne.symm hb]
        rw [List.cons_append, Lib.index, hp, ih (fun x hx => ha x (List.mem_cons_of_mem _ hx))]
        have : ((a.length : Int) == -1) = false := by rw [beq_eq_false_iff_ne]; omega
        simp [this]
    have hc : t.count c = k := by
      rw [List.count_append, List.count_cons_self, List.count_eq_zero.2 (fun hx => ha c hx rfl)] at h
      omega
    have hne : (Lib.index (a ++ c :: t) [c] == -1) = false := by rw [hix, beq_eq_false_iff_ne]; omega
    rw [Lib.splitK, hne, hix, cutL_hit ha, ← splitK_cutL c k t hc]
    simp
/-- strings.Split at one byte. -/
theorem splitB_cutL (c : UInt8) (s : ByteArray) : (Lib.splitB ⟨#[c]⟩ 0 (Lib.countB s ⟨#[c]⟩) s) = (cutL c s.data.toList).map fun l => ⟨l.toArray⟩ := by
  have h1 : Lib.countB s ⟨#[c]⟩ = s.data.toList.count c := Lib.count_one c _
  have h2 := Lib.splitB_data ⟨#[c]⟩ 0 (Lib.countB s ⟨#[c]⟩) s
  have h3 : Lib.splitK [c] 0 (Lib.countB s ⟨#[c]⟩) s.data.toList = cutL c s.data.toList := splitK_cutL c _ _ h1.symm
  have h4 : (Lib.splitB ⟨#[c]⟩ 0 (Lib.countB s ⟨#[c]⟩) s).map (·.data.toList) = cutL c s.data.toList := h2.trans h3
  rw [← h4, List.map_map]
  conv => lhs; rw [← List.map_id (Lib.splitB ⟨#[c]⟩ 0 (Lib.countB s ⟨#[c]⟩) s)]
  apply List.map_congr_left
  intro x _
  simp

end Go.Proofs.YtjibghjongplpaaDoor
