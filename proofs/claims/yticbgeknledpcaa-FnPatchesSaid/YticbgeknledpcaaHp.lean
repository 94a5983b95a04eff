/- Patches: plain. -/
import Derived.Test.YticbgeknledpcaaMp
namespace Go.Proofs.Yticbgeknledpcaa
set_option linter.unusedVariables false
set_option linter.unusedSimpArgs false

def updN (f : Nat → Int) (j : Nat) (v : Int) : Nat → Int := fun i => if i = j then v else f i
theorem updN_self (f : Nat → Int) (j : Nat) (v : Int) : updN f j v j = v := by unfold updN; rw [if_pos rfl]
theorem updN_ne (f : Nat → Int) {j i : Nat} (v : Int) (h : i ≠ j) : updN f j v i = f i := by unfold updN; rw [if_neg h]
theorem tabI_set (n : Nat) (f : Nat → Int) (j : Nat) (v : Int) : (tabI n f).set j v = tabI n (updN f j v) := by
  apply List.ext_getElem
  · simp [tabI]
  · intro i h1 h2
    rw [List.getElem_set]
    have t : ∀ (F : Nat → Int) (h : i < (tabI n F).length), (tabI n F)[i] = F i := fun F h => by simp [tabI]
    rw [t, t]
    by_cases e : j = i
    · subst e; rw [if_pos rfl, updN_self]
    · rw [if_neg e, updN_ne _ _ (fun h => e h.symm)]
/-- How many of the first have a number. -/
def cN (f : Nat → Int) (k : Int) : Nat → Nat
  | 0 => 0
  | n + 1 => cN f k n + if f n = k then 1 else 0
theorem cN_upd_out (f : Nat → Int) (k : Int) (j : Nat) (v : Int) : ∀ n, n ≤ j → cN (updN f j v) k n = cN f k n := by
  intro n
  induction n with
  | zero => intro _; rfl
  | succ n ih => intro h; show cN _ k n + _ = cN f k n + _; rw [ih (by omega), updN_ne _ _ (by omega)]
theorem cN_upd (f : Nat → Int) (k : Int) (j : Nat) (v : Int) : ∀ n, j < n → cN (updN f j v) k n + (if f j = k then 1 else 0) = cN f k n + (if v = k then 1 else 0) := by
  intro n
  induction n with
  | zero => intro h; omega
  | succ n ih =>
    intro h
    show cN _ k n + _ + _ = cN f k n + _ + _
    by_cases e : j = n
    · subst e
      rw [cN_upd_out f k j v j (Nat.le_refl _), updN_self]
      omega
    · have := ih (by omega)
      rw [updN_ne f v (show n ≠ j by omega)]
      omega
theorem cN_le (f : Nat → Int) (k : Int) : ∀ n, cN f k n ≤ n := by
  intro n
  induction n with
  | zero => exact Nat.le_refl _
  | succ n ih => show cN f k n + _ ≤ _; split <;> omega
theorem cN_zero {f : Nat → Int} {k : Int} : ∀ n, (∀ i, i < n → f i ≠ k) → cN f k n = 0 := by
  intro n
  induction n with
  | zero => intro _; rfl
  | succ n ih => intro h; show cN f k n + _ = 0; rw [ih (fun i hi => h i (by omega)), if_neg (h n (by omega))]
theorem cN_pos {f : Nat → Int} {k : Int} {i : Nat} : ∀ n, i < n → f i = k → 1 ≤ cN f k n := by
  intro n
  induction n with
  | zero => intro h; omega
  | succ n ih =>
    intro h e
    show 1 ≤ cN f k n + _
    by_cases g : i = n
    · subst g; rw [if_pos e]; omega
    · have := ih (by omega) e; omega

section
variable (N : Nat) (S : Nat → Prop) (H : Nat → Nat → Prop)
/-- Cells that hang together by others. -/
inductive Conn : Nat → Nat → Prop
  | refl (i : Nat) : Conn i i
  | step {i j k : Nat} : Conn i j → H j k → Conn i k
theorem Conn.trans {i j k : Nat} (h : Conn H i j) (h2 : Conn H j k) : Conn H i k := by
  induction h2 with
  | refl => exact h
  | step _ hs ih => exact .step ih hs
/-- What holds between two steps: f are the patches of the cells, g the sizes of m patches, todo the cells that are to come; the cells before i are told. -/
structure Fl (f g : Nat → Int) (m : Nat) (todo : List Nat) (i : Nat) : Prop where
  rng : ∀ j, j < N → -1 ≤ f j ∧ f j < m
  hole : ∀ j, j < N → ¬ S j → f j = -1
  done : ∀ j, j < i → j < N → S j → 0 ≤ f j
  clo : ∀ j, j < N → 0 ≤ f j → j ∉ todo → ∀ j', H j j' → f j' = f j
  cnt : ∀ k, k < m → g k = cN f k N ∧ 1 ≤ cN f k N
  tod : ∀ j, j ∈ todo → j < N ∧ S j ∧ f j = (m : Int) - 1
  con : ∀ i j, i < N → j < N → 0 ≤ f i → f j = f i → Conn H i j
/-- A relation of cells that is the same from both sides. -/
structure Rel : Prop where
  sym : ∀ i j, H i j → H j i
  lt : ∀ i j, H i j → i < N ∧ j < N
  is : ∀ i j, H i j → S i ∧ S j

theorem Fl.start : Fl N S H (fun _ => -1) (fun _ => 0) 0 [] 0 :=
  ⟨fun j _ => by simp, fun _ _ _ => rfl, fun j h => by omega, fun j _ h => by simp at h, fun k h => by omega, (fun j h => by cases h), fun i j _ _ h => by simp at h⟩
variable {N S H}
theorem Fl.skip {f g : Nat → Int} {m i : Nat} (h : Fl N S H f g m [] i) (hi : S i → 0 ≤ f i) : Fl N S H f g m [] (i + 1) :=
  ⟨h.rng, h.hole, fun j hj hN hs => by
    by_cases e : j = i
    · subst e; exact hi hs
    · exact h.done j (by omega) hN hs, h.clo, h.cnt, h.tod, h.con⟩
/-- A new patch. -/
theorem Fl.new {f g : Nat → Int} {m i : Nat} (hR : Rel N S H) (h : Fl N S H f g m [] i) (hi : i < N) (hs : S i) (hf : f i < 0) : Fl N S H (updN f i m) (updN g m 1) (m + 1) [i] (i + 1) := by
  have hfi : f i = -1 := by have := h.rng i hi; omega
  refine ⟨fun j hj => ?_, fun j hj hn => ?_, fun j hj hN hs' => ?_, fun j hj h0 hnt j' hh => ?_, fun k hk => ?_, fun j hj => ?_, fun l k hl hk h0 he => ?_⟩
  · by_cases e : j = i
    · subst e; rw [updN_self]; omega
    · rw [updN_ne _ _ e]; have := h.rng j hj; omega
  · rw [updN_ne _ _ (fun e => hn (by rw [e]; exact hs))]; exact h.hole j hj hn
  · by_cases e : j = i
    · subst e; rw [updN_self]; omega
    · rw [updN_ne _ _ e]; exact h.done j (by omega) hN hs'
  · have hji : j ≠ i := fun e => hnt (by rw [e]; exact List.mem_singleton.2 rfl)
    rw [updN_ne _ _ hji] at h0 ⊢
    have hc := h.clo j hj h0 (by simp) j' hh
    have hj'i : j' ≠ i := fun e => by rw [e] at hc; omega
    rw [updN_ne _ _ hj'i]; exact hc
  · have hc := cN_upd f k i m N hi
    rw [hfi, if_neg (show ¬ (-1 : Int) = k by omega)] at hc
    by_cases e : k = m
    · subst e
      rw [updN_self]
      rw [if_pos rfl] at hc
      have hz : cN f k N = 0 := cN_zero N (fun j hj e => by have := h.rng j hj; omega)
      omega
    · rw [updN_ne _ _ e, if_neg (show ¬ (m : Int) = k by omega)] at *
      have := h.cnt k (by omega)
      have e2 : cN (updN f i m) k N = cN f k N := by omega
      rw [e2]; exact this
  · have e : j = i := List.mem_singleton.1 hj
    subst e
    rw [updN_self]
    exact ⟨hi, hs, by omega⟩
  · have rl := h.rng l hl
    have rk := h.rng k hk
    by_cases e1 : l = i
    · subst e1
      by_cases e2 : k = l
      · subst e2; exact .refl _
      · rw [updN_self, updN_ne _ _ e2] at he; omega
    · by_cases e2 : k = i
      · subst e2
        rw [updN_self, updN_ne _ _ e1] at he; omega
      · rw [updN_ne _ _ e1, updN_ne _ _ e2] at he
        rw [updN_ne _ _ e1] at h0
        exact h.con l k hl hk h0 he
/-- A neighbour of the first cell that has no patch yet. -/
theorem Fl.add {f g : Nat → Int} {m i h0 j : Nat} {todo : List Nat} (hR : Rel N S H) (h : Fl N S H f g m (h0 :: todo) i) (hm : 1 ≤ m) (hh : H h0 j) (hf : f j < 0) :
    Fl N S H (updN f j ((m : Int) - 1)) (updN g (m - 1) (g (m - 1) + 1)) m (h0 :: (todo ++ [j])) i ∧ cN (updN f j ((m : Int) - 1)) (-1) N + 1 = cN f (-1) N := by
  have hj := (hR.lt _ _ hh).2
  have hs := (hR.is _ _ hh).2
  have hfj : f j = -1 := by have := h.rng j hj; omega
  refine ⟨⟨fun l hl => ?_, fun l hl hn => ?_, fun l hl hN hs' => ?_, fun l hl hl0 hnt j' hh' => ?_, fun k hk => ?_, fun l hl => ?_, fun l k hl hk hl0 he => ?_⟩, ?_⟩
  · by_cases e : l = j
    · subst e; rw [updN_self]; omega
    · rw [updN_ne _ _ e]; exact h.rng l hl
  · rw [updN_ne _ _ (fun e => hn (by rw [e]; exact hs))]; exact h.hole l hl hn
  · by_cases e : l = j
    · subst e; rw [updN_self]; omega
    · rw [updN_ne _ _ e]; exact h.done l hl hN hs'
  · have hlj : l ≠ j := fun e => hnt (by rw [e]; simp)
    have hnt2 : l ∉ h0 :: todo := fun hm' => hnt (by
      rcases List.mem_cons.1 hm' with e | e
      · rw [e]; simp
      · simp [e])
    rw [updN_ne _ _ hlj] at hl0 ⊢
    have hc := h.clo l hl hl0 hnt2 j' hh'
    have hj' : j' ≠ j := fun e => by rw [e] at hc; omega
    rw [updN_ne _ _ hj']; exact hc
  · have hc := cN_upd f k j ((m : Int) - 1) N hj
    rw [hfj, if_neg (show ¬ (-1 : Int) = k by omega)] at hc
    have hk2 := h.cnt k hk
    by_cases e : k = m - 1
    · subst e
      rw [updN_self]
      rw [if_pos (by omega)] at hc
      omega
    · rw [updN_ne _ _ e]
      rw [if_neg (by omega)] at hc
      have e2 : cN (updN f j ((m : Int) - 1)) k N = cN f k N := by omega
      rw [e2]; exact hk2
  · by_cases e : l = j
    · subst e; rw [updN_self]; exact ⟨hj, hs, rfl⟩
    · have hl2 : l ∈ h0 :: todo := by
        rcases List.mem_cons.1 hl with q | q
        · rw [q]; simp
        · rcases List.mem_append.1 q with q | q
          · simp [q]
          · exact absurd (List.mem_singleton.1 q) e
      rw [updN_ne _ _ e]; exact h.tod l hl2
  · have t0 := h.tod h0 (by simp)
    by_cases e1 : l = j
    · subst e1
      by_cases e2 : k = l
      · subst e2; exact .refl _
      · rw [updN_self, updN_ne _ _ e2] at he
        exact Conn.trans H (.step (.refl _) (hR.sym _ _ hh)) (h.con h0 k t0.1 hk (by omega) (by omega))
    · rw [updN_ne _ _ e1] at hl0 he
      by_cases e2 : k = j
      · subst e2
        rw [updN_self] at he
        exact .step (h.con l h0 hl t0.1 hl0 (by omega)) hh
      · rw [updN_ne _ _ e2] at he
        exact h.con l k hl hk hl0 he
  · have hc := cN_upd f (-1) j ((m : Int) - 1) N hj
    rw [hfj, if_pos rfl, if_neg (by omega)] at hc
    exact hc
/-- A neighbour that has a patch is in this one. -/
theorem Fl.same {f g : Nat → Int} {m i h0 j : Nat} {todo : List Nat} (hR : Rel N S H) (h : Fl N S H f g m (h0 :: todo) i) (hh : H h0 j) (hf : ¬ f j < 0) : f j = (m : Int) - 1 := by
  have hj := (hR.lt _ _ hh).2
  have h1 := h.tod h0 (by simp)
  by_cases e : j ∈ h0 :: todo
  · exact (h.tod j e).2.2
  · have := h.clo j hj (by omega) e h0 (hR.sym _ _ hh)
    rw [← this]; exact h1.2.2
/-- The first cell is over. -/
theorem Fl.drop {f g : Nat → Int} {m i h0 : Nat} {todo : List Nat} (h : Fl N S H f g m (h0 :: todo) i) (hd : ∀ j, H h0 j → f j = (m : Int) - 1) : Fl N S H f g m todo i :=
  ⟨h.rng, h.hole, h.done, fun j hj h0' hnt j' hh => by
    by_cases e : j = h0
    · subst e; rw [hd j' hh, (h.tod j (by simp)).2.2]
    · exact h.clo j hj h0' (by simp [e, hnt]) j' hh, h.cnt, fun j hj => h.tod j (by simp [hj]), h.con⟩
/-- Two tellings of the patches. -/
theorem Fl.conn {f g : Nat → Int} {m : Nat} (hR : Rel N S H) (h : Fl N S H f g m [] N) {i j : Nat} (hi : i < N) (h0 : 0 ≤ f i) (hc : Conn H i j) : f j = f i ∧ j < N := by
  induction hc with
  | refl => exact ⟨rfl, hi⟩
  | step h1 hs ih =>
    obtain ⟨e, hl⟩ := ih
    exact ⟨by rw [h.clo _ hl (by omega) (by simp) _ hs, e], (hR.lt _ _ hs).2⟩
theorem Fl.same2 {f g f' g' : Nat → Int} {m m' : Nat} (hR : Rel N S H) (h : Fl N S H f g m [] N) (h' : Fl N S H f' g' m' [] N) {i j : Nat} (hi : i < N) (hj : j < N) (hs : S i) : f j = f i ↔ f' j = f' i := by
  have a := h.done i hi hi hs
  have b := h'.done i hi hi hs
  exact ⟨fun e => (h'.conn hR hi b (h.con i j hi hj a e)).1, fun e => (h.conn hR hi a (h'.con i j hi hj b e)).1⟩
theorem cN_congr {f f' : Nat → Int} {k k' : Int} : ∀ n, (∀ j, j < n → (f j = k ↔ f' j = k')) → cN f k n = cN f' k' n := by
  intro n
  induction n with
  | zero => intro _; rfl
  | succ n ih =>
    intro hh
    show cN f k n + _ = cN f' k' n + _
    rw [ih (fun j hj => hh j (by omega))]
    by_cases e : f n = k
    · rw [if_pos e, if_pos ((hh n (by omega)).1 e)]
    · rw [if_neg e, if_neg (fun q => e ((hh n (by omega)).2 q))]
theorem Fl.size2 {f g f' g' : Nat → Int} {m m' : Nat} (hR : Rel N S H) (h : Fl N S H f g m [] N) (h' : Fl N S H f' g' m' [] N) {i : Nat} (hi : i < N) (hs : S i) : g (f i).toNat = g' (f' i).toNat := by
  have a := h.done i hi hi hs
  have b := h'.done i hi hi hs
  have ra := h.rng i hi
  have rb := h'.rng i hi
  rw [(h.cnt (f i).toNat (by omega)).1, (h'.cnt (f' i).toNat (by omega)).1, Int.toNat_of_nonneg a, Int.toNat_of_nonneg b]
  rw [cN_congr N (fun j hj => h.same2 hR h' hi hj hs)]
end

end Go.Proofs.Yticbgeknledpcaa
