/- FnFilled's plain law: rounds, what is left, rows. -/
import Derived.Test.YticbgeknledpcaaFx
import Derived.Test.YticbgeknledpcaaMw
namespace Go.Proofs.Yticbgeknledpcaa
open Go.RowKit
set_option maxRecDepth 100000
set_option linter.unusedVariables false
set_option linter.unusedSimpArgs false

theorem holW_pos {bs : List Nat} : ∀ m, 0 < holW bs m → ∃ i, i < m ∧ le32 0 (bs.getD i 0) = false := by
  intro m
  induction m with
  | zero => intro h; simp [holW] at h
  | succ m ih =>
    intro h
    by_cases e : le32 0 (bs.getD m 0) = false
    · exact ⟨m, by omega, e⟩
    · have : holW bs (m + 1) = holW bs m + 0 := by show holW bs m + (if _ then 1 else 0) = _; rw [if_neg e]
      obtain ⟨i, h1, h2⟩ := ih (by omega)
      exact ⟨i, by omega, h2⟩
theorem holW_some {bs : List Nat} {i : Nat} : ∀ m, i < m → le32 0 (bs.getD i 0) = false → 0 < holW bs m := by
  intro m
  induction m with
  | zero => intro h; omega
  | succ m ih =>
    intro h e
    have e1 : holW bs (m + 1) = holW bs m + (if le32 0 (bs.getD m 0) = false then 1 else 0) := rfl
    rcases Nat.lt_or_ge i m with k | k
    · have := ih k e; omega
    · have : i = m := by omega
      subst this
      rw [e1, if_pos e]; omega
theorem cntW_none {bs : List Nat} {wd hi N : Nat} (hN : N = wd * hi) (h : ∀ i, i < N → le32 0 (bs.getD i 0) = false) : ∀ m, m ≤ N → cntW bs wd hi m = 0 := by
  intro m
  induction m with
  | zero => intro _; rfl
  | succ m ih =>
    intro hm
    have e3 : cntW bs wd hi (m + 1) = cntW bs wd hi m + (if le32 0 (bs.getD m 0) = false ∧ (besL bs wd hi ((m % wd : Nat) : Int) ((m / wd : Nat) : Int) 4).length ≠ 0 then 1 else 0) := rfl
    rw [e3, ih (by omega)]
    have : (besL bs wd hi ((m % wd : Nat) : Int) ((m / wd : Nat) : Int) 4).length = 0 := by
      rcases Nat.eq_zero_or_pos (besL bs wd hi ((m % wd : Nat) : Int) ((m / wd : Nat) : Int) 4).length with e | e
      · exact e
      · obtain ⟨b, hb⟩ := List.exists_mem_of_length_pos e
        obtain ⟨k, k1, k2, k3⟩ := besL_mem 4 hb
        unfold besOk at k2
        rw [Bool.and_eq_true] at k2
        obtain ⟨k2, k4⟩ := k2
        obtain ⟨c1, c2, c3, c4⟩ := inB_cell k2
        have := h ((bsx ((m % wd : Nat) : Int) k).toNat + wd * (bsy ((m / wd : Nat) : Int) k).toNat) (by rw [hN]; exact xy_lt c3 c4)
        unfold besW at k4
        rw [this] at k4; simp at k4
    rw [if_neg (by rw [this]; simp)]

/-- The bounds of a map's values. -/
def loQ (ks : List Int) : Int := if (rgF ks).2.2 = true then (rgF ks).1 else 0
def hiQ (ks : List Int) : Int := if (rgF ks).2.2 = true then (rgF ks).2.1 else 0
theorem getD_word (ks : List Int) (i : Nat) (h : i < ks.length) : (ks.map (fq 2)).getD i 0 = fq 2 (ks.getD i 0) := by
  rw [List.getD_eq_getElem?_getD, List.getD_eq_getElem?_getD, List.getElem?_map, List.getElem?_eq_getElem h]; rfl
theorem bounds_q {ks : List Int} (hk : ∀ k ∈ ks, k = -4 ∨ 0 ≤ k ∧ k ≤ 19) : 0 ≤ loQ ks ∧ loQ ks ≤ hiQ ks ∧ hiQ ks ≤ 1000 ∧ ∀ b ∈ ks.map (fq 2), b = 3212836864 ∨ Bd (loQ ks) (hiQ ks) b := by
  obtain ⟨s1, s2, s3, s4, s5, s6, s7, s8, s9⟩ := stats_full ks
  have hrb := rgF_bd (B := 1000) ks (fun k h => by rcases hk k h with e | e <;> omega) (0, 0, false) (by decide) (by decide)
  have b4 : (rgF ks).1.natAbs ≤ 1000 := hrb.1
  have b5 : (rgF ks).2.1.natAbs ≤ 1000 := hrb.2
  have hlh : loQ ks ≤ hiQ ks := by
    unfold loQ hiQ
    split
    · rename_i h
      obtain ⟨j, j1, j2⟩ := s9 h
      obtain ⟨_, a, b⟩ := s3 j j1 j2
      omega
    · omega
  refine ⟨by unfold loQ; split <;> omega, hlh, by unfold hiQ; split <;> omega, ?_⟩
  intro b hb
  obtain ⟨k, k1, rfl⟩ := List.mem_map.1 hb
  rcases hk k k1 with e | e
  · left; rw [e]; exact negf.symm
  · right
    obtain ⟨j, hj, hj2⟩ := List.getElem_of_mem k1
    have hg : ks.getD j 0 = k := by rw [List.getD_eq_getElem?_getD, List.getElem?_eq_getElem hj]; exact hj2
    obtain ⟨f, a, b⟩ := s3 j hj (by rw [hg]; omega)
    rw [hg] at a b
    have e1 : loQ ks = (rgF ks).1 := by unfold loQ; rw [if_pos f]
    have e2 : hiQ ks = (rgF ks).2.1 := by unfold hiQ; rw [if_pos f]
    rw [e1, e2]
    exact Bd.of a b (by omega) (by omega)

theorem word_hole {k : Int} (h : k.natAbs ≤ 1000) : le32 0 (fq 2 k) = decide (0 ≤ k) := le0_fq (by omega)

/-- What FillAll tells of a map of quarters. -/
theorem all_plain {ks : List Int} {wd hi N r : Nat} {cs : List Nat} (hN : N = wd * hi) (hw0 : 0 < wd) (hl : ks.length = N) (hk : ∀ k ∈ ks, k = -4 ∨ 0 ≤ k ∧ k ≤ 19)
    (h1 : ∀ i, i < N → le32 0 ((ks.map (fq 2)).getD i 0) = true → cs.getD i 0 = (ks.map (fq 2)).getD i 0) (h2 : cntW cs wd hi N = 0) (h3 : r = 0 ↔ cntW (ks.map (fq 2)) wd hi N = 0) (h4 : r = 0 → cs = ks.map (fq 2)) :
    decide ((0 : Int) < (r : Int)) = (decide ((0 : Int) < ((holW (ks.map (fq 2)) N : Nat) : Int)) && (rgF ks).2.2) ∧ decide ((0 : Int) < ((holW cs N : Nat) : Int)) = (decide ((0 : Int) < ((holW (ks.map (fq 2)) N : Nat) : Int)) && !(rgF ks).2.2) := by
  obtain ⟨s1, s2, s3, s4, s5, s6, s7, s8, s9⟩ := stats_full ks
  obtain ⟨q1, q2, q3, q4⟩ := bounds_q hk
  have hkb : ∀ i, i < N → (ks.getD i 0).natAbs ≤ 1000 := fun i hi_ => by
    rw [List.getD_eq_getElem?_getD, List.getElem?_eq_getElem (by rw [hl]; exact hi_)]
    show ks[i].natAbs ≤ 1000
    rcases hk _ (List.getElem_mem (h := by rw [hl]; exact hi_)) with e | e <;> omega
  have hbl : (ks.map (fq 2)).length = wd * hi := by rw [List.length_map, hl, hN]
  have hval : ∀ i, i < N → (le32 0 ((ks.map (fq 2)).getD i 0) = true ↔ 0 ≤ ks.getD i 0) := fun i hi_ => by
    rw [getD_word ks i (by rw [hl]; exact hi_), word_hole (hkb i hi_)]; simp
  rcases Nat.eq_zero_or_pos (holW (ks.map (fq 2)) N) with e | e
  · have hf := hol_fill hN hbl hw0 q4 q1 q2 q3 N (Nat.le_refl _)
    have hr := h3.2 (by omega)
    rw [h4 hr, e, hr]
    simp
  · obtain ⟨i, i1, i2⟩ := holW_pos N e
    have e' : decide ((0 : Int) < ((holW (ks.map (fq 2)) N : Nat) : Int)) = true := by simp; omega
    cases f : (rgF ks).2.2
    · have hno : ∀ j, j < N → le32 0 ((ks.map (fq 2)).getD j 0) = false := fun j hj => by
        cases g : le32 0 ((ks.map (fq 2)).getD j 0)
        · rfl
        · have := (s3 j (by rw [hl]; exact hj) ((hval j hj).1 g)).1
          rw [f] at this; simp at this
      have hr := h3.2 (cntW_none hN hno N (Nat.le_refl _))
      rw [h4 hr, e', hr]; simp
    · obtain ⟨j, j1, j2⟩ := s9 f
      rw [hl] at j1
      have jv := (hval j j1).2 j2
      have hr : r ≠ 0 := fun hr => by
        have := grid_words hN hw0 (h3.1 hr) i1 i2 j j1
        rw [jv] at this; simp at this
      have hz : holW cs N = 0 := by
        rcases Nat.eq_zero_or_pos (holW cs N) with z | z
        · exact z
        · obtain ⟨i', i1', i2'⟩ := holW_pos N z
          have := grid_words hN hw0 h2 i1' i2' j j1
          rw [h1 j j1 jv, jv] at this; simp at this
      rw [e', hz]
      simp; omega

/-- Is a value one of a row's? -/
def rowB (ks : List Int) (wd i : Nat) (R : Int) : Nat → Bool
  | 0 => false
  | k + 1 => rowB ks wd i R k || (decide (k / wd = i / wd) && (decide (0 ≤ ks.getD k 0) && decide (R = ks.getD k 0)))
theorem rowB_true {ks : List Int} {wd i : Nat} {R : Int} : ∀ n, rowB ks wd i R n = true → 0 ≤ R := by
  intro n
  induction n with
  | zero => intro h; simp [rowB] at h
  | succ n ih =>
    intro h
    unfold rowB at h
    rw [Bool.or_eq_true] at h
    rcases h with h | h
    · exact ih h
    · simp at h; omega
theorem rowB_of {ks : List Int} {wd i j : Nat} {R : Int} (h1 : j / wd = i / wd) (h2 : 0 ≤ ks.getD j 0) (h3 : R = ks.getD j 0) : ∀ n, j < n → rowB ks wd i R n = true := by
  intro n
  induction n with
  | zero => intro h; omega
  | succ n ih =>
    intro h
    unfold rowB
    rcases Nat.lt_or_ge j n with k | k
    · rw [ih k]; rfl
    · have : j = n := by omega
      subst this
      rw [decide_eq_true h1, decide_eq_true h2, decide_eq_true h3]; simp
/-- A hole that FillRows fills has a value of its row, and it is left only in a row of holes. -/
theorem row_full {ks : List Int} {wd hi N i : Nat} (hN : N = wd * hi) (hw0 : 0 < wd) (hi_ : i < N) (h0 : ks.getD i 0 < 0) : rowB ks wd i (fillF ks wd i) N = decide (0 ≤ fillF ks wd i) := by
  have hx := Nat.mod_lt i hw0
  have hy : i / wd < hi := Nat.div_lt_of_lt_mul (by omega)
  have hF : fillF ks wd i = fill2 (nxtL (rowG ks wd (i / wd)) (i % wd)) (nxtR (rowG ks wd (i / wd)) (wd - 1 - i % wd) (i % wd + 1)) := by unfold fillF; rw [if_neg (by omega)]
  have key : 0 ≤ fillF ks wd i → ∃ u, u < wd ∧ fillF ks wd i = ks.getD (u + wd * (i / wd)) 0 := by
    intro hp
    have hor : fillF ks wd i = nxtL (rowG ks wd (i / wd)) (i % wd) ∨ fillF ks wd i = nxtR (rowG ks wd (i / wd)) (wd - 1 - i % wd) (i % wd + 1) := by
      rw [hF]; unfold fill2; split
      · exact .inr rfl
      · exact .inl rfl
    rcases hor with e | e
    · rcases nxtL_or (rowG ks wd (i / wd)) (i % wd) with ⟨e1, _⟩ | ⟨u, u1, u2, u3⟩
      · omega
      · exact ⟨u, by omega, by rw [e, u2]; rfl⟩
    · rcases nxtR_or (rowG ks wd (i / wd)) (wd - 1 - i % wd) (i % wd + 1) with ⟨e1, _⟩ | ⟨u, u1, u2, u3⟩
      · omega
      · exact ⟨i % wd + 1 + u, by omega, by rw [e, u2]; rfl⟩
  by_cases hp : 0 ≤ fillF ks wd i
  · obtain ⟨u, u1, u2⟩ := key hp
    rw [rowB_of (j := u + wd * (i / wd)) (xy_div u1) (by rw [← u2]; exact hp) u2 N (by rw [hN]; exact xy_lt u1 hy)]
    simp [hp]
  · cases e : rowB ks wd i (fillF ks wd i) N
    · simp; omega
    · exact absurd (rowB_true N e) hp
/-- A hole that FillAll has filled lies between the bounds. -/
theorem all_cell {ks : List Int} {cs : List Nat} {N i : Nat} (hk : ∀ k ∈ ks, k = -4 ∨ 0 ≤ k ∧ k ≤ 19) (hl : cs.length = N) (hc : ∀ b ∈ cs, b = 3212836864 ∨ Bd (loQ ks) (hiQ ks) b) (hz : holW cs N = 0) (hf : (rgF ks).2.2 = true) (hi_ : i < N) {t1 t2 : Nat}
    (f1 : fin32 t1 = true) (f2 : fin32 t2 = true) (g1 : vv t1 ≤ vv (fq 2 (rgF ks).1)) (g2 : vv (fq 2 (rgF ks).2.1) ≤ vv t2) : lt32 (cs.getD i 0) t1 = false ∧ lt32 t2 (cs.getD i 0) = false := by
  have hm : cs.getD i 0 ∈ cs := by rw [List.getD_eq_getElem?_getD, List.getElem?_eq_getElem (by rw [hl]; exact hi_)]; exact List.getElem_mem _
  rcases hc _ hm with e | e
  · have := holW_some N hi_ (by rw [e]; exact neg_hole)
    omega
  · have e1 : loQ ks = (rgF ks).1 := by unfold loQ; rw [if_pos hf]
    have e2 : hiQ ks = (rgF ks).2.1 := by unfold hiQ; rw [if_pos hf]
    rw [e1, e2] at e
    have k1 := e.lo
    have k2 := e.hi
    generalize cs.getD i 0 = b at *
    rw [lt32_vv e.fin f1, lt32_vv f2 e.fin]
    simp; omega

end Go.Proofs.Yticbgeknledpcaa
