/- The plain layer of a stable sort: swaps of ranges, rotations, the symmetric merge. No program in sight. -/
import Derived.Sort.LotA
import Derived.Sort.Row
namespace Go.Proofs.Ytmpbnmmpniganaa
open Go.Sort
set_option maxRecDepth 100000
set_option linter.unusedVariables false
set_option linter.unusedSimpArgs false

theorem insInner_go1 (a j : Nat) (d : Array Int) (hj : a < j) (hl : ltInt d[j]! d[j - 1]! = true) : insInner ltInt a j d = insInner ltInt a (j - 1) (swp d j (j - 1)) := by
  obtain ⟨k, rfl⟩ : ∃ k, j = k + 1 := ⟨j - 1, by omega⟩
  rw [insInner]
  simp only [Nat.add_sub_cancel] at hl ⊢
  simp [hj, hl]
theorem insInner_stop1 (a j : Nat) (d : Array Int) (h : j ≤ a ∨ ltInt d[j]! d[j - 1]! = false) : insInner ltInt a j d = d := by
  cases j with
  | zero => rw [insInner]
  | succ k =>
    rw [insInner]
    simp only [Nat.add_sub_cancel] at h
    rcases h with h | h
    · simp [show ¬ k + 1 > a by omega]
    · simp [h]
theorem insOuter_go1 (a b i : Nat) (d : Array Int) (h : i < b) : insOuter ltInt a b i d = insOuter ltInt a b (i + 1) (insInner ltInt a i d) := by rw [insOuter, if_pos h]
theorem insOuter_stop1 (a b i : Nat) (d : Array Int) (h : ¬ i < b) : insOuter ltInt a b i d = d := by rw [insOuter, if_neg h]

/-- n places from a on and from b on exchanged. -/
def swR (d : Array Int) (a b : Nat) : Nat → Array Int
  | 0 => d
  | n + 1 => swp (swR d a b n) (a + n) (b + n)
theorem swR_size (d : Array Int) (a b : Nat) : ∀ n, (swR d a b n).size = d.size
  | 0 => rfl
  | n + 1 => by rw [swR, size_swp, swR_size d a b n]
theorem swR_perm (d : Array Int) (a b lo hi : Nat) (h1 : lo ≤ a) (h2 : lo ≤ b) (hs : hi ≤ d.size) : ∀ n, a + n ≤ hi → b + n ≤ hi → PermIn lo hi d (swR d a b n)
  | 0, _, _ => permIn_refl _ _ _
  | n + 1, h3, h4 => permIn_trans _ _ _ _ _ (swR_perm d a b lo hi h1 h2 hs n (by omega) (by omega)) (swp_permIn _ _ _ _ _ (by omega) (by omega) (by omega) (by omega) (by rw [swR_size]; exact hs))
theorem swR_get (d : Array Int) (a b : Nat) : ∀ n, a + n ≤ b → b + n ≤ d.size → ∀ k, (swR d a b n)[k]! = if a ≤ k ∧ k < a + n then d[k - a + b]! else if b ≤ k ∧ k < b + n then d[k - b + a]! else d[k]!
  | 0, _, _, k => by rw [if_neg (by omega), if_neg (by omega)]; rfl
  | n + 1, h1, h2, k => by
    have ih := swR_get d a b n (by omega) (by omega)
    rw [swR, swp_get _ (by rw [swR_size]; omega) (by rw [swR_size]; omega)]
    by_cases e1 : k = b + n
    · subst e1
      rw [if_pos rfl, ih, if_neg (by omega), if_neg (by omega), if_neg (by omega), if_pos (by omega)]
      congr 1; omega
    · rw [if_neg e1]
      by_cases e2 : k = a + n
      · subst e2
        rw [if_pos rfl, ih, if_neg (by omega), if_neg (by omega), if_pos (by omega)]
        congr 1; omega
      · rw [if_neg e2, ih]
        by_cases e3 : a ≤ k ∧ k < a + n
        · rw [if_pos e3, if_pos (by omega)]
        · rw [if_neg e3]
          rw [if_neg (show ¬ (a ≤ k ∧ k < a + (n + 1)) by omega)]
          by_cases e4 : b ≤ k ∧ k < b + n
          · rw [if_pos e4, if_pos (by omega)]
          · rw [if_neg e4, if_neg (by omega)]

/-- The places from a to m behind those from m to b. -/
def Rot (a m b : Nat) (d d' : Array Int) : Prop :=
  (∀ k, k < a ∨ b ≤ k → d'[k]! = d[k]!) ∧ (∀ k, a ≤ k → k < a + (b - m) → d'[k]! = d[k + (m - a)]!) ∧ (∀ k, a + (b - m) ≤ k → k < b → d'[k]! = d[k - (b - m)]!)
theorem Rot.left {m i j : Nat} {d d'' : Array Int} (hij : j < i) (hi : i ≤ m) (hs : m + j ≤ d.size) (h : Rot (m - (i - j)) m (m + j) (swR d (m - i) m j) d'') : Rot (m - i) m (m + j) d d'' := by
  obtain ⟨h1, h2, h3⟩ := h
  have g := swR_get d (m - i) m j (by omega) (by omega)
  refine ⟨fun k hk => ?_, fun k ha hb => ?_, fun k ha hb => ?_⟩
  · rw [h1 k (by omega), g, if_neg (by omega), if_neg (by omega)]
  · by_cases hk : k < m - (i - j)
    · rw [h1 k (by omega), g, if_pos (by omega)]; congr 1; omega
    · omega
  · by_cases hk : k < m - (i - j) + (m + j - m)
    · rw [h2 k (by omega) hk, g, if_neg (by omega), if_pos (by omega)]; congr 1; omega
    · rw [h3 k (by omega) hb, g, if_neg (by omega), if_neg (by omega)]
theorem Rot.right {m i j : Nat} {d d'' : Array Int} (hij : i < j) (hi : i ≤ m) (hs : m + j ≤ d.size) (h : Rot (m - i) m (m + (j - i)) (swR d (m - i) (m + j - i) i) d'') : Rot (m - i) m (m + j) d d'' := by
  obtain ⟨h1, h2, h3⟩ := h
  have g := swR_get d (m - i) (m + j - i) i (by omega) (by omega)
  refine ⟨fun k hk => ?_, fun k ha hb => ?_, fun k ha hb => ?_⟩
  · rw [h1 k (by omega), g, if_neg (by omega), if_neg (by omega)]
  · by_cases hk : k < m - i + (m + (j - i) - m)
    · rw [h2 k (by omega) hk, g, if_neg (by omega), if_neg (by omega)]
    · rw [h3 k (by omega) (by omega), g, if_pos (by omega)]; congr 1; omega
  · rw [h1 k (by omega), g, if_neg (by omega), if_pos (by omega)]; congr 1; omega
theorem Rot.same {m i : Nat} {d : Array Int} (hi : i ≤ m) (hs : m + i ≤ d.size) : Rot (m - i) m (m + i) d (swR d (m - i) m i) := by
  have g := swR_get d (m - i) m i (by omega) (by omega)
  refine ⟨fun k hk => ?_, fun k ha hb => ?_, fun k ha hb => ?_⟩
  · rw [g, if_neg (by omega), if_neg (by omega)]
  · rw [g, if_pos (by omega)]; congr 1; omega
  · rw [g, if_neg (by omega), if_pos (by omega)]; congr 1; omega

/-- The first place has come to k, those between one place down. -/
structure MovUp (a k : Nat) (d d' : Array Int) : Prop where
  size : d'.size = d.size
  low : ∀ p, a ≤ p → p < k → d'[p]! = d[p + 1]!
  at_ : d'[k]! = d[a]!
  high : ∀ p, p < a ∨ k < p → d'[p]! = d[p]!
theorem MovUp.start (a : Nat) (d : Array Int) : MovUp a a d d := ⟨rfl, fun p h1 h2 => by omega, rfl, fun _ _ => rfl⟩
theorem MovUp.step {a k : Nat} {d d' : Array Int} (h : MovUp a k d d') (ha : a ≤ k) (hs : k + 1 < d.size) : MovUp a (k + 1) d (swp d' k (k + 1)) := by
  have hz := h.size
  have g := swp_get d' (i := k) (j := k + 1) (by omega) (by omega)
  refine ⟨by rw [size_swp]; exact hz, fun p h1 h2 => ?_, ?_, fun p hp => ?_⟩
  · rw [g]
    by_cases e : p = k
    · subst e; rw [if_neg (by omega), if_pos rfl]; exact h.high _ (by omega)
    · rw [if_neg (by omega), if_neg e]; exact h.low p h1 (by omega)
  · rw [g, if_pos rfl]; exact h.at_
  · rw [g, if_neg (by omega), if_neg (by omega)]; exact h.high p (by omega)
theorem MovUp.sorted {a i b : Nat} {d d' : Array Int} (h : MovUp a (i - 1) d d') (hai : a < i) (hib : i ≤ b) (hd : SortedIn ltInt (a + 1) b d) (h1 : i = a + 1 ∨ ltInt d[i - 1]! d[a]! = true) (h2 : i = b ∨ ltInt d[i]! d[a]! = false) : SortedIn ltInt a b d' := by
  have hs : ∀ p q, a + 1 ≤ p → p ≤ q → q < b → d[p]! ≤ d[q]! := fun p q e1 e2 e3 => by
    by_cases e : p = q
    · subst e; exact Int.le_refl _
    · have := hd p q e1 (by omega) e3; simpa [ltInt] using this
  intro p q hp hpq hq
  have key : d'[p]! ≤ d'[q]! := by
    by_cases c1 : q < i - 1
    · rw [h.low p hp (by omega), h.low q (by omega) c1]; exact hs _ _ (by omega) (by omega) (by omega)
    · by_cases c2 : q = i - 1
      · subst c2
        rw [h.low p hp hpq, h.at_]
        rcases h1 with e | e
        · omega
        · have := hs (p + 1) (i - 1) (by omega) (by omega) (by omega)
          simp only [ltInt, decide_eq_true_eq] at e
          omega
      · rw [h.high q (by omega)]
        have hq2 : d[a]! ≤ d[q]! := by
          rcases h2 with e | e
          · omega
          · have := hs i q (by omega) (by omega) hq
            simp only [ltInt, decide_eq_false_iff_not] at e
            omega
        by_cases c3 : p < i - 1
        · rw [h.low p hp c3]; exact hs _ _ (by omega) (by omega) hq
        · by_cases c4 : p = i - 1
          · subst c4; rw [h.at_]; exact hq2
          · rw [h.high p (by omega)]; exact hs _ _ (by omega) (by omega) hq
  simpa [ltInt] using key

/-- The place m has come down to k, those between one place up. -/
structure MovDn (m k : Nat) (d d' : Array Int) : Prop where
  size : d'.size = d.size
  low : ∀ p, k < p → p ≤ m → d'[p]! = d[p - 1]!
  at_ : d'[k]! = d[m]!
  high : ∀ p, p < k ∨ m < p → d'[p]! = d[p]!
theorem MovDn.start (m : Nat) (d : Array Int) : MovDn m m d d := ⟨rfl, fun p h1 h2 => by omega, rfl, fun _ _ => rfl⟩
theorem MovDn.step {m k : Nat} {d d' : Array Int} (h : MovDn m (k + 1) d d') (ha : k + 1 ≤ m) (hs : m < d.size) : MovDn m k d (swp d' (k + 1) k) := by
  have hz := h.size
  have g := swp_get d' (i := k + 1) (j := k) (by omega) (by omega)
  refine ⟨by rw [size_swp]; exact hz, fun p h1 h2 => ?_, ?_, fun p hp => ?_⟩
  · rw [g]
    by_cases e : p = k + 1
    · subst e; rw [if_neg (by omega), if_pos rfl]; exact h.high _ (by omega)
    · rw [if_neg (by omega), if_neg e]; exact h.low p (by omega) h2
  · rw [g, if_pos rfl]; exact h.at_
  · rw [g, if_neg (by omega), if_neg (by omega)]; exact h.high p (by omega)
theorem MovDn.sorted {a m i : Nat} {d d' : Array Int} (h : MovDn m i d d') (hai : a ≤ i) (him : i ≤ m) (hd : SortedIn ltInt a m d) (h1 : i = a ∨ ltInt d[m]! d[i - 1]! = false) (h2 : i = m ∨ ltInt d[m]! d[i]! = true) : SortedIn ltInt a (m + 1) d' := by
  have hs : ∀ p q, a ≤ p → p ≤ q → q < m → d[p]! ≤ d[q]! := fun p q e1 e2 e3 => by
    by_cases e : p = q
    · subst e; exact Int.le_refl _
    · have := hd p q e1 (by omega) e3; simpa [ltInt] using this
  intro p q hp hpq hq
  have key : d'[p]! ≤ d'[q]! := by
    by_cases c1 : p > i
    · rw [h.low p c1 (by omega), h.low q (by omega) (by omega)]; exact hs _ _ (by omega) (by omega) (by omega)
    · by_cases c2 : p = i
      · subst c2
        rw [h.low q hpq (by omega), h.at_]
        rcases h2 with e | e
        · omega
        · have := hs p (q - 1) (by omega) (by omega) (by omega)
          simp only [ltInt, decide_eq_true_eq] at e
          omega
      · rw [h.high p (by omega)]
        have hq2 : d[p]! ≤ d[m]! := by
          rcases h1 with e | e
          · omega
          · have := hs p (i - 1) (by omega) (by omega) (by omega)
            simp only [ltInt, decide_eq_false_iff_not] at e
            omega
        by_cases c3 : q > i
        · rw [h.low q c3 (by omega)]; exact hs _ _ (by omega) (by omega) (by omega)
        · by_cases c4 : q = i
          · subst c4; rw [h.at_]; exact hq2
          · rw [h.high q (by omega)]; exact hs _ _ (by omega) (by omega) (by omega)
  simpa [ltInt] using key

/-- What the symmetric search has found: where the places are split. -/
structure Split (a m b mid s e : Nat) (d : Array Int) : Prop where
  h1 : a ≤ s
  h2 : s ≤ mid
  h3 : s ≤ m
  h4 : m ≤ e
  h5 : e ≤ b
  h6 : mid ≤ e
  sum : s + e = mid + m
  c1 : s = a ∨ e = b ∨ ltInt d[e]! d[s - 1]! = false
  c2 : s = m ∨ e = m ∨ ltInt d[e - 1]! d[s]! = true

/-- Behind the rotation: the left half and the right half are two sorted parts each, and nothing in the left half is greater than anything in the right one. -/
theorem Split.done {a m b mid s e : Nat} {d d' : Array Int} (h : Split a m b mid s e d) (hl : SortedIn ltInt a m d) (hr : SortedIn ltInt m b d) (hR : Rot s m e d d') :
    SortedIn ltInt a s d' ∧ SortedIn ltInt s mid d' ∧ SortedIn ltInt mid e d' ∧ SortedIn ltInt e b d' ∧ ∀ p q, a ≤ p → p < mid → mid ≤ q → q < b → d'[p]! ≤ d'[q]! := by
  obtain ⟨r1, r2, r3⟩ := hR
  obtain ⟨h1, h2, h3, h4, h5, h6, sum, c1, c2⟩ := h
  have em : s + (e - m) = mid := by omega
  rw [em] at r2 r3
  have sl : ∀ p q, a ≤ p → p ≤ q → q < m → d[p]! ≤ d[q]! := fun p q e1 e2 e3 => by
    by_cases e : p = q
    · subst e; exact Int.le_refl _
    · have := hl p q e1 (by omega) e3; simpa [ltInt] using this
  have sr : ∀ p q, m ≤ p → p ≤ q → q < b → d[p]! ≤ d[q]! := fun p q e1 e2 e3 => by
    by_cases e : p = q
    · subst e; exact Int.le_refl _
    · have := hr p q e1 (by omega) e3; simpa [ltInt] using this
  refine ⟨?_, ?_, ?_, ?_, ?_⟩
  · intro p q hp hpq hq
    rw [r1 p (by omega), r1 q (by omega)]
    exact hl p q hp hpq (by omega)
  · intro p q hp hpq hq
    rw [r2 p hp (by omega), r2 q (by omega) hq]
    exact hr _ _ (by omega) (by omega) (by omega)
  · intro p q hp hpq hq
    rw [r3 p hp (by omega), r3 q (by omega) hq]
    exact hl _ _ (by omega) (by omega) (by omega)
  · intro p q hp hpq hq
    rw [r1 p (by omega), r1 q (by omega)]
    exact hr p q (by omega) hpq hq
  · intro p q hp hpm hq hqb
    have L : ∀ x, (a ≤ x ∧ x < s) ∨ (m ≤ x ∧ x < e) → ∀ y, (s ≤ y ∧ y < m) ∨ (e ≤ y ∧ y < b) → d[x]! ≤ d[y]! := by
      intro x hx y hy
      rcases hx with ⟨x1, x2⟩ | ⟨x1, x2⟩
      · rcases hy with ⟨y1, y2⟩ | ⟨y1, y2⟩
        · exact sl x y x1 (by omega) y2
        · have k1 := sl x (s - 1) x1 (by omega) (by omega)
          have k2 := sr e y h4 y1 y2
          rcases c1 with c | c | c
          · omega
          · omega
          · simp only [ltInt, decide_eq_false_iff_not] at c; omega
      · rcases hy with ⟨y1, y2⟩ | ⟨y1, y2⟩
        · have k1 := sr x (e - 1) x1 (by omega) (by omega)
          have k2 := sl s y h1 y1 y2
          rcases c2 with c | c | c
          · omega
          · omega
          · simp only [ltInt, decide_eq_true_eq] at c; omega
        · exact sr x y x1 (by omega) y2
    have P : ∃ x, d'[p]! = d[x]! ∧ ((a ≤ x ∧ x < s) ∨ (m ≤ x ∧ x < e)) := by
      by_cases c : p < s
      · exact ⟨p, r1 p (by omega), by omega⟩
      · exact ⟨_, r2 p (by omega) hpm, by omega⟩
    have Q : ∃ y, d'[q]! = d[y]! ∧ ((s ≤ y ∧ y < m) ∨ (e ≤ y ∧ y < b)) := by
      by_cases c : q < e
      · exact ⟨_, r3 q hq c, by omega⟩
      · exact ⟨q, r1 q (by omega), by omega⟩
    obtain ⟨x, e1, hx⟩ := P
    obtain ⟨y, e2, hy⟩ := Q
    rw [e1, e2]; exact L x hx y hy
/-- Two sorted halves of which nothing in the left is greater than anything in the right. -/
theorem halves_sorted {a mid b : Nat} {d d1 d2 : Array Int} (hmb : mid ≤ b) (ham : a ≤ mid) (hs : b ≤ d.size) (hle : ∀ p q, a ≤ p → p < mid → mid ≤ q → q < b → d[p]! ≤ d[q]!) (p1 : PermIn a mid d d1) (s1 : SortedIn ltInt a mid d1) (p2 : PermIn mid b d1 d2) (s2 : SortedIn ltInt mid b d2) : SortedIn ltInt a b d2 := by
  have k1 : ∀ i, a ≤ i → i < mid → ∀ q, mid ≤ q → q < b → d1[i]! ≤ d1[q]! := by
    intro i hi hi2 q hq hqb
    rw [p1.2.1 q (by omega)]
    exact permIn_all d d1 a mid (fun x => x ≤ d[q]!) (by omega) p1 (fun i h1 h2 => hle i q h1 h2 hq hqb) i hi hi2
  have k2 : ∀ q, mid ≤ q → q < b → ∀ i, a ≤ i → i < mid → d1[i]! ≤ d2[q]! := by
    intro q hq hqb i hi hi2
    exact permIn_all d1 d2 mid b (fun x => d1[i]! ≤ x) (by rw [p1.1]; exact hs) p2 (fun q h1 h2 => k1 i hi hi2 q h1 h2) q hq hqb
  intro p q hp hpq hq
  by_cases c : q < mid
  · rw [p2.2.1 p (by omega), p2.2.1 q (by omega)]; exact s1 p q hp hpq c
  · by_cases c2 : p < mid
    · have := k2 q (by omega) hq p hp c2
      rw [← p2.2.1 p (by omega)] at this
      simpa [ltInt] using this
    · exact s2 p q (by omega) hpq hq
theorem sorted_one {a b : Nat} {d : Array Int} (h : b ≤ a + 1) : SortedIn ltInt a b d := fun p q h1 h2 h3 => by omega

end Go.Proofs.Ytmpbnmmpniganaa
