/- Medians and means of windows: plain law. No program in sight. -/
import Derived.Test.YtmpbnmmpniganaaYo
import Derived.Test.YtmpbnmmpniganaaMw
namespace Go.Proofs.Ytmpbnmmpniganaa
open Go.RowKit Go.Sort
set_option maxRecDepth 100000
set_option linter.unusedVariables false
set_option linter.unusedSimpArgs false

theorem med_is {L : List Int} (h0 : 0 < L.length) : med L ∈ L ∧ isMed L (med L) = true := by
  obtain ⟨M, hM⟩ : ∃ M, M = L.mergeSort (fun a b => decide (a ≤ b)) := ⟨_, rfl⟩
  have hp : M.Perm L := by rw [hM]; exact List.mergeSort_perm _ _
  have hs : M.Pairwise (fun a b => decide (a ≤ b) = true) := by
    rw [hM]; exact List.pairwise_mergeSort (fun a b c h1 h2 => by simp at *; omega) (fun a b => by simp; omega) L
  have hle : ∀ i j (h1 : i < j) (h2 : j < M.length), M[i]'(by omega) ≤ M[j] := fun i j h1 h2 => by
    have := List.pairwise_iff_getElem.1 hs i j (by omega) h2 h1
    simpa using this
  have hl := hp.length_eq
  have hS : SortedIn ltInt 0 M.toArray.size M.toArray := fun p q h1 h2 h3 => by
    have h4 : q < M.length := by simpa using h3
    have := hle p q h2 h4
    rw [getElem!_pos M.toArray q h3, getElem!_pos M.toArray p (by simp; omega)]
    simp [ltInt]; omega
  obtain ⟨-, hm⟩ := sorted_med (L := L) (d' := M.toArray) (by simpa using hp) hS h0
  have hh : L.length / 2 < M.length := by omega
  rw [getElem!_pos M.toArray _ (by simpa using hh)] at hm
  have hm : med L = M[L.length / 2] := hm
  have hmem : med L ∈ L := by rw [hm, ← hp.mem_iff]; exact List.getElem_mem _
  refine ⟨hmem, ?_⟩
  unfold isMed
  simp only [Bool.and_eq_true, decide_eq_true_eq]
  rw [← hp.countP_eq, ← hp.countP_eq]
  generalize hv : med L = v at *
  have hle2 : ∀ i j (h1 : i ≤ j) (h2 : j < M.length), M[i]'(by omega) ≤ M[j] := fun i j h1 h2 => by
    by_cases e : i = j
    · subst e; exact Int.le_refl _
    · exact hle i j (by omega) h2
  constructor
  · rw [← List.take_append_drop (L.length / 2) M, List.countP_append]
    have h1 : (M.take (L.length / 2)).countP (fun a => decide (a < v)) ≤ L.length / 2 := Nat.le_trans List.countP_le_length (by rw [List.length_take]; omega)
    have h2 : (M.drop (L.length / 2)).countP (fun a => decide (a < v)) = 0 := by
      rw [List.countP_eq_zero]
      intro a ha
      obtain ⟨k, hk, e⟩ := List.mem_iff_getElem.1 ha
      rw [List.getElem_drop] at e
      rw [List.length_drop] at hk
      have := hle2 (L.length / 2) (L.length / 2 + k) (by omega) (by omega)
      rw [e, ← hm] at this
      simp; omega
    omega
  · rw [← List.take_append_drop (L.length / 2 + 1) M, List.countP_append]
    have h1 : (M.take (L.length / 2 + 1)).countP (fun a => decide (a ≤ v)) = (M.take (L.length / 2 + 1)).length := by
      rw [List.countP_eq_length]
      intro a ha
      obtain ⟨k, hk, e⟩ := List.mem_iff_getElem.1 ha
      rw [List.getElem_take] at e
      rw [List.length_take] at hk
      have := hle2 k (L.length / 2) (by omega) (by omega)
      rw [e, ← hm] at this
      simp; omega
    rw [h1, List.length_take]
    omega

/-- How many are less, how many are greater, and is one the same. -/
def lsN (L : List Int) (m : Int) : Nat := L.countP fun a => decide (a < m)
def gtN (L : List Int) (m : Int) : Nat := L.countP fun a => decide (m < a)
def isN (L : List Int) (m : Int) : Bool := L.any fun a => decide (a = m)
theorem lsN_app (L : List Int) (m a : Int) : lsN (L ++ [a]) m = lsN L m + if a < m then 1 else 0 := by
  unfold lsN; rw [List.countP_append]; by_cases h : a < m <;> simp [h]
theorem gtN_app (L : List Int) (m a : Int) : gtN (L ++ [a]) m = gtN L m + if m < a then 1 else 0 := by
  unfold gtN; rw [List.countP_append]; by_cases h : m < a <;> simp [h]
theorem isN_app (L : List Int) (m a : Int) : isN (L ++ [a]) m = (isN L m || decide (a = m)) := by
  unfold isN; rw [List.any_append]; simp
theorem lsN_le (L : List Int) (m : Int) : lsN L m ≤ L.length := List.countP_le_length
theorem gtN_le (L : List Int) (m : Int) : gtN L m ≤ L.length := List.countP_le_length
theorem med_law {L : List Int} (h0 : 0 < L.length) : isN L (med L) = true ∧ lsN L (med L) ≤ L.length / 2 ∧ gtN L (med L) ≤ L.length / 2 := by
  obtain ⟨h1, h2⟩ := med_is h0
  unfold isMed at h2
  simp only [Bool.and_eq_true, decide_eq_true_eq] at h2
  refine ⟨by unfold isN; rw [List.any_eq_true]; exact ⟨_, h1, by simp⟩, h2.1, ?_⟩
  generalize med L = m at *
  have h3 : L.length = L.countP (fun a => decide (a ≤ m)) + gtN L m := by
    have := List.length_eq_countP_add_countP (fun a => decide (a ≤ m)) (l := L)
    rw [this]; congr 1
    unfold gtN
    refine List.countP_congr fun a _ => ?_
    simp
  omega

/-- The values of a window among the first cells. -/
def wsF (ks : List Int) (wd x y r k : Nat) : List Int := lst ks (visL wd x y r k)
theorem wsF_zero (ks : List Int) (wd x y r : Nat) : wsF ks wd x y r 0 = [] := rfl
theorem wsF_out {ks : List Int} {wd x y r k : Nat} (h : inW wd x y r k = false) : wsF ks wd x y r (k + 1) = wsF ks wd x y r k := by
  unfold wsF; rw [visL_same 1 fun i h1 h2 => by rw [show i = k by omega]; exact h]
theorem wsF_hole {ks : List Int} {wd x y r k : Nat} (h : inW wd x y r k = true) (h2 : ¬ 0 ≤ ks.getD k 0) : wsF ks wd x y r (k + 1) = wsF ks wd x y r k := by
  unfold wsF; rw [visL_next h, lst_no h2]
theorem wsF_val {ks : List Int} {wd x y r k : Nat} (h : inW wd x y r k = true) (h2 : 0 ≤ ks.getD k 0) : wsF ks wd x y r (k + 1) = wsF ks wd x y r k ++ [ks.getD k 0] := by
  unfold wsF; rw [visL_next h, lst_yes h2]
theorem wsF_len (ks : List Int) (wd x y r k : Nat) : (wsF ks wd x y r k).length ≤ k := Nat.le_trans (lst_len _ _) (visL_len _ _ _ _ _)
theorem inW_eq {wd x y r k u v : Nat} (hu : k % wd = u) (hv : k / wd = v) : inW wd x y r k = (decide (x ≤ u + r) && decide (u ≤ x + r) && decide (y ≤ v + r) && decide (v ≤ y + r)) := by
  unfold inW; rw [hu, hv]
theorem medF_ws (ks : List Int) (wd hi r i : Nat) : medF ks wd hi r i = med (wsF ks wd (i % wd) (i / wd) r (wd * hi)) := rfl

theorem cell_one {wd i k : Nat} (hw : 0 < wd) : inW wd (i % wd) (i / wd) 0 k = decide (k = i) := by
  unfold inW
  by_cases e : k = i
  · subst e; simp
  · rw [decide_eq_false e]
    have : ¬ (k % wd = i % wd ∧ k / wd = i / wd) := fun h => e (by rw [← Nat.mod_add_div k wd, ← Nat.mod_add_div i wd, h.1, h.2])
    simp only [Nat.add_zero]
    by_cases e1 : k % wd = i % wd
    · have e2 : ¬ k / wd = i / wd := fun h => this ⟨e1, h⟩
      by_cases e3 : i / wd ≤ k / wd
      · rw [decide_eq_false (show ¬ k / wd ≤ i / wd by omega)]; simp
      · rw [decide_eq_false e3]; simp
    · by_cases e3 : i % wd ≤ k % wd
      · rw [decide_eq_false (show ¬ k % wd ≤ i % wd by omega)]; simp
      · rw [decide_eq_false e3]; simp
theorem ws_one {ks : List Int} {wd i : Nat} (hw : 0 < wd) : ∀ k, wsF ks wd (i % wd) (i / wd) 0 k = if i < k ∧ 0 ≤ ks.getD i 0 then [ks.getD i 0] else []
  | 0 => by rw [wsF_zero, if_neg (by omega)]
  | k + 1 => by
    have ih := ws_one (ks := ks) (i := i) hw k
    by_cases e : k = i
    · subst e
      have h1 := cell_one (i := k) (k := k) hw
      rw [decide_eq_true rfl] at h1
      rw [if_neg (by omega)] at ih
      by_cases h2 : 0 ≤ ks.getD k 0
      · rw [wsF_val h1 h2, ih, if_pos ⟨by omega, h2⟩]; rfl
      · rw [wsF_hole h1 h2, ih, if_neg (fun h => h2 h.2)]
    · have h1 := cell_one (i := i) (k := k) hw
      rw [decide_eq_false e] at h1
      rw [wsF_out h1, ih]
      by_cases h2 : i < k
      · by_cases h3 : 0 ≤ ks.getD i 0
        · rw [if_pos ⟨h2, h3⟩, if_pos ⟨by omega, h3⟩]
        · rw [if_neg (fun h => h3 h.2), if_neg (fun h => h3 h.2)]
      · rw [if_neg (fun h => h2 h.1), if_neg (fun h => h2 (by omega))]
theorem med_one (k : Int) : med [k] = k := med_eq (by simp) (by unfold isMed; simp)
/-- The median of windows of one cell is the map itself. -/
theorem medF_zero {ks : List Int} {wd hi N : Nat} (hN : N = wd * hi) (hw : 0 < wd) (hl : ks.length = N) (hk : ∀ k ∈ ks, k = -4 ∨ 0 ≤ k ∧ k ≤ 19) : tabI N (medF ks wd hi 0) = ks := by
  refine List.ext_getElem (by rw [tabI_length, hl]) fun i h1 h2 => ?_
  have hi_ : i < N := by rw [tabI_length] at h1; exact h1
  have e : ks[i] = ks.getD i 0 := by rw [List.getD_eq_getElem?_getD, List.getElem?_eq_getElem h2]; rfl
  have e1 : (tabI N (medF ks wd hi 0))[i] = (tabI N (medF ks wd hi 0)).getD i 0 := by rw [List.getD_eq_getElem?_getD, List.getElem?_eq_getElem h1]; rfl
  rw [e1, tabI_get hi_, e, medF_ws, ws_one hw]
  have := hk (ks.getD i 0) (by rw [← e]; exact List.getElem_mem _)
  by_cases h : 0 ≤ ks.getD i 0
  · rw [if_pos ⟨by omega, h⟩, med_one]
  · rw [if_neg (fun hh => h hh.2), med_nil]; omega
/-- GuidedMap that sees nothing is the map itself. -/
theorem gdV_still {ks : List Int} {wd hi r N : Nat} (hl : ks.length = N) (hk : ∀ k ∈ ks, k = -4 ∨ 0 ≤ k ∧ k ≤ 19) : (List.range N).map (gdV ks wd hi r (-4)) = ks.map (fq 2) := by
  refine List.ext_getElem (by simp [hl]) fun i h1 h2 => ?_
  have h3 : i < ks.length := by simpa using h2
  have e : ks[i] = ks.getD i 0 := by rw [List.getD_eq_getElem?_getD, List.getElem?_eq_getElem h3]; rfl
  rw [List.getElem_map, List.getElem_map, List.getElem_range, e]
  unfold gdV
  have := hk (ks.getD i 0) (by rw [← e]; exact List.getElem_mem _)
  by_cases h : ks.getD i 0 < 0
  · rw [if_pos h]; congr 1; omega
  · rw [if_neg h, if_neg (by decide)]
/-- A mean is a hole where there is one; else it lies between the least and the greatest value. -/
theorem gdV_law {ks : List Int} {wd hi r N i : Nat} (hN : N = wd * hi) (hN2 : N ≤ 256) (hl : ks.length = N) (hk : ∀ k ∈ ks, k = -4 ∨ 0 ≤ k ∧ k ≤ 19) (hi_ : i < N) (hv : 0 ≤ ks.getD i 0) :
    (rgF ks).2.2 = true ∧ (rgF ks).1.natAbs ≤ 1000 ∧ (rgF ks).2.1.natAbs ≤ 1000 ∧ le32 0 (gdV ks wd hi r 0 i) = true ∧ fin32 (gdV ks wd hi r 0 i) = true ∧ vv (fq 2 (rgF ks).1) ≤ vv (gdV ks wd hi r 0 i) ∧ vv (gdV ks wd hi r 0 i) ≤ vv (fq 2 (rgF ks).2.1) := by
  obtain ⟨s1, s2, s3, s4, s5, s6, s7, s8, s9⟩ := stats_full ks
  have hb : ∀ k ∈ ks, k.natAbs ≤ 1000 := fun k h => by rcases hk k h with e | e <;> omega
  have hbd := rgF_bd (B := 1000) ks hb (0, 0, false) (by decide) (by decide)
  have hb1 : (rgF ks).1.natAbs ≤ 1000 := hbd.1
  have hb2 : (rgF ks).2.1.natAbs ≤ 1000 := hbd.2
  have h3 := s3 i (by omega) hv
  have hg : gdV ks wd hi r 0 i = meanW (seenL ks wd hi r i) := by unfold gdV; rw [if_neg (by omega), if_pos rfl]
  have hm := seen_len ks wd hi r i
  have hbk : ∀ j, j < N → ks.getD j 0 ∈ ks := fun j hj => by
    rw [List.getD_eq_getElem?_getD, List.getElem?_eq_getElem (by omega)]; exact List.getElem_mem _
  obtain ⟨-, -, f1, f2, f3, f4⟩ := meanW_ok (L := seenL ks wd hi r i) (lo := (rgF ks).1) (hi := (rgF ks).2.1) (by omega)
    (fun k h => by obtain ⟨j, hj, e⟩ := seen_mem h; rw [e]; exact hb _ (hbk j (by omega)))
    (fun k h h0 => by obtain ⟨j, hj, e⟩ := seen_mem h; rw [e] at h0 ⊢; exact (s3 j (by omega) h0).2)
    ⟨_, seen_own (by omega), hv⟩ hb1 hb2
  rw [hg]
  refine ⟨h3.1, hb1, hb2, ?_, f1, f3, f4⟩
  have z0 : fq 2 0 = 0 := fq_zero 2
  have zf : fin32 0 = true := by decide
  rw [le32_vv zf f1]
  have : vv 0 ≤ vv (fq 2 (rgF ks).1) := by
    rw [← z0, vv_fq (by decide), vv_fq (by omega)]
    exact Int.mul_le_mul_of_nonneg_right s7 (by omega)
  exact decide_eq_true (by omega)
theorem gdV_hole {ks : List Int} {wd hi r i : Nat} (hv : ¬ 0 ≤ ks.getD i 0) : gdV ks wd hi r 0 i = 3212836864 := by
  unfold gdV; rw [if_pos (by omega)]; decide +kernel

end Go.Proofs.Ytmpbnmmpniganaa
