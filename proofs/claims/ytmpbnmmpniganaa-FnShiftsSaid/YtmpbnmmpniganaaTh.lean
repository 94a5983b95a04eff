/- Shifted pictures: plain. -/
import Derived.Test.YtmpbnmmpniganaaTa
import Derived.Test.YtmpbnmmpniganaaTd
import Derived.Test.YtmpbnmmpniganaaTf
import Derived.Test.YtmpbnmmpniganaaTg
namespace Go.Proofs.Ytmpbnmmpniganaa
open Go.RowKit
set_option maxRecDepth 100000
set_option linter.unusedVariables false
set_option linter.unusedSimpArgs false

theorem flat_get (f : List Int → List Int) {wd : Nat} : ∀ {R : List (List Int)}, (∀ r ∈ R, (f r).length = wd) → ∀ {x y : Nat}, x < wd → y < R.length → (R.flatMap f).getD (x + wd * y) 0 = (f (R.getD y [])).getD x 0 := by
  intro R
  induction R with
  | nil => intro _ x y _ hy; simp at hy
  | cons r R ih =>
    intro h x y hx hy
    have hr := h r (List.mem_cons_self ..)
    rw [List.flatMap_cons]
    cases y with
    | zero =>
      rw [Nat.mul_zero, Nat.add_zero, List.getD_eq_getElem?_getD, List.getElem?_append_left (by omega), ← List.getD_eq_getElem?_getD]
      rfl
    | succ y =>
      rw [List.getD_eq_getElem?_getD, List.getElem?_append_right (by rw [hr, Nat.mul_succ]; omega), hr, show x + wd * (y + 1) - wd = x + wd * y by rw [Nat.mul_succ]; omega, ← List.getD_eq_getElem?_getD]
      rw [ih (fun z hz => h z (List.mem_cons_of_mem _ hz)) hx (by simp at hy; omega)]
      rfl
theorem row_at {R : List (List Int)} {wd b y : Nat} (h : ∀ r ∈ R, RowOk wd b r) (hy : y < R.length) : RowOk wd b (R.getD y []) := by
  rw [List.getD_eq_getElem?_getD, List.getElem?_eq_getElem hy]
  exact h _ (List.getElem_mem _)
theorem shA_get {R : List (List Int)} {wd b x y : Nat} (h : ∀ r ∈ R, RowOk wd b r) (hx : x < wd) (hy : y < R.length) : (ShA wd R).getD (x + wd * y) 0 = (R.getD y []).getD x 0 := by
  unfold ShA
  rw [flat_get _ (fun r hr => by rw [List.length_take, (h r hr).len]; omega) hx hy]
  rw [List.getD_eq_getElem?_getD, List.getElem?_take, if_pos hx, ← List.getD_eq_getElem?_getD]
theorem shB_get {R : List (List Int)} {wd b x y : Nat} (h : ∀ r ∈ R, RowOk wd b r) (hx : x < wd) (hy : y < R.length) : (ShB wd b R).getD (x + wd * y) 0 = (R.getD y []).getD (x + b) 0 := by
  unfold ShB
  rw [flat_get _ (fun r hr => by rw [List.length_take, List.length_drop, (h r hr).len]; omega) hx hy]
  rw [List.getD_eq_getElem?_getD, List.getElem?_take, if_pos hx, List.getElem?_drop, Nat.add_comm b x, ← List.getD_eq_getElem?_getD]
theorem row_ne {wd b i j : Nat} {r : List Int} (h : RowOk wd b r) (hi : i < wd + b) (hj : j < wd + b) (hne : i ≠ j) : r.getD i 0 ≠ r.getD j 0 := by
  have hl := h.len
  have hp := List.pairwise_iff_getElem.1 h.inc
  rw [List.getD_eq_getElem?_getD, List.getD_eq_getElem?_getD, List.getElem?_eq_getElem (by omega), List.getElem?_eq_getElem (by omega)]
  rcases Nat.lt_or_gt_of_ne hne with e | e
  · have := hp i j (by omega) (by omega) e
    simp only [Option.getD_some]; omega
  · have := hp j i (by omega) (by omega) e
    simp only [Option.getD_some]; omega
theorem row_bd {wd b : Nat} {r : List Int} (h : RowOk wd b r) (i : Nat) : 0 ≤ r.getD i 0 ∧ r.getD i 0 ≤ 200 := by
  rw [List.getD_eq_getElem?_getD]
  cases e : r[i]? with
  | none => exact ⟨Int.le_refl _, by decide⟩
  | some z => exact h.bd z (List.mem_of_getElem? e)

/-- A square of two quarters. -/
theorem sqW_q {ks js : List Int} {wd hi x y d : Nat} {a c : Int} (ha : ks.getD (ix x y wd hi) 0 = a) (hc : js.getD (ix ((x : Int) - d) y wd hi) 0 = c) (ba : 0 ≤ a ∧ a ≤ 200) (bc : 0 ≤ c ∧ c ≤ 200) :
    sqW (ks.map (fq 2)) (js.map (fq 2)) wd hi x y d = fq 4 ((a - c) * (a - c)) ∧ 0 ≤ (a - c) * (a - c) ∧ (a - c) * (a - c) ≤ 40000 := by
  have h0 : 0 ≤ (a - c) * (a - c) := by
    rcases Int.le_total 0 (a - c) with h | h
    · exact Int.mul_nonneg h h
    · exact Int.mul_nonneg_of_nonpos_of_nonpos h h
  have h1 : (a - c) * (a - c) ≤ 40000 := by
    have e2 : (a - c).natAbs * (a - c).natAbs ≤ 200 * 200 := Nat.mul_le_mul (by omega) (by omega)
    have e3 : (((a - c).natAbs * (a - c).natAbs : Nat) : Int) = (a - c) * (a - c) := by rw [Int.natCast_mul]; exact Int.natAbs_mul_self' _
    omega
  refine ⟨?_, h0, h1⟩
  unfold sqW
  rw [fqD, fqD, ha, hc, fl_fq (by omega), fl_fq (by omega), fop_sub (by omega) (by omega) (by omega)]
  exact fop_mul (by omega) (by omega) (by omega) (by omega) (fun e => by
    rcases Int.mul_eq_zero.1 e with h | h <;> omega)

/-- The first of all least ones wins. -/
theorem winW_first {f : Nat → Nat} {b n : Nat} (hb : b < n) (hnan : ∀ d, d < n → nan32 (f d) = false) (hge : ∀ d, d < n → lt32 (f d) (f b) = false) (hlt : ∀ d, d < b → lt32 (f b) (f d) = true) : winW f (-1) n = b := by
  have key : ∀ m, m ≤ n → b < m → winW f (-1) m = b := by
    intro m
    induction m with
    | zero => intro _ h; omega
    | succ m ih =>
      intro hm hbm
      show wnrS f (-1) (winW f (-1) m) m = b
      unfold wnrS
      by_cases e : m = b
      · obtain ⟨p1, p2⟩ := winW_bd f (-1) m
        rw [if_pos]
        · rw [e]
        · refine ⟨by omega, hnan m (by omega), ?_⟩
          by_cases h0 : winW f (-1) m < 0
          · exact .inl h0
          · right
            rw [e] at p2 h0 ⊢
            exact hlt _ (by omega)
      · rw [ih (by omega) (by omega), if_neg]
        rintro ⟨-, -, h | h⟩
        · omega
        · rw [show ((b : Nat) : Int).toNat = b from rfl, hge m (by omega)] at h
          cases h
  exact key n (Nat.le_refl _) hb

/-- The winner is the shift. -/
theorem shift_won {R : List (List Int)} {wd hi b x y : Nat} (h : ∀ r ∈ R, RowOk wd b r) (hR : R.length = hi) (hx : x < wd) (hy : y < hi) (hbx : b ≤ x) (hb : b ≤ 3) (hwd : wd ≤ 8) :
    winW (sqW ((ShA wd R).map (fq 2)) ((ShB wd b R).map (fq 2)) wd hi x y) (-1) (b + 2) = b ∧ sqW ((ShA wd R).map (fq 2)) ((ShB wd b R).map (fq 2)) wd hi x y b = 0 := by
  have hro := row_at h (show y < R.length by omega)
  have hA : (ShA wd R).getD (ix x y wd hi) 0 = (R.getD y []).getD x 0 := by
    unfold ix; rw [cl_nat hx, cl_nat hy]; exact shA_get h hx (by omega)
  have hB : ∀ d : Nat, (ShB wd b R).getD (ix ((x : Int) - d) y wd hi) 0 = (R.getD y []).getD (cl ((x : Int) - d) wd + b) 0 := by
    intro d
    unfold ix; rw [cl_nat hy]; exact shB_get h (cl_lt _ (by omega)) (by omega)
  have hS := fun d => sqW_q (wd := wd) (hi := hi) (x := x) (y := y) (d := d) hA (hB d) (row_bd hro x) (row_bd hro _)
  have hb0 : sqW ((ShA wd R).map (fq 2)) ((ShB wd b R).map (fq 2)) wd hi x y b = fq 4 0 := by
    rw [(hS b).1]
    have : cl ((x : Int) - b) wd + b = x := by unfold cl; omega
    rw [this, Int.sub_self]; rfl
  refine ⟨winW_first (by omega) ?_ ?_ ?_, by rw [hb0, fq_zero]⟩
  · intro d _
    rw [(hS d).1]
    exact fq_nan (by have := (hS d).2; omega)
  · intro d _
    have := (hS d).2
    rw [hb0, (hS d).1, lt32_fq (by omega) (by omega)]
    exact decide_eq_false (by omega)
  · intro d hd
    have h2 := (hS d).2
    rw [hb0, (hS d).1, lt32_fq (by omega) (by omega)]
    apply decide_eq_true
    have hne : (R.getD y []).getD x 0 ≠ (R.getD y []).getD (cl ((x : Int) - d) wd + b) 0 := row_ne hro (by omega) (by unfold cl; omega) (by unfold cl; omega)
    have : ((R.getD y []).getD x 0 - (R.getD y []).getD (cl ((x : Int) - d) wd + b) 0) * ((R.getD y []).getD x 0 - (R.getD y []).getD (cl ((x : Int) - d) wd + b) 0) ≠ 0 := fun e => by
      rcases Int.mul_eq_zero.1 e with h | h <;> omega
    omega

/-- What the law says of each cell that is seen. -/
theorem shift_cell {R : List (List Int)} {wd hi N b i : Nat} (h : ∀ r ∈ R, RowOk wd b r) (hR : R.length = hi) (hN : N = wd * hi) (hi_ : i < N) (hwd : 1 ≤ wd) (hw8 : wd ≤ 8) (hb : b ≤ 3) (hbx : b ≤ i % wd) :
    sqL ((ShA wd R).map (fq 2)) ((ShB wd b R).map (fq 2)) wd hi (b + 2) i = 4 * (b : Int) ∧ wrpF (ShB wd b R) wd hi b i = (ShA wd R).getD i 0 ∧ sqW ((ShA wd R).map (fq 2)) ((ShB wd b R).map (fq 2)) wd hi (i % wd) (i / wd) b = 0 := by
  have hx : i % wd < wd := Nat.mod_lt _ hwd
  have hy : i / wd < hi := Nat.div_lt_of_lt_mul (by omega)
  obtain ⟨w1, w2⟩ := shift_won h hR hx hy hbx hb hw8
  refine ⟨by unfold sqL; rw [w1], ?_, w2⟩
  unfold wrpF ix
  rw [cl_nat hy, shB_get h (cl_lt _ hwd) (by omega)]
  have e : cl (((i % wd : Nat) : Int) - (b : Int)) wd + b = i % wd := by unfold cl; omega
  rw [e, ← shA_get h hx (show i / wd < R.length by omega), Nat.mod_add_div]

/-- So many cells are wrong, at most. -/
theorem mis_le {ks js : List Int} {wd b : Nat} (hb : b ≤ wd) : ∀ y x, x ≤ wd → (∀ i, i < x + wd * y → b ≤ i % wd → ks.getD i 0 = js.getD i 0) → misF ks js (x + wd * y) ≤ b * y + min x b := by
  intro y
  induction y with
  | zero =>
    intro x
    induction x with
    | zero => intro _ _; exact Nat.zero_le _
    | succ x ih =>
      intro hx h
      have h1 := ih (by omega) (fun i hi => h i (by omega))
      rw [Nat.mul_zero, Nat.mul_zero, Nat.add_zero, Nat.zero_add] at h1 ⊢
      show (if ks.getD x 0 = js.getD x 0 then misF ks js x else misF ks js x + 1) ≤ _
      by_cases e : b ≤ x
      · rw [if_pos (h x (by omega) (by rw [Nat.mod_eq_of_lt (by omega)]; exact e))]; omega
      · split <;> omega
  | succ y ihy =>
    intro x
    induction x with
    | zero =>
      intro _ h
      have h1 := ihy wd (Nat.le_refl _) (fun i hi => h i (by rw [Nat.mul_succ]; omega))
      rw [show 0 + wd * (y + 1) = wd + wd * y by rw [Nat.mul_succ]; omega, Nat.mul_succ]
      omega
    | succ x ih =>
      intro hx h
      have h1 := ih (by omega) (fun i hi => h i (by omega))
      rw [show x + 1 + wd * (y + 1) = x + wd * (y + 1) + 1 by omega]
      show (if ks.getD (x + wd * (y + 1)) 0 = js.getD (x + wd * (y + 1)) 0 then misF ks js (x + wd * (y + 1)) else misF ks js (x + wd * (y + 1)) + 1) ≤ _
      by_cases e : b ≤ x
      · rw [if_pos (h (x + wd * (y + 1)) (by omega) (by rw [xy_mod (by omega)]; exact e))]; omega
      · split <;> omega
theorem err_zero {ks : List Int} {wd hi N : Nat} (hN : N = wd * hi) (hwd : 1 ≤ wd) : ∀ n, n ≤ N → errF ks wd hi 0 n = 0 := by
  intro n
  induction n with
  | zero => intro _; rfl
  | succ n ih =>
    intro h
    unfold errF wrpF ix
    have hx : n % wd < wd := Nat.mod_lt _ hwd
    have hy : n / wd < hi := Nat.div_lt_of_lt_mul (by omega)
    rw [ih (by omega), show (((n % wd : Nat) : Int) - ((0 : Nat) : Int)) = ((n % wd : Nat) : Int) by omega, cl_nat hx, cl_nat hy, Nat.mod_add_div, Int.sub_self]
    rfl

def shChk (b wd hi m : Nat) : Bool := match floatBits .quo .f32 (floatOfInt .f32 (m : Int)) (floatOfInt .f32 ((wd * hi : Nat) : Int)), floatBits .quo .f32 (floatOfInt .f32 (b : Int)) (floatOfInt .f32 (wd : Int)) with
  | some r, some v => match floatBits .add .f32 v 981668463 with
    | some u => le32 r u && le32 0 r
    | none => false
  | _, _ => false
theorem shTab : ∀ b : Fin 4, ∀ w : Fin 4, ∀ h : Fin 3, ∀ m : Fin 10, m.val ≤ b.val * (h.val + 1) → shChk b.val (w.val + 5) (h.val + 1) m.val = true := by decide +kernel
theorem share_ok {b wd hi m : Nat} (hb : b ≤ 3) (h1 : 5 ≤ wd) (h2 : wd ≤ 8) (h3 : 1 ≤ hi) (h4 : hi ≤ 3) (hm : m ≤ b * hi) :
    ∃ r v u, floatBits .quo .f32 (floatOfInt .f32 (m : Int)) (floatOfInt .f32 ((wd * hi : Nat) : Int)) = some r ∧ floatBits .quo .f32 (floatOfInt .f32 (b : Int)) (floatOfInt .f32 (wd : Int)) = some v ∧ floatBits .add .f32 v 981668463 = some u ∧ le32 r u = true ∧ le32 0 r = true := by
  have hm9 : m ≤ 9 := Nat.le_trans hm (Nat.mul_le_mul hb h4)
  have t := shTab ⟨b, by omega⟩ ⟨wd - 5, by omega⟩ ⟨hi - 1, by omega⟩ ⟨m, by omega⟩ (by show m ≤ b * (hi - 1 + 1); rw [Nat.sub_add_cancel h3]; exact hm)
  simp only [Nat.sub_add_cancel h1, Nat.sub_add_cancel h3] at t
  unfold shChk at t
  split at t
  · rename_i r v e1 e2
    split at t
    · rename_i u e3
      rw [Bool.and_eq_true] at t
      exact ⟨r, v, u, e1, e2, e3, t.1, t.2⟩
    · cases t
  · cases t
theorem err_quo {s N : Nat} (hs : s ≤ 100000) (h1 : 1 ≤ N) (h2 : N ≤ 24) : ∃ r, floatBits .quo .f32 (fq 2 (s : Int)) (floatOfInt .f32 (N : Int)) = some r ∧ le32 0 r = true ∧ (s = 0 → eq32 r 0 = true) := by
  rw [fq_ofInt (by omega)]
  obtain ⟨r, e1, e2, e3, e4, e5⟩ := quo_q (s := (s : Int)) (m := (N : Int)) (lo := 0) (hi := (s : Int)) (by omega) (by omega) (by omega) (by omega) (by omega) (by omega) (by omega) (by
    have := Int.mul_le_mul_of_nonneg_left (show (1 : Int) ≤ (N : Int) by omega) (show (0 : Int) ≤ (s : Int) by omega); omega)
  have hf0 : fin32 (fq 2 0) = true := fq_fin (by omega)
  have hle : le32 (fq 2 0) r = true := by rw [le32_vv hf0 e2]; exact decide_eq_true e4
  refine ⟨r, e1, by rw [fq_zero] at hle; exact hle, fun h => ?_⟩
  subst h
  have : vv r = vv (fq 2 0) := Int.le_antisymm e5 e4
  have h3 : eq32 r (fq 2 0) = true := by rw [eq32_vv e2 hf0]; exact decide_eq_true this
  rw [fq_zero] at h3
  exact h3

end Go.Proofs.Ytmpbnmmpniganaa
