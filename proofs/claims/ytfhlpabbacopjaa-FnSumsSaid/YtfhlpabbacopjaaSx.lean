/- Sums of paths over volumes of quarters; flipped and swapped volumes; the plain laws. -/
import Derived.Test.YtfhlpabbacopjaaOs
namespace Go.Proofs.Ytfhlpabbacopjaa
open Go.RowKit
set_option maxRecDepth 100000
set_option linter.unusedVariables false
set_option linter.unusedSimpArgs false

/-! ### Plain -/
/-- The sum of the first volumes. -/
def sumP (dp : Nat) (Ps : Nat → Int → Int → List Int) : Nat → Int → Int → List Int
  | 0, _, _ => List.replicate dp 0
  | k + 1, x, y => (List.range dp).map fun d => (sumP dp Ps k x y).getD d 0 + (Ps k x y).getD d 0
theorem sumP_length (dp : Nat) (Ps : Nat → Int → Int → List Int) (k : Nat) (x y : Int) : (sumP dp Ps k x y).length = dp := by
  cases k <;> simp [sumP]
theorem sumP_get (dp : Nat) (Ps : Nat → Int → Int → List Int) (k : Nat) (x y : Int) {d : Nat} (h : d < dp) : (sumP dp Ps (k + 1) x y).getD d 0 = (sumP dp Ps k x y).getD d 0 + (Ps k x y).getD d 0 := getD_range_map _ _ _ h
theorem sumP_zero (dp : Nat) (Ps : Nat → Int → Int → List Int) (x y : Int) (d : Nat) : (sumP dp Ps 0 x y).getD d 0 = 0 := by
  unfold sumP
  rw [List.getD_eq_getElem?_getD, List.getElem?_replicate]
  by_cases h : d < dp <;> simp [h]
theorem sumP_fz (wd dp : Nat) (hd : 1 ≤ dp) (Ps : Nat → Int → Int → List Int) (k i : Nat) : fzI wd dp (sumP dp Ps k) i = sumI8 wd dp Ps k i := by
  induction k with
  | zero => exact sumP_zero dp Ps _ _ _
  | succ k ih =>
    unfold sumI8
    rw [← ih]
    exact sumP_get dp Ps k _ _ (Nat.mod_lt _ (by omega))
theorem sumP_congr (dp : Nat) {Ps Qs : Nat → Int → Int → List Int} (k : Nat) (x y : Int) (h : ∀ j, j < k → Ps j x y = Qs j x y) : sumP dp Ps k x y = sumP dp Qs k x y := by
  induction k with
  | zero => rfl
  | succ k ih =>
    unfold sumP
    rw [ih (fun j hj => h j (by omega)), h k (by omega)]
theorem sumP_eight (dp : Nat) (Ps : Nat → Int → Int → List Int) (x y : Int) {d : Nat} (h : d < dp) : (sumP dp Ps 8 x y).getD d 0 = (Ps 0 x y).getD d 0 + (Ps 1 x y).getD d 0 + (Ps 2 x y).getD d 0 + (Ps 3 x y).getD d 0 + (Ps 4 x y).getD d 0 + (Ps 5 x y).getD d 0 + (Ps 6 x y).getD d 0 + (Ps 7 x y).getD d 0 := by
  rw [sumP_get _ _ 7 _ _ h, sumP_get _ _ 6 _ _ h, sumP_get _ _ 5 _ _ h, sumP_get _ _ 4 _ _ h, sumP_get _ _ 3 _ _ h, sumP_get _ _ 2 _ _ h, sumP_get _ _ 1 _ _ h, sumP_get _ _ 0 _ _ h, sumP_zero]
  omega
theorem sumP_bound {own : Int → Int → List Int} {wd hi dp : Nat} {Ps : Nat → Int → Int → List Int} (m : Nat) (hb : ∀ x y, insI x y wd hi → qb2 (own x y)) (hok : ∀ k, k < m → ∀ x y, insI x y wd hi → PathOkI own dp x y (Ps k x y)) {x y : Int} (h : insI x y wd hi) {d : Nat} (hd : d < dp) : ((sumP dp Ps m x y).getD d 0).natAbs ≤ m * 2000000 := by
  induction m with
  | zero => rw [sumP_zero]; simp
  | succ k ih =>
    have h1 := ih (fun j hj => hok j (by omega))
    have h2 := (hok k (by omega) x y h).2 d hd
    have h3 := (hb x y h).get d
    rw [sumP_get _ _ _ _ _ hd]
    omega
/-- The ways that are flipped and swapped. -/
def flipK : Nat → Nat
  | 0 => 0 | 1 => 1 | 2 => 3 | 3 => 2 | 4 => 7 | 5 => 6 | 6 => 5 | _ => 4
def swapK : Nat → Nat
  | 0 => 2 | 1 => 3 | 2 => 0 | 3 => 1 | 4 => 4 | 5 => 5 | 6 => 7 | _ => 6
theorem flipK_way : ∀ k, k < 8 → flipK k < 8 ∧ wayX (flipK k) = wayX k ∧ wayY (flipK k) = -wayY k := by
  have h : ∀ k : Fin 8, flipK k.val < 8 ∧ wayX (flipK k.val) = wayX k.val ∧ wayY (flipK k.val) = -wayY k.val := by decide
  intro k hk; exact h ⟨k, hk⟩
theorem swapK_way : ∀ k, k < 8 → swapK k < 8 ∧ wayX (swapK k) = wayY k ∧ wayY (swapK k) = wayX k := by
  have h : ∀ k : Fin 8, swapK k.val < 8 ∧ wayX (swapK k.val) = wayY k.val ∧ wayY (swapK k.val) = wayX k.val := by decide
  intro k hk; exact h ⟨k, hk⟩
theorem along_flip {own P : Int → Int → List Int} {wd hi k : Nat} {one more : Int} (hk : k < 8) (h : IsAlong (pathG (fun _ _ _ _ => (one, more)) (wayX (flipK k)) (wayY (flipK k))) (fun x y => own x ((hi : Int) - 1 - y)) (wayX (flipK k)) (wayY (flipK k)) wd hi P) :
    IsAlong (pathG (fun _ _ _ _ => (one, more)) (wayX k) (wayY k)) own (wayX k) (wayY k) wd hi (fun x y => P x ((hi : Int) - 1 - y)) := by
  obtain ⟨m1, m2, m3⟩ := flipK_way k hk
  intro x y hxy
  have hm : insI x ((hi : Int) - 1 - y) wd hi := by unfold insI at *; omega
  show P x _ = _
  rw [h x _ hm, m2, m3]
  have e1 : (hi : Int) - 1 - y - -wayY k = (hi : Int) - 1 - (y - wayY k) := by omega
  have e2 : (hi : Int) - 1 - ((hi : Int) - 1 - y) = y := by omega
  by_cases hp : insI (x - wayX k) (y - wayY k) wd hi
  · have hp2 : insI (x - wayX k) ((hi : Int) - 1 - y - -wayY k) wd hi := by unfold insI at *; omega
    rw [if_pos hp, if_pos hp2]
    unfold pathG
    simp only [e1, e2]
  · have hp2 : ¬ insI (x - wayX k) ((hi : Int) - 1 - y - -wayY k) wd hi := by unfold insI at *; omega
    rw [if_neg hp, if_neg hp2]
    simp only [e2]
theorem along_swap {own P : Int → Int → List Int} {wd hi k : Nat} {one more : Int} (hk : k < 8) (h : IsAlong (pathG (fun _ _ _ _ => (one, more)) (wayX (swapK k)) (wayY (swapK k))) (fun x y => own y x) (wayX (swapK k)) (wayY (swapK k)) hi wd P) :
    IsAlong (pathG (fun _ _ _ _ => (one, more)) (wayX k) (wayY k)) own (wayX k) (wayY k) wd hi (fun x y => P y x) := by
  obtain ⟨m1, m2, m3⟩ := swapK_way k hk
  intro x y hxy
  have hm : insI y x hi wd := by unfold insI at *; omega
  show P y x = _
  rw [h y x hm, m2, m3]
  by_cases hp : insI (x - wayX k) (y - wayY k) wd hi
  · have hp2 : insI (y - wayY k) (x - wayX k) hi wd := by unfold insI at *; omega
    rw [if_pos hp, if_pos hp2]
    rfl
  · have hp2 : ¬ insI (y - wayY k) (x - wayX k) hi wd := by unfold insI at *; omega
    rw [if_neg hp, if_neg hp2]
theorem sum_flip {own : Int → Int → List Int} {wd hi dp : Nat} {one more : Int} {Ps Qs : Nat → Int → Int → List Int}
    (hP : ∀ k, k < 8 → IsAlong (pathG (fun _ _ _ _ => (one, more)) (wayX k) (wayY k)) own (wayX k) (wayY k) wd hi (Ps k))
    (hQ : ∀ k, k < 8 → IsAlong (pathG (fun _ _ _ _ => (one, more)) (wayX k) (wayY k)) (fun x y => own x ((hi : Int) - 1 - y)) (wayX k) (wayY k) wd hi (Qs k)) : ∀ x y, insI x y wd hi → sumP dp Qs 8 x ((hi : Int) - 1 - y) = sumP dp Ps 8 x y := by
  intro x y h
  have e : ∀ k, k < 8 → Ps k x y = Qs (flipK k) x ((hi : Int) - 1 - y) := fun k hk => path_same hk (hP k hk) (along_flip hk (hQ _ (flipK_way k hk).1)) x y h
  refine ext_getD (by rw [sumP_length, sumP_length]) fun d hd => ?_
  rw [sumP_length] at hd
  rw [sumP_eight _ _ _ _ hd, sumP_eight _ _ _ _ hd, e 0 (by omega), e 1 (by omega), e 2 (by omega), e 3 (by omega), e 4 (by omega), e 5 (by omega), e 6 (by omega), e 7 (by omega)]
  simp only [flipK]
  omega
theorem sum_swap {own : Int → Int → List Int} {wd hi dp : Nat} {one more : Int} {Ps Qs : Nat → Int → Int → List Int}
    (hP : ∀ k, k < 8 → IsAlong (pathG (fun _ _ _ _ => (one, more)) (wayX k) (wayY k)) own (wayX k) (wayY k) wd hi (Ps k))
    (hQ : ∀ k, k < 8 → IsAlong (pathG (fun _ _ _ _ => (one, more)) (wayX k) (wayY k)) (fun x y => own y x) (wayX k) (wayY k) hi wd (Qs k)) : ∀ x y, insI x y wd hi → sumP dp Qs 8 y x = sumP dp Ps 8 x y := by
  intro x y h
  have e : ∀ k, k < 8 → Ps k x y = Qs (swapK k) y x := fun k hk => path_same hk (hP k hk) (along_swap hk (hQ _ (swapK_way k hk).1)) x y h
  refine ext_getD (by rw [sumP_length, sumP_length]) fun d hd => ?_
  rw [sumP_length] at hd
  rw [sumP_eight _ _ _ _ hd, sumP_eight _ _ _ _ hd, e 0 (by omega), e 1 (by omega), e 2 (by omega), e 3 (by omega), e 4 (by omega), e 5 (by omega), e 6 (by omega), e 7 (by omega)]
  simp only [swapK]
  omega
theorem sum_same {own : Int → Int → List Int} {wd hi dp m : Nat} {one more : Int} {Ps Qs : Nat → Int → Int → List Int} (hm : m ≤ 8)
    (hP : ∀ k, k < m → IsAlong (pathG (fun _ _ _ _ => (one, more)) (wayX k) (wayY k)) own (wayX k) (wayY k) wd hi (Ps k))
    (hQ : ∀ k, k < m → IsAlong (pathG (fun _ _ _ _ => (one, more)) (wayX k) (wayY k)) own (wayX k) (wayY k) wd hi (Qs k)) : ∀ x y, insI x y wd hi → sumP dp Ps m x y = sumP dp Qs m x y :=
  fun x y h => sumP_congr dp m x y fun j hj => path_same (by omega) (hP j hj) (hQ j hj) x y h

/-! ### Contracts over volumes of quarters -/
/-- All values are small. -/
def qbW (wd hi dp : Nat) (P : Int → Int → List Int) : Prop := ∀ x y, insI x y wd hi → ∀ d, d < dp → ((P x y).getD d 0).natAbs ≤ 16777216
theorem qbW.nat {wd hi dp : Nat} {P : Int → Int → List Int} (h : qbW wd hi dp P) {x y d : Nat} (hx : x < wd) (hy : y < hi) (hd : d < dp) : ((P x y).getD d 0).natAbs ≤ 16777216 := h x y ⟨Int.natCast_nonneg _, Int.ofNat_lt.2 hx, Int.natCast_nonneg _, Int.ofNat_lt.2 hy⟩ d hd

theorem flip_vq {W : World} {wd hi dp q c N : Nat} {bs : List Nat} {P : Int → Int → List Int} (h : VQ W wd hi dp q c N bs P) (hv : vVol wd hi dp (wd * hi * dp) = true) (hN : N = wd * hi * dp) (hb : qbW wd hi dp P) :
    Calls Try.prog 31 #[.agg #[.int .i64 wd, .int .i64 hi, .int .i64 dp, .slice (some ⟨q, 0, none⟩) N c]] W fun e w' =>
      ∃ (q2 c2 : Nat) (bs2 : List Nat), e = .returned (.tuple #[.agg #[.int .i64 wd, .int .i64 hi, .int .i64 dp, .slice (some ⟨q2, 0, none⟩) N c2], .bool true]) ∧ VQ w' wd hi dp q2 c2 N bs2 (fun x y => P x ((hi : Int) - 1 - y)) ∧ Below W.heap.size W w' := by
  have K := flipV_ok W wd hi dp q 0 c bs (h.ok hv)
  rw [h.len] at K
  refine K.mono ?_
  rintro e w' ⟨q2, c2, bs2, rfl, hown, hcon, hbb⟩
  have hn : ∀ y : Nat, y < hi → ((hi : Int) - 1 - (y : Int)) = ((hi - 1 - y : Nat) : Int) := fun y hy => by omega
  have hq : QV bs2 wd hi dp (fun x y => P x ((hi : Int) - 1 - y)) := by
    refine QV.of_tab hcon (fun x y hx hy => by rw [hn y hy]; exact (h.qv.2 x _ hx (by omega)).1) (fun x y hx hy d hd => ?_) (fun x y d hx hy hd => ?_)
    · rw [hn y hy]; exact hb.nat hx (by omega) hd
    · have := hb.nat (y := hi - 1 - y) hx (by omega) hd
      unfold gc
      rw [hn y hy, (h.qv.2 x _ hx (by omega)).2 d hd, fl_fq this]
  have hl : bs2.length = N := by rw [hq.1, hN]
  exact ⟨q2, c2, bs2, by rw [hl], .of hown hl hq, hbb⟩

theorem swap_vq {W : World} {wd hi dp q c N : Nat} {bs : List Nat} {P : Int → Int → List Int} (h : VQ W wd hi dp q c N bs P) (hv : vVol wd hi dp (wd * hi * dp) = true) (hN : N = wd * hi * dp) (hb : qbW wd hi dp P) :
    Calls Try.prog 32 #[.agg #[.int .i64 wd, .int .i64 hi, .int .i64 dp, .slice (some ⟨q, 0, none⟩) N c]] W fun e w' =>
      ∃ (q2 c2 : Nat) (bs2 : List Nat), e = .returned (.tuple #[.agg #[.int .i64 hi, .int .i64 wd, .int .i64 dp, .slice (some ⟨q2, 0, none⟩) N c2], .bool true]) ∧ VQ w' hi wd dp q2 c2 N bs2 (fun x y => P y x) ∧ Below W.heap.size W w' := by
  have K := swapV_ok W wd hi dp q 0 c bs (h.ok hv)
  rw [h.len] at K
  refine K.mono ?_
  rintro e w' ⟨q2, c2, bs2, rfl, hown, hcon, hbb⟩
  have hq : QV bs2 hi wd dp (fun x y => P y x) := by
    refine QV.of_tab hcon (fun x y hx hy => (h.qv.2 y x hy hx).1) (fun x y hx hy d hd => hb.nat hy hx hd) (fun x y d hx hy hd => ?_)
    unfold gc
    rw [(h.qv.2 y x hy hx).2 d hd, fl_fq (hb.nat hy hx hd)]
  have hl : bs2.length = N := by rw [hq.1, hN, Nat.mul_comm hi wd]
  exact ⟨q2, c2, bs2, by rw [hl], .of hown hl hq, hbb⟩

theorem add_vq {W : World} {wd hi dp q c q2 c2 N : Nat} {bs bs2 : List Nat} {P P2 : Int → Int → List Int} (h : VQ W wd hi dp q c N bs P) (h2 : VQ W wd hi dp q2 c2 N bs2 P2) (hv : vVol wd hi dp (wd * hi * dp) = true) (hN : N = wd * hi * dp) (hb : qbW wd hi dp P) (hb2 : qbW wd hi dp P2) (hb3 : qbW wd hi dp (fun x y => (List.range dp).map fun d => (P x y).getD d 0 + (P2 x y).getD d 0)) :
    Calls Try.prog 30 #[.agg #[.int .i64 wd, .int .i64 hi, .int .i64 dp, .slice (some ⟨q, 0, none⟩) N c], .agg #[.int .i64 wd, .int .i64 hi, .int .i64 dp, .slice (some ⟨q2, 0, none⟩) N c2]] W fun e w' =>
      ∃ (q3 c3 : Nat) (bs3 : List Nat), e = .returned (.tuple #[.agg #[.int .i64 wd, .int .i64 hi, .int .i64 dp, .slice (some ⟨q3, 0, none⟩) N c3], .bool true]) ∧ VQ w' wd hi dp q3 c3 N bs3 (fun x y => (List.range dp).map fun d => (P x y).getD d 0 + (P2 x y).getD d 0) ∧ Below W.heap.size W w' := by
  have K := addV_ok W wd hi dp q 0 c q2 0 c2 bs bs2 (h.ok hv) (h2.ok hv)
  rw [h.len, h2.len] at K
  refine K.mono ?_
  rintro e w' ⟨q3, c3, bs3, rfl, hown, hcon, hbb⟩
  have hq : QV bs3 wd hi dp (fun x y => (List.range dp).map fun d => (P x y).getD d 0 + (P2 x y).getD d 0) := by
    refine QV.of_tab hcon (fun x y hx hy => by simp) (fun x y hx hy d hd => hb3.nat hx hy hd) (fun x y d hx hy hd => ?_)
    have b3 := hb3.nat hx hy hd
    rw [getD_range_map _ _ _ hd] at b3 ⊢
    unfold gc
    rw [(h.qv.2 x y hx hy).2 d hd, (h2.qv.2 x y hx hy).2 d hd, fl_fq (hb.nat hx hy hd), fl_fq (hb2.nat hx hy hd), fop_add (hb.nat hx hy hd) (hb2.nat hx hy hd) b3]
  have hl : bs3.length = N := by rw [hq.1, hN]
  exact ⟨q3, c3, bs3, by rw [hl], .of hown hl hq, hbb⟩

theorem zero_vq {W : World} {wd hi dp q c N : Nat} {bs : List Nat} {P : Int → Int → List Int} (h : VQ W wd hi dp q c N bs P) (hv : vVol wd hi dp (wd * hi * dp) = true) (hN : N = wd * hi * dp) (hb : qbW wd hi dp P) (h0 : ∀ x y, insI x y wd hi → ∀ k ∈ P x y, 0 ≤ k) (Ps : Nat → Int → Int → List Int) :
    Calls Try.prog 13 #[.agg #[.int .i64 wd, .int .i64 hi, .int .i64 dp, .slice (some ⟨q, 0, none⟩) N c], .float .f32 0] W fun e w' =>
      ∃ (q2 c2 : Nat) (bs2 : List Nat), e = .returned (.tuple #[.agg #[.int .i64 wd, .int .i64 hi, .int .i64 dp, .slice (some ⟨q2, 0, none⟩) N c2], .bool true]) ∧ VQ w' wd hi dp q2 c2 N bs2 (sumP dp Ps 0) ∧ Below W.heap.size W w' := by
  have K := scale_ok W wd hi dp q 0 c bs 0 (h.ok hv)
  rw [h.len] at K
  refine K.mono ?_
  rintro e w' ⟨q2, c2, bs2, rfl, hown, hcon, hbb⟩
  have hq : QV bs2 wd hi dp (sumP dp Ps 0) := by
    refine QV.of_tab hcon (fun x y hx hy => sumP_length _ _ _ _ _) (fun x y hx hy d hd => by rw [sumP_zero]; simp) (fun x y d hx hy hd => ?_)
    have hb1 := hb.nat hx hy hd
    have h1 : 0 ≤ (P x y).getD d 0 := by
      have hl := (h.qv.2 x y hx hy).1
      have hd' : d < (P (x : Int) (y : Int)).length := by omega
      rw [List.getD_eq_getElem?_getD, List.getElem?_eq_getElem hd']
      exact h0 x y ⟨Int.natCast_nonneg _, Int.ofNat_lt.2 hx, Int.natCast_nonneg _, Int.ofNat_lt.2 hy⟩ _ (List.getElem_mem hd')
    unfold gc
    rw [(h.qv.2 x y hx hy).2 d hd, fl_fq hb1, sumP_zero]
    have e0 : fl 0 = fq 0 0 := by decide +kernel
    rw [e0, fop_mul (g := 2) (h := 0) (by omega) hb1 (by simp) (by simp) (fun _ => ⟨by omega, by omega⟩), Int.mul_zero]
  have hl : bs2.length = N := by rw [hq.1, hN]
  exact ⟨q2, c2, bs2, by rw [hl], .of hown hl hq, hbb⟩

theorem sumP_qv {own : Int → Int → List Int} {wd hi dp m : Nat} {bs : List Nat} {Ps : Nat → Int → Int → List Int} (hd : 1 ≤ dp) (h : bs = ((List.range (wd * hi * dp)).map fun i => sumI8 wd dp Ps m i).map (fq 2)) : QV bs wd hi dp (sumP dp Ps m) :=
  QV.of_flat (fun x y hx hy => sumP_length _ _ _ _ _) hd (by
    rw [h, List.map_map]
    refine List.map_congr_left fun i _ => ?_
    show fq 2 (sumI8 wd dp Ps m i) = _
    rw [sumP_fz _ _ hd])

/-- What sums along the first directions are. -/
def IsSum (wd hi dp m : Nat) (own : Int → Int → List Int) (one more : Int) (Ps : Nat → Int → Int → List Int) : Prop := ∀ k, k < m → IsAlong (pathG (fun _ _ _ _ => (one, more)) (wayX k) (wayY k)) own (wayX k) (wayY k) wd hi (Ps k) ∧ ∀ x y, insI x y wd hi → PathOkI own dp x y (Ps k x y)
theorem IsSum.qbW {own : Int → Int → List Int} {wd hi dp m : Nat} {one more : Int} {Ps : Nat → Int → Int → List Int} (h : IsSum wd hi dp m own one more Ps) (hm : m ≤ 8) (hb : ∀ x y, insI x y wd hi → qb2 (own x y)) : qbW wd hi dp (sumP dp Ps m) := fun x y hxy d hd => by
  have h1 := sumP_bound m hb (fun k hk => (h k hk).2) hxy hd
  have h2 : m * 2000000 ≤ 8 * 2000000 := Nat.mul_le_mul_right _ hm
  omega
theorem qbW_of {wd hi dp : Nat} {P : Int → Int → List Int} (h : ∀ x y, insI x y wd hi → qb2 (P x y)) : qbW wd hi dp P := fun x y hxy d _ => by have := (h x y hxy).get d; omega
theorem qbW_path {own P : Int → Int → List Int} {wd hi dp : Nat} (h : ∀ x y, insI x y wd hi → qb2 (own x y)) (hok : ∀ x y, insI x y wd hi → PathOkI own dp x y (P x y)) : qbW wd hi dp P := fun x y hxy d _ => by have := ((hok x y hxy).qb3 (h x y hxy)).get d; omega

theorem sumPaths_vq {W : World} {wd hi dp q c N : Nat} {bs : List Nat} {P : Int → Int → List Int} (m : Nat) (one more : Int) (h : VQ W wd hi dp q c N bs P) (hv : vVol wd hi dp (wd * hi * dp) = true) (hN : N = wd * hi * dp) (hqb : ∀ x y, insI x y wd hi → qb2 (P x y)) (hm1 : 1 ≤ m) (hm : m ≤ 8) (h1 : 0 ≤ one) (h2 : one ≤ more) (h3 : more ≤ 1000000) :
    Calls Try.prog 18 #[.agg #[.int .i64 wd, .int .i64 hi, .int .i64 dp, .slice (some ⟨q, 0, none⟩) N c], .agg #[.float .f32 (fq 2 one), .float .f32 (fq 2 more)], .int .i64 m] W fun e w' =>
      ∃ (q2 c2 : Nat) (bs2 : List Nat) (Ps : Nat → Int → Int → List Int), e = .returned (.tuple #[.agg #[.int .i64 wd, .int .i64 hi, .int .i64 dp, .slice (some ⟨q2, 0, none⟩) N c2], .bool true]) ∧ VQ w' wd hi dp q2 c2 N bs2 (sumP dp Ps m) ∧ IsSum wd hi dp m P one more Ps ∧ Below W.heap.size W w' := by
  have hd := (h.ok hv).dims
  have K := sumPaths_ok W wd hi dp q 0 c m bs P one more (h.ok hv) h.qlt h.qv hm1 hm hqb h1 h2 h3
  rw [h.len] at K
  refine K.mono ?_
  rintro e w' ⟨q2, c2, bs2, Ps, rfl, hown, hcon, hal, hb⟩
  have hq := sumP_qv (own := P) hd.2.2.2.2.1 hcon
  have hl : bs2.length = N := by rw [hq.1, hN]
  exact ⟨q2, c2, bs2, Ps, by rw [hl], .of hown hl hq, hal, hb⟩

theorem sumOver_vq {W : World} {wd hi dp q c N g gc_ : Nat} {bs gs : List Nat} {P : Int → Int → List Int} (m : Nat) (one more : Int) (h : VQ W wd hi dp q c N bs P) (hg : FQ W wd hi g gc_ gs) (hv : vVol wd hi dp (wd * hi * dp) = true) (hN : N = wd * hi * dp) (hqb : ∀ x y, insI x y wd hi → qb2 (P x y)) (hm1 : 1 ≤ m) (hm : m ≤ 8) (h1 : 0 ≤ one) (h2 : one ≤ more) (h3 : more ≤ 64) :
    Calls Try.prog 34 #[.agg #[.int .i64 wd, .int .i64 hi, .int .i64 dp, .slice (some ⟨q, 0, none⟩) N c], .agg #[.float .f32 (fq 2 one), .float .f32 (fq 2 more)], .agg #[.int .i64 wd, .int .i64 hi, .slice (some ⟨g, 0, none⟩) (wd * hi) gc_], .int .i64 m] W fun e w' =>
      ∃ (q2 c2 : Nat) (bs2 : List Nat) (Ps : Nat → Int → Int → List Int), e = .returned (.tuple #[.agg #[.int .i64 wd, .int .i64 hi, .int .i64 dp, .slice (some ⟨q2, 0, none⟩) N c2], .bool true]) ∧ VQ w' wd hi dp q2 c2 N bs2 (sumP dp Ps m) ∧ IsSum wd hi dp m P one more Ps ∧ Below W.heap.size W w' := by
  have hd := (h.ok hv).dims
  have K := sumOver_ok W wd hi dp q 0 c m g gc_ bs gs P one more (h.ok hv) h.qlt h.qv hm1 hm hqb h1 h2 h3 hg
  rw [h.len] at K
  refine K.mono ?_
  rintro e w' ⟨q2, c2, bs2, Ps, rfl, hown, hcon, hal, hb⟩
  have hq := sumP_qv (own := P) hd.2.2.2.2.1 hcon
  have hl : bs2.length = N := by rw [hq.1, hN]
  exact ⟨q2, c2, bs2, Ps, by rw [hl], .of hown hl hq, hal, hb⟩

theorem pathOver_vq {W : World} {wd hi dp q c N g gc_ : Nat} {bs gs : List Nat} {P : Int → Int → List Int} (k : Nat) (one more : Int) (h : VQ W wd hi dp q c N bs P) (hg : FQ W wd hi g gc_ gs) (hv : vVol wd hi dp (wd * hi * dp) = true) (hN : N = wd * hi * dp) (hqb : ∀ x y, insI x y wd hi → qb2 (P x y)) (hk : k < 8) (h1 : 0 ≤ one) (h2 : one ≤ more) (h3 : more ≤ 64) :
    Calls Try.prog 35 #[.agg #[.int .i64 wd, .int .i64 hi, .int .i64 dp, .slice (some ⟨q, 0, none⟩) N c], .agg #[.float .f32 (fq 2 one), .float .f32 (fq 2 more)], .agg #[.int .i64 wd, .int .i64 hi, .slice (some ⟨g, 0, none⟩) (wd * hi) gc_], .int .i64 k] W fun e w' =>
      ∃ (q2 c2 : Nat) (bs2 : List Nat) (P2 : Int → Int → List Int), e = .returned (.tuple #[.agg #[.int .i64 wd, .int .i64 hi, .int .i64 dp, .slice (some ⟨q2, 0, none⟩) N c2], .bool true]) ∧ VQ w' wd hi dp q2 c2 N bs2 P2 ∧ IsAlong (pathG (fun _ _ _ _ => (one, more)) (wayX k) (wayY k)) P (wayX k) (wayY k) wd hi P2 ∧ (∀ x y, insI x y wd hi → PathOkI P dp x y (P2 x y)) ∧ Below W.heap.size W w' := by
  have K := pathOver_ok W wd hi dp q 0 c k g gc_ bs gs P one more (h.ok hv) h.qlt h.qv hk hqb h1 h2 h3 hg
  rw [h.len] at K
  refine K.mono ?_
  rintro e w' ⟨q2, c2, bs2, P2, rfl, hown, hq, hal, hok, hb⟩
  have hl : bs2.length = N := by rw [hq.1, hN]
  exact ⟨q2, c2, bs2, P2, by rw [hl], .of hown hl hq, hal, hok, hb⟩

theorem flat_fq (W : World) (wd hi : Nat) (hs : szOk wd hi = true) (h0 : 1 ≤ wd) (h1 : 1 ≤ hi) :
    Calls Try.prog 33 #[.int .i64 wd, .int .i64 hi, .float .f32 1073741824] W fun e w' =>
      ∃ (g c : Nat) (gs : List Nat), e = .returned (.tuple #[.agg #[.int .i64 wd, .int .i64 hi, .slice (some ⟨g, 0, none⟩) (wd * hi) c], .bool true]) ∧ FQ w' wd hi g c gs ∧ Below W.heap.size W w' := by
  refine (flatPicture_ok W wd hi 1073741824 (by omega) hs).mono ?_
  rintro e w' ⟨a, c, gs, rfl, hown, hcon, hb⟩
  have hl : gs.length = wd * hi := by have := congrArg List.length hcon; rw [Nat.mul_comm]; simpa [tab] using this
  obtain ⟨g, rfl⟩ := own_addr hown (by rw [hl]; exact Nat.mul_pos h0 h1)
  rw [hl] at hown ⊢
  refine ⟨g, c, gs, rfl, ⟨hown.sl, fun i hi_ => ?_⟩, hb⟩
  have h := congrArg (fun l => l.getD i 0) hcon
  have e : fl 1073741824 = fq 0 2 := by decide +kernel
  have e2 : fq 0 2 = 1073741824 := by decide +kernel
  rw [← e2]
  refine eq_of_fl' (by omega) ?_
  have hr : i < (gs.map fl).length := by simpa using hi_
  have hx : (gs.map fl)[i] = fl 1073741824 := by
    have : ∀ (l l2 : List Nat) (e : l = l2) (i : Nat) (h : i < l.length), l[i] = l2[i]'(e ▸ h) := by rintro l l2 rfl i h; rfl
    rw [this _ _ hcon i hr]
    simp [tab]
  rw [List.getElem_map] at hx
  rw [← getD_of _ _ hi_, hx, e]

theorem QV.congr {bs : List Nat} {wd hi dp : Nat} {P Q : Int → Int → List Int} (h : QV bs wd hi dp P) (e : ∀ x y, insI x y wd hi → P x y = Q x y) : QV bs wd hi dp Q :=
  ⟨h.1, fun x y hx hy => by rw [← e _ _ ⟨Int.natCast_nonneg _, Int.ofNat_lt.2 hx, Int.natCast_nonneg _, Int.ofNat_lt.2 hy⟩]; exact h.2 x y hx hy⟩
theorem VQ.congr {W : World} {wd hi dp q c N : Nat} {bs : List Nat} {P Q : Int → Int → List Int} (h : VQ W wd hi dp q c N bs P) (e : ∀ x y, insI x y wd hi → P x y = Q x y) : VQ W wd hi dp q c N bs Q := ⟨h.sl, h.qlt, h.qv.congr e⟩
theorem VQ.ne {W : World} {wd hi dp q c N ob : Nat} {bs : List Nat} {P : Int → Int → List Int} {z : Int} {y u v : Value} {T : TypeId} (h : VQ W wd hi dp q c N bs P) (h0 : 0 < N) (hb : BoxN W ob #[.int .i64 z, y, u, v] T) : ob ≠ q := by
  rintro rfl
  have h1 := (h.sl.at 0 (by rw [h.len]; exact h0)).1
  have h2 := hb.cell 0
  simp at h1 h2
  rw [h2] at h1
  simp at h1
theorem VQ.set {W : World} {wd hi dp q c N ob i : Nat} {bs : List Nat} {P : Int → Int → List Int} (h : VQ W wd hi dp q c N bs P) (hne : ob ≠ q) (z : Value) : VQ (W.setCell ⟨ob, i, none⟩ z) wd hi dp q c N bs P :=
  ⟨⟨h.sl.1.grown (grown_setCell _ _ _) (.inr (by simpa [Value.ownBlock] using (Ne.symm hne))), h.sl.2⟩, by simpa using h.qlt, h.qv⟩
theorem IsSum.lt {wd hi dp m k : Nat} {own : Int → Int → List Int} {one more : Int} {Ps : Nat → Int → Int → List Int} (h : IsSum wd hi dp m own one more Ps) (hk : k ≤ m) : IsSum wd hi dp k own one more Ps := fun j hj => h j (by omega)
theorem addSum_vq {W : World} {wd hi dp q c q2 c2 N m k : Nat} {bs bs2 : List Nat} {own P2 : Int → Int → List Int} {one more : Int} {Ps : Nat → Int → Int → List Int} (h : VQ W wd hi dp q c N bs (sumP dp Ps k)) (h2 : VQ W wd hi dp q2 c2 N bs2 P2) (hv : vVol wd hi dp (wd * hi * dp) = true) (hN : N = wd * hi * dp)
    (hqb : ∀ x y, insI x y wd hi → qb2 (own x y)) (hs : IsSum wd hi dp m own one more Ps) (hm : m ≤ 8) (hk : k < m) (ha : IsAlong (pathG (fun _ _ _ _ => (one, more)) (wayX k) (wayY k)) own (wayX k) (wayY k) wd hi P2) :
    Calls Try.prog 30 #[.agg #[.int .i64 wd, .int .i64 hi, .int .i64 dp, .slice (some ⟨q, 0, none⟩) N c], .agg #[.int .i64 wd, .int .i64 hi, .int .i64 dp, .slice (some ⟨q2, 0, none⟩) N c2]] W fun e w' =>
      ∃ (q3 c3 : Nat) (bs3 : List Nat), e = .returned (.tuple #[.agg #[.int .i64 wd, .int .i64 hi, .int .i64 dp, .slice (some ⟨q3, 0, none⟩) N c3], .bool true]) ∧ VQ w' wd hi dp q3 c3 N bs3 (sumP dp Ps (k + 1)) ∧ Below W.heap.size W w' :=
  add_vq (P2 := Ps k) h (h2.congr (path_same (by omega) ha (hs k hk).1)) hv hN ((hs.lt (by omega)).qbW (by omega) hqb) (qbW_path hqb (hs k hk).2) ((hs.lt (k := k + 1) (by omega)).qbW (by omega) hqb)

end Go.Proofs.Ytfhlpabbacopjaa
