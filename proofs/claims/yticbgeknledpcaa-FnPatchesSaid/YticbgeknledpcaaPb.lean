/- Pictures: ranges, boxes, blurs; words between quarters. -/
import Derived.Test.YticbgeknledpcaaTurn
import Derived.Test.YticbgeknledpcaaFg
import Derived.Test.YticbgeknledpcaaMr
import Derived.Test.YticbgeknledpcaaPix
namespace Go.Proofs.Yticbgeknledpcaa
open Go.RowKit
set_option maxRecDepth 100000
set_option linter.unusedVariables false
set_option linter.unusedSimpArgs false

/-- A word between two numbers of quarters. -/
structure Bd (L H : Int) (b : Nat) : Prop where
  fin : fin32 b = true
  lt : b < 4294967296
  lo : vv (fq 2 L) ≤ vv b
  hi : vv b ≤ vv (fq 2 H)
theorem p147 : (0 : Int) < ((2 ^ (149 - 2) : Nat) : Int) := pow_pos_int _
theorem p149 : (0 : Int) < ((2 ^ (149 - 0) : Nat) : Int) := pow_pos_int _
theorem vv_mono {a b : Int} (ha : a.natAbs ≤ 16777216) (hb : b.natAbs ≤ 16777216) (h : a ≤ b) : vv (fq 2 a) ≤ vv (fq 2 b) := by
  rw [vv_fq ha, vv_fq hb]; exact Int.mul_le_mul_of_nonneg_right h (Int.le_of_lt p147)
theorem vv_mono' {a b : Int} (ha : a.natAbs ≤ 16777216) (hb : b.natAbs ≤ 16777216) (h : vv (fq 2 a) ≤ vv (fq 2 b)) : a ≤ b := by
  rw [vv_fq ha, vv_fq hb] at h; exact Int.le_of_mul_le_mul_right h p147
theorem Bd.of {L H k : Int} (h1 : L ≤ k) (h2 : k ≤ H) (h3 : 0 ≤ L) (h4 : H ≤ 1000000) : Bd L H (fq 2 k) :=
  ⟨fq_fin (by omega), fq_lt (by omega), vv_mono (by omega) (by omega) h1, vv_mono (by omega) (by omega) h2⟩
theorem Bd.nan {L H : Int} {b : Nat} (h : Bd L H b) : nan32 b = false := nan_of_fin32 h.fin
theorem Bd.fl {L H : Int} {b : Nat} (h : Bd L H b) : fl b = b := fl_eq h.nan
theorem Bd.add {L H L' H' : Int} {a b : Nat} (h : Bd L H a) (h' : Bd L' H' b) (h1 : 0 ≤ L) (h2 : H ≤ 1000000) (h3 : 0 ≤ L') (h4 : H' ≤ 1000000) (h5 : L ≤ H) (h6 : L' ≤ H') : ∃ s, floatBits .add .f32 a b = some s ∧ Bd (L + L') (H + H') s := by
  have p := p147
  have e1 := h.lo; have e2 := h.hi; have e3 := h'.lo; have e4 := h'.hi
  rw [vv_fq (by omega)] at e1 e2 e3 e4
  obtain ⟨s, g1, g2, g3, g4, g5⟩ := add_bd (lo := fq 2 (L + L')) (hi := fq 2 (H + H')) h.fin h'.fin (fq_fin (by omega)) (fq_fin (by omega)) (by rw [vv_fq (by omega), Int.add_mul]; omega) (by rw [vv_fq (by omega), Int.add_mul]; omega)
  exact ⟨s, g1, g2, g3, g4, g5⟩
theorem Bd.quo {L H n : Int} {a : Nat} (h : Bd (n * L) (n * H) a) (h1 : 0 ≤ L) (h2 : n * H ≤ 1000000) (h3 : 0 < n) (h4 : n ≤ 1000) (h5 : L ≤ H) : ∃ s, floatBits .quo .f32 a (fq 0 n) = some s ∧ Bd L H s := by
  have p1 := p147
  have p2 := p149
  have e : ((2 ^ 149 : Nat) : Int) = ((2 ^ (149 - 0) : Nat) : Int) := rfl
  have k0 : 0 ≤ n * L := Int.mul_nonneg (by omega) h1
  have k1 : n * L ≤ n * H := Int.mul_le_mul_of_nonneg_left h5 (by omega)
  have k2 : H ≤ n * H := by have := Int.mul_le_mul_of_nonneg_right (show (1 : Int) ≤ n by omega) (show 0 ≤ H by omega); omega
  have e1 := h.lo; have e2 := h.hi
  rw [vv_fq (by omega)] at e1 e2
  have vb := vv_fq (g := 0) (k := n) (by omega)
  have q1 := Int.mul_nonneg k0 (Int.le_of_lt p1)
  obtain ⟨s, g1, g2, g3, g4, g5⟩ := div_bd (b := fq 0 n) (lo := fq 2 L) (hi := fq 2 H) h.fin (fq_fin (by omega)) (fq_fin (by omega)) (fq_fin (by omega)) (by rw [vb]; exact Int.mul_pos h3 p2) (by omega)
    (by
      rw [vv_fq (by omega), vb, e]
      have := Int.mul_le_mul_of_nonneg_right e1 (Int.le_of_lt p2)
      rw [show L * ((2 ^ (149 - 2) : Nat) : Int) * (n * ((2 ^ (149 - 0) : Nat) : Int)) = n * L * ((2 ^ (149 - 2) : Nat) : Int) * ((2 ^ (149 - 0) : Nat) : Int) by ac_rfl]
      exact this)
    (by
      rw [vv_fq (k := H) (by omega), vb, e]
      have := Int.mul_le_mul_of_nonneg_right e2 (Int.le_of_lt p2)
      rw [show H * ((2 ^ (149 - 2) : Nat) : Int) * (n * ((2 ^ (149 - 0) : Nat) : Int)) = n * H * ((2 ^ (149 - 2) : Nat) : Int) * ((2 ^ (149 - 0) : Nat) : Int) by ac_rfl]
      exact this)
  exact ⟨s, g1, g2, g3, g4, g5⟩
/-- One value alone. -/
theorem Bd.one {L : Int} {b : Nat} (h : Bd L L b) (h1 : 0 < L) (h2 : L ≤ 1000000) : b = fq 2 L := by
  have e : vv b = vv (fq 2 L) := by have := h.lo; have := h.hi; omega
  have hp : 0 < vv (fq 2 L) := by rw [vv_fq (by omega)]; exact Int.mul_pos h1 p147
  have e1 := vv_pos (w := b) (by omega)
  have e2 := vv_pos hp
  have e3 : rg Ieee.single b = rg Ieee.single (fq 2 L) := unit_inj Ieee.single (by omega)
  have s1 : sgn Ieee.single b = false := by
    cases hs : sgn Ieee.single b
    · rfl
    · exfalso
      have : vv b = -(unit Ieee.single (rg Ieee.single b) : Int) := by unfold vv sv; rw [if_pos hs]
      omega
  have s2 : sgn Ieee.single (fq 2 L) = false := by
    cases hs : sgn Ieee.single (fq 2 L)
    · rfl
    · exfalso
      have : vv (fq 2 L) = -(unit Ieee.single (rg Ieee.single (fq 2 L)) : Int) := by unfold vv sv; rw [if_pos hs]
      omega
  have w1 := word_inj Ieee.single (w := b) (by rw [sg_sw]; have := h.lt; omega) s1 rfl
  have w2 := word_inj Ieee.single (w := fq 2 L) (by rw [sg_sw]; have := fq_lt (g := 2) (k := L) (by omega); omega) s2 rfl
  rw [w1, w2]
  rw [e3]

/-- The least and the greatest number. -/
def rwS (o : Nat × Nat × Bool) (x : Nat) : Nat × Nat × Bool := (if o.2.2 = false ∨ lt32 x o.1 = true then x else o.1, if o.2.2 = false ∨ lt32 o.2.1 x = true then x else o.2.1, true)
def rwF (bs : List Nat) : Nat × Nat × Bool := bs.foldl rwS (0, 0, false)
theorem foldl_takeN {α : Type} (step : α → Nat → α) (s : α) (ks : List Nat) (i : Nat) (h : i < ks.length) : (ks.take (i + 1)).foldl step s = step ((ks.take i).foldl step s) (ks.getD i 0) := by
  rw [List.take_add_one, List.getElem?_eq_getElem h, List.foldl_append, List.getD_eq_getElem?_getD, List.getElem?_eq_getElem h]; rfl

theorem rw_inv (bs : List Nat) (hf : ∀ b ∈ bs, fin32 b = true) : ∀ i, i ≤ bs.length → let o := (bs.take i).foldl rwS (0, 0, false)
    (o.2.2 = decide (0 < i)) ∧ fin32 o.1 = true ∧ fin32 o.2.1 = true ∧ (∀ j, j < i → vv o.1 ≤ vv (bs.getD j 0) ∧ vv (bs.getD j 0) ≤ vv o.2.1) ∧ (0 < i → (∃ j, j < i ∧ o.1 = bs.getD j 0) ∧ (∃ j, j < i ∧ o.2.1 = bs.getD j 0)) := by
  intro i
  induction i with
  | zero => intro _; simp [List.take]; decide
  | succ i ih =>
    intro h
    obtain ⟨h1, h2, h3, h4, h5⟩ := ih (by omega)
    rw [foldl_takeN rwS _ bs i (by omega)]
    have hx : fin32 (bs.getD i 0) = true := by
      rw [List.getD_eq_getElem?_getD, List.getElem?_eq_getElem (by omega)]; exact hf _ (List.getElem_mem _)
    generalize (bs.take i).foldl rwS (0, 0, false) = o at *
    obtain ⟨lo, hi, fd⟩ := o
    dsimp only at *
    have hj : ∀ j, j < i + 1 → j < i ∨ j = i := fun j hj => by omega
    rcases Nat.eq_zero_or_pos i with z | z
    · subst z
      have : fd = false := by rw [h1]; rfl
      subst this
      refine ⟨rfl, by simpa [rwS] using hx, by simpa [rwS] using hx, fun j hj' => ?_, fun _ => ⟨⟨0, by omega, by simp [rwS]⟩, ⟨0, by omega, by simp [rwS]⟩⟩⟩
      have : j = 0 := by omega
      subst this; simp [rwS]
    · have : fd = true := by rw [h1]; simpa using z
      subst this
      obtain ⟨⟨j1, g1, g2⟩, ⟨j2, g3, g4⟩⟩ := h5 z
      have l1 := lt32_vv hx h2
      have l2 := lt32_vv h3 hx
      simp only [rwS, Bool.true_eq_false, false_or]
      rw [l1, l2]
      simp only [decide_eq_true_eq]
      refine ⟨by simp, by split <;> assumption, by split <;> assumption, fun j hj' => ?_, fun _ => ⟨?_, ?_⟩⟩
      · rcases hj j hj' with g | g
        · have := h4 j g
          constructor <;> split <;> omega
        · subst g
          constructor <;> split <;> omega
      · split
        · exact ⟨i, by omega, rfl⟩
        · exact ⟨j1, by omega, g2⟩
      · split
        · exact ⟨i, by omega, rfl⟩
        · exact ⟨j2, by omega, g4⟩

theorem PicOk.form {w : World} {wd hi : Nat} {sa : Option Addr} {c : Nat} {bs : List Nat} (h : PicOk w wd hi sa c bs) : ∃ b off, sa = some ⟨b, off, none⟩ := by
  obtain ⟨x1, x2, x3, x4, x5⟩ := h.dims
  have hl := h.len
  have hp : 0 < wd * hi := Nat.mul_pos x1 x2
  obtain ⟨b, off, cap, e, _⟩ := h.sl.form (by intro e; rw [e] at hl; simp at hl; omega)
  simp only [Value.slice.injEq] at e
  exact ⟨b, off, e.1⟩

end Go.Proofs.Yticbgeknledpcaa
