/- Winners' plain laws: quarters. -/
import Derived.Test.YtdeikjiflinkhaaWq
namespace Go.Proofs.Ytdeikjiflinkhaa
open Go.RowKit
set_option maxRecDepth 100000
set_option linter.unusedVariables false
set_option linter.unusedSimpArgs false

theorem winW_congr {f g : Nat → Nat} {but : Int} : ∀ n, (∀ d, d < n → f d = g d) → winW f but n = winW g but n := by
  intro n
  induction n with
  | zero => intro _; rfl
  | succ n ih =>
    intro h
    have e := ih (fun d hd => h d (by omega))
    show wnrS f but (winW f but n) n = wnrS g but (winW g but n) n
    rw [e]
    unfold wnrS
    rw [h n (by omega)]
    obtain ⟨p1, p2⟩ := winW_bd g but n
    by_cases hb : winW g but n < 0
    · simp [hb]
    · rw [h (winW g but n).toNat (by omega)]
theorem win_q {f : Nat → Nat} {k : Nat → Int} {n : Nat} (hf : ∀ d, d < n → f d = fq 2 (k d) ∧ (k d).natAbs ≤ 1000) (but : Int) : ∀ m, m ≤ n → (winW f but m = -1 ∧ ∀ d, d < m → (d : Int) = but) ∨ ∃ j : Nat, j < m ∧ winW f but m = j ∧ (j : Int) ≠ but ∧ ∀ d, d < m → (d : Int) ≠ but → k j ≤ k d ∧ (d < j → k j < k d) := by
  intro m
  induction m with
  | zero => intro _; exact .inl ⟨rfl, fun d h => absurd h (Nat.not_lt_zero _)⟩
  | succ m ih =>
    intro hm
    have hst : winW f but (m + 1) = wnrS f but (winW f but m) m := rfl
    unfold wnrS at hst
    obtain ⟨fm, bm⟩ := hf m (by omega)
    have hn : nan32 (f m) = false := by rw [fm]; exact fq_nan (by omega)
    rcases ih (by omega) with ⟨h1, h2⟩ | ⟨j, h1, h2, h3, h4⟩
    · rw [h1] at hst
      by_cases hb : (m : Int) = but
      · rw [if_neg (fun h => h.1 hb)] at hst
        refine .inl ⟨hst, fun d hd => ?_⟩
        rcases Nat.lt_or_ge d m with e | e
        · exact h2 d e
        · obtain rfl : d = m := by omega
          exact hb
      · rw [if_pos ⟨hb, hn, .inl (by decide)⟩] at hst
        refine .inr ⟨m, by omega, hst, hb, fun d hd hd2 => ?_⟩
        rcases Nat.lt_or_ge d m with e | e
        · exact absurd (h2 d e) hd2
        · obtain rfl : d = m := by omega
          exact ⟨Int.le_refl _, fun h => by omega⟩
    · rw [h2] at hst
      obtain ⟨fj, bj⟩ := hf j (by omega)
      rw [Int.toNat_natCast, fm, fj, lt32_fq (by omega) (by omega)] at hst
      by_cases hb : (m : Int) = but
      · rw [if_neg (fun h => h.1 hb)] at hst
        refine .inr ⟨j, by omega, hst, h3, fun d hd hd2 => ?_⟩
        rcases Nat.lt_or_ge d m with e | e
        · exact h4 d e hd2
        · obtain rfl : d = m := by omega
          exact absurd hb hd2
      · by_cases hl : k m < k j
        · rw [if_pos ⟨hb, by rw [← fm]; exact hn, .inr (decide_eq_true hl)⟩] at hst
          refine .inr ⟨m, by omega, hst, hb, fun d hd hd2 => ?_⟩
          rcases Nat.lt_or_ge d m with e | e
          · have := (h4 d e hd2).1; exact ⟨by omega, fun _ => by omega⟩
          · obtain rfl : d = m := by omega
            exact ⟨Int.le_refl _, fun h => by omega⟩
        · rw [if_neg (fun h => by rcases h.2.2 with h | h; omega; exact hl (of_decide_eq_true h))] at hst
          refine .inr ⟨j, by omega, hst, h3, fun d hd hd2 => ?_⟩
          rcases Nat.lt_or_ge d m with e | e
          · exact h4 d e hd2
          · obtain rfl : d = m := by omega
            exact ⟨by omega, fun h => by omega⟩

/-- The winner of a cell. -/
def wonD (ks : List Int) (dp i : Nat) : Nat := (winW (fun d => fq 2 (ks.getD (i * dp + d) 0)) (-1) dp).toNat
structure WonOk (ks : List Int) (dp i : Nat) : Prop where
  lt : wonD ks dp i < dp
  eq : winW (fun d => fq 2 (ks.getD (i * dp + d) 0)) (-1) dp = (wonD ks dp i : Int)
  le : ∀ d, d < dp → ks.getD (i * dp + wonD ks dp i) 0 ≤ ks.getD (i * dp + d) 0 ∧ (d < wonD ks dp i → ks.getD (i * dp + wonD ks dp i) 0 < ks.getD (i * dp + d) 0)
theorem won_ok {ks : List Int} {dp : Nat} (i : Nat) (hd : 1 ≤ dp) (h : ∀ i, (ks.getD i 0).natAbs ≤ 1000) : WonOk ks dp i := by
  rcases win_q (f := fun d => fq 2 (ks.getD (i * dp + d) 0)) (k := fun d => ks.getD (i * dp + d) 0) (n := dp) (fun d _ => ⟨rfl, h _⟩) (-1) dp (Nat.le_refl _) with ⟨h1, h2⟩ | ⟨j, h1, h2, h3, h4⟩
  · exact absurd (h2 0 (by omega)) (by omega)
  · have e : wonD ks dp i = j := by unfold wonD; rw [h2]; rfl
    exact ⟨by omega, by rw [e]; exact h2, fun d hd2 => by rw [e]; exact h4 d hd2 (by omega)⟩

theorem near_zero {ks : List Int} {dp i : Nat} (h : ∀ i, (ks.getD i 0).natAbs ≤ 1000) (f : Nat → Nat) (hf : ∀ d, d < dp → f d = fq 2 (ks.getD (i * dp + d) 0)) (w : WonOk ks dp i) : NearTold f (wonD ks dp i) 1 (wonD ks dp i) := by
  refine ⟨0, ?_, rfl⟩
  show wnrS (fun i_1 => f (wonD ks dp i + i_1)) (-1) (-1) 0 = _
  unfold wnrS
  have hn : nan32 (f (wonD ks dp i + 0)) = false := by rw [Nat.add_zero, hf _ w.lt]; exact fq_nan (by have := h (i * dp + wonD ks dp i); omega)
  rw [if_pos ⟨by decide, hn, .inl (by decide)⟩]
theorem near_all {ks : List Int} {dp i : Nat} (f : Nat → Nat) (hf : ∀ d, d < dp → f d = fq 2 (ks.getD (i * dp + d) 0)) (w : WonOk ks dp i) : NearTold f 0 dp (wonD ks dp i) := by
  refine ⟨wonD ks dp i, ?_, by omega⟩
  rw [← w.eq]
  exact winW_congr dp (fun d hd => by show f (0 + d) = _; rw [Nat.zero_add]; exact hf d hd)

/-- What a margin is worth. -/
theorem margin_q {ks : List Int} {dp i : Nat} (hd : 1 ≤ dp) (h : ∀ i, (ks.getD i 0).natAbs ≤ 1000) (f : Nat → Nat) (hf : ∀ d, d < dp → f d = fq 2 (ks.getD (i * dp + d) 0)) (w : WonOk ks dp i) :
    (dp = 1 ∧ marginW f dp = 2139095040) ∨ ∃ z : Int, marginW f dp = fq 2 z ∧ 0 ≤ z ∧ z ≤ 2000 ∧ ∀ d, d < dp → d ≠ wonD ks dp i → z ≤ ks.getD (i * dp + d) 0 - ks.getD (i * dp + wonD ks dp i) 0 := by
  have e1 : winW f (-1) dp = (wonD ks dp i : Int) := by rw [← w.eq]; exact winW_congr dp hf
  unfold marginW
  rw [e1]
  rcases win_q (f := f) (k := fun d => ks.getD (i * dp + d) 0) (n := dp) (fun d hd => ⟨hf d hd, h _⟩) (wonD ks dp i : Int) dp (Nat.le_refl _) with ⟨h1, h2⟩ | ⟨j, h1, h2, h3, h4⟩
  · left
    have hw := w.lt
    refine ⟨?_, by rw [if_pos (.inr (by rw [h1]; decide))]⟩
    rcases Nat.lt_or_ge 1 dp with e | e
    · exfalso
      have a := h2 0 (by omega)
      have b := h2 1 (by omega)
      omega
    · omega
  · right
    have hw := w.lt
    have hz := w.le j h1
    have hb1 := h (i * dp + j)
    have hb2 := h (i * dp + wonD ks dp i)
    refine ⟨ks.getD (i * dp + j) 0 - ks.getD (i * dp + wonD ks dp i) 0, ?_, by omega, by omega, fun d hd2 hd3 => by have := (h4 d hd2 (by omega)).1; omega⟩
    rw [if_neg (by rw [h2]; omega), h2, Int.toNat_natCast, Int.toNat_natCast, hf j h1, hf _ hw, fl_fq (by omega), fl_fq (by omega)]
    exact fop_sub (by omega) (by omega) (by omega)

end Go.Proofs.Ytdeikjiflinkhaa
