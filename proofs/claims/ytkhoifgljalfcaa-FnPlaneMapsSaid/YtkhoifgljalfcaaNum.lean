/- Contracts of the small functions on numbers. -/
import Derived.Test.YtkhoifgljalfcaaExt
namespace Go.Proofs.Ytkhoifgljalfcaa
open Go.RowKit
set_option maxRecDepth 100000
set_option linter.unusedVariables false

/-- The same number. -/
def sm (a b : Nat) : Bool := decide (fl a = fl b)

/-- The next greater number. -/
def nu (b : Nat) : Nat := if nan32 b then b else if b = 2139095040 then b else if b % 2147483648 = 0 then 1 else if b < 2147483648 then b + 1 else b - 1

/-- What may be known of a word ahead of a walk. -/
inductive Shape (b : Nat) : Prop where
  | nan (h : nan32 b = true)
  | inf (h : b = 2139095040)
  | zero (h : nan32 b = false) (h1 : lt32 2139095039 b = false) (h2 : eq32 b 0 = true) (h3 : lt32 b 0 = false) (h4 : lt32 0 b = false) (h5 : b % 2147483648 = 0)
  | neg (h : nan32 b = false) (h1 : lt32 2139095039 b = false) (h2 : eq32 b 0 = false) (h3 : lt32 b 0 = true) (h4 : lt32 0 b = false) (h5 : 2147483648 < b) (h6 : b ≤ 4286578688)
  | pos (h : nan32 b = false) (h1 : lt32 2139095039 b = false) (h2 : eq32 b 0 = false) (h3 : lt32 b 0 = false) (h4 : lt32 0 b = true) (h5 : 0 < b) (h6 : b < 2139095040)

theorem nan32_0 : nan32 0 = false := by decide

theorem nan32_max : nan32 2139095039 = false := by decide

theorem nan32_inf : nan32 2139095040 = false := by decide

theorem sr32_0 : sr32 0 = 0 := by decide

theorem sr32_max : sr32 2139095039 = 2139095039 := by decide

theorem shape (b : Nat) (hb : b < 4294967296) : Shape b := by
  cases hn : nan32 b
  · by_cases h0 : b = 2139095040
    · exact .inf h0
    · have hn' := hn
      unfold nan32 at hn'
      rw [decide_eq_false_iff_not] at hn'
      by_cases h1 : b % 2147483648 = 0
      · have e : sr32 b = 0 := by unfold sr32; split <;> omega
        refine .zero hn ?_ ?_ ?_ ?_ h1 <;> simp only [lt32, eq32, hn, nan32_0, nan32_max, sr32_0, sr32_max, e] <;> decide
      · by_cases h2 : b < 2147483648
        · have e : sr32 b = b := by unfold sr32; split <;> omega
          refine .pos hn ?_ ?_ ?_ ?_ (by omega) (by omega) <;> simp only [lt32, eq32, hn, nan32_0, nan32_max, sr32_0, sr32_max, e, Bool.not_false, Bool.and_self, Bool.true_and, decide_eq_false_iff_not, decide_eq_true_eq] <;> omega
        · have e : sr32 b = -((b - 2147483648 : Nat) : Int) := by unfold sr32; split <;> omega
          refine .neg hn ?_ ?_ ?_ ?_ (by omega) (by omega) <;> simp only [lt32, eq32, hn, nan32_0, nan32_max, sr32_0, sr32_max, e, Bool.not_false, Bool.and_self, Bool.true_and, decide_eq_false_iff_not, decide_eq_true_eq] <;> omega
  · exact .nan hn

theorem sm_nan {a b : Nat} (h : nan32 a = true) : sm a b = nan32 b := by
  unfold sm; rw [fl_nan h]
  cases hb : nan32 b
  · rw [fl_eq hb, decide_eq_false_iff_not]; intro e; rw [← e] at hb; exact absurd hb (by decide)
  · rw [fl_nan hb]; rfl

theorem sm_nan' {a b : Nat} (h : nan32 b = true) : sm a b = nan32 a := by
  have := sm_nan (b := a) h
  rw [← this]; unfold sm; rw [Bool.eq_iff_iff]; simp only [decide_eq_true_eq]; exact ⟨Eq.symm, Eq.symm⟩

theorem sm_not {a b : Nat} (ha : nan32 a = false) (hb : nan32 b = false) : sm a b = decide (a = b) := by unfold sm; rw [fl_eq ha, fl_eq hb]

theorem in_any (n lo hi : Int) (w : World) : Calls Try.prog 101 #[.int .i64 n, .int .i64 lo, .int .i64 hi] w fun e w' => e = .returned (.bool (decide (lo ≤ n) && decide (n ≤ hi))) ∧ w = w' := by
  go_enter Try.func101, Try.ntmps101
  go_wp2
  all_goals (go_ret; simp [*]; try omega)

theorem isNaN_any (b : Nat) (w : World) : Calls Try.prog 111 #[.float .f32 b] w fun e w' => e = .returned (.bool (nan32 b)) ∧ w = w' := by
  go_enter Try.func111, Try.ntmps111
  go_wp2
  go_ret; simp

theorem same_any (a b : Nat) (w : World) (ha : a < 4294967296) (hb : b < 4294967296) : Calls Try.prog 104 #[.float .f32 a, .float .f32 b] w fun e w' => e = .returned (.bool (sm a b)) ∧ w = w' := by
  cases h : nan32 a
  · cases h2 : nan32 b
    · rw [sm_not h h2]
      go_enter Try.func104, Try.ntmps104
      go_wp2
      all_goals (go_ret; simp; rw [Bool.eq_iff_iff]; simp; omega)
    · rw [sm_nan' h2, h]
      go_enter Try.func104, Try.ntmps104
      go_wp2
      all_goals (go_ret; simp)
  · rw [sm_nan h]
    cases h2 : nan32 b
    all_goals
      go_enter Try.func104, Try.ntmps104
      go_wp2
      all_goals (go_ret; simp)

theorem isFinite_any (b : Nat) (w : World) : Calls Try.prog 51 #[.float .f32 b] w fun e w' => e = .returned (.bool (fin32 b)) ∧ ∃ n, w' = w.drewN n := by
  have h := fsub_self b w
  go_enter Try.func51, Try.ntmps51
  go_wp2
  go_ret; exact ⟨rfl, _, rfl⟩

theorem nu_lt {b : Nat} (hb : b < 4294967296) : nu b < 4294967296 := by
  unfold nu; repeat' split
  all_goals omega

theorem ng_lt {b : Nat} (hb : b < 4294967296) : Op.negFloat .f32 b < 4294967296 := by rw [neg32_eq b hb]; split <;> omega

/-- The next smaller number. -/
def nd (b : Nat) : Nat := Op.negFloat .f32 (nu (Op.negFloat .f32 b))

theorem nd_lt {b : Nat} (hb : b < 4294967296) : nd b < 4294967296 := ng_lt (nu_lt (ng_lt hb))

theorem s01Bits_any (b : Nat) (w : World) (hb : b < 4294967296) : Calls Try.prog 100 #[.float .f32 b] w fun e w' => e = .returned (.int .i64 (fl b : Nat)) ∧ w = w' := by
  cases h : nan32 b
  · rw [fl_eq h]
    go_enter Try.func100, Try.ntmps100
    go_wp2
    go_ret; simp
  · rw [fl_nan h]
    go_enter Try.func100, Try.ntmps100
    go_wp2
    go_ret; simp

theorem s01From_any (n : Int) (w : World) (h2 : 0 ≤ n) (h1 : n ≤ 4294967295) : Calls Try.prog 56 #[.int .i64 n] w fun e w' => e = .returned (.float .f32 n.toNat) ∧ w = w' := by
  go_enter Try.func56, Try.ntmps56
  go_wp2
  go_ret; simp

theorem s01Same_any (a b : Nat) (w : World) (ha : a < 4294967296) (hb : b < 4294967296) : Calls Try.prog 61 #[.float .f32 a, .float .f32 b] w fun e w' => e = .returned (.bool (sm a b)) ∧ w = w' := by
  have e : sm a b = ((fl a : Int) == (fl b : Int)) := by unfold sm; rw [Bool.eq_iff_iff]; simp; omega
  rw [e]; clear e
  go_enter Try.func61, Try.ntmps61
  go_wp2_with fail
  refine (s01Bits_any _ _ ha).mono ?_
  rintro e w' ⟨rfl, rfl⟩
  go_wp2_with fail
  refine (s01Bits_any _ _ hb).mono ?_
  rintro e w' ⟨rfl, rfl⟩
  go_wp2
  go_ret; exact ⟨rfl, rfl⟩

theorem sSame_any (a b : Nat) (w : World) (ha : a < 4294967296) (hb : b < 4294967296) : Calls Try.prog 16 #[.float .f32 a, .float .f32 b] w fun e w' => e = .returned (.bool (sm a b)) ∧ w = w' := by
  go_enter Try.func16, Try.ntmps16
  go_wp2_with fail
  refine (s01Same_any _ _ _ ha hb).mono ?_
  rintro e w' ⟨rfl, rfl⟩
  go_wp2
  go_ret; exact ⟨rfl, rfl⟩

end Go.Proofs.Ytkhoifgljalfcaa
