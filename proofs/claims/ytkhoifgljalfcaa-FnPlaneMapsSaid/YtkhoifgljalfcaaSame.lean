/- Lists, pictures and maps that are the same. -/
import Derived.Test.YtkhoifgljalfcaaPic
namespace Go.Proofs.Ytkhoifgljalfcaa
open Go.RowKit
set_option maxRecDepth 100000
set_option linter.unusedVariables false
set_option linter.unusedSimpArgs false

theorem SlF.cellAt {w : World} {b off cap : Nat} {n : Nat} {bs : List Nat} (h : SlF w (.slice (some ⟨b, off, none⟩) n cap) bs) (i : Nat) (hi : i < bs.length) : w.cell? ⟨b, off + i, none⟩ = some (.float .f32 (bs.getD i 0)) ∧ bs.getD i 0 < 4294967296 := by
  obtain ⟨b', off', cap', h1, h2, h3⟩ := h.form (by intro e; rw [e] at hi; simp at hi)
  simp only [Value.slice.injEq, Option.some.injEq, Addr.mk.injEq] at h1
  obtain ⟨⟨rfl, rfl, _⟩, _, _⟩ := h1
  have hg : bs.getD i 0 = bs[i] := by rw [List.getD_eq_getElem?_getD, List.getElem?_eq_getElem hi]; rfl
  exact ⟨by rw [h3 i hi, hg], by rw [hg]; exact h.lt hi⟩

/-- Two lists of the same numbers. -/
theorem eqFunc_yes (w : World) (v1 v2 : Value) (xs ys : List Nat) (h1 : SlF w v1 xs) (h2 : SlF w v2 ys) (he : xs.map fl = ys.map fl) :
    Calls Try.prog 103 #[v1, v2, .func (.func 104) #[] #[]] w fun e w' => e = .returned (.bool true) ∧ w = w' := by
  have hl : xs.length = ys.length := by have := congrArg List.length he; simpa using this
  obtain ⟨a1, c1, rfl⟩ := h1.len
  obtain ⟨a2, c2, rfl⟩ := h2.len
  have hcap : xs.length ≤ 9223372036854775807 := by
    obtain ⟨_, cap, q1, q2, q3, _⟩ := h1.1
    simp at q1 q2; omega
  have hz : ∀ i : Nat, i < xs.length → ∃ b1 o1 b2 o2, a1 = some ⟨b1, o1, none⟩ ∧ a2 = some ⟨b2, o2, none⟩ ∧ w.cell? ⟨b1, o1 + i, none⟩ = some (.float .f32 (xs.getD i 0)) ∧ xs.getD i 0 < 4294967296 ∧ w.cell? ⟨b2, o2 + i, none⟩ = some (.float .f32 (ys.getD i 0)) ∧ ys.getD i 0 < 4294967296 ∧ sm (xs.getD i 0) (ys.getD i 0) = true := by
    intro i hi
    obtain ⟨b1, o1, _, q1, _, _⟩ := h1.form (by intro e; rw [e] at hi; simp at hi)
    obtain ⟨b2, o2, _, q2, _, _⟩ := h2.form (by intro e; rw [e] at hl; simp at hl; rw [hl] at hi; simp at hi)
    simp only [Value.slice.injEq] at q1 q2
    obtain ⟨rfl, _⟩ := q1
    obtain ⟨rfl, _⟩ := q2
    have k1 := h1.cellAt i hi
    have k2 := h2.cellAt i (by omega)
    refine ⟨b1, o1, b2, o2, rfl, rfl, k1.1, k1.2, k2.1, k2.2, ?_⟩
    unfold sm
    rw [decide_eq_true_eq]
    have := congrArg (fun l => l.getD i 0) he
    simp only [List.getD_eq_getElem?_getD, List.getElem?_map] at this ⊢
    rw [List.getElem?_eq_getElem hi, List.getElem?_eq_getElem (show i < ys.length by omega)] at this ⊢
    simpa using this
  clear h1 h2 he
  generalize hn : xs.length = n at *
  rw [← hl]
  clear hl
  go_enter Try.func103, Try.ntmps103
  go_wp2_with fail
  go_loop [17] (fun v17 => ∃ i : Nat, v17 = .int .i64 i ∧ i ≤ n) (fun v17 => n - (intOf v17).toNat)
  case atStart => exact ⟨0, rfl, Nat.zero_le _⟩
  case round =>
    obtain ⟨i, rfl, hi⟩ := hrel
    by_cases hlt : i < n
    · obtain ⟨b1, o1, b2, o2, rfl, rfl, k1, k2, k3, k4, k5⟩ := hz i hlt
      clear hz hn
      go_wp2_with fail
      refine (same_any _ _ _ k2 k4).mono ?_
      rw [k5]
      rintro e w' ⟨rfl, rfl⟩
      go_wp2
      go_round
      case rel => exact ⟨i + 1, by go_num, by omega⟩
      case measure => simp [intOf]; omega
    · go_wp2
      go_ret
      exact ⟨rfl, rfl⟩

theorem sameList_yes (w : World) (v1 v2 : Value) (xs ys : List Nat) (h1 : SlF w v1 xs) (h2 : SlF w v2 ys) (he : xs.map fl = ys.map fl) :
    Calls Try.prog 73 #[v1, v2] w fun e w' => e = .returned (.bool true) ∧ w = w' := by
  have k := eqFunc_yes w v1 v2 xs ys h1 h2 he
  obtain ⟨a1, c1, rfl⟩ := h1.len
  obtain ⟨a2, c2, rfl⟩ := h2.len
  have K := Lib.hid k
  clear k
  go_enter Try.func73, Try.ntmps73
  go_wp2_with fail
  refine K.out.mono ?_
  rintro e w' ⟨rfl, rfl⟩
  go_wp2
  go_ret
  exact ⟨rfl, rfl⟩

end Go.Proofs.Ytkhoifgljalfcaa
