/- Costs of a row that is solved are right. -/
import Derived.Test.YtfhlpabbacopjaaIb
namespace Go.Proofs.Ytfhlpabbacopjaa
open Go.RowKit
set_option maxRecDepth 100000
set_option linter.unusedVariables false
set_option linter.unusedSimpArgs false

theorem solve1_any (W : World) (k : Int) (h0 : 0 ≤ k) (h1 : k ≤ 1000000) :
    Calls Try.prog 94 #[.float .f32 (fq 2 k)] W fun e w' => e = .returned (.bool false) ∧ W = w' := by
  have l1 : le32 0 (fq 2 k) = true := by rw [← fq_zero 2, le32_fq (by decide) (by omega)]; simpa using h0
  generalize fq 2 k = z at *
  go_enter Try.func94, Try.ntmps94
  go_wp2
  go_ret
  exact ⟨by simp [l1], rfl⟩

theorem indexSolve_none (w : World) (b off n cap : Nat) (ks : List Int) (hl : ks.length = n) (h : SlF w (.slice (some ⟨b, off, none⟩) n cap) (ks.map (fq 2))) (hk : ∀ i, i < n → 0 ≤ ks.getD i 0 ∧ ks.getD i 0 ≤ 1000000) :
    Calls Try.prog 99 #[.slice (some ⟨b, off, none⟩) n cap, .func (.func 94) #[] #[]] w fun e w' => e = .returned (.int .i64 (-1)) ∧ ∃ q, w' = w.drewN q := by
  obtain ⟨s1, s2, s3⟩ := h.size
  have hz : ∀ i, i < n → w.cell? ⟨b, off + i, none⟩ = some (.float .f32 (fq 2 (ks.getD i 0))) := fun i hi => by
    have := (h.at i (by omega)).1
    rw [this, List.getD_eq_getElem?_getD, List.getD_eq_getElem?_getD, List.getElem?_map, List.getElem?_eq_getElem (by omega)]; rfl
  have HZ := Lib.hid hz
  have HK := Lib.hid hk
  clear h hz hk s1 hl
  go_enter Try.func99, Try.ntmps99
  go_wp2_with fail
  go_loopw [8] (fun v8 wr => ∃ i q : Nat, v8 = .int .i64 i ∧ i ≤ n ∧ wr = w.drewN q) (fun v8 _ => n - (intOf v8).toNat)
  case atStart => exact ⟨0, 0, rfl, Nat.zero_le _, rfl⟩
  case round =>
    obtain ⟨i, q, rfl, hi, rfl⟩ := hrel
    by_cases hlt : i < n
    · have k1 := HZ.out i hlt
      have k3 : ∀ q, (w.drewN q).cell? ⟨b, off + i, none⟩ = some (.float .f32 (fq 2 (ks.getD i 0))) := fun _ => k1
      have KW := Lib.hid (solve1_any (w.drewN q) _ (HK.out i hlt).1 (HK.out i hlt).2)
      generalize fq 2 (ks.getD i 0) = x at *
      clear k1
      go_wp2_with fail
      refine KW.out.mono ?_
      rintro e w1 ⟨rfl, rfl⟩
      go_wp2
      go_roundw
      case rel => exact ⟨i + 1, _, by go_num, by omega, rfl⟩
      case measure => simp [intOf]; omega
    · have : i = n := by omega
      subst this
      go_wp2
      go_ret
      exact ⟨rfl, _, rfl⟩

theorem containsSolve_no (w : World) (b off n cap : Nat) (ks : List Int) (hl : ks.length = n) (h : SlF w (.slice (some ⟨b, off, none⟩) n cap) (ks.map (fq 2))) (hk : ∀ i, i < n → 0 ≤ ks.getD i 0 ∧ ks.getD i 0 ≤ 1000000) :
    Calls Try.prog 69 #[.slice (some ⟨b, off, none⟩) n cap, .func (.func 94) #[] #[]] w fun e w' => e = .returned (.bool false) ∧ ∃ q, w' = w.drewN q := by
  have K := Lib.hid (indexSolve_none w b off n cap ks hl h hk)
  clear h hk
  go_enter Try.func69, Try.ntmps69
  go_wp2_with fail
  refine K.out.mono ?_
  rintro e w1 ⟨rfl, m, rfl⟩
  go_wp2
  go_ret
  exact ⟨rfl, m, rfl⟩

end Go.Proofs.Ytfhlpabbacopjaa
