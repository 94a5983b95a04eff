/- Ranks of windows: the walk. -/
import Derived.Test.YtialajgobpokmaaRa
namespace Go.Proofs.Ytialajgobpokmaa
open Go.RowKit
set_option maxRecDepth 100000
set_option linter.unusedVariables false
set_option linter.unusedSimpArgs false

set_option maxHeartbeats 2000000 in
theorem rank_q (W : World) (pb wd hi : Nat) (v : Value) (ks : List Int) (x y r : Nat) (hw : 0 < wd) (hh : 0 < hi) (hw2 : wd ≤ 24) (hh2 : hi ≤ 24) (hx : x ≤ 100) (hy : y ≤ 100) (hr1 : 1 ≤ r) (hr : r ≤ 2) (hk : ∀ k ∈ ks, 0 ≤ k ∧ k ≤ 1000) (h : PicAt W pb wd hi v (ks.map (fq 2)) 26) :
    Calls Try.prog 53 #[.pointer (some ⟨pb, 0, none⟩), .int .i64 x, .int .i64 y, .int .i64 r] W fun e w' => e = .returned (.int .i64 (rankF ks wd hi r x y)) ∧ ∃ n, w' = W.drewN n := by
  have hbk : ∀ i, 0 ≤ ks.getD i 0 ∧ ks.getD i 0 ≤ 1000 := by
    intro i
    rw [List.getD_eq_getElem?_getD]
    cases e : ks[i]? with
    | none => exact ⟨Int.le_refl _, by decide⟩
    | some z => exact hk z (List.mem_of_getElem? e)
  have HBK := Lib.hid hbk
  have KA := Lib.hid (fun n X Y => about_q (W.drewN n) pb wd hi v ks X Y hw hh (by omega) (by omega) (h.drewN n))
  have K0 := Lib.hid (about_q W pb wd hi v ks x y hw hh (by omega) (by omega) h)
  obtain ⟨D, hD⟩ : ∃ D, D = 2 * r + 1 := ⟨_, rfl⟩
  have HRF := Lib.hid (show rankF ks wd hi r x y = rkN (rkB ks wd hi r x y) (r * D + r) (D * D) by rw [hD]; rfl)
  have hlt : ∀ m, m ≤ D * D → rkN (rkB ks wd hi r x y) (r * D + r) m < 33554432 := by
    intro m hm
    have hD2 : D * D ≤ 5 * 5 := Nat.mul_le_mul (by omega) (by omega)
    have := rkN_lt (rkB ks wd hi r x y) (r * D + r) m
    have h2 : 2 ^ (if r * D + r < m then m - 1 else m) ≤ 2 ^ 25 := Nat.pow_le_pow_right (by decide) (by split <;> omega)
    omega
  have HLT := Lib.hid hlt
  have HAT := Lib.hid (fun j i => rk_at (ks := ks) (wd := wd) (hi := hi) (r := r) (D := D) (j := j) (i := i) (x := x) (y := y) hD)
  have HST := Lib.hid (fun m => rk_step (b := rkB ks wd hi r x y) (mid := r * D + r) m)
  have HDD := Lib.hid hD
  clear h hbk hk hw hh hlt
  have x2 : (x : Int) ≤ 100 := by omega
  have y2 : (y : Int) ≤ 100 := by omega
  have r2 : (r : Int) ≤ 2 := by omega
  generalize rkB ks wd hi r x y = B at *
  generalize hmid : r * D + r = mid at *
  have HMID := Lib.hid hmid
  clear hmid
  have how := HBK.out (ix x y wd hi)
  obtain ⟨a0, ha0⟩ : ∃ a0, a0 = ks.getD (ix x y wd hi) 0 := ⟨_, rfl⟩
  have HA0 := Lib.hid ha0
  rw [← ha0] at how
  obtain ⟨ow, how2⟩ : ∃ ow, ow = fq 2 a0 := ⟨_, rfl⟩
  have HOW := Lib.hid how2
  clear ha0 how2
  rw [HRF.out]
  go_enter Try.func53, Try.ntmps53
  go_wp2_with fail
  refine K0.out.mono ?_
  rintro e w' ⟨rfl, n0, rfl⟩
  rw [← HA0.out, ← HOW.out]
  go_wp2_with fail
  go_loopw [9, 11] (fun v9 v11 wr => ∃ j n : Nat, v9 = .int .i64 (rkN B mid (j * D) : Nat) ∧ v11 = .int .i64 ((y : Int) - r + j) ∧ j ≤ D ∧ wr = W.drewN n) (fun _ v11 _ => ((y : Int) + r + 1 - intOf v11).toNat)
  case atStart => exact ⟨0, n0, by simp [rkN], by simp, Nat.zero_le _, rfl⟩
  case round =>
    obtain ⟨j, n, rfl, rfl, hj, rfl⟩ := hrel
    by_cases hlt : j < D
    · have c1 : (y : Int) - r + j ≤ (y : Int) + r := by omega
      have hm : j * D + D ≤ D * D := by
        have := Nat.mul_le_mul_right D (show j + 1 ≤ D from hlt)
        rw [Nat.add_mul, Nat.one_mul] at this; exact this
      have HM := Lib.hid hm
      obtain ⟨V, hV⟩ : ∃ V : Int, V = (y : Int) - r + j := ⟨_, rfl⟩
      have HV := Lib.hid hV
      have hV1 : -100 ≤ V ∧ V ≤ 200 := by omega
      rw [← hV] at c1 ⊢
      clear hV hm
      go_wp2_with fail
      go_loopw [9, 12] (fun v9 v12 wr => ∃ i n : Nat, v9 = .int .i64 (rkN B mid (j * D + i) : Nat) ∧ v12 = .int .i64 ((x : Int) - r + i) ∧ i ≤ D ∧ wr = W.drewN n) (fun _ v12 _ => ((x : Int) + r + 1 - intOf v12).toNat)
      case atStart => exact ⟨0, n, by simp, by simp, Nat.zero_le _, rfl⟩
      case round =>
        obtain ⟨i, n, rfl, rfl, hi_, rfl⟩ := hrel
        by_cases hlt2 : i < D
        · have c2 : (x : Int) - r + i ≤ (x : Int) + r := by omega
          obtain ⟨U, hU⟩ : ∃ U : Int, U = (x : Int) - r + i := ⟨_, rfl⟩
          have hU1 : -100 ≤ U ∧ U ≤ 200 := by omega
          have HU := Lib.hid hU
          have hat := HAT.out j i hlt2
          rw [← HU.out, ← HV.out, ← HA0.out] at hat
          have hst := HST.out (j * D + i)
          have hb := HLT.out (j * D + i) (by have := HM.out; omega)
          have hmi : (U = x ∧ V = y) ↔ j * D + i = mid := by
            rw [hat.2, HV.out, hU]
            constructor
            · intro g; omega
            · intro g; omega
          have hkb := HBK.out (ix U V wd hi)
          obtain ⟨a, ha⟩ : ∃ a, a = ks.getD (ix U V wd hi) 0 := ⟨_, rfl⟩
          rw [← ha] at hat hkb
          have l1 := lt32_fq (g := 2) (a := a) (b := a0) (by omega) (by omega)
          rw [← HOW.out] at l1
          have KAn := KA.out n U V
          rw [← ha] at KAn
          have HKA := Lib.hid KAn
          obtain ⟨R, hR⟩ : ∃ R : Int, R = (rkN B mid (j * D + i) : Nat) := ⟨_, rfl⟩
          have hR1 : 0 ≤ R ∧ R < 33554432 := by omega
          rw [← hR]
          rw [← hU] at c2 ⊢
          by_cases hmm : j * D + i = mid
          · obtain ⟨g1, g2⟩ := hmi.2 hmm
            have k1 : (U == (x : Int)) = true := by rw [beq_iff_eq]; exact g1
            have k2 : (V == (y : Int)) = true := by rw [beq_iff_eq]; exact g2
            have HE := Lib.hid (hst.1 hmm)
            have HR := Lib.hid hR
            clear hat hst hb hmi hkb ha l1 KAn hR hU g1 g2 hmm
            go_wp2
            go_roundw
            case rel => exact ⟨i + 1, n, by rw [HR.out, ← Nat.add_assoc, HE.out], by rw [HU.out]; go_num, by omega, rfl⟩
            case measure => have := HU.out; simp [intOf]; omega
          · have hor : U ≠ x ∨ V ≠ y := by
              rcases Decidable.em (U = x) with g | g
              · exact .inr fun g2 => hmm (hmi.1 ⟨g, g2⟩)
              · exact .inl g
            have hbm : B (j * D + i) = decide (a < a0) := hat.1
            have hs2 := hst.2.1 hmm
            have hs3 := hst.2.2 hmm
            have HS2 := Lib.hid hs2
            have HS3 := Lib.hid hs3
            have HR := Lib.hid hR
            have HBM := Lib.hid hbm
            obtain ⟨fa, hfa⟩ : ∃ fa, fa = fq 2 a := ⟨_, rfl⟩
            rw [← hfa] at l1
            have HFA := Lib.hid hfa
            clear hat hst hb hmi hkb ha KAn hR hU hmm hs2 hs3 hbm hfa
            by_cases hl : a < a0
            · rw [decide_eq_true hl] at l1
              have HL := Lib.hid hl
              clear hl
              by_cases hux : U = x
              · have k1 : (U == (x : Int)) = true := by rw [beq_iff_eq]; exact hux
                have k2 : (V == (y : Int)) = false := by rw [beq_eq_false_iff_ne]; rcases hor with g | g; exact absurd hux g; exact g
                clear hor hux
                go_wp2_with fail
                refine HKA.out.mono ?_
                rintro e w' ⟨rfl, m1, rfl⟩
                rw [← HFA.out]
                go_wp2
                go_roundw
                case rel => exact ⟨i + 1, _, by rw [← Nat.add_assoc, HS2.out (by rw [HBM.out, decide_eq_true (by have := HL.out; omega)]), HR.out], by rw [HU.out]; go_num, by omega, rfl⟩
                case measure => have := HU.out; simp [intOf]; omega
              · have k1 : (U == (x : Int)) = false := by rw [beq_eq_false_iff_ne]; exact hux
                clear hor hux
                go_wp2_with fail
                refine HKA.out.mono ?_
                rintro e w' ⟨rfl, m1, rfl⟩
                rw [← HFA.out]
                go_wp2
                go_roundw
                case rel => exact ⟨i + 1, _, by rw [← Nat.add_assoc, HS2.out (by rw [HBM.out, decide_eq_true (by have := HL.out; omega)]), HR.out], by rw [HU.out]; go_num, by omega, rfl⟩
                case measure => have := HU.out; simp [intOf]; omega
            · rw [decide_eq_false hl] at l1
              have HL := Lib.hid hl
              clear hl
              by_cases hux : U = x
              · have k1 : (U == (x : Int)) = true := by rw [beq_iff_eq]; exact hux
                have k2 : (V == (y : Int)) = false := by rw [beq_eq_false_iff_ne]; rcases hor with g | g; exact absurd hux g; exact g
                clear hor hux
                go_wp2_with fail
                refine HKA.out.mono ?_
                rintro e w' ⟨rfl, m1, rfl⟩
                rw [← HFA.out]
                go_wp2
                go_roundw
                case rel => exact ⟨i + 1, _, by rw [← Nat.add_assoc, HS3.out (by rw [HBM.out, decide_eq_false (by have := HL.out; omega)]), HR.out], by rw [HU.out]; go_num, by omega, rfl⟩
                case measure => have := HU.out; simp [intOf]; omega
              · have k1 : (U == (x : Int)) = false := by rw [beq_eq_false_iff_ne]; exact hux
                clear hor hux
                go_wp2_with fail
                refine HKA.out.mono ?_
                rintro e w' ⟨rfl, m1, rfl⟩
                rw [← HFA.out]
                go_wp2
                go_roundw
                case rel => exact ⟨i + 1, _, by rw [← Nat.add_assoc, HS3.out (by rw [HBM.out, decide_eq_false (by have := HL.out; omega)]), HR.out], by rw [HU.out]; go_num, by omega, rfl⟩
                case measure => have := HU.out; simp [intOf]; omega
        · obtain rfl : i = D := by omega
          have c2 : ¬ (x : Int) - r + (i : Int) ≤ (x : Int) + r := by have := HDD.out; omega
          go_wp2
          go_roundw
          case rel => exact ⟨j + 1, n, by rw [Nat.add_mul, Nat.one_mul], by rw [HV.out]; go_num, by omega, rfl⟩
          case measure => have := HV.out; simp [intOf]; omega
    · obtain rfl : j = D := by omega
      have c2 : ¬ (y : Int) - r + (j : Int) ≤ (y : Int) + r := by have := HDD.out; omega
      go_wp2
      go_ret
      exact ⟨rfl, _, rfl⟩

end Go.Proofs.Ytialajgobpokmaa
