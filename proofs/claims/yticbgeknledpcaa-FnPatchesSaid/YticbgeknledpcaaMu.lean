/- Values that are counted; maps that the laws draw. -/
import Derived.Test.YticbgeknledpcaaMt
import Derived.Test.YticbgeknledpcaaOi
namespace Go.Proofs.Yticbgeknledpcaa
open Go.RowKit
set_option maxRecDepth 100000
set_option linter.unusedVariables false
set_option linter.unusedSimpArgs false

theorem listOk_any (v : Value) (n : Nat) (a : Option Addr) (c : Nat) (w : World) (hn : n ≤ 256) : Calls Try.prog 49 #[.slice a n c] w fun e w' => e = .returned (.bool true) ∧ w = w' := by
  have h2 : (n : Int) ≤ 256 := by omega
  go_enter Try.func49, Try.ntmps49
  go_wp2
  go_ret
  exact ⟨by simp [h2], rfl⟩

set_option maxHeartbeats 1000000 in
theorem countValues_q (w : World) (wd hi N q c lb lc : Nat) (ks : List Int) (hv : vPic wd hi N = true) (h : MQ w q c N ks) (hl : SlF w (.slice (some ⟨lb, 0, none⟩) 2 lc) [fq 2 4, fq 2 10]) :
    Calls Try.prog 20 #[.agg #[.int .i64 wd, .int .i64 hi, .slice (some ⟨q, 0, none⟩) N c], .slice (some ⟨lb, 0, none⟩) 2 lc] w fun e w' => ∃ g cc c0 c1 c2, e = .returned (.tuple #[.slice (some ⟨g, 0, none⟩) 3 cc, .bool true]) ∧ OwnI w' w.heap.size (.slice (some ⟨g, 0, none⟩) 3 cc) [c0, c1, c2] ∧ Below w.heap.size w w' ∧ 0 ≤ c0 ∧ 0 ≤ c1 ∧ 0 ≤ c2 ∧ c0 + c1 + c2 + (holesF ks : Nat) = N := by
  obtain ⟨e1, e2, e3, e4, e5, e6, e7⟩ := vPic_mul hv
  clear e1
  have hb0 := alb1 w (.cells #[.int .i64 wd, .int .i64 hi, .slice (some ⟨q, 0, none⟩) N c] 26)
  have B := box_last w (.int .i64 wd) (.int .i64 hi) (.slice (some ⟨q, 0, none⟩) N c) 26
  go_enter Try.func20, Try.ntmps20
  go_wp2_with fail
  refine (validMap_any _ _ _ _ _ (by omega) _).mono ?_
  rw [hv]
  rintro e w1 ⟨rfl, hb1⟩
  have hbb := hb0.trans (hb1.mono hb0.size)
  have B1 := B.below hb1
  have HH := Lib.hid h
  have HLL := Lib.hid hl
  have hm := h.below hbb
  have hl1 := hl.below hbb
  obtain ⟨c0, c1, c2, f0, f1, f2⟩ := B1.cells
  have f4 := lt32_fq (g := 2) (a := 4) (b := 10) (by decide) (by decide)
  have l0 := (hl1.cellAt 0 (by decide)).1
  have l1 := (hl1.cellAt 1 (by decide)).1
  have hcap := hl1.size2
  have hfin := finite_yes w1 _ _ _ _ _ hl1 (by intro x hx; simp at hx; rcases hx with rfl | rfl <;> exact fq_fin (by decide))
  simp at l0 l1
  clear hb0 B hb1 h hv hl
  go_wp2_with fail
  refine (listOk_any (.bool true) 2 _ _ _ (by omega)).mono ?_
  rintro e w2 ⟨rfl, rfl⟩
  go_wp2_with fail
  refine hfin.mono ?_
  rintro e w2 ⟨rfl, n, rfl⟩
  go_wp2_with fail
  have g1 : ¬ le32 (fq 2 10) (fq 2 4) = true := by rw [le32_fq (by decide) (by decide)]; decide
  generalize hx4 : fq 2 4 = x4 at *
  generalize hx10 : fq 2 10 = x10 at *
  have HX4 := Lib.hid hx4.symm
  have HX10 := Lib.hid hx10.symm
  clear hx4 hx10
  have L0 : ∀ n, (w1.drewN n).cell? ⟨lb, 0, none⟩ = some (.float .f32 x4) := fun _ => l0
  have L1 : ∀ n, (w1.drewN n).cell? ⟨lb, 1, none⟩ = some (.float .f32 x10) := fun _ => l1
  go_loopw [6] (fun v6 wr => ∃ n : Nat, (v6 = .int .i64 1 ∨ v6 = .int .i64 2) ∧ wr = w1.drewN n) (fun v6 _ => 2 - (intOf v6).toNat)
  case atStart => exact ⟨n, .inl rfl, rfl⟩
  case round =>
    obtain ⟨n, hv, rfl⟩ := hrel
    have l0 := L0 n
    have l1 := L1 n
    rcases hv with rfl | rfl
    · go_wp2
      go_region
      all_goals
        go_wp2
        go_roundw
        case rel => exact ⟨_, .inr rfl, rfl⟩
        case measure => simp [intOf]
    · obtain ⟨w5, hr5, ho5, hb5, hs5⟩ := makeI (w1.drewN n) 3 w.heap.size hbb.size (by decide)
      have hr5 : (Instr.makeSlice 39 (.int .i64 3) (.int .i64 3)).run Try.prog (w1.drewN n) = .ok (.slice (some ⟨(w1.drewN n).heap.size, 0, none⟩) 3 3) w5 := hr5
      have ho5 : OwnI w5 w.heap.size (.slice (some ⟨(w1.drewN n).heap.size, 0, none⟩) 3 3) [0, 0, 0] := ho5
      have hbn : Below w.heap.size w (w1.drewN n) := below_drewN hbb n
      have hbw5 : Below w.heap.size w w5 := hbn.trans (hb5.mono hbn.size)
      have B5 := (B1.below (below_drewN (Below.refl _ _) n)).below hb5
      have hm5 := (hm.below (below_drewN (Below.refl _ _) n)).below hb5
      have hl5 := (hl1.below (below_drewN (Below.refl _ _) n)).below hb5
      have hgB := ho5.lt (k := (w1.drewN n).heap.size) rfl
      have HB5 := Lib.hid B5
      have HM5 := Lib.hid hm5
      have HL5 := Lib.hid hl5
      have HBW := Lib.hid hbw5
      have HO := Lib.hid ho5
      clear hb5 hbn hbw5 B5 hm5 hl5 B1 hm hl1 hbb ho5 L0 L1 l0 l1 f0 f1 f2 c0 c1 c2 hs5
      generalize (w1.drewN n).heap.size = g at *
      obtain ⟨c0, c1, c2, -, -, -⟩ := HB5.out.cells
      go_wp2
      go_loopw [47] (fun v47 wr => ∃ (i : Nat) (a b d : Int), v47 = .int .i64 i ∧ i ≤ N ∧ OwnI wr w.heap.size (.slice (some ⟨g, 0, none⟩) 3 3) [a, b, d] ∧ Below w.heap.size w wr ∧ 0 ≤ a ∧ 0 ≤ b ∧ 0 ≤ d ∧ a + b + d + (holesF (ks.take i) : Nat) = i) (fun v47 _ => N - (intOf v47).toNat)
      case atStart => exact ⟨0, 0, 0, 0, rfl, Nat.zero_le _, HO.out, HBW.out, by decide, by decide, by decide, by simp [holesF]⟩
      case round =>
        obtain ⟨i, a, b, d, rfl, hi, ho, hbw, ha, hb, hd, hsum⟩ := hrel
        by_cases hlt : i < N
        · have hmr := HH.out.below hbw
          have k1 := hmr.get i hlt
          have hk := HH.out.kb i
          have hlr := HLL.out.below hbw
          have l0 := (hlr.cellAt 0 (by simp)).1
          have l1 := (hlr.cellAt 1 (by simp)).1
          simp only [Nat.add_zero, Nat.zero_add, List.getD_cons_zero, List.getD_cons_succ] at l0 l1
          have hs : holesF (ks.take (i + 1)) = holeS (holesF (ks.take i)) (ks.getD i 0) := foldl_take holeS 0 ks i (by rw [HH.out.len]; exact hlt)
          have h0 := le0_fq (k := ks.getD i 0) (by omega)
          have m0 := le32_fq (g := 2) (a := 4) (b := ks.getD i 0) (by decide) (by omega)
          have m1 := le32_fq (g := 2) (a := 10) (b := ks.getD i 0) (by decide) (by omega)
          rw [← HX4.out] at m0
          rw [← HX10.out] at m1
          have hle := holesF_le (ks.take i) 0
          generalize ks.getD i 0 = k at *
          generalize fq 2 k = x at *
          have o0 := ho.cellAt 0 (by simp)
          have o1 := ho.cellAt 1 (by simp)
          have o2 := ho.cellAt 2 (by simp)
          have p0 := ho.free 0
          have p1 := ho.free 1
          have p2 := ho.free 2
          simp only [List.getD_cons_zero, List.getD_cons_succ] at o0 o1 o2
          have HOr := Lib.hid ho
          have HBr := Lib.hid hbw
          have HS := Lib.hid hs
          have HSUM := Lib.hid hsum
          have HGB := Lib.hid hgB
          have ba : a ≤ 256 := by omega
          have bb : b ≤ 256 := by omega
          have bd : d ≤ 256 := by omega
          clear ho hbw hmr hlr hs hsum hgB hle
          by_cases hk0 : 0 ≤ k
          · simp only [hk0, decide_true] at h0
            have hsv : holeS (holesF (ks.take i)) k = holesF (ks.take i) := by unfold holeS; rw [if_neg (by omega)]
            have HSV := Lib.hid hsv
            clear hsv
            by_cases hk4 : 4 ≤ k
            · simp only [hk4, decide_true] at m0
              by_cases hk10 : 10 ≤ k
              · simp only [hk10, decide_true] at m1
                clear hk hk0 hk4 hk10
                go_wp2_with fail
                refine (isHole_any _ _).mono ?_
                rw [h0]
                rintro e w6 ⟨rfl, rfl⟩
                go_wp2
                go_loop [10] (fun v10 => v10 = .int .i64 0 ∨ v10 = .int .i64 1 ∨ v10 = .int .i64 2) (fun v10 => 2 - (intOf v10).toNat)
                case atStart => exact .inl rfl
                case round =>
                  rcases hrel with rfl | rfl | rfl
                  · go_wp2
                    go_round
                    case rel => exact .inr (.inl rfl)
                    case measure => simp [intOf]
                  · go_wp2
                    go_round
                    case rel => exact .inr (.inr rfl)
                    case measure => simp [intOf]
                  · go_wp2
                    go_roundw
                    case rel =>
                      refine ⟨i + 1, a, b, d + 1, by go_num, by omega, ?_, HBr.out.setCell HGB.out.1 _, by omega, by omega, by omega, by have := HSUM.out; rw [HS.out, HSV.out]; omega⟩
                      have := HOr.out.put 2 (d + 1)
                      exact this
                    case measure => simp [intOf]; omega
              · simp only [hk10, decide_false] at m1
                clear hk hk0 hk4 hk10
                go_wp2_with fail
                refine (isHole_any _ _).mono ?_
                rw [h0]
                rintro e w6 ⟨rfl, rfl⟩
                go_wp2
                go_loop [10] (fun v10 => v10 = .int .i64 0 ∨ v10 = .int .i64 1) (fun v10 => 1 - (intOf v10).toNat)
                case atStart => exact .inl rfl
                case round =>
                  rcases hrel with rfl | rfl
                  · go_wp2
                    go_round
                    case rel => exact .inr rfl
                    case measure => simp [intOf]
                  · go_wp2
                    go_roundw
                    case rel =>
                      refine ⟨i + 1, a, b + 1, d, by go_num, by omega, ?_, HBr.out.setCell HGB.out.1 _, by omega, by omega, by omega, by have := HSUM.out; rw [HS.out, HSV.out]; omega⟩
                      have := HOr.out.put 1 (b + 1)
                      exact this
                    case measure => simp [intOf]; omega
            · simp only [hk4, decide_false] at m0
              clear hk hk0 hk4 m1
              go_wp2_with fail
              refine (isHole_any _ _).mono ?_
              rw [h0]
              rintro e w6 ⟨rfl, rfl⟩
              go_wp2
              go_loop [10] (fun v10 => v10 = .int .i64 0) (fun v10 => 0 - (intOf v10).toNat)
              case atStart => exact rfl
              case round =>
                rcases hrel with rfl
                · go_wp2
                  go_roundw
                  case rel =>
                    refine ⟨i + 1, a + 1, b, d, by go_num, by omega, ?_, HBr.out.setCell HGB.out.1 _, by omega, by omega, by omega, by have := HSUM.out; rw [HS.out, HSV.out]; omega⟩
                    have := HOr.out.put 0 (a + 1)
                    exact this
                  case measure => simp [intOf]; omega
          · simp only [hk0, decide_false] at h0
            have hsv : holeS (holesF (ks.take i)) k = holesF (ks.take i) + 1 := by unfold holeS; rw [if_pos (by omega)]
            have HSV := Lib.hid hsv
            clear hsv hk hk0 m0 m1
            go_wp2_with fail
            refine (isHole_any _ _).mono ?_
            rw [h0]
            rintro e w6 ⟨rfl, rfl⟩
            go_wp2
            go_roundw
            case rel => exact ⟨i + 1, a, b, d, by go_num, by omega, HOr.out, HBr.out, ha, hb, hd, by have := HSUM.out; rw [HS.out, HSV.out]; omega⟩
            case measure => simp [intOf]; omega
        · obtain rfl : i = N := by omega
          have hfull : ks.take i = ks := by rw [← HH.out.len, List.take_length]
          rw [hfull] at hsum
          have HS := Lib.hid hsum
          have HOr := Lib.hid ho
          have HBr := Lib.hid hbw
          clear hsum ho hbw hfull
          go_wp2
          go_ret2
          exact ⟨g, 3, a, b, d, rfl, HOr.out, HBr.out, ha, hb, hd, HS.out⟩

end Go.Proofs.Yticbgeknledpcaa
