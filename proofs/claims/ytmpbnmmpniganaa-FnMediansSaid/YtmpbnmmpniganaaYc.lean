/- A stable sort of quarters: insertions. -/
import Derived.Test.YtmpbnmmpniganaaYb
namespace Go.Proofs.Ytmpbnmmpniganaa
open Go.RowKit Go.Sort
set_option maxRecDepth 100000
set_option linter.unusedVariables false
set_option linter.unusedSimpArgs false

theorem ltInt_t {x y : Int} : ltInt x y = true ↔ x < y := by unfold ltInt; exact decide_eq_true_iff
theorem ltInt_f {x y : Int} : ltInt x y = false ↔ ¬ x < y := by unfold ltInt; exact decide_eq_false_iff_not
/-- The comparison, by what is wanted of it. -/
theorem cmpF_lt {x y : Int} {u v : Nat} (hu : fq 2 x = u) (hv : fq 2 y = v) (hx : x.natAbs ≤ 1000) (hy : y.natAbs ≤ 1000) (h : ltInt x y = true) (W : World) (n : Nat) : Calls Try.prog 108 #[.float .f32 u, .float .f32 v] (W.drewN n) fun e w' => e = .returned (.int .i64 (-1)) ∧ ∃ m, w' = W.drewN m := by
  subst hu hv
  have := cmpF_q x y (W.drewN n) hx hy
  rw [show cmpI x y = -1 from if_pos (ltInt_t.1 h)] at this
  exact quiet_same this
theorem cmpF_ge {x y : Int} {u v : Nat} (hu : fq 2 x = u) (hv : fq 2 y = v) (hx : x.natAbs ≤ 1000) (hy : y.natAbs ≤ 1000) (h : ltInt x y = false) : ∃ c : Int, decide (c < 0) = false ∧ ∀ (W : World) (n : Nat), Calls Try.prog 108 #[.float .f32 u, .float .f32 v] (W.drewN n) fun e w' => e = .returned (.int .i64 c) ∧ ∃ m, w' = W.drewN m := by
  subst hu hv
  refine ⟨cmpI x y, ?_, fun W n => quiet_same (cmpF_q x y (W.drewN n) hx hy)⟩
  have := ltInt_f.1 h
  unfold cmpI; rw [if_neg this]; split <;> rfl
/-- The function value of the comparison. -/
def cmpV : Value := .func (.func 108) #[] #[]

set_option maxHeartbeats 2000000 in
theorem insertion_q (w : World) (g n cap a b : Nat) (d : Array Int) (hH : Holds eq2 w g 0 d) (hs : d.size = n) (hq : QB d) (hab : a ≤ b) (hbn : b ≤ n) (hn : n ≤ 64) :
    Calls Try.prog 126 #[.slice (some ⟨g, 0, none⟩) n cap, .int .i64 a, .int .i64 b, .func (.func 108) #[] #[]] w fun e w' => (∃ v, e = .returned v) ∧ ∃ q, w' = (putRow eq2 w g 0 (insertionSort ltInt d a b)).drewN q := by
  have st : w = (putRow eq2 w g 0 d).drewN 0 := (putRow_self eq2 w g 0 d hH).symm
  have ST := Lib.hid st
  have HH := Lib.hid hH
  have HS := Lib.hid hs
  have HQ := Lib.hid hq
  clear st hH hs hq
  go_enter Try.func126, Try.ntmps126
  go_wp2
  go_loopw [8] (fun v8 wr => ∃ (i q : Nat) (dk : Array Int), v8 = .int .i64 i ∧ a < i ∧ i ≤ b + 1 ∧ PermIn a b d dk ∧ wr = (putRow eq2 w g 0 dk).drewN q ∧ Hid (insOuter ltInt a b i dk = insOuter ltInt a b (a + 1) d)) (fun v8 _ => b + 1 - (intOf v8).toNat)
  case atStart => exact ⟨a + 1, 0, d, by go_num, by omega, by omega, permIn_refl _ _ _, ST.out, rfl⟩
  case round =>
    obtain ⟨i, q, dk, rfl, hai, hib, hp, hw, HO⟩ := hrel
    by_cases hlt : i < b
    · have HP := Lib.hid hp
      obtain ⟨wo, rfl⟩ : ∃ wo : World, wo = wr := ⟨_, rfl⟩
      have HW := Lib.hid hw
      clear hp hw
      go_wp2
      go_loopw [9] (fun v9 wr => ∃ (j q : Nat) (dj : Array Int), v9 = .int .i64 j ∧ a ≤ j ∧ j ≤ i ∧ PermIn a b d dj ∧ wr = (putRow eq2 w g 0 dj).drewN q ∧ Hid (insInner ltInt a j dj = insInner ltInt a i dk)) (fun v9 _ => (intOf v9).toNat)
      case atStart => exact ⟨i, q, dk, rfl, by omega, Nat.le_refl _, HP.out, HW.out, rfl⟩
      case round =>
        clear HP HW q
        obtain ⟨j, q, dj, rfl, haj, hji, hp, hw, HI⟩ := hrel
        have OUT : Hid (∀ (h : j ≤ a ∨ ltInt dj[j]! dj[j - 1]! = false), Hid (insOuter ltInt a b (i + 1) dj = insOuter ltInt a b (a + 1) d)) := by
          intro h
          show _ = _
          rw [← HO.out, insOuter_go1 _ _ _ _ hlt, ← HI.out, insInner_stop1 _ _ _ h]
        have hsz : dj.size = d.size := hp.1
        have hqj : QB dj := HQ.out.perm (by rw [HS.out]; exact hbn) hp
        have hh := holds_row (w := w) (g := g) (d0 := d) (d := dj) HH.out hsz q
        rw [← hw] at hh
        by_cases hja : a < j
        · obtain ⟨jp, hjp⟩ : ∃ jp : Nat, (j : Int) - 1 = (jp : Int) := ⟨j - 1, by omega⟩
          have hjn : j = jp + 1 := by omega
          have HJ := Lib.hid hjn
          obtain ⟨cj, fj⟩ := holds_at hh j (by rw [hsz, HS.out]; omega)
          obtain ⟨cp, fp⟩ := holds_at hh jp (by rw [hsz, HS.out]; omega)
          obtain ⟨X, hX⟩ : ∃ X, fq 2 dj[j]! = X := ⟨_, rfl⟩
          obtain ⟨Y, hY⟩ : ∃ Y, fq 2 dj[jp]! = Y := ⟨_, rfl⟩
          rw [hX] at cj
          rw [hY] at cp
          clear hjn
          cases hl : ltInt dj[j]! dj[jp]!
          · -- not less
            obtain ⟨c, hc, kc⟩ := cmpF_ge hX hY (hqj _) (hqj _) hl
            have KC := Lib.hid kc
            have HX := Lib.hid hX
            have HY := Lib.hid hY
            have HW := Lib.hid hw
            have HP := Lib.hid hp
            have HL := Lib.hid hl
            clear hX hY hw hp hl kc hh hqj hsz
            go_wp2
            go_quiet (with_reducible exact KC.out _ _)
            go_wp2
            go_roundw
            case rel => exact ⟨i + 1, q + nq, dj, by go_num, by omega, by omega, HP.out, by rw [HW.out, drew_drew], OUT.out (.inr (by rw [show j - 1 = jp from by have := HJ.out; omega]; exact HL.out))⟩
            case measure => simp [intOf]; omega
          · have kc := cmpF_lt hX hY (hqj _) (hqj _) hl
            have KC := Lib.hid kc
            have HX := Lib.hid hX
            have HY := Lib.hid hY
            have HW := Lib.hid hw
            have HP := Lib.hid hp
            have HL := Lib.hid hl
            clear hX hY hw hp hl kc hh hqj hsz
            go_wp2
            go_quiet (with_reducible exact KC.out _ _)
            go_wp2
            go_region
            all_goals go_wp2
            go_roundw
            case rel =>
              have hj1 : j - 1 = jp := by have := HJ.out; omega
              refine ⟨jp, q + (nq + 1), swp dj j jp, rfl, by omega, by omega, ?_, swap_row2 HW.out (by rw [HP.out.1, HS.out]; omega) (by rw [HP.out.1, HS.out]; omega) HX.out HY.out, ?_⟩
              · exact permIn_trans _ _ _ _ _ HP.out (swp_permIn _ _ _ _ _ haj (by omega) (by omega) (by omega) (by rw [HP.out.1, HS.out]; exact hbn))
              · show _ = _
                rw [← HI.out, insInner_go1 a j dj (by omega) (by rw [hj1]; exact HL.out), hj1]
            case measure => simp [intOf]; omega
        · have HW := Lib.hid hw
          have HP := Lib.hid hp
          clear hw hp hh hqj hsz
          go_wp2
          go_quiet (fail)
          go_wp2
          go_roundw
          case rel => exact ⟨i + 1, _, dj, by go_num, by omega, by omega, HP.out, by rw [HW.out, drew_drew], OUT.out (.inl (by omega))⟩
          case measure => simp [intOf]; omega
    · have HW := Lib.hid hw
      clear hw hp
      go_wp2
      go_end0
      exact ⟨⟨_, rfl⟩, q, by unfold insertionSort; rw [← HO.out, insOuter_stop1 _ _ _ _ hlt]; exact HW.out⟩

end Go.Proofs.Ytmpbnmmpniganaa
