/- A stable sort of quarters: a merge where the right side is a single place. -/
import Derived.Test.YtmpbnmmpniganaaYe
namespace Go.Proofs.Ytmpbnmmpniganaa
open Go.RowKit Go.Sort
set_option maxRecDepth 100000
set_option linter.unusedVariables false
set_option linter.unusedSimpArgs false

set_option maxHeartbeats 2000000 in
theorem mergeB_q (w : World) (g n cap a m b : Nat) (d : Array Int) (hH : Holds eq2 w g 0 d) (hs : d.size = n) (hq : QB d) (ma : Nat) (hma0 : (m : Int) - (a : Int) = (ma : Int)) (hma1 : ((ma : Int) == 1) = false) (hma2 : 0 < ma) (hbm : (b : Int) - (m : Int) = 1) (hbn : b ≤ n) (hn : n ≤ 64) (hsl : SortedIn ltInt a m d) :
    Calls Try.prog 127 #[.slice (some ⟨g, 0, none⟩) n cap, .int .i64 a, .int .i64 m, .int .i64 b, .func (.func 108) #[] #[]] w fun e w' => (∃ v, e = .returned v) ∧ ∃ (d' : Array Int) (q : Nat), PermIn a b d d' ∧ SortedIn ltInt a b d' ∧ w' = (putRow eq2 w g 0 d').drewN q := by
  have st : w = (putRow eq2 w g 0 d).drewN 0 := (putRow_self eq2 w g 0 d hH).symm
  have ST := Lib.hid st
  have HH := Lib.hid hH
  have HS := Lib.hid hs
  have HQ := Lib.hid hq
  have HSR := Lib.hid hsl
  have hma : b = m + 1 := by omega
  have HMA := Lib.hid hma
  clear st hH hs hq hsl hma
  go_enter Try.func127, Try.ntmps127
  go_wp2
  go_loopw [14, 15] (fun v10 v11 wr => ∃ (i j q : Nat), v10 = .int .i64 i ∧ v11 = .int .i64 j ∧ a ≤ i ∧ i ≤ j ∧ j ≤ m ∧ Hid (i = a ∨ ltInt d[m]! d[i - 1]! = false) ∧ Hid (j = m ∨ ltInt d[m]! d[j]! = true) ∧ wr = (putRow eq2 w g 0 d).drewN q) (fun v10 v11 _ => (intOf v11).toNat - (intOf v10).toNat)
  case atStart => exact ⟨a, m, 0, rfl, rfl, Nat.le_refl _, by omega, Nat.le_refl _, .inl rfl, .inl rfl, ST.out⟩
  case round =>
    obtain ⟨i, j, q, rfl, rfl, hmi, hij, hjb, L1, L2, hw⟩ := hrel
    have hh := holds_row (w := w) (g := g) (d0 := d) (d := d) HH.out rfl q
    rw [← hw] at hh
    have HW := Lib.hid hw
    clear hw
    by_cases hlt : i < j
    · obtain ⟨h, hhe⟩ : ∃ h : Nat, ((i : Int) + (j : Int)) / 2 = (h : Int) := ⟨(i + j) / 2, by omega⟩
      have hb1 : i ≤ h := by omega
      have hb2 : h < j := by omega
      have hn0 : d.size = n := HS.out
      obtain ⟨ch, fh⟩ := holds_at hh h (by omega)
      obtain ⟨ca, fa⟩ := holds_at hh m (by omega)
      obtain ⟨X, hX⟩ : ∃ X, fq 2 d[h]! = X := ⟨_, rfl⟩
      obtain ⟨Y, hY⟩ : ∃ Y, fq 2 d[m]! = Y := ⟨_, rfl⟩
      rw [hX] at ch
      rw [hY] at ca
      cases hl : ltInt d[m]! d[h]!
      · obtain ⟨c, hc, kc⟩ := cmpF_ge hY hX (HQ.out _) (HQ.out _) hl
        have KC := Lib.hid kc
        have HL := Lib.hid hl
        clear hX hY hl kc hh hn0
        go_wp2
        go_quiet (with_reducible exact KC.out _ _)
        go_wp2
        go_roundw
        case rel => exact ⟨h + 1, j, q + nq, by go_num, rfl, by omega, by omega, hjb, .inr (by rw [Nat.add_sub_cancel]; exact HL.out), L2, by rw [HW.out, drew_drew]⟩
        case measure => simp [intOf]; omega
      · have kc := cmpF_lt hY hX (HQ.out _) (HQ.out _) hl
        have KC := Lib.hid kc
        have HL := Lib.hid hl
        clear hX hY hl kc hh hn0
        go_wp2
        go_quiet (with_reducible exact KC.out _ _)
        go_wp2
        go_roundw
        case rel => exact ⟨i, h, q + nq, rfl, rfl, hmi, hb1, by omega, L1, .inr HL.out, by rw [HW.out, drew_drew]⟩
        case measure => simp [intOf]; omega
    · have hij2 : i = j := by omega
      subst hij2
      clear hh
      obtain ⟨wo, rfl⟩ : ∃ wo : World, wo = wr := ⟨_, rfl⟩
      go_wp2
      go_loopw [17] (fun v17 wr => ∃ (k q : Nat) (dk : Array Int), v17 = .int .i64 k ∧ i ≤ k ∧ k ≤ m ∧ MovDn m k d dk ∧ PermIn a b d dk ∧ wr = (putRow eq2 w g 0 dk).drewN q) (fun v17 _ => (intOf v17).toNat)
      case atStart => exact ⟨m, q, d, rfl, hjb, Nat.le_refl _, MovDn.start m d, permIn_refl _ _ _, HW.out⟩
      case round =>
        clear HW q
        obtain ⟨k, q, dk, rfl, hik, hkm, hmv, hp, hw⟩ := hrel
        have hz : dk.size = n := by rw [hp.1]; exact HS.out
        have hh := holds_row (w := w) (g := g) (d0 := d) (d := dk) HH.out hp.1 q
        rw [← hw] at hh
        have HW := Lib.hid hw
        have HP := Lib.hid hp
        have HZ := Lib.hid hz
        have HV := Lib.hid hmv
        clear hw hp hmv
        by_cases hlk : i < k
        · obtain ⟨k1, hk1⟩ : ∃ k1 : Nat, (k : Int) - 1 = (k1 : Int) := ⟨k - 1, by omega⟩
          obtain ⟨ck, fk⟩ := holds_at hh k (by omega)
          obtain ⟨cl, fl⟩ := holds_at hh k1 (by omega)
          obtain ⟨X, hX⟩ : ∃ X, fq 2 dk[k]! = X := ⟨_, rfl⟩
          obtain ⟨Y, hY⟩ : ∃ Y, fq 2 dk[k1]! = Y := ⟨_, rfl⟩
          rw [hX] at ck
          rw [hY] at cl
          have HX := Lib.hid hX
          have HY := Lib.hid hY
          have hkn : k = k1 + 1 := by omega
          have HK := Lib.hid hkn
          clear hX hY hh hz hkn
          go_wp2
          go_region
          all_goals go_wp2
          go_roundw
          case rel =>
            refine ⟨k1, q + 1, swp dk k k1, by go_num, by omega, by omega, ?_, ?_, swap_row HW.out (by rw [HZ.out]; omega) (by rw [HZ.out]; omega) HX.out HY.out⟩
            · have hv := HV.out
              rw [HK.out] at hv ⊢
              exact hv.step (by omega) (by rw [HS.out]; omega)
            · exact permIn_trans _ _ _ _ _ HP.out (swp_permIn _ _ _ _ _ (by omega) (by omega) (by omega) (by omega) (by rw [HZ.out]; exact hbn))
          case measure => simp [intOf]; omega
        · have hk : k = i := by omega
          subst hk
          clear hh hz
          go_wp2
          refine bodyPost_ret (v := .tuple #[]) (results_none (by rfl) _ _ _) rfl ?_
          refine ⟨⟨_, rfl⟩, dk, q, HP.out, ?_, HW.out⟩
          rw [HMA.out]
          exact HV.out.sorted hmi hkm HSR.out L1.out L2.out

end Go.Proofs.Ytmpbnmmpniganaa
