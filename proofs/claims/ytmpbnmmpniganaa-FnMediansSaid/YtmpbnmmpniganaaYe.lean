/- A stable sort of quarters: a merge where one side is a single place. -/
import Derived.Test.YtmpbnmmpniganaaYd
namespace Go.Proofs.Ytmpbnmmpniganaa
open Go.RowKit Go.Sort
set_option maxRecDepth 100000
set_option linter.unusedVariables false
set_option linter.unusedSimpArgs false

set_option maxHeartbeats 2000000 in
theorem mergeA_q (w : World) (g n cap a m b : Nat) (d : Array Int) (hH : Holds eq2 w g 0 d) (hs : d.size = n) (hq : QB d) (ham : (m : Int) - (a : Int) = 1) (hmb : m < b) (hbn : b ≤ n) (hn : n ≤ 64) (hsr : SortedIn ltInt m b d) :
    Calls Try.prog 127 #[.slice (some ⟨g, 0, none⟩) n cap, .int .i64 a, .int .i64 m, .int .i64 b, .func (.func 108) #[] #[]] w fun e w' => (∃ v, e = .returned v) ∧ ∃ (d' : Array Int) (q : Nat), PermIn a b d d' ∧ SortedIn ltInt a b d' ∧ w' = (putRow eq2 w g 0 d').drewN q := by
  have st : w = (putRow eq2 w g 0 d).drewN 0 := (putRow_self eq2 w g 0 d hH).symm
  have ST := Lib.hid st
  have HH := Lib.hid hH
  have HS := Lib.hid hs
  have HQ := Lib.hid hq
  have HSR := Lib.hid hsr
  have hma : m = a + 1 := by omega
  have HMA := Lib.hid hma
  clear st hH hs hq hsr hma
  go_enter Try.func127, Try.ntmps127
  go_wp2
  go_loopw [10, 11] (fun v10 v11 wr => ∃ (i j q : Nat), v10 = .int .i64 i ∧ v11 = .int .i64 j ∧ m ≤ i ∧ i ≤ j ∧ j ≤ b ∧ Hid (i = m ∨ ltInt d[i - 1]! d[a]! = true) ∧ Hid (j = b ∨ ltInt d[j]! d[a]! = false) ∧ wr = (putRow eq2 w g 0 d).drewN q) (fun v10 v11 _ => (intOf v11).toNat - (intOf v10).toNat)
  case atStart => exact ⟨m, b, 0, rfl, rfl, Nat.le_refl _, by omega, Nat.le_refl _, .inl rfl, .inl rfl, ST.out⟩
  case round =>
    obtain ⟨i, j, q, rfl, rfl, hmi, hij, hjb, L1, L2, hw⟩ := hrel
    have hh := holds_row (w := w) (g := g) (d0 := d) (d := d) HH.out rfl q
    rw [← hw] at hh
    have HW := Lib.hid hw
    clear hw
    by_cases hlt : i < j
    · obtain ⟨h, hhe⟩ : ∃ h : Nat, ((i : Int) + (j : Int)) / 2 = (h : Int) := ⟨(i + j) / 2, by omega⟩
      have hb1 : i ≤ h := by omega
      have hb2 : h < j := by omega
      have hn0 : d.size = n := HS.out
      obtain ⟨ch, fh⟩ := holds_at hh h (by omega)
      obtain ⟨ca, fa⟩ := holds_at hh a (by omega)
      obtain ⟨X, hX⟩ : ∃ X, fq 2 d[h]! = X := ⟨_, rfl⟩
      obtain ⟨Y, hY⟩ : ∃ Y, fq 2 d[a]! = Y := ⟨_, rfl⟩
      rw [hX] at ch
      rw [hY] at ca
      cases hl : ltInt d[h]! d[a]!
      · obtain ⟨c, hc, kc⟩ := cmpF_ge hX hY (HQ.out _) (HQ.out _) hl
        have KC := Lib.hid kc
        have HL := Lib.hid hl
        clear hX hY hl kc hh hn0
        go_wp2
        go_quiet (with_reducible exact KC.out _ _)
        go_wp2
        go_roundw
        case rel => exact ⟨i, h, q + nq, rfl, rfl, hmi, hb1, by omega, L1, .inr HL.out, by rw [HW.out, drew_drew]⟩
        case measure => simp [intOf]; omega
      · have kc := cmpF_lt hX hY (HQ.out _) (HQ.out _) hl
        have KC := Lib.hid kc
        have HL := Lib.hid hl
        clear hX hY hl kc hh hn0
        go_wp2
        go_quiet (with_reducible exact KC.out _ _)
        go_wp2
        go_roundw
        case rel => exact ⟨h + 1, j, q + nq, by go_num, rfl, by omega, by omega, hjb, .inr (by rw [Nat.add_sub_cancel]; exact HL.out), L2, by rw [HW.out, drew_drew]⟩
        case measure => simp [intOf]; omega
    · have hij2 : i = j := by omega
      subst hij2
      clear hh
      obtain ⟨i1, hi1⟩ : ∃ i1 : Nat, (i : Int) - 1 = (i1 : Int) := ⟨i - 1, by omega⟩
      obtain ⟨wo, rfl⟩ : ∃ wo : World, wo = wr := ⟨_, rfl⟩
      have hi1n : i1 = i - 1 := by omega
      have HI1 := Lib.hid hi1n
      clear hi1n
      go_wp2
      go_loopw [13] (fun v13 wr => ∃ (k q : Nat) (dk : Array Int), v13 = .int .i64 k ∧ a ≤ k ∧ k ≤ i1 ∧ MovUp a k d dk ∧ PermIn a b d dk ∧ wr = (putRow eq2 w g 0 dk).drewN q) (fun v13 _ => i1 - (intOf v13).toNat)
      case atStart => exact ⟨a, q, d, rfl, Nat.le_refl _, by omega, MovUp.start a d, permIn_refl _ _ _, HW.out⟩
      case round =>
        clear HW q
        obtain ⟨k, q, dk, rfl, hak, hki, hmv, hp, hw⟩ := hrel
        have hz : dk.size = n := by rw [hp.1]; exact HS.out
        have hh := holds_row (w := w) (g := g) (d0 := d) (d := dk) HH.out hp.1 q
        rw [← hw] at hh
        have HW := Lib.hid hw
        have HP := Lib.hid hp
        have HZ := Lib.hid hz
        have HV := Lib.hid hmv
        clear hw hp hmv
        by_cases hlk : k < i1
        · obtain ⟨k1, hk1⟩ : ∃ k1 : Nat, (k : Int) + 1 = (k1 : Int) := ⟨k + 1, by omega⟩
          obtain ⟨ck, fk⟩ := holds_at hh k (by omega)
          obtain ⟨cl, fl⟩ := holds_at hh k1 (by omega)
          obtain ⟨X, hX⟩ : ∃ X, fq 2 dk[k]! = X := ⟨_, rfl⟩
          obtain ⟨Y, hY⟩ : ∃ Y, fq 2 dk[k1]! = Y := ⟨_, rfl⟩
          rw [hX] at ck
          rw [hY] at cl
          have HX := Lib.hid hX
          have HY := Lib.hid hY
          have hkn : k1 = k + 1 := by omega
          have HK := Lib.hid hkn
          clear hX hY hh hz hkn
          go_wp2
          go_region
          all_goals go_wp2
          go_roundw
          case rel =>
            refine ⟨k1, q + 1, swp dk k k1, by go_num, by omega, by omega, ?_, ?_, swap_row HW.out (by rw [HZ.out]; omega) (by rw [HZ.out]; omega) HX.out HY.out⟩
            · rw [HK.out]; exact HV.out.step hak (by rw [HS.out]; omega)
            · exact permIn_trans _ _ _ _ _ HP.out (swp_permIn _ _ _ _ _ hak (by omega) (by omega) (by omega) (by rw [HZ.out]; exact hbn))
          case measure => simp [intOf]; omega
        · have hk : k = i1 := by omega
          subst hk
          clear hh hz
          go_wp2
          refine bodyPost_ret (v := .tuple #[]) (results_none (by rfl) _ _ _) rfl ?_
          have hk2 : k = i - 1 := HI1.out
          have hma : m = a + 1 := HMA.out
          refine ⟨⟨_, rfl⟩, dk, q, HP.out, ?_, HW.out⟩
          have hv := HV.out
          rw [hk2] at hv
          have hsr := HSR.out
          rw [hma] at hsr
          have l1 := L1.out
          rw [hma] at l1
          exact hv.sorted (by omega) hjb hsr l1 L2.out

end Go.Proofs.Ytmpbnmmpniganaa
