/- A stable sort of quarters: rotations. -/
import Derived.Test.YtmpbnmmpniganaaYc
namespace Go.Proofs.Ytmpbnmmpniganaa
open Go.RowKit Go.Sort
set_option maxRecDepth 100000
set_option linter.unusedVariables false
set_option linter.unusedSimpArgs false

set_option maxHeartbeats 2000000 in
theorem rotate_q (w : World) (g n cap a m b : Nat) (fv : Value) (d : Array Int) (hH : Holds eq2 w g 0 d) (hs : d.size = n) (ham : a < m) (hmb : m < b) (hbn : b ≤ n) (hn : n ≤ 64) :
    Calls Try.prog 128 #[.slice (some ⟨g, 0, none⟩) n cap, .int .i64 a, .int .i64 m, .int .i64 b, fv] w fun e w' => (∃ v, e = .returned v) ∧ ∃ (d' : Array Int) (q : Nat), PermIn a b d d' ∧ Rot a m b d d' ∧ w' = (putRow eq2 w g 0 d').drewN q := by
  have st : w = (putRow eq2 w g 0 d).drewN 0 := (putRow_self eq2 w g 0 d hH).symm
  have ST := Lib.hid st
  have HH := Lib.hid hH
  have HS := Lib.hid hs
  obtain ⟨i0, hi0⟩ : ∃ i0 : Nat, (m : Int) - (a : Int) = (i0 : Int) := ⟨m - a, by omega⟩
  obtain ⟨j0, hj0⟩ : ∃ j0 : Nat, (b : Int) - (m : Int) = (j0 : Int) := ⟨b - m, by omega⟩
  have SW := Lib.hid (fun (w' : World) (dk : Array Int) (q x y k : Nat) (hw : w' = (putRow eq2 w g 0 dk).drewN q) (hz : dk.size = n) (h1 : x + k ≤ y) (h2 : y + k ≤ n) =>
    swapRange_q w' g n cap x y k fv dk (by rw [hw]; exact holds_row hH (by rw [hz, hs]) q) hz h1 h2 hn)
  clear st hH hs
  go_enter Try.func128, Try.ntmps128
  go_wp2
  go_loopw [10, 11] (fun v10 v11 wr => ∃ (i j q : Nat) (dk : Array Int), v10 = .int .i64 i ∧ v11 = .int .i64 j ∧ 0 < i ∧ 0 < j ∧ a + i ≤ m ∧ m + j ≤ b ∧ PermIn a b d dk ∧ wr = (putRow eq2 w g 0 dk).drewN q ∧ Hid (∀ d'', Rot (m - i) m (m + j) dk d'' → Rot a m b d d'')) (fun v10 v11 _ => (intOf v10).toNat + (intOf v11).toNat)
  case atStart =>
    refine ⟨i0, j0, 0, d, rfl, rfl, by omega, by omega, by omega, by omega, permIn_refl _ _ _, ST.out, ?_⟩
    intro d'' h
    rw [show m - i0 = a by omega, show m + j0 = b by omega] at h
    exact h
  case round =>
    clear hi0 hj0
    obtain ⟨i, j, q, dk, rfl, rfl, hi, hj, hai, hjb, hp, hw, HC⟩ := hrel
    have HW := Lib.hid hw
    have HP := Lib.hid hp
    have hz : dk.size = n := by rw [hp.1, HS.out]
    have HZ := Lib.hid hz
    clear hw hp hz
    obtain ⟨mi, hmi⟩ : ∃ mi : Nat, (m : Int) - (i : Int) = (mi : Int) := ⟨m - i, by omega⟩
    have hmi' : mi = m - i := by omega
    have HMI := Lib.hid hmi'
    by_cases hij : i = j
    · subst hij
      have hne : ((i : Int) != (i : Int)) = false := by simp
      have K := Lib.hid (SW.out wr dk q mi m i HW.out HZ.out (by omega) (by omega))
      clear hmi'
      go_wp2_with fail
      refine K.out.mono ?_
      rintro e w2 ⟨⟨v, rfl⟩, q2, hw2⟩
      have HW2 := Lib.hid hw2
      clear hw2
      go_wp2
      go_end0
      have hmm : mi = m - i := HMI.out
      refine ⟨⟨_, rfl⟩, swR dk mi m i, q + q2, ?_, ?_, ?_⟩
      · exact permIn_trans _ _ _ _ _ HP.out (swR_perm dk mi m a b (by omega) (by omega) (by rw [HZ.out]; exact hbn) i (by omega) (by omega))
      · apply HC.out
        rw [hmm]
        exact Rot.same (by omega) (by rw [HZ.out]; omega)
      · rw [HW2.out, HW.out, putRow_over w g q dk _ (swR_size dk mi m i), drew_drew]
    · have hne : ((i : Int) != (j : Int)) = true := bne_iff_ne.2 (by omega)
      by_cases hgt : j < i
      · obtain ⟨ij, hijn⟩ : ∃ ij : Nat, (i : Int) - (j : Int) = (ij : Int) := ⟨i - j, by omega⟩
        have K := Lib.hid (SW.out wr dk q mi m j HW.out HZ.out (by omega) (by omega))
        clear hmi'
        go_wp2_with fail
        refine K.out.mono ?_
        rintro e w2 ⟨⟨v, rfl⟩, q2, hw2⟩
        have HW2 := Lib.hid hw2
        clear hw2
        go_wp2
        go_roundw
        case rel =>
          have hmm : mi = m - i := HMI.out
          have hijm : ij = i - j := by omega
          refine ⟨ij, j, q + q2, swR dk mi m j, rfl, rfl, by omega, by omega, by omega, by omega, ?_, ?_, ?_⟩
          · exact permIn_trans _ _ _ _ _ HP.out (swR_perm dk mi m a b (by omega) (by omega) (by rw [HZ.out]; exact hbn) j (by omega) (by omega))
          · rw [HW2.out, HW.out, putRow_over w g q dk _ (swR_size dk mi m j), drew_drew]
          · intro d'' h
            apply HC.out
            rw [hijm, hmm] at h
            exact Rot.left hgt (by omega) (by rw [HZ.out]; omega) h
        case measure => simp [intOf]; omega
      · obtain ⟨ji, hijn⟩ : ∃ ji : Nat, (j : Int) - (i : Int) = (ji : Int) := ⟨j - i, by omega⟩
        obtain ⟨mj, hmj⟩ : ∃ mj : Nat, (m : Int) + (j : Int) - (i : Int) = (mj : Int) := ⟨m + j - i, by omega⟩
        have K := Lib.hid (SW.out wr dk q mi mj i HW.out HZ.out (by omega) (by omega))
        clear hmi'
        go_wp2_with fail
        refine K.out.mono ?_
        rintro e w2 ⟨⟨v, rfl⟩, q2, hw2⟩
        have HW2 := Lib.hid hw2
        clear hw2
        go_wp2
        go_roundw
        case rel =>
          have hmm : mi = m - i := HMI.out
          have hjim : ji = j - i := by omega
          have hmjm : mj = m + j - i := by omega
          refine ⟨i, ji, q + q2, swR dk mi mj i, rfl, rfl, by omega, by omega, by omega, by omega, ?_, ?_, ?_⟩
          · exact permIn_trans _ _ _ _ _ HP.out (swR_perm dk mi mj a b (by omega) (by omega) (by rw [HZ.out]; exact hbn) i (by omega) (by omega))
          · rw [HW2.out, HW.out, putRow_over w g q dk _ (swR_size dk mi mj i), drew_drew]
          · intro d'' h
            apply HC.out
            rw [hjim, hmjm, hmm] at h
            exact Rot.right (by omega) (by omega) (by rw [HZ.out]; omega) h
        case measure => simp [intOf]; omega

end Go.Proofs.Ytmpbnmmpniganaa
