/- A stable sort of quarters: slices.SortStableFunc of fewer than forty numbers. -/
import Derived.Test.YtmpbnmmpniganaaYg
namespace Go.Proofs.Ytmpbnmmpniganaa
open Go.RowKit Go.Sort
set_option maxRecDepth 100000
set_option linter.unusedVariables false
set_option linter.unusedSimpArgs false

theorem SortedIn.keep {a b : Nat} {d d' : Array Int} (h : SortedIn ltInt a b d) (he : ∀ p, a ≤ p → p < b → d'[p]! = d[p]!) : SortedIn ltInt a b d' := fun x y h1 h2 h3 => by
  rw [he x h1 (by omega), he y (by omega) h3]; exact h x y h1 h2 h3

set_option maxHeartbeats 4000000 in
theorem stable_q (w : World) (g n cap : Nat) (d : Array Int) (hH : Holds eq2 w g 0 d) (hs : d.size = n) (hq : QB d) (hn : n < 40) :
    Calls Try.prog 117 #[.slice (some ⟨g, 0, none⟩) n cap, .int .i64 n, .func (.func 108) #[] #[]] w fun e w' => (∃ v, e = .returned v) ∧ ∃ (d' : Array Int) (q : Nat), PermIn 0 n d d' ∧ SortedIn ltInt 0 n d' ∧ w' = (putRow eq2 w g 0 d').drewN q := by
  have st : w = (putRow eq2 w g 0 d).drewN 0 := (putRow_self eq2 w g 0 d hH).symm
  have ST := Lib.hid st
  have HH := Lib.hid hH
  have HS := Lib.hid hs
  have HQ := Lib.hid hq
  have INS := Lib.hid (fun (w' : World) (dk : Array Int) (q a b : Nat) (hw : w' = (putRow eq2 w g 0 dk).drewN q) (hp : PermIn 0 n d dk) (hab : a ≤ b) (hbn : b ≤ n) =>
    (show Calls Try.prog 126 #[.slice (some ⟨g, 0, none⟩) n cap, .int .i64 a, .int .i64 b, .func (.func 108) #[] #[]] w' fun e w2 => (∃ v, e = .returned v) ∧ ∃ (d2 : Array Int) (q2 : Nat), PermIn a b dk d2 ∧ PermIn 0 n d d2 ∧ SortedIn ltInt a b d2 ∧ w2 = (putRow eq2 w g 0 d2).drewN q2 from by
      refine (insertion_q w' g n cap a b dk (by rw [hw]; exact holds_row hH hp.1 q) (by rw [hp.1, hs]) (hq.perm (by omega) hp) hab hbn (by omega)).mono ?_
      rintro e w2 ⟨hv, q2, hw2⟩
      obtain ⟨i1, i2⟩ := insertionSort_holds (lt := ltInt) swo_ltInt dk a b hab (by rw [hp.1, hs]; exact hbn)
      exact ⟨hv, _, q + q2, i1, permIn_trans _ _ _ _ _ hp (permIn_mono _ _ _ _ _ _ (Nat.zero_le _) hbn (by rw [hp.1, hs]; exact Nat.le_refl _) i1), i2, by rw [hw2, hw, putRow_over w g q dk _ i1.1, drew_drew]⟩))
  have MRG := Lib.hid (fun (w' : World) (dk : Array Int) (q : Nat) (hw : w' = (putRow eq2 w g 0 dk).drewN q) (hp : PermIn 0 n d dk) (h20 : 20 < n) (s1 : SortedIn ltInt 0 20 dk) (s2 : SortedIn ltInt 20 n dk) =>
    (show Calls Try.prog 127 #[.slice (some ⟨g, 0, none⟩) n cap, .int .i64 0, .int .i64 20, .int .i64 n, .func (.func 108) #[] #[]] w' fun e w2 => (∃ v, e = .returned v) ∧ ∃ (d2 : Array Int) (q2 : Nat), PermIn 0 n d d2 ∧ SortedIn ltInt 0 n d2 ∧ w2 = (putRow eq2 w g 0 d2).drewN q2 from by
      refine (merge_q n cap (by omega) n w' g 0 20 n dk (by rw [hw]; exact holds_row hH hp.1 q) (by rw [hp.1, hs]) (hq.perm (by omega) hp) (by omega) h20 (Nat.le_refl _) (by omega) s1 s2).mono ?_
      rintro e w2 ⟨hv, d2, q2, i1, i2, hw2⟩
      exact ⟨hv, d2, q + q2, permIn_trans _ _ _ _ _ hp i1, i2, by rw [hw2, hw, putRow_over w g q dk _ i1.1, drew_drew]⟩))
  clear st hH hs hq
  go_enter Try.func117, Try.ntmps117
  go_wp2
  go_loopw [7, 8] (fun v7 v8 wr => ∃ (a q : Nat) (dk : Array Int), v7 = .int .i64 a ∧ v8 = .int .i64 ((a : Int) + 20) ∧ (a = 0 ∨ (a = 20 ∧ 20 ≤ n)) ∧ PermIn 0 n d dk ∧ SortedIn ltInt 0 a dk ∧ wr = (putRow eq2 w g 0 dk).drewN q) (fun v7 _ _ => 40 - (intOf v7).toNat)
  case atStart => exact ⟨0, 0, d, rfl, rfl, .inl rfl, permIn_refl _ _ _, sorted_one (by omega), ST.out⟩
  case round =>
    clear ST
    obtain ⟨a, q, dk, rfl, rfl, ha, hp, hso, hw⟩ := hrel
    have HA := Lib.hid ha
    have HP := Lib.hid hp
    have HO := Lib.hid hso
    have HW := Lib.hid hw
    have ha20 : a ≤ 20 := by omega
    obtain ⟨wo, rfl⟩ : ∃ wo : World, wo = wr := ⟨_, rfl⟩
    by_cases hb : a + 20 ≤ n
    · have ha0 : a = 0 := by omega
      have K := Lib.hid (INS.out wo dk q 0 20 hw hp (by omega) (by omega))
      clear ha hp hso hw HA HO
      subst ha0
      go_wp2_with fail
      refine K.out.mono ?_
      rintro e w2 ⟨⟨v, rfl⟩, d2, q2, p1, p2, p3, hw2⟩
      have H2 := Lib.hid (And.intro p2 (And.intro p3 hw2))
      clear p1 p2 p3 hw2
      go_wp2
      go_roundw
      case rel => exact ⟨20, q2, d2, by go_num, by go_num, .inr ⟨rfl, by omega⟩, H2.out.1, H2.out.2.1, H2.out.2.2⟩
      case measure => simp [intOf]
    · have K := Lib.hid (INS.out wo dk q a n hw hp (by omega) (Nat.le_refl _))
      clear ha hp hso hw
      go_wp2_with fail
      refine K.out.mono ?_
      rintro e w2 ⟨⟨v, rfl⟩, d2, q2, p1, p2, p3, hw2⟩
      have H2 : Hid ((n ≤ 20 → SortedIn ltInt 0 n d2) ∧ (20 < n → SortedIn ltInt 0 20 d2 ∧ SortedIn ltInt 20 n d2) ∧ PermIn 0 n d d2 ∧ w2 = (putRow eq2 w g 0 d2).drewN q2) := by
        have ha := HA.out
        have hso' : SortedIn ltInt 0 a d2 := SortedIn.keep HO.out fun p h1 h2 => p1.2.1 p (.inl h2)
        refine ⟨fun h => ?_, fun h => ?_, p2, hw2⟩
        · rcases ha with h0 | ⟨h0, h1⟩
          · rw [h0] at p3; exact p3
          · have : n = 20 := by omega
            rw [h0] at hso'; rw [this]; exact hso'
        · have h0 : a = 20 := by omega
          rw [h0] at hso' p3
          exact ⟨hso', p3⟩
      clear p1 p2 p3 hw2 K HA HP HO
      go_wp2_with fail
      go_loopw [6] (fun v6 wr => ∃ (k q : Nat) (dk : Array Int), v6 = .int .i64 k ∧ (k = 20 ∨ k = 40) ∧ Hid ((n ≤ k → SortedIn ltInt 0 n dk) ∧ (k < n → SortedIn ltInt 0 20 dk ∧ SortedIn ltInt 20 n dk) ∧ PermIn 0 n d dk) ∧ wr = (putRow eq2 w g 0 dk).drewN q) (fun v6 _ => 80 - (intOf v6).toNat)
      case atStart => exact ⟨20, q2, d2, rfl, .inl rfl, ⟨H2.out.1, H2.out.2.1, H2.out.2.2.1⟩, H2.out.2.2.2⟩
      case round =>
        clear H2
        obtain ⟨k, q3, d3, rfl, hk, HK, hw3⟩ := hrel
        have HW3 := Lib.hid hw3
        clear hw3
        obtain ⟨wo, rfl⟩ : ∃ wo : World, wo = wr := ⟨_, rfl⟩
        by_cases hkn : k < n
        · have hk2 : k = 20 := by omega
          have K := Lib.hid (MRG.out wo d3 q3 HW3.out HK.out.2.2 (by omega) (HK.out.2.1 hkn).1 (HK.out.2.1 hkn).2)
          clear HK
          subst hk2
          go_wp2_with fail
          go_loopw [7, 8] (fun v7 v8 wr => v7 = .int .i64 0 ∧ v8 = .int .i64 40 ∧ wr = wo) (fun v7 _ _ => 0)
          case atStart => exact ⟨rfl, rfl, rfl⟩
          case round =>
            obtain ⟨rfl, rfl, rfl⟩ := hrel
            go_wp2_with fail
            refine K.out.mono ?_
            rintro e w4 ⟨⟨v, rfl⟩, d4, q4, p1, p2, hw4⟩
            have H4 := Lib.hid (And.intro p1 (And.intro p2 hw4))
            clear p1 p2 hw4
            go_wp2
            go_roundw
            case rel => exact ⟨40, q4, d4, by go_num, .inr rfl, ⟨fun _ => H4.out.2.1, fun h => by omega, H4.out.1⟩, H4.out.2.2⟩
            case measure => simp [intOf]
        · go_wp2
          go_end0
          exact ⟨⟨_, rfl⟩, d3, q3, HK.out.2.2, HK.out.1 (by omega), HW3.out⟩

theorem sortStable_q (w : World) (g n cap : Nat) (d : Array Int) (hH : Holds eq2 w g 0 d) (hs : d.size = n) (hq : QB d) (hn : n < 40) :
    Calls Try.prog 107 #[.slice (some ⟨g, 0, none⟩) n cap, .func (.func 108) #[] #[]] w fun e w' => (∃ v, e = .returned v) ∧ ∃ (d' : Array Int) (q : Nat), PermIn 0 n d d' ∧ SortedIn ltInt 0 n d' ∧ w' = (putRow eq2 w g 0 d').drewN q := by
  have K := Lib.hid (stable_q w g n cap d hH hs hq hn)
  clear hH hs hq
  go_enter Try.func107, Try.ntmps107
  go_wp2_with fail
  refine K.out.mono ?_
  rintro e w2 ⟨⟨v, rfl⟩, d2, q2, h⟩
  have H := Lib.hid h
  clear h
  go_wp2
  go_end0
  exact ⟨⟨_, rfl⟩, d2, q2, H.out⟩

end Go.Proofs.Ytmpbnmmpniganaa
