/- A stable sort of quarters: merges. -/
import Derived.Test.YtmpbnmmpniganaaYf
import Derived.Deep.CutRange
namespace Go.Proofs.Ytmpbnmmpniganaa
open Go.RowKit Go.Sort
set_option maxRecDepth 100000
set_option linter.unusedVariables false
set_option linter.unusedSimpArgs false

/-- What a merge of two sorted neighbours tells. -/
def MergeOk (n cap L : Nat) : Prop := ∀ (w : World) (g a m b : Nat) (d : Array Int), Holds eq2 w g 0 d → d.size = n → QB d → a < m → m < b → b ≤ n → b - a ≤ L → SortedIn ltInt a m d → SortedIn ltInt m b d →
    Calls Try.prog 127 #[.slice (some ⟨g, 0, none⟩) n cap, .int .i64 a, .int .i64 m, .int .i64 b, .func (.func 108) #[] #[]] w fun e w' => (∃ v, e = .returned v) ∧ ∃ (d' : Array Int) (q : Nat), PermIn a b d d' ∧ SortedIn ltInt a b d' ∧ w' = (putRow eq2 w g 0 d').drewN q

set_option maxHeartbeats 4000000 in
theorem mergeC_q (n cap L : Nat) (hn : n ≤ 64) (IH : Hid (MergeOk n cap L)) (w : World) (g a m b : Nat) (d : Array Int) (hH : Holds eq2 w g 0 d) (hs : d.size = n) (hq : QB d) (ma : Nat) (hma0 : (m : Int) - (a : Int) = (ma : Int)) (hma1 : ((ma : Int) == 1) = false) (hma2 : 0 < ma)
    (mb : Nat) (hmb0 : (b : Int) - (m : Int) = (mb : Int)) (hmb1 : ((mb : Int) == 1) = false) (hmb2 : 0 < mb) (hbn : b ≤ n) (hL : b - a ≤ L + 1) (hsl : SortedIn ltInt a m d) (hsr : SortedIn ltInt m b d) :
    Calls Try.prog 127 #[.slice (some ⟨g, 0, none⟩) n cap, .int .i64 a, .int .i64 m, .int .i64 b, .func (.func 108) #[] #[]] w fun e w' => (∃ v, e = .returned v) ∧ ∃ (d' : Array Int) (q : Nat), PermIn a b d d' ∧ SortedIn ltInt a b d' ∧ w' = (putRow eq2 w g 0 d').drewN q := by
  have st : w = (putRow eq2 w g 0 d).drewN 0 := (putRow_self eq2 w g 0 d hH).symm
  have ST := Lib.hid st
  have HH := Lib.hid hH
  have HS := Lib.hid hs
  have HQ := Lib.hid hq
  have HSL := Lib.hid hsl
  have HSR := Lib.hid hsr
  have k1 : ma ≠ 1 := by intro e; subst e; simp at hma1
  have k2 : mb ≠ 1 := by intro e; subst e; simp at hmb1
  obtain ⟨mid, hmid⟩ : ∃ mid : Nat, ((a : Int) + (b : Int)) / 2 = (mid : Int) := ⟨(a + b) / 2, by omega⟩
  obtain ⟨nn, hnn⟩ : ∃ nn : Nat, (mid : Int) + (m : Int) = (nn : Int) := ⟨mid + m, by omega⟩
  obtain ⟨p, hp1⟩ : ∃ p : Nat, (nn : Int) - 1 = (p : Int) := ⟨nn - 1, by omega⟩
  have hnp : nn = p + 1 := by omega
  have HNP := Lib.hid hnp
  have hb0 : a + 1 < m := by omega
  have hb1 : m + 1 < b := by omega
  have hb2 : a < mid := by omega
  have hb3 : mid < b := by omega
  have hsum : nn = mid + m := by omega
  have hrnd : 2 * mid ≤ a + b := by omega
  have hrnd2 : a + b ≤ 2 * mid + 1 := by omega
  have HSUM := Lib.hid (And.intro hsum (And.intro hrnd hrnd2))
  have hnb : nn ≤ 128 := by omega
  clear st hH hs hq hsl hsr hnp hsum hrnd hrnd2
  by_cases hgt : mid < m
  case' pos =>
    have hsum := HSUM.out
    obtain ⟨s0, hs0⟩ : ∃ s0 : Nat, (nn : Int) - (b : Int) = (s0 : Int) := ⟨nn - b, by omega⟩
    have H0 : Hid (∃ r0, s0 = nn - b ∧ r0 = mid) := ⟨mid, by omega, rfl⟩
    have hs01 : a ≤ s0 := by omega
    have hs02 : s0 ≤ mid := by omega
    have HS0 : Hid (nn ≤ s0 + b ∧ nn - s0 = b ∧ nn - mid = m ∧ mid ≤ m) := by show _ ∧ _; omega
    clear hsum
  all_goals
    go_enter Try.func127, Try.ntmps127
    go_wp2
    go_loopw [20, 21] (fun v10 v11 wr => ∃ (i j q : Nat), v10 = .int .i64 i ∧ v11 = .int .i64 j ∧ a ≤ i ∧ i ≤ j ∧ j ≤ m ∧ j ≤ mid ∧ nn ≤ i + b ∧ Hid (i = a ∨ nn - i = b ∨ ltInt d[nn - i]! d[i - 1]! = false) ∧ Hid (j = m ∨ nn - j = m ∨ ltInt d[nn - j - 1]! d[j]! = true) ∧ wr = (putRow eq2 w g 0 d).drewN q) (fun v10 v11 _ => (intOf v11).toNat - (intOf v10).toNat)
    case atStart =>
      have hsum := HSUM.out
      first
        | exact ⟨s0, mid, 0, rfl, rfl, hs01, hs02, HS0.out.2.2.2, Nat.le_refl _, HS0.out.1, .inr (.inl HS0.out.2.1), .inr (.inl HS0.out.2.2.1), ST.out⟩
        | exact ⟨a, m, 0, rfl, rfl, Nat.le_refl _, by omega, Nat.le_refl _, by omega, by omega, .inl rfl, .inl rfl, ST.out⟩
    case round =>
      clear ST
      obtain ⟨i, j, q, rfl, rfl, hai, hij, hjm, hjmid, hnib, L1, L2, hw⟩ := hrel
      have hh := holds_row (w := w) (g := g) (d0 := d) (d := d) HH.out rfl q
      rw [← hw] at hh
      have HW := Lib.hid hw
      clear hw
      by_cases hlt : i < j
      · obtain ⟨c, hce⟩ : ∃ c : Nat, ((i : Int) + (j : Int)) / 2 = (c : Int) := ⟨(i + j) / 2, by omega⟩
        have hsum := HSUM.out
        have hnp := HNP.out
        obtain ⟨pc, hpc⟩ : ∃ pc : Nat, (p : Int) - (c : Int) = (pc : Int) := ⟨p - c, by omega⟩
        have hc1 : i ≤ c := by omega
        have hc2 : c < j := by omega
        have hc3 : pc < b := by omega
        have hn0 : d.size = n := HS.out
        obtain ⟨ch, fh⟩ := holds_at hh c (by omega)
        obtain ⟨ca, fa⟩ := holds_at hh pc (by omega)
        obtain ⟨X, hX⟩ : ∃ X, fq 2 d[c]! = X := ⟨_, rfl⟩
        obtain ⟨Y, hY⟩ : ∃ Y, fq 2 d[pc]! = Y := ⟨_, rfl⟩
        rw [hX] at ch
        rw [hY] at ca
        have e1 : nn - (c + 1) = pc := by omega
        have e2 : nn - c - 1 = pc := by omega
        have HE := Lib.hid (And.intro e1 e2)
        cases hl : ltInt d[pc]! d[c]!
        · obtain ⟨cc, hcc, kc⟩ := cmpF_ge hY hX (HQ.out _) (HQ.out _) hl
          have KC := Lib.hid kc
          have HL := Lib.hid hl
          clear hX hY hl kc hh hn0 hsum hnp e1 e2
          go_wp2
          go_quiet (with_reducible exact KC.out _ _)
          go_wp2
          go_roundw
          case rel => exact ⟨c + 1, j, q + nq, by go_num, rfl, by omega, by omega, hjm, hjmid, by omega, .inr (.inr (by rw [HE.out.1, Nat.add_sub_cancel]; exact HL.out)), L2, by rw [HW.out, drew_drew]⟩
          case measure => simp [intOf]; omega
        · have kc := cmpF_lt hY hX (HQ.out _) (HQ.out _) hl
          have KC := Lib.hid kc
          have HL := Lib.hid hl
          clear hX hY hl kc hh hn0 hsum hnp e1 e2
          go_wp2
          go_quiet (with_reducible exact KC.out _ _)
          go_wp2
          go_roundw
          case rel => exact ⟨i, c, q + nq, rfl, rfl, hai, hc1, by omega, by omega, hnib, L1, .inr (.inr (by rw [HE.out.2]; exact HL.out)), by rw [HW.out, drew_drew]⟩
          case measure => simp [intOf]; omega
      · have hij2 : i = j := by omega
        subst hij2
        obtain ⟨wo, rfl⟩ : ∃ wo : World, wo = wr := ⟨_, rfl⟩
        have hsum := HSUM.out
        obtain ⟨e, hee⟩ : ∃ e : Nat, (nn : Int) - (i : Int) = (e : Int) := ⟨nn - i, by omega⟩
        have he : nn - i = e := by omega
        have hsp : Split a m b mid i e d := by
          have l1 := L1.out
          have l2 := L2.out
          rw [he] at l1 l2
          refine ⟨hai, hjmid, hjm, by omega, by omega, by omega, by omega, ?_, ?_⟩
          · rcases l1 with h | h | h
            · exact .inl h
            · exact .inr (.inl h)
            · exact .inr (.inr h)
          · rcases l2 with h | h | h
            · exact .inl h
            · exact .inr (.inl h)
            · exact .inr (.inr h)
        have HSP := Lib.hid hsp
        have hme : m ≤ e := hsp.h4
        have heb : e ≤ b := hsp.h5
        have hmide : mid ≤ e := hsp.h6
        have HSUM2 : Hid (i + e = mid + m) := hsp.sum
        clear hh hsp hsum he L1 L2
        obtain ⟨t1, ht1⟩ : ∃ t, decide (i < m ∧ m < e) = t := ⟨_, rfl⟩
        obtain ⟨t2, ht2⟩ : ∃ t, decide (a < i ∧ i < mid) = t := ⟨_, rfl⟩
        obtain ⟨t3, ht3⟩ : ∃ t, decide (mid < e ∧ e < b) = t := ⟨_, rfl⟩
        have HT1 := Lib.hid ht1
        have HT2 := Lib.hid ht2
        have HT3 := Lib.hid ht3
        clear ht1 ht2 ht3
        go_upto_region 39 with fail
        go_cut [185] from 178 to 185 (fun v185 wx => v185 = .bool t1 ∧ wx = wo)
        case first =>
          go_wp2_with fail
          all_goals
            go_meet
            refine ⟨congrArg Value.bool ?_, rfl⟩
            rw [← HT1.out]
            first
              | exact (decide_eq_false (by omega)).symm
              | (rw [Bool.eq_iff_iff]; simp only [decide_eq_true_eq]; omega)
        case rest =>
          obtain ⟨rfl, hwc⟩ := hcut
          rw [← hwc] at HW
          clear hwc
          go_upto_if 185 with fail
          go_cut [] from 186 to 191 (fun wx => ∃ (d1 : Array Int) (q1 : Nat), Hid (PermIn a b d d1 ∧ Rot i m e d d1) ∧ wx = (putRow eq2 w g 0 d1).drewN q1)
          case first =>
            cases t1
            · have hs := HSUM2.out
              have hro : ¬ (i < m ∧ m < e) := of_decide_eq_false HT1.out
              have hR : Rot i m e d d := by
                refine ⟨fun _ _ => rfl, fun k h1 h2 => ?_, fun k h1 h2 => ?_⟩
                · congr 1; omega
                · congr 1; omega
              have HR := Lib.hid hR
              clear hs hR hro
              go_wp2_with fail
              go_meet
              exact ⟨d, q, ⟨permIn_refl _ _ _, HR.out⟩, HW.out⟩
            · have hro : i < m ∧ m < e := of_decide_eq_true HT1.out
              have K := Lib.hid (rotate_q wc g n cap i m e (.func (.func 108) #[] #[]) d (by rw [HW.out]; exact holds_row HH.out rfl q) HS.out hro.1 hro.2 (by omega) hn)
              clear hro
              go_wp2_with fail
              refine K.out.mono ?_
              rintro e_ w2 ⟨⟨v, rfl⟩, d1, q1, hp1_, hr1, hw2⟩
              have H2 := Lib.hid (And.intro hp1_ (And.intro hr1 hw2))
              clear hp1_ hr1 hw2
              go_wp2_with fail
              go_meet
              exact ⟨d1, q + q1, ⟨permIn_mono d d1 i e a b hai heb (by rw [HS.out]; exact hbn) H2.out.1, H2.out.2.1⟩, by rw [H2.out.2.2, HW.out, putRow_over w g q d d1 H2.out.1.1, drew_drew]⟩
          case rest =>
            obtain ⟨d1, q1, HR, hw1⟩ := hcut
            have HW1 := Lib.hid hw1
            clear hw1
            have hz1 : d1.size = n := by rw [HR.out.1.1]; exact HS.out
            have HZ1 := Lib.hid hz1
            have HD := Lib.hid (HSP.out.done HSL.out HSR.out HR.out.2)
            clear hz1
            obtain ⟨wo, rfl⟩ : ∃ wo : World, wo = wc := ⟨_, rfl⟩
            have hq1 : QB d1 := HQ.out.perm (by rw [HS.out]; exact hbn) HR.out.1
            have HQ1 := Lib.hid hq1
            clear hq1
            go_upto_region 41 with fail
            go_cut [199] from 192 to 199 (fun v199 wx => v199 = .bool t2 ∧ wx = wo)
            case first =>
              go_wp2_with fail
              all_goals
                go_meet
                refine ⟨congrArg Value.bool ?_, rfl⟩
                rw [← HT2.out]
                first
                  | exact (decide_eq_false (by omega)).symm
                  | (rw [Bool.eq_iff_iff]; simp only [decide_eq_true_eq]; omega)
            case rest =>
              obtain ⟨rfl, hwc⟩ := hcut
              rw [← hwc] at HW1
              clear hwc
              go_upto_if 199 with fail
              go_cut [] from 200 to 205 (fun wx => ∃ (d2 : Array Int) (q2 : Nat), Hid (PermIn a mid d1 d2 ∧ SortedIn ltInt a mid d2) ∧ wx = (putRow eq2 w g 0 d2).drewN q2)
              case first =>
                cases t2
                · have hro : ¬ (a < i ∧ i < mid) := of_decide_eq_false HT2.out
                  have hso : SortedIn ltInt a mid d1 := by
                    have hd := HD.out
                    have : i = a ∨ i = mid := by omega
                    rcases this with h | h
                    · have := hd.2.1; rw [h] at this; exact this
                    · have := hd.1; rw [h] at this; exact this
                  have HSO := Lib.hid hso
                  clear hso hro
                  go_wp2_with fail
                  go_meet
                  exact ⟨d1, q1, ⟨permIn_refl _ _ _, HSO.out⟩, HW1.out⟩
                · have hro : a < i ∧ i < mid := of_decide_eq_true HT2.out
                  have K := Lib.hid (IH.out wc g a i mid d1 (by rw [HW1.out]; exact holds_row HH.out (by rw [HZ1.out, HS.out]) q1) HZ1.out HQ1.out hro.1 hro.2 (by omega) (by omega) HD.out.1 HD.out.2.1)
                  clear hro
                  go_wp2_with fail
                  refine K.out.mono ?_
                  rintro e_ w2 ⟨⟨v, rfl⟩, d2, q2, hp1_, hr1, hw2⟩
                  have H2 := Lib.hid (And.intro hp1_ (And.intro hr1 hw2))
                  clear hp1_ hr1 hw2
                  go_wp2_with fail
                  go_meet
                  exact ⟨d2, q1 + q2, ⟨H2.out.1, H2.out.2.1⟩, by rw [H2.out.2.2, HW1.out, putRow_over w g q1 d1 d2 H2.out.1.1, drew_drew]⟩
              case rest =>
                obtain ⟨d2, q2, HR2, hw2⟩ := hcut
                have HW2 := Lib.hid hw2
                clear hw2
                have HZ2 : Hid (d2.size = n) := HR2.out.1.1.trans HZ1.out
                have HQ2 : Hid (QB d2) := HQ1.out.perm (by rw [HZ1.out]; omega) HR2.out.1
                have HD2 : Hid (SortedIn ltInt mid e d2 ∧ SortedIn ltInt e b d2) := by
                  have hd := HD.out
                  have hp := HR2.out.1.2.1
                  refine ⟨fun x y h1 h2 h3 => ?_, fun x y h1 h2 h3 => ?_⟩
                  · rw [hp x (by omega), hp y (by omega)]; exact hd.2.2.1 x y h1 h2 h3
                  · rw [hp x (by omega), hp y (by omega)]; exact hd.2.2.2.1 x y h1 h2 h3
                obtain ⟨wo, rfl⟩ : ∃ wo : World, wo = wc := ⟨_, rfl⟩
                go_upto_region 43 with fail
                go_cut [213] from 206 to 213 (fun v213 wx => v213 = .bool t3 ∧ wx = wo)
                case first =>
                  go_wp2_with fail
                  all_goals
                    go_meet
                    refine ⟨congrArg Value.bool ?_, rfl⟩
                    rw [← HT3.out]
                    first
                      | exact (decide_eq_false (by omega)).symm
                      | (rw [Bool.eq_iff_iff]; simp only [decide_eq_true_eq]; omega)
                case rest =>
                  obtain ⟨rfl, hwc⟩ := hcut
                  rw [← hwc] at HW2
                  clear hwc
                  have FIN : Hid (∀ (w4 : World) (d3 : Array Int) (q3 : Nat), PermIn mid b d2 d3 → SortedIn ltInt mid b d3 → w4 = (putRow eq2 w g 0 d3).drewN q3 → ∃ (d' : Array Int) (q : Nat), PermIn a b d d' ∧ SortedIn ltInt a b d' ∧ w4 = (putRow eq2 w g 0 d').drewN q) := by
                    intro w4 d3 q3 hp hso hw
                    have hz := HZ1.out
                    have hz2 := HZ2.out
                    refine ⟨d3, q3, ?_, ?_, hw⟩
                    · exact permIn_trans _ _ _ _ _ HR.out.1 (permIn_trans _ _ _ _ _ (permIn_mono d1 d2 a mid a b (Nat.le_refl _) (by omega) (by omega) HR2.out.1) (permIn_mono d2 d3 mid b a b (by omega) (Nat.le_refl _) (by omega) hp))
                    · exact halves_sorted (by omega) (by omega) (by omega) HD.out.2.2.2.2 HR2.out.1 HR2.out.2 hp hso
                  cases t3
                  · have hro : ¬ (mid < e ∧ e < b) := of_decide_eq_false HT3.out
                    have hso : SortedIn ltInt mid b d2 := by
                      have hd := HD2.out
                      have : e = mid ∨ e = b := by omega
                      rcases this with h | h
                      · have := hd.2; rw [h] at this; exact this
                      · have := hd.1; rw [h] at this; exact this
                    have HSO := Lib.hid hso
                    clear hso hro
                    go_wp2
                    go_end0
                    exact ⟨⟨_, rfl⟩, FIN.out _ d2 q2 (permIn_refl _ _ _) HSO.out HW2.out⟩
                  · have hro : mid < e ∧ e < b := of_decide_eq_true HT3.out
                    have K := Lib.hid (IH.out wc g mid e b d2 (by rw [HW2.out]; exact holds_row HH.out (by rw [HZ2.out, HS.out]) q2) HZ2.out HQ2.out hro.1 hro.2 (by omega) (by omega) HD2.out.1 HD2.out.2)
                    clear hro
                    go_wp2_with fail
                    refine K.out.mono ?_
                    rintro e_ w2 ⟨⟨v, rfl⟩, d3, q3, hp1_, hr1, hw2⟩
                    have H2 := Lib.hid (And.intro hp1_ (And.intro hr1 hw2))
                    clear hp1_ hr1 hw2
                    go_wp2
                    go_end0
                    exact ⟨⟨_, rfl⟩, FIN.out _ d3 (q2 + q3) H2.out.1 H2.out.2.1 (by rw [H2.out.2.2, HW2.out, putRow_over w g q2 d2 d3 H2.out.1.1, drew_drew])⟩

theorem merge_q (n cap : Nat) (hn : n ≤ 64) : ∀ L, MergeOk n cap L
  | 0 => fun w g a m b d hH hs hq h1 h2 h3 h4 => by omega
  | L + 1 => by
    have ih := merge_q n cap hn L
    intro w g a m b d hH hs hq h1 h2 h3 h4 h5 h6
    by_cases c1 : (m : Int) - (a : Int) = 1
    · exact mergeA_q w g n cap a m b d hH hs hq c1 h2 h3 hn h6
    · obtain ⟨ma, hma⟩ : ∃ ma : Nat, (m : Int) - (a : Int) = (ma : Int) := ⟨m - a, by omega⟩
      by_cases c2 : (b : Int) - (m : Int) = 1
      · exact mergeB_q w g n cap a m b d hH hs hq ma hma (by rw [beq_eq_false_iff_ne]; omega) (by omega) c2 h3 hn h5
      · obtain ⟨mb, hmb⟩ : ∃ mb : Nat, (b : Int) - (m : Int) = (mb : Int) := ⟨b - m, by omega⟩
        exact mergeC_q n cap L hn ih w g a m b d hH hs hq ma hma (by rw [beq_eq_false_iff_ne]; omega) (by omega) mb hmb (by rw [beq_eq_false_iff_ne]; omega) (by omega) h3 h4 h5 h6

end Go.Proofs.Ytmpbnmmpniganaa
