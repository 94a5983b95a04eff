/- The reference's reading of one whole number: spec.l01Value. -/
import Derived.Test.YtcppoadeelnphaaDoorCk
import Derived.Test.YtcppoadeelnphaaDoorSz
namespace Go.Proofs.YtcppoadeelnphaaDoor
open Go.RowKit
set_option maxRecDepth 100000
set_option linter.unusedVariables false
set_option linter.unusedSimpArgs false

theorem digF_lt (l : List UInt8) : ∀ i, digF (l.take i) < 10 ^ i
  | 0 => by simp [digF]
  | i + 1 => by
    have ih := digF_lt l i
    by_cases h : i < l.length
    · rw [List.take_succ_eq_append_getElem h, digF_snoc, Nat.pow_succ]
      split <;> omega
    · rw [List.take_of_length_le (by omega)]
      rw [List.take_of_length_le (by omega)] at ih
      rw [Nat.pow_succ]; omega
theorem digF_next {s : ByteArray} {i : Nat} (h : i < s.size) : digF (s.data.toList.take (i + 1)) = if 48 ≤ byteN s i ∧ byteN s i ≤ 57 then 10 * digF (s.data.toList.take i) + (byteN s i - 48) else digF (s.data.toList.take i) := by
  have hl : i < s.data.toList.length := by rw [ba_size]; exact h
  rw [List.take_succ_eq_append_getElem hl, digF_snoc]
  have hb : byteN s i = s.data.toList[i].toNat := by
    unfold byteN
    rw [List.getD_eq_getElem?_getD, List.getElem?_eq_getElem hl, Option.getD_some]
  rw [hb]
theorem byte0 {s : ByteArray} (h : 0 < s.size) : (s.data.toList.head? = some 45) ↔ byteN s 0 = 45 := by
  have hl : 0 < s.data.toList.length := by rw [ba_size]; exact h
  unfold byteN
  rw [List.head?_eq_getElem?, List.getD_eq_getElem?_getD, List.getElem?_eq_getElem hl, Option.getD_some, Option.some.injEq, ← UInt8.toNat_inj]
  rfl

set_option maxHeartbeats 2000000 in
theorem s01Value_any (w : World) (s : ByteArray) (hs : s.size ≤ 2000000) :
    Calls Tryd.prog 47 #[.string s] w fun e w' => e = .returned (.tuple #[.int .i64 (valD s.data.toList).1, .bool (valD s.data.toList).2]) ∧ Below w.heap.size w w' := by
  obtain ⟨rv, hrv⟩ : ∃ rv, rv = valD s.data.toList := ⟨_, rfl⟩
  rw [← hrv]
  rw [← valS_eq] at hrv
  have hln : s.data.toList.length = s.size := ba_size s
  by_cases h1 : s.size < 1
  · have hval : rv = (0, false) := by rw [hrv]; unfold valS; rw [if_neg (by rintro ⟨⟨h2, _⟩, _⟩; omega)]
    subst hval
    have hc : (s.size : Int) < 1 := by omega
    clear hrv hln hs h1
    go_enter Tryd.func47, Tryd.ntmps47
    go_wp2_with fail
    go_ret2
    exact ⟨rfl, Below.refl _ _⟩
  by_cases h2 : 17 < s.size
  · have hval : rv = (0, false) := by rw [hrv]; unfold valS; rw [if_neg (by rintro ⟨⟨_, h3⟩, _⟩; omega)]
    subst hval
    have hc : decide ((s.size : Int) < 1) = false := decide_eq_false (by omega)
    have hc2 : decide ((17 : Int) < (s.size : Int)) = true := decide_eq_true (by omega)
    clear hrv hln h1 h2
    go_enter Tryd.func47, Tryd.ntmps47
    go_wp2_with fail
    go_ret2
    exact ⟨rfl, Below.refl _ _⟩
  obtain ⟨n, hn⟩ : ∃ n, s.size = n := ⟨_, rfl⟩
  have HS := Lib.hid hn
  have hc : decide ((s.size : Int) < 1) = false := decide_eq_false (by omega)
  have hc2 : decide ((17 : Int) < (s.size : Int)) = false := decide_eq_false (by omega)
  have hn1 : 1 ≤ n := by omega
  have hn17 : n ≤ 17 := by omega
  obtain ⟨l, hl⟩ : ∃ l, l = s.data.toList := ⟨_, rfl⟩
  have HL := Lib.hid hl
  have HR := Lib.hid hrv
  have HLN := Lib.hid hln
  rw [hn] at hc hc2
  clear hrv hln h1 h2 hs hl
  go_enter Tryd.func47, Tryd.ntmps47
  go_wp2_with fail
  go_loopw [4, 5] (fun v3 v4 wr => ∃ i : Nat, v4 = .int .i64 i ∧ i ≤ n ∧ v3 = .int .i64 (digF (l.take i) : Nat) ∧ wr = w) (fun _ v4 _ => n - (intOf v4).toNat)
  case atStart => exact ⟨0, rfl, Nat.zero_le _, rfl, rfl⟩
  case round =>
    obtain ⟨i, rfl, hi, rfl, rfl⟩ := hrel
    by_cases hlt : i < n
    · have hltI : (i : Int) < (n : Int) := by omega
      have hx0 : ∀ W', (Instr.index 9 (.string s) (.int .i64 (i : Int))).run Tryd.prog W' = .ok (.int .u8 ((byteN s i : Nat) : Int)) W' := fun W' => by
        have := idx_at W' s (i : Int) (by omega) (by rw [HS.out]; omega)
        rwa [Int.toNat_natCast] at this
      have hnx := digF_next (s := s) (i := i) (by rw [HS.out]; exact hlt)
      rw [← HL.out] at hnx
      have hb := byteN_lt s i
      have hdl := digF_lt l i
      have hd17 : digF (l.take i) < 100000000000000000 := Nat.lt_of_lt_of_le hdl (Nat.le_trans (Nat.pow_le_pow_right (by omega) (show i ≤ 17 by omega)) (by decide))
      have HNX := Lib.hid hnx
      obtain ⟨m, hm⟩ : ∃ m, digF (l.take i) = m := ⟨_, rfl⟩
      rw [hm] at hd17 hnx HNX
      obtain ⟨b, hbb⟩ : ∃ b, byteN s i = b := ⟨_, rfl⟩
      rw [hbb] at hx0 hb hnx HNX
      have hmI : (m : Int) < 100000000000000000 := by omega
      have hbI : (b : Int) < 256 := by omega
      rw [hm]
      clear hm hbb hdl hnx hd17
      by_cases g1 : 48 ≤ b
      · by_cases g2 : b ≤ 57
        · have g1I : (48 : Int) ≤ (b : Int) := by omega
          have g2I : (b : Int) ≤ 57 := by omega
          have e : digF (l.take (i + 1)) = 10 * m + (b - 48) := by rw [HNX.out, if_pos ⟨g1, g2⟩]
          have HE := Lib.hid e
          have wb : IntKind.u8.wrap ((b : Int) - 48) = ((b - 48 : Nat) : Int) := by
            simp [IntKind.wrap, IntKind.bits, IntKind.signed]; omega
          obtain ⟨c, hc⟩ : ∃ c, b - 48 = c := ⟨_, rfl⟩
          rw [hc] at wb HE
          have hcI : (c : Int) ≤ 9 := by omega
          clear e hc
          go_wp2_with fail
          go_roundw
          case rel => exact ⟨i + 1, by go_num, by omega, by rw [HE.out]; push_cast; rfl, trivial⟩
          case measure => simp [intOf]; omega
        · have g2I : ¬ (b : Int) ≤ 57 := by omega
          have g1I : (48 : Int) ≤ (b : Int) := by omega
          have e : digF (l.take (i + 1)) = m := by rw [HNX.out, if_neg (fun h => g2 h.2)]
          have HE := Lib.hid e
          clear e
          go_wp2_with fail
          go_roundw
          case rel => exact ⟨i + 1, by go_num, by omega, by rw [HE.out], trivial⟩
          case measure => simp [intOf]; omega
      · have g1I : ¬ (48 : Int) ≤ (b : Int) := by omega
        have e : digF (l.take (i + 1)) = m := by rw [HNX.out, if_neg (fun h => g1 h.1)]
        have HE := Lib.hid e
        clear e
        go_wp2_with fail
        go_roundw
        case rel => exact ⟨i + 1, by go_num, by omega, by rw [HE.out], trivial⟩
        case measure => simp [intOf]; omega
    · obtain rfl : i = n := by omega
      have htk : l.take i = l := by rw [List.take_of_length_le (by have h1 := HLN.out; have h2 := HS.out; have h3 := HL.out; rw [h3]; omega)]
      have hd17 : digF l < 100000000000000000 := by
        have := digF_lt l i
        rw [htk] at this
        exact Nat.lt_of_lt_of_le this (Nat.le_trans (Nat.pow_le_pow_right (by omega) (show i ≤ 17 by omega)) (by decide))
      rw [htk]
      have hx0 : ∀ W', (Instr.index 9 (.string s) (.int .i64 0)).run Tryd.prog W' = .ok (.int .u8 ((byteN s 0 : Nat) : Int)) W' := fun W' => idx_at W' s 0 (by omega) (by rw [HS.out]; omega)
      have hb := byteN_lt s 0
      have hh := byte0 (s := s) (by rw [HS.out]; omega)
      obtain ⟨v, hv⟩ : ∃ v, v = sgnF l := ⟨_, rfl⟩
      have hval : rv = if (-1000000000000000 ≤ v ∧ v ≤ 1000000000000000) ∧ Lib.itoa v = l then (v, true) else (0, false) := by
        rw [HR.out, hv, HL.out]
        unfold valS
        have h1 : 1 ≤ s.data.toList.length ∧ s.data.toList.length ≤ 17 := by rw [HLN.out, HS.out]; omega
        simp only [h1, and_self, true_and]
      have HV := Lib.hid hval
      obtain ⟨m, hm⟩ : ∃ m, digF l = m := ⟨_, rfl⟩
      rw [hm] at hd17 ⊢
      have hv2 : v = if byteN s 0 = 45 then -(m : Int) else (m : Int) := by
        rw [hv]
        unfold sgnF
        rw [hm, HL.out]
        by_cases h : byteN s 0 = 45
        · rw [if_pos (hh.2 h), if_pos h]
        · rw [if_neg (fun g => h (hh.1 g)), if_neg h]
      have hmI : (m : Int) < 100000000000000000 := by omega
      obtain ⟨b, hbb⟩ : ∃ b, byteN s 0 = b := ⟨_, rfl⟩
      rw [hbb] at hx0 hb hv2
      have KD := Lib.hid (fun W h1 h2 => s01DecI_any W v h1 h2)
      have hsl : (s.toList) = l := by rw [HL.out, ba_toList]
      have HSL := Lib.hid hsl
      clear hv hh hval hm hbb htk hlt hd17 hi hn1 hn17 hc hc2 hsl
      have KI := Lib.hid (fun W => s00In_any v (-1000000000000000) 1000000000000000 W)
      by_cases hb45 : b = 45
      · subst hb45
        rw [if_pos rfl] at hv2
        have wn : -(m : Int) = v := hv2.symm
        have hvI : -100000000000000000 < v := by omega
        have hvI0 : v ≤ 0 := by omega
        clear hv2
        by_cases hin : -1000000000000000 ≤ v ∧ v ≤ 1000000000000000
        · rw [decide_eq_true hin.1, decide_eq_true hin.2] at KI
          have KD2 := Lib.hid (KD.out wr hin.1 hin.2)
          have HIN := Lib.hid hin
          clear hin KD
          by_cases he : Lib.itoa v = l
          · have hr2 : rv = (v, true) := by rw [HV.out, if_pos ⟨HIN.out, he⟩]
            subst hr2
            have hsv : (⟨(Lib.itoa v).toArray⟩ : ByteArray) = s := by rw [he, HL.out]
            rw [hsv] at KD2
            have hss : (s.toList == s.toList) = true := by simp
            clear he hsv
            go_wp2_with fail
            refine (KI.out _).mono ?_
            rintro e w1 ⟨rfl, rfl⟩
            go_wp2_with fail
            refine KD2.out.mono ?_
            rintro e w1 ⟨rfl, hb1⟩
            have HB := Lib.hid hb1
            clear hb1
            go_wp2_with fail
            go_ret2
            exact ⟨rfl, HB.out⟩
          · have hr2 : rv = (0, false) := by rw [HV.out, if_neg (fun h => he h.2)]
            subst hr2
            obtain ⟨t, ht⟩ : ∃ t : ByteArray, (⟨(Lib.itoa v).toArray⟩ : ByteArray) = t := ⟨_, rfl⟩
            rw [ht] at KD2
            have hss : (t.toList == s.toList) = false := by
              rw [beq_eq_false_iff_ne]
              intro e
              apply he
              rw [HSL.out, ba_toList, ← ht] at e
              exact e
            clear he ht
            go_wp2_with fail
            refine (KI.out _).mono ?_
            rintro e w1 ⟨rfl, rfl⟩
            go_wp2_with fail
            refine KD2.out.mono ?_
            rintro e w1 ⟨rfl, hb1⟩
            have HB := Lib.hid hb1
            clear hb1
            go_wp2_with fail
            go_ret2
            exact ⟨rfl, HB.out⟩
        · have hr2 : rv = (0, false) := by rw [HV.out, if_neg (fun h => hin h.1)]
          subst hr2
          rw [show (decide (-1000000000000000 ≤ v) && decide (v ≤ 1000000000000000)) = false from by rw [← Bool.decide_and, decide_eq_false hin]] at KI
          clear hin KD
          go_wp2_with fail
          refine (KI.out _).mono ?_
          rintro e w1 ⟨rfl, rfl⟩
          go_wp2_with fail
          go_ret2
          exact ⟨rfl, Below.refl _ _⟩
      · rw [if_neg hb45] at hv2
        subst hv2
        have hb45I : ((b : Int) == 45) = false := by rw [beq_eq_false_iff_ne]; omega
        have hb45J : ¬ (b : Int) = 45 := by omega
        by_cases hin : -1000000000000000 ≤ (m : Int) ∧ (m : Int) ≤ 1000000000000000
        · rw [decide_eq_true hin.1, decide_eq_true hin.2] at KI
          have KD2 := Lib.hid (KD.out wr hin.1 hin.2)
          have HIN := Lib.hid hin
          clear hin KD
          by_cases he : Lib.itoa (m : Int) = l
          · have hr2 : rv = ((m : Int), true) := by rw [HV.out, if_pos ⟨HIN.out, he⟩]
            subst hr2
            have hsv : (⟨(Lib.itoa (m : Int)).toArray⟩ : ByteArray) = s := by rw [he, HL.out]
            rw [hsv] at KD2
            have hss : (s.toList == s.toList) = true := by simp
            clear he hsv
            go_wp2_with fail
            refine (KI.out _).mono ?_
            rintro e w1 ⟨rfl, rfl⟩
            go_wp2_with fail
            refine KD2.out.mono ?_
            rintro e w1 ⟨rfl, hb1⟩
            have HB := Lib.hid hb1
            clear hb1
            go_wp2_with fail
            go_ret2
            exact ⟨rfl, HB.out⟩
          · have hr2 : rv = (0, false) := by rw [HV.out, if_neg (fun h => he h.2)]
            subst hr2
            obtain ⟨t, ht⟩ : ∃ t : ByteArray, (⟨(Lib.itoa (m : Int)).toArray⟩ : ByteArray) = t := ⟨_, rfl⟩
            rw [ht] at KD2
            have hss : (t.toList == s.toList) = false := by
              rw [beq_eq_false_iff_ne]
              intro e
              apply he
              rw [HSL.out, ba_toList, ← ht] at e
              exact e
            clear he ht
            go_wp2_with fail
            refine (KI.out _).mono ?_
            rintro e w1 ⟨rfl, rfl⟩
            go_wp2_with fail
            refine KD2.out.mono ?_
            rintro e w1 ⟨rfl, hb1⟩
            have HB := Lib.hid hb1
            clear hb1
            go_wp2_with fail
            go_ret2
            exact ⟨rfl, HB.out⟩
        · have hr2 : rv = (0, false) := by rw [HV.out, if_neg (fun h => hin h.1)]
          subst hr2
          rw [show (decide (-1000000000000000 ≤ (m : Int)) && decide ((m : Int) ≤ 1000000000000000)) = false from by rw [← Bool.decide_and, decide_eq_false hin]] at KI
          clear hin KD
          go_wp2_with fail
          refine (KI.out _).mono ?_
          rintro e w1 ⟨rfl, rfl⟩
          go_wp2_with fail
          go_ret2
          exact ⟨rfl, Below.refl _ _⟩

end Go.Proofs.YtcppoadeelnphaaDoor
