/- The program's reading of one whole number. -/
import Derived.Test.YtjibghjongplpaaDoorCf
namespace Go.Proofs.YtjibghjongplpaaDoor
section
open Go.RowKit
set_option maxRecDepth 100000
set_option linter.unusedVariables false
set_option linter.unusedSimpArgs false

/-- impl.Decimal of a whole number of either sign. -/
theorem dec_int (w : World) (n : Int) (h1 : -9223372036854775808 ≤ n) (h2 : n ≤ 9223372036854775807) (ht : TabT w) :
    Calls Tryd.prog 38 #[.int .i64 n] w fun e w' => e = .returned (.string ⟨(Lib.itoa n).toArray⟩) ∧ Below w.heap.size w w' := by
  have K := Lib.hid (Tryd.strconv_FormatInt_10 n (by omega) (by omega) w ht)
  go_enter Tryd.func38, Tryd.ntmps38
  go_wp2_with fail
  refine K.out.mono ?_
  rintro e w' ⟨rfl, k, os, rfl⟩
  have hb : Below w.heap.size w (Go.Sort.grow (w.drewN k) os) := below_grow w k os
  have HB := Lib.hid hb
  clear hb
  go_wp2_with fail
  go_ret
  exact ⟨rfl, HB.out⟩

/-- The two error values of the package strconv. -/
def ErrT (w : World) : Prop := (∃ te pe, w.cell? ⟨3, 0, none⟩ = some (.iface te pe)) ∧ ∃ te pe, w.cell? ⟨4, 0, none⟩ = some (.iface te pe)
theorem ErrT.below {w w' : World} (h : ErrT w) (hb : Below w.heap.size w w') : ErrT w' := by
  obtain ⟨⟨a, b, h1⟩, c, d, h2⟩ := h
  exact ⟨⟨a, b, (hb.cell (p := ⟨3, 0, none⟩) (World.block_lt_of_cell? _ _ h1)).trans h1⟩, c, d, (hb.cell (p := ⟨4, 0, none⟩) (World.block_lt_of_cell? _ _ h2)).trans h2⟩

/-- strconv.ParseInt of any text: the number and no error, or an error. -/
theorem parse_any (w : World) (s : ByteArray) (hs : s.size ≤ 2000000) (he : ErrT w) :
    Calls Tryd.prog 58 #[.string s, .int .i64 10, .int .i64 64] w fun e w' => Below w.heap.size w w' ∧ ((∃ v, Lib.parseIntB 64 s.data.toList = .ok v ∧ e = .returned (.tuple #[.int .i64 v, .nilIface])) ∨ ((∀ v, Lib.parseIntB 64 s.data.toList ≠ .ok v) ∧ ∃ v t q, e = .returned (.tuple #[.int .i64 v, .iface t q]))) := by
  obtain ⟨⟨a, b, h1⟩, c, d, h2⟩ := he
  rcases hp : Lib.parseIntB 64 s.data.toList with v | _ | _
  · refine (Tryd.strconv_ParseInt_10_at64_ok s (by omega) v hp w).mono ?_
    rintro e w' ⟨rfl, hw⟩
    refine ⟨?_, .inl ⟨v, rfl, rfl⟩⟩
    rcases hw with rfl | ⟨t, rfl⟩
    · exact Below.refl _ _
    · exact Lib.bytesWorld_below _ _ _
  · refine (Any.strconv_ParseInt_10_at64_syntax Tryd.laysC174 s (by omega) hp _ w h1 (.inr ⟨_, _, rfl⟩)).mono ?_
    rintro e w' ⟨N, rfl, -, -, hb⟩
    exact ⟨hb, .inr ⟨by simp, _, _, _, rfl⟩⟩
  · refine (Tryd.strconv_ParseInt_10_at64_range s (by omega) hp _ w h2 (.inr ⟨_, _, rfl⟩)).mono ?_
    rintro e w' ⟨N, rfl, -, -, hb⟩
    exact ⟨hb, .inr ⟨by simp, _, _, _, rfl⟩⟩
end

section
open Go.RowKit
set_option maxRecDepth 100000
set_option linter.unusedVariables false
set_option linter.unusedSimpArgs false

theorem readDec_any (w : World) (s : ByteArray) (hs : s.size ≤ 2000000) (he : ErrT w) (ht : TabT w) :
    Calls Tryd.prog 39 #[.string s] w fun e w' => e = .returned (.tuple #[.int .i64 (valD s.data.toList).1, .bool (valD s.data.toList).2]) ∧ Below w.heap.size w w' := by
  obtain ⟨rv, hrv⟩ : ∃ rv, rv = (valD s.data.toList).1 := ⟨_, rfl⟩
  obtain ⟨rb, hrb⟩ : ∃ rb, rb = (valD s.data.toList).2 := ⟨_, rfl⟩
  rw [← hrv, ← hrb]
  have HR := Lib.hid (And.intro hrv hrb)
  clear hrv hrb
  have KP := Lib.hid (parse_any w s hs he)
  have HT := Lib.hid ht
  clear he ht
  go_enter Tryd.func39, Tryd.ntmps39
  go_wp2_with fail
  refine KP.out.mono ?_
  rintro e w1 ⟨hb, ⟨v, hv, rfl⟩ | ⟨hno, v, t, q, rfl⟩⟩
  · have HV := Lib.hid hv
    have HB := Lib.hid hb
    clear hv hb KP
    by_cases hin : -1000000000000000 ≤ v ∧ v ≤ 1000000000000000
    · have KI := Lib.hid (fun W => in_yes v (-1000000000000000) 1000000000000000 hin.1 hin.2 W)
      have KD := Lib.hid (dec_int w1 v (by omega) (by omega) (HT.out.below HB.out))
      have HIN := Lib.hid hin
      clear hin
      go_wp2_with fail
      refine (KI.out _).mono ?_
      rintro e w2 ⟨rfl, rfl⟩
      go_wp2_with fail
      refine KD.out.mono ?_
      rintro e w3 ⟨rfl, hb3⟩
      have H3 := Lib.hid (HB.out.trans (hb3.mono HB.out.size))
      clear hb3
      by_cases he : Lib.itoa v = s.data.toList
      · have hs2 : (⟨(Lib.itoa v).toArray⟩ : ByteArray) = s := by rw [he]
        have hval : valD s.data.toList = (v, true) := by unfold valD; rw [HV.out]; simp only; rw [if_pos ⟨HIN.out, he⟩]
        have HVV := Lib.hid hval
        have hss : (s.toList == s.toList) = true := by simp
        rw [hs2]
        clear he hs2 hval
        go_wp2_with fail
        go_ret2
        exact ⟨by rw [HR.out.1, HR.out.2, HVV.out]; rfl, H3.out⟩
      · have hval : valD s.data.toList = (0, false) := by unfold valD; rw [HV.out]; simp only; rw [if_neg (fun h => he h.2)]
        obtain ⟨u, hu⟩ : ∃ u : ByteArray, (⟨(Lib.itoa v).toArray⟩ : ByteArray) = u := ⟨_, rfl⟩
        have hul : u.data.toList = Lib.itoa v := by rw [← hu]
        have hus : (u.toList == s.toList) = false := by
          rw [beq_eq_false_iff_ne]
          intro e
          apply he
          rw [← hul, ← Lib.toList_data, ← Lib.toList_data, e]
        have HVV := Lib.hid hval
        rw [hu]
        clear he hu hul hval
        go_wp2_with fail
        go_ret2
        exact ⟨by rw [HR.out.1, HR.out.2, HVV.out]; rfl, H3.out⟩
    · have hval : valD s.data.toList = (0, false) := by unfold valD; rw [HV.out]; simp only; rw [if_neg (fun h => hin h.1)]
      have KI := Lib.hid (fun W => in_any v (-1000000000000000) 1000000000000000 W)
      rw [show (decide (-1000000000000000 ≤ v) && decide (v ≤ 1000000000000000)) = false from by rw [← Bool.decide_and, decide_eq_false hin]] at KI
      have HVV := Lib.hid hval
      clear hin hval
      go_wp2_with fail
      refine (KI.out _).mono ?_
      rintro e w2 ⟨rfl, rfl⟩
      go_wp2_with fail
      go_ret2
      exact ⟨by rw [HR.out.1, HR.out.2, HVV.out]; rfl, HB.out⟩
  · have hval : valD s.data.toList = (0, false) := by
      unfold valD
      rcases hp : Lib.parseIntB 64 s.data.toList with v | _ | _
      · exact absurd hp (hno v)
      · rfl
      · rfl
    have HB := Lib.hid hb
    have HVV := Lib.hid hval
    clear hval hno hb
    go_wp2_with fail
    go_ret2
    exact ⟨by rw [HR.out.1, HR.out.2, HVV.out]; rfl, HB.out⟩
end

end Go.Proofs.YtjibghjongplpaaDoor
