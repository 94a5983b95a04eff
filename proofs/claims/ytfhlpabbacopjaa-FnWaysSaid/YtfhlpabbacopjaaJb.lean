/- Rows that are right: rowOk, the values of a row. -/
import Derived.Test.YtfhlpabbacopjaaIb
namespace Go.Proofs.Ytfhlpabbacopjaa
open Go.RowKit
set_option maxRecDepth 100000
set_option linter.unusedVariables false
set_option linter.unusedSimpArgs false

theorem rowCost1_any (W : World) (vb wd hi dp d : Nat) (sv : Value) (hd : d < dp) (hdp : dp ≤ 8) (hb : BoxN W vb #[.int .i64 wd, .int .i64 hi, .int .i64 dp, sv] 26) :
    Calls Try.prog 59 #[.int .i64 d, .pointer (some ⟨vb, 0, none⟩)] W fun e w' => e = .returned (.bool false) ∧ W = w' := by
  obtain ⟨z0, z1, z2, z3, -, -, -, -⟩ := hb.four
  have hin : (decide ((0 : Int) ≤ d) && decide ((d : Int) ≤ (dp : Int) - 1)) = true := by simp; omega
  have d8 : (dp : Int) ≤ 8 := by omega
  clear hb
  go_enter Try.func59, Try.ntmps59
  go_wp2_with fail
  refine (in_any _ _ _ _).mono ?_
  rw [hin]
  rintro e w' ⟨rfl, rfl⟩
  go_wp2
  go_ret
  exact ⟨rfl, rfl⟩

/-- The values of a row in memory. -/
def RowAt (W : World) (b off : Nat) (vs : List Nat) : Prop := ∀ i, i < vs.length → W.cell? ⟨b, off + i, none⟩ = some (.int .i64 (vs.getD i 0 : Nat))

theorem indexRow_none (w : World) (b off cap vb wd hi dp : Nat) (sv : Value) (vs : List Nat) (h : RowAt w b off vs) (hv : ∀ i, i < vs.length → vs.getD i 0 < dp) (hdp : dp ≤ 8) (hl : vs.length ≤ 1000) (hb : BoxN w vb #[.int .i64 wd, .int .i64 hi, .int .i64 dp, sv] 26) :
    Calls Try.prog 97 #[.slice (some ⟨b, off, none⟩) vs.length cap, .func (.func 59) #[] #[.pointer (some ⟨vb, 0, none⟩)]] w fun e w' => e = .returned (.int .i64 (-1)) ∧ w = w' := by
  unfold RowAt at h
  have HH := Lib.hid h
  have HV := Lib.hid hv
  have HB := Lib.hid hb
  clear h hv hb
  generalize hn : vs.length = n at *
  clear hn
  go_enter Try.func97, Try.ntmps97
  go_wp2_with fail
  go_loopw [8] (fun v8 wr => ∃ i : Nat, v8 = .int .i64 i ∧ i ≤ n ∧ wr = w) (fun v8 _ => n - (intOf v8).toNat)
  case atStart => exact ⟨0, rfl, Nat.zero_le _, rfl⟩
  case round =>
    obtain ⟨i, rfl, hi, rfl⟩ := hrel
    by_cases hlt : i < n
    · have k1 := HH.out i hlt
      have KR := Lib.hid (rowCost1_any wr vb wd _ dp (vs.getD i 0) sv (HV.out i hlt) hdp HB.out)
      generalize vs.getD i 0 = x at *
      go_wp2_with fail
      refine KR.out.mono ?_
      rintro e w1 ⟨rfl, rfl⟩
      go_wp2
      go_roundw
      case rel => exact ⟨i + 1, by go_num, by omega, by first | trivial | rfl⟩
      case measure => simp [intOf]; omega
    · have : i = n := by omega
      subst this
      go_wp2
      go_ret
      exact ⟨rfl, rfl⟩

theorem containsRow_no (w : World) (b off cap vb wd hi dp : Nat) (sv : Value) (vs : List Nat) (h : RowAt w b off vs) (hv : ∀ i, i < vs.length → vs.getD i 0 < dp) (hdp : dp ≤ 8) (hl : vs.length ≤ 1000) (hb : BoxN w vb #[.int .i64 wd, .int .i64 hi, .int .i64 dp, sv] 26) :
    Calls Try.prog 58 #[.slice (some ⟨b, off, none⟩) vs.length cap, .func (.func 59) #[] #[.pointer (some ⟨vb, 0, none⟩)]] w fun e w' => e = .returned (.bool false) ∧ w = w' := by
  have K := Lib.hid (indexRow_none w b off cap vb wd hi dp sv vs h hv hdp hl hb)
  clear h hv hb
  generalize vs.length = n at *
  go_enter Try.func58, Try.ntmps58
  go_wp2_with fail
  refine K.out.mono ?_
  rintro e w1 ⟨rfl, rfl⟩
  go_wp2
  go_ret
  exact ⟨rfl, rfl⟩

theorem rowOk_yes (w : World) (wd hi dp Nv y : Nat) (sv : Option Addr) (cv : Nat) (one more : Int) (hv : vVol wd hi dp Nv = true) (hNv : Nv ≤ 100000) (hy : y < hi) (hh : hi ≤ 24) (h1 : 0 ≤ one) (h2 : one ≤ more) (h3 : more ≤ 1000000) :
    Calls Try.prog 56 #[.agg #[.int .i64 wd, .int .i64 hi, .int .i64 dp, .slice sv Nv cv], .agg #[.float .f32 (fq 2 one), .float .f32 (fq 2 more)], .int .i64 y] w fun e w' => e = .returned (.bool true) ∧ Below w.heap.size w w' := by
  have KV := Lib.hid (fun w => validPrices_yes w one more h1 h2 h3)
  have hin : (decide ((0 : Int) ≤ y) && decide ((y : Int) ≤ (hi : Int) - 1)) = true := by simp; omega
  have h24 : (hi : Int) ≤ 24 := by omega
  generalize fq 2 one = vo at *
  generalize fq 2 more = vm at *
  have hb0 := below_two w (.cells #[.int .i64 wd, .int .i64 hi, .int .i64 dp, .slice sv Nv cv] 26) (.cells #[.float .f32 vo, .float .f32 vm] 30)
  have BV := BoxN.first w #[.int .i64 wd, .int .i64 hi, .int .i64 dp, .slice sv Nv cv] 26 (.cells #[.float .f32 vo, .float .f32 vm] 30)
  have BP := BoxN.second w #[.float .f32 vo, .float .f32 vm] 30 (.cells #[.int .i64 wd, .int .i64 hi, .int .i64 dp, .slice sv Nv cv] 26)
  have HB0 := Lib.hid hb0
  clear hb0 h1 h2 h3
  go_enter Try.func56, Try.ntmps56
  go_wp2_with fail
  refine (validVolume_any _ _ _ _ _ _ (by omega) _).mono ?_
  rw [hv]
  rintro e w1 ⟨rfl, hb1⟩
  have BP1 := BP.below hb1
  have BV1 := BV.below hb1
  have HB1 := Lib.hid (HB0.out.trans (hb1.mono HB0.out.size))
  have zp0 := BP1.cell 0
  have zp1 := BP1.cell 1
  simp only [List.size_toArray, List.length_cons, List.length_nil, List.getElem?_toArray, List.getElem?_cons_zero, List.getElem?_cons_succ] at zp0 zp1
  clear hb1 BP BV
  go_wp2_with fail
  clear zp0 zp1
  refine (KV.out _).mono ?_
  rintro e w2 ⟨rfl, hb2⟩
  obtain ⟨y0, y1, y2, y3, -, -, -, -⟩ := (BV1.below hb2).four
  have HB2 := Lib.hid (HB1.out.trans (hb2.mono HB1.out.size))
  clear hb2 BV1 BP1
  go_wp2_with fail
  refine (in_any _ _ _ _).mono ?_
  rw [hin]
  rintro e w' ⟨rfl, rfl⟩
  clear hin
  go_wp2
  go_ret
  exact ⟨rfl, HB2.out⟩

end Go.Proofs.Ytfhlpabbacopjaa
