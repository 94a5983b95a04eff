/- Walks: absolute values, whole parts, angles. -/
import Derived.Test.YtkhoifgljalfcaaLf
import Derived.Test.YtkhoifgljalfcaaDo
import Derived.Test.YtkhoifgljalfcaaOi
import Derived.Test.YtkhoifgljalfcaaBox
import Derived.Deep.Cut
import Derived.Deep.CutRange
namespace Go.Proofs.Ytkhoifgljalfcaa
open Go.RowKit Ieee
set_option maxRecDepth 100000
set_option linter.unusedVariables false
set_option linter.unusedSimpArgs false

@[go_sem] theorem ext_f64bits (b : Nat) (w : World) : (callFunc 93 #[.float .f64 b]).run Try.prog w = .ok (.value (.int .u64 b)) w := by
  rw [run_callFunc_extern (e := Extern.MathFloatBits.float64bits) Try.func93 (by kernel_rfl) (by kernel_rfl) (by kernel_rfl) (by kernel_rfl)]
  rfl

@[go_sem] theorem ext_f64from' (n : Int) (w : World) : (callFunc 92 #[.int .u64 n]).run Try.prog w = .ok (.value (.float .f64 n.toNat)) w := by
  rw [run_callFunc_extern (e := Extern.MathFloatBits.float64frombits) Try.func92 (by kernel_rfl) (by kernel_rfl) (by kernel_rfl) (by kernel_rfl)]
  rfl

theorem andNot_abs64 (b : Nat) (hb : b < 18446744073709551616) : bits .andNot .u64 (b : Int) 9223372036854775808 = ((b % 9223372036854775808 : Nat) : Int) := by
  show IntKind.u64.wrap ((BitVec.ofInt 64 ((b : Nat) : Int) &&& ~~~ BitVec.ofInt 64 9223372036854775808).toNat : Int) = _
  have e1 : (~~~ BitVec.ofInt 64 9223372036854775808 : BitVec 64) = BitVec.ofNat 64 9223372036854775807 := by decide
  have e2 : b &&& 9223372036854775807 = b % 9223372036854775808 := Nat.and_two_pow_sub_one_eq_mod b 63
  rw [e1, BitVec.ofInt_natCast, BitVec.toNat_and, BitVec.toNat_ofNat, BitVec.toNat_ofNat, Nat.mod_eq_of_lt (by omega), show 9223372036854775807 % 2 ^ 64 = 9223372036854775807 from rfl, e2]
  have := Nat.mod_lt b (show 0 < 9223372036854775808 by omega)
  show (((b % 9223372036854775808 : Nat) : Int)) % 18446744073709551616 = _
  omega

theorem mAbs_any (b : Nat) (hb : b < 18446744073709551616) (w : World) : Calls Try.prog 47 #[.float .f64 b] w fun e w' => e = .returned (.float .f64 (b % 9223372036854775808)) ∧ w = w' := by
  have e := andNot_abs64 b hb
  go_enter Try.func47, Try.ntmps47
  go_wp2
  go_ret
  exact ⟨by simp [e], rfl⟩

/-- Whether a datum is a number. -/
def isNumT (d : Ieee.Datum) : Bool := match d with | .nan _ _ => false | _ => true
theorem trt_plain (x : Nat) (d : Ieee.Datum) (hd : FloatKind.f64.decode x = d) (h : isNumT d = true) : Extern.MathFloor.toIntegral "math.archTrunc" .zero #[.float .f64 x] = (pure (.float .f64 (FloatKind.f64.encode (d.integral .zero))) : Sem Value) := by
  show ((match FloatKind.f64.decode x with
    | .nan s t =>
      if FloatKind.f64.format.quiet t = t then pure (Value.float .f64 x) else do
      let kept ← choose (.extern "math.Floor,Ceil,Trunc,RoundToEven.signallingNaN kept" 2)
      pure (Value.float .f64 (if kept == 1 then x else FloatKind.f64.encode (.nan s (FloatKind.f64.format.quiet t))))
    | d => pure (Value.float .f64 (FloatKind.f64.encode (d.integral .zero)))) : Sem Value) = _
  rw [hd]
  cases d <;> first | (simp [isNumT] at h; done) | rfl
@[go_sem] theorem ext_trt (x : Nat) (w : World) (h : isNumT (FloatKind.f64.decode x) = true) : (callFunc 95 #[.float .f64 x]).run Try.prog w = .ok (.value (.float .f64 (trW x))) w := by
  rw [run_callFunc_extern (e := Extern.MathFloor.toIntegral "math.archTrunc" .zero) Try.func95 (by kernel_rfl) (by kernel_rfl) (by kernel_rfl) (by kernel_rfl), trt_plain x _ rfl h]
  rfl
theorem trunc_any (w : World) {x : Nat} (h : isNumT (FloatKind.f64.decode x) = true) : Calls Try.prog 52 #[.float .f64 x] w fun e w' => e = .returned (.float .f64 (trW x)) ∧ w = w' := by
  go_enter Try.func52, Try.ntmps52
  go_wp2
  go_ret
  exact ⟨rfl, rfl⟩

theorem b64 {a b r : Nat} (op : BinOp) (h : floatBits op .f64 a b = some r) : (∀ W, fres op .f64 a b W = r) ∧ fdr op .f64 a b = 0 := ⟨fun W => fres_some h W, fdr_some h⟩
theorem odd_word : ∀ i : Fin 8, floatOfInt .f64 (15 - 2 * (i.val : Int)) = kw64 (15 - 2 * i.val) := by decide +kernel
theorem even_word : ∀ i : Fin 8, floatOfInt .f64 (2 * (8 - (i.val : Int)) * (2 * (8 - (i.val : Int)) + 1)) = kw64 (2 * (8 - i.val) * (2 * (8 - i.val) + 1)) := by decide +kernel

set_option maxHeartbeats 4000000 in
theorem angle_any (w : World) (y x yw xw a b r : Nat) (gt xn yn : Bool) (hy : y < 4294967296) (hx : x < 4294967296) (fy : fin32 y = true) (fx : fin32 x = true) (ey : floatToFloatBits .f32 y .f64 = some yw) (ex : floatToFloatBits .f32 x .f64 = some xw) (ly : yw < 18446744073709551616) (lx : xw < 18446744073709551616)
    (ay : yw % 9223372036854775808 = a) (ax : xw % 9223372036854775808 = b) (hz : (eq32 x 0 && eq32 y 0) = false) (hgt : lt64 b a = gt) (hxn : lt32 x 0 = xn) (hyn : lt32 y 0 = yn)
    (hE : AngE (if gt then b else a) (if gt then a else b) gt) (h8 : xn = true → double.sub wHalf (a1W (if gt then b else a) (if gt then a else b) gt) = some (sb wHalf (a1W (if gt then b else a) (if gt then a else b) gt)))
    (hn : floatToFloatBits .f64 (if yn then Op.negFloat .f64 (a2W (if gt then b else a) (if gt then a else b) gt xn) else a2W (if gt then b else a) (if gt then a else b) gt xn) .f32 = some r) :
    Calls Try.prog 9 #[.float .f32 y, .float .f32 x] w fun e w' => e = .returned (.float .f32 r) ∧ Below w.heap.size w w' := by
  obtain ⟨W0, hW0⟩ : ∃ W, W = w.alloc (.cells #[.float .f32 y, .float .f32 x] 24) := ⟨_, rfl⟩
  have hb0 : Below w.heap.size w W0 := by rw [hW0]; exact (Below.refl _ _).alloc (Nat.le_refl _) _
  have hs0 : SlF W0 (.slice (some ⟨w.heap.size, 0, none⟩) 2 2) [y, x] := by
    rw [hW0]
    refine ⟨⟨_, 2, rfl, by simp, by simp, .inr ⟨_, 0, rfl, by simp, ?_⟩⟩, ?_⟩
    · intro i hi
      have hbx := BoxN.last w #[.float .f32 y, .float .f32 x] 24
      match i, hi with
      | 0, _ => exact hbx.cell 0
      | 1, _ => exact hbx.cell 1
    · intro z hz
      simp at hz
      rcases hz with rfl | rfl <;> assumption
  have KF := Lib.hid (finite_yes W0 _ 0 2 2 [y, x] hs0 (by intro z hz; simp at hz; rcases hz with rfl | rfl <;> assumption))
  have HB0 := Lib.hid hb0
  have HW0 := Lib.hid hW0
  have k1 := fun W => cvr_some ey W
  have k2 := cvd_some ey
  have k3 := fun W => cvr_some ex W
  have k4 := cvd_some ex
  have KA := Lib.hid (fun W => mAbs_any yw ly W)
  have KB := Lib.hid (fun W => mAbs_any xw lx W)
  rw [ay] at KA
  rw [ax] at KB
  have HE := Lib.hid hE
  have H8 := Lib.hid h8
  have HN := Lib.hid hn
  clear hb0 hs0 hW0 ey ex ly lx ay ax hE h8 hn fy fx hy hx
  have hd0 : ∀ W : World, W.drewN 0 = W := fun _ => rfl
  obtain ⟨sm, hsm⟩ : ∃ z, z = (if gt then b else a) := ⟨_, rfl⟩
  obtain ⟨bg, hbg⟩ : ∃ z, z = (if gt then a else b) := ⟨_, rfl⟩
  rw [← hsm, ← hbg] at HE H8 HN
  obtain ⟨t0, ht0⟩ : ∃ t, t = dv sm bg := ⟨_, rfl⟩
  have HST := Lib.hid (show ∀ i, i < 3 → StepE (tN t0 i) from fun i hi => by rw [ht0]; exact HE.out.e1 i hi)
  have HSM := Lib.hid hsm
  have HBG := Lib.hid hbg
  have HT0 := Lib.hid ht0
  have HGT := Lib.hid hgt
  have HXN := Lib.hid hxn
  have HYN := Lib.hid hyn
  clear hsm hbg ht0 hgt hxn hyn
  go_enter Try.func9, Try.ntmps9
  go_wp2_with fail
  rw [← HW0.out]
  refine KF.out.mono ?_
  rintro e w1 ⟨rfl, q, hw1⟩
  have HW1 := Lib.hid (show Below w.heap.size w w1 from by rw [hw1]; exact below_drewN HB0.out q)
  clear hw1
  go_upto_region 3 with fail
  go_cut [20] from 21 to 26 (fun v20 wx => v20 = .bool false ∧ wx = w1)
  case first =>
    cases hb1 : eq32 x 0
    · go_wp2_with fail
      go_meet
      exact ⟨rfl, rfl⟩
    · rw [hb1] at hz
      have hz2 : eq32 y 0 = false := by simpa using hz
      go_wp2_with fail
      go_meet
      exact ⟨rfl, rfl⟩
  case rest =>
    obtain ⟨rfl, hwc⟩ := hcut
    subst hwc
    go_wp2_with fail
    refine (KA.out _).mono ?_
    rintro e w2 ⟨rfl, rfl⟩
    go_wp2_with fail
    refine (KB.out _).mono ?_
    rintro e w2 ⟨rfl, rfl⟩
    go_upto_region 6 with fail
    go_cut [7] from 33 to 35 (fun v7 wx => ∃ z, v7 = .float .f64 z ∧ (gt = false → z = t0) ∧ Below w.heap.size w wx)
    case first =>
      go_wp2_with fail
      go_meet
      refine ⟨_, rfl, fun hg => ?_, below_drewN HW1.out _⟩
      have d0 := HE.out.e0
      rw [HSM.out, HBG.out, hg] at d0
      simp only [Bool.false_eq_true, if_false] at d0
      rw [(b64 .quo d0).1, HT0.out, HSM.out, HBG.out, hg]
      rfl
    case rest =>
    obtain ⟨z, rfl, hzt, hbc1⟩ := hcut
    have HZT := Lib.hid hzt
    have HBC1 := Lib.hid hbc1
    clear hzt hbc1 HW1 KA KB KF HW0 HB0
    have hgt := HGT.out
    go_upto_if 38 with fail
    clear hgt
    go_cut [7] from 36 to 41 (fun v7 wx => v7 = .float .f64 t0 ∧ Below w.heap.size w wx)
    case first =>
      cases gt
      · have hz0 := HZT.out rfl
        subst hz0
        go_wp2_with fail
        go_meet
        exact ⟨rfl, HBC1.out⟩
      · have d0 := HE.out.e0
        rw [HSM.out, HBG.out] at d0
        simp only [if_true] at d0
        have e0 : dv b a = t0 := by rw [HT0.out, HSM.out, HBG.out]; rfl
        rw [e0] at d0
        obtain ⟨d1, d2⟩ := b64 .quo d0
        clear e0 d0
        go_wp2_with fail
        go_meet
        exact ⟨rfl, HBC1.out⟩
    case rest =>
      obtain ⟨rfl, hbc⟩ := hcut
      obtain ⟨wd, hwd⟩ : ∃ z, z = wc := ⟨_, rfl⟩
      subst hwd
      have HBC := Lib.hid hbc
      clear hbc HBC1 HZT
      go_wp2_with fail
      go_loopw [7, 42] (fun v7 v42 wr => ∃ i : Nat, v42 = .int .i64 i ∧ i ≤ 3 ∧ v7 = .float .f64 (tN t0 i) ∧ wd = wr) (fun _ v42 _ => 3 - (intOf v42).toNat)
      case atStart => exact ⟨0, rfl, by omega, rfl, rfl⟩
      case round =>
        obtain ⟨i, rfl, hi, rfl, hwr⟩ := hrel
        subst hwr
        by_cases hi3 : i < 3
        · have SE := HST.out i hi3
          obtain ⟨g1, g2⟩ := b64 .mul SE.e1
          obtain ⟨g3, g4⟩ := b64 .add SE.e2
          obtain ⟨g5, g6⟩ := b64 .add SE.e4
          obtain ⟨g7, g8⟩ := b64 .quo SE.e5
          have KQ := Lib.hid (fun W => mSqrt_any W SE.e3)
          have HT := Lib.hid (show tN t0 (i + 1) = tS (tN t0 i) from rfl)
          clear SE
          generalize tS (tN t0 i) = tn at *
          generalize tN t0 i = tt at *
          generalize ml tt tt = m1 at *
          unfold wOne at *
          generalize ad 4607182418800017408 m1 = m2 at *
          generalize sq m2 = m3 at *
          generalize ad 4607182418800017408 m3 = m4 at *
          go_wp2_with fail
          refine (KQ.out _).mono ?_
          rintro e w2 ⟨rfl, rfl⟩
          go_wp2_with fail
          go_roundw
          case rel => exact ⟨i + 1, by go_num, by omega, by rw [HT.out], trivial⟩
          case measure => simp [intOf]; omega
        · obtain rfl : i = 3 := by omega
          have ht3 : tN t0 3 = t3W sm bg := by unfold t3W; rw [HT0.out]
          rw [ht3]
          obtain ⟨g1, g2⟩ := b64 .mul HE.out.e2
          have HROW := Lib.hid HE.out.e3
          have HX4 := Lib.hid HE.out.e4
          obtain ⟨u, hu⟩ : ∃ u, uA sm bg = u := ⟨_, rfl⟩
          rw [hu] at g1 HROW HX4
          obtain ⟨t3, ht3'⟩ : ∃ t, t3W sm bg = t := ⟨_, rfl⟩
          rw [ht3'] at g1 g2 HX4 ⊢
          clear ht3 hu ht3' HST
          go_wp2_with fail
          go_loopw [9, 10] (fun v9 v10 wr => ∃ i : Nat, v10 = .int .i64 (15 - 2 * (i : Int)) ∧ i ≤ 8 ∧ v9 = .float .f64 (pN u i) ∧ wd = wr) (fun _ v10 _ => (intOf v10 + 2).toNat)
          case atStart => exact ⟨0, rfl, by omega, rfl, rfl⟩
          case round =>
            obtain ⟨i, rfl, hi, rfl, hwr⟩ := hrel
            subst hwr
            by_cases hi8 : i < 8
            · have RE := HROW.out i hi8
              have hk : (1 : Int) ≤ 15 - 2 * (i : Int) := by omega
              have ow := odd_word ⟨i, hi8⟩
              simp only at ow
              obtain ⟨g3, g4⟩ := b64 .quo RE.e1
              obtain ⟨g5, g6⟩ := b64 .mul RE.e2
              obtain ⟨g7, g8⟩ := b64 .sub RE.e3
              obtain ⟨pn, hpn⟩ : ∃ z, pN u (i + 1) = z := ⟨_, rfl⟩
              rw [hpn] at g7
              have HPN := Lib.hid hpn
              clear RE hpn
              unfold wOne at *
              generalize kw64 (15 - 2 * i) = kk at *
              generalize dv 4607182418800017408 kk = d1 at *
              generalize pN u i = pp at *
              generalize ml u pp = m1 at *
              go_wp2_with fail
              go_roundw
              case rel => exact ⟨i + 1, by simp; omega, by omega, by rw [HPN.out], trivial⟩
              case measure => simp [intOf]; omega
            · obtain rfl : i = 8 := by omega
              obtain ⟨g3, g4⟩ := b64 .mul HX4.out
              obtain ⟨g5, g6⟩ := b64 .mul HE.out.e5
              obtain ⟨g7, g8⟩ := b64 .quo HE.out.e6
              have hgt := HGT.out
              have hxn := HXN.out
              have hyn := HYN.out
              have hn := HN.out
              have e7 := HE.out.e7
              have h8 := H8.out
              clear HX4 HROW HE HN H8 HT0 HSM HBG
              unfold wEight wTurn at *
              generalize pN u 8 = p8 at *
              unfold a2W a1W at *
              generalize a0W sm bg = a0 at *
              generalize mA sm bg = m0 at *
              generalize ml 4620693217682128896 m0 = m1 at *
              unfold wQuart wHalf at *
              cases gt
              · cases xn
                · cases yn
                  · simp only [Bool.false_eq_true, if_false, if_true, forall_const, false_implies] at hn e7 h8
                    have n1 := fun W => cvr_some hn W
                    have n2 := cvd_some hn
                    clear hn e7 h8
                    go_wp2_with fail
                    go_ret
                    exact ⟨rfl, HBC.out⟩
                  · simp only [Bool.false_eq_true, if_false, if_true, forall_const, false_implies] at hn e7 h8
                    have n1 := fun W => cvr_some hn W
                    have n2 := cvd_some hn
                    clear hn e7 h8
                    go_wp2_with fail
                    go_ret
                    exact ⟨rfl, HBC.out⟩
                · cases yn
                  · simp only [Bool.false_eq_true, if_false, if_true, forall_const, false_implies] at hn e7 h8
                    obtain ⟨q3, q4⟩ := b64 .sub h8
                    have n1 := fun W => cvr_some hn W
                    have n2 := cvd_some hn
                    clear hn e7 h8
                    go_wp2_with fail
                    go_ret
                    exact ⟨rfl, HBC.out⟩
                  · simp only [Bool.false_eq_true, if_false, if_true, forall_const, false_implies] at hn e7 h8
                    obtain ⟨q3, q4⟩ := b64 .sub h8
                    have n1 := fun W => cvr_some hn W
                    have n2 := cvd_some hn
                    clear hn e7 h8
                    go_wp2_with fail
                    go_ret
                    exact ⟨rfl, HBC.out⟩
              · cases xn
                · cases yn
                  · simp only [Bool.false_eq_true, if_false, if_true, forall_const, false_implies] at hn e7 h8
                    obtain ⟨q1, q2⟩ := b64 .sub e7
                    have n1 := fun W => cvr_some hn W
                    have n2 := cvd_some hn
                    clear hn e7 h8
                    go_wp2_with fail
                    go_ret
                    exact ⟨rfl, HBC.out⟩
                  · simp only [Bool.false_eq_true, if_false, if_true, forall_const, false_implies] at hn e7 h8
                    obtain ⟨q1, q2⟩ := b64 .sub e7
                    have n1 := fun W => cvr_some hn W
                    have n2 := cvd_some hn
                    clear hn e7 h8
                    go_wp2_with fail
                    go_ret
                    exact ⟨rfl, HBC.out⟩
                · cases yn
                  · simp only [Bool.false_eq_true, if_false, if_true, forall_const, false_implies] at hn e7 h8
                    obtain ⟨q1, q2⟩ := b64 .sub e7
                    obtain ⟨q3, q4⟩ := b64 .sub h8
                    have n1 := fun W => cvr_some hn W
                    have n2 := cvd_some hn
                    clear hn e7 h8
                    go_wp2_with fail
                    go_ret
                    exact ⟨rfl, HBC.out⟩
                  · simp only [Bool.false_eq_true, if_false, if_true, forall_const, false_implies] at hn e7 h8
                    obtain ⟨q1, q2⟩ := b64 .sub e7
                    obtain ⟨q3, q4⟩ := b64 .sub h8
                    have n1 := fun W => cvr_some hn W
                    have n2 := cvd_some hn
                    clear hn e7 h8
                    go_wp2_with fail
                    go_ret
                    exact ⟨rfl, HBC.out⟩

end Go.Proofs.Ytkhoifgljalfcaa
