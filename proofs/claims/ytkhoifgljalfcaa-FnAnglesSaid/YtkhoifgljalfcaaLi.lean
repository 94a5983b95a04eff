/- Walks: sines, gaps. -/
import Derived.Test.YtkhoifgljalfcaaLh
namespace Go.Proofs.Ytkhoifgljalfcaa
open Go.RowKit Ieee
set_option maxRecDepth 100000
set_option linter.unusedVariables false
set_option linter.unusedSimpArgs false

theorem abs_word {f : Nat} (hl : f < 18446744073709551616) (h : isFin double f) : isFin double (f % 9223372036854775808) ∧ sv double (f % 9223372036854775808) = ((sv double f).natAbs : Int) := by
  have e1 : rg double (f % 9223372036854775808) = rg double f := by unfold rg; rw [db_sw]; omega
  have e2 : sgn double (f % 9223372036854775808) = false := by unfold sgn; rw [db_sw]; simp
  refine ⟨by unfold isFin at *; rw [e1]; exact h, ?_⟩
  unfold sv
  rw [e1, e2]
  simp only [Bool.false_eq_true, if_false]
  cases sgn double f <;> simp
def wBig : Nat := 4841369599423283200
theorem i_big : isFin double wBig ∧ sv double wBig = ((4503599627370496 * 2 ^ kd : Nat) : Int) := by
  constructor
  · unfold isFin; decide
  · decide +kernel
theorem abs_small {f : Nat} {b : Int} (hl : f < 18446744073709551616) (h : In double k64 f (-b) b) (hb : b < (one40 : Int)) : lt64 wBig (f % 9223372036854775808) = false ∧ eq64 (f % 9223372036854775808) wBig = false := by
  obtain ⟨fa, ea⟩ := abs_word hl h.fin
  have hp := pow_pos_z k64
  have h1 := h.lo
  have h2 := h.hi
  rw [Int.neg_mul] at h1
  have h3 : b * ((2 ^ k64 : Nat) : Int) < ((2 ^ kd : Nat) : Int) := by
    rw [show kd = 40 + k64 from rfl, Nat.pow_add, ← one40_eq, Int.natCast_mul]
    exact Int.mul_lt_mul_of_pos_right hb hp
  have h4 : ((sv double f).natAbs : Int) < ((2 ^ kd : Nat) : Int) := by omega
  have h5 : ((2 ^ kd : Nat) : Int) ≤ ((4503599627370496 * 2 ^ kd : Nat) : Int) := Int.ofNat_le.2 (Nat.le_mul_of_pos_left _ (by omega))
  constructor
  · rw [lt64_sv i_big.1 fa, ea, i_big.2, decide_eq_false_iff_not]
    exact Int.not_lt.2 (Int.le_of_lt (Int.lt_of_lt_of_le h4 h5))
  · rw [eq64_vd ((fin64_iff _).1 fa) ((fin64_iff _).1 i_big.1), decide_eq_false_iff_not]
    show ¬ sv double _ = sv double _
    rw [ea, i_big.2]
    exact Int.ne_of_lt (Int.lt_of_lt_of_le h4 h5)
theorem zero_word (s : Bool) : eq64 (double.word s 0) 0 = true := by cases s <;> decide

theorem even_wrap : ∀ i : Fin 8, floatOfInt .f64 (wrap64 (2 * (8 - (i.val : Int)) * (2 * (8 - (i.val : Int)) + 1))) = kw64 (2 * (8 - i.val) * (2 * (8 - i.val) + 1)) := by decide +kernel

set_option maxHeartbeats 4000000 in
theorem sine_any (w : World) {A lw : Nat} {Z : Int} (h : SinP A lw Z) :
    Calls Try.prog 11 #[.float .f32 A] w fun e w' => e = .returned (.float .f32 (nr (sgW (wdn A)))) ∧ ∃ n, w' = w.drewN n := by
  have hfA : fin32 A = true := (fin32_iff A).1 h.fin
  obtain ⟨dd, ed, ld, fd, _, _⟩ := wide_fin hfA
  have hdd : dd = wdn A := by unfold wdn; rw [ed]; rfl
  rw [hdd] at ld
  have hw := h.w
  have hn := h.n
  have hbd := h.bd
  have he := h.e
  clear h ed fd hdd
  obtain ⟨f, hf⟩ : ∃ f, wdn A = f := ⟨_, rfl⟩
  rw [hf] at hw hn hbd he ld ⊢
  have k1 := fun W => cvr_some hw W
  have k2 := cvd_some hw
  have k3 := fun W => cvr_some hn W
  have k4 := cvd_some hn
  obtain ⟨htr, s9, m9, i9, hdec⟩ := trunc_small hbd (by decide)
  have hnum : isNumT (FloatKind.f64.decode f) = true := by rw [hdec]; rfl
  have htz : eq64 (trW f) 0 = true := by rw [htr]; exact zero_word _
  obtain ⟨hb1, hb2⟩ := abs_small ld hbd (by decide)
  have KA := fun W => mAbs_any f ld W
  have KT := fun W => trunc_any W hnum
  have HE := Lib.hid he
  have KF := Lib.hid (isFinite_any A w)
  rw [hfA] at KF
  clear hfA ld htr hdec hnum hw hn hbd he hf
  generalize trW f = tr at *
  generalize f % 9223372036854775808 = fa at *
  obtain ⟨sg, hsg⟩ : ∃ z, sgW f = z := ⟨_, rfl⟩
  rw [hsg] at k3 k4 ⊢
  have HSG := Lib.hid hsg
  generalize nr sg = res at *
  unfold wBig at *
  have KA := Lib.hid KA
  have KT := Lib.hid KT
  clear hsg
  have hd0 : ∀ W : World, W.drewN 0 = W := fun _ => rfl
  go_enter Try.func11, Try.ntmps11
  go_wp2_with fail
  refine KF.out.mono ?_
  rintro e w1 ⟨rfl, n, hw1⟩
  have HW1 := Lib.hid hw1
  clear hw1 KF
  go_wp2_with fail
  refine (KA.out _).mono ?_
  rintro e w2 ⟨rfl, rfl⟩
  go_wp2_with fail
  refine (KT.out _).mono ?_
  rintro e w2 ⟨rfl, rfl⟩
  obtain ⟨c1, hc1⟩ : ∃ z, lt64 f 0 = z := ⟨_, rfl⟩
  go_upto_if 31 with fail
  clear k1 k2 hb1 hb2 htz KA KT
  have HC1 := Lib.hid hc1
  clear hc1
  go_cut [3] from 30 to 33 (fun v3 wx => v3 = .float .f64 (gA f) ∧ wx = w1)
  case first =>
    cases c1
    · have e0 : gA f = f := by unfold gA; rw [HC1.out]; rfl
      have E0 := Lib.hid e0
      clear e0
      go_wp2_with fail
      go_meet
      exact ⟨by rw [E0.out], rfl⟩
    · have e0 : gA f = ad f wOne := by unfold gA; rw [HC1.out]; rfl
      obtain ⟨d1, d2⟩ := b64 .add (HE.out.e1 HC1.out)
      have E0 := Lib.hid e0
      clear e0
      generalize ad f wOne = g1 at *
      unfold wOne at *
      go_wp2_with fail
      go_meet
      exact ⟨by rw [E0.out], rfl⟩
  case rest =>
  obtain ⟨rfl, hwc⟩ := hcut
  subst hwc
  have hE2 := HE.out.e2
  have hE3 := HE.out.e3
  have hE4 := HE.out.e4
  obtain ⟨g1, hg1⟩ : ∃ z, gA f = z := ⟨_, rfl⟩
  obtain ⟨tb, htb⟩ : ∃ z, tu f = z := ⟨_, rfl⟩
  have HTB := Lib.hid htb
  have hle : le64 4602678819172646912 g1 = tb := by rw [← htb, ← hg1]; rfl
  obtain ⟨g2, hg2⟩ : ∃ z, gB f = z := ⟨_, rfl⟩
  obtain ⟨g3, hg3⟩ : ∃ z, gC f = z := ⟨_, rfl⟩
  have HG1 := Lib.hid hg1
  have HG2 := Lib.hid hg2
  have HG3 := Lib.hid hg3
  have HE2 := Lib.hid hE2
  have HE3 := Lib.hid hE3
  have HE4 := Lib.hid hE4
  rw [hg1]
  clear hg1 hg2 hg3 hE2 hE3 hE4 htb
  go_upto_if 36 with fail
  clear hle
  go_cut [3] from 36 to 38 (fun v3 wx => v3 = .float .f64 g2 ∧ wx = wc)
  case first =>
    cases tb
    · have e0 : g2 = g1 := by rw [← HG2.out, ← HG1.out]; unfold gB; rw [HTB.out]; rfl
      have E0 := Lib.hid e0
      clear e0
      go_wp2_with fail
      go_meet
      exact ⟨by rw [E0.out], rfl⟩
    · have e0 : sb g1 wHalf = g2 := by rw [← HG2.out, ← HG1.out]; unfold gB; rw [HTB.out]; rfl
      have d0 := HE2.out HTB.out
      rw [HG1.out, e0] at d0
      obtain ⟨d1, d2⟩ := b64 .sub d0
      unfold wHalf at *
      clear e0 d0
      go_wp2_with fail
      go_meet
      exact ⟨rfl, rfl⟩
  case rest =>
  obtain ⟨rfl, hwc⟩ := hcut
  subst hwc
  obtain ⟨tq, htq⟩ : ∃ z, lt64 4598175219545276416 g2 = z := ⟨_, rfl⟩
  go_upto_if 40 with fail
  have HTQ := Lib.hid htq
  clear htq
  go_cut [3] from 39 to 42 (fun v3 wx => v3 = .float .f64 g3 ∧ wx = wc)
  case first =>
    have hq0 : lt64 wQuart (gB f) = tq := by rw [HG2.out]; exact HTQ.out
    have HQ0 := Lib.hid hq0
    clear hq0
    cases tq
    · have e0 : g3 = g2 := by rw [← HG3.out, ← HG2.out]; unfold gC; rw [HQ0.out]; rfl
      have E0 := Lib.hid e0
      clear e0
      go_wp2_with fail
      go_meet
      exact ⟨by rw [E0.out], rfl⟩
    · have e0 : sb wHalf g2 = g3 := by rw [← HG3.out, ← HG2.out]; unfold gC; rw [HQ0.out]; rfl
      have d0 := HE3.out HQ0.out
      rw [HG2.out, e0] at d0
      obtain ⟨d1, d2⟩ := b64 .sub d0
      unfold wHalf at *
      clear e0 d0
      go_wp2_with fail
      go_meet
      exact ⟨rfl, rfl⟩
  case rest =>
  obtain ⟨rfl, hwc⟩ := hcut
  subst hwc
  have hE4 := HE4.out
  rw [HG3.out] at hE4
  obtain ⟨z, hz⟩ : ∃ z, zW f = z := ⟨_, rfl⟩
  obtain ⟨u, hu⟩ : ∃ z, uW f = z := ⟨_, rfl⟩
  obtain ⟨o, ho⟩ : ∃ z, outW f = z := ⟨_, rfl⟩
  have hE5 := HE.out.e5
  have hE7 := HE.out.e7
  have hROW := HE.out.e6
  have hol : o < 18446744073709551616 := by
    have := Ieee.Format.mul_lt double (ho ▸ hE7)
    exact this
  rw [hz] at hE4 hE5 hE7
  rw [hu] at hE5 hE7 hROW
  rw [ho] at hE7
  have hsg : sg = if tb then Op.negFloat .f64 o else o := by
    rw [← HSG.out]; unfold sgW; rw [HTB.out, ho, neg64_is hol]
  have HSG2 := Lib.hid hsg
  have HROW := Lib.hid hROW
  have HE7 := Lib.hid hE7
  obtain ⟨d1, d2⟩ := b64 .mul hE4
  obtain ⟨d3, d4⟩ := b64 .mul hE5
  unfold wTurn at *
  clear hE4 hE5 hE7 hROW hsg hz hu ho HE HE2 HE3 HE4 HG1 HG2 HG3 HSG
  go_wp2_with fail
  go_loopw [8, 9] (fun v8 v9 wr => ∃ i : Nat, v9 = .int .i64 (8 - (i : Int)) ∧ i ≤ 8 ∧ v8 = .float .f64 (sN u i) ∧ wc = wr) (fun _ v9 _ => (intOf v9 + 2).toNat)
  case atStart => exact ⟨0, rfl, by omega, rfl, rfl⟩
  case round =>
    obtain ⟨i, rfl, hi, rfl, hwr⟩ := hrel
    subst hwr
    by_cases hi8 : i < 8
    · have RE := HROW.out i hi8
      have hk : (1 : Int) ≤ 8 - (i : Int) := by omega
      have ow := even_wrap ⟨i, hi8⟩
      simp only at ow
      obtain ⟨g4, g5⟩ := b64 .mul RE.e1
      obtain ⟨g6, g7⟩ := b64 .quo RE.e2
      obtain ⟨g8, g9⟩ := b64 .sub RE.e3
      obtain ⟨pn, hpn⟩ : ∃ z, sN u (i + 1) = z := ⟨_, rfl⟩
      rw [hpn] at g8
      have HPN := Lib.hid hpn
      clear RE hpn d1 d2 d3 d4
      unfold wOne at *
      generalize kw64 (2 * (8 - i) * (2 * (8 - i) + 1)) = kk at *
      generalize sN u i = pp at *
      generalize ml u pp = m1 at *
      generalize dv m1 kk = m2 at *
      go_wp2_with fail
      go_roundw
      case rel => exact ⟨i + 1, by simp; omega, by omega, by rw [HPN.out], by first | trivial | rfl⟩
      case measure => simp [intOf]; omega
    · obtain rfl : i = 8 := by omega
      obtain ⟨g4, g5⟩ := b64 .mul HE7.out
      have hsg := HSG2.out
      cases tb
      · simp only [Bool.false_eq_true, if_false] at hsg
        subst hsg
        generalize sN u 8 = p8 at *
        go_wp2_with fail
        go_ret
        exact ⟨rfl, n, HW1.out⟩
      · simp only [if_true] at hsg
        subst hsg
        generalize sN u 8 = p8 at *
        go_wp2_with fail
        go_ret
        exact ⟨rfl, n, HW1.out⟩

end Go.Proofs.Ytkhoifgljalfcaa
