/- Winners near to a map of whole disparities, one away at most. Words. -/
import Derived.Test.YtmpbnmmpniganaaKd
import Derived.Test.YtmpbnmmpniganaaKe
import Derived.Deep.CutRange
namespace Go.Proofs.Ytmpbnmmpniganaa
open Go.RowKit
set_option maxRecDepth 100000
set_option linter.unusedVariables false
set_option linter.unusedSimpArgs false

/-- The winner among the disparities beside one. -/
def nearF (f : Nat → Nat) (dp D : Nat) : Int := if winW (fun i => f (D - 1 + i)) (-1) (min (D + 1) (dp - 1) + 1 - (D - 1)) < 0 then -1 else ((D - 1 : Nat) : Int) + winW (fun i => f (D - 1 + i)) (-1) (min (D + 1) (dp - 1) + 1 - (D - 1))
def nearV (f : Nat → Nat) (dp : Nat) (k : Int) : Int := if k < 0 then -4 else 4 * nearF f dp (k / 4).toNat
theorem nearF_bd (f : Nat → Nat) {dp D : Nat} (h : D < dp) : -1 ≤ nearF f dp D ∧ nearF f dp D < dp := by
  have := winW_bd (fun i => f (D - 1 + i)) (-1) (min (D + 1) (dp - 1) + 1 - (D - 1))
  unfold nearF
  split <;> omega
theorem plq_hole : plq (-4) = -1 := by decide
theorem four_fq (z : Int) (h : z.natAbs ≤ 1000) : floatOfInt .f32 z = fq 2 (4 * z) := by
  rw [fq_ofInt (by omega)]
  have := fq_shift (g := 0) (j := 2) (by omega) z
  rw [← this]; congr 1; simp; omega
theorem plq_4 (D : Nat) : plq (4 * (D : Int)) = D := by unfold plq; split <;> (try split) <;> (try split) <;> omega

set_option maxHeartbeats 2000000 in
theorem near1w_hole (W : World) (mb rb pb wd hi x y : Nat) (v : Value) (ms : List Int) (hx : x < wd) (hy : y < hi) (hw : wd ≤ 24) (hh : hi ≤ 24) (hm : PicAt W mb wd hi v (ms.map (fq 2)) 27) (hk : ms.getD (x + wd * y) 0 = -4) (r0 : W.cell? ⟨rb, 0, none⟩ = some (.int .i64 1)) (dp : Nat) (vv : Value) (hp : W.cell? ⟨pb, 2, none⟩ = some (.int .i64 dp)) (hdp : dp ≤ 8) (hd1 : 1 ≤ dp) :
    Calls Try.prog 100 #[.int .i64 x, .int .i64 y, .pointer (some ⟨mb, 0, none⟩), .pointer (some ⟨rb, 0, none⟩), .pointer (some ⟨pb, 0, none⟩)] W fun e w' => e = .returned (.float .f32 (fq 2 (-4))) ∧ ∃ n, w' = W.drewN n := by
  have KA := Lib.hid (mat_q W mb wd hi _ ms x y x y rfl rfl hx hy (by omega) (by omega) hm)
  rw [hk] at KA
  have KP := Lib.hid (fun m => place_q (-4) (W.drewN m) (by decide) (by decide))
  rw [plq_hole] at KP
  have cm : fq 2 (-4) = 3212836864 := by decide +kernel
  rw [cm] at KA KP ⊢
  have pI : (dp : Int) ≤ 8 := by omega
  clear hm hk cm hx hy
  go_enter Try.func100, Try.ntmps100
  go_wp2_with fail
  refine KA.out.mono ?_
  rintro e w1 ⟨rfl, m1, rfl⟩
  go_wp2_with fail
  refine (KP.out _).mono ?_
  rintro e w2 ⟨rfl, m2, rfl⟩
  have t3 : IntKind.i64.wrap ((dp : Int) - 1) = (dp : Int) - 1 := IntWalk.i64_in _ (by omega)
  have h3 : ¬ ((dp : Int) - 1 < 0) := by omega
  go_wp2_with fail
  go_quiet (fail)
  clear t3 h3
  go_wp2_with fail
  go_ret
  exact ⟨rfl, _, rfl⟩

set_option maxHeartbeats 4000000 in
theorem near1w_val (W : World) (mb rb pb wd hi dp q M c x y D lo up : Nat) (v : Value) (ms : List Int) (bs : List Nat) (hx : x < wd) (hy : y < hi) (hw : wd ≤ 24) (hh : hi ≤ 24) (hm : PicAt W mb wd hi v (ms.map (fq 2)) 27) (hk : ms.getD (x + wd * y) 0 = 4 * (D : Int)) (r0 : W.cell? ⟨rb, 0, none⟩ = some (.int .i64 1)) (hp : VolAt W pb wd hi dp q 0 M c bs) (hdp : dp ≤ 8) (hd1 : 1 ≤ dp) (hD : D < dp)
    (hlo : lo = D - 1) (hup : up = min (D + 1) (dp - 1)) :
    Calls Try.prog 100 #[.int .i64 x, .int .i64 y, .pointer (some ⟨mb, 0, none⟩), .pointer (some ⟨rb, 0, none⟩), .pointer (some ⟨pb, 0, none⟩)] W fun e w' => e = .returned (.float .f32 (fq 2 (4 * nearF (gc bs wd dp x y) dp D))) ∧ ∃ n, w' = W.drewN n := by
  obtain ⟨c0, c1, c2, c3, -, -, -, -⟩ := hp.box.four
  have KA := Lib.hid (mat_q W mb wd hi _ ms x y x y rfl rfl hx hy (by omega) (by omega) hm)
  rw [hk] at KA
  have KP := Lib.hid (fun m => place_q (4 * (D : Int)) (W.drewN m) (by omega) (by omega))
  rw [plq_4] at KP
  have KC := Lib.hid (fun m => cell_any (W.drewN m) pb wd hi dp q 0 M c bs x y x y rfl rfl hx hy hw hh hd1 hdp (hp.drewN m))
  have HRow := Lib.hid (hp.row hx hy)
  have hF : nearF (gc bs wd dp x y) dp D = if winW (fun i => gc bs wd dp x y (lo + i)) (-1) (up + 1 - lo) < 0 then -1 else (lo : Int) + winW (fun i => gc bs wd dp x y (lo + i)) (-1) (up + 1 - lo) := by unfold nearF; rw [hlo, hup]
  have hbdW := winW_bd (fun i => gc bs wd dp x y (lo + i)) (-1) (up + 1 - lo)
  generalize gc bs wd dp x y = f at *
  generalize ic wd dp x y = kk at *
  have hul : up < dp := by omega
  have hlu : lo ≤ up := by omega
  have HW := Lib.hid (fun m => winner_any (W.drewN m) q (kk + lo) (up + 1 - lo) (dp - lo) (fun i => f (lo + i)) (-1) (by omega) (by omega) (by omega) (fun i hi_ => by have := HRow.out (lo + i) (by omega); rw [Nat.zero_add, ← Nat.add_assoc] at this; exact this))
  generalize winW (fun i => f (lo + i)) (-1) (up + 1 - lo) = e at *
  have cm : fq 2 (-4) = 3212836864 := by decide +kernel
  rw [hF]
  obtain ⟨r, hr⟩ : ∃ r, r = fq 2 (4 * (if e < 0 then -1 else (lo : Int) + e)) := ⟨_, rfl⟩
  rw [← hr]
  have hr0 : e < 0 → r = 3212836864 := fun h => by rw [hr, if_pos h, ← cm]; rfl
  have hr1 : ¬ e < 0 → floatOfInt .f32 ((lo : Int) + e) = r := fun h => by rw [hr, if_neg h]; exact four_fq _ (by omega)
  have HR := Lib.hid (And.intro hr0 hr1)
  clear hr hr0 hr1
  have hmax : (D : Int) - 1 = lo ∨ ((D : Int) - 1 < 0 ∧ lo = 0) := by omega
  have hmin : ((D : Int) + 1 = up ∧ ¬ (dp : Int) - 1 < (D : Int) + 1) ∨ ((dp : Int) - 1 = up ∧ (dp : Int) - 1 < (D : Int) + 1) := by omega
  have t1 : IntKind.i64.wrap ((D : Int) - 1) = (D : Int) - 1 := IntWalk.i64_in _ (by omega)
  have t2 : IntKind.i64.wrap ((D : Int) + 1) = (D : Int) + 1 := IntWalk.i64_in _ (by omega)
  have t3 : IntKind.i64.wrap ((dp : Int) - 1) = (dp : Int) - 1 := IntWalk.i64_in _ (by omega)
  have T := Lib.hid (And.intro t1 (And.intro t2 t3))
  have HM1 := Lib.hid hmax
  have HM2 := Lib.hid hmin
  obtain ⟨va, hva⟩ : ∃ va, fq 2 (4 * (D : Int)) = va := ⟨_, rfl⟩
  rw [hva] at KA KP
  clear t1 t2 t3 hmax hmin hm hp hk hF hlo hup hva hx hy
  go_enter Try.func100, Try.ntmps100
  go_wp2_with fail
  refine KA.out.mono ?_
  rintro e_ w1 ⟨rfl, m1, rfl⟩
  go_wp2_with fail
  refine (KP.out _).mono ?_
  rintro e_ w2 ⟨rfl, m2, rfl⟩
  obtain ⟨t1, t2, t3⟩ := T.out
  go_upto_region 2 with fail
  go_cut [9, 10] from 12 to 26 (fun v9 v10 wx => v9 = .int .i64 lo ∧ v10 = .int .i64 up ∧ ∃ n, wx = W.drewN n)
  case first =>
    rcases HM1.out with a1 | ⟨a1, a2⟩
    · rcases HM2.out with ⟨b1, b2⟩ | ⟨b1, b2⟩
      all_goals
        have a3 : ¬ (lo : Int) < 0 := by omega
        go_quiet (fail)
        go_wp2_with fail
        go_meet
        first | exact ⟨rfl, rfl, _, rfl⟩ | exact ⟨rfl, rfl, drewN_drewN _ _ _⟩
    · rcases HM2.out with ⟨b1, b2⟩ | ⟨b1, b2⟩
      all_goals
        go_quiet (fail)
        go_wp2_with fail
        go_meet
        have a4 : Value.int .i64 0 = Value.int .i64 (lo : Int) := by rw [a2]; rfl
        first | exact ⟨a4, rfl, _, rfl⟩ | exact ⟨a4, rfl, drewN_drewN _ _ _⟩
  case rest =>
    obtain ⟨rfl, rfl, n, rfl⟩ := hcut
    have g1 : decide (up < lo) = false := decide_eq_false (by omega)
    have e8 : e ≤ 8 := by omega
    have lo8 : (lo : Int) ≤ 8 := by omega
    clear t1 t2 t3
    by_cases h0 : e < 0
    · have hr2 := HR.out.1 h0
      have HR2 := Lib.hid hr2
      clear hr2
      go_wp2_with fail
      refine (KC.out _).mono ?_
      rintro e_ w3 ⟨rfl, m3, rfl⟩
      have q1 : (up : Int) + 1 ≤ (dp : Int) := by omega
      have q2_ : ((up : Int) + 1).toNat = up + 1 := by omega
      have q4 : (0 : Int) ≤ (up : Int) + 1 := by omega
      have q5 : ¬ dp = lo := by omega
      have q6 : (lo : Int) ≤ (up : Int) + 1 := by omega
      go_wp2_with fail
      refine (HW.out _).mono ?_
      rintro e_ w4 ⟨rfl, m4, rfl⟩
      clear q1 q2_ q4 q5 q6
      go_wp2_with fail
      go_ret
      exact ⟨by rw [HR2.out]; rfl, _, rfl⟩
    · have h0' : 0 ≤ e := by omega
      have hof := HR.out.2 (by omega)
      have HOF := Lib.hid hof
      clear hof
      go_wp2_with fail
      refine (KC.out _).mono ?_
      rintro e_ w3 ⟨rfl, m3, rfl⟩
      have q1 : (up : Int) + 1 ≤ (dp : Int) := by omega
      have q2_ : ((up : Int) + 1).toNat = up + 1 := by omega
      have q4 : (0 : Int) ≤ (up : Int) + 1 := by omega
      have q5 : ¬ dp = lo := by omega
      have q6 : (lo : Int) ≤ (up : Int) + 1 := by omega
      go_wp2_with fail
      refine (HW.out _).mono ?_
      rintro e_ w4 ⟨rfl, m4, rfl⟩
      clear q1 q2_ q4 q5 q6
      go_wp2_with fail
      go_ret
      exact ⟨by rw [← HOF.out]; rfl, _, rfl⟩

end Go.Proofs.Ytmpbnmmpniganaa
