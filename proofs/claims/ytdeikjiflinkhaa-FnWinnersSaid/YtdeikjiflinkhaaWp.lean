/- CostOfMap of quarters. -/
import Derived.Test.YtdeikjiflinkhaaWo
namespace Go.Proofs.Ytdeikjiflinkhaa
open Go.RowKit
set_option maxRecDepth 100000
set_option linter.unusedVariables false
set_option linter.unusedSimpArgs false

/-- The sum of the costs of a disparity a cell. -/
def costS (ks : List Int) (dp : Nat) (D : Nat → Nat) : Nat → Int
  | 0 => 0
  | n + 1 => costS ks dp D n + ks.getD (n * dp + D n) 0
theorem costS_bd {ks : List Int} {dp : Nat} {D : Nat → Nat} (h : ∀ i, 0 ≤ ks.getD i 0 ∧ ks.getD i 0 ≤ 1000) : ∀ n, 0 ≤ costS ks dp D n ∧ costS ks dp D n ≤ 1000 * n := by
  intro n
  induction n with
  | zero => exact ⟨Int.le_refl _, by show (0 : Int) ≤ _; omega⟩
  | succ n ih =>
    have := h (n * dp + D n)
    show 0 ≤ costS ks dp D n + ks.getD (n * dp + D n) 0 ∧ costS ks dp D n + ks.getD (n * dp + D n) 0 ≤ 1000 * ((n + 1 : Nat) : Int)
    omega
theorem costS_le {ks : List Int} {dp : Nat} {D E : Nat → Nat} {N : Nat} (h : ∀ i, i < N → ks.getD (i * dp + D i) 0 ≤ ks.getD (i * dp + E i) 0) : ∀ n, n ≤ N → costS ks dp D n ≤ costS ks dp E n := by
  intro n
  induction n with
  | zero => intro _; exact Int.le_refl _
  | succ n ih =>
    intro hn
    have h1 := ih (by omega)
    have h2 := h n (by omega)
    show costS ks dp D n + ks.getD (n * dp + D n) 0 ≤ costS ks dp E n + ks.getD (n * dp + E n) 0
    omega
theorem plq_four (D : Nat) : plq (4 * (D : Int)) = D := by unfold plq; split <;> (try split) <;> omega

set_option maxHeartbeats 2000000 in
theorem costOfMap_q (w : World) (wd hi dp M N q c q2 c2 : Nat) (ks ms : List Int) (D : Nat → Nat) (hv : vVol wd hi dp M = true) (hN : N = wd * hi) (hp : MQ w q c M ks) (hm : MQ w q2 c2 N ms) (hk : ∀ k ∈ ks, 0 ≤ k ∧ k ≤ 1000) (hD : ∀ i, i < N → D i < dp ∧ ms.getD i 0 = 4 * (D i : Int)) :
    Calls Try.prog 19 #[.agg #[.int .i64 wd, .int .i64 hi, .int .i64 dp, .slice (some ⟨q, 0, none⟩) M c], .agg #[.int .i64 wd, .int .i64 hi, .slice (some ⟨q2, 0, none⟩) N c2]] w fun e w' => e = .returned (.tuple #[.float .f32 (fq 2 (costS ks dp D N)), .bool true]) ∧ Below w.heap.size w w' := by
  obtain ⟨hpic, hM, d1, d2, d3, d4, d5, d6, d7, d8⟩ := vVol_pic hv
  rw [← hN] at hpic
  have h0 : ∀ i, 0 ≤ ks.getD i 0 ∧ ks.getD i 0 ≤ 1000 := fun i => by
    rw [List.getD_eq_getElem?_getD]
    cases e : ks[i]? with
    | none => simp
    | some z => exact hk z (List.mem_of_getElem? e)
  have hb0 := below_two w (.cells #[.int .i64 wd, .int .i64 hi, .int .i64 dp, .slice (some ⟨q, 0, none⟩) M c] 26) (.cells #[.int .i64 wd, .int .i64 hi, .slice (some ⟨q2, 0, none⟩) N c2] 40)
  have B0 := BoxN.first w #[.int .i64 wd, .int .i64 hi, .int .i64 dp, .slice (some ⟨q, 0, none⟩) M c] 26 (.cells #[.int .i64 wd, .int .i64 hi, .slice (some ⟨q2, 0, none⟩) N c2] 40)
  have B1 := BoxN.second w #[.int .i64 wd, .int .i64 hi, .slice (some ⟨q2, 0, none⟩) N c2] 40 (.cells #[.int .i64 wd, .int .i64 hi, .int .i64 dp, .slice (some ⟨q, 0, none⟩) M c] 26)
  have HV := Lib.hid (hp.mw.vol hb0 hM B0)
  have HMP := Lib.hid (MQ.pic hm hb0 B1.three hN)
  have HB0 := Lib.hid hb0
  have HB1 := Lib.hid B1
  have HKS := Lib.hid hp.len
  have HH0 := Lib.hid h0
  have HDD := Lib.hid hD
  have HHM := Lib.hid hM
  have HN := Lib.hid hN
  have HVV := Lib.hid hv
  have HPP := Lib.hid hpic
  have HBD := Lib.hid (costS_bd (ks := ks) (dp := dp) (D := D) h0)
  have HST : ∀ n, costS ks dp D (n + 1) = costS ks dp D n + ks.getD (n * dp + D n) 0 := fun _ => rfl
  have HST := Lib.hid HST
  have hN2 : N ≤ 256 := by omega
  clear hb0 B0 B1 hp hm hk h0 hD hM hN hv hpic
  go_enter Try.func19, Try.ntmps19
  go_wp2_with fail
  refine (validVolume_any _ _ _ _ _ _ (by omega) _).mono ?_
  rw [HVV.out]
  rintro e w1 ⟨rfl, hb1⟩
  have hbx := HB0.out.trans (hb1.mono HB0.out.size)
  have hv1 := HV.out.below hb1
  have hm1 := HMP.out.below hb1
  obtain ⟨zv0, zv1, zv2, zv3, -, -, -, -⟩ := hv1.box.four
  obtain ⟨zm0, zm1, zm2, -, -, -⟩ := hm1.box.cells
  have HV1 := Lib.hid hv1
  have HM1 := Lib.hid hm1
  have HBX := Lib.hid hbx
  clear hbx hv1 hm1 hb1
  go_wp2_with fail
  refine (validMap_any _ _ _ _ _ (by omega) _).mono ?_
  rw [HPP.out]
  rintro e w2 ⟨rfl, hb2⟩
  have hbx := HBX.out.trans (hb2.mono HBX.out.size)
  have hv2 := HV1.out.below hb2
  have hm2 := HM1.out.below hb2
  clear zv0 zv1 zv2 zv3 zm0 zm1 zm2
  obtain ⟨zv0, zv1, zv2, zv3, -, -, -, -⟩ := hv2.box.four
  obtain ⟨zm0, zm1, zm2, -, -, -⟩ := hm2.box.cells
  have HV2 := Lib.hid hv2
  have HM2 := Lib.hid hm2
  have HBX2 := Lib.hid hbx
  clear hbx hv2 hm2 hb2
  go_wp2_with fail
  go_loopw [6, 34] (fun v6 v34 wr => ∃ y n : Nat, v34 = .int .i64 y ∧ y ≤ hi ∧ v6 = .float .f32 (fq 2 (costS ks dp D (wd * y))) ∧ wr = w2.drewN n) (fun _ v34 _ => hi - (intOf v34).toNat)
  case atStart => exact ⟨0, 0, rfl, Nat.zero_le _, by rw [Nat.mul_zero]; show _ = Value.float .f32 (fq 2 0); rw [fq_zero], rfl⟩
  case round =>
    obtain ⟨y, n, rfl, hy_, rfl, rfl⟩ := hrel
    by_cases hy : y < hi
    · obtain ⟨S0, hS0⟩ : ∃ S0, S0 = fq 2 (costS ks dp D (wd * y)) := ⟨_, rfl⟩
      rw [← hS0]
      have HS0 := Lib.hid hS0
      clear hS0
      go_wp2_with fail
      go_loopw [6, 39] (fun v6 v39 wr => ∃ x n : Nat, v39 = .int .i64 x ∧ x ≤ wd ∧ v6 = .float .f32 (fq 2 (costS ks dp D (x + wd * y))) ∧ wr = w2.drewN n) (fun _ v39 _ => wd - (intOf v39).toNat)
      case atStart => exact ⟨0, n, rfl, Nat.zero_le _, by rw [Nat.zero_add, HS0.out], rfl⟩
      case round =>
        obtain ⟨x, n, rfl, hx_, rfl, rfl⟩ := hrel
        by_cases hx : x < wd
        · have KA := Lib.hid (mat_q (w2.drewN n) (w.heap.size + 1) wd hi _ ms x y x y rfl rfl hx hy (by omega) (by omega) (HM2.out.drew2 n))
          have hxy : x + wd * y < N := by rw [HN.out]; exact xy_lt hx hy
          obtain ⟨hd1, hd2⟩ := HDD.out _ hxy
          have hdk := HH0.out ((x + wd * y) * dp + D (x + wd * y))
          have hbd := HBD.out (x + wd * y)
          have KP := Lib.hid (fun m => place_q (4 * ((D (x + wd * y) : Nat) : Int)) (w2.drewN m) (by omega) (by omega))
          rw [plq_four] at KP
          rw [hd2] at KA
          have KC := Lib.hid (fun m => cell_any (w2.drewN m) w.heap.size wd hi dp q 0 M c _ x y x y rfl rfl hx hy d2 d4 d6 d7 (HV2.out.drewN m))
          have hcost := (HV2.out.cost hx hy hd1).1
          rw [gc_q HHM.out HKS.out hx hy hd1, Nat.zero_add] at hcost
          have had := fq_add (g := 2) (a := costS ks dp D (x + wd * y)) (b := ks.getD ((x + wd * y) * dp + D (x + wd * y)) 0) (by omega) (by omega) (by omega)
          rw [← HST.out (x + wd * y)] at had
          have ar := fres_some had
          have af := fdr_some had
          have hd0 : ∀ W : World, W.drewN 0 = W := fun _ => rfl
          have hin : (decide ((0 : Int) ≤ ((D (x + wd * y) : Nat) : Int)) && decide (((D (x + wd * y) : Nat) : Int) ≤ (dp : Int) - 1)) = true := by simp; omega
          obtain ⟨S1, hS1⟩ : ∃ S1, S1 = fq 2 (costS ks dp D (x + wd * y + 1)) := ⟨_, rfl⟩
          rw [← hS1] at ar
          have HS1 := Lib.hid hS1
          generalize fq 2 (costS ks dp D (x + wd * y)) = s0 at *
          generalize fq 2 (ks.getD ((x + wd * y) * dp + D (x + wd * y)) 0) = s1 at *
          generalize fq 2 (4 * ((D (x + wd * y) : Nat) : Int)) = s2 at *
          generalize D (x + wd * y) = dd at *
          generalize ic wd dp x y = kk at *
          have hd3 : (dd : Int) < (dp : Int) := by omega
          clear hdk hbd hd2 hS1 had hxy
          go_wp2_with fail
          refine KA.out.mono ?_
          rintro e w3 ⟨rfl, m3, rfl⟩
          go_wp2_with fail
          refine (KP.out _).mono ?_
          rintro e w4 ⟨rfl, m4, rfl⟩
          go_wp2_with fail
          refine (in_any _ _ _ _).mono ?_
          rw [hin]
          rintro e w5 ⟨rfl, rfl⟩
          clear hin
          go_wp2_with fail
          refine (KC.out _).mono ?_
          rintro e w6 ⟨rfl, m6, rfl⟩
          go_wp2
          go_roundw
          case rel => exact ⟨x + 1, _, by go_num, by omega, by rw [HS1.out, show x + 1 + wd * y = x + wd * y + 1 from by omega], rfl⟩
          case measure => simp [intOf]; omega
        · obtain rfl : wd = x := by omega
          go_wp2
          go_roundw
          case rel => exact ⟨y + 1, n, by go_num, by omega, by rw [show wd + wd * y = wd * (y + 1) from by rw [Nat.mul_add]; omega], rfl⟩
          case measure => simp [intOf]; omega
    · obtain rfl : hi = y := by omega
      have hbz := below_drewN HBX2.out n
      rw [← HN.out]
      go_wp2
      go_ret2
      exact ⟨rfl, hbz⟩

end Go.Proofs.Ytdeikjiflinkhaa
