/- RowCost. -/
import Derived.Test.YtfhlpabbacopjaaJg
import Derived.Deep.RegionHeld3
import Derived.StillTactics
namespace Go.Proofs.Ytfhlpabbacopjaa
open Go.RowKit
set_option maxRecDepth 100000
set_option linter.unusedVariables false
set_option linter.unusedSimpArgs false

theorem rowC_bd {C : Nat → Nat → Int} {pr : Nat → Nat → Int} {v : Nat → Nat} {n : Nat} (hC : ∀ x, x ≤ n → 0 ≤ C x (v x) ∧ C x (v x) ≤ 100) (hp : ∀ a b, 0 ≤ pr a b ∧ pr a b ≤ 100) : ∀ x, x ≤ n → 0 ≤ rowC C pr v x ∧ rowC C pr v x ≤ 100 + 200 * x := by
  intro x
  induction x with
  | zero => intro h; have := hC 0 h; exact ⟨this.1, by show C 0 (v 0) ≤ _; omega⟩
  | succ x ih =>
    intro h
    have a := ih (by omega)
    have b := hC (x + 1) h
    have c := hp (v x) (v (x + 1))
    show 0 ≤ rowC C pr v x + pr (v x) (v (x + 1)) + C (x + 1) (v (x + 1)) ∧ rowC C pr v x + pr (v x) (v (x + 1)) + C (x + 1) (v (x + 1)) ≤ _
    omega
theorem RowAt.below {W W' : World} {b off : Nat} {vs : List Nat} (h : RowAt W b off vs) (hb : Below W.heap.size W W') (hlt : b < W.heap.size) : RowAt W' b off vs := fun i hi => (hb.cell (p := ⟨b, off + i, none⟩) hlt).trans (h i hi)

set_option maxHeartbeats 4000000 in
theorem rowCost_ok (w : World) (wd hi dp N qv Nv cv y b cap : Nat) (bs : List Nat) (P : Int → Int → List Int) (one more : Int) (vs : List Nat) (hC : Cst P bs wd hi dp N Nv one more)
    (hv : SlF w (.slice (some ⟨qv, 0, none⟩) Nv cv) bs) (hlv : bs.length = wd * hi * dp) (hy : y < hi) (hqv : qv < w.heap.size) (hr : RowAt w b 0 vs) (hbl : b < w.heap.size) (hvl : vs.length = wd) (hvd : ∀ i, i < wd → vs.getD i 0 < dp) :
    Calls Try.prog 22 #[.agg #[.int .i64 wd, .int .i64 hi, .int .i64 dp, .slice (some ⟨qv, 0, none⟩) Nv cv], .agg #[.float .f32 (fq 2 one), .float .f32 (fq 2 more)], .int .i64 y, .slice (some ⟨b, 0, none⟩) wd cap] w fun e w' =>
      e = .returned (.tuple #[.float .f32 (fq 2 (rowC (CY P y) (prI one more) (fun k => vs.getD k 0) (wd - 1))), .bool true]) ∧ Below w.heap.size w w' := by
  obtain ⟨d1, d2, d3, d4, d5, d6, d7, d8, d9, d10⟩ := hC.dims
  have KR := Lib.hid (fun w => rowOk_yes w wd hi dp Nv y (some ⟨qv, 0, none⟩) cv one more hC.vv d9 hy d4 hC.o0 hC.o1 (by have := hC.o2; omega))
  have KPR := Lib.hid (fun W a b ha hb => price_any W one more a b ha hb)
  have hcc : ∀ x, x ≤ wd - 1 → 0 ≤ CY P y x (vs.getD x 0) ∧ CY P y x (vs.getD x 0) ≤ 100 := fun x hx => hC.hc x y _ (by omega) hy (hvd x (by omega))
  have hpp : ∀ a b, 0 ≤ prI one more a b ∧ prI one more a b ≤ 100 := fun a b => by have := prI_bd hC.o0 hC.o1 a b; have := hC.o2; omega
  have HBD := Lib.hid (rowC_bd hcc hpp)
  have HCC := Lib.hid hcc
  have HPP := Lib.hid hpp
  have HQ := Lib.hid hC.qv
  have HVD := Lib.hid hvd
  obtain ⟨vo, hvo⟩ : ∃ vo, vo = fq 2 one := ⟨_, rfl⟩
  obtain ⟨vm, hvm⟩ : ∃ vm, vm = fq 2 more := ⟨_, rfl⟩
  rw [← hvo, ← hvm] at KR KPR ⊢
  have hb0 := below_two w (.cells #[.int .i64 wd, .int .i64 hi, .int .i64 dp, .slice (some ⟨qv, 0, none⟩) Nv cv] 26) (.cells #[.float .f32 vo, .float .f32 vm] 30)
  have BV := BoxN.first w #[.int .i64 wd, .int .i64 hi, .int .i64 dp, .slice (some ⟨qv, 0, none⟩) Nv cv] 26 (.cells #[.float .f32 vo, .float .f32 vm] 30)
  have BP := BoxN.second w #[.float .f32 vo, .float .f32 vm] 30 (.cells #[.int .i64 wd, .int .i64 hi, .int .i64 dp, .slice (some ⟨qv, 0, none⟩) Nv cv] 26)
  have hv1 := hv.below hb0
  have hr1 := hr.below hb0 hbl
  have HB0 := Lib.hid hb0
  have HLV := Lib.hid hlv
  have HQV := Lib.hid hqv
  have HBL := Lib.hid hbl
  have HVL := Lib.hid hvl
  clear hv hb0 hC d7 hvo hvm hlv hqv hcc hpp hvd hr hbl hvl
  go_enter Try.func22, Try.ntmps22
  go_wp2_with fail
  refine (KR.out _).mono ?_
  rintro e w1 ⟨rfl, hb1⟩
  replace BP := BP.below hb1
  replace BV := BV.below hb1
  replace hr1 := hr1.below hb1 (Nat.lt_of_lt_of_le HBL.out HB0.out.size)
  have hvv := VolAt.mk BV (hv1.below hb1) HLV.out
  have HB1 := Lib.hid (HB0.out.trans (hb1.mono HB0.out.size))
  obtain ⟨y0, y1, y2, y3, -, -, -, -⟩ := BV.four
  have KC := Lib.hid (containsRow_no w1 b 0 cap w.heap.size wd hi dp _ vs hr1 (fun i hi_ => HVD.out i (by rw [← HVL.out]; exact hi_)) d6 (by rw [HVL.out]; omega) BV)
  rw [HVL.out] at KC
  have HVA := Lib.hid hvv
  have HR := Lib.hid hr1
  have HBP := Lib.hid BP
  have HBV := Lib.hid BV
  clear hb1 hv1 hvv hr1 BP BV
  go_wp2_with fail
  clear y0 y1 y2 y3
  refine KC.out.mono ?_
  rintro e w' ⟨rfl, rfl⟩
  have hq1 : qv < w1.heap.size := Nat.lt_of_lt_of_le HQV.out HB1.out.size
  have hbw : b < w1.heap.size := Nat.lt_of_lt_of_le HBL.out HB1.out.size
  have KA := Lib.hid (fun W (hW : Below w1.heap.size w1 W) (X : Int) (x : Nat) (hX : X = x) (hx : x < wd) => cell_any W w.heap.size wd hi dp qv 0 Nv cv bs X y x y hX rfl hx hy d2 d4 d5 d6 (HVA.out.below hW))
  simp only [Nat.zero_add] at KA
  have KV := Lib.hid (fun W (hW : Below w1.heap.size w1 W) (i : Nat) (hi_ : i < wd) => show W.cell? ⟨b, i, none⟩ = some (.int .i64 (vs.getD i 0 : Nat)) from (hW.cell (p := ⟨b, i, none⟩) hbw).trans (by have := HR.out i (by rw [HVL.out]; exact hi_); rw [Nat.zero_add] at this; exact this))
  have KC2 := Lib.hid (fun W (hW : Below w1.heap.size w1 W) (x : Nat) (hx : x < wd) => show W.cell? ⟨qv, ic wd dp x y + vs.getD x 0, none⟩ = some (.float .f32 (fq 2 (CY P y x (vs.getD x 0)))) from by
    have h := ((HVA.out.below hW).cost hx hy (HVD.out x hx)).1
    rw [Nat.zero_add] at h
    unfold gc at h
    rw [(HQ.out.2 x y hx hy).2 _ (HVD.out x hx)] at h
    exact h)
  have KP := Lib.hid (fun W (hW : Below w1.heap.size w1 W) => show W.cell? ⟨w.heap.size + 1, 0, none⟩ = some (.float .f32 vo) ∧ W.cell? ⟨w.heap.size + 1, 1, none⟩ = some (.float .f32 vm) from by
    have zp0 := (HBP.out.below hW).cell 0
    have zp1 := (HBP.out.below hW).cell 1
    simp only [List.size_toArray, List.length_cons, List.length_nil, List.getElem?_toArray, List.getElem?_cons_zero, List.getElem?_cons_succ] at zp0 zp1
    exact ⟨zp0, zp1⟩)
  have hB0 : Below w1.heap.size w1 w1.drew := below_drewN (Below.refl _ _) 1
  have CE := Lib.hid (fun W (hW : Below w1.heap.size w1 W) => And.intro hW (And.intro (KV.out W hW 0 (by omega)) (KC2.out W hW 0 (by omega))))
  have K0 := Lib.hid (fun W hW => KA.out W hW 0 0 rfl (by omega))
  have h0d := HVD.out 0 (by omega)
  obtain ⟨v0, hv0⟩ : ∃ v, fq 2 (CY P y 0 (vs.getD 0 0)) = v := ⟨_, rfl⟩
  rw [hv0] at CE
  have HV0 := Lib.hid hv0
  obtain ⟨z0, hz0⟩ : ∃ z, vs.getD 0 0 = z := ⟨_, rfl⟩
  rw [hz0] at CE h0d
  obtain ⟨i0, hi0⟩ : ∃ i, ic wd dp 0 y = i := ⟨_, rfl⟩
  rw [hi0] at CE K0
  have z0I : (z0 : Int) < dp := by omega
  have wdI : 0 < wd := by omega
  clear hv0 hz0 hi0 hq1 hbw KC
  go_wp2_with fail
  go_region_held3 (fun W => Below w1.heap.size w1 W ∧ W.cell? ⟨b, 0, none⟩ = some (.int .i64 (z0 : Nat)) ∧ W.cell? ⟨qv, i0 + z0, none⟩ = some (.float .f32 v0))
    (first | exact CE.out _ hB1 | exact CE.out _ hB0 | go_keep)
    ((go_at_call 47; (with_reducible refine (K0.out _ hB0).mono ?_); rintro e wS1 ⟨rfl, m1, hw1⟩; have hB1 : Below w1.heap.size w1 wS1 := (by rw [hw1]; exact below_drewN hB0 m1); clear hw1))
  have HST := Lib.hid (And.intro HV0.out hB1)
  have d24 : (wd : Int) ≤ 24 := by omega
  clear hB1 hB0 K0 CE z0I h0d
  go_wp2_with fail
  go_loopw [10, 11] (fun v10 v11 wr => ∃ (z vw : Nat), v11 = .int .i64 ((z : Int) + 1) ∧ z + 1 ≤ wd ∧ v10 = .float .f32 vw ∧ vw = fq 2 (rowC (CY P y) (prI one more) (fun k => vs.getD k 0) z) ∧ Below w1.heap.size w1 wr) (fun _ v11 _ => wd - (intOf v11).toNat)
  case atStart => exact ⟨0, v0, rfl, by omega, rfl, HST.out.1.symm, HST.out.2⟩
  case round =>
    clear HST
    obtain ⟨z, vw, rfl, hz, rfl, hvw, hbr⟩ := hrel
    have HBR := Lib.hid hbr
    have HVW := Lib.hid hvw
    by_cases hlt : z + 1 < wd
    · have hd1 := HVD.out z (by omega)
      have hd2 := HVD.out (z + 1) hlt
      have bR := HBD.out z (by omega)
      have bC := HCC.out (z + 1) (by omega)
      have bP := HPP.out (vs.getD z 0) (vs.getD (z + 1) 0)
      have hst : rowC (CY P y) (prI one more) (fun k => vs.getD k 0) (z + 1) = rowC (CY P y) (prI one more) (fun k => vs.getD k 0) z + prI one more (vs.getD z 0) (vs.getD (z + 1) 0) + CY P y (z + 1) (vs.getD (z + 1) 0) := rfl
      have a1 := fq_add (g := 2) (a := rowC (CY P y) (prI one more) (fun k => vs.getD k 0) z) (b := prI one more (vs.getD z 0) (vs.getD (z + 1) 0)) (by omega) (by omega) (by omega)
      have a2 := fq_add (g := 2) (a := rowC (CY P y) (prI one more) (fun k => vs.getD k 0) z + prI one more (vs.getD z 0) (vs.getD (z + 1) 0)) (b := CY P y (z + 1) (vs.getD (z + 1) 0)) (by omega) (by omega) (by omega)
      rw [← hst] at a2
      have CE := Lib.hid (fun W (hW : Below w1.heap.size w1 W) => And.intro hW (And.intro (KP.out W hW).1 (And.intro (KP.out W hW).2 (And.intro (KV.out W hW z (by omega)) (KV.out W hW (z + 1) hlt)))))
      have CF := Lib.hid (fun W (hW : Below w1.heap.size w1 W) => And.intro hW (And.intro (KV.out W hW (z + 1) hlt) (KC2.out W hW (z + 1) hlt)))
      have KP1 := Lib.hid (fun W => KPR.out W (vs.getD z 0) (vs.getD (z + 1) 0) (by omega) (by omega))
      have KC1 := Lib.hid (fun W hW => KA.out W hW ((z : Int) + 1) (z + 1) rfl hlt)
      obtain ⟨vp, hvp⟩ : ∃ v, fq 2 (prI one more (vs.getD z 0) (vs.getD (z + 1) 0)) = v := ⟨_, rfl⟩
      obtain ⟨vt, hvt⟩ : ∃ v, fq 2 (rowC (CY P y) (prI one more) (fun k => vs.getD k 0) z + prI one more (vs.getD z 0) (vs.getD (z + 1) 0)) = v := ⟨_, rfl⟩
      obtain ⟨vc, hvc⟩ : ∃ v, fq 2 (CY P y (z + 1) (vs.getD (z + 1) 0)) = v := ⟨_, rfl⟩
      obtain ⟨vn, hvn⟩ : ∃ v, v = fq 2 (rowC (CY P y) (prI one more) (fun k => vs.getD k 0) (z + 1)) := ⟨_, rfl⟩
      rw [← hvw, hvp, hvt] at a1
      rw [hvt, hvc, ← hvn] at a2
      rw [hvp] at KP1
      rw [hvc] at CF
      have HVN := Lib.hid hvn
      have r1 := fres_some a1
      have r2 := fdr_some a1
      have r3 := fres_some a2
      have r4 := fdr_some a2
      have hd0 : ∀ W : World, W.drewN 0 = W := fun _ => rfl
      obtain ⟨za, hza⟩ : ∃ q, vs.getD z 0 = q := ⟨_, rfl⟩
      obtain ⟨zb, hzb⟩ : ∃ q, vs.getD (z + 1) 0 = q := ⟨_, rfl⟩
      rw [hza] at CE KP1 hd1
      rw [hzb] at CE CF KP1 hd2
      obtain ⟨kk, hkk⟩ : ∃ q, ic wd dp (z + 1) y = q := ⟨_, rfl⟩
      rw [hkk] at CF KC1
      have hB0 : Below w1.heap.size w1 wr.drew := below_drewN hbr 1
      have zI : (z : Int) + 1 < wd := by omega
      have zI2 : (z : Int) < wd := by omega
      have zb8 : (zb : Int) < dp := by omega
      have ez : ((z : Int) + 1).toNat = z + 1 := by omega
      have ez0 : (0 : Int) ≤ (z : Int) + 1 := by omega
      have ez1 : IntKind.i64.wrap ((z : Int) + 1 - 1) = (z : Int) := by rw [show (z : Int) + 1 - 1 = z by omega]; exact IntWalk.i64_in _ (by omega)
      have ez3 : IntKind.i64.wrap (z : Int) = (z : Int) := IntWalk.i64_in _ (by omega)
      have z24 : (z : Int) ≤ 24 := by omega
      have zN : z < wd := by omega
      clear hvw hbr a1 a2 hvp hvt hvc hvn hza hzb hkk hst bR bC bP
      go_wp2_with fail
      go_region_held3 (fun W => Below w1.heap.size w1 W ∧ W.cell? ⟨w.heap.size + 1, 0, none⟩ = some (.float .f32 vo) ∧ W.cell? ⟨w.heap.size + 1, 1, none⟩ = some (.float .f32 vm) ∧ W.cell? ⟨b, z, none⟩ = some (.int .i64 (za : Nat)) ∧ W.cell? ⟨b, z + 1, none⟩ = some (.int .i64 (zb : Nat)))
        (first | exact CE.out _ hB1 | exact CE.out _ hB0 | go_keep)
        ((go_at_call 60; (with_reducible refine (KP1.out _).mono ?_); rintro e wS1 ⟨rfl, hb1⟩; have hB1 : Below w1.heap.size w1 wS1 := hB0.trans (hb1.mono hB0.size)))
      have hB2 : Below w1.heap.size w1 wS1.drew := below_drewN hB1 1
      clear CE KP1 hB0
      go_wp2_with fail
      go_region_held3 (fun W => Below w1.heap.size w1 W ∧ W.cell? ⟨b, z + 1, none⟩ = some (.int .i64 (zb : Nat)) ∧ W.cell? ⟨qv, kk + zb, none⟩ = some (.float .f32 vc))
        (first | exact CF.out _ hB3 | exact CF.out _ hB2 | go_keep)
        ((go_at_call 47; (with_reducible refine (KC1.out _ hB2).mono ?_); rintro e wS2 ⟨rfl, m2, hw2⟩; have hB3 : Below w1.heap.size w1 wS2 := (by rw [hw2]; exact below_drewN hB2 m2); clear hw2))
      go_wp2_with fail
      go_roundw
      case rel => exact ⟨z + 1, vn, by go_num, by omega, rfl, HVN.out, hB3⟩
      case measure => simp [intOf]; omega
    · obtain rfl : wd = z + 1 := by omega
      clear hvw hbr
      go_wp2_with fail
      first | go_ret2 | go_ret
      refine ⟨?_, HB1.out.trans (HBR.out.mono HB1.out.size)⟩
      rw [HVW.out]
      rfl

end Go.Proofs.Ytfhlpabbacopjaa
