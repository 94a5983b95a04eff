/- The law of the sums of numbers: the walk of its code. No condition. -/
import Derived.Test.YtkbcdgkpgfojkaaSum
import Derived.Test.YtkbcdgkpgfojkaaLs
namespace Go.Proofs.Ytkbcdgkpgfojkaa
open Go.RowKit Ieee
set_option maxRecDepth 100000
set_option linter.unusedVariables false
set_option linter.unusedSimpArgs false

theorem below_undrew {w w2 : World} {n : Nat} (h : Below (w.drewN n).heap.size (w.drewN n) w2) : Below w.heap.size w w2 := ⟨h.os, h.tape, h.output, h.size, h.block⟩
theorem run_cvi (w : World) (k : Int) (h : k.natAbs ≤ 16777216) : (convert 24 2 (.float .f32 (fq 0 k))).run Try.prog w = .ok (.int .i64 k) w :=
  run_convert_float_int w _ _ _ _ _ _ (by rfl) (by rfl) (fq_int h)

theorem fnNumberSums_long (w : World) (a0 a1 : Option Addr) (l0 c0 l1 c1 : Nat) (m0 : l0 ≤ 9223372036854775807) (m1 : l1 ≤ 9223372036854775807) (h : ¬ (l0 ≤ 1048576 ∧ l1 ≤ 1048576)) :
    Calls Try.prog 7 #[.slice a0 l0 c0, .slice a1 l1 c1] w fun e w' => e = .returned (.bool true) ∧ Below w.heap.size w w' := by
  go_enter Try.func7, Try.ntmps7
  go_wp2_with fail
  refine (b10Long_yes _ _ _ _ _ _ _ m0 m1 h).mono ?_
  rintro e w' ⟨rfl, rfl⟩
  go_wp2
  go_ret
  exact ⟨rfl, Below.refl _ _⟩

set_option maxHeartbeats 4000000 in
theorem fnNumberSums_short (w : World) (a0 a1 : Option Addr) (l0 c0 l1 c1 : Nat) (h0 : l0 ≤ 1048576) (h1 : l1 ≤ 1048576) (hb0 : BytesIn w a0 l0) (hb1 : BytesIn w a1 l1) :
    Calls Try.prog 7 #[.slice a0 l0 c0, .slice a1 l1 c1] w fun e w' => e = .returned (.bool true) ∧ Below w.heap.size w w' := by
  obtain ⟨i0, hi0, hz0, hz1, hz2⟩ := info_parts info_f32'
  go_enter Try.func7, Try.ntmps7
  go_wp2_with fail
  refine (b10Long_no _ _ _ _ _ _ _ h0 h1).mono ?_
  rintro e w' ⟨rfl, rfl⟩
  go_wp2_with fail
  refine (b10At_any _ _ _ _ 0 20 (by omega) (by omega) (by omega) hb0).mono ?_
  rintro e w' ⟨z, rfl, hz0', hz1', rfl⟩
  obtain ⟨n, rfl⟩ := Int.eq_ofNat_of_zero_le hz0'
  have hn : n ≤ 19 := by omega
  clear hz1'
  go_wp2_with fail
  refine (b10Numbers_any _ _ _ _ n (by omega) hb0).mono ?_
  rintro e w1 ⟨g, c, xs, rfl, hxl, hown, hbel⟩
  have hsl := hown.sl
  have hcap := hsl.caps
  have hc1 : n ≤ c := by rw [← hxl]; exact hxl ▸ hcap.2.1
  have hc2 : c ≤ 9223372036854775807 := hcap.2.2
  have HT := Lib.hid (sumL_take xs)
  have HXL := Lib.hid hxl
  have hb1' := hb1.below hbel
  clear hcap hown hb0 hb1 hxl
  have ha0 : Below w1.heap.size w1 (w1.alloc (.cells #[] 24)) := (Below.refl _ _).alloc (Nat.le_refl _) _
  have hcell : ∀ i : Nat, i < n → ∀ W, Below w1.heap.size w1 W → W.cell? ⟨g, 0 + i, none⟩ = some (.float .f32 (xs.getD i 0)) := fun i hi W hW => (cellAt2 (hsl.below hW) i (by rw [HXL.out]; exact hi)).1
  have HC := Lib.hid hcell
  have HS := Lib.hid hsl
  have HBEL := Lib.hid hbel
  have HB1 := Lib.hid hb1'
  clear hcell hsl hbel hb1'
  go_wp2_with fail
  go_loopw [7, 8, 9] (fun v7 v8 v9 wr => ∃ (i r g1 c1 : Nat), v7 = .slice (some ⟨g1, 0, none⟩) i c1 ∧ v8 = .float .f32 r ∧ v9 = .int .i64 i ∧ i ≤ n ∧ r < 4294967296 ∧ fl r = sumL (xs.take i) ∧ OwnF wr w1.heap.size (.slice (some ⟨g1, 0, none⟩) i c1) (List.replicate i 1065353216) ∧ Below w1.heap.size w1 wr) (fun v7 v8 v9 _ => n - (intOf v9).toNat)
  case atStart => exact ⟨0, 0, _, _, rfl, rfl, rfl, Nat.zero_le _, by omega, (show fl 0 = 0 by decide), OwnF.made0 w1, ha0⟩
  case round =>
    clear ha0
    obtain ⟨i, r, g1, k1, rfl, rfl, rfl, hi, hr, hf, hown, hbl⟩ := hrel
    have HF := Lib.hid hf
    clear hf
    by_cases hlt : i < n
    · have hlen : (List.replicate i 1065353216).length = i := by simp
      have hown' := hown.1
      rw [hlen] at hown'
      have hsz := hbl.size
      have HO := Lib.hid hown
      have HBL := Lib.hid hbl
      clear hown hbl hlen
      go_wp2_with (at_builtin; refine wpList_append_lies _ (by rfl) _ _ _ (by rfl) w1.heap.size 24 i0 _ 1 4 Try.underlying40 hi0 hz0 hz1 hz2 rfl (by omega) (.slice (some ⟨g1, 0, none⟩) i k1) i _ (by rfl) (World.ownsRow.alloc hown' _) ⟨wr.heap.size, 0, none⟩ 1 1 [.float .f32 1065353216] (by rfl) (by rfl) (cell_one_new _ _ _) (by simp [Value.oneCell']) (by omega) (by unfold maxLen; omega) (by omega) (by simp; omega) (wr.heap.size + 1) (by simp) ?_; intro gg cap wz hown2 hgrow hat hlt2; have hbz := below_grown_own wr HBL.out hsz hgrow HO.out; have hcz := HC.out i hlt wz hbz; rw [Nat.zero_add] at hcz; have HBZ := Lib.hid hbz; have HO2 := Lib.hid hown2; clear hbz hown2 hgrow hat)
      go_roundw
      case rel =>
        refine ⟨i + 1, _, gg, cap, rfl, rfl, by go_num, by omega, fres_lt _ _ _ _, by rw [fl_fres, HF.out, HT.out i (by rw [HXL.out]; exact hlt), List.getD_eq_getElem?_getD], OwnF.drewN (⟨?_, by simp⟩ : OwnF wz w1.heap.size (.slice (some ⟨gg, 0, none⟩) (i + 1) cap) (List.replicate (i + 1) 1065353216)) _, ?_⟩
        · have := HO2.out
          simpa [List.map_replicate, ← List.replicate_succ'] using this
        · exact below_drewN HBZ.out _
      case measure => simp [intOf]; omega
    · have hin : i = n := by omega
      subst hin
      have hfull : xs.take i = xs := by rw [← HXL.out, List.take_length]
      rw [hfull] at HF
      have hso := hown.sl
      have hsx := HS.out.below hbl
      have hxlt : ∀ x ∈ xs, x < 4294967296 := hsx.2
      have hones := dotL_ones xs hxlt
      rw [HXL.out] at hones
      obtain ⟨m, hm⟩ : ∃ m : Nat, m = (i + 1) / 2 := ⟨_, rfl⟩
      have hm2 : ((i : Int) + 1) / 2 = m := by omega
      have hm3 : ((i : Int) + 1).tdiv 2 = m := by rw [Int.tdiv_eq_ediv_of_nonneg (by omega)]; exact hm2
      have m1 : m ≤ i := by omega
      have m2 : m ≤ c := by omega
      have HSX := Lib.hid hsx
      have HSO := Lib.hid hso
      have HON := Lib.hid hones
      have HM := Lib.hid hm
      have HBL := Lib.hid hbl
      have HFU := Lib.hid hfull
      clear hso hsx hxlt hones hm hown hbl hfull hlt HC HT
      go_wp2_with fail
      refine (sumNumbers_any _ _ xs (by exact HSX.out) (by rw [HXL.out]; omega)).mono ?_
      rintro e w' ⟨ra, qa, rfl, hra, hfa, rfl⟩
      have HFA := Lib.hid hfa
      clear hfa
      go_wp2_with fail
      refine (dotNumbers_any _ _ _ xs (List.replicate i 1065353216) (by exact HSX.out) (by exact HSO.out) (by rw [HXL.out]; simp) (by rw [HXL.out]; omega)).mono ?_
      rintro e w' ⟨rb, qb, rfl, hrb, hfb, rfl⟩
      have HFB := Lib.hid hfb
      clear hfb
      go_wp2_with fail
      refine (sumPairsX_any _ _ xs (by exact HSX.out) (by rw [HXL.out]; omega)).mono ?_
      rintro e w' ⟨rp, qp, rfl, hrp, hfp, rfl⟩
      have HFP := Lib.hid hfp
      clear hfp
      go_wp2_with fail
      refine (sumPairsX_any _ _ (xs.take m) (by exact SlF.take HSX.out m (by rw [HXL.out]; omega)) (by simp; omega)).mono ?_
      rintro e w' ⟨rl, ql, rfl, hrl, hfl, rfl⟩
      have HFL := Lib.hid hfl
      clear hfl
      have ka : sm ra r = true := by unfold sm; rw [HFA.out, HF.out]; simp
      have kb : sm rb r = true := by unfold sm; rw [HFB.out, HON.out, HF.out]; simp
      have KA := Lib.hid ka
      have KB := Lib.hid kb
      clear ka kb HFA HFB HON HF HFU
      have hdrop : m = c ∨ ¬ c = m := by omega
      rcases hdrop with hcm | hcm
      case' inl =>
        subst hcm
        go_wp2_with fail
        refine (sumPairsX_any _ _ (xs.drop m) (by have := SlF.drop_end HSX.out m rfl; have e : i - m = 0 := (by omega); rw [Nat.sub_self, e] at this; exact this) (by simp; rw [HXL.out]; omega)).mono ?_
      case' inr =>
        go_wp2_with fail
        refine (sumPairsX_any _ _ (xs.drop m) (by have := SlF.drop HSX.out m (by rw [HXL.out]; omega); rw [Nat.zero_add] at this; exact this) (by simp; rw [HXL.out]; omega)).mono ?_
      all_goals
        rintro e w' ⟨rr, qr, rfl, hrr, hfr, rfl⟩
        have HFR := Lib.hid hfr
        clear hfr
        go_wp2_with fail
        refine (sSame_any ra r _ hra hr).mono ?_
        rw [KA.out]
        rintro e w' ⟨rfl, rfl⟩
        go_wp2_with fail
        refine (sSame_any rb r _ hrb hr).mono ?_
        rw [KB.out]
        rintro e w' ⟨rfl, rfl⟩
        by_cases hn1 : 1 < i
        case' pos =>
          have kp : ∀ W, sm rp (fres .add .f32 rl rr W) = true := fun W => by
            unfold sm
            rw [fl_fres, HFP.out, pairs_law xs (by rw [HXL.out]; exact hn1), HFL.out, HFR.out, HXL.out, ← HM.out]; simp
          have hn2 : (1 : Int) < (i : Int) := by omega
          go_wp2_with fail
          refine (sSame_any rp _ _ hrp (fres_lt _ _ _ _)).mono ?_
          rw [kp]
          rintro e w' ⟨rfl, rfl⟩
          clear kp
        all_goals
          clear hra hrb hrp hrl hrr HFP HFL HFR HM HXL KA KB
          go_wp2_with fail
          refine (b10Whole_any _ _ _ _ i 100 (by omega) (by omega) (by have := HB1.out.below HBL.out; exact this)).mono ?_
          rintro e w2 ⟨g2, c2, ks, rfl, hkl, hown2, hks, hb2⟩
          have hks' : ∀ k ∈ ks, k.natAbs ≤ 100 := by intro k hk; have := hks k hk; omega
          have he : ks.map (floatOfInt .f32) = ks.map (fq 0) := List.map_congr_left (fun k hk => fq_ofInt (by have := hks' k hk; omega))
          rw [he] at hown2
          have hsw := hown2.sl
          have hS := sum_bound 100 ks hks'
          have hQ := sqs_bound ks hks'
          have hS2 : (ks.sum).natAbs ≤ 1900 := by rw [hkl] at hS; omega
          have hQ2 : (sqs ks).natAbs ≤ 190000 := by rw [hkl] at hQ; omega
          have hl1 : ks.length * 100 ≤ 16777216 := by rw [hkl]; omega
          have hl2 : ks.length * 10000 ≤ 16777216 := by rw [hkl]; omega
          have hbel2 : Below w.heap.size w w2 := (HBEL.out.trans (HBL.out.mono HBEL.out.size)).trans ((below_undrew hb2).mono (Nat.le_trans HBEL.out.size HBL.out.size))
          have HKS := Lib.hid hks'
          have HKL := Lib.hid hkl
          have HSW := Lib.hid hsw
          have HBEL2 := Lib.hid hbel2
          have HL1 := Lib.hid hl1
          have HL2 := Lib.hid hl2
          clear hS hQ hown2 hks he hb2 hks' hkl hsw hbel2 hl1 hl2
          go_wp2_with fail
          refine (sumNumbers_any _ _ (ks.map (fq 0)) HSW.out (by rw [List.length_map, HKL.out]; omega)).mono ?_
          rintro e w' ⟨rc, qc, rfl, hrc, hfc, rfl⟩
          obtain rfl : rc = fq 0 ks.sum := eq_of_fl (by omega) (hfc.trans (sumL_fq 0 100 ks HKS.out (by omega) HL1.out))
          clear hrc hfc
          go_wp2_with fail
          refine (sumPairsX_any _ _ (ks.map (fq 0)) (by exact HSW.out) (by rw [List.length_map, HKL.out]; omega)).mono ?_
          rintro e w' ⟨rd, qd, rfl, hrd, hfd, rfl⟩
          obtain rfl : rd = fq 0 ks.sum := eq_of_fl (by omega) (hfd.trans (by rw [List.length_map]; exact pairsN_fq 0 100 (by omega) _ ks (Nat.le_refl _) HKS.out HL1.out))
          clear hrd hfd
          have ha2 : Below w2.heap.size w2 (w2.alloc (.cells #[] 24)) := (Below.refl _ _).alloc (Nat.le_refl _) _
          have hown0 : ∀ q, OwnF ((w2.alloc (.cells #[] 24)).drewN q) w2.heap.size (.slice (some ⟨w2.heap.size, 0, none⟩) 0 0) [] := fun q => (OwnF.made0 w2).drewN q
          have hsa := HSW.out.below ha2
          have HA2 := Lib.hid ha2
          have HO0 := Lib.hid hown0
          have HSA := Lib.hid hsa
          clear ha2 hown0 hsa
          go_wp2_with (at_builtin; refine wpList_append_own _ rfl _ _ 40 rfl w2.heap.size 24 i0 _ 1 4 Try.underlying40 hi0 hz0 hz1 hz2 rfl (by omega) (.slice (some ⟨w2.heap.size, 0, none⟩) 0 0) 0 [] rfl (HO0.out _).1 ⟨g2, 0, none⟩ i c2 ((ks.map (fq 0)).map (Value.float .f32)) rfl (by simp; exact HKL.out) HSA.out.news (by simp [Value.oneCell']) (by unfold maxLen; omega) (by omega) (by simp) ?_; intro v' wz hown3 hgrow3 _)
          have hs3 : OwnF wz w2.heap.size v' (ks.map (fq 0)) := ⟨by have := hown3; simpa [HKL.out] using this, HSW.out.2⟩
          have hbz : Below w2.heap.size w2 wz := (below_drewN HA2.out _).grown hgrow3 (by simp) (fun k hk => by simp [Value.ownBlock] at hk; omega)
          have hsz := HSW.out.below hbz
          have HSZ := Lib.hid hsz
          have HBZ := Lib.hid hbz
          clear hsz hbz hown3 hgrow3 HSA HO0 HA2
          refine (sumPairsX_any _ v' (ks.map (fq 0)) hs3.sl (by rw [List.length_map, HKL.out]; omega)).mono ?_
          rintro e w' ⟨re, qe, rfl, hre, hfe, rfl⟩
          obtain rfl : re = fq 0 ks.sum := eq_of_fl (by omega) (hfe.trans (by rw [List.length_map]; exact pairsN_fq 0 100 (by omega) _ ks (Nat.le_refl _) HKS.out HL1.out))
          clear hre hfe hs3
          go_wp2_with fail
          refine (dotNumbers_any _ _ _ (ks.map (fq 0)) (ks.map (fq 0)) (by exact HSZ.out) (by exact HSZ.out) rfl (by rw [List.length_map, HKL.out]; omega)).mono ?_
          rintro e w' ⟨rf, qf, rfl, hrf, hff, rfl⟩
          obtain rfl : rf = fq 0 (sqs ks) := eq_of_fl (by omega) (hff.trans (dotL_fq ks HKS.out HL2.out))
          clear hrf hff
          go_wp2_with fail
          refine (dotWide_whole _ _ _ ks (by exact HSZ.out) (by exact HSZ.out) HKS.out (by rw [HKL.out]; omega)).mono ?_
          rintro e w' ⟨rfl, rfl⟩
          have f1 : eq32 (fq 0 ks.sum) (floatOfInt .f32 ks.sum) = true := by rw [fq_ofInt (by omega), eq32_fq (by omega) (by omega)]; simp
          have f2 : eq32 (fq 0 ks.sum) (fq 0 ks.sum) = true := by rw [eq32_fq (by omega) (by omega)]; simp
          have f3 : eq32 (fq 0 (sqs ks)) (floatOfInt .f32 (sqs ks)) = true := by rw [fq_ofInt (by omega), eq32_fq (by omega) (by omega)]; simp
          have f4 : eq32 (fq 0 (sqs ks)) (fq 0 (sqs ks)) = true := by rw [eq32_fq (by omega) (by omega)]; simp
          have F1 := Lib.hid f1
          have F2 := Lib.hid f2
          have F3 := Lib.hid f3
          have F4 := Lib.hid f4
          clear f1 f2 f3 f4
          generalize hSV : fq 0 ks.sum = SV at *
          generalize hQV : fq 0 (sqs ks) = QV at *
          clear hSV hQV
          go_wp2_with fail
          go_loopw [32, 33, 34] (fun v32 v33 v34 wr => ∃ (j q : Nat), v32 = .int .i64 (ks.take j).sum ∧ v33 = .int .i64 (sqs (ks.take j)) ∧ v34 = .int .i64 j ∧ j ≤ i ∧ wr = wz.drewN q) (fun v32 v33 v34 _ => i - (intOf v34).toNat)
          case atStart => exact ⟨0, _, by simp, by simp [sqs], rfl, Nat.zero_le _, rfl⟩
          case round =>
            obtain ⟨j, q, rfl, rfl, rfl, hj, rfl⟩ := hrel
            by_cases hlt : j < i
            · have k1 := (cellAt2 HSZ.out j (by rw [List.length_map, HKL.out]; exact hlt)).1
              have hg : (ks.map (fq 0)).getD j 0 = fq 0 (ks.getD j 0) := by
                rw [List.getD_eq_getElem?_getD, List.getD_eq_getElem?_getD, List.getElem?_map, List.getElem?_eq_getElem (by rw [HKL.out]; exact hlt)]; rfl
              have hkk : (ks.getD j 0).natAbs ≤ 100 := by
                rw [List.getD_eq_getElem?_getD, List.getElem?_eq_getElem (by rw [HKL.out]; exact hlt)]
                exact HKS.out _ (List.getElem_mem _)
              have hkq := sq_bound hkk
              have t1 := sum_bound 100 (ks.take j) (fun k hk => HKS.out k (List.mem_of_mem_take hk))
              have t2 := sqs_bound (ks.take j) (fun k hk => HKS.out k (List.mem_of_mem_take hk))
              have tl : (ks.take j).length = j := by rw [List.length_take, HKL.out]; omega
              rw [tl] at t1 t2
              have n1 := sum_take ks j (by rw [HKL.out]; exact hlt)
              have n2 := sqs_take ks j (by rw [HKL.out]; exact hlt)
              rw [hg, Nat.zero_add] at k1
              generalize ks.getD j 0 = k at *
              have N1 := Lib.hid n1
              have N2 := Lib.hid n2
              generalize (ks.take j).sum = s1 at *
              generalize sqs (ks.take j) = s2 at *
              have hq0 : 0 ≤ k * k := by
                rcases Int.lt_or_le k 0 with h | h
                · exact Int.le_of_lt (Int.mul_pos_of_neg_of_neg h h)
                · exact Int.mul_nonneg h h
              have b1 : -2000 ≤ s1 := by omega
              have b2 : s1 ≤ 2000 := by omega
              have b3 : -200000 ≤ s2 := by omega
              have b4 : s2 ≤ 200000 := by omega
              have b5 : -100 ≤ k := by omega
              have b6 : k ≤ 100 := by omega
              have b7 : k * k ≤ 10000 := by omega
              have cv : ∀ W, (convert 24 2 (.float .f32 (fq 0 k))).run Try.prog W = .ok (.int .i64 k) W := fun W => run_cvi W k (by omega)
              have k2 : ∀ q, (wz.drewN q).cell? ⟨g2, j, none⟩ = some (.float .f32 (fq 0 k)) := fun _ => k1
              have w1' : IntKind.i64.wrap (k * k) = k * k := IntWalk.i64_in _ (by omega)
              have w2' : IntKind.i64.wrap (s2 + k * k) = s2 + k * k := IntWalk.i64_in _ (by omega)
              clear n1 n2 t1 t2 tl hg hkk hkq k1
              go_wp2_with fail
              go_quiet (fail)
              go_wp2
              go_roundw
              case rel => exact ⟨j + 1, _, by rw [N1.out], by rw [N2.out], by go_num, by omega, rfl⟩
              case measure => simp [intOf]; omega
            · have : j = i := by omega
              subst this
              have hfull : ks.take j = ks := by rw [← HKL.out, List.take_length]
              rw [hfull]
              have f1 := F1.out
              have f2 := F2.out
              have f3 := F3.out
              have f4 := F4.out
              have q1 : (ks.sum) ≤ 2000 := by omega
              have q2 : -2000 ≤ (ks.sum) := by omega
              clear hfull hlt
              go_wp2
              go_ret
              exact ⟨rfl, below_drewN (HBEL2.out.trans (HBZ.out.mono HBEL2.out.size)) _⟩

theorem fnNumberSums_walk (w : World) (a0 a1 : Option Addr) (l0 c0 l1 c1 : Nat) (z0 z1 : List Int)
    (r0 : (a0 = none ∧ l0 = 0 ∧ c0 = 0 ∧ z0 = []) ∨ ∃ x, a0 = some x ∧ l0 ≤ c0 ∧ c0 ≤ maxLen ∧ z0.length = c0 ∧ (∀ i, i < z0.length → w.cell? (x.add i) = some (.int .u8 (z0.getD i 0))) ∧ ∀ n ∈ z0, (Lit.int .u8 n).wf = true)
    (r1 : (a1 = none ∧ l1 = 0 ∧ c1 = 0 ∧ z1 = []) ∨ ∃ x, a1 = some x ∧ l1 ≤ c1 ∧ c1 ≤ maxLen ∧ z1.length = c1 ∧ (∀ i, i < z1.length → w.cell? (x.add i) = some (.int .u8 (z1.getD i 0))) ∧ ∀ n ∈ z1, (Lit.int .u8 n).wf = true) :
    Calls Try.prog 7 #[.slice a0 l0 c0, .slice a1 l1 c1] w fun e w' => e = .returned (.bool true) ∧ Below w.heap.size w w' := by
  by_cases h : l0 ≤ 1048576 ∧ l1 ≤ 1048576
  · exact fnNumberSums_short w a0 a1 l0 c0 l1 c1 h.1 h.2 (bytesIn_of_row r0 h.1) (bytesIn_of_row r1 h.2)
  · exact fnNumberSums_long w a0 a1 l0 c0 l1 c1 (len_of_row r0) (len_of_row r1) h

end Go.Proofs.Ytkbcdgkpgfojkaa
