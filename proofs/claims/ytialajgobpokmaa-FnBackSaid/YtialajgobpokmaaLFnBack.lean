/- The law of pictures told back: the walk of its code. No condition. -/
import Derived.Test.YtialajgobpokmaaPo
import Derived.Deep.RegionHeld3
import Derived.StillTactics
namespace Go.Proofs.Ytialajgobpokmaa
open Go.RowKit
set_option maxRecDepth 100000
set_option linter.unusedVariables false
set_option linter.unusedSimpArgs false

theorem fnBack_long (w : World) (a0 a1 : Option Addr) (l0 c0 l1 c1 : Nat) (m0 : l0 ≤ 9223372036854775807) (m1 : l1 ≤ 9223372036854775807) (h : ¬ (l0 ≤ 48 ∧ l1 ≤ 48)) :
    Calls Try.prog 5 #[.slice a0 l0 c0, .slice a1 l1 c1] w fun e w' => e = .returned (.bool true) ∧ Below w.heap.size w w' := by
  go_enter Try.func5, Try.ntmps5
  go_wp2_with fail
  refine (r8Long_yes _ _ _ _ _ _ _ m0 m1 h).mono ?_
  rintro e w' ⟨rfl, rfl⟩
  go_wp2
  go_ret
  exact ⟨rfl, Below.refl _ _⟩

set_option maxHeartbeats 40000000 in
theorem fnBack_short (w : World) (a0 a1 : Option Addr) (l0 c0 l1 c1 : Nat) (h0 : l0 ≤ 48) (h1 : l1 ≤ 48) (hb0 : BytesIn w a0 l0) (hb1 : BytesIn w a1 l1) :
    Calls Try.prog 5 #[.slice a0 l0 c0, .slice a1 l1 c1] w fun e w' => e = .returned (.bool true) ∧ Below w.heap.size w w' := by
  go_enter Try.func5, Try.ntmps5
  go_wp2_with fail
  refine (r8Long_no _ _ _ _ _ _ _ h0 h1).mono ?_
  rintro e w' ⟨rfl, rfl⟩
  obtain ⟨i0, hi0, hz0, hz1, hz2⟩ := info_parts info_f32
  go_wp2_with fail
  refine (r8Picture_any _ _ _ _ hb0).mono ?_
  rintro e wP ⟨wd, hi, a, cP, bs, rfl, v1, v2, v3, v4, hbl, hown, hq, bw⟩
  obtain ⟨ks, rfl, hk⟩ := exists_ks bs hq
  obtain ⟨N, hN⟩ : ∃ N, N = wd * hi := ⟨_, rfl⟩
  rw [hbl, ← hN] at hown ⊢
  have hN1 : N ≤ 24 := by rw [hN]; exact Nat.mul_le_mul v2 v4
  have hN0 : 1 ≤ N := by rw [hN]; exact Nat.mul_pos (by omega) v3
  obtain ⟨qP, rfl⟩ := own_ptr hown (by rw [hbl, ← hN]; exact hN0)
  have pP : PW wP qP cP N (ks.map (fq 2)) := ⟨hown.sl, (hown.lt (k := qP) rfl).2, by rw [hbl, hN]⟩
  have hv : vPic wd hi N = true := by rw [hN]; exact vPic_of (by omega) (by omega) v3 (by omega) (by rw [← hN]; omega)
  have hkl : ks.length = N := by have := hbl; rw [List.length_map] at this; rw [this, hN]
  have HV := Lib.hid hv
  have HNN := Lib.hid hN
  have HKL := Lib.hid hkl
  have HK := Lib.hid hk
  have hbel := bw
  replace hb1 := hb1.below bw
  clear hv hkl hk hbl hown hq hN hb0
  have ha : Below wP.heap.size wP (wP.alloc (.cells #[.int .i64 wd, .int .i64 hi, .slice (some ⟨qP, 0, none⟩) N cP] 26)) := (Below.refl _ _).alloc (Nat.le_refl _) _
  have bP := BoxN.last wP #[.int .i64 wd, .int .i64 hi, .slice (some ⟨qP, 0, none⟩) N cP] 26
  replace pP := pP.below ha
  replace hb1 := hb1.below ha
  replace hbel := hbel.trans (ha.mono hbel.size)
  clear bw ha
  go_wp2_with fail
  generalize hoP : wP.heap.size = oP at *
  generalize hwP : wP.alloc (.cells #[.int .i64 wd, .int .i64 hi, .slice (some ⟨qP, 0, none⟩) N cP] 26) = WP at *
  clear hoP hwP
  refine (r8At_any _ _ _ _ 0 3 (by omega) (by omega) (by omega) hb1).mono ?_
  rintro e w' ⟨x, rfl, x0, x1, rfl⟩
  obtain ⟨d, rfl⟩ := Int.eq_ofNat_of_zero_le x0
  have hd : d ≤ 2 := by omega
  clear x0 x1
  obtain ⟨zP0, zP1, zP2, -, -, -⟩ := bP.three.cells
  go_wp2_with fail
  clear zP0 zP1 zP2
  refine (shift_pw _ wd hi N qP cP d ks HV.out pP (by omega) HKL.out HK.out).mono ?_
  rintro e wR ⟨qR, cR, rfl, pR, bw⟩
  have ha : Below wR.heap.size wR (wR.alloc (.cells #[.int .i64 wd, .int .i64 hi, .slice (some ⟨qR, 0, none⟩) N cR] 26)) := (Below.refl _ _).alloc (Nat.le_refl _) _
  have bR := BoxN.last wR #[.int .i64 wd, .int .i64 hi, .slice (some ⟨qR, 0, none⟩) N cR] 26
  replace pR := pR.below ha
  replace bP := (bP.below bw).below ha
  replace pP := (pP.below bw).below ha
  replace hb1 := (hb1.below bw).below ha
  replace hbel := (hbel.trans (bw.mono hbel.size)).trans (ha.mono (Nat.le_trans hbel.size bw.size))
  clear bw ha
  obtain ⟨zP0, zP1, zP2, -, -, -⟩ := bP.three.cells
  go_wp2_with fail
  have hsR : (wR.alloc (.cells #[.int .i64 wd, .int .i64 hi, .slice (some ⟨qR, 0, none⟩) N cR] 26)).heap.size = wR.heap.size + 1 := by simp
  generalize hoR : wR.heap.size = oR at *
  generalize hwR : wR.alloc (.cells #[.int .i64 wd, .int .i64 hi, .slice (some ⟨qR, 0, none⟩) N cR] 26) = WR at *
  clear hoR hwR
  clear zP0 zP1 zP2
  rw [← hsR]
  clear hsR
  have ha1 := alb1 WR (.cells #[] 32)
  have ha2 := ha1.trans ((alb1 (WR.alloc (.cells #[] 32)) (.cells #[.int .i64 wd, .int .i64 hi, .slice (some ⟨WR.heap.size, 0, none⟩) 0 0] 51)).mono ha1.size)
  have bM := BoxN.last (WR.alloc (.cells #[] 32)) #[.int .i64 wd, .int .i64 hi, .slice (some ⟨WR.heap.size, 0, none⟩) 0 0] 51
  rw [show (WR.alloc (.cells #[] 32)).heap.size = WR.heap.size + 1 by simp] at bM
  have oM : OwnF ((WR.alloc (.cells #[] 32)).alloc (.cells #[.int .i64 wd, .int .i64 hi, .slice (some ⟨WR.heap.size, 0, none⟩) 0 0] 51)) WR.heap.size (.slice (some ⟨WR.heap.size, 0, none⟩) 0 0) (List.replicate 0 (fq 0 (d : Int))) := by
    refine ⟨⟨rfl, .inr ⟨WR.heap.size, 0, #[], rfl, Nat.le_refl _, ?_, Nat.le_refl _, by unfold maxLen; omega, rfl, rfl⟩⟩, by simp⟩
    rw [heap_alloc_old _ _ (by simp)]; exact heap_alloc_new WR _
  have START := Lib.hid (And.intro ha2 (And.intro bM oM))
  have HBEL := Lib.hid hbel
  have KhP := Lib.hid bP
  have KpP := Lib.hid pP
  have KhR := Lib.hid bR
  have KpR := Lib.hid pR
  have Khb := Lib.hid hb1
  have wl : wd ≤ 6 := v2
  have hl : hi ≤ 4 := v4
  have of := fq_ofInt (n := (d : Int)) (by omega)
  have hvlt := fq_lt (g := 0) (k := (d : Int)) (by omega)
  obtain ⟨vd, hvd⟩ : ∃ v, v = fq 0 (d : Int) := ⟨_, rfl⟩
  rw [← hvd] at of hvlt
  have HVD := Lib.hid hvd
  have hp := HNN.out
  have hmul : (wd : Int) * (hi : Int) = (N : Int) := by rw [hp]; simp
  have HMUL := Lib.hid hmul
  have m0 : 0 ≤ (wd : Int) * (hi : Int) := by omega
  have m1 : (wd : Int) * (hi : Int) ≤ 24 := by omega
  clear ha1 ha2 bM oM hbel bP pP bR pR hb1 hvd hp hmul
  go_loopw [10] (fun v10 wr => ∃ i q c : Nat, v10 = .int .i64 i ∧ i ≤ N ∧ Below WR.heap.size WR wr ∧ BoxN wr (WR.heap.size + 1) #[.int .i64 wd, .int .i64 hi, .slice (some ⟨q, 0, none⟩) i c] 51 ∧ OwnF wr WR.heap.size (.slice (some ⟨q, 0, none⟩) i c) (List.replicate i vd) ∧ q ≠ WR.heap.size + 1) (fun v10 _ => N - (intOf v10).toNat)
  case atStart =>
    obtain ⟨s1, s2, s3⟩ := START.out
    exact ⟨0, WR.heap.size, 0, rfl, Nat.zero_le _, s1, s2, by rw [HVD.out]; exact s3, by omega⟩
  case round =>
    clear START
    obtain ⟨i, q, c, rfl, hi_, hbw, hM, hO, hqne⟩ := hrel
    have bP := KhP.out.below hbw
    obtain ⟨zP0, zP1, zP2, -, -, -⟩ := bP.three.cells
    obtain ⟨zM0, zM1, zM2, fM0, fM1, fM2⟩ := hM.three.cells
    by_cases hlt : i < N
    · have hlt2 : (i : Int) < (wd : Int) * (hi : Int) := by rw [HMUL.out]; omega
      have hown := hO
      have hqB := hO.lt (k := q) rfl
      have hML := hM.lt
      have HM := Lib.hid hM
      have HO := Lib.hid hO
      have HBW := Lib.hid hbw
      have hsz := hbw.size
      have hi24 : i ≤ 24 := by omega
      have hon := hown.1
      rw [List.length_replicate] at hon
      have HOW := Lib.hid hon
      clear hM hO hbw bP hown hon
      go_wp2_with (at_builtin; refine wpList_append_lies _ (by rfl) _ _ _ (by rfl) WR.heap.size 32 i0 _ 1 4 Try.underlying24 hi0 hz0 hz1 hz2 rfl (by omega) (.slice (some ⟨q, 0, none⟩) i c) i _ (by rfl) (World.ownsRow.alloc HOW.out _) ⟨wr.heap.size, 0, none⟩ 1 1 [.float .f32 vd] (by rfl) (by rfl) (cell_one_new _ _ _) (by simp [Value.oneCell']) (by omega) (by unfold maxLen; omega) (by omega) (by simp; omega) (wr.heap.size + 1) (by simp) ?_; intro gg cap w2 hown2 hgrow hat hlt3; have hal := alb1 wr (.cells #[.float .f32 vd] 32); have hM2 := (HM.out.below hal).grown hgrow (by simp [Value.ownBlock]; omega); obtain ⟨y0, y1, y2, g0, g1, g2⟩ := hM2.three.cells)
      go_roundw
      case rel =>
        have hgg : gg = q ∨ gg = wr.heap.size + 1 := by
          rcases hat with e | e
          · simp [Value.ownBlock] at e; exact .inl e.symm
          · exact .inr e
        have hb2 : Below WR.heap.size WR w2 := (HBW.out.trans (hal.mono HBW.out.size)).grown hgrow (by simp; omega) (fun k hk => by simp [Value.ownBlock] at hk; omega)
        have hne2 : gg ≠ WR.heap.size + 1 := by rcases hgg with e | e <;> omega
        refine ⟨i + 1, gg, cap, by go_num, by omega, hb2.setCell (by simp) _, ?_, ?_, hne2⟩
        · have := hM2.set 2 (.slice (some ⟨gg, 0, none⟩) (i + 1) cap)
          simpa using this
        · have ho : OwnF w2 WR.heap.size (.slice (some ⟨gg, 0, none⟩) (i + 1) cap) (List.replicate (i + 1) vd) := by
            refine ⟨?_, fun b hb => by rw [List.eq_of_mem_replicate hb]; exact hvlt⟩
            rw [List.length_replicate, List.replicate_succ', List.map_append]
            exact hown2
          exact ho.grown (grown_setCell _ _ _) (.inr (by simp [Value.ownBlock]; exact hne2))
      case measure => simp [intOf]; omega
    · obtain rfl : N = i := by omega
      have hlt2 : ¬ (N : Int) < (wd : Int) * (hi : Int) := by rw [HMUL.out]; omega
      have pM : PW wr q c N (List.replicate N vd) := ⟨hO.sl, (hO.lt (k := q) rfl).2, List.length_replicate⟩
      have bM := hM
      have pP := KpP.out.below hbw
      have bR := KhR.out.below hbw
      have pR := KpR.out.below hbw
      have hb1 := Khb.out.below hbw
      have hbel := HBEL.out.trans (hbw.mono HBEL.out.size)
      clear hM hO hbw HBEL KhP KpP KhR KpR Khb hqne hlt fM0 fM1 fM2
      generalize WR.heap.size + 1 = oM at *
      obtain ⟨zR0, zR1, zR2, -, -, -⟩ := bR.three.cells
      go_wp2_with fail
      clear zP0 zP1 zP2 zM0 zM1 zM2 zR0 zR1 zR2 hlt2
      refine (back_ok _ wd hi N d q qR c cR _ (shK ks wd hi d) HV.out pM pR (fun i hi_ => by rw [List.getD_eq_getElem?_getD, List.getElem?_replicate, if_pos hi_]; exact HVD.out) (by omega) (shK_bd HK.out wd hi d)).mono ?_
      rintro e wK ⟨qK, cK, bsK, rfl, pK, cnK, bw⟩
      have CK := Lib.hid (back_words HV.out (shK_bd HK.out wd hi d) cnK)
      clear cnK
      have ha : Below wK.heap.size wK (wK.alloc (.cells #[.int .i64 wd, .int .i64 hi, .slice (some ⟨qK, 0, none⟩) N cK] 26)) := (Below.refl _ _).alloc (Nat.le_refl _) _
      have bK := BoxN.last wK #[.int .i64 wd, .int .i64 hi, .slice (some ⟨qK, 0, none⟩) N cK] 26
      replace pK := pK.below ha
      replace bP := (bP.below bw).below ha
      replace pP := (pP.below bw).below ha
      replace hb1 := (hb1.below bw).below ha
      replace bR := (bR.below bw).below ha
      replace pR := (pR.below bw).below ha
      replace bM := (bM.below bw).below ha
      replace pM := (pM.below bw).below ha
      replace hbel := (hbel.trans (bw.mono hbel.size)).trans (ha.mono (Nat.le_trans hbel.size bw.size))
      clear bw ha
      clear bM pM bR pR
      obtain ⟨zP0, zP1, zP2, -, -, -⟩ := bP.three.cells
      go_wp2_with fail
      generalize hoK : wK.heap.size = oK at *
      generalize hwK : wK.alloc (.cells #[.int .i64 wd, .int .i64 hi, .slice (some ⟨qK, 0, none⟩) N cK] 26) = WK at *
      clear hoK hwK
      clear zP0 zP1 zP2
      have KbP := Lib.hid bP
      have KpP := Lib.hid pP
      have Khb1 := Lib.hid hb1
      have KbK := Lib.hid bK
      have KpK := Lib.hid pK
      have KBEL := Lib.hid hbel
      clear hbel bP pP hb1 bK pK
      have wl2 : (wd : Int) ≤ 6 := by omega
      have hl2 : (hi : Int) ≤ 4 := by omega
      have dl2 : (d : Int) ≤ 2 := by omega
      go_loopw [13] (fun v13 wr => ∃ y : Nat, v13 = .int .i64 y ∧ y ≤ hi ∧ Below WK.heap.size WK wr) (fun v13 _ => hi - (intOf v13).toNat)
      case atStart => exact ⟨0, rfl, Nat.zero_le _, Below.refl _ _⟩
      case round =>
        obtain ⟨y, rfl, hy, hbw⟩ := hrel
        have bP := KbP.out.below hbw
        obtain ⟨zP0, zP1, zP2, -, -, -⟩ := bP.three.cells
        by_cases hly : y < hi
        · have HBW := Lib.hid hbw
          have hly2 : (y : Int) < (hi : Int) := by omega
          clear hbw bP
          go_wp2_with fail
          obtain ⟨wo, rfl⟩ : ∃ wo : World, wo = wr := ⟨_, rfl⟩
          go_loopw [14] (fun v14 wr => ∃ x : Nat, v14 = .int .i64 x ∧ d ≤ x ∧ x ≤ wd ∧ Below WK.heap.size WK wr) (fun v14 _ => wd - (intOf v14).toNat)
          case atStart => exact ⟨d, rfl, Nat.le_refl _, by omega, HBW.out⟩
          case round =>
            clear zP0 zP1 zP2
            obtain ⟨x, rfl, hdx, hx, hbw2⟩ := hrel
            have bP := KbP.out.below hbw2
            have bK := KbK.out.below hbw2
            obtain ⟨zP0, zP1, zP2, -, -, -⟩ := bP.three.cells
            obtain ⟨zK0, zK1, zK2, -, -, -⟩ := bK.three.cells
            by_cases hlx : x < wd
            · have pP := KpP.out.below hbw2
              have pK := KpK.out.below hbw2
              have hlt : x + wd * y < N := by
                rw [HNN.out]
                calc x + wd * y < wd + wd * y := by omega
                  _ = wd * (y + 1) := by rw [Nat.mul_add, Nat.mul_one, Nat.add_comm]
                  _ ≤ wd * hi := Nat.mul_le_mul_left _ hly
              have c1 := (pP.sl.cellAt (x + wd * y) (by rw [pP.len]; exact hlt)).1
              have c2 := (pK.sl.cellAt (x + wd * y) (by rw [pK.len]; exact hlt)).1
              have ev : (ks.map (fq 2)).getD (x + wd * y) 0 = fq 2 (ks.getD (x + wd * y) 0) := by
                rw [List.getD_eq_getElem?_getD, List.getD_eq_getElem?_getD, List.getElem?_map, List.getElem?_eq_getElem (by rw [HKL.out]; exact hlt)]; rfl
              rw [ev, Nat.zero_add] at c1
              rw [CK.out x y hlx hly, back_shift ks hdx hlx hly, Nat.zero_add] at c2
              have hkb := ks_bd HK.out (x + wd * y)
              have eqv := eq32_fq (g := 2) (a := ks.getD (x + wd * y) 0) (b := ks.getD (x + wd * y) 0) (by omega) (by omega)
              generalize fq 2 (ks.getD (x + wd * y) 0) = vk at *
              simp only [decide_true] at eqv
              have hmul : wd * y ≤ 6 * 4 := Nat.mul_le_mul v2 (by omega)
              have w1 : IntKind.i64.wrap ((wd : Int) * (y : Int)) = (wd : Int) * (y : Int) := IntWalk.i64_in _ (by rw [← Int.natCast_mul]; omega)
              have w2 : IntKind.i64.wrap ((x : Int) + (wd : Int) * (y : Int)) = (x : Int) + (wd : Int) * (y : Int) := IntWalk.i64_in _ (by rw [← Int.natCast_mul]; omega)
              have w3 : (0 : Int) ≤ (x : Int) + (wd : Int) * (y : Int) := by rw [← Int.natCast_mul]; omega
              have w4 : (x : Int) + (wd : Int) * (y : Int) < (N : Int) := by rw [← Int.natCast_mul]; omega
              have w5 : ((x : Int) + (wd : Int) * (y : Int)).toNat = x + wd * y := by rw [← Int.natCast_mul]; omega
              have hlx2 : (x : Int) < (wd : Int) := by omega
              have HBW2 := Lib.hid hbw2
              have HDX := Lib.hid hdx
              clear ev hkb hmul hlt pP pK bP bK hbw2 hdx
              go_wp2_with fail
              go_quiet (fail)
              go_wp2
              go_roundw
              case rel => exact ⟨x + 1, by go_num, by have := HDX.out; omega, by omega, below_drewN HBW2.out _⟩
              case measure => simp [intOf]; omega
            · obtain rfl : wd = x := by omega
              have HBW2 := Lib.hid hbw2
              clear bP bK hbw2
              go_wp2
              go_roundw
              case rel => exact ⟨y + 1, by go_num, by omega, HBW2.out⟩
              case measure => simp [intOf]; omega
        · obtain rfl : hi = y := by omega
          have pP := KpP.out.below hbw
          have hb1 := Khb1.out.below hbw
          have hbel := KBEL.out.trans (hbw.mono KBEL.out.size)
          clear hbw KBEL KbP KpP Khb1 KbK KpK hly CK
          go_wp2_with fail
          clear zP0 zP1 zP2
          refine (rowOffset_q _ wd hi N qP cP qP cP 2 ks ks HV.out pP pP HK.out HK.out (by decide)).mono ?_
          rintro e wO ⟨best, rfl, o1, o2, o3, bw⟩
          have o4 := offS_nonneg HK.out HK.out (wd := wd) (hi := hi) (by omega) (by omega) best
          have o5 := offS_self ks wd hi
          have o6 := o3 0 (by omega) (by omega)
          rw [o5] at o6
          have o7 : offS ks ks wd hi best = 0 := by omega
          have o8 : best ≤ 0 := by
            rcases Int.lt_or_le 0 best with hh | hh
            · have := o6.2 hh; omega
            · exact hh
          rw [o7, fq_zero]
          clear o3 o4 o5 o6 o7
          replace bP := bP.below bw
          replace pP := pP.below bw
          replace hb1 := hb1.below bw
          replace hbel := hbel.trans (bw.mono hbel.size)
          clear bw
          obtain ⟨zP0, zP1, zP2, -, -, -⟩ := bP.three.cells
          go_wp2_with fail
          clear zP0 zP1 zP2
          refine (r8Like_any _ _ _ _ wd hi N (some ⟨qP, 0, none⟩) N cP hb1 (by omega) (by omega) (by omega) (by omega) HNN.out (by omega)).mono ?_
          rintro e wL ⟨qL, cL, ksL, rfl, pL, hkL, bw⟩
          have HKLL := Lib.hid hkL
          clear hkL
          have ha : Below wL.heap.size wL (wL.alloc (.cells #[.int .i64 wd, .int .i64 hi, .slice (some ⟨qL, 0, none⟩) N cL] 26)) := (Below.refl _ _).alloc (Nat.le_refl _) _
          have bL := BoxN.last wL #[.int .i64 wd, .int .i64 hi, .slice (some ⟨qL, 0, none⟩) N cL] 26
          replace pL := pL.below ha
          replace bP := (bP.below bw).below ha
          replace pP := (pP.below bw).below ha
          replace hb1 := (hb1.below bw).below ha
          replace hbel := (hbel.trans (bw.mono hbel.size)).trans (ha.mono (Nat.le_trans hbel.size bw.size))
          clear bw ha
          obtain ⟨zP0, zP1, zP2, -, -, -⟩ := bP.three.cells
          obtain ⟨zL0, zL1, zL2, -, -, -⟩ := bL.three.cells
          go_wp2_with fail
          generalize hoL : wL.heap.size = oL at *
          generalize hwL : wL.alloc (.cells #[.int .i64 wd, .int .i64 hi, .slice (some ⟨qL, 0, none⟩) N cL] 26) = WL at *
          clear hoL hwL
          clear zP0 zP1 zP2 zL0 zL1 zL2
          refine (rowOffset_q _ wd hi N qP cP qL cL 2 ks ksL HV.out pP pL HK.out HKLL.out (by decide)).mono ?_
          rintro e wA ⟨at_, rfl, a1, a2, a3, bw⟩
          have A3 := Lib.hid (a3 0 (by omega) (by omega)).1
          have A4 := Lib.hid (offS_nonneg HK.out HKLL.out (wd := wd) (hi := hi) (by omega) (by omega) at_)
          have A5 := Lib.hid (offS_nonneg HK.out HKLL.out (wd := wd) (hi := hi) (by omega) (by omega) 0)
          clear a3
          replace bP := bP.below bw
          replace pP := pP.below bw
          replace hb1 := hb1.below bw
          replace bL := bL.below bw
          replace pL := pL.below bw
          replace hbel := hbel.trans (bw.mono hbel.size)
          clear bw
          obtain ⟨zP0, zP1, zP2, -, -, -⟩ := bP.three.cells
          obtain ⟨zL0, zL1, zL2, -, -, -⟩ := bL.three.cells
          go_wp2_with fail
          clear zP0 zP1 zP2 zL0 zL1 zL2
          refine (rowOffset_q _ wd hi N qP cP qL cL 0 ks ksL HV.out pP pL HK.out HKLL.out (by decide)).mono ?_
          rintro e wE ⟨no, rfl, n1, n2, n3, bw⟩
          replace hbel := hbel.trans (bw.mono hbel.size)
          obtain rfl : no = 0 := by omega
          have l1 := le32_fq (g := 2) (a := offS ks ksL wd hi at_) (b := offS ks ksL wd hi 0) (by have := A4.out; omega) (by have := A5.out; omega)
          simp only [A3.out, decide_true] at l1
          generalize fq 2 (offS ks ksL wd hi at_) = va at *
          generalize fq 2 (offS ks ksL wd hi 0) = vb at *
          have e0 : eq32 0 0 = true := by decide
          clear n1 n2 n3 bw A3 A4 A5 bP pP bL pL hb1
          go_wp2
          go_ret
          exact ⟨rfl, hbel⟩

theorem fnBack_walk (w : World) (a0 a1 : Option Addr) (l0 c0 l1 c1 : Nat) (z0 z1 : List Int)
    (r0 : (a0 = none ∧ l0 = 0 ∧ c0 = 0 ∧ z0 = []) ∨ ∃ x, a0 = some x ∧ l0 ≤ c0 ∧ c0 ≤ maxLen ∧ z0.length = c0 ∧ (∀ i, i < z0.length → w.cell? (x.add i) = some (.int .u8 (z0.getD i 0))) ∧ ∀ n ∈ z0, (Lit.int .u8 n).wf = true)
    (r1 : (a1 = none ∧ l1 = 0 ∧ c1 = 0 ∧ z1 = []) ∨ ∃ x, a1 = some x ∧ l1 ≤ c1 ∧ c1 ≤ maxLen ∧ z1.length = c1 ∧ (∀ i, i < z1.length → w.cell? (x.add i) = some (.int .u8 (z1.getD i 0))) ∧ ∀ n ∈ z1, (Lit.int .u8 n).wf = true) :
    Calls Try.prog 5 #[.slice a0 l0 c0, .slice a1 l1 c1] w fun e w' => e = .returned (.bool true) ∧ Below w.heap.size w w' := by
  by_cases h : l0 ≤ 48 ∧ l1 ≤ 48
  · exact fnBack_short w a0 a1 l0 c0 l1 c1 h.1 h.2 (bytesIn_of_row r0 (by omega)) (bytesIn_of_row r1 (by omega))
  · exact fnBack_long w a0 a1 l0 c0 l1 c1 (len_of_row r0) (len_of_row r1) h

end Go.Proofs.Ytialajgobpokmaa
