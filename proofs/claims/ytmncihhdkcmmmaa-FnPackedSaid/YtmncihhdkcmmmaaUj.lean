/- PackMap. Printed by genpk.py. -/
import Derived.Test.YtmncihhdkcmmmaaUi
import Derived.BigRegion
namespace Go.Proofs.Ytmncihhdkcmmmaa
open Go.RowKit
set_option maxRecDepth 100000
set_option linter.unusedVariables false
set_option linter.unusedSimpArgs false

set_option maxHeartbeats 4000000 in
theorem packMap_any (w : World) (wd hi N q c dp : Nat) (ms : List Nat) (hv : vPic wd hi N = true) (hN : N = wd * hi) (h1 : 1 ≤ wd) (h2 : wd ≤ 24) (h3 : 1 ≤ hi) (h4 : hi ≤ 24) (hN2 : N ≤ 256) (hd : dp ≤ 8) (h : WM w q c N ms dp) :
    Calls Try.prog 17 #[.agg #[.int .i64 wd, .int .i64 hi, .slice (some ⟨q, 0, none⟩) N c]] w fun e w' => e = .returned (.tuple #[.string ⟨(pkA ms wd hi).toArray⟩, .bool true]) ∧ Below w.heap.size w w' := by
  obtain ⟨i0, hi0, hz0, hz1, hz2⟩ := info_parts info_u8
  have hml : ms.length = wd * hi := by rw [h.len, hN]
  have hm8 : ∀ i, i < N → ms.getD i 0 < 8 := fun i hi_ => by
    have hl := h.len
    rw [List.getD_eq_getElem?_getD, List.getElem?_eq_getElem (by omega)]
    have := h.bd _ (List.getElem_mem (show i < ms.length by omega))
    simp only [Option.getD_some]; omega
  have hb0 : Below w.heap.size w (w.alloc (.cells #[.int .i64 wd, .int .i64 hi, .slice (some ⟨q, 0, none⟩) N c] 46)) := (Below.refl _ _).alloc (Nat.le_refl _) _
  have hX := box_last w (.int .i64 wd) (.int .i64 hi) (.slice (some ⟨q, 0, none⟩) N c) 46
  have HX := Lib.hid hX
  have HB := Lib.hid hb0
  have HW := Lib.hid (h.below hb0)
  have HM8 := Lib.hid hm8
  have HML := Lib.hid hml
  have HN := Lib.hid hN
  have HOK := Lib.hid (fun y hy => pkA_ok (y := y) hml (show wd ≤ 200 by omega) (fun z hz => by have := h.bd z hz; omega) hy)
  have hN1 : N ≤ 9223372036854775807 := by omega
  clear hX hb0 hm8 hml hN
  go_enter Try.func17, Try.ntmps17
  go_wp2_with fail
  refine (validMap_any _ _ _ _ _ hN1 _).mono ?_
  rw [hv]
  rintro e w1 ⟨rfl, hb1⟩
  obtain ⟨c0, c1, c2, -, -, -⟩ := (HX.out.below hb1).cells
  have hw1 := HW.out.below hb1
  have KC := Lib.hid (containsPk_no w1 q N c dp ms hd hw1)
  have PM : PicAt w1 w.heap.size wd hi (.slice (some ⟨q, 0, none⟩) N c) (ms.map wW) 46 := ⟨HX.out.below hb1, hw1.sl, by rw [List.length_map, hw1.len, HN.out]⟩
  have HPM0 := Lib.hid PM
  have HBB := Lib.hid (HB.out.trans (hb1.mono HB.out.size))
  clear hw1 hb1 PM
  go_wp2_with fail
  refine KC.out.mono ?_
  rintro e w' ⟨rfl, hw'⟩
  obtain ⟨W0, hW0⟩ : ∃ W, W = w1 := ⟨_, rfl⟩
  obtain rfl : W0 = w' := by rw [hW0]; exact hw'
  clear hw'
  rw [← hW0] at HPM0 HBB c0 c1 c2
  clear hW0 KC HX HB HW
  have HSU := Lib.hid (OwnU.start W0 W0.heap.size (Nat.le_refl _))
  have hbU : Below W0.heap.size W0 (W0.alloc (.cells #[] 5)) := (Below.refl _ _).alloc (Nat.le_refl _) _
  have HBU := Lib.hid hbU
  obtain ⟨y0, y1, y2, -, -, -⟩ := (HPM0.out.below hbU).box.cells
  clear hbU
  go_wp2_with fail
  clear c0 c1 c2 y0 y1 y2
  go_loopw [4, 19] (fun v4 v19 wr => ∃ (y : Nat) (vo : Value), v19 = .int .i64 y ∧ y ≤ hi ∧ vo = v4 ∧ OwnU wr W0.heap.size vo (pkA ms wd y) ∧ Below W0.heap.size W0 wr) (fun _ v19 _ => hi - (intOf v19).toNat)
  case atStart => exact ⟨0, _, rfl, Nat.zero_le _, rfl, HSU.out, HBU.out⟩
  case round =>
    clear HSU HBU
    obtain ⟨y, vo, rfl, hy, rfl, hown, hbel⟩ := hrel
    have HO := Lib.hid hown
    have HBE := Lib.hid hbel
    obtain ⟨c0, c1, c2, -, -, -⟩ := (HPM0.out.below hbel).box.cells
    clear hown hbel
    by_cases hyl : y < hi
    · have hyI : (y : Int) < (hi : Int) := by omega
      have hrow := rowL_len HML.out hyl
      have HROW := Lib.hid hrow
      have hlen0 := (HOK.out y (by omega)).2.2
      have hlen1 := (pk_len wd _ hrow).1
      have hwy : wd * (y + 1) ≤ N := by rw [HN.out]; exact Nat.mul_le_mul_left _ hyl
      have hwy2 : wd * (y + 1) = wd * y + wd := Nat.mul_succ _ _
      have hlenT : (pkA ms wd y ++ pk (rowL ms wd y)).length ≤ 512 := by rw [List.length_append]; omega
      have HLT := Lib.hid hlenT
      clear hrow hlen0 hlen1 hlenT hwy hwy2
      go_wp2_with fail
      clear c0 c1 c2
      go_loopw [4, 6] (fun v4 v6 wz => ∃ (x : Nat) (vo : Value) (lo : List UInt8), v6 = .int .i64 x ∧ x ≤ wd ∧ vo = v4 ∧ OwnU wz W0.heap.size vo lo ∧ lo ++ pk ((rowL ms wd y).drop x) = pkA ms wd y ++ pk (rowL ms wd y) ∧ Below W0.heap.size W0 wz) (fun _ v6 _ => wd - (intOf v6).toNat)
      case atStart => exact ⟨0, _, _, rfl, Nat.zero_le _, rfl, HO.out, by rw [List.drop_zero], HBE.out⟩
      case round =>
        clear HO HBE
        obtain ⟨x, vo, lo, rfl, hx, rfl, hown, htot, hbel⟩ := hrel
        have hlo : lo.length ≤ 512 := by have := congrArg List.length htot; rw [List.length_append] at this; have := HLT.out; omega
        have HTOT := Lib.hid htot
        have HOX := Lib.hid hown
        have HBX := Lib.hid hbel
        have hPM := HPM0.out.below hbel
        have HPM := Lib.hid hPM
        obtain ⟨c0, c1, c2, -, -, -⟩ := hPM.box.cells
        obtain ⟨wo, hwo⟩ : ∃ wo, wo = wr := ⟨_, rfl⟩
        rw [← hwo] at HOX HBX HPM
        clear hown htot hbel hPM
        by_cases hxl : x < wd
        · have hxI : (x : Int) < (wd : Int) := by omega
          have hxyN : x + wd * y < ms.length := by rw [HML.out]; calc x + wd * y < wd + wd * y := by omega
                                                      _ = wd * (y + 1) := by rw [Nat.mul_succ]; omega
                                                      _ ≤ wd * hi := Nat.mul_le_mul_left _ hyl
          have ha8 : ms.getD (x + wd * y) 0 < 8 := HM8.out _ (by rw [HN.out, ← HML.out]; exact hxyN)
          obtain ⟨a, ha⟩ : ∃ a, ms.getD (x + wd * y) 0 = a := ⟨_, rfl⟩
          rw [ha] at ha8
          have HA := Lib.hid ha
          obtain ⟨rest, hrest⟩ : ∃ r, r = (rowL ms wd y).drop (x + 1) := ⟨_, rfl⟩
          have hrl : rest.length = wd - (x + 1) := by rw [hrest, List.length_drop, HROW.out]
          have hrg : ∀ j, rest.getD j 0 = (rowL ms wd y).getD (x + (j + 1)) 0 := fun j => by rw [hrest, List.getD_eq_getElem?_getD, List.getElem?_drop, List.getD_eq_getElem?_getD]; congr 2; omega
          have hdx : (rowL ms wd y).drop x = a :: rest := by
            have hlt : x < (rowL ms wd y).length := by rw [HROW.out]; exact hxl
            rw [List.drop_eq_getElem_cons hlt, hrest]
            congr 1
            have := rowL_get (ms := ms) (y := y) hxl
            rw [ha, List.getD_eq_getElem?_getD, List.getElem?_eq_getElem hlt] at this
            exact this
          have HDX := Lib.hid hdx
          have HREST := Lib.hid hrest
          have HRG := Lib.hid hrg
          clear ha hdx hrest hrg
          go_wp2_with fail
          clear c0 c1 c2
          go_loopw [7] (fun v7 wz => ∃ k m1 : Nat, v7 = .int .i64 k ∧ 1 ≤ k ∧ x + k ≤ wd ∧ (∀ j, j < k → (rowL ms wd y).getD (x + j) 0 = a) ∧ wo.drewN m1 = wz) (fun v7 _ => wd - (intOf v7).toNat)
          case atStart => exact ⟨1, 0, rfl, Nat.le_refl _, hxl, fun j hj => by rw [show j = 0 by omega, Nat.add_zero, rowL_get hxl]; exact HA.out, hwo⟩
          case round =>
            clear hwo
            obtain ⟨k, m1, rfl, hk1, hkx, hsame, hwk⟩ := hrel
            have HWK := Lib.hid hwk
            have hrest := HREST.out
            have hrg := HRG.out
            have PM2 : PicAt wr w.heap.size wd hi (.slice (some ⟨q, 0, none⟩) N c) (ms.map wW) 46 := by rw [← hwk]; exact ⟨HPM.out.box, ⟨HPM.out.sl.1.drewN m1, HPM.out.sl.2⟩, HPM.out.len⟩
            obtain ⟨c0, c1, c2, -, -, -⟩ := PM2.box.cells
            have hkI : (x : Int) + (k : Int) ≤ (wd : Int) := by omega
            clear hwk
            by_cases hkw : x + k < wd
            · have hxyk : x + k + wd * y < ms.length := by rw [HML.out]; calc x + k + wd * y < wd + wd * y := by omega
                                                      _ = wd * (y + 1) := by rw [Nat.mul_succ]; omega
                                                      _ ≤ wd * hi := Nat.mul_le_mul_left _ hyl
              have hb8 : ms.getD (x + k + wd * y) 0 < 8 := HM8.out _ (by rw [HN.out, ← HML.out]; exact hxyk)
              have KB := Lib.hid (mat_any wr w.heap.size wd hi _ _ (x + k) y ((x : Int) + (k : Int)) (y : Int) (by omega) rfl hkw hyl (by omega) (by omega) PM2)
              have KA2 := Lib.hid (fun n => mat_any (wr.drewN n) w.heap.size wd hi _ _ x y (x : Int) (y : Int) rfl rfl hxl hyl (by omega) (by omega) ⟨PM2.box, ⟨PM2.sl.1.drewN n, PM2.sl.2⟩, PM2.len⟩)
              rw [wW_gets hxyk] at KB
              rw [wW_gets hxyN, HA.out] at KA2
              obtain ⟨b, hb⟩ : ∃ b, ms.getD (x + k + wd * y) 0 = b := ⟨_, rfl⟩
              rw [hb] at KB hb8
              have hrb := rowL_get (ms := ms) (y := y) hkw
              rw [hb] at hrb
              have heq := eq_wW hb8 ha8
              have hkI2 : (x : Int) + (k : Int) < (wd : Int) := by omega
              clear PM2 hb
              have hd0 : ∀ W : World, W.drewN 0 = W := fun _ => rfl
              by_cases hab : b = a
              · rw [decide_eq_true hab] at heq
                have hsame2 : ∀ j, j < k + 1 → (rowL ms wd y).getD (x + j) 0 = a := fun j hj => by
                  by_cases e : j < k
                  · exact hsame j e
                  · rw [show j = k by omega, hrb, hab]
                have HS2 := Lib.hid hsame2
                clear hsame2 hsame hab hrb hrest hrg
                generalize wW b = vb at *
                generalize wW a = va at *
                go_wp2_with fail
                refine KB.out.mono ?_
                rintro e w3 ⟨rfl, i3, hw3⟩
                obtain ⟨j3, hj3⟩ : ∃ j, w3 = wr.drewN j := ⟨i3, by first | exact hw3 | rfl⟩
                have KA3 := KA2.out j3
                rw [← hj3] at KA3
                have HJ3 := Lib.hid hj3
                clear hw3 hj3
                go_wp2_with fail
                refine KA3.mono ?_
                rintro e w4 ⟨rfl, i4, hw4⟩
                obtain ⟨j4, hj4⟩ : ∃ j, w4 = w3.drewN j := ⟨i4, by first | exact hw4 | rfl⟩
                have HJ4 := Lib.hid hj4
                clear hw4 hj4 KA3
                go_wp2_with fail
                go_roundw
                case rel =>
                  obtain ⟨n1, e1⟩ := (⟨m1 + j3, by simp [World.drewN, Nat.add_assoc]⟩ : ∃ n, (wo.drewN m1).drewN j3 = wo.drewN n)
                  obtain ⟨n2, e2⟩ := (⟨n1 + j4, by simp [World.drewN, Nat.add_assoc]⟩ : ∃ n, (wo.drewN n1).drewN j4 = wo.drewN n)
                  exact ⟨k + 1, n2, by go_num, by omega, by omega, HS2.out, by rw [HJ4.out, HJ3.out, ← HWK.out, e1, e2]⟩
                case measure => simp [intOf]; omega
              · rw [decide_eq_false hab] at heq
                have HEND := Lib.hid (show k - 1 = rest.length ∨ rest.getD (k - 1) 0 ≠ a from .inr (by rw [hrg, show x + (k - 1 + 1) = x + k by omega, hrb]; exact hab))
                clear hab hrb
                generalize wW b = vb at *
                obtain ⟨va, hva⟩ : ∃ v, wW a = v := ⟨_, rfl⟩
                rw [hva] at heq KA2
                go_wp2_with fail
                refine KB.out.mono ?_
                rintro e w3 ⟨rfl, i3, hw3⟩
                obtain ⟨j3, hj3⟩ : ∃ j, w3 = wr.drewN j := ⟨i3, by first | exact hw3 | rfl⟩
                have KA3 := KA2.out j3
                rw [← hj3] at KA3
                have HJ3 := Lib.hid hj3
                clear hw3 hj3
                go_wp2_with fail
                refine KA3.mono ?_
                rintro e w4 ⟨rfl, i4, hw4⟩
                obtain ⟨j4, hj4⟩ : ∃ j, w4 = w3.drewN j := ⟨i4, by first | exact hw4 | rfl⟩
                obtain ⟨m2, hm2⟩ : ∃ n, wo.drewN n = w4 := by
                  obtain ⟨n1, e1⟩ := (⟨m1 + j3, by simp [World.drewN, Nat.add_assoc]⟩ : ∃ n, (wo.drewN m1).drewN j3 = wo.drewN n)
                  obtain ⟨n2, e2⟩ := (⟨n1 + j4, by simp [World.drewN, Nat.add_assoc]⟩ : ∃ n, (wo.drewN n1).drewN j4 = wo.drewN n)
                  exact ⟨n2, by rw [hj4, HJ3.out, ← HWK.out, e1, e2]⟩
                have HWK2 := Lib.hid hm2
                have HWT := Lib.hid hm2
                clear hw4 hj4 KA3 hm2 c0 c1 c2 KA2
                obtain ⟨c0, c1, c2, -, -, -⟩ := (show PicAt w4 w.heap.size wd hi (.slice (some ⟨q, 0, none⟩) N c) (ms.map wW) 46 by rw [← HWT.out]; exact ⟨HPM.out.box, ⟨HPM.out.sl.1.drewN m2, HPM.out.sl.2⟩, HPM.out.len⟩).box.cells
                have hlead : lead a rest = k - 1 := lead_eq (by rw [hrl]; omega) (fun j hj => by rw [hrg]; exact hsame (j + 1) (by omega)) HEND
                have hpk := pk_cons a rest
                rw [hlead] at hpk
                have hdrop : rest.drop (k - 1) = (rowL ms wd y).drop (x + k) := by rw [hrest, List.drop_drop]; congr 1; omega
                rw [hdrop, show k - 1 + 1 = k by omega] at hpk
                have HPK := Lib.hid hpk
                have PM1 : PicAt w4 w.heap.size wd hi (.slice (some ⟨q, 0, none⟩) N c) (ms.map wW) 46 := by rw [← HWT.out]; exact ⟨HPM.out.box, ⟨HPM.out.sl.1.drewN m2, HPM.out.sl.2⟩, HPM.out.len⟩
                have KA := Lib.hid (mat_any w4 w.heap.size wd hi _ _ x y (x : Int) (y : Int) rfl rfl hxl hyl (by omega) (by omega) PM1)
                rw [wW_gets hxyN, HA.out] at KA
                obtain ⟨t1, t2, t3, t4, t5⟩ := wW_facts a ha8
                have uk : IntKind.u8.wrap (k : Int) = (k : Int) := by simp [IntKind.wrap, IntKind.bits, IntKind.signed]; omega
                have ua : IntKind.u8.wrap ((a : Int) + 1) = (a : Int) + 1 := by simp [IntKind.wrap, IntKind.bits, IntKind.signed]; omega
                have hwk : ∀ o, Below W0.heap.size W0 o → W0.heap.size ≤ o.heap.size := fun o h => h.size
                have hbw : Below W0.heap.size W0 w4 := by rw [← HWT.out]; exact below_drewN HBX.out m2
                have hown : OwnU w4 W0.heap.size vo lo := by rw [← HWT.out]; exact HOX.out.below (below_drewN (Below.refl _ _) m2)
                have HBW := Lib.hid hbw
                have HOW := Lib.hid hown
                clear hpk hlead hdrop PM1 hbw hown hsame hrest hrg
                rw [hva] at KA t1 t2 t3 t4 t5
                go_wp2_with fail
                refine KA.out.mono ?_
                rintro e w3 ⟨rfl, i3, hw3⟩
                obtain ⟨j3, hj3⟩ : ∃ j, w3 = w4.drewN j := ⟨i3, by first | exact hw3 | rfl⟩
                have own3 : w3.ownsRow W0.heap.size 5 1 vo lo.length (uCells lo) := by rw [hj3]; exact HOW.out.below (below_drewN (Below.refl _ _) j3)
                have hb3 : Below W0.heap.size W0 w3 := by rw [hj3]; exact below_drewN HBW.out j3
                have HB3 := Lib.hid hb3
                have HO3 := Lib.hid own3
                have hs3 := hb3.size
                clear hw3 hj3 hb3
                go_wp2_with (at_builtin; refine wpList_append_lies _ (by rfl) _ _ _ (by rfl) W0.heap.size 5 i0 _ 1 1 Try.underlying22 hi0 hz0 hz1 hz2 rfl (by omega) vo lo.length _ (by rfl) (World.ownsRow.alloc own3 _) ⟨w3.heap.size, 0, none⟩ 2 2 [.int .u8 (k : Int), .int .u8 ((a : Int) + 1)] (by rfl) (by rfl) (World.news_of_block (heap_alloc_new w3 _)) (by simp [Value.oneCell']) (by omega) (by unfold maxLen; omega) (by omega) (by simp; omega) (w3.heap.size + 1) (by simp) ?_; intro g2 cap2 w6 hown2 hgrow hat hlt2)
                go_roundw
                case rel =>
                  refine ⟨x + k, .slice (some ⟨g2, 0, none⟩) (lo.length + 2) cap2, lo ++ [UInt8.ofNat k, UInt8.ofNat (a + 1)], by go_num, by omega, rfl, ?_, ?_, ?_⟩
                  · unfold OwnU
                    rw [List.length_append]
                    have e : uCells (lo ++ [UInt8.ofNat k, UInt8.ofNat (a + 1)]) = uCells lo ++ [.int .u8 (k : Int), .int .u8 ((a : Int) + 1)] := by
                      unfold uCells
                      rw [List.map_append, List.map_cons, List.map_cons, List.map_nil, UInt8.toNat_ofNat', UInt8.toNat_ofNat', Nat.mod_eq_of_lt (show k < 2 ^ 8 by omega), Nat.mod_eq_of_lt (show a + 1 < 2 ^ 8 by omega)]
                      simp
                    rw [e]
                    exact hown2
                  · rw [← HTOT.out, HDX.out, HPK.out]; simp
                  · exact (HB3.out.alloc HB3.out.size _).grown hgrow (by have := HB3.out.size; simp; omega) (fun j hj => (World.ownsRow.lt HO3.out j hj).1)
                case measure => simp [intOf]; omega
            · have hkw2 : x + k = wd := by omega
              have HEND := Lib.hid (show k - 1 = rest.length ∨ rest.getD (k - 1) 0 ≠ a from .inl (by omega))
              have HWT := HWK
              obtain ⟨va, hva⟩ : ∃ v, wW a = v := ⟨_, rfl⟩
              have hkn : ¬ (x : Int) + (k : Int) < (wd : Int) := by omega
              clear PM2
              have hlead : lead a rest = k - 1 := lead_eq (by rw [hrl]; omega) (fun j hj => by rw [hrg]; exact hsame (j + 1) (by omega)) HEND
              have hpk := pk_cons a rest
              rw [hlead] at hpk
              have hdrop : rest.drop (k - 1) = (rowL ms wd y).drop (x + k) := by rw [hrest, List.drop_drop]; congr 1; omega
              rw [hdrop, show k - 1 + 1 = k by omega] at hpk
              have HPK := Lib.hid hpk
              have PM1 : PicAt wr w.heap.size wd hi (.slice (some ⟨q, 0, none⟩) N c) (ms.map wW) 46 := by rw [← HWT.out]; exact ⟨HPM.out.box, ⟨HPM.out.sl.1.drewN m1, HPM.out.sl.2⟩, HPM.out.len⟩
              have KA := Lib.hid (mat_any wr w.heap.size wd hi _ _ x y (x : Int) (y : Int) rfl rfl hxl hyl (by omega) (by omega) PM1)
              rw [wW_gets hxyN, HA.out] at KA
              obtain ⟨t1, t2, t3, t4, t5⟩ := wW_facts a ha8
              have uk : IntKind.u8.wrap (k : Int) = (k : Int) := by simp [IntKind.wrap, IntKind.bits, IntKind.signed]; omega
              have ua : IntKind.u8.wrap ((a : Int) + 1) = (a : Int) + 1 := by simp [IntKind.wrap, IntKind.bits, IntKind.signed]; omega
              have hwk : ∀ o, Below W0.heap.size W0 o → W0.heap.size ≤ o.heap.size := fun o h => h.size
              have hbw : Below W0.heap.size W0 wr := by rw [← HWT.out]; exact below_drewN HBX.out m1
              have hown : OwnU wr W0.heap.size vo lo := by rw [← HWT.out]; exact HOX.out.below (below_drewN (Below.refl _ _) m1)
              have HBW := Lib.hid hbw
              have HOW := Lib.hid hown
              clear hpk hlead hdrop PM1 hbw hown hsame hrest hrg
              rw [hva] at KA t1 t2 t3 t4 t5
              go_wp2_with fail
              refine KA.out.mono ?_
              rintro e w3 ⟨rfl, i3, hw3⟩
              obtain ⟨j3, hj3⟩ : ∃ j, w3 = wr.drewN j := ⟨i3, by first | exact hw3 | rfl⟩
              have own3 : w3.ownsRow W0.heap.size 5 1 vo lo.length (uCells lo) := by rw [hj3]; exact HOW.out.below (below_drewN (Below.refl _ _) j3)
              have hb3 : Below W0.heap.size W0 w3 := by rw [hj3]; exact below_drewN HBW.out j3
              have HB3 := Lib.hid hb3
              have HO3 := Lib.hid own3
              have hs3 := hb3.size
              clear hw3 hj3 hb3
              go_wp2_with (at_builtin; refine wpList_append_lies _ (by rfl) _ _ _ (by rfl) W0.heap.size 5 i0 _ 1 1 Try.underlying22 hi0 hz0 hz1 hz2 rfl (by omega) vo lo.length _ (by rfl) (World.ownsRow.alloc own3 _) ⟨w3.heap.size, 0, none⟩ 2 2 [.int .u8 (k : Int), .int .u8 ((a : Int) + 1)] (by rfl) (by rfl) (World.news_of_block (heap_alloc_new w3 _)) (by simp [Value.oneCell']) (by omega) (by unfold maxLen; omega) (by omega) (by simp; omega) (w3.heap.size + 1) (by simp) ?_; intro g2 cap2 w6 hown2 hgrow hat hlt2)
              go_roundw
              case rel =>
                refine ⟨x + k, .slice (some ⟨g2, 0, none⟩) (lo.length + 2) cap2, lo ++ [UInt8.ofNat k, UInt8.ofNat (a + 1)], by go_num, by omega, rfl, ?_, ?_, ?_⟩
                · unfold OwnU
                  rw [List.length_append]
                  have e : uCells (lo ++ [UInt8.ofNat k, UInt8.ofNat (a + 1)]) = uCells lo ++ [.int .u8 (k : Int), .int .u8 ((a : Int) + 1)] := by
                    unfold uCells
                    rw [List.map_append, List.map_cons, List.map_cons, List.map_nil, UInt8.toNat_ofNat', UInt8.toNat_ofNat', Nat.mod_eq_of_lt (show k < 2 ^ 8 by omega), Nat.mod_eq_of_lt (show a + 1 < 2 ^ 8 by omega)]
                    simp
                  rw [e]
                  exact hown2
                · rw [← HTOT.out, HDX.out, HPK.out]; simp
                · exact (HB3.out.alloc HB3.out.size _).grown hgrow (by have := HB3.out.size; simp; omega) (fun j hj => (World.ownsRow.lt HO3.out j hj).1)
              case measure => simp [intOf]; omega
        · obtain rfl : x = wd := by omega
          have hd : (rowL ms x y).drop x = [] := List.drop_eq_nil_of_le (by rw [HROW.out]; exact Nat.le_refl _)
          have HD := Lib.hid hd
          clear hd
          go_wp2_with fail
          go_roundw
          case rel =>
            refine ⟨y + 1, vo, by go_num, by omega, rfl, ?_, by rw [← hwo]; exact HBX.out⟩
            have e : lo = pkA ms x (y + 1) := by have := HTOT.out; rw [HD.out, pk_nil, List.append_nil] at this; exact this
            rw [← e, ← hwo]; exact HOX.out
          case measure => simp [intOf]; omega
    · obtain rfl : y = hi := by omega
      have hstr := HO.out.str
      go_wp2_with fail
      go_ret2
      exact ⟨rfl, HBB.out.trans (HBE.out.mono HBB.out.size)⟩

end Go.Proofs.Ytmncihhdkcmmmaa
