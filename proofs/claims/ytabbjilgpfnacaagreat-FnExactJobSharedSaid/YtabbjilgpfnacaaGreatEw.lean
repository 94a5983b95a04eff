/- The reference's row with the least cost, by words. -/
import Derived.Test.YtabbjilgpfnacaaGreatEv
import Derived.Deep.QuietTactic
import Derived.BigQuiet
namespace Go.Proofs.YtabbjilgpfnacaaGreat
open Go.RowKit Go.Shelf
set_option maxRecDepth 100000
set_option linter.unusedVariables false
set_option linter.unusedSimpArgs false

/-- From where each least cost came, of the columns below x. -/
def FromOk (T : Nat → Nat → Nat) (wd dp : Nat) (F : List Int) (x : Nat) : Prop := F.length = wd * dp ∧ ∀ k d, 1 ≤ k → k < x → d < dp → F.getD (k * dp + d) 0 = T (k - 1) d
/-- And those of the column x below d. -/
def FromAt (T : Nat → Nat → Nat) (wd dp : Nat) (F : List Int) (x d : Nat) : Prop := FromOk T wd dp F x ∧ ∀ e, e < d → F.getD (x * dp + e) 0 = T (x - 1) e
theorem FromAt.step {T : Nat → Nat → Nat} {wd dp x d : Nat} {F : List Int} (h : FromAt T wd dp F x d) (hx : x < wd) (hd : d < dp) : FromAt T wd dp (F.set (x * dp + d) (T (x - 1) d : Nat)) x (d + 1) := by
  have hl : x * dp + d < F.length := by
    rw [h.1.1]
    calc x * dp + d < x * dp + dp := by omega
      _ = (x + 1) * dp := by rw [Nat.add_mul, Nat.one_mul]
      _ ≤ wd * dp := Nat.mul_le_mul_right _ hx
  refine ⟨⟨by rw [List.length_set]; exact h.1.1, fun k e h1 h2 h3 => ?_⟩, fun e he => ?_⟩
  · have : k * dp + e < x * dp := by
      calc k * dp + e < k * dp + dp := by omega
        _ = (k + 1) * dp := by rw [Nat.add_mul, Nat.one_mul]
        _ ≤ x * dp := Nat.mul_le_mul_right _ h2
    rw [getD_set_ne _ _ (by omega)]
    exact h.1.2 k e h1 h2 h3
  · by_cases hh : e = d
    · subst hh; rw [getD_set_self _ _ hl]
    · rw [getD_set_ne _ _ (by omega)]; exact h.2 e (by omega)
theorem FromAt.done {T : Nat → Nat → Nat} {wd dp x : Nat} {F : List Int} (h : FromAt T wd dp F x dp) (hx : 1 ≤ x) : FromOk T wd dp F (x + 1) := ⟨h.1.1, fun k d h1 h2 h3 => by
  by_cases hh : k = x
  · subst hh; exact h.2 d h3
  · exact h.1.2 k d h1 (by omega) h3⟩
/-- Words that are right up to a place. -/
def NextOk (f : Nat → Nat) (dp d : Nat) (ys : List Nat) : Prop := ys.length = dp ∧ ∀ e, e < d → ys.getD e 0 = f e
theorem NextOk.step {f : Nat → Nat} {dp d : Nat} {ys : List Nat} (h : NextOk f dp d ys) (hd : d < dp) : NextOk f dp (d + 1) (ys.set d (f d)) := by
  refine ⟨by rw [List.length_set]; exact h.1, fun e he => ?_⟩
  rw [List.getD_eq_getElem?_getD]
  by_cases hh : e = d
  · subst hh; rw [List.getElem?_set_self (by rw [h.1]; exact hd)]; rfl
  · rw [List.getElem?_set_ne (by omega), ← List.getD_eq_getElem?_getD]; exact h.2 e (by omega)
theorem NextOk.done {f : Nat → Nat} {dp : Nat} {ys : List Nat} (h : NextOk f dp dp ys) : ys = tab dp f := by
  apply List.ext_getElem (by rw [h.1, tab_length])
  intro i h1 h2
  have := h.2 i (by rw [← h.1]; exact h1)
  rw [List.getD_eq_getElem?_getD, List.getElem?_eq_getElem h1] at this
  simpa [tab] using this
theorem fromI {wd dp x d : Nat} (h1 : wd ≤ 24) (h2 : dp ≤ 8) (hx : x < wd) (hd : d < dp) : IntKind.i64.wrap ((x : Int) * (dp : Int)) = (x : Int) * dp ∧ IntKind.i64.wrap ((x : Int) * (dp : Int) + (d : Int)) = ((x * dp + d : Nat) : Int) ∧ x * dp + d < wd * dp := by
  have m1 : x * dp ≤ 24 * 8 := Nat.mul_le_mul (by omega) h2
  refine ⟨?_, ?_, ?_⟩
  · rw [← Int.natCast_mul]; exact IntWalk.i64_in _ (by omega)
  · rw [← Int.natCast_mul, ← Int.natCast_add]; exact IntWalk.i64_in _ (by omega)
  · calc x * dp + d < x * dp + dp := by omega
      _ = (x + 1) * dp := by rw [Nat.add_mul, Nat.one_mul]
      _ ≤ wd * dp := Nat.mul_le_mul_right _ hx

set_option maxHeartbeats 8000000 in
theorem l04RowE (w : World) (vb wd hi dp qv Nv cv pb po y nb o m : Nat) (bs : List Nat) (C : Nat → Nat → Nat) (Y : Int) (hY : Y = y)
    (hV : VolAt w vb wd hi dp qv 0 Nv cv bs) (hP : PrcAt w pb po o m) (d1 : 1 ≤ wd) (d2 : wd ≤ 24) (d4 : hi ≤ 24) (d5 : 1 ≤ dp) (d6 : dp ≤ 8) (hy : y < hi) (hqv : qv < w.heap.size) (hnb : nb ≤ wd)
    (hc : ∀ x d, x < nb → d < dp → gc bs wd dp x y d = C x d ∧ le32 0 (C x d) = true) (hbad : nb < wd → ∃ d, d < dp ∧ le32 0 (gc bs wd dp nb y d) = false)
    (ho : le32 0 o = true) (hm : le32 0 m = true) :
    Calls Tryz.prog 61 #[.pointer (some ⟨vb, 0, none⟩), .pointer (some ⟨pb, po, none⟩), .int .i64 Y] w fun e w' => ((nb = wd ∧ ∃ g c f, e = .returned (.tuple #[.slice (some ⟨g, 0, none⟩) wd c, .float .f32 f, .bool true]) ∧ OwnI w' w.heap.size (.slice (some ⟨g, 0, none⟩) wd c) (tabZ wd (rowD C o m dp wd))) ∨ (nb < wd ∧ e = .returned (.tuple #[.slice none 0 0, .float .f32 0, .bool false]))) ∧ Below w.heap.size w w' := by
  subst hY
  have CA := Lib.hid (fun W (hW : Below w.heap.size w W) (x d : Nat) (hx : x < wd) (hd : d < dp) => l04CostE W vb wd hi dp qv Nv cv bs x y d x y d rfl rfl rfl hx hy hd d2 d4 d6 (hV.below hW))
  have SA := Lib.hid (fun W (hW : Below w.heap.size w W) => l04CostsE W vb wd hi dp qv Nv cv bs 0 y 0 y rfl rfl d1 hy d2 d4 d5 d6 (hV.below hW) (Nat.lt_of_lt_of_le hqv hW.size))
  have PA := Lib.hid (fun W (hW : Below w.heap.size w W) => hP.below hW)
  have VA := Lib.hid (fun W (hW : Below w.heap.size w W) => (hV.below hW).box)
  have HC := Lib.hid hc
  have HBAD := Lib.hid (And.intro hbad hnb)
  have hco : ∀ x d, x < nb → d < dp → le32 0 (C x d) = true := fun x d h1 h2 => (hc x d h1 h2).2
  have HU := Lib.hid (fun x (hx : x < nb) d e (he : e < dp) => uW_ok C o m dp d5 hco ho hm hx d he)
  have HVW := Lib.hid (fun x (hx : x < nb) d (hd : d < dp) => vW_ok C o m dp d5 hco ho hm x hx d hd)
  have HSC := Lib.hid (fun x d (hx : x + 1 < nb) (hd : d < dp) => (show floatBits .add .f32 (uW C o m dp x d (tW C o m dp x d)) (C (x + 1) d) = some (vW C o m dp (x + 1) d) ∧ vW C o m dp (x + 1) d < 4294967296 by
    rw [vW_succ]
    have h := sm32_of (uW_ok C o m dp d5 hco ho hm (show x < nb by omega) d (tW_lt C o m dp d5 x d)).2.2 (hco _ _ hx hd)
    exact ⟨h.1, h.2.1⟩))
  have hV0 := hV.below (Below.refl w.heap.size w)
  clear hV hP hc hbad hco hqv ho hm
  obtain ⟨c0, c1, c2, c3, -, -, -, -⟩ := hV0.box.four
  clear hV0
  have wd24 : (wd : Int) ≤ 24 := by omega
  have dp8 : (dp : Int) ≤ 8 := by omega
  have hi24 : (hi : Int) ≤ 24 := by omega
  go_enter Tryz.func61, Tryz.ntmps61
  go_wp2_with fail
  go_loopw [9] (fun v9 wr => ∃ x k : Nat, v9 = .int .i64 x ∧ x ≤ nb ∧ wr = w.drewN k) (fun v9 _ => wd - (intOf v9).toNat)
  case atStart => exact ⟨0, 0, rfl, Nat.zero_le _, rfl⟩
  case round =>
    obtain ⟨x, k, rfl, hx, rfl⟩ := hrel
    have hnb := HBAD.out.2
    by_cases hlt : x < wd
    · have hltI : (x : Int) < wd := by omega
      have HLT := Lib.hid hlt
      go_wp2_with fail
      go_loopw [10] (fun v10 wr => ∃ d k2 : Nat, v10 = .int .i64 d ∧ d ≤ dp ∧ wr = w.drewN k2 ∧ ∀ e, e < d → le32 0 (gc bs wd dp x y e) = true) (fun v10 _ => dp - (intOf v10).toNat)
      case atStart => exact ⟨0, k, rfl, Nat.zero_le _, rfl, fun e he => by omega⟩
      case round =>
        obtain ⟨d, k2, rfl, hd, rfl, hall⟩ := hrel
        have HALL := Lib.hid hall
        clear hall
        by_cases hld : d < dp
        · have hldI : (d : Int) < dp := by omega
          have KC := Lib.hid (CA.out (w.drewN k2) (below_drewN (Below.refl _ _) k2) x d hlt hld)
          obtain ⟨z, hz⟩ : ∃ z, z = gc bs wd dp x y d := ⟨_, rfl⟩
          rw [← hz] at KC
          have HZ := Lib.hid hz
          clear hz
          cases l1 : le32 0 z
          · obtain ⟨l2, l3, l4⟩ := le_no l1
            have HL := Lib.hid l1
            clear l1
            go_wp2_with fail
            refine KC.out.mono ?_
            rintro e w3 ⟨rfl, k3, hw3⟩
            have HF := Lib.hid (show Below w.heap.size w w3 by rw [hw3, World.drewN_drewN]; exact below_drewN (Below.refl _ _) _)
            have HNB := Lib.hid (show nb < wd by
              rcases Nat.lt_or_ge x nb with h | h
              · have := HC.out x d h hld
                rw [← this.1, ← HZ.out, HL.out] at this
                cases this.2
              · omega)
            clear hw3
            go_wp2_with fail
            go_ret3
            exact ⟨.inr ⟨HNB.out, rfl⟩, HF.out⟩
          · have HL := Lib.hid l1
            go_wp2_with fail
            refine KC.out.mono ?_
            rintro e w3 ⟨rfl, k3, hw3⟩
            rw [World.drewN_drewN] at hw3
            subst hw3
            go_wp2_with fail
            go_roundw
            case rel => exact ⟨d + 1, _, by go_num, by omega, rfl, fun e he => by
              by_cases hh : e < d
              · exact HALL.out e hh
              · have : e = d := by omega
                subst this; rw [← HZ.out]; exact HL.out⟩
            case measure => simp [intOf]; omega
        · have : d = dp := by omega
          subst this
          have hxn : x < nb := by
            rcases Nat.lt_or_ge x nb with h | h
            · exact h
            · exfalso
              have e : x = nb := by omega
              subst e
              obtain ⟨e, h1, h2⟩ := HBAD.out.1 hlt
              rw [HALL.out e h1] at h2
              cases h2
          go_wp2_with fail
          go_roundw
          case rel => exact ⟨x + 1, _, by go_num, by omega, rfl⟩
          case measure => simp [intOf]; omega
    · obtain rfl : wd = x := by omega
      obtain rfl : wd = nb := by omega
      obtain ⟨W0, hW0⟩ : ∃ W0, W0 = w.drewN k := ⟨_, rfl⟩
      have hb0 : Below w.heap.size w W0 := by rw [hW0]; exact below_drewN (Below.refl _ _) k
      rw [← hW0]
      clear hW0 c0 c1 c2 c3 hx hlt
      obtain ⟨c0, c1, c2, c3, -, -, -, -⟩ := (VA.out W0 hb0).four
      obtain ⟨N, hN⟩ : ∃ N, N = wd * dp := ⟨_, rfl⟩
      have hN2 : N ≤ 24 * 8 := by rw [hN]; exact Nat.mul_le_mul d2 d6
      have em : IntKind.i64.wrap ((wd : Int) * (dp : Int)) = (N : Int) := by rw [← Int.natCast_mul, ← hN]; exact IntWalk.i64_in _ (by omega)
      have hbD : Below w.heap.size w W0.drew := hb0.trans ((below_drewN (Below.refl _ _) 1).mono hb0.size)
      obtain ⟨W1, hmk, hfrom, hb1, hs1⟩ := makeI W0.drew N w.heap.size hbD.size (by omega)
      have hb1' := hbD.trans (hb1.mono hbD.size)
      obtain ⟨f, hf⟩ : ∃ f, f = W0.drew.heap.size := ⟨_, rfl⟩
      rw [← hf] at hmk hfrom hs1
      have HFR := Lib.hid (show OwnI W1 w.heap.size (.slice (some ⟨f, 0, none⟩) N N) (List.replicate N 0) from hfrom)
      have HB1 := Lib.hid hb1'
      have HN := Lib.hid hN
      have HW := Lib.hid (show f < W1.heap.size from hs1)
      clear hb0 hbD hb1 hfrom hb1' hf hN hs1
      go_upto_region 9 with fail
      go_region
      clear hmk em c0 c1 c2 c3
      have KS := Lib.hid (SA.out W1 HB1.out)
      go_wp2_with fail
      refine KS.out.mono ?_
      rintro e W2 ⟨g, c, rfl, hown, hb2⟩
      have et2 : tab dp (gc bs wd dp 0 y) = tab dp (vW C o m dp 0) := by
        unfold tab
        exact List.map_congr_left fun d hd => (HC.out 0 d d1 (List.mem_range.1 hd)).1
      rw [et2] at hown
      have hgB := (hown.lt (k := g) rfl).1
      have hFW := HW.out
      have h0 : FromOk (tW C o m dp) wd dp (List.replicate N 0) 1 := ⟨by rw [List.length_replicate, HN.out], fun k d h1 h2 => by omega⟩
      have HS := Lib.hid (show g ≠ f ∧ OwnF W2 w.heap.size (.slice (some ⟨g, 0, none⟩) dp c) (tab dp (vW C o m dp 0)) ∧ OwnI W2 w.heap.size (.slice (some ⟨f, 0, none⟩) N N) (List.replicate N 0) ∧ FromOk (tW C o m dp) wd dp (List.replicate N 0) 1 ∧ Below w.heap.size w W2 from
        ⟨by omega, hown.mono HB1.out.size, HFR.out.below hb2, h0, HB1.out.trans (hb2.mono HB1.out.size)⟩)
      clear KS hown hb2 et2 hgB h0 hFW HFR HW
      go_wp2_with fail
      go_loopw [12, 13] (fun v12 v13 wr => ∃ (x g c : Nat) (F : List Int), v12 = .slice (some ⟨g, 0, none⟩) dp c ∧ v13 = .int .i64 x ∧ 1 ≤ x ∧ x ≤ wd ∧ g ≠ f ∧ OwnF wr w.heap.size (.slice (some ⟨g, 0, none⟩) dp c) (tab dp (vW C o m dp (x - 1))) ∧ OwnI wr w.heap.size (.slice (some ⟨f, 0, none⟩) N N) F ∧ FromOk (tW C o m dp) wd dp F x ∧ Below w.heap.size w wr) (fun _ v13 _ => wd - (intOf v13).toNat)
      case atStart => exact ⟨1, g, c, _, rfl, rfl, Nat.le_refl _, d1, HS.out⟩
      case round =>
        clear HS
        obtain ⟨x, g, c, F, rfl, rfl, hx1, hx2, hgf, hown, hfr, hok, hbl⟩ := hrel
        have HOW := Lib.hid hown
        have HFR := Lib.hid hfr
        have HOK := Lib.hid hok
        have HBL := Lib.hid hbl
        clear hown hfr hok hbl
        obtain ⟨c0, c1, c2, c3, -, -, -, -⟩ := (VA.out wr HBL.out).four
        by_cases hlt : x < wd
        · have hltI : (x : Int) < wd := by omega
          obtain ⟨W3, hmk, hnx, hb3⟩ := makeF wr dp w.heap.size HBL.out.size (by omega)
          obtain ⟨h, hh⟩ : ∃ h, h = wr.heap.size := ⟨_, rfl⟩
          rw [← hh] at hmk hnx
          have hgl := (HOW.out.lt (k := g) rfl).2
          have hfl := (HFR.out.lt (k := f) rfl).2
          have hb3' := HBL.out.trans (hb3.mono HBL.out.size)
          have HOW3 := Lib.hid (HOW.out.below hb3)
          have HS := Lib.hid (show OwnI W3 w.heap.size (.slice (some ⟨f, 0, none⟩) N N) F ∧ FromAt (tW C o m dp) wd dp F x 0 ∧ OwnF W3 w.heap.size (.slice (some ⟨h, 0, none⟩) dp dp) (List.replicate dp 0) ∧ NextOk (vW C o m dp x) dp 0 (List.replicate dp 0) from
            ⟨HFR.out.below hb3, ⟨HOK.out, fun e he => by omega⟩, hnx, ⟨by simp, fun e he => by omega⟩⟩)
          have HNE := Lib.hid (show h ≠ f ∧ h ≠ g from by omega)
          have HB3 := Lib.hid hb3'
          clear hnx hb3 hb3' hgl hfl hh HOW HFR HOK HBL
          go_wp2_with fail
          go_loopw [15] (fun v15 wr => ∃ (d : Nat) (F : List Int) (ys : List Nat), v15 = .int .i64 d ∧ d ≤ dp ∧ OwnF wr w.heap.size (.slice (some ⟨g, 0, none⟩) dp c) (tab dp (vW C o m dp (x - 1))) ∧ OwnI wr w.heap.size (.slice (some ⟨f, 0, none⟩) N N) F ∧ FromAt (tW C o m dp) wd dp F x d ∧ OwnF wr w.heap.size (.slice (some ⟨h, 0, none⟩) dp dp) ys ∧ NextOk (vW C o m dp x) dp d ys ∧ Below w.heap.size w wr) (fun v15 _ => dp - (intOf v15).toNat)
          case atStart => exact ⟨0, F, _, rfl, Nat.zero_le _, HOW3.out, HS.out.1, HS.out.2.1, HS.out.2.2.1, HS.out.2.2.2, HB3.out⟩
          case round =>
            clear HS HOW3 HB3 hmk c0 c1 c2 c3 F W3
            obtain ⟨d, F, ys, rfl, hd, hown, hfr, hat, hnx, hok, hbl⟩ := hrel
            obtain ⟨wo, hwo⟩ : ∃ wo, wo = wr := ⟨_, rfl⟩
            subst hwo
            have HOW := Lib.hid hown
            have HFR := Lib.hid hfr
            have HAT := Lib.hid hat
            have HNX := Lib.hid hnx
            have HOK := Lib.hid hok
            have HBL := Lib.hid hbl
            clear hown hfr hat hnx hok hbl
            obtain ⟨c0, c1, c2, c3, -, -, -, -⟩ := (VA.out wo HBL.out).four
            by_cases hld : d < dp
            · have hldI : (d : Int) < dp := by omega
              obtain ⟨V, hV⟩ : ∃ V, V = vW C o m dp (x - 1) := ⟨_, rfl⟩
              obtain ⟨U, hU⟩ : ∃ U, U = uW C o m dp (x - 1) d := ⟨_, rfl⟩
              have hu : ∀ e, e < dp → floatBits .add .f32 (V e) (prW o m e d) = some (U e) := fun e he => by rw [hV, hU]; exact (HU.out (x - 1) (by omega) d e he).1
              have hcell : ∀ e, e < dp → wo.cell? ⟨g, e, none⟩ = some (.float .f32 (V e)) := fun e he => by rw [hV]; exact tab_cellW HOW.out.sl he
              have HUU := Lib.hid hu
              have HCE := Lib.hid hcell
              have HV := Lib.hid hV
              have HUE := Lib.hid hU
              have KPA := Lib.hid (fun W (hW : ∃ k, W = wo.drewN k) e (he : e < dp) n => quiet_drewA (W := W) (n := n) (l04PriceE (W.drewN n) pb po o m e d e d rfl rfl (by obtain ⟨k, rfl⟩ := hW; rw [World.drewN_drewN]; exact (PA.out wo HBL.out).below (below_drewN (Below.refl _ _) _)) (by omega) (by omega)))
              clear hu hcell hV hU
              have KP := Lib.hid (KPA.out wo ⟨0, rfl⟩ 0 d5)
              have z0 := HCE.out 0 d5
              have hu := HUU.out 0 d5
              rw [show ((0 : Nat) : Int) = 0 from rfl] at KP
              have dp1 : (0 : Int) < dp := by omega
              have dp0 : 0 < dp := d5
              generalize hp : prW o m 0 d = pr at *
              generalize hve : V 0 = ve at *
              obtain ⟨u, hue⟩ : ∃ u, u = U 0 := ⟨_, rfl⟩
              rw [← hue] at hu
              have HUE0 := Lib.hid hue
              have ar := fres_some hu
              have af := fdr_some hu
              clear hue hp hve
              go_wp2_with fail
              go_quiet (with_reducible exact KP.out _)
              clear KP z0 hu c0 c1 c3 ar af
              go_wp2_with fail
              go_loopw [16, 17, 18] (fun v16 v17 v18 wq => ∃ (b e k2 : Nat), v16 = .int .i64 b ∧ v17 = .float .f32 (U b) ∧ v18 = .int .i64 e ∧ 1 ≤ e ∧ e ≤ dp ∧ b = fstW U e ∧ wq = wo.drewN k2) (fun _ _ v18 _ => dp - (intOf v18).toNat)
              case atStart => exact ⟨0, 1, _, rfl, by rw [HUE0.out], rfl, Nat.le_refl _, d5, by (unfold fstW; split <;> rfl), rfl⟩
              case round =>
                clear HUE0
                obtain ⟨b, e, k2, rfl, rfl, rfl, he1, he2, hb, hwq⟩ := hrel
                have HQ := Lib.hid (show ∃ k, wr = wo.drewN k from ⟨k2, hwq⟩)
                clear hwq
                obtain ⟨WQ, hWQ⟩ : ∃ WQ, WQ = wr := ⟨_, rfl⟩
                subst hWQ
                have hbd : b < dp := by rw [hb]; have := fstW_lt U e he1; omega
                have hbQ : Below w.heap.size w WQ := by obtain ⟨k, hk⟩ := HQ.out; rw [hk]; exact below_drewN HBL.out k
                obtain ⟨-, -, c2, -, -, -, -, -⟩ := (VA.out WQ hbQ).four
                have HB := Lib.hid hb
                clear hb
                by_cases hle : e < dp
                · have hleI : (e : Int) < dp := by omega
                  have hbI : (b : Int) < dp := by omega
                  have KP := Lib.hid (KPA.out WQ HQ.out e hle)
                  have z0 : WQ.cell? ⟨g, e, none⟩ = some (.float .f32 (V e)) := by
                    obtain ⟨k, hk⟩ := HQ.out
                    rw [hk]; exact HCE.out e hle
                  have hu := HUU.out e hle
                  obtain ⟨ub, hub⟩ : ∃ ub, ub = U b := ⟨_, rfl⟩
                  obtain ⟨ue, hue⟩ : ∃ ue, ue = U e := ⟨_, rfl⟩
                  have HN := Lib.hid (show fstW U (e + 1) = if lt32 ue ub then e else b by rw [hub, hue, HB.out]; rfl)
                  rw [← hue] at hu
                  rw [← hub]
                  have HUB := Lib.hid (And.intro hub hue)
                  obtain ⟨pr, hp⟩ : ∃ pr, prW o m e d = pr := ⟨_, rfl⟩
                  obtain ⟨ve, hve⟩ : ∃ ve, V e = ve := ⟨_, rfl⟩
                  rw [hp] at KP hu
                  rw [hve] at hu z0
                  have ar := fres_some hu
                  have af := fdr_some hu
                  clear hub hue
                  cases l1 : lt32 ue ub
                  · clear hp hve
                    rw [l1] at HN
                    have HN := Lib.hid (show fstW U (e + 1) = b from HN.out)
                    go_wp2_with fail
                    go_quiet (with_reducible exact KP.out _)
                    clear KP z0 hu ar af
                    go_wp2_with fail
                    go_roundw
                    case rel =>
                      obtain ⟨k, hk⟩ := HQ.out
                      exact ⟨b, e + 1, k + nq, rfl, by rw [HUB.out.1], by go_num, by omega, by omega, HN.out.symm, by rw [hk, World.drewN_drewN]⟩
                    case measure => simp [intOf]; omega
                  · rw [l1] at HN
                    have HN := Lib.hid (show fstW U (e + 1) = e from HN.out)
                    have hp2 := Lib.hid hp
                    have hve2 := Lib.hid hve
                    clear hp hve
                    go_wp2_with fail
                    go_quiet (with_reducible exact KP.out _)
                    clear KP z0
                    obtain ⟨WR, hWR⟩ : ∃ WR, WR = WQ.drewN nq := ⟨_, rfl⟩
                    rw [← hWR]
                    have HR := Lib.hid (show ∃ k, WR = wo.drewN k by obtain ⟨k, hk⟩ := HQ.out; exact ⟨k + nq, by rw [hWR, hk, World.drewN_drewN]⟩)
                    have z0 : WR.cell? ⟨g, e, none⟩ = some (.float .f32 ve) := by
                      obtain ⟨k, hk⟩ := HR.out
                      rw [hk]; exact (HCE.out e hle).trans (by rw [hve2.out])
                    have KP := Lib.hid (KPA.out WR HR.out e hle)
                    rw [hp2.out] at KP
                    clear hWR nq
                    go_wp2_with fail
                    go_quiet (with_reducible exact KP.out _)
                    clear KP z0 hu ar af
                    go_wp2_with fail
                    go_roundw
                    case rel =>
                      obtain ⟨k, hk⟩ := HR.out
                      exact ⟨e, e + 1, k + nq, rfl, by rw [HUB.out.2], by go_num, by omega, by omega, HN.out.symm, by rw [hk, World.drewN_drewN]⟩
                    case measure => simp [intOf]; omega
                · obtain rfl : dp = e := by omega
                  obtain ⟨k0, hk0⟩ := HQ.out
                  have hbo : Below wo.heap.size wo WQ := by rw [hk0]; exact below_drewN (Below.refl _ _) k0
                  have hT : b = tW C o m dp (x - 1) d := by rw [HB.out, HUE.out]; rfl
                  have hfrQ := HFR.out.below hbo
                  have hownQ := HOW.out.below hbo
                  have hnxQ := HNX.out.below hbo
                  obtain ⟨i1, i2, i3⟩ := fromI d2 d6 hlt hld
                  obtain ⟨i, hi⟩ : ∃ i, i = x * dp + d := ⟨_, rfl⟩
                  rw [← hi, ← HN.out] at i3
                  rw [← hi] at i2
                  have iI : (i : Int) < N := by omega
                  have hlF := hfrQ.len.1
                  have ci := hfrQ.cellAt i (by omega)
                  have fi := hfrQ.free i
                  have hfB := (hfrQ.lt (k := f) rfl).1
                  obtain ⟨W4, hW4⟩ : ∃ W4, W4 = WQ.setCell ⟨f, i, none⟩ (.int .i64 b) := ⟨_, rfl⟩
                  have hg4 : WQ.grownBy W4 (some f) := by rw [hW4]; exact grown_setCell _ _ _
                  have ho4 := hownQ.grown hg4 (.inr (by simp [Value.ownBlock]; exact hgf))
                  have hn4 := hnxQ.grown hg4 (.inr (by simp [Value.ownBlock]; exact HNE.out.1))
                  have hf4 : OwnI W4 w.heap.size (.slice (some ⟨f, 0, none⟩) N N) (F.set i (b : Nat)) := by rw [hW4]; exact hfrQ.put i _
                  have hb4 : Below w.heap.size w W4 := by rw [hW4]; exact hbQ.setCell (p := ⟨f, i, none⟩) hfB _
                  have hat5 := HAT.out.step hlt hld
                  rw [← hi, ← hT] at hat5
                  have hadd := HSC.out (x - 1) d (by omega) hld
                  rw [show x - 1 + 1 = x by omega, ← hT, ← HUE.out, ← (HC.out x d hlt hld).1] at hadd
                  have KC := Lib.hid (CA.out W4 hb4 x d hlt hld)
                  have hok5 := HOK.out.step hld
                  obtain ⟨vv, hvv⟩ : ∃ vv, vv = vW C o m dp x d := ⟨_, rfl⟩
                  obtain ⟨cc, hcc⟩ : ∃ cc, cc = gc bs wd dp x y d := ⟨_, rfl⟩
                  obtain ⟨ub, hub⟩ : ∃ ub, ub = U b := ⟨_, rfl⟩
                  rw [← hvv] at hok5
                  rw [← hvv, ← hcc, ← hub] at hadd
                  rw [← hcc] at KC
                  rw [← hub]
                  have ar := fres_some hadd.1
                  have af := fdr_some hadd.1
                  have hv32 := Lib.hid hadd.2
                  have HA5 := Lib.hid (And.intro hat5 hok5)
                  have H4 := Lib.hid (And.intro ho4 (And.intro hn4 (And.intro hf4 hb4)))
                  have HW4 := Lib.hid hW4
                  clear hk0 hbo hT hfrQ hownQ hnxQ hi hlF hfB hg4 ho4 hn4 hf4 hb4 hat5 hadd hok5 hvv hcc hub hW4 i3
                  go_wp2_with fail
                  rw [← HW4.out]
                  refine KC.out.mono ?_
                  rintro e w5 ⟨rfl, k5, hw5⟩
                  obtain ⟨ho4, hn4, hf4, hb4⟩ := H4.out
                  have hb5 : Below W4.heap.size W4 w5 := by rw [hw5]; exact below_drewN (Below.refl _ _) k5
                  have ho5 := ho4.below hb5
                  have hn5 := hn4.below hb5
                  have hf5 := hf4.below hb5
                  have hb5' := hb4.trans (hb5.mono hb4.size)
                  have cn := (hn5.sl.at d (by rw [HOK.out.1]; exact hld)).1
                  rw [Nat.zero_add] at cn
                  have fn : w5.frozen? ⟨h, d, none⟩ = false := World.ownsRow.frozenAt (n := dp) (by have := hn5.1; rw [HOK.out.1] at this; exact this) d
                  have hhB := (hn5.lt (k := h) rfl).1
                  have H5 := Lib.hid (And.intro ho5 (And.intro hn5 (And.intro hf5 hb5')))
                  clear ho4 hn4 hf4 hb4 hb5 ho5 hn5 hf5 hb5' hw5 KC ci fi
                  go_wp2_with fail
                  go_roundw
                  case rel =>
                    obtain ⟨ho5, hn5, hf5, hb5⟩ := H5.out
                    refine ⟨d + 1, F.set i (b : Nat), ys.set d vv, by go_num, by omega, ?_, ?_, HA5.out.1, ?_, HA5.out.2, ?_⟩
                    · rw [← HV.out]
                      exact OwnF.grown (by rw [HV.out]; exact ho5) (grown_setCell _ _ _) (.inr (by simp [Value.ownBlock]; exact (HNE.out.2).symm))
                    · exact hf5.grown (grown_setCell _ _ _) (.inr (by simp [Value.ownBlock]; exact (HNE.out.1).symm))
                    · exact hn5.put d hv32.out
                    · exact hb5.setCell (p := ⟨h, d, none⟩) hhB _
                  case measure => simp [intOf]; omega
            · obtain rfl : dp = d := by omega
              go_wp2_with fail
              go_roundw
              case rel =>
                refine ⟨x + 1, h, dp, F, rfl, by go_num, by omega, by omega, HNE.out.1, ?_, HFR.out, HAT.out.done hx1, HBL.out⟩
                rw [Nat.add_sub_cancel, ← HOK.out.done]
                exact HNX.out
              case measure => simp [intOf]; omega
        · obtain rfl : wd = x := by omega
          obtain ⟨wo, hwo⟩ : ∃ wo, wo = wr := ⟨_, rfl⟩
          subst hwo
          obtain ⟨V, hV⟩ : ∃ V, V = vW C o m dp (wd - 1) := ⟨_, rfl⟩
          have HCE := Lib.hid (fun e (he : e < dp) => (show wo.cell? ⟨g, e, none⟩ = some (.float .f32 (V e)) by rw [hV]; exact tab_cellW HOW.out.sl he))
          have HV := Lib.hid hV
          clear hV
          go_wp2_with fail
          go_loopw [19, 20] (fun v19 v20 wq => ∃ a d k : Nat, v19 = .int .i64 a ∧ v20 = .int .i64 d ∧ 1 ≤ d ∧ d ≤ dp ∧ a = fstW V d ∧ wq = wo.drewN k) (fun _ v20 _ => dp - (intOf v20).toNat)
          case atStart => exact ⟨0, 1, 0, rfl, rfl, Nat.le_refl _, d5, by (unfold fstW; split <;> rfl), rfl⟩
          case round =>
            obtain ⟨a, d, k, rfl, rfl, hd1, hd2, ha, hwq⟩ := hrel
            have HQ := Lib.hid (show ∃ k, wr = wo.drewN k from ⟨k, hwq⟩)
            clear hwq
            obtain ⟨WQ, hWQ⟩ : ∃ WQ, WQ = wr := ⟨_, rfl⟩
            subst hWQ
            have had : a < dp := by rw [ha]; have := fstW_lt V d hd1; omega
            have HA := Lib.hid ha
            clear ha
            have hbQ : Below w.heap.size w WQ := by obtain ⟨k, hk⟩ := HQ.out; rw [hk]; exact below_drewN HBL.out k
            have hbo : Below wo.heap.size wo WQ := by obtain ⟨k, hk⟩ := HQ.out; rw [hk]; exact below_drewN (Below.refl _ _) k
            obtain ⟨q0, -, q2, -, -, -, -, -⟩ := (VA.out WQ hbQ).four
            clear c0 c1 c2 c3
            have hadI : (a : Int) < dp := by omega
            have za : WQ.cell? ⟨g, a, none⟩ = some (.float .f32 (V a)) := by
              obtain ⟨k, hk⟩ := HQ.out
              rw [hk]; exact HCE.out a had
            by_cases hld : d < dp
            · have hldI : (d : Int) < dp := by omega
              have zd : WQ.cell? ⟨g, d, none⟩ = some (.float .f32 (V d)) := by
                obtain ⟨k, hk⟩ := HQ.out
                rw [hk]; exact HCE.out d hld
              obtain ⟨va, hva⟩ : ∃ va, va = V a := ⟨_, rfl⟩
              obtain ⟨vd, hvd⟩ : ∃ vd, vd = V d := ⟨_, rfl⟩
              have HN := Lib.hid (show fstW V (d + 1) = if lt32 vd va then d else a by rw [hva, hvd, HA.out]; rfl)
              rw [← hva] at za
              rw [← hvd] at zd
              clear hva hvd hbQ hbo q0
              cases l1 : lt32 vd va
              · rw [l1] at HN
                have HN := Lib.hid (show fstW V (d + 1) = a from HN.out)
                go_wp2_with fail
                go_quiet (fail)
                go_wp2_with fail
                go_roundw
                case rel =>
                  obtain ⟨k, hk⟩ := HQ.out
                  exact ⟨a, d + 1, k + nq, rfl, by go_num, by omega, by omega, HN.out.symm, by rw [hk, World.drewN_drewN]⟩
                case measure => simp [intOf]; omega
              · rw [l1] at HN
                have HN := Lib.hid (show fstW V (d + 1) = d from HN.out)
                go_wp2_with fail
                go_quiet (fail)
                go_wp2_with fail
                go_roundw
                case rel =>
                  obtain ⟨k, hk⟩ := HQ.out
                  exact ⟨d, d + 1, k + nq, rfl, by go_num, by omega, by omega, HN.out.symm, by rw [hk, World.drewN_drewN]⟩
                case measure => simp [intOf]; omega
            · obtain rfl : dp = d := by omega
              obtain ⟨W3, hmk, hrow, hb3, hs3⟩ := makeI WQ wd w.heap.size hbQ.size (by omega)
              obtain ⟨r, hr⟩ : ∃ r, r = WQ.heap.size := ⟨_, rfl⟩
              rw [← hr] at hmk hrow hs3
              have hfrQ := HFR.out.below hbo
              have hfl := (hfrQ.lt (k := f) rfl).2
              have hrd : a = rowD C o m dp wd (wd - 1) := by
                unfold rowD
                rw [bkW_end, HA.out, HV.out]
              have hb3' := hbQ.trans (hb3.mono hbQ.size)
              have q2' : W3.cell? ⟨vb, 2, none⟩ = some (.int .i64 dp) := by
                obtain ⟨-, -, e2, -, -, -, -, -⟩ := (VA.out W3 hb3').four
                exact e2
              have e0 : W3.cell? ⟨vb, 0, none⟩ = some (.int .i64 wd) := by
                obtain ⟨e2, -, -, -, -, -, -, -⟩ := (VA.out W3 hb3').four
                exact e2
              have HS := Lib.hid (show (r ≠ f) ∧ OwnI W3 w.heap.size (.slice (some ⟨r, 0, none⟩) wd wd) (List.replicate wd 0) ∧ OwnI W3 w.heap.size (.slice (some ⟨f, 0, none⟩) N N) F ∧ Below w.heap.size w W3 ∧ a = rowD C o m dp wd (wd - 1) from ⟨by omega, hrow, hfrQ.below hb3, hb3', hrd⟩)
              clear hrow hb3 hs3 hr hfrQ hfl hrd hb3' hbQ hbo HOW
              have hw1 : IntKind.i64.wrap ((wd : Int) - 1) = (wd : Int) - 1 := IntWalk.i64_in _ (by omega)
              generalize V a = va at *
              go_wp2_with fail
              clear hmk za q0 q2 q2' e0
              go_loopw [19, 23] (fun v19 v23 wr => ∃ (j : Nat) (z : Int) (R : List Int), v19 = .int .i64 z ∧ v23 = .int .i64 ((j : Int) - 1) ∧ j ≤ wd ∧ (1 ≤ j → z = (rowD C o m dp wd (j - 1) : Nat)) ∧ R.length = wd ∧ (∀ k, j ≤ k → k < wd → R.getD k 0 = (rowD C o m dp wd k : Nat)) ∧ OwnI wr w.heap.size (.slice (some ⟨r, 0, none⟩) wd wd) R ∧ OwnI wr w.heap.size (.slice (some ⟨f, 0, none⟩) N N) F ∧ Below w.heap.size w wr) (fun _ v23 _ => ((intOf v23) + 1).toNat)
              case atStart => exact ⟨wd, a, _, rfl, rfl, Nat.le_refl _, fun _ => by rw [HS.out.2.2.2.2], by simp, fun k h1 h2 => by omega, HS.out.2.1, HS.out.2.2.1, HS.out.2.2.2.1⟩
              case round =>
                have HRF := Lib.hid HS.out.1
                clear HS
                obtain ⟨j, z, R, rfl, rfl, hj, hz, hRl, hR, hrow, hfr, hbl⟩ := hrel
                by_cases hj0 : j = 0
                · subst hj0
                  have HF := Lib.hid (And.intro hR (And.intro hrow (And.intro hfr hbl)))
                  clear hR hrow hfr hbl hz
                  go_wp2_with fail
                  go_ret3
                  obtain ⟨hR, hrow, hfr, hbl⟩ := HF.out
                  have e : R = tabZ wd (rowD C o m dp wd) := ext_getD (by rw [hRl, tabZ_len]) (fun k hk => by rw [hR k (Nat.zero_le _) (by omega), tabZ_getD (by omega)])
                  rw [e] at hrow
                  exact ⟨⟨r, wd, ⟨va, rfl⟩, hrow⟩, hbl⟩
                · obtain ⟨x, rfl⟩ : ∃ x, j = x + 1 := ⟨j - 1, by omega⟩
                  have hz' := hz (by omega)
                  rw [Nat.add_sub_cancel] at hz'
                  have ex : (((x + 1 : Nat) : Int)) - 1 = (x : Int) := by omega
                  rw [ex]
                  have hxI : (x : Int) < wd := by omega
                  obtain ⟨t, ht⟩ : ∃ t, t = rowD C o m dp wd x := ⟨_, rfl⟩
                  have htd : t < dp := by rw [ht]; exact bkW_lt (tW_lt C o m dp d5) _ _ (fstW_lt _ _ d5) _
                  rw [← ht] at hz'
                  subst hz'
                  obtain ⟨i1, i2, i3⟩ := fromI d2 d6 (show x < wd by omega) htd
                  obtain ⟨i, hi⟩ : ∃ i, i = x * dp + t := ⟨_, rfl⟩
                  rw [← hi, ← HN.out] at i3
                  rw [← hi] at i2
                  have iI : (i : Int) < N := by omega
                  have hlF := hfr.len.1
                  have cr := hrow.cellAt x (by omega)
                  have fr := hrow.free x
                  have hrB := (hrow.lt (k := r) rfl).1
                  have hst := fun u => hrow.put x u
                  obtain ⟨W4, hW4⟩ : ∃ W4, W4 = wr.setCell ⟨r, x, none⟩ (.int .i64 t) := ⟨_, rfl⟩
                  have hg4 : wr.grownBy W4 (some r) := by rw [hW4]; exact grown_setCell _ _ _
                  have hr4 : OwnI W4 w.heap.size (.slice (some ⟨r, 0, none⟩) wd wd) (R.set x (t : Nat)) := by rw [hW4]; exact hrow.put x _
                  have hf4 := hfr.grown hg4 (.inr (by simp [Value.ownBlock]; exact HRF.out.symm))
                  have hb4 : Below w.heap.size w W4 := by rw [hW4]; exact hbl.setCell (p := ⟨r, x, none⟩) hrB _
                  have ci := hf4.cellAt i (by omega)
                  obtain ⟨e0, -, e2, -, -, -, -, -⟩ := (VA.out W4 hb4).four
                  have hnext : 1 ≤ x → F.getD i 0 = (rowD C o m dp wd (x - 1) : Nat) := fun h1 => by
                    rw [hi, HOK.out.2 x t h1 (by omega) htd, ht]
                    congr 1
                    unfold rowD
                    rw [bkW_step _ _ _ _ (show x - 1 < wd - 1 by omega), show x - 1 + 1 = x by omega]
                  have hRn : ∀ k, x ≤ k → k < wd → (R.set x (t : Nat)).getD k 0 = (rowD C o m dp wd k : Nat) := fun k h1 h2 => by
                    by_cases hk : k = x
                    · subst hk; rw [getD_set_self _ _ (by omega), ht]
                    · rw [getD_set_ne _ _ (by omega)]; exact hR k (by omega) h2
                  have HF := Lib.hid (And.intro hnext (And.intro hRn (And.intro hr4 (And.intro hf4 hb4))))
                  have HW4 := Lib.hid hW4
                  generalize F.getD i 0 = fz at *
                  have xw : (x : Int) ≤ 24 := by omega
                  clear hz hR hrow hfr hbl ht hi i3 hlF hst hg4 hr4 hf4 hb4 hnext hRn hW4
                  rw [HW4.out] at ci e0 e2
                  go_wp2_with fail
                  rw [← HW4.out]
                  go_roundw
                  case rel => exact ⟨x, fz, _, rfl, by go_num, by omega, HF.out.1, by rw [List.length_set]; exact hRl, HF.out.2.1, HF.out.2.2.1, HF.out.2.2.2.1, HF.out.2.2.2.2⟩
                  case measure => simp [intOf]

end Go.Proofs.YtabbjilgpfnacaaGreat
