/- Winners of a volume that is told by its words: the reference's. -/
import Derived.Test.YtabbjilgpfnacaaGreatGb
namespace Go.Proofs.YtabbjilgpfnacaaGreat
section
open Go.RowKit Ieee
set_option maxRecDepth 100000
set_option linter.unusedVariables false
set_option linter.unusedSimpArgs false

set_option maxHeartbeats 2000000 in
theorem l03WinnerE (w : World) (vb wd hi dp qv N cv i : Nat) (bs : List Nat) (X : Int) (hX : X = i) (h : VolAt w vb wd hi dp qv 0 N cv bs) (hi_ : i < wd * hi) (hN : wd * hi ≤ 256) (hd : dp ≤ 8) :
    Calls Tryz.prog 62 #[.pointer (some ⟨vb, 0, none⟩), .int .i64 X, .int .i64 (-1)] w fun e w' => e = .returned (.int .i64 (winW (fun d => bs.getD (i * dp + d) 0) (-1) dp)) ∧ ∃ m, w' = w.drewN m := by
  subst hX
  obtain ⟨c0, c1, c2, c3, -, -, -, -⟩ := h.box.four
  have hidx : ∀ d, d < dp → i * dp + d < wd * hi * dp := fun d hd => by
    calc i * dp + d < i * dp + dp := by omega
      _ = (i + 1) * dp := by rw [Nat.add_mul, Nat.one_mul]
      _ ≤ wd * hi * dp := Nat.mul_le_mul_right _ hi_
  have hcell : ∀ d, d < dp → w.cell? ⟨qv, i * dp + d, none⟩ = some (.float .f32 (bs.getD (i * dp + d) 0)) ∧ i * dp + d < N := fun d hd => by
    have := h.sl.at (i * dp + d) (by rw [h.len]; exact hidx d hd)
    rw [Nat.zero_add] at this
    exact ⟨this.1, by have := hidx d hd; have := h.len; have := h.sl.size.1; omega⟩
  have hk : i * dp ≤ 256 * 8 := Nat.mul_le_mul (by omega) hd
  obtain ⟨f, hf⟩ : ∃ f, f = fun d => bs.getD (i * dp + d) 0 := ⟨_, rfl⟩
  obtain ⟨kk, hkk⟩ : ∃ kk, kk = i * dp := ⟨_, rfl⟩
  have em : IntKind.i64.wrap ((i : Int) * (dp : Int)) = (kk : Int) := by rw [← Int.natCast_mul, ← hkk]; exact IntWalk.i64_in _ (by omega)
  have hz : ∀ d, d < dp → w.cell? ⟨qv, kk + d, none⟩ = some (.float .f32 (f d)) ∧ kk + d < N := fun d hd => by rw [hkk, hf]; exact hcell d hd
  rw [← hf]
  rw [← hkk] at hk
  have HR := Lib.hid hz
  have HB := Lib.hid (winW_bd f (-1))
  have hNc := h.sl.size.2
  clear hidx hcell hf hkk hz h hi_ hN
  go_enter Tryz.func62, Tryz.ntmps62
  go_wp2_with fail
  go_loopw [7, 8] (fun v7 v8 wr => ∃ d m : Nat, v8 = .int .i64 d ∧ d ≤ dp ∧ v7 = .int .i64 (winW f (-1) d) ∧ wr = w.drewN m) (fun _ v8 _ => dp - (intOf v8).toNat)
  case atStart => exact ⟨0, 0, rfl, Nat.zero_le _, rfl, rfl⟩
  case round =>
    obtain ⟨d, m, rfl, hd2, rfl, rfl⟩ := hrel
    by_cases hlt : d < dp
    · obtain ⟨k0, kl⟩ := HR.out d hlt
      have k1 : ∀ q, (w.drewN q).cell? ⟨qv, kk + d, none⟩ = some (.float .f32 (f d)) := fun _ => k0
      obtain ⟨w1, w2⟩ := HB.out d
      have hst : winW f (-1) (d + 1) = wnrS f (-1) (winW f (-1) d) d := rfl
      unfold wnrS at hst
      have hltI : (d : Int) < dp := by omega
      have ed : IntKind.i64.wrap ((kk : Int) + (d : Int)) = ((kk + d : Nat) : Int) := by rw [← Int.natCast_add]; exact IntWalk.i64_in _ (by omega)
      have klI : ((kk + d : Nat) : Int) < N := by omega
      have HST := Lib.hid hst
      clear hst k0
      obtain ⟨best, hbest⟩ : ∃ best, best = winW f (-1) d := ⟨_, rfl⟩
      rw [← hbest] at w1 w2 HST ⊢
      have e1 : ((d : Int) == -1) = false := by rw [beq_eq_false_iff_ne]; omega
      have e1n : (d : Int) ≠ -1 := by omega
      obtain ⟨kd, hkd⟩ : ∃ kd, kd = kk + d := ⟨_, rfl⟩
      rw [← hkd] at k1 ed klI
      have k1' := k1 m
      clear hkd
      cases e2 : nan32 (f d)
      · have e2b : ((fl (f d) : Int) == (fl (f d) : Int)) = true := by simp
        by_cases hbn : best < 0
        · obtain rfl : best = -1 := by omega
          have hst2 : winW f (-1) (d + 1) = d := by rw [HST.out, if_pos ⟨e1n, e2, .inl (by decide)⟩]
          have HS2 := Lib.hid hst2
          clear hst2 HST hbest w1 w2 hbn
          generalize f d = x at *
          go_wp2_with fail
          go_quiet (fail)
          go_wp2_with fail
          go_quiet (fail)
          go_wp2_with fail
          go_roundw
          case rel => exact ⟨d + 1, _, by go_num, by omega, by rw [HS2.out], rfl⟩
          case measure => simp [intOf]; omega
        · obtain ⟨j, rfl⟩ := Int.eq_ofNat_of_zero_le (show 0 ≤ best by omega)
          obtain ⟨k2, kl2⟩ := HR.out j (by omega)
          have ej : IntKind.i64.wrap ((kk : Int) + (j : Int)) = ((kk + j : Nat) : Int) := by rw [← Int.natCast_add]; exact IntWalk.i64_in _ (by omega)
          obtain ⟨kj, hkj⟩ : ∃ kj, kj = kk + j := ⟨_, rfl⟩
          rw [← hkj] at k2 kl2 ej
          have kjI : (kj : Int) < N := by omega
          have k3 : ∀ q, (w.drewN q).cell? ⟨qv, kj, none⟩ = some (.float .f32 (f j)) := fun _ => k2
          have k3' := k3 m
          have hj1 : (j : Int) < dp := by omega
          have jn : decide ((j : Int) < 0) = false := by simp
          have HBE := Lib.hid hbest
          clear hbest k2 hkj
          cases e4 : lt32 (f d) (f j)
          all_goals
            have hst2 : winW f (-1) (d + 1) = if lt32 (f d) (f j) = true then (d : Int) else (j : Int) := by
              rw [HST.out, e4]
              simp [e1n, e2, e4, hbn]
            rw [e4] at hst2
            have HS2 := Lib.hid hst2
            clear hst2 HST hbn w1 w2
            generalize f d = x at *
            generalize f j = y at *
            go_wp2_with fail
            go_quiet (fail)
            go_wp2_with fail
            go_quiet (fail)
            go_wp2_with fail
            go_roundw
            case rel => exact ⟨d + 1, _, by go_num, by omega, by rw [HS2.out]; rfl, rfl⟩
            case measure => simp [intOf]; omega
      · have hst2 : winW f (-1) (d + 1) = best := by rw [HST.out, if_neg (fun h => by rw [e2] at h; cases h.2.1)]
        have HS2 := Lib.hid hst2
        have HBE := Lib.hid hbest
        clear hst2 HST hbest
        generalize f d = x at *
        go_wp2_with fail
        go_quiet (fail)
        go_wp2_with fail
        go_roundw
        case rel => exact ⟨d + 1, _, by go_num, by omega, by rw [HS2.out], rfl⟩
        case measure => simp [intOf]; omega
    · obtain rfl : dp = d := by omega
      go_wp2_with fail
      go_ret
      exact ⟨rfl, _, rfl⟩

theorem won_at {bs : List Nat} {wd dp i : Nat} : wonE dp (gc bs wd dp (i % wd) (i / wd)) = iw (winW (fun d => bs.getD (i * dp + d) 0) (-1) dp) := by
  unfold wonE
  congr 2
  funext d
  unfold gc ic
  rw [Nat.mod_add_div]
def wonT (bs : List Nat) (wd hi dp : Nat) : MapT := ⟨true, wd, hi, tab (hi * wd) fun i => wonE dp (gc bs wd dp (i % wd) (i / wd))⟩

set_option maxHeartbeats 4000000 in
theorem l03WinnersE (w : World) (vb wd hi dp qv N cv : Nat) (bs : List Nat) (h : VolAt w vb wd hi dp qv 0 N cv bs) (d2 : wd ≤ 24) (d4 : hi ≤ 24) (hN : wd * hi ≤ 256) (hd : dp ≤ 8) :
    Calls Tryz.prog 43 #[.pointer (some ⟨vb, 0, none⟩)] w fun e w' => ∃ s c cs, e = .returned (.agg #[.int .i64 wd, .int .i64 hi, .slice s (List.length cs) c]) ∧ OwnF w' w.heap.size (.slice s (List.length cs) c) cs ∧ cs.map fl = (wonT bs wd hi dp).L ∧ Below w.heap.size w w' := by
  obtain ⟨i0, hi0, hz0, hz1, hz2⟩ := info_parts info_f32
  obtain ⟨wA, hwA⟩ : ∃ wA, wA = w.alloc (.cells #[.int .i64 0, .int .i64 0, .slice none 0 0] 32) := ⟨_, rfl⟩
  have hbA : Below w.heap.size w wA := by rw [hwA]; exact (Below.refl _ _).alloc (Nat.le_refl _) _
  have BR : BoxN wA w.heap.size #[.int .i64 0, .int .i64 0, .slice none 0 0] 32 := by rw [hwA]; exact BoxN.last w _ _
  have hVA := h.below hbA
  have KW := Lib.hid (fun W (hb : Below wA.heap.size wA W) i (hi_ : i < wd * hi) => l03WinnerE W vb wd hi dp qv N cv i bs i rfl (hVA.below hb) hi_ hN hd)
  have VA := Lib.hid (fun W (hb : Below wA.heap.size wA W) => (hVA.below hb).box)
  have RA := Lib.hid (fun W (hb : Below wA.heap.size wA W) => BR.below hb)
  have HWA := Lib.hid hwA
  have HBA := Lib.hid hbA
  have hrl : w.heap.size < wA.heap.size := BR.lt
  have hvl := hVA.box.lt
  clear h hwA hbA BR hVA
  obtain ⟨M, hM⟩ : ∃ M, M = wd * hi := ⟨_, rfl⟩
  have em : IntKind.i64.wrap ((wd : Int) * (hi : Int)) = (M : Int) := by rw [← Int.natCast_mul, ← hM]; exact IntWalk.i64_in _ (by omega)
  rw [← hM] at KW hN
  have HM := Lib.hid hM
  clear hM
  go_enter Tryz.func43, Tryz.ntmps43
  go_upto_region 1 with fail
  rw [← HWA.out]
  go_cut [3] from 5 to 13 (fun v3 wx => ∃ (ob : Nat) (v : Value), v3 = .pointer (some ⟨ob, 0, none⟩) ∧ AccM wA wx ob wd hi v [] [])
  case first =>
    obtain ⟨z0, z1, -, -, -, -, -, -⟩ := (VA.out wA (Below.refl _ _)).four
    have hal : ∀ (W : World) (o : Obj), Below W.heap.size W (W.alloc o) := fun W o => (Below.refl _ _).alloc (Nat.le_refl _) _
    obtain ⟨x0, x1, -, -, -, -, -, -⟩ := (VA.out _ (hal wA (.cells #[.int .i64 0, .int .i64 0, .slice none 0 0] 32))).four
    go_region
    all_goals go_wp2_with fail
    all_goals go_meet
    exact ⟨wA.heap.size, .slice none 0 0, rfl, below_drewN (hal _ _) 1, (BoxN.last wA _ _).drewN 1, OwnF.nil _ _, by simp [Value.ownBlock], Nat.le_refl _, rfl⟩
  case rest =>
    obtain ⟨ob, v0, rfl, hacc⟩ := hcut
    have HACC := Lib.hid hacc
    clear hacc
    go_wp2_with fail
    go_loopw [4] (fun v4 wr => ∃ (i : Nat) (v : Value) (cs : List Nat), v4 = .int .i64 i ∧ i ≤ M ∧ AccM wA wr ob wd hi v cs (tab i fun i => wonE dp (gc bs wd dp (i % wd) (i / wd)))) (fun v4 _ => M - (intOf v4).toNat)
    case atStart => exact ⟨0, _, [], rfl, Nat.zero_le _, HACC.out⟩
    case round =>
      clear HACC
      obtain ⟨i, v1, cs, rfl, hy, hacc⟩ := hrel
      obtain ⟨z0, z1, -, -, -, -, -, -⟩ := (VA.out _ hacc.bel).four
      have HACC := Lib.hid hacc
      clear hacc
      by_cases hlt : i < M
      · have hltI : (i : Int) < M := by omega
        go_upto_region 3 with fail
        go_quiet (fail)
        obtain ⟨WQ, hWQ⟩ : ∃ WQ, WQ = wr.drewN nq := ⟨_, rfl⟩
        rw [← hWQ]
        have HS := Lib.hid (HACC.out.below (w1 := WQ) (by rw [hWQ]; exact below_drewN (Below.refl _ _) nq))
        clear hWQ z0 z1
        have hacc := HS.out
        have hbel := hacc.bel
        have hown := hacc.own
        have hne := hacc.ne
        have hobf := hacc.obf
        have hbox := hacc.box
        have hLn : cs.length ≤ 5000 := by
          have h6 : cs.length = i := by have := congrArg List.length hacc.con; rwa [List.length_map, tab_length] at this
          omega
        have hB := hacc.box.lt
        have hBs := hbel.size
        clear hacc HACC
        have KW1 := Lib.hid (fun n => KW.out (WQ.drewN n) (below_drewN hbel n) i hlt)
        obtain ⟨z, hz⟩ : ∃ z, z = winW (fun d => bs.getD (i * dp + d) 0) (-1) dp := ⟨_, rfl⟩
        rw [← hz] at KW1
        have HZ := Lib.hid hz
        have hr32 := ofInt_lt z
        obtain ⟨rr, hr⟩ : ∃ rr, floatOfInt .f32 z = rr := ⟨_, rfl⟩
        rw [hr] at hr32
        have HR := Lib.hid hr
        clear hz
        obtain ⟨-, -, c2, -, -, -⟩ := hbox.three.cells
        go_wp2_with fail
        go_region_law (first
          | (refine step_append_lies _ (by rfl) _ _ _ (by rfl) wA.heap.size 25 i0 _ 1 4 Tryz.underlying22 hi0 hz0 hz1 hz2 rfl (by omega) v1 cs.length _ (by rfl) (World.ownsRow.alloc hown1.1 _) ⟨w1.heap.size, 0, none⟩ 1 1 [.float .f32 rr] (by rfl) (by rfl) (cell_one_new _ _ _) (by simp [Value.oneCell']) (by omega) (by unfold maxLen; omega) (by omega) (by simp; omega) (w1.heap.size + 1) (by simp) ?_; intro gg cap w2 hown2 hgrow hat hlt2; obtain ⟨q0, q1, q2, g0, g1, g2⟩ := ((hbox1.below ((Below.refl w1.heap.size w1).alloc (Nat.le_refl _) _)).grown hgrow hne).three.cells)
          | (go_simp; refine (KW1.out _).mono ?_; rintro e w1 ⟨rfl, nn, hw1⟩; have hb2 : Below WQ.heap.size WQ w1 := (by rw [hw1]; first | exact below_drewN (Below.refl _ _) _ | exact below_drewN (below_drewN (Below.refl _ _) _) _); have hbox1 := hbox.below hb2; have c3' := hbox1.three.cells.2.2.1; have c4 : ∀ o, (w1.alloc o).cell? ⟨ob, 2, none⟩ = some v1 := (fun o => (hbox1.below ((Below.refl w1.heap.size w1).alloc (Nat.le_refl _) o)).three.cells.2.2.1); have hown1 := hown.below hb2; have hz2' : wA.heap.size ≤ w1.heap.size := (by have := hb2.size; omega); clear hw1))
        all_goals
          go_wp2
          go_roundw
          case rel =>
            have hst := HS.out.step (z := wonE dp (gc bs wd dp (i % wd) (i / wd))) hb2 hr32 (by rw [won_at, ← HZ.out, ← HR.out]; rfl) hown2 hgrow hat
            rw [← tab_succ i (fun i => wonE dp (gc bs wd dp (i % wd) (i / wd)))] at hst
            exact ⟨i + 1, _, cs ++ [rr], by go_num, by omega, hst⟩
          case measure => simp [intOf]; omega
      · obtain rfl : M = i := by omega
        go_upto_region 3 with fail
        go_quiet (fail)
        obtain ⟨WQ, hWQ⟩ : ∃ WQ, WQ = wr.drewN nq := ⟨_, rfl⟩
        rw [← hWQ]
        have HS := Lib.hid (HACC.out.below (w1 := WQ) (by rw [hWQ]; exact below_drewN (Below.refl _ _) nq))
        clear hWQ z0 z1 HACC
        have hz := RA.out WQ HS.out.bel
        obtain ⟨d0, e1, e2, g0, g1, g2⟩ := hz.three.cells
        obtain ⟨f0, f1, f2, -, -, -⟩ := HS.out.box.three.cells
        have hlt3 := hz.lt
        have hlt4 := HS.out.box.lt
        have hobf := HS.out.obf
        have hne : ob ≠ w.heap.size := by omega
        obtain ⟨s, c, hv1⟩ : ∃ s c, v1 = .slice s cs.length c := by
          rcases HS.out.own.form with ⟨h1, h2⟩ | ⟨q, cap, h1, h2⟩
          · exact ⟨none, 0, by rw [h1, h2]; rfl⟩
          · exact ⟨_, cap, h1⟩
        subst hv1
        clear hz
        go_wp2_with fail
        refine bodyPost_ret (v := .agg #[.int .i64 wd, .int .i64 hi, .slice s cs.length c]) (by simp [results, Tryz.results43, go_sem, d0, e1, e2, hlt3]) rfl ?_
        have hbF := HBA.out.trans (HS.out.bel.mono HBA.out.size)
        exact ⟨s, c, cs, rfl, (((HS.out.own.set hrl _).set hrl _).set hrl _).mono HBA.out.size, by have := HS.out.con; rw [HM.out, Nat.mul_comm] at this; exact this, ((hbF.setCell (by simp) _).setCell (by simp) _).setCell (by simp) _⟩

set_option maxHeartbeats 2000000 in
theorem sWinnersE (w : World) (wd hi dp N qv cv : Nat) (bs : List Nat) (hv : vVol wd hi dp N = true) (hs : SlF w (.slice (some ⟨qv, 0, none⟩) N cv) bs) :
    Calls Tryz.prog 31 #[.agg #[.int .i64 wd, .int .i64 hi, .int .i64 dp, .slice (some ⟨qv, 0, none⟩) N cv]] w (MRes (wonT bs wd hi dp) w) := by
  obtain ⟨hM, d1, d2, d3, d4, d5, d6, d7, d8⟩ := vVol_picE hv
  obtain ⟨W0, hW0⟩ : ∃ W, W = (w.alloc (.cells #[.int .i64 wd, .int .i64 hi, .int .i64 dp, .slice (some ⟨qv, 0, none⟩) N cv] 62)).alloc (.cells #[.int .i64 0, .int .i64 0, .slice none 0 0] 32) := ⟨_, rfl⟩
  have hb0 : Below w.heap.size w W0 := by rw [hW0]; exact below_two w _ _
  have BV : BoxN W0 w.heap.size #[.int .i64 wd, .int .i64 hi, .int .i64 dp, .slice (some ⟨qv, 0, none⟩) N cv] 62 := by rw [hW0]; exact BoxN.first _ _ _ _
  have BZ : BoxN W0 (w.heap.size + 1) #[.int .i64 0, .int .i64 0, .slice none 0 0] 32 := by rw [hW0]; exact BoxN.second _ _ _ _
  have hVW : VolAt W0 w.heap.size wd hi dp qv 0 N cv bs := ⟨BV, hs.below hb0, by have := hs.size.1; omega⟩
  obtain ⟨c0, c1, c2, c3⟩ := four_of_box BV
  have KI0 := Lib.hid (l03IsE W0 w.heap.size wd hi dp (some ⟨qv, 0, none⟩) N cv (by omega) c0 c1 c2 c3)
  rw [hv] at KI0
  have KR := Lib.hid (fun n => l03WinnersE (W0.drewN n) w.heap.size wd hi dp qv N cv bs (hVW.drewN n) d2 d4 d5 d7)
  have HB := Lib.hid (And.intro hb0 BZ)
  have HW0 := Lib.hid hW0
  clear hv hs hM hW0 hb0 BV BZ hVW c0 c1 c2 c3
  obtain ⟨t, ht⟩ : ∃ t, t = wonT bs wd hi dp := ⟨_, rfl⟩
  have hT := Lib.hid (show t.ok = true ∧ t.a = wd ∧ t.b = hi by rw [ht]; exact ⟨rfl, rfl, rfl⟩)
  rw [← ht] at KR ⊢
  clear ht
  go_enter Tryz.func31, Tryz.ntmps31
  go_wp2_with fail
  rw [← HW0.out]
  refine KI0.out.mono ?_
  rintro e w1 ⟨rfl, n, rfl⟩
  go_wp2_with fail
  refine (KR.out _).mono ?_
  rintro e w2 ⟨s, c, cs, rfl, ho, hc, hb⟩
  have hz := (HB.out.2.drewN n).below hb
  obtain ⟨d0, e1, e2, g0, g1, g2⟩ := hz.three.cells
  have hlt3 := hz.lt
  have HF := Lib.hid (And.intro ho (And.intro hc hb))
  clear ho hc hb hz
  go_wp2_with fail
  refine bodyPost_ret (v := .tuple #[.agg #[.int .i64 wd, .int .i64 hi, .slice s cs.length c], .bool true]) (by simp [results, Tryz.results31, go_sem, d0, e1, e2, hlt3]) rfl ?_
  have := MRes.of_box (t := t) (below_drewN HB.out.1 n) (HB.out.2.drewN n).lt (by omega) HF.out.1 HF.out.2.1 HF.out.2.2 (.int .i64 wd) (.int .i64 hi) (.slice s cs.length c)
  rw [hT.out.1, hT.out.2.1, hT.out.2.2] at this
  exact this
end

section
open Go.RowKit Ieee
set_option maxRecDepth 100000
set_option linter.unusedVariables false
set_option linter.unusedSimpArgs false

theorem wnr_fl {f g : Nat → Nat} (h : ∀ d, fl (f d) = g d) (n : Nat) : winW f (-1) n = winW g (-1) n := by
  induction n with
  | zero => rfl
  | succ n ih =>
    show wnrS f (-1) (winW f (-1) n) n = wnrS g (-1) (winW g (-1) n) n
    unfold wnrS
    rw [ih, ← h n, ← h (winW g (-1) n).toNat, nan32_fl, lt32_fl]
theorem wonT_fl {bs L : List Nat} (h : bs.map fl = L) (wd hi dp : Nat) : wonT bs wd hi dp = wonT L wd hi dp := by
  unfold wonT
  congr 1
  unfold tab
  refine List.map_congr_left fun i _ => ?_
  unfold wonE
  rw [wnr_fl (fun d => gc_fl h wd dp (i % wd) (i / wd) d)]

/-- The map of a job. -/
def mapT (j : JobX) (p q : Tri) (xs ys : List Nat) : MapT :=
  if j.ok && pairV p q then (if j.solve then rowsT (jobT j p q xs ys).L p.a.toNat p.b.toNat j.deep.toNat j.one j.more else wonT (jobT j p q xs ys).L p.a.toNat p.b.toNat j.deep.toNat) else noMap
theorem boxT_len (L : List Nat) (wd hi dp r : Nat) : (boxT L wd hi dp r).L.length = wd * hi * dp := by
  unfold boxT
  rw [tabV_len, Nat.mul_comm hi wd]
/-- The volume of a right job is right. -/
theorem job_right {j : JobX} {p q : Tri} (xs ys : List Nat) (hj : j.ok = true) (hv : pairV p q = true) : ∃ wd hi k : Nat, (jobT j p q xs ys).ok = true ∧ (jobT j p q xs ys).a = wd ∧ (jobT j p q xs ys).b = hi ∧ (jobT j p q xs ys).d = k ∧ (jobT j p q xs ys).L.length = wd * hi * k ∧ vVol wd hi k (wd * hi * k) = true ∧ p.a = wd ∧ p.b = hi ∧ j.deep = k ∧ prOk j.one j.more = true := by
  obtain ⟨hk, hr, hd, hp⟩ := JobX.ok_spec hj
  have hD := job_pair hj hv
  obtain ⟨wd, hi, k, e1, e2, e3, e4, e5, -⟩ := pairD_spec hD
  obtain ⟨r, hre⟩ := Int.eq_ofNat_of_zero_le hr.1
  have hjt : jobT j p q xs ys = boxT (pairT (decide (j.kind = 0)) p q j.deep xs ys).L wd hi k r := by
    unfold jobT; rw [hj, hv, e1, e2, e5, hre]; simp
  refine ⟨wd, hi, k, by rw [hjt]; rfl, by rw [hjt]; rfl, by rw [hjt]; rfl, by rw [hjt]; rfl, ?_, vVolE hD e1 e2 e5, e1, e2, e5, hp⟩
  rw [hjt, boxT_len]

set_option maxHeartbeats 4000000 in
theorem l07MapE (W : World) (p1 p2 jb : Nat) (p q : Tri) (j : JobX) (xs ys : List Nat) (hp : SlF W (.slice p.s p.l p.c) xs) (hq : SlF W (.slice q.s q.l q.c) ys) (A1 : Box3 W p1 (.int .i64 p.a) (.int .i64 p.b) (.slice p.s p.l p.c) 35) (A2 : Box3 W p2 (.int .i64 q.a) (.int .i64 q.b) (.slice q.s q.l q.c) 35) (AJ : BoxN W jb j.v 39) (hj : j.ok = true) (hv : pairV p q = true) :
    Calls Tryz.prog 18 #[.pointer (some ⟨p1, 0, none⟩), .pointer (some ⟨p2, 0, none⟩), .pointer (some ⟨jb, 0, none⟩)] W (MRes (mapT j p q xs ys) W) := by
  obtain ⟨wd, hi, k, t1, t2, t3, t4, t5, hvv, e1, e2, e3, hpr⟩ := job_right xs ys hj hv
  obtain ⟨W0, hW0⟩ : ∃ W0, W0 = W.alloc (.cells #[.int .i64 0, .int .i64 0, .slice none 0 0] 32) := ⟨_, rfl⟩
  obtain ⟨hb0, BZ, hs0⟩ := box_new hW0
  have KV := Lib.hid (l07VolumeE W0 p1 p2 jb p q j xs ys (hp.below hb0) (hq.below hb0) (A1.below hb0) (A2.below hb0) (AJ.below hb0) hj hv)
  have hmt : mapT j p q xs ys = if j.solve then rowsT (jobT j p q xs ys).L wd hi k j.one j.more else wonT (jobT j p q xs ys).L wd hi k := by
    unfold mapT; rw [hj, hv, e1, e2, e3]; simp
  obtain ⟨rr, hrr⟩ : ∃ rr, rr = mapT j p q xs ys := ⟨_, rfl⟩
  rw [← hrr]
  rw [hmt] at hrr
  have AJ0 := AJ.below hb0
  have HAJ := Lib.hid (fun V (hb : Below W0.heap.size W0 V) => six_of_box (AJ0.below hb))
  have hjl := AJ0.lt
  have HB := Lib.hid (And.intro hb0 BZ)
  have HW0 := Lib.hid hW0
  obtain ⟨t, ht⟩ : ∃ t, t = jobT j p q xs ys := ⟨_, rfl⟩
  rw [← ht] at KV t1 t2 t3 t4 t5 hrr
  have HRR := Lib.hid hrr
  have HT := Lib.hid (And.intro t1 (And.intro t2 (And.intro t3 (And.intro t4 t5))))
  have HVV := Lib.hid (And.intro hvv hpr)
  have hwl := BZ.lt
  clear hp hq A1 A2 AJ AJ0 hj hv hW0 hb0 BZ hmt t1 t2 t3 t4 t5 hvv e1 e2 e3 hpr ht hs0 hrr
  go_enter Tryz.func18, Tryz.ntmps18
  go_wp2_with fail
  rw [← HW0.out]
  refine KV.out.mono ?_
  rintro e w2 ⟨s, c, bs, rfl, ho, hc, hb⟩
  have hbl : bs.length = wd * hi * k := by have := congrArg List.length hc; rw [List.length_map] at this; rw [this, HT.out.2.2.2.2]
  obtain ⟨hN, d1, d2, d3, d4, d5, d6, d7, d8⟩ := vVol_picE HVV.out.1
  have hpos : 0 < wd * hi * k := Nat.mul_pos (Nat.mul_pos d1 d3) d6
  obtain ⟨g, rfl⟩ := own_ptrE ho (by omega)
  rw [HT.out.1, HT.out.2.1, HT.out.2.2.1, HT.out.2.2.2.1]
  rw [hbl] at ho ⊢
  obtain ⟨N, hNN⟩ : ∃ N, N = wd * hi * k := ⟨_, rfl⟩
  rw [← hNN] at ho ⊢
  have hvN : vVol wd hi k N = true := by rw [hNN]; exact HVV.out.1
  have hgl := (ho.lt (k := g) rfl).2
  obtain ⟨w3, hw3⟩ : ∃ w3, w3 = w2.alloc (.cells #[.int .i64 wd, .int .i64 hi, .int .i64 k, .slice (some ⟨g, 0, none⟩) N c] 62) := ⟨_, rfl⟩
  obtain ⟨hb3, BV, hs3⟩ := box_new hw3
  have hb03 : Below W0.heap.size W0 w3 := hb.trans (hb3.mono hb.size)
  have hsl := ho.sl.below hb3
  obtain ⟨j0, j1, j2, j3, j4, j5⟩ := HAJ.out w3 hb03
  obtain ⟨v0, v1, v2, v3⟩ := four_of_box BV
  have hz3 := HB.out.2.below hb03
  have KS := Lib.hid (fun n => sSolveRowsE (w3.drewN n) wd hi k N g c j.one j.more bs t.L hc hvN (hsl.below (below_drewN (Below.refl _ _) n)) (by show g < w3.heap.size; omega) HVV.out.2)
  have KW := Lib.hid (fun n => sWinnersE (w3.drewN n) wd hi k N g c bs hvN (hsl.below (below_drewN (Below.refl _ _) n)))
  rw [wonT_fl hc] at KW
  have H3 := Lib.hid (And.intro hb03 hz3)
  have HW3 := Lib.hid hw3
  clear ho hc hb hbl hpos hNN hvN hb3 BV hb03 hsl hz3 hN d1 d2 d3 d4 d5 d6 d7 d8 KV
  rw [hw3] at j0 j1 j2 j3 j4 j5 v0 v1 v2 v3
  clear hw3
  cases hs : j.solve
  · rw [hs] at j3
    have hu : rr = wonT t.L wd hi k := by rw [HRR.out, hs]; rfl
    rw [← hu] at KW
    clear hu hs KS HRR
    go_wp2_with fail
    rw [← HW3.out]
    refine (KW.out 0).mono ?_
    rintro e w4 ⟨s, c4, cs, rfl, ho, hc, hb⟩
    have hz := H3.out.2.below hb
    obtain ⟨d0, y1, y2, g0, g1, g2⟩ := hz.three.cells
    have hlt3 := hz.lt
    have HF := Lib.hid (And.intro ho (And.intro hc hb))
    clear ho hc hb hz
    go_wp2_with fail
    refine bodyPost_ret (v := .tuple #[.agg #[.int .i64 rr.a, .int .i64 rr.b, .slice s cs.length c4], .bool rr.ok]) (by simp [results, Tryz.results18, go_sem, d0, y1, y2, hlt3]) rfl ?_
    exact MRes.of_box (HB.out.1.trans (H3.out.1.mono HB.out.1.size)) H3.out.2.lt (by omega) HF.out.1 HF.out.2.1 HF.out.2.2 _ _ _
  · rw [hs] at j3
    have hu : rr = rowsT t.L wd hi k j.one j.more := by rw [HRR.out, hs]; rfl
    rw [← hu] at KS
    clear hu hs KW HRR
    go_wp2_with fail
    rw [← HW3.out]
    rw [← HW3.out] at j4 j5 v0 v1 v2 v3
    have hz3 := H3.out.2
    obtain ⟨d0, y1, y2, g0, g1, g2⟩ := hz3.three.cells
    clear j0 j1 j2 j3
    go_region_law (go_simp; refine (KS.out _).mono ?_; rintro e w4 ⟨s, c4, cs, rfl, ho, hc, hb⟩; have hz := (H3.out.2.drewN _).below hb; obtain ⟨d0, y1, y2, g0, g1, g2⟩ := hz.three.cells; have hlt3 := hz.lt; have HF := Lib.hid (And.intro ho (And.intro hc hb)); clear ho hc hb hz)
    all_goals
      go_wp2_with fail
      refine bodyPost_ret (v := .tuple #[.agg #[.int .i64 rr.a, .int .i64 rr.b, .slice s cs.length c4], .bool rr.ok]) (by simp [results, Tryz.results18, go_sem, d0, y1, y2, hlt3]) rfl ?_
      exact MRes.of_box ((HB.out.1.trans (H3.out.1.mono HB.out.1.size)).trans ((below_drewN (Below.refl _ _) _).mono (Nat.le_trans HB.out.1.size H3.out.1.size))) (H3.out.2.drewN _).lt (by omega) HF.out.1 HF.out.2.1 HF.out.2.2 _ _ _


set_option maxHeartbeats 4000000 in
theorem iJobMap_any (w : World) (p q : Tri) (j : JobX) (xs ys : List Nat) (hp : SlF w (.slice p.s p.l p.c) xs) (hq : SlF w (.slice q.s q.l q.c) ys) (ho : j.one < 4294967296) (hm : j.more < 4294967296) :
    Calls Tryz.prog 22 #[.agg #[.int .i64 p.a, .int .i64 p.b, .slice p.s p.l p.c], .agg #[.int .i64 q.a, .int .i64 q.b, .slice q.s q.l q.c], .agg j.v] w (MRes (mapT j p q xs ys) w) := by
  obtain ⟨W0, hW0⟩ : ∃ W, W = (((w.alloc (.cells #[.int .i64 p.a, .int .i64 p.b, .slice p.s p.l p.c] 35)).alloc (.cells #[.int .i64 q.a, .int .i64 q.b, .slice q.s q.l q.c] 35)).alloc (.cells j.v 39)).alloc (.cells #[.int .i64 0, .int .i64 0, .slice none 0 0] 32) := ⟨_, rfl⟩
  obtain ⟨hb0, B1, B2, BJ, BZ⟩ := fourE hW0
  have KV := Lib.hid (iJobVolume_any W0 p q j xs ys (hp.below hb0) (hq.below hb0) ho hm)
  have HAJ := Lib.hid (fun V (hb : Below W0.heap.size W0 V) => six_of_box (BJ.below hb))
  have HB := Lib.hid (And.intro hb0 BZ)
  have HW0 := Lib.hid hW0
  have HO := Lib.hid (And.intro ho hm)
  have hp1 : w.heap.size + 1 + 1 + 1 < W0.heap.size := BZ.lt
  obtain ⟨a0, a1, a2, -, -, -⟩ := B1.cells
  obtain ⟨b0, b1, b2, -, -, -⟩ := B2.cells
  obtain ⟨c0, c1, c2, c3, c4, c5⟩ := six_of_box BJ
  rw [hW0] at a0 a1 a2 b0 b1 b2 c0 c1 c2 c3 c4 c5
  obtain ⟨rr, hrr⟩ : ∃ rr, rr = mapT j p q xs ys := ⟨_, rfl⟩
  rw [← hrr]
  have HRR := Lib.hid hrr
  obtain ⟨t, ht⟩ : ∃ t, t = jobT j p q xs ys := ⟨_, rfl⟩
  rw [← ht] at KV
  have HTT := Lib.hid ht
  unfold JobX.v at HW0 KV ⊢
  clear hp hq hb0 B1 B2 BJ BZ hW0 ho hm hrr ht
  go_enter Tryz.func22, Tryz.ntmps22
  go_wp2_with fail
  rw [← HW0.out]
  refine KV.out.mono ?_
  rintro e w2 ⟨s, c, bs, rfl, ho, hc, hb⟩
  clear a0 a1 a2 b0 b1 b2 c0 c1 c2 c3 c4 c5 KV
  cases hg : j.ok && pairV p q
  · have hr2 : rr = noMap := by rw [HRR.out]; unfold mapT; rw [hg]; simp
    have ht2 : t = noVol := by rw [HTT.out]; unfold jobT; rw [hg]; simp
    have HRN := Lib.hid hr2
    subst ht2
    obtain ⟨w3, hw3⟩ : ∃ w3, w3 = w2.alloc (.cells #[.int .i64 noVol.a, .int .i64 noVol.b, .int .i64 noVol.d, .slice s bs.length c] 62) := ⟨_, rfl⟩
    obtain ⟨hb3, BV, hs3⟩ := box_new hw3
    have hb03 : Below W0.heap.size W0 w3 := hb.trans (hb3.mono hb.size)
    have hz := HB.out.2.below hb03
    obtain ⟨d0, y1, y2, g0, g1, g2⟩ := hz.three.cells
    have hlt3 := hz.lt
    have HF := Lib.hid (HB.out.1.trans (hb03.mono HB.out.1.size))
    rw [hw3] at d0 y1 y2 g0 g1 g2 hlt3 HF
    have hok : noVol.ok = false := rfl
    rw [hok]
    clear ho hc hb hb3 BV hs3 hb03 hz hw3 hg hr2
    generalize noVol.a = na at *
    generalize noVol.b = nb at *
    generalize noVol.d = nd at *
    go_wp2_with fail
    refine bodyPost_ret (v := .tuple #[.agg #[.int .i64 0, .int .i64 0, .slice none 0 0], .bool false]) (by simp [results, Tryz.results22, go_sem, d0, y1, y2, hlt3]) rfl ?_
    rw [HRN.out]
    exact MRes.no (((HF.out.setCell (by simp; omega) _).setCell (by simp; omega) _).setCell (by simp; omega) _)
  · rw [Bool.and_eq_true] at hg
    obtain ⟨hj, hv⟩ := hg
    obtain ⟨wd, hi, k, t1, t2, t3, t4, t5, hvv, e1, e2, e3, hpr⟩ := job_right xs ys hj hv
    have hmt : rr = if j.solve then rowsT t.L wd hi k j.one j.more else wonT t.L wd hi k := by
      rw [HRR.out, HTT.out]
      unfold mapT; rw [hj, hv, e1, e2, e3]; simp
    rw [← HTT.out] at t1 t2 t3 t4 t5
    have hbl : bs.length = wd * hi * k := by have := congrArg List.length hc; rw [List.length_map] at this; rw [this, t5]
    obtain ⟨hN, d1, d2, d3, d4, d5, d6, d7, d8⟩ := vVol_picE hvv
    have hpos : 0 < wd * hi * k := Nat.mul_pos (Nat.mul_pos d1 d3) d6
    obtain ⟨g, rfl⟩ := own_ptrE ho (by omega)
    rw [t1, t2, t3, t4]
    rw [hbl] at ho ⊢
    obtain ⟨N, hNN⟩ : ∃ N, N = wd * hi * k := ⟨_, rfl⟩
    rw [← hNN] at ho ⊢
    have hvN : vVol wd hi k N = true := by rw [hNN]; exact hvv
    have hgl := (ho.lt (k := g) rfl).2
    obtain ⟨w3, hw3⟩ : ∃ w3, w3 = w2.alloc (.cells #[.int .i64 wd, .int .i64 hi, .int .i64 k, .slice (some ⟨g, 0, none⟩) N c] 62) := ⟨_, rfl⟩
    obtain ⟨hb3, BV, hs3⟩ := box_new hw3
    have hb03 : Below W0.heap.size W0 w3 := hb.trans (hb3.mono hb.size)
    have hsl := ho.sl.below hb3
    obtain ⟨j0, j1, j2, j3, j4, j5⟩ := HAJ.out w3 hb03
    obtain ⟨v0, v1, v2, v3⟩ := four_of_box BV
    have hz3 := HB.out.2.below hb03
    have KS := Lib.hid (iSolveRowsE w3 wd hi k N g c j.one j.more bs t.L hc hvN hsl (by omega) hpr HO.out.1 HO.out.2)
    have KW := Lib.hid (iWinnersE w3 wd hi k N g c bs hvN hsl)
    have hwt := wonT_fl hc wd hi k
    have H3 := Lib.hid (And.intro hb03 hz3)
    have HW3 := Lib.hid hw3
    clear ho hc hb hbl hpos hNN hvN hb3 BV hb03 hsl hz3 hN d1 d2 d3 d4 d5 d6 d7 d8 t1 t2 t3 t4 t5 hvv e1 e2 e3 hpr hj hv
    rw [hw3] at j0 j1 j2 j3 j4 j5 v0 v1 v2 v3
    clear hw3
    cases hs : j.solve
    · rw [hs] at j3
      have hu : rr = wonT bs wd hi k := by rw [hmt, hs, hwt]; rfl
      have KW := Lib.hid (show Calls _ _ _ _ (MRes rr w3) by rw [hu]; exact KW.out)
      clear hu hs KS HRR hmt hwt
      go_wp2_with fail
      rw [← HW3.out]
      refine KW.out.mono ?_
      rintro e w4 ⟨s, c4, cs, rfl, ho, hc, hb⟩
      have hz := H3.out.2.below hb
      obtain ⟨d0, y1, y2, g0, g1, g2⟩ := hz.three.cells
      have hlt3 := hz.lt
      have HF := Lib.hid (And.intro ho (And.intro hc hb))
      clear ho hc hb hz
      go_wp2_with fail
      refine bodyPost_ret (v := .tuple #[.agg #[.int .i64 rr.a, .int .i64 rr.b, .slice s cs.length c4], .bool rr.ok]) (by simp [results, Tryz.results22, go_sem, d0, y1, y2, hlt3]) rfl ?_
      exact MRes.of_box (HB.out.1.trans (H3.out.1.mono HB.out.1.size)) H3.out.2.lt (by omega) HF.out.1 HF.out.2.1 HF.out.2.2 _ _ _
    · rw [hs] at j3
      have hu : rr = rowsT t.L wd hi k j.one j.more := by rw [hmt, hs]; rfl
      rw [← hu] at KS
      clear hu hs KW HRR hmt hwt
      go_wp2_with fail
      rw [← HW3.out]
      refine KS.out.mono ?_
      rintro e w4 ⟨s, c4, cs, rfl, ho, hc, hb⟩
      have hz := H3.out.2.below hb
      obtain ⟨d0, y1, y2, g0, g1, g2⟩ := hz.three.cells
      have hlt3 := hz.lt
      have HF := Lib.hid (And.intro ho (And.intro hc hb))
      clear ho hc hb hz
      go_wp2_with fail
      refine bodyPost_ret (v := .tuple #[.agg #[.int .i64 rr.a, .int .i64 rr.b, .slice s cs.length c4], .bool rr.ok]) (by simp [results, Tryz.results22, go_sem, d0, y1, y2, hlt3]) rfl ?_
      exact MRes.of_box (HB.out.1.trans (H3.out.1.mono HB.out.1.size)) H3.out.2.lt (by omega) HF.out.1 HF.out.2.1 HF.out.2.2 _ _ _
end

section
open Go.RowKit Ieee
set_option maxRecDepth 100000
set_option linter.unusedVariables false
set_option linter.unusedSimpArgs false

def MFar (t : MapT) (w0 V : World) (e : Ending) (w' : World) : Prop :=
  ∃ s c bs, e = .returned (.tuple #[.agg #[.int .i64 t.a, .int .i64 t.b, .slice s (List.length bs) c], .bool t.ok]) ∧ OwnF w' w0.heap.size (.slice s (List.length bs) c) bs ∧ bs.map fl = t.L ∧ Below V.heap.size V w' ∧ ∀ b cs T, BoxN V b cs T → BoxN w' b cs T ∧ some b ≠ (Value.slice s (List.length bs) c).ownBlock
theorem MRes.far {t : MapT} {w0 V w' : World} {e : Ending} (h : MRes t V e w') (hb : Below w0.heap.size w0 V) : MFar t w0 V e w' := by
  obtain ⟨s, c, bs, he, ho, hc, hbv⟩ := h
  exact ⟨s, c, bs, he, ho.mono hb.size, hc, hbv, fun b cs T hx => ⟨hx.below hbv, fun e => by have h1 := (ho.lt e.symm).1; have h2 := hx.lt; omega⟩⟩
/-- A map in a box. -/
structure MBox (B : Nat) (w wx : World) (ob : Nat) (t : MapT) (s : Option Addr) (c : Nat) (bs : List Nat) : Prop where
  bel : Below B w wx
  box : BoxN wx ob #[.int .i64 t.a, .int .i64 t.b, .slice s bs.length c] 32
  own : OwnF wx B (.slice s bs.length c) bs
  ne : some ob ≠ (Value.slice s bs.length c).ownBlock
  obf : B ≤ ob
  con : bs.map fl = t.L
theorem MBox.new {B : Nat} {w w2 : World} {t : MapT} {s : Option Addr} {c : Nat} {bs : List Nat} (hb : Below B w w2) (ho : OwnF w2 B (.slice s bs.length c) bs) (hc : bs.map fl = t.L) (hB : B ≤ w2.heap.size) :
    MBox B w (w2.alloc (.cells #[.int .i64 t.a, .int .i64 t.b, .slice s bs.length c] 32)) w2.heap.size t s c bs :=
  ⟨hb.alloc hB _, BoxN.last _ _ _, ho.below (alE _ _), fun e => by have := (ho.lt e.symm).2; omega, hB, hc⟩
theorem below_setMM {n : Nat} {w W : World} {ob : Nat} (h : Below n w W) (ho : n ≤ ob) (v0 v1 v2 : Value) : Below n w (((W.setCell ⟨ob, 0, none⟩ v0).setCell ⟨ob, 1, none⟩ v1).setCell ⟨ob, 2, none⟩ v2) :=
  ((h.setCell ho _).setCell ho _).setCell ho _
theorem own_setMM {W : World} {B ob : Nat} {v : Value} {bs : List Nat} (ho : OwnF W B v bs) (hne : some ob ≠ v.ownBlock) (v0 v1 v2 : Value) : OwnF (((W.setCell ⟨ob, 0, none⟩ v0).setCell ⟨ob, 1, none⟩ v1).setCell ⟨ob, 2, none⟩ v2) B v bs := by
  have key : ∀ (W : World) (i : Nat) (u : Value), OwnF W B v bs → OwnF (W.setCell ⟨ob, i, none⟩ u) B v bs := fun W i u h => h.grown (grown_setCell _ _ _) (.inr fun e => hne e.symm)
  exact key _ _ _ (key _ _ _ (key _ _ _ ho))
theorem MBox.put {B : Nat} {w W : World} {ob : Nat} {t : MapT} {s : Option Addr} {c : Nat} {bs : List Nat} {a b d : Value} (hb : Below B w W) (hx : BoxN W ob #[a, b, d] 32) (ho : OwnF W B (.slice s bs.length c) bs) (hne : some ob ≠ (Value.slice s bs.length c).ownBlock) (hob : B ≤ ob) (hc : bs.map fl = t.L) :
    MBox B w (((W.setCell ⟨ob, 0, none⟩ (.int .i64 t.a)).setCell ⟨ob, 1, none⟩ (.int .i64 t.b)).setCell ⟨ob, 2, none⟩ (.slice s bs.length c)) ob t s c bs := by
  refine ⟨below_setMM hb hob _ _ _, ?_, own_setMM ho hne _ _ _, hne, hob, hc⟩
  have h3 := ((hx.set 0 (.int .i64 t.a)).set 1 (.int .i64 t.b)).set 2 (.slice s bs.length c)
  simpa using h3
theorem mapT_len (j : JobX) (p q : Tri) (xs ys : List Nat) : (mapT j p q xs ys).L.length ≤ 576 := by
  unfold mapT
  cases hg : j.ok && pairV p q
  · simp [noMap]
  · rw [Bool.and_eq_true] at hg
    obtain ⟨wd, hi, k, t1, t2, t3, t4, t5, hvv, e1, e2, e3, hpr⟩ := job_right xs ys hg.1 hg.2
    obtain ⟨hN, d1, d2, d3, d4, d5, d6, d7, d8⟩ := vVol_picE hvv
    have h576 : hi * wd ≤ 576 := by rw [Nat.mul_comm]; omega
    rw [if_pos rfl, e1, e2, e3, Int.toNat_natCast, Int.toNat_natCast, Int.toNat_natCast]
    cases j.solve
    · rw [if_neg (by simp)]
      unfold wonT
      dsimp only
      rw [tab_length]; exact h576
    · rw [if_pos rfl]
      unfold rowsT
      split
      · dsimp only
        rw [tab_length]; exact h576
      · simp [noMap]
end

end Go.Proofs.YtabbjilgpfnacaaGreat
