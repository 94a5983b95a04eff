/- The reference's windows of a picture, by words. -/
import Derived.Test.YtabbjilgpfnacaaEi
namespace Go.Proofs.Ytabbjilgpfnacaa
open Go.RowKit Ieee
set_option maxRecDepth 100000
set_option linter.unusedVariables false
set_option linter.unusedSimpArgs false

set_option maxHeartbeats 4000000 in
theorem l02BoxE (w : World) (pb wd hi r : Nat) (v : Value) (bs : List Nat) (hw : 1 ≤ wd) (hh : 1 ≤ hi) (hw2 : wd ≤ 24) (hh2 : hi ≤ 24) (hr : r ≤ 3) (h : PicI w pb 0 wd hi v bs) :
    Calls Try.prog 105 #[.pointer (some ⟨pb, 0, none⟩), .int .i64 r] w (MakesPE w wd hi (tab (wd * hi) fun i => boxW (fun i => fl (bs.getD i 0)) wd hi r (i % wd) (i / wd))) := by
  obtain ⟨i0, hi0, hz0, hz1, hz2⟩ := info_parts info_f32
  have hpl := h.lt
  obtain ⟨wA, hwA⟩ : ∃ wA, wA = w.alloc (.cells #[.int .i64 0, .int .i64 0, .slice none 0 0] 34) := ⟨_, rfl⟩
  have hbA : Below w.heap.size w wA := by rw [hwA]; exact (Below.refl _ _).alloc (Nat.le_refl _) _
  have BR : Box3 wA w.heap.size (.int .i64 0) (.int .i64 0) (.slice none 0 0) 34 := by rw [hwA]; exact box_last w _ _ _ _
  have hP := h.below hbA
  have KA := Lib.hid (fun W (hb : Below wA.heap.size wA W) x y => l02At_gen W pb 0 wd hi v bs x y (by omega) (by omega) (by omega) (by omega) (hP.below hb))
  have Z := Lib.hid (fun W (hb : Below wA.heap.size wA W) => (And.intro (hP.below hb).c0 (hP.below hb).c1 : W.cell? ⟨pb, 0, none⟩ = some (.int .i64 wd) ∧ W.cell? ⟨pb, 1, none⟩ = some (.int .i64 hi)))
  have HBL := Lib.hid h.sl.2
  have HWA := Lib.hid hwA
  have HBA := Lib.hid hbA
  have HBR := Lib.hid BR
  have hrl : w.heap.size < wA.heap.size := BR.lt
  have hbd1 : Below wA.heap.size wA wA.drew := below_drewN (Below.refl _ _) 1
  have HF0 : ∀ i, (fun i => fl (bs.getD i 0)) i = fl (bs.getD i 0) := fun _ => rfl
  generalize (fun i => fl (bs.getD i 0)) = F at *
  have HF := Lib.hid HF0
  have hn9 : (2 * r + 1) * (2 * r + 1) ≤ 7 * 7 := Nat.mul_le_mul (by omega) (by omega)
  have hn1 : 1 ≤ (2 * r + 1) * (2 * r + 1) := Nat.mul_pos (by omega) (by omega)
  have hmm : (2 * (r : Int) + 1) * (2 * (r : Int) + 1) = (((2 * r + 1) * (2 * r + 1) : Nat) : Int) := by simp
  have hm2 : IntKind.i64.wrap ((2 * (r : Int) + 1) * (2 * (r : Int) + 1)) = (((2 * r + 1) * (2 * r + 1) : Nat) : Int) := by rw [hmm]; exact IntWalk.i64_in _ (by omega)
  have hbw : ∀ x y, boxW F wd hi r x y = fop .quo (wnS F wd hi ((x : Int) - r) ((y : Int) - r) (2 * r + 1) (2 * r + 1)) (fl (floatOfInt .f32 (((2 * r + 1) * (2 * r + 1) : Nat) : Int))) := fun _ _ => rfl
  obtain ⟨M, hM⟩ : ∃ M, M = (2 * r + 1) * (2 * r + 1) := ⟨_, rfl⟩
  rw [← hM] at hn9 hn1 hmm hm2 hbw
  obtain ⟨fM, hfM⟩ : ∃ fM, floatOfInt .f32 (M : Int) = fM := ⟨_, rfl⟩
  rw [hfM] at hbw
  have HBW := Lib.hid hbw
  have b0 : 0 ≤ (2 * (r : Int) + 1) * (2 * (r : Int) + 1) := by omega
  have b1 : (2 * (r : Int) + 1) * (2 * (r : Int) + 1) ≤ 49 := by omega
  have HMM := Lib.hid (And.intro hmm (And.intro hm2 (And.intro b0 (And.intro b1 hfM))))
  clear h hP hwA hbA BR HF0 hbw hmm hm2 b0 b1 hM hn9 hn1 hfM
  go_enter Try.func105, Try.ntmps105
  go_upto_region 1 with fail
  rw [← HWA.out]
  go_cut [5] from 12 to 20 (fun v5 wx => ∃ ob g : Nat, v5 = .pointer (some ⟨ob, 0, none⟩) ∧ AccG wA wx ob wd hi (.slice (some ⟨g, 0, none⟩) 0 0) [] [])
  case first =>
    have hbd2 : Below wA.heap.size wA (wA.alloc (.cells #[.int .i64 0, .int .i64 0, .slice none 0 0] 34)).drew := below_drewN ((Below.refl _ _).alloc (Nat.le_refl _) _) 1
    have hbx0 : BoxN (wA.alloc (.cells #[.int .i64 0, .int .i64 0, .slice none 0 0] 34)).drew wA.heap.size #[.int .i64 0, .int .i64 0, .slice none 0 0] 34 := (BoxN.last wA #[.int .i64 0, .int .i64 0, .slice none 0 0] 34).drewN 1
    go_region_held3 (fun W => Below wA.heap.size wA W ∧ W.cell? ⟨pb, 0, none⟩ = some (.int .i64 wd) ∧ W.cell? ⟨pb, 1, none⟩ = some (.int .i64 hi))
      (first | exact ⟨hbc3, Z.out _ hbc3⟩ | exact ⟨hbd1, Z.out _ hbd1⟩ | exact ⟨hbc4, Z.out _ hbc4⟩ | exact ⟨hbd2, Z.out _ hbd2⟩ | exact ⟨((hbc4.setCell (Nat.le_refl _) _).setCell (Nat.le_refl _) _).setCell (Nat.le_refl _) _, Z.out _ (((hbc4.setCell (Nat.le_refl _) _).setCell (Nat.le_refl _) _).setCell (Nat.le_refl _) _)⟩ | exact ⟨hbc3.alloc hbc3.size _, Z.out _ (hbc3.alloc hbc3.size _)⟩ | go_keep)
      ((first | (go_at_call 125; with_reducible refine (l02NewE wA.drew _ _).mono ?_; rintro e w3 ⟨rfl, hown, hb3, hlt3⟩; have hbc3 := hbd1.trans (hb3.mono hbd1.size)) | (go_at_call 125; with_reducible refine (l02NewE (wA.alloc (.cells #[.int .i64 0, .int .i64 0, .slice none 0 0] 34)).drew _ _).mono ?_; rintro e w3 ⟨rfl, hown, hb3, hlt3⟩; have hbc4 := hbd2.trans (hb3.mono hbd2.size); have hbx : BoxN w3 wA.heap.size #[.int .i64 0, .int .i64 0, .slice none 0 0] 34 := hbx0.below hb3; obtain ⟨o0, o1, o2, g0, g1, g2⟩ := hbx.three.cells)))
    all_goals
      go_wp2_with fail
      go_meet
    · exact ⟨w3.heap.size, wA.heap.size + 1, rfl, hbc3.alloc hbc3.size _, BoxN.last w3 _ _, (hown.below (alE w3 _)).mono (Nat.le_succ _), by simp [Value.ownBlock]; have := hlt3; simp at this; omega, hbc3.size, rfl⟩
    · refine ⟨wA.heap.size, wA.heap.size + 1 + 1, rfl, ((hbc4.setCell (Nat.le_refl _) _).setCell (Nat.le_refl _) _).setCell (Nat.le_refl _) _, ?_, ?_, by simp [Value.ownBlock]; omega, Nat.le_refl _, rfl⟩
      · have := ((hbx.set 0 (.int .i64 wd)).set 1 (.int .i64 hi)).set 2 (.slice (some ⟨wA.heap.size + 1 + 1, 0, none⟩) 0 0)
        simpa using this
      · have q := (((hown.grown (grown_setCell _ ⟨wA.heap.size, 0, none⟩ (.int .i64 wd)) (.inr (by simp [Value.ownBlock]; omega))).grown (grown_setCell _ ⟨wA.heap.size, 1, none⟩ (.int .i64 hi)) (.inr (by simp [Value.ownBlock]; omega))).grown (grown_setCell _ ⟨wA.heap.size, 2, none⟩ (.slice (some ⟨wA.heap.size + 1 + 1, 0, none⟩) 0 0)) (.inr (by simp [Value.ownBlock]; omega))).mono (B' := wA.heap.size) (by simp; omega)
        simpa using q
  case rest =>
    obtain ⟨ob, g, rfl, hacc⟩ := hcut
    have HACC := Lib.hid hacc
    clear hacc hbd1
    have wdI : (wd : Int) ≤ 24 := by omega
    have hiI : (hi : Int) ≤ 24 := by omega
    have rI : (r : Int) ≤ 3 := by omega
    obtain ⟨hmm, hm2, b0, b1, hfM⟩ := HMM.out
    go_wp2_with fail
    clear hmm hm2 b0 b1 hfM
    go_loopw [7] (fun v7 wr => ∃ (y : Nat) (v : Value) (cs : List Nat), v7 = .int .i64 y ∧ y ≤ hi ∧ AccG wA wr ob wd hi v cs (tab (y * wd) fun i => boxW F wd hi r (i % wd) (i / wd))) (fun v7 _ => hi - (intOf v7).toNat)
    case atStart => exact ⟨0, _, [], rfl, Nat.zero_le _, by rw [Nat.zero_mul]; exact HACC.out⟩
    case round =>
      clear HACC
      obtain ⟨y, v1, cs, rfl, hy, hacc⟩ := hrel
      obtain ⟨z0, z1⟩ := Z.out _ hacc.bel
      have HACC := Lib.hid hacc
      clear hacc
      by_cases hlt : y < hi
      · go_wp2_with fail
        clear z0 z1
        go_loopw [8] (fun v8 wr => ∃ (x : Nat) (v : Value) (cs : List Nat), v8 = .int .i64 x ∧ x ≤ wd ∧ AccG wA wr ob wd hi v cs (tab (y * wd + x) fun i => boxW F wd hi r (i % wd) (i / wd))) (fun v8 _ => wd - (intOf v8).toNat)
        case atStart => exact ⟨0, v1, cs, rfl, Nat.zero_le _, HACC.out⟩
        case round =>
          clear HACC
          obtain ⟨x, v2, cs2, rfl, hx, hacc⟩ := hrel
          obtain ⟨z0, z1⟩ := Z.out _ hacc.bel
          have HS := Lib.hid hacc
          clear hacc
          by_cases hlx : x < wd
          · go_wp2_with fail
            clear z0 z1
            obtain ⟨wo, hwo⟩ : ∃ wo, wo = wr := ⟨_, rfl⟩
            rw [← hwo] at HS
            have HWO := Lib.hid hwo
            go_loopw [9, 10] (fun v9 v10 wr => ∃ j n sw : Nat, v9 = .float .f32 sw ∧ fl sw = wnS F wd hi ((x : Int) - r) ((y : Int) - r) (2 * r + 1) j ∧ v10 = .int .i64 ((y : Int) - r + j) ∧ j ≤ 2 * r + 1 ∧ wr = wo.drewN n) (fun _ v10 _ => ((y : Int) + r + 1 - intOf v10).toNat)
            case atStart => exact ⟨0, 0, 0, rfl, rfl, by simp, Nat.zero_le _, hwo.symm⟩
            case round =>
              clear hwo
              obtain ⟨j, n, sw, rfl, hsw, rfl, hj, rfl⟩ := hrel
              have HSW := Lib.hid hsw
              clear hsw
              by_cases hlt : j < 2 * r + 1
              · have c1 : (y : Int) - r + j ≤ (y : Int) + r := by omega
                go_wp2_with fail
                go_loopw [9, 11] (fun v9 v11 wr => ∃ i n sv : Nat, v9 = .float .f32 sv ∧ fl sv = rwS F wd hi ((x : Int) - r) ((y : Int) - r + j) (wnS F wd hi ((x : Int) - r) ((y : Int) - r) (2 * r + 1) j) i ∧ v11 = .int .i64 ((x : Int) - r + i) ∧ i ≤ 2 * r + 1 ∧ wr = wo.drewN n) (fun _ v11 _ => ((x : Int) + r + 1 - intOf v11).toNat)
                case atStart => exact ⟨0, n, sw, rfl, HSW.out, by simp, Nat.zero_le _, rfl⟩
                case round =>
                  obtain ⟨i, n, sv, rfl, hsv, rfl, hi_, rfl⟩ := hrel
                  have HSV := Lib.hid hsv
                  clear hsv
                  by_cases hlt2 : i < 2 * r + 1
                  · have c2 : (x : Int) - r + i ≤ (x : Int) + r := by omega
                    have KAn := Lib.hid (KA.out (wo.drewN n) (below_drewN HS.out.bel n) ((x : Int) - r + i) ((y : Int) - r + j))
                    have HFi := Lib.hid (HF.out (ix ((x : Int) - r + i) ((y : Int) - r + j) wd hi))
                    generalize bs.getD (ix ((x : Int) - r + i) ((y : Int) - r + j) wd hi) 0 = s2 at *
                    go_wp2_with fail
                    refine KAn.out.mono ?_
                    rintro e w' ⟨rfl, m, rfl⟩
                    go_wp2
                    go_roundw
                    case rel => exact ⟨i + 1, _, _, rfl, by rw [fl_fres, HSV.out, ← HFi.out]; rfl, by go_num, by omega, rfl⟩
                    case measure => simp [intOf]; omega
                  · obtain rfl : i = 2 * r + 1 := by omega
                    have c2 : ¬ (x : Int) - r + ((2 * r + 1 : Nat) : Int) ≤ (x : Int) + r := by omega
                    go_wp2
                    go_roundw
                    case rel => exact ⟨j + 1, n, sv, rfl, by rw [HSV.out]; rfl, by go_num, by omega, rfl⟩
                    case measure => simp [intOf]; omega
              · obtain rfl : j = 2 * r + 1 := by omega
                have c2 : ¬ (y : Int) - r + ((2 * r + 1 : Nat) : Int) ≤ (y : Int) + r := by omega
                have hbel := HS.out.bel
                have hown := HS.out.own
                have hne := HS.out.ne
                have hbox := HS.out.box
                have hL : cs2.length ≤ 600 := by
                  have h1 : y * wd ≤ 24 * 24 := Nat.mul_le_mul (by omega) hw2
                  have := congrArg List.length HS.out.con
                  rw [List.length_map, tab_length] at this
                  omega
                have hB := hbox.lt
                have hBs := hbel.size
                have o2 := hbox.cell 2
                have o2 : wo.cell? ⟨ob, 2, none⟩ = some v2 := o2
                go_wp2_with (at_builtin; refine wpList_append_lies _ (by rfl) _ _ _ (by rfl) wA.heap.size 44 i0 _ 1 4 Try.underlying22 hi0 hz0 hz1 hz2 rfl (by omega) v2 cs2.length _ (by rfl) (World.ownsRow.alloc (hown.below (below_drewN (Below.refl wo.heap.size wo) _)).1 _) ⟨wo.heap.size, 0, none⟩ 1 1 [.float .f32 _] (by rfl) (by rfl) (cell_one_new _ _ _) (by simp [Value.oneCell']) (by omega) (by unfold maxLen; omega) (by omega) (by simp; omega) (wo.heap.size + 1) (by simp) ?_; intro gg cap w2 hown2 hgrow hat hlt2; have hq := (((hbox.below (below_drewN (Below.refl wo.heap.size wo) _)).below (alE _ _)).grown hgrow hne); have q2 := hq.cell 2; have g2 := hq.free 2)
                go_roundw
                case rel =>
                  have hst := HS.out.step (z := boxW F wd hi r x y) (below_drewN (Below.refl _ _) _) (fres_lt _ _ _ _) (by rw [fl_fres, HSW.out, HBW.out]) hown2 hgrow hat
                  have e1 : (y * wd + x) % wd = x := by rw [Nat.mul_comm, Nat.mul_add_mod, Nat.mod_eq_of_lt hlx]
                  have e2 : (y * wd + x) / wd = y := by rw [Nat.mul_comm, Nat.mul_add_div (by omega), Nat.div_eq_of_lt hlx, Nat.add_zero]
                  have e3 : boxW F wd hi r x y = (fun i => boxW F wd hi r (i % wd) (i / wd)) (y * wd + x) := by show _ = boxW F wd hi r ((y * wd + x) % wd) ((y * wd + x) / wd); rw [e1, e2]
                  rw [e3, ← tab_succ] at hst
                  exact ⟨x + 1, _, cs2 ++ [_], by go_num, by omega, hst⟩
                case measure => simp [intOf]; omega
          · obtain rfl : wd = x := by omega
            go_wp2_with fail
            go_roundw
            case rel => exact ⟨y + 1, v2, cs2, by go_num, by omega, by rw [Nat.add_mul, Nat.one_mul]; exact HS.out⟩
            case measure => simp [intOf]; omega
      · obtain rfl : hi = y := by omega
        have hob := HACC.out.own
        have hcon := HACC.out.con
        obtain ⟨va, vc, rfl⟩ := hob.sl.len
        have hl : cs.length = wd * hi := by have := congrArg List.length hcon; rwa [List.length_map, tab_length, Nat.mul_comm] at this
        obtain ⟨q', rfl⟩ := own_ptrE hob (by rw [hl]; exact Nat.mul_pos (by omega) (by omega))
        obtain ⟨c0, c1, c2⟩ : wr.cell? ⟨ob, 0, none⟩ = some (.int .i64 wd) ∧ wr.cell? ⟨ob, 1, none⟩ = some (.int .i64 hi) ∧ wr.cell? ⟨ob, 2, none⟩ = some (.slice (some ⟨q', 0, none⟩) cs.length vc) := ⟨HACC.out.box.cell 0, HACC.out.box.cell 1, HACC.out.box.cell 2⟩
        have hbr := HBR.out.below HACC.out.bel
        obtain ⟨e0, e1, e2, f0, f1, f2⟩ := hbr.cells
        have hlt2 := hbr.lt
        have hob1 := HACC.out.box.lt
        have HOB := Lib.hid (And.intro hob (And.intro hcon HACC.out.bel))
        rw [hl] at c2
        have HLL := Lib.hid hl
        clear hob hcon hbr hl
        go_wp2_with fail
        refine bodyPost_ret (v := .agg #[.int .i64 wd, .int .i64 hi, .slice (some ⟨q', 0, none⟩) (wd * hi) vc]) (by simp [results, Try.results105, go_sem, e0, e1, e2, hlt2]) rfl ?_
        have hbb := HBA.out.trans (HOB.out.2.2.mono HBA.out.size)
        have hoo := HOB.out.1
        rw [HLL.out] at hoo
        have hcc := HOB.out.2.1
        rw [Nat.mul_comm] at hcc
        exact ⟨q', vc, cs, rfl, (own_set3 hoo hrl _ _ _).mono HBA.out.size, HLL.out, hcc, below_set3 hbb (Nat.le_refl _) _ _ _⟩

end Go.Proofs.Ytabbjilgpfnacaa
