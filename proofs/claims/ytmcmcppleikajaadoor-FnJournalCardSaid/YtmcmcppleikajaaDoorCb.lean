/- What a law of journals draws: one of some texts, a map. -/
import Derived.Test.YtmcmcppleikajaaDoorKb
namespace Go.Proofs.YtmcmcppleikajaaDoor
open Go.RowKit
set_option maxRecDepth 100000
set_option linter.unusedVariables false
set_option linter.unusedSimpArgs false

/-- One of some texts. -/
theorem text_any (w : World) {L : Nat} (sb U b n c : Nat) (T : Nat → ByteArray) (h1 : 1 ≤ n) (h2 : n ≤ 200) (hc : ∀ i, i < n → w.cell? ⟨b, i, none⟩ = some (.string (T i))) (hb : b ≠ sb) (h : SrcOk w L sb U) (hU : U < 4611686018427387000) :
    Calls Tryd.prog 25 #[.pointer (some ⟨sb, 0, none⟩), .slice (some ⟨b, 0, none⟩) n c] w fun e w' => ∃ k, k < n ∧ e = .returned (.string (T k)) ∧ Drew L sb (U + 2) w w' := by
  have hl : (1 : Int) ≤ (n : Int) := by omega
  go_enter Tryd.func25, Tryd.ntmps25
  go_wp2_with fail
  refine (pick_any _ _ _ _ hl (by omega) h (by omega)).mono ?_
  rintro e w1 ⟨x, rfl, hx0, hx1, hd⟩
  obtain ⟨k, rfl⟩ := Int.eq_ofNat_of_zero_le hx0
  have hk : k < n := by omega
  have hz' : w1.cell? ⟨b, k, none⟩ = some (.string (T k)) := hd.grown.cell (hc k hk) (by simpa using hb)
  go_wp2
  go_ret
  exact ⟨k, hk, rfl, hd⟩

/-- A map that is drawn: its sizes alone. -/
def MakesDM (L sb U : Nat) (wd hi : Nat) (w : World) (e : Ending) (w' : World) : Prop :=
  ∃ (q c : Nat), e = .returned (.agg #[.int .i64 wd, .int .i64 hi, .slice (some ⟨q, 0, none⟩) (wd * hi : Nat) c]) ∧ Drew L sb U w w'

theorem six_lt : ∀ k : Nat, k < 6 → floatOfInt .f32 (k : Int) < 4294967296 := by
  have h : ∀ k : Fin 6, floatOfInt .f32 (k.val : Int) < 4294967296 := by decide +kernel
  intro k hk; exact h ⟨k, hk⟩
theorem six_some : ∀ k j : Nat, k < 6 → j < 4 → ∃ r, floatBits .add .f32 (floatOfInt .f32 (k : Int)) (qt j) = some r ∧ r < 4294967296 := by
  have h : ∀ (k : Fin 6) (j : Fin 4), (match floatBits .add .f32 (floatOfInt .f32 (k.val : Int)) (qt j.val) with | some r => decide (r < 4294967296) | none => false) = true := by decide +kernel
  intro k j hk hj
  have := h ⟨k, hk⟩ ⟨j, hj⟩
  revert this
  show (match floatBits .add .f32 (floatOfInt .f32 (k : Int)) (qt j) with | some r => decide (r < 4294967296) | none => false) = true → _
  cases floatBits .add .f32 (floatOfInt .f32 (k : Int)) (qt j) with
  | none => intro h; cases h
  | some r => intro h; exact ⟨r, rfl, of_decide_eq_true h⟩

abbrev DMSt (w wr : World) (L sb U wd hi : Nat) (v : Value) (bs : List Nat) : Prop := GenSt w wr L w.heap.size sb (w.heap.size + 1) U 2 #[.int .i64 0, .int .i64 0, .slice none 0 0] #[.int .i64 wd, .int .i64 hi, v] 30 v bs

theorem DMSt.draw {w wr w' : World} {L sb U V wd hi : Nat} {v : Value} {bs : List Nat} (h : DMSt w wr L sb U wd hi v bs) (hd : Drew L sb V wr w') : DMSt w w' L sb V wd hi v bs :=
  ⟨grown_trans h.bel hd.grown, hd.ok, h.hL, h.res.grown hd.grown (by simpa using h.ne1), h.box.grown hd.grown (by simpa using Ne.symm h.ne3), rfl, h.own.grown hd.grown h.fars, h.far, h.obf, h.rbf, h.ne1, h.ne2, h.ne3⟩

theorem DMSt.end {w wz : World} {L sb V V2 wd hi : Nat} {v : Value} {bs : List Nat} (h : DMSt w wz L sb V wd hi v bs) (hV : V ≤ V2) (x y z : Value) : Drew L sb V2 w (((wz.setCell ⟨w.heap.size, 0, none⟩ x).setCell ⟨w.heap.size, 1, none⟩ y).setCell ⟨w.heap.size, 2, none⟩ z) := by
  have g3 : ∀ k, some w.heap.size = some k → w.heap.size ≤ k := fun k hk => by injection hk with e; omega
  have hL := h.hL
  refine ⟨?_, grown_new (grown_new (grown_new h.bel (grown_setCell _ _ _) g3) (grown_setCell _ _ _) g3) (grown_setCell _ _ _) g3⟩
  exact ((((h.src.grown (grown_setCell _ _ _) (by simpa using Ne.symm h.ne1) (fun k hk => Nat.le_trans hL (g3 k hk))).grown (grown_setCell _ _ _) (by simpa using Ne.symm h.ne1) (fun k hk => Nat.le_trans hL (g3 k hk))).grown (grown_setCell _ _ _) (by simpa using Ne.symm h.ne1) (fun k hk => Nat.le_trans hL (g3 k hk)))).mono hV
theorem DMSt.put {w wr : World} {L sb U wd hi q n c : Nat} {bs : List Nat} (h : DMSt w wr L sb U wd hi (.slice (some ⟨q, 0, none⟩) n c) bs) (i : Nat) {r : Nat} (hr : r < 4294967296) : DMSt w (wr.setCell ⟨q, i, none⟩ (.float .f32 r)) L sb U wd hi (.slice (some ⟨q, 0, none⟩) n c) (bs.set i r) := by
  have hq := (h.own.lt (k := q) rfl).1
  have hf := h.far q rfl
  have hL := h.hL
  have g := grown_setCell wr ⟨q, i, none⟩ (.float .f32 r)
  have ne : ∀ k, q ≠ k → some k ≠ some q := fun k hk e => by injection e with e; exact hk e.symm
  exact ⟨grown_new h.bel g (fun k hk => by injection hk with hk; have hk2 : q = k := hk; omega), h.src.grown g (ne _ hf.2.1) (fun k hk => by injection hk with hk; have hk2 : q = k := hk; omega), hL, h.res.grown g (ne _ hf.1), h.box.grown g (ne _ hf.2.2), rfl, h.own.put i hr, h.far, h.obf, h.rbf, h.ne1, h.ne2, h.ne3⟩

set_option maxHeartbeats 4000000 in
theorem l03DrawMapOf_any (w : World) {L : Nat} (sb U wd hi : Nat) (h1 : 1 ≤ wd) (h2 : wd ≤ 24) (h3 : 1 ≤ hi) (h4 : hi ≤ 24) (hs : SrcOk w L sb U) (hL : L ≤ w.heap.size) (hU : U < 4611686018427000000) :
    Calls Tryd.prog 29 #[.pointer (some ⟨sb, 0, none⟩), .int .i64 wd, .int .i64 hi] w (MakesDM L sb (U + 8000) wd hi w) := by
  obtain ⟨i0, hi0, hz0, hz1, hz2⟩ := info_parts info_f32
  have hslt := hs.lt
  obtain ⟨N, hN⟩ : ∃ N, N = wd * hi := ⟨_, rfl⟩
  have hm : (wd : Int) * (hi : Int) = (N : Int) := by rw [← Int.natCast_mul, hN]
  have hN24 : N ≤ 576 := by rw [hN]; exact (show wd * hi ≤ 24 * 24 from Nat.mul_le_mul h2 h4)
  have hN1 : 1 ≤ N := by rw [hN]; exact Nat.mul_pos h1 h3
  have hwr : IntKind.i64.wrap ((wd : Int) * (hi : Int)) = (N : Int) := by rw [hm]; exact IntWalk.i64_in _ (by omega)
  obtain ⟨W0, hW0⟩ : ∃ W0, W0 = (w.alloc (.cells #[.int .i64 0, .int .i64 0, .slice none 0 0] 30)).alloc (.cells #[.int .i64 wd, .int .i64 hi, .slice none 0 0] 30) := ⟨_, rfl⟩
  have hb0 : Below w.heap.size w W0 := by rw [hW0]; exact below_two w _ _
  have hsz : W0.heap.size = w.heap.size + 2 := by rw [hW0]; simp
  have start : DMSt w W0 L sb U wd hi (.slice none 0 0) [] := by
    refine ⟨grown_below hb0 _, hs.below hb0, hL, by rw [hW0]; exact BoxN.first w _ _ _, by rw [hW0]; exact BoxN.second w _ _ _, rfl, ⟨World.ownsRow_nil _ _ _ _, by simp⟩, fun g hg => by simp [Value.ownBlock] at hg, by omega, Nat.le_refl _, by omega, by omega, by omega⟩
  have HS0 := Lib.hid start
  have HW0 := Lib.hid hW0
  have HN := Lib.hid hN
  unfold MakesDM
  rw [← hN]
  clear hN hm hW0 start hs hb0
  go_enter Tryd.func29, Tryd.ntmps29
  go_wp2_with fail
  rw [← HW0.out]
  go_loopw [8] (fun v8 wr => ∃ (i : Nat) (v : Value) (bs : List Nat), v8 = .int .i64 i ∧ i ≤ N ∧ bs.length = i ∧ DMSt w wr L sb (U + 6 * i) wd hi v bs) (fun v8 _ => N - (intOf v8).toNat)
  case atStart => exact ⟨0, _, [], rfl, Nat.zero_le _, rfl, HS0.out⟩
  case round =>
    clear HS0
    obtain ⟨i, v, bs, rfl, hi', hbl, hst⟩ := hrel
    obtain ⟨c0, c1, c2, f0, f1, f2⟩ := hst.box.three.cells
    by_cases hlt : i < N
    · have hltI : (i : Int) < (N : Int) := by omega
      have HS := Lib.hid hst
      have HL := Lib.hid hbl
      have hdm := hst.src
      clear hst hbl
      go_wp2_with fail
      refine (pick_any _ _ _ 6 (by omega) (by omega) hdm (by omega)).mono ?_
      rintro e w2 ⟨kz, rfl, k0, k1, hd2⟩
      obtain ⟨k, rfl⟩ := Int.eq_ofNat_of_zero_le k0
      have hk6 : k < 6 := by omega
      have H6 := Lib.hid (And.intro hk6 hk6)
      have HD2 := Lib.hid hd2
      clear k0 k1 hk6 c0 c1 c2 f0 f1 f2
      go_wp2_with fail
      refine (pick_any _ _ _ 10 (by omega) (by omega) HD2.out.ok (by omega)).mono ?_
      rintro e w3 ⟨az, rfl, a0, a1, hd3⟩
      obtain ⟨a, rfl⟩ := Int.eq_ofNat_of_zero_le a0
      have HD3 := Lib.hid (HD2.out.trans hd3)
      have ha0 : ((a : Int) == 0) = decide (a = 0) := by rw [Bool.eq_iff_iff, beq_iff_eq, decide_eq_true_eq]; omega
      have ha1 : ((a : Int) == 1) = decide (a = 1) := by rw [Bool.eq_iff_iff, beq_iff_eq, decide_eq_true_eq]; omega
      have hne : some (w.heap.size + 1) ≠ v.ownBlock := fun e => (HS.out.far _ e.symm).2.2 rfl
      have hL9 : bs.length ≤ 576 := by have := HL.out; omega
      have HAP := Lib.hid (fun (ww : World) (r : Nat) (hr : r < 4294967296) (hdd : Drew L sb (U + 6 * (i + 1)) wr ww) => And.intro (HS.out.draw hdd) hr)
      clear a0 a1 hd3
      go_upto_region 11 with fail
      · clear ha0 ha1
        have hdd : Drew L sb (U + 6 * (i + 1)) wr w3 := HD3.out.mono (by omega)
        have hbox1 := HS.out.box.grown hdd.grown (by simpa using Ne.symm HS.out.ne3)
        have c2' := hbox1.three.cells.2.2.1
        have c4 : ∀ o, (w3.alloc o).cell? ⟨w.heap.size + 1, 2, none⟩ = some v := fun o => (hbox1.below (alb_k w3 o)).three.cells.2.2.1
        have hown1 := HS.out.own.grown hdd.grown HS.out.fars
        have hz2' : w.heap.size ≤ w3.heap.size := by have := hdd.grown.size; have := HS.out.bel.size; omega
        have hd0 : ∀ w : World, w.drewN 0 = w := fun _ => rfl
        go_wp2_with (at_builtin; refine wpList_append_lies _ (by rfl) _ _ _ (by rfl) w.heap.size 66 i0 _ 1 4 Tryd.underlying26 hi0 hz0 hz1 hz2 rfl (by omega) v bs.length _ (by rfl) (World.ownsRow.alloc hown1.1 _) ⟨w3.heap.size, 0, none⟩ 1 1 [.float .f32 (3212836864)] (by rfl) (by rfl) (cell_one_new _ _ _) (by simp [Value.oneCell']) (by omega) (by unfold maxLen; omega) (by omega) (by simp; omega) (w3.heap.size + 1) (by simp) ?_; intro gg cap wz hown2 hgrow hat hlt2; obtain ⟨q0, q1, q2, g0, g1, g2⟩ := ((hbox1.below (alb_k w3 _)).grown hgrow hne).three.cells)
        go_roundw
        case rel => exact ⟨i + 1, _, bs ++ [3212836864], by go_num, by omega, by simp [HL.out], HS.out.step hdd (by decide) hown2 hgrow hat⟩
        case measure => simp [intOf]; omega
      · clear ha0 ha1
        refine (pick_any _ _ _ 4 (by omega) (by omega) HD3.out.ok (by omega)).mono ?_
        rintro e w4 ⟨jz, rfl, j0, j1, hd4⟩
        obtain ⟨jj, rfl⟩ := Int.eq_ofNat_of_zero_le j0
        have hj4 : jj < 4 := by omega
        have p1 := fres_some (qt_some jj (by omega))
        have p0 := fdr_some (qt_some jj (by omega))
        obtain ⟨r, hr1, hr2⟩ := six_some k jj H6.out.1 hj4
        have p3 := fres_some hr1
        have p2 := fdr_some hr1
        have HD4 := Lib.hid (HD3.out.trans hd4)
        have HR2 := Lib.hid hr2
        clear j0 j1 hd4 hr1 hr2
        go_upto_region 11 with fail
        have hdd : Drew L sb (U + 6 * (i + 1)) wr w4 := HD4.out.mono (by omega)
        have hbox1 := HS.out.box.grown hdd.grown (by simpa using Ne.symm HS.out.ne3)
        have c2' := hbox1.three.cells.2.2.1
        have c4 : ∀ o, (w4.alloc o).cell? ⟨w.heap.size + 1, 2, none⟩ = some v := fun o => (hbox1.below (alb_k w4 o)).three.cells.2.2.1
        have hown1 := HS.out.own.grown hdd.grown HS.out.fars
        have hz2' : w.heap.size ≤ w4.heap.size := by have := hdd.grown.size; have := HS.out.bel.size; omega
        have hd0 : ∀ w : World, w.drewN 0 = w := fun _ => rfl
        go_wp2_with (at_builtin; refine wpList_append_lies _ (by rfl) _ _ _ (by rfl) w.heap.size 66 i0 _ 1 4 Tryd.underlying26 hi0 hz0 hz1 hz2 rfl (by omega) v bs.length _ (by rfl) (World.ownsRow.alloc hown1.1 _) ⟨w4.heap.size, 0, none⟩ 1 1 [.float .f32 (r)] (by rfl) (by rfl) (cell_one_new _ _ _) (by simp [Value.oneCell']) (by omega) (by unfold maxLen; omega) (by omega) (by simp; omega) (w4.heap.size + 1) (by simp) ?_; intro gg cap wz hown2 hgrow hat hlt2; obtain ⟨q0, q1, q2, g0, g1, g2⟩ := ((hbox1.below (alb_k w4 _)).grown hgrow hne).three.cells)
        go_roundw
        case rel => exact ⟨i + 1, _, bs ++ [r], by go_num, by omega, by simp [HL.out], HS.out.step hdd HR2.out hown2 hgrow hat⟩
        case measure => simp [intOf]; omega
      · clear ha0 ha1
        have hdd : Drew L sb (U + 6 * (i + 1)) wr w3 := HD3.out.mono (by omega)
        have hbox1 := HS.out.box.grown hdd.grown (by simpa using Ne.symm HS.out.ne3)
        have c2' := hbox1.three.cells.2.2.1
        have c4 : ∀ o, (w3.alloc o).cell? ⟨w.heap.size + 1, 2, none⟩ = some v := fun o => (hbox1.below (alb_k w3 o)).three.cells.2.2.1
        have hown1 := HS.out.own.grown hdd.grown HS.out.fars
        have hz2' : w.heap.size ≤ w3.heap.size := by have := hdd.grown.size; have := HS.out.bel.size; omega
        have hd0 : ∀ w : World, w.drewN 0 = w := fun _ => rfl
        go_wp2_with (at_builtin; refine wpList_append_lies _ (by rfl) _ _ _ (by rfl) w.heap.size 66 i0 _ 1 4 Tryd.underlying26 hi0 hz0 hz1 hz2 rfl (by omega) v bs.length _ (by rfl) (World.ownsRow.alloc hown1.1 _) ⟨w3.heap.size, 0, none⟩ 1 1 [.float .f32 (floatOfInt .f32 (k : Int))] (by rfl) (by rfl) (cell_one_new _ _ _) (by simp [Value.oneCell']) (by omega) (by unfold maxLen; omega) (by omega) (by simp; omega) (w3.heap.size + 1) (by simp) ?_; intro gg cap wz hown2 hgrow hat hlt2; obtain ⟨q0, q1, q2, g0, g1, g2⟩ := ((hbox1.below (alb_k w3 _)).grown hgrow hne).three.cells)
        go_roundw
        case rel => exact ⟨i + 1, _, bs ++ [floatOfInt .f32 (k : Int)], by go_num, by omega, by simp [HL.out], HS.out.step hdd (six_lt k H6.out.1) hown2 hgrow hat⟩
        case measure => simp [intOf]; omega
    · obtain rfl : N = i := by omega
      have hlt' : ¬ (N : Int) < (N : Int) := by omega
      obtain ⟨sa, cc, rfl⟩ := hst.own.sl.len
      obtain ⟨q, rfl⟩ := own_ptr_k hst.own (by omega)
      rw [hbl] at hst c2
      have hsrc := hst.src
      have HS := Lib.hid hst
      have HL := Lib.hid hbl
      clear hst hbl c0 c1 c2 f0 f1 f2 hlt
      go_wp2_with fail
      refine (one_any _ _ _ 8 (by omega) (by omega) hsrc (by omega)).mono ?_
      rintro e w5 ⟨b5, rfl, hd5⟩
      have hst := HS.out.draw hd5
      have HS5 := Lib.hid hst
      clear hd5 hsrc
      cases b5
      · obtain ⟨c0, c1, c2, f0, f1, f2⟩ := hst.box.three.cells
        obtain ⟨d0, d1, d2, e0, e1, e2⟩ := hst.res.three.cells
        have rl := hst.res.lt
        clear hst
        go_wp2_with fail
        refine bodyPost_ret (v := .agg #[.int .i64 wd, .int .i64 hi, .slice (some ⟨q, 0, none⟩) N cc]) (by simp [results, Tryd.results29, go_sem, d0, d1, d2, rl]) rfl ?_
        exact ⟨q, cc, rfl, HS5.out.end (by omega) _ _ _⟩
      · obtain ⟨c0, c1, c2, f0, f1, f2⟩ := hst.box.three.cells
        have hd0 : ∀ w : World, w.drewN 0 = w := fun _ => rfl
        have KPK := Lib.hid (pick_any w5.drew sb _ N (by omega) (by omega) (hst.src.drewN 1) (by omega))
        have HS6 := Lib.hid (hst.draw (Drew.drewN (Drew.refl hst.src) 1))
        have HNL := Lib.hid (show ∀ bs' : List Nat, True from fun _ => trivial)
        clear hst
        go_wp2_with fail
        go_region_held3 (fun W => W.cell? ⟨w.heap.size + 1, 2, none⟩ = some (.slice (some ⟨q, 0, none⟩) N cc))
          (first | exact b38 | exact b37 | exact c2 | exact (HS8.out.put zz hrr).box.three.cells.2.2.1 | go_keep)
          ((first
            | (go_at_call 11; (with_reducible refine KPK.out.mono ?_); rintro e w7 ⟨zi, rfl, zi0, zi1, hd7⟩; obtain ⟨zz, rfl⟩ := Int.eq_ofNat_of_zero_le zi0; have zzM : (zz : Int) < (N : Int) := (by omega); have zzN : zz < N := (by omega); have hs7 := HS6.out.draw hd7; have b37 := hs7.box.three.cells.2.2.1; have HS7 := Lib.hid hs7; have KDF := Lib.hid (drawFloat_any w7 sb _ hs7.src (by omega)); clear hs7 hd7)
            | (go_at_call 41; (with_reducible refine KDF.out.mono ?_); rintro e w8 ⟨rr, rfl, hrr, hd8⟩; have hs8 := HS7.out.draw hd8; have b38 := hs8.box.three.cells.2.2.1; have ff := OwnF.freeK hs8.own zz; have cq := (hs8.own.sl.cellAtK zz (by rw [HL.out]; exact zzN)); have HS8 := Lib.hid hs8; clear hs8 hd8)))
        all_goals
          have HSP := Lib.hid (HS8.out.put zz hrr)
          obtain ⟨r0, r1, r2, r3, r4, r5⟩ := HSP.out.res.three.cells
          obtain ⟨x0, x1, x2, -, -, -⟩ := HSP.out.box.three.cells
          have r6l := HSP.out.res.lt
          generalize w8.setCell ⟨q, zz, none⟩ (.float .f32 rr) = w9 at *
          go_wp2_with fail
          refine bodyPost_ret (v := .agg #[.int .i64 wd, .int .i64 hi, .slice (some ⟨q, 0, none⟩) N cc]) (by simp [results, Tryd.results29, go_sem, r0, r1, r2, r6l]) rfl ?_
          exact ⟨q, cc, rfl, HSP.out.end (by omega) _ _ _⟩

end Go.Proofs.YtmcmcppleikajaaDoor
