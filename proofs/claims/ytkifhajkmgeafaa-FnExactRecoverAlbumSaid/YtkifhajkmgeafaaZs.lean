/- The reference recovers an album of any text. -/
import Derived.Test.YtkifhajkmgeafaaZr
import Derived.Test.YtkifhajkmgeafaaZf
namespace Go.Proofs.Ytkifhajkmgeafaa
open Go.RowKit
set_option maxRecDepth 100000
set_option linter.unusedVariables false
set_option linter.unusedSimpArgs false

theorem OwnA.empty {w : World} {B g : Nat} (hB : B ≤ g) (h : w.heap[g]? = some (.cells #[] 41 (0, 0))) : OwnA w B (.slice (some ⟨g, 0, none⟩) 0 0) [] :=
  ⟨⟨rfl, .inr ⟨g, 0, #[], rfl, hB, h, Nat.le_refl _, by unfold maxLen; omega, rfl, rfl⟩⟩, by simp, by simp, by simp⟩

set_option maxHeartbeats 4000000 in
theorem srec_any (w : World) (s : ByteArray) (hs : s.size ≤ 1500000) : Calls Try.prog 45 #[.string s] w (RecPost w s) := by
  obtain ⟨i0, hi0, hz0, hz1, hz2⟩ := info_parts info_pic
  obtain ⟨wA, hwA⟩ : ∃ wA, wA = w.alloc (.cells #[.slice none 0 0] 26) := ⟨_, rfl⟩
  have hbA : Below w.heap.size w wA := by rw [hwA]; exact (Below.refl _ _).alloc (Nat.le_refl _) _
  have hR : BoxN wA w.heap.size #[.slice none 0 0] 26 := by rw [hwA]; exact BoxN.last w _ _
  have hsA : wA.heap.size = w.heap.size + 1 := by rw [hwA]; simp
  obtain ⟨wB, hwB⟩ : ∃ wB, wB = wA.alloc (.cells #[] 41) := ⟨_, rfl⟩
  have hbB : Below wA.heap.size wA wB := by rw [hwB]; exact (Below.refl _ _).alloc (Nat.le_refl _) _
  have hsB : wB.heap.size = wA.heap.size + 1 := by rw [hwB]; simp
  have hEB : wB.heap[wA.heap.size]? = some (.cells #[] 41 (0, 0)) := by rw [hwB]; exact heap_alloc_new wA _
  have hbC : Below wB.heap.size wB (wB.alloc (.cells #[.slice (some ⟨wA.heap.size, 0, none⟩) 0 0] 26)) := (Below.refl _ _).alloc (Nat.le_refl _) _
  have hacc : AccA wA (wB.alloc (.cells #[.slice (some ⟨wA.heap.size, 0, none⟩) 0 0] 26)) wB.heap.size (.slice (some ⟨wA.heap.size, 0, none⟩) 0 0) [] :=
    ⟨hbB.trans (hbC.mono hbB.size), BoxN.last wB _ _, OwnA.empty (Nat.le_refl _) (by rw [hbC.block _ (by omega)]; exact hEB), by simp [Value.ownBlock]; omega, by simp, by omega⟩
  obtain ⟨ob, hob⟩ : ∃ ob, ob = wB.heap.size := ⟨_, rfl⟩
  rw [← hob, hsA] at hacc
  have HOB := Lib.hid hob
  have KL := Lib.hid (fun W a (ha : a ≤ s.size) => begin_any W s a ha hs)
  have KF := Lib.hid (fun W pb wd hi q c n bs (a : Nat) (h1 : bs.length = n) (h2 : wd < 256) (h3 : hi < 256) (h4 : n ≤ 600) h5 h6 => s07Frame_any W pb wd hi q c n bs (s.extract 0 a) (by rw [ByteArray.size_extract]; omega) h1 h2 h3 h4 h5 h6)
  have HR := Lib.hid (And.intro hbA hR)
  have HACC := Lib.hid hacc
  have HWA := Lib.hid hwA
  have HWB := Lib.hid hwB
  have HSA := Lib.hid hsA
  have HSB := Lib.hid hsB.symm
  clear hbA hR hacc hwA hwB hbB hEB hbC hsB
  go_enter Try.func45, Try.ntmps45
  go_wp2_with fail
  rw [← HWA.out, ← HWB.out, show w.heap.size + 1 + 1 = ob by rw [hob, ← HSB.out, hsA]]
  clear hsA hob
  go_loopw [5] (fun v5 wr => ∃ (k : Nat) (v : Value) (xs : List PicX), k ≤ 8 ∧ xs.length = k ∧ (recG s k).1.length = k ∧ v5 = .int .i64 ((recG s k).2 : Nat) ∧ Sames (xs.map PicX.p) (recG s k).1 ∧ AccA wA wr ob v xs) (fun v5 _ => s.size - (intOf v5).toNat)
  case atStart => exact ⟨0, _, [], by omega, rfl, rfl, rfl, .nil, HACC.out⟩
  case round =>
    clear HACC
    obtain ⟨k, v, xs, hk8, hxl, hkl, rfl, hsm, hacc⟩ := hrel
    obtain ⟨sa, sc, rfl, hc1, hc2⟩ := hacc.own.form
    rw [hxl] at hacc hc1
    have hsound := recG_sound s k
    obtain ⟨A, hA⟩ : ∃ A, (recG s k).2 = A := ⟨_, rfl⟩
    have hAs : A ≤ s.size := by rw [← hA]; exact hsound.2.1
    have c0 : wr.cell? ⟨ob, 0, none⟩ = some (.slice sa k sc) := hacc.box.cell 0
    rw [hA] at ⊢
    have HAC := Lib.hid hacc
    have HS := Lib.hid (And.intro hxl (And.intro hkl (And.intro hsm (And.intro hsound hA))))
    have hAI : (A : Int) ≤ (s.size : Int) := by omega
    have hA0 : (0 : Int) ≤ (A : Int) := by omega
    clear hacc hsm hsound hA hxl hkl
    by_cases hlt : k < 8
    · have hltI : (k : Int) < 8 := by omega
      obtain ⟨r, hr⟩ : ∃ r, s.extract A s.size = r := ⟨_, rfl⟩
      have HRR := Lib.hid hr
      have KLA := Lib.hid (KL.out wr A hAs)
      go_wp2_with fail
      clear c0
      refine KLA.out.mono ?_
      rintro e w1 ⟨hb1, h | h⟩
      · rw [hr] at h
        obtain ⟨hno, a, b, s2, n2, c2, kk, rfl⟩ := h
        obtain ⟨WX, hWX⟩ : ∃ W, W = (w1.alloc (.cells #[.int .i64 a, .int .i64 b, .slice s2 n2 c2] 41)) := ⟨_, rfl⟩
        have hbX : Below wr.heap.size wr WX := by rw [hWX]; exact hb1.alloc hb1.size _
        have hac1 := HAC.out.below hbX
        have hstop : (recG s k).1.length = k → recS s (recG s k).2 = false := fun _ => by
          rw [HS.out.2.2.2.2]; unfold recS; simp only [HRR.out, hno, Bool.false_and]
        have hst := recG_stop (s := s) (k := k) (m := 8) hk8 hstop
        have HWX := Lib.hid hWX
        have HAC1 := Lib.hid hac1
        have HST := Lib.hid hst
        clear hbX hno hb1 hr hac1 hst hstop hWX
        go_upto_region 5 with fail
        rw [← HWX.out]
        go_quiet (fail)
        have hacX := HAC1.out.below (below_drewN (Below.refl _ _) nq)
        have hRX := HR.out.2.below hacX.bel
        have rr := hRX.cell 0
        have rf := hRX.free 0
        have c0 := hacX.box.cell 0
        have hRl := hRX.lt
        have hfin : RecPost w s (.returned (.tuple #[.agg #[.slice sa k sc], .int .i64 (A : Int)])) ((WX.drewN nq).setCell ⟨w.heap.size, 0, none⟩ (.slice sa k sc)) := by
          refine ⟨_, xs, by rw [HST.out, HS.out.2.2.2.2], ?_, by rw [HST.out]; exact HS.out.2.2.1, ?_⟩
          · have h1 := (hacX.own.set (a := ⟨w.heap.size, 0, none⟩) (by show w.heap.size < _; rw [HSA.out]; omega) (.slice sa k sc)).mono (B' := w.heap.size) (by rw [HSA.out]; omega)
            exact h1
          · exact (HR.out.1.trans (hacX.bel.mono HR.out.1.size)).setCell (p := ⟨w.heap.size, 0, none⟩) (Nat.le_refl _) _
        have HFIN := Lib.hid hfin
        have rr2 : WX.cell? ⟨w.heap.size, 0, none⟩ = some (.slice none 0 0) := rr
        have c2 : WX.cell? ⟨ob, 0, none⟩ = some (.slice sa k sc) := c0
        have rf2 : WX.frozen? ⟨w.heap.size, 0, none⟩ = false := rf
        clear hfin hacX hRX rr c0 rf
        go_wp2_with fail
        refine bodyPost_ret (v := .tuple #[.agg #[.slice sa k sc], .int .i64 (A : Int)]) (by simp [results, Try.results45, go_sem, rr2, rf2, hRl]) rfl ?_
        exact HFIN.out
      · rw [hr] at h
        obtain ⟨hyes, q, c, rfl, hown⟩ := h
        have hokr : headS r = true := by unfold okS at hyes; rw [Bool.and_eq_true] at hyes; exact hyes.1
        have hpk := okS_pic hokr
        obtain ⟨d1, d2, d3, d4, d5, d6, d7⟩ := hpk.dims
        rw [picS_len] at d6 d7
        have hdw : hwd r ≤ 24 := d3
        have hdh : hhi r ≤ 24 := d5
        obtain ⟨E, hE⟩ : ∃ E, endS r = E := ⟨_, rfl⟩
        have hE2 : E ≤ 1030 := by rw [← hE]; unfold endS; omega
        have hE6 : 6 ≤ E := by rw [← hE]; unfold endS; omega
        rw [hE]
        obtain ⟨x, hx⟩ : ∃ x : PicX, x = ⟨picS r, q, c⟩ := ⟨_, rfl⟩
        have hxo : OwnF w1 wr.heap.size x.sl x.p.bs := by rw [hx]; unfold PicX.sl; dsimp only; rw [picS_len]; exact hown
        have hxs : x.p.same (picS r) := by rw [hx]; exact ⟨rfl, rfl, rfl⟩
        have hxk : x.p.ok := by rw [hx]; exact hpk
        have hxc : x.cells = [.int .i64 (hwd r : Nat), .int .i64 (hhi r : Nat), .slice (some ⟨q, 0, none⟩) (hwd r * hhi r) c] := by
          rw [hx]; unfold PicX.cells PicX.sl; dsimp only; rw [picS_len]; rfl
        have htxt : (picS r).txt = stoL (hwd r) (hhi r) (picS r).bs := rfl
        have hbl := picS_len r
        have hrcs := fun hle => recS_frame (s := s) (a := A) (by rw [hr]; exact hyes) hle
        rw [hr, hE, htxt] at hrcs
        have HX := Lib.hid (And.intro hxo (And.intro hxs (And.intro hxk (And.intro hxc (And.intro hyes hE)))))
        clear hxo hxs hxk hxc hyes hE hokr hpk d1 d2 d3 d4 d5 hx d7 hr htxt
        generalize (picS r).bs = bs at *
        generalize hwd r * hhi r = n at *
        generalize hwd r = wd at *
        generalize hhi r = hi at *
        obtain ⟨WX, hWX⟩ : ∃ W, W = w1.alloc (.cells #[.int .i64 wd, .int .i64 hi, .slice (some ⟨q, 0, none⟩) n c] 41) := ⟨_, rfl⟩
        have hbX : Below wr.heap.size wr WX := by rw [hWX]; exact hb1.alloc hb1.size _
        have hal : Below w1.heap.size w1 WX := by rw [hWX]; exact (Below.refl _ _).alloc (Nat.le_refl _) _
        have hBX : BoxN WX w1.heap.size #[.int .i64 wd, .int .i64 hi, .slice (some ⟨q, 0, none⟩) n c] 41 := by rw [hWX]; exact BoxN.last _ _ _
        have hslX := (hown.below hal).sl
        have HWX := Lib.hid hWX
        clear hWX hown
        by_cases he : A + E + 2 ≤ s.size
        · have he1 : decide ((s.size : Int) < (A : Int) + (E : Int) + 2) = false := decide_eq_false (by omega)
          have he2 : ¬ (s.size : Int) < (A : Int) + (E : Int) + 2 := by omega
          have he10 : (0 : Int) ≤ (A : Int) + (E : Int) + 2 := by omega
          have he6 : ((A : Int) + (E : Int) + 2).toNat = A + E + 2 := by omega
          have he8 : (A : Int) ≤ (A : Int) + (E : Int) + 2 := by omega
          have he9 : A ≤ A + E + 2 := by omega
          have he12 : IntKind.i64.wrap ((A : Int) + (E : Int) + 2) = (A : Int) + (E : Int) + 2 := IntWalk.i64_in _ (by omega)
          have he7 : (A : Int) + (E : Int) + 2 ≤ (s.size : Int) := by omega
          have hv := hrcs he
          obtain ⟨tb, htb⟩ : ∃ tb : ByteArray, (⟨(stoL wd hi bs ++ ckB ((s.extract 0 A).data.toList ++ stoL wd hi bs)).toArray⟩ : ByteArray) = tb := ⟨_, rfl⟩
          have KFr := Lib.hid (fun W (hW : Below WX.heap.size WX W) => KF.out W w1.heap.size wd hi q c n bs A hbl (by omega) (by omega) (by omega) (hBX.three.below hW) (hslX.below hW))
          rw [htb] at hv KFr
          rw [← ba_beq] at hv
          have hA1 : Below WX.heap.size WX WX.drew := below_drewN (Below.refl _ _) 1
          have HBX := Lib.hid (And.intro hbX (And.intro hBX hal))
          obtain ⟨rc, hrc⟩ : ∃ b, recS s A = b := ⟨_, rfl⟩
          rw [hrc] at hv
          have HRC := Lib.hid hrc
          clear htb hbX hBX hb1 hrc hrcs hslX hal
          go_upto_region 5 with fail
          rw [← HWX.out]
          go_region_held3 (fun W => Below WX.heap.size WX W)
            (first | exact hbS | exact hA1 | go_keep)
            ((go_at_call 71; (with_reducible refine (KFr.out _ hA1).mono ?_); rintro e wS ⟨rfl, hbS1⟩; have hbS := hA1.trans (hbS1.mono hA1.size)))
          have hbR := HBX.out.1.trans (hbS.mono HBX.out.1.size)
          have hacX := HAC.out.below hbR
          cases rc
          · have hstop : (recG s k).1.length = k → recS s (recG s k).2 = false := fun _ => by rw [HS.out.2.2.2.2]; exact HRC.out
            clear HBX hbR hbS hbS1
            have hRX := HR.out.2.below hacX.bel
            have rr : wS.cell? ⟨w.heap.size, 0, none⟩ = some (.slice none 0 0) := hRX.cell 0
            have rf : wS.frozen? ⟨w.heap.size, 0, none⟩ = false := hRX.free 0
            have c0 : wS.cell? ⟨ob, 0, none⟩ = some (.slice sa k sc) := hacX.box.cell 0
            have hRl := hRX.lt
            have hst := recG_stop (s := s) (k := k) (m := 8) hk8 hstop
            have hfin : RecPost w s (.returned (.tuple #[.agg #[.slice sa k sc], .int .i64 (A : Int)])) (wS.setCell ⟨w.heap.size, 0, none⟩ (.slice sa k sc)) := by
              refine ⟨_, xs, by rw [hst, HS.out.2.2.2.2], ?_, by rw [hst]; exact HS.out.2.2.1, ?_⟩
              · have h1 := (hacX.own.set (a := ⟨w.heap.size, 0, none⟩) (by show w.heap.size < _; rw [HSA.out]; omega) (.slice sa k sc)).mono (B' := w.heap.size) (by rw [HSA.out]; omega)
                exact h1
              · exact (HR.out.1.trans (hacX.bel.mono HR.out.1.size)).setCell (p := ⟨w.heap.size, 0, none⟩) (Nat.le_refl _) _
            have HFIN := Lib.hid hfin
            clear hfin hst hRX hacX hstop
            go_wp2_with fail
            refine bodyPost_ret (v := .tuple #[.agg #[.slice sa k sc], .int .i64 (A : Int)]) (by simp [results, Try.results45, go_sem, rr, rf, hRl]) rfl ?_
            exact HFIN.out
          · obtain ⟨p0, p1, p2, -, -, -⟩ := (HBX.out.2.1.below hbS).three.cells
            have c0 : wS.cell? ⟨ob, 0, none⟩ = some (.slice sa k sc) := hacX.box.cell 0
            have hrow : wS.ownsRow wA.heap.size 41 3 (.slice sa k sc) k (pxCells xs) := by
              have := hacX.own.row; rwa [HS.out.1] at this
            have hbox := hacX.box
            have hne := hacX.ne
            have hszS := hacX.bel.size
            have HREC := Lib.hid (recG_go (s := s) (k := k) HS.out.2.1 (by rw [HS.out.2.2.2.2]; exact HRC.out))
            have HSTEP := Lib.hid (fun gg cap w2 h1 h2 h3 => HAC.out.stepk (w1 := wS) (w2 := w2) (gg := gg) (cap := cap) (T := 41) HS.out.1 hbR ((HX.out.1.below (HBX.out.2.2.trans (hbS.mono HBX.out.2.2.size)))) HX.out.2.2.1 HX.out.2.2.2.1 h1 h2 h3)
            clear hacX hbR
            go_wp2_with (at_builtin; refine wpList_append_lies _ (by rfl) _ _ _ (by rfl) wA.heap.size 41 i0 _ 3 40 Try.underlying24 hi0 hz0 hz1 hz2 rfl (by omega) (.slice sa k sc) k _ (by rfl) (World.ownsRow.alloc hrow _) ⟨wS.heap.size, 0, none⟩ 1 1 [.int .i64 wd, .int .i64 hi, .slice (some ⟨q, 0, none⟩) n c] (by rfl) (by rfl) (cells_new3 _ _ _ _ _) (by simp [Value.oneCell']) (by omega) (by unfold maxLen; omega) (by omega) (by simp; omega) (wS.heap.size + 1) (by simp) ?_; intro gg cap w2 hown2 hgrow hat hlt2; have hbg := (hbox.below ((Below.refl wS.heap.size wS).alloc (Nat.le_refl _) (.cells #[.int .i64 wd, .int .i64 hi, .slice (some ⟨q, 0, none⟩) n c] 41))).grown hgrow hne; have g0 : w2.cell? ⟨ob, 0, none⟩ = some (.slice sa k sc) := hbg.cell 0; have g1 : w2.frozen? ⟨ob, 0, none⟩ = false := hbg.free 0; have g2 := hbg.lt)
            have hnx : nxtS s (recG s k).2 = (picS r, A + E + 2) := by rw [HS.out.2.2.2.2]; unfold nxtS; rw [HRR.out, HX.out.2.2.2.2.2]
            refine ⟨⟨k + 1, _, xs ++ [x], by omega, by simp [HS.out.1], ?_, ?_, ?_, HSTEP.out _ _ _ hown2 hgrow hat⟩, ?_⟩
            · rw [HREC.out]; simp [HS.out.2.1]
            · rw [HREC.out, hnx]; dsimp only; rw [show ((A + E + 2 : Nat) : Int) = (A : Int) + (E : Int) + 2 by omega]
            · rw [HREC.out, hnx, List.map_append]
              exact HS.out.2.2.1.append (.cons HX.out.2.1 .nil)
            · simp [intOf]; omega
        · have he1 : decide ((s.size : Int) < (A : Int) + (E : Int) + 2) = true := decide_eq_true (by omega)
          have he2 : (s.size : Int) < (A : Int) + (E : Int) + 2 := by omega
          have he12 : IntKind.i64.wrap ((A : Int) + (E : Int) + 2) = (A : Int) + (E : Int) + 2 := IntWalk.i64_in _ (by omega)
          have hstop : (recG s k).1.length = k → recS s (recG s k).2 = false := fun _ => by
            rw [HS.out.2.2.2.2]; unfold recS; simp only [HRR.out, HX.out.2.2.2.2.2, decide_eq_false he, Bool.and_false, Bool.false_and]
          have hst := recG_stop (s := s) (k := k) (m := 8) hk8 hstop
          have HBX := Lib.hid hbX
          clear hbX hBX hb1 hal hslX hrcs
          go_upto_region 5 with fail
          rw [← HWX.out]
          go_quiet (fail)
          have hacX := HAC.out.below (HBX.out.trans ((below_drewN (Below.refl _ _) nq).mono HBX.out.size))
          have hRX := HR.out.2.below hacX.bel
          have rr : WX.cell? ⟨w.heap.size, 0, none⟩ = some (.slice none 0 0) := hRX.cell 0
          have rf : WX.frozen? ⟨w.heap.size, 0, none⟩ = false := hRX.free 0
          have c0 : WX.cell? ⟨ob, 0, none⟩ = some (.slice sa k sc) := hacX.box.cell 0
          have hRl : w.heap.size < WX.heap.size := hRX.lt
          have hfin : RecPost w s (.returned (.tuple #[.agg #[.slice sa k sc], .int .i64 (A : Int)])) ((WX.drewN nq).setCell ⟨w.heap.size, 0, none⟩ (.slice sa k sc)) := by
            refine ⟨_, xs, by rw [hst, HS.out.2.2.2.2], ?_, by rw [hst]; exact HS.out.2.2.1, ?_⟩
            · have h1 := (hacX.own.set (a := ⟨w.heap.size, 0, none⟩) (by show w.heap.size < _; rw [HSA.out]; omega) (.slice sa k sc)).mono (B' := w.heap.size) (by rw [HSA.out]; omega)
              exact h1
            · exact (HR.out.1.trans (hacX.bel.mono HR.out.1.size)).setCell (p := ⟨w.heap.size, 0, none⟩) (Nat.le_refl _) _
          have HFIN := Lib.hid hfin
          clear hfin hst hRX hacX hstop
          go_wp2_with fail
          refine bodyPost_ret (v := .tuple #[.agg #[.slice sa k sc], .int .i64 (A : Int)]) (by simp [results, Try.results45, go_sem, rr, rf, hRl]) rfl ?_
          exact HFIN.out
    · have hk9 : k = 8 := by omega
      obtain ⟨WX, hWX⟩ : ∃ W, W = wr := ⟨_, rfl⟩
      rw [← hWX]
      have hacX := HAC.out
      rw [← hWX] at hacX
      clear hWX c0
      have hRX := HR.out.2.below hacX.bel
      have rr : WX.cell? ⟨w.heap.size, 0, none⟩ = some (.slice none 0 0) := hRX.cell 0
      have rf : WX.frozen? ⟨w.heap.size, 0, none⟩ = false := hRX.free 0
      have c0 : WX.cell? ⟨ob, 0, none⟩ = some (.slice sa k sc) := hacX.box.cell 0
      have hRl := hRX.lt
      have hst : recG s 8 = recG s k := by rw [hk9]
      have hfin : RecPost w s (.returned (.tuple #[.agg #[.slice sa k sc], .int .i64 (A : Int)])) (WX.setCell ⟨w.heap.size, 0, none⟩ (.slice sa k sc)) := by
        refine ⟨_, xs, by rw [hst, HS.out.2.2.2.2], ?_, by rw [hst]; exact HS.out.2.2.1, ?_⟩
        · have h1 := (hacX.own.set (a := ⟨w.heap.size, 0, none⟩) (by show w.heap.size < _; rw [HSA.out]; omega) (.slice sa k sc)).mono (B' := w.heap.size) (by rw [HSA.out]; omega)
          exact h1
        · exact (HR.out.1.trans (hacX.bel.mono HR.out.1.size)).setCell (p := ⟨w.heap.size, 0, none⟩) (Nat.le_refl _) _
      have HFIN := Lib.hid hfin
      clear hfin hst hRX hacX hk9
      go_wp2_with fail
      refine bodyPost_ret (v := .tuple #[.agg #[.slice sa k sc], .int .i64 (A : Int)]) (by simp [results, Try.results45, go_sem, rr, rf, hRl]) rfl ?_
      exact HFIN.out

end Go.Proofs.Ytkifhajkmgeafaa
