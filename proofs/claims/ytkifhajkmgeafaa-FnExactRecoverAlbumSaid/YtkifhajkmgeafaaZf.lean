/- recoverAlbum. -/
import Derived.Test.YtkifhajkmgeafaaZd
import Derived.Test.YtkifhajkmgeafaaZe
import Derived.Deep.LoopGhost
namespace Go.Proofs.Ytkifhajkmgeafaa
open Go.RowKit
set_option maxRecDepth 100000
set_option linter.unusedVariables false
set_option linter.unusedSimpArgs false

theorem info_pic : (Try.prog.info? 41).map (fun i => (i.zero, i.size, i.bytes)) = some (some (.agg #[.int .i64 0, .int .i64 0, .slice none 0 0]), 3, 40) := by kernel_rfl

/-- What is recovered of a text. -/
def RecPost (w : World) (s : ByteArray) (e : Ending) (w' : World) : Prop :=
  ∃ v xs, e = .returned (.tuple #[.agg #[v], .int .i64 ((recG s 8).2 : Nat)]) ∧ OwnA w' w.heap.size v xs ∧ Sames (xs.map PicX.p) (recG s 8).1 ∧ Below w.heap.size w w'

set_option maxHeartbeats 4000000 in
theorem recover_any (w : World) (s : ByteArray) (hs : s.size ≤ 1500000) : Calls Try.prog 36 #[.string s] w (RecPost w s) := by
  obtain ⟨i0, hi0, hz0, hz1, hz2⟩ := info_parts info_pic
  obtain ⟨wA, hwA⟩ : ∃ wA, wA = w.alloc (.cells #[.slice none 0 0] 26) := ⟨_, rfl⟩
  have hbA : Below w.heap.size w wA := by rw [hwA]; exact (Below.refl _ _).alloc (Nat.le_refl _) _
  have hR : BoxN wA w.heap.size #[.slice none 0 0] 26 := by rw [hwA]; exact BoxN.last w _ _
  have hsA : wA.heap.size = w.heap.size + 1 := by rw [hwA]; simp
  have hacc : AccA wA (wA.alloc (.cells #[.slice none 0 0] 26)) wA.heap.size (.slice none 0 0) [] :=
    ⟨(Below.refl _ _).alloc (Nat.le_refl _) _, BoxN.last wA _ _, OwnA.nil _ _, by simp [Value.ownBlock], by simp, Nat.le_refl _⟩
  obtain ⟨ob, hob⟩ : ∃ ob, ob = wA.heap.size := ⟨_, rfl⟩
  rw [← hob] at hacc
  have HOB := Lib.hid hob
  have KL := Lib.hid (fun W (r : ByteArray) (h : r.size ≤ 2000000) => load_gen W r h)
  have KC := Lib.hid (fun W (r : ByteArray) (h : r.size ≤ 2000000) => checkOf_any W 0 r (by decide) h)
  rw [show ((0 : Nat) : Int) = 0 from rfl] at KC
  have HR := Lib.hid (And.intro hbA hR)
  have HACC := Lib.hid hacc
  have HWA := Lib.hid hwA
  have HSA := Lib.hid hsA
  clear hbA hR hacc hwA
  go_enter Try.func36, Try.ntmps36
  go_wp2_with fail
  rw [← hsA, ← HWA.out, ← hob]
  clear hsA hob
  go_loopw [5] (fun v5 wr => ∃ (k : Nat) (v : Value) (xs : List PicX), k ≤ 8 ∧ xs.length = k ∧ (recG s k).1.length = k ∧ v5 = .int .i64 ((recG s k).2 : Nat) ∧ Sames (xs.map PicX.p) (recG s k).1 ∧ AccA wA wr ob v xs) (fun v5 _ => s.size - (intOf v5).toNat)
  case atStart => exact ⟨0, _, [], by omega, rfl, rfl, rfl, .nil, HACC.out⟩
  case round =>
    clear HACC
    obtain ⟨k, v, xs, hk8, hxl, hkl, rfl, hsm, hacc⟩ := hrel
    obtain ⟨sa, sc, rfl, hc1, hc2⟩ := hacc.own.form
    rw [hxl] at hacc hc1
    have hsound := recG_sound s k
    obtain ⟨A, hA⟩ : ∃ A, (recG s k).2 = A := ⟨_, rfl⟩
    have hAs : A ≤ s.size := by rw [← hA]; exact hsound.2.1
    have c0 : wr.cell? ⟨ob, 0, none⟩ = some (.slice sa k sc) := hacc.box.cell 0
    rw [hA] at ⊢
    have HAC := Lib.hid hacc
    have HS := Lib.hid (And.intro hxl (And.intro hkl (And.intro hsm (And.intro hsound hA))))
    have hAI : (A : Int) ≤ (s.size : Int) := by omega
    have hA0 : (0 : Int) ≤ (A : Int) := by omega
    clear hacc hsm hsound hA hxl hkl
    by_cases hlt : k < 8
    · have hltI : (k : Int) < 8 := by omega
      go_wp2_with fail
      clear c0
      obtain ⟨r, hr⟩ : ∃ r, s.extract A s.size = r := ⟨_, rfl⟩
      rw [hr]
      have hrs : r.size ≤ 2000000 := by rw [← hr, ByteArray.size_extract]; omega
      have HRR := Lib.hid hr
      refine (KL.out _ _ hrs).mono ?_
      rintro e w1 ⟨hb1, h | h⟩
      · obtain ⟨hno, a, b, s2, n2, c2, kk, rfl⟩ := h
        obtain ⟨WX, hWX⟩ : ∃ W, W = w1.alloc (.cells #[.int .i64 a, .int .i64 b, .slice s2 n2 c2] 41) := ⟨_, rfl⟩
        have hbX : Below wr.heap.size wr WX := by rw [hWX]; exact hb1.alloc hb1.size _
        have hacX := HAC.out.below hbX
        have hstop : (recG s k).1.length = k → recS s (recG s k).2 = false := fun _ => by
          rw [HS.out.2.2.2.2]; unfold recS; simp only [HRR.out, hno, Bool.false_and]
        have HWX := Lib.hid hWX
        clear hbX hno hb1 hr
        have hRX := HR.out.2.below hacX.bel
        have rr : WX.cell? ⟨w.heap.size, 0, none⟩ = some (.slice none 0 0) := hRX.cell 0
        have rf : WX.frozen? ⟨w.heap.size, 0, none⟩ = false := hRX.free 0
        have c0 : WX.cell? ⟨ob, 0, none⟩ = some (.slice sa k sc) := hacX.box.cell 0
        have hRl := hRX.lt
        have hst := recG_stop (s := s) (k := k) (m := 8) hk8 hstop
        have hfin : RecPost w s (.returned (.tuple #[.agg #[.slice sa k sc], .int .i64 (A : Int)])) (WX.setCell ⟨w.heap.size, 0, none⟩ (.slice sa k sc)) := by
          refine ⟨_, xs, by rw [hst, HS.out.2.2.2.2], ?_, by rw [hst]; exact HS.out.2.2.1, ?_⟩
          · have h1 := (hacX.own.set (a := ⟨w.heap.size, 0, none⟩) (by show w.heap.size < _; rw [HSA.out]; omega) (.slice sa k sc)).mono (B' := w.heap.size) (by rw [HSA.out]; omega)
            exact h1
          · exact (HR.out.1.trans (hacX.bel.mono HR.out.1.size)).setCell (p := ⟨w.heap.size, 0, none⟩) (Nat.le_refl _) _
        have HFIN := Lib.hid hfin
        clear hfin hst hRX hacX hstop
        rw [hWX] at rr rf c0 hRl
        go_wp2_with fail
        refine bodyPost_ret (v := .tuple #[.agg #[.slice sa k sc], .int .i64 (A : Int)]) (by simp [results, Try.results36, go_sem, rr, rf, hRl]) rfl ?_
        rw [← HWX.out]
        exact HFIN.out
      · obtain ⟨hyes, q, c, bs, rfl, hown, hbl, hbf⟩ := h
        have hokr : headS r = true := by unfold okS at hyes; rw [Bool.and_eq_true] at hyes; exact hyes.1
        have hpk := okS_pic hokr
        obtain ⟨d1, d2, d3, d4, d5, d6, d7⟩ := hpk.dims
        rw [picS_len] at d6 d7
        obtain ⟨E, hE⟩ : ∃ E, endS r = E := ⟨_, rfl⟩
        have hE2 : E ≤ 1030 := by rw [← hE]; unfold endS; omega
        have hE6 : 6 ≤ E := by rw [← hE]; unfold endS; omega
        rw [hE]
        obtain ⟨x, hx⟩ : ∃ x : PicX, x = ⟨⟨hwd r, hhi r, bs⟩, q, c⟩ := ⟨_, rfl⟩
        have hxo : OwnF w1 wr.heap.size x.sl x.p.bs := by rw [hx]; unfold PicX.sl; dsimp only; rw [hbl]; exact hown
        have hxs : x.p.same (picS r) := by rw [hx]; exact ⟨rfl, rfl, hbf⟩
        have hxk : x.p.ok := by
          rw [hx]
          refine ⟨?_, hown.2⟩
          have := hpk.1
          rw [picS_len] at this
          dsimp only; rw [hbl]; exact this
        have hxc : x.cells = [.int .i64 (hwd r : Nat), .int .i64 (hhi r : Nat), .slice (some ⟨q, 0, none⟩) (hwd r * hhi r) c] := by
          rw [hx]; unfold PicX.cells PicX.sl; dsimp only; rw [hbl]
        have HX := Lib.hid (And.intro hxo (And.intro hxs (And.intro hxk (And.intro hxc (And.intro hyes hE)))))
        clear hxo hxs hxk hxc hyes hE hown hbl hbf hokr hpk d1 d2 d3 d4 d5 hx d6 d7 hr
        generalize hwd r * hhi r = n at *
        generalize hwd r = wd at *
        generalize hhi r = hi at *
        obtain ⟨WX, hWX⟩ : ∃ W, W = w1.alloc (.cells #[.int .i64 wd, .int .i64 hi, .slice (some ⟨q, 0, none⟩) n c] 41) := ⟨_, rfl⟩
        have hbX : Below wr.heap.size wr WX := by rw [hWX]; exact hb1.alloc hb1.size _
        have hBX : BoxN WX w1.heap.size #[.int .i64 wd, .int .i64 hi, .slice (some ⟨q, 0, none⟩) n c] 41 := by rw [hWX]; exact BoxN.last _ _ _
        have HWX := Lib.hid hWX
        clear hWX
        by_cases he : A + E + 2 ≤ s.size
        · have he1 : decide ((s.size : Int) < (A : Int) + (E : Int) + 2) = false := decide_eq_false (by omega)
          have he2 : ¬ (s.size : Int) < (A : Int) + (E : Int) + 2 := by omega
          have he3 : (A : Int) + (E : Int) ≤ (s.size : Int) := by omega
          have he4 : (0 : Int) ≤ (A : Int) + (E : Int) := by omega
          have he5 : ((A : Int) + (E : Int)).toNat = A + E := by omega
          have hes : (s.extract 0 (A + E)).size ≤ 2000000 := by rw [ByteArray.size_extract]; omega
          go_wp2_with fail
          rw [← HWX.out]
          refine (KC.out _ _ hes).mono ?_
          rintro e w3 ⟨rfl, rfl⟩
          obtain ⟨ck, hck⟩ : ∃ ck, ckF 0 (s.extract 0 (A + E)).data.toList = ck := ⟨_, rfl⟩
          rw [hck]
          have hck2 : ck < 65003 := by rw [← hck]; exact ckF_lt (by decide) _
          have KB := Lib.hid (fun W => bytesOf_any W ck 2 (by omega) (by omega))
          rw [show ((2 : Nat) : Int) = 2 from rfl] at KB
          have hcb : leB ck 2 = ckB (s.extract 0 (A + E)).data.toList := by unfold ckB; rw [hck]
          obtain ⟨tb, htb⟩ : ∃ tb : ByteArray, (⟨(leB ck 2).toArray⟩ : ByteArray) = tb := ⟨_, rfl⟩
          rw [htb] at KB
          have hv : (tb.toList == (s.extract (A + E) (A + E + 2)).toList) = recS s A := by
            rw [ba_beq]
            unfold recS
            simp only [HRR.out, HX.out.2.2.2.2.1, HX.out.2.2.2.2.2, decide_eq_true he, Bool.true_and]
            rw [← hcb, htb]
            exact decide_eq_decide.2 ⟨fun h => h.symm, fun h => h.symm⟩
          have he6 : ((A : Int) + (E : Int) + 2).toNat = A + E + 2 := by omega
          have he8 : (A : Int) + (E : Int) ≤ (A : Int) + (E : Int) + 2 := by omega
          have he9 : A + E ≤ A + E + 2 := by omega
          have he10 : (0 : Int) ≤ (A : Int) + (E : Int) + 2 := by omega
          have he11 : IntKind.i64.wrap ((A : Int) + (E : Int)) = (A : Int) + (E : Int) := IntWalk.i64_in _ (by omega)
          have he12 : IntKind.i64.wrap ((A : Int) + (E : Int) + 2) = (A : Int) + (E : Int) + 2 := IntWalk.i64_in _ (by omega)
          have he7 : (A : Int) + (E : Int) + 2 ≤ (s.size : Int) := by omega
          have hA1 : Below WX.heap.size WX WX.drew := below_drewN (Below.refl _ _) 1
          have HBX := Lib.hid (And.intro hbX (And.intro hBX hb1))
          have HV := Lib.hid (show recS s A = recS s A from rfl)
          obtain ⟨rc, hrc⟩ : ∃ b, recS s A = b := ⟨_, rfl⟩
          rw [hrc] at hv
          have HRC := Lib.hid hrc
          clear hck hcb htb hbX hBX hb1 hes hrc he1 he2
          go_upto_region 6 with fail
          go_region_held3 (fun W => Below WX.heap.size WX W)
            (first | exact hbS | exact hA1 | go_keep)
            ((go_at_call 35; (with_reducible refine (KB.out _).mono ?_); rintro e wS ⟨rfl, hbS1⟩; have hbS := hA1.trans (hbS1.mono hA1.size)))
          have hbR := HBX.out.1.trans (hbS.mono HBX.out.1.size)
          have hacX := HAC.out.below hbR
          cases rc
          · have hstop : (recG s k).1.length = k → recS s (recG s k).2 = false := fun _ => by rw [HS.out.2.2.2.2]; exact HRC.out
            clear HBX hbR hbS hbS1
            have hRX := HR.out.2.below hacX.bel
            have rr : wS.cell? ⟨w.heap.size, 0, none⟩ = some (.slice none 0 0) := hRX.cell 0
            have rf : wS.frozen? ⟨w.heap.size, 0, none⟩ = false := hRX.free 0
            have c0 : wS.cell? ⟨ob, 0, none⟩ = some (.slice sa k sc) := hacX.box.cell 0
            have hRl := hRX.lt
            have hst := recG_stop (s := s) (k := k) (m := 8) hk8 hstop
            have hfin : RecPost w s (.returned (.tuple #[.agg #[.slice sa k sc], .int .i64 (A : Int)])) (wS.setCell ⟨w.heap.size, 0, none⟩ (.slice sa k sc)) := by
              refine ⟨_, xs, by rw [hst, HS.out.2.2.2.2], ?_, by rw [hst]; exact HS.out.2.2.1, ?_⟩
              · have h1 := (hacX.own.set (a := ⟨w.heap.size, 0, none⟩) (by show w.heap.size < _; rw [HSA.out]; omega) (.slice sa k sc)).mono (B' := w.heap.size) (by rw [HSA.out]; omega)
                exact h1
              · exact (HR.out.1.trans (hacX.bel.mono HR.out.1.size)).setCell (p := ⟨w.heap.size, 0, none⟩) (Nat.le_refl _) _
            have HFIN := Lib.hid hfin
            clear hfin hst hRX hacX hstop
            go_wp2_with fail
            refine bodyPost_ret (v := .tuple #[.agg #[.slice sa k sc], .int .i64 (A : Int)]) (by simp [results, Try.results36, go_sem, rr, rf, hRl]) rfl ?_
            exact HFIN.out
          · obtain ⟨p0, p1, p2, -, -, -⟩ := (HBX.out.2.1.below hbS).three.cells
            have c0 : wS.cell? ⟨ob, 0, none⟩ = some (.slice sa k sc) := hacX.box.cell 0
            have hrow : wS.ownsRow wA.heap.size 41 3 (.slice sa k sc) k (pxCells xs) := by
              have := hacX.own.row; rwa [HS.out.1] at this
            have hbox := hacX.box
            have hne := hacX.ne
            have hszS := hacX.bel.size
            have HREC := Lib.hid (recG_go (s := s) (k := k) HS.out.2.1 (by rw [HS.out.2.2.2.2]; exact HRC.out))
            have HSTEP := Lib.hid (fun gg cap w2 h1 h2 h3 => HAC.out.stepk (w1 := wS) (w2 := w2) (gg := gg) (cap := cap) (T := 41) HS.out.1 hbR ((HX.out.1.below (show Below w1.heap.size w1 wS from by
              have h9 : Below w1.heap.size w1 WX := by rw [HWX.out]; exact (Below.refl _ _).alloc (Nat.le_refl _) _
              exact h9.trans (hbS.mono h9.size)))) HX.out.2.2.1 HX.out.2.2.2.1 h1 h2 h3)
            clear hacX hbR
            go_wp2_with (at_builtin; refine wpList_append_lies _ (by rfl) _ _ _ (by rfl) wA.heap.size 41 i0 _ 3 40 Try.underlying24 hi0 hz0 hz1 hz2 rfl (by omega) (.slice sa k sc) k _ (by rfl) (World.ownsRow.alloc hrow _) ⟨wS.heap.size, 0, none⟩ 1 1 [.int .i64 wd, .int .i64 hi, .slice (some ⟨q, 0, none⟩) n c] (by rfl) (by rfl) (cells_new3 _ _ _ _ _) (by simp [Value.oneCell']) (by omega) (by unfold maxLen; omega) (by omega) (by simp; omega) (wS.heap.size + 1) (by simp) ?_; intro gg cap w2 hown2 hgrow hat hlt2; have hbg := (hbox.below ((Below.refl wS.heap.size wS).alloc (Nat.le_refl _) (.cells #[.int .i64 wd, .int .i64 hi, .slice (some ⟨q, 0, none⟩) n c] 41))).grown hgrow hne; have g0 : w2.cell? ⟨ob, 0, none⟩ = some (.slice sa k sc) := hbg.cell 0; have g1 : w2.frozen? ⟨ob, 0, none⟩ = false := hbg.free 0; have g2 := hbg.lt)
            have hnx : nxtS s (recG s k).2 = (picS r, A + E + 2) := by rw [HS.out.2.2.2.2]; unfold nxtS; rw [HRR.out, HX.out.2.2.2.2.2]
            refine ⟨⟨k + 1, _, xs ++ [x], by omega, by simp [HS.out.1], ?_, ?_, ?_, HSTEP.out _ _ _ hown2 hgrow hat⟩, ?_⟩
            · rw [HREC.out]; simp [HS.out.2.1]
            · rw [HREC.out, hnx]; dsimp only; rw [show ((A + E + 2 : Nat) : Int) = (A : Int) + (E : Int) + 2 by omega]
            · rw [HREC.out, hnx, List.map_append]
              exact HS.out.2.2.1.append (.cons HX.out.2.1 .nil)
            · simp [intOf]; omega
        · have he1 : decide ((s.size : Int) < (A : Int) + (E : Int) + 2) = true := decide_eq_true (by omega)
          have he2 : (s.size : Int) < (A : Int) + (E : Int) + 2 := by omega
          have hacX := HAC.out.below hbX
          have hstop : (recG s k).1.length = k → recS s (recG s k).2 = false := fun _ => by
            rw [HS.out.2.2.2.2]; unfold recS; simp only [HRR.out, HX.out.2.2.2.2.2, decide_eq_false he, Bool.and_false, Bool.false_and]
          clear hbX hBX hb1
          have hRX := HR.out.2.below hacX.bel
          have rr : WX.cell? ⟨w.heap.size, 0, none⟩ = some (.slice none 0 0) := hRX.cell 0
          have rf : WX.frozen? ⟨w.heap.size, 0, none⟩ = false := hRX.free 0
          have c0 : WX.cell? ⟨ob, 0, none⟩ = some (.slice sa k sc) := hacX.box.cell 0
          have hRl := hRX.lt
          have hst := recG_stop (s := s) (k := k) (m := 8) hk8 hstop
          have hfin : RecPost w s (.returned (.tuple #[.agg #[.slice sa k sc], .int .i64 (A : Int)])) (WX.setCell ⟨w.heap.size, 0, none⟩ (.slice sa k sc)) := by
            refine ⟨_, xs, by rw [hst, HS.out.2.2.2.2], ?_, by rw [hst]; exact HS.out.2.2.1, ?_⟩
            · have h1 := (hacX.own.set (a := ⟨w.heap.size, 0, none⟩) (by show w.heap.size < _; rw [HSA.out]; omega) (.slice sa k sc)).mono (B' := w.heap.size) (by rw [HSA.out]; omega)
              exact h1
            · exact (HR.out.1.trans (hacX.bel.mono HR.out.1.size)).setCell (p := ⟨w.heap.size, 0, none⟩) (Nat.le_refl _) _
          have HFIN := Lib.hid hfin
          clear hfin hst hRX hacX hstop
          rw [HWX.out] at rr rf c0 hRl
          go_wp2_with fail
          refine bodyPost_ret (v := .tuple #[.agg #[.slice sa k sc], .int .i64 (A : Int)]) (by simp [results, Try.results36, go_sem, rr, rf, hRl]) rfl ?_
          rw [← HWX.out]
          exact HFIN.out
    · have hk9 : k = 8 := by omega
      obtain ⟨WX, hWX⟩ : ∃ W, W = wr := ⟨_, rfl⟩
      rw [← hWX]
      have hacX := HAC.out
      rw [← hWX] at hacX
      clear hWX c0
      have hRX := HR.out.2.below hacX.bel
      have rr : WX.cell? ⟨w.heap.size, 0, none⟩ = some (.slice none 0 0) := hRX.cell 0
      have rf : WX.frozen? ⟨w.heap.size, 0, none⟩ = false := hRX.free 0
      have c0 : WX.cell? ⟨ob, 0, none⟩ = some (.slice sa k sc) := hacX.box.cell 0
      have hRl := hRX.lt
      have hst : recG s 8 = recG s k := by rw [hk9]
      have hfin : RecPost w s (.returned (.tuple #[.agg #[.slice sa k sc], .int .i64 (A : Int)])) (WX.setCell ⟨w.heap.size, 0, none⟩ (.slice sa k sc)) := by
        refine ⟨_, xs, by rw [hst, HS.out.2.2.2.2], ?_, by rw [hst]; exact HS.out.2.2.1, ?_⟩
        · have h1 := (hacX.own.set (a := ⟨w.heap.size, 0, none⟩) (by show w.heap.size < _; rw [HSA.out]; omega) (.slice sa k sc)).mono (B' := w.heap.size) (by rw [HSA.out]; omega)
          exact h1
        · exact (HR.out.1.trans (hacX.bel.mono HR.out.1.size)).setCell (p := ⟨w.heap.size, 0, none⟩) (Nat.le_refl _) _
      have HFIN := Lib.hid hfin
      clear hfin hst hRX hacX hk9
      go_wp2_with fail
      refine bodyPost_ret (v := .tuple #[.agg #[.slice sa k sc], .int .i64 (A : Int)]) (by simp [results, Try.results36, go_sem, rr, rf, hRl]) rfl ?_
      exact HFIN.out

set_option maxHeartbeats 2000000 in
theorem loadAlbum_any (w : World) (s : ByteArray) (hs : s.size ≤ 1500000) (hall : (recG s 8).2 = s.size) :
    Calls Try.prog 11 #[.string s] w fun e w' => ∃ v xs, e = .returned (.tuple #[.agg #[v], .bool true]) ∧ OwnA w' w.heap.size v xs ∧ Sames (xs.map PicX.p) (recG s 8).1 ∧ Below w.heap.size w w' := by
  have hb0 : Below w.heap.size w (w.alloc (.cells #[.slice none 0 0] 26)) := (Below.refl _ _).alloc (Nat.le_refl _) _
  have hR := BoxN.last w #[.slice none 0 0] 26
  have K := Lib.hid (recover_any (w.alloc (.cells #[.slice none 0 0] 26)) s hs)
  have HR := Lib.hid (And.intro hb0 hR)
  have HA := Lib.hid hall
  clear hb0 hR hall
  go_enter Try.func11, Try.ntmps11
  go_wp2_with fail
  refine K.out.mono ?_
  rintro e w1 ⟨v, xs, rfl, ho, hsm, hb1⟩
  rw [HA.out]
  obtain ⟨W2, hW2⟩ : ∃ W, W = w1.alloc (.cells #[v] 26) := ⟨_, rfl⟩
  have ha : Below w1.heap.size w1 W2 := by rw [hW2]; exact (Below.refl _ _).alloc (Nat.le_refl _) _
  have hb2 := hb1.trans (ha.mono hb1.size)
  have hR2 := HR.out.2.below hb2
  have r0 : W2.cell? ⟨w.heap.size, 0, none⟩ = some (.slice none 0 0) := hR2.cell 0
  have rf : W2.frozen? ⟨w.heap.size, 0, none⟩ = false := hR2.free 0
  have hRl := hR2.lt
  have hQ : BoxN W2 w1.heap.size #[v] 26 := by rw [hW2]; exact BoxN.last w1 _ _
  have z0 : W2.cell? ⟨w1.heap.size, 0, none⟩ = some v := hQ.cell 0
  have ho2 := ho.below ha
  have hs1 : w.heap.size + 1 ≤ (w.alloc (.cells #[.slice none 0 0] 26)).heap.size := by simp
  obtain ⟨sa, sc, rfl, -, -⟩ := ho.form
  have HO := Lib.hid (And.intro ho2 (And.intro hsm (HR.out.1.trans (hb2.mono HR.out.1.size))))
  clear hb1 ha hb2 hR2 hQ ho ho2 hsm
  rw [hW2] at r0 rf z0 hRl
  have HW2 := Lib.hid hW2
  clear hW2
  go_wp2_with fail
  refine bodyPost_ret (v := .tuple #[.agg #[.slice sa xs.length sc], .bool true]) (by simp [results, Try.results11, go_sem, r0, rf, hRl]) rfl ?_
  rw [← HW2.out]
  obtain ⟨ho, hsm, hb⟩ := HO.out
  refine ⟨_, xs, rfl, ?_, hsm, ?_⟩
  · exact (ho.set (by show w.heap.size < _; simp) _ (a := ⟨w.heap.size, 0, none⟩)).mono (by simp)
  · exact hb.setCell (Nat.le_refl _) _
set_option maxHeartbeats 2000000 in
theorem recoverAlbum_any (w : World) (s : ByteArray) (hs : s.size ≤ 1500000) :
    Calls Try.prog 15 #[.string s] w fun e w' => ∃ v xs, e = .returned (.tuple #[.agg #[v], .int .i64 ((recG s 8).2 : Nat), .bool true]) ∧ OwnA w' w.heap.size v xs ∧ Sames (xs.map PicX.p) (recG s 8).1 ∧ Below w.heap.size w w' := by
  have hb0 : Below w.heap.size w (w.alloc (.cells #[.slice none 0 0] 26)) := (Below.refl _ _).alloc (Nat.le_refl _) _
  have hR := BoxN.last w #[.slice none 0 0] 26
  have K := Lib.hid (recover_any (w.alloc (.cells #[.slice none 0 0] 26)) s hs)
  have HR := Lib.hid (And.intro hb0 hR)
  have hle := (recG_sound s 8).2.1
  clear hb0 hR
  go_enter Try.func15, Try.ntmps15
  go_wp2_with fail
  refine K.out.mono ?_
  rintro e w1 ⟨v, xs, rfl, ho, hsm, hb1⟩
  have HSM := Lib.hid hsm
  clear hsm
  obtain ⟨A, hA⟩ : ∃ A, (recG s 8).2 = A := ⟨_, rfl⟩
  have HAA := Lib.hid hA
  rw [hA] at hle ⊢
  obtain ⟨W2, hW2⟩ : ∃ W, W = w1.alloc (.cells #[v] 26) := ⟨_, rfl⟩
  have ha : Below w1.heap.size w1 W2 := by rw [hW2]; exact (Below.refl _ _).alloc (Nat.le_refl _) _
  have hb2 := hb1.trans (ha.mono hb1.size)
  have hR2 := HR.out.2.below hb2
  have r0 : W2.cell? ⟨w.heap.size, 0, none⟩ = some (.slice none 0 0) := hR2.cell 0
  have rf : W2.frozen? ⟨w.heap.size, 0, none⟩ = false := hR2.free 0
  have hRl := hR2.lt
  have hQ : BoxN W2 w1.heap.size #[v] 26 := by rw [hW2]; exact BoxN.last w1 _ _
  have z0 : W2.cell? ⟨w1.heap.size, 0, none⟩ = some v := hQ.cell 0
  have ho2 := ho.below ha
  obtain ⟨sa, sc, rfl, -, -⟩ := ho.form
  have HO := Lib.hid (And.intro ho2 (HR.out.1.trans (hb2.mono HR.out.1.size)))
  clear hb1 ha hb2 hR2 hQ ho ho2 hA
  rw [hW2] at r0 rf z0 hRl
  have HW2 := Lib.hid hW2
  clear hW2
  go_wp2_with fail
  refine bodyPost_ret (v := .tuple #[.agg #[.slice sa xs.length sc], .int .i64 (A : Int), .bool true]) (by simp [results, Try.results15, go_sem, r0, rf, hRl]) rfl ?_
  rw [← HW2.out]
  obtain ⟨ho, hb⟩ := HO.out
  refine ⟨_, xs, by rw [HAA.out], ?_, HSM.out, ?_⟩
  · exact (ho.set (by show w.heap.size < _; simp) _ (a := ⟨w.heap.size, 0, none⟩)).mono (by simp)
  · exact hb.setCell (Nat.le_refl _) _

end Go.Proofs.Ytkifhajkmgeafaa
