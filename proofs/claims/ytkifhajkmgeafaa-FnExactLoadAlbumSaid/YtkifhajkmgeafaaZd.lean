/- load of any text. -/
import Derived.Test.YtkifhajkmgeafaaZc
import Derived.Test.YtkifhajkmgeafaaUh
namespace Go.Proofs.Ytkifhajkmgeafaa
open Go.RowKit
set_option maxRecDepth 100000
set_option linter.unusedVariables false
set_option linter.unusedSimpArgs false

theorem hasPrefix_no (w : World) (s : ByteArray) (hl : 4 ≤ s.size) (hl2 : s.size ≤ 2000000) (h : ¬ s.extract 0 4 = ⟨#[69, 89, 69, 49]⟩) :
    Calls Try.prog 82 #[.string s, .string ⟨#[69, 89, 69, 49]⟩] w fun e w' => e = .returned (.bool false) ∧ w = w' := by
  have hz4 : ({ data := #[69, 89, 69, 49] } : ByteArray).size = 4 := rfl
  have hl3 : (4 : Int) ≤ (s.size : Int) := by omega
  have hb : ((s.extract 0 4).toList == [69, 89, 69, 49]) = false := by
    have := ba_beq (s.extract 0 4) ⟨#[69, 89, 69, 49]⟩
    rw [decide_eq_false h, ba_toList ⟨#[69, 89, 69, 49]⟩] at this
    exact this
  go_enter Try.func82, Try.ntmps82
  go_wp2
  go_ret
  exact ⟨rfl, rfl⟩

/-- What load tells of a text. -/
def LoadPost (w : World) (s : ByteArray) (e : Ending) (w' : World) : Prop :=
  Below w.heap.size w w' ∧ ((okS s = false ∧ ∃ (a b : Int) (sa : Option Addr) (n c : Nat) (k : Int), e = .returned (.tuple #[.agg #[.int .i64 a, .int .i64 b, .slice sa n c], .int .i64 k, .bool false])) ∨
    (okS s = true ∧ ∃ (q c : Nat) (bs : List Nat), e = .returned (.tuple #[.agg #[.int .i64 (hwd s : Nat), .int .i64 (hhi s : Nat), .slice (some ⟨q, 0, none⟩) (hwd s * hhi s) c], .int .i64 (endS s : Nat), .bool true]) ∧
      OwnF w' w.heap.size (.slice (some ⟨q, 0, none⟩) (hwd s * hhi s) c) bs ∧ bs.length = hwd s * hhi s ∧ bs.map fl = (picS s).bs.map fl))
theorem okS_no {s : ByteArray} (h : headS s = false) : okS s = false := by unfold okS; rw [h]; rfl
theorem fail_agg (w : World) (s : ByteArray) (w' : World) (h : okS s = false) (hb : Below w.heap.size w w') (a b : Int) (sa : Option Addr) (n c : Nat) (k : Int) : LoadPost w s (.returned (.tuple #[.agg #[.int .i64 a, .int .i64 b, .slice sa n c], .int .i64 k, .bool false])) w' :=
  ⟨hb, .inl ⟨h, a, b, sa, n, c, k, rfl⟩⟩

/-- A text that is too short. -/
theorem load_short (w : World) (s : ByteArray) (hs : s.size < 6) : Calls Try.prog 65 #[.string s] w (LoadPost w s) := by
  obtain ⟨W0, hW0⟩ : ∃ W0, W0 = (w.alloc (.cells #[.string s] 9)).alloc (.cells #[.int .i64 0, .int .i64 0, .slice none 0 0] 41) := ⟨_, rfl⟩
  have hb0 : Below w.heap.size w W0 := by rw [hW0]; exact below_two w _ _
  have hR : Box3 W0 (w.heap.size + 1) (.int .i64 0) (.int .i64 0) (.slice none 0 0) 41 := by rw [hW0]; exact box_second w _ _ _ _ _
  have hX : BoxN W0 w.heap.size #[.string s] 9 := by rw [hW0]; exact BoxN.first w #[.string s] 9 _
  have hok : okS s = false := okS_no (by unfold headS; rw [decide_eq_false (by omega)]; rfl)
  obtain ⟨r0, r1, r2, g0, g1, g2⟩ := hR.cells
  have hRl := hR.lt
  have hc0 : W0.cell? ⟨w.heap.size, 0, none⟩ = some (.string s) := hX.cell 0
  rw [hW0] at r0 r1 r2 g0 g1 g2 hRl hc0
  have HW0 := Lib.hid hW0
  have HB := Lib.hid (And.intro hb0 hok)
  have hlt : (s.size : Int) < 6 := by omega
  clear hb0 hok hR hX hW0
  go_enter Try.func65, Try.ntmps65
  go_wp2_with fail
  rw [← HW0.out]
  refine bodyPost_ret (v := .tuple #[.agg #[.int .i64 0, .int .i64 0, .slice none 0 0], .int .i64 0, .bool false]) (by simp [results, Try.results65, go_sem, HW0.out, r0, r1, r2, hRl]) rfl ?_
  refine fail_agg w s _ HB.out.2 ?_ 0 0 none 0 0 0
  exact HB.out.1

set_option maxHeartbeats 4000000 in
/-- A text of six bytes and more. -/
theorem load_long (w : World) (s : ByteArray) (hs : 6 ≤ s.size) (hs2 : s.size ≤ 2000000) : Calls Try.prog 65 #[.string s] w (LoadPost w s) := by
  obtain ⟨W0, hW0⟩ : ∃ W0, W0 = (w.alloc (.cells #[.string s] 9)).alloc (.cells #[.int .i64 0, .int .i64 0, .slice none 0 0] 41) := ⟨_, rfl⟩
  have hb0 : Below w.heap.size w W0 := by rw [hW0]; exact below_two w _ _
  have hR : Box3 W0 (w.heap.size + 1) (.int .i64 0) (.int .i64 0) (.slice none 0 0) 41 := by rw [hW0]; exact box_second w _ _ _ _ _
  have hX : BoxN W0 w.heap.size #[.string s] 9 := by rw [hW0]; exact BoxN.first w #[.string s] 9 _
  have hsz : W0.heap.size = w.heap.size + 2 := by rw [hW0]; simp
  have hc0 : W0.cell? ⟨w.heap.size, 0, none⟩ = some (.string s) := hX.cell 0
  have hS6 : decide ((s.size : Int) < 6) = false := decide_eq_false (by omega)
  have hS6' : ¬ (s.size : Int) < 6 := by omega
  rw [hW0] at hc0
  have HW0 := Lib.hid hW0
  by_cases hmk : s.extract 0 4 = ⟨#[69, 89, 69, 49]⟩
  · have KP := Lib.hid (fun W => hasPrefix_yes W s (by omega) (by omega) hmk)
    obtain ⟨wd, hwd⟩ : ∃ wd, hwd s = wd := ⟨_, rfl⟩
    obtain ⟨hi, hhi⟩ : ∃ hi, hhi s = hi := ⟨_, rfl⟩
    have hs4 : ∀ W, (Instr.index 9 (.string s) (.int .i64 4)).run Try.prog W = .ok (.int .u8 (wd : Int)) W := fun W => by
      rw [idx_at W s 4 (by omega) (by omega), show (4 : Int).toNat = 4 from rfl, ← hwd]; rfl
    have hs5 : ∀ W, (Instr.index 9 (.string s) (.int .i64 5)).run Try.prog W = .ok (.int .u8 (hi : Int)) W := fun W => by
      rw [idx_at W s 5 (by omega) (by omega), show (5 : Int).toNat = 5 from rfl, ← hhi]; rfl
    have hwl : wd < 256 := by rw [← hwd]; exact byteN_lt s 4
    have hhl : hi < 256 := by rw [← hhi]; exact byteN_lt s 5
    have HB := Lib.hid (And.intro hb0 (And.intro hX hR))
    have HD := Lib.hid (And.intro hwd hhi)
    have HMK := Lib.hid hmk
    have w4 : IntKind.i64.wrap (wd : Int) = (wd : Int) := IntWalk.i64_in _ (by omega)
    have w5 : IntKind.i64.wrap (hi : Int) = (hi : Int) := IntWalk.i64_in _ (by omega)
    clear hb0 hX hR hW0 hwd hhi hmk
    go_enter Try.func65, Try.ntmps65
    go_wp2_with fail
    refine (KP.out _).mono ?_
    rintro e w' ⟨rfl, hw'⟩
    have hw2 : w' = W0 := by rw [HW0.out]; exact hw'.symm
    clear hw'
    subst hw2
    clear hc0
    have hc0 := HB.out.2.1.cell 0
    have hc1 : w'.cell? ⟨w.heap.size, 0, none⟩ = some (.string s) := hc0
    clear hc0
    go_upto_region 3 with fail
    go_region
    obtain ⟨W2, hW2⟩ : ∃ W, W = (w'.alloc (.cells #[.int .i64 wd] 2)).drew := ⟨_, rfl⟩
    rw [← hW2]
    obtain ⟨hb0, hX, hR⟩ := HB.out
    have hb2 : Below w'.heap.size w' W2 := by rw [hW2]; exact below_drewN ((Below.refl _ _).alloc (Nat.le_refl _) _) 1
    have hP : BoxN W2 (w.heap.size + 2) #[.int .i64 wd] 2 := by rw [hW2, ← hsz]; exact BoxN.drewN (BoxN.last w' #[.int .i64 wd] 2) 1
    have HB2 := Lib.hid (And.intro (hb0.trans (hb2.mono hb0.size)) (And.intro (hX.below hb2) (And.intro (hR.below hb2) hP)))
    have hp0 : W2.cell? ⟨w.heap.size + 2, 0, none⟩ = some (.int .i64 wd) := hP.cell 0
    have hx0 : W2.cell? ⟨w.heap.size, 0, none⟩ = some (.string s) := (hX.below hb2).cell 0
    have hs2' : W2.heap.size = w.heap.size + 3 := by rw [hW2]; show (w'.alloc _).heap.size = _; simp; omega
    clear hW2 hb0 hX hR hb2 hP hc1
    obtain ⟨n, hn⟩ : ∃ n, wd * hi = n := ⟨_, rfl⟩
    have hn2 : n ≤ 255 * 255 := by rw [← hn]; exact Nat.mul_le_mul (by omega) (by omega)
    have em0 : (wd : Int) * (hi : Int) = (n : Int) := by rw [← hn, Int.natCast_mul]
    have em1 : 4 * (wd : Int) * (hi : Int) = 4 * (n : Int) := by rw [Int.mul_assoc, em0]
    have em2 : 4 * ((wd : Int) * (hi : Int)) = 4 * (n : Int) := by rw [em0]
    have HN := Lib.hid hn
    clear hn
    by_cases hk : szOk wd hi = true
    · by_cases hen : 6 + 4 * n ≤ s.size
      · obtain ⟨d1, d2, d3, d4, d5⟩ := szOk_spec hk
        have h1 : 1 ≤ wd := by omega
        have h2 : wd ≤ 24 := by omega
        have h3 : 1 ≤ hi := by omega
        have h4 : hi ≤ 24 := by omega
        have hn1 : 1 ≤ n := by rw [← HN.out]; exact Nat.mul_pos h1 h3
        have hn3 : n ≤ 256 := by rw [em0] at d5; omega
        have hE : endS s = 6 + 4 * n := by unfold endS; rw [HD.out.1, HD.out.2, HN.out]
        have hpic : picS s = ⟨wd, hi, (List.range n).map (wrdS s)⟩ := by unfold picS; rw [HD.out.1, HD.out.2, HN.out]
        have hhead : headS s = true := by
          unfold headS; rw [decide_eq_true hs, decide_eq_true HMK.out, HD.out.1, HD.out.2, hk, hE, decide_eq_true hen]; rfl
        have HHEAD := Lib.hid (And.intro hE (And.intro hpic hhead))
        have hen2 : decide ((s.size : Int) < 6 + 4 * (n : Int)) = false := decide_eq_false (by omega)
        have hen3 : ¬ (s.size : Int) < 6 + 4 * (n : Int) := by omega
        have hg : Gives2 W2 (.func (.func 84) #[] #[.pointer (some ⟨w.heap.size + 2, 0, none⟩), .pointer (some ⟨w.heap.size, 0, none⟩)]) wd hi (fun x y => fl (wrdS s (x + wd * y))) := by
          refine ⟨84, _, rfl, Try.call84, fun x y W hx hy hbW => ?_⟩
          have hlt2 : x + wd * y < n := by
            rw [← HN.out]
            calc x + wd * y < wd + wd * y := by omega
              _ = wd * (y + 1) := by rw [Nat.mul_succ]; omega
              _ ≤ wd * hi := Nat.mul_le_mul_left _ hy
          refine (load1_any W (w.heap.size + 2) w.heap.size wd x y s (wrdS s (x + wd * y)) (wrdS_lt _ _) hx h2 (by omega) (by omega) hs2 ((HB2.out.2.2.2.below hbW).cell 0) ((HB2.out.2.1.below hbW).cell 0) (fun j hj => wrdS_byte s _ j hj)).mono ?_
          rintro e w'' ⟨rfl, k, rfl⟩
          exact ⟨_, rfl, wrdS_lt _ _, rfl, below_drewN (Below.refl _ _) k⟩
        have KG := Lib.hid (made_any W2 wd hi _ _ h2 h4 hg)
        have HEN := Lib.hid hen
        clear hg hE hpic hhead d1 d2 d3 d4 d5 hen
        go_wp2_with fail
        refine (sizeOk_any _ _ _).mono ?_
        rw [hk]
        rintro e w' ⟨rfl, rfl⟩
        go_wp2_with fail
        refine KG.out.mono ?_
        rintro e w4 ⟨a, cc, bs', rfl, hown, hcon, hb4⟩
        have hfl : bs'.map fl = ((List.range n).map (wrdS s)).map fl := tab_same hcon (by rw [List.length_map, List.length_range, HN.out]) (fun x y hx hy => by
          show fl (wrdS s ((x + wd * y) % wd + wd * ((x + wd * y) / wd))) = fl (((List.range n).map (wrdS s)).getD (ix x y wd hi) 0)
          have hlt : x + wd * y < n := by
            rw [← HN.out]
            calc x + wd * y < wd + wd * y := by omega
              _ = wd * (y + 1) := by rw [Nat.mul_succ]; omega
              _ ≤ wd * hi := Nat.mul_le_mul_left _ hy
          rw [md1 hx, md2 hx, ix_in hx hy, List.getD_eq_getElem?_getD, List.getElem?_map, List.getElem?_range hlt]; rfl)
        have hl' : bs'.length = n := by have := congrArg List.length hfl; rw [List.length_map, List.length_map, List.length_map, List.length_range] at this; exact this
        obtain ⟨q, rfl⟩ : ∃ q, a = some ⟨q, 0, none⟩ := by
          rcases hown.form with ⟨_, h2⟩ | ⟨q, cap, h1, _⟩
          · rw [h2] at hl'; simp at hl'; omega
          · injection h1 with e1; exact ⟨q, e1⟩
        rw [hl'] at hown ⊢
        obtain ⟨W5, hW5⟩ : ∃ W, W = w4.alloc (.cells #[.int .i64 wd, .int .i64 hi, .slice (some ⟨q, 0, none⟩) n cc] 41) := ⟨_, rfl⟩
        have ha5 : Below w4.heap.size w4 W5 := by rw [hW5]; exact (Below.refl _ _).alloc (Nat.le_refl _) _
        obtain ⟨oP, hoP⟩ : ∃ o, o = w4.heap.size := ⟨_, rfl⟩
        have hWs := hb4.size
        have hQ : Box3 W5 oP (.int .i64 wd) (.int .i64 hi) (.slice (some ⟨q, 0, none⟩) n cc) 41 := by rw [hW5, hoP]; exact box_last w4 _ _ _ _
        have hb5 : Below W2.heap.size W2 W5 := hb4.trans (ha5.mono hb4.size)
        have hown5 := hown.below ha5
        have hX5 := HB2.out.2.1.below hb5
        have hR5 := HB2.out.2.2.1.below hb5
        have KS := Lib.hid (fun W (hW : Below W5.heap.size W5 W) => stored_any W wd hi q cc n bs' hl' h2 h4 (by omega) (hown5.sl.below hW))
        rw [stoL_fl hfl] at KS
        have htx : stoL wd hi ((List.range n).map (wrdS s)) = (picS s).txt := by rw [HHEAD.out.2.1]; rfl
        rw [htx] at KS
        have hokv : ((⟨(picS s).txt.toArray⟩ : ByteArray).toList == (s.extract 0 (6 + 4 * n)).toList) = okS s := by
          rw [ba_beq]
          unfold okS
          rw [HHEAD.out.2.2, HHEAD.out.1, Bool.true_and]
          exact decide_eq_decide.2 ⟨fun h => h.symm, fun h => h.symm⟩
        obtain ⟨tx, htx2⟩ : ∃ tx : ByteArray, tx = ⟨(picS s).txt.toArray⟩ := ⟨_, rfl⟩
        rw [← htx2] at KS hokv
        obtain ⟨ob, hob⟩ : ∃ b, okS s = b := ⟨_, rfl⟩
        rw [hob] at hokv
        have HOB := Lib.hid (And.intro hob htx2)
        have CELLS := Lib.hid (show ∀ W, Below W5.heap.size W5 W → W.cell? ⟨oP, 0, none⟩ = some (.int .i64 wd) ∧ W.cell? ⟨oP, 1, none⟩ = some (.int .i64 hi) ∧ W.cell? ⟨oP, 2, none⟩ = some (.slice (some ⟨q, 0, none⟩) n cc) ∧ W.cell? ⟨w.heap.size, 0, none⟩ = some (.string s) from fun W hW => by
          obtain ⟨u0, u1, u2, -, -, -⟩ := (hQ.below hW).cells
          exact ⟨u0, u1, u2, (hX5.below hW).cell 0⟩)
        obtain ⟨z0, z1, z2, zS⟩ := CELLS.out W5 (Below.refl _ _)
        have hRS := Lib.hid hR5
        obtain ⟨r0, r1, r2, g0, g1, g2⟩ := hR5.cells
        have hxn : (6 + 4 * (n : Int)).toNat = 6 + 4 * n := by omega
        have hxl : 6 + 4 * (n : Int) ≤ (s.size : Int) := by have := HEN.out; omega
        have hxl0 : (0 : Int) ≤ 6 + 4 * (n : Int) := by omega
        have hne1 : ¬ oP = w.heap.size + 1 := by omega
        have hne2 : ¬ w.heap.size + 1 = oP := by omega
        have hA0 : Below W5.heap.size W5 W5.drew := below_drewN (Below.refl _ _) 1
        have HOW := Lib.hid (And.intro hown5 (And.intro hfl (HB2.out.1.trans (hb5.mono HB2.out.1.size))))
        have hoq := (hown5.lt (k := q) rfl).1
        have HW5 := Lib.hid hW5
        have HOP := Lib.hid hoP
        clear hcon hown hb4 ha5 hQ hb5 hown5 hX5 hR5 hfl hp0 hx0 hoP hW5 hob htx htx2
        rw [HOP.out] at z0 z1 z2
        rw [HW5.out] at z0 z1 z2 zS r0 r1 r2 g0 g1 g2
        go_upto_region 8 with fail
        rw [← HW5.out, ← HOP.out]
        rw [← HOP.out] at z0 z1 z2
        rw [← HW5.out] at z0 z1 z2 zS r0 r1 r2 g0 g1 g2
        go_region_held3 (fun W => W.cell? ⟨oP, 0, none⟩ = some (.int .i64 wd) ∧ W.cell? ⟨oP, 1, none⟩ = some (.int .i64 hi) ∧ W.cell? ⟨oP, 2, none⟩ = some (.slice (some ⟨q, 0, none⟩) n cc) ∧ W.cell? ⟨w.heap.size, 0, none⟩ = some (.string s))
          (first | (refine CELLS.out _ ?_; first | exact hbS | exact hA0) | go_keep)
          ((go_at_call 33; (with_reducible refine (KS.out _ hA0).mono ?_); rintro e wS ⟨rfl, hbS1⟩; have hbS := hA0.trans (hbS1.mono hA0.size); obtain ⟨r0, r1, r2, g0, g1, g2⟩ := (hRS.out.below hbS).cells))
        all_goals
          have hRl := (hRS.out.below hbS).lt
          go_wp2_with fail
          refine bodyPost_ret (v := .tuple #[.agg #[.int .i64 wd, .int .i64 hi, .slice (some ⟨q, 0, none⟩) n cc], .int .i64 (6 + 4 * (n : Int)), .bool ob]) (by simp [results, Try.results65, go_sem, r0, r1, r2, hRl]) rfl ?_
          obtain ⟨ho, hfl, hbw⟩ := HOW.out
          have ho2 := (ho.below hbS).mono (B' := W2.heap.size) (Nat.le_refl _)
          have hb9 := hbw.trans (hbS.mono hbw.size)
          have ho3 := (((ho2.set (by show w.heap.size + 1 < _; omega) (.int .i64 wd) (a := ⟨w.heap.size + 1, 0, none⟩)).set (by show w.heap.size + 1 < _; omega) (.int .i64 hi) (a := ⟨w.heap.size + 1, 1, none⟩)).set (by show w.heap.size + 1 < _; omega) (.slice (some ⟨q, 0, none⟩) n cc) (a := ⟨w.heap.size + 1, 2, none⟩)).mono (B' := w.heap.size) (by omega)
          have hb10 : Below w.heap.size w _ := ((hb9.setCell (by show w.heap.size ≤ w.heap.size + 1; omega) (.int .i64 wd) (p := ⟨w.heap.size + 1, 0, none⟩)).setCell (by show w.heap.size ≤ w.heap.size + 1; omega) (.int .i64 hi) (p := ⟨w.heap.size + 1, 1, none⟩)).setCell (by show w.heap.size ≤ w.heap.size + 1; omega) (.slice (some ⟨q, 0, none⟩) n cc) (p := ⟨w.heap.size + 1, 2, none⟩)
          cases ob
          · exact fail_agg w s _ HOB.out.1 hb10 _ _ _ _ _ _
          · refine ⟨hb10, .inr ⟨HOB.out.1, q, cc, bs', ?_, ?_, ?_, ?_⟩⟩
            · rw [HHEAD.out.1, HD.out.1, HD.out.2, HN.out, show ((6 + 4 * n : Nat) : Int) = 6 + 4 * (n : Int) by omega]
            · rw [HD.out.1, HD.out.2, HN.out]; exact ho3
            · rw [HD.out.1, HD.out.2, HN.out]; exact hl'
            · rw [HHEAD.out.2.1]; exact hfl
      · have hok : okS s = false := okS_no (by
          unfold headS endS; rw [HD.out.1, HD.out.2, HN.out, decide_eq_false hen, Bool.and_false])
        clear hp0
        obtain ⟨r0, r1, r2, g0, g1, g2⟩ := HB2.out.2.2.1.cells
        have hRl := HB2.out.2.2.1.lt
        have hP0 : W2.cell? ⟨w.heap.size + 2, 0, none⟩ = some (.int .i64 wd) := HB2.out.2.2.2.cell 0
        have hen2 : decide ((s.size : Int) < 6 + 4 * (n : Int)) = true := decide_eq_true (by omega)
        have hen3 : (s.size : Int) < 6 + 4 * (n : Int) := by omega
        have HOK := Lib.hid hok
        clear hok
        go_wp2_with fail
        refine (sizeOk_any _ _ _).mono ?_
        rw [hk]
        rintro e w' ⟨rfl, rfl⟩
        go_wp2_with fail
        refine bodyPost_ret (v := .tuple #[.agg #[.int .i64 0, .int .i64 0, .slice none 0 0], .int .i64 0, .bool false]) (by simp [results, Try.results65, go_sem, r0, r1, r2, hRl]) rfl ?_
        refine fail_agg w s _ HOK.out ?_ 0 0 none 0 0 0
        exact ((HB2.out.1.setCell (p := ⟨w.heap.size + 1, 0, none⟩) (Nat.le_succ _) _).setCell (p := ⟨w.heap.size + 1, 1, none⟩) (Nat.le_succ _) _).setCell (p := ⟨w.heap.size + 1, 2, none⟩) (Nat.le_succ _) _
    · have hok : okS s = false := okS_no (by
        unfold headS; rw [HD.out.1, HD.out.2, show szOk wd hi = false from by rw [← Bool.not_eq_true]; exact hk]; simp)
      have hk2 : szOk wd hi = false := by rw [← Bool.not_eq_true]; exact hk
      clear hp0
      obtain ⟨r0, r1, r2, g0, g1, g2⟩ := HB2.out.2.2.1.cells
      have hRl := HB2.out.2.2.1.lt
      have hP0 : W2.cell? ⟨w.heap.size + 2, 0, none⟩ = some (.int .i64 wd) := HB2.out.2.2.2.cell 0
      have HOK := Lib.hid hok
      clear hok
      go_wp2_with fail
      refine (sizeOk_any _ _ _).mono ?_
      rw [hk2]
      rintro e w' ⟨rfl, rfl⟩
      go_wp2_with fail
      refine bodyPost_ret (v := .tuple #[.agg #[.int .i64 0, .int .i64 0, .slice none 0 0], .int .i64 0, .bool false]) (by simp [results, Try.results65, go_sem, r0, r1, r2, hRl]) rfl ?_
      refine fail_agg w s _ HOK.out ?_ 0 0 none 0 0 0
      exact ((HB2.out.1.setCell (p := ⟨w.heap.size + 1, 0, none⟩) (Nat.le_succ _) _).setCell (p := ⟨w.heap.size + 1, 1, none⟩) (Nat.le_succ _) _).setCell (p := ⟨w.heap.size + 1, 2, none⟩) (Nat.le_succ _) _
  · have hok : okS s = false := okS_no (by unfold headS; rw [decide_eq_false hmk]; simp)
    have KP := Lib.hid (fun W => hasPrefix_no W s (by omega) (by omega) hmk)
    obtain ⟨r0, r1, r2, g0, g1, g2⟩ := hR.cells
    have hRl := hR.lt
    have HB := Lib.hid (And.intro hb0 (And.intro hok (And.intro hR hX)))
    clear hb0 hok hR hX hW0 r0 r1 r2 g0 g1 g2 hRl
    go_enter Try.func65, Try.ntmps65
    go_wp2_with fail
    refine (KP.out _).mono ?_
    rintro e w' ⟨rfl, hw'⟩
    have hw2 : w' = W0 := by rw [HW0.out]; exact hw'.symm
    clear hw'
    subst hw2
    obtain ⟨r0, r1, r2, g0, g1, g2⟩ := HB.out.2.2.1.cells
    have hRl := HB.out.2.2.1.lt
    clear hc0
    go_wp2_with fail
    refine bodyPost_ret (v := .tuple #[.agg #[.int .i64 0, .int .i64 0, .slice none 0 0], .int .i64 0, .bool false]) (by simp [results, Try.results65, go_sem, r0, r1, r2, hRl]) rfl ?_
    refine fail_agg w s _ HB.out.2.1 ?_ 0 0 none 0 0 0
    exact ((HB.out.1.setCell (p := ⟨w.heap.size + 1, 0, none⟩) (Nat.le_succ _) _).setCell (p := ⟨w.heap.size + 1, 1, none⟩) (Nat.le_succ _) _).setCell (p := ⟨w.heap.size + 1, 2, none⟩) (Nat.le_succ _) _

theorem load_gen (w : World) (s : ByteArray) (hs2 : s.size ≤ 2000000) : Calls Try.prog 65 #[.string s] w (LoadPost w s) := by
  by_cases h : s.size < 6
  · exact load_short w s h
  · exact load_long w s (by omega) hs2

end Go.Proofs.Ytkifhajkmgeafaa
