/- load and LoadPicture. -/
import Derived.Test.YtkifhajkmgeafaaUg
import Derived.Test.YtkifhajkmgeafaaPix
import Derived.Deep.RegionHeld3
import Derived.StillTactics
import Derived.Deep.CutRange
namespace Go.Proofs.Ytkifhajkmgeafaa
open Go.RowKit
set_option maxRecDepth 100000
set_option linter.unusedVariables false
set_option linter.unusedSimpArgs false

/-- A picture of the same numbers, made anew. -/
def Loads (w : World) (wd hi n : Nat) (bs : List Nat) (f : Value → Value) (e : Ending) (w' : World) : Prop :=
  ∃ (q c : Nat) (bs' : List Nat), e = .returned (f (.agg #[.int .i64 wd, .int .i64 hi, .slice (some ⟨q, 0, none⟩) n c])) ∧ OwnF w' w.heap.size (.slice (some ⟨q, 0, none⟩) n c) bs' ∧ bs'.length = n ∧ bs'.map fl = bs.map fl ∧ Below w.heap.size w w'

set_option maxHeartbeats 4000000 in
theorem load_any (w : World) (s : ByteArray) (wd hi n m : Nat) (bs : List Nat) (hv : vPic wd hi n = true) (hN : n = wd * hi) (h1 : 1 ≤ wd) (h2 : wd ≤ 24) (h3 : 1 ≤ hi) (h4 : hi ≤ 24) (hn : n ≤ 256) (hm : m ≤ 10) (hl : bs.length = n) (hlt : ∀ b ∈ bs, b < 4294967296) (ht : TextOf s wd hi n bs m) :
    Calls Try.prog 65 #[.string s] w (Loads w wd hi n bs (fun v => .tuple #[v, .int .i64 ((6 + 4 * n : Nat) : Int), .bool true])) := by
  obtain ⟨W0, hW0⟩ : ∃ W0, W0 = (w.alloc (.cells #[.string s] 9)).alloc (.cells #[.int .i64 0, .int .i64 0, .slice none 0 0] 41) := ⟨_, rfl⟩
  have hb0 : Below w.heap.size w W0 := by rw [hW0]; exact below_two w _ _
  have hX : BoxN W0 w.heap.size #[.string s] 9 := by rw [hW0]; exact BoxN.first w #[.string s] 9 _
  have hR : Box3 W0 (w.heap.size + 1) (.int .i64 0) (.int .i64 0) (.slice none 0 0) 41 := by rw [hW0]; exact box_second w _ _ _ _ _
  have hsz : W0.heap.size = w.heap.size + 2 := by rw [hW0]; simp
  have hs4 : ∀ W, (Instr.index 9 (.string s) (.int .i64 4)).run Try.prog W = .ok (.int .u8 (wd : Int)) W := fun W => by
    have := ht.size
    rw [idx_at W s 4 (by omega) (by omega), show (4 : Int).toNat = 4 from rfl, ht.b4]
  have hs5 : ∀ W, (Instr.index 9 (.string s) (.int .i64 5)).run Try.prog W = .ok (.int .u8 (hi : Int)) W := fun W => by
    have := ht.size
    rw [idx_at W s 5 (by omega) (by omega), show (5 : Int).toNat = 5 from rfl, ht.b5]
  have hss := ht.size
  have KP := Lib.hid (fun W => hasPrefix_yes W s (by omega) (by omega) ht.mark)
  have c0 := hX.cell 0
  have hc0 : W0.cell? ⟨w.heap.size, 0, none⟩ = some (.string s) := c0
  rw [hW0] at hc0
  have HW0 := Lib.hid hW0
  have HB := Lib.hid (And.intro hb0 (And.intro hX hR))
  have HT := Lib.hid ht
  have HN := Lib.hid hN
  have w4 : IntKind.i64.wrap (wd : Int) = (wd : Int) := IntWalk.i64_in _ (by omega)
  have w5 : IntKind.i64.wrap (hi : Int) = (hi : Int) := IntWalk.i64_in _ (by omega)
  have hd6 : decide (6 + 4 * (n : Int) + (m : Int) < 6) = false := decide_eq_false (by omega)
  have h6 : ¬ (6 + 4 * (n : Int) + (m : Int) < 6) := by omega
  clear c0 hb0 hX hR ht hW0 hN
  go_enter Try.func65, Try.ntmps65
  go_wp2_with fail
  refine (KP.out _).mono ?_
  rintro e w' ⟨rfl, hw'⟩
  have hw2 : w' = W0 := by rw [HW0.out]; exact hw'.symm
  clear hw'
  subst hw2
  clear hc0
  have hc0 := HB.out.2.1.cell 0
  have hc1 : w'.cell? ⟨w.heap.size, 0, none⟩ = some (.string s) := hc0
  clear hc0
  go_upto_region 3 with fail
  go_region
  obtain ⟨W2, hW2⟩ : ∃ W, W = (w'.alloc (.cells #[.int .i64 wd] 2)).drew := ⟨_, rfl⟩
  rw [← hW2]
  obtain ⟨hb0, hX, hR⟩ := HB.out
  have hb2 : Below w'.heap.size w' W2 := by rw [hW2]; exact below_drewN ((Below.refl _ _).alloc (Nat.le_refl _) _) 1
  have hP : BoxN W2 (w.heap.size + 2) #[.int .i64 wd] 2 := by rw [hW2, ← hsz]; exact BoxN.drewN (BoxN.last w' #[.int .i64 wd] 2) 1
  have HB2 := Lib.hid (And.intro (hb0.trans (hb2.mono hb0.size)) (And.intro (hX.below hb2) (And.intro (hR.below hb2) hP)))
  have hp0 : W2.cell? ⟨w.heap.size + 2, 0, none⟩ = some (.int .i64 wd) := hP.cell 0
  have hx0 : W2.cell? ⟨w.heap.size, 0, none⟩ = some (.string s) := (hX.below hb2).cell 0
  have hs2 : W2.heap.size = w.heap.size + 3 := by rw [hW2]; show (w'.alloc _).heap.size = _; simp; omega
  clear hW2 hb0 hX hR hb2 hP hc1
  have em1 : 4 * (wd : Int) * (hi : Int) = 4 * (n : Int) := by rw [HN.out, Int.natCast_mul, Int.mul_assoc]
  have em2 : 4 * ((wd : Int) * (hi : Int)) = 4 * (n : Int) := by rw [HN.out, Int.natCast_mul]
  have hszk : szOk wd hi = true := by
    have h := hv
    unfold vPic at h
    rw [Bool.and_eq_true] at h
    exact h.1
  have hg9 : decide (6 + 4 * (n : Int) + (m : Int) < 6 + 4 * (n : Int)) = false := decide_eq_false (by omega)
  have hg : Gives2 W2 (.func (.func 84) #[] #[.pointer (some ⟨w.heap.size + 2, 0, none⟩), .pointer (some ⟨w.heap.size, 0, none⟩)]) wd hi (fun x y => fl (bs.getD (x + wd * y) 0)) := by
    refine ⟨84, _, rfl, Try.call84, fun x y W hx hy hbW => ?_⟩
    have hlt2 : x + wd * y < n := by
      rw [HN.out]
      calc x + wd * y < wd + wd * y := by omega
        _ = wd * (y + 1) := by rw [Nat.mul_succ]; omega
        _ ≤ wd * hi := Nat.mul_le_mul_left _ hy
    have hq : bs.getD (x + wd * y) 0 < 4294967296 := by
      rw [List.getD_eq_getElem?_getD, List.getElem?_eq_getElem (by omega)]
      exact hlt _ (List.getElem_mem _)
    refine (load1_any W (w.heap.size + 2) w.heap.size wd x y s (fl (bs.getD (x + wd * y) 0)) (fl_lt hq) hx h2 (by omega) (by omega) (by omega) ((HB2.out.2.2.2.below hbW).cell 0) ((HB2.out.2.1.below hbW).cell 0) (fun j hj => HT.out.at_ _ j hlt2 hj)).mono ?_
    rintro e w'' ⟨rfl, k, rfl⟩
    exact ⟨_, rfl, fl_lt hq, fl_fl _, below_drewN (Below.refl _ _) k⟩
  have KG := Lib.hid (made_any W2 wd hi _ _ h2 h4 hg)
  clear hg
  go_wp2_with fail
  refine (sizeOk_any _ _ _).mono ?_
  rw [hszk]
  rintro e w' ⟨rfl, rfl⟩
  go_wp2_with fail
  refine KG.out.mono ?_
  rintro e w4 ⟨a, cc, bs', rfl, hown, hcon, hb4⟩
  have hfl : bs'.map fl = bs.map fl := tab_same hcon (by rw [hl, HN.out]) (fun x y hx hy => by
    show fl (bs.getD ((x + wd * y) % wd + wd * ((x + wd * y) / wd)) 0) = _
    rw [md1 hx, md2 hx, ix_in hx hy])
  have hl' : bs'.length = n := by have := congrArg List.length hfl; rw [List.length_map, List.length_map, hl] at this; exact this
  have hn1 : 1 ≤ n := by rw [HN.out]; exact Nat.mul_pos h1 h3
  obtain ⟨q, rfl⟩ : ∃ q, a = some ⟨q, 0, none⟩ := by
    rcases hown.form with ⟨_, h2⟩ | ⟨q, cap, h1, _⟩
    · rw [h2] at hl'; simp at hl'; omega
    · injection h1 with e1; exact ⟨q, e1⟩
  rw [hl'] at hown ⊢
  obtain ⟨W5, hW5⟩ : ∃ W, W = w4.alloc (.cells #[.int .i64 wd, .int .i64 hi, .slice (some ⟨q, 0, none⟩) n cc] 41) := ⟨_, rfl⟩
  have ha5 : Below w4.heap.size w4 W5 := by rw [hW5]; exact (Below.refl _ _).alloc (Nat.le_refl _) _
  obtain ⟨oP, hoP⟩ : ∃ o, o = w4.heap.size := ⟨_, rfl⟩
  have hWs := hb4.size
  have hQ : Box3 W5 oP (.int .i64 wd) (.int .i64 hi) (.slice (some ⟨q, 0, none⟩) n cc) 41 := by rw [hW5, hoP]; exact box_last w4 _ _ _ _
  have hb5 : Below W2.heap.size W2 W5 := hb4.trans (ha5.mono hb4.size)
  have hown5 := hown.below ha5
  have hX5 := HB2.out.2.1.below hb5
  have hR5 := HB2.out.2.2.1.below hb5
  have KS := Lib.hid (fun W (hW : Below W5.heap.size W5 W) => stored_any W wd hi q cc n bs' hl' h2 h4 (by omega) (hown5.sl.below hW))
  rw [stoL_fl hfl] at KS
  have CELLS := Lib.hid (show ∀ W, Below W5.heap.size W5 W → W.cell? ⟨oP, 0, none⟩ = some (.int .i64 wd) ∧ W.cell? ⟨oP, 1, none⟩ = some (.int .i64 hi) ∧ W.cell? ⟨oP, 2, none⟩ = some (.slice (some ⟨q, 0, none⟩) n cc) ∧ W.cell? ⟨w.heap.size, 0, none⟩ = some (.string s) from fun W hW => by
    obtain ⟨u0, u1, u2, -, -, -⟩ := (hQ.below hW).cells
    exact ⟨u0, u1, u2, (hX5.below hW).cell 0⟩)
  obtain ⟨z0, z1, z2, zS⟩ := CELLS.out W5 (Below.refl _ _)
  have hRS := Lib.hid hR5
  obtain ⟨r0, r1, r2, g0, g1, g2⟩ := hR5.cells
  have hxc : s.extract 0 (6 + 4 * n) = ⟨(stoL wd hi bs).toArray⟩ := HT.out.cut
  have hxn : (6 + 4 * (n : Int)).toNat = 6 + 4 * n := by omega
  have hxl : 6 + 4 * (n : Int) ≤ (s.size : Int) := by rw [hss]; omega
  have hxl0 : (0 : Int) ≤ 6 + 4 * (n : Int) := by omega
  have hxl2 : 6 + 4 * (n : Int) ≤ 6 + 4 * (n : Int) + (m : Int) := by omega
  have hxl3 : 6 + 4 * n ≤ 6 + 4 * n + m := by omega
  have hxl4 : (0 : Int) ≤ (m : Int) := by omega
  have hne1 : ¬ oP = w.heap.size + 1 := by omega
  have hne2 : ¬ w.heap.size + 1 = oP := by omega
  have hA0 : Below W5.heap.size W5 W5.drew := below_drewN (Below.refl _ _) 1
  have HOW := Lib.hid (And.intro hown5 (And.intro hfl (HB2.out.1.trans (hb5.mono HB2.out.1.size))))
  have hoq := (hown5.lt (k := q) rfl).1
  have HW5 := Lib.hid hW5
  have HOP := Lib.hid hoP
  clear hcon hown hb4 ha5 hQ hb5 hown5 hX5 hR5 hfl hp0 hx0 hoP hW5
  rw [HOP.out] at z0 z1 z2
  rw [HW5.out] at z0 z1 z2 zS r0 r1 r2 g0 g1 g2
  go_upto_region 8 with fail
  rw [← HW5.out, ← HOP.out]
  rw [← HOP.out] at z0 z1 z2
  rw [← HW5.out] at z0 z1 z2 zS r0 r1 r2 g0 g1 g2
  go_region_held3 (fun W => W.cell? ⟨oP, 0, none⟩ = some (.int .i64 wd) ∧ W.cell? ⟨oP, 1, none⟩ = some (.int .i64 hi) ∧ W.cell? ⟨oP, 2, none⟩ = some (.slice (some ⟨q, 0, none⟩) n cc) ∧ W.cell? ⟨w.heap.size, 0, none⟩ = some (.string s))
    (first | (refine CELLS.out _ ?_; first | exact hbS | exact hA0) | go_keep)
    ((go_at_call 33; (with_reducible refine (KS.out _ hA0).mono ?_); rintro e wS ⟨rfl, hbS1⟩; have hbS := hA0.trans (hbS1.mono hA0.size); obtain ⟨r0, r1, r2, g0, g1, g2⟩ := (hRS.out.below hbS).cells))
  all_goals
    have hRl := (hRS.out.below hbS).lt
    go_wp2_with fail
    refine bodyPost_ret (v := .tuple #[.agg #[.int .i64 wd, .int .i64 hi, .slice (some ⟨q, 0, none⟩) n cc], .int .i64 (6 + 4 * (n : Int)), .bool true]) (by simp [results, Try.results65, go_sem, r0, r1, r2, hRl]) rfl ?_
    obtain ⟨ho, hfl, hbw⟩ := HOW.out
    have ho2 := (ho.below hbS).mono (B' := W2.heap.size) (Nat.le_refl _)
    have hb9 := hbw.trans (hbS.mono hbw.size)
    refine ⟨q, cc, bs', by rw [show ((6 + 4 * n : Nat) : Int) = 6 + 4 * (n : Int) by omega], ?_, hl', hfl, ?_⟩
    · exact (((ho2.set (by show w.heap.size + 1 < _; omega) (.int .i64 wd) (a := ⟨w.heap.size + 1, 0, none⟩)).set (by show w.heap.size + 1 < _; omega) (.int .i64 hi) (a := ⟨w.heap.size + 1, 1, none⟩)).set (by show w.heap.size + 1 < _; omega) (.slice (some ⟨q, 0, none⟩) n cc) (a := ⟨w.heap.size + 1, 2, none⟩)).mono (by omega)
    · exact ((hb9.setCell (by show w.heap.size ≤ w.heap.size + 1; omega) _).setCell (by show w.heap.size ≤ w.heap.size + 1; omega) _).setCell (by show w.heap.size ≤ w.heap.size + 1; omega) _

end Go.Proofs.Ytkifhajkmgeafaa
