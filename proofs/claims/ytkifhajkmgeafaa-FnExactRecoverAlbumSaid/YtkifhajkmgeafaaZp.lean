/- The reference reads a picture of any text. -/
import Derived.Test.YtkifhajkmgeafaaZo
import Derived.Test.YtkifhajkmgeafaaZd
namespace Go.Proofs.Ytkifhajkmgeafaa
open Go.RowKit
set_option maxRecDepth 100000
set_option linter.unusedVariables false
set_option linter.unusedSimpArgs false

/-- What the reference tells of a text at a place. -/
def BeginPost (w : World) (s : ByteArray) (at_ : Nat) (e : Ending) (w' : World) : Prop :=
  Below w.heap.size w w' ∧ ((okS (s.extract at_ s.size) = false ∧ ∃ (a b : Int) (sa : Option Addr) (n c : Nat) (k : Int), e = .returned (.tuple #[.agg #[.int .i64 a, .int .i64 b, .slice sa n c], .int .i64 k, .bool false])) ∨
    (okS (s.extract at_ s.size) = true ∧ ∃ (q c : Nat), e = .returned (.tuple #[.agg #[.int .i64 (hwd (s.extract at_ s.size) : Nat), .int .i64 (hhi (s.extract at_ s.size) : Nat), .slice (some ⟨q, 0, none⟩) (hwd (s.extract at_ s.size) * hhi (s.extract at_ s.size)) c], .int .i64 (at_ + endS (s.extract at_ s.size) : Nat), .bool true]) ∧
      OwnF w' w.heap.size (.slice (some ⟨q, 0, none⟩) (hwd (s.extract at_ s.size) * hhi (s.extract at_ s.size)) c) (picS (s.extract at_ s.size)).bs))

/-- The worlds in which the reference begins. -/
structure BgW (w W0 : World) : Prop where
  bel : Below w.heap.size w W0
  res : Box3 W0 w.heap.size (.int .i64 0) (.int .i64 0) (.slice none 0 0) 41
  emp : W0.heap[w.heap.size + 1]? = some (.cells #[] 97 (0, 0))
  box : Box3 W0 (w.heap.size + 2) (.int .i64 0) (.int .i64 0) (.slice (some ⟨w.heap.size + 1, 0, none⟩) 0 0) 41
  siz : W0.heap.size = w.heap.size + 3
theorem BgW.mk' (w : World) : BgW w (((w.alloc (.cells #[.int .i64 0, .int .i64 0, .slice none 0 0] 41)).alloc (.cells #[] 97)).alloc (.cells #[.int .i64 0, .int .i64 0, .slice (some ⟨w.heap.size + 1, 0, none⟩) 0 0] 41)) := by
  obtain ⟨Wx, hWx⟩ : ∃ W, W = w.alloc (.cells #[.int .i64 0, .int .i64 0, .slice none 0 0] 41) := ⟨_, rfl⟩
  obtain ⟨Wy, hWy⟩ : ∃ W, W = Wx.alloc (.cells #[] 97) := ⟨_, rfl⟩
  obtain ⟨W0, hW0⟩ : ∃ W, W = Wy.alloc (.cells #[.int .i64 0, .int .i64 0, .slice (some ⟨w.heap.size + 1, 0, none⟩) 0 0] 41) := ⟨_, rfl⟩
  have sx : Wx.heap.size = w.heap.size + 1 := by rw [hWx]; simp
  have sy : Wy.heap.size = w.heap.size + 2 := by rw [hWy]; simp; omega
  have s0 : W0.heap.size = w.heap.size + 3 := by rw [hW0]; simp; omega
  have bx : Below w.heap.size w Wx := by rw [hWx]; exact (Below.refl _ _).alloc (Nat.le_refl _) _
  have by_ : Below Wx.heap.size Wx Wy := by rw [hWy]; exact (Below.refl _ _).alloc (Nat.le_refl _) _
  have b0 : Below Wy.heap.size Wy W0 := by rw [hW0]; exact (Below.refl _ _).alloc (Nat.le_refl _) _
  rw [← hWx, ← hWy, ← hW0]
  refine ⟨(bx.trans (by_.mono bx.size)).trans (b0.mono (Nat.le_trans bx.size by_.size)), ?_, ?_, ?_, s0⟩
  · have h1 : Box3 Wx w.heap.size (.int .i64 0) (.int .i64 0) (.slice none 0 0) 41 := by rw [hWx]; exact box_last w _ _ _ _
    exact (h1.below by_).below b0
  · have h1 : Wy.heap[w.heap.size + 1]? = some (.cells #[] 97 (0, 0)) := by rw [hWy, ← sx]; exact heap_alloc_new Wx _
    rw [b0.block _ (by omega)]; exact h1
  · rw [hW0, ← sy]; exact box_last Wy _ _ _ _

set_option maxHeartbeats 4000000 in
theorem begin_short (w : World) (s : ByteArray) (a : Nat) (ha : a ≤ s.size) (hs : s.size ≤ 1500000) (h : s.size < a + 6) : Calls Try.prog 70 #[.string s, .int .i64 a] w (BeginPost w s a) := by
  have hG := BgW.mk' w
  obtain ⟨W0, hW0⟩ : ∃ W, W = (((w.alloc (.cells #[.int .i64 0, .int .i64 0, .slice none 0 0] 41)).alloc (.cells #[] 97)).alloc (.cells #[.int .i64 0, .int .i64 0, .slice (some ⟨w.heap.size + 1, 0, none⟩) 0 0] 41)) := ⟨_, rfl⟩
  rw [← hW0] at hG
  have hno : okS (s.extract a s.size) = false := okS_no (by
    unfold headS
    rw [decide_eq_false (show ¬ 6 ≤ (s.extract a s.size).size by rw [ByteArray.size_extract]; omega)]; rfl)
  have hd : decide ((s.size : Int) < (a : Int) + 6) = true := decide_eq_true (by omega)
  have hd2 : (s.size : Int) < (a : Int) + 6 := by omega
  have HG := Lib.hid (And.intro hG hno)
  have HW0 := Lib.hid hW0
  clear hG hno hW0
  go_enter Try.func70, Try.ntmps70
  go_upto_region 2 with fail
  rw [← HW0.out]
  obtain ⟨b0, b1, b2, b3, b4, b5⟩ := HG.out.1.box.cells
  have hBl := HG.out.1.box.lt
  obtain ⟨r0, r1, r2, g0, g1, g2⟩ := HG.out.1.res.cells
  have hRl := HG.out.1.res.lt
  go_quiet (fail)
  go_wp2_with fail
  refine bodyPost_ret (v := .tuple #[.agg #[.int .i64 0, .int .i64 0, .slice (some ⟨w.heap.size + 1, 0, none⟩) 0 0], .int .i64 0, .bool false]) (by simp [results, Try.results70, go_sem, r0, r1, r2, hRl]) rfl ?_
  have hbn := below_drewN HG.out.1.bel nq
  exact ⟨((hbn.setCell (p := ⟨w.heap.size, 0, none⟩) (Nat.le_refl _) _).setCell (p := ⟨w.heap.size, 1, none⟩) (Nat.le_refl _) _).setCell (p := ⟨w.heap.size, 2, none⟩) (Nat.le_refl _) _, .inl ⟨HG.out.2, _, _, _, _, _, _, rfl⟩⟩

set_option maxHeartbeats 4000000 in
theorem begin_mark (w : World) (s : ByteArray) (a : Nat) (hs : s.size ≤ 1500000) (h : a + 6 ≤ s.size) (hm : ¬ (s.extract a s.size).extract 0 4 = ⟨#[69, 89, 69, 49]⟩) : Calls Try.prog 70 #[.string s, .int .i64 a] w (BeginPost w s a) := by
  have hG := BgW.mk' w
  obtain ⟨W0, hW0⟩ : ∃ W, W = (((w.alloc (.cells #[.int .i64 0, .int .i64 0, .slice none 0 0] 41)).alloc (.cells #[] 97)).alloc (.cells #[.int .i64 0, .int .i64 0, .slice (some ⟨w.heap.size + 1, 0, none⟩) 0 0] 41)) := ⟨_, rfl⟩
  rw [← hW0] at hG
  have hno : okS (s.extract a s.size) = false := okS_no (by unfold headS; rw [decide_eq_false hm]; simp)
  have hd : decide ((s.size : Int) < (a : Int) + 6) = false := decide_eq_false (by omega)
  have hd2 : ¬ (s.size : Int) < (a : Int) + 6 := by omega
  have k1 : (a : Int) ≤ (s.size : Int) := by omega
  have k2 : (a : Int) + 4 ≤ (s.size : Int) := by omega
  have k3 : (0 : Int) ≤ (a : Int) + 4 := by omega
  have k4 : (a : Int) ≤ (a : Int) + 4 := by omega
  have k5 : ((a : Int) + 4).toNat = a + 4 := by omega
  have k6 : a ≤ a + 4 := by omega
  have w6 : IntKind.i64.wrap ((a : Int) + 6) = (a : Int) + 6 := IntWalk.i64_in _ (by omega)
  have w4 : IntKind.i64.wrap ((a : Int) + 4) = (a : Int) + 4 := IntWalk.i64_in _ (by omega)
  have w5 : IntKind.i64.wrap ((a : Int) + 5) = (a : Int) + 5 := IntWalk.i64_in _ (by omega)
  rw [ext_ext s a 4 (by omega)] at hm
  have hb : ((s.extract a (a + 4)).toList == [69, 89, 69, 49]) = false := by
    have := ba_beq (s.extract a (a + 4)) ⟨#[69, 89, 69, 49]⟩
    rw [decide_eq_false hm, ba_toList ⟨#[69, 89, 69, 49]⟩] at this
    exact this
  have HG := Lib.hid (And.intro hG hno)
  have HW0 := Lib.hid hW0
  clear hm
  clear hG hno hW0
  go_enter Try.func70, Try.ntmps70
  go_upto_region 2 with fail
  rw [← HW0.out]
  obtain ⟨b0, b1, b2, b3, b4, b5⟩ := HG.out.1.box.cells
  have hBl := HG.out.1.box.lt
  obtain ⟨r0, r1, r2, g0, g1, g2⟩ := HG.out.1.res.cells
  have hRl := HG.out.1.res.lt
  go_quiet (fail)
  go_wp2_with fail
  refine bodyPost_ret (v := .tuple #[.agg #[.int .i64 0, .int .i64 0, .slice (some ⟨w.heap.size + 1, 0, none⟩) 0 0], .int .i64 0, .bool false]) (by simp [results, Try.results70, go_sem, r0, r1, r2, hRl]) rfl ?_
  have hbn := below_drewN HG.out.1.bel nq
  exact ⟨((hbn.setCell (p := ⟨w.heap.size, 0, none⟩) (Nat.le_refl _) _).setCell (p := ⟨w.heap.size, 1, none⟩) (Nat.le_refl _) _).setCell (p := ⟨w.heap.size, 2, none⟩) (Nat.le_refl _) _, .inl ⟨HG.out.2, _, _, _, _, _, _, rfl⟩⟩

set_option maxHeartbeats 4000000 in
theorem begin_size (w : World) (s : ByteArray) (a : Nat) (hs : s.size ≤ 1500000) (h : a + 6 ≤ s.size) (hm : (s.extract a s.size).extract 0 4 = ⟨#[69, 89, 69, 49]⟩) (hk : szOk (hwd (s.extract a s.size)) (hhi (s.extract a s.size)) = false) : Calls Try.prog 70 #[.string s, .int .i64 a] w (BeginPost w s a) := by
  have hG := BgW.mk' w
  obtain ⟨W0, hW0⟩ : ∃ W, W = (((w.alloc (.cells #[.int .i64 0, .int .i64 0, .slice none 0 0] 41)).alloc (.cells #[] 97)).alloc (.cells #[.int .i64 0, .int .i64 0, .slice (some ⟨w.heap.size + 1, 0, none⟩) 0 0] 41)) := ⟨_, rfl⟩
  rw [← hW0] at hG
  have hno : okS (s.extract a s.size) = false := okS_no (by unfold headS; rw [hk]; simp)
  have hd : decide ((s.size : Int) < (a : Int) + 6) = false := decide_eq_false (by omega)
  have hd2 : ¬ (s.size : Int) < (a : Int) + 6 := by omega
  have k1 : (a : Int) ≤ (s.size : Int) := by omega
  have k2 : (a : Int) + 4 ≤ (s.size : Int) := by omega
  have k3 : (0 : Int) ≤ (a : Int) + 4 := by omega
  have k4 : (a : Int) ≤ (a : Int) + 4 := by omega
  have k5 : ((a : Int) + 4).toNat = a + 4 := by omega
  have k6 : a ≤ a + 4 := by omega
  have w6 : IntKind.i64.wrap ((a : Int) + 6) = (a : Int) + 6 := IntWalk.i64_in _ (by omega)
  have w4 : IntKind.i64.wrap ((a : Int) + 4) = (a : Int) + 4 := IntWalk.i64_in _ (by omega)
  have w5 : IntKind.i64.wrap ((a : Int) + 5) = (a : Int) + 5 := IntWalk.i64_in _ (by omega)
  rw [ext_ext s a 4 (by omega)] at hm
  have hb : ((s.extract a (a + 4)).toList == [69, 89, 69, 49]) = true := by rw [hm, ba_toList]; rfl
  have hi4 : ∀ W, (Instr.index 9 (.string s) (.int .i64 ((a : Int) + 4))).run Try.prog W = .ok (.int .u8 (hwd (s.extract a s.size) : Nat)) W := fun W => by
    rw [idx_at W s _ (by omega) (by omega), show ((a : Int) + 4).toNat = a + 4 by omega, ← byteN_ext s a 4 (by omega)]; rfl
  have hi5 : ∀ W, (Instr.index 9 (.string s) (.int .i64 ((a : Int) + 5))).run Try.prog W = .ok (.int .u8 (hhi (s.extract a s.size) : Nat)) W := fun W => by
    rw [idx_at W s _ (by omega) (by omega), show ((a : Int) + 5).toNat = a + 5 by omega, ← byteN_ext s a 5 (by omega)]; rfl
  have hl4 : hwd (s.extract a s.size) < 256 := byteN_lt _ 4
  have hl5 : hhi (s.extract a s.size) < 256 := byteN_lt _ 5
  have HG := Lib.hid (And.intro hG hno)
  clear hno
  generalize hwd (s.extract a s.size) = wd at *
  generalize hhi (s.extract a s.size) = hi at *
  have v4 : IntKind.i64.wrap (wd : Int) = (wd : Int) := IntWalk.i64_in _ (by omega)
  have v5 : IntKind.i64.wrap (hi : Int) = (hi : Int) := IntWalk.i64_in _ (by omega)
  have KS := Lib.hid (fun W n => quiet_same (s02Size_any (wd : Int) (hi : Int) (World.drewN W n)))
  rw [hk] at KS
  have HW0 := Lib.hid hW0
  clear hm
  clear hG hW0
  go_enter Try.func70, Try.ntmps70
  go_upto_region 2 with fail
  rw [← HW0.out]
  obtain ⟨b0, b1, b2, b3, b4, b5⟩ := HG.out.1.box.cells
  have hBl := HG.out.1.box.lt
  obtain ⟨r0, r1, r2, g0, g1, g2⟩ := HG.out.1.res.cells
  have hRl := HG.out.1.res.lt
  go_quiet (with_reducible exact KS.out _ _)
  go_wp2_with fail
  refine bodyPost_ret (v := .tuple #[.agg #[.int .i64 0, .int .i64 0, .slice (some ⟨w.heap.size + 1, 0, none⟩) 0 0], .int .i64 0, .bool false]) (by simp [results, Try.results70, go_sem, r0, r1, r2, hRl]) rfl ?_
  have hbn := below_drewN HG.out.1.bel nq
  exact ⟨((hbn.setCell (p := ⟨w.heap.size, 0, none⟩) (Nat.le_refl _) _).setCell (p := ⟨w.heap.size, 1, none⟩) (Nat.le_refl _) _).setCell (p := ⟨w.heap.size, 2, none⟩) (Nat.le_refl _) _, .inl ⟨HG.out.2, _, _, _, _, _, _, rfl⟩⟩

set_option maxHeartbeats 4000000 in
theorem begin_cut (w : World) (s : ByteArray) (a : Nat) (hs : s.size ≤ 1500000) (h : a + 6 ≤ s.size) (hm : (s.extract a s.size).extract 0 4 = ⟨#[69, 89, 69, 49]⟩) (hk : szOk (hwd (s.extract a s.size)) (hhi (s.extract a s.size)) = true) (hen : s.size < a + endS (s.extract a s.size)) : Calls Try.prog 70 #[.string s, .int .i64 a] w (BeginPost w s a) := by
  have hG := BgW.mk' w
  obtain ⟨W0, hW0⟩ : ∃ W, W = (((w.alloc (.cells #[.int .i64 0, .int .i64 0, .slice none 0 0] 41)).alloc (.cells #[] 97)).alloc (.cells #[.int .i64 0, .int .i64 0, .slice (some ⟨w.heap.size + 1, 0, none⟩) 0 0] 41)) := ⟨_, rfl⟩
  rw [← hW0] at hG
  have hno : okS (s.extract a s.size) = false := okS_no (by unfold headS; rw [decide_eq_false (show ¬ endS (s.extract a s.size) ≤ (s.extract a s.size).size by rw [ByteArray.size_extract]; omega)]; simp)
  have hd : decide ((s.size : Int) < (a : Int) + 6) = false := decide_eq_false (by omega)
  have hd2 : ¬ (s.size : Int) < (a : Int) + 6 := by omega
  have k1 : (a : Int) ≤ (s.size : Int) := by omega
  have k2 : (a : Int) + 4 ≤ (s.size : Int) := by omega
  have k3 : (0 : Int) ≤ (a : Int) + 4 := by omega
  have k4 : (a : Int) ≤ (a : Int) + 4 := by omega
  have k5 : ((a : Int) + 4).toNat = a + 4 := by omega
  have k6 : a ≤ a + 4 := by omega
  have w6 : IntKind.i64.wrap ((a : Int) + 6) = (a : Int) + 6 := IntWalk.i64_in _ (by omega)
  have w4 : IntKind.i64.wrap ((a : Int) + 4) = (a : Int) + 4 := IntWalk.i64_in _ (by omega)
  have w5 : IntKind.i64.wrap ((a : Int) + 5) = (a : Int) + 5 := IntWalk.i64_in _ (by omega)
  rw [ext_ext s a 4 (by omega)] at hm
  have hb : ((s.extract a (a + 4)).toList == [69, 89, 69, 49]) = true := by rw [hm, ba_toList]; rfl
  have hi4 : ∀ W, (Instr.index 9 (.string s) (.int .i64 ((a : Int) + 4))).run Try.prog W = .ok (.int .u8 (hwd (s.extract a s.size) : Nat)) W := fun W => by
    rw [idx_at W s _ (by omega) (by omega), show ((a : Int) + 4).toNat = a + 4 by omega, ← byteN_ext s a 4 (by omega)]; rfl
  have hi5 : ∀ W, (Instr.index 9 (.string s) (.int .i64 ((a : Int) + 5))).run Try.prog W = .ok (.int .u8 (hhi (s.extract a s.size) : Nat)) W := fun W => by
    rw [idx_at W s _ (by omega) (by omega), show ((a : Int) + 5).toNat = a + 5 by omega, ← byteN_ext s a 5 (by omega)]; rfl
  have hl4 : hwd (s.extract a s.size) < 256 := byteN_lt _ 4
  have hl5 : hhi (s.extract a s.size) < 256 := byteN_lt _ 5
  have HG := Lib.hid (And.intro hG hno)
  unfold endS at hen
  obtain ⟨d1, d2, d3, d4, d5⟩ := szOk_spec hk
  clear hno
  generalize hwd (s.extract a s.size) = wd at *
  generalize hhi (s.extract a s.size) = hi at *
  have v4 : IntKind.i64.wrap (wd : Int) = (wd : Int) := IntWalk.i64_in _ (by omega)
  have v5 : IntKind.i64.wrap (hi : Int) = (hi : Int) := IntWalk.i64_in _ (by omega)
  obtain ⟨n, hn⟩ : ∃ n, wd * hi = n := ⟨_, rfl⟩
  have em0 : (wd : Int) * (hi : Int) = (n : Int) := by rw [← hn, Int.natCast_mul]
  have hn3 : n ≤ 256 := by rw [em0] at d5; omega
  rw [hn] at hen
  clear hn
  have he1 : decide ((s.size : Int) < (a : Int) + 6 + 4 * (n : Int)) = true := decide_eq_true (by omega)
  have he2 : (s.size : Int) < (a : Int) + 6 + 4 * (n : Int) := by omega
  clear d1 d2 d3 d4 d5
  have KS := Lib.hid (fun W n => quiet_same (s02Size_any (wd : Int) (hi : Int) (World.drewN W n)))
  rw [hk] at KS
  have HW0 := Lib.hid hW0
  clear hm
  clear hG hW0
  go_enter Try.func70, Try.ntmps70
  go_upto_region 2 with fail
  rw [← HW0.out]
  obtain ⟨b0, b1, b2, b3, b4, b5⟩ := HG.out.1.box.cells
  have hBl := HG.out.1.box.lt
  obtain ⟨r0, r1, r2, g0, g1, g2⟩ := HG.out.1.res.cells
  have hRl := HG.out.1.res.lt
  go_quiet (with_reducible exact KS.out _ _)
  go_wp2_with fail
  refine bodyPost_ret (v := .tuple #[.agg #[.int .i64 wd, .int .i64 hi, .slice (some ⟨w.heap.size + 1, 0, none⟩) 0 0], .int .i64 0, .bool false]) (by simp [results, Try.results70, go_sem, r0, r1, r2, hRl]) rfl ?_
  have hbn := below_drewN HG.out.1.bel nq
  refine ⟨?_, .inl ⟨HG.out.2, _, _, _, _, _, _, rfl⟩⟩
  exact ((((hbn.setCell (p := ⟨w.heap.size + 1 + 1, 0, none⟩) (by show w.heap.size ≤ w.heap.size + 1 + 1; omega) _).setCell (p := ⟨w.heap.size + 1 + 1, 1, none⟩) (by show w.heap.size ≤ w.heap.size + 1 + 1; omega) _).setCell (p := ⟨w.heap.size, 0, none⟩) (Nat.le_refl _) _).setCell (p := ⟨w.heap.size, 1, none⟩) (Nat.le_refl _) _).setCell (p := ⟨w.heap.size, 2, none⟩) (Nat.le_refl _) _

end Go.Proofs.Ytkifhajkmgeafaa
