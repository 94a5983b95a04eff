/- The reference reads a picture: where there is one. -/
import Derived.Test.YtkifhajkmgeafaaZq
import Derived.Test.YtkifhajkmgeafaaKa
namespace Go.Proofs.Ytkifhajkmgeafaa
open Go.RowKit
set_option maxRecDepth 100000
set_option linter.unusedVariables false
set_option linter.unusedSimpArgs false

theorem cell_one_drw (w : World) (x : Value) (t : TypeId) : ∀ j u, [x][j]? = some u → ((w.alloc (.cells #[x] t)).drew).cell? ((⟨w.heap.size, 0, none⟩ : Addr).add j) = some u := fun j u h => cell_one_new w x t j u h
set_option maxHeartbeats 0 in
theorem begin_long (w : World) (s : ByteArray) (a : Nat) (hs : s.size ≤ 1500000) (h : a + 6 ≤ s.size) (hm : (s.extract a s.size).extract 0 4 = ⟨#[69, 89, 69, 49]⟩) (hk : szOk (hwd (s.extract a s.size)) (hhi (s.extract a s.size)) = true) (hen : a + endS (s.extract a s.size) ≤ s.size) : Calls Try.prog 70 #[.string s, .int .i64 a] w (BeginPost w s a) := by
  have hG := BgW.mk' w
  obtain ⟨wA, hwA⟩ : ∃ wA, wA = w.alloc (.cells #[.int .i64 0, .int .i64 0, .slice none 0 0] 41) := ⟨_, rfl⟩
  have hwA2 : wA.heap.size = w.heap.size + 1 := by rw [hwA]; simp
  obtain ⟨i0, hi0, hz0, hz1, hz2⟩ := info_parts info_f32
  obtain ⟨W0, hW0⟩ : ∃ W, W = (((w.alloc (.cells #[.int .i64 0, .int .i64 0, .slice none 0 0] 41)).alloc (.cells #[] 97)).alloc (.cells #[.int .i64 0, .int .i64 0, .slice (some ⟨w.heap.size + 1, 0, none⟩) 0 0] 41)) := ⟨_, rfl⟩
  rw [← hW0] at hG
  have HWA := Lib.hid (And.intro hwA2 (And.intro (show Below wA.heap.size wA W0 by rw [hW0, ← hwA]; exact ((Below.refl wA.heap.size wA).alloc (Nat.le_refl _) _).alloc (by simp) _) (show Box3 wA w.heap.size (.int .i64 0) (.int .i64 0) (.slice none 0 0) 41 by rw [hwA]; exact box_last w _ _ _ _)))
  have HWB := Lib.hid (show Below w.heap.size w wA by rw [hwA]; exact (Below.refl _ _).alloc (Nat.le_refl _) _)
  clear hwA hwA2
  have hd : decide ((s.size : Int) < (a : Int) + 6) = false := decide_eq_false (by omega)
  have hd2 : ¬ (s.size : Int) < (a : Int) + 6 := by omega
  have k1 : (a : Int) ≤ (s.size : Int) := by omega
  have k2 : (a : Int) + 4 ≤ (s.size : Int) := by omega
  have k3 : (0 : Int) ≤ (a : Int) + 4 := by omega
  have k4 : (a : Int) ≤ (a : Int) + 4 := by omega
  have k5 : ((a : Int) + 4).toNat = a + 4 := by omega
  have k6 : a ≤ a + 4 := by omega
  have w6 : IntKind.i64.wrap ((a : Int) + 6) = (a : Int) + 6 := IntWalk.i64_in _ (by omega)
  have w4 : IntKind.i64.wrap ((a : Int) + 4) = (a : Int) + 4 := IntWalk.i64_in _ (by omega)
  have w5 : IntKind.i64.wrap ((a : Int) + 5) = (a : Int) + 5 := IntWalk.i64_in _ (by omega)
  have HMK := Lib.hid hm
  rw [ext_ext s a 4 (by omega)] at hm
  have hb : ((s.extract a (a + 4)).toList == [69, 89, 69, 49]) = true := by rw [hm, ba_toList]; rfl
  have hi4 : ∀ W, (Instr.index 9 (.string s) (.int .i64 ((a : Int) + 4))).run Try.prog W = .ok (.int .u8 (hwd (s.extract a s.size) : Nat)) W := fun W => by
    rw [idx_at W s _ (by omega) (by omega), show ((a : Int) + 4).toNat = a + 4 by omega, ← byteN_ext s a 4 (by omega)]; rfl
  have hi5 : ∀ W, (Instr.index 9 (.string s) (.int .i64 ((a : Int) + 5))).run Try.prog W = .ok (.int .u8 (hhi (s.extract a s.size) : Nat)) W := fun W => by
    rw [idx_at W s _ (by omega) (by omega), show ((a : Int) + 5).toNat = a + 5 by omega, ← byteN_ext s a 5 (by omega)]; rfl
  have hl4 : hwd (s.extract a s.size) < 256 := byteN_lt _ 4
  have hl5 : hhi (s.extract a s.size) < 256 := byteN_lt _ 5
  have HG := Lib.hid (And.intro hG trivial)
  unfold endS at hen
  obtain ⟨d1, d2, d3, d4, d5⟩ := szOk_spec hk
  generalize hwd0 : hwd (s.extract a s.size) = wd at *
  generalize hhi0 : hhi (s.extract a s.size) = hi at *
  have HD := Lib.hid (And.intro hwd0 hhi0)
  have HK := Lib.hid hk
  clear hwd0 hhi0
  have v4 : IntKind.i64.wrap (wd : Int) = (wd : Int) := IntWalk.i64_in _ (by omega)
  have v5 : IntKind.i64.wrap (hi : Int) = (hi : Int) := IntWalk.i64_in _ (by omega)
  obtain ⟨n, hn⟩ : ∃ n, wd * hi = n := ⟨_, rfl⟩
  have em0 : (wd : Int) * (hi : Int) = (n : Int) := by rw [← hn, Int.natCast_mul]
  have hn3 : n ≤ 256 := by rw [em0] at d5; omega
  rw [hn] at hen
  have HN := Lib.hid hn
  have hn1 : 1 ≤ n := by rw [← hn]; exact Nat.mul_pos (by omega) (by omega)
  clear hn
  have he1 : decide ((s.size : Int) < (a : Int) + 6 + 4 * (n : Int)) = false := decide_eq_false (by omega)
  have he2 : ¬ (s.size : Int) < (a : Int) + 6 + 4 * (n : Int) := by omega
  clear d1 d2 d3 d4 d5
  have KS := Lib.hid (fun W n => quiet_same (s02Size_any (wd : Int) (hi : Int) (World.drewN W n)))
  rw [hk] at KS
  have HW0 := Lib.hid hW0
  have HEN := Lib.hid hen
  clear hm
  clear hG hW0 hen
  go_enter Try.func70, Try.ntmps70
  go_upto_region 2 with fail
  rw [← HW0.out]
  obtain ⟨b0, b1, b2, b3, b4, b5⟩ := HG.out.1.box.cells
  have hBl := HG.out.1.box.lt
  obtain ⟨r0, r1, r2, g0, g1, g2⟩ := HG.out.1.res.cells
  have hRl := HG.out.1.res.lt
  go_quiet (with_reducible exact KS.out _ _)
  go_upto_region 9 with fail
  obtain ⟨W1, hW1⟩ : ∃ W, W = ((W0.drewN nq).setCell ⟨w.heap.size + 1 + 1, 0, none⟩ (.int .i64 (wd : Int))).setCell ⟨w.heap.size + 1 + 1, 1, none⟩ (.int .i64 (hi : Int)) := ⟨_, rfl⟩
  rw [← hW1]
  have hacc : AccP wA W1 (w.heap.size + 1 + 1) wd hi (.slice (some ⟨w.heap.size + 1, 0, none⟩) 0 0) [] := by
    obtain ⟨g1, g2, g3, g4, g5⟩ := HG.out.1
    have h1 : Below wA.heap.size wA (W0.drewN nq) := below_drewN HWA.out.2.1 nq
    have hb3 : BoxN (W0.drewN nq) (w.heap.size + 1 + 1) #[.int .i64 0, .int .i64 0, .slice (some ⟨w.heap.size + 1, 0, none⟩) 0 0] 41 := BoxN.drewN (show BoxN W0 (w.heap.size + 2) _ _ from g4) nq
    have hem : OwnF (W0.drewN nq) wA.heap.size (.slice (some ⟨w.heap.size + 1, 0, none⟩) 0 0) [] :=
      ⟨⟨rfl, .inr ⟨w.heap.size + 1, 0, #[], rfl, by rw [HWA.out.1]; exact Nat.le_refl _, g3, Nat.le_refl _, by unfold maxLen; omega, rfl, rfl⟩⟩, by simp⟩
    have hle : wA.heap.size ≤ w.heap.size + 1 + 1 := by rw [HWA.out.1]; omega
    rw [hW1]
    refine ⟨(h1.setCell (p := ⟨w.heap.size + 1 + 1, 0, none⟩) hle _).setCell (p := ⟨w.heap.size + 1 + 1, 1, none⟩) hle _, ?_, ?_, by simp [Value.ownBlock], hle⟩
    · have := ((hb3.set 0 (.int .i64 (wd : Int))).set 1 (.int .i64 (hi : Int))).three
      simpa using this
    · exact (hem.grown (grown_setCell _ ⟨w.heap.size + 1 + 1, 0, none⟩ _) (.inr (by simp [Value.ownBlock]))).grown (grown_setCell _ ⟨w.heap.size + 1 + 1, 1, none⟩ _) (.inr (by simp [Value.ownBlock]))
  obtain ⟨ob, hob⟩ : ∃ ob, ob = w.heap.size + 1 + 1 := ⟨_, rfl⟩
  rw [← hob] at hacc ⊢
  have HACC := Lib.hid hacc
  have HOB := Lib.hid hob
  have HRES := Lib.hid HWA.out.2.2
  clear hacc hW1 hob r0 r1 r2 g0 g1 g2 hRl b0 b1 b2 b3 b4 b5 hBl hi4 hi5 hd hd2 he1 he2 hb v4 v5 hk
  go_wp2_with fail
  go_loopw [9] (fun v9 wr => ∃ (i : Nat) (v : Value) (cs : List Nat), v9 = .int .i64 i ∧ i ≤ n ∧ AccP wA wr ob wd hi v cs ∧ cs = (List.range i).map (wrdS (s.extract a s.size))) (fun v9 _ => n - (intOf v9).toNat)
  case atStart => exact ⟨0, _, [], rfl, Nat.zero_le _, HACC.out, rfl⟩
  case round =>
    clear HACC
    obtain ⟨i, v2, cs2, rfl, hi_, hacc, hcs⟩ := hrel
    by_cases hlt : i < n
    · have hbel := hacc.bel
      have hown := hacc.own
      have hne := hacc.ne
      have hobf := hacc.obf
      have hbox := hacc.box
      have hL : cs2.length = i := by rw [hcs]; simp
      rw [hL.symm] at hlt hi_ ⊢
      have hB := hacc.box.lt
      have hBs := hbel.size
      have HS := Lib.hid hacc
      have HCS := Lib.hid hcs
      have hltI : (cs2.length : Int) < (n : Int) := by omega
      have HLT := Lib.hid hlt
      have h600 : cs2.length ≤ 600 := by omega
      have hsI : (a : Int) + 6 + 4 * (cs2.length : Int) + 3 < (s.size : Int) := by have := HEN.out; omega
      obtain ⟨b, hbb⟩ : ∃ b : Nat, b = a + 6 + 4 * cs2.length := ⟨_, rfl⟩
      have hbI : (a : Int) + 6 + 4 * (cs2.length : Int) = (b : Int) := by omega
      have x0 : ∀ W, (Instr.index 9 (.string s) (.int .i64 (b : Int))).run Try.prog W = .ok (.int .u8 (byteN s b : Nat)) W := fun W => by
        rw [idx_at W s _ (by omega) (by omega), Int.toNat_natCast]
      have x1 : ∀ W, (Instr.index 9 (.string s) (.int .i64 ((b : Int) + 1))).run Try.prog W = .ok (.int .u8 (byteN s (b + 1) : Nat)) W := fun W => by
        rw [idx_at W s _ (by omega) (by omega), show ((b : Int) + 1).toNat = b + 1 by omega]
      have x2 : ∀ W, (Instr.index 9 (.string s) (.int .i64 ((b : Int) + 2))).run Try.prog W = .ok (.int .u8 (byteN s (b + 2) : Nat)) W := fun W => by
        rw [idx_at W s _ (by omega) (by omega), show ((b : Int) + 2).toNat = b + 2 by omega]
      have x3 : ∀ W, (Instr.index 9 (.string s) (.int .i64 ((b : Int) + 3))).run Try.prog W = .ok (.int .u8 (byteN s (b + 3) : Nat)) W := fun W => by
        rw [idx_at W s _ (by omega) (by omega), show ((b : Int) + 3).toNat = b + 3 by omega]
      have hw : wrdS (s.extract a s.size) cs2.length = byteN s b + 256 * byteN s (b + 1) + 65536 * byteN s (b + 2) + 16777216 * byteN s (b + 3) := by
        unfold wrdS
        rw [byteN_ext s a _ (by omega), byteN_ext s a _ (by omega), byteN_ext s a _ (by omega), byteN_ext s a _ (by omega)]
        rw [show a + (6 + 4 * cs2.length) = b by omega, show a + (6 + 4 * cs2.length + 1) = b + 1 by omega, show a + (6 + 4 * cs2.length + 2) = b + 2 by omega, show a + (6 + 4 * cs2.length + 3) = b + 3 by omega]
      have l0 := byteN_lt s b
      have l1 := byteN_lt s (b + 1)
      have l2 := byteN_lt s (b + 2)
      have l3 := byteN_lt s (b + 3)
      generalize byteN s b = d0 at *
      generalize byteN s (b + 1) = d1 at *
      generalize byteN s (b + 2) = d2 at *
      generalize byteN s (b + 3) = d3 at *
      obtain ⟨o1, o2, o3⟩ := or_four d0 d1 d2 d3 l0 l1 l2 l3
      obtain ⟨r1, hr1⟩ : ∃ r, d0 + 256 * d1 = r := ⟨_, rfl⟩
      rw [hr1] at o1 o2 o3 hw
      obtain ⟨r2, hr2⟩ : ∃ r, r1 + 65536 * d2 = r := ⟨_, rfl⟩
      rw [hr2] at o2 o3 hw
      obtain ⟨rr, hr3⟩ : ∃ r, r2 + 16777216 * d3 = r := ⟨_, rfl⟩
      rw [hr3] at o3 hw
      have hrl : rr < 4294967296 := by omega
      have KF := Lib.hid (fun W => s01From_any (rr : Int) W (by omega) (by omega))
      rw [Int.toNat_natCast] at KF
      have HRLT := Lib.hid hrl
      have wb1 : IntKind.i64.wrap ((b : Int) + 1) = (b : Int) + 1 := IntWalk.i64_in _ (by omega)
      have wb2 : IntKind.i64.wrap ((b : Int) + 2) = (b : Int) + 2 := IntWalk.i64_in _ (by omega)
      have wb3 : IntKind.i64.wrap ((b : Int) + 3) = (b : Int) + 3 := IntWalk.i64_in _ (by omega)
      have wc0 : IntKind.i64.wrap (d0 : Int) = (d0 : Int) := IntWalk.i64_in _ (by omega)
      have wc1 : IntKind.i64.wrap (d1 : Int) = (d1 : Int) := IntWalk.i64_in _ (by omega)
      have wc2 : IntKind.i64.wrap (d2 : Int) = (d2 : Int) := IntWalk.i64_in _ (by omega)
      have wc3 : IntKind.i64.wrap (d3 : Int) = (d3 : Int) := IntWalk.i64_in _ (by omega)
      have wd1 : IntKind.i64.wrap ((d1 : Int) * 256) = (d1 : Int) * 256 := IntWalk.i64_in _ (by omega)
      have wd2 : IntKind.i64.wrap ((d2 : Int) * 65536) = (d2 : Int) * 65536 := IntWalk.i64_in _ (by omega)
      have wd3 : IntKind.i64.wrap ((d3 : Int) * 16777216) = (d3 : Int) * 16777216 := IntWalk.i64_in _ (by omega)
      have HW := Lib.hid hw
      have HL := Lib.hid hL
      have HBI := Lib.hid hbI
      have hb64 : (b : Int) + 3 < 9223372036854775807 := by omega
      clear hw hrl hr1 hr2 hr3 hacc hcs hL hbb hsI hi_
      go_upto_region 13 with fail
      obtain ⟨c0, c1, c2, -, -, -⟩ := hbox.cells
      have hrow : wr.ownsRow wA.heap.size 97 1 v2 cs2.length (cs2.map (Value.float .f32)) := hown.1
      clear c0 c1 k1 k2 k3 k4 k5 k6 w6 w4 w5 hl4 hl5 em0 l0 l1 l2 l3 hlt hltI hn3 hn1 h hs hbI KS HEN HG HW0
      refine wp_region_noPanic ?_
      refine wp_region_any (by kernel_rfl) ?_
      change wpAny _ _ _ _ _ _ _ (World.drew _)
      refine wpAny_take (i := 0) (v := ?v0) rfl (by kernel_rfl) (by kernel_rfl) (by kernel_rfl) (fun _ _ _ h => h) (Or.inl ⟨by rfl, ?y0⟩) ?r0
      case y0 => (intro w; go_simp; try with_reducible rfl)
      try simp only [Act.put, List.setIfInBounds_toArray, List.set_cons_zero, List.set_cons_succ]
      refine wpAny_take (i := 2) (v := ?v2) rfl (by kernel_rfl) (by kernel_rfl) (by kernel_rfl) (fun _ _ _ h => h) (Or.inl ⟨by rfl, ?y2⟩) ?r2
      case y2 => (intro w; go_simp; try with_reducible rfl)
      try simp only [Act.put, List.setIfInBounds_toArray, List.set_cons_zero, List.set_cons_succ]
      refine wpAny_take (i := 3) (v := ?v3) rfl (by kernel_rfl) (by kernel_rfl) (by kernel_rfl) (fun _ _ _ h => h) (Or.inl ⟨by rfl, ?y3⟩) ?r3
      case y3 => (intro w; go_simp; try with_reducible rfl)
      try simp only [Act.put, List.setIfInBounds_toArray, List.set_cons_zero, List.set_cons_succ]
      refine wpAny_take (i := 4) (v := ?v4) rfl (by kernel_rfl) (by kernel_rfl) (by kernel_rfl) (fun _ _ _ h => h) (Or.inl ⟨by rfl, ?y4⟩) ?r4
      case y4 => (intro w; go_simp; try with_reducible rfl)
      try simp only [Act.put, List.setIfInBounds_toArray, List.set_cons_zero, List.set_cons_succ]
      refine wpAny_take (i := 5) (v := ?v5) rfl (by kernel_rfl) (by kernel_rfl) (by kernel_rfl) (fun _ _ _ h => h) (Or.inl ⟨by rfl, ?y5⟩) ?r5
      case y5 => (intro w; go_simp; try with_reducible rfl)
      try simp only [Act.put, List.setIfInBounds_toArray, List.set_cons_zero, List.set_cons_succ]
      refine wpAny_take (i := 6) (v := ?v6) rfl (by kernel_rfl) (by kernel_rfl) (by kernel_rfl) (fun _ _ _ h => h) (Or.inl ⟨by rfl, ?y6⟩) ?r6
      case y6 => (intro w; go_simp; try with_reducible rfl)
      try simp only [Act.put, List.setIfInBounds_toArray, List.set_cons_zero, List.set_cons_succ]
      refine wpAny_take (i := 7) (v := ?v7) rfl (by kernel_rfl) (by kernel_rfl) (by kernel_rfl) (fun _ _ _ h => h) (Or.inl ⟨by rfl, ?y7⟩) ?r7
      case y7 => (intro w; go_simp; try with_reducible rfl)
      try simp only [Act.put, List.setIfInBounds_toArray, List.set_cons_zero, List.set_cons_succ]
      refine wpAny_take (i := 8) (v := ?v8) rfl (by kernel_rfl) (by kernel_rfl) (by kernel_rfl) (fun _ _ _ h => h) (Or.inl ⟨by rfl, ?y8⟩) ?r8
      case y8 => (intro w; go_simp; try with_reducible rfl)
      try simp only [Act.put, List.setIfInBounds_toArray, List.set_cons_zero, List.set_cons_succ]
      refine wpAny_take (i := 9) (v := ?v9) rfl (by kernel_rfl) (by kernel_rfl) (by kernel_rfl) (fun _ _ _ h => h) (Or.inl ⟨by rfl, ?y9⟩) ?r9
      case y9 => (intro w; go_simp; try with_reducible rfl)
      try simp only [Act.put, List.setIfInBounds_toArray, List.set_cons_zero, List.set_cons_succ]
      refine wpAny_take (i := 10) (v := ?v10) rfl (by kernel_rfl) (by kernel_rfl) (by kernel_rfl) (fun _ _ _ h => h) (Or.inl ⟨by rfl, ?y10⟩) ?r10
      case y10 => (intro w; go_simp; try with_reducible rfl)
      try simp only [Act.put, List.setIfInBounds_toArray, List.set_cons_zero, List.set_cons_succ]
      refine wpAny_take (i := 11) (v := ?v11) rfl (by kernel_rfl) (by kernel_rfl) (by kernel_rfl) (fun _ _ _ h => h) (Or.inl ⟨by rfl, ?y11⟩) ?r11
      case y11 => (intro w; go_simp; try with_reducible rfl)
      try simp only [Act.put, List.setIfInBounds_toArray, List.set_cons_zero, List.set_cons_succ]
      refine wpAny_take (i := 12) (v := ?v12) rfl (by kernel_rfl) (by kernel_rfl) (by kernel_rfl) (fun _ _ _ h => h) (Or.inl ⟨by rfl, ?y12⟩) ?r12
      case y12 => (intro w; go_simp; try with_reducible rfl)
      try simp only [Act.put, List.setIfInBounds_toArray, List.set_cons_zero, List.set_cons_succ]
      refine wpAny_take (i := 13) (v := ?v13) rfl (by kernel_rfl) (by kernel_rfl) (by kernel_rfl) (fun _ _ _ h => h) (Or.inl ⟨by rfl, ?y13⟩) ?r13
      case y13 => (intro w; go_simp; try with_reducible rfl)
      try simp only [Act.put, List.setIfInBounds_toArray, List.set_cons_zero, List.set_cons_succ]
      refine wpAny_take (i := 14) (v := ?v14) rfl (by kernel_rfl) (by kernel_rfl) (by kernel_rfl) (fun _ _ _ h => h) (Or.inl ⟨by rfl, ?y14⟩) ?r14
      case y14 => (intro w; go_simp; try with_reducible rfl)
      try simp only [Act.put, List.setIfInBounds_toArray, List.set_cons_zero, List.set_cons_succ]
      refine wpAny_take (i := 15) (v := ?v15) rfl (by kernel_rfl) (by kernel_rfl) (by kernel_rfl) (fun _ _ _ h => h) (Or.inl ⟨by rfl, ?y15⟩) ?r15
      case y15 => (intro w; go_simp; try with_reducible rfl)
      try simp only [Act.put, List.setIfInBounds_toArray, List.set_cons_zero, List.set_cons_succ]
      refine wpAny_take (i := 16) (v := ?v16) rfl (by kernel_rfl) (by kernel_rfl) (by kernel_rfl) (fun _ _ _ h => h) (Or.inl ⟨by rfl, ?y16⟩) ?r16
      case y16 => (intro w; go_simp; try with_reducible rfl)
      try simp only [Act.put, List.setIfInBounds_toArray, List.set_cons_zero, List.set_cons_succ]
      refine wpAny_take (i := 17) (v := ?v17) rfl (by kernel_rfl) (by kernel_rfl) (by kernel_rfl) (fun _ _ _ h => h) (Or.inl ⟨by rfl, ?y17⟩) ?r17
      case y17 => (intro w; go_simp; try with_reducible rfl)
      try simp only [Act.put, List.setIfInBounds_toArray, List.set_cons_zero, List.set_cons_succ]
      refine wpAny_take (i := 18) (v := ?v18) rfl (by kernel_rfl) (by kernel_rfl) (by kernel_rfl) (fun _ _ _ h => h) (Or.inl ⟨by rfl, ?y18⟩) ?r18
      case y18 => (intro w; go_simp; try with_reducible rfl)
      try simp only [Act.put, List.setIfInBounds_toArray, List.set_cons_zero, List.set_cons_succ]
      refine wpAny_take (i := 19) (v := ?v19) rfl (by kernel_rfl) (by kernel_rfl) (by kernel_rfl) (fun _ _ _ h => h) (Or.inl ⟨by rfl, ?y19⟩) ?r19
      case y19 => (intro w; go_simp; try with_reducible rfl)
      try simp only [Act.put, List.setIfInBounds_toArray, List.set_cons_zero, List.set_cons_succ]
      refine wpAny_take (i := 20) (v := ?v20) rfl (by kernel_rfl) (by kernel_rfl) (by kernel_rfl) (fun _ _ _ h => h) (Or.inl ⟨by rfl, ?y20⟩) ?r20
      case y20 => (intro w; go_simp; try with_reducible rfl)
      try simp only [Act.put, List.setIfInBounds_toArray, List.set_cons_zero, List.set_cons_succ]
      refine wpAny_take (i := 21) (v := ?v21) rfl (by kernel_rfl) (by kernel_rfl) (by kernel_rfl) (fun _ _ _ h => h) (Or.inl ⟨by rfl, ?y21⟩) ?r21
      case y21 => (intro w; go_simp; try with_reducible rfl)
      try simp only [Act.put, List.setIfInBounds_toArray, List.set_cons_zero, List.set_cons_succ]
      refine wpAny_take (i := 22) (v := ?v22) rfl (by kernel_rfl) (by kernel_rfl) (by kernel_rfl) (fun _ _ _ h => h) (Or.inl ⟨by rfl, ?y22⟩) ?r22
      case y22 => (intro w; go_simp; try with_reducible rfl)
      try simp only [Act.put, List.setIfInBounds_toArray, List.set_cons_zero, List.set_cons_succ]
      refine wpAny_take (i := 23) (v := ?v23) rfl (by kernel_rfl) (by kernel_rfl) (by kernel_rfl) (fun _ _ _ h => h) (Or.inl ⟨by rfl, ?y23⟩) ?r23
      case y23 => (intro w; go_simp; try with_reducible rfl)
      try simp only [Act.put, List.setIfInBounds_toArray, List.set_cons_zero, List.set_cons_succ]
      refine wpAny_take (i := 24) (v := ?v24) rfl (by kernel_rfl) (by kernel_rfl) (by kernel_rfl) (fun _ _ _ h => h) (Or.inl ⟨by rfl, ?y24⟩) ?r24
      case y24 => (intro w; go_simp; try with_reducible rfl)
      try simp only [Act.put, List.setIfInBounds_toArray, List.set_cons_zero, List.set_cons_succ]
      refine wpAny_take (i := 25) (v := ?v25) rfl (by kernel_rfl) (by kernel_rfl) (by kernel_rfl) (fun _ _ _ h => h) (Or.inl ⟨by rfl, ?y25⟩) ?r25
      case y25 => (intro w; go_simp; try with_reducible rfl)
      try simp only [Act.put, List.setIfInBounds_toArray, List.set_cons_zero, List.set_cons_succ]
      refine wpAny_take (i := 26) (v := ?v26) rfl (by kernel_rfl) (by kernel_rfl) (by kernel_rfl) (fun _ _ _ h => h) (Or.inl ⟨by rfl, ?y26⟩) ?r26
      case y26 => (intro w; go_simp; try with_reducible rfl)
      try simp only [Act.put, List.setIfInBounds_toArray, List.set_cons_zero, List.set_cons_succ]
      refine wpAny_ready (rs := [1, 27]) (by kernel_rfl) (by simp) ?_
      refine AllReady.cons rfl (fun K hK => ?_) ?_
      · go_simp
        refine hK _ _ ?_
        clear hK K
        try simp only [Act.put, List.setIfInBounds_toArray, List.set_cons_zero, List.set_cons_succ]
        refine wpAny_ready (rs := [27]) (by kernel_rfl) (by simp) ?_
        refine AllReady.cons rfl (fun K hK => ?_) ?_
        · go_simp
          refine (KF.out _).mono ?_
          rintro e w1 ⟨rfl, rfl⟩
          (try dsimp only)
          refine hK _ _ ?_
          clear hK K
          try simp only [Act.put, List.setIfInBounds_toArray, List.set_cons_zero, List.set_cons_succ]
          refine wpAny_ready (rs := [28]) (by kernel_rfl) (by simp) ?_
          refine AllReady.cons rfl (fun K hK => ?_) ?_
          · go_simp
            refine hK _ _ ?_
            clear hK K
            try simp only [Act.put, List.setIfInBounds_toArray, List.set_cons_zero, List.set_cons_succ]
            refine wpAny_ready (rs := [29]) (by kernel_rfl) (by simp) ?_
            refine AllReady.cons rfl (fun K hK => ?_) ?_
            · refine step_append_lies _ (by rfl) _ _ _ (by rfl) wA.heap.size 97 i0 _ 1 4 Try.underlying39 hi0 hz0 hz1 hz2 rfl (by omega) v2 cs2.length _ (by rfl) (World.ownsRow.drew (World.ownsRow.alloc hrow _)) ⟨wr.heap.size, 0, none⟩ 1 1 [.float .f32 rr] (by rfl) (by rfl) (cell_one_drw _ _ _) (by simp [Value.oneCell']) (by omega) (by unfold maxLen; omega) (by omega) (by simp; omega) (wr.heap.size + 1) (by simp) ?_
              intro gg cap w2 hown2 hgrow hat hlt2
              have hgrow2 : (wr.alloc (.cells #[.float .f32 rr] 97)).grownBy w2 v2.ownBlock := ⟨hgrow.os, hgrow.tape, hgrow.output, hgrow.size, hgrow.block⟩
              clear hgrow
              obtain ⟨q0, q1, q2, g0, g1, g2⟩ := ((hbox.below ((Below.refl wr.heap.size wr).alloc (Nat.le_refl _) _)).grown hgrow2 hne).cells
              try go_simp
              refine hK _ _ ?_
              clear hK K
              try simp only [Act.put, List.setIfInBounds_toArray, List.set_cons_zero, List.set_cons_succ]
              refine wpAny_ready (rs := [30]) (by kernel_rfl) (by simp) ?_
              refine AllReady.cons rfl (fun K hK => ?_) ?_
              · go_simp
                refine hK _ _ ?_
                clear hK K
                try simp only [Act.put, List.setIfInBounds_toArray, List.set_cons_zero, List.set_cons_succ]
                refine wpAny_ready (rs := [31]) (by kernel_rfl) (by simp) ?_
                refine AllReady.cons rfl (fun K hK => ?_) ?_
                · go_simp
                  refine hK _ _ ?_
                  clear hK K
                  try simp only [Act.put, List.setIfInBounds_toArray, List.set_cons_zero, List.set_cons_succ]
                  refine wpAny_done (by kernel_rfl) ?_ _
                  refine NoPanic.normal ?_
                  go_wp2_with fail
                  go_roundw
                  case rel => exact ⟨i + 1, _, cs2 ++ [rr], by rw [← HL.out]; go_num, by have := HL.out; have := HLT.out; omega, HS.out.step (Below.refl _ _) HRLT.out hown2 hgrow2 hat, by rw [HCS.out, ← HW.out, HL.out, List.range_succ, List.map_append]; rfl⟩
                  case measure => simp [intOf]; have := HLT.out; omega
                exact AllReady.nil
              exact AllReady.nil
            exact AllReady.nil
          exact AllReady.nil
        exact AllReady.nil
      refine AllReady.cons rfl (fun K hK => ?_) ?_
      · go_simp
        refine (KF.out _).mono ?_
        rintro e w1 ⟨rfl, rfl⟩
        (try dsimp only)
        refine hK _ _ ?_
        clear hK K
        try simp only [Act.put, List.setIfInBounds_toArray, List.set_cons_zero, List.set_cons_succ]
        refine wpAny_ready (rs := [1, 28]) (by kernel_rfl) (by simp) ?_
        refine AllReady.cons rfl (fun K hK => ?_) ?_
        · go_simp
          refine hK _ _ ?_
          clear hK K
          try simp only [Act.put, List.setIfInBounds_toArray, List.set_cons_zero, List.set_cons_succ]
          refine wpAny_ready (rs := [28]) (by kernel_rfl) (by simp) ?_
          refine AllReady.cons rfl (fun K hK => ?_) ?_
          · go_simp
            refine hK _ _ ?_
            clear hK K
            try simp only [Act.put, List.setIfInBounds_toArray, List.set_cons_zero, List.set_cons_succ]
            refine wpAny_ready (rs := [29]) (by kernel_rfl) (by simp) ?_
            refine AllReady.cons rfl (fun K hK => ?_) ?_
            · refine step_append_lies _ (by rfl) _ _ _ (by rfl) wA.heap.size 97 i0 _ 1 4 Try.underlying39 hi0 hz0 hz1 hz2 rfl (by omega) v2 cs2.length _ (by rfl) (World.ownsRow.drew (World.ownsRow.alloc hrow _)) ⟨wr.heap.size, 0, none⟩ 1 1 [.float .f32 rr] (by rfl) (by rfl) (cell_one_drw _ _ _) (by simp [Value.oneCell']) (by omega) (by unfold maxLen; omega) (by omega) (by simp; omega) (wr.heap.size + 1) (by simp) ?_
              intro gg cap w2 hown2 hgrow hat hlt2
              have hgrow2 : (wr.alloc (.cells #[.float .f32 rr] 97)).grownBy w2 v2.ownBlock := ⟨hgrow.os, hgrow.tape, hgrow.output, hgrow.size, hgrow.block⟩
              clear hgrow
              obtain ⟨q0, q1, q2, g0, g1, g2⟩ := ((hbox.below ((Below.refl wr.heap.size wr).alloc (Nat.le_refl _) _)).grown hgrow2 hne).cells
              try go_simp
              refine hK _ _ ?_
              clear hK K
              try simp only [Act.put, List.setIfInBounds_toArray, List.set_cons_zero, List.set_cons_succ]
              refine wpAny_ready (rs := [30]) (by kernel_rfl) (by simp) ?_
              refine AllReady.cons rfl (fun K hK => ?_) ?_
              · go_simp
                refine hK _ _ ?_
                clear hK K
                try simp only [Act.put, List.setIfInBounds_toArray, List.set_cons_zero, List.set_cons_succ]
                refine wpAny_ready (rs := [31]) (by kernel_rfl) (by simp) ?_
                refine AllReady.cons rfl (fun K hK => ?_) ?_
                · go_simp
                  refine hK _ _ ?_
                  clear hK K
                  try simp only [Act.put, List.setIfInBounds_toArray, List.set_cons_zero, List.set_cons_succ]
                  refine wpAny_done (by kernel_rfl) ?_ _
                  refine NoPanic.normal ?_
                  go_wp2_with fail
                  go_roundw
                  case rel => exact ⟨i + 1, _, cs2 ++ [rr], by rw [← HL.out]; go_num, by have := HL.out; have := HLT.out; omega, HS.out.step (Below.refl _ _) HRLT.out hown2 hgrow2 hat, by rw [HCS.out, ← HW.out, HL.out, List.range_succ, List.map_append]; rfl⟩
                  case measure => simp [intOf]; have := HLT.out; omega
                exact AllReady.nil
              exact AllReady.nil
            exact AllReady.nil
          exact AllReady.nil
        refine AllReady.cons rfl (fun K hK => ?_) ?_
        · go_simp
          refine hK _ _ ?_
          clear hK K
          try simp only [Act.put, List.setIfInBounds_toArray, List.set_cons_zero, List.set_cons_succ]
          refine wpAny_ready (rs := [1]) (by kernel_rfl) (by simp) ?_
          refine AllReady.cons rfl (fun K hK => ?_) ?_
          · go_simp
            refine hK _ _ ?_
            clear hK K
            try simp only [Act.put, List.setIfInBounds_toArray, List.set_cons_zero, List.set_cons_succ]
            refine wpAny_ready (rs := [29]) (by kernel_rfl) (by simp) ?_
            refine AllReady.cons rfl (fun K hK => ?_) ?_
            · refine step_append_lies _ (by rfl) _ _ _ (by rfl) wA.heap.size 97 i0 _ 1 4 Try.underlying39 hi0 hz0 hz1 hz2 rfl (by omega) v2 cs2.length _ (by rfl) (World.ownsRow.drew (World.ownsRow.alloc hrow _)) ⟨wr.heap.size, 0, none⟩ 1 1 [.float .f32 rr] (by rfl) (by rfl) (cell_one_drw _ _ _) (by simp [Value.oneCell']) (by omega) (by unfold maxLen; omega) (by omega) (by simp; omega) (wr.heap.size + 1) (by simp) ?_
              intro gg cap w2 hown2 hgrow hat hlt2
              have hgrow2 : (wr.alloc (.cells #[.float .f32 rr] 97)).grownBy w2 v2.ownBlock := ⟨hgrow.os, hgrow.tape, hgrow.output, hgrow.size, hgrow.block⟩
              clear hgrow
              obtain ⟨q0, q1, q2, g0, g1, g2⟩ := ((hbox.below ((Below.refl wr.heap.size wr).alloc (Nat.le_refl _) _)).grown hgrow2 hne).cells
              try go_simp
              refine hK _ _ ?_
              clear hK K
              try simp only [Act.put, List.setIfInBounds_toArray, List.set_cons_zero, List.set_cons_succ]
              refine wpAny_ready (rs := [30]) (by kernel_rfl) (by simp) ?_
              refine AllReady.cons rfl (fun K hK => ?_) ?_
              · go_simp
                refine hK _ _ ?_
                clear hK K
                try simp only [Act.put, List.setIfInBounds_toArray, List.set_cons_zero, List.set_cons_succ]
                refine wpAny_ready (rs := [31]) (by kernel_rfl) (by simp) ?_
                refine AllReady.cons rfl (fun K hK => ?_) ?_
                · go_simp
                  refine hK _ _ ?_
                  clear hK K
                  try simp only [Act.put, List.setIfInBounds_toArray, List.set_cons_zero, List.set_cons_succ]
                  refine wpAny_done (by kernel_rfl) ?_ _
                  refine NoPanic.normal ?_
                  go_wp2_with fail
                  go_roundw
                  case rel => exact ⟨i + 1, _, cs2 ++ [rr], by rw [← HL.out]; go_num, by have := HL.out; have := HLT.out; omega, HS.out.step (Below.refl _ _) HRLT.out hown2 hgrow2 hat, by rw [HCS.out, ← HW.out, HL.out, List.range_succ, List.map_append]; rfl⟩
                  case measure => simp [intOf]; have := HLT.out; omega
                exact AllReady.nil
              exact AllReady.nil
            exact AllReady.nil
          exact AllReady.nil
        exact AllReady.nil
      exact AllReady.nil
    · obtain rfl : n = i := by omega
      have hlen : cs2.length = n := by rw [hcs]; simp
      have hob := hacc.own
      obtain ⟨va, vc, rfl⟩ := hob.sl.len
      obtain ⟨q, rfl⟩ := own_ptr_k hob (by omega)
      rw [hlen] at hacc hob
      have hpic : (picS (s.extract a s.size)).bs = cs2 := by unfold picS; rw [HD.out.1, HD.out.2, HN.out, hcs]
      have hend : endS (s.extract a s.size) = 6 + 4 * n := by unfold endS; rw [HD.out.1, HD.out.2, HN.out]
      have KST := Lib.hid (fun W (hb : Below wr.heap.size wr W) => s07Store_any W ob wd hi q vc n cs2 hlen (by omega) (by omega) (by omega) (hacc.box.below hb) (hob.below hb).sl)
      obtain ⟨tb, htb⟩ : ∃ tb : ByteArray, (⟨(stoL wd hi cs2).toArray⟩ : ByteArray) = tb := ⟨_, rfl⟩
      rw [htb] at KST
      have hen := HEN.out
      have hv : (tb.toList == (s.extract a (a + 6 + 4 * n)).toList) = okS (s.extract a s.size) := by
        rw [ba_beq]
        unfold okS headS
        rw [HD.out.1, HD.out.2, HK.out, hend]
        rw [decide_eq_true HMK.out, decide_eq_true (show 6 ≤ (s.extract a s.size).size by rw [ByteArray.size_extract]; omega), decide_eq_true (show 6 + 4 * n ≤ (s.extract a s.size).size by rw [ByteArray.size_extract]; omega)]
        rw [ext_ext s a _ (by omega), show a + (6 + 4 * n) = a + 6 + 4 * n by omega]
        have : (picS (s.extract a s.size)).txt = stoL wd hi cs2 := by
          unfold PicB.txt; rw [hpic]; unfold picS; rw [HD.out.1, HD.out.2]
        rw [this, htb]
        simp only [Bool.true_and, Bool.and_true]
        exact decide_eq_decide.2 ⟨fun h => h.symm, fun h => h.symm⟩
      obtain ⟨en, hen2⟩ : ∃ en : Nat, en = a + 6 + 4 * n := ⟨_, rfl⟩
      rw [← hen2] at hv
      have henI : (a : Int) + 6 + 4 * (n : Int) = (en : Int) := by omega
      have hens : (en : Int) ≤ (s.size : Int) := by omega
      have haI : (a : Int) ≤ (en : Int) := by omega
      have hen0 : (0 : Int) ≤ (en : Int) := by omega
      have haN : a ≤ en := by omega
      obtain ⟨okv, hokv⟩ : ∃ b, okS (s.extract a s.size) = b := ⟨_, rfl⟩
      rw [hokv] at hv
      have hsz2 := hacc.bel.size
      have hs1 := HWA.out.1
      have hobne : ob ≠ w.heap.size := by rw [HOB.out]; omega
      have hlt2 := hacc.box.lt
      have HS := Lib.hid (And.intro hacc (And.intro hob (And.intro hlen (And.intro hpic (And.intro hend hokv)))))
      have HEN2 := Lib.hid hen2
      clear hpic hend htb hen hokv hcs hob hen2 hlen
      obtain ⟨p0, p1, p2, -, -, -⟩ := hacc.box.cells
      obtain ⟨r0, r1, r2, g0, g1, g2⟩ := (HRES.out.below hacc.bel).cells
      clear hacc
      go_upto_region 15 with fail
      have hA1 : Below wr.heap.size wr wr.drew := below_drewN (Below.refl _ _) 1
      have CELLS := Lib.hid (fun W (hW : Below wr.heap.size wr W) => (show W.cell? ⟨ob, 0, none⟩ = some (.int .i64 wd) ∧ W.cell? ⟨ob, 1, none⟩ = some (.int .i64 hi) ∧ W.cell? ⟨ob, 2, none⟩ = some (.slice (some ⟨q, 0, none⟩) n vc) from by
        have := (HS.out.1.box.below hW).cells
        exact ⟨this.1, this.2.1, this.2.2.1⟩))
      have RES := Lib.hid (fun W (hW : Below wr.heap.size wr W) => (show Box3 W w.heap.size (.int .i64 0) (.int .i64 0) (.slice none 0 0) 41 from (HRES.out.below HS.out.1.bel).below hW))
      have hneS : some ob ≠ some w.heap.size := by intro e; injection e with e; exact hobne e
      have SETS := Lib.hid (fun W (hW : Below wr.heap.size wr W) x y z => (show (((W.setCell ⟨w.heap.size, 0, none⟩ x).setCell ⟨w.heap.size, 1, none⟩ y).setCell ⟨w.heap.size, 2, none⟩ z).cell? ⟨ob, 0, none⟩ = some (.int .i64 wd) ∧ (((W.setCell ⟨w.heap.size, 0, none⟩ x).setCell ⟨w.heap.size, 1, none⟩ y).setCell ⟨w.heap.size, 2, none⟩ z).cell? ⟨ob, 1, none⟩ = some (.int .i64 hi) ∧ (((W.setCell ⟨w.heap.size, 0, none⟩ x).setCell ⟨w.heap.size, 1, none⟩ y).setCell ⟨w.heap.size, 2, none⟩ z).cell? ⟨ob, 2, none⟩ = some (.slice (some ⟨q, 0, none⟩) n vc) from by
        have := ((((HS.out.1.box.below hW).grown (grown_setCell W ⟨w.heap.size, 0, none⟩ x) hneS).grown (grown_setCell _ ⟨w.heap.size, 1, none⟩ y) hneS).grown (grown_setCell _ ⟨w.heap.size, 2, none⟩ z) hneS).cells
        exact ⟨this.1, this.2.1, this.2.2.1⟩))
      go_region_held3 (fun W => W.cell? ⟨ob, 0, none⟩ = some (.int .i64 wd) ∧ W.cell? ⟨ob, 1, none⟩ = some (.int .i64 hi) ∧ W.cell? ⟨ob, 2, none⟩ = some (.slice (some ⟨q, 0, none⟩) n vc))
        (first | exact CELLS.out _ hbS | exact CELLS.out _ hA1 | exact SETS.out _ hbS _ _ _ | go_keep)
        ((go_at_call 89; (with_reducible refine (KST.out _ hA1).mono ?_); rintro e wS ⟨rfl, hbS1⟩; have hbS := hA1.trans (hbS1.mono hA1.size); obtain ⟨r0, r1, r2, g0, g1, g2⟩ := (RES.out _ hbS).cells))
      have hq2 : (wS.setCell ⟨w.heap.size, 0, none⟩ (.int .i64 wd)).setCell ⟨w.heap.size, 1, none⟩ (.int .i64 hi) = (wS.setCell ⟨w.heap.size, 0, none⟩ (.int .i64 wd)).setCell ⟨w.heap.size, 1, none⟩ (.int .i64 hi) := rfl
      clear hq2
      go_wp2_with fail
      refine bodyPost_ret (v := .tuple #[.agg #[.int .i64 wd, .int .i64 hi, .slice (some ⟨q, 0, none⟩) n vc], .int .i64 en, .bool okv]) (by simp [results, Try.results70, go_sem, r0, r1, r2]) rfl ?_
      have hwA0 : Below w.heap.size w wA := HWB.out
      have hbw : Below w.heap.size w wS := hwA0.trans ((HS.out.1.bel.trans (hbS.mono hsz2)).mono hwA0.size)
      have hset : (some q : Option Nat) ≠ some w.heap.size := by
        have h9 := (HS.out.2.1.lt (k := q) rfl).1
        rw [HWA.out.1] at h9
        intro e
        simp at e
        omega
      refine ⟨((hbw.setCell (p := ⟨w.heap.size, 0, none⟩) (Nat.le_refl _) _).setCell (p := ⟨w.heap.size, 1, none⟩) (Nat.le_refl _) _).setCell (p := ⟨w.heap.size, 2, none⟩) (Nat.le_refl _) _, ?_⟩
      cases hk : okv
      · refine .inl ⟨by rw [HS.out.2.2.2.2.2, hk], _, _, _, _, _, _, rfl⟩
      · refine .inr ⟨by rw [HS.out.2.2.2.2.2, hk], q, vc, ?_, ?_⟩
        · rw [HD.out.1, HD.out.2, HN.out, HS.out.2.2.2.2.1, show a + (6 + 4 * n) = en by rw [HEN2.out]; omega]
        · rw [HD.out.1, HD.out.2, HN.out, HS.out.2.2.2.1]
          exact (((((HS.out.2.1.below hbS).grown (grown_setCell _ ⟨w.heap.size, 0, none⟩ _) (.inr hset)).grown (grown_setCell _ ⟨w.heap.size, 1, none⟩ _) (.inr hset)).grown (grown_setCell _ ⟨w.heap.size, 2, none⟩ _) (.inr hset))).mono (by omega)

theorem begin_any (w : World) (s : ByteArray) (a : Nat) (ha : a ≤ s.size) (hs : s.size ≤ 1500000) : Calls Try.prog 70 #[.string s, .int .i64 a] w (BeginPost w s a) := by
  by_cases h : s.size < a + 6
  · exact begin_short w s a ha hs h
  · by_cases hm : (s.extract a s.size).extract 0 4 = ⟨#[69, 89, 69, 49]⟩
    · cases hk : szOk (hwd (s.extract a s.size)) (hhi (s.extract a s.size))
      · exact begin_size w s a hs (by omega) hm hk
      · by_cases he : s.size < a + endS (s.extract a s.size)
        · exact begin_cut w s a hs (by omega) hm hk he
        · exact begin_long w s a hs (by omega) hm hk (by omega)
    · exact begin_mark w s a hs (by omega) hm

end Go.Proofs.Ytkifhajkmgeafaa
