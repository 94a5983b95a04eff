/- Windows of pictures at any places, by words. -/
import Derived.Test.YtabbjilgpfnacaaGreatEd
import Derived.Test.YtabbjilgpfnacaaGreatVm
import Derived.StillTactics
namespace Go.Proofs.YtabbjilgpfnacaaGreat
open Go.RowKit Ieee
set_option maxRecDepth 100000
set_option linter.unusedVariables false
set_option linter.unusedSimpArgs false

/-- Sums of windows, row by row. -/
def rwS (F : Nat → Nat) (wd hi : Nat) (u v : Int) (a : Nat) : Nat → Nat
  | 0 => a
  | n + 1 => fop .add (rwS F wd hi u v a n) (F (ix (u + n) v wd hi))
def wnS (F : Nat → Nat) (wd hi : Nat) (u v : Int) (n : Nat) : Nat → Nat
  | 0 => 0
  | k + 1 => rwS F wd hi u (v + k) (wnS F wd hi u v n k) n
theorem rwS_congr {F G : Nat → Nat} {wd hi : Nat} (h : ∀ i, i < wd * hi → F i = G i) (hw : 0 < wd) (hh : 0 < hi) (u v : Int) (a n : Nat) : rwS F wd hi u v a n = rwS G wd hi u v a n := by
  induction n with
  | zero => rfl
  | succ n ih => unfold rwS; rw [ih, h _ (ix_lt _ _ hw hh)]
theorem wnS_congr {F G : Nat → Nat} {wd hi : Nat} (h : ∀ i, i < wd * hi → F i = G i) (hw : 0 < wd) (hh : 0 < hi) (u v : Int) (n k : Nat) : wnS F wd hi u v n k = wnS G wd hi u v n k := by
  induction k with
  | zero => rfl
  | succ k ih => unfold wnS; rw [ih, rwS_congr h hw hh]
/-- The mean of a window. -/
def boxW (F : Nat → Nat) (wd hi r x y : Nat) : Nat := fop .quo (wnS F wd hi ((x : Int) - r) ((y : Int) - r) (2 * r + 1) (2 * r + 1)) (fl (floatOfInt .f32 (((2 * r + 1) * (2 * r + 1) : Nat) : Int)))
theorem boxW_congr {F G : Nat → Nat} {wd hi : Nat} (h : ∀ i, i < wd * hi → F i = G i) (hw : 0 < wd) (hh : 0 < hi) (r x y : Nat) : boxW F wd hi r x y = boxW G wd hi r x y := by
  unfold boxW; rw [wnS_congr h hw hh]

theorem PicI.drewN {W : World} {pb o wd hi : Nat} {v : Value} {bs : List Nat} (h : PicI W pb o wd hi v bs) (n : Nat) : PicI (W.drewN n) pb o wd hi v bs := ⟨h.c0, h.c1, h.c2, ⟨h.sl.1.drewN n, h.sl.2⟩, h.len, h.lt⟩

theorem aboutI (W : World) (pb o wd hi : Nat) (v : Value) (bs : List Nat) (x y : Int) (hw : 0 < wd) (hh : 0 < hi) (hw2 : wd ≤ 1000) (hh2 : hi ≤ 1000) (h : PicI W pb o wd hi v bs) :
    Calls Tryz.prog 68 #[.pointer (some ⟨pb, o, none⟩), .int .i64 x, .int .i64 y] W fun e w' => e = .returned (.float .f32 (bs.getD (ix x y wd hi) 0)) ∧ ∃ n, w' = W.drewN n := by
  obtain ⟨c0, c1, c2, hsl, hl, hpl⟩ := h
  have hix := ix_lt x y hw hh
  have hne : bs ≠ [] := by intro e; rw [e] at hl; simp at hl; omega
  obtain ⟨b, off, cap, rfl, hb, hc⟩ := hsl.form hne
  have hc1 := hc (ix x y wd hi) (by omega)
  rw [getD_of2 bs _ (by omega)] at hc1
  have hmul : cl y hi * wd ≤ 1000 * 1000 := Nat.mul_le_mul (by have := cl_lt y hh; omega) hw2
  have hlb : bs.length ≤ 1000000 := by rw [hl]; exact Nat.mul_le_mul hw2 hh2
  have hA := cl_lt x hw
  unfold ix at hix hc1 ⊢
  have e1 : IntKind.i64.wrap ((wd : Int) * (cl y hi : Nat)) = (wd : Int) * (cl y hi : Nat) := IntWalk.i64_in _ (by rw [← Int.natCast_mul, Nat.mul_comm]; omega)
  have e2 : IntKind.i64.wrap (((cl x wd : Nat) : Int) + (wd : Int) * (cl y hi : Nat)) = ((cl x wd : Nat) : Int) + (wd : Int) * (cl y hi : Nat) := IntWalk.i64_in _ (by rw [← Int.natCast_mul, Nat.mul_comm]; omega)
  have e3 : (0 : Int) ≤ ((cl x wd : Nat) : Int) + (wd : Int) * (cl y hi : Nat) := by rw [← Int.natCast_mul]; omega
  have e4 : ((cl x wd : Nat) : Int) + (wd : Int) * (cl y hi : Nat) < (bs.length : Int) := by rw [← Int.natCast_mul]; omega
  have e5 : (((cl x wd : Nat) : Int) + (wd : Int) * (cl y hi : Nat)).toNat = cl x wd + wd * cl y hi := by rw [← Int.natCast_mul]; omega
  clear hc hl hmul hsl hne
  generalize hca : cl x wd = ca at *
  generalize hcb : cl y hi = cb at *
  have k1 : ∀ n : Nat, Calls Tryz.prog 97 #[.int .i64 x, .int .i64 wd] (W.drewN n) fun e w' => e = .returned (.int .i64 (ca : Nat)) ∧ W.drewN n = w' := fun n => hca ▸ clamp_any x wd hw (by omega) _
  have k2 : ∀ n : Nat, Calls Tryz.prog 97 #[.int .i64 y, .int .i64 hi] (W.drewN n) fun e w' => e = .returned (.int .i64 (cb : Nat)) ∧ W.drewN n = w' := fun n => hcb ▸ clamp_any y hi hh (by omega) _
  have K1 := Lib.hid k1
  have K2 := Lib.hid k2
  clear k1 k2 hca hcb
  go_enter Tryz.func68, Tryz.ntmps68
  go_wp2
  go_quiet ((first | with_reducible exact quiet_same (K1.out _) | with_reducible exact quiet_same (K2.out _)))
  go_wp2
  go_ret
  exact ⟨rfl, _, rfl⟩

theorem getD_lt {w : World} {v : Value} {bs : List Nat} (h : SlF w v bs) (i : Nat) : bs.getD i 0 < 4294967296 := by
  rw [List.getD_eq_getElem?_getD]
  cases e : bs[i]? with
  | none => simp
  | some z => exact h.2 z (List.mem_of_getElem? e)

set_option maxHeartbeats 1000000 in
theorem boxedI (W : World) (pb o wd hi : Nat) (v : Value) (bs : List Nat) (x y r : Nat) (hw : 0 < wd) (hh : 0 < hi) (hw2 : wd ≤ 24) (hh2 : hi ≤ 24) (hx : x ≤ 100) (hy : y ≤ 100) (hr : r ≤ 3) (h : PicI W pb o wd hi v bs) :
    Calls Tryz.prog 74 #[.pointer (some ⟨pb, o, none⟩), .int .i64 x, .int .i64 y, .int .i64 r] W fun e w' => (∃ z, e = .returned (.float .f32 z) ∧ z < 4294967296 ∧ fl z = boxW (fun i => fl (bs.getD i 0)) wd hi r x y) ∧ ∃ n, w' = W.drewN n := by
  have KA := Lib.hid (fun n X Y => aboutI (W.drewN n) pb o wd hi v bs X Y hw hh (by omega) (by omega) (h.drewN n))
  clear h hw hh
  have x2 : (x : Int) ≤ 100 := by omega
  have y2 : (y : Int) ≤ 100 := by omega
  have r2 : (r : Int) ≤ 3 := by omega
  unfold boxW
  have HF : ∀ i, (fun i => fl (bs.getD i 0)) i = fl (bs.getD i 0) := fun _ => rfl
  generalize (fun i => fl (bs.getD i 0)) = F at *
  have HF := Lib.hid HF
  go_enter Tryz.func74, Tryz.ntmps74
  go_wp2_with fail
  go_loopw [9, 10] (fun v9 v10 wr => ∃ j n sw : Nat, v9 = .float .f32 sw ∧ fl sw = wnS F wd hi ((x : Int) - r) ((y : Int) - r) (2 * r + 1) j ∧ v10 = .int .i64 ((y : Int) - r + j) ∧ j ≤ 2 * r + 1 ∧ wr = W.drewN n) (fun _ v10 _ => ((y : Int) + r + 1 - intOf v10).toNat)
  case atStart => exact ⟨0, 0, 0, rfl, rfl, by simp, Nat.zero_le _, rfl⟩
  case round =>
    obtain ⟨j, n, sw, rfl, hsw, rfl, hj, rfl⟩ := hrel
    have HSW := Lib.hid hsw
    clear hsw
    by_cases hlt : j < 2 * r + 1
    · have c1 : (y : Int) - r + j ≤ (y : Int) + r := by omega
      go_wp2_with fail
      go_loopw [9, 11] (fun v9 v11 wr => ∃ i n sv : Nat, v9 = .float .f32 sv ∧ fl sv = rwS F wd hi ((x : Int) - r) ((y : Int) - r + j) (wnS F wd hi ((x : Int) - r) ((y : Int) - r) (2 * r + 1) j) i ∧ v11 = .int .i64 ((x : Int) - r + i) ∧ i ≤ 2 * r + 1 ∧ wr = W.drewN n) (fun _ v11 _ => ((x : Int) + r + 1 - intOf v11).toNat)
      case atStart => exact ⟨0, n, sw, rfl, HSW.out, by simp, Nat.zero_le _, rfl⟩
      case round =>
        obtain ⟨i, n, sv, rfl, hsv, rfl, hi_, rfl⟩ := hrel
        have HSV := Lib.hid hsv
        clear hsv
        by_cases hlt2 : i < 2 * r + 1
        · have c2 : (x : Int) - r + i ≤ (x : Int) + r := by omega
          have KAn := Lib.hid (KA.out n ((x : Int) - r + i) ((y : Int) - r + j))
          have HFi := Lib.hid (HF.out (ix ((x : Int) - r + i) ((y : Int) - r + j) wd hi))
          generalize bs.getD (ix ((x : Int) - r + i) ((y : Int) - r + j) wd hi) 0 = s2 at *
          go_wp2_with fail
          refine KAn.out.mono ?_
          rintro e w' ⟨rfl, m, rfl⟩
          go_wp2
          go_roundw
          case rel => exact ⟨i + 1, _, _, rfl, by rw [fl_fres, HSV.out, ← HFi.out]; rfl, by go_num, by omega, rfl⟩
          case measure => simp [intOf]; omega
        · obtain rfl : i = 2 * r + 1 := by omega
          have c2 : ¬ (x : Int) - r + ((2 * r + 1 : Nat) : Int) ≤ (x : Int) + r := by omega
          go_wp2
          go_roundw
          case rel => exact ⟨j + 1, n, sv, rfl, by rw [HSV.out]; rfl, by go_num, by omega, rfl⟩
          case measure => simp [intOf]; omega
    · obtain rfl : j = 2 * r + 1 := by omega
      have c2 : ¬ (y : Int) - r + ((2 * r + 1 : Nat) : Int) ≤ (y : Int) + r := by omega
      have hn9 : (2 * r + 1) * (2 * r + 1) ≤ 7 * 7 := Nat.mul_le_mul (by omega) (by omega)
      have hn1 : 1 ≤ (2 * r + 1) * (2 * r + 1) := Nat.mul_pos (by omega) (by omega)
      have hmm : (2 * (r : Int) + 1) * (2 * (r : Int) + 1) = (((2 * r + 1) * (2 * r + 1) : Nat) : Int) := by simp
      have hm2 : IntKind.i64.wrap ((2 * (r : Int) + 1) * (2 * (r : Int) + 1)) = (((2 * r + 1) * (2 * r + 1) : Nat) : Int) := by rw [hmm]; exact IntWalk.i64_in _ (by omega)
      obtain ⟨M, hM⟩ : ∃ M, M = (2 * r + 1) * (2 * r + 1) := ⟨_, rfl⟩
      rw [← hM] at hn9 hn1 hmm hm2
      have HM := Lib.hid hM
      clear hM
      have b0 : 0 ≤ (2 * (r : Int) + 1) * (2 * (r : Int) + 1) := by omega
      have b1 : (2 * (r : Int) + 1) * (2 * (r : Int) + 1) ≤ 49 := by omega
      go_wp2
      go_ret
      exact ⟨⟨_, rfl, fres_lt _ _ _ _, by rw [fl_fres, HSW.out, HM.out]⟩, _, rfl⟩

end Go.Proofs.YtabbjilgpfnacaaGreat
