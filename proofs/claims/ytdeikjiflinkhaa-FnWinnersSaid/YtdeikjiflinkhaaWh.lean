/- Windows of pictures that lie anywhere in a block; volumes of windows. -/
import Derived.Test.YtdeikjiflinkhaaWg
import Derived.Deep.RegionHeld3
import Derived.StillTactics
namespace Go.Proofs.Ytdeikjiflinkhaa
open Go.RowKit
set_option maxRecDepth 100000
set_option linter.unusedVariables false
set_option linter.unusedSimpArgs false

/-- A picture of quarters whose header lies at a place of a block. -/
structure PicO (W : World) (g o wd hi q c : Nat) (ks : List Int) : Prop where
  c0 : W.cell? ⟨g, o, none⟩ = some (.int .i64 wd)
  c1 : W.cell? ⟨g, o + 1, none⟩ = some (.int .i64 hi)
  c2 : W.cell? ⟨g, o + 2, none⟩ = some (.slice (some ⟨q, 0, none⟩) (wd * hi) c)
  m : MQ W q c (wd * hi) ks
theorem PicO.drewN {W : World} {g o wd hi q c : Nat} {ks : List Int} (h : PicO W g o wd hi q c ks) (n : Nat) : PicO (W.drewN n) g o wd hi q c ks := ⟨h.c0, h.c1, h.c2, h.m.drewN n⟩

theorem aboutO_q (W : World) (g o wd hi q c : Nat) (ks : List Int) (x y : Int) (hw : 0 < wd) (hh : 0 < hi) (hw2 : wd ≤ 1000) (hh2 : hi ≤ 1000) (h : PicO W g o wd hi q c ks) :
    Calls Try.prog 64 #[.pointer (some ⟨g, o, none⟩), .int .i64 x, .int .i64 y] W fun e w' => e = .returned (.float .f32 (fq 2 (ks.getD (ix x y wd hi) 0))) ∧ ∃ n, w' = W.drewN n := by
  have c0 := h.c0
  have c1 := h.c1
  have c2 := h.c2
  have hix := ix_lt x y hw hh
  have hl := h.m.len
  have hc1 := h.m.get (ix x y wd hi) hix
  have hmul : cl y hi * wd ≤ 1000 * 1000 := Nat.mul_le_mul (by have := cl_lt y hh; omega) hw2
  have hlb : wd * hi ≤ 1000000 := Nat.mul_le_mul hw2 hh2
  have hA := cl_lt x hw
  unfold ix at hix hc1 ⊢
  have e1 : IntKind.i64.wrap ((wd : Int) * (cl y hi : Nat)) = (wd : Int) * (cl y hi : Nat) := IntWalk.i64_in _ (by rw [← Int.natCast_mul, Nat.mul_comm]; omega)
  have e2 : IntKind.i64.wrap (((cl x wd : Nat) : Int) + (wd : Int) * (cl y hi : Nat)) = ((cl x wd : Nat) : Int) + (wd : Int) * (cl y hi : Nat) := IntWalk.i64_in _ (by rw [← Int.natCast_mul, Nat.mul_comm]; omega)
  have e3 : (0 : Int) ≤ ((cl x wd : Nat) : Int) + (wd : Int) * (cl y hi : Nat) := by rw [← Int.natCast_mul]; omega
  have e4 : ((cl x wd : Nat) : Int) + (wd : Int) * (cl y hi : Nat) < ((wd * hi : Nat) : Int) := by rw [← Int.natCast_mul]; omega
  have e5 : (((cl x wd : Nat) : Int) + (wd : Int) * (cl y hi : Nat)).toNat = cl x wd + wd * cl y hi := by rw [← Int.natCast_mul]; omega
  clear hl hmul h
  generalize hca : cl x wd = ca at *
  generalize hcb : cl y hi = cb at *
  have k1 : ∀ n : Nat, Calls Try.prog 70 #[.int .i64 x, .int .i64 wd] (W.drewN n) fun e w' => e = .returned (.int .i64 (ca : Nat)) ∧ W.drewN n = w' := fun n => hca ▸ clamp_any x wd hw (by omega) _
  have k2 : ∀ n : Nat, Calls Try.prog 70 #[.int .i64 y, .int .i64 hi] (W.drewN n) fun e w' => e = .returned (.int .i64 (cb : Nat)) ∧ W.drewN n = w' := fun n => hcb ▸ clamp_any y hi hh (by omega) _
  have K1 := Lib.hid k1
  have K2 := Lib.hid k2
  generalize wd * hi = N at *
  clear k1 k2 hca hcb
  go_enter Try.func64, Try.ntmps64
  go_wp2
  go_quiet ((first | with_reducible exact quiet_same (K1.out _) | with_reducible exact quiet_same (K2.out _)))
  go_wp2
  go_ret
  exact ⟨rfl, _, rfl⟩

set_option maxHeartbeats 1000000 in
theorem boxedO_q (W : World) (g o wd hi q c : Nat) (ks : List Int) (x y r : Nat) (hw : 0 < wd) (hh : 0 < hi) (hw2 : wd ≤ 24) (hh2 : hi ≤ 24) (hx : x ≤ 100) (hy : y ≤ 100) (hr : r ≤ 3) (hk : ∀ k ∈ ks, 0 ≤ k ∧ k ≤ 1000) (h : PicO W g o wd hi q c ks) :
    Calls Try.prog 37 #[.pointer (some ⟨g, o, none⟩), .int .i64 x, .int .i64 y, .int .i64 r] W fun e w' => (∃ z, floatBits .quo .f32 (fq 2 (winS ks wd hi x y r)) (fq 0 ((2 * r + 1) * (2 * r + 1) : Nat)) = some z ∧ e = .returned (.float .f32 z)) ∧ ∃ n, w' = W.drewN n := by
  have hbk : ∀ i, 0 ≤ ks.getD i 0 ∧ ks.getD i 0 ≤ 1000 := by
    intro i
    rw [List.getD_eq_getElem?_getD]
    cases e : ks[i]? with
    | none => exact ⟨Int.le_refl _, by decide⟩
    | some z => exact hk z (List.mem_of_getElem? e)
  have HBK := Lib.hid hbk
  have KA := Lib.hid (fun n X Y => aboutO_q (W.drewN n) g o wd hi q c ks X Y hw hh (by omega) (by omega) (h.drewN n))
  have hin : ∀ j n, 0 ≤ sumN n (winF ks wd hi x y r j) ∧ sumN n (winF ks wd hi x y r j) ≤ 1000 * n := fun j n => sumN_bd n (fun i _ => hbk _)
  have hout : ∀ m, 0 ≤ sumN m (fun j => sumN (2 * r + 1) (winF ks wd hi x y r j)) ∧ sumN m (fun j => sumN (2 * r + 1) (winF ks wd hi x y r j)) ≤ 7000 * m := fun m => sumN_bd m (fun j _ => by have := hin j (2 * r + 1); omega)
  have HIN := Lib.hid hin
  have HOUT := Lib.hid hout
  have HWH := Lib.hid (And.intro hw hh)
  clear h hbk hin hout hk hw hh
  have x2 : (x : Int) ≤ 100 := by omega
  have y2 : (y : Int) ≤ 100 := by omega
  have r2 : (r : Int) ≤ 3 := by omega
  go_enter Try.func37, Try.ntmps37
  go_wp2_with fail
  go_loopw [9, 10] (fun v9 v10 wr => ∃ j n : Nat, v9 = .float .f32 (fq 2 (sumN j (fun j => sumN (2 * r + 1) (winF ks wd hi x y r j)))) ∧ v10 = .int .i64 ((y : Int) - r + j) ∧ j ≤ 2 * r + 1 ∧ wr = W.drewN n) (fun _ v10 _ => ((y : Int) + r + 1 - intOf v10).toNat)
  case atStart => exact ⟨0, 0, by simp [sumN, fq_zero], by simp, Nat.zero_le _, rfl⟩
  case round =>
    obtain ⟨j, n, rfl, rfl, hj, rfl⟩ := hrel
    by_cases hlt : j < 2 * r + 1
    · have c1 : (y : Int) - r + j ≤ (y : Int) + r := by omega
      have ho := HOUT.out j
      obtain ⟨S, hS⟩ : ∃ S, S = sumN j (fun j => sumN (2 * r + 1) (winF ks wd hi x y r j)) := ⟨_, rfl⟩
      rw [← hS] at ho ⊢
      have HSS := Lib.hid hS
      clear hS
      go_wp2_with fail
      go_loopw [9, 11] (fun v9 v11 wr => ∃ i n : Nat, v9 = .float .f32 (fq 2 (S + sumN i (winF ks wd hi x y r j))) ∧ v11 = .int .i64 ((x : Int) - r + i) ∧ i ≤ 2 * r + 1 ∧ wr = W.drewN n) (fun _ v11 _ => ((x : Int) + r + 1 - intOf v11).toNat)
      case atStart => exact ⟨0, n, by simp [sumN], by simp, Nat.zero_le _, rfl⟩
      case round =>
        obtain ⟨i, n, rfl, rfl, hi_, rfl⟩ := hrel
        by_cases hlt2 : i < 2 * r + 1
        · have c2 : (x : Int) - r + i ≤ (x : Int) + r := by omega
          have hsi := HIN.out j i
          have hkb := HBK.out (ix ((x : Int) - r + i) ((y : Int) - r + j) wd hi)
          have ad := fq_add (g := 2) (a := S + sumN i (winF ks wd hi x y r j)) (b := ks.getD (ix ((x : Int) - r + i) ((y : Int) - r + j) wd hi) 0) (by omega) (by omega) (by omega)
          obtain ⟨z, hz⟩ : ∃ z, z = fq 2 (S + sumN i (winF ks wd hi x y r j) + ks.getD (ix ((x : Int) - r + i) ((y : Int) - r + j) wd hi) 0) := ⟨_, rfl⟩
          rw [← hz] at ad
          have HZ := Lib.hid hz
          have ar := fres_some ad
          have af := fdr_some ad
          have hd0 : ∀ W : World, W.drewN 0 = W := fun _ => rfl
          have KAn := Lib.hid (KA.out n ((x : Int) - r + i) ((y : Int) - r + j))
          generalize fq 2 (S + sumN i (winF ks wd hi x y r j)) = s1 at *
          generalize fq 2 (ks.getD (ix ((x : Int) - r + i) ((y : Int) - r + j) wd hi) 0) = s2 at *
          clear hz ad hsi hkb ho
          go_wp2_with fail
          refine KAn.out.mono ?_
          rintro e w' ⟨rfl, m, rfl⟩
          go_wp2
          go_roundw
          case rel => exact ⟨i + 1, _, by rw [HZ.out]; congr 2; show S + sumN i _ + _ = S + (sumN i _ + winF ks wd hi x y r j i); unfold winF; omega, by go_num, by omega, rfl⟩
          case measure => simp [intOf]; omega
        · obtain rfl : i = 2 * r + 1 := by omega
          have c2 : ¬ (x : Int) - r + ((2 * r + 1 : Nat) : Int) ≤ (x : Int) + r := by omega
          go_wp2
          go_roundw
          case rel => exact ⟨j + 1, n, by rw [HSS.out]; rfl, by go_num, by omega, rfl⟩
          case measure => simp [intOf]; omega
    · obtain rfl : j = 2 * r + 1 := by omega
      have c2 : ¬ (y : Int) - r + ((2 * r + 1 : Nat) : Int) ≤ (y : Int) + r := by omega
      have ho := HOUT.out (2 * r + 1)
      have he : sumN (2 * r + 1) (fun j => sumN (2 * r + 1) (winF ks wd hi x y r j)) = winS ks wd hi x y r := rfl
      rw [he] at ho
      rw [he]
      have hn9 : (2 * r + 1) * (2 * r + 1) ≤ 7 * 7 := Nat.mul_le_mul (by omega) (by omega)
      have hn1 : 1 ≤ (2 * r + 1) * (2 * r + 1) := Nat.mul_pos (by omega) (by omega)
      obtain ⟨z, hz, -⟩ := quo_q (s := winS ks wd hi x y r) (m := (((2 * r + 1) * (2 * r + 1) : Nat) : Int)) (lo := 0) (hi := 1000000) ho.1 (by omega) (by omega) (by omega) (by decide) (by decide) (by omega) (by have := Int.mul_le_mul_of_nonneg_left (show (1 : Int) ≤ (((2 * r + 1) * (2 * r + 1) : Nat) : Int) by omega) (show (0 : Int) ≤ 1000000 by decide); omega)
      have hof := fq_ofInt (n := (((2 * r + 1) * (2 * r + 1) : Nat) : Int)) (by omega)
      have HR := Lib.hid hz
      rw [← hof] at hz
      have hmm : (2 * (r : Int) + 1) * (2 * (r : Int) + 1) = (((2 * r + 1) * (2 * r + 1) : Nat) : Int) := by simp
      have hm2 : IntKind.i64.wrap ((2 * (r : Int) + 1) * (2 * (r : Int) + 1)) = (((2 * r + 1) * (2 * r + 1) : Nat) : Int) := by rw [hmm]; exact IntWalk.i64_in _ (by omega)
      obtain ⟨M, hM⟩ : ∃ M, M = (2 * r + 1) * (2 * r + 1) := ⟨_, rfl⟩
      rw [← hM] at hn9 hn1 hz hmm hm2
      have HM := Lib.hid hM
      clear hM
      have ar := fres_some hz
      have af := fdr_some hz
      have hd0 : ∀ W : World, W.drewN 0 = W := fun _ => rfl
      have b0 : 0 ≤ (2 * (r : Int) + 1) * (2 * (r : Int) + 1) := by omega
      have b1 : (2 * (r : Int) + 1) * (2 * (r : Int) + 1) ≤ 49 := by omega
      clear ho hof hz he
      go_wp2
      go_ret
      exact ⟨⟨z, by rw [HM.out]; exact HR.out, rfl⟩, _, rfl⟩

end Go.Proofs.Ytdeikjiflinkhaa
