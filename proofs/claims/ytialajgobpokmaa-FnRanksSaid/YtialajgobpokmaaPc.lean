/- Means of windows; blurs. -/
import Derived.Test.YtialajgobpokmaaPb
namespace Go.Proofs.Ytialajgobpokmaa
open Go.RowKit
set_option maxRecDepth 100000
set_option linter.unusedVariables false
set_option linter.unusedSimpArgs false

theorem about_q (W : World) (pb wd hi : Nat) (v : Value) (ks : List Int) (x y : Int) (hw : 0 < wd) (hh : 0 < hi) (hw2 : wd ≤ 1000) (hh2 : hi ≤ 1000) (h : PicAt W pb wd hi v (ks.map (fq 2)) 26) :
    Calls Try.prog 37 #[.pointer (some ⟨pb, 0, none⟩), .int .i64 x, .int .i64 y] W fun e w' => e = .returned (.float .f32 (fq 2 (ks.getD (ix x y wd hi) 0))) ∧ ∃ n, w' = W.drewN n := by
  have e : (ks.map (fq 2)).getD (ix x y wd hi) 0 = fq 2 (ks.getD (ix x y wd hi) 0) := by
    have hl := h.len
    rw [List.length_map] at hl
    rw [List.getD_eq_getElem?_getD, List.getD_eq_getElem?_getD, List.getElem?_map, List.getElem?_eq_getElem (by rw [hl]; exact ix_lt x y hw hh)]; rfl
  rw [← e]
  exact about_any W pb wd hi v _ x y hw hh hw2 hh2 h

/-- Sums. -/
def sumN : Nat → (Nat → Int) → Int
  | 0, _ => 0
  | n + 1, F => sumN n F + F n
theorem sumN_bd {F : Nat → Int} {B : Int} (n : Nat) (h : ∀ i, i < n → 0 ≤ F i ∧ F i ≤ B) : 0 ≤ sumN n F ∧ sumN n F ≤ B * n := by
  induction n with
  | zero => simp [sumN]
  | succ n ih =>
    have h1 := ih (fun i hi => h i (by omega))
    have h2 := h n (by omega)
    rw [Int.natCast_add, Int.natCast_one, Int.mul_add, Int.mul_one]
    show 0 ≤ sumN n F + F n ∧ sumN n F + F n ≤ _
    omega
theorem sumN_congr {F G : Nat → Int} (n : Nat) (h : ∀ i, i < n → F i = G i) : sumN n F = sumN n G := by
  induction n with
  | zero => rfl
  | succ n ih => show sumN n F + F n = sumN n G + G n; rw [ih (fun i hi => h i (by omega)), h n (by omega)]
theorem sumN_shift (n : Nat) : ∀ F : Nat → Int, sumN (n + 1) F = F 0 + sumN n (fun i => F (i + 1)) := by
  induction n with
  | zero => intro F; show 0 + F 0 = F 0 + 0; omega
  | succ n ih =>
    intro F
    show sumN (n + 1) F + F (n + 1) = F 0 + (sumN n (fun i => F (i + 1)) + F (n + 1))
    rw [ih F]; omega
theorem sumN_rev (n : Nat) : ∀ F : Nat → Int, sumN n (fun i => F (n - 1 - i)) = sumN n F := by
  induction n with
  | zero => intro F; rfl
  | succ n ih =>
    intro F
    rw [sumN_shift n]
    show F (n + 1 - 1 - 0) + sumN n (fun i => F (n + 1 - 1 - (i + 1))) = sumN n F + F n
    rw [← ih F, sumN_congr n (F := fun i => F (n + 1 - 1 - (i + 1))) (G := fun i => F (n - 1 - i)) (fun i hi => by show F _ = F _; congr 1; omega)]
    simp only [Nat.add_sub_cancel, Nat.sub_zero]; omega

/-- The sum of a window. -/
def winF (ks : List Int) (wd hi : Nat) (x y : Int) (r : Nat) (j i : Nat) : Int := ks.getD (ix (x - r + i) (y - r + j) wd hi) 0
def winS (ks : List Int) (wd hi : Nat) (x y : Int) (r : Nat) : Int := sumN (2 * r + 1) fun j => sumN (2 * r + 1) fun i => winF ks wd hi x y r j i

set_option maxHeartbeats 1000000 in
theorem boxed_q (W : World) (pb wd hi : Nat) (v : Value) (ks : List Int) (x y r : Nat) (hw : 0 < wd) (hh : 0 < hi) (hw2 : wd ≤ 24) (hh2 : hi ≤ 24) (hx : x ≤ 100) (hy : y ≤ 100) (hr : r ≤ 3) (hk : ∀ k ∈ ks, 0 ≤ k ∧ k ≤ 1000) (h : PicAt W pb wd hi v (ks.map (fq 2)) 26) :
    Calls Try.prog 35 #[.pointer (some ⟨pb, 0, none⟩), .int .i64 x, .int .i64 y, .int .i64 r] W fun e w' => (∃ z, floatBits .quo .f32 (fq 2 (winS ks wd hi x y r)) (fq 0 ((2 * r + 1) * (2 * r + 1) : Nat)) = some z ∧ e = .returned (.float .f32 z)) ∧ ∃ n, w' = W.drewN n := by
  have hbk : ∀ i, 0 ≤ ks.getD i 0 ∧ ks.getD i 0 ≤ 1000 := by
    intro i
    rw [List.getD_eq_getElem?_getD]
    cases e : ks[i]? with
    | none => exact ⟨Int.le_refl _, by decide⟩
    | some z => exact hk z (List.mem_of_getElem? e)
  have HBK := Lib.hid hbk
  have KA := Lib.hid (fun n X Y => about_q (W.drewN n) pb wd hi v ks X Y hw hh (by omega) (by omega) (h.drewN n))
  have hin : ∀ j n, 0 ≤ sumN n (winF ks wd hi x y r j) ∧ sumN n (winF ks wd hi x y r j) ≤ 1000 * n := fun j n => sumN_bd n (fun i _ => hbk _)
  have hout : ∀ m, 0 ≤ sumN m (fun j => sumN (2 * r + 1) (winF ks wd hi x y r j)) ∧ sumN m (fun j => sumN (2 * r + 1) (winF ks wd hi x y r j)) ≤ 7000 * m := fun m => sumN_bd m (fun j _ => by have := hin j (2 * r + 1); omega)
  have HIN := Lib.hid hin
  have HOUT := Lib.hid hout
  have HWH := Lib.hid (And.intro hw hh)
  clear h hbk hin hout hk hw hh
  have x2 : (x : Int) ≤ 100 := by omega
  have y2 : (y : Int) ≤ 100 := by omega
  have r2 : (r : Int) ≤ 3 := by omega
  go_enter Try.func35, Try.ntmps35
  go_wp2_with fail
  go_loopw [9, 10] (fun v9 v10 wr => ∃ j n : Nat, v9 = .float .f32 (fq 2 (sumN j (fun j => sumN (2 * r + 1) (winF ks wd hi x y r j)))) ∧ v10 = .int .i64 ((y : Int) - r + j) ∧ j ≤ 2 * r + 1 ∧ wr = W.drewN n) (fun _ v10 _ => ((y : Int) + r + 1 - intOf v10).toNat)
  case atStart => exact ⟨0, 0, by simp [sumN, fq_zero], by simp, Nat.zero_le _, rfl⟩
  case round =>
    obtain ⟨j, n, rfl, rfl, hj, rfl⟩ := hrel
    by_cases hlt : j < 2 * r + 1
    · have c1 : (y : Int) - r + j ≤ (y : Int) + r := by omega
      have ho := HOUT.out j
      obtain ⟨S, hS⟩ : ∃ S, S = sumN j (fun j => sumN (2 * r + 1) (winF ks wd hi x y r j)) := ⟨_, rfl⟩
      rw [← hS] at ho ⊢
      have HSS := Lib.hid hS
      clear hS
      go_wp2_with fail
      go_loopw [9, 11] (fun v9 v11 wr => ∃ i n : Nat, v9 = .float .f32 (fq 2 (S + sumN i (winF ks wd hi x y r j))) ∧ v11 = .int .i64 ((x : Int) - r + i) ∧ i ≤ 2 * r + 1 ∧ wr = W.drewN n) (fun _ v11 _ => ((x : Int) + r + 1 - intOf v11).toNat)
      case atStart => exact ⟨0, n, by simp [sumN], by simp, Nat.zero_le _, rfl⟩
      case round =>
        obtain ⟨i, n, rfl, rfl, hi_, rfl⟩ := hrel
        by_cases hlt2 : i < 2 * r + 1
        · have c2 : (x : Int) - r + i ≤ (x : Int) + r := by omega
          have hsi := HIN.out j i
          have hkb := HBK.out (ix ((x : Int) - r + i) ((y : Int) - r + j) wd hi)
          have ad := fq_add (g := 2) (a := S + sumN i (winF ks wd hi x y r j)) (b := ks.getD (ix ((x : Int) - r + i) ((y : Int) - r + j) wd hi) 0) (by omega) (by omega) (by omega)
          obtain ⟨z, hz⟩ : ∃ z, z = fq 2 (S + sumN i (winF ks wd hi x y r j) + ks.getD (ix ((x : Int) - r + i) ((y : Int) - r + j) wd hi) 0) := ⟨_, rfl⟩
          rw [← hz] at ad
          have HZ := Lib.hid hz
          have ar := fres_some ad
          have af := fdr_some ad
          have hd0 : ∀ W : World, W.drewN 0 = W := fun _ => rfl
          have KAn := Lib.hid (KA.out n ((x : Int) - r + i) ((y : Int) - r + j))
          generalize fq 2 (S + sumN i (winF ks wd hi x y r j)) = s1 at *
          generalize fq 2 (ks.getD (ix ((x : Int) - r + i) ((y : Int) - r + j) wd hi) 0) = s2 at *
          clear hz ad hsi hkb ho
          go_wp2_with fail
          refine KAn.out.mono ?_
          rintro e w' ⟨rfl, m, rfl⟩
          go_wp2
          go_roundw
          case rel => exact ⟨i + 1, _, by rw [HZ.out]; congr 2; show S + sumN i _ + _ = S + (sumN i _ + winF ks wd hi x y r j i); unfold winF; omega, by go_num, by omega, rfl⟩
          case measure => simp [intOf]; omega
        · obtain rfl : i = 2 * r + 1 := by omega
          have c2 : ¬ (x : Int) - r + ((2 * r + 1 : Nat) : Int) ≤ (x : Int) + r := by omega
          go_wp2
          go_roundw
          case rel => exact ⟨j + 1, n, by rw [HSS.out]; rfl, by go_num, by omega, rfl⟩
          case measure => simp [intOf]; omega
    · obtain rfl : j = 2 * r + 1 := by omega
      have c2 : ¬ (y : Int) - r + ((2 * r + 1 : Nat) : Int) ≤ (y : Int) + r := by omega
      have ho := HOUT.out (2 * r + 1)
      have he : sumN (2 * r + 1) (fun j => sumN (2 * r + 1) (winF ks wd hi x y r j)) = winS ks wd hi x y r := rfl
      rw [he] at ho
      rw [he]
      have hn9 : (2 * r + 1) * (2 * r + 1) ≤ 7 * 7 := Nat.mul_le_mul (by omega) (by omega)
      have hn1 : 1 ≤ (2 * r + 1) * (2 * r + 1) := Nat.mul_pos (by omega) (by omega)
      obtain ⟨z, hz, -⟩ := quo_q (s := winS ks wd hi x y r) (m := (((2 * r + 1) * (2 * r + 1) : Nat) : Int)) (lo := 0) (hi := 1000000) ho.1 (by omega) (by omega) (by omega) (by decide) (by decide) (by omega) (by have := Int.mul_le_mul_of_nonneg_left (show (1 : Int) ≤ (((2 * r + 1) * (2 * r + 1) : Nat) : Int) by omega) (show (0 : Int) ≤ 1000000 by decide); omega)
      have hof := fq_ofInt (n := (((2 * r + 1) * (2 * r + 1) : Nat) : Int)) (by omega)
      have HR := Lib.hid hz
      rw [← hof] at hz
      have hmm : (2 * (r : Int) + 1) * (2 * (r : Int) + 1) = (((2 * r + 1) * (2 * r + 1) : Nat) : Int) := by simp
      have hm2 : IntKind.i64.wrap ((2 * (r : Int) + 1) * (2 * (r : Int) + 1)) = (((2 * r + 1) * (2 * r + 1) : Nat) : Int) := by rw [hmm]; exact IntWalk.i64_in _ (by omega)
      obtain ⟨M, hM⟩ : ∃ M, M = (2 * r + 1) * (2 * r + 1) := ⟨_, rfl⟩
      rw [← hM] at hn9 hn1 hz hmm hm2
      have HM := Lib.hid hM
      clear hM
      have ar := fres_some hz
      have af := fdr_some hz
      have hd0 : ∀ W : World, W.drewN 0 = W := fun _ => rfl
      have b0 : 0 ≤ (2 * (r : Int) + 1) * (2 * (r : Int) + 1) := by omega
      have b1 : (2 * (r : Int) + 1) * (2 * (r : Int) + 1) ≤ 49 := by omega
      clear ho hof hz he
      go_wp2
      go_ret
      exact ⟨⟨z, by rw [HM.out]; exact HR.out, rfl⟩, _, rfl⟩

end Go.Proofs.Ytialajgobpokmaa
