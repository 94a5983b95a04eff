/- Absolute values; numbers that are near. -/
import Derived.Test.YtmpbnmmpniganaaMp
import Derived.Deep.QuietTactic
namespace Go.Proofs.Ytmpbnmmpniganaa
open Go.RowKit
set_option maxRecDepth 100000
set_option linter.unusedVariables false
set_option linter.unusedSimpArgs false

theorem andNot_abs (b : Nat) (hb : b < 4294967296) : bits .andNot .u32 (b : Int) 2147483648 = ((b % 2147483648 : Nat) : Int) := by
  show IntKind.u32.wrap ((BitVec.ofInt 32 ((b : Nat) : Int) &&& ~~~ BitVec.ofInt 32 2147483648).toNat : Int) = _
  have e1 : (~~~ BitVec.ofInt 32 2147483648 : BitVec 32) = BitVec.ofNat 32 2147483647 := by decide
  have e2 : b &&& 2147483647 = b % 2147483648 := Nat.and_two_pow_sub_one_eq_mod b 31
  rw [e1, BitVec.ofInt_natCast, BitVec.toNat_and, BitVec.toNat_ofNat, BitVec.toNat_ofNat, Nat.mod_eq_of_lt (by omega), show 2147483647 % 2 ^ 32 = 2147483647 from rfl, e2]
  have := Nat.mod_lt b (show 0 < 2147483648 by omega)
  show (((b % 2147483648 : Nat) : Int)) % 4294967296 = _
  omega

theorem abs_any (b : Nat) (hb : b < 4294967296) (w : World) : Calls Try.prog 77 #[.float .f32 b] w fun e w' => e = .returned (.float .f32 (b % 2147483648)) ∧ w = w' := by
  have e := andNot_abs b hb
  go_enter Try.func77, Try.ntmps77
  go_wp2
  go_ret
  exact ⟨by simp [e], rfl⟩

/-- The words of absolute values. -/
theorem fq_abs {z : Int} (h : z.natAbs ≤ 16777216) : fq 2 z % 2147483648 = fq 2 (z.natAbs : Nat) := by
  obtain ⟨r, h1, h2, h3⟩ := (few32 (g := 2) (k := z) h).rung f1
  obtain ⟨s, g1, g2, g3⟩ := (few32 (g := 2) (k := (z.natAbs : Nat)) (by omega)).rung f1
  have e : r = s := unit_inj Ieee.single (by rw [h2, g2]; simp)
  have hr : r < 2139095040 := by have := h1; rw [sg_inf] at this; exact this
  unfold fq
  rw [h3, g3, ← e]
  unfold Ieee.Format.word
  rw [sg_sw, decide_eq_false (show ¬ ((z.natAbs : Nat) : Int) < 0 by omega)]
  by_cases hz : z < 0
  · rw [decide_eq_true hz]; simp; omega
  · rw [decide_eq_false hz]; simp; omega

theorem nearTo_q (a b m : Int) (ha : a.natAbs ≤ 1000) (hb : b.natAbs ≤ 1000) (hm : m.natAbs ≤ 1000) (w : World) : Calls Try.prog 85 #[.float .f32 (fq 2 a), .float .f32 (fq 2 b), .float .f32 (fq 2 m)] w fun e w' => e = .returned (.bool (decide (((a - b).natAbs : Int) ≤ m))) ∧ w' = w := by
  have ad := fq_sub (g := 2) (a := a) (b := b) (by omega) (by omega) (by omega)
  have hl := fq_lt (g := 2) (k := a - b) (by omega)
  have KA := Lib.hid (fun w => abs_any (fq 2 (a - b)) hl w)
  rw [fq_abs (z := a - b) (by omega)] at KA
  have hle := le32_fq (g := 2) (a := ((a - b).natAbs : Int)) (b := m) (by omega) (by omega)
  obtain ⟨va, hva⟩ : ∃ v, fq 2 a = v := ⟨_, rfl⟩
  obtain ⟨vb, hvb⟩ : ∃ v, fq 2 b = v := ⟨_, rfl⟩
  obtain ⟨vm, hvm⟩ : ∃ v, fq 2 m = v := ⟨_, rfl⟩
  obtain ⟨vd, hvd⟩ : ∃ v, fq 2 (a - b) = v := ⟨_, rfl⟩
  obtain ⟨vz, hvz⟩ : ∃ v, fq 2 ((a - b).natAbs : Int) = v := ⟨_, rfl⟩
  rw [hva, hvb, hvd] at ad
  rw [hvd, hvz] at KA
  rw [hvz, hvm] at hle
  rw [hva, hvb, hvm]
  have HLE := Lib.hid hle
  have r1 := fres_some ad
  have r2 := fdr_some ad
  have hd0 : ∀ W : World, W.drewN 0 = W := fun _ => rfl
  clear ad hl hva hvb hvm hvd hvz hle
  go_enter Try.func85, Try.ntmps85
  go_wp2_with fail
  refine (KA.out _).mono ?_
  rintro e w' ⟨rfl, rfl⟩
  go_wp2
  go_ret
  exact ⟨by first | rfl | (rw [HLE.out]; rfl), rfl⟩

end Go.Proofs.Ytmpbnmmpniganaa
