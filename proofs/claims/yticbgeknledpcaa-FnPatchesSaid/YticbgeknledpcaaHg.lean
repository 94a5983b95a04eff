/- Do two cells of a map of quarters hang together? -/
import Derived.Test.YticbgeknledpcaaFt
import Derived.Test.YticbgeknledpcaaPr
namespace Go.Proofs.Yticbgeknledpcaa
open Go.RowKit
set_option maxRecDepth 100000
set_option linter.unusedVariables false
set_option linter.unusedSimpArgs false

theorem andNot_abs (b : Nat) (hb : b < 4294967296) : bits .andNot .u32 (b : Int) 2147483648 = ((b % 2147483648 : Nat) : Int) := by
  show IntKind.u32.wrap ((BitVec.ofInt 32 ((b : Nat) : Int) &&& ~~~ BitVec.ofInt 32 2147483648).toNat : Int) = _
  have e1 : (~~~ BitVec.ofInt 32 2147483648 : BitVec 32) = BitVec.ofNat 32 2147483647 := by decide
  have e2 : b &&& 2147483647 = b % 2147483648 := Nat.and_two_pow_sub_one_eq_mod b 31
  rw [e1, BitVec.ofInt_natCast, BitVec.toNat_and, BitVec.toNat_ofNat, BitVec.toNat_ofNat, Nat.mod_eq_of_lt (by omega), show 2147483647 % 2 ^ 32 = 2147483647 from rfl, e2]
  have := Nat.mod_lt b (show 0 < 2147483648 by omega)
  show (((b % 2147483648 : Nat) : Int)) % 4294967296 = _
  omega

theorem abs_any (b : Nat) (hb : b < 4294967296) (w : World) : Calls Try.prog 80 #[.float .f32 b] w fun e w' => e = .returned (.float .f32 (b % 2147483648)) ∧ w = w' := by
  have e := andNot_abs b hb
  go_enter Try.func80, Try.ntmps80
  go_wp2
  go_ret
  exact ⟨by simp [e], rfl⟩

/-- The words of absolute values. -/
theorem fq_abs {z : Int} (h : z.natAbs ≤ 16777216) : fq 2 z % 2147483648 = fq 2 (z.natAbs : Nat) := by
  obtain ⟨r, h1, h2, h3⟩ := (few32 (g := 2) (k := z) h).rung f1
  obtain ⟨s, g1, g2, g3⟩ := (few32 (g := 2) (k := (z.natAbs : Nat)) (by omega)).rung f1
  have e : r = s := unit_inj Ieee.single (by rw [h2, g2]; simp)
  have hr : r < 2139095040 := by have := h1; rw [sg_inf] at this; exact this
  unfold fq
  rw [h3, g3, ← e]
  unfold Ieee.Format.word
  rw [sg_sw, decide_eq_false (show ¬ ((z.natAbs : Nat) : Int) < 0 by omega)]
  by_cases hz : z < 0
  · rw [decide_eq_true hz]; simp; omega
  · rw [decide_eq_false hz]; simp; omega

theorem nearTo_q (a b m : Int) (ha : a.natAbs ≤ 1000) (hb : b.natAbs ≤ 1000) (hm : m.natAbs ≤ 1000) (w : World) : Calls Try.prog 59 #[.float .f32 (fq 2 a), .float .f32 (fq 2 b), .float .f32 (fq 2 m)] w fun e w' => e = .returned (.bool (decide (((a - b).natAbs : Int) ≤ m))) ∧ w' = w := by
  have ad := fq_sub (g := 2) (a := a) (b := b) (by omega) (by omega) (by omega)
  have hl := fq_lt (g := 2) (k := a - b) (by omega)
  have KA := Lib.hid (fun w => abs_any (fq 2 (a - b)) hl w)
  rw [fq_abs (z := a - b) (by omega)] at KA
  have hle := le32_fq (g := 2) (a := ((a - b).natAbs : Int)) (b := m) (by omega) (by omega)
  obtain ⟨va, hva⟩ : ∃ v, fq 2 a = v := ⟨_, rfl⟩
  obtain ⟨vb, hvb⟩ : ∃ v, fq 2 b = v := ⟨_, rfl⟩
  obtain ⟨vm, hvm⟩ : ∃ v, fq 2 m = v := ⟨_, rfl⟩
  obtain ⟨vd, hvd⟩ : ∃ v, fq 2 (a - b) = v := ⟨_, rfl⟩
  obtain ⟨vz, hvz⟩ : ∃ v, fq 2 ((a - b).natAbs : Int) = v := ⟨_, rfl⟩
  rw [hva, hvb, hvd] at ad
  rw [hvd, hvz] at KA
  rw [hvz, hvm] at hle
  rw [hva, hvb, hvm]
  have HLE := Lib.hid hle
  have r1 := fres_some ad
  have r2 := fdr_some ad
  have hd0 : ∀ W : World, W.drewN 0 = W := fun _ => rfl
  clear ad hl hva hvb hvm hvd hvz hle
  go_enter Try.func59, Try.ntmps59
  go_wp2_with fail
  refine (KA.out _).mono ?_
  rintro e w' ⟨rfl, rfl⟩
  go_wp2
  go_ret
  exact ⟨by first | rfl | (rw [HLE.out]; rfl), rfl⟩

/-- Do two cells hang together? -/
def hangF (ks : List Int) (wd hi : Nat) (mo : Int) (i : Nat) (u v : Int) : Bool :=
  inB u v wd hi && (decide (0 ≤ ks.getD i 0) && (decide (0 ≤ ks.getD (u.toNat + wd * v.toNat) 0) && decide (((ks.getD i 0 - ks.getD (u.toNat + wd * v.toNat) 0).natAbs : Int) ≤ mo)))

set_option maxHeartbeats 2000000 in
theorem hang_q (W : World) (pb wd hi : Nat) (sv : Value) (ks : List Int) (x y : Nat) (u v mo : Int) (hx : x < wd) (hy : y < hi) (hw2 : wd ≤ 1000) (hh2 : hi ≤ 1000) (hm : mo.natAbs ≤ 1000) (hb : ∀ k ∈ ks, k.natAbs ≤ 500) (h : PicAt W pb wd hi sv (ks.map (fq 2)) 26) :
    Calls Try.prog 48 #[.pointer (some ⟨pb, 0, none⟩), .int .i64 x, .int .i64 y, .int .i64 u, .int .i64 v, .float .f32 (fq 2 mo)] W fun e w' => e = .returned (.bool (hangF ks wd hi mo (x + wd * y) u v)) ∧ ∃ n, w' = W.drewN n := by
  have hkb : ∀ i, (ks.getD i 0).natAbs ≤ 500 := fun i => by
    rw [List.getD_eq_getElem?_getD]
    cases e : ks[i]? with
    | none => decide
    | some z => exact hb z (List.mem_of_getElem? e)
  by_cases hin : inB u v wd hi = true
  · have hin2 := hin
    rw [inB_iff] at hin2
    obtain ⟨u0, u1, v0, v1⟩ := hin2
    obtain ⟨u, rfl⟩ := Int.eq_ofNat_of_zero_le u0
    obtain ⟨v, rfl⟩ := Int.eq_ofNat_of_zero_le v0
    have KH := Lib.hid (mapHas_any W pb wd hi sv u v hw2 hh2 h.box)
    rw [hin] at KH
    have KA0 := Lib.hid (mat_q W pb wd hi sv ks x y x y rfl rfl hx hy hw2 hh2 h)
    have KA := Lib.hid (fun n => (mat_q (W.drewN n) pb wd hi sv ks x y x y rfl rfl hx hy hw2 hh2 (h.drew2 n)).mono (R' := fun e w' => e = .returned (.float .f32 (fq 2 (ks.getD (x + wd * y) 0))) ∧ ∃ m, w' = W.drewN m) (by rintro e w' ⟨rfl, m, rfl⟩; obtain ⟨k, hk⟩ := drewN_drewN W n m; exact ⟨rfl, k, hk⟩))
    have KB := Lib.hid (fun n => (mat_q (W.drewN n) pb wd hi sv ks u v u v rfl rfl (by omega) (by omega) hw2 hh2 (h.drew2 n)).mono (R' := fun e w' => e = .returned (.float .f32 (fq 2 (ks.getD (u + wd * v) 0))) ∧ ∃ m, w' = W.drewN m) (by rintro e w' ⟨rfl, m, rfl⟩; obtain ⟨k, hk⟩ := drewN_drewN W n m; exact ⟨rfl, k, hk⟩))
    have a1 := hkb (x + wd * y)
    have a2 := hkb (u + wd * v)
    have hF : hangF ks wd hi mo (x + wd * y) u v = (decide (0 ≤ ks.getD (x + wd * y) 0) && (decide (0 ≤ ks.getD (u + wd * v) 0) && decide (((ks.getD (x + wd * y) 0 - ks.getD (u + wd * v) 0).natAbs : Int) ≤ mo))) := by
      unfold hangF
      rw [hin]
      rfl
    generalize ks.getD (x + wd * y) 0 = p at *
    generalize ks.getD (u + wd * v) 0 = q at *
    have KN := Lib.hid (fun w => nearTo_q p q mo (by omega) (by omega) hm w)
    have lp := le0_fq (k := p) (by omega)
    have lq := le0_fq (k := q) (by omega)
    obtain ⟨vp, hvp⟩ : ∃ v, fq 2 p = v := ⟨_, rfl⟩
    obtain ⟨vq, hvq⟩ : ∃ v, fq 2 q = v := ⟨_, rfl⟩
    obtain ⟨vm, hvm⟩ : ∃ v, fq 2 mo = v := ⟨_, rfl⟩
    rw [hvp] at KA KA0 KN lp
    rw [hvq] at KB KN lq
    rw [hvm] at KN ⊢
    have HF := Lib.hid hF
    clear hF h hvp hvq hvm hkb hb a1 a2 hin
    go_enter Try.func48, Try.ntmps48
    go_wp2_with fail
    refine KH.out.mono ?_
    rintro e w' ⟨rfl, rfl⟩
    go_wp2_with fail
    refine KA0.out.mono ?_
    rintro e w' ⟨rfl, n1, rfl⟩
    go_wp2_with fail
    refine (noHole_any _ _).mono ?_
    rw [lp]
    rintro e w' ⟨rfl, rfl⟩
    by_cases hp : 0 ≤ p
    · rw [decide_eq_true hp] at HF ⊢
      clear lp
      go_wp2_with fail
      refine (KB.out n1).mono ?_
      rintro e w' ⟨rfl, n2, rfl⟩
      go_wp2_with fail
      refine (noHole_any _ _).mono ?_
      rw [lq]
      rintro e w' ⟨rfl, rfl⟩
      by_cases hq : 0 ≤ q
      · rw [decide_eq_true hq] at HF ⊢
        clear lq
        go_wp2_with fail
        refine (KA.out _).mono ?_
        rintro e w' ⟨rfl, n3, rfl⟩
        go_wp2_with fail
        refine (KB.out _).mono ?_
        rintro e w' ⟨rfl, n4, rfl⟩
        go_wp2_with fail
        refine (KN.out _).mono ?_
        rintro e w' ⟨rfl, rfl⟩
        go_wp2
        go_ret
        exact ⟨by rw [HF.out]; simp, _, rfl⟩
      · rw [decide_eq_false hq] at HF ⊢
        clear lq
        go_wp2
        go_ret
        exact ⟨by rw [HF.out]; simp, _, rfl⟩
    · rw [decide_eq_false hp] at HF ⊢
      clear lp
      go_wp2
      go_ret
      exact ⟨by rw [HF.out]; simp, _, rfl⟩
  · have hin : inB u v wd hi = false := by simpa using hin
    have KH := Lib.hid (mapHas_any W pb wd hi sv u v hw2 hh2 h.box)
    rw [hin] at KH
    have hF : hangF ks wd hi mo (x + wd * y) u v = false := by unfold hangF; rw [hin]; rfl
    have HF := Lib.hid hF
    obtain ⟨vm, hvm⟩ : ∃ v, fq 2 mo = v := ⟨_, rfl⟩
    rw [hvm]
    clear h hvm hkb hb hin hF
    go_enter Try.func48, Try.ntmps48
    go_wp2_with fail
    refine KH.out.mono ?_
    rintro e w' ⟨rfl, rfl⟩
    go_wp2
    go_ret
    exact ⟨by rw [HF.out]; rfl, 0, rfl⟩

end Go.Proofs.Yticbgeknledpcaa
