/- Roots of small whole numbers: both root functions give one word. -/
import Derived.Test.YtkhoifgljalfcaaDf
import Derived.Test.YtkhoifgljalfcaaRoot
import Derived.Test.YtkhoifgljalfcaaNum
import Derived.Test.YtkhoifgljalfcaaFc
namespace Go.Proofs.Ytkhoifgljalfcaa
open Go.RowKit Ieee
set_option maxRecDepth 100000
set_option linter.unusedVariables false
set_option linter.unusedSimpArgs false

/-- The root of a word, told by conversions. -/
structure RootW (x : Nat) (q : Nat) : Prop where
  ex : ∃ d s, floatToFloatBits .f32 x .f64 = some d ∧ double.sqrt d = some s ∧ floatToFloatBits .f64 s .f32 = some q
  lt : q < 4294967296
  nan : nan32 q = false
theorem rootW_zero {x : Nat} (h : x = 0 ∨ x = 2147483648) : RootW x x := by
  rcases h with rfl | rfl
  · exact ⟨⟨0, 0, by decide +kernel, by decide +kernel, by decide +kernel⟩, by decide, by decide⟩
  · exact ⟨⟨9223372036854775808, 9223372036854775808, by decide +kernel, by decide +kernel, by decide +kernel⟩, by decide, by decide⟩
def ke2 : Nat := 1081
theorem unit128 : unit double 4638707616191610880 = 2 ^ ke2 ∧ unit single 1124073472 = 2 ^ 156 := by decide +kernel
theorem rootW_pos {x : Nat} {k : Int} (h : IsW x k) (h0 : 0 < k) (h1 : k ≤ 16384) : ∃ q, RootW x q := by
  obtain ⟨d, ed, ld, fd, gd, ud⟩ := wide_fin ((fin32_iff x).1 h.fin)
  have hsg : sgn double d = false := by rw [gd, h.sgn (by omega)]; simp; omega
  rw [h.units, Nat.mul_assoc, ← Nat.pow_add, show 149 + kw = kd from rfl] at ud
  obtain ⟨r, es, hri, hlo, hhi⟩ := sqrt_dbl fd hsg (by rw [ud]; exact Nat.mul_pos (by omega) (Nat.two_pow_pos _))
  have hr : r ≤ 4638707616191610880 := by
    apply hhi
    rw [ud, unit128.1, Nat.mul_assoc, ← Nat.pow_add, ← Nat.pow_add]
    have hk : k.natAbs ≤ 2 ^ 14 := by omega
    calc k.natAbs * 2 ^ (kd + kd) ≤ 2 ^ 14 * 2 ^ (kd + kd) := Nat.mul_le_mul_right _ hk
      _ = 2 ^ (ke2 + ke2) := by rw [← Nat.pow_add]; exact congrArg (fun e => 2 ^ e) (show 14 + (kd + kd) = ke2 + ke2 from rfl)
  have hrlt : r < double.infRung := by rw [db_inf]; omega
  have hrs : r < double.signWeight := Nat.lt_trans hrlt double.infRung_lt
  have hfin := fin_word double false hrlt
  have hrg := rg_word double false hrs
  have hu : unit double r ≤ 2 ^ ke2 := by rw [← unit128.1]; exact unit_mono double hr
  have hq : rd0 single (unit double r) kw ≤ 1124073472 := by
    refine IsRd.mono (D := 2 ^ kw) (D' := 1) (Nat.two_pow_pos _) (by omega) (rd0_isRd single (by decide) _ kw) (IsRd.exact single (D := 1) (by omega) _) ?_
    rw [unit128.2, Nat.mul_one, Nat.mul_one, ← Nat.pow_add]
    exact Nat.le_trans hu (Nat.le_of_eq (congrArg (fun e => 2 ^ e) (show ke2 = 156 + kw from rfl)))
  have hqi : rd0 single (unit double r) kw < single.infRung := by rw [sg_inf]; omega
  have hn := narrow_fin ((fin64_iff _).1 hfin) (rd0 single (unit double r) kw) (by rw [hrg]; exact rd0_isRd single (by decide) _ kw) hqi
  rw [sgn_word double _ hrs] at hn
  have hw : single.word false (rd0 single (unit double r) kw) = rd0 single (unit double r) kw := by unfold Format.word; simp
  rw [hw] at hn
  refine ⟨_, ⟨d, _, ed, es, hn⟩, by omega, ?_⟩
  unfold nan32
  simp
  omega
theorem rootW_of {x : Nat} {k : Int} (h : IsW x k) (h0 : 0 ≤ k) (h1 : k ≤ 16384) : ∃ q, RootW x q := by
  by_cases hk : k = 0
  · subst hk
    have hu := h.units
    rw [show (0 : Int).natAbs = 0 from rfl, Nat.zero_mul] at hu
    have hr : rg single x = 0 := unit_inj single (by rw [hu, unit_zero])
    refine ⟨x, rootW_zero ?_⟩
    have := h.lt
    unfold rg at hr
    rw [sg_sw] at hr
    omega
  · exact rootW_pos h (by omega) h1

@[go_sem] theorem ext_sqrt (x s : Nat) (w : World) (h : double.sqrt x = some s) : (callFunc 94 #[.float .f64 x]).run Try.prog w = .ok (.value (.float .f64 s)) w := by
  have e : Extern.MathSqrt.sqrt #[.float .f64 x] = (pure (.float .f64 s) : Sem Value) := by
    show (match double.sqrt x with | some r => (pure (Value.float .f64 r) : Sem Value) | none => _) = _
    rw [h]
  rw [run_callFunc_extern (e := Extern.MathSqrt.sqrt) Try.func94 (by kernel_rfl) (by kernel_rfl) (by kernel_rfl) (by kernel_rfl), e]
  rfl

theorem mSqrt_any (w : World) {x s : Nat} (h : double.sqrt x = some s) : Calls Try.prog 48 #[.float .f64 x] w fun e w' => e = .returned (.float .f64 s) ∧ w = w' := by
  go_enter Try.func48, Try.ntmps48
  go_wp2
  go_ret
  exact ⟨rfl, rfl⟩

theorem iRoot_any (w : World) {x q : Nat} (h : RootW x q) : Calls Try.prog 49 #[.float .f32 x] w fun e w' => e = .returned (.float .f32 q) ∧ w = w' := by
  obtain ⟨⟨d, s, e1, e2, e3⟩, hl, hn⟩ := h
  have k1 := fun W => cvr_some e1 W
  have k2 := cvd_some e1
  have k3 := fun W => cvr_some e3 W
  have k4 := cvd_some e3
  clear e1 e3 hl hn
  go_enter Try.func49, Try.ntmps49
  go_wp2
  go_ret
  exact ⟨rfl, rfl⟩

end Go.Proofs.Ytkhoifgljalfcaa
