/- Samples at cells; pictures that are told back. -/
import Derived.Test.YtialajgobpokmaaPi
import Derived.Test.YtialajgobpokmaaMc
namespace Go.Proofs.Ytialajgobpokmaa
open Go.RowKit
set_option maxRecDepth 100000
set_option linter.unusedVariables false
set_option linter.unusedSimpArgs false

def isNumP (d : Ieee.Datum) : Bool := match d with | .nan _ _ => false | _ => true
def rtfW (x : Nat) : Nat := FloatKind.f64.encode ((FloatKind.f64.decode x).integral .down)
theorem rtf_tab : ∀ k : Fin 201, rtfW (dq 0 ((k.val : Int) - 100)) = dq 0 ((k.val : Int) - 100) ∧ isNumP (FloatKind.f64.decode (dq 0 ((k.val : Int) - 100))) = true := by decide +kernel
theorem rtf_int {n : Int} (h : n.natAbs ≤ 100) : rtfW (dq 0 n) = dq 0 n ∧ isNumP (FloatKind.f64.decode (dq 0 n)) = true := by
  have := rtf_tab ⟨(n + 100).toNat, by omega⟩
  have e : (((n + 100).toNat : Nat) : Int) - 100 = n := by omega
  simp only [e] at this
  exact this
theorem rtf_plain (x : Nat) (d : Ieee.Datum) (hd : FloatKind.f64.decode x = d) (h : isNumP d = true) : Extern.MathFloor.toIntegral "math.archFloor" .down #[.float .f64 x] = (pure (.float .f64 (FloatKind.f64.encode (d.integral .down))) : Sem Value) := by
  show ((match FloatKind.f64.decode x with
    | .nan s t =>
      if FloatKind.f64.format.quiet t = t then pure (Value.float .f64 x) else do
      let kept ← choose (.extern "math.Floor,Ceil,Trunc,RoundToEven.signallingNaN kept" 2)
      pure (Value.float .f64 (if kept == 1 then x else FloatKind.f64.encode (.nan s (FloatKind.f64.format.quiet t))))
    | d => pure (Value.float .f64 (FloatKind.f64.encode (d.integral .down)))) : Sem Value) = _
  rw [hd]
  cases d <;> first | (simp [isNumP] at h; done) | rfl
@[go_sem] theorem ext_rtf (x : Nat) (w : World) (h : isNumP (FloatKind.f64.decode x) = true) : (callFunc 79 #[.float .f64 x]).run Try.prog w = .ok (.value (.float .f64 (rtfW x))) w := by
  rw [run_callFunc_extern (e := Extern.MathFloor.toIntegral "math.archFloor" .down) Try.func79 (by kernel_rfl) (by kernel_rfl) (by kernel_rfl) (by kernel_rfl), rtf_plain x _ rfl h]
  rfl
theorem floor_int (n : Int) (w : World) (h : n.natAbs ≤ 100) : Calls Try.prog 75 #[.float .f64 (dq 0 n)] w fun e w' => e = .returned (.float .f64 (dq 0 n)) ∧ w = w' := by
  obtain ⟨h1, h2⟩ := rtf_int h
  generalize dq 0 n = x at *
  go_enter Try.func75, Try.ntmps75
  go_wp2
  go_ret
  exact ⟨by simp [h1], rfl⟩
@[go_sem] theorem conv32_i64p (b : Nat) (n : Int) (w : World) (h : floatToIntVal .f32 b .i64 = some n) : (convert 32 2 (.float .f32 b)).run Try.prog w = .ok (.int .i64 n) w := run_convert_float_int w _ _ _ _ _ _ (by rfl) (by rfl) h

theorem sampleOk_q (n : Int) (w : World) (h : n.natAbs ≤ 100) : Calls Try.prog 74 #[.float .f32 (fq 0 n)] w fun e w' => e = .returned (.bool true) ∧ w = w' := by
  have c1 : fq 0 (-1000) = 3296329728 := by decide +kernel
  have c2 : fq 0 1000 = 1148846080 := by decide +kernel
  have l1 : le32 3296329728 (fq 0 n) = true := by rw [← c1, le32_fq (by decide) (by omega)]; simp; omega
  have l2 : le32 (fq 0 n) 1148846080 = true := by rw [← c2, le32_fq (by omega) (by decide)]; simp; omega
  generalize fq 0 n = x at *
  clear c1 c2 h
  go_enter Try.func74, Try.ntmps74
  go_wp2
  go_ret
  exact ⟨rfl, rfl⟩

/-- Nothing is added. -/
theorem zero_mul_tab : ∀ z : Fin 33, ∃ m, floatBits .mul .f32 0 (fq 2 ((z.val : Int) - 16)) = some m ∧ (m = 0 ∨ m = 2147483648) := by
  have h : ∀ z : Fin 33, floatBits .mul .f32 0 (fq 2 ((z.val : Int) - 16)) = some 0 ∨ floatBits .mul .f32 0 (fq 2 ((z.val : Int) - 16)) = some 2147483648 := by decide +kernel
  intro z
  rcases h z with e | e
  · exact ⟨0, e, .inl rfl⟩
  · exact ⟨2147483648, e, .inr rfl⟩
theorem zero_add_tab : ∀ z : Fin 17, floatBits .add .f32 (fq 2 (z.val : Int)) 0 = some (fq 2 (z.val : Int)) ∧ floatBits .add .f32 (fq 2 (z.val : Int)) 2147483648 = some (fq 2 (z.val : Int)) := by decide +kernel
/-- A word of a number, nothing of the difference to another one added. -/
theorem mix_zero {a b : Int} (ha : 0 ≤ a ∧ a ≤ 16) (hb : 0 ≤ b ∧ b ≤ 16) : ∃ m, floatBits .sub .f32 (fq 2 b) (fq 2 a) = some (fq 2 (b - a)) ∧ floatBits .mul .f32 0 (fq 2 (b - a)) = some m ∧ floatBits .add .f32 (fq 2 a) m = some (fq 2 a) := by
  obtain ⟨m, h1, h2⟩ := zero_mul_tab ⟨(b - a + 16).toNat, by omega⟩
  have e : (((b - a + 16).toNat : Nat) : Int) - 16 = b - a := by omega
  simp only [e] at h1
  obtain ⟨g1, g2⟩ := zero_add_tab ⟨a.toNat, by omega⟩
  have e2 : ((a.toNat : Nat) : Int) = a := by omega
  simp only [e2] at g1 g2
  refine ⟨m, fq_sub (by omega) (by omega) (by omega), h1, ?_⟩
  rcases h2 with rfl | rfl <;> assumption

end Go.Proofs.Ytialajgobpokmaa
