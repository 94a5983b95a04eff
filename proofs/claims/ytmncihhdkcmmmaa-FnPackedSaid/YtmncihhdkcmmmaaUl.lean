/- Greys of bytes. -/
import Derived.Test.YtmncihhdkcmmmaaUf
import Derived.Test.YtmncihhdkcmmmaaPix
import Derived.Test.YtmncihhdkcmmmaaFc
import Derived.Deep.RegionHeld3
import Derived.StillTactics
import Derived.Deep.CutRange
namespace Go.Proofs.Ytmncihhdkcmmmaa
open Go.RowKit
set_option maxRecDepth 100000
set_option linter.unusedVariables false
set_option linter.unusedSimpArgs false

def isNumP (d : Ieee.Datum) : Bool := match d with | .nan _ _ => false | _ => true
def rtfW (x : Nat) : Nat := FloatKind.f64.encode ((FloatKind.f64.decode x).integral .down)
theorem rtf_plain (x : Nat) (d : Ieee.Datum) (hd : FloatKind.f64.decode x = d) (h : isNumP d = true) : Extern.MathFloor.toIntegral "math.archFloor" .down #[.float .f64 x] = (pure (.float .f64 (FloatKind.f64.encode (d.integral .down))) : Sem Value) := by
  show ((match FloatKind.f64.decode x with
    | .nan s t =>
      if FloatKind.f64.format.quiet t = t then pure (Value.float .f64 x) else do
      let kept ← choose (.extern "math.Floor,Ceil,Trunc,RoundToEven.signallingNaN kept" 2)
      pure (Value.float .f64 (if kept == 1 then x else FloatKind.f64.encode (.nan s (FloatKind.f64.format.quiet t))))
    | d => pure (Value.float .f64 (FloatKind.f64.encode (d.integral .down)))) : Sem Value) = _
  rw [hd]
  cases d <;> first | (simp [isNumP] at h; done) | rfl
@[go_sem] theorem ext_rtf (x : Nat) (w : World) (h : isNumP (FloatKind.f64.decode x) = true) : (callFunc 75 #[.float .f64 x]).run Try.prog w = .ok (.value (.float .f64 (rtfW x))) w := by
  rw [run_callFunc_extern (e := Extern.MathFloor.toIntegral "math.archFloor" .down) Try.func75 (by kernel_rfl) (by kernel_rfl) (by kernel_rfl) (by kernel_rfl), rtf_plain x _ rfl h]
  rfl
@[go_sem] theorem conv64_u8 (b : Nat) (n : Int) (w : World) (h : floatToIntVal .f64 b .u8 = some n) : (convert 112 5 (.float .f64 b)).run Try.prog w = .ok (.int .u8 n) w := run_convert_float_int w _ _ _ _ _ _ (by rfl) (by rfl) h
/-- The grey of a byte, and what becomes of it. -/
def gW (b : Nat) : Nat := (floatBits .quo .f32 (floatOfInt .f32 (b : Int)) 1132396544).getD 0
def gD (b : Nat) : Nat := (floatToFloatBits .f32 (gW b) .f64).getD 0
def gE (b : Nat) : Nat := (floatBits .mul .f64 (gD b) 4643176031446892544).getD 0
def gF (b : Nat) : Nat := (floatBits .add .f64 (gE b) 4602678819172646912).getD 0
structure GreyOk (b : Nat) : Prop where
  quo : floatBits .quo .f32 (floatOfInt .f32 (b : Int)) 1132396544 = some (gW b)
  fl_ : fl (gW b) = gW b
  lt : gW b < 4294967296
  pos : lt32 0 (gW b) = decide (0 < b)
  one : lt32 1065353216 (gW b) = false
  wid : floatToFloatBits .f32 (gW b) .f64 = some (gD b)
  mul : floatBits .mul .f64 (gD b) 4643176031446892544 = some (gE b)
  add : floatBits .add .f64 (gE b) 4602678819172646912 = some (gF b)
  num : isNumP (FloatKind.f64.decode (gF b)) = true
  int : floatToIntVal .f64 (rtfW (gF b)) .u8 = some (b : Int)
theorem grey_tab : ∀ b : Fin 256, floatBits .quo .f32 (floatOfInt .f32 (b.val : Int)) 1132396544 = some (gW b.val) ∧ fl (gW b.val) = gW b.val ∧ gW b.val < 4294967296 ∧ lt32 0 (gW b.val) = decide (0 < b.val) ∧ lt32 1065353216 (gW b.val) = false ∧ floatToFloatBits .f32 (gW b.val) .f64 = some (gD b.val) ∧ floatBits .mul .f64 (gD b.val) 4643176031446892544 = some (gE b.val) ∧ floatBits .add .f64 (gE b.val) 4602678819172646912 = some (gF b.val) ∧ isNumP (FloatKind.f64.decode (gF b.val)) = true ∧ floatToIntVal .f64 (rtfW (gF b.val)) .u8 = some (b.val : Int) := by decide +kernel
theorem grey_ok {b : Nat} (h : b < 256) : GreyOk b := by
  obtain ⟨t1, t2, t3, t4, t5, t6, t7, t8, t9, t10⟩ := grey_tab ⟨b, h⟩
  exact ⟨t1, t2, t3, t4, t5, t6, t7, t8, t9, t10⟩

set_option maxHeartbeats 1000000 in
theorem byteOf_any (b : Nat) (hb : b < 256) (w : World) : Calls Try.prog 50 #[.float .f32 (gW b)] w fun e w' => e = .returned (.int .u8 (b : Int)) ∧ ∃ n, w' = w.drewN n := by
  obtain ⟨t1, t2, t3, t4, t5, t6, t7, t8, t9, t10⟩ := grey_ok hb
  have hv := cvr_some t6
  have hv2 := cvd_some t6
  have a1 := fres_some t7
  have a2 := fdr_some t7
  have a3 := fres_some t8
  have a4 := fdr_some t8
  have hd0 : ∀ W : World, W.drewN 0 = W := fun _ => rfl
  generalize gW b = g at *
  generalize gD b = d at *
  generalize gE b = e1 at *
  generalize gF b = f1 at *
  clear t1 t2 t3 t6 t7 t8
  by_cases h0 : 0 < b
  · rw [decide_eq_true h0] at t4
    have KF : ∀ W, Calls Try.prog 66 #[.float .f64 f1] W fun e w' => e = .returned (.float .f64 (rtfW f1)) ∧ W = w' := by
      intro W
      go_enter Try.func66, Try.ntmps66
      go_wp2
      go_ret
      exact ⟨rfl, rfl⟩
    have KF := Lib.hid KF
    go_enter Try.func50, Try.ntmps50
    go_wp2_with fail
    refine (KF.out _).mono ?_
    rintro e w' ⟨rfl, hw'⟩
    subst hw'
    go_wp2_with fail
    go_ret
    exact ⟨rfl, 0, rfl⟩
  · obtain rfl : b = 0 := by omega
    have t4' : lt32 0 g = false := by rw [t4]; rfl
    clear t4
    go_enter Try.func50, Try.ntmps50
    go_wp2
    go_ret
    exact ⟨rfl, 0, rfl⟩

end Go.Proofs.Ytmncihhdkcmmmaa
