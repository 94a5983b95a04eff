/- What the calls of the bodiless functions give in this program. -/
import Derived.Test.YtkhoifgljalfcaaRows
import Derived.Test.YtkhoifgljalfcaaFw
import Derived.Laws.Externs
import Derived.KernelRfl
namespace Go.Proofs.Ytkhoifgljalfcaa

@[go_sem] theorem ext_f32bits (b : Nat) (w : World) : (callFunc 59 #[.float .f32 b]).run Try.prog w = .ok (.value (.int .u32 b)) w := by
  rw [run_callFunc_extern (e := Extern.MathFloatBits.float32bits) Try.func59 (by kernel_rfl) (by kernel_rfl) (by kernel_rfl) (by kernel_rfl)]
  rfl

@[go_sem] theorem ext_f32from (n : Int) (w : World) : (callFunc 58 #[.int .u32 n]).run Try.prog w = .ok (.value (.float .f32 n.toNat)) w := by
  rw [run_callFunc_extern (e := Extern.MathFloatBits.float32frombits) Try.func58 (by kernel_rfl) (by kernel_rfl) (by kernel_rfl) (by kernel_rfl)]
  rfl

end Go.Proofs.Ytkhoifgljalfcaa
