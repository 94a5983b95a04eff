/- What the calls of the bodiless functions give in this program. -/
import Derived.Test.YtogojmimflgmmaaRows
import Derived.Test.YtogojmimflgmmaaFw
import Derived.Laws.Externs
import Derived.KernelRfl
namespace Go.Proofs.Ytogojmimflgmmaa

@[go_sem] theorem ext_f32bits (b : Nat) (w : World) : (callFunc 37 #[.float .f32 b]).run Try.prog w = .ok (.value (.int .u32 b)) w := by
  rw [run_callFunc_extern (e := Extern.MathFloatBits.float32bits) Try.func37 (by kernel_rfl) (by kernel_rfl) (by kernel_rfl) (by kernel_rfl)]
  rfl

end Go.Proofs.Ytogojmimflgmmaa
