/- What the calls of the bodiless functions give in this program. -/
import Derived.Test.YtogojmimflgmmaaDoorRows
import Derived.Test.YtogojmimflgmmaaDoorFw
import Derived.Laws.Externs
import Derived.KernelRfl
namespace Go.Proofs.YtogojmimflgmmaaDoor

@[go_sem] theorem ext_f32bits (b : Nat) (w : World) : (callFunc 51 #[.float .f32 b]).run Tryd.prog w = .ok (.value (.int .u32 b)) w := by
  rw [run_callFunc_extern (e := Extern.MathFloatBits.float32bits) Tryd.func51 (by kernel_rfl) (by kernel_rfl) (by kernel_rfl) (by kernel_rfl)]
  rfl

end Go.Proofs.YtogojmimflgmmaaDoor
