/- What the calls of the bodiless functions give in this program. -/
import Derived.Test.YtabbjilgpfnacaaGreatRows
import Derived.Test.YtabbjilgpfnacaaGreatFw
import Derived.Laws.Externs
import Derived.KernelRfl
namespace Go.Proofs.YtabbjilgpfnacaaGreat

@[go_sem] theorem ext_f32bits (b : Nat) (w : World) : (callFunc 96 #[.float .f32 b]).run Tryz.prog w = .ok (.value (.int .u32 b)) w := by
  rw [run_callFunc_extern (e := Extern.MathFloatBits.float32bits) Tryz.func96 (by kernel_rfl) (by kernel_rfl) (by kernel_rfl) (by kernel_rfl)]
  rfl

@[go_sem] theorem ext_f32from (n : Int) (w : World) : (callFunc 95 #[.int .u32 n]).run Tryz.prog w = .ok (.value (.float .f32 n.toNat)) w := by
  rw [run_callFunc_extern (e := Extern.MathFloatBits.float32frombits) Tryz.func95 (by kernel_rfl) (by kernel_rfl) (by kernel_rfl) (by kernel_rfl)]
  rfl

end Go.Proofs.YtabbjilgpfnacaaGreat
