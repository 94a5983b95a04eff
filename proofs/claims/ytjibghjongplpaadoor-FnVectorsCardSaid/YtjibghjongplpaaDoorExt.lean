/- What the calls of the bodiless functions give in this program. -/
import Derived.Test.YtjibghjongplpaaDoorRows
import Derived.Test.YtjibghjongplpaaDoorFw
import Derived.Laws.Externs
import Derived.KernelRfl
namespace Go.Proofs.YtjibghjongplpaaDoor

@[go_sem] theorem ext_f32bits (b : Nat) (w : World) : (callFunc 52 #[.float .f32 b]).run Tryd.prog w = .ok (.value (.int .u32 b)) w := by
  rw [run_callFunc_extern (e := Extern.MathFloatBits.float32bits) Tryd.func52 (by kernel_rfl) (by kernel_rfl) (by kernel_rfl) (by kernel_rfl)]
  rfl

@[go_sem] theorem ext_f32from (n : Int) (w : World) : (callFunc 73 #[.int .u32 n]).run Tryd.prog w = .ok (.value (.float .f32 n.toNat)) w := by
  rw [run_callFunc_extern (e := Extern.MathFloatBits.float32frombits) Tryd.func73 (by kernel_rfl) (by kernel_rfl) (by kernel_rfl) (by kernel_rfl)]
  rfl

end Go.Proofs.YtjibghjongplpaaDoor
