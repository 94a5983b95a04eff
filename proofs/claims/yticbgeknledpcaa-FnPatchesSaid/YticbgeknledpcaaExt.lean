/- What the calls of the bodiless functions give in this program. -/
import Derived.Test.YticbgeknledpcaaRows
import Derived.Test.YticbgeknledpcaaFw
import Derived.Laws.Externs
import Derived.KernelRfl
namespace Go.Proofs.Yticbgeknledpcaa

@[go_sem] theorem ext_f32bits (b : Nat) (w : World) : (callFunc 91 #[.float .f32 b]).run Try.prog w = .ok (.value (.int .u32 b)) w := by
  rw [run_callFunc_extern (e := Extern.MathFloatBits.float32bits) Try.func91 (by kernel_rfl) (by kernel_rfl) (by kernel_rfl) (by kernel_rfl)]
  rfl

@[go_sem] theorem ext_f32from (n : Int) (w : World) : (callFunc 92 #[.int .u32 n]).run Try.prog w = .ok (.value (.float .f32 n.toNat)) w := by
  rw [run_callFunc_extern (e := Extern.MathFloatBits.float32frombits) Try.func92 (by kernel_rfl) (by kernel_rfl) (by kernel_rfl) (by kernel_rfl)]
  rfl

end Go.Proofs.Yticbgeknledpcaa
