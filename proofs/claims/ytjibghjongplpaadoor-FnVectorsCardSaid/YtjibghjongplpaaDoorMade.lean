/- impl.made: a picture whose greys are told by a function that writes nothing that was there. -/
import Derived.Test.YtjibghjongplpaaDoorMem
namespace Go.Proofs.YtjibghjongplpaaDoor
open Go.RowKit
set_option maxRecDepth 100000
set_option linter.unusedVariables false

/-- The list of n values of a function. -/
def tab (n : Nat) (f : Nat → Nat) : List Nat := (List.range n).map f

theorem tab_length (n : Nat) (f : Nat → Nat) : (tab n f).length = n := by unfold tab; simp

theorem tab_succ (n : Nat) (f : Nat → Nat) : tab (n + 1) f = tab n f ++ [f n] := by unfold tab; rw [List.range_succ]; simp

theorem tab_get (n : Nat) (f : Nat → Nat) (i : Nat) (h : i < (tab n f).length) : (tab n f)[i] = f i := by simp [tab]

/-- A function value of two integers that gives numbers and writes nothing that was there. -/
def Gives2 (w0 : World) (fv : Value) (wd hi : Nat) (g : Nat → Nat → Nat) : Prop :=
  ∃ fid caps, fv = .func (.func fid) #[] caps ∧ (∀ args w, (callFunc fid args).run Tryd.prog w = .ok (.enter fid args) w) ∧
    ∀ (x y : Nat) (W : World), x < wd → y < hi → Below w0.heap.size w0 W →
      Calls Tryd.prog fid (#[.int .i64 x, .int .i64 y] ++ caps) W fun e w' => ∃ r, e = .returned (.float .f32 r) ∧ r < 4294967296 ∧ fl r = g x y ∧ Below W.heap.size W w'

theorem info_f32 : (Tryd.prog.info? 37).map (fun i => (i.zero, i.size, i.bytes)) = some (some (.float .f32 0), 1, 4) := by kernel_rfl

/-- A struct of two sizes and a slice of numbers of its own, by their table. -/
def MakesPic (w : World) (wd hi : Nat) (g : Nat → Nat → Nat) (e : Ending) (w' : World) : Prop :=
  ∃ a c bs, e = .returned (.agg #[.int .i64 wd, .int .i64 hi, .slice a (List.length bs) c]) ∧ OwnF w' w.heap.size (.slice a (List.length bs) c) bs ∧ bs.map fl = tab (hi * wd) (fun i => g (i % wd) (i / wd)) ∧ Below w.heap.size w w'

end Go.Proofs.YtjibghjongplpaaDoor
