/-
  No cell of these rows narrows 'for every input' (looked for: loops, veiled, ifaces, maps, wideKeys, modest, calm, conditions, laid).
  DERIVED. THE GIVEN ROWS OF THIS SEAT. 4 by the template 'for every input the law returns true; each argument reads behind the call as it read before'; 0 by the template 'total and deterministic' (their statements: YtmpbnmmpniganaaTotals.lean).
  GIVEN WITH THE SEED: the statements are not yours to turn. If you find one false, say at which input.
  Laid BY PROGRAM, IN A SANDBOX (cutbox-rows.mjs): the forced cells as the released guide's own fill.sh prints them over the translation f14ecda9469fc1f5… (all of the seat's roots in one cut). By AI agents, Wed Nov 11 2026. No macro, syntax, notation, axiom, sorry.
-/
import Derived.Test.YtmpbnmmpniganaaChecked
import GoSem.Claim
import GoSem.ClaimJoined
import GoSem.ClaimMapViews
import Derived.JoinedTies
import Derived.KernelRfl
namespace Go.Proofs.Ytmpbnmmpniganaa
/- THE CELL 'sum', in the pinned program and in every row, IS THE sha256 OF THE DUMP (.gsa) THAT YtmpbnmmpniganaaProg.lean LOADS. Nothing in Lean hashes anything: it is a label: what it is worth is what the hold of that sum in a sandbox is worth. -/
noncomputable def Try.pinned : Pinned := { name := "ytmpbnmmpniganaa", sum := "f14ecda9469fc1f5e6cfad5fb1cfdcc619a348795bbbbe815c841483fd79a21a", checked := Try.checked }
namespace Rows
def none {H : Type} : Left H := { results := [], args := [] }

/-- 'laws.FnHalves': WHATEVER THE INPUT: true; the input reads as it did. -/
def fnHalvesSpec : ChangeSpec := { name := "fnHalves", fn := fun _ => fun
  | [d1, d2] => { results := [.lit (.bool true)], args := [d1, d2] }
  | _ => none }
def fnHalvesRow : OpenClaim := { program := "ytmpbnmmpniganaa", sum := "f14ecda9469fc1f5e6cfad5fb1cfdcc619a348795bbbbe815c841483fd79a21a", func := "loop.example/g01223/laws.FnHalves", spec := "fnHalves", inPlace := ["math.Float32bits", "math.Float32frombits", "math.RoundToEven"], unfollowed := true, recurses := true, apart := false }
def FnHalvesSaid : Prop := fnHalvesRow.holds Try.pinned (OpenSpec.ofChange fnHalvesSpec)

/-- ITS FALSE NEIGHBOUR: 'it returns false'. Refute it at one input. -/
def fnHalvesWrong : ChangeSpec := { name := "fnHalves", fn := fun _ => fun
  | [d1, d2] => { results := [.lit (.bool false)], args := [d1, d2] }
  | _ => none }
def FnHalvesWrongFalsely : Prop := fnHalvesRow.holds Try.pinned (OpenSpec.ofChange fnHalvesWrong)

/-- 'laws.FnShifts': WHATEVER THE INPUT: true; the input reads as it did. -/
def fnShiftsSpec : ChangeSpec := { name := "fnShifts", fn := fun _ => fun
  | [d1, d2] => { results := [.lit (.bool true)], args := [d1, d2] }
  | _ => none }
def fnShiftsRow : OpenClaim := { program := "ytmpbnmmpniganaa", sum := "f14ecda9469fc1f5e6cfad5fb1cfdcc619a348795bbbbe815c841483fd79a21a", func := "loop.example/g01223/laws.FnShifts", spec := "fnShifts", inPlace := ["math.RoundToEven", "math.Float32bits", "math.Float32frombits"], unfollowed := true, recurses := true, apart := false }
def FnShiftsSaid : Prop := fnShiftsRow.holds Try.pinned (OpenSpec.ofChange fnShiftsSpec)

/-- ITS FALSE NEIGHBOUR: 'it returns false'. Refute it at one input. -/
def fnShiftsWrong : ChangeSpec := { name := "fnShifts", fn := fun _ => fun
  | [d1, d2] => { results := [.lit (.bool false)], args := [d1, d2] }
  | _ => none }
def FnShiftsWrongFalsely : Prop := fnShiftsRow.holds Try.pinned (OpenSpec.ofChange fnShiftsWrong)

/-- 'laws.FnMedians': WHATEVER THE INPUT: true; the input reads as it did. -/
def fnMediansSpec : ChangeSpec := { name := "fnMedians", fn := fun _ => fun
  | [d1, d2] => { results := [.lit (.bool true)], args := [d1, d2] }
  | _ => none }
def fnMediansRow : OpenClaim := { program := "ytmpbnmmpniganaa", sum := "f14ecda9469fc1f5e6cfad5fb1cfdcc619a348795bbbbe815c841483fd79a21a", func := "loop.example/g01223/laws.FnMedians", spec := "fnMedians", inPlace := ["math.Float32bits", "math.Float32frombits"], unfollowed := true, recurses := true, apart := false }
def FnMediansSaid : Prop := fnMediansRow.holds Try.pinned (OpenSpec.ofChange fnMediansSpec)

/-- ITS FALSE NEIGHBOUR: 'it returns false'. Refute it at one input. -/
def fnMediansWrong : ChangeSpec := { name := "fnMedians", fn := fun _ => fun
  | [d1, d2] => { results := [.lit (.bool false)], args := [d1, d2] }
  | _ => none }
def FnMediansWrongFalsely : Prop := fnMediansRow.holds Try.pinned (OpenSpec.ofChange fnMediansWrong)

/-- 'laws.FnChecked': WHATEVER THE INPUT: true; the input reads as it did. -/
def fnCheckedSpec : ChangeSpec := { name := "fnChecked", fn := fun _ => fun
  | [d1, d2] => { results := [.lit (.bool true)], args := [d1, d2] }
  | _ => none }
def fnCheckedRow : OpenClaim := { program := "ytmpbnmmpniganaa", sum := "f14ecda9469fc1f5e6cfad5fb1cfdcc619a348795bbbbe815c841483fd79a21a", func := "loop.example/g01223/laws.FnChecked", spec := "fnChecked", inPlace := ["math.RoundToEven", "math.Float32bits", "math.Float32frombits"], unfollowed := true, recurses := true, apart := false }
def FnCheckedSaid : Prop := fnCheckedRow.holds Try.pinned (OpenSpec.ofChange fnCheckedSpec)

/-- ITS FALSE NEIGHBOUR: 'it returns false'. Refute it at one input. -/
def fnCheckedWrong : ChangeSpec := { name := "fnChecked", fn := fun _ => fun
  | [d1, d2] => { results := [.lit (.bool false)], args := [d1, d2] }
  | _ => none }
def FnCheckedWrongFalsely : Prop := fnCheckedRow.holds Try.pinned (OpenSpec.ofChange fnCheckedWrong)

/- THE SECOND FORM. 'bulk': how many values and letters a reading holds, each counted each time it is reached (what is shared counts as often as it is met; a slice's spare places count too). A statement '..UptoSaid' is the law's where the arguments, and the package variables that the reading takes, are together of bulk at most 1048576: NARROWER than '..Said'. Prove '..Said' where nothing that the law and all that it calls make is longer than what came in: it says more and counts as full. Else prove '..UptoSaid'. A law counts once. -/
mutual
def uptoBulk {H : Type} : DataW H → Nat
  | .lit (.string bytes) => bytes.length + 1
  | .lit _ => 1
  | .nil => 1
  | .ptr d => uptoBulk d + 1
  | .slice elems spare => uptoBulkAll elems + uptoBulkAll spare + 1
  | .agg parts => uptoBulkAll parts + 1
  | .iface _ d => uptoBulk d + 1
  | .map entries => uptoBulkEntries entries + 1
  | .held _ => 1
def uptoBulkAll {H : Type} : List (DataW H) → Nat
  | [] => 0
  | d :: r => uptoBulk d + uptoBulkAll r
def uptoBulkEntries {H : Type} : List (Lit × DataW H) → Nat
  | [] => 0
  | x :: r => uptoBulkEntry x + uptoBulkEntries r
def uptoBulkEntry {H : Type} : Lit × DataW H → Nat
  | (.string bytes, d) => bytes.length + uptoBulk d + 1
  | (_, d) => uptoBulk d + 1
 end
def uptoSmall : (H : Type) → List (DataW H) → Bool := fun _ ds => decide (uptoBulkAll ds ≤ 1048576)
def OpenSpec.upto (s : _root_.Go.ChangeSpec) : _root_.Go.OpenSpec := { _root_.Go.OpenSpec.ofChange s with cond := some uptoSmall }

/-- 'laws.FnHalves', WHERE WHAT IT READS IS OF BULK AT MOST 1048576: true; the input reads as it did. -/
def fnHalvesUptoRow : OpenClaim := { program := "ytmpbnmmpniganaa", sum := "f14ecda9469fc1f5e6cfad5fb1cfdcc619a348795bbbbe815c841483fd79a21a", func := "loop.example/g01223/laws.FnHalves", spec := "fnHalves", inPlace := ["math.Float32bits", "math.Float32frombits", "math.RoundToEven"], unfollowed := true, recurses := true, apart := false, narrowed := true }
def FnHalvesUptoSaid : Prop := fnHalvesUptoRow.holds Try.pinned (OpenSpec.upto fnHalvesSpec)

/-- 'laws.FnShifts', WHERE WHAT IT READS IS OF BULK AT MOST 1048576: true; the input reads as it did. -/
def fnShiftsUptoRow : OpenClaim := { program := "ytmpbnmmpniganaa", sum := "f14ecda9469fc1f5e6cfad5fb1cfdcc619a348795bbbbe815c841483fd79a21a", func := "loop.example/g01223/laws.FnShifts", spec := "fnShifts", inPlace := ["math.RoundToEven", "math.Float32bits", "math.Float32frombits"], unfollowed := true, recurses := true, apart := false, narrowed := true }
def FnShiftsUptoSaid : Prop := fnShiftsUptoRow.holds Try.pinned (OpenSpec.upto fnShiftsSpec)

/-- 'laws.FnMedians', WHERE WHAT IT READS IS OF BULK AT MOST 1048576: true; the input reads as it did. -/
def fnMediansUptoRow : OpenClaim := { program := "ytmpbnmmpniganaa", sum := "f14ecda9469fc1f5e6cfad5fb1cfdcc619a348795bbbbe815c841483fd79a21a", func := "loop.example/g01223/laws.FnMedians", spec := "fnMedians", inPlace := ["math.Float32bits", "math.Float32frombits"], unfollowed := true, recurses := true, apart := false, narrowed := true }
def FnMediansUptoSaid : Prop := fnMediansUptoRow.holds Try.pinned (OpenSpec.upto fnMediansSpec)

/-- 'laws.FnChecked', WHERE WHAT IT READS IS OF BULK AT MOST 1048576: true; the input reads as it did. -/
def fnCheckedUptoRow : OpenClaim := { program := "ytmpbnmmpniganaa", sum := "f14ecda9469fc1f5e6cfad5fb1cfdcc619a348795bbbbe815c841483fd79a21a", func := "loop.example/g01223/laws.FnChecked", spec := "fnChecked", inPlace := ["math.RoundToEven", "math.Float32bits", "math.Float32frombits"], unfollowed := true, recurses := true, apart := false, narrowed := true }
def FnCheckedUptoSaid : Prop := fnCheckedUptoRow.holds Try.pinned (OpenSpec.upto fnCheckedSpec)

end Rows
end Go.Proofs.Ytmpbnmmpniganaa
