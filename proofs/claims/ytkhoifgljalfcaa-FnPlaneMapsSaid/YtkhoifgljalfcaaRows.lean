/-
  No cell of these rows narrows 'for every input' (looked for: loops, veiled, ifaces, maps, wideKeys, modest, calm, conditions, laid).
  DERIVED. THE GIVEN ROWS OF THIS SEAT. 4 by the template 'for every input the law returns true; each argument reads behind the call as it read before'; 0 by the template 'total and deterministic' (their statements: YtkhoifgljalfcaaTotals.lean).
  GIVEN WITH THE SEED: the statements are not yours to turn. If you find one false, say at which input.
  Laid BY PROGRAM, IN A SANDBOX (cutbox-rows.mjs): the forced cells as the released guide's own fill.sh prints them over the translation 4b002c6f5859563a… (all of the seat's roots in one cut). By AI agents, Wed Nov 11 2026. No macro, syntax, notation, axiom, sorry.
-/
import Derived.Test.YtkhoifgljalfcaaChecked
import GoSem.Claim
import GoSem.ClaimJoined
import GoSem.ClaimMapViews
import Derived.JoinedTies
import Derived.KernelRfl
namespace Go.Proofs.Ytkhoifgljalfcaa
/- THE CELL 'sum', in the pinned program and in every row, IS THE sha256 OF THE DUMP (.gsa) THAT YtkhoifgljalfcaaProg.lean LOADS. Nothing in Lean hashes anything: it is a label: what it is worth is what the hold of that sum in a sandbox is worth. -/
noncomputable def Try.pinned : Pinned := { name := "ytkhoifgljalfcaa", sum := "4b002c6f5859563a17c12807278946f3dfd630038ed1c24452cd2fd0142bf29d", checked := Try.checked }
namespace Rows
def none {H : Type} : Left H := { results := [], args := [] }

/-- 'laws.FnAngles': WHATEVER THE INPUT: true; the input reads as it did. -/
def fnAnglesSpec : ChangeSpec := { name := "fnAngles", fn := fun _ => fun
  | [d1, d2] => { results := [.lit (.bool true)], args := [d1, d2] }
  | _ => none }
def fnAnglesRow : OpenClaim := { program := "ytkhoifgljalfcaa", sum := "4b002c6f5859563a17c12807278946f3dfd630038ed1c24452cd2fd0142bf29d", func := "loop.example/g01223/laws.FnAngles", spec := "fnAngles", inPlace := ["math.Float64frombits", "math.Float64bits", "math.sqrt", "math.archTrunc", "math.Float32frombits", "math.Float32bits"], unfollowed := true, recurses := true, apart := false }
def FnAnglesSaid : Prop := fnAnglesRow.holds Try.pinned (OpenSpec.ofChange fnAnglesSpec)

/-- ITS FALSE NEIGHBOUR: 'it returns false'. Refute it at one input. -/
def fnAnglesWrong : ChangeSpec := { name := "fnAngles", fn := fun _ => fun
  | [d1, d2] => { results := [.lit (.bool false)], args := [d1, d2] }
  | _ => none }
def FnAnglesWrongFalsely : Prop := fnAnglesRow.holds Try.pinned (OpenSpec.ofChange fnAnglesWrong)

/-- 'laws.FnPlaneMaps': WHATEVER THE INPUT: true; the input reads as it did. -/
def fnPlaneMapsSpec : ChangeSpec := { name := "fnPlaneMaps", fn := fun _ => fun
  | [d1, d2] => { results := [.lit (.bool true)], args := [d1, d2] }
  | _ => none }
def fnPlaneMapsRow : OpenClaim := { program := "ytkhoifgljalfcaa", sum := "4b002c6f5859563a17c12807278946f3dfd630038ed1c24452cd2fd0142bf29d", func := "loop.example/g01223/laws.FnPlaneMaps", spec := "fnPlaneMaps", unfollowed := true, recurses := true, apart := false }
def FnPlaneMapsSaid : Prop := fnPlaneMapsRow.holds Try.pinned (OpenSpec.ofChange fnPlaneMapsSpec)

/-- ITS FALSE NEIGHBOUR: 'it returns false'. Refute it at one input. -/
def fnPlaneMapsWrong : ChangeSpec := { name := "fnPlaneMaps", fn := fun _ => fun
  | [d1, d2] => { results := [.lit (.bool false)], args := [d1, d2] }
  | _ => none }
def FnPlaneMapsWrongFalsely : Prop := fnPlaneMapsRow.holds Try.pinned (OpenSpec.ofChange fnPlaneMapsWrong)

/-- 'laws.FnCameras': WHATEVER THE INPUT: true; the input reads as it did. -/
def fnCamerasSpec : ChangeSpec := { name := "fnCameras", fn := fun _ => fun
  | [d1, d2] => { results := [.lit (.bool true)], args := [d1, d2] }
  | _ => none }
def fnCamerasRow : OpenClaim := { program := "ytkhoifgljalfcaa", sum := "4b002c6f5859563a17c12807278946f3dfd630038ed1c24452cd2fd0142bf29d", func := "loop.example/g01223/laws.FnCameras", spec := "fnCameras", inPlace := ["math.Float32bits"], unfollowed := true, recurses := true, apart := false }
def FnCamerasSaid : Prop := fnCamerasRow.holds Try.pinned (OpenSpec.ofChange fnCamerasSpec)

/-- ITS FALSE NEIGHBOUR: 'it returns false'. Refute it at one input. -/
def fnCamerasWrong : ChangeSpec := { name := "fnCameras", fn := fun _ => fun
  | [d1, d2] => { results := [.lit (.bool false)], args := [d1, d2] }
  | _ => none }
def FnCamerasWrongFalsely : Prop := fnCamerasRow.holds Try.pinned (OpenSpec.ofChange fnCamerasWrong)

/-- 'laws.FnSamples': WHATEVER THE INPUT: true; the input reads as it did. -/
def fnSamplesSpec : ChangeSpec := { name := "fnSamples", fn := fun _ => fun
  | [d1, d2] => { results := [.lit (.bool true)], args := [d1, d2] }
  | _ => none }
def fnSamplesRow : OpenClaim := { program := "ytkhoifgljalfcaa", sum := "4b002c6f5859563a17c12807278946f3dfd630038ed1c24452cd2fd0142bf29d", func := "loop.example/g01223/laws.FnSamples", spec := "fnSamples", inPlace := ["math.archFloor", "math.Float64bits", "math.Float64frombits", "math.archTrunc"], unfollowed := true, recurses := true, apart := false }
def FnSamplesSaid : Prop := fnSamplesRow.holds Try.pinned (OpenSpec.ofChange fnSamplesSpec)

/-- ITS FALSE NEIGHBOUR: 'it returns false'. Refute it at one input. -/
def fnSamplesWrong : ChangeSpec := { name := "fnSamples", fn := fun _ => fun
  | [d1, d2] => { results := [.lit (.bool false)], args := [d1, d2] }
  | _ => none }
def FnSamplesWrongFalsely : Prop := fnSamplesRow.holds Try.pinned (OpenSpec.ofChange fnSamplesWrong)

/- THE SECOND FORM. 'bulk': how many values and letters a reading holds, each counted each time it is reached (what is shared counts as often as it is met; a slice's spare places count too). A statement '..UptoSaid' is the law's where the arguments, and the package variables that the reading takes, are together of bulk at most 1048576: NARROWER than '..Said'. Prove '..Said' where nothing that the law and all that it calls make is longer than what came in: it says more and counts as full. Else prove '..UptoSaid'. A law counts once. -/
mutual
def uptoBulk {H : Type} : DataW H → Nat
  | .lit (.string bytes) => bytes.length + 1
  | .lit _ => 1
  | .nil => 1
  | .ptr d => uptoBulk d + 1
  | .slice elems spare => uptoBulkAll elems + uptoBulkAll spare + 1
  | .agg parts => uptoBulkAll parts + 1
  | .iface _ d => uptoBulk d + 1
  | .map entries => uptoBulkEntries entries + 1
  | .held _ => 1
def uptoBulkAll {H : Type} : List (DataW H) → Nat
  | [] => 0
  | d :: r => uptoBulk d + uptoBulkAll r
def uptoBulkEntries {H : Type} : List (Lit × DataW H) → Nat
  | [] => 0
  | x :: r => uptoBulkEntry x + uptoBulkEntries r
def uptoBulkEntry {H : Type} : Lit × DataW H → Nat
  | (.string bytes, d) => bytes.length + uptoBulk d + 1
  | (_, d) => uptoBulk d + 1
 end
def uptoSmall : (H : Type) → List (DataW H) → Bool := fun _ ds => decide (uptoBulkAll ds ≤ 1048576)
def OpenSpec.upto (s : _root_.Go.ChangeSpec) : _root_.Go.OpenSpec := { _root_.Go.OpenSpec.ofChange s with cond := some uptoSmall }

/-- 'laws.FnAngles', WHERE WHAT IT READS IS OF BULK AT MOST 1048576: true; the input reads as it did. -/
def fnAnglesUptoRow : OpenClaim := { program := "ytkhoifgljalfcaa", sum := "4b002c6f5859563a17c12807278946f3dfd630038ed1c24452cd2fd0142bf29d", func := "loop.example/g01223/laws.FnAngles", spec := "fnAngles", inPlace := ["math.Float64frombits", "math.Float64bits", "math.sqrt", "math.archTrunc", "math.Float32frombits", "math.Float32bits"], unfollowed := true, recurses := true, apart := false, narrowed := true }
def FnAnglesUptoSaid : Prop := fnAnglesUptoRow.holds Try.pinned (OpenSpec.upto fnAnglesSpec)

/-- 'laws.FnPlaneMaps', WHERE WHAT IT READS IS OF BULK AT MOST 1048576: true; the input reads as it did. -/
def fnPlaneMapsUptoRow : OpenClaim := { program := "ytkhoifgljalfcaa", sum := "4b002c6f5859563a17c12807278946f3dfd630038ed1c24452cd2fd0142bf29d", func := "loop.example/g01223/laws.FnPlaneMaps", spec := "fnPlaneMaps", unfollowed := true, recurses := true, apart := false, narrowed := true }
def FnPlaneMapsUptoSaid : Prop := fnPlaneMapsUptoRow.holds Try.pinned (OpenSpec.upto fnPlaneMapsSpec)

/-- 'laws.FnCameras', WHERE WHAT IT READS IS OF BULK AT MOST 1048576: true; the input reads as it did. -/
def fnCamerasUptoRow : OpenClaim := { program := "ytkhoifgljalfcaa", sum := "4b002c6f5859563a17c12807278946f3dfd630038ed1c24452cd2fd0142bf29d", func := "loop.example/g01223/laws.FnCameras", spec := "fnCameras", inPlace := ["math.Float32bits"], unfollowed := true, recurses := true, apart := false, narrowed := true }
def FnCamerasUptoSaid : Prop := fnCamerasUptoRow.holds Try.pinned (OpenSpec.upto fnCamerasSpec)

/-- 'laws.FnSamples', WHERE WHAT IT READS IS OF BULK AT MOST 1048576: true; the input reads as it did. -/
def fnSamplesUptoRow : OpenClaim := { program := "ytkhoifgljalfcaa", sum := "4b002c6f5859563a17c12807278946f3dfd630038ed1c24452cd2fd0142bf29d", func := "loop.example/g01223/laws.FnSamples", spec := "fnSamples", inPlace := ["math.archFloor", "math.Float64bits", "math.Float64frombits", "math.archTrunc"], unfollowed := true, recurses := true, apart := false, narrowed := true }
def FnSamplesUptoSaid : Prop := fnSamplesUptoRow.holds Try.pinned (OpenSpec.upto fnSamplesSpec)

end Rows
end Go.Proofs.Ytkhoifgljalfcaa
