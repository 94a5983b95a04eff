/-
  No cell of these rows narrows 'for every input' (looked for: loops, veiled, ifaces, maps, wideKeys, modest, calm, conditions, laid).
  DERIVED. THE GIVEN ROWS OF THIS SEAT. 5 by the template 'for every input the law returns true; each argument reads behind the call as it read before'; 0 by the template 'total and deterministic' (their statements: YtfhlpabbacopjaaTotals.lean).
  GIVEN WITH THE SEED: the statements are not yours to turn. If you find one false, say at which input.
  Laid BY PROGRAM, IN A SANDBOX (cutbox-rows.mjs): the forced cells as the released guide's own fill.sh prints them over the translation d3e0032d69d3c528… (all of the seat's roots in one cut). By AI agents, Wed Nov 11 2026. No macro, syntax, notation, axiom, sorry.
-/
import Derived.Test.YtfhlpabbacopjaaChecked
import GoSem.Claim
import GoSem.ClaimJoined
import GoSem.ClaimMapViews
import Derived.JoinedTies
import Derived.KernelRfl
namespace Go.Proofs.Ytfhlpabbacopjaa
/- THE CELL 'sum', in the pinned program and in every row, IS THE sha256 OF THE DUMP (.gsa) THAT YtfhlpabbacopjaaProg.lean LOADS. Nothing in Lean hashes anything: it is a label: what it is worth is what the hold of that sum in a sandbox is worth. -/
noncomputable def Try.pinned : Pinned := { name := "ytfhlpabbacopjaa", sum := "d3e0032d69d3c528a9bd711845a333bf26409e13b06529e1722088efcbb73829", checked := Try.checked }
namespace Rows
def none {H : Type} : Left H := { results := [], args := [] }

/-- 'laws.FnPaths': WHATEVER THE INPUT: true; the input reads as it did. -/
def fnPathsSpec : ChangeSpec := { name := "fnPaths", fn := fun _ => fun
  | [d1, d2] => { results := [.lit (.bool true)], args := [d1, d2] }
  | _ => none }
def fnPathsRow : OpenClaim := { program := "ytfhlpabbacopjaa", sum := "d3e0032d69d3c528a9bd711845a333bf26409e13b06529e1722088efcbb73829", func := "loop.example/g01223/laws.FnPaths", spec := "fnPaths", inPlace := ["math.Float32bits"], unfollowed := true, recurses := true, apart := false }
def FnPathsSaid : Prop := fnPathsRow.holds Try.pinned (OpenSpec.ofChange fnPathsSpec)

/-- ITS FALSE NEIGHBOUR: 'it returns false'. Refute it at one input. -/
def fnPathsWrong : ChangeSpec := { name := "fnPaths", fn := fun _ => fun
  | [d1, d2] => { results := [.lit (.bool false)], args := [d1, d2] }
  | _ => none }
def FnPathsWrongFalsely : Prop := fnPathsRow.holds Try.pinned (OpenSpec.ofChange fnPathsWrong)

/-- 'laws.FnWays': WHATEVER THE INPUT: true; the input reads as it did. -/
def fnWaysSpec : ChangeSpec := { name := "fnWays", fn := fun _ => fun
  | [d1, d2] => { results := [.lit (.bool true)], args := [d1, d2] }
  | _ => none }
def fnWaysRow : OpenClaim := { program := "ytfhlpabbacopjaa", sum := "d3e0032d69d3c528a9bd711845a333bf26409e13b06529e1722088efcbb73829", func := "loop.example/g01223/laws.FnWays", spec := "fnWays", unfollowed := true, recurses := true, apart := false }
def FnWaysSaid : Prop := fnWaysRow.holds Try.pinned (OpenSpec.ofChange fnWaysSpec)

/-- ITS FALSE NEIGHBOUR: 'it returns false'. Refute it at one input. -/
def fnWaysWrong : ChangeSpec := { name := "fnWays", fn := fun _ => fun
  | [d1, d2] => { results := [.lit (.bool false)], args := [d1, d2] }
  | _ => none }
def FnWaysWrongFalsely : Prop := fnWaysRow.holds Try.pinned (OpenSpec.ofChange fnWaysWrong)

/-- 'laws.FnImproved': WHATEVER THE INPUT: true; the input reads as it did. -/
def fnImprovedSpec : ChangeSpec := { name := "fnImproved", fn := fun _ => fun
  | [d1, d2] => { results := [.lit (.bool true)], args := [d1, d2] }
  | _ => none }
def fnImprovedRow : OpenClaim := { program := "ytfhlpabbacopjaa", sum := "d3e0032d69d3c528a9bd711845a333bf26409e13b06529e1722088efcbb73829", func := "loop.example/g01223/laws.FnImproved", spec := "fnImproved", inPlace := ["math.RoundToEven", "math.Float32bits"], unfollowed := true, recurses := true, apart := false }
def FnImprovedSaid : Prop := fnImprovedRow.holds Try.pinned (OpenSpec.ofChange fnImprovedSpec)

/-- ITS FALSE NEIGHBOUR: 'it returns false'. Refute it at one input. -/
def fnImprovedWrong : ChangeSpec := { name := "fnImproved", fn := fun _ => fun
  | [d1, d2] => { results := [.lit (.bool false)], args := [d1, d2] }
  | _ => none }
def FnImprovedWrongFalsely : Prop := fnImprovedRow.holds Try.pinned (OpenSpec.ofChange fnImprovedWrong)

/-- 'laws.FnSums': WHATEVER THE INPUT: true; the input reads as it did. -/
def fnSumsSpec : ChangeSpec := { name := "fnSums", fn := fun _ => fun
  | [d1, d2] => { results := [.lit (.bool true)], args := [d1, d2] }
  | _ => none }
def fnSumsRow : OpenClaim := { program := "ytfhlpabbacopjaa", sum := "d3e0032d69d3c528a9bd711845a333bf26409e13b06529e1722088efcbb73829", func := "loop.example/g01223/laws.FnSums", spec := "fnSums", inPlace := ["math.Float32bits", "math.Float32frombits"], unfollowed := true, recurses := true, apart := false }
def FnSumsSaid : Prop := fnSumsRow.holds Try.pinned (OpenSpec.ofChange fnSumsSpec)

/-- ITS FALSE NEIGHBOUR: 'it returns false'. Refute it at one input. -/
def fnSumsWrong : ChangeSpec := { name := "fnSums", fn := fun _ => fun
  | [d1, d2] => { results := [.lit (.bool false)], args := [d1, d2] }
  | _ => none }
def FnSumsWrongFalsely : Prop := fnSumsRow.holds Try.pinned (OpenSpec.ofChange fnSumsWrong)

/-- 'laws.FnSolved': WHATEVER THE INPUT: true; the input reads as it did. -/
def fnSolvedSpec : ChangeSpec := { name := "fnSolved", fn := fun _ => fun
  | [d1, d2] => { results := [.lit (.bool true)], args := [d1, d2] }
  | _ => none }
def fnSolvedRow : OpenClaim := { program := "ytfhlpabbacopjaa", sum := "d3e0032d69d3c528a9bd711845a333bf26409e13b06529e1722088efcbb73829", func := "loop.example/g01223/laws.FnSolved", spec := "fnSolved", inPlace := ["math.RoundToEven"], unfollowed := true, recurses := true, apart := false }
def FnSolvedSaid : Prop := fnSolvedRow.holds Try.pinned (OpenSpec.ofChange fnSolvedSpec)

/-- ITS FALSE NEIGHBOUR: 'it returns false'. Refute it at one input. -/
def fnSolvedWrong : ChangeSpec := { name := "fnSolved", fn := fun _ => fun
  | [d1, d2] => { results := [.lit (.bool false)], args := [d1, d2] }
  | _ => none }
def FnSolvedWrongFalsely : Prop := fnSolvedRow.holds Try.pinned (OpenSpec.ofChange fnSolvedWrong)

/- THE SECOND FORM. 'bulk': how many values and letters a reading holds, each counted each time it is reached (what is shared counts as often as it is met; a slice's spare places count too). A statement '..UptoSaid' is the law's where the arguments, and the package variables that the reading takes, are together of bulk at most 1048576: NARROWER than '..Said'. Prove '..Said' where nothing that the law and all that it calls make is longer than what came in: it says more and counts as full. Else prove '..UptoSaid'. A law counts once. -/
mutual
def uptoBulk {H : Type} : DataW H → Nat
  | .lit (.string bytes) => bytes.length + 1
  | .lit _ => 1
  | .nil => 1
  | .ptr d => uptoBulk d + 1
  | .slice elems spare => uptoBulkAll elems + uptoBulkAll spare + 1
  | .agg parts => uptoBulkAll parts + 1
  | .iface _ d => uptoBulk d + 1
  | .map entries => uptoBulkEntries entries + 1
  | .held _ => 1
def uptoBulkAll {H : Type} : List (DataW H) → Nat
  | [] => 0
  | d :: r => uptoBulk d + uptoBulkAll r
def uptoBulkEntries {H : Type} : List (Lit × DataW H) → Nat
  | [] => 0
  | x :: r => uptoBulkEntry x + uptoBulkEntries r
def uptoBulkEntry {H : Type} : Lit × DataW H → Nat
  | (.string bytes, d) => bytes.length + uptoBulk d + 1
  | (_, d) => uptoBulk d + 1
 end
def uptoSmall : (H : Type) → List (DataW H) → Bool := fun _ ds => decide (uptoBulkAll ds ≤ 1048576)
def OpenSpec.upto (s : _root_.Go.ChangeSpec) : _root_.Go.OpenSpec := { _root_.Go.OpenSpec.ofChange s with cond := some uptoSmall }

/-- 'laws.FnPaths', WHERE WHAT IT READS IS OF BULK AT MOST 1048576: true; the input reads as it did. -/
def fnPathsUptoRow : OpenClaim := { program := "ytfhlpabbacopjaa", sum := "d3e0032d69d3c528a9bd711845a333bf26409e13b06529e1722088efcbb73829", func := "loop.example/g01223/laws.FnPaths", spec := "fnPaths", inPlace := ["math.Float32bits"], unfollowed := true, recurses := true, apart := false, narrowed := true }
def FnPathsUptoSaid : Prop := fnPathsUptoRow.holds Try.pinned (OpenSpec.upto fnPathsSpec)

/-- 'laws.FnWays', WHERE WHAT IT READS IS OF BULK AT MOST 1048576: true; the input reads as it did. -/
def fnWaysUptoRow : OpenClaim := { program := "ytfhlpabbacopjaa", sum := "d3e0032d69d3c528a9bd711845a333bf26409e13b06529e1722088efcbb73829", func := "loop.example/g01223/laws.FnWays", spec := "fnWays", unfollowed := true, recurses := true, apart := false, narrowed := true }
def FnWaysUptoSaid : Prop := fnWaysUptoRow.holds Try.pinned (OpenSpec.upto fnWaysSpec)

/-- 'laws.FnImproved', WHERE WHAT IT READS IS OF BULK AT MOST 1048576: true; the input reads as it did. -/
def fnImprovedUptoRow : OpenClaim := { program := "ytfhlpabbacopjaa", sum := "d3e0032d69d3c528a9bd711845a333bf26409e13b06529e1722088efcbb73829", func := "loop.example/g01223/laws.FnImproved", spec := "fnImproved", inPlace := ["math.RoundToEven", "math.Float32bits"], unfollowed := true, recurses := true, apart := false, narrowed := true }
def FnImprovedUptoSaid : Prop := fnImprovedUptoRow.holds Try.pinned (OpenSpec.upto fnImprovedSpec)

/-- 'laws.FnSums', WHERE WHAT IT READS IS OF BULK AT MOST 1048576: true; the input reads as it did. -/
def fnSumsUptoRow : OpenClaim := { program := "ytfhlpabbacopjaa", sum := "d3e0032d69d3c528a9bd711845a333bf26409e13b06529e1722088efcbb73829", func := "loop.example/g01223/laws.FnSums", spec := "fnSums", inPlace := ["math.Float32bits", "math.Float32frombits"], unfollowed := true, recurses := true, apart := false, narrowed := true }
def FnSumsUptoSaid : Prop := fnSumsUptoRow.holds Try.pinned (OpenSpec.upto fnSumsSpec)

/-- 'laws.FnSolved', WHERE WHAT IT READS IS OF BULK AT MOST 1048576: true; the input reads as it did. -/
def fnSolvedUptoRow : OpenClaim := { program := "ytfhlpabbacopjaa", sum := "d3e0032d69d3c528a9bd711845a333bf26409e13b06529e1722088efcbb73829", func := "loop.example/g01223/laws.FnSolved", spec := "fnSolved", inPlace := ["math.RoundToEven"], unfollowed := true, recurses := true, apart := false, narrowed := true }
def FnSolvedUptoSaid : Prop := fnSolvedUptoRow.holds Try.pinned (OpenSpec.upto fnSolvedSpec)

end Rows
end Go.Proofs.Ytfhlpabbacopjaa
