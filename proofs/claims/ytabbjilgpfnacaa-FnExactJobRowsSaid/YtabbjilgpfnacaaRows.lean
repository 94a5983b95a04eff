/-
  No cell of these rows narrows 'for every input' (looked for: loops, veiled, ifaces, maps, wideKeys, modest, calm, conditions, laid).
  DERIVED. THE GIVEN ROWS OF THIS SEAT. 4 by the template 'for every input the law returns true; each argument reads behind the call as it read before'; 0 by the template 'total and deterministic' (their statements: YtabbjilgpfnacaaTotals.lean).
  GIVEN WITH THE SEED: the statements are not yours to turn. If you find one false, say at which input.
  Laid BY PROGRAM, IN A SANDBOX (cutbox-rows.mjs): the forced cells as the released guide's own fill.sh prints them over the translation b0b944a5eb49997e… (all of the seat's roots in one cut). By AI agents, Wed Nov 11 2026. No macro, syntax, notation, axiom, sorry.
-/
import Derived.Test.YtabbjilgpfnacaaChecked
import GoSem.Claim
import GoSem.ClaimJoined
import GoSem.ClaimMapViews
import Derived.JoinedTies
import Derived.KernelRfl
namespace Go.Proofs.Ytabbjilgpfnacaa
/- THE CELL 'sum', in the pinned program and in every row, IS THE sha256 OF THE DUMP (.gsa) THAT YtabbjilgpfnacaaProg.lean LOADS. Nothing in Lean hashes anything: it is a label: what it is worth is what the hold of that sum in a sandbox is worth. -/
noncomputable def Try.pinned : Pinned := { name := "ytabbjilgpfnacaa", sum := "b0b944a5eb49997ee77385ddc07efec08ef7d652cdd92e5bd1c00f022a05b128", checked := Try.checked }
namespace Rows
def none {H : Type} : Left H := { results := [], args := [] }

/-- 'laws.FnExactDeskVolume': WHATEVER THE INPUT: true; the input reads as it did. -/
def fnExactDeskVolumeSpec : ChangeSpec := { name := "fnExactDeskVolume", fn := fun _ => fun
  | [d1, d2] => { results := [.lit (.bool true)], args := [d1, d2] }
  | _ => none }
def fnExactDeskVolumeRow : OpenClaim := { program := "ytabbjilgpfnacaa", sum := "b0b944a5eb49997ee77385ddc07efec08ef7d652cdd92e5bd1c00f022a05b128", func := "loop.example/g01223/laws.FnExactDeskVolume", spec := "fnExactDeskVolume", unfollowed := true, recurses := true, apart := false }
def FnExactDeskVolumeSaid : Prop := fnExactDeskVolumeRow.holds Try.pinned (OpenSpec.ofChange fnExactDeskVolumeSpec)

/-- ITS FALSE NEIGHBOUR: 'it returns false'. Refute it at one input. -/
def fnExactDeskVolumeWrong : ChangeSpec := { name := "fnExactDeskVolume", fn := fun _ => fun
  | [d1, d2] => { results := [.lit (.bool false)], args := [d1, d2] }
  | _ => none }
def FnExactDeskVolumeWrongFalsely : Prop := fnExactDeskVolumeRow.holds Try.pinned (OpenSpec.ofChange fnExactDeskVolumeWrong)

/-- 'laws.FnExactJobVolume': WHATEVER THE INPUT: true; the input reads as it did. -/
def fnExactJobVolumeSpec : ChangeSpec := { name := "fnExactJobVolume", fn := fun _ => fun
  | [d1, d2, d3] => { results := [.lit (.bool true)], args := [d1, d2, d3] }
  | _ => none }
def fnExactJobVolumeRow : OpenClaim := { program := "ytabbjilgpfnacaa", sum := "b0b944a5eb49997ee77385ddc07efec08ef7d652cdd92e5bd1c00f022a05b128", func := "loop.example/g01223/laws.FnExactJobVolume", spec := "fnExactJobVolume", inPlace := ["math.Float32bits", "math.Float32frombits"], unfollowed := true, recurses := true, apart := false }
def FnExactJobVolumeSaid : Prop := fnExactJobVolumeRow.holds Try.pinned (OpenSpec.ofChange fnExactJobVolumeSpec)

/-- ITS FALSE NEIGHBOUR: 'it returns false'. Refute it at one input. -/
def fnExactJobVolumeWrong : ChangeSpec := { name := "fnExactJobVolume", fn := fun _ => fun
  | [d1, d2, d3] => { results := [.lit (.bool false)], args := [d1, d2, d3] }
  | _ => none }
def FnExactJobVolumeWrongFalsely : Prop := fnExactJobVolumeRow.holds Try.pinned (OpenSpec.ofChange fnExactJobVolumeWrong)

/-- 'laws.FnExactJobRows': WHATEVER THE INPUT: true; the input reads as it did. -/
def fnExactJobRowsSpec : ChangeSpec := { name := "fnExactJobRows", fn := fun _ => fun
  | [d1, d2, d3, d4] => { results := [.lit (.bool true)], args := [d1, d2, d3, d4] }
  | _ => none }
def fnExactJobRowsRow : OpenClaim := { program := "ytabbjilgpfnacaa", sum := "b0b944a5eb49997ee77385ddc07efec08ef7d652cdd92e5bd1c00f022a05b128", func := "loop.example/g01223/laws.FnExactJobRows", spec := "fnExactJobRows", inPlace := ["math.Float32bits", "math.Float32frombits"], unfollowed := true, recurses := true, apart := false }
def FnExactJobRowsSaid : Prop := fnExactJobRowsRow.holds Try.pinned (OpenSpec.ofChange fnExactJobRowsSpec)

/-- ITS FALSE NEIGHBOUR: 'it returns false'. Refute it at one input. -/
def fnExactJobRowsWrong : ChangeSpec := { name := "fnExactJobRows", fn := fun _ => fun
  | [d1, d2, d3, d4] => { results := [.lit (.bool false)], args := [d1, d2, d3, d4] }
  | _ => none }
def FnExactJobRowsWrongFalsely : Prop := fnExactJobRowsRow.holds Try.pinned (OpenSpec.ofChange fnExactJobRowsWrong)

/-- 'laws.FnExactJobMap': WHATEVER THE INPUT: true; the input reads as it did. -/
def fnExactJobMapSpec : ChangeSpec := { name := "fnExactJobMap", fn := fun _ => fun
  | [d1, d2, d3] => { results := [.lit (.bool true)], args := [d1, d2, d3] }
  | _ => none }
def fnExactJobMapRow : OpenClaim := { program := "ytabbjilgpfnacaa", sum := "b0b944a5eb49997ee77385ddc07efec08ef7d652cdd92e5bd1c00f022a05b128", func := "loop.example/g01223/laws.FnExactJobMap", spec := "fnExactJobMap", inPlace := ["math.Float32bits", "math.Float32frombits"], unfollowed := true, recurses := true, apart := false }
def FnExactJobMapSaid : Prop := fnExactJobMapRow.holds Try.pinned (OpenSpec.ofChange fnExactJobMapSpec)

/-- ITS FALSE NEIGHBOUR: 'it returns false'. Refute it at one input. -/
def fnExactJobMapWrong : ChangeSpec := { name := "fnExactJobMap", fn := fun _ => fun
  | [d1, d2, d3] => { results := [.lit (.bool false)], args := [d1, d2, d3] }
  | _ => none }
def FnExactJobMapWrongFalsely : Prop := fnExactJobMapRow.holds Try.pinned (OpenSpec.ofChange fnExactJobMapWrong)

/- THE SECOND FORM. 'bulk': how many values and letters a reading holds, each counted each time it is reached (what is shared counts as often as it is met; a slice's spare places count too). A statement '..UptoSaid' is the law's where the arguments, and the package variables that the reading takes, are together of bulk at most 1048576: NARROWER than '..Said'. Prove '..Said' where nothing that the law and all that it calls make is longer than what came in: it says more and counts as full. Else prove '..UptoSaid'. A law counts once. -/
mutual
def uptoBulk {H : Type} : DataW H → Nat
  | .lit (.string bytes) => bytes.length + 1
  | .lit _ => 1
  | .nil => 1
  | .ptr d => uptoBulk d + 1
  | .slice elems spare => uptoBulkAll elems + uptoBulkAll spare + 1
  | .agg parts => uptoBulkAll parts + 1
  | .iface _ d => uptoBulk d + 1
  | .map entries => uptoBulkEntries entries + 1
  | .held _ => 1
def uptoBulkAll {H : Type} : List (DataW H) → Nat
  | [] => 0
  | d :: r => uptoBulk d + uptoBulkAll r
def uptoBulkEntries {H : Type} : List (Lit × DataW H) → Nat
  | [] => 0
  | x :: r => uptoBulkEntry x + uptoBulkEntries r
def uptoBulkEntry {H : Type} : Lit × DataW H → Nat
  | (.string bytes, d) => bytes.length + uptoBulk d + 1
  | (_, d) => uptoBulk d + 1
 end
def uptoSmall : (H : Type) → List (DataW H) → Bool := fun _ ds => decide (uptoBulkAll ds ≤ 1048576)
def OpenSpec.upto (s : _root_.Go.ChangeSpec) : _root_.Go.OpenSpec := { _root_.Go.OpenSpec.ofChange s with cond := some uptoSmall }

/-- 'laws.FnExactDeskVolume', WHERE WHAT IT READS IS OF BULK AT MOST 1048576: true; the input reads as it did. -/
def fnExactDeskVolumeUptoRow : OpenClaim := { program := "ytabbjilgpfnacaa", sum := "b0b944a5eb49997ee77385ddc07efec08ef7d652cdd92e5bd1c00f022a05b128", func := "loop.example/g01223/laws.FnExactDeskVolume", spec := "fnExactDeskVolume", unfollowed := true, recurses := true, apart := false, narrowed := true }
def FnExactDeskVolumeUptoSaid : Prop := fnExactDeskVolumeUptoRow.holds Try.pinned (OpenSpec.upto fnExactDeskVolumeSpec)

/-- 'laws.FnExactJobVolume', WHERE WHAT IT READS IS OF BULK AT MOST 1048576: true; the input reads as it did. -/
def fnExactJobVolumeUptoRow : OpenClaim := { program := "ytabbjilgpfnacaa", sum := "b0b944a5eb49997ee77385ddc07efec08ef7d652cdd92e5bd1c00f022a05b128", func := "loop.example/g01223/laws.FnExactJobVolume", spec := "fnExactJobVolume", inPlace := ["math.Float32bits", "math.Float32frombits"], unfollowed := true, recurses := true, apart := false, narrowed := true }
def FnExactJobVolumeUptoSaid : Prop := fnExactJobVolumeUptoRow.holds Try.pinned (OpenSpec.upto fnExactJobVolumeSpec)

/-- 'laws.FnExactJobRows', WHERE WHAT IT READS IS OF BULK AT MOST 1048576: true; the input reads as it did. -/
def fnExactJobRowsUptoRow : OpenClaim := { program := "ytabbjilgpfnacaa", sum := "b0b944a5eb49997ee77385ddc07efec08ef7d652cdd92e5bd1c00f022a05b128", func := "loop.example/g01223/laws.FnExactJobRows", spec := "fnExactJobRows", inPlace := ["math.Float32bits", "math.Float32frombits"], unfollowed := true, recurses := true, apart := false, narrowed := true }
def FnExactJobRowsUptoSaid : Prop := fnExactJobRowsUptoRow.holds Try.pinned (OpenSpec.upto fnExactJobRowsSpec)

/-- 'laws.FnExactJobMap', WHERE WHAT IT READS IS OF BULK AT MOST 1048576: true; the input reads as it did. -/
def fnExactJobMapUptoRow : OpenClaim := { program := "ytabbjilgpfnacaa", sum := "b0b944a5eb49997ee77385ddc07efec08ef7d652cdd92e5bd1c00f022a05b128", func := "loop.example/g01223/laws.FnExactJobMap", spec := "fnExactJobMap", inPlace := ["math.Float32bits", "math.Float32frombits"], unfollowed := true, recurses := true, apart := false, narrowed := true }
def FnExactJobMapUptoSaid : Prop := fnExactJobMapUptoRow.holds Try.pinned (OpenSpec.upto fnExactJobMapSpec)

end Rows
end Go.Proofs.Ytabbjilgpfnacaa
