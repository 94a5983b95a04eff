/-
  No cell of these rows narrows 'for every input' (looked for: loops, veiled, ifaces, maps, wideKeys, modest, calm, conditions, laid).
  DERIVED. THE GIVEN ROWS OF THIS SEAT. 2 by the template 'for every input the law returns true; each argument reads behind the call as it read before'; 0 by the template 'total and deterministic' (their statements: YtdeikjiflinkhaaTotals.lean).
  GIVEN WITH THE SEED: the statements are not yours to turn. If you find one false, say at which input.
  Laid BY PROGRAM, IN A SANDBOX (cutbox-rows.mjs): the forced cells as the released guide's own fill.sh prints them over the translation d64c9b3409e2f72d… (all of the seat's roots in one cut). By AI agents, Wed Nov 11 2026. No macro, syntax, notation, axiom, sorry.
-/
import Derived.Test.YtdeikjiflinkhaaChecked
import GoSem.Claim
import GoSem.ClaimJoined
import GoSem.ClaimMapViews
import Derived.JoinedTies
import Derived.KernelRfl
namespace Go.Proofs.Ytdeikjiflinkhaa
/- THE CELL 'sum', in the pinned program and in every row, IS THE sha256 OF THE DUMP (.gsa) THAT YtdeikjiflinkhaaProg.lean LOADS. Nothing in Lean hashes anything: it is a label: what it is worth is what the hold of that sum in a sandbox is worth. -/
noncomputable def Try.pinned : Pinned := { name := "ytdeikjiflinkhaa", sum := "d64c9b3409e2f72dbcecfd10eb74369e70e98facdb6495ba10aaaff3ddc18dc8", checked := Try.checked }
namespace Rows
def none {H : Type} : Left H := { results := [], args := [] }

/-- 'laws.FnBent': WHATEVER THE INPUT: true; the input reads as it did. -/
def fnBentSpec : ChangeSpec := { name := "fnBent", fn := fun _ => fun
  | [d1, d2] => { results := [.lit (.bool true)], args := [d1, d2] }
  | _ => none }
def fnBentRow : OpenClaim := { program := "ytdeikjiflinkhaa", sum := "d64c9b3409e2f72dbcecfd10eb74369e70e98facdb6495ba10aaaff3ddc18dc8", func := "loop.example/g01223/laws.FnBent", spec := "fnBent", inPlace := ["math.Float32bits"], unfollowed := true, recurses := true, apart := false }
def FnBentSaid : Prop := fnBentRow.holds Try.pinned (OpenSpec.ofChange fnBentSpec)

/-- ITS FALSE NEIGHBOUR: 'it returns false'. Refute it at one input. -/
def fnBentWrong : ChangeSpec := { name := "fnBent", fn := fun _ => fun
  | [d1, d2] => { results := [.lit (.bool false)], args := [d1, d2] }
  | _ => none }
def FnBentWrongFalsely : Prop := fnBentRow.holds Try.pinned (OpenSpec.ofChange fnBentWrong)

/-- 'laws.FnWinners': WHATEVER THE INPUT: true; the input reads as it did. -/
def fnWinnersSpec : ChangeSpec := { name := "fnWinners", fn := fun _ => fun
  | [d1, d2] => { results := [.lit (.bool true)], args := [d1, d2] }
  | _ => none }
def fnWinnersRow : OpenClaim := { program := "ytdeikjiflinkhaa", sum := "d64c9b3409e2f72dbcecfd10eb74369e70e98facdb6495ba10aaaff3ddc18dc8", func := "loop.example/g01223/laws.FnWinners", spec := "fnWinners", inPlace := ["math.Float64frombits", "math.RoundToEven", "math.Float32bits"], unfollowed := true, recurses := true, apart := false }
def FnWinnersSaid : Prop := fnWinnersRow.holds Try.pinned (OpenSpec.ofChange fnWinnersSpec)

/-- ITS FALSE NEIGHBOUR: 'it returns false'. Refute it at one input. -/
def fnWinnersWrong : ChangeSpec := { name := "fnWinners", fn := fun _ => fun
  | [d1, d2] => { results := [.lit (.bool false)], args := [d1, d2] }
  | _ => none }
def FnWinnersWrongFalsely : Prop := fnWinnersRow.holds Try.pinned (OpenSpec.ofChange fnWinnersWrong)

/- THE SECOND FORM. 'bulk': how many values and letters a reading holds, each counted each time it is reached (what is shared counts as often as it is met; a slice's spare places count too). A statement '..UptoSaid' is the law's where the arguments, and the package variables that the reading takes, are together of bulk at most 1048576: NARROWER than '..Said'. Prove '..Said' where nothing that the law and all that it calls make is longer than what came in: it says more and counts as full. Else prove '..UptoSaid'. A law counts once. -/
mutual
def uptoBulk {H : Type} : DataW H → Nat
  | .lit (.string bytes) => bytes.length + 1
  | .lit _ => 1
  | .nil => 1
  | .ptr d => uptoBulk d + 1
  | .slice elems spare => uptoBulkAll elems + uptoBulkAll spare + 1
  | .agg parts => uptoBulkAll parts + 1
  | .iface _ d => uptoBulk d + 1
  | .map entries => uptoBulkEntries entries + 1
  | .held _ => 1
def uptoBulkAll {H : Type} : List (DataW H) → Nat
  | [] => 0
  | d :: r => uptoBulk d + uptoBulkAll r
def uptoBulkEntries {H : Type} : List (Lit × DataW H) → Nat
  | [] => 0
  | x :: r => uptoBulkEntry x + uptoBulkEntries r
def uptoBulkEntry {H : Type} : Lit × DataW H → Nat
  | (.string bytes, d) => bytes.length + uptoBulk d + 1
  | (_, d) => uptoBulk d + 1
 end
def uptoSmall : (H : Type) → List (DataW H) → Bool := fun _ ds => decide (uptoBulkAll ds ≤ 1048576)
def OpenSpec.upto (s : _root_.Go.ChangeSpec) : _root_.Go.OpenSpec := { _root_.Go.OpenSpec.ofChange s with cond := some uptoSmall }

/-- 'laws.FnBent', WHERE WHAT IT READS IS OF BULK AT MOST 1048576: true; the input reads as it did. -/
def fnBentUptoRow : OpenClaim := { program := "ytdeikjiflinkhaa", sum := "d64c9b3409e2f72dbcecfd10eb74369e70e98facdb6495ba10aaaff3ddc18dc8", func := "loop.example/g01223/laws.FnBent", spec := "fnBent", inPlace := ["math.Float32bits"], unfollowed := true, recurses := true, apart := false, narrowed := true }
def FnBentUptoSaid : Prop := fnBentUptoRow.holds Try.pinned (OpenSpec.upto fnBentSpec)

/-- 'laws.FnWinners', WHERE WHAT IT READS IS OF BULK AT MOST 1048576: true; the input reads as it did. -/
def fnWinnersUptoRow : OpenClaim := { program := "ytdeikjiflinkhaa", sum := "d64c9b3409e2f72dbcecfd10eb74369e70e98facdb6495ba10aaaff3ddc18dc8", func := "loop.example/g01223/laws.FnWinners", spec := "fnWinners", inPlace := ["math.Float64frombits", "math.RoundToEven", "math.Float32bits"], unfollowed := true, recurses := true, apart := false, narrowed := true }
def FnWinnersUptoSaid : Prop := fnWinnersUptoRow.holds Try.pinned (OpenSpec.upto fnWinnersSpec)

end Rows
end Go.Proofs.Ytdeikjiflinkhaa
