/-
  No cell of these rows narrows 'for every input' (looked for: loops, veiled, ifaces, maps, wideKeys, modest, calm, conditions, laid).
  DERIVED. THE GIVEN ROWS OF THIS SEAT. 5 by the template 'for every input the law returns true; each argument reads behind the call as it read before'; 0 by the template 'total and deterministic' (their statements: YtkifhajkmgeafaaTotals.lean).
  GIVEN WITH THE SEED: the statements are not yours to turn. If you find one false, say at which input.
  Laid BY PROGRAM, IN A SANDBOX (cutbox-rows.mjs): the forced cells as the released guide's own fill.sh prints them over the translation d9e924c7407422a0… (all of the seat's roots in one cut). By AI agents, Wed Nov 11 2026. No macro, syntax, notation, axiom, sorry.
-/
import Derived.Test.YtkifhajkmgeafaaChecked
import GoSem.Claim
import GoSem.ClaimJoined
import GoSem.ClaimMapViews
import Derived.JoinedTies
import Derived.KernelRfl
namespace Go.Proofs.Ytkifhajkmgeafaa
/- THE CELL 'sum', in the pinned program and in every row, IS THE sha256 OF THE DUMP (.gsa) THAT YtkifhajkmgeafaaProg.lean LOADS. Nothing in Lean hashes anything: it is a label: what it is worth is what the hold of that sum in a sandbox is worth. -/
noncomputable def Try.pinned : Pinned := { name := "ytkifhajkmgeafaa", sum := "d9e924c7407422a00b5a2a81033f337f7fe1ae3c435a6b03b9296990356a43d5", checked := Try.checked }
namespace Rows
def none {H : Type} : Left H := { results := [], args := [] }

/-- 'laws.FnAlbums': WHATEVER THE INPUT: true; the input reads as it did. -/
def fnAlbumsSpec : ChangeSpec := { name := "fnAlbums", fn := fun _ => fun
  | [d1, d2] => { results := [.lit (.bool true)], args := [d1, d2] }
  | _ => none }
def fnAlbumsRow : OpenClaim := { program := "ytkifhajkmgeafaa", sum := "d9e924c7407422a00b5a2a81033f337f7fe1ae3c435a6b03b9296990356a43d5", func := "loop.example/g01223/laws.FnAlbums", spec := "fnAlbums", inPlace := ["math.Float32frombits", "internal/abi.NoEscape", "math.Float32bits"], unfollowed := true, recurses := true, apart := false }
def FnAlbumsSaid : Prop := fnAlbumsRow.holds Try.pinned (OpenSpec.ofChange fnAlbumsSpec)

/-- ITS FALSE NEIGHBOUR: 'it returns false'. Refute it at one input. -/
def fnAlbumsWrong : ChangeSpec := { name := "fnAlbums", fn := fun _ => fun
  | [d1, d2] => { results := [.lit (.bool false)], args := [d1, d2] }
  | _ => none }
def FnAlbumsWrongFalsely : Prop := fnAlbumsRow.holds Try.pinned (OpenSpec.ofChange fnAlbumsWrong)

/-- 'laws.FnExactRecoverAlbum': WHATEVER THE INPUT: true; the input reads as it did. -/
def fnExactRecoverAlbumSpec : ChangeSpec := { name := "fnExactRecoverAlbum", fn := fun _ => fun
  | [d] => { results := [.lit (.bool true)], args := [d] }
  | _ => none }
def fnExactRecoverAlbumRow : OpenClaim := { program := "ytkifhajkmgeafaa", sum := "d9e924c7407422a00b5a2a81033f337f7fe1ae3c435a6b03b9296990356a43d5", func := "loop.example/g01223/laws.FnExactRecoverAlbum", spec := "fnExactRecoverAlbum", inPlace := ["math.Float32frombits", "math.Float32bits", "internal/abi.NoEscape"], unfollowed := true, recurses := true, apart := false }
def FnExactRecoverAlbumSaid : Prop := fnExactRecoverAlbumRow.holds Try.pinned (OpenSpec.ofChange fnExactRecoverAlbumSpec)

/-- ITS FALSE NEIGHBOUR: 'it returns false'. Refute it at one input. -/
def fnExactRecoverAlbumWrong : ChangeSpec := { name := "fnExactRecoverAlbum", fn := fun _ => fun
  | [d] => { results := [.lit (.bool false)], args := [d] }
  | _ => none }
def FnExactRecoverAlbumWrongFalsely : Prop := fnExactRecoverAlbumRow.holds Try.pinned (OpenSpec.ofChange fnExactRecoverAlbumWrong)

/-- 'laws.FnExactLoadAlbum': WHATEVER THE INPUT: true; the input reads as it did. -/
def fnExactLoadAlbumSpec : ChangeSpec := { name := "fnExactLoadAlbum", fn := fun _ => fun
  | [d] => { results := [.lit (.bool true)], args := [d] }
  | _ => none }
def fnExactLoadAlbumRow : OpenClaim := { program := "ytkifhajkmgeafaa", sum := "d9e924c7407422a00b5a2a81033f337f7fe1ae3c435a6b03b9296990356a43d5", func := "loop.example/g01223/laws.FnExactLoadAlbum", spec := "fnExactLoadAlbum", inPlace := ["math.Float32frombits", "math.Float32bits", "internal/abi.NoEscape"], unfollowed := true, recurses := true, apart := false }
def FnExactLoadAlbumSaid : Prop := fnExactLoadAlbumRow.holds Try.pinned (OpenSpec.ofChange fnExactLoadAlbumSpec)

/-- ITS FALSE NEIGHBOUR: 'it returns false'. Refute it at one input. -/
def fnExactLoadAlbumWrong : ChangeSpec := { name := "fnExactLoadAlbum", fn := fun _ => fun
  | [d] => { results := [.lit (.bool false)], args := [d] }
  | _ => none }
def FnExactLoadAlbumWrongFalsely : Prop := fnExactLoadAlbumRow.holds Try.pinned (OpenSpec.ofChange fnExactLoadAlbumWrong)

/-- 'laws.FnExactStoreAlbum': WHATEVER THE INPUT: true; the input reads as it did. -/
def fnExactStoreAlbumSpec : ChangeSpec := { name := "fnExactStoreAlbum", fn := fun _ => fun
  | [d] => { results := [.lit (.bool true)], args := [d] }
  | _ => none }
def fnExactStoreAlbumRow : OpenClaim := { program := "ytkifhajkmgeafaa", sum := "d9e924c7407422a00b5a2a81033f337f7fe1ae3c435a6b03b9296990356a43d5", func := "loop.example/g01223/laws.FnExactStoreAlbum", spec := "fnExactStoreAlbum", inPlace := ["math.Float32bits", "internal/abi.NoEscape"], unfollowed := true, recurses := true, apart := false }
def FnExactStoreAlbumSaid : Prop := fnExactStoreAlbumRow.holds Try.pinned (OpenSpec.ofChange fnExactStoreAlbumSpec)

/-- ITS FALSE NEIGHBOUR: 'it returns false'. Refute it at one input. -/
def fnExactStoreAlbumWrong : ChangeSpec := { name := "fnExactStoreAlbum", fn := fun _ => fun
  | [d] => { results := [.lit (.bool false)], args := [d] }
  | _ => none }
def FnExactStoreAlbumWrongFalsely : Prop := fnExactStoreAlbumRow.holds Try.pinned (OpenSpec.ofChange fnExactStoreAlbumWrong)

/-- 'laws.FnExactAddPicture': WHATEVER THE INPUT: true; the input reads as it did. -/
def fnExactAddPictureSpec : ChangeSpec := { name := "fnExactAddPicture", fn := fun _ => fun
  | [d1, d2] => { results := [.lit (.bool true)], args := [d1, d2] }
  | _ => none }
def fnExactAddPictureRow : OpenClaim := { program := "ytkifhajkmgeafaa", sum := "d9e924c7407422a00b5a2a81033f337f7fe1ae3c435a6b03b9296990356a43d5", func := "loop.example/g01223/laws.FnExactAddPicture", spec := "fnExactAddPicture", unfollowed := true, recurses := true, apart := false }
def FnExactAddPictureSaid : Prop := fnExactAddPictureRow.holds Try.pinned (OpenSpec.ofChange fnExactAddPictureSpec)

/-- ITS FALSE NEIGHBOUR: 'it returns false'. Refute it at one input. -/
def fnExactAddPictureWrong : ChangeSpec := { name := "fnExactAddPicture", fn := fun _ => fun
  | [d1, d2] => { results := [.lit (.bool false)], args := [d1, d2] }
  | _ => none }
def FnExactAddPictureWrongFalsely : Prop := fnExactAddPictureRow.holds Try.pinned (OpenSpec.ofChange fnExactAddPictureWrong)

/- THE SECOND FORM. 'bulk': how many values and letters a reading holds, each counted each time it is reached (what is shared counts as often as it is met; a slice's spare places count too). A statement '..UptoSaid' is the law's where the arguments, and the package variables that the reading takes, are together of bulk at most 1048576: NARROWER than '..Said'. Prove '..Said' where nothing that the law and all that it calls make is longer than what came in: it says more and counts as full. Else prove '..UptoSaid'. A law counts once. -/
mutual
def uptoBulk {H : Type} : DataW H → Nat
  | .lit (.string bytes) => bytes.length + 1
  | .lit _ => 1
  | .nil => 1
  | .ptr d => uptoBulk d + 1
  | .slice elems spare => uptoBulkAll elems + uptoBulkAll spare + 1
  | .agg parts => uptoBulkAll parts + 1
  | .iface _ d => uptoBulk d + 1
  | .map entries => uptoBulkEntries entries + 1
  | .held _ => 1
def uptoBulkAll {H : Type} : List (DataW H) → Nat
  | [] => 0
  | d :: r => uptoBulk d + uptoBulkAll r
def uptoBulkEntries {H : Type} : List (Lit × DataW H) → Nat
  | [] => 0
  | x :: r => uptoBulkEntry x + uptoBulkEntries r
def uptoBulkEntry {H : Type} : Lit × DataW H → Nat
  | (.string bytes, d) => bytes.length + uptoBulk d + 1
  | (_, d) => uptoBulk d + 1
 end
def uptoSmall : (H : Type) → List (DataW H) → Bool := fun _ ds => decide (uptoBulkAll ds ≤ 1048576)
def OpenSpec.upto (s : _root_.Go.ChangeSpec) : _root_.Go.OpenSpec := { _root_.Go.OpenSpec.ofChange s with cond := some uptoSmall }

/-- 'laws.FnAlbums', WHERE WHAT IT READS IS OF BULK AT MOST 1048576: true; the input reads as it did. -/
def fnAlbumsUptoRow : OpenClaim := { program := "ytkifhajkmgeafaa", sum := "d9e924c7407422a00b5a2a81033f337f7fe1ae3c435a6b03b9296990356a43d5", func := "loop.example/g01223/laws.FnAlbums", spec := "fnAlbums", inPlace := ["math.Float32frombits", "internal/abi.NoEscape", "math.Float32bits"], unfollowed := true, recurses := true, apart := false, narrowed := true }
def FnAlbumsUptoSaid : Prop := fnAlbumsUptoRow.holds Try.pinned (OpenSpec.upto fnAlbumsSpec)

/-- 'laws.FnExactRecoverAlbum', WHERE WHAT IT READS IS OF BULK AT MOST 1048576: true; the input reads as it did. -/
def fnExactRecoverAlbumUptoRow : OpenClaim := { program := "ytkifhajkmgeafaa", sum := "d9e924c7407422a00b5a2a81033f337f7fe1ae3c435a6b03b9296990356a43d5", func := "loop.example/g01223/laws.FnExactRecoverAlbum", spec := "fnExactRecoverAlbum", inPlace := ["math.Float32frombits", "math.Float32bits", "internal/abi.NoEscape"], unfollowed := true, recurses := true, apart := false, narrowed := true }
def FnExactRecoverAlbumUptoSaid : Prop := fnExactRecoverAlbumUptoRow.holds Try.pinned (OpenSpec.upto fnExactRecoverAlbumSpec)

/-- 'laws.FnExactLoadAlbum', WHERE WHAT IT READS IS OF BULK AT MOST 1048576: true; the input reads as it did. -/
def fnExactLoadAlbumUptoRow : OpenClaim := { program := "ytkifhajkmgeafaa", sum := "d9e924c7407422a00b5a2a81033f337f7fe1ae3c435a6b03b9296990356a43d5", func := "loop.example/g01223/laws.FnExactLoadAlbum", spec := "fnExactLoadAlbum", inPlace := ["math.Float32frombits", "math.Float32bits", "internal/abi.NoEscape"], unfollowed := true, recurses := true, apart := false, narrowed := true }
def FnExactLoadAlbumUptoSaid : Prop := fnExactLoadAlbumUptoRow.holds Try.pinned (OpenSpec.upto fnExactLoadAlbumSpec)

/-- 'laws.FnExactStoreAlbum', WHERE WHAT IT READS IS OF BULK AT MOST 1048576: true; the input reads as it did. -/
def fnExactStoreAlbumUptoRow : OpenClaim := { program := "ytkifhajkmgeafaa", sum := "d9e924c7407422a00b5a2a81033f337f7fe1ae3c435a6b03b9296990356a43d5", func := "loop.example/g01223/laws.FnExactStoreAlbum", spec := "fnExactStoreAlbum", inPlace := ["math.Float32bits", "internal/abi.NoEscape"], unfollowed := true, recurses := true, apart := false, narrowed := true }
def FnExactStoreAlbumUptoSaid : Prop := fnExactStoreAlbumUptoRow.holds Try.pinned (OpenSpec.upto fnExactStoreAlbumSpec)

/-- 'laws.FnExactAddPicture', WHERE WHAT IT READS IS OF BULK AT MOST 1048576: true; the input reads as it did. -/
def fnExactAddPictureUptoRow : OpenClaim := { program := "ytkifhajkmgeafaa", sum := "d9e924c7407422a00b5a2a81033f337f7fe1ae3c435a6b03b9296990356a43d5", func := "loop.example/g01223/laws.FnExactAddPicture", spec := "fnExactAddPicture", unfollowed := true, recurses := true, apart := false, narrowed := true }
def FnExactAddPictureUptoSaid : Prop := fnExactAddPictureUptoRow.holds Try.pinned (OpenSpec.upto fnExactAddPictureSpec)

end Rows
end Go.Proofs.Ytkifhajkmgeafaa
