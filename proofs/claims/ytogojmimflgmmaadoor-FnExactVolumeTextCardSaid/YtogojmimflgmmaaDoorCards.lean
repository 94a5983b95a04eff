/-
  DERIVED. GIVEN WITH THE SEED: THE CARDS: each row of YtogojmimflgmmaaDoorRows.lean that lists a variable, with what it lists TIED to the program's text (the seventh form; the later family's looks); each row that meets fmt, with fmt's text TOLD by the authors' own Lean function (tested against real Go, not proved from fmt's source: count such statements apart). THE CARD IS WHAT COUNTS. Prove the row's statement (the work); the ties are given (YtogojmimflgmmaaDoorTie.lean); close each card by the builder's one call (the guide's Derived/Test/ToyasCard.lean, 'card_holds'). Laid BY PROGRAM, IN A SANDBOX (cutbox-door.mjs). By AI agents, Wed Nov 11 2026. No macro, syntax, notation, axiom, sorry.
-/
import Derived.Test.YtogojmimflgmmaaDoorRows
import GoSem.ClaimSeven
namespace Go.Proofs.YtogojmimflgmmaaDoor
namespace Rows

/-- THE TIED CARD OF 'laws.FnExactMapText'. -/
def fnExactMapTextCard : Claim7 := { stood := { row := fnExactMapTextRow, standIns := [], harness := (true, "636e11234b97cbe6de2da612189390808a0889cc7d533c8b87e48a9198f0cd79"), looks := false }, kinds := [], alts := [], laidByText := true, laidKinds := [.data, .data, .data], laidTests := true, laidLooks := .later }
def FnExactMapTextCardSaid : Prop := Claim7.holds Tryd.pinned (.plain (OpenSpec.ofChange fnExactMapTextSpec)) fnExactMapTextCard

/-- THE TIED CARD OF 'laws.FnExactPictureText'. -/
def fnExactPictureTextCard : Claim7 := { stood := { row := fnExactPictureTextRow, standIns := [], harness := (true, "636e11234b97cbe6de2da612189390808a0889cc7d533c8b87e48a9198f0cd79"), looks := false }, kinds := [], alts := [], laidByText := true, laidKinds := [.data, .data, .data], laidTests := true, laidLooks := .later }
def FnExactPictureTextCardSaid : Prop := Claim7.holds Tryd.pinned (.plain (OpenSpec.ofChange fnExactPictureTextSpec)) fnExactPictureTextCard

/-- THE TIED CARD OF 'laws.FnExactVolumeText'. -/
def fnExactVolumeTextCard : Claim7 := { stood := { row := fnExactVolumeTextRow, standIns := [], harness := (true, "636e11234b97cbe6de2da612189390808a0889cc7d533c8b87e48a9198f0cd79"), looks := false }, kinds := [], alts := [], laidByText := true, laidKinds := [.data, .data, .data], laidTests := true, laidLooks := .later }
def FnExactVolumeTextCardSaid : Prop := Claim7.holds Tryd.pinned (.plain (OpenSpec.ofChange fnExactVolumeTextSpec)) fnExactVolumeTextCard

/-- THE SECOND FORM's CARD OF 'laws.FnExactMapText'. -/
def fnExactMapTextUptoCard : Claim7 := { stood := { row := fnExactMapTextUptoRow, standIns := [], harness := (true, "636e11234b97cbe6de2da612189390808a0889cc7d533c8b87e48a9198f0cd79"), looks := false }, kinds := [], alts := [], laidByText := true, laidKinds := [.data, .data, .data], laidTests := true, laidLooks := .later }
def FnExactMapTextUptoCardSaid : Prop := Claim7.holds Tryd.pinned (.plain (OpenSpec.upto fnExactMapTextSpec)) fnExactMapTextUptoCard

/-- THE SECOND FORM's CARD OF 'laws.FnExactPictureText'. -/
def fnExactPictureTextUptoCard : Claim7 := { stood := { row := fnExactPictureTextUptoRow, standIns := [], harness := (true, "636e11234b97cbe6de2da612189390808a0889cc7d533c8b87e48a9198f0cd79"), looks := false }, kinds := [], alts := [], laidByText := true, laidKinds := [.data, .data, .data], laidTests := true, laidLooks := .later }
def FnExactPictureTextUptoCardSaid : Prop := Claim7.holds Tryd.pinned (.plain (OpenSpec.upto fnExactPictureTextSpec)) fnExactPictureTextUptoCard

/-- THE SECOND FORM's CARD OF 'laws.FnExactVolumeText'. -/
def fnExactVolumeTextUptoCard : Claim7 := { stood := { row := fnExactVolumeTextUptoRow, standIns := [], harness := (true, "636e11234b97cbe6de2da612189390808a0889cc7d533c8b87e48a9198f0cd79"), looks := false }, kinds := [], alts := [], laidByText := true, laidKinds := [.data, .data, .data], laidTests := true, laidLooks := .later }
def FnExactVolumeTextUptoCardSaid : Prop := Claim7.holds Tryd.pinned (.plain (OpenSpec.upto fnExactVolumeTextSpec)) fnExactVolumeTextUptoCard
end Rows
end Go.Proofs.YtogojmimflgmmaaDoor
