/-
  DERIVED. GIVEN WITH THE SEED: THE CARDS: each row of YtcppoadeelnphaaDoorRows.lean that lists a variable, with what it lists TIED to the program's text (the seventh form; the later family's looks); each row that meets fmt, with fmt's text TOLD by the authors' own Lean function (tested against real Go, not proved from fmt's source: count such statements apart). THE CARD IS WHAT COUNTS. Prove the row's statement (the work); the ties are given (YtcppoadeelnphaaDoorTie.lean); close each card by the builder's one call (the guide's Derived/Test/ToyasCard.lean, 'card_holds'). Laid BY PROGRAM, IN A SANDBOX (cutbox-door.mjs). By AI agents, Wed Nov 11 2026. No macro, syntax, notation, axiom, sorry.
-/
import Derived.Test.YtcppoadeelnphaaDoorRows
import GoSem.ClaimSeven
namespace Go.Proofs.YtcppoadeelnphaaDoor
namespace Rows

/-- THE TIED CARD OF 'laws.FnExactReadPicture'. -/
def fnExactReadPictureCard : Claim7 := { stood := { row := fnExactReadPictureRow, standIns := [], harness := (true, "a3ae158b452a9e78618a64821d82004840a5b70a9f87a939743f6843cec73827"), looks := true }, kinds := [], alts := [], laidByText := true, laidKinds := [.data, .data, .data, .data, .sentinel, .sentinel, .pinned], laidTests := true, laidLooks := .later }
def FnExactReadPictureCardSaid : Prop := Claim7.holds Tryd.pinned (.plain (OpenSpec.ofChange fnExactReadPictureSpec)) fnExactReadPictureCard

/-- THE TIED CARD OF 'laws.FnExactReadMap'. -/
def fnExactReadMapCard : Claim7 := { stood := { row := fnExactReadMapRow, standIns := [], harness := (true, "a3ae158b452a9e78618a64821d82004840a5b70a9f87a939743f6843cec73827"), looks := true }, kinds := [], alts := [], laidByText := true, laidKinds := [.data, .data, .data, .data, .sentinel, .sentinel, .pinned], laidTests := true, laidLooks := .later }
def FnExactReadMapCardSaid : Prop := Claim7.holds Tryd.pinned (.plain (OpenSpec.ofChange fnExactReadMapSpec)) fnExactReadMapCard

/-- THE TIED CARD OF 'laws.FnExactReadVolume'. -/
def fnExactReadVolumeCard : Claim7 := { stood := { row := fnExactReadVolumeRow, standIns := [], harness := (true, "a3ae158b452a9e78618a64821d82004840a5b70a9f87a939743f6843cec73827"), looks := true }, kinds := [], alts := [], laidByText := true, laidKinds := [.data, .data, .data, .data, .sentinel, .sentinel, .pinned], laidTests := true, laidLooks := .later }
def FnExactReadVolumeCardSaid : Prop := Claim7.holds Tryd.pinned (.plain (OpenSpec.ofChange fnExactReadVolumeSpec)) fnExactReadVolumeCard

/-- THE SECOND FORM's CARD OF 'laws.FnExactReadPicture'. -/
def fnExactReadPictureUptoCard : Claim7 := { stood := { row := fnExactReadPictureUptoRow, standIns := [], harness := (true, "a3ae158b452a9e78618a64821d82004840a5b70a9f87a939743f6843cec73827"), looks := true }, kinds := [], alts := [], laidByText := true, laidKinds := [.data, .data, .data, .data, .sentinel, .sentinel, .pinned], laidTests := true, laidLooks := .later }
def FnExactReadPictureUptoCardSaid : Prop := Claim7.holds Tryd.pinned (.plain (OpenSpec.upto fnExactReadPictureSpec)) fnExactReadPictureUptoCard

/-- THE SECOND FORM's CARD OF 'laws.FnExactReadMap'. -/
def fnExactReadMapUptoCard : Claim7 := { stood := { row := fnExactReadMapUptoRow, standIns := [], harness := (true, "a3ae158b452a9e78618a64821d82004840a5b70a9f87a939743f6843cec73827"), looks := true }, kinds := [], alts := [], laidByText := true, laidKinds := [.data, .data, .data, .data, .sentinel, .sentinel, .pinned], laidTests := true, laidLooks := .later }
def FnExactReadMapUptoCardSaid : Prop := Claim7.holds Tryd.pinned (.plain (OpenSpec.upto fnExactReadMapSpec)) fnExactReadMapUptoCard

/-- THE SECOND FORM's CARD OF 'laws.FnExactReadVolume'. -/
def fnExactReadVolumeUptoCard : Claim7 := { stood := { row := fnExactReadVolumeUptoRow, standIns := [], harness := (true, "a3ae158b452a9e78618a64821d82004840a5b70a9f87a939743f6843cec73827"), looks := true }, kinds := [], alts := [], laidByText := true, laidKinds := [.data, .data, .data, .data, .sentinel, .sentinel, .pinned], laidTests := true, laidLooks := .later }
def FnExactReadVolumeUptoCardSaid : Prop := Claim7.holds Tryd.pinned (.plain (OpenSpec.upto fnExactReadVolumeSpec)) fnExactReadVolumeUptoCard
end Rows
end Go.Proofs.YtcppoadeelnphaaDoor
