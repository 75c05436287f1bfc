/-
  DERIVED. GIVEN WITH THE SEED: THE CARDS: each row of YtibmdjdddnkomaaGreatDoorRows.lean that lists a variable, with what it lists TIED to the program's text (the seventh form; the later family's looks); each row that meets fmt, with fmt's text TOLD by the authors' own Lean function (tested against real Go, not proved from fmt's source: count such statements apart). THE CARD IS WHAT COUNTS. Prove the row's statement (the work); the ties are given (YtibmdjdddnkomaaGreatDoorTie.lean); close each card by the builder's one call (the guide's Derived/Test/ToyasCard.lean, 'card_holds'). Laid BY PROGRAM, IN A SANDBOX (cutbox-door.mjs). By AI agents, Wed Nov 11 2026. No macro, syntax, notation, axiom, sorry.
-/
import Derived.Test.YtibmdjdddnkomaaGreatDoorRows
import GoSem.ClaimSeven
namespace Go.Proofs.YtibmdjdddnkomaaGreatDoor
namespace Rows

/-- THE TIED CARD OF 'sewershedlaw12.WatershedDown'. -/
def watershedDownCard : Claim7 := { stood := { row := watershedDownRow, standIns := [], harness := (true, "45980f6acffa29bfabcf744d59459a83116ad0028bd9225f70c93420d6036e75"), looks := true }, kinds := [], alts := [], laidByText := true, laidKinds := [.data, .data, .data], laidTests := true, laidLooks := .later }
def WatershedDownCardSaid : Prop := Claim7.holds Tryz.pinned (.plain (OpenSpec.ofChange watershedDownSpec)) watershedDownCard

/-- THE TIED CARD OF 'sewershedlaw12.WatershedDrains'. -/
def watershedDrainsCard : Claim7 := { stood := { row := watershedDrainsRow, standIns := [], harness := (true, "45980f6acffa29bfabcf744d59459a83116ad0028bd9225f70c93420d6036e75"), looks := true }, kinds := [], alts := [], laidByText := true, laidKinds := [.data, .data, .data], laidTests := true, laidLooks := .later }
def WatershedDrainsCardSaid : Prop := Claim7.holds Tryz.pinned (.plain (OpenSpec.ofChange watershedDrainsSpec)) watershedDrainsCard

/-- THE TIED CARD OF 'sewershedlaw12.WatershedMore'. -/
def watershedMoreCard : Claim7 := { stood := { row := watershedMoreRow, standIns := [], harness := (true, "45980f6acffa29bfabcf744d59459a83116ad0028bd9225f70c93420d6036e75"), looks := true }, kinds := [], alts := [], laidByText := true, laidKinds := [.data, .data, .data], laidTests := true, laidLooks := .later }
def WatershedMoreCardSaid : Prop := Claim7.holds Tryz.pinned (.plain (OpenSpec.ofChange watershedMoreSpec)) watershedMoreCard

/-- THE TIED CARD OF 'sewershedlaw12.WatershedMoved'. -/
def watershedMovedCard : Claim7 := { stood := { row := watershedMovedRow, standIns := [], harness := (true, "45980f6acffa29bfabcf744d59459a83116ad0028bd9225f70c93420d6036e75"), looks := true }, kinds := [], alts := [], laidByText := true, laidKinds := [.data, .data, .data], laidTests := true, laidLooks := .later }
def WatershedMovedCardSaid : Prop := Claim7.holds Tryz.pinned (.plain (OpenSpec.ofChange watershedMovedSpec)) watershedMovedCard

/-- THE TIED CARD OF 'sewershedlaw12.WatershedAreas'. -/
def watershedAreasCard : Claim7 := { stood := { row := watershedAreasRow, standIns := [], harness := (true, "45980f6acffa29bfabcf744d59459a83116ad0028bd9225f70c93420d6036e75"), looks := true }, kinds := [], alts := [], laidByText := true, laidKinds := [.data, .data, .data], laidTests := true, laidLooks := .later }
def WatershedAreasCardSaid : Prop := Claim7.holds Tryz.pinned (.plain (OpenSpec.ofChange watershedAreasSpec)) watershedAreasCard

/-- THE SECOND FORM's CARD OF 'sewershedlaw12.WatershedDown'. -/
def watershedDownUptoCard : Claim7 := { stood := { row := watershedDownUptoRow, standIns := [], harness := (true, "45980f6acffa29bfabcf744d59459a83116ad0028bd9225f70c93420d6036e75"), looks := true }, kinds := [], alts := [], laidByText := true, laidKinds := [.data, .data, .data], laidTests := true, laidLooks := .later }
def WatershedDownUptoCardSaid : Prop := Claim7.holds Tryz.pinned (.plain (OpenSpec.upto watershedDownSpec)) watershedDownUptoCard

/-- THE SECOND FORM's CARD OF 'sewershedlaw12.WatershedDrains'. -/
def watershedDrainsUptoCard : Claim7 := { stood := { row := watershedDrainsUptoRow, standIns := [], harness := (true, "45980f6acffa29bfabcf744d59459a83116ad0028bd9225f70c93420d6036e75"), looks := true }, kinds := [], alts := [], laidByText := true, laidKinds := [.data, .data, .data], laidTests := true, laidLooks := .later }
def WatershedDrainsUptoCardSaid : Prop := Claim7.holds Tryz.pinned (.plain (OpenSpec.upto watershedDrainsSpec)) watershedDrainsUptoCard

/-- THE SECOND FORM's CARD OF 'sewershedlaw12.WatershedMore'. -/
def watershedMoreUptoCard : Claim7 := { stood := { row := watershedMoreUptoRow, standIns := [], harness := (true, "45980f6acffa29bfabcf744d59459a83116ad0028bd9225f70c93420d6036e75"), looks := true }, kinds := [], alts := [], laidByText := true, laidKinds := [.data, .data, .data], laidTests := true, laidLooks := .later }
def WatershedMoreUptoCardSaid : Prop := Claim7.holds Tryz.pinned (.plain (OpenSpec.upto watershedMoreSpec)) watershedMoreUptoCard

/-- THE SECOND FORM's CARD OF 'sewershedlaw12.WatershedMoved'. -/
def watershedMovedUptoCard : Claim7 := { stood := { row := watershedMovedUptoRow, standIns := [], harness := (true, "45980f6acffa29bfabcf744d59459a83116ad0028bd9225f70c93420d6036e75"), looks := true }, kinds := [], alts := [], laidByText := true, laidKinds := [.data, .data, .data], laidTests := true, laidLooks := .later }
def WatershedMovedUptoCardSaid : Prop := Claim7.holds Tryz.pinned (.plain (OpenSpec.upto watershedMovedSpec)) watershedMovedUptoCard

/-- THE SECOND FORM's CARD OF 'sewershedlaw12.WatershedAreas'. -/
def watershedAreasUptoCard : Claim7 := { stood := { row := watershedAreasUptoRow, standIns := [], harness := (true, "45980f6acffa29bfabcf744d59459a83116ad0028bd9225f70c93420d6036e75"), looks := true }, kinds := [], alts := [], laidByText := true, laidKinds := [.data, .data, .data], laidTests := true, laidLooks := .later }
def WatershedAreasUptoCardSaid : Prop := Claim7.holds Tryz.pinned (.plain (OpenSpec.upto watershedAreasSpec)) watershedAreasUptoCard
end Rows
end Go.Proofs.YtibmdjdddnkomaaGreatDoor
