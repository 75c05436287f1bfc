/-
  DERIVED. GIVEN WITH THE SEED: THE CARDS: each row of YteaonmajblajnaaGreatDoorRows.lean that lists a variable, with what it lists TIED to the program's text (the seventh form; the later family's looks); each row that meets fmt, with fmt's text TOLD by the authors' own Lean function (tested against real Go, not proved from fmt's source: count such statements apart). THE CARD IS WHAT COUNTS. Prove the row's statement (the work); the ties are given (YteaonmajblajnaaGreatDoorTie.lean); close each card by the builder's one call (the guide's Derived/Test/ToyasCard.lean, 'card_holds'). Laid BY PROGRAM, IN A SANDBOX (cutbox-door.mjs). By AI agents, Wed Nov 11 2026. No macro, syntax, notation, axiom, sorry.
-/
import Derived.Test.YteaonmajblajnaaGreatDoorRows
import GoSem.ClaimSeven
namespace Go.Proofs.YteaonmajblajnaaGreatDoor
namespace Rows

/-- THE TIED CARD OF 'sewershedlaw14.TransectPoints'. -/
def transectPointsCard : Claim7 := { stood := { row := transectPointsRow, standIns := [], harness := (true, "532c1626051a0aee82bbda32945667d615cfa8a39ab74cec5584b5dcc6499559"), looks := false }, kinds := [], alts := [], laidByText := true, laidKinds := [.data, .data, .data], laidTests := true, laidLooks := .later }
def TransectPointsCardSaid : Prop := Claim7.holds Tryz.pinned (.plain (OpenSpec.ofChange transectPointsSpec)) transectPointsCard

/-- THE TIED CARD OF 'sewershedlaw14.TransectFaces'. -/
def transectFacesCard : Claim7 := { stood := { row := transectFacesRow, standIns := [], harness := (true, "532c1626051a0aee82bbda32945667d615cfa8a39ab74cec5584b5dcc6499559"), looks := false }, kinds := [], alts := [], laidByText := true, laidKinds := [.data, .data, .data], laidTests := true, laidLooks := .later }
def TransectFacesCardSaid : Prop := Claim7.holds Tryz.pinned (.plain (OpenSpec.ofChange transectFacesSpec)) transectFacesCard

/-- THE TIED CARD OF 'sewershedlaw14.TransectBack'. -/
def transectBackCard : Claim7 := { stood := { row := transectBackRow, standIns := [], harness := (true, "532c1626051a0aee82bbda32945667d615cfa8a39ab74cec5584b5dcc6499559"), looks := false }, kinds := [], alts := [], laidByText := true, laidKinds := [.data, .data, .data], laidTests := true, laidLooks := .later }
def TransectBackCardSaid : Prop := Claim7.holds Tryz.pinned (.plain (OpenSpec.ofChange transectBackSpec)) transectBackCard

/-- THE TIED CARD OF 'sewershedlaw14.TransectCovers'. -/
def transectCoversCard : Claim7 := { stood := { row := transectCoversRow, standIns := [], harness := (true, "532c1626051a0aee82bbda32945667d615cfa8a39ab74cec5584b5dcc6499559"), looks := false }, kinds := [], alts := [], laidByText := true, laidKinds := [.data, .data, .data], laidTests := true, laidLooks := .later }
def TransectCoversCardSaid : Prop := Claim7.holds Tryz.pinned (.plain (OpenSpec.ofChange transectCoversSpec)) transectCoversCard

/-- THE TIED CARD OF 'sewershedlaw14.TransectPasses'. -/
def transectPassesCard : Claim7 := { stood := { row := transectPassesRow, standIns := [], harness := (true, "532c1626051a0aee82bbda32945667d615cfa8a39ab74cec5584b5dcc6499559"), looks := false }, kinds := [], alts := [], laidByText := true, laidKinds := [.data, .data, .data], laidTests := true, laidLooks := .later }
def TransectPassesCardSaid : Prop := Claim7.holds Tryz.pinned (.plain (OpenSpec.ofChange transectPassesSpec)) transectPassesCard

/-- THE TIED CARD OF 'sewershedlaw14.TransectLevels'. -/
def transectLevelsCard : Claim7 := { stood := { row := transectLevelsRow, standIns := [], harness := (true, "532c1626051a0aee82bbda32945667d615cfa8a39ab74cec5584b5dcc6499559"), looks := false }, kinds := [], alts := [], laidByText := true, laidKinds := [.data, .data, .data], laidTests := true, laidLooks := .later }
def TransectLevelsCardSaid : Prop := Claim7.holds Tryz.pinned (.plain (OpenSpec.ofChange transectLevelsSpec)) transectLevelsCard

/-- THE TIED CARD OF 'sewershedlaw14.TransectDeeper'. -/
def transectDeeperCard : Claim7 := { stood := { row := transectDeeperRow, standIns := [], harness := (true, "532c1626051a0aee82bbda32945667d615cfa8a39ab74cec5584b5dcc6499559"), looks := false }, kinds := [], alts := [], laidByText := true, laidKinds := [.data, .data, .data], laidTests := true, laidLooks := .later }
def TransectDeeperCardSaid : Prop := Claim7.holds Tryz.pinned (.plain (OpenSpec.ofChange transectDeeperSpec)) transectDeeperCard

/-- THE TIED CARD OF 'sewershedlaw14.TransectRises'. -/
def transectRisesCard : Claim7 := { stood := { row := transectRisesRow, standIns := [], harness := (true, "532c1626051a0aee82bbda32945667d615cfa8a39ab74cec5584b5dcc6499559"), looks := false }, kinds := [], alts := [], laidByText := true, laidKinds := [.data, .data, .data], laidTests := true, laidLooks := .later }
def TransectRisesCardSaid : Prop := Claim7.holds Tryz.pinned (.plain (OpenSpec.ofChange transectRisesSpec)) transectRisesCard

/-- THE SECOND FORM's CARD OF 'sewershedlaw14.TransectPoints'. -/
def transectPointsUptoCard : Claim7 := { stood := { row := transectPointsUptoRow, standIns := [], harness := (true, "532c1626051a0aee82bbda32945667d615cfa8a39ab74cec5584b5dcc6499559"), looks := false }, kinds := [], alts := [], laidByText := true, laidKinds := [.data, .data, .data], laidTests := true, laidLooks := .later }
def TransectPointsUptoCardSaid : Prop := Claim7.holds Tryz.pinned (.plain (OpenSpec.upto transectPointsSpec)) transectPointsUptoCard

/-- THE SECOND FORM's CARD OF 'sewershedlaw14.TransectFaces'. -/
def transectFacesUptoCard : Claim7 := { stood := { row := transectFacesUptoRow, standIns := [], harness := (true, "532c1626051a0aee82bbda32945667d615cfa8a39ab74cec5584b5dcc6499559"), looks := false }, kinds := [], alts := [], laidByText := true, laidKinds := [.data, .data, .data], laidTests := true, laidLooks := .later }
def TransectFacesUptoCardSaid : Prop := Claim7.holds Tryz.pinned (.plain (OpenSpec.upto transectFacesSpec)) transectFacesUptoCard

/-- THE SECOND FORM's CARD OF 'sewershedlaw14.TransectBack'. -/
def transectBackUptoCard : Claim7 := { stood := { row := transectBackUptoRow, standIns := [], harness := (true, "532c1626051a0aee82bbda32945667d615cfa8a39ab74cec5584b5dcc6499559"), looks := false }, kinds := [], alts := [], laidByText := true, laidKinds := [.data, .data, .data], laidTests := true, laidLooks := .later }
def TransectBackUptoCardSaid : Prop := Claim7.holds Tryz.pinned (.plain (OpenSpec.upto transectBackSpec)) transectBackUptoCard

/-- THE SECOND FORM's CARD OF 'sewershedlaw14.TransectCovers'. -/
def transectCoversUptoCard : Claim7 := { stood := { row := transectCoversUptoRow, standIns := [], harness := (true, "532c1626051a0aee82bbda32945667d615cfa8a39ab74cec5584b5dcc6499559"), looks := false }, kinds := [], alts := [], laidByText := true, laidKinds := [.data, .data, .data], laidTests := true, laidLooks := .later }
def TransectCoversUptoCardSaid : Prop := Claim7.holds Tryz.pinned (.plain (OpenSpec.upto transectCoversSpec)) transectCoversUptoCard

/-- THE SECOND FORM's CARD OF 'sewershedlaw14.TransectPasses'. -/
def transectPassesUptoCard : Claim7 := { stood := { row := transectPassesUptoRow, standIns := [], harness := (true, "532c1626051a0aee82bbda32945667d615cfa8a39ab74cec5584b5dcc6499559"), looks := false }, kinds := [], alts := [], laidByText := true, laidKinds := [.data, .data, .data], laidTests := true, laidLooks := .later }
def TransectPassesUptoCardSaid : Prop := Claim7.holds Tryz.pinned (.plain (OpenSpec.upto transectPassesSpec)) transectPassesUptoCard

/-- THE SECOND FORM's CARD OF 'sewershedlaw14.TransectLevels'. -/
def transectLevelsUptoCard : Claim7 := { stood := { row := transectLevelsUptoRow, standIns := [], harness := (true, "532c1626051a0aee82bbda32945667d615cfa8a39ab74cec5584b5dcc6499559"), looks := false }, kinds := [], alts := [], laidByText := true, laidKinds := [.data, .data, .data], laidTests := true, laidLooks := .later }
def TransectLevelsUptoCardSaid : Prop := Claim7.holds Tryz.pinned (.plain (OpenSpec.upto transectLevelsSpec)) transectLevelsUptoCard

/-- THE SECOND FORM's CARD OF 'sewershedlaw14.TransectDeeper'. -/
def transectDeeperUptoCard : Claim7 := { stood := { row := transectDeeperUptoRow, standIns := [], harness := (true, "532c1626051a0aee82bbda32945667d615cfa8a39ab74cec5584b5dcc6499559"), looks := false }, kinds := [], alts := [], laidByText := true, laidKinds := [.data, .data, .data], laidTests := true, laidLooks := .later }
def TransectDeeperUptoCardSaid : Prop := Claim7.holds Tryz.pinned (.plain (OpenSpec.upto transectDeeperSpec)) transectDeeperUptoCard

/-- THE SECOND FORM's CARD OF 'sewershedlaw14.TransectRises'. -/
def transectRisesUptoCard : Claim7 := { stood := { row := transectRisesUptoRow, standIns := [], harness := (true, "532c1626051a0aee82bbda32945667d615cfa8a39ab74cec5584b5dcc6499559"), looks := false }, kinds := [], alts := [], laidByText := true, laidKinds := [.data, .data, .data], laidTests := true, laidLooks := .later }
def TransectRisesUptoCardSaid : Prop := Claim7.holds Tryz.pinned (.plain (OpenSpec.upto transectRisesSpec)) transectRisesUptoCard
end Rows
end Go.Proofs.YteaonmajblajnaaGreatDoor
