/-
  DERIVED. GIVEN WITH THE SEED: THE CARDS: each row of YteemogpcmjekhaaDoorRows.lean that lists a variable, with what it lists TIED to the program's text (the seventh form; the later family's looks); each row that meets fmt, with fmt's text TOLD by the authors' own Lean function (tested against real Go, not proved from fmt's source: count such statements apart). THE CARD IS WHAT COUNTS. Prove the row's statement (the work); the ties are given (YteemogpcmjekhaaDoorTie.lean); close each card by the builder's one call (the guide's Derived/Test/ToyasCard.lean, 'card_holds'). Laid BY PROGRAM, IN A SANDBOX (cutbox-door.mjs). By AI agents, Wed Nov 11 2026. No macro, syntax, notation, axiom, sorry.
-/
import Derived.Test.YteemogpcmjekhaaDoorRows
import GoSem.ClaimSeven
namespace Go.Proofs.YteemogpcmjekhaaDoor
namespace Rows

/-- THE TIED CARD OF 'sewershedlaw10.ReliefFlows'. -/
def reliefFlowsCard : Claim7 := { stood := { row := reliefFlowsRow, standIns := [], harness := (true, "986253dc7bd7ead8a38fb021c6227339d9c1ca87308b8fa396a5d58e6f85a054"), looks := false }, kinds := [], alts := [], laidByText := true, laidKinds := [.data, .data, .data], laidTests := true, laidLooks := .later }
def ReliefFlowsCardSaid : Prop := Claim7.holds Tryd.pinned (.plain (OpenSpec.ofChange reliefFlowsSpec)) reliefFlowsCard

/-- THE TIED CARD OF 'sewershedlaw10.ReliefDescends'. -/
def reliefDescendsCard : Claim7 := { stood := { row := reliefDescendsRow, standIns := [], harness := (true, "986253dc7bd7ead8a38fb021c6227339d9c1ca87308b8fa396a5d58e6f85a054"), looks := false }, kinds := [], alts := [], laidByText := true, laidKinds := [.data, .data, .data], laidTests := true, laidLooks := .later }
def ReliefDescendsCardSaid : Prop := Claim7.holds Tryd.pinned (.plain (OpenSpec.ofChange reliefDescendsSpec)) reliefDescendsCard

/-- THE TIED CARD OF 'sewershedlaw10.ReliefSteepest'. -/
def reliefSteepestCard : Claim7 := { stood := { row := reliefSteepestRow, standIns := [], harness := (true, "986253dc7bd7ead8a38fb021c6227339d9c1ca87308b8fa396a5d58e6f85a054"), looks := false }, kinds := [], alts := [], laidByText := true, laidKinds := [.data, .data, .data], laidTests := true, laidLooks := .later }
def ReliefSteepestCardSaid : Prop := Claim7.holds Tryd.pinned (.plain (OpenSpec.ofChange reliefSteepestSpec)) reliefSteepestCard

/-- THE TIED CARD OF 'sewershedlaw13.LocatePlane'. -/
def locatePlaneCard : Claim7 := { stood := { row := locatePlaneRow, standIns := [], harness := (true, "986253dc7bd7ead8a38fb021c6227339d9c1ca87308b8fa396a5d58e6f85a054"), looks := false }, kinds := [], alts := [], laidByText := true, laidKinds := [.data, .data, .data], laidTests := true, laidLooks := .later }
def LocatePlaneCardSaid : Prop := Claim7.holds Tryd.pinned (.plain (OpenSpec.ofChange locatePlaneSpec)) locatePlaneCard

/-- THE TIED CARD OF 'sewershedlaw13.LocateFaces'. -/
def locateFacesCard : Claim7 := { stood := { row := locateFacesRow, standIns := [], harness := (true, "986253dc7bd7ead8a38fb021c6227339d9c1ca87308b8fa396a5d58e6f85a054"), looks := false }, kinds := [], alts := [], laidByText := true, laidKinds := [.data, .data, .data], laidTests := true, laidLooks := .later }
def LocateFacesCardSaid : Prop := Claim7.holds Tryd.pinned (.plain (OpenSpec.ofChange locateFacesSpec)) locateFacesCard

/-- THE TIED CARD OF 'sewershedlaw13.LocateWalks'. -/
def locateWalksCard : Claim7 := { stood := { row := locateWalksRow, standIns := [], harness := (true, "986253dc7bd7ead8a38fb021c6227339d9c1ca87308b8fa396a5d58e6f85a054"), looks := false }, kinds := [], alts := [], laidByText := true, laidKinds := [.data, .data, .data], laidTests := true, laidLooks := .later }
def LocateWalksCardSaid : Prop := Claim7.holds Tryd.pinned (.plain (OpenSpec.ofChange locateWalksSpec)) locateWalksCard

/-- THE TIED CARD OF 'sewershedlaw13.LocateInside'. -/
def locateInsideCard : Claim7 := { stood := { row := locateInsideRow, standIns := [], harness := (true, "986253dc7bd7ead8a38fb021c6227339d9c1ca87308b8fa396a5d58e6f85a054"), looks := false }, kinds := [], alts := [], laidByText := true, laidKinds := [.data, .data, .data], laidTests := true, laidLooks := .later }
def LocateInsideCardSaid : Prop := Claim7.holds Tryd.pinned (.plain (OpenSpec.ofChange locateInsideSpec)) locateInsideCard

/-- THE SECOND FORM's CARD OF 'sewershedlaw10.ReliefFlows'. -/
def reliefFlowsUptoCard : Claim7 := { stood := { row := reliefFlowsUptoRow, standIns := [], harness := (true, "986253dc7bd7ead8a38fb021c6227339d9c1ca87308b8fa396a5d58e6f85a054"), looks := false }, kinds := [], alts := [], laidByText := true, laidKinds := [.data, .data, .data], laidTests := true, laidLooks := .later }
def ReliefFlowsUptoCardSaid : Prop := Claim7.holds Tryd.pinned (.plain (OpenSpec.upto reliefFlowsSpec)) reliefFlowsUptoCard

/-- THE SECOND FORM's CARD OF 'sewershedlaw10.ReliefDescends'. -/
def reliefDescendsUptoCard : Claim7 := { stood := { row := reliefDescendsUptoRow, standIns := [], harness := (true, "986253dc7bd7ead8a38fb021c6227339d9c1ca87308b8fa396a5d58e6f85a054"), looks := false }, kinds := [], alts := [], laidByText := true, laidKinds := [.data, .data, .data], laidTests := true, laidLooks := .later }
def ReliefDescendsUptoCardSaid : Prop := Claim7.holds Tryd.pinned (.plain (OpenSpec.upto reliefDescendsSpec)) reliefDescendsUptoCard

/-- THE SECOND FORM's CARD OF 'sewershedlaw10.ReliefSteepest'. -/
def reliefSteepestUptoCard : Claim7 := { stood := { row := reliefSteepestUptoRow, standIns := [], harness := (true, "986253dc7bd7ead8a38fb021c6227339d9c1ca87308b8fa396a5d58e6f85a054"), looks := false }, kinds := [], alts := [], laidByText := true, laidKinds := [.data, .data, .data], laidTests := true, laidLooks := .later }
def ReliefSteepestUptoCardSaid : Prop := Claim7.holds Tryd.pinned (.plain (OpenSpec.upto reliefSteepestSpec)) reliefSteepestUptoCard

/-- THE SECOND FORM's CARD OF 'sewershedlaw13.LocatePlane'. -/
def locatePlaneUptoCard : Claim7 := { stood := { row := locatePlaneUptoRow, standIns := [], harness := (true, "986253dc7bd7ead8a38fb021c6227339d9c1ca87308b8fa396a5d58e6f85a054"), looks := false }, kinds := [], alts := [], laidByText := true, laidKinds := [.data, .data, .data], laidTests := true, laidLooks := .later }
def LocatePlaneUptoCardSaid : Prop := Claim7.holds Tryd.pinned (.plain (OpenSpec.upto locatePlaneSpec)) locatePlaneUptoCard

/-- THE SECOND FORM's CARD OF 'sewershedlaw13.LocateFaces'. -/
def locateFacesUptoCard : Claim7 := { stood := { row := locateFacesUptoRow, standIns := [], harness := (true, "986253dc7bd7ead8a38fb021c6227339d9c1ca87308b8fa396a5d58e6f85a054"), looks := false }, kinds := [], alts := [], laidByText := true, laidKinds := [.data, .data, .data], laidTests := true, laidLooks := .later }
def LocateFacesUptoCardSaid : Prop := Claim7.holds Tryd.pinned (.plain (OpenSpec.upto locateFacesSpec)) locateFacesUptoCard

/-- THE SECOND FORM's CARD OF 'sewershedlaw13.LocateWalks'. -/
def locateWalksUptoCard : Claim7 := { stood := { row := locateWalksUptoRow, standIns := [], harness := (true, "986253dc7bd7ead8a38fb021c6227339d9c1ca87308b8fa396a5d58e6f85a054"), looks := false }, kinds := [], alts := [], laidByText := true, laidKinds := [.data, .data, .data], laidTests := true, laidLooks := .later }
def LocateWalksUptoCardSaid : Prop := Claim7.holds Tryd.pinned (.plain (OpenSpec.upto locateWalksSpec)) locateWalksUptoCard

/-- THE SECOND FORM's CARD OF 'sewershedlaw13.LocateInside'. -/
def locateInsideUptoCard : Claim7 := { stood := { row := locateInsideUptoRow, standIns := [], harness := (true, "986253dc7bd7ead8a38fb021c6227339d9c1ca87308b8fa396a5d58e6f85a054"), looks := false }, kinds := [], alts := [], laidByText := true, laidKinds := [.data, .data, .data], laidTests := true, laidLooks := .later }
def LocateInsideUptoCardSaid : Prop := Claim7.holds Tryd.pinned (.plain (OpenSpec.upto locateInsideSpec)) locateInsideUptoCard
end Rows
end Go.Proofs.YteemogpcmjekhaaDoor
