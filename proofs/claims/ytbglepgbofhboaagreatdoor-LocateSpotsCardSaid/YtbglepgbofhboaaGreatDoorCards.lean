/-
  DERIVED. GIVEN WITH THE SEED: THE CARDS: each row of YtbglepgbofhboaaGreatDoorRows.lean that lists a variable, with what it lists TIED to the program's text (the seventh form; the later family's looks); each row that meets fmt, with fmt's text TOLD by the authors' own Lean function (tested against real Go, not proved from fmt's source: count such statements apart). THE CARD IS WHAT COUNTS. Prove the row's statement (the work); the ties are given (YtbglepgbofhboaaGreatDoorTie.lean); close each card by the builder's one call (the guide's Derived/Test/ToyasCard.lean, 'card_holds'). Laid BY PROGRAM, IN A SANDBOX (cutbox-door.mjs). By AI agents, Wed Nov 11 2026. No macro, syntax, notation, axiom, sorry.
-/
import Derived.Test.YtbglepgbofhboaaGreatDoorRows
import GoSem.ClaimSeven
namespace Go.Proofs.YtbglepgbofhboaaGreatDoor
namespace Rows

/-- THE TIED CARD OF 'sewershedlaw13.LocateSpots'. -/
def locateSpotsCard : Claim7 := { stood := { row := locateSpotsRow, standIns := [], harness := (true, "85e8d97d26ba8b2586cb0539600ab5469a5782a368ef4129b64c96119712e135"), looks := false }, kinds := [], alts := [], laidByText := true, laidKinds := [.data, .data, .data], laidTests := true, laidLooks := .later }
def LocateSpotsCardSaid : Prop := Claim7.holds Tryz.pinned (.plain (OpenSpec.ofChange locateSpotsSpec)) locateSpotsCard

/-- THE TIED CARD OF 'sewershedlaw10.ReliefSums'. -/
def reliefSumsCard : Claim7 := { stood := { row := reliefSumsRow, standIns := [], harness := (true, "85e8d97d26ba8b2586cb0539600ab5469a5782a368ef4129b64c96119712e135"), looks := false }, kinds := [], alts := [], laidByText := true, laidKinds := [.data, .data, .data], laidTests := true, laidLooks := .later }
def ReliefSumsCardSaid : Prop := Claim7.holds Tryz.pinned (.plain (OpenSpec.ofChange reliefSumsSpec)) reliefSumsCard

/-- THE TIED CARD OF 'sewershedlaw10.ReliefMoves'. -/
def reliefMovesCard : Claim7 := { stood := { row := reliefMovesRow, standIns := [], harness := (true, "85e8d97d26ba8b2586cb0539600ab5469a5782a368ef4129b64c96119712e135"), looks := false }, kinds := [], alts := [], laidByText := true, laidKinds := [.data, .data, .data], laidTests := true, laidLooks := .later }
def ReliefMovesCardSaid : Prop := Claim7.holds Tryz.pinned (.plain (OpenSpec.ofChange reliefMovesSpec)) reliefMovesCard

/-- THE SECOND FORM's CARD OF 'sewershedlaw13.LocateSpots'. -/
def locateSpotsUptoCard : Claim7 := { stood := { row := locateSpotsUptoRow, standIns := [], harness := (true, "85e8d97d26ba8b2586cb0539600ab5469a5782a368ef4129b64c96119712e135"), looks := false }, kinds := [], alts := [], laidByText := true, laidKinds := [.data, .data, .data], laidTests := true, laidLooks := .later }
def LocateSpotsUptoCardSaid : Prop := Claim7.holds Tryz.pinned (.plain (OpenSpec.upto locateSpotsSpec)) locateSpotsUptoCard

/-- THE SECOND FORM's CARD OF 'sewershedlaw10.ReliefSums'. -/
def reliefSumsUptoCard : Claim7 := { stood := { row := reliefSumsUptoRow, standIns := [], harness := (true, "85e8d97d26ba8b2586cb0539600ab5469a5782a368ef4129b64c96119712e135"), looks := false }, kinds := [], alts := [], laidByText := true, laidKinds := [.data, .data, .data], laidTests := true, laidLooks := .later }
def ReliefSumsUptoCardSaid : Prop := Claim7.holds Tryz.pinned (.plain (OpenSpec.upto reliefSumsSpec)) reliefSumsUptoCard

/-- THE SECOND FORM's CARD OF 'sewershedlaw10.ReliefMoves'. -/
def reliefMovesUptoCard : Claim7 := { stood := { row := reliefMovesUptoRow, standIns := [], harness := (true, "85e8d97d26ba8b2586cb0539600ab5469a5782a368ef4129b64c96119712e135"), looks := false }, kinds := [], alts := [], laidByText := true, laidKinds := [.data, .data, .data], laidTests := true, laidLooks := .later }
def ReliefMovesUptoCardSaid : Prop := Claim7.holds Tryz.pinned (.plain (OpenSpec.upto reliefMovesSpec)) reliefMovesUptoCard
end Rows
end Go.Proofs.YtbglepgbofhboaaGreatDoor
