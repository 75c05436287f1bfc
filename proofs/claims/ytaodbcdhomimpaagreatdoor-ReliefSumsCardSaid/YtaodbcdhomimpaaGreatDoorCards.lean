/-
  DERIVED. GIVEN WITH THE SEED: THE CARDS: each row of YtaodbcdhomimpaaGreatDoorRows.lean that lists a variable, with what it lists TIED to the program's text (the seventh form; the later family's looks); each row that meets fmt, with fmt's text TOLD by the authors' own Lean function (tested against real Go, not proved from fmt's source: count such statements apart). THE CARD IS WHAT COUNTS. Prove the row's statement (the work); the ties are given (YtaodbcdhomimpaaGreatDoorTie.lean); close each card by the builder's one call (the guide's Derived/Test/ToyasCard.lean, 'card_holds'). Laid BY PROGRAM, IN A SANDBOX (cutbox-door.mjs). By AI agents, Wed Nov 11 2026. No macro, syntax, notation, axiom, sorry.
-/
import Derived.Test.YtaodbcdhomimpaaGreatDoorRows
import GoSem.ClaimSeven
namespace Go.Proofs.YtaodbcdhomimpaaGreatDoor
namespace Rows

/-- THE TIED CARD OF 'sewershedlaw10.ReliefSums'. -/
def reliefSumsCard : Claim7 := { stood := { row := reliefSumsRow, standIns := [], harness := (true, "3de995d55ca8f4a2242ce6ff961b019d5aa00fedbf2c805c0e10f2d3208c7bbc"), looks := false }, kinds := [], alts := [], laidByText := true, laidKinds := [.data, .data, .data], laidTests := true, laidLooks := .later }
def ReliefSumsCardSaid : Prop := Claim7.holds Tryz.pinned (.plain (OpenSpec.ofChange reliefSumsSpec)) reliefSumsCard

/-- THE TIED CARD OF 'sewershedlaw10.ReliefMoves'. -/
def reliefMovesCard : Claim7 := { stood := { row := reliefMovesRow, standIns := [], harness := (true, "3de995d55ca8f4a2242ce6ff961b019d5aa00fedbf2c805c0e10f2d3208c7bbc"), looks := false }, kinds := [], alts := [], laidByText := true, laidKinds := [.data, .data, .data], laidTests := true, laidLooks := .later }
def ReliefMovesCardSaid : Prop := Claim7.holds Tryz.pinned (.plain (OpenSpec.ofChange reliefMovesSpec)) reliefMovesCard

/-- THE SECOND FORM's CARD OF 'sewershedlaw10.ReliefSums'. -/
def reliefSumsUptoCard : Claim7 := { stood := { row := reliefSumsUptoRow, standIns := [], harness := (true, "3de995d55ca8f4a2242ce6ff961b019d5aa00fedbf2c805c0e10f2d3208c7bbc"), looks := false }, kinds := [], alts := [], laidByText := true, laidKinds := [.data, .data, .data], laidTests := true, laidLooks := .later }
def ReliefSumsUptoCardSaid : Prop := Claim7.holds Tryz.pinned (.plain (OpenSpec.upto reliefSumsSpec)) reliefSumsUptoCard

/-- THE SECOND FORM's CARD OF 'sewershedlaw10.ReliefMoves'. -/
def reliefMovesUptoCard : Claim7 := { stood := { row := reliefMovesUptoRow, standIns := [], harness := (true, "3de995d55ca8f4a2242ce6ff961b019d5aa00fedbf2c805c0e10f2d3208c7bbc"), looks := false }, kinds := [], alts := [], laidByText := true, laidKinds := [.data, .data, .data], laidTests := true, laidLooks := .later }
def ReliefMovesUptoCardSaid : Prop := Claim7.holds Tryz.pinned (.plain (OpenSpec.upto reliefMovesSpec)) reliefMovesUptoCard
end Rows
end Go.Proofs.YtaodbcdhomimpaaGreatDoor
