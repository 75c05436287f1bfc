/-
  DERIVED. GIVEN WITH THE SEED: THE CARDS: each row of YtolnegllifehhaaGreatDoorRows.lean that lists a variable, with what it lists TIED to the program's text (the seventh form; the later family's looks); each row that meets fmt, with fmt's text TOLD by the authors' own Lean function (tested against real Go, not proved from fmt's source: count such statements apart). THE CARD IS WHAT COUNTS. Prove the row's statement (the work); the ties are given (YtolnegllifehhaaGreatDoorTie.lean); close each card by the builder's one call (the guide's Derived/Test/ToyasCard.lean, 'card_holds'). Laid BY PROGRAM, IN A SANDBOX (cutbox-door.mjs). By AI agents, Wed Nov 11 2026. No macro, syntax, notation, axiom, sorry.
-/
import Derived.Test.YtolnegllifehhaaGreatDoorRows
import GoSem.ClaimSeven
namespace Go.Proofs.YtolnegllifehhaaGreatDoor
namespace Rows

/-- THE TIED CARD OF 'sewershedlaw27.CheckerRaised'. -/
def checkerRaisedCard : Claim7 := { stood := { row := checkerRaisedRow, standIns := [], harness := (true, "0ab0fca91c247f6f28f73e4b5ac32f0dfc8e52627ffef4fe7cda928a86f7381c"), looks := false }, kinds := [], alts := [], laidByText := true, laidKinds := [.data, .data, .data], laidTests := true, laidLooks := .later }
def CheckerRaisedCardSaid : Prop := Claim7.holds Tryz.pinned (.plain (OpenSpec.ofChange checkerRaisedSpec)) checkerRaisedCard

/-- THE SECOND FORM's CARD OF 'sewershedlaw27.CheckerRaised'. -/
def checkerRaisedUptoCard : Claim7 := { stood := { row := checkerRaisedUptoRow, standIns := [], harness := (true, "0ab0fca91c247f6f28f73e4b5ac32f0dfc8e52627ffef4fe7cda928a86f7381c"), looks := false }, kinds := [], alts := [], laidByText := true, laidKinds := [.data, .data, .data], laidTests := true, laidLooks := .later }
def CheckerRaisedUptoCardSaid : Prop := Claim7.holds Tryz.pinned (.plain (OpenSpec.upto checkerRaisedSpec)) checkerRaisedUptoCard
end Rows
end Go.Proofs.YtolnegllifehhaaGreatDoor
