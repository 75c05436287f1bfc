/-
  DERIVED. GIVEN WITH THE SEED: THE CARDS: each row of YtojokjlpllpceaaGreatDoorRows.lean that lists a variable, with what it lists TIED to the program's text (the seventh form; the later family's looks); each row that meets fmt, with fmt's text TOLD by the authors' own Lean function (tested against real Go, not proved from fmt's source: count such statements apart). THE CARD IS WHAT COUNTS. Prove the row's statement (the work); the ties are given (YtojokjlpllpceaaGreatDoorTie.lean); close each card by the builder's one call (the guide's Derived/Test/ToyasCard.lean, 'card_holds'). Laid BY PROGRAM, IN A SANDBOX (cutbox-door.mjs). By AI agents, Wed Nov 11 2026. No macro, syntax, notation, axiom, sorry.
-/
import Derived.Test.YtojokjlpllpceaaGreatDoorRows
import GoSem.ClaimSeven
namespace Go.Proofs.YtojokjlpllpceaaGreatDoor
namespace Rows

/-- THE TIED CARD OF 'sewershedlaw47.SizingChoices'. -/
def sizingChoicesCard : Claim7 := { stood := { row := sizingChoicesRow, standIns := [], harness := (true, "3ebadc52af0b1fd6c3238bcfc3384a4d3c28a5a3a1532b1c0911a8a95a985cdd"), looks := false }, kinds := [], alts := [], laidByText := true, laidKinds := [.data, .data, .data], laidTests := true, laidLooks := .later }
def SizingChoicesCardSaid : Prop := Claim7.holds Tryz.pinned (.plain (OpenSpec.ofChange sizingChoicesSpec)) sizingChoicesCard

/-- THE SECOND FORM's CARD OF 'sewershedlaw47.SizingChoices'. -/
def sizingChoicesUptoCard : Claim7 := { stood := { row := sizingChoicesUptoRow, standIns := [], harness := (true, "3ebadc52af0b1fd6c3238bcfc3384a4d3c28a5a3a1532b1c0911a8a95a985cdd"), looks := false }, kinds := [], alts := [], laidByText := true, laidKinds := [.data, .data, .data], laidTests := true, laidLooks := .later }
def SizingChoicesUptoCardSaid : Prop := Claim7.holds Tryz.pinned (.plain (OpenSpec.upto sizingChoicesSpec)) sizingChoicesUptoCard
end Rows
end Go.Proofs.YtojokjlpllpceaaGreatDoor
