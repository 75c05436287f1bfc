/-
  DERIVED. GIVEN WITH THE SEED: THE CARDS: each row of YtkmpieodjlkooaaDoorRows.lean that lists a variable, with what it lists TIED to the program's text (the seventh form; the later family's looks); each row that meets fmt, with fmt's text TOLD by the authors' own Lean function (tested against real Go, not proved from fmt's source: count such statements apart). THE CARD IS WHAT COUNTS. Prove the row's statement (the work); the ties are given (YtkmpieodjlkooaaDoorTie.lean); close each card by the builder's one call (the guide's Derived/Test/ToyasCard.lean, 'card_holds'). Laid BY PROGRAM, IN A SANDBOX (cutbox-door.mjs). By AI agents, Wed Nov 11 2026. No macro, syntax, notation, axiom, sorry.
-/
import Derived.Test.YtkmpieodjlkooaaDoorRows
import GoSem.ClaimSeven
namespace Go.Proofs.YtkmpieodjlkooaaDoor
namespace Rows

/-- THE TIED CARD OF 'sewershedlaw47.SizingEasier'. -/
def sizingEasierCard : Claim7 := { stood := { row := sizingEasierRow, standIns := [], harness := (true, "9219704fb47b1796f62324999085d153318cf26080d43d03a781ca80cdc2a893"), looks := false }, kinds := [], alts := [], laidByText := true, laidKinds := [.data, .data, .data], laidTests := true, laidLooks := .later }
def SizingEasierCardSaid : Prop := Claim7.holds Tryd.pinned (.plain (OpenSpec.ofChange sizingEasierSpec)) sizingEasierCard

/-- THE SECOND FORM's CARD OF 'sewershedlaw47.SizingEasier'. -/
def sizingEasierUptoCard : Claim7 := { stood := { row := sizingEasierUptoRow, standIns := [], harness := (true, "9219704fb47b1796f62324999085d153318cf26080d43d03a781ca80cdc2a893"), looks := false }, kinds := [], alts := [], laidByText := true, laidKinds := [.data, .data, .data], laidTests := true, laidLooks := .later }
def SizingEasierUptoCardSaid : Prop := Claim7.holds Tryd.pinned (.plain (OpenSpec.upto sizingEasierSpec)) sizingEasierUptoCard
end Rows
end Go.Proofs.YtkmpieodjlkooaaDoor
