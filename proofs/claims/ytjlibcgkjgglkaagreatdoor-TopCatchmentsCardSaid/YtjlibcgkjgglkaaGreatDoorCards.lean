/-
  DERIVED. GIVEN WITH THE SEED: THE CARDS: each row of YtjlibcgkjgglkaaGreatDoorRows.lean that lists a variable, with what it lists TIED to the program's text (the seventh form; the later family's looks); each row that meets fmt, with fmt's text TOLD by the authors' own Lean function (tested against real Go, not proved from fmt's source: count such statements apart). THE CARD IS WHAT COUNTS. Prove the row's statement (the work); the ties are given (YtjlibcgkjgglkaaGreatDoorTie.lean); close each card by the builder's one call (the guide's Derived/Test/ToyasCard.lean, 'card_holds'). Laid BY PROGRAM, IN A SANDBOX (cutbox-door.mjs). By AI agents, Wed Nov 11 2026. No macro, syntax, notation, axiom, sorry.
-/
import Derived.Test.YtjlibcgkjgglkaaGreatDoorRows
import GoSem.ClaimSeven
namespace Go.Proofs.YtjlibcgkjgglkaaGreatDoor
namespace Rows

/-- THE TIED CARD OF 'sewershedtop.TopCatchments'. -/
def topCatchmentsCard : Claim7 := { stood := { row := topCatchmentsRow, standIns := [], harness := (true, "b6ba2c70f8d9270ff71a165b3cd85ee04982434b784fcc4b2813577c8ed820a0"), looks := true }, kinds := [], alts := [], laidByText := true, laidKinds := [.data, .data, .data], laidTests := true, laidLooks := .later }
def TopCatchmentsCardSaid : Prop := Claim7.holds Tryz.pinned (.plain (OpenSpec.ofChange topCatchmentsSpec)) topCatchmentsCard

/-- THE SECOND FORM's CARD OF 'sewershedtop.TopCatchments'. -/
def topCatchmentsUptoCard : Claim7 := { stood := { row := topCatchmentsUptoRow, standIns := [], harness := (true, "b6ba2c70f8d9270ff71a165b3cd85ee04982434b784fcc4b2813577c8ed820a0"), looks := true }, kinds := [], alts := [], laidByText := true, laidKinds := [.data, .data, .data], laidTests := true, laidLooks := .later }
def TopCatchmentsUptoCardSaid : Prop := Claim7.holds Tryz.pinned (.plain (OpenSpec.upto topCatchmentsSpec)) topCatchmentsUptoCard
end Rows
end Go.Proofs.YtjlibcgkjgglkaaGreatDoor
