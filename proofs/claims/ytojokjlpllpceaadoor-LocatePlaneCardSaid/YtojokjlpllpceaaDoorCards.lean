/-
  DERIVED. GIVEN WITH THE SEED: THE CARDS: each row of YtojokjlpllpceaaDoorRows.lean that lists a variable, with what it lists TIED to the program's text (the seventh form; the later family's looks); each row that meets fmt, with fmt's text TOLD by the authors' own Lean function (tested against real Go, not proved from fmt's source: count such statements apart). THE CARD IS WHAT COUNTS. Prove the row's statement (the work); the ties are given (YtojokjlpllpceaaDoorTie.lean); close each card by the builder's one call (the guide's Derived/Test/ToyasCard.lean, 'card_holds'). Laid BY PROGRAM, IN A SANDBOX (cutbox-door.mjs). By AI agents, Wed Nov 11 2026. No macro, syntax, notation, axiom, sorry.
-/
import Derived.Test.YtojokjlpllpceaaDoorRows
import GoSem.ClaimSeven
namespace Go.Proofs.YtojokjlpllpceaaDoor
namespace Rows

/-- THE TIED CARD OF 'sewershedlaw13.LocatePlane'. -/
def locatePlaneCard : Claim7 := { stood := { row := locatePlaneRow, standIns := [], harness := (true, "a0a34faaded585ed684d8febd291a74d0ad16d70f34f134ff43253716d4b02a4"), looks := false }, kinds := [], alts := [], laidByText := true, laidKinds := [.data, .data, .data], laidTests := true, laidLooks := .later }
def LocatePlaneCardSaid : Prop := Claim7.holds Tryd.pinned (.plain (OpenSpec.ofChange locatePlaneSpec)) locatePlaneCard

/-- THE SECOND FORM's CARD OF 'sewershedlaw13.LocatePlane'. -/
def locatePlaneUptoCard : Claim7 := { stood := { row := locatePlaneUptoRow, standIns := [], harness := (true, "a0a34faaded585ed684d8febd291a74d0ad16d70f34f134ff43253716d4b02a4"), looks := false }, kinds := [], alts := [], laidByText := true, laidKinds := [.data, .data, .data], laidTests := true, laidLooks := .later }
def LocatePlaneUptoCardSaid : Prop := Claim7.holds Tryd.pinned (.plain (OpenSpec.upto locatePlaneSpec)) locatePlaneUptoCard
end Rows
end Go.Proofs.YtojokjlpllpceaaDoor
