/-
  DERIVED. GIVEN WITH THE SEED: THE CARDS: each row of YtelkdhkalifeiaaGreatDoorRows.lean that lists a variable, with what it lists TIED to the program's text (the seventh form; the later family's looks); each row that meets fmt, with fmt's text TOLD by the authors' own Lean function (tested against real Go, not proved from fmt's source: count such statements apart). THE CARD IS WHAT COUNTS. Prove the row's statement (the work); the ties are given (YtelkdhkalifeiaaGreatDoorTie.lean); close each card by the builder's one call (the guide's Derived/Test/ToyasCard.lean, 'card_holds'). Laid BY PROGRAM, IN A SANDBOX (cutbox-door.mjs). By AI agents, Wed Nov 11 2026. No macro, syntax, notation, axiom, sorry.
-/
import Derived.Test.YtelkdhkalifeiaaGreatDoorRows
import GoSem.ClaimSeven
namespace Go.Proofs.YtelkdhkalifeiaaGreatDoor
namespace Rows

/-- THE TIED CARD OF 'sewershedlaw11.SinksPits'. -/
def sinksPitsCard : Claim7 := { stood := { row := sinksPitsRow, standIns := [], harness := (true, "13902dd22374d139bfa31eb11e3cd88f83bc047e0ce0dd02d5f68ce922eb294f"), looks := true }, kinds := [], alts := [], laidByText := true, laidKinds := [.data, .data, .data], laidTests := true, laidLooks := .later }
def SinksPitsCardSaid : Prop := Claim7.holds Tryz.pinned (.plain (OpenSpec.ofChange sinksPitsSpec)) sinksPitsCard

/-- THE SECOND FORM's CARD OF 'sewershedlaw11.SinksPits'. -/
def sinksPitsUptoCard : Claim7 := { stood := { row := sinksPitsUptoRow, standIns := [], harness := (true, "13902dd22374d139bfa31eb11e3cd88f83bc047e0ce0dd02d5f68ce922eb294f"), looks := true }, kinds := [], alts := [], laidByText := true, laidKinds := [.data, .data, .data], laidTests := true, laidLooks := .later }
def SinksPitsUptoCardSaid : Prop := Claim7.holds Tryz.pinned (.plain (OpenSpec.upto sinksPitsSpec)) sinksPitsUptoCard
end Rows
end Go.Proofs.YtelkdhkalifeiaaGreatDoor
