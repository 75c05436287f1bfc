/-
  DERIVED. GIVEN WITH THE SEED: THE CARDS: each row of YtaodbcdhomimpaaDoorRows.lean that lists a variable, with what it lists TIED to the program's text (the seventh form; the later family's looks); each row that meets fmt, with fmt's text TOLD by the authors' own Lean function (tested against real Go, not proved from fmt's source: count such statements apart). THE CARD IS WHAT COUNTS. Prove the row's statement (the work); the ties are given (YtaodbcdhomimpaaDoorTie.lean); close each card by the builder's one call (the guide's Derived/Test/ToyasCard.lean, 'card_holds'). Laid BY PROGRAM, IN A SANDBOX (cutbox-door.mjs). By AI agents, Wed Nov 11 2026. No macro, syntax, notation, axiom, sorry.
-/
import Derived.Test.YtaodbcdhomimpaaDoorRows
import GoSem.ClaimSeven
namespace Go.Proofs.YtaodbcdhomimpaaDoor
namespace Rows

/-- THE TIED CARD OF 'sewershedlaw10.ReliefGathers'. -/
def reliefGathersCard : Claim7 := { stood := { row := reliefGathersRow, standIns := [], harness := (true, "157835d61ad27752ec1b11406d1d4cc063258f8657b1160936bee78127ed62d1"), looks := false }, kinds := [], alts := [], laidByText := true, laidKinds := [.data, .data, .data], laidTests := true, laidLooks := .later }
def ReliefGathersCardSaid : Prop := Claim7.holds Tryd.pinned (.plain (OpenSpec.ofChange reliefGathersSpec)) reliefGathersCard

/-- THE SECOND FORM's CARD OF 'sewershedlaw10.ReliefGathers'. -/
def reliefGathersUptoCard : Claim7 := { stood := { row := reliefGathersUptoRow, standIns := [], harness := (true, "157835d61ad27752ec1b11406d1d4cc063258f8657b1160936bee78127ed62d1"), looks := false }, kinds := [], alts := [], laidByText := true, laidKinds := [.data, .data, .data], laidTests := true, laidLooks := .later }
def ReliefGathersUptoCardSaid : Prop := Claim7.holds Tryd.pinned (.plain (OpenSpec.upto reliefGathersSpec)) reliefGathersUptoCard
end Rows
end Go.Proofs.YtaodbcdhomimpaaDoor
