/-
  DERIVED. GIVEN WITH THE SEED: THE CARDS: each row of YteemogpcmjekhaaGreatDoorRows.lean that lists a variable, with what it lists TIED to the program's text (the seventh form; the later family's looks); each row that meets fmt, with fmt's text TOLD by the authors' own Lean function (tested against real Go, not proved from fmt's source: count such statements apart). THE CARD IS WHAT COUNTS. Prove the row's statement (the work); the ties are given (YteemogpcmjekhaaGreatDoorTie.lean); close each card by the builder's one call (the guide's Derived/Test/ToyasCard.lean, 'card_holds'). Laid BY PROGRAM, IN A SANDBOX (cutbox-door.mjs). By AI agents, Wed Nov 11 2026. No macro, syntax, notation, axiom, sorry.
-/
import Derived.Test.YteemogpcmjekhaaGreatDoorRows
import GoSem.ClaimSeven
namespace Go.Proofs.YteemogpcmjekhaaGreatDoor
namespace Rows

/-- THE TIED CARD OF 'sewershedlaw10.ReliefSlopes'. -/
def reliefSlopesCard : Claim7 := { stood := { row := reliefSlopesRow, standIns := [], harness := (true, "0d854085f57a9c067dfeac0e0050d78f982e75e795ebc429ce041e240c01a3b0"), looks := false }, kinds := [], alts := [], laidByText := true, laidKinds := [.data, .data, .data], laidTests := true, laidLooks := .later }
def ReliefSlopesCardSaid : Prop := Claim7.holds Tryz.pinned (.plain (OpenSpec.ofChange reliefSlopesSpec)) reliefSlopesCard

/-- THE TIED CARD OF 'sewershedlaw13.LocateLevels'. -/
def locateLevelsCard : Claim7 := { stood := { row := locateLevelsRow, standIns := [], harness := (true, "0d854085f57a9c067dfeac0e0050d78f982e75e795ebc429ce041e240c01a3b0"), looks := false }, kinds := [], alts := [], laidByText := true, laidKinds := [.data, .data, .data], laidTests := true, laidLooks := .later }
def LocateLevelsCardSaid : Prop := Claim7.holds Tryz.pinned (.plain (OpenSpec.ofChange locateLevelsSpec)) locateLevelsCard

/-- THE SECOND FORM's CARD OF 'sewershedlaw10.ReliefSlopes'. -/
def reliefSlopesUptoCard : Claim7 := { stood := { row := reliefSlopesUptoRow, standIns := [], harness := (true, "0d854085f57a9c067dfeac0e0050d78f982e75e795ebc429ce041e240c01a3b0"), looks := false }, kinds := [], alts := [], laidByText := true, laidKinds := [.data, .data, .data], laidTests := true, laidLooks := .later }
def ReliefSlopesUptoCardSaid : Prop := Claim7.holds Tryz.pinned (.plain (OpenSpec.upto reliefSlopesSpec)) reliefSlopesUptoCard

/-- THE SECOND FORM's CARD OF 'sewershedlaw13.LocateLevels'. -/
def locateLevelsUptoCard : Claim7 := { stood := { row := locateLevelsUptoRow, standIns := [], harness := (true, "0d854085f57a9c067dfeac0e0050d78f982e75e795ebc429ce041e240c01a3b0"), looks := false }, kinds := [], alts := [], laidByText := true, laidKinds := [.data, .data, .data], laidTests := true, laidLooks := .later }
def LocateLevelsUptoCardSaid : Prop := Claim7.holds Tryz.pinned (.plain (OpenSpec.upto locateLevelsSpec)) locateLevelsUptoCard
end Rows
end Go.Proofs.YteemogpcmjekhaaGreatDoor
