/-
  DERIVED. GIVEN WITH THE SEED: THE CARDS: each row of YtelkdhkalifeiaaDoorRows.lean that lists a variable, with what it lists TIED to the program's text (the seventh form; the later family's looks); each row that meets fmt, with fmt's text TOLD by the authors' own Lean function (tested against real Go, not proved from fmt's source: count such statements apart). THE CARD IS WHAT COUNTS. Prove the row's statement (the work); the ties are given (YtelkdhkalifeiaaDoorTie.lean); close each card by the builder's one call (the guide's Derived/Test/ToyasCard.lean, 'card_holds'). Laid BY PROGRAM, IN A SANDBOX (cutbox-door.mjs). By AI agents, Wed Nov 11 2026. No macro, syntax, notation, axiom, sorry.
-/
import Derived.Test.YtelkdhkalifeiaaDoorRows
import GoSem.ClaimSeven
namespace Go.Proofs.YtelkdhkalifeiaaDoor
namespace Rows

/-- THE TIED CARD OF 'sewershedlaw11.SinksFloods'. -/
def sinksFloodsCard : Claim7 := { stood := { row := sinksFloodsRow, standIns := [], harness := (true, "e8d51d2dcd2848fef7e45474a4970ac78bb5355e4ad5758e4cba183e3cb88778"), looks := true }, kinds := [], alts := [], laidByText := true, laidKinds := [.data, .data, .data], laidTests := true, laidLooks := .later }
def SinksFloodsCardSaid : Prop := Claim7.holds Tryd.pinned (.plain (OpenSpec.ofChange sinksFloodsSpec)) sinksFloodsCard

/-- THE TIED CARD OF 'sewershedlaw11.SinksLeast'. -/
def sinksLeastCard : Claim7 := { stood := { row := sinksLeastRow, standIns := [], harness := (true, "e8d51d2dcd2848fef7e45474a4970ac78bb5355e4ad5758e4cba183e3cb88778"), looks := true }, kinds := [], alts := [], laidByText := true, laidKinds := [.data, .data, .data], laidTests := true, laidLooks := .later }
def SinksLeastCardSaid : Prop := Claim7.holds Tryd.pinned (.plain (OpenSpec.ofChange sinksLeastSpec)) sinksLeastCard

/-- THE TIED CARD OF 'sewershedlaw11.SinksMoved'. -/
def sinksMovedCard : Claim7 := { stood := { row := sinksMovedRow, standIns := [], harness := (true, "e8d51d2dcd2848fef7e45474a4970ac78bb5355e4ad5758e4cba183e3cb88778"), looks := true }, kinds := [], alts := [], laidByText := true, laidKinds := [.data, .data, .data], laidTests := true, laidLooks := .later }
def SinksMovedCardSaid : Prop := Claim7.holds Tryd.pinned (.plain (OpenSpec.ofChange sinksMovedSpec)) sinksMovedCard

/-- THE TIED CARD OF 'sewershedlaw11.SinksLakes'. -/
def sinksLakesCard : Claim7 := { stood := { row := sinksLakesRow, standIns := [], harness := (true, "e8d51d2dcd2848fef7e45474a4970ac78bb5355e4ad5758e4cba183e3cb88778"), looks := true }, kinds := [], alts := [], laidByText := true, laidKinds := [.data, .data, .data], laidTests := true, laidLooks := .later }
def SinksLakesCardSaid : Prop := Claim7.holds Tryd.pinned (.plain (OpenSpec.ofChange sinksLakesSpec)) sinksLakesCard

/-- THE TIED CARD OF 'sewershedlaw11.SinksHeights'. -/
def sinksHeightsCard : Claim7 := { stood := { row := sinksHeightsRow, standIns := [], harness := (true, "e8d51d2dcd2848fef7e45474a4970ac78bb5355e4ad5758e4cba183e3cb88778"), looks := true }, kinds := [], alts := [], laidByText := true, laidKinds := [.data, .data, .data], laidTests := true, laidLooks := .later }
def SinksHeightsCardSaid : Prop := Claim7.holds Tryd.pinned (.plain (OpenSpec.ofChange sinksHeightsSpec)) sinksHeightsCard

/-- THE SECOND FORM's CARD OF 'sewershedlaw11.SinksFloods'. -/
def sinksFloodsUptoCard : Claim7 := { stood := { row := sinksFloodsUptoRow, standIns := [], harness := (true, "e8d51d2dcd2848fef7e45474a4970ac78bb5355e4ad5758e4cba183e3cb88778"), looks := true }, kinds := [], alts := [], laidByText := true, laidKinds := [.data, .data, .data], laidTests := true, laidLooks := .later }
def SinksFloodsUptoCardSaid : Prop := Claim7.holds Tryd.pinned (.plain (OpenSpec.upto sinksFloodsSpec)) sinksFloodsUptoCard

/-- THE SECOND FORM's CARD OF 'sewershedlaw11.SinksLeast'. -/
def sinksLeastUptoCard : Claim7 := { stood := { row := sinksLeastUptoRow, standIns := [], harness := (true, "e8d51d2dcd2848fef7e45474a4970ac78bb5355e4ad5758e4cba183e3cb88778"), looks := true }, kinds := [], alts := [], laidByText := true, laidKinds := [.data, .data, .data], laidTests := true, laidLooks := .later }
def SinksLeastUptoCardSaid : Prop := Claim7.holds Tryd.pinned (.plain (OpenSpec.upto sinksLeastSpec)) sinksLeastUptoCard

/-- THE SECOND FORM's CARD OF 'sewershedlaw11.SinksMoved'. -/
def sinksMovedUptoCard : Claim7 := { stood := { row := sinksMovedUptoRow, standIns := [], harness := (true, "e8d51d2dcd2848fef7e45474a4970ac78bb5355e4ad5758e4cba183e3cb88778"), looks := true }, kinds := [], alts := [], laidByText := true, laidKinds := [.data, .data, .data], laidTests := true, laidLooks := .later }
def SinksMovedUptoCardSaid : Prop := Claim7.holds Tryd.pinned (.plain (OpenSpec.upto sinksMovedSpec)) sinksMovedUptoCard

/-- THE SECOND FORM's CARD OF 'sewershedlaw11.SinksLakes'. -/
def sinksLakesUptoCard : Claim7 := { stood := { row := sinksLakesUptoRow, standIns := [], harness := (true, "e8d51d2dcd2848fef7e45474a4970ac78bb5355e4ad5758e4cba183e3cb88778"), looks := true }, kinds := [], alts := [], laidByText := true, laidKinds := [.data, .data, .data], laidTests := true, laidLooks := .later }
def SinksLakesUptoCardSaid : Prop := Claim7.holds Tryd.pinned (.plain (OpenSpec.upto sinksLakesSpec)) sinksLakesUptoCard

/-- THE SECOND FORM's CARD OF 'sewershedlaw11.SinksHeights'. -/
def sinksHeightsUptoCard : Claim7 := { stood := { row := sinksHeightsUptoRow, standIns := [], harness := (true, "e8d51d2dcd2848fef7e45474a4970ac78bb5355e4ad5758e4cba183e3cb88778"), looks := true }, kinds := [], alts := [], laidByText := true, laidKinds := [.data, .data, .data], laidTests := true, laidLooks := .later }
def SinksHeightsUptoCardSaid : Prop := Claim7.holds Tryd.pinned (.plain (OpenSpec.upto sinksHeightsSpec)) sinksHeightsUptoCard
end Rows
end Go.Proofs.YtelkdhkalifeiaaDoor
