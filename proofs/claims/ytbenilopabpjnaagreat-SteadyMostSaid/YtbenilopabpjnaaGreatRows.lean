/-
  No cell of these rows narrows 'for every input' (looked for: loops, veiled, ifaces, maps, wideKeys, modest, calm, conditions, laid).
  DERIVED. THE GIVEN ROWS OF THIS SEAT. 7 by the template 'for every input the law returns true; each argument reads behind the call as it read before'; 0 by the template 'total and deterministic' (their statements: YtbenilopabpjnaaGreatTotals.lean).
  GIVEN WITH THE SEED: the statements are not yours to turn. If you find one false, say at which input.
  Laid BY PROGRAM, IN A SANDBOX (cutbox-rows.mjs): the forced cells as the released guide's own fill.sh prints them over the translation eb08cddc243ff0f3… (all of the seat's roots in one cut). By AI agents, Wed Nov 11 2026. No macro, syntax, notation, axiom, sorry.
-/
import Derived.Test.YtbenilopabpjnaaGreatChecked
import GoSem.Claim
import GoSem.ClaimJoined
import GoSem.ClaimMapViews
import Derived.JoinedTies
import Derived.KernelRfl
namespace Go.Proofs.YtbenilopabpjnaaGreat
/- THE CELL 'sum', in the pinned program and in every row, IS THE sha256 OF THE DUMP (.gsa) THAT YtbenilopabpjnaaGreatProg.lean LOADS. Nothing in Lean hashes anything: it is a label: what it is worth is what the hold of that sum in a sandbox is worth. -/
noncomputable def Tryz.pinned : Pinned := { name := "ytbenilopabpjnaagreat", sum := "eb08cddc243ff0f31a691b44c46dab7420553f2bd916404bdf7acbd8e781f5e7", checked := Tryz.checked }
namespace Rows
def none {H : Type} : Left H := { results := [], args := [] }

/-- 'sewershedlaw30.SteadyBalances': WHATEVER THE INPUT: true; the input reads as it did. -/
def steadyBalancesSpec : ChangeSpec := { name := "steadyBalances", fn := fun _ => fun
  | [d1, d2] => { results := [.lit (.bool true)], args := [d1, d2] }
  | _ => none }
def steadyBalancesRow : OpenClaim := { program := "ytbenilopabpjnaagreat", sum := "eb08cddc243ff0f31a691b44c46dab7420553f2bd916404bdf7acbd8e781f5e7", func := "sewershed/sewershedlaw30.SteadyBalances", spec := "steadyBalances", inPlace := ["slices.overlaps[int]"], unfollowed := true, recurses := true, apart := false }
def SteadyBalancesSaid : Prop := steadyBalancesRow.holds Tryz.pinned (OpenSpec.ofChange steadyBalancesSpec)

/-- ITS FALSE NEIGHBOUR: 'it returns false'. Refute it at one input. -/
def steadyBalancesWrong : ChangeSpec := { name := "steadyBalances", fn := fun _ => fun
  | [d1, d2] => { results := [.lit (.bool false)], args := [d1, d2] }
  | _ => none }
def SteadyBalancesWrongFalsely : Prop := steadyBalancesRow.holds Tryz.pinned (OpenSpec.ofChange steadyBalancesWrong)

/-- 'sewershedlaw30.SteadyFlows': WHATEVER THE INPUT: true; the input reads as it did. -/
def steadyFlowsSpec : ChangeSpec := { name := "steadyFlows", fn := fun _ => fun
  | [d1, d2, d3] => { results := [.lit (.bool true)], args := [d1, d2, d3] }
  | _ => none }
def steadyFlowsRow : OpenClaim := { program := "ytbenilopabpjnaagreat", sum := "eb08cddc243ff0f31a691b44c46dab7420553f2bd916404bdf7acbd8e781f5e7", func := "sewershed/sewershedlaw30.SteadyFlows", spec := "steadyFlows", inPlace := ["slices.overlaps[int]"], unfollowed := true, recurses := true, apart := false }
def SteadyFlowsSaid : Prop := steadyFlowsRow.holds Tryz.pinned (OpenSpec.ofChange steadyFlowsSpec)

/-- ITS FALSE NEIGHBOUR: 'it returns false'. Refute it at one input. -/
def steadyFlowsWrong : ChangeSpec := { name := "steadyFlows", fn := fun _ => fun
  | [d1, d2, d3] => { results := [.lit (.bool false)], args := [d1, d2, d3] }
  | _ => none }
def SteadyFlowsWrongFalsely : Prop := steadyFlowsRow.holds Tryz.pinned (OpenSpec.ofChange steadyFlowsWrong)

/-- 'sewershedlaw30.SteadyCarries': WHATEVER THE INPUT: true; the input reads as it did. -/
def steadyCarriesSpec : ChangeSpec := { name := "steadyCarries", fn := fun _ => fun
  | [d1, d2, d3] => { results := [.lit (.bool true)], args := [d1, d2, d3] }
  | _ => none }
def steadyCarriesRow : OpenClaim := { program := "ytbenilopabpjnaagreat", sum := "eb08cddc243ff0f31a691b44c46dab7420553f2bd916404bdf7acbd8e781f5e7", func := "sewershed/sewershedlaw30.SteadyCarries", spec := "steadyCarries", inPlace := ["slices.overlaps[int]", "math/bits.Sub64", "math/bits.Add64"], unfollowed := true, recurses := true, named := ["math/bits.divideError", "math/bits.overflowError"], apart := false }
def SteadyCarriesSaid : Prop := steadyCarriesRow.holds Tryz.pinned (OpenSpec.ofChange steadyCarriesSpec)

/-- ITS FALSE NEIGHBOUR: 'it returns false'. Refute it at one input. -/
def steadyCarriesWrong : ChangeSpec := { name := "steadyCarries", fn := fun _ => fun
  | [d1, d2, d3] => { results := [.lit (.bool false)], args := [d1, d2, d3] }
  | _ => none }
def SteadyCarriesWrongFalsely : Prop := steadyCarriesRow.holds Tryz.pinned (OpenSpec.ofChange steadyCarriesWrong)

/-- 'sewershedlaw30.SteadyOver': WHATEVER THE INPUT: true; the input reads as it did. -/
def steadyOverSpec : ChangeSpec := { name := "steadyOver", fn := fun _ => fun
  | [d1, d2, d3, d4] => { results := [.lit (.bool true)], args := [d1, d2, d3, d4] }
  | _ => none }
def steadyOverRow : OpenClaim := { program := "ytbenilopabpjnaagreat", sum := "eb08cddc243ff0f31a691b44c46dab7420553f2bd916404bdf7acbd8e781f5e7", func := "sewershed/sewershedlaw30.SteadyOver", spec := "steadyOver", inPlace := ["slices.overlaps[int]", "math/bits.Sub64", "math/bits.Add64"], unfollowed := true, recurses := true, named := ["math/bits.divideError", "math/bits.overflowError"], apart := false }
def SteadyOverSaid : Prop := steadyOverRow.holds Tryz.pinned (OpenSpec.ofChange steadyOverSpec)

/-- ITS FALSE NEIGHBOUR: 'it returns false'. Refute it at one input. -/
def steadyOverWrong : ChangeSpec := { name := "steadyOver", fn := fun _ => fun
  | [d1, d2, d3, d4] => { results := [.lit (.bool false)], args := [d1, d2, d3, d4] }
  | _ => none }
def SteadyOverWrongFalsely : Prop := steadyOverRow.holds Tryz.pinned (OpenSpec.ofChange steadyOverWrong)

/-- 'sewershedlaw30.SteadyDepths': WHATEVER THE INPUT: true; the input reads as it did. -/
def steadyDepthsSpec : ChangeSpec := { name := "steadyDepths", fn := fun _ => fun
  | [d1, d2, d3] => { results := [.lit (.bool true)], args := [d1, d2, d3] }
  | _ => none }
def steadyDepthsRow : OpenClaim := { program := "ytbenilopabpjnaagreat", sum := "eb08cddc243ff0f31a691b44c46dab7420553f2bd916404bdf7acbd8e781f5e7", func := "sewershed/sewershedlaw30.SteadyDepths", spec := "steadyDepths", inPlace := ["slices.overlaps[int]", "math/bits.Sub64", "math/bits.Add64"], unfollowed := true, recurses := true, named := ["math/bits.divideError", "math/bits.overflowError"], apart := false }
def SteadyDepthsSaid : Prop := steadyDepthsRow.holds Tryz.pinned (OpenSpec.ofChange steadyDepthsSpec)

/-- ITS FALSE NEIGHBOUR: 'it returns false'. Refute it at one input. -/
def steadyDepthsWrong : ChangeSpec := { name := "steadyDepths", fn := fun _ => fun
  | [d1, d2, d3] => { results := [.lit (.bool false)], args := [d1, d2, d3] }
  | _ => none }
def SteadyDepthsWrongFalsely : Prop := steadyDepthsRow.holds Tryz.pinned (OpenSpec.ofChange steadyDepthsWrong)

/-- 'sewershedlaw30.SteadyInside': WHATEVER THE INPUT: true; the input reads as it did. -/
def steadyInsideSpec : ChangeSpec := { name := "steadyInside", fn := fun _ => fun
  | [d1, d2, d3, d4] => { results := [.lit (.bool true)], args := [d1, d2, d3, d4] }
  | _ => none }
def steadyInsideRow : OpenClaim := { program := "ytbenilopabpjnaagreat", sum := "eb08cddc243ff0f31a691b44c46dab7420553f2bd916404bdf7acbd8e781f5e7", func := "sewershed/sewershedlaw30.SteadyInside", spec := "steadyInside", inPlace := ["slices.overlaps[int]", "math/bits.Sub64", "math/bits.Add64"], unfollowed := true, recurses := true, named := ["math/bits.divideError", "math/bits.overflowError"], apart := false }
def SteadyInsideSaid : Prop := steadyInsideRow.holds Tryz.pinned (OpenSpec.ofChange steadyInsideSpec)

/-- ITS FALSE NEIGHBOUR: 'it returns false'. Refute it at one input. -/
def steadyInsideWrong : ChangeSpec := { name := "steadyInside", fn := fun _ => fun
  | [d1, d2, d3, d4] => { results := [.lit (.bool false)], args := [d1, d2, d3, d4] }
  | _ => none }
def SteadyInsideWrongFalsely : Prop := steadyInsideRow.holds Tryz.pinned (OpenSpec.ofChange steadyInsideWrong)

/-- 'sewershedlaw30.SteadyMost': WHATEVER THE INPUT: true; the input reads as it did. -/
def steadyMostSpec : ChangeSpec := { name := "steadyMost", fn := fun _ => fun
  | [d1, d2, d3] => { results := [.lit (.bool true)], args := [d1, d2, d3] }
  | _ => none }
def steadyMostRow : OpenClaim := { program := "ytbenilopabpjnaagreat", sum := "eb08cddc243ff0f31a691b44c46dab7420553f2bd916404bdf7acbd8e781f5e7", func := "sewershed/sewershedlaw30.SteadyMost", spec := "steadyMost", inPlace := ["slices.overlaps[int]", "math/bits.Sub64", "math/bits.Add64"], unfollowed := true, recurses := true, named := ["math/bits.divideError", "math/bits.overflowError"], apart := false }
def SteadyMostSaid : Prop := steadyMostRow.holds Tryz.pinned (OpenSpec.ofChange steadyMostSpec)

/-- ITS FALSE NEIGHBOUR: 'it returns false'. Refute it at one input. -/
def steadyMostWrong : ChangeSpec := { name := "steadyMost", fn := fun _ => fun
  | [d1, d2, d3] => { results := [.lit (.bool false)], args := [d1, d2, d3] }
  | _ => none }
def SteadyMostWrongFalsely : Prop := steadyMostRow.holds Tryz.pinned (OpenSpec.ofChange steadyMostWrong)

/- THE SECOND FORM. 'bulk': how many values and letters a reading holds, each counted each time it is reached (what is shared counts as often as it is met; a slice's spare places count too). A statement '..UptoSaid' is the law's where the arguments, and the package variables that the reading takes, are together of bulk at most 1048576: NARROWER than '..Said'. Prove '..Said' where nothing that the law and all that it calls make is longer than what came in: it says more and counts as full. Else prove '..UptoSaid'. A law counts once. -/
mutual
def uptoBulk {H : Type} : DataW H → Nat
  | .lit (.string bytes) => bytes.length + 1
  | .lit _ => 1
  | .nil => 1
  | .ptr d => uptoBulk d + 1
  | .slice elems spare => uptoBulkAll elems + uptoBulkAll spare + 1
  | .agg parts => uptoBulkAll parts + 1
  | .iface _ d => uptoBulk d + 1
  | .map entries => uptoBulkEntries entries + 1
  | .held _ => 1
def uptoBulkAll {H : Type} : List (DataW H) → Nat
  | [] => 0
  | d :: r => uptoBulk d + uptoBulkAll r
def uptoBulkEntries {H : Type} : List (Lit × DataW H) → Nat
  | [] => 0
  | x :: r => uptoBulkEntry x + uptoBulkEntries r
def uptoBulkEntry {H : Type} : Lit × DataW H → Nat
  | (.string bytes, d) => bytes.length + uptoBulk d + 1
  | (_, d) => uptoBulk d + 1
 end
def uptoSmall : (H : Type) → List (DataW H) → Bool := fun _ ds => decide (uptoBulkAll ds ≤ 1048576)
def OpenSpec.upto (s : _root_.Go.ChangeSpec) : _root_.Go.OpenSpec := { _root_.Go.OpenSpec.ofChange s with cond := some uptoSmall }

/-- 'sewershedlaw30.SteadyBalances', WHERE WHAT IT READS IS OF BULK AT MOST 1048576: true; the input reads as it did. -/
def steadyBalancesUptoRow : OpenClaim := { program := "ytbenilopabpjnaagreat", sum := "eb08cddc243ff0f31a691b44c46dab7420553f2bd916404bdf7acbd8e781f5e7", func := "sewershed/sewershedlaw30.SteadyBalances", spec := "steadyBalances", inPlace := ["slices.overlaps[int]"], unfollowed := true, recurses := true, apart := false, narrowed := true }
def SteadyBalancesUptoSaid : Prop := steadyBalancesUptoRow.holds Tryz.pinned (OpenSpec.upto steadyBalancesSpec)

/-- 'sewershedlaw30.SteadyFlows', WHERE WHAT IT READS IS OF BULK AT MOST 1048576: true; the input reads as it did. -/
def steadyFlowsUptoRow : OpenClaim := { program := "ytbenilopabpjnaagreat", sum := "eb08cddc243ff0f31a691b44c46dab7420553f2bd916404bdf7acbd8e781f5e7", func := "sewershed/sewershedlaw30.SteadyFlows", spec := "steadyFlows", inPlace := ["slices.overlaps[int]"], unfollowed := true, recurses := true, apart := false, narrowed := true }
def SteadyFlowsUptoSaid : Prop := steadyFlowsUptoRow.holds Tryz.pinned (OpenSpec.upto steadyFlowsSpec)

/-- 'sewershedlaw30.SteadyCarries', WHERE WHAT IT READS IS OF BULK AT MOST 1048576: true; the input reads as it did. -/
def steadyCarriesUptoRow : OpenClaim := { program := "ytbenilopabpjnaagreat", sum := "eb08cddc243ff0f31a691b44c46dab7420553f2bd916404bdf7acbd8e781f5e7", func := "sewershed/sewershedlaw30.SteadyCarries", spec := "steadyCarries", inPlace := ["slices.overlaps[int]", "math/bits.Sub64", "math/bits.Add64"], unfollowed := true, recurses := true, named := ["math/bits.divideError", "math/bits.overflowError"], apart := false, narrowed := true }
def SteadyCarriesUptoSaid : Prop := steadyCarriesUptoRow.holds Tryz.pinned (OpenSpec.upto steadyCarriesSpec)

/-- 'sewershedlaw30.SteadyOver', WHERE WHAT IT READS IS OF BULK AT MOST 1048576: true; the input reads as it did. -/
def steadyOverUptoRow : OpenClaim := { program := "ytbenilopabpjnaagreat", sum := "eb08cddc243ff0f31a691b44c46dab7420553f2bd916404bdf7acbd8e781f5e7", func := "sewershed/sewershedlaw30.SteadyOver", spec := "steadyOver", inPlace := ["slices.overlaps[int]", "math/bits.Sub64", "math/bits.Add64"], unfollowed := true, recurses := true, named := ["math/bits.divideError", "math/bits.overflowError"], apart := false, narrowed := true }
def SteadyOverUptoSaid : Prop := steadyOverUptoRow.holds Tryz.pinned (OpenSpec.upto steadyOverSpec)

/-- 'sewershedlaw30.SteadyDepths', WHERE WHAT IT READS IS OF BULK AT MOST 1048576: true; the input reads as it did. -/
def steadyDepthsUptoRow : OpenClaim := { program := "ytbenilopabpjnaagreat", sum := "eb08cddc243ff0f31a691b44c46dab7420553f2bd916404bdf7acbd8e781f5e7", func := "sewershed/sewershedlaw30.SteadyDepths", spec := "steadyDepths", inPlace := ["slices.overlaps[int]", "math/bits.Sub64", "math/bits.Add64"], unfollowed := true, recurses := true, named := ["math/bits.divideError", "math/bits.overflowError"], apart := false, narrowed := true }
def SteadyDepthsUptoSaid : Prop := steadyDepthsUptoRow.holds Tryz.pinned (OpenSpec.upto steadyDepthsSpec)

/-- 'sewershedlaw30.SteadyInside', WHERE WHAT IT READS IS OF BULK AT MOST 1048576: true; the input reads as it did. -/
def steadyInsideUptoRow : OpenClaim := { program := "ytbenilopabpjnaagreat", sum := "eb08cddc243ff0f31a691b44c46dab7420553f2bd916404bdf7acbd8e781f5e7", func := "sewershed/sewershedlaw30.SteadyInside", spec := "steadyInside", inPlace := ["slices.overlaps[int]", "math/bits.Sub64", "math/bits.Add64"], unfollowed := true, recurses := true, named := ["math/bits.divideError", "math/bits.overflowError"], apart := false, narrowed := true }
def SteadyInsideUptoSaid : Prop := steadyInsideUptoRow.holds Tryz.pinned (OpenSpec.upto steadyInsideSpec)

/-- 'sewershedlaw30.SteadyMost', WHERE WHAT IT READS IS OF BULK AT MOST 1048576: true; the input reads as it did. -/
def steadyMostUptoRow : OpenClaim := { program := "ytbenilopabpjnaagreat", sum := "eb08cddc243ff0f31a691b44c46dab7420553f2bd916404bdf7acbd8e781f5e7", func := "sewershed/sewershedlaw30.SteadyMost", spec := "steadyMost", inPlace := ["slices.overlaps[int]", "math/bits.Sub64", "math/bits.Add64"], unfollowed := true, recurses := true, named := ["math/bits.divideError", "math/bits.overflowError"], apart := false, narrowed := true }
def SteadyMostUptoSaid : Prop := steadyMostUptoRow.holds Tryz.pinned (OpenSpec.upto steadyMostSpec)

end Rows
end Go.Proofs.YtbenilopabpjnaaGreat
