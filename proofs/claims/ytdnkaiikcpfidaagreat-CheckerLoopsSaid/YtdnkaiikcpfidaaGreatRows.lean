/-
  No cell of these rows narrows 'for every input' (looked for: loops, veiled, ifaces, maps, wideKeys, modest, calm, conditions, laid).
  DERIVED. THE GIVEN ROWS OF THIS SEAT. 5 by the template 'for every input the law returns true; each argument reads behind the call as it read before'; 0 by the template 'total and deterministic' (their statements: YtdnkaiikcpfidaaGreatTotals.lean).
  GIVEN WITH THE SEED: the statements are not yours to turn. If you find one false, say at which input.
  Laid BY PROGRAM, IN A SANDBOX (cutbox-rows.mjs): the forced cells as the released guide's own fill.sh prints them over the translation 172f650f5ff16f92… (all of the seat's roots in one cut). By AI agents, Wed Nov 11 2026. No macro, syntax, notation, axiom, sorry.
-/
import Derived.Test.YtdnkaiikcpfidaaGreatChecked
import GoSem.Claim
import GoSem.ClaimJoined
import GoSem.ClaimMapViews
import Derived.JoinedTies
import Derived.KernelRfl
namespace Go.Proofs.YtdnkaiikcpfidaaGreat
/- THE CELL 'sum', in the pinned program and in every row, IS THE sha256 OF THE DUMP (.gsa) THAT YtdnkaiikcpfidaaGreatProg.lean LOADS. Nothing in Lean hashes anything: it is a label: what it is worth is what the hold of that sum in a sandbox is worth. -/
noncomputable def Tryz.pinned : Pinned := { name := "ytdnkaiikcpfidaagreat", sum := "172f650f5ff16f922492998e9ae40985b93729d100c2c061a4fff5612f7532d0", checked := Tryz.checked }
namespace Rows
def none {H : Type} : Left H := { results := [], args := [] }

/-- 'sewershedlaw27.CheckerFindings': WHATEVER THE INPUT: true; the input reads as it did. -/
def checkerFindingsSpec : ChangeSpec := { name := "checkerFindings", fn := fun _ => fun
  | [d1, d2] => { results := [.lit (.bool true)], args := [d1, d2] }
  | _ => none }
def checkerFindingsRow : OpenClaim := { program := "ytdnkaiikcpfidaagreat", sum := "172f650f5ff16f922492998e9ae40985b93729d100c2c061a4fff5612f7532d0", func := "sewershed/sewershedlaw27.CheckerFindings", spec := "checkerFindings", inPlace := ["internal/bytealg.abigen_runtime_cmpstring"], unfollowed := true, recurses := true, apart := false }
def CheckerFindingsSaid : Prop := checkerFindingsRow.holds Tryz.pinned (OpenSpec.ofChange checkerFindingsSpec)

/-- ITS FALSE NEIGHBOUR: 'it returns false'. Refute it at one input. -/
def checkerFindingsWrong : ChangeSpec := { name := "checkerFindings", fn := fun _ => fun
  | [d1, d2] => { results := [.lit (.bool false)], args := [d1, d2] }
  | _ => none }
def CheckerFindingsWrongFalsely : Prop := checkerFindingsRow.holds Tryz.pinned (OpenSpec.ofChange checkerFindingsWrong)

/-- 'sewershedlaw27.CheckerLess': WHATEVER THE INPUT: true; the input reads as it did. -/
def checkerLessSpec : ChangeSpec := { name := "checkerLess", fn := fun _ => fun
  | [d1, d2, d3] => { results := [.lit (.bool true)], args := [d1, d2, d3] }
  | _ => none }
def checkerLessRow : OpenClaim := { program := "ytdnkaiikcpfidaagreat", sum := "172f650f5ff16f922492998e9ae40985b93729d100c2c061a4fff5612f7532d0", func := "sewershed/sewershedlaw27.CheckerLess", spec := "checkerLess", inPlace := ["internal/bytealg.abigen_runtime_cmpstring"], unfollowed := true, recurses := true, apart := false }
def CheckerLessSaid : Prop := checkerLessRow.holds Tryz.pinned (OpenSpec.ofChange checkerLessSpec)

/-- ITS FALSE NEIGHBOUR: 'it returns false'. Refute it at one input. -/
def checkerLessWrong : ChangeSpec := { name := "checkerLess", fn := fun _ => fun
  | [d1, d2, d3] => { results := [.lit (.bool false)], args := [d1, d2, d3] }
  | _ => none }
def CheckerLessWrongFalsely : Prop := checkerLessRow.holds Tryz.pinned (OpenSpec.ofChange checkerLessWrong)

/-- 'sewershedlaw27.CheckerNames': WHATEVER THE INPUT: true; the input reads as it did. -/
def checkerNamesSpec : ChangeSpec := { name := "checkerNames", fn := fun _ => fun
  | [d] => { results := [.lit (.bool true)], args := [d] }
  | _ => none }
def checkerNamesRow : OpenClaim := { program := "ytdnkaiikcpfidaagreat", sum := "172f650f5ff16f922492998e9ae40985b93729d100c2c061a4fff5612f7532d0", func := "sewershed/sewershedlaw27.CheckerNames", spec := "checkerNames", inPlace := ["internal/bytealg.abigen_runtime_cmpstring"], unfollowed := true, recurses := true, apart := false }
def CheckerNamesSaid : Prop := checkerNamesRow.holds Tryz.pinned (OpenSpec.ofChange checkerNamesSpec)

/-- ITS FALSE NEIGHBOUR: 'it returns false'. Refute it at one input. -/
def checkerNamesWrong : ChangeSpec := { name := "checkerNames", fn := fun _ => fun
  | [d] => { results := [.lit (.bool false)], args := [d] }
  | _ => none }
def CheckerNamesWrongFalsely : Prop := checkerNamesRow.holds Tryz.pinned (OpenSpec.ofChange checkerNamesWrong)

/-- 'sewershedlaw27.CheckerReaches': WHATEVER THE INPUT: true; the input reads as it did. -/
def checkerReachesSpec : ChangeSpec := { name := "checkerReaches", fn := fun _ => fun
  | [d1, d2] => { results := [.lit (.bool true)], args := [d1, d2] }
  | _ => none }
def checkerReachesRow : OpenClaim := { program := "ytdnkaiikcpfidaagreat", sum := "172f650f5ff16f922492998e9ae40985b93729d100c2c061a4fff5612f7532d0", func := "sewershed/sewershedlaw27.CheckerReaches", spec := "checkerReaches", inPlace := ["internal/bytealg.abigen_runtime_cmpstring", "slices.overlaps[int]"], unfollowed := true, recurses := true, apart := false }
def CheckerReachesSaid : Prop := checkerReachesRow.holds Tryz.pinned (OpenSpec.ofChange checkerReachesSpec)

/-- ITS FALSE NEIGHBOUR: 'it returns false'. Refute it at one input. -/
def checkerReachesWrong : ChangeSpec := { name := "checkerReaches", fn := fun _ => fun
  | [d1, d2] => { results := [.lit (.bool false)], args := [d1, d2] }
  | _ => none }
def CheckerReachesWrongFalsely : Prop := checkerReachesRow.holds Tryz.pinned (OpenSpec.ofChange checkerReachesWrong)

/-- 'sewershedlaw27.CheckerLoops': WHATEVER THE INPUT: true; the input reads as it did. -/
def checkerLoopsSpec : ChangeSpec := { name := "checkerLoops", fn := fun _ => fun
  | [d1, d2] => { results := [.lit (.bool true)], args := [d1, d2] }
  | _ => none }
def checkerLoopsRow : OpenClaim := { program := "ytdnkaiikcpfidaagreat", sum := "172f650f5ff16f922492998e9ae40985b93729d100c2c061a4fff5612f7532d0", func := "sewershed/sewershedlaw27.CheckerLoops", spec := "checkerLoops", inPlace := ["internal/bytealg.abigen_runtime_cmpstring", "slices.overlaps[int]"], unfollowed := true, recurses := true, apart := false }
def CheckerLoopsSaid : Prop := checkerLoopsRow.holds Tryz.pinned (OpenSpec.ofChange checkerLoopsSpec)

/-- ITS FALSE NEIGHBOUR: 'it returns false'. Refute it at one input. -/
def checkerLoopsWrong : ChangeSpec := { name := "checkerLoops", fn := fun _ => fun
  | [d1, d2] => { results := [.lit (.bool false)], args := [d1, d2] }
  | _ => none }
def CheckerLoopsWrongFalsely : Prop := checkerLoopsRow.holds Tryz.pinned (OpenSpec.ofChange checkerLoopsWrong)

/- THE SECOND FORM. 'bulk': how many values and letters a reading holds, each counted each time it is reached (what is shared counts as often as it is met; a slice's spare places count too). A statement '..UptoSaid' is the law's where the arguments, and the package variables that the reading takes, are together of bulk at most 1048576: NARROWER than '..Said'. Prove '..Said' where nothing that the law and all that it calls make is longer than what came in: it says more and counts as full. Else prove '..UptoSaid'. A law counts once. -/
mutual
def uptoBulk {H : Type} : DataW H → Nat
  | .lit (.string bytes) => bytes.length + 1
  | .lit _ => 1
  | .nil => 1
  | .ptr d => uptoBulk d + 1
  | .slice elems spare => uptoBulkAll elems + uptoBulkAll spare + 1
  | .agg parts => uptoBulkAll parts + 1
  | .iface _ d => uptoBulk d + 1
  | .map entries => uptoBulkEntries entries + 1
  | .held _ => 1
def uptoBulkAll {H : Type} : List (DataW H) → Nat
  | [] => 0
  | d :: r => uptoBulk d + uptoBulkAll r
def uptoBulkEntries {H : Type} : List (Lit × DataW H) → Nat
  | [] => 0
  | x :: r => uptoBulkEntry x + uptoBulkEntries r
def uptoBulkEntry {H : Type} : Lit × DataW H → Nat
  | (.string bytes, d) => bytes.length + uptoBulk d + 1
  | (_, d) => uptoBulk d + 1
 end
def uptoSmall : (H : Type) → List (DataW H) → Bool := fun _ ds => decide (uptoBulkAll ds ≤ 1048576)
def OpenSpec.upto (s : _root_.Go.ChangeSpec) : _root_.Go.OpenSpec := { _root_.Go.OpenSpec.ofChange s with cond := some uptoSmall }

/-- 'sewershedlaw27.CheckerFindings', WHERE WHAT IT READS IS OF BULK AT MOST 1048576: true; the input reads as it did. -/
def checkerFindingsUptoRow : OpenClaim := { program := "ytdnkaiikcpfidaagreat", sum := "172f650f5ff16f922492998e9ae40985b93729d100c2c061a4fff5612f7532d0", func := "sewershed/sewershedlaw27.CheckerFindings", spec := "checkerFindings", inPlace := ["internal/bytealg.abigen_runtime_cmpstring"], unfollowed := true, recurses := true, apart := false, narrowed := true }
def CheckerFindingsUptoSaid : Prop := checkerFindingsUptoRow.holds Tryz.pinned (OpenSpec.upto checkerFindingsSpec)

/-- 'sewershedlaw27.CheckerLess', WHERE WHAT IT READS IS OF BULK AT MOST 1048576: true; the input reads as it did. -/
def checkerLessUptoRow : OpenClaim := { program := "ytdnkaiikcpfidaagreat", sum := "172f650f5ff16f922492998e9ae40985b93729d100c2c061a4fff5612f7532d0", func := "sewershed/sewershedlaw27.CheckerLess", spec := "checkerLess", inPlace := ["internal/bytealg.abigen_runtime_cmpstring"], unfollowed := true, recurses := true, apart := false, narrowed := true }
def CheckerLessUptoSaid : Prop := checkerLessUptoRow.holds Tryz.pinned (OpenSpec.upto checkerLessSpec)

/-- 'sewershedlaw27.CheckerNames', WHERE WHAT IT READS IS OF BULK AT MOST 1048576: true; the input reads as it did. -/
def checkerNamesUptoRow : OpenClaim := { program := "ytdnkaiikcpfidaagreat", sum := "172f650f5ff16f922492998e9ae40985b93729d100c2c061a4fff5612f7532d0", func := "sewershed/sewershedlaw27.CheckerNames", spec := "checkerNames", inPlace := ["internal/bytealg.abigen_runtime_cmpstring"], unfollowed := true, recurses := true, apart := false, narrowed := true }
def CheckerNamesUptoSaid : Prop := checkerNamesUptoRow.holds Tryz.pinned (OpenSpec.upto checkerNamesSpec)

/-- 'sewershedlaw27.CheckerReaches', WHERE WHAT IT READS IS OF BULK AT MOST 1048576: true; the input reads as it did. -/
def checkerReachesUptoRow : OpenClaim := { program := "ytdnkaiikcpfidaagreat", sum := "172f650f5ff16f922492998e9ae40985b93729d100c2c061a4fff5612f7532d0", func := "sewershed/sewershedlaw27.CheckerReaches", spec := "checkerReaches", inPlace := ["internal/bytealg.abigen_runtime_cmpstring", "slices.overlaps[int]"], unfollowed := true, recurses := true, apart := false, narrowed := true }
def CheckerReachesUptoSaid : Prop := checkerReachesUptoRow.holds Tryz.pinned (OpenSpec.upto checkerReachesSpec)

/-- 'sewershedlaw27.CheckerLoops', WHERE WHAT IT READS IS OF BULK AT MOST 1048576: true; the input reads as it did. -/
def checkerLoopsUptoRow : OpenClaim := { program := "ytdnkaiikcpfidaagreat", sum := "172f650f5ff16f922492998e9ae40985b93729d100c2c061a4fff5612f7532d0", func := "sewershed/sewershedlaw27.CheckerLoops", spec := "checkerLoops", inPlace := ["internal/bytealg.abigen_runtime_cmpstring", "slices.overlaps[int]"], unfollowed := true, recurses := true, apart := false, narrowed := true }
def CheckerLoopsUptoSaid : Prop := checkerLoopsUptoRow.holds Tryz.pinned (OpenSpec.upto checkerLoopsSpec)

end Rows
end Go.Proofs.YtdnkaiikcpfidaaGreat
