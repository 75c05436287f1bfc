/-
  NARROWER THAN 'FOR EVERY INPUT', by the rows' own cells (each row's printed sentence says how): TransectPoints: laid · TransectFaces: laid · TransectBack: laid · TransectCovers: laid · TransectPasses: laid · TransectLevels: laid · TransectDeeper: laid · TransectRises: laid.
  DERIVED. THE GIVEN ROWS OF THIS SEAT. 8 by the template 'for every input the law returns true; each argument reads behind the call as it read before'; 0 by the template 'total and deterministic' (their statements: YteaonmajblajnaaGreatDoorTotals.lean).
  GIVEN WITH THE SEED: the statements are not yours to turn. If you find one false, say at which input.
  Laid BY PROGRAM, IN A SANDBOX (cutbox-rows.mjs): the forced cells as the released guide's own fill.sh prints them over the translation e20c99cb6c5f3920… (all of the seat's roots in one cut). By AI agents, Wed Nov 11 2026. No macro, syntax, notation, axiom, sorry.
-/
import Derived.Test.YteaonmajblajnaaGreatDoorChecked
import GoSem.Claim
import GoSem.ClaimJoined
import GoSem.ClaimMapViews
import Derived.JoinedTies
import Derived.KernelRfl
namespace Go.Proofs.YteaonmajblajnaaGreatDoor
/- THE CELL 'sum', in the pinned program and in every row, IS THE sha256 OF THE DUMP (.gsa) THAT YteaonmajblajnaaGreatDoorProg.lean LOADS. Nothing in Lean hashes anything: it is a label: what it is worth is what the hold of that sum in a sandbox is worth. -/
noncomputable def Tryz.pinned : Pinned := { name := "yteaonmajblajnaagreatdoor", sum := "e20c99cb6c5f39202e45a8180df524ea742eb1db36e9eb49929558df0cdf034b", checked := Tryz.checked }
namespace Rows
def none {H : Type} : Left H := { results := [], args := [] }

/- WHAT THE LISTED PACKAGE-LEVEL VARIABLES READ AS WHEN THE CALL BEGINS. Each datum BY PROGRAM (the guide's laid-datum.mjs) off the statement by which the dump's own 'gosem.cut.vars' lays the variable. In a bare row this is a premise. The card (YteaonmajblajnaaGreatDoorCards.lean) ties it to the program's text. -/
def laid_math_bits_deBruijn32tab {H : Type} : DataW H := .agg [.lit (.int .u8 0), .lit (.int .u8 1), .lit (.int .u8 28), .lit (.int .u8 2), .lit (.int .u8 29), .lit (.int .u8 14), .lit (.int .u8 24), .lit (.int .u8 3), .lit (.int .u8 30), .lit (.int .u8 22), .lit (.int .u8 20), .lit (.int .u8 15), .lit (.int .u8 25), .lit (.int .u8 17), .lit (.int .u8 4), .lit (.int .u8 8), .lit (.int .u8 31), .lit (.int .u8 27), .lit (.int .u8 13), .lit (.int .u8 23), .lit (.int .u8 21), .lit (.int .u8 19), .lit (.int .u8 16), .lit (.int .u8 7), .lit (.int .u8 26), .lit (.int .u8 12), .lit (.int .u8 18), .lit (.int .u8 6), .lit (.int .u8 11), .lit (.int .u8 5), .lit (.int .u8 10), .lit (.int .u8 9)]
def laid_math_bits_deBruijn64tab {H : Type} : DataW H := .agg [.lit (.int .u8 0), .lit (.int .u8 1), .lit (.int .u8 56), .lit (.int .u8 2), .lit (.int .u8 57), .lit (.int .u8 49), .lit (.int .u8 28), .lit (.int .u8 3), .lit (.int .u8 61), .lit (.int .u8 58), .lit (.int .u8 42), .lit (.int .u8 50), .lit (.int .u8 38), .lit (.int .u8 29), .lit (.int .u8 17), .lit (.int .u8 4), .lit (.int .u8 62), .lit (.int .u8 47), .lit (.int .u8 59), .lit (.int .u8 36), .lit (.int .u8 45), .lit (.int .u8 43), .lit (.int .u8 51), .lit (.int .u8 22), .lit (.int .u8 53), .lit (.int .u8 39), .lit (.int .u8 33), .lit (.int .u8 30), .lit (.int .u8 24), .lit (.int .u8 18), .lit (.int .u8 12), .lit (.int .u8 5), .lit (.int .u8 63), .lit (.int .u8 55), .lit (.int .u8 48), .lit (.int .u8 27), .lit (.int .u8 60), .lit (.int .u8 41), .lit (.int .u8 37), .lit (.int .u8 16), .lit (.int .u8 46), .lit (.int .u8 35), .lit (.int .u8 44), .lit (.int .u8 21), .lit (.int .u8 52), .lit (.int .u8 32), .lit (.int .u8 23), .lit (.int .u8 11), .lit (.int .u8 54), .lit (.int .u8 26), .lit (.int .u8 40), .lit (.int .u8 15), .lit (.int .u8 34), .lit (.int .u8 20), .lit (.int .u8 31), .lit (.int .u8 10), .lit (.int .u8 25), .lit (.int .u8 14), .lit (.int .u8 19), .lit (.int .u8 9), .lit (.int .u8 13), .lit (.int .u8 8), .lit (.int .u8 7), .lit (.int .u8 6)]
def laid_internal_strconv_uint64pow10 {H : Type} : DataW H := .agg [.lit (.int .u64 1), .lit (.int .u64 10), .lit (.int .u64 100), .lit (.int .u64 1000), .lit (.int .u64 10000), .lit (.int .u64 100000), .lit (.int .u64 1000000), .lit (.int .u64 10000000), .lit (.int .u64 100000000), .lit (.int .u64 1000000000), .lit (.int .u64 10000000000), .lit (.int .u64 100000000000), .lit (.int .u64 1000000000000), .lit (.int .u64 10000000000000), .lit (.int .u64 100000000000000), .lit (.int .u64 1000000000000000), .lit (.int .u64 10000000000000000), .lit (.int .u64 100000000000000000), .lit (.int .u64 1000000000000000000), .lit (.int .u64 10000000000000000000)]

/-- 'sewershedlaw14.TransectPoints': WHATEVER THE INPUT: true; the input reads as it did. -/
def transectPointsSpec : ChangeSpec := { name := "transectPoints", fn := fun _ => fun
  | [d1, d2, d3] => { results := [.lit (.bool true)], args := [d1, d2, d3] }
  | _ => none }
def transectPointsRow : OpenClaim := { program := "yteaonmajblajnaagreatdoor", sum := "e20c99cb6c5f39202e45a8180df524ea742eb1db36e9eb49929558df0cdf034b", func := "sewershed/sewershedlaw14.TransectPoints", spec := "transectPoints", inPlace := ["math/bits.Sub64", "math/bits.Add64"], unfollowed := true, recurses := true, named := ["internal/strconv.uint64pow10", "math/bits.deBruijn32tab", "math/bits.deBruijn64tab", "math/bits.divideError", "math/bits.overflowError"], plainKeys := false, apart := false, laid := [("math/bits.deBruijn32tab", laid_math_bits_deBruijn32tab), ("math/bits.deBruijn64tab", laid_math_bits_deBruijn64tab), ("internal/strconv.uint64pow10", laid_internal_strconv_uint64pow10)] }
def TransectPointsSaid : Prop := transectPointsRow.holds Tryz.pinned (OpenSpec.ofChange transectPointsSpec)

/-- ITS FALSE NEIGHBOUR: 'it returns false'. Refute it at one input. -/
def transectPointsWrong : ChangeSpec := { name := "transectPoints", fn := fun _ => fun
  | [d1, d2, d3] => { results := [.lit (.bool false)], args := [d1, d2, d3] }
  | _ => none }
def TransectPointsWrongFalsely : Prop := transectPointsRow.holds Tryz.pinned (OpenSpec.ofChange transectPointsWrong)

/-- 'sewershedlaw14.TransectFaces': WHATEVER THE INPUT: true; the input reads as it did. -/
def transectFacesSpec : ChangeSpec := { name := "transectFaces", fn := fun _ => fun
  | [d1, d2, d3] => { results := [.lit (.bool true)], args := [d1, d2, d3] }
  | _ => none }
def transectFacesRow : OpenClaim := { program := "yteaonmajblajnaagreatdoor", sum := "e20c99cb6c5f39202e45a8180df524ea742eb1db36e9eb49929558df0cdf034b", func := "sewershed/sewershedlaw14.TransectFaces", spec := "transectFaces", inPlace := ["math/bits.Sub64", "math/bits.Add64"], unfollowed := true, recurses := true, named := ["internal/strconv.uint64pow10", "math/bits.deBruijn32tab", "math/bits.deBruijn64tab", "math/bits.divideError", "math/bits.overflowError"], plainKeys := false, apart := false, laid := [("math/bits.deBruijn32tab", laid_math_bits_deBruijn32tab), ("math/bits.deBruijn64tab", laid_math_bits_deBruijn64tab), ("internal/strconv.uint64pow10", laid_internal_strconv_uint64pow10)] }
def TransectFacesSaid : Prop := transectFacesRow.holds Tryz.pinned (OpenSpec.ofChange transectFacesSpec)

/-- ITS FALSE NEIGHBOUR: 'it returns false'. Refute it at one input. -/
def transectFacesWrong : ChangeSpec := { name := "transectFaces", fn := fun _ => fun
  | [d1, d2, d3] => { results := [.lit (.bool false)], args := [d1, d2, d3] }
  | _ => none }
def TransectFacesWrongFalsely : Prop := transectFacesRow.holds Tryz.pinned (OpenSpec.ofChange transectFacesWrong)

/-- 'sewershedlaw14.TransectBack': WHATEVER THE INPUT: true; the input reads as it did. -/
def transectBackSpec : ChangeSpec := { name := "transectBack", fn := fun _ => fun
  | [d1, d2, d3] => { results := [.lit (.bool true)], args := [d1, d2, d3] }
  | _ => none }
def transectBackRow : OpenClaim := { program := "yteaonmajblajnaagreatdoor", sum := "e20c99cb6c5f39202e45a8180df524ea742eb1db36e9eb49929558df0cdf034b", func := "sewershed/sewershedlaw14.TransectBack", spec := "transectBack", inPlace := ["math/bits.Sub64", "math/bits.Add64"], unfollowed := true, recurses := true, named := ["internal/strconv.uint64pow10", "math/bits.deBruijn32tab", "math/bits.deBruijn64tab", "math/bits.divideError", "math/bits.overflowError"], plainKeys := false, apart := false, laid := [("math/bits.deBruijn32tab", laid_math_bits_deBruijn32tab), ("math/bits.deBruijn64tab", laid_math_bits_deBruijn64tab), ("internal/strconv.uint64pow10", laid_internal_strconv_uint64pow10)] }
def TransectBackSaid : Prop := transectBackRow.holds Tryz.pinned (OpenSpec.ofChange transectBackSpec)

/-- ITS FALSE NEIGHBOUR: 'it returns false'. Refute it at one input. -/
def transectBackWrong : ChangeSpec := { name := "transectBack", fn := fun _ => fun
  | [d1, d2, d3] => { results := [.lit (.bool false)], args := [d1, d2, d3] }
  | _ => none }
def TransectBackWrongFalsely : Prop := transectBackRow.holds Tryz.pinned (OpenSpec.ofChange transectBackWrong)

/-- 'sewershedlaw14.TransectCovers': WHATEVER THE INPUT: true; the input reads as it did. -/
def transectCoversSpec : ChangeSpec := { name := "transectCovers", fn := fun _ => fun
  | [d1, d2, d3, d4, d5, d6, d7] => { results := [.lit (.bool true)], args := [d1, d2, d3, d4, d5, d6, d7] }
  | _ => none }
def transectCoversRow : OpenClaim := { program := "yteaonmajblajnaagreatdoor", sum := "e20c99cb6c5f39202e45a8180df524ea742eb1db36e9eb49929558df0cdf034b", func := "sewershed/sewershedlaw14.TransectCovers", spec := "transectCovers", inPlace := ["math/bits.Sub64", "math/bits.Add64"], unfollowed := true, recurses := true, named := ["internal/strconv.uint64pow10", "math/bits.deBruijn32tab", "math/bits.deBruijn64tab", "math/bits.divideError", "math/bits.overflowError"], plainKeys := false, apart := false, laid := [("math/bits.deBruijn32tab", laid_math_bits_deBruijn32tab), ("math/bits.deBruijn64tab", laid_math_bits_deBruijn64tab), ("internal/strconv.uint64pow10", laid_internal_strconv_uint64pow10)] }
def TransectCoversSaid : Prop := transectCoversRow.holds Tryz.pinned (OpenSpec.ofChange transectCoversSpec)

/-- ITS FALSE NEIGHBOUR: 'it returns false'. Refute it at one input. -/
def transectCoversWrong : ChangeSpec := { name := "transectCovers", fn := fun _ => fun
  | [d1, d2, d3, d4, d5, d6, d7] => { results := [.lit (.bool false)], args := [d1, d2, d3, d4, d5, d6, d7] }
  | _ => none }
def TransectCoversWrongFalsely : Prop := transectCoversRow.holds Tryz.pinned (OpenSpec.ofChange transectCoversWrong)

/-- 'sewershedlaw14.TransectPasses': WHATEVER THE INPUT: true; the input reads as it did. -/
def transectPassesSpec : ChangeSpec := { name := "transectPasses", fn := fun _ => fun
  | [d1, d2, d3, d4, d5] => { results := [.lit (.bool true)], args := [d1, d2, d3, d4, d5] }
  | _ => none }
def transectPassesRow : OpenClaim := { program := "yteaonmajblajnaagreatdoor", sum := "e20c99cb6c5f39202e45a8180df524ea742eb1db36e9eb49929558df0cdf034b", func := "sewershed/sewershedlaw14.TransectPasses", spec := "transectPasses", inPlace := ["math/bits.Sub64", "math/bits.Add64"], unfollowed := true, recurses := true, named := ["internal/strconv.uint64pow10", "math/bits.deBruijn32tab", "math/bits.deBruijn64tab", "math/bits.divideError", "math/bits.overflowError"], plainKeys := false, apart := false, laid := [("math/bits.deBruijn32tab", laid_math_bits_deBruijn32tab), ("math/bits.deBruijn64tab", laid_math_bits_deBruijn64tab), ("internal/strconv.uint64pow10", laid_internal_strconv_uint64pow10)] }
def TransectPassesSaid : Prop := transectPassesRow.holds Tryz.pinned (OpenSpec.ofChange transectPassesSpec)

/-- ITS FALSE NEIGHBOUR: 'it returns false'. Refute it at one input. -/
def transectPassesWrong : ChangeSpec := { name := "transectPasses", fn := fun _ => fun
  | [d1, d2, d3, d4, d5] => { results := [.lit (.bool false)], args := [d1, d2, d3, d4, d5] }
  | _ => none }
def TransectPassesWrongFalsely : Prop := transectPassesRow.holds Tryz.pinned (OpenSpec.ofChange transectPassesWrong)

/-- 'sewershedlaw14.TransectLevels': WHATEVER THE INPUT: true; the input reads as it did. -/
def transectLevelsSpec : ChangeSpec := { name := "transectLevels", fn := fun _ => fun
  | [d1, d2, d3, d4] => { results := [.lit (.bool true)], args := [d1, d2, d3, d4] }
  | _ => none }
def transectLevelsRow : OpenClaim := { program := "yteaonmajblajnaagreatdoor", sum := "e20c99cb6c5f39202e45a8180df524ea742eb1db36e9eb49929558df0cdf034b", func := "sewershed/sewershedlaw14.TransectLevels", spec := "transectLevels", inPlace := ["math/bits.Sub64", "math/bits.Add64"], unfollowed := true, recurses := true, named := ["internal/strconv.uint64pow10", "math/bits.deBruijn32tab", "math/bits.deBruijn64tab", "math/bits.divideError", "math/bits.overflowError"], plainKeys := false, apart := false, laid := [("math/bits.deBruijn32tab", laid_math_bits_deBruijn32tab), ("math/bits.deBruijn64tab", laid_math_bits_deBruijn64tab), ("internal/strconv.uint64pow10", laid_internal_strconv_uint64pow10)] }
def TransectLevelsSaid : Prop := transectLevelsRow.holds Tryz.pinned (OpenSpec.ofChange transectLevelsSpec)

/-- ITS FALSE NEIGHBOUR: 'it returns false'. Refute it at one input. -/
def transectLevelsWrong : ChangeSpec := { name := "transectLevels", fn := fun _ => fun
  | [d1, d2, d3, d4] => { results := [.lit (.bool false)], args := [d1, d2, d3, d4] }
  | _ => none }
def TransectLevelsWrongFalsely : Prop := transectLevelsRow.holds Tryz.pinned (OpenSpec.ofChange transectLevelsWrong)

/-- 'sewershedlaw14.TransectDeeper': WHATEVER THE INPUT: true; the input reads as it did. -/
def transectDeeperSpec : ChangeSpec := { name := "transectDeeper", fn := fun _ => fun
  | [d1, d2, d3, d4, d5, d6, d7] => { results := [.lit (.bool true)], args := [d1, d2, d3, d4, d5, d6, d7] }
  | _ => none }
def transectDeeperRow : OpenClaim := { program := "yteaonmajblajnaagreatdoor", sum := "e20c99cb6c5f39202e45a8180df524ea742eb1db36e9eb49929558df0cdf034b", func := "sewershed/sewershedlaw14.TransectDeeper", spec := "transectDeeper", inPlace := ["math/bits.Sub64", "math/bits.Add64"], unfollowed := true, recurses := true, named := ["internal/strconv.uint64pow10", "math/bits.deBruijn32tab", "math/bits.deBruijn64tab", "math/bits.divideError", "math/bits.overflowError"], plainKeys := false, apart := false, laid := [("math/bits.deBruijn32tab", laid_math_bits_deBruijn32tab), ("math/bits.deBruijn64tab", laid_math_bits_deBruijn64tab), ("internal/strconv.uint64pow10", laid_internal_strconv_uint64pow10)] }
def TransectDeeperSaid : Prop := transectDeeperRow.holds Tryz.pinned (OpenSpec.ofChange transectDeeperSpec)

/-- ITS FALSE NEIGHBOUR: 'it returns false'. Refute it at one input. -/
def transectDeeperWrong : ChangeSpec := { name := "transectDeeper", fn := fun _ => fun
  | [d1, d2, d3, d4, d5, d6, d7] => { results := [.lit (.bool false)], args := [d1, d2, d3, d4, d5, d6, d7] }
  | _ => none }
def TransectDeeperWrongFalsely : Prop := transectDeeperRow.holds Tryz.pinned (OpenSpec.ofChange transectDeeperWrong)

/-- 'sewershedlaw14.TransectRises': WHATEVER THE INPUT: true; the input reads as it did. -/
def transectRisesSpec : ChangeSpec := { name := "transectRises", fn := fun _ => fun
  | [d1, d2, d3, d4, d5] => { results := [.lit (.bool true)], args := [d1, d2, d3, d4, d5] }
  | _ => none }
def transectRisesRow : OpenClaim := { program := "yteaonmajblajnaagreatdoor", sum := "e20c99cb6c5f39202e45a8180df524ea742eb1db36e9eb49929558df0cdf034b", func := "sewershed/sewershedlaw14.TransectRises", spec := "transectRises", inPlace := ["math/bits.Sub64", "math/bits.Add64"], unfollowed := true, recurses := true, named := ["internal/strconv.uint64pow10", "math/bits.deBruijn32tab", "math/bits.deBruijn64tab", "math/bits.divideError", "math/bits.overflowError"], plainKeys := false, apart := false, laid := [("math/bits.deBruijn32tab", laid_math_bits_deBruijn32tab), ("math/bits.deBruijn64tab", laid_math_bits_deBruijn64tab), ("internal/strconv.uint64pow10", laid_internal_strconv_uint64pow10)] }
def TransectRisesSaid : Prop := transectRisesRow.holds Tryz.pinned (OpenSpec.ofChange transectRisesSpec)

/-- ITS FALSE NEIGHBOUR: 'it returns false'. Refute it at one input. -/
def transectRisesWrong : ChangeSpec := { name := "transectRises", fn := fun _ => fun
  | [d1, d2, d3, d4, d5] => { results := [.lit (.bool false)], args := [d1, d2, d3, d4, d5] }
  | _ => none }
def TransectRisesWrongFalsely : Prop := transectRisesRow.holds Tryz.pinned (OpenSpec.ofChange transectRisesWrong)

/- THE SECOND FORM. 'bulk': how many values and letters a reading holds, each counted each time it is reached (what is shared counts as often as it is met; a slice's spare places count too). A statement '..UptoSaid' is the law's where the arguments, and the package variables that the reading takes, are together of bulk at most 1048576: NARROWER than '..Said'. Prove '..Said' where nothing that the law and all that it calls make is longer than what came in: it says more and counts as full. Else prove '..UptoSaid'. A law counts once. -/
mutual
def uptoBulk {H : Type} : DataW H → Nat
  | .lit (.string bytes) => bytes.length + 1
  | .lit _ => 1
  | .nil => 1
  | .ptr d => uptoBulk d + 1
  | .slice elems spare => uptoBulkAll elems + uptoBulkAll spare + 1
  | .agg parts => uptoBulkAll parts + 1
  | .iface _ d => uptoBulk d + 1
  | .map entries => uptoBulkEntries entries + 1
  | .held _ => 1
def uptoBulkAll {H : Type} : List (DataW H) → Nat
  | [] => 0
  | d :: r => uptoBulk d + uptoBulkAll r
def uptoBulkEntries {H : Type} : List (Lit × DataW H) → Nat
  | [] => 0
  | x :: r => uptoBulkEntry x + uptoBulkEntries r
def uptoBulkEntry {H : Type} : Lit × DataW H → Nat
  | (.string bytes, d) => bytes.length + uptoBulk d + 1
  | (_, d) => uptoBulk d + 1
 end
def uptoSmall : (H : Type) → List (DataW H) → Bool := fun _ ds => decide (uptoBulkAll ds ≤ 1048576)
def OpenSpec.upto (s : _root_.Go.ChangeSpec) : _root_.Go.OpenSpec := { _root_.Go.OpenSpec.ofChange s with cond := some uptoSmall }

/-- 'sewershedlaw14.TransectPoints', WHERE WHAT IT READS IS OF BULK AT MOST 1048576: true; the input reads as it did. -/
def transectPointsUptoRow : OpenClaim := { program := "yteaonmajblajnaagreatdoor", sum := "e20c99cb6c5f39202e45a8180df524ea742eb1db36e9eb49929558df0cdf034b", func := "sewershed/sewershedlaw14.TransectPoints", spec := "transectPoints", inPlace := ["math/bits.Sub64", "math/bits.Add64"], unfollowed := true, recurses := true, named := ["internal/strconv.uint64pow10", "math/bits.deBruijn32tab", "math/bits.deBruijn64tab", "math/bits.divideError", "math/bits.overflowError"], plainKeys := false, apart := false, laid := [("math/bits.deBruijn32tab", laid_math_bits_deBruijn32tab), ("math/bits.deBruijn64tab", laid_math_bits_deBruijn64tab), ("internal/strconv.uint64pow10", laid_internal_strconv_uint64pow10)], narrowed := true }
def TransectPointsUptoSaid : Prop := transectPointsUptoRow.holds Tryz.pinned (OpenSpec.upto transectPointsSpec)

/-- 'sewershedlaw14.TransectFaces', WHERE WHAT IT READS IS OF BULK AT MOST 1048576: true; the input reads as it did. -/
def transectFacesUptoRow : OpenClaim := { program := "yteaonmajblajnaagreatdoor", sum := "e20c99cb6c5f39202e45a8180df524ea742eb1db36e9eb49929558df0cdf034b", func := "sewershed/sewershedlaw14.TransectFaces", spec := "transectFaces", inPlace := ["math/bits.Sub64", "math/bits.Add64"], unfollowed := true, recurses := true, named := ["internal/strconv.uint64pow10", "math/bits.deBruijn32tab", "math/bits.deBruijn64tab", "math/bits.divideError", "math/bits.overflowError"], plainKeys := false, apart := false, laid := [("math/bits.deBruijn32tab", laid_math_bits_deBruijn32tab), ("math/bits.deBruijn64tab", laid_math_bits_deBruijn64tab), ("internal/strconv.uint64pow10", laid_internal_strconv_uint64pow10)], narrowed := true }
def TransectFacesUptoSaid : Prop := transectFacesUptoRow.holds Tryz.pinned (OpenSpec.upto transectFacesSpec)

/-- 'sewershedlaw14.TransectBack', WHERE WHAT IT READS IS OF BULK AT MOST 1048576: true; the input reads as it did. -/
def transectBackUptoRow : OpenClaim := { program := "yteaonmajblajnaagreatdoor", sum := "e20c99cb6c5f39202e45a8180df524ea742eb1db36e9eb49929558df0cdf034b", func := "sewershed/sewershedlaw14.TransectBack", spec := "transectBack", inPlace := ["math/bits.Sub64", "math/bits.Add64"], unfollowed := true, recurses := true, named := ["internal/strconv.uint64pow10", "math/bits.deBruijn32tab", "math/bits.deBruijn64tab", "math/bits.divideError", "math/bits.overflowError"], plainKeys := false, apart := false, laid := [("math/bits.deBruijn32tab", laid_math_bits_deBruijn32tab), ("math/bits.deBruijn64tab", laid_math_bits_deBruijn64tab), ("internal/strconv.uint64pow10", laid_internal_strconv_uint64pow10)], narrowed := true }
def TransectBackUptoSaid : Prop := transectBackUptoRow.holds Tryz.pinned (OpenSpec.upto transectBackSpec)

/-- 'sewershedlaw14.TransectCovers', WHERE WHAT IT READS IS OF BULK AT MOST 1048576: true; the input reads as it did. -/
def transectCoversUptoRow : OpenClaim := { program := "yteaonmajblajnaagreatdoor", sum := "e20c99cb6c5f39202e45a8180df524ea742eb1db36e9eb49929558df0cdf034b", func := "sewershed/sewershedlaw14.TransectCovers", spec := "transectCovers", inPlace := ["math/bits.Sub64", "math/bits.Add64"], unfollowed := true, recurses := true, named := ["internal/strconv.uint64pow10", "math/bits.deBruijn32tab", "math/bits.deBruijn64tab", "math/bits.divideError", "math/bits.overflowError"], plainKeys := false, apart := false, laid := [("math/bits.deBruijn32tab", laid_math_bits_deBruijn32tab), ("math/bits.deBruijn64tab", laid_math_bits_deBruijn64tab), ("internal/strconv.uint64pow10", laid_internal_strconv_uint64pow10)], narrowed := true }
def TransectCoversUptoSaid : Prop := transectCoversUptoRow.holds Tryz.pinned (OpenSpec.upto transectCoversSpec)

/-- 'sewershedlaw14.TransectPasses', WHERE WHAT IT READS IS OF BULK AT MOST 1048576: true; the input reads as it did. -/
def transectPassesUptoRow : OpenClaim := { program := "yteaonmajblajnaagreatdoor", sum := "e20c99cb6c5f39202e45a8180df524ea742eb1db36e9eb49929558df0cdf034b", func := "sewershed/sewershedlaw14.TransectPasses", spec := "transectPasses", inPlace := ["math/bits.Sub64", "math/bits.Add64"], unfollowed := true, recurses := true, named := ["internal/strconv.uint64pow10", "math/bits.deBruijn32tab", "math/bits.deBruijn64tab", "math/bits.divideError", "math/bits.overflowError"], plainKeys := false, apart := false, laid := [("math/bits.deBruijn32tab", laid_math_bits_deBruijn32tab), ("math/bits.deBruijn64tab", laid_math_bits_deBruijn64tab), ("internal/strconv.uint64pow10", laid_internal_strconv_uint64pow10)], narrowed := true }
def TransectPassesUptoSaid : Prop := transectPassesUptoRow.holds Tryz.pinned (OpenSpec.upto transectPassesSpec)

/-- 'sewershedlaw14.TransectLevels', WHERE WHAT IT READS IS OF BULK AT MOST 1048576: true; the input reads as it did. -/
def transectLevelsUptoRow : OpenClaim := { program := "yteaonmajblajnaagreatdoor", sum := "e20c99cb6c5f39202e45a8180df524ea742eb1db36e9eb49929558df0cdf034b", func := "sewershed/sewershedlaw14.TransectLevels", spec := "transectLevels", inPlace := ["math/bits.Sub64", "math/bits.Add64"], unfollowed := true, recurses := true, named := ["internal/strconv.uint64pow10", "math/bits.deBruijn32tab", "math/bits.deBruijn64tab", "math/bits.divideError", "math/bits.overflowError"], plainKeys := false, apart := false, laid := [("math/bits.deBruijn32tab", laid_math_bits_deBruijn32tab), ("math/bits.deBruijn64tab", laid_math_bits_deBruijn64tab), ("internal/strconv.uint64pow10", laid_internal_strconv_uint64pow10)], narrowed := true }
def TransectLevelsUptoSaid : Prop := transectLevelsUptoRow.holds Tryz.pinned (OpenSpec.upto transectLevelsSpec)

/-- 'sewershedlaw14.TransectDeeper', WHERE WHAT IT READS IS OF BULK AT MOST 1048576: true; the input reads as it did. -/
def transectDeeperUptoRow : OpenClaim := { program := "yteaonmajblajnaagreatdoor", sum := "e20c99cb6c5f39202e45a8180df524ea742eb1db36e9eb49929558df0cdf034b", func := "sewershed/sewershedlaw14.TransectDeeper", spec := "transectDeeper", inPlace := ["math/bits.Sub64", "math/bits.Add64"], unfollowed := true, recurses := true, named := ["internal/strconv.uint64pow10", "math/bits.deBruijn32tab", "math/bits.deBruijn64tab", "math/bits.divideError", "math/bits.overflowError"], plainKeys := false, apart := false, laid := [("math/bits.deBruijn32tab", laid_math_bits_deBruijn32tab), ("math/bits.deBruijn64tab", laid_math_bits_deBruijn64tab), ("internal/strconv.uint64pow10", laid_internal_strconv_uint64pow10)], narrowed := true }
def TransectDeeperUptoSaid : Prop := transectDeeperUptoRow.holds Tryz.pinned (OpenSpec.upto transectDeeperSpec)

/-- 'sewershedlaw14.TransectRises', WHERE WHAT IT READS IS OF BULK AT MOST 1048576: true; the input reads as it did. -/
def transectRisesUptoRow : OpenClaim := { program := "yteaonmajblajnaagreatdoor", sum := "e20c99cb6c5f39202e45a8180df524ea742eb1db36e9eb49929558df0cdf034b", func := "sewershed/sewershedlaw14.TransectRises", spec := "transectRises", inPlace := ["math/bits.Sub64", "math/bits.Add64"], unfollowed := true, recurses := true, named := ["internal/strconv.uint64pow10", "math/bits.deBruijn32tab", "math/bits.deBruijn64tab", "math/bits.divideError", "math/bits.overflowError"], plainKeys := false, apart := false, laid := [("math/bits.deBruijn32tab", laid_math_bits_deBruijn32tab), ("math/bits.deBruijn64tab", laid_math_bits_deBruijn64tab), ("internal/strconv.uint64pow10", laid_internal_strconv_uint64pow10)], narrowed := true }
def TransectRisesUptoSaid : Prop := transectRisesUptoRow.holds Tryz.pinned (OpenSpec.upto transectRisesSpec)

end Rows
end Go.Proofs.YteaonmajblajnaaGreatDoor
