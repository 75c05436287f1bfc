/-
  Texts of the proof: GvP.
-/
import Derived.Test.YtbglepgbofhboaaGreatDoorX3
set_option linter.all false
set_option maxRecDepth 4000
namespace Go.Gv

/-- slices.ContainsFunc[[]int,int] -/
def N11_slices_ContainsFunc__int_int : NFun := { np := 2, nt := 9, res := [(4, none)], body :=
 (.seq (.reg false [] [0, 1] [⟨some 4, .mov (.c (.bool false)), none⟩])
 (.seq (.reg false [] [4] [⟨some 5, .asg (.t 0), none⟩, ⟨some 6, .mov (.t 1), none⟩, ⟨some 7, .call 35 [(.t 5), (.t 6)] [], none⟩, ⟨some 8, .bin .geq (.t 7) (.c (.int .i64 0)), none⟩, ⟨some 4, .mov (.t 8), none⟩])
 .ret)) }

/-- slices.IndexFunc[[]int,int] -/
def N35_slices_IndexFunc__int_int : NFun := { np := 2, nt := 19, res := [(4, none)], body :=
 (.seq (.reg false [] [0, 1] [⟨some 4, .mov (.c (.int .i64 0)), none⟩])
 (.seq (.seq (.reg false [] [0, 1, 7, 8] [⟨some 6, .mov (.t 0), none⟩, ⟨some 7, .len (.t 6), none⟩, ⟨some 8, .mov (.c (.int .i64 0)), none⟩])
 (.block 0 (.loop (.seq (.reg false [] [0, 1, 7, 8, 9] [⟨some 9, .bin .lss (.t 8) (.t 7), none⟩])
 (.seq (.cond (.t 9) .skip
 (.exit 0))
 (.seq (.block 1 (.seq (.reg false [] [0, 1, 5, 7, 8] [⟨some 10, .mov (.t 8), none⟩, ⟨some 5, .mov (.t 10), none⟩])
 (.seq (.reg false [] [0, 1, 5, 7, 8, 16] [⟨some 11, .mov (.t 1), none⟩, ⟨some 12, .mov (.t 0), none⟩, ⟨some 13, .mov (.t 5), none⟩, ⟨some 14, .iadS 1 (.t 12) (.t 13), none⟩, ⟨some 15, .ld 1 false (.t 14), none⟩, ⟨some 16, .callv (.t 11) [(.t 15)], none⟩])
 (.cond (.t 16) (.seq (.reg false [] [4] [⟨some 17, .mov (.t 5), none⟩, ⟨some 4, .mov (.t 17), none⟩])
 .ret)
 .skip))))
 (.reg false [] [0, 1, 7, 8] [⟨some 18, .bin .add (.t 8) (.c (.int .i64 1)), none⟩, ⟨some 8, .mov (.t 18), none⟩])))))))
 (.seq (.reg false [] [4] [⟨some 4, .mov (.c (.int .i64 (-1))), none⟩])
 .ret))) }

/-- math/bits.Mul64 -/
def N91_math_bits_Mul64 : NFun := { np := 2, nt := 51, res := [(4, none), (5, none)], body :=
 (.seq (.reg false [] [0, 1] [⟨some 4, .mov (.c (.int .u64 0)), none⟩, ⟨some 5, .mov (.c (.int .u64 0)), none⟩])
 (.seq (.reg false [] [0, 1, 6] [⟨some 14, .mov (.t 0), none⟩, ⟨some 15, .bin .and (.t 14) (.c (.int .u64 4294967295)), none⟩, ⟨some 6, .mov (.t 15), none⟩])
 (.seq (.reg false [] [0, 1, 6, 7] [⟨some 16, .mov (.t 0), none⟩, ⟨some 17, .bin .shr (.t 16) (.c (.int .u64 32)), none⟩, ⟨some 7, .mov (.t 17), none⟩])
 (.seq (.reg false [] [0, 1, 6, 7, 8] [⟨some 18, .mov (.t 1), none⟩, ⟨some 19, .bin .and (.t 18) (.c (.int .u64 4294967295)), none⟩, ⟨some 8, .mov (.t 19), none⟩])
 (.seq (.reg false [] [0, 1, 6, 7, 8, 9] [⟨some 20, .mov (.t 1), none⟩, ⟨some 21, .bin .shr (.t 20) (.c (.int .u64 32)), none⟩, ⟨some 9, .mov (.t 21), none⟩])
 (.seq (.reg false [] [0, 1, 6, 7, 8, 9, 10] [⟨some 22, .mov (.t 6), none⟩, ⟨some 23, .mov (.t 8), none⟩, ⟨some 24, .bin .mul (.t 22) (.t 23), none⟩, ⟨some 10, .mov (.t 24), none⟩])
 (.seq (.reg false [] [0, 1, 6, 7, 9, 11] [⟨some 25, .mov (.t 7), none⟩, ⟨some 26, .mov (.t 8), none⟩, ⟨some 27, .bin .mul (.t 25) (.t 26), none⟩, ⟨some 28, .mov (.t 10), none⟩, ⟨some 29, .bin .shr (.t 28) (.c (.int .u64 32)), none⟩, ⟨some 30, .bin .add (.t 27) (.t 29), none⟩, ⟨some 11, .mov (.t 30), none⟩])
 (.seq (.reg false [] [0, 1, 6, 7, 9, 11, 12] [⟨some 31, .mov (.t 11), none⟩, ⟨some 32, .bin .and (.t 31) (.c (.int .u64 4294967295)), none⟩, ⟨some 12, .mov (.t 32), none⟩])
 (.seq (.reg false [] [0, 1, 6, 7, 9, 12, 13] [⟨some 33, .mov (.t 11), none⟩, ⟨some 34, .bin .shr (.t 33) (.c (.int .u64 32)), none⟩, ⟨some 13, .mov (.t 34), none⟩])
 (.seq (.reg false [] [0, 1, 7, 9, 12, 13] [⟨some 35, .mov (.t 12), none⟩, ⟨some 36, .mov (.t 6), none⟩, ⟨some 37, .mov (.t 9), none⟩, ⟨some 38, .bin .mul (.t 36) (.t 37), none⟩, ⟨some 39, .bin .add (.t 35) (.t 38), none⟩, ⟨some 12, .mov (.t 39), none⟩])
 (.seq (.reg false [] [0, 1, 4] [⟨some 40, .mov (.t 7), none⟩, ⟨some 41, .mov (.t 9), none⟩, ⟨some 42, .bin .mul (.t 40) (.t 41), none⟩, ⟨some 43, .mov (.t 13), none⟩, ⟨some 44, .bin .add (.t 42) (.t 43), none⟩, ⟨some 45, .mov (.t 12), none⟩, ⟨some 46, .bin .shr (.t 45) (.c (.int .u64 32)), none⟩, ⟨some 47, .bin .add (.t 44) (.t 46), none⟩, ⟨some 4, .mov (.t 47), none⟩])
 (.seq (.reg false [] [4, 5] [⟨some 48, .mov (.t 0), none⟩, ⟨some 49, .mov (.t 1), none⟩, ⟨some 50, .bin .mul (.t 48) (.t 49), none⟩, ⟨some 5, .mov (.t 50), none⟩])
 .ret)))))))))))) }

/-- math/bits.Div64 -/
def N92_math_bits_Div64 : NFun := { np := 3, nt := 135, res := [(6, none), (7, none)], body :=
 (.seq (.reg false [] [0, 1, 2] [⟨some 6, .mov (.c (.int .u64 0)), none⟩, ⟨some 7, .mov (.c (.int .u64 0)), none⟩])
 (.seq (.seq (.reg false [] [0, 1, 2, 20] [⟨some 19, .mov (.t 2), none⟩, ⟨some 20, .bin .eql (.t 19) (.c (.int .u64 0)), none⟩])
 (.cond (.t 20) (.reg false [] [0, 1, 2] [⟨some 21, .dead, none⟩, ⟨none, .dead, none⟩])
 .skip))
 (.seq (.seq (.reg false [] [0, 1, 2, 24] [⟨some 22, .mov (.t 2), none⟩, ⟨some 23, .mov (.t 0), none⟩, ⟨some 24, .bin .leq (.t 22) (.t 23), none⟩])
 (.cond (.t 24) (.reg false [] [0, 1, 2] [⟨some 25, .dead, none⟩, ⟨none, .dead, none⟩])
 .skip))
 (.seq (.seq (.reg false [] [0, 1, 2, 27] [⟨some 26, .mov (.t 0), none⟩, ⟨some 27, .bin .eql (.t 26) (.c (.int .u64 0)), none⟩])
 (.cond (.t 27) (.seq (.reg true [0, 0, 3, 0, 0, 24, 7, 127] [6, 7] [⟨some 28, .mov (.t 1), none⟩, ⟨some 29, .mov (.t 2), none⟩, ⟨some 30, .bin .quo (.t 28) (.t 29), none⟩, ⟨some 31, .mov (.t 1), none⟩, ⟨some 32, .mov (.t 2), none⟩, ⟨some 33, .bin .rem (.t 31) (.t 32), none⟩, ⟨some 6, .mov (.t 30), none⟩, ⟨some 7, .mov (.t 33), none⟩])
 .ret)
 .skip))
 (.seq (.reg false [] [0, 1, 2, 8] [⟨some 34, .mov (.t 2), none⟩, ⟨some 35, .call 102 [(.t 34)] [], none⟩, ⟨some 36, .conv .u64 (.t 35), none⟩, ⟨some 8, .mov (.t 36), none⟩])
 (.seq (.reg false [] [0, 1, 2, 8] [⟨some 37, .mov (.t 2), none⟩, ⟨some 38, .mov (.t 8), none⟩, ⟨some 39, .bin .shl (.t 37) (.t 38), none⟩, ⟨some 2, .mov (.t 39), none⟩])
 (.seq (.reg false [] [0, 1, 2, 8, 9] [⟨some 40, .mov (.t 2), none⟩, ⟨some 41, .bin .shr (.t 40) (.c (.int .u64 32)), none⟩, ⟨some 9, .mov (.t 41), none⟩])
 (.seq (.reg false [] [0, 1, 2, 8, 9, 10] [⟨some 42, .mov (.t 2), none⟩, ⟨some 43, .bin .and (.t 42) (.c (.int .u64 4294967295)), none⟩, ⟨some 10, .mov (.t 43), none⟩])
 (.seq (.reg false [] [1, 2, 8, 9, 10, 11] [⟨some 44, .mov (.t 0), none⟩, ⟨some 45, .mov (.t 8), none⟩, ⟨some 46, .bin .shl (.t 44) (.t 45), none⟩, ⟨some 47, .mov (.t 1), none⟩, ⟨some 48, .mov (.t 8), none⟩, ⟨some 49, .bin .sub (.c (.int .u64 64)) (.t 48), none⟩, ⟨some 50, .bin .shr (.t 47) (.t 49), none⟩, ⟨some 51, .bin .or (.t 46) (.t 50), none⟩, ⟨some 11, .mov (.t 51), none⟩])
 (.seq (.reg false [] [2, 8, 9, 10, 11, 12] [⟨some 52, .mov (.t 1), none⟩, ⟨some 53, .mov (.t 8), none⟩, ⟨some 54, .bin .shl (.t 52) (.t 53), none⟩, ⟨some 12, .mov (.t 54), none⟩])
 (.seq (.reg false [] [2, 8, 9, 10, 11, 12, 13] [⟨some 55, .mov (.t 12), none⟩, ⟨some 56, .bin .shr (.t 55) (.c (.int .u64 32)), none⟩, ⟨some 13, .mov (.t 56), none⟩])
 (.seq (.reg false [] [2, 8, 9, 10, 11, 13, 14] [⟨some 57, .mov (.t 12), none⟩, ⟨some 58, .bin .and (.t 57) (.c (.int .u64 4294967295)), none⟩, ⟨some 14, .mov (.t 58), none⟩])
 (.seq (.reg false [] [2, 8, 9, 10, 11, 13, 14, 15] [⟨some 59, .mov (.t 11), none⟩, ⟨some 60, .mov (.t 9), none⟩, ⟨some 61, .bin .quo (.t 59) (.t 60), none⟩, ⟨some 15, .mov (.t 61), none⟩])
 (.seq (.reg false [] [2, 8, 9, 10, 11, 13, 14, 15, 16] [⟨some 62, .mov (.t 11), none⟩, ⟨some 63, .mov (.t 15), none⟩, ⟨some 64, .mov (.t 9), none⟩, ⟨some 65, .bin .mul (.t 63) (.t 64), none⟩, ⟨some 66, .bin .sub (.t 62) (.t 65), none⟩, ⟨some 16, .mov (.t 66), none⟩])
 (.seq (.block 0 (.loop (.seq (.seq (.reg false [] [2, 8, 9, 10, 11, 13, 14, 15, 16, 78] [⟨some 67, .mov (.t 15), none⟩, ⟨some 68, .bin .geq (.t 67) (.c (.int .u64 4294967296)), none⟩, ⟨some 69, .mov (.t 68), none⟩, ⟨some 70, .mov (.t 15), some (69, false)⟩, ⟨some 71, .mov (.t 10), some (69, false)⟩, ⟨some 72, .bin .mul (.t 70) (.t 71), some (69, false)⟩, ⟨some 73, .mov (.t 16), some (69, false)⟩, ⟨some 74, .bin .mul (.c (.int .u64 4294967296)) (.t 73), some (69, false)⟩, ⟨some 75, .mov (.t 13), some (69, false)⟩, ⟨some 76, .bin .add (.t 74) (.t 75), some (69, false)⟩, ⟨some 77, .bin .gtr (.t 72) (.t 76), some (69, false)⟩, ⟨some 78, .pick (.t 69) (.c (.bool true)) (.t 77), none⟩])
 (.cond (.t 78) .skip
 (.exit 0)))
 (.block 1 (.seq (.reg false [] [2, 8, 9, 10, 11, 13, 14, 15, 16] [⟨some 79, .mov (.t 15), none⟩, ⟨some 80, .bin .sub (.t 79) (.c (.int .u64 1)), none⟩, ⟨some 15, .mov (.t 80), none⟩])
 (.seq (.reg false [] [2, 8, 9, 10, 11, 13, 14, 15, 16] [⟨some 81, .mov (.t 16), none⟩, ⟨some 82, .mov (.t 9), none⟩, ⟨some 83, .bin .add (.t 81) (.t 82), none⟩, ⟨some 16, .mov (.t 83), none⟩])
 (.seq (.reg false [] [2, 8, 9, 10, 11, 13, 14, 15, 16, 85] [⟨some 84, .mov (.t 16), none⟩, ⟨some 85, .bin .geq (.t 84) (.c (.int .u64 4294967296)), none⟩])
 (.cond (.t 85) (.exit 0)
 .skip))))))))
 (.seq (.reg false [] [2, 8, 9, 10, 14, 15, 17] [⟨some 86, .mov (.t 11), none⟩, ⟨some 87, .bin .mul (.t 86) (.c (.int .u64 4294967296)), none⟩, ⟨some 88, .mov (.t 13), none⟩, ⟨some 89, .bin .add (.t 87) (.t 88), none⟩, ⟨some 90, .mov (.t 15), none⟩, ⟨some 91, .mov (.t 2), none⟩, ⟨some 92, .bin .mul (.t 90) (.t 91), none⟩, ⟨some 93, .bin .sub (.t 89) (.t 92), none⟩, ⟨some 17, .mov (.t 93), none⟩])
 (.seq (.reg false [] [2, 8, 9, 10, 14, 15, 17, 18] [⟨some 94, .mov (.t 17), none⟩, ⟨some 95, .mov (.t 9), none⟩, ⟨some 96, .bin .quo (.t 94) (.t 95), none⟩, ⟨some 18, .mov (.t 96), none⟩])
 (.seq (.reg false [] [2, 8, 9, 10, 14, 15, 16, 17, 18] [⟨some 97, .mov (.t 17), none⟩, ⟨some 98, .mov (.t 18), none⟩, ⟨some 99, .mov (.t 9), none⟩, ⟨some 100, .bin .mul (.t 98) (.t 99), none⟩, ⟨some 101, .bin .sub (.t 97) (.t 100), none⟩, ⟨some 16, .mov (.t 101), none⟩])
 (.seq (.block 2 (.loop (.seq (.seq (.reg false [] [2, 8, 9, 10, 14, 15, 16, 17, 18, 113] [⟨some 102, .mov (.t 18), none⟩, ⟨some 103, .bin .geq (.t 102) (.c (.int .u64 4294967296)), none⟩, ⟨some 104, .mov (.t 103), none⟩, ⟨some 105, .mov (.t 18), some (104, false)⟩, ⟨some 106, .mov (.t 10), some (104, false)⟩, ⟨some 107, .bin .mul (.t 105) (.t 106), some (104, false)⟩, ⟨some 108, .mov (.t 16), some (104, false)⟩, ⟨some 109, .bin .mul (.c (.int .u64 4294967296)) (.t 108), some (104, false)⟩, ⟨some 110, .mov (.t 14), some (104, false)⟩, ⟨some 111, .bin .add (.t 109) (.t 110), some (104, false)⟩, ⟨some 112, .bin .gtr (.t 107) (.t 111), some (104, false)⟩, ⟨some 113, .pick (.t 104) (.c (.bool true)) (.t 112), none⟩])
 (.cond (.t 113) .skip
 (.exit 2)))
 (.block 3 (.seq (.reg false [] [2, 8, 9, 10, 14, 15, 16, 17, 18] [⟨some 114, .mov (.t 18), none⟩, ⟨some 115, .bin .sub (.t 114) (.c (.int .u64 1)), none⟩, ⟨some 18, .mov (.t 115), none⟩])
 (.seq (.reg false [] [2, 8, 9, 10, 14, 15, 16, 17, 18] [⟨some 116, .mov (.t 16), none⟩, ⟨some 117, .mov (.t 9), none⟩, ⟨some 118, .bin .add (.t 116) (.t 117), none⟩, ⟨some 16, .mov (.t 118), none⟩])
 (.seq (.reg false [] [2, 8, 9, 10, 14, 15, 16, 17, 18, 120] [⟨some 119, .mov (.t 16), none⟩, ⟨some 120, .bin .geq (.t 119) (.c (.int .u64 4294967296)), none⟩])
 (.cond (.t 120) (.exit 2)
 .skip))))))))
 (.seq (.reg false [] [6, 7] [⟨some 121, .mov (.t 15), none⟩, ⟨some 122, .bin .mul (.t 121) (.c (.int .u64 4294967296)), none⟩, ⟨some 123, .mov (.t 18), none⟩, ⟨some 124, .bin .add (.t 122) (.t 123), none⟩, ⟨some 125, .mov (.t 17), none⟩, ⟨some 126, .bin .mul (.t 125) (.c (.int .u64 4294967296)), none⟩, ⟨some 127, .mov (.t 14), none⟩, ⟨some 128, .bin .add (.t 126) (.t 127), none⟩, ⟨some 129, .mov (.t 18), none⟩, ⟨some 130, .mov (.t 2), none⟩, ⟨some 131, .bin .mul (.t 129) (.t 130), none⟩, ⟨some 132, .bin .sub (.t 128) (.t 131), none⟩, ⟨some 133, .mov (.t 8), none⟩, ⟨some 134, .bin .shr (.t 132) (.t 133), none⟩, ⟨some 6, .mov (.t 124), none⟩, ⟨some 7, .mov (.t 134), none⟩])
 .ret)))))))))))))))))))) }

/-- sewershed/wide.Product -/
def N99_wide_Product : NFun := { np := 2, nt := 12, res := [(4, some (2, true)), (5, none)], body :=
 (.seq (.reg false [] [0, 1, 4] [⟨some 4, .alc [.int .i64 0, .int .i64 0], none⟩, ⟨some 5, .mov (.c (.int .i64 0)), none⟩])
 (.seq (.reg false [] [4, 5] [⟨some 6, .mov (.t 0), none⟩, ⟨some 7, .mov (.t 1), none⟩, ⟨some 8, .call 103 [(.t 6), (.t 7)] [], none⟩, ⟨some 9, .call 105 [(.t 8)] [], none⟩, ⟨some 10, .ext 0 (.t 9), none⟩, ⟨some 11, .ext 1 (.t 9), none⟩, ⟨none, .st 2 [] (.t 4) (.t 10), none⟩, ⟨some 5, .mov (.t 11), none⟩])
 .ret)) }

/-- sewershed/wide.Int -/
def N101_wide_Int : NFun := { np := 1, nt := 20, res := [(2, none), (3, none)], body :=
 (.seq (.reg false [] [1] [⟨some 1, .boxF (.t 0), none⟩, ⟨some 2, .mov (.c (.int .i64 0)), none⟩, ⟨some 3, .mov (.c (.int .i64 0)), none⟩])
 (.seq (.seq (.reg false [] [1, 7] [⟨some 5, .ld 2 true (.t 1), none⟩, ⟨some 6, .call 106 [(.t 5)] [], none⟩, ⟨some 7, .un .not (.t 6), none⟩])
 (.cond (.t 7) (.seq (.reg false [] [2, 3] [⟨some 2, .mov (.c (.int .i64 0)), none⟩, ⟨some 3, .mov (.c (.int .i64 1)), none⟩])
 .ret)
 .skip))
 (.seq (.reg false [] [4] [⟨some 8, .ld 2 true (.t 1), none⟩, ⟨some 9, .call 108 [(.t 8)] [], none⟩, ⟨some 4, .alc [.int .u64 0, .int .u64 0, .bool false], none⟩, ⟨none, .st 3 [] (.t 4) (.t 9), none⟩])
 (.seq (.seq (.reg false [] [4, 12] [⟨some 10, .fad 0 (.t 4), none⟩, ⟨some 11, .ld 1 false (.t 10), none⟩, ⟨some 12, .bin .gtr (.t 11) (.c (.int .u64 0)), none⟩])
 (.cond (.t 12) (.seq (.reg false [] [2, 3] [⟨some 2, .mov (.c (.int .i64 0)), none⟩, ⟨some 3, .mov (.c (.int .i64 5)), none⟩])
 .ret)
 .skip))
 (.seq (.reg false [] [2, 3] [⟨some 13, .fad 1 (.t 4), none⟩, ⟨some 14, .ld 1 false (.t 13), none⟩, ⟨some 15, .fad 2 (.t 4), none⟩, ⟨some 16, .ld 1 false (.t 15), none⟩, ⟨some 17, .call 110 [(.t 14), (.t 16)] [], none⟩, ⟨some 18, .ext 0 (.t 17), none⟩, ⟨some 19, .ext 1 (.t 17), none⟩, ⟨some 2, .mov (.t 18), none⟩, ⟨some 3, .mov (.t 19), none⟩])
 .ret))))) }

/-- math/bits.LeadingZeros64 -/
def N102_math_bits_LeadingZeros64 : NFun := { np := 1, nt := 6, res := [(2, none)], body :=
 (.seq (.reg false [] [0] [⟨some 2, .mov (.c (.int .i64 0)), none⟩])
 (.seq (.reg false [] [2] [⟨some 3, .mov (.t 0), none⟩, ⟨some 4, .call 111 [(.t 3)] [], none⟩, ⟨some 5, .bin .sub (.c (.int .i64 64)) (.t 4), none⟩, ⟨some 2, .mov (.t 5), none⟩])
 .ret)) }

/-- sewershed/wide.times -/
def N103_wide_times : NFun := { np := 2, nt := 23, res := [(4, some (3, true))], body :=
 (.seq (.reg false [] [0, 1, 4] [⟨some 4, .alc [.int .u64 0, .int .u64 0, .bool false], none⟩])
 (.seq (.reg false [] [0, 1, 4, 5, 6] [⟨some 8, .mov (.t 0), none⟩, ⟨some 9, .call 112 [(.t 8)] [], none⟩, ⟨some 10, .mov (.t 1), none⟩, ⟨some 11, .call 112 [(.t 10)] [], none⟩, ⟨some 12, .call 91 [(.t 9), (.t 11)] [], none⟩, ⟨some 7, .mov (.t 12), none⟩, ⟨some 13, .ext 0 (.t 7), none⟩, ⟨some 14, .ext 1 (.t 7), none⟩, ⟨some 5, .mov (.t 13), none⟩, ⟨some 6, .mov (.t 14), none⟩])
 (.seq (.reg false [] [4] [⟨some 15, .mov (.t 5), none⟩, ⟨some 16, .mov (.t 6), none⟩, ⟨some 17, .mov (.t 0), none⟩, ⟨some 18, .bin .lss (.t 17) (.c (.int .i64 0)), none⟩, ⟨some 19, .mov (.t 1), none⟩, ⟨some 20, .bin .lss (.t 19) (.c (.int .i64 0)), none⟩, ⟨some 21, .beq true [] (.t 18) (.t 20), none⟩, ⟨some 22, .call 113 [(.t 15), (.t 16), (.t 21)] [], none⟩, ⟨none, .st 3 [] (.t 4) (.t 22), none⟩])
 .ret))) }

/-- sewershed/wide.quotient -/
def N104_wide_quotient : NFun := { np := 3, nt := 52, res := [(6, none), (7, none)], body :=
 (.seq (.reg false [] [1, 2, 3] [⟨some 3, .boxF (.t 0), none⟩, ⟨some 6, .mov (.c (.int .i64 0)), none⟩, ⟨some 7, .mov (.c (.int .i64 0)), none⟩])
 (.seq (.reg false [] [1, 2, 3, 8] [⟨some 12, .mov (.t 1), none⟩, ⟨some 13, .call 112 [(.t 12)] [], none⟩, ⟨some 8, .mov (.t 13), none⟩])
 (.seq (.seq (.reg false [] [1, 2, 3, 8, 17] [⟨some 14, .fad 0 (.t 3), none⟩, ⟨some 15, .ld 1 false (.t 14), none⟩, ⟨some 16, .mov (.t 8), none⟩, ⟨some 17, .bin .geq (.t 15) (.t 16), none⟩])
 (.cond (.t 17) (.seq (.reg false [] [6, 7] [⟨some 6, .mov (.c (.int .i64 0)), none⟩, ⟨some 7, .mov (.c (.int .i64 5)), none⟩])
 .ret)
 .skip))
 (.seq (.reg false [] [1, 2, 3, 9, 10] [⟨some 19, .fad 0 (.t 3), none⟩, ⟨some 20, .ld 1 false (.t 19), none⟩, ⟨some 21, .fad 1 (.t 3), none⟩, ⟨some 22, .ld 1 false (.t 21), none⟩, ⟨some 23, .mov (.t 8), none⟩, ⟨some 24, .call 92 [(.t 20), (.t 22), (.t 23)] [], none⟩, ⟨some 18, .mov (.t 24), none⟩, ⟨some 25, .ext 0 (.t 18), none⟩, ⟨some 26, .ext 1 (.t 18), none⟩, ⟨some 9, .mov (.t 25), none⟩, ⟨some 10, .mov (.t 26), none⟩])
 (.seq (.reg false [] [2, 9, 10, 11] [⟨some 27, .fad 2 (.t 3), none⟩, ⟨some 28, .ld 1 false (.t 27), none⟩, ⟨some 29, .mov (.t 1), none⟩, ⟨some 30, .bin .lss (.t 29) (.c (.int .i64 0)), none⟩, ⟨some 31, .beq true [] (.t 28) (.t 30), none⟩, ⟨some 11, .mov (.t 31), none⟩])
 (.seq (.seq (.reg false [] [9, 11, 38] [⟨some 32, .mov (.t 10), none⟩, ⟨some 33, .bin .gtr (.t 32) (.c (.int .u64 0)), none⟩, ⟨some 34, .mov (.t 33), none⟩, ⟨some 35, .mov (.t 11), some (34, true)⟩, ⟨some 36, .mov (.t 2), some (34, true)⟩, ⟨some 37, .beq true [] (.t 35) (.t 36), some (34, true)⟩, ⟨some 38, .pick (.t 34) (.t 37) (.c (.bool false)), none⟩])
 (.cond (.t 38) (.seq (.reg false [] [9, 11] [⟨some 39, .mov (.t 9), none⟩, ⟨some 40, .bin .add (.t 39) (.c (.int .u64 1)), none⟩, ⟨some 9, .mov (.t 40), none⟩])
 (.seq (.reg false [] [9, 11, 42] [⟨some 41, .mov (.t 9), none⟩, ⟨some 42, .bin .eql (.t 41) (.c (.int .u64 0)), none⟩])
 (.cond (.t 42) (.seq (.reg false [] [6, 7] [⟨some 6, .mov (.c (.int .i64 0)), none⟩, ⟨some 7, .mov (.c (.int .i64 5)), none⟩])
 .ret)
 .skip)))
 .skip))
 (.seq (.reg false [] [6, 7] [⟨some 43, .mov (.t 9), none⟩, ⟨some 44, .mov (.t 11), none⟩, ⟨some 45, .mov (.t 44), none⟩, ⟨some 46, .mov (.t 9), some (45, true)⟩, ⟨some 47, .bin .gtr (.t 46) (.c (.int .u64 0)), some (45, true)⟩, ⟨some 48, .pick (.t 45) (.t 47) (.c (.bool false)), none⟩, ⟨some 49, .call 110 [(.t 43), (.t 48)] [], none⟩, ⟨some 50, .ext 0 (.t 49), none⟩, ⟨some 51, .ext 1 (.t 49), none⟩, ⟨some 6, .mov (.t 50), none⟩, ⟨some 7, .mov (.t 51), none⟩])
 .ret))))))) }

/-- sewershed/wide.placed -/
def N105_wide_placed : NFun := { np := 1, nt := 56, res := [(2, some (2, true)), (3, none)], body :=
 (.seq (.reg false [] [1, 2] [⟨some 1, .boxF (.t 0), none⟩, ⟨some 2, .alc [.int .i64 0, .int .i64 0], none⟩, ⟨some 3, .mov (.c (.int .i64 0)), none⟩])
 (.seq (.seq (.reg false [] [1, 2, 23] [⟨some 6, .fad 0 (.t 1), none⟩, ⟨some 7, .ld 1 false (.t 6), none⟩, ⟨some 8, .bin .gtr (.t 7) (.c (.int .u64 72057594037927936)), none⟩, ⟨some 9, .mov (.t 8), none⟩, ⟨some 10, .fad 0 (.t 1), some (9, false)⟩, ⟨some 11, .ld 1 false (.t 10), some (9, false)⟩, ⟨some 12, .bin .eql (.t 11) (.c (.int .u64 72057594037927936)), some (9, false)⟩, ⟨some 13, .mov (.t 12), some (9, false)⟩, ⟨some 14, .fad 1 (.t 1), some (13, true)⟩, ⟨some 15, .ld 1 false (.t 14), some (13, true)⟩, ⟨some 16, .bin .gtr (.t 15) (.c (.int .u64 0)), some (13, true)⟩, ⟨some 17, .mov (.t 16), some (13, true)⟩, ⟨some 18, .fad 2 (.t 1), some (17, false)⟩, ⟨some 19, .ld 1 false (.t 18), some (17, false)⟩, ⟨some 20, .un .not (.t 19), some (17, false)⟩, ⟨some 21, .pick (.t 17) (.c (.bool true)) (.t 20), some (13, true)⟩, ⟨some 22, .pick (.t 13) (.t 21) (.c (.bool false)), some (9, false)⟩, ⟨some 23, .pick (.t 9) (.c (.bool true)) (.t 22), none⟩])
 (.cond (.t 23) (.seq (.reg false [] [2, 3] [⟨some 24, .bld [.int .i64 0, .int .i64 0] [], none⟩, ⟨none, .st 2 [] (.t 2) (.t 24), none⟩, ⟨some 3, .mov (.c (.int .i64 5)), none⟩])
 .ret)
 .skip))
 (.seq (.reg true [0, 1, 3, 0, 8, 24, 63, 127, 0, 256, 768, 1792, 255, 8191] [1, 2, 4, 5] [⟨some 25, .fad 0 (.t 1), none⟩, ⟨some 26, .ld 1 false (.t 25), none⟩, ⟨some 27, .bin .shl (.t 26) (.c (.int .u64 4)), none⟩, ⟨some 28, .fad 1 (.t 1), none⟩, ⟨some 29, .ld 1 false (.t 28), none⟩, ⟨some 30, .bin .shr (.t 29) (.c (.int .u64 60)), none⟩, ⟨some 31, .bin .or (.t 27) (.t 30), none⟩, ⟨some 32, .conv .i64 (.t 31), none⟩, ⟨some 33, .fad 1 (.t 1), none⟩, ⟨some 34, .ld 1 false (.t 33), none⟩, ⟨some 35, .bin .and (.t 34) (.c (.int .u64 1152921504606846975)), none⟩, ⟨some 36, .conv .i64 (.t 35), none⟩, ⟨some 4, .mov (.t 32), none⟩, ⟨some 5, .mov (.t 36), none⟩])
 (.seq (.block 0 (.seq (.reg false [] [2, 4, 5, 37] [⟨some 38, .fad 2 (.t 1), none⟩, ⟨some 39, .ld 1 false (.t 38), none⟩, ⟨some 40, .un .not (.t 39), none⟩, ⟨some 37, .mov (.t 40), none⟩])
 (.cond (.t 37) (.seq (.reg false [] [2, 3] [⟨some 41, .mov (.t 4), none⟩, ⟨some 42, .mov (.t 5), none⟩, ⟨some 43, .bld [.int .i64 0, .int .i64 0] [(0, 1, (.t 41)), (1, 1, (.t 42))], none⟩, ⟨none, .st 2 [] (.t 2) (.t 43), none⟩, ⟨some 3, .mov (.c (.int .i64 0)), none⟩])
 .ret)
 (.seq (.reg false [] [2, 4, 5, 44] [⟨some 45, .mov (.t 5), none⟩, ⟨some 46, .bin .eql (.t 45) (.c (.int .i64 0)), none⟩, ⟨some 44, .mov (.t 46), none⟩])
 (.cond (.t 44) (.seq (.reg false [] [2, 3] [⟨some 47, .mov (.t 4), none⟩, ⟨some 48, .un .neg (.t 47), none⟩, ⟨some 49, .bld [.int .i64 0, .int .i64 0] [(0, 1, (.t 48))], none⟩, ⟨none, .st 2 [] (.t 2) (.t 49), none⟩, ⟨some 3, .mov (.c (.int .i64 0)), none⟩])
 .ret)
 .skip)))))
 (.seq (.reg false [] [2, 3] [⟨some 50, .mov (.t 4), none⟩, ⟨some 51, .un .neg (.t 50), none⟩, ⟨some 52, .bin .sub (.t 51) (.c (.int .i64 1)), none⟩, ⟨some 53, .mov (.t 5), none⟩, ⟨some 54, .bin .sub (.c (.int .i64 1152921504606846976)) (.t 53), none⟩, ⟨some 55, .bld [.int .i64 0, .int .i64 0] [(0, 1, (.t 52)), (1, 1, (.t 54))], none⟩, ⟨none, .st 2 [] (.t 2) (.t 55), none⟩, ⟨some 3, .mov (.c (.int .i64 0)), none⟩])
 .ret))))) }

/-- sewershed/wide.Valid -/
def N106_wide_Valid : NFun := { np := 1, nt := 21, res := [(2, none)], body :=
 (.seq (.reg false [] [1] [⟨some 1, .boxF (.t 0), none⟩, ⟨some 2, .mov (.c (.bool false)), none⟩])
 (.seq (.reg false [] [2] [⟨some 3, .fad 0 (.t 1), none⟩, ⟨some 4, .ld 1 false (.t 3), none⟩, ⟨some 5, .bin .geq (.t 4) (.c (.int .i64 (-1152921504606846976))), none⟩, ⟨some 6, .mov (.t 5), none⟩, ⟨some 7, .fad 0 (.t 1), some (6, true)⟩, ⟨some 8, .ld 1 false (.t 7), some (6, true)⟩, ⟨some 9, .bin .lss (.t 8) (.c (.int .i64 1152921504606846976)), some (6, true)⟩, ⟨some 10, .pick (.t 6) (.t 9) (.c (.bool false)), none⟩, ⟨some 11, .mov (.t 10), none⟩, ⟨some 12, .fad 1 (.t 1), some (11, true)⟩, ⟨some 13, .ld 1 false (.t 12), some (11, true)⟩, ⟨some 14, .bin .geq (.t 13) (.c (.int .i64 0)), some (11, true)⟩, ⟨some 15, .pick (.t 11) (.t 14) (.c (.bool false)), none⟩, ⟨some 16, .mov (.t 15), none⟩, ⟨some 17, .fad 1 (.t 1), some (16, true)⟩, ⟨some 18, .ld 1 false (.t 17), some (16, true)⟩, ⟨some 19, .bin .lss (.t 18) (.c (.int .i64 1152921504606846976)), some (16, true)⟩, ⟨some 20, .pick (.t 16) (.t 19) (.c (.bool false)), none⟩, ⟨some 2, .mov (.t 20), none⟩])
 .ret)) }

/-- sewershed/wide.sum -/
def N107_wide_sum : NFun := { np := 2, nt := 73, res := [(4, some (3, true))], body :=
 (.seq (.reg false [] [2, 3, 4] [⟨some 2, .box [] (.t 0), none⟩, ⟨some 3, .box [] (.t 1), none⟩, ⟨some 4, .alc [.int .u64 0, .int .u64 0, .bool false], none⟩])
 (.seq (.seq (.reg false [] [2, 3, 4, 13] [⟨some 9, .fad 2 (.t 2), none⟩, ⟨some 10, .ld 1 false (.t 9), none⟩, ⟨some 11, .fad 2 (.t 3), none⟩, ⟨some 12, .ld 1 false (.t 11), none⟩, ⟨some 13, .beq false [] (.t 10) (.t 12), none⟩])
 (.cond (.t 13) (.seq (.reg false [] [2, 3, 4, 5, 6] [⟨some 15, .fad 1 (.t 2), none⟩, ⟨some 16, .ld 1 false (.t 15), none⟩, ⟨some 17, .fad 1 (.t 3), none⟩, ⟨some 18, .ld 1 false (.t 17), none⟩, ⟨some 19, .add64 (.t 16) (.t 18) (.c (.int .u64 0)), none⟩, ⟨some 14, .mov (.t 19), none⟩, ⟨some 20, .ext 0 (.t 14), none⟩, ⟨some 21, .ext 1 (.t 14), none⟩, ⟨some 5, .mov (.t 20), none⟩, ⟨some 6, .mov (.t 21), none⟩])
 (.seq (.reg false [] [4] [⟨some 22, .fad 0 (.t 2), none⟩, ⟨some 23, .ld 1 false (.t 22), none⟩, ⟨some 24, .fad 0 (.t 3), none⟩, ⟨some 25, .ld 1 false (.t 24), none⟩, ⟨some 26, .bin .add (.t 23) (.t 25), none⟩, ⟨some 27, .mov (.t 6), none⟩, ⟨some 28, .bin .add (.t 26) (.t 27), none⟩, ⟨some 29, .mov (.t 5), none⟩, ⟨some 30, .fad 2 (.t 2), none⟩, ⟨some 31, .ld 1 false (.t 30), none⟩, ⟨some 32, .call 113 [(.t 28), (.t 29), (.t 31)] [], none⟩, ⟨none, .st 3 [] (.t 4) (.t 32), none⟩])
 .ret))
 .skip))
 (.seq (.seq (.reg false [] [2, 3, 4, 51] [⟨some 33, .fad 0 (.t 2), none⟩, ⟨some 34, .ld 1 false (.t 33), none⟩, ⟨some 35, .fad 0 (.t 3), none⟩, ⟨some 36, .ld 1 false (.t 35), none⟩, ⟨some 37, .bin .lss (.t 34) (.t 36), none⟩, ⟨some 38, .mov (.t 37), none⟩, ⟨some 39, .fad 0 (.t 2), some (38, false)⟩, ⟨some 40, .ld 1 false (.t 39), some (38, false)⟩, ⟨some 41, .fad 0 (.t 3), some (38, false)⟩, ⟨some 42, .ld 1 false (.t 41), some (38, false)⟩, ⟨some 43, .bin .eql (.t 40) (.t 42), some (38, false)⟩, ⟨some 44, .mov (.t 43), some (38, false)⟩, ⟨some 45, .fad 1 (.t 2), some (44, true)⟩, ⟨some 46, .ld 1 false (.t 45), some (44, true)⟩, ⟨some 47, .fad 1 (.t 3), some (44, true)⟩, ⟨some 48, .ld 1 false (.t 47), some (44, true)⟩, ⟨some 49, .bin .lss (.t 46) (.t 48), some (44, true)⟩, ⟨some 50, .pick (.t 44) (.t 49) (.c (.bool false)), some (38, false)⟩, ⟨some 51, .pick (.t 38) (.c (.bool true)) (.t 50), none⟩])
 (.cond (.t 51) (.reg false [] [2, 3, 4] [⟨some 52, .ld 3 true (.t 3), none⟩, ⟨some 53, .ld 3 true (.t 2), none⟩, ⟨none, .st 3 [] (.t 2) (.t 52), none⟩, ⟨none, .st 3 [] (.t 3) (.t 53), none⟩])
 .skip))
 (.seq (.reg false [] [2, 3, 4, 7, 8] [⟨some 55, .fad 1 (.t 2), none⟩, ⟨some 56, .ld 1 false (.t 55), none⟩, ⟨some 57, .fad 1 (.t 3), none⟩, ⟨some 58, .ld 1 false (.t 57), none⟩, ⟨some 59, .sub64 (.t 56) (.t 58) (.c (.int .u64 0)), none⟩, ⟨some 54, .mov (.t 59), none⟩, ⟨some 60, .ext 0 (.t 54), none⟩, ⟨some 61, .ext 1 (.t 54), none⟩, ⟨some 7, .mov (.t 60), none⟩, ⟨some 8, .mov (.t 61), none⟩])
 (.seq (.reg false [] [4] [⟨some 62, .fad 0 (.t 2), none⟩, ⟨some 63, .ld 1 false (.t 62), none⟩, ⟨some 64, .fad 0 (.t 3), none⟩, ⟨some 65, .ld 1 false (.t 64), none⟩, ⟨some 66, .bin .sub (.t 63) (.t 65), none⟩, ⟨some 67, .mov (.t 8), none⟩, ⟨some 68, .bin .sub (.t 66) (.t 67), none⟩, ⟨some 69, .mov (.t 7), none⟩, ⟨some 70, .fad 2 (.t 2), none⟩, ⟨some 71, .ld 1 false (.t 70), none⟩, ⟨some 72, .call 113 [(.t 68), (.t 69), (.t 71)] [], none⟩, ⟨none, .st 3 [] (.t 4) (.t 72), none⟩])
 .ret))))) }

/-- sewershed/wide.value -/
def N108_wide_value : NFun := { np := 1, nt := 37, res := [(2, some (3, true))], body :=
 (.seq (.reg false [] [1, 2] [⟨some 1, .boxF (.t 0), none⟩, ⟨some 2, .alc [.int .u64 0, .int .u64 0, .bool false], none⟩])
 (.seq (.reg false [] [1, 2, 3] [⟨some 7, .fad 0 (.t 1), none⟩, ⟨some 8, .ld 1 false (.t 7), none⟩, ⟨some 9, .call 112 [(.t 8)] [], none⟩, ⟨some 3, .mov (.t 9), none⟩])
 (.seq (.reg false [] [1, 2, 4, 5] [⟨some 10, .mov (.t 3), none⟩, ⟨some 11, .bin .shr (.t 10) (.c (.int .u64 4)), none⟩, ⟨some 12, .mov (.t 3), none⟩, ⟨some 13, .bin .shl (.t 12) (.c (.int .u64 60)), none⟩, ⟨some 4, .mov (.t 11), none⟩, ⟨some 5, .mov (.t 13), none⟩])
 (.seq (.seq (.reg false [] [1, 2, 4, 5, 16] [⟨some 14, .fad 0 (.t 1), none⟩, ⟨some 15, .ld 1 false (.t 14), none⟩, ⟨some 16, .bin .geq (.t 15) (.c (.int .i64 0)), none⟩])
 (.cond (.t 16) (.seq (.reg false [] [2] [⟨some 17, .mov (.t 4), none⟩, ⟨some 18, .mov (.t 5), none⟩, ⟨some 19, .fad 1 (.t 1), none⟩, ⟨some 20, .ld 1 false (.t 19), none⟩, ⟨some 21, .conv .u64 (.t 20), none⟩, ⟨some 22, .bin .or (.t 18) (.t 21), none⟩, ⟨some 23, .bld [.int .u64 0, .int .u64 0, .bool false] [(0, 1, (.t 17)), (1, 1, (.t 22)), (2, 1, (.c (.bool false)))], none⟩, ⟨none, .st 3 [] (.t 2) (.t 23), none⟩])
 .ret)
 .skip))
 (.seq (.reg false [] [2, 4, 5, 6] [⟨some 25, .mov (.t 5), none⟩, ⟨some 26, .fad 1 (.t 1), none⟩, ⟨some 27, .ld 1 false (.t 26), none⟩, ⟨some 28, .conv .u64 (.t 27), none⟩, ⟨some 29, .sub64 (.t 25) (.t 28) (.c (.int .u64 0)), none⟩, ⟨some 24, .mov (.t 29), none⟩, ⟨some 30, .ext 0 (.t 24), none⟩, ⟨some 31, .ext 1 (.t 24), none⟩, ⟨some 5, .mov (.t 30), none⟩, ⟨some 6, .mov (.t 31), none⟩])
 (.seq (.reg false [] [2] [⟨some 32, .mov (.t 4), none⟩, ⟨some 33, .mov (.t 6), none⟩, ⟨some 34, .bin .sub (.t 32) (.t 33), none⟩, ⟨some 35, .mov (.t 5), none⟩, ⟨some 36, .bld [.int .u64 0, .int .u64 0, .bool false] [(0, 1, (.t 34)), (1, 1, (.t 35)), (2, 1, (.c (.bool true)))], none⟩, ⟨none, .st 3 [] (.t 2) (.t 36), none⟩])
 .ret)))))) }

/-- sewershed/wide.whole -/
def N110_wide_whole : NFun := { np := 2, nt := 24, res := [(4, none), (5, none)], body :=
 (.seq (.reg false [] [0, 1] [⟨some 4, .mov (.c (.int .i64 0)), none⟩, ⟨some 5, .mov (.c (.int .i64 0)), none⟩])
 (.seq (.block 0 (.seq (.reg false [] [0, 1, 6] [⟨some 7, .mov (.t 1), none⟩, ⟨some 8, .un .not (.t 7), none⟩, ⟨some 9, .mov (.t 8), none⟩, ⟨some 10, .mov (.t 0), some (9, true)⟩, ⟨some 11, .bin .leq (.t 10) (.c (.int .u64 9223372036854775807)), some (9, true)⟩, ⟨some 12, .pick (.t 9) (.t 11) (.c (.bool false)), none⟩, ⟨some 6, .mov (.t 12), none⟩])
 (.cond (.t 6) (.seq (.reg false [] [4, 5] [⟨some 13, .mov (.t 0), none⟩, ⟨some 14, .conv .i64 (.t 13), none⟩, ⟨some 4, .mov (.t 14), none⟩, ⟨some 5, .mov (.c (.int .i64 0)), none⟩])
 .ret)
 (.seq (.reg false [] [0, 15] [⟨some 16, .mov (.t 1), none⟩, ⟨some 17, .mov (.t 16), none⟩, ⟨some 18, .mov (.t 0), some (17, true)⟩, ⟨some 19, .bin .leq (.t 18) (.c (.int .u64 9223372036854775808)), some (17, true)⟩, ⟨some 20, .pick (.t 17) (.t 19) (.c (.bool false)), none⟩, ⟨some 15, .mov (.t 20), none⟩])
 (.cond (.t 15) (.seq (.reg false [] [4, 5] [⟨some 21, .mov (.t 0), none⟩, ⟨some 22, .un .neg (.t 21), none⟩, ⟨some 23, .conv .i64 (.t 22), none⟩, ⟨some 4, .mov (.t 23), none⟩, ⟨some 5, .mov (.c (.int .i64 0)), none⟩])
 .ret)
 .skip)))))
 (.seq (.reg false [] [4, 5] [⟨some 4, .mov (.c (.int .i64 0)), none⟩, ⟨some 5, .mov (.c (.int .i64 5)), none⟩])
 .ret))) }

def S1 : List UInt8 := [0, 1, 2, 2, 3, 3, 3, 3, 4, 4, 4, 4, 4, 4, 4, 4, 5, 5, 5, 5, 5, 5, 5, 5, 5, 5, 5, 5, 5, 5, 5, 5, 6, 6, 6, 6, 6, 6, 6, 6, 6, 6, 6, 6, 6, 6, 6, 6, 6, 6, 6, 6, 6, 6, 6, 6, 6, 6, 6, 6, 6, 6, 6, 6, 7, 7, 7, 7, 7, 7, 7, 7, 7, 7, 7, 7, 7, 7, 7, 7, 7, 7, 7, 7, 7, 7, 7, 7, 7, 7, 7, 7, 7, 7, 7, 7, 7, 7, 7, 7, 7, 7, 7, 7, 7, 7, 7, 7, 7, 7, 7, 7, 7, 7, 7, 7, 7, 7, 7, 7, 7, 7, 7, 7, 7, 7, 7, 7, 8, 8, 8, 8, 8, 8, 8, 8, 8, 8, 8, 8, 8, 8, 8, 8, 8, 8, 8, 8, 8, 8, 8, 8, 8, 8, 8, 8, 8, 8, 8, 8, 8, 8, 8, 8, 8, 8, 8, 8, 8, 8, 8, 8, 8, 8, 8, 8, 8, 8, 8, 8, 8, 8, 8, 8, 8, 8, 8, 8, 8, 8, 8, 8, 8, 8, 8, 8, 8, 8, 8, 8, 8, 8, 8, 8, 8, 8, 8, 8, 8, 8, 8, 8, 8, 8, 8, 8, 8, 8, 8, 8, 8, 8, 8, 8, 8, 8, 8, 8, 8, 8, 8, 8, 8, 8, 8, 8, 8, 8, 8, 8, 8, 8, 8, 8, 8, 8, 8, 8, 8, 8, 8, 8, 8, 8, 8, 8]

/-- math/bits.Len64 -/
def N111_math_bits_Len64 : NFun := { np := 1, nt := 25, res := [(2, none)], body :=
 (.seq (.reg false [] [0, 2] [⟨some 2, .mov (.c (.int .i64 0)), none⟩])
 (.seq (.seq (.reg false [] [0, 2, 4] [⟨some 3, .mov (.t 0), none⟩, ⟨some 4, .bin .geq (.t 3) (.c (.int .u64 4294967296)), none⟩])
 (.cond (.t 4) (.seq (.reg false [] [0] [⟨some 5, .mov (.t 0), none⟩, ⟨some 6, .bin .shr (.t 5) (.c (.int .u64 32)), none⟩, ⟨some 0, .mov (.t 6), none⟩])
 (.reg false [] [0, 2] [⟨some 2, .mov (.c (.int .i64 32)), none⟩]))
 .skip))
 (.seq (.seq (.reg false [] [0, 2, 8] [⟨some 7, .mov (.t 0), none⟩, ⟨some 8, .bin .geq (.t 7) (.c (.int .u64 65536)), none⟩])
 (.cond (.t 8) (.seq (.reg false [] [0, 2] [⟨some 9, .mov (.t 0), none⟩, ⟨some 10, .bin .shr (.t 9) (.c (.int .u64 16)), none⟩, ⟨some 0, .mov (.t 10), none⟩])
 (.reg false [] [0, 2] [⟨some 11, .mov (.t 2), none⟩, ⟨some 12, .bin .add (.t 11) (.c (.int .i64 16)), none⟩, ⟨some 2, .mov (.t 12), none⟩]))
 .skip))
 (.seq (.seq (.reg false [] [0, 2, 14] [⟨some 13, .mov (.t 0), none⟩, ⟨some 14, .bin .geq (.t 13) (.c (.int .u64 256)), none⟩])
 (.cond (.t 14) (.seq (.reg false [] [0, 2] [⟨some 15, .mov (.t 0), none⟩, ⟨some 16, .bin .shr (.t 15) (.c (.int .u64 8)), none⟩, ⟨some 0, .mov (.t 16), none⟩])
 (.reg false [] [0, 2] [⟨some 17, .mov (.t 2), none⟩, ⟨some 18, .bin .add (.t 17) (.c (.int .i64 8)), none⟩, ⟨some 2, .mov (.t 18), none⟩]))
 .skip))
 (.seq (.reg false [] [2] [⟨some 19, .mov (.t 2), none⟩, ⟨some 20, .mov (.t 0), none⟩, ⟨some 21, .conv .u8 (.t 20), none⟩, ⟨some 22, .idxS (.c (.str S1)) (.t 21), none⟩, ⟨some 23, .conv .i64 (.t 22), none⟩, ⟨some 24, .bin .add (.t 19) (.t 23), none⟩, ⟨some 2, .mov (.t 24), none⟩])
 .ret))))) }

/-- sewershed/wide.size -/
def N112_wide_size : NFun := { np := 1, nt := 10, res := [(2, none)], body :=
 (.seq (.reg false [] [0] [⟨some 2, .mov (.c (.int .u64 0)), none⟩])
 (.seq (.seq (.reg false [] [0, 4] [⟨some 3, .mov (.t 0), none⟩, ⟨some 4, .bin .lss (.t 3) (.c (.int .i64 0)), none⟩])
 (.cond (.t 4) (.seq (.reg false [] [2] [⟨some 5, .mov (.t 0), none⟩, ⟨some 6, .conv .u64 (.t 5), none⟩, ⟨some 7, .un .neg (.t 6), none⟩, ⟨some 2, .mov (.t 7), none⟩])
 .ret)
 .skip))
 (.seq (.reg false [] [2] [⟨some 8, .mov (.t 0), none⟩, ⟨some 9, .conv .u64 (.t 8), none⟩, ⟨some 2, .mov (.t 9), none⟩])
 .ret))) }

/-- sewershed/wide.signed -/
def N113_wide_signed : NFun := { np := 3, nt := 19, res := [(6, some (3, true))], body :=
 (.seq (.reg false [] [0, 1, 2, 6] [⟨some 6, .alc [.int .u64 0, .int .u64 0, .bool false], none⟩])
 (.seq (.reg false [] [6] [⟨some 7, .mov (.t 0), none⟩, ⟨some 8, .mov (.t 1), none⟩, ⟨some 9, .mov (.t 2), none⟩, ⟨some 10, .mov (.t 9), none⟩, ⟨some 11, .mov (.t 0), some (10, true)⟩, ⟨some 12, .bin .neq (.t 11) (.c (.int .u64 0)), some (10, true)⟩, ⟨some 13, .mov (.t 12), some (10, true)⟩, ⟨some 14, .mov (.t 1), some (13, false)⟩, ⟨some 15, .bin .neq (.t 14) (.c (.int .u64 0)), some (13, false)⟩, ⟨some 16, .pick (.t 13) (.c (.bool true)) (.t 15), some (10, true)⟩, ⟨some 17, .pick (.t 10) (.t 16) (.c (.bool false)), none⟩, ⟨some 18, .bld [.int .u64 0, .int .u64 0, .bool false] [(0, 1, (.t 7)), (1, 1, (.t 8)), (2, 1, (.t 17))], none⟩, ⟨none, .st 3 [] (.t 6) (.t 18), none⟩])
 .ret)) }

/-- sewershed/sewershedref09.Valid -/
def N215_ref09_Valid : NFun := { np := 1, nt := 11, res := [(2, none)], body :=
 (.seq (.reg false [] [1] [⟨some 1, .boxF (.t 0), none⟩, ⟨some 2, .mov (.c (.bool false)), none⟩])
 (.seq (.reg false [] [2] [⟨some 3, .ld 2 true (.t 1), none⟩, ⟨some 4, .call 257 [(.t 3)] [], none⟩, ⟨some 5, .mov (.t 4), none⟩, ⟨some 6, .ld 2 true (.t 1), some (5, true)⟩, ⟨some 7, .call 258 [(.t 6)] [], some (5, true)⟩, ⟨some 8, .len (.t 7), some (5, true)⟩, ⟨some 9, .bin .eql (.t 8) (.c (.int .i64 0)), some (5, true)⟩, ⟨some 10, .pick (.t 5) (.t 9) (.c (.bool false)), none⟩, ⟨some 2, .mov (.t 10), none⟩])
 .ret)) }

/-- sewershed/sewershedlaw13.awake -/
def N227_law13_awake : NFun := { np := 0, nt := 57, res := [(0, none)], body :=
 (.seq (.reg false [] [] [⟨some 0, .mov (.c (.bool false)), none⟩])
 (.seq (.reg false [] [1] [⟨some 9, .bld [.int .i64 0, .int .i64 0, .int .i64 0] [(2, 1, (.c (.int .i64 100)))], none⟩, ⟨some 10, .bld [.int .i64 0, .int .i64 0, .int .i64 0] [(0, 1, (.c (.int .i64 1000))), (2, 1, (.c (.int .i64 200)))], none⟩, ⟨some 11, .bld [.int .i64 0, .int .i64 0, .int .i64 0] [(1, 1, (.c (.int .i64 1000))), (2, 1, (.c (.int .i64 400)))], none⟩, ⟨some 12, .bls 3 3 [.int .i64 0, .int .i64 0, .int .i64 0] [] [(0, (.t 9)), (1, (.t 10)), (2, (.t 11))], none⟩, ⟨some 13, .bld [.int .i64 0, .int .i64 0, .int .i64 0, .int .i64 0] [(0, 1, (.c (.int .i64 0))), (1, 1, (.c (.int .i64 1))), (2, 1, (.c (.int .i64 2)))], none⟩, ⟨some 14, .bls 4 1 [.int .i64 0, .int .i64 0, .int .i64 0, .int .i64 0] [] [(0, (.t 13))], none⟩, ⟨some 15, .bld [.nils, .nils] [(0, 1, (.t 12)), (1, 1, (.t 14))], none⟩, ⟨some 1, .alc [.own 3 [], .own 4 []], none⟩, ⟨none, .st 2 [] (.t 1) (.t 15), none⟩])
 (.seq (.reg false [] [1, 2, 3, 4] [⟨some 17, .ld 2 true (.t 1), none⟩, ⟨some 18, .bld [.int .i64 0, .int .i64 0] [(0, 1, (.c (.int .i64 250))), (1, 1, (.c (.int .i64 500)))], none⟩, ⟨some 19, .call 269 [(.t 17), (.t 18)] [], none⟩, ⟨some 16, .mov (.t 19), none⟩, ⟨some 20, .ext 0 (.t 16), none⟩, ⟨some 21, .ext 1 (.t 16), none⟩, ⟨some 22, .ext 2 (.t 16), none⟩, ⟨some 2, .alc [.int .i64 0, .int .i64 0], none⟩, ⟨none, .st 2 [] (.t 2) (.t 20), none⟩, ⟨some 3, .mov (.t 21), none⟩, ⟨some 4, .mov (.t 22), none⟩])
 (.seq (.reg false [] [1, 3, 4, 5, 6] [⟨some 24, .ld 2 true (.t 2), none⟩, ⟨some 25, .call 101 [(.t 24)] [], none⟩, ⟨some 23, .mov (.t 25), none⟩, ⟨some 26, .ext 0 (.t 23), none⟩, ⟨some 27, .ext 1 (.t 23), none⟩, ⟨some 5, .mov (.t 26), none⟩, ⟨some 6, .mov (.t 27), none⟩])
 (.seq (.reg false [] [3, 4, 5, 6, 7, 8] [⟨some 29, .ld 2 true (.t 1), none⟩, ⟨some 30, .bld [.int .i64 0, .int .i64 0] [(0, 1, (.c (.int .i64 1))), (1, 1, (.c (.int .i64 1)))], none⟩, ⟨some 31, .call 233 [(.t 29), (.t 30)] [], none⟩, ⟨some 28, .mov (.t 31), none⟩, ⟨some 32, .ext 0 (.t 28), none⟩, ⟨some 33, .ext 1 (.t 28), none⟩, ⟨some 7, .alc [.int .i64 0, .int .i64 0], none⟩, ⟨none, .st 2 [] (.t 7) (.t 32), none⟩, ⟨some 8, .mov (.t 33), none⟩])
 (.seq (.reg false [] [0] [⟨some 34, .mov (.t 4), none⟩, ⟨some 35, .bin .eql (.t 34) (.c (.int .i64 0)), none⟩, ⟨some 36, .mov (.t 35), none⟩, ⟨some 37, .mov (.t 6), some (36, true)⟩, ⟨some 38, .bin .eql (.t 37) (.c (.int .i64 0)), some (36, true)⟩, ⟨some 39, .pick (.t 36) (.t 38) (.c (.bool false)), none⟩, ⟨some 40, .mov (.t 39), none⟩, ⟨some 41, .mov (.t 5), some (40, true)⟩, ⟨some 42, .bin .eql (.t 41) (.c (.int .i64 275000000)), some (40, true)⟩, ⟨some 43, .pick (.t 40) (.t 42) (.c (.bool false)), none⟩, ⟨some 44, .mov (.t 43), none⟩, ⟨some 45, .mov (.t 3), some (44, true)⟩, ⟨some 46, .bin .eql (.t 45) (.c (.int .i64 1000000)), some (44, true)⟩, ⟨some 47, .pick (.t 44) (.t 46) (.c (.bool false)), none⟩, ⟨some 48, .mov (.t 47), none⟩, ⟨some 49, .mov (.t 8), some (48, true)⟩, ⟨some 50, .bin .eql (.t 49) (.c (.int .i64 0)), some (48, true)⟩, ⟨some 51, .pick (.t 48) (.t 50) (.c (.bool false)), none⟩, ⟨some 52, .mov (.t 51), none⟩, ⟨some 53, .ld 2 true (.t 7), some (52, true)⟩, ⟨some 54, .bld [.int .i64 0, .int .i64 0] [(0, 1, (.c (.int .i64 100))), (1, 1, (.c (.int .i64 101)))], some (52, true)⟩, ⟨some 55, .beq false [0, 0] (.t 53) (.t 54), some (52, true)⟩, ⟨some 56, .pick (.t 52) (.t 55) (.c (.bool false)), none⟩, ⟨some 0, .mov (.t 56), none⟩])
 .ret)))))) }

/-- sewershed/sewershedlaw13.few -/
def N229_law13_few : NFun := { np := 1, nt := 13, res := [(2, none)], body :=
 (.seq (.reg false [] [1] [⟨some 1, .boxF (.t 0), none⟩, ⟨some 2, .mov (.c (.bool false)), none⟩])
 (.seq (.reg false [] [2] [⟨some 3, .fad 0 (.t 1), none⟩, ⟨some 4, .ld 1 false (.t 3), none⟩, ⟨some 5, .len (.t 4), none⟩, ⟨some 6, .bin .leq (.t 5) (.c (.int .i64 60)), none⟩, ⟨some 7, .mov (.t 6), none⟩, ⟨some 8, .fad 1 (.t 1), some (7, true)⟩, ⟨some 9, .ld 1 false (.t 8), some (7, true)⟩, ⟨some 10, .len (.t 9), some (7, true)⟩, ⟨some 11, .bin .leq (.t 10) (.c (.int .i64 60)), some (7, true)⟩, ⟨some 12, .pick (.t 7) (.t 11) (.c (.bool false)), none⟩, ⟨some 2, .mov (.t 12), none⟩])
 .ret)) }

/-- sewershed/locate.Level -/
def N233_locate_Level : NFun := { np := 2, nt := 45, res := [(4, some (2, true)), (5, none)], body :=
 (.seq (.reg false [] [2, 3, 4] [⟨some 2, .boxF (.t 0), none⟩, ⟨some 3, .boxF (.t 1), none⟩, ⟨some 4, .alc [.int .i64 0, .int .i64 0], none⟩, ⟨some 5, .mov (.c (.int .i64 0)), none⟩])
 (.seq (.reg false [] [4, 6, 7, 8] [⟨some 12, .ld 2 true (.t 2), none⟩, ⟨some 13, .ld 2 true (.t 3), none⟩, ⟨some 14, .call 269 [(.t 12), (.t 13)] [], none⟩, ⟨some 11, .mov (.t 14), none⟩, ⟨some 15, .ext 0 (.t 11), none⟩, ⟨some 16, .ext 1 (.t 11), none⟩, ⟨some 17, .ext 2 (.t 11), none⟩, ⟨some 6, .alc [.int .i64 0, .int .i64 0], none⟩, ⟨none, .st 2 [] (.t 6) (.t 15), none⟩, ⟨some 7, .mov (.t 16), none⟩, ⟨some 8, .mov (.t 17), none⟩])
 (.seq (.seq (.reg false [] [4, 6, 7, 8, 19] [⟨some 18, .mov (.t 8), none⟩, ⟨some 19, .bin .neq (.t 18) (.c (.int .i64 0)), none⟩])
 (.cond (.t 19) (.seq (.reg false [] [4, 5] [⟨some 20, .bld [.int .i64 0, .int .i64 0] [], none⟩, ⟨some 21, .mov (.t 8), none⟩, ⟨none, .st 2 [] (.t 4) (.t 20), none⟩, ⟨some 5, .mov (.t 21), none⟩])
 .ret)
 .skip))
 (.seq (.reg false [] [4, 6, 7, 8, 9] [⟨some 23, .ld 2 true (.t 6), none⟩, ⟨some 24, .mov (.t 7), none⟩, ⟨some 25, .call 271 [(.t 23), (.t 24)] [], none⟩, ⟨some 22, .mov (.t 25), none⟩, ⟨some 26, .ext 0 (.t 22), none⟩, ⟨some 27, .ext 1 (.t 22), none⟩, ⟨some 9, .mov (.t 26), none⟩, ⟨some 8, .mov (.t 27), none⟩])
 (.seq (.seq (.reg false [] [4, 6, 7, 8, 9, 29] [⟨some 28, .mov (.t 8), none⟩, ⟨some 29, .bin .neq (.t 28) (.c (.int .i64 0)), none⟩])
 (.cond (.t 29) (.seq (.reg false [] [4, 5] [⟨some 30, .bld [.int .i64 0, .int .i64 0] [], none⟩, ⟨some 31, .mov (.t 8), none⟩, ⟨none, .st 2 [] (.t 4) (.t 30), none⟩, ⟨some 5, .mov (.t 31), none⟩])
 .ret)
 .skip))
 (.seq (.reg false [] [4, 8, 9, 10] [⟨some 33, .ld 2 true (.t 6), none⟩, ⟨some 34, .mov (.t 7), none⟩, ⟨some 35, .call 272 [(.t 33), (.t 34)] [], none⟩, ⟨some 32, .mov (.t 35), none⟩, ⟨some 36, .ext 0 (.t 32), none⟩, ⟨some 37, .ext 1 (.t 32), none⟩, ⟨some 10, .mov (.t 36), none⟩, ⟨some 8, .mov (.t 37), none⟩])
 (.seq (.seq (.reg false [] [4, 8, 9, 10, 39] [⟨some 38, .mov (.t 8), none⟩, ⟨some 39, .bin .neq (.t 38) (.c (.int .i64 0)), none⟩])
 (.cond (.t 39) (.seq (.reg false [] [4, 5] [⟨some 40, .bld [.int .i64 0, .int .i64 0] [], none⟩, ⟨some 41, .mov (.t 8), none⟩, ⟨none, .st 2 [] (.t 4) (.t 40), none⟩, ⟨some 5, .mov (.t 41), none⟩])
 .ret)
 .skip))
 (.seq (.reg false [] [4, 5] [⟨some 42, .mov (.t 9), none⟩, ⟨some 43, .mov (.t 10), none⟩, ⟨some 44, .bld [.int .i64 0, .int .i64 0] [(0, 1, (.t 42)), (1, 1, (.t 43))], none⟩, ⟨none, .st 2 [] (.t 4) (.t 44), none⟩, ⟨some 5, .mov (.c (.int .i64 0)), none⟩])
 .ret)))))))) }

/-- sewershed/mesh.Valid -/
def N234_mesh_Valid : NFun := { np := 1, nt := 17, res := [(2, none)], body :=
 (.seq (.reg false [] [1] [⟨some 1, .boxF (.t 0), none⟩, ⟨some 2, .mov (.c (.bool false)), none⟩])
 (.seq (.reg false [] [3, 4] [⟨some 6, .ld 2 true (.t 1), none⟩, ⟨some 7, .call 273 [(.t 6)] [], none⟩, ⟨some 5, .mov (.t 7), none⟩, ⟨some 8, .ext 0 (.t 5), none⟩, ⟨some 9, .ext 1 (.t 5), none⟩, ⟨some 3, .asg (.t 8), none⟩, ⟨some 4, .mov (.t 9), none⟩])
 (.seq (.reg false [] [2] [⟨some 10, .mov (.t 4), none⟩, ⟨some 11, .bin .eql (.t 10) (.c (.int .i64 0)), none⟩, ⟨some 12, .mov (.t 11), none⟩, ⟨some 13, .asg (.t 3), some (12, true)⟩, ⟨some 14, .len (.t 13), some (12, true)⟩, ⟨some 15, .bin .eql (.t 14) (.c (.int .i64 0)), some (12, true)⟩, ⟨some 16, .pick (.t 12) (.t 15) (.c (.bool false)), none⟩, ⟨some 2, .mov (.t 16), none⟩])
 .ret))) }

/-- sewershed/sewershedref07.Valid -/
def N237_ref07_Valid : NFun := { np := 1, nt := 21, res := [(2, none)], body :=
 (.seq (.reg false [] [1] [⟨some 1, .boxF (.t 0), none⟩, ⟨some 2, .mov (.c (.bool false)), none⟩])
 (.seq (.reg false [] [2] [⟨some 3, .fad 0 (.t 1), none⟩, ⟨some 4, .ld 1 false (.t 3), none⟩, ⟨some 5, .bin .geq (.t 4) (.c (.int .i64 (-16777216))), none⟩, ⟨some 6, .mov (.t 5), none⟩, ⟨some 7, .fad 0 (.t 1), some (6, true)⟩, ⟨some 8, .ld 1 false (.t 7), some (6, true)⟩, ⟨some 9, .bin .leq (.t 8) (.c (.int .i64 16777216)), some (6, true)⟩, ⟨some 10, .pick (.t 6) (.t 9) (.c (.bool false)), none⟩, ⟨some 11, .mov (.t 10), none⟩, ⟨some 12, .fad 1 (.t 1), some (11, true)⟩, ⟨some 13, .ld 1 false (.t 12), some (11, true)⟩, ⟨some 14, .bin .geq (.t 13) (.c (.int .i64 (-16777216))), some (11, true)⟩, ⟨some 15, .pick (.t 11) (.t 14) (.c (.bool false)), none⟩, ⟨some 16, .mov (.t 15), none⟩, ⟨some 17, .fad 1 (.t 1), some (16, true)⟩, ⟨some 18, .ld 1 false (.t 17), some (16, true)⟩, ⟨some 19, .bin .leq (.t 18) (.c (.int .i64 16777216)), some (16, true)⟩, ⟨some 20, .pick (.t 16) (.t 19) (.c (.bool false)), none⟩, ⟨some 2, .mov (.t 20), none⟩])
 .ret)) }

/-- slices.ContainsFunc[[]sewershed/api.Point,sewershed/api.Point] -/
def N239_slices_ContainsFunc__api_Point_api_Point : NFun := { np := 2, nt := 9, res := [(4, none)], body :=
 (.seq (.reg false [] [0, 1] [⟨some 4, .mov (.c (.bool false)), none⟩])
 (.seq (.reg false [] [4] [⟨some 5, .asg (.t 0), none⟩, ⟨some 6, .mov (.t 1), none⟩, ⟨some 7, .call 278 [(.t 5), (.t 6)] [], none⟩, ⟨some 8, .bin .geq (.t 7) (.c (.int .i64 0)), none⟩, ⟨some 4, .mov (.t 8), none⟩])
 .ret)) }

/-- sewershed/sewershedlaw13.right -/
def N250_law13_right : NFun := { np := 2, nt := 11, res := [(4, none)], body :=
 (.seq (.reg false [] [2, 3] [⟨some 2, .boxF (.t 0), none⟩, ⟨some 3, .boxF (.t 1), none⟩, ⟨some 4, .mov (.c (.bool false)), none⟩])
 (.seq (.reg false [] [4] [⟨some 5, .ld 2 true (.t 2), none⟩, ⟨some 6, .call 215 [(.t 5)] [], none⟩, ⟨some 7, .mov (.t 6), none⟩, ⟨some 8, .ld 2 true (.t 3), some (7, true)⟩, ⟨some 9, .call 237 [(.t 8)] [], some (7, true)⟩, ⟨some 10, .pick (.t 7) (.t 9) (.c (.bool false)), none⟩, ⟨some 4, .mov (.t 10), none⟩])
 .ret)) }

/-- sewershed/sewershedref09.Small -/
def N257_ref09_Small : NFun := { np := 1, nt := 13, res := [(2, none)], body :=
 (.seq (.reg false [] [1] [⟨some 1, .boxF (.t 0), none⟩, ⟨some 2, .mov (.c (.bool false)), none⟩])
 (.seq (.reg false [] [2] [⟨some 3, .fad 0 (.t 1), none⟩, ⟨some 4, .ld 1 false (.t 3), none⟩, ⟨some 5, .len (.t 4), none⟩, ⟨some 6, .bin .leq (.t 5) (.c (.int .i64 2000)), none⟩, ⟨some 7, .mov (.t 6), none⟩, ⟨some 8, .fad 1 (.t 1), some (7, true)⟩, ⟨some 9, .ld 1 false (.t 8), some (7, true)⟩, ⟨some 10, .len (.t 9), some (7, true)⟩, ⟨some 11, .bin .leq (.t 10) (.c (.int .i64 4000)), some (7, true)⟩, ⟨some 12, .pick (.t 7) (.t 11) (.c (.bool false)), none⟩, ⟨some 2, .mov (.t 12), none⟩])
 .ret)) }

/-- sewershed/sewershedref09.Check -/
def N258_ref09_Check : NFun := { np := 1, nt := 177, res := [(2, none)], body :=
 (.seq (.reg false [] [1] [⟨some 1, .boxF (.t 0), none⟩, ⟨some 2, .mov (.c .nils), none⟩])
 (.seq (.reg false [] [1, 3] [⟨some 15, .mks 1 24 [.own 2 []] (.c (.int .i64 7)) (.c (.int .i64 7)), none⟩, ⟨some 3, .asg (.t 15), none⟩])
 (.seq (.seq (.reg false [] [1, 3, 4] [⟨some 4, .mov (.c (.int .i64 0)), none⟩])
 (.block 0 (.loop (.seq (.seq (.reg false [] [1, 3, 4, 20] [⟨some 16, .mov (.t 4), none⟩, ⟨some 17, .fad 0 (.t 1), none⟩, ⟨some 18, .ld 1 false (.t 17), none⟩, ⟨some 19, .len (.t 18), none⟩, ⟨some 20, .bin .lss (.t 16) (.t 19), none⟩])
 (.cond (.t 20) .skip
 (.exit 0)))
 (.seq (.block 1 (.seq (.reg false [] [1, 3, 4, 5] [⟨some 23, .fad 0 (.t 1), none⟩, ⟨some 24, .ld 1 false (.t 23), none⟩, ⟨some 25, .mov (.t 4), none⟩, ⟨some 26, .iadS 3 (.t 24) (.t 25), none⟩, ⟨some 27, .ld 3 true (.t 26), none⟩, ⟨some 5, .alc [.int .i64 0, .int .i64 0, .int .i64 0], none⟩, ⟨none, .st 3 [] (.t 5) (.t 27), none⟩])
 (.seq (.seq (.reg false [] [1, 3, 4, 5, 30] [⟨some 28, .ld 3 true (.t 5), none⟩, ⟨some 29, .call 289 [(.t 28)] [], none⟩, ⟨some 30, .un .not (.t 29), none⟩])
 (.cond (.t 30) (.seq (.reg true [0, 0, 2, 6, 0, 16, 48, 112, 254, 511, 1023] [1, 3, 4] [⟨some 31, .mov (.t 3), none⟩, ⟨some 32, .mov (.t 3), none⟩, ⟨some 33, .iadS 1 (.t 32) (.c (.int .i64 1)), none⟩, ⟨some 34, .ld 1 false (.t 33), none⟩, ⟨some 35, .mov (.t 4), none⟩, ⟨some 36, .call 290 [(.t 35)] [], none⟩, ⟨some 37, .bld [.int .i64 0, .str []] [(0, 1, (.c (.int .i64 1))), (1, 1, (.t 36))], none⟩, ⟨some 38, .bls 2 1 [.int .i64 0, .str []] [] [(0, (.t 37))], none⟩, ⟨some 39, .app 2 24 false (.t 34) (.t 38), none⟩, ⟨some 40, .iadS 1 (.t 31) (.c (.int .i64 1)), none⟩, ⟨none, .st 1 [] (.t 40) (.t 39), none⟩])
 (.exit 1))
 .skip))
 (.seq (.reg false [] [1, 3, 4, 5, 6] [⟨some 6, .mov (.c (.int .i64 0)), none⟩])
 (.block 2 (.loop (.seq (.seq (.reg false [] [1, 3, 4, 5, 6, 43] [⟨some 41, .mov (.t 6), none⟩, ⟨some 42, .mov (.t 4), none⟩, ⟨some 43, .bin .lss (.t 41) (.t 42), none⟩])
 (.cond (.t 43) .skip
 (.exit 2)))
 (.seq (.block 3 (.seq (.reg true [0, 1, 0, 7, 15, 31, 63, 127, 255, 127, 1023, 2047, 4095, 127, 16383, 32767, 65535] [1, 3, 4, 5, 6, 62] [⟨some 46, .fad 0 (.t 1), none⟩, ⟨some 47, .ld 1 false (.t 46), none⟩, ⟨some 48, .mov (.t 6), none⟩, ⟨some 49, .iadS 3 (.t 47) (.t 48), none⟩, ⟨some 50, .ld 3 true (.t 49), none⟩, ⟨some 51, .call 289 [(.t 50)] [], none⟩, ⟨some 52, .mov (.t 51), none⟩, ⟨some 53, .fad 0 (.t 1), some (52, true)⟩, ⟨some 54, .ld 1 false (.t 53), some (52, true)⟩, ⟨some 55, .mov (.t 6), some (52, true)⟩, ⟨some 56, .iadS 3 (.t 54) (.t 55), some (52, true)⟩, ⟨some 57, .ld 3 true (.t 56), some (52, true)⟩, ⟨some 58, .call 291 [(.t 57)] [], some (52, true)⟩, ⟨some 59, .ld 3 true (.t 5), some (52, true)⟩, ⟨some 60, .call 291 [(.t 59)] [], some (52, true)⟩, ⟨some 61, .beq false [0, 0] (.t 58) (.t 60), some (52, true)⟩, ⟨some 62, .pick (.t 52) (.t 61) (.c (.bool false)), none⟩])
 (.cond (.t 62) (.seq (.reg true [0, 0, 2, 6, 0, 16, 48, 112, 254, 511, 1023] [1, 3, 4] [⟨some 63, .mov (.t 3), none⟩, ⟨some 64, .mov (.t 3), none⟩, ⟨some 65, .iadS 1 (.t 64) (.c (.int .i64 2)), none⟩, ⟨some 66, .ld 1 false (.t 65), none⟩, ⟨some 67, .mov (.t 4), none⟩, ⟨some 68, .call 290 [(.t 67)] [], none⟩, ⟨some 69, .bld [.int .i64 0, .str []] [(0, 1, (.c (.int .i64 2))), (1, 1, (.t 68))], none⟩, ⟨some 70, .bls 2 1 [.int .i64 0, .str []] [] [(0, (.t 69))], none⟩, ⟨some 71, .app 2 24 false (.t 66) (.t 70), none⟩, ⟨some 72, .iadS 1 (.t 63) (.c (.int .i64 2)), none⟩, ⟨none, .st 1 [] (.t 72) (.t 71), none⟩])
 (.exit 2))
 .skip)))
 (.reg false [] [1, 3, 4, 5, 6] [⟨some 44, .mov (.t 6), none⟩, ⟨some 45, .bin .add (.t 44) (.c (.int .i64 1)), none⟩, ⟨some 6, .mov (.t 45), none⟩])))))))))
 (.reg false [] [1, 3, 4] [⟨some 21, .mov (.t 4), none⟩, ⟨some 22, .bin .add (.t 21) (.c (.int .i64 1)), none⟩, ⟨some 4, .mov (.t 22), none⟩]))))))
 (.seq (.reg false [] [1, 3, 7] [⟨some 7, .nilo 4, none⟩])
 (.seq (.seq (.reg false [] [1, 3, 7, 8] [⟨some 8, .mov (.c (.int .i64 0)), none⟩])
 (.block 4 (.loop (.seq (.seq (.reg false [] [1, 3, 7, 8, 77] [⟨some 73, .mov (.t 8), none⟩, ⟨some 74, .fad 1 (.t 1), none⟩, ⟨some 75, .ld 1 false (.t 74), none⟩, ⟨some 76, .len (.t 75), none⟩, ⟨some 77, .bin .lss (.t 73) (.t 76), none⟩])
 (.cond (.t 77) .skip
 (.exit 4)))
 (.seq (.block 5 (.seq (.reg false [] [1, 3, 7, 8, 9] [⟨some 80, .fad 1 (.t 1), none⟩, ⟨some 81, .ld 1 false (.t 80), none⟩, ⟨some 82, .mov (.t 8), none⟩, ⟨some 83, .iadS 4 (.t 81) (.t 82), none⟩, ⟨some 84, .ld 4 true (.t 83), none⟩, ⟨some 9, .alc [.int .i64 0, .int .i64 0, .int .i64 0, .int .i64 0], none⟩, ⟨none, .st 4 [] (.t 9) (.t 84), none⟩])
 (.seq (.seq (.reg false [] [1, 3, 7, 8, 9, 88] [⟨some 85, .ld 2 true (.t 1), none⟩, ⟨some 86, .ld 4 true (.t 9), none⟩, ⟨some 87, .call 292 [(.t 85), (.t 86)] [], none⟩, ⟨some 88, .un .not (.t 87), none⟩])
 (.cond (.t 88) (.seq (.reg true [0, 0, 2, 6, 0, 16, 48, 112, 254, 511, 1023] [1, 3, 7, 8] [⟨some 89, .mov (.t 3), none⟩, ⟨some 90, .mov (.t 3), none⟩, ⟨some 91, .iadS 1 (.t 90) (.c (.int .i64 3)), none⟩, ⟨some 92, .ld 1 false (.t 91), none⟩, ⟨some 93, .mov (.t 8), none⟩, ⟨some 94, .call 290 [(.t 93)] [], none⟩, ⟨some 95, .bld [.int .i64 0, .str []] [(0, 1, (.c (.int .i64 3))), (1, 1, (.t 94))], none⟩, ⟨some 96, .bls 2 1 [.int .i64 0, .str []] [] [(0, (.t 95))], none⟩, ⟨some 97, .app 2 24 false (.t 92) (.t 96), none⟩, ⟨some 98, .iadS 1 (.t 89) (.c (.int .i64 3)), none⟩, ⟨none, .st 1 [] (.t 98) (.t 97), none⟩])
 (.exit 5))
 .skip))
 (.seq (.seq (.reg false [] [1, 3, 7, 8, 9, 102] [⟨some 99, .ld 2 true (.t 1), none⟩, ⟨some 100, .ld 4 true (.t 9), none⟩, ⟨some 101, .call 293 [(.t 99), (.t 100)] [], none⟩, ⟨some 102, .bin .leq (.t 101) (.c (.int .i64 0)), none⟩])
 (.cond (.t 102) (.seq (.reg true [0, 0, 2, 6, 0, 16, 48, 112, 254, 511, 1023] [1, 3, 7, 8] [⟨some 103, .mov (.t 3), none⟩, ⟨some 104, .mov (.t 3), none⟩, ⟨some 105, .iadS 1 (.t 104) (.c (.int .i64 4)), none⟩, ⟨some 106, .ld 1 false (.t 105), none⟩, ⟨some 107, .mov (.t 8), none⟩, ⟨some 108, .call 290 [(.t 107)] [], none⟩, ⟨some 109, .bld [.int .i64 0, .str []] [(0, 1, (.c (.int .i64 4))), (1, 1, (.t 108))], none⟩, ⟨some 110, .bls 2 1 [.int .i64 0, .str []] [] [(0, (.t 109))], none⟩, ⟨some 111, .app 2 24 false (.t 106) (.t 110), none⟩, ⟨some 112, .iadS 1 (.t 103) (.c (.int .i64 4)), none⟩, ⟨none, .st 1 [] (.t 112) (.t 111), none⟩])
 (.exit 5))
 .skip))
 (.seq (.reg false [] [1, 3, 7, 8, 9, 10, 11] [⟨some 10, .mov (.c (.bool false)), none⟩, ⟨some 11, .mov (.c (.bool false)), none⟩])
 (.seq (.seq (.reg false [] [1, 3, 7, 8, 9, 10, 11, 12] [⟨some 12, .mov (.c (.int .i64 0)), none⟩])
 (.block 6 (.loop (.seq (.seq (.reg false [] [1, 3, 7, 8, 9, 10, 11, 12, 116] [⟨some 113, .mov (.t 12), none⟩, ⟨some 114, .mov (.t 7), none⟩, ⟨some 115, .len (.t 114), none⟩, ⟨some 116, .bin .lss (.t 113) (.t 115), none⟩])
 (.cond (.t 116) .skip
 (.exit 6)))
 (.seq (.block 7 (.seq (.reg true [0, 1, 3, 3, 3, 27, 59, 127, 255, 511] [1, 3, 7, 8, 9, 10, 11, 12] [⟨some 119, .mov (.t 10), none⟩, ⟨some 120, .mov (.t 119), none⟩, ⟨some 121, .ld 4 true (.t 9), some (120, false)⟩, ⟨some 122, .mov (.t 7), some (120, false)⟩, ⟨some 123, .mov (.t 12), some (120, false)⟩, ⟨some 124, .iadS 4 (.t 122) (.t 123), some (120, false)⟩, ⟨some 125, .ld 4 true (.t 124), some (120, false)⟩, ⟨some 126, .call 294 [(.t 121), (.t 125)] [], some (120, false)⟩, ⟨some 127, .pick (.t 120) (.c (.bool true)) (.t 126), none⟩, ⟨some 10, .mov (.t 127), none⟩])
 (.reg true [0, 1, 3, 3, 3, 3, 51, 115, 255, 511, 1023] [1, 3, 7, 8, 9, 10, 11, 12] [⟨some 128, .mov (.t 11), none⟩, ⟨some 129, .mov (.t 128), none⟩, ⟨some 130, .ld 2 true (.t 1), some (129, false)⟩, ⟨some 131, .ld 4 true (.t 9), some (129, false)⟩, ⟨some 132, .mov (.t 7), some (129, false)⟩, ⟨some 133, .mov (.t 12), some (129, false)⟩, ⟨some 134, .iadS 4 (.t 132) (.t 133), some (129, false)⟩, ⟨some 135, .ld 4 true (.t 134), some (129, false)⟩, ⟨some 136, .call 295 [(.t 130), (.t 131), (.t 135)] [], some (129, false)⟩, ⟨some 137, .pick (.t 129) (.c (.bool true)) (.t 136), none⟩, ⟨some 11, .mov (.t 137), none⟩])))
 (.reg false [] [1, 3, 7, 8, 9, 10, 11, 12] [⟨some 117, .mov (.t 12), none⟩, ⟨some 118, .bin .add (.t 117) (.c (.int .i64 1)), none⟩, ⟨some 12, .mov (.t 118), none⟩]))))))
 (.seq (.seq (.reg false [] [1, 3, 7, 8, 9, 11, 138] [⟨some 138, .mov (.t 10), none⟩])
 (.cond (.t 138) (.reg true [0, 0, 2, 6, 0, 16, 48, 112, 254, 511, 1023] [1, 3, 7, 8, 9, 11] [⟨some 139, .mov (.t 3), none⟩, ⟨some 140, .mov (.t 3), none⟩, ⟨some 141, .iadS 1 (.t 140) (.c (.int .i64 5)), none⟩, ⟨some 142, .ld 1 false (.t 141), none⟩, ⟨some 143, .mov (.t 8), none⟩, ⟨some 144, .call 290 [(.t 143)] [], none⟩, ⟨some 145, .bld [.int .i64 0, .str []] [(0, 1, (.c (.int .i64 5))), (1, 1, (.t 144))], none⟩, ⟨some 146, .bls 2 1 [.int .i64 0, .str []] [] [(0, (.t 145))], none⟩, ⟨some 147, .app 2 24 false (.t 142) (.t 146), none⟩, ⟨some 148, .iadS 1 (.t 139) (.c (.int .i64 5)), none⟩, ⟨none, .st 1 [] (.t 148) (.t 147), none⟩])
 .skip))
 (.seq (.seq (.reg false [] [1, 3, 7, 8, 9, 149] [⟨some 149, .mov (.t 11), none⟩])
 (.cond (.t 149) (.reg true [0, 0, 2, 6, 0, 16, 48, 112, 254, 511, 1023] [1, 3, 7, 8, 9] [⟨some 150, .mov (.t 3), none⟩, ⟨some 151, .mov (.t 3), none⟩, ⟨some 152, .iadS 1 (.t 151) (.c (.int .i64 6)), none⟩, ⟨some 153, .ld 1 false (.t 152), none⟩, ⟨some 154, .mov (.t 8), none⟩, ⟨some 155, .call 290 [(.t 154)] [], none⟩, ⟨some 156, .bld [.int .i64 0, .str []] [(0, 1, (.c (.int .i64 6))), (1, 1, (.t 155))], none⟩, ⟨some 157, .bls 2 1 [.int .i64 0, .str []] [] [(0, (.t 156))], none⟩, ⟨some 158, .app 2 24 false (.t 153) (.t 157), none⟩, ⟨some 159, .iadS 1 (.t 150) (.c (.int .i64 6)), none⟩, ⟨none, .st 1 [] (.t 159) (.t 158), none⟩])
 .skip))
 (.reg false [] [1, 3, 7, 8] [⟨some 160, .mov (.t 7), none⟩, ⟨some 161, .ld 4 true (.t 9), none⟩, ⟨some 162, .bls 4 1 [.int .i64 0, .int .i64 0, .int .i64 0, .int .i64 0] [] [(0, (.t 161))], none⟩, ⟨some 163, .app 4 32 false (.t 160) (.t 162), none⟩, ⟨some 7, .asg (.t 163), none⟩])))))))))
 (.reg false [] [1, 3, 7, 8] [⟨some 78, .mov (.t 8), none⟩, ⟨some 79, .bin .add (.t 78) (.c (.int .i64 1)), none⟩, ⟨some 8, .mov (.t 79), none⟩]))))))
 (.seq (.reg false [] [3, 13] [⟨some 13, .nilo 2, none⟩])
 (.seq (.seq (.reg false [] [3, 13, 14] [⟨some 14, .mov (.c (.int .i64 0)), none⟩])
 (.block 8 (.loop (.seq (.seq (.reg false [] [3, 13, 14, 167] [⟨some 164, .mov (.t 14), none⟩, ⟨some 165, .mov (.t 3), none⟩, ⟨some 166, .len (.t 165), none⟩, ⟨some 167, .bin .lss (.t 164) (.t 166), none⟩])
 (.cond (.t 167) .skip
 (.exit 8)))
 (.seq (.block 9 (.reg false [] [3, 13, 14] [⟨some 170, .mov (.t 13), none⟩, ⟨some 171, .mov (.t 3), none⟩, ⟨some 172, .mov (.t 14), none⟩, ⟨some 173, .iadS 1 (.t 171) (.t 172), none⟩, ⟨some 174, .ld 1 false (.t 173), none⟩, ⟨some 175, .app 2 24 false (.t 170) (.t 174), none⟩, ⟨some 13, .asg (.t 175), none⟩]))
 (.reg false [] [3, 13, 14] [⟨some 168, .mov (.t 14), none⟩, ⟨some 169, .bin .add (.t 168) (.c (.int .i64 1)), none⟩, ⟨some 14, .mov (.t 169), none⟩]))))))
 (.seq (.reg false [] [2] [⟨some 176, .asg (.t 13), none⟩, ⟨some 2, .asg (.t 176), none⟩])
 .ret)))))))) }

/-- sewershed/locate.Exact -/
def N269_locate_Exact : NFun := { np := 2, nt := 25, res := [(4, some (2, true)), (5, none), (6, none)], body :=
 (.seq (.reg false [] [2, 3, 4] [⟨some 2, .boxF (.t 0), none⟩, ⟨some 3, .boxF (.t 1), none⟩, ⟨some 4, .alc [.int .i64 0, .int .i64 0], none⟩, ⟨some 5, .mov (.c (.int .i64 0)), none⟩, ⟨some 6, .mov (.c (.int .i64 0)), none⟩])
 (.seq (.reg false [] [2, 3, 4, 6, 7] [⟨some 9, .ld 2 true (.t 2), none⟩, ⟨some 10, .ld 2 true (.t 3), none⟩, ⟨some 11, .call 274 [(.t 9), (.t 10)] [], none⟩, ⟨some 8, .mov (.t 11), none⟩, ⟨some 12, .ext 0 (.t 8), none⟩, ⟨some 13, .ext 1 (.t 8), none⟩, ⟨some 7, .mov (.t 12), none⟩, ⟨some 6, .mov (.t 13), none⟩])
 (.seq (.seq (.reg false [] [2, 3, 4, 6, 7, 15] [⟨some 14, .mov (.t 6), none⟩, ⟨some 15, .bin .neq (.t 14) (.c (.int .i64 0)), none⟩])
 (.cond (.t 15) (.seq (.reg false [] [4, 5, 6] [⟨some 16, .bld [.int .i64 0, .int .i64 0] [], none⟩, ⟨some 17, .mov (.t 6), none⟩, ⟨none, .st 2 [] (.t 4) (.t 16), none⟩, ⟨some 5, .mov (.c (.int .i64 0)), none⟩, ⟨some 6, .mov (.t 17), none⟩])
 .ret)
 .skip))
 (.seq (.reg false [] [4, 5, 6] [⟨some 18, .ld 2 true (.t 2), none⟩, ⟨some 19, .mov (.t 7), none⟩, ⟨some 20, .ld 2 true (.t 3), none⟩, ⟨some 21, .call 300 [(.t 18), (.t 19), (.t 20)] [], none⟩, ⟨some 22, .ext 0 (.t 21), none⟩, ⟨some 23, .ext 1 (.t 21), none⟩, ⟨some 24, .ext 2 (.t 21), none⟩, ⟨none, .st 2 [] (.t 4) (.t 22), none⟩, ⟨some 5, .mov (.t 23), none⟩, ⟨some 6, .mov (.t 24), none⟩])
 .ret)))) }

/-- sewershed/wide.Floor -/
def N271_wide_Floor : NFun := { np := 2, nt := 11, res := [(4, none), (5, none)], body :=
 (.seq (.reg false [] [1, 2] [⟨some 2, .boxF (.t 0), none⟩, ⟨some 4, .mov (.c (.int .i64 0)), none⟩, ⟨some 5, .mov (.c (.int .i64 0)), none⟩])
 (.seq (.reg false [] [4, 5] [⟨some 6, .ld 2 true (.t 2), none⟩, ⟨some 7, .mov (.t 1), none⟩, ⟨some 8, .call 301 [(.t 6), (.t 7), (.c (.bool false))] [], none⟩, ⟨some 9, .ext 0 (.t 8), none⟩, ⟨some 10, .ext 1 (.t 8), none⟩, ⟨some 4, .mov (.t 9), none⟩, ⟨some 5, .mov (.t 10), none⟩])
 .ret)) }

/-- sewershed/wide.Ceil -/
def N272_wide_Ceil : NFun := { np := 2, nt := 11, res := [(4, none), (5, none)], body :=
 (.seq (.reg false [] [1, 2] [⟨some 2, .boxF (.t 0), none⟩, ⟨some 4, .mov (.c (.int .i64 0)), none⟩, ⟨some 5, .mov (.c (.int .i64 0)), none⟩])
 (.seq (.reg false [] [4, 5] [⟨some 6, .ld 2 true (.t 2), none⟩, ⟨some 7, .mov (.t 1), none⟩, ⟨some 8, .call 301 [(.t 6), (.t 7), (.c (.bool true))] [], none⟩, ⟨some 9, .ext 0 (.t 8), none⟩, ⟨some 10, .ext 1 (.t 8), none⟩, ⟨some 4, .mov (.t 9), none⟩, ⟨some 5, .mov (.t 10), none⟩])
 .ret)) }

/-- sewershed/mesh.Check -/
def N273_mesh_Check : NFun := { np := 1, nt := 202, res := [(2, none), (3, none)], body :=
 (.seq (.reg false [] [1] [⟨some 1, .boxF (.t 0), none⟩, ⟨some 2, .mov (.c .nils), none⟩, ⟨some 3, .mov (.c (.int .i64 0)), none⟩])
 (.seq (.seq (.reg false [] [1, 24] [⟨some 22, .ld 2 true (.t 1), none⟩, ⟨some 23, .call 302 [(.t 22)] [], none⟩, ⟨some 24, .un .not (.t 23), none⟩])
 (.cond (.t 24) (.seq (.reg false [] [2, 3] [⟨some 2, .mov (.c .nils), none⟩, ⟨some 3, .mov (.c (.int .i64 4)), none⟩])
 .ret)
 .skip))
 (.seq (.reg false [] [1, 4] [⟨some 4, .alc [.own 1 [], .own 1 [], .own 1 [], .own 1 [], .own 1 [], .own 1 [], .own 1 []], none⟩])
 (.seq (.reg false [] [1, 4, 5] [⟨some 25, .fad 0 (.t 1), none⟩, ⟨some 26, .ld 1 false (.t 25), none⟩, ⟨some 27, .len (.t 26), none⟩, ⟨some 28, .mks 1 1 [.bool false] (.t 27) (.t 27), none⟩, ⟨some 5, .alc [.own 1 []], none⟩, ⟨none, .st 1 [] (.t 5) (.t 28), none⟩])
 (.seq (.reg false [] [1, 4, 5, 6] [⟨some 29, .mkm 4 1, none⟩, ⟨some 6, .mov (.t 29), none⟩])
 (.seq (.seq (.reg false [] [1, 4, 5, 6, 31, 32, 33] [⟨some 30, .fad 0 (.t 1), none⟩, ⟨some 31, .ld 1 false (.t 30), none⟩, ⟨some 32, .len (.t 31), none⟩, ⟨some 33, .mov (.c (.int .i64 0)), none⟩])
 (.block 0 (.loop (.seq (.reg false [] [1, 4, 5, 6, 31, 32, 33, 34] [⟨some 34, .bin .lss (.t 33) (.t 32), none⟩])
 (.seq (.cond (.t 34) .skip
 (.exit 0))
 (.seq (.block 1 (.seq (.reg false [] [1, 4, 5, 6, 7, 8, 31, 32, 33] [⟨some 35, .mov (.t 33), none⟩, ⟨some 36, .iadS 3 (.t 31) (.t 33), none⟩, ⟨some 37, .ld 3 true (.t 36), none⟩, ⟨some 8, .alc [.int .i64 0, .int .i64 0, .int .i64 0], none⟩, ⟨some 7, .mov (.t 35), none⟩, ⟨none, .st 3 [] (.t 8) (.t 37), none⟩])
 (.seq (.seq (.reg true [0, 0, 0, 4, 12, 31, 63] [1, 4, 5, 6, 7, 31, 32, 33] [⟨some 38, .ld 1 false (.t 5), none⟩, ⟨some 39, .mov (.t 7), none⟩, ⟨some 40, .ld 3 true (.t 8), none⟩, ⟨some 41, .call 303 [(.t 40)] [], none⟩, ⟨some 42, .un .not (.t 41), none⟩, ⟨some 43, .iadS 1 (.t 38) (.t 39), none⟩, ⟨none, .st 1 [] (.t 43) (.t 42), none⟩])
 (.seq (.reg false [] [1, 4, 5, 6, 7, 31, 32, 33, 47] [⟨some 44, .ld 1 false (.t 5), none⟩, ⟨some 45, .mov (.t 7), none⟩, ⟨some 46, .iadS 1 (.t 44) (.t 45), none⟩, ⟨some 47, .ld 1 false (.t 46), none⟩])
 (.cond (.t 47) (.seq (.reg false [] [1, 4, 5, 6, 31, 32, 33] [⟨some 48, .iadA 7 1 (.t 4) (.c (.int .i64 1)), none⟩, ⟨some 49, .ld 1 false (.t 48), none⟩, ⟨some 50, .mov (.t 7), none⟩, ⟨some 51, .bls 1 1 [.int .i64 0] [] [(0, (.t 50))], none⟩, ⟨some 52, .app 1 8 false (.t 49) (.t 51), none⟩, ⟨some 53, .iadA 7 1 (.t 4) (.c (.int .i64 1)), none⟩, ⟨none, .st 1 [] (.t 53) (.t 52), none⟩])
 (.exit 1))
 .skip)))
 (.seq (.reg false [] [1, 4, 5, 6, 7, 9, 31, 32, 33] [⟨some 54, .ld 2 true (.t 1), none⟩, ⟨some 55, .mov (.t 7), none⟩, ⟨some 56, .call 304 [(.t 54), (.t 55)] [], none⟩, ⟨some 9, .alc [.int .i64 0, .int .i64 0], none⟩, ⟨none, .st 2 [] (.t 9) (.t 56), none⟩])
 (.seq (.seq (.reg false [] [1, 4, 5, 6, 7, 9, 31, 32, 33, 59] [⟨some 57, .mov (.t 6), none⟩, ⟨some 58, .ld 2 true (.t 9), none⟩, ⟨some 59, .mpl (.ints .i64 2) 4 1 false (.bool false) (.t 57) (.t 58), none⟩])
 (.cond (.t 59) (.reg false [] [1, 4, 5, 6, 9, 31, 32, 33] [⟨some 60, .iadA 7 1 (.t 4) (.c (.int .i64 2)), none⟩, ⟨some 61, .ld 1 false (.t 60), none⟩, ⟨some 62, .mov (.t 7), none⟩, ⟨some 63, .bls 1 1 [.int .i64 0] [] [(0, (.t 62))], none⟩, ⟨some 64, .app 1 8 false (.t 61) (.t 63), none⟩, ⟨some 65, .iadA 7 1 (.t 4) (.c (.int .i64 2)), none⟩, ⟨none, .st 1 [] (.t 65) (.t 64), none⟩])
 .skip))
 (.reg false [] [1, 4, 5, 6, 31, 32, 33] [⟨some 66, .mov (.t 6), none⟩, ⟨some 67, .ld 2 true (.t 9), none⟩, ⟨none, .mpu (.ints .i64 2) 4 1 (.bool false) (.t 66) (.t 67) (.c (.bool true)), none⟩]))))))
 (.reg false [] [1, 4, 5, 6, 31, 32, 33] [⟨some 68, .bin .add (.t 33) (.c (.int .i64 1)), none⟩, ⟨some 33, .mov (.t 68), none⟩])))))))
 (.seq (.reg false [] [1, 4, 5, 10] [⟨some 69, .mkm 3 1, none⟩, ⟨some 10, .mov (.t 69), none⟩])
 (.seq (.reg false [] [1, 4, 5, 10, 11] [⟨some 11, .nilo 6, none⟩])
 (.seq (.seq (.reg false [] [1, 4, 5, 10, 11, 71, 72, 73] [⟨some 70, .fad 1 (.t 1), none⟩, ⟨some 71, .ld 1 false (.t 70), none⟩, ⟨some 72, .len (.t 71), none⟩, ⟨some 73, .mov (.c (.int .i64 0)), none⟩])
 (.block 2 (.loop (.seq (.reg false [] [1, 4, 5, 10, 11, 71, 72, 73, 74] [⟨some 74, .bin .lss (.t 73) (.t 72), none⟩])
 (.seq (.cond (.t 74) .skip
 (.exit 2))
 (.seq (.block 3 (.seq (.reg false [] [1, 4, 5, 10, 11, 12, 13, 71, 72, 73] [⟨some 75, .mov (.t 73), none⟩, ⟨some 76, .iadS 4 (.t 71) (.t 73), none⟩, ⟨some 77, .ld 4 true (.t 76), none⟩, ⟨some 13, .alc [.int .i64 0, .int .i64 0, .int .i64 0, .int .i64 0], none⟩, ⟨some 12, .mov (.t 75), none⟩, ⟨none, .st 4 [] (.t 13) (.t 77), none⟩])
 (.seq (.reg false [] [1, 4, 5, 10, 11, 12, 13, 14, 71, 72, 73] [⟨some 78, .ld 4 true (.t 13), none⟩, ⟨some 79, .call 305 [(.t 78)] [], none⟩, ⟨some 14, .alc [.int .i64 0, .int .i64 0, .int .i64 0], none⟩, ⟨none, .st 3 [] (.t 14) (.t 79), none⟩])
 (.seq (.seq (.reg false [] [1, 4, 5, 10, 11, 12, 13, 71, 72, 73, 113] [⟨some 80, .slM 3 1 (.t 14), none⟩, ⟨some 81, .mk 306 [(.t 1), (.t 5)], none⟩, ⟨some 82, .call 11 [(.t 80), (.t 81)] [], none⟩, ⟨some 83, .mov (.t 82), none⟩, ⟨some 84, .fad 0 (.t 13), some (83, false)⟩, ⟨some 85, .ld 1 false (.t 84), some (83, false)⟩, ⟨some 86, .fad 1 (.t 13), some (83, false)⟩, ⟨some 87, .ld 1 false (.t 86), some (83, false)⟩, ⟨some 88, .bin .eql (.t 85) (.t 87), some (83, false)⟩, ⟨some 89, .pick (.t 83) (.c (.bool true)) (.t 88), none⟩, ⟨some 90, .mov (.t 89), none⟩, ⟨some 91, .fad 1 (.t 13), some (90, false)⟩, ⟨some 92, .ld 1 false (.t 91), some (90, false)⟩, ⟨some 93, .fad 2 (.t 13), some (90, false)⟩, ⟨some 94, .ld 1 false (.t 93), some (90, false)⟩, ⟨some 95, .bin .eql (.t 92) (.t 94), some (90, false)⟩, ⟨some 96, .pick (.t 90) (.c (.bool true)) (.t 95), none⟩, ⟨some 97, .mov (.t 96), none⟩, ⟨some 98, .fad 2 (.t 13), some (97, false)⟩, ⟨some 99, .ld 1 false (.t 98), some (97, false)⟩, ⟨some 100, .fad 0 (.t 13), some (97, false)⟩, ⟨some 101, .ld 1 false (.t 100), some (97, false)⟩, ⟨some 102, .bin .eql (.t 99) (.t 101), some (97, false)⟩, ⟨some 103, .pick (.t 97) (.c (.bool true)) (.t 102), none⟩, ⟨some 104, .mov (.t 103), none⟩, ⟨some 105, .fad 3 (.t 13), some (104, false)⟩, ⟨some 106, .ld 1 false (.t 105), some (104, false)⟩, ⟨some 107, .bin .lss (.t 106) (.c (.int .i64 0)), some (104, false)⟩, ⟨some 108, .pick (.t 104) (.c (.bool true)) (.t 107), none⟩, ⟨some 109, .mov (.t 108), none⟩, ⟨some 110, .fad 3 (.t 13), some (109, false)⟩, ⟨some 111, .ld 1 false (.t 110), some (109, false)⟩, ⟨some 112, .bin .geq (.t 111) (.c (.int .i64 16)), some (109, false)⟩, ⟨some 113, .pick (.t 109) (.c (.bool true)) (.t 112), none⟩])
 (.cond (.t 113) (.seq (.reg false [] [1, 4, 5, 10, 11, 71, 72, 73] [⟨some 114, .iadA 7 1 (.t 4) (.c (.int .i64 3)), none⟩, ⟨some 115, .ld 1 false (.t 114), none⟩, ⟨some 116, .mov (.t 12), none⟩, ⟨some 117, .bls 1 1 [.int .i64 0] [] [(0, (.t 116))], none⟩, ⟨some 118, .app 1 8 false (.t 115) (.t 117), none⟩, ⟨some 119, .iadA 7 1 (.t 4) (.c (.int .i64 3)), none⟩, ⟨none, .st 1 [] (.t 119) (.t 118), none⟩])
 (.exit 3))
 .skip))
 (.seq (.reg false [] [1, 4, 5, 10, 11, 12, 13, 15, 71, 72, 73] [⟨some 120, .ld 2 true (.t 1), none⟩, ⟨some 121, .ld 4 true (.t 13), none⟩, ⟨some 122, .call 307 [(.t 120), (.t 121)] [], none⟩, ⟨some 15, .alc [.int .i64 0, .int .i64 0, .int .i64 0, .int .i64 0, .int .i64 0, .int .i64 0], none⟩, ⟨none, .st 6 [] (.t 15) (.t 122), none⟩])
 (.seq (.seq (.reg false [] [1, 4, 5, 10, 11, 12, 13, 15, 71, 72, 73, 130] [⟨some 123, .iadA 3 2 (.t 15) (.c (.int .i64 0)), none⟩, ⟨some 124, .ld 2 true (.t 123), none⟩, ⟨some 125, .iadA 3 2 (.t 15) (.c (.int .i64 1)), none⟩, ⟨some 126, .ld 2 true (.t 125), none⟩, ⟨some 127, .iadA 3 2 (.t 15) (.c (.int .i64 2)), none⟩, ⟨some 128, .ld 2 true (.t 127), none⟩, ⟨some 129, .call 308 [(.t 124), (.t 126), (.t 128)] [], none⟩, ⟨some 130, .bin .leq (.t 129) (.c (.int .i64 0)), none⟩])
 (.cond (.t 130) (.seq (.reg false [] [1, 4, 5, 10, 11, 71, 72, 73] [⟨some 131, .iadA 7 1 (.t 4) (.c (.int .i64 4)), none⟩, ⟨some 132, .ld 1 false (.t 131), none⟩, ⟨some 133, .mov (.t 12), none⟩, ⟨some 134, .bls 1 1 [.int .i64 0] [] [(0, (.t 133))], none⟩, ⟨some 135, .app 1 8 false (.t 132) (.t 134), none⟩, ⟨some 136, .iadA 7 1 (.t 4) (.c (.int .i64 4)), none⟩, ⟨none, .st 1 [] (.t 136) (.t 135), none⟩])
 (.exit 3))
 .skip))
 (.seq (.seq (.reg false [] [1, 4, 5, 10, 11, 12, 13, 15, 71, 72, 73, 152] [⟨some 137, .mov (.t 10), none⟩, ⟨some 138, .ld 4 true (.t 13), none⟩, ⟨some 139, .call 298 [(.t 138), (.c (.int .i64 0))] [], none⟩, ⟨some 140, .mpl (.ints .i64 2) 3 1 false (.bool false) (.t 137) (.t 139), none⟩, ⟨some 141, .mov (.t 140), none⟩, ⟨some 142, .mov (.t 10), some (141, false)⟩, ⟨some 143, .ld 4 true (.t 13), some (141, false)⟩, ⟨some 144, .call 298 [(.t 143), (.c (.int .i64 1))] [], some (141, false)⟩, ⟨some 145, .mpl (.ints .i64 2) 3 1 false (.bool false) (.t 142) (.t 144), some (141, false)⟩, ⟨some 146, .pick (.t 141) (.c (.bool true)) (.t 145), none⟩, ⟨some 147, .mov (.t 146), none⟩, ⟨some 148, .mov (.t 10), some (147, false)⟩, ⟨some 149, .ld 4 true (.t 13), some (147, false)⟩, ⟨some 150, .call 298 [(.t 149), (.c (.int .i64 2))] [], some (147, false)⟩, ⟨some 151, .mpl (.ints .i64 2) 3 1 false (.bool false) (.t 148) (.t 150), some (147, false)⟩, ⟨some 152, .pick (.t 147) (.c (.bool true)) (.t 151), none⟩])
 (.cond (.t 152) (.reg false [] [1, 4, 5, 10, 11, 12, 13, 15, 71, 72, 73] [⟨some 153, .iadA 7 1 (.t 4) (.c (.int .i64 5)), none⟩, ⟨some 154, .ld 1 false (.t 153), none⟩, ⟨some 155, .mov (.t 12), none⟩, ⟨some 156, .bls 1 1 [.int .i64 0] [] [(0, (.t 155))], none⟩, ⟨some 157, .app 1 8 false (.t 154) (.t 156), none⟩, ⟨some 158, .iadA 7 1 (.t 4) (.c (.int .i64 5)), none⟩, ⟨none, .st 1 [] (.t 158) (.t 157), none⟩])
 .skip))
 (.seq (.seq (.reg false [] [1, 4, 5, 10, 11, 12, 13, 15, 71, 72, 73, 159] [⟨some 159, .mov (.c (.int .i64 0)), none⟩])
 (.block 4 (.loop (.seq (.reg false [] [1, 4, 5, 10, 11, 12, 13, 15, 71, 72, 73, 159, 160] [⟨some 160, .bin .lss (.t 159) (.c (.int .i64 3)), none⟩])
 (.seq (.cond (.t 160) .skip
 (.exit 4))
 (.seq (.block 5 (.seq (.reg false [] [1, 4, 5, 10, 11, 12, 13, 15, 16, 71, 72, 73, 159] [⟨some 161, .mov (.t 159), none⟩, ⟨some 16, .mov (.t 161), none⟩])
 (.reg false [] [1, 4, 5, 10, 11, 12, 13, 15, 71, 72, 73, 159] [⟨some 162, .mov (.t 10), none⟩, ⟨some 163, .ld 4 true (.t 13), none⟩, ⟨some 164, .mov (.t 16), none⟩, ⟨some 165, .call 298 [(.t 163), (.t 164)] [], none⟩, ⟨none, .mpu (.ints .i64 2) 3 1 (.bool false) (.t 162) (.t 165) (.c (.bool true)), none⟩])))
 (.reg false [] [1, 4, 5, 10, 11, 12, 13, 15, 71, 72, 73, 159] [⟨some 166, .bin .add (.t 159) (.c (.int .i64 1)), none⟩, ⟨some 159, .mov (.t 166), none⟩])))))))
 (.seq (.seq (.reg false [] [1, 4, 5, 10, 11, 12, 15, 71, 72, 73, 169] [⟨some 167, .mov (.t 11), none⟩, ⟨some 168, .mk 310 [(.t 15)], none⟩, ⟨some 169, .call 309 [(.t 167), (.t 168)] [], none⟩])
 (.cond (.t 169) (.reg false [] [1, 4, 5, 10, 11, 15, 71, 72, 73] [⟨some 170, .iadA 7 1 (.t 4) (.c (.int .i64 6)), none⟩, ⟨some 171, .ld 1 false (.t 170), none⟩, ⟨some 172, .mov (.t 12), none⟩, ⟨some 173, .bls 1 1 [.int .i64 0] [] [(0, (.t 172))], none⟩, ⟨some 174, .app 1 8 false (.t 171) (.t 173), none⟩, ⟨some 175, .iadA 7 1 (.t 4) (.c (.int .i64 6)), none⟩, ⟨none, .st 1 [] (.t 175) (.t 174), none⟩])
 .skip))
 (.reg false [] [1, 4, 5, 10, 11, 71, 72, 73] [⟨some 176, .mov (.t 11), none⟩, ⟨some 177, .ld 6 true (.t 15), none⟩, ⟨some 178, .bls 6 1 [.int .i64 0, .int .i64 0, .int .i64 0, .int .i64 0, .int .i64 0, .int .i64 0] [] [(0, (.t 177))], none⟩, ⟨some 179, .app 6 48 false (.t 176) (.t 178), none⟩, ⟨some 11, .asg (.t 179), none⟩]))))))))))
 (.reg false [] [1, 4, 5, 10, 11, 71, 72, 73] [⟨some 180, .bin .add (.t 73) (.c (.int .i64 1)), none⟩, ⟨some 73, .mov (.t 180), none⟩])))))))
 (.seq (.reg false [] [4, 17] [⟨some 17, .nilo 2, none⟩])
 (.seq (.seq (.reg false [] [17, 181, 182] [⟨some 181, .ld 7 true (.t 4), none⟩, ⟨some 182, .mov (.c (.int .i64 0)), none⟩])
 (.block 6 (.loop (.seq (.reg false [] [17, 181, 182, 183] [⟨some 183, .bin .lss (.t 182) (.c (.int .i64 7)), none⟩])
 (.seq (.cond (.t 183) .skip
 (.exit 6))
 (.seq (.block 7 (.seq (.reg false [] [17, 18, 19, 181, 182] [⟨some 184, .mov (.t 182), none⟩, ⟨some 185, .idxA 7 1 false (.t 181) (.t 182), none⟩, ⟨some 18, .mov (.t 184), none⟩, ⟨some 19, .asg (.t 185), none⟩])
 (.seq (.reg false [] [17, 18, 181, 182, 186, 187, 188] [⟨some 186, .asg (.t 19), none⟩, ⟨some 187, .len (.t 186), none⟩, ⟨some 188, .mov (.c (.int .i64 0)), none⟩])
 (.block 8 (.loop (.seq (.reg false [] [17, 18, 181, 182, 186, 187, 188, 189] [⟨some 189, .bin .lss (.t 188) (.t 187), none⟩])
 (.seq (.cond (.t 189) .skip
 (.exit 8))
 (.seq (.block 9 (.seq (.reg false [] [17, 18, 21, 181, 182, 186, 187, 188] [⟨some 190, .iadS 1 (.t 186) (.t 188), none⟩, ⟨some 191, .ld 1 false (.t 190), none⟩, ⟨some 21, .mov (.t 191), none⟩])
 (.reg false [] [17, 18, 181, 182, 186, 187, 188] [⟨some 192, .mov (.t 17), none⟩, ⟨some 193, .mov (.t 18), none⟩, ⟨some 194, .mov (.t 21), none⟩, ⟨some 195, .call 127 [(.t 194)] [], none⟩, ⟨some 196, .bld [.int .i64 0, .str []] [(0, 1, (.t 193)), (1, 1, (.t 195))], none⟩, ⟨some 197, .bls 2 1 [.int .i64 0, .str []] [] [(0, (.t 196))], none⟩, ⟨some 198, .app 2 24 false (.t 192) (.t 197), none⟩, ⟨some 17, .asg (.t 198), none⟩])))
 (.reg false [] [17, 18, 181, 182, 186, 187, 188] [⟨some 199, .bin .add (.t 188) (.c (.int .i64 1)), none⟩, ⟨some 188, .mov (.t 199), none⟩])))))))))
 (.reg false [] [17, 181, 182] [⟨some 200, .bin .add (.t 182) (.c (.int .i64 1)), none⟩, ⟨some 182, .mov (.t 200), none⟩])))))))
 (.seq (.reg false [] [2, 3] [⟨some 201, .asg (.t 17), none⟩, ⟨some 2, .asg (.t 201), none⟩, ⟨some 3, .mov (.c (.int .i64 0)), none⟩])
 .ret)))))))))))) }

/-- sewershed/locate.on -/
def N274_locate_on : NFun := { np := 2, nt := 18, res := [(4, none), (5, none)], body :=
 (.seq (.reg false [] [2, 3] [⟨some 2, .boxF (.t 0), none⟩, ⟨some 3, .boxF (.t 1), none⟩, ⟨some 4, .mov (.c (.int .i64 0)), none⟩, ⟨some 5, .mov (.c (.int .i64 0)), none⟩])
 (.seq (.seq (.reg false [] [2, 3, 11] [⟨some 7, .ld 2 true (.t 2), none⟩, ⟨some 8, .ld 2 true (.t 3), none⟩, ⟨some 9, .bls 2 1 [.int .i64 0, .int .i64 0] [] [(0, (.t 8))], none⟩, ⟨some 10, .call 275 [(.t 7), (.t 9)] [], none⟩, ⟨some 11, .un .not (.t 10), none⟩])
 (.cond (.t 11) (.seq (.reg false [] [4, 5] [⟨some 4, .mov (.c (.int .i64 0)), none⟩, ⟨some 5, .mov (.c (.int .i64 1)), none⟩])
 .ret)
 .skip))
 (.seq (.reg false [] [6] [⟨some 12, .ld 2 true (.t 2), none⟩, ⟨some 13, .ld 2 true (.t 3), none⟩, ⟨some 14, .call 276 [(.t 12), (.t 13)] [], none⟩, ⟨some 6, .mov (.t 14), none⟩])
 (.seq (.seq (.reg false [] [6, 16] [⟨some 15, .mov (.t 6), none⟩, ⟨some 16, .bin .lss (.t 15) (.c (.int .i64 0)), none⟩])
 (.cond (.t 16) (.seq (.reg false [] [4, 5] [⟨some 4, .mov (.c (.int .i64 0)), none⟩, ⟨some 5, .mov (.c (.int .i64 12)), none⟩])
 .ret)
 .skip))
 (.seq (.reg false [] [4, 5] [⟨some 17, .mov (.t 6), none⟩, ⟨some 4, .mov (.t 17), none⟩, ⟨some 5, .mov (.c (.int .i64 0)), none⟩])
 .ret))))) }

/-- sewershed/locate.valid -/
def N275_locate_valid : NFun := { np := 2, nt := 12, res := [(4, none)], body :=
 (.seq (.reg false [] [1, 2] [⟨some 2, .boxF (.t 0), none⟩, ⟨some 4, .mov (.c (.bool false)), none⟩])
 (.seq (.reg false [] [4] [⟨some 5, .ld 2 true (.t 2), none⟩, ⟨some 6, .call 234 [(.t 5)] [], none⟩, ⟨some 7, .mov (.t 6), none⟩, ⟨some 8, .asg (.t 1), some (7, true)⟩, ⟨some 9, .call 239 [(.t 8), (.c (.fn 312 []))] [], some (7, true)⟩, ⟨some 10, .un .not (.t 9), some (7, true)⟩, ⟨some 11, .pick (.t 7) (.t 10) (.c (.bool false)), none⟩, ⟨some 4, .mov (.t 11), none⟩])
 .ret)) }

/-- sewershed/locate.find -/
def N276_locate_find : NFun := { np := 2, nt := 19, res := [(4, none)], body :=
 (.seq (.reg false [] [2, 3] [⟨some 2, .boxF (.t 0), none⟩, ⟨some 3, .boxF (.t 1), none⟩, ⟨some 4, .mov (.c (.int .i64 0)), none⟩])
 (.seq (.seq (.reg false [] [2, 3, 8, 9] [⟨some 6, .fad 1 (.t 2), none⟩, ⟨some 7, .ld 1 false (.t 6), none⟩, ⟨some 8, .len (.t 7), none⟩, ⟨some 9, .mov (.c (.int .i64 0)), none⟩])
 (.block 0 (.loop (.seq (.reg false [] [2, 3, 8, 9, 10] [⟨some 10, .bin .lss (.t 9) (.t 8), none⟩])
 (.seq (.cond (.t 10) .skip
 (.exit 0))
 (.seq (.block 1 (.seq (.reg false [] [2, 3, 5, 8, 9] [⟨some 11, .mov (.t 9), none⟩, ⟨some 5, .mov (.t 11), none⟩])
 (.seq (.reg false [] [2, 3, 5, 8, 9, 16] [⟨some 12, .ld 2 true (.t 2), none⟩, ⟨some 13, .mov (.t 5), none⟩, ⟨some 14, .ld 2 true (.t 3), none⟩, ⟨some 15, .call 284 [(.t 12), (.t 13), (.t 14)] [], none⟩, ⟨some 16, .bin .lss (.t 15) (.c (.int .i64 0)), none⟩])
 (.cond (.t 16) (.seq (.reg false [] [4] [⟨some 17, .mov (.t 5), none⟩, ⟨some 4, .mov (.t 17), none⟩])
 .ret)
 .skip))))
 (.reg false [] [2, 3, 8, 9] [⟨some 18, .bin .add (.t 9) (.c (.int .i64 1)), none⟩, ⟨some 9, .mov (.t 18), none⟩])))))))
 (.seq (.reg false [] [4] [⟨some 4, .mov (.c (.int .i64 (-1))), none⟩])
 .ret))) }

/-- slices.IndexFunc[[]sewershed/api.Point,sewershed/api.Point] -/
def N278_slices_IndexFunc__api_Point_api_Point : NFun := { np := 2, nt := 19, res := [(4, none)], body :=
 (.seq (.reg false [] [0, 1] [⟨some 4, .mov (.c (.int .i64 0)), none⟩])
 (.seq (.seq (.reg false [] [0, 1, 7, 8] [⟨some 6, .mov (.t 0), none⟩, ⟨some 7, .len (.t 6), none⟩, ⟨some 8, .mov (.c (.int .i64 0)), none⟩])
 (.block 0 (.loop (.seq (.reg false [] [0, 1, 7, 8, 9] [⟨some 9, .bin .lss (.t 8) (.t 7), none⟩])
 (.seq (.cond (.t 9) .skip
 (.exit 0))
 (.seq (.block 1 (.seq (.reg false [] [0, 1, 5, 7, 8] [⟨some 10, .mov (.t 8), none⟩, ⟨some 5, .mov (.t 10), none⟩])
 (.seq (.reg false [] [0, 1, 5, 7, 8, 16] [⟨some 11, .mov (.t 1), none⟩, ⟨some 12, .mov (.t 0), none⟩, ⟨some 13, .mov (.t 5), none⟩, ⟨some 14, .iadS 2 (.t 12) (.t 13), none⟩, ⟨some 15, .ld 2 true (.t 14), none⟩, ⟨some 16, .callv (.t 11) [(.t 15)], none⟩])
 (.cond (.t 16) (.seq (.reg false [] [4] [⟨some 17, .mov (.t 5), none⟩, ⟨some 4, .mov (.t 17), none⟩])
 .ret)
 .skip))))
 (.reg false [] [0, 1, 7, 8] [⟨some 18, .bin .add (.t 8) (.c (.int .i64 1)), none⟩, ⟨some 8, .mov (.t 18), none⟩])))))))
 (.seq (.reg false [] [4] [⟨some 4, .mov (.c (.int .i64 (-1))), none⟩])
 .ret))) }

/-- sewershed/locate.outer -/
def N284_locate_outer : NFun := { np := 3, nt := 30, res := [(6, none)], body :=
 (.seq (.reg false [] [1, 3, 5] [⟨some 3, .boxF (.t 0), none⟩, ⟨some 5, .boxF (.t 2), none⟩, ⟨some 6, .mov (.c (.int .i64 0)), none⟩])
 (.seq (.reg false [] [5, 7] [⟨some 9, .ld 2 true (.t 3), none⟩, ⟨some 10, .mov (.t 1), none⟩, ⟨some 11, .call 319 [(.t 9), (.t 10)] [], none⟩, ⟨some 7, .alc [.int .i64 0, .int .i64 0, .int .i64 0, .int .i64 0, .int .i64 0, .int .i64 0, .int .i64 0, .int .i64 0, .int .i64 0], none⟩, ⟨none, .st 9 [] (.t 7) (.t 11), none⟩])
 (.seq (.seq (.reg false [] [5, 7, 12] [⟨some 12, .mov (.c (.int .i64 0)), none⟩])
 (.block 0 (.loop (.seq (.reg false [] [5, 7, 12, 13] [⟨some 13, .bin .lss (.t 12) (.c (.int .i64 3)), none⟩])
 (.seq (.cond (.t 13) .skip
 (.exit 0))
 (.seq (.block 1 (.seq (.reg false [] [5, 7, 8, 12] [⟨some 14, .mov (.t 12), none⟩, ⟨some 8, .mov (.t 14), none⟩])
 (.seq (.reg true [0, 1, 3, 7, 0, 16, 48, 112, 240, 511, 0, 2047, 4095] [5, 7, 8, 12, 27] [⟨some 15, .mov (.t 8), none⟩, ⟨some 16, .iadA 3 3 (.t 7) (.t 15), none⟩, ⟨some 17, .ld 3 true (.t 16), none⟩, ⟨some 18, .call 321 [(.t 17)] [], none⟩, ⟨some 19, .mov (.t 8), none⟩, ⟨some 20, .bin .add (.t 19) (.c (.int .i64 1)), none⟩, ⟨some 21, .bin .rem (.t 20) (.c (.int .i64 3)), none⟩, ⟨some 22, .iadA 3 3 (.t 7) (.t 21), none⟩, ⟨some 23, .ld 3 true (.t 22), none⟩, ⟨some 24, .call 321 [(.t 23)] [], none⟩, ⟨some 25, .ld 2 true (.t 5), none⟩, ⟨some 26, .call 320 [(.t 18), (.t 24), (.t 25)] [], none⟩, ⟨some 27, .bin .lss (.t 26) (.c (.int .i64 0)), none⟩])
 (.cond (.t 27) (.seq (.reg false [] [6] [⟨some 28, .mov (.t 8), none⟩, ⟨some 6, .mov (.t 28), none⟩])
 .ret)
 .skip))))
 (.reg false [] [5, 7, 12] [⟨some 29, .bin .add (.t 12) (.c (.int .i64 1)), none⟩, ⟨some 12, .mov (.t 29), none⟩])))))))
 (.seq (.reg false [] [6] [⟨some 6, .mov (.c (.int .i64 (-1))), none⟩])
 .ret)))) }

/-- sewershed/sewershedref09.Triangle -/
def N285_ref09_Triangle : NFun := { np := 2, nt := 27, res := [(4, none)], body :=
 (.seq (.reg false [] [2, 3] [⟨some 2, .boxF (.t 0), none⟩, ⟨some 3, .boxF (.t 1), none⟩, ⟨some 4, .mov (.c .nils), none⟩])
 (.seq (.reg true [0, 1, 0, 4, 15, 31, 63, 0, 128, 0, 512, 1920, 3968, 8191, 0, 16384, 0, 65536, 245760, 507904, 1048575, 2097151, 4194303] [4] [⟨some 5, .fad 0 (.t 2), none⟩, ⟨some 6, .ld 1 false (.t 5), none⟩, ⟨some 7, .fad 0 (.t 3), none⟩, ⟨some 8, .ld 1 false (.t 7), none⟩, ⟨some 9, .iadS 3 (.t 6) (.t 8), none⟩, ⟨some 10, .ld 3 true (.t 9), none⟩, ⟨some 11, .call 291 [(.t 10)] [], none⟩, ⟨some 12, .fad 0 (.t 2), none⟩, ⟨some 13, .ld 1 false (.t 12), none⟩, ⟨some 14, .fad 1 (.t 3), none⟩, ⟨some 15, .ld 1 false (.t 14), none⟩, ⟨some 16, .iadS 3 (.t 13) (.t 15), none⟩, ⟨some 17, .ld 3 true (.t 16), none⟩, ⟨some 18, .call 291 [(.t 17)] [], none⟩, ⟨some 19, .fad 0 (.t 2), none⟩, ⟨some 20, .ld 1 false (.t 19), none⟩, ⟨some 21, .fad 2 (.t 3), none⟩, ⟨some 22, .ld 1 false (.t 21), none⟩, ⟨some 23, .iadS 3 (.t 20) (.t 22), none⟩, ⟨some 24, .ld 3 true (.t 23), none⟩, ⟨some 25, .call 291 [(.t 24)] [], none⟩, ⟨some 26, .bls 2 3 [.int .i64 0, .int .i64 0] [] [(0, (.t 11)), (1, (.t 18)), (2, (.t 25))], none⟩, ⟨some 4, .asg (.t 26), none⟩])
 .ret)) }

/-- sewershed/sewershedref07.Turn -/
def N286_ref07_Turn : NFun := { np := 3, nt := 30, res := [(6, none)], body :=
 (.seq (.reg false [] [3, 4, 5] [⟨some 3, .boxF (.t 0), none⟩, ⟨some 4, .boxF (.t 1), none⟩, ⟨some 5, .boxF (.t 2), none⟩, ⟨some 6, .mov (.c (.int .i64 0)), none⟩])
 (.seq (.reg false [] [6] [⟨some 7, .fad 0 (.t 4), none⟩, ⟨some 8, .ld 1 false (.t 7), none⟩, ⟨some 9, .fad 0 (.t 3), none⟩, ⟨some 10, .ld 1 false (.t 9), none⟩, ⟨some 11, .bin .sub (.t 8) (.t 10), none⟩, ⟨some 12, .fad 1 (.t 5), none⟩, ⟨some 13, .ld 1 false (.t 12), none⟩, ⟨some 14, .fad 1 (.t 3), none⟩, ⟨some 15, .ld 1 false (.t 14), none⟩, ⟨some 16, .bin .sub (.t 13) (.t 15), none⟩, ⟨some 17, .bin .mul (.t 11) (.t 16), none⟩, ⟨some 18, .fad 1 (.t 4), none⟩, ⟨some 19, .ld 1 false (.t 18), none⟩, ⟨some 20, .fad 1 (.t 3), none⟩, ⟨some 21, .ld 1 false (.t 20), none⟩, ⟨some 22, .bin .sub (.t 19) (.t 21), none⟩, ⟨some 23, .fad 0 (.t 5), none⟩, ⟨some 24, .ld 1 false (.t 23), none⟩, ⟨some 25, .fad 0 (.t 3), none⟩, ⟨some 26, .ld 1 false (.t 25), none⟩, ⟨some 27, .bin .sub (.t 24) (.t 26), none⟩, ⟨some 28, .bin .mul (.t 22) (.t 27), none⟩, ⟨some 29, .bin .sub (.t 17) (.t 28), none⟩, ⟨some 6, .mov (.t 29), none⟩])
 .ret)) }

/-- sewershed/sewershedref09.Spot -/
def N289_ref09_Spot : NFun := { np := 1, nt := 31, res := [(2, none)], body :=
 (.seq (.reg false [] [1] [⟨some 1, .boxF (.t 0), none⟩, ⟨some 2, .mov (.c (.bool false)), none⟩])
 (.seq (.reg false [] [2] [⟨some 3, .fad 0 (.t 1), none⟩, ⟨some 4, .ld 1 false (.t 3), none⟩, ⟨some 5, .bin .geq (.t 4) (.c (.int .i64 (-16777216))), none⟩, ⟨some 6, .mov (.t 5), none⟩, ⟨some 7, .fad 0 (.t 1), some (6, true)⟩, ⟨some 8, .ld 1 false (.t 7), some (6, true)⟩, ⟨some 9, .bin .leq (.t 8) (.c (.int .i64 16777216)), some (6, true)⟩, ⟨some 10, .pick (.t 6) (.t 9) (.c (.bool false)), none⟩, ⟨some 11, .mov (.t 10), none⟩, ⟨some 12, .fad 1 (.t 1), some (11, true)⟩, ⟨some 13, .ld 1 false (.t 12), some (11, true)⟩, ⟨some 14, .bin .geq (.t 13) (.c (.int .i64 (-16777216))), some (11, true)⟩, ⟨some 15, .pick (.t 11) (.t 14) (.c (.bool false)), none⟩, ⟨some 16, .mov (.t 15), none⟩, ⟨some 17, .fad 1 (.t 1), some (16, true)⟩, ⟨some 18, .ld 1 false (.t 17), some (16, true)⟩, ⟨some 19, .bin .leq (.t 18) (.c (.int .i64 16777216)), some (16, true)⟩, ⟨some 20, .pick (.t 16) (.t 19) (.c (.bool false)), none⟩, ⟨some 21, .mov (.t 20), none⟩, ⟨some 22, .fad 2 (.t 1), some (21, true)⟩, ⟨some 23, .ld 1 false (.t 22), some (21, true)⟩, ⟨some 24, .bin .geq (.t 23) (.c (.int .i64 (-4194304))), some (21, true)⟩, ⟨some 25, .pick (.t 21) (.t 24) (.c (.bool false)), none⟩, ⟨some 26, .mov (.t 25), none⟩, ⟨some 27, .fad 2 (.t 1), some (26, true)⟩, ⟨some 28, .ld 1 false (.t 27), some (26, true)⟩, ⟨some 29, .bin .leq (.t 28) (.c (.int .i64 4194304)), some (26, true)⟩, ⟨some 30, .pick (.t 26) (.t 29) (.c (.bool false)), none⟩, ⟨some 2, .mov (.t 30), none⟩])
 .ret)) }

/-- sewershed/sewershedref09.Decimal -/
def N290_ref09_Decimal : NFun := { np := 1, nt := 21, res := [(2, none)], body :=
 (.seq (.reg false [] [0] [⟨some 2, .mov (.c (.str [])), none⟩])
 (.seq (.reg false [] [0, 3] [⟨some 3, .mov (.c (.str [])), none⟩])
 (.seq (.block 0 (.loop (.seq (.seq (.reg false [] [0, 3, 9] [⟨some 4, .mov (.t 0), none⟩, ⟨some 5, .bin .gtr (.t 4) (.c (.int .i64 0)), none⟩, ⟨some 6, .mov (.t 5), none⟩, ⟨some 7, .mov (.t 3), some (6, false)⟩, ⟨some 8, .bin .eql (.t 7) (.c (.str [])), some (6, false)⟩, ⟨some 9, .pick (.t 6) (.c (.bool true)) (.t 8), none⟩])
 (.cond (.t 9) .skip
 (.exit 0)))
 (.block 1 (.seq (.reg false [] [0, 3] [⟨some 10, .mov (.t 0), none⟩, ⟨some 11, .bin .rem (.t 10) (.c (.int .i64 10)), none⟩, ⟨some 12, .bin .add (.c (.int .i64 48)) (.t 11), none⟩, ⟨some 13, .conv .u8 (.t 12), none⟩, ⟨some 14, .blsF 1 1 [.int .u8 0] [(0, (.t 13))], none⟩, ⟨some 15, .cvS (.t 14), none⟩, ⟨some 16, .mov (.t 3), none⟩, ⟨some 17, .bin .add (.t 15) (.t 16), none⟩, ⟨some 3, .mov (.t 17), none⟩])
 (.reg false [] [0, 3] [⟨some 18, .mov (.t 0), none⟩, ⟨some 19, .bin .quo (.t 18) (.c (.int .i64 10)), none⟩, ⟨some 0, .mov (.t 19), none⟩]))))))
 (.seq (.reg false [] [2] [⟨some 20, .mov (.t 3), none⟩, ⟨some 2, .mov (.t 20), none⟩])
 .ret)))) }

/-- sewershed/sewershedref09.Point -/
def N291_ref09_Point : NFun := { np := 1, nt := 8, res := [(2, some (2, true))], body :=
 (.seq (.reg false [] [1, 2] [⟨some 1, .boxF (.t 0), none⟩, ⟨some 2, .alc [.int .i64 0, .int .i64 0], none⟩])
 (.seq (.reg false [] [2] [⟨some 3, .fad 0 (.t 1), none⟩, ⟨some 4, .ld 1 false (.t 3), none⟩, ⟨some 5, .fad 1 (.t 1), none⟩, ⟨some 6, .ld 1 false (.t 5), none⟩, ⟨some 7, .bld [.int .i64 0, .int .i64 0] [(0, 1, (.t 4)), (1, 1, (.t 6))], none⟩, ⟨none, .st 2 [] (.t 2) (.t 7), none⟩])
 .ret)) }

/-- sewershed/sewershedref09.corners -/
def N292_ref09_corners : NFun := { np := 2, nt := 66, res := [(4, none)], body :=
 (.seq (.reg false [] [2, 3] [⟨some 2, .boxF (.t 0), none⟩, ⟨some 3, .boxF (.t 1), none⟩, ⟨some 4, .mov (.c (.bool false)), none⟩])
 (.seq (.reg false [] [2, 3, 5] [⟨some 7, .fad 0 (.t 3), none⟩, ⟨some 8, .ld 1 false (.t 7), none⟩, ⟨some 9, .fad 1 (.t 3), none⟩, ⟨some 10, .ld 1 false (.t 9), none⟩, ⟨some 11, .fad 2 (.t 3), none⟩, ⟨some 12, .ld 1 false (.t 11), none⟩, ⟨some 13, .bls 1 3 [.int .i64 0] [] [(0, (.t 8)), (1, (.t 10)), (2, (.t 12))], none⟩, ⟨some 5, .asg (.t 13), none⟩])
 (.seq (.seq (.reg false [] [2, 3, 5, 6] [⟨some 6, .mov (.c (.int .i64 0)), none⟩])
 (.block 0 (.loop (.seq (.seq (.reg false [] [2, 3, 5, 6, 15] [⟨some 14, .mov (.t 6), none⟩, ⟨some 15, .bin .lss (.t 14) (.c (.int .i64 3)), none⟩])
 (.cond (.t 15) .skip
 (.exit 0)))
 (.seq (.block 1 (.seq (.reg true [0, 0, 3, 7, 15, 31, 63, 63, 255, 511, 63, 1087, 3135, 8191, 16383, 32767, 65535, 65535, 262143, 524287, 65535, 65535, 2162687, 6356991, 15794175, 32571391, 67108863, 134217727, 268435455, 536870911, 1073741823, 536870911, 536870911, 6979321855, 15569256447, 34359738367, 68719476735, 137438953471, 274877906943, 549755813887] [2, 3, 5, 6, 57] [⟨some 18, .mov (.t 5), none⟩, ⟨some 19, .mov (.t 6), none⟩, ⟨some 20, .iadS 1 (.t 18) (.t 19), none⟩, ⟨some 21, .ld 1 false (.t 20), none⟩, ⟨some 22, .bin .lss (.t 21) (.c (.int .i64 0)), none⟩, ⟨some 23, .mov (.t 22), none⟩, ⟨some 24, .mov (.t 5), some (23, false)⟩, ⟨some 25, .mov (.t 6), some (23, false)⟩, ⟨some 26, .iadS 1 (.t 24) (.t 25), some (23, false)⟩, ⟨some 27, .ld 1 false (.t 26), some (23, false)⟩, ⟨some 28, .fad 0 (.t 2), some (23, false)⟩, ⟨some 29, .ld 1 false (.t 28), some (23, false)⟩, ⟨some 30, .len (.t 29), some (23, false)⟩, ⟨some 31, .bin .geq (.t 27) (.t 30), some (23, false)⟩, ⟨some 32, .pick (.t 23) (.c (.bool true)) (.t 31), none⟩, ⟨some 33, .mov (.t 32), none⟩, ⟨some 34, .mov (.t 5), some (33, false)⟩, ⟨some 35, .mov (.t 6), some (33, false)⟩, ⟨some 36, .iadS 1 (.t 34) (.t 35), some (33, false)⟩, ⟨some 37, .ld 1 false (.t 36), some (33, false)⟩, ⟨some 38, .mov (.t 5), some (33, false)⟩, ⟨some 39, .mov (.t 6), some (33, false)⟩, ⟨some 40, .bin .add (.t 39) (.c (.int .i64 1)), some (33, false)⟩, ⟨some 41, .bin .rem (.t 40) (.c (.int .i64 3)), some (33, false)⟩, ⟨some 42, .iadS 1 (.t 38) (.t 41), some (33, false)⟩, ⟨some 43, .ld 1 false (.t 42), some (33, false)⟩, ⟨some 44, .bin .eql (.t 37) (.t 43), some (33, false)⟩, ⟨some 45, .pick (.t 33) (.c (.bool true)) (.t 44), none⟩, ⟨some 46, .mov (.t 45), none⟩, ⟨some 47, .fad 0 (.t 2), some (46, false)⟩, ⟨some 48, .ld 1 false (.t 47), some (46, false)⟩, ⟨some 49, .mov (.t 5), some (46, false)⟩, ⟨some 50, .mov (.t 6), some (46, false)⟩, ⟨some 51, .iadS 1 (.t 49) (.t 50), some (46, false)⟩, ⟨some 52, .ld 1 false (.t 51), some (46, false)⟩, ⟨some 53, .iadS 3 (.t 48) (.t 52), some (46, false)⟩, ⟨some 54, .ld 3 true (.t 53), some (46, false)⟩, ⟨some 55, .call 289 [(.t 54)] [], some (46, false)⟩, ⟨some 56, .un .not (.t 55), some (46, false)⟩, ⟨some 57, .pick (.t 46) (.c (.bool true)) (.t 56), none⟩])
 (.cond (.t 57) (.seq (.reg false [] [4] [⟨some 4, .mov (.c (.bool false)), none⟩])
 .ret)
 .skip)))
 (.reg false [] [2, 3, 5, 6] [⟨some 16, .mov (.t 6), none⟩, ⟨some 17, .bin .add (.t 16) (.c (.int .i64 1)), none⟩, ⟨some 6, .mov (.t 17), none⟩]))))))
 (.seq (.reg false [] [4] [⟨some 58, .fad 3 (.t 3), none⟩, ⟨some 59, .ld 1 false (.t 58), none⟩, ⟨some 60, .bin .geq (.t 59) (.c (.int .i64 0)), none⟩, ⟨some 61, .mov (.t 60), none⟩, ⟨some 62, .fad 3 (.t 3), some (61, true)⟩, ⟨some 63, .ld 1 false (.t 62), some (61, true)⟩, ⟨some 64, .bin .lss (.t 63) (.c (.int .i64 16)), some (61, true)⟩, ⟨some 65, .pick (.t 61) (.t 64) (.c (.bool false)), none⟩, ⟨some 4, .mov (.t 65), none⟩])
 .ret)))) }

/-- sewershed/sewershedref09.turn -/
def N293_ref09_turn : NFun := { np := 2, nt := 19, res := [(4, none)], body :=
 (.seq (.reg false [] [2, 3] [⟨some 2, .boxF (.t 0), none⟩, ⟨some 3, .boxF (.t 1), none⟩, ⟨some 4, .mov (.c (.int .i64 0)), none⟩])
 (.seq (.reg false [] [5] [⟨some 6, .ld 2 true (.t 2), none⟩, ⟨some 7, .ld 4 true (.t 3), none⟩, ⟨some 8, .call 285 [(.t 6), (.t 7)] [], none⟩, ⟨some 5, .asg (.t 8), none⟩])
 (.seq (.reg true [0, 1, 3, 0, 8, 24, 0, 64, 192, 511, 1023] [4] [⟨some 9, .mov (.t 5), none⟩, ⟨some 10, .iadS 2 (.t 9) (.c (.int .i64 0)), none⟩, ⟨some 11, .ld 2 true (.t 10), none⟩, ⟨some 12, .mov (.t 5), none⟩, ⟨some 13, .iadS 2 (.t 12) (.c (.int .i64 1)), none⟩, ⟨some 14, .ld 2 true (.t 13), none⟩, ⟨some 15, .asg (.t 5), none⟩, ⟨some 16, .iadS 2 (.t 15) (.c (.int .i64 2)), none⟩, ⟨some 17, .ld 2 true (.t 16), none⟩, ⟨some 18, .call 286 [(.t 11), (.t 14), (.t 17)] [], none⟩, ⟨some 4, .mov (.t 18), none⟩])
 .ret))) }

/-- sewershed/sewershedref09.sameSide -/
def N294_ref09_sameSide : NFun := { np := 2, nt := 33, res := [(4, none)], body :=
 (.seq (.reg false [] [2, 3] [⟨some 2, .boxF (.t 0), none⟩, ⟨some 3, .boxF (.t 1), none⟩, ⟨some 4, .mov (.c (.bool false)), none⟩])
 (.seq (.seq (.reg false [] [2, 3, 5] [⟨some 5, .mov (.c (.int .i64 0)), none⟩])
 (.block 0 (.loop (.seq (.seq (.reg false [] [2, 3, 5, 8] [⟨some 7, .mov (.t 5), none⟩, ⟨some 8, .bin .lss (.t 7) (.c (.int .i64 3)), none⟩])
 (.cond (.t 8) .skip
 (.exit 0)))
 (.seq (.block 1 (.seq (.reg false [] [2, 3, 5, 6] [⟨some 6, .mov (.c (.int .i64 0)), none⟩])
 (.block 2 (.loop (.seq (.seq (.reg false [] [2, 3, 5, 6, 12] [⟨some 11, .mov (.t 6), none⟩, ⟨some 12, .bin .lss (.t 11) (.c (.int .i64 3)), none⟩])
 (.cond (.t 12) .skip
 (.exit 2)))
 (.seq (.block 3 (.seq (.reg true [0, 0, 3, 0, 0, 31, 63, 127, 255, 255, 767, 2047, 255, 255, 8447, 32767, 65535, 131071] [2, 3, 5, 6, 32] [⟨some 15, .ld 4 true (.t 2), none⟩, ⟨some 16, .mov (.t 5), none⟩, ⟨some 17, .call 323 [(.t 15), (.t 16)] [], none⟩, ⟨some 18, .ld 4 true (.t 3), none⟩, ⟨some 19, .mov (.t 6), none⟩, ⟨some 20, .call 323 [(.t 18), (.t 19)] [], none⟩, ⟨some 21, .bin .eql (.t 17) (.t 20), none⟩, ⟨some 22, .mov (.t 21), none⟩, ⟨some 23, .ld 4 true (.t 2), some (22, true)⟩, ⟨some 24, .mov (.t 5), some (22, true)⟩, ⟨some 25, .bin .add (.t 24) (.c (.int .i64 1)), some (22, true)⟩, ⟨some 26, .call 323 [(.t 23), (.t 25)] [], some (22, true)⟩, ⟨some 27, .ld 4 true (.t 3), some (22, true)⟩, ⟨some 28, .mov (.t 6), some (22, true)⟩, ⟨some 29, .bin .add (.t 28) (.c (.int .i64 1)), some (22, true)⟩, ⟨some 30, .call 323 [(.t 27), (.t 29)] [], some (22, true)⟩, ⟨some 31, .bin .eql (.t 26) (.t 30), some (22, true)⟩, ⟨some 32, .pick (.t 22) (.t 31) (.c (.bool false)), none⟩])
 (.cond (.t 32) (.seq (.reg false [] [4] [⟨some 4, .mov (.c (.bool true)), none⟩])
 .ret)
 .skip)))
 (.reg false [] [2, 3, 5, 6] [⟨some 13, .mov (.t 6), none⟩, ⟨some 14, .bin .add (.t 13) (.c (.int .i64 1)), none⟩, ⟨some 6, .mov (.t 14), none⟩])))))))
 (.reg false [] [2, 3, 5] [⟨some 9, .mov (.t 5), none⟩, ⟨some 10, .bin .add (.t 9) (.c (.int .i64 1)), none⟩, ⟨some 5, .mov (.t 10), none⟩]))))))
 (.seq (.reg false [] [4] [⟨some 4, .mov (.c (.bool false)), none⟩])
 .ret))) }

/-- sewershed/sewershedref09.overlap -/
def N295_ref09_overlap : NFun := { np := 3, nt := 25, res := [(6, none)], body :=
 (.seq (.reg false [] [3, 4, 5] [⟨some 3, .boxF (.t 0), none⟩, ⟨some 4, .boxF (.t 1), none⟩, ⟨some 5, .boxF (.t 2), none⟩, ⟨some 6, .mov (.c (.bool false)), none⟩])
 (.seq (.reg true [0, 0, 3, 0, 0, 31, 63, 127] [7, 8] [⟨some 9, .ld 2 true (.t 3), none⟩, ⟨some 10, .ld 4 true (.t 4), none⟩, ⟨some 11, .call 285 [(.t 9), (.t 10)] [], none⟩, ⟨some 12, .ld 2 true (.t 3), none⟩, ⟨some 13, .ld 4 true (.t 5), none⟩, ⟨some 14, .call 285 [(.t 12), (.t 13)] [], none⟩, ⟨some 7, .asg (.t 11), none⟩, ⟨some 8, .asg (.t 14), none⟩])
 (.seq (.reg false [] [6] [⟨some 15, .mov (.t 7), none⟩, ⟨some 16, .mov (.t 8), none⟩, ⟨some 17, .call 324 [(.t 15), (.t 16)] [], none⟩, ⟨some 18, .un .not (.t 17), none⟩, ⟨some 19, .mov (.t 18), none⟩, ⟨some 20, .asg (.t 8), some (19, true)⟩, ⟨some 21, .asg (.t 7), some (19, true)⟩, ⟨some 22, .call 324 [(.t 20), (.t 21)] [], some (19, true)⟩, ⟨some 23, .un .not (.t 22), some (19, true)⟩, ⟨some 24, .pick (.t 19) (.t 23) (.c (.bool false)), none⟩, ⟨some 6, .mov (.t 24), none⟩])
 .ret))) }

/-- sewershed/mesh.side -/
def N298_mesh_side : NFun := { np := 2, nt := 17, res := [(4, some (2, true))], body :=
 (.seq (.reg false [] [1, 2, 4] [⟨some 2, .boxF (.t 0), none⟩, ⟨some 4, .alc [.int .i64 0, .int .i64 0], none⟩])
 (.seq (.reg false [] [1, 4, 5] [⟨some 6, .ld 4 true (.t 2), none⟩, ⟨some 7, .call 305 [(.t 6)] [], none⟩, ⟨some 5, .alc [.int .i64 0, .int .i64 0, .int .i64 0], none⟩, ⟨none, .st 3 [] (.t 5) (.t 7), none⟩])
 (.seq (.reg true [0, 1, 3, 0, 8, 24, 56, 120, 255, 511] [4] [⟨some 8, .mov (.t 1), none⟩, ⟨some 9, .iadA 3 1 (.t 5) (.t 8), none⟩, ⟨some 10, .ld 1 false (.t 9), none⟩, ⟨some 11, .mov (.t 1), none⟩, ⟨some 12, .bin .add (.t 11) (.c (.int .i64 1)), none⟩, ⟨some 13, .bin .rem (.t 12) (.c (.int .i64 3)), none⟩, ⟨some 14, .iadA 3 1 (.t 5) (.t 13), none⟩, ⟨some 15, .ld 1 false (.t 14), none⟩, ⟨some 16, .bld [.int .i64 0, .int .i64 0] [(0, 1, (.t 10)), (1, 1, (.t 15))], none⟩, ⟨none, .st 2 [] (.t 4) (.t 16), none⟩])
 .ret))) }

/-- sewershed/locate.exact -/
def N300_locate_exact : NFun := { np := 3, nt := 68, res := [(6, some (2, true)), (7, none), (8, none)], body :=
 (.seq (.reg false [] [1, 3, 5, 6] [⟨some 3, .boxF (.t 0), none⟩, ⟨some 5, .boxF (.t 2), none⟩, ⟨some 6, .alc [.int .i64 0, .int .i64 0], none⟩, ⟨some 7, .mov (.c (.int .i64 0)), none⟩, ⟨some 8, .mov (.c (.int .i64 0)), none⟩])
 (.seq (.reg false [] [5, 6, 9] [⟨some 14, .ld 2 true (.t 3), none⟩, ⟨some 15, .mov (.t 1), none⟩, ⟨some 16, .call 319 [(.t 14), (.t 15)] [], none⟩, ⟨some 9, .alc [.int .i64 0, .int .i64 0, .int .i64 0, .int .i64 0, .int .i64 0, .int .i64 0, .int .i64 0, .int .i64 0, .int .i64 0], none⟩, ⟨none, .st 9 [] (.t 9) (.t 16), none⟩])
 (.seq (.seq (.reg false [] [5, 6, 9, 17, 18] [⟨some 17, .ld 9 true (.t 9), none⟩, ⟨some 18, .mov (.c (.int .i64 0)), none⟩])
 (.block 0 (.loop (.seq (.reg false [] [5, 6, 9, 17, 18, 19] [⟨some 19, .bin .lss (.t 18) (.c (.int .i64 3)), none⟩])
 (.seq (.cond (.t 19) .skip
 (.exit 0))
 (.seq (.block 1 (.seq (.reg false [] [5, 6, 9, 10, 11, 17, 18] [⟨some 20, .mov (.t 18), none⟩, ⟨some 21, .idxA 3 3 true (.t 17) (.t 18), none⟩, ⟨some 11, .alc [.int .i64 0, .int .i64 0, .int .i64 0], none⟩, ⟨some 10, .mov (.t 20), none⟩, ⟨none, .st 3 [] (.t 11) (.t 21), none⟩])
 (.seq (.reg true [0, 1, 0, 0, 8, 24, 56, 120, 248, 0, 512, 1536, 3584, 7680, 16376, 32764, 65535, 131071, 262143, 262143, 0, 1572863, 4194303] [5, 6, 9, 12, 13, 17, 18] [⟨some 23, .fad 2 (.t 11), none⟩, ⟨some 24, .ld 1 false (.t 23), none⟩, ⟨some 25, .ld 2 true (.t 5), none⟩, ⟨some 26, .mov (.t 10), none⟩, ⟨some 27, .bin .add (.t 26) (.c (.int .i64 1)), none⟩, ⟨some 28, .bin .rem (.t 27) (.c (.int .i64 3)), none⟩, ⟨some 29, .iadA 3 3 (.t 9) (.t 28), none⟩, ⟨some 30, .ld 3 true (.t 29), none⟩, ⟨some 31, .call 321 [(.t 30)] [], none⟩, ⟨some 32, .mov (.t 10), none⟩, ⟨some 33, .bin .add (.t 32) (.c (.int .i64 2)), none⟩, ⟨some 34, .bin .rem (.t 33) (.c (.int .i64 3)), none⟩, ⟨some 35, .iadA 3 3 (.t 9) (.t 34), none⟩, ⟨some 36, .ld 3 true (.t 35), none⟩, ⟨some 37, .call 321 [(.t 36)] [], none⟩, ⟨some 38, .call 320 [(.t 25), (.t 31), (.t 37)] [], none⟩, ⟨some 39, .call 99 [(.t 24), (.t 38)] [], none⟩, ⟨some 22, .mov (.t 39), none⟩, ⟨some 40, .ext 0 (.t 22), none⟩, ⟨some 41, .ext 1 (.t 22), none⟩, ⟨some 12, .alc [.int .i64 0, .int .i64 0], none⟩, ⟨none, .st 2 [] (.t 12) (.t 40), none⟩, ⟨some 13, .mov (.t 41), none⟩])
 (.seq (.seq (.reg false [] [5, 6, 9, 12, 13, 17, 18, 43] [⟨some 42, .mov (.t 13), none⟩, ⟨some 43, .bin .neq (.t 42) (.c (.int .i64 0)), none⟩])
 (.cond (.t 43) (.seq (.reg false [] [6, 7, 8] [⟨some 44, .bld [.int .i64 0, .int .i64 0] [], none⟩, ⟨some 45, .mov (.t 13), none⟩, ⟨none, .st 2 [] (.t 6) (.t 44), none⟩, ⟨some 7, .mov (.c (.int .i64 0)), none⟩, ⟨some 8, .mov (.t 45), none⟩])
 .ret)
 .skip))
 (.seq (.reg false [] [5, 6, 9, 13, 17, 18] [⟨some 47, .ld 2 true (.t 6), none⟩, ⟨some 48, .ld 2 true (.t 12), none⟩, ⟨some 49, .call 327 [(.t 47), (.t 48)] [], none⟩, ⟨some 46, .mov (.t 49), none⟩, ⟨some 50, .ext 0 (.t 46), none⟩, ⟨some 51, .ext 1 (.t 46), none⟩, ⟨none, .st 2 [] (.t 6) (.t 50), none⟩, ⟨some 13, .mov (.t 51), none⟩])
 (.seq (.reg false [] [5, 6, 9, 13, 17, 18, 53] [⟨some 52, .mov (.t 13), none⟩, ⟨some 53, .bin .neq (.t 52) (.c (.int .i64 0)), none⟩])
 (.cond (.t 53) (.seq (.reg false [] [6, 7, 8] [⟨some 54, .bld [.int .i64 0, .int .i64 0] [], none⟩, ⟨some 55, .mov (.t 13), none⟩, ⟨none, .st 2 [] (.t 6) (.t 54), none⟩, ⟨some 7, .mov (.c (.int .i64 0)), none⟩, ⟨some 8, .mov (.t 55), none⟩])
 .ret)
 .skip)))))))
 (.reg false [] [5, 6, 9, 17, 18] [⟨some 56, .bin .add (.t 18) (.c (.int .i64 1)), none⟩, ⟨some 18, .mov (.t 56), none⟩])))))))
 (.seq (.reg true [0, 0, 2, 6, 0, 16, 62, 0, 128, 510, 1022, 2047, 4095, 8191] [6, 7, 8] [⟨some 57, .ld 2 true (.t 6), none⟩, ⟨some 58, .iadA 3 3 (.t 9) (.c (.int .i64 0)), none⟩, ⟨some 59, .ld 3 true (.t 58), none⟩, ⟨some 60, .call 321 [(.t 59)] [], none⟩, ⟨some 61, .iadA 3 3 (.t 9) (.c (.int .i64 1)), none⟩, ⟨some 62, .ld 3 true (.t 61), none⟩, ⟨some 63, .call 321 [(.t 62)] [], none⟩, ⟨some 64, .iadA 3 3 (.t 9) (.c (.int .i64 2)), none⟩, ⟨some 65, .ld 3 true (.t 64), none⟩, ⟨some 66, .call 321 [(.t 65)] [], none⟩, ⟨some 67, .call 320 [(.t 60), (.t 63), (.t 66)] [], none⟩, ⟨none, .st 2 [] (.t 6) (.t 57), none⟩, ⟨some 7, .mov (.t 67), none⟩, ⟨some 8, .mov (.c (.int .i64 0)), none⟩])
 .ret)))) }

/-- sewershed/wide.divided -/
def N301_wide_divided : NFun := { np := 3, nt := 20, res := [(6, none), (7, none)], body :=
 (.seq (.reg false [] [1, 2, 3] [⟨some 3, .boxF (.t 0), none⟩, ⟨some 6, .mov (.c (.int .i64 0)), none⟩, ⟨some 7, .mov (.c (.int .i64 0)), none⟩])
 (.seq (.seq (.reg false [] [1, 2, 3, 10] [⟨some 8, .ld 2 true (.t 3), none⟩, ⟨some 9, .call 106 [(.t 8)] [], none⟩, ⟨some 10, .un .not (.t 9), none⟩])
 (.cond (.t 10) (.seq (.reg false [] [6, 7] [⟨some 6, .mov (.c (.int .i64 0)), none⟩, ⟨some 7, .mov (.c (.int .i64 1)), none⟩])
 .ret)
 .skip))
 (.seq (.seq (.reg false [] [1, 2, 3, 12] [⟨some 11, .mov (.t 1), none⟩, ⟨some 12, .bin .eql (.t 11) (.c (.int .i64 0)), none⟩])
 (.cond (.t 12) (.seq (.reg false [] [6, 7] [⟨some 6, .mov (.c (.int .i64 0)), none⟩, ⟨some 7, .mov (.c (.int .i64 16)), none⟩])
 .ret)
 .skip))
 (.seq (.reg false [] [6, 7] [⟨some 13, .ld 2 true (.t 3), none⟩, ⟨some 14, .call 108 [(.t 13)] [], none⟩, ⟨some 15, .mov (.t 1), none⟩, ⟨some 16, .mov (.t 2), none⟩, ⟨some 17, .call 104 [(.t 14), (.t 15), (.t 16)] [], none⟩, ⟨some 18, .ext 0 (.t 17), none⟩, ⟨some 19, .ext 1 (.t 17), none⟩, ⟨some 6, .mov (.t 18), none⟩, ⟨some 7, .mov (.t 19), none⟩])
 .ret)))) }

/-- sewershed/mesh.small -/
def N302_mesh_small : NFun := { np := 1, nt := 13, res := [(2, none)], body :=
 (.seq (.reg false [] [1] [⟨some 1, .boxF (.t 0), none⟩, ⟨some 2, .mov (.c (.bool false)), none⟩])
 (.seq (.reg false [] [2] [⟨some 3, .fad 0 (.t 1), none⟩, ⟨some 4, .ld 1 false (.t 3), none⟩, ⟨some 5, .len (.t 4), none⟩, ⟨some 6, .bin .leq (.t 5) (.c (.int .i64 2000)), none⟩, ⟨some 7, .mov (.t 6), none⟩, ⟨some 8, .fad 1 (.t 1), some (7, true)⟩, ⟨some 9, .ld 1 false (.t 8), some (7, true)⟩, ⟨some 10, .len (.t 9), some (7, true)⟩, ⟨some 11, .bin .leq (.t 10) (.c (.int .i64 4000)), some (7, true)⟩, ⟨some 12, .pick (.t 7) (.t 11) (.c (.bool false)), none⟩, ⟨some 2, .mov (.t 12), none⟩])
 .ret)) }

/-- sewershed/mesh.right -/
def N303_mesh_right : NFun := { np := 1, nt := 19, res := [(2, none)], body :=
 (.seq (.reg false [] [1] [⟨some 1, .boxF (.t 0), none⟩, ⟨some 2, .mov (.c (.bool false)), none⟩])
 (.seq (.reg false [] [2] [⟨some 3, .fad 0 (.t 1), none⟩, ⟨some 4, .ld 1 false (.t 3), none⟩, ⟨some 5, .fad 1 (.t 1), none⟩, ⟨some 6, .ld 1 false (.t 5), none⟩, ⟨some 7, .bld [.int .i64 0, .int .i64 0] [(0, 1, (.t 4)), (1, 1, (.t 6))], none⟩, ⟨some 8, .call 313 [(.t 7)] [], none⟩, ⟨some 9, .mov (.t 8), none⟩, ⟨some 10, .fad 2 (.t 1), some (9, true)⟩, ⟨some 11, .ld 1 false (.t 10), some (9, true)⟩, ⟨some 12, .bin .geq (.t 11) (.c (.int .i64 (-4194304))), some (9, true)⟩, ⟨some 13, .pick (.t 9) (.t 12) (.c (.bool false)), none⟩, ⟨some 14, .mov (.t 13), none⟩, ⟨some 15, .fad 2 (.t 1), some (14, true)⟩, ⟨some 16, .ld 1 false (.t 15), some (14, true)⟩, ⟨some 17, .bin .leq (.t 16) (.c (.int .i64 4194304)), some (14, true)⟩, ⟨some 18, .pick (.t 14) (.t 17) (.c (.bool false)), none⟩, ⟨some 2, .mov (.t 18), none⟩])
 .ret)) }

/-- sewershed/mesh.point -/
def N304_mesh_point : NFun := { np := 2, nt := 18, res := [(4, some (2, true))], body :=
 (.seq (.reg false [] [1, 2, 4] [⟨some 2, .boxF (.t 0), none⟩, ⟨some 4, .alc [.int .i64 0, .int .i64 0], none⟩])
 (.seq (.reg true [0, 1, 0, 7, 15, 31, 0, 64, 0, 448, 960, 1984, 4095, 8191] [4] [⟨some 5, .fad 0 (.t 2), none⟩, ⟨some 6, .ld 1 false (.t 5), none⟩, ⟨some 7, .mov (.t 1), none⟩, ⟨some 8, .iadS 3 (.t 6) (.t 7), none⟩, ⟨some 9, .fad 0 (.t 8), none⟩, ⟨some 10, .ld 1 false (.t 9), none⟩, ⟨some 11, .fad 0 (.t 2), none⟩, ⟨some 12, .ld 1 false (.t 11), none⟩, ⟨some 13, .mov (.t 1), none⟩, ⟨some 14, .iadS 3 (.t 12) (.t 13), none⟩, ⟨some 15, .fad 1 (.t 14), none⟩, ⟨some 16, .ld 1 false (.t 15), none⟩, ⟨some 17, .bld [.int .i64 0, .int .i64 0] [(0, 1, (.t 10)), (1, 1, (.t 16))], none⟩, ⟨none, .st 2 [] (.t 4) (.t 17), none⟩])
 .ret)) }

/-- sewershed/mesh.corners -/
def N305_mesh_corners : NFun := { np := 1, nt := 10, res := [(2, some (3, true))], body :=
 (.seq (.reg false [] [1, 2] [⟨some 1, .boxF (.t 0), none⟩, ⟨some 2, .alc [.int .i64 0, .int .i64 0, .int .i64 0], none⟩])
 (.seq (.reg false [] [2] [⟨some 3, .fad 0 (.t 1), none⟩, ⟨some 4, .ld 1 false (.t 3), none⟩, ⟨some 5, .fad 1 (.t 1), none⟩, ⟨some 6, .ld 1 false (.t 5), none⟩, ⟨some 7, .fad 2 (.t 1), none⟩, ⟨some 8, .ld 1 false (.t 7), none⟩, ⟨some 9, .bld [.int .i64 0, .int .i64 0, .int .i64 0] [(0, 1, (.t 4)), (1, 1, (.t 6)), (2, 1, (.t 8))], none⟩, ⟨none, .st 3 [] (.t 2) (.t 9), none⟩])
 .ret)) }

/-- sewershed/mesh.Check$1 -/
def N306_mesh_Check_1 : NFun := { np := 3, nt := 20, res := [(4, none)], body :=
 (.seq (.reg false [] [0, 1, 2] [⟨some 4, .mov (.c (.bool false)), none⟩])
 (.seq (.reg false [] [4] [⟨some 5, .mov (.t 0), none⟩, ⟨some 6, .bin .lss (.t 5) (.c (.int .i64 0)), none⟩, ⟨some 7, .mov (.t 6), none⟩, ⟨some 8, .mov (.t 0), some (7, false)⟩, ⟨some 9, .fad 0 (.t 1), some (7, false)⟩, ⟨some 10, .ld 1 false (.t 9), some (7, false)⟩, ⟨some 11, .len (.t 10), some (7, false)⟩, ⟨some 12, .bin .geq (.t 8) (.t 11), some (7, false)⟩, ⟨some 13, .pick (.t 7) (.c (.bool true)) (.t 12), none⟩, ⟨some 14, .mov (.t 13), none⟩, ⟨some 15, .ld 1 false (.t 2), some (14, false)⟩, ⟨some 16, .mov (.t 0), some (14, false)⟩, ⟨some 17, .iadS 1 (.t 15) (.t 16), some (14, false)⟩, ⟨some 18, .ld 1 false (.t 17), some (14, false)⟩, ⟨some 19, .pick (.t 14) (.c (.bool true)) (.t 18), none⟩, ⟨some 4, .mov (.t 19), none⟩])
 .ret)) }

/-- sewershed/mesh.triangle -/
def N307_mesh_triangle : NFun := { np := 2, nt := 18, res := [(4, some (6, true))], body :=
 (.seq (.reg false [] [2, 3, 4] [⟨some 2, .boxF (.t 0), none⟩, ⟨some 3, .boxF (.t 1), none⟩, ⟨some 4, .alc [.int .i64 0, .int .i64 0, .int .i64 0, .int .i64 0, .int .i64 0, .int .i64 0], none⟩])
 (.seq (.reg true [0, 0, 2, 7, 0, 0, 32, 127, 0, 0, 512, 2047, 4095, 8191] [4] [⟨some 5, .ld 2 true (.t 2), none⟩, ⟨some 6, .fad 0 (.t 3), none⟩, ⟨some 7, .ld 1 false (.t 6), none⟩, ⟨some 8, .call 304 [(.t 5), (.t 7)] [], none⟩, ⟨some 9, .ld 2 true (.t 2), none⟩, ⟨some 10, .fad 1 (.t 3), none⟩, ⟨some 11, .ld 1 false (.t 10), none⟩, ⟨some 12, .call 304 [(.t 9), (.t 11)] [], none⟩, ⟨some 13, .ld 2 true (.t 2), none⟩, ⟨some 14, .fad 2 (.t 3), none⟩, ⟨some 15, .ld 1 false (.t 14), none⟩, ⟨some 16, .call 304 [(.t 13), (.t 15)] [], none⟩, ⟨some 17, .bld [.int .i64 0, .int .i64 0, .int .i64 0, .int .i64 0, .int .i64 0, .int .i64 0] [(0, 2, (.t 8)), (2, 2, (.t 12)), (4, 2, (.t 16))], none⟩, ⟨none, .st 6 [] (.t 4) (.t 17), none⟩])
 .ret)) }

/-- sewershed/mesh.turn -/
def N308_mesh_turn : NFun := { np := 3, nt := 30, res := [(6, none)], body :=
 (.seq (.reg false [] [3, 4, 5] [⟨some 3, .boxF (.t 0), none⟩, ⟨some 4, .boxF (.t 1), none⟩, ⟨some 5, .boxF (.t 2), none⟩, ⟨some 6, .mov (.c (.int .i64 0)), none⟩])
 (.seq (.reg false [] [6] [⟨some 7, .fad 0 (.t 4), none⟩, ⟨some 8, .ld 1 false (.t 7), none⟩, ⟨some 9, .fad 0 (.t 3), none⟩, ⟨some 10, .ld 1 false (.t 9), none⟩, ⟨some 11, .bin .sub (.t 8) (.t 10), none⟩, ⟨some 12, .fad 1 (.t 5), none⟩, ⟨some 13, .ld 1 false (.t 12), none⟩, ⟨some 14, .fad 1 (.t 3), none⟩, ⟨some 15, .ld 1 false (.t 14), none⟩, ⟨some 16, .bin .sub (.t 13) (.t 15), none⟩, ⟨some 17, .bin .mul (.t 11) (.t 16), none⟩, ⟨some 18, .fad 1 (.t 4), none⟩, ⟨some 19, .ld 1 false (.t 18), none⟩, ⟨some 20, .fad 1 (.t 3), none⟩, ⟨some 21, .ld 1 false (.t 20), none⟩, ⟨some 22, .bin .sub (.t 19) (.t 21), none⟩, ⟨some 23, .fad 0 (.t 5), none⟩, ⟨some 24, .ld 1 false (.t 23), none⟩, ⟨some 25, .fad 0 (.t 3), none⟩, ⟨some 26, .ld 1 false (.t 25), none⟩, ⟨some 27, .bin .sub (.t 24) (.t 26), none⟩, ⟨some 28, .bin .mul (.t 22) (.t 27), none⟩, ⟨some 29, .bin .sub (.t 17) (.t 28), none⟩, ⟨some 6, .mov (.t 29), none⟩])
 .ret)) }

/-- slices.ContainsFunc[[][3]sewershed/api.Point,[3]sewershed/api.Point] -/
def N309_slices_ContainsFunc___3api_Point__3api_Point : NFun := { np := 2, nt := 9, res := [(4, none)], body :=
 (.seq (.reg false [] [0, 1] [⟨some 4, .mov (.c (.bool false)), none⟩])
 (.seq (.reg false [] [4] [⟨some 5, .asg (.t 0), none⟩, ⟨some 6, .mov (.t 1), none⟩, ⟨some 7, .call 328 [(.t 5), (.t 6)] [], none⟩, ⟨some 8, .bin .geq (.t 7) (.c (.int .i64 0)), none⟩, ⟨some 4, .mov (.t 8), none⟩])
 .ret)) }

/-- sewershed/mesh.Check$2 -/
def N310_mesh_Check_2 : NFun := { np := 2, nt := 14, res := [(3, none)], body :=
 (.seq (.reg false [] [1, 2] [⟨some 2, .boxF (.t 0), none⟩, ⟨some 3, .mov (.c (.bool false)), none⟩])
 (.seq (.reg false [] [3] [⟨some 4, .ld 6 true (.t 1), none⟩, ⟨some 5, .ld 6 true (.t 2), none⟩, ⟨some 6, .call 311 [(.t 4), (.t 5)] [], none⟩, ⟨some 7, .un .not (.t 6), none⟩, ⟨some 8, .mov (.t 7), none⟩, ⟨some 9, .ld 6 true (.t 2), some (8, true)⟩, ⟨some 10, .ld 6 true (.t 1), some (8, true)⟩, ⟨some 11, .call 311 [(.t 9), (.t 10)] [], some (8, true)⟩, ⟨some 12, .un .not (.t 11), some (8, true)⟩, ⟨some 13, .pick (.t 8) (.t 12) (.c (.bool false)), none⟩, ⟨some 3, .mov (.t 13), none⟩])
 .ret)) }

/-- sewershed/mesh.separates -/
def N311_mesh_separates : NFun := { np := 2, nt := 42, res := [(4, none)], body :=
 (.seq (.reg false [] [2, 3] [⟨some 2, .boxF (.t 0), none⟩, ⟨some 3, .boxF (.t 1), none⟩, ⟨some 4, .mov (.c (.bool false)), none⟩])
 (.seq (.seq (.reg false [] [2, 3, 8] [⟨some 8, .mov (.c (.int .i64 0)), none⟩])
 (.block 0 (.loop (.seq (.reg false [] [2, 3, 8, 9] [⟨some 9, .bin .lss (.t 8) (.c (.int .i64 3)), none⟩])
 (.seq (.cond (.t 9) .skip
 (.exit 0))
 (.seq (.block 1 (.seq (.reg false [] [2, 3, 5, 8] [⟨some 10, .mov (.t 8), none⟩, ⟨some 5, .mov (.t 10), none⟩])
 (.seq (.reg true [0, 1, 3, 0, 8, 24, 56, 120, 0, 0, 775, 2047] [2, 3, 6, 7, 8] [⟨some 11, .mov (.t 5), none⟩, ⟨some 12, .iadA 3 2 (.t 2) (.t 11), none⟩, ⟨some 13, .ld 2 true (.t 12), none⟩, ⟨some 14, .mov (.t 5), none⟩, ⟨some 15, .bin .add (.t 14) (.c (.int .i64 1)), none⟩, ⟨some 16, .bin .rem (.t 15) (.c (.int .i64 3)), none⟩, ⟨some 17, .iadA 3 2 (.t 2) (.t 16), none⟩, ⟨some 18, .ld 2 true (.t 17), none⟩, ⟨some 6, .alc [.int .i64 0, .int .i64 0], none⟩, ⟨some 7, .alc [.int .i64 0, .int .i64 0], none⟩, ⟨none, .st 2 [] (.t 6) (.t 13), none⟩, ⟨none, .st 2 [] (.t 7) (.t 18), none⟩])
 (.seq (.reg false [] [2, 3, 8, 40] [⟨some 19, .ld 2 true (.t 6), none⟩, ⟨some 20, .ld 2 true (.t 7), none⟩, ⟨some 21, .iadA 3 2 (.t 3) (.c (.int .i64 0)), none⟩, ⟨some 22, .ld 2 true (.t 21), none⟩, ⟨some 23, .call 308 [(.t 19), (.t 20), (.t 22)] [], none⟩, ⟨some 24, .bin .leq (.t 23) (.c (.int .i64 0)), none⟩, ⟨some 25, .mov (.t 24), none⟩, ⟨some 26, .ld 2 true (.t 6), some (25, true)⟩, ⟨some 27, .ld 2 true (.t 7), some (25, true)⟩, ⟨some 28, .iadA 3 2 (.t 3) (.c (.int .i64 1)), some (25, true)⟩, ⟨some 29, .ld 2 true (.t 28), some (25, true)⟩, ⟨some 30, .call 308 [(.t 26), (.t 27), (.t 29)] [], some (25, true)⟩, ⟨some 31, .bin .leq (.t 30) (.c (.int .i64 0)), some (25, true)⟩, ⟨some 32, .pick (.t 25) (.t 31) (.c (.bool false)), none⟩, ⟨some 33, .mov (.t 32), none⟩, ⟨some 34, .ld 2 true (.t 6), some (33, true)⟩, ⟨some 35, .ld 2 true (.t 7), some (33, true)⟩, ⟨some 36, .iadA 3 2 (.t 3) (.c (.int .i64 2)), some (33, true)⟩, ⟨some 37, .ld 2 true (.t 36), some (33, true)⟩, ⟨some 38, .call 308 [(.t 34), (.t 35), (.t 37)] [], some (33, true)⟩, ⟨some 39, .bin .leq (.t 38) (.c (.int .i64 0)), some (33, true)⟩, ⟨some 40, .pick (.t 33) (.t 39) (.c (.bool false)), none⟩])
 (.cond (.t 40) (.seq (.reg false [] [4] [⟨some 4, .mov (.c (.bool true)), none⟩])
 .ret)
 .skip)))))
 (.reg false [] [2, 3, 8] [⟨some 41, .bin .add (.t 8) (.c (.int .i64 1)), none⟩, ⟨some 8, .mov (.t 41), none⟩])))))))
 (.seq (.reg false [] [4] [⟨some 4, .mov (.c (.bool false)), none⟩])
 .ret))) }

/-- sewershed/locate.valid$1 -/
def N312_locate_valid_1 : NFun := { np := 1, nt := 6, res := [(2, none)], body :=
 (.seq (.reg false [] [1] [⟨some 1, .boxF (.t 0), none⟩, ⟨some 2, .mov (.c (.bool false)), none⟩])
 (.seq (.reg false [] [2] [⟨some 3, .ld 2 true (.t 1), none⟩, ⟨some 4, .call 313 [(.t 3)] [], none⟩, ⟨some 5, .un .not (.t 4), none⟩, ⟨some 2, .mov (.t 5), none⟩])
 .ret)) }

/-- sewershed/plane.Valid -/
def N313_plane_Valid : NFun := { np := 1, nt := 21, res := [(2, none)], body :=
 (.seq (.reg false [] [1] [⟨some 1, .boxF (.t 0), none⟩, ⟨some 2, .mov (.c (.bool false)), none⟩])
 (.seq (.reg false [] [2] [⟨some 3, .fad 0 (.t 1), none⟩, ⟨some 4, .ld 1 false (.t 3), none⟩, ⟨some 5, .bin .geq (.t 4) (.c (.int .i64 (-16777216))), none⟩, ⟨some 6, .mov (.t 5), none⟩, ⟨some 7, .fad 0 (.t 1), some (6, true)⟩, ⟨some 8, .ld 1 false (.t 7), some (6, true)⟩, ⟨some 9, .bin .leq (.t 8) (.c (.int .i64 16777216)), some (6, true)⟩, ⟨some 10, .pick (.t 6) (.t 9) (.c (.bool false)), none⟩, ⟨some 11, .mov (.t 10), none⟩, ⟨some 12, .fad 1 (.t 1), some (11, true)⟩, ⟨some 13, .ld 1 false (.t 12), some (11, true)⟩, ⟨some 14, .bin .geq (.t 13) (.c (.int .i64 (-16777216))), some (11, true)⟩, ⟨some 15, .pick (.t 11) (.t 14) (.c (.bool false)), none⟩, ⟨some 16, .mov (.t 15), none⟩, ⟨some 17, .fad 1 (.t 1), some (16, true)⟩, ⟨some 18, .ld 1 false (.t 17), some (16, true)⟩, ⟨some 19, .bin .leq (.t 18) (.c (.int .i64 16777216)), some (16, true)⟩, ⟨some 20, .pick (.t 16) (.t 19) (.c (.bool false)), none⟩, ⟨some 2, .mov (.t 20), none⟩])
 .ret)) }

/-- sewershed/locate.corners -/
def N319_locate_corners : NFun := { np := 2, nt := 30, res := [(4, some (9, true))], body :=
 (.seq (.reg false [] [1, 2, 4] [⟨some 2, .boxF (.t 0), none⟩, ⟨some 4, .alc [.int .i64 0, .int .i64 0, .int .i64 0, .int .i64 0, .int .i64 0, .int .i64 0, .int .i64 0, .int .i64 0, .int .i64 0], none⟩])
 (.seq (.reg false [] [2, 4, 5] [⟨some 6, .fad 1 (.t 2), none⟩, ⟨some 7, .ld 1 false (.t 6), none⟩, ⟨some 8, .mov (.t 1), none⟩, ⟨some 9, .iadS 4 (.t 7) (.t 8), none⟩, ⟨some 10, .ld 4 true (.t 9), none⟩, ⟨some 5, .alc [.int .i64 0, .int .i64 0, .int .i64 0, .int .i64 0], none⟩, ⟨none, .st 4 [] (.t 5) (.t 10), none⟩])
 (.seq (.reg true [0, 1, 0, 4, 15, 31, 0, 64, 0, 256, 960, 1984, 0, 4096, 0, 16384, 61440, 126976, 262143, 524287] [4] [⟨some 11, .fad 0 (.t 2), none⟩, ⟨some 12, .ld 1 false (.t 11), none⟩, ⟨some 13, .fad 0 (.t 5), none⟩, ⟨some 14, .ld 1 false (.t 13), none⟩, ⟨some 15, .iadS 3 (.t 12) (.t 14), none⟩, ⟨some 16, .ld 3 true (.t 15), none⟩, ⟨some 17, .fad 0 (.t 2), none⟩, ⟨some 18, .ld 1 false (.t 17), none⟩, ⟨some 19, .fad 1 (.t 5), none⟩, ⟨some 20, .ld 1 false (.t 19), none⟩, ⟨some 21, .iadS 3 (.t 18) (.t 20), none⟩, ⟨some 22, .ld 3 true (.t 21), none⟩, ⟨some 23, .fad 0 (.t 2), none⟩, ⟨some 24, .ld 1 false (.t 23), none⟩, ⟨some 25, .fad 2 (.t 5), none⟩, ⟨some 26, .ld 1 false (.t 25), none⟩, ⟨some 27, .iadS 3 (.t 24) (.t 26), none⟩, ⟨some 28, .ld 3 true (.t 27), none⟩, ⟨some 29, .bld [.int .i64 0, .int .i64 0, .int .i64 0, .int .i64 0, .int .i64 0, .int .i64 0, .int .i64 0, .int .i64 0, .int .i64 0] [(0, 3, (.t 16)), (3, 3, (.t 22)), (6, 3, (.t 28))], none⟩, ⟨none, .st 9 [] (.t 4) (.t 29), none⟩])
 .ret))) }

/-- sewershed/locate.turn -/
def N320_locate_turn : NFun := { np := 3, nt := 30, res := [(6, none)], body :=
 (.seq (.reg false [] [3, 4, 5] [⟨some 3, .boxF (.t 0), none⟩, ⟨some 4, .boxF (.t 1), none⟩, ⟨some 5, .boxF (.t 2), none⟩, ⟨some 6, .mov (.c (.int .i64 0)), none⟩])
 (.seq (.reg false [] [6] [⟨some 7, .fad 0 (.t 4), none⟩, ⟨some 8, .ld 1 false (.t 7), none⟩, ⟨some 9, .fad 0 (.t 3), none⟩, ⟨some 10, .ld 1 false (.t 9), none⟩, ⟨some 11, .bin .sub (.t 8) (.t 10), none⟩, ⟨some 12, .fad 1 (.t 5), none⟩, ⟨some 13, .ld 1 false (.t 12), none⟩, ⟨some 14, .fad 1 (.t 3), none⟩, ⟨some 15, .ld 1 false (.t 14), none⟩, ⟨some 16, .bin .sub (.t 13) (.t 15), none⟩, ⟨some 17, .bin .mul (.t 11) (.t 16), none⟩, ⟨some 18, .fad 1 (.t 4), none⟩, ⟨some 19, .ld 1 false (.t 18), none⟩, ⟨some 20, .fad 1 (.t 3), none⟩, ⟨some 21, .ld 1 false (.t 20), none⟩, ⟨some 22, .bin .sub (.t 19) (.t 21), none⟩, ⟨some 23, .fad 0 (.t 5), none⟩, ⟨some 24, .ld 1 false (.t 23), none⟩, ⟨some 25, .fad 0 (.t 3), none⟩, ⟨some 26, .ld 1 false (.t 25), none⟩, ⟨some 27, .bin .sub (.t 24) (.t 26), none⟩, ⟨some 28, .bin .mul (.t 22) (.t 27), none⟩, ⟨some 29, .bin .sub (.t 17) (.t 28), none⟩, ⟨some 6, .mov (.t 29), none⟩])
 .ret)) }

/-- sewershed/locate.at -/
def N321_locate_at : NFun := { np := 1, nt := 8, res := [(2, some (2, true))], body :=
 (.seq (.reg false [] [1, 2] [⟨some 1, .boxF (.t 0), none⟩, ⟨some 2, .alc [.int .i64 0, .int .i64 0], none⟩])
 (.seq (.reg false [] [2] [⟨some 3, .fad 0 (.t 1), none⟩, ⟨some 4, .ld 1 false (.t 3), none⟩, ⟨some 5, .fad 1 (.t 1), none⟩, ⟨some 6, .ld 1 false (.t 5), none⟩, ⟨some 7, .bld [.int .i64 0, .int .i64 0] [(0, 1, (.t 4)), (1, 1, (.t 6))], none⟩, ⟨none, .st 2 [] (.t 2) (.t 7), none⟩])
 .ret)) }

/-- sewershed/sewershedref09.Corner -/
def N323_ref09_Corner : NFun := { np := 2, nt := 16, res := [(4, none)], body :=
 (.seq (.reg false [] [1, 2] [⟨some 2, .boxF (.t 0), none⟩, ⟨some 4, .mov (.c (.int .i64 0)), none⟩])
 (.seq (.reg false [] [4] [⟨some 5, .fad 0 (.t 2), none⟩, ⟨some 6, .ld 1 false (.t 5), none⟩, ⟨some 7, .fad 1 (.t 2), none⟩, ⟨some 8, .ld 1 false (.t 7), none⟩, ⟨some 9, .fad 2 (.t 2), none⟩, ⟨some 10, .ld 1 false (.t 9), none⟩, ⟨some 11, .bls 1 3 [.int .i64 0] [] [(0, (.t 6)), (1, (.t 8)), (2, (.t 10))], none⟩, ⟨some 12, .mov (.t 1), none⟩, ⟨some 13, .bin .rem (.t 12) (.c (.int .i64 3)), none⟩, ⟨some 14, .iadS 1 (.t 11) (.t 13), none⟩, ⟨some 15, .ld 1 false (.t 14), none⟩, ⟨some 4, .mov (.t 15), none⟩])
 .ret)) }

/-- sewershed/sewershedref09.apart -/
def N324_ref09_apart : NFun := { np := 2, nt := 47, res := [(4, none)], body :=
 (.seq (.reg false [] [0, 1] [⟨some 4, .mov (.c (.bool false)), none⟩])
 (.seq (.seq (.reg false [] [0, 1, 5] [⟨some 5, .mov (.c (.int .i64 0)), none⟩])
 (.block 0 (.loop (.seq (.seq (.reg false [] [0, 1, 5, 9] [⟨some 8, .mov (.t 5), none⟩, ⟨some 9, .bin .lss (.t 8) (.c (.int .i64 3)), none⟩])
 (.cond (.t 9) .skip
 (.exit 0)))
 (.seq (.block 1 (.seq (.reg true [0, 0, 3, 7, 0, 0, 32, 96, 240, 496, 0, 0, 3087, 8191] [0, 1, 5, 6, 7] [⟨some 12, .mov (.t 0), none⟩, ⟨some 13, .mov (.t 5), none⟩, ⟨some 14, .iadS 2 (.t 12) (.t 13), none⟩, ⟨some 15, .ld 2 true (.t 14), none⟩, ⟨some 16, .mov (.t 0), none⟩, ⟨some 17, .mov (.t 5), none⟩, ⟨some 18, .bin .add (.t 17) (.c (.int .i64 1)), none⟩, ⟨some 19, .bin .rem (.t 18) (.c (.int .i64 3)), none⟩, ⟨some 20, .iadS 2 (.t 16) (.t 19), none⟩, ⟨some 21, .ld 2 true (.t 20), none⟩, ⟨some 6, .alc [.int .i64 0, .int .i64 0], none⟩, ⟨some 7, .alc [.int .i64 0, .int .i64 0], none⟩, ⟨none, .st 2 [] (.t 6) (.t 15), none⟩, ⟨none, .st 2 [] (.t 7) (.t 21), none⟩])
 (.seq (.reg true [0, 0, 0, 4, 12, 31, 63, 127, 255, 255, 255, 1279, 3327, 8191, 16383, 32767, 65535, 131071, 131071, 131071, 655359, 1703935, 4194303, 8388607, 16777215] [0, 1, 5, 46] [⟨some 22, .ld 2 true (.t 6), none⟩, ⟨some 23, .ld 2 true (.t 7), none⟩, ⟨some 24, .mov (.t 1), none⟩, ⟨some 25, .iadS 2 (.t 24) (.c (.int .i64 0)), none⟩, ⟨some 26, .ld 2 true (.t 25), none⟩, ⟨some 27, .call 286 [(.t 22), (.t 23), (.t 26)] [], none⟩, ⟨some 28, .bin .leq (.t 27) (.c (.int .i64 0)), none⟩, ⟨some 29, .mov (.t 28), none⟩, ⟨some 30, .ld 2 true (.t 6), some (29, true)⟩, ⟨some 31, .ld 2 true (.t 7), some (29, true)⟩, ⟨some 32, .mov (.t 1), some (29, true)⟩, ⟨some 33, .iadS 2 (.t 32) (.c (.int .i64 1)), some (29, true)⟩, ⟨some 34, .ld 2 true (.t 33), some (29, true)⟩, ⟨some 35, .call 286 [(.t 30), (.t 31), (.t 34)] [], some (29, true)⟩, ⟨some 36, .bin .leq (.t 35) (.c (.int .i64 0)), some (29, true)⟩, ⟨some 37, .pick (.t 29) (.t 36) (.c (.bool false)), none⟩, ⟨some 38, .mov (.t 37), none⟩, ⟨some 39, .ld 2 true (.t 6), some (38, true)⟩, ⟨some 40, .ld 2 true (.t 7), some (38, true)⟩, ⟨some 41, .mov (.t 1), some (38, true)⟩, ⟨some 42, .iadS 2 (.t 41) (.c (.int .i64 2)), some (38, true)⟩, ⟨some 43, .ld 2 true (.t 42), some (38, true)⟩, ⟨some 44, .call 286 [(.t 39), (.t 40), (.t 43)] [], some (38, true)⟩, ⟨some 45, .bin .leq (.t 44) (.c (.int .i64 0)), some (38, true)⟩, ⟨some 46, .pick (.t 38) (.t 45) (.c (.bool false)), none⟩])
 (.cond (.t 46) (.seq (.reg false [] [4] [⟨some 4, .mov (.c (.bool true)), none⟩])
 .ret)
 .skip))))
 (.reg false [] [0, 1, 5] [⟨some 10, .mov (.t 5), none⟩, ⟨some 11, .bin .add (.t 10) (.c (.int .i64 1)), none⟩, ⟨some 5, .mov (.t 11), none⟩]))))))
 (.seq (.reg false [] [4] [⟨some 4, .mov (.c (.bool false)), none⟩])
 .ret))) }

/-- sewershed/wide.Add -/
def N327_wide_Add : NFun := { np := 2, nt := 23, res := [(4, some (2, true)), (5, none)], body :=
 (.seq (.reg false [] [2, 3, 4] [⟨some 2, .boxF (.t 0), none⟩, ⟨some 3, .boxF (.t 1), none⟩, ⟨some 4, .alc [.int .i64 0, .int .i64 0], none⟩, ⟨some 5, .mov (.c (.int .i64 0)), none⟩])
 (.seq (.seq (.reg false [] [2, 3, 4, 13] [⟨some 6, .ld 2 true (.t 2), none⟩, ⟨some 7, .call 106 [(.t 6)] [], none⟩, ⟨some 8, .un .not (.t 7), none⟩, ⟨some 9, .mov (.t 8), none⟩, ⟨some 10, .ld 2 true (.t 3), some (9, false)⟩, ⟨some 11, .call 106 [(.t 10)] [], some (9, false)⟩, ⟨some 12, .un .not (.t 11), some (9, false)⟩, ⟨some 13, .pick (.t 9) (.c (.bool true)) (.t 12), none⟩])
 (.cond (.t 13) (.seq (.reg false [] [4, 5] [⟨some 14, .bld [.int .i64 0, .int .i64 0] [], none⟩, ⟨none, .st 2 [] (.t 4) (.t 14), none⟩, ⟨some 5, .mov (.c (.int .i64 1)), none⟩])
 .ret)
 .skip))
 (.seq (.reg true [0, 1, 0, 7, 15, 31, 63, 63, 255, 511] [4, 5] [⟨some 15, .ld 2 true (.t 2), none⟩, ⟨some 16, .call 108 [(.t 15)] [], none⟩, ⟨some 17, .ld 2 true (.t 3), none⟩, ⟨some 18, .call 108 [(.t 17)] [], none⟩, ⟨some 19, .call 107 [(.t 16), (.t 18)] [], none⟩, ⟨some 20, .call 105 [(.t 19)] [], none⟩, ⟨some 21, .ext 0 (.t 20), none⟩, ⟨some 22, .ext 1 (.t 20), none⟩, ⟨none, .st 2 [] (.t 4) (.t 21), none⟩, ⟨some 5, .mov (.t 22), none⟩])
 .ret))) }

/-- slices.IndexFunc[[][3]sewershed/api.Point,[3]sewershed/api.Point] -/
def N328_slices_IndexFunc___3api_Point__3api_Point : NFun := { np := 2, nt := 19, res := [(4, none)], body :=
 (.seq (.reg false [] [0, 1] [⟨some 4, .mov (.c (.int .i64 0)), none⟩])
 (.seq (.seq (.reg false [] [0, 1, 7, 8] [⟨some 6, .mov (.t 0), none⟩, ⟨some 7, .len (.t 6), none⟩, ⟨some 8, .mov (.c (.int .i64 0)), none⟩])
 (.block 0 (.loop (.seq (.reg false [] [0, 1, 7, 8, 9] [⟨some 9, .bin .lss (.t 8) (.t 7), none⟩])
 (.seq (.cond (.t 9) .skip
 (.exit 0))
 (.seq (.block 1 (.seq (.reg false [] [0, 1, 5, 7, 8] [⟨some 10, .mov (.t 8), none⟩, ⟨some 5, .mov (.t 10), none⟩])
 (.seq (.reg false [] [0, 1, 5, 7, 8, 16] [⟨some 11, .mov (.t 1), none⟩, ⟨some 12, .mov (.t 0), none⟩, ⟨some 13, .mov (.t 5), none⟩, ⟨some 14, .iadS 6 (.t 12) (.t 13), none⟩, ⟨some 15, .ld 6 true (.t 14), none⟩, ⟨some 16, .callv (.t 11) [(.t 15)], none⟩])
 (.cond (.t 16) (.seq (.reg false [] [4] [⟨some 17, .mov (.t 5), none⟩, ⟨some 4, .mov (.t 17), none⟩])
 .ret)
 .skip))))
 (.reg false [] [0, 1, 7, 8] [⟨some 18, .bin .add (.t 8) (.c (.int .i64 1)), none⟩, ⟨some 8, .mov (.t 18), none⟩])))))))
 (.seq (.reg false [] [4] [⟨some 4, .mov (.c (.int .i64 (-1))), none⟩])
 .ret))) }

/-- sewershed/sewershedlaw13.LocateSpots -/
def N362_law13_LocateSpots : NFun := { np := 3, nt := 90, res := [(6, none)], body :=
 (.seq (.reg false [] [2, 3, 4] [⟨some 3, .boxF (.t 0), none⟩, ⟨some 4, .boxF (.t 1), none⟩, ⟨some 6, .mov (.c (.bool false)), none⟩])
 (.seq (.seq (.reg false [] [2, 3, 4, 12] [⟨some 11, .call 227 [] [], none⟩, ⟨some 12, .un .not (.t 11), none⟩])
 (.cond (.t 12) (.seq (.reg false [] [6] [⟨some 6, .mov (.c (.bool false)), none⟩])
 .ret)
 .skip))
 (.seq (.seq (.reg false [] [2, 3, 4, 15] [⟨some 13, .ld 2 true (.t 3), none⟩, ⟨some 14, .call 229 [(.t 13)] [], none⟩, ⟨some 15, .un .not (.t 14), none⟩])
 (.cond (.t 15) (.seq (.reg false [] [6] [⟨some 6, .mov (.c (.bool true)), none⟩])
 .ret)
 .skip))
 (.seq (.reg false [] [2, 3, 4, 7, 8] [⟨some 17, .ld 2 true (.t 3), none⟩, ⟨some 18, .ld 2 true (.t 4), none⟩, ⟨some 19, .call 363 [(.t 17), (.t 18)] [], none⟩, ⟨some 16, .mov (.t 19), none⟩, ⟨some 20, .ext 0 (.t 16), none⟩, ⟨some 21, .ext 1 (.t 16), none⟩, ⟨some 7, .mov (.t 20), none⟩, ⟨some 8, .mov (.t 21), none⟩])
 (.seq (.reg false [] [2, 3, 4, 7, 8, 9, 10] [⟨some 23, .ld 2 true (.t 3), none⟩, ⟨some 24, .mov (.t 2), none⟩, ⟨some 25, .call 365 [(.t 23), (.t 24)] [], none⟩, ⟨some 22, .mov (.t 25), none⟩, ⟨some 26, .ext 0 (.t 22), none⟩, ⟨some 27, .ext 1 (.t 22), none⟩, ⟨some 9, .mov (.t 26), none⟩, ⟨some 10, .mov (.t 27), none⟩])
 (.seq (.seq (.reg false [] [2, 3, 4, 7, 8, 9, 10, 31] [⟨some 28, .ld 2 true (.t 3), none⟩, ⟨some 29, .ld 2 true (.t 4), none⟩, ⟨some 30, .call 250 [(.t 28), (.t 29)] [], none⟩, ⟨some 31, .un .not (.t 30), none⟩])
 (.cond (.t 31) (.seq (.reg false [] [2, 3, 9, 10, 37] [⟨some 32, .mov (.t 7), none⟩, ⟨some 33, .bin .neq (.t 32) (.c (.int .i64 0)), none⟩, ⟨some 34, .mov (.t 33), none⟩, ⟨some 35, .mov (.t 8), some (34, false)⟩, ⟨some 36, .bin .neq (.t 35) (.c (.int .i64 1)), some (34, false)⟩, ⟨some 37, .pick (.t 34) (.c (.bool true)) (.t 36), none⟩])
 (.cond (.t 37) (.seq (.reg false [] [6] [⟨some 6, .mov (.c (.bool false)), none⟩])
 .ret)
 .skip))
 (.seq (.reg false [] [2, 3, 4, 7, 8, 9, 10, 41] [⟨some 38, .fad 0 (.t 3), none⟩, ⟨some 39, .ld 1 false (.t 38), none⟩, ⟨some 40, .len (.t 39), none⟩, ⟨some 41, .bin .eql (.t 40) (.c (.int .i64 0)), none⟩])
 (.cond (.t 41) (.seq (.reg false [] [2, 3, 9, 10, 47] [⟨some 42, .mov (.t 7), none⟩, ⟨some 43, .bin .neq (.t 42) (.c (.int .i64 0)), none⟩, ⟨some 44, .mov (.t 43), none⟩, ⟨some 45, .mov (.t 8), some (44, false)⟩, ⟨some 46, .bin .neq (.t 45) (.c (.int .i64 14)), some (44, false)⟩, ⟨some 47, .pick (.t 44) (.c (.bool true)) (.t 46), none⟩])
 (.cond (.t 47) (.seq (.reg false [] [6] [⟨some 6, .mov (.c (.bool false)), none⟩])
 .ret)
 .skip))
 (.seq (.reg false [] [2, 3, 9, 10, 56] [⟨some 48, .mov (.t 7), none⟩, ⟨some 49, .ld 2 true (.t 3), none⟩, ⟨some 50, .ld 2 true (.t 4), none⟩, ⟨some 51, .call 367 [(.t 49), (.t 50)] [], none⟩, ⟨some 52, .bin .neq (.t 48) (.t 51), none⟩, ⟨some 53, .mov (.t 52), none⟩, ⟨some 54, .mov (.t 8), some (53, false)⟩, ⟨some 55, .bin .neq (.t 54) (.c (.int .i64 0)), some (53, false)⟩, ⟨some 56, .pick (.t 53) (.c (.bool true)) (.t 55), none⟩])
 (.cond (.t 56) (.seq (.reg false [] [6] [⟨some 6, .mov (.c (.bool false)), none⟩])
 .ret)
 .skip))))))
 (.seq (.seq (.reg false [] [2, 3, 9, 10, 59] [⟨some 57, .ld 2 true (.t 3), none⟩, ⟨some 58, .call 215 [(.t 57)] [], none⟩, ⟨some 59, .un .not (.t 58), none⟩])
 (.cond (.t 59) (.seq (.reg false [] [6] [⟨some 60, .mov (.t 9), none⟩, ⟨some 61, .bin .eql (.t 60) (.c (.int .i64 0)), none⟩, ⟨some 62, .mov (.t 61), none⟩, ⟨some 63, .mov (.t 10), some (62, true)⟩, ⟨some 64, .bin .eql (.t 63) (.c (.int .i64 1)), some (62, true)⟩, ⟨some 65, .pick (.t 62) (.t 64) (.c (.bool false)), none⟩, ⟨some 6, .mov (.t 65), none⟩])
 .ret)
 .skip))
 (.seq (.seq (.reg false [] [2, 3, 9, 10, 74] [⟨some 66, .mov (.t 2), none⟩, ⟨some 67, .bin .lss (.t 66) (.c (.int .i64 0)), none⟩, ⟨some 68, .mov (.t 67), none⟩, ⟨some 69, .mov (.t 2), some (68, false)⟩, ⟨some 70, .fad 1 (.t 3), some (68, false)⟩, ⟨some 71, .ld 1 false (.t 70), some (68, false)⟩, ⟨some 72, .len (.t 71), some (68, false)⟩, ⟨some 73, .bin .geq (.t 69) (.t 72), some (68, false)⟩, ⟨some 74, .pick (.t 68) (.c (.bool true)) (.t 73), none⟩])
 (.cond (.t 74) (.seq (.reg false [] [6] [⟨some 75, .mov (.t 9), none⟩, ⟨some 76, .bin .eql (.t 75) (.c (.int .i64 0)), none⟩, ⟨some 77, .mov (.t 76), none⟩, ⟨some 78, .mov (.t 10), some (77, true)⟩, ⟨some 79, .bin .eql (.t 78) (.c (.int .i64 2)), some (77, true)⟩, ⟨some 80, .pick (.t 77) (.t 79) (.c (.bool false)), none⟩, ⟨some 6, .mov (.t 80), none⟩])
 .ret)
 .skip))
 (.seq (.reg false [] [6] [⟨some 81, .mov (.t 9), none⟩, ⟨some 82, .ld 2 true (.t 3), none⟩, ⟨some 83, .mov (.t 2), none⟩, ⟨some 84, .call 368 [(.t 82), (.t 83)] [], none⟩, ⟨some 85, .bin .eql (.t 81) (.t 84), none⟩, ⟨some 86, .mov (.t 85), none⟩, ⟨some 87, .mov (.t 10), some (86, true)⟩, ⟨some 88, .bin .eql (.t 87) (.c (.int .i64 0)), some (86, true)⟩, ⟨some 89, .pick (.t 86) (.t 88) (.c (.bool false)), none⟩, ⟨some 6, .mov (.t 89), none⟩])
 .ret))))))))) }

/-- sewershed/locate.Nearest -/
def N363_locate_Nearest : NFun := { np := 2, nt := 44, res := [(4, none), (5, none)], body :=
 (.seq (.reg false [] [2, 3] [⟨some 2, .boxF (.t 0), none⟩, ⟨some 3, .boxF (.t 1), none⟩, ⟨some 4, .mov (.c (.int .i64 0)), none⟩, ⟨some 5, .mov (.c (.int .i64 0)), none⟩])
 (.seq (.block 0 (.seq (.reg false [] [2, 3, 10] [⟨some 11, .ld 2 true (.t 2), none⟩, ⟨some 12, .ld 2 true (.t 3), none⟩, ⟨some 13, .bls 2 1 [.int .i64 0, .int .i64 0] [] [(0, (.t 12))], none⟩, ⟨some 14, .call 275 [(.t 11), (.t 13)] [], none⟩, ⟨some 15, .un .not (.t 14), none⟩, ⟨some 10, .mov (.t 15), none⟩])
 (.cond (.t 10) (.seq (.reg false [] [4, 5] [⟨some 4, .mov (.c (.int .i64 0)), none⟩, ⟨some 5, .mov (.c (.int .i64 1)), none⟩])
 .ret)
 (.seq (.reg false [] [2, 3, 16] [⟨some 17, .fad 0 (.t 2), none⟩, ⟨some 18, .ld 1 false (.t 17), none⟩, ⟨some 19, .len (.t 18), none⟩, ⟨some 20, .bin .eql (.t 19) (.c (.int .i64 0)), none⟩, ⟨some 16, .mov (.t 20), none⟩])
 (.cond (.t 16) (.seq (.reg false [] [4, 5] [⟨some 4, .mov (.c (.int .i64 0)), none⟩, ⟨some 5, .mov (.c (.int .i64 14)), none⟩])
 .ret)
 .skip)))))
 (.seq (.reg false [] [2, 6] [⟨some 21, .mk 364 [(.t 3)], none⟩, ⟨some 6, .mov (.t 21), none⟩])
 (.seq (.reg false [] [2, 6, 7] [⟨some 7, .mov (.c (.int .i64 0)), none⟩])
 (.seq (.seq (.reg false [] [2, 6, 7, 23, 24, 25] [⟨some 22, .fad 0 (.t 2), none⟩, ⟨some 23, .ld 1 false (.t 22), none⟩, ⟨some 24, .len (.t 23), none⟩, ⟨some 25, .mov (.c (.int .i64 0)), none⟩])
 (.block 1 (.loop (.seq (.reg false [] [2, 6, 7, 23, 24, 25, 26] [⟨some 26, .bin .lss (.t 25) (.t 24), none⟩])
 (.seq (.cond (.t 26) .skip
 (.exit 1))
 (.seq (.block 2 (.seq (.reg false [] [2, 6, 7, 8, 9, 23, 24, 25] [⟨some 27, .mov (.t 25), none⟩, ⟨some 28, .iadS 3 (.t 23) (.t 25), none⟩, ⟨some 29, .ld 3 true (.t 28), none⟩, ⟨some 9, .alc [.int .i64 0, .int .i64 0, .int .i64 0], none⟩, ⟨some 8, .mov (.t 27), none⟩, ⟨none, .st 3 [] (.t 9) (.t 29), none⟩])
 (.seq (.reg true [0, 0, 3, 0, 0, 16, 0, 112, 240, 511, 1023] [2, 6, 7, 8, 23, 24, 25, 40] [⟨some 30, .mov (.t 6), none⟩, ⟨some 31, .ld 3 true (.t 9), none⟩, ⟨some 32, .callv (.t 30) [(.t 31)], none⟩, ⟨some 33, .mov (.t 6), none⟩, ⟨some 34, .fad 0 (.t 2), none⟩, ⟨some 35, .ld 1 false (.t 34), none⟩, ⟨some 36, .mov (.t 7), none⟩, ⟨some 37, .iadS 3 (.t 35) (.t 36), none⟩, ⟨some 38, .ld 3 true (.t 37), none⟩, ⟨some 39, .callv (.t 33) [(.t 38)], none⟩, ⟨some 40, .bin .lss (.t 32) (.t 39), none⟩])
 (.cond (.t 40) (.reg false [] [2, 6, 7, 23, 24, 25] [⟨some 41, .mov (.t 8), none⟩, ⟨some 7, .mov (.t 41), none⟩])
 .skip))))
 (.reg false [] [2, 6, 7, 23, 24, 25] [⟨some 42, .bin .add (.t 25) (.c (.int .i64 1)), none⟩, ⟨some 25, .mov (.t 42), none⟩])))))))
 (.seq (.reg false [] [4, 5] [⟨some 43, .mov (.t 7), none⟩, ⟨some 4, .mov (.t 43), none⟩, ⟨some 5, .mov (.c (.int .i64 0)), none⟩])
 .ret)))))) }

/-- sewershed/locate.Nearest$1 -/
def N364_locate_Nearest_1 : NFun := { np := 2, nt := 27, res := [(3, none)], body :=
 (.seq (.reg false [] [1, 2] [⟨some 2, .boxF (.t 0), none⟩, ⟨some 3, .mov (.c (.int .i64 0)), none⟩])
 (.seq (.reg false [] [3] [⟨some 4, .fad 0 (.t 2), none⟩, ⟨some 5, .ld 1 false (.t 4), none⟩, ⟨some 6, .fad 0 (.t 1), none⟩, ⟨some 7, .ld 1 false (.t 6), none⟩, ⟨some 8, .bin .sub (.t 5) (.t 7), none⟩, ⟨some 9, .fad 0 (.t 2), none⟩, ⟨some 10, .ld 1 false (.t 9), none⟩, ⟨some 11, .fad 0 (.t 1), none⟩, ⟨some 12, .ld 1 false (.t 11), none⟩, ⟨some 13, .bin .sub (.t 10) (.t 12), none⟩, ⟨some 14, .bin .mul (.t 8) (.t 13), none⟩, ⟨some 15, .fad 1 (.t 2), none⟩, ⟨some 16, .ld 1 false (.t 15), none⟩, ⟨some 17, .fad 1 (.t 1), none⟩, ⟨some 18, .ld 1 false (.t 17), none⟩, ⟨some 19, .bin .sub (.t 16) (.t 18), none⟩, ⟨some 20, .fad 1 (.t 2), none⟩, ⟨some 21, .ld 1 false (.t 20), none⟩, ⟨some 22, .fad 1 (.t 1), none⟩, ⟨some 23, .ld 1 false (.t 22), none⟩, ⟨some 24, .bin .sub (.t 21) (.t 23), none⟩, ⟨some 25, .bin .mul (.t 19) (.t 24), none⟩, ⟨some 26, .bin .add (.t 14) (.t 25), none⟩, ⟨some 3, .mov (.t 26), none⟩])
 .ret)) }

/-- sewershed/locate.Lowest -/
def N365_locate_Lowest : NFun := { np := 2, nt := 64, res := [(4, none), (5, none)], body :=
 (.seq (.reg false [] [1, 2] [⟨some 2, .boxF (.t 0), none⟩, ⟨some 4, .mov (.c (.int .i64 0)), none⟩, ⟨some 5, .mov (.c (.int .i64 0)), none⟩])
 (.seq (.block 0 (.seq (.reg false [] [1, 2, 11] [⟨some 12, .ld 2 true (.t 2), none⟩, ⟨some 13, .call 234 [(.t 12)] [], none⟩, ⟨some 14, .un .not (.t 13), none⟩, ⟨some 11, .mov (.t 14), none⟩])
 (.cond (.t 11) (.seq (.reg false [] [4, 5] [⟨some 4, .mov (.c (.int .i64 0)), none⟩, ⟨some 5, .mov (.c (.int .i64 1)), none⟩])
 .ret)
 (.seq (.reg false [] [1, 2, 15] [⟨some 16, .mov (.t 1), none⟩, ⟨some 17, .bin .lss (.t 16) (.c (.int .i64 0)), none⟩, ⟨some 18, .mov (.t 17), none⟩, ⟨some 19, .mov (.t 1), some (18, false)⟩, ⟨some 20, .fad 1 (.t 2), some (18, false)⟩, ⟨some 21, .ld 1 false (.t 20), some (18, false)⟩, ⟨some 22, .len (.t 21), some (18, false)⟩, ⟨some 23, .bin .geq (.t 19) (.t 22), some (18, false)⟩, ⟨some 24, .pick (.t 18) (.c (.bool true)) (.t 23), none⟩, ⟨some 15, .mov (.t 24), none⟩])
 (.cond (.t 15) (.seq (.reg false [] [4, 5] [⟨some 4, .mov (.c (.int .i64 0)), none⟩, ⟨some 5, .mov (.c (.int .i64 2)), none⟩])
 .ret)
 .skip)))))
 (.seq (.reg false [] [2, 6] [⟨some 25, .fad 1 (.t 2), none⟩, ⟨some 26, .ld 1 false (.t 25), none⟩, ⟨some 27, .mov (.t 1), none⟩, ⟨some 28, .iadS 4 (.t 26) (.t 27), none⟩, ⟨some 29, .ld 4 true (.t 28), none⟩, ⟨some 6, .alc [.int .i64 0, .int .i64 0, .int .i64 0, .int .i64 0], none⟩, ⟨none, .st 4 [] (.t 6) (.t 29), none⟩])
 (.seq (.reg false [] [2, 7] [⟨some 30, .fad 0 (.t 6), none⟩, ⟨some 31, .ld 1 false (.t 30), none⟩, ⟨some 32, .fad 1 (.t 6), none⟩, ⟨some 33, .ld 1 false (.t 32), none⟩, ⟨some 34, .fad 2 (.t 6), none⟩, ⟨some 35, .ld 1 false (.t 34), none⟩, ⟨some 36, .bls 1 3 [.int .i64 0] [] [(0, (.t 31)), (1, (.t 33)), (2, (.t 35))], none⟩, ⟨some 7, .asg (.t 36), none⟩])
 (.seq (.reg false [] [2, 7] [⟨some 37, .mov (.t 7), none⟩, ⟨some 38, .callS 366 (.t 37) [], none⟩])
 (.seq (.reg false [] [2, 7, 8] [⟨some 39, .mov (.t 7), none⟩, ⟨some 40, .iadS 1 (.t 39) (.c (.int .i64 0)), none⟩, ⟨some 41, .ld 1 false (.t 40), none⟩, ⟨some 8, .mov (.t 41), none⟩])
 (.seq (.seq (.reg false [] [2, 8, 42, 43, 44] [⟨some 42, .asg (.t 7), none⟩, ⟨some 43, .len (.t 42), none⟩, ⟨some 44, .mov (.c (.int .i64 0)), none⟩])
 (.block 1 (.loop (.seq (.reg false [] [2, 8, 42, 43, 44, 45] [⟨some 45, .bin .lss (.t 44) (.t 43), none⟩])
 (.seq (.cond (.t 45) .skip
 (.exit 1))
 (.seq (.block 2 (.seq (.reg false [] [2, 8, 10, 42, 43, 44] [⟨some 46, .iadS 1 (.t 42) (.t 44), none⟩, ⟨some 47, .ld 1 false (.t 46), none⟩, ⟨some 10, .mov (.t 47), none⟩])
 (.seq (.reg true [0, 1, 0, 7, 15, 31, 0, 64, 0, 448, 960, 1984, 4095] [2, 8, 10, 42, 43, 44, 60] [⟨some 48, .fad 0 (.t 2), none⟩, ⟨some 49, .ld 1 false (.t 48), none⟩, ⟨some 50, .mov (.t 10), none⟩, ⟨some 51, .iadS 3 (.t 49) (.t 50), none⟩, ⟨some 52, .fad 2 (.t 51), none⟩, ⟨some 53, .ld 1 false (.t 52), none⟩, ⟨some 54, .fad 0 (.t 2), none⟩, ⟨some 55, .ld 1 false (.t 54), none⟩, ⟨some 56, .mov (.t 8), none⟩, ⟨some 57, .iadS 3 (.t 55) (.t 56), none⟩, ⟨some 58, .fad 2 (.t 57), none⟩, ⟨some 59, .ld 1 false (.t 58), none⟩, ⟨some 60, .bin .lss (.t 53) (.t 59), none⟩])
 (.cond (.t 60) (.reg false [] [2, 8, 42, 43, 44] [⟨some 61, .mov (.t 10), none⟩, ⟨some 8, .mov (.t 61), none⟩])
 .skip))))
 (.reg false [] [2, 8, 42, 43, 44] [⟨some 62, .bin .add (.t 44) (.c (.int .i64 1)), none⟩, ⟨some 44, .mov (.t 62), none⟩])))))))
 (.seq (.reg false [] [4, 5] [⟨some 63, .mov (.t 8), none⟩, ⟨some 4, .mov (.t 63), none⟩, ⟨some 5, .mov (.c (.int .i64 0)), none⟩])
 .ret)))))))) }

/-- sewershed/sewershedref13.Nearest -/
def N367_ref13_Nearest : NFun := { np := 2, nt := 33, res := [(4, none)], body :=
 (.seq (.reg false [] [2, 3] [⟨some 2, .boxF (.t 0), none⟩, ⟨some 3, .boxF (.t 1), none⟩, ⟨some 4, .mov (.c (.int .i64 0)), none⟩])
 (.seq (.reg false [] [2, 3, 5] [⟨some 5, .mov (.c (.int .i64 0)), none⟩])
 (.seq (.seq (.reg false [] [2, 3, 5, 6] [⟨some 6, .mov (.c (.int .i64 1)), none⟩])
 (.block 0 (.loop (.seq (.seq (.reg false [] [2, 3, 5, 6, 11] [⟨some 7, .mov (.t 6), none⟩, ⟨some 8, .fad 0 (.t 2), none⟩, ⟨some 9, .ld 1 false (.t 8), none⟩, ⟨some 10, .len (.t 9), none⟩, ⟨some 11, .bin .lss (.t 7) (.t 10), none⟩])
 (.cond (.t 11) .skip
 (.exit 0)))
 (.seq (.block 1 (.seq (.reg true [0, 1, 0, 7, 15, 31, 0, 127, 0, 256, 0, 1792, 3840, 8191, 0, 32767, 65535] [2, 3, 5, 6, 30] [⟨some 14, .fad 0 (.t 2), none⟩, ⟨some 15, .ld 1 false (.t 14), none⟩, ⟨some 16, .mov (.t 6), none⟩, ⟨some 17, .iadS 3 (.t 15) (.t 16), none⟩, ⟨some 18, .ld 3 true (.t 17), none⟩, ⟨some 19, .call 291 [(.t 18)] [], none⟩, ⟨some 20, .ld 2 true (.t 3), none⟩, ⟨some 21, .call 369 [(.t 19), (.t 20)] [], none⟩, ⟨some 22, .fad 0 (.t 2), none⟩, ⟨some 23, .ld 1 false (.t 22), none⟩, ⟨some 24, .mov (.t 5), none⟩, ⟨some 25, .iadS 3 (.t 23) (.t 24), none⟩, ⟨some 26, .ld 3 true (.t 25), none⟩, ⟨some 27, .call 291 [(.t 26)] [], none⟩, ⟨some 28, .ld 2 true (.t 3), none⟩, ⟨some 29, .call 369 [(.t 27), (.t 28)] [], none⟩, ⟨some 30, .bin .lss (.t 21) (.t 29), none⟩])
 (.cond (.t 30) (.reg false [] [2, 3, 5, 6] [⟨some 31, .mov (.t 6), none⟩, ⟨some 5, .mov (.t 31), none⟩])
 .skip)))
 (.reg false [] [2, 3, 5, 6] [⟨some 12, .mov (.t 6), none⟩, ⟨some 13, .bin .add (.t 12) (.c (.int .i64 1)), none⟩, ⟨some 6, .mov (.t 13), none⟩]))))))
 (.seq (.reg false [] [4] [⟨some 32, .mov (.t 5), none⟩, ⟨some 4, .mov (.t 32), none⟩])
 .ret)))) }

/-- sewershed/sewershedref13.Lowest -/
def N368_ref13_Lowest : NFun := { np := 2, nt := 63, res := [(4, none)], body :=
 (.seq (.reg false [] [1, 2] [⟨some 2, .boxF (.t 0), none⟩, ⟨some 4, .mov (.c (.int .i64 0)), none⟩])
 (.seq (.reg false [] [2, 5] [⟨some 11, .fad 1 (.t 2), none⟩, ⟨some 12, .ld 1 false (.t 11), none⟩, ⟨some 13, .mov (.t 1), none⟩, ⟨some 14, .iadS 4 (.t 12) (.t 13), none⟩, ⟨some 15, .ld 4 true (.t 14), none⟩, ⟨some 5, .alc [.int .i64 0, .int .i64 0, .int .i64 0, .int .i64 0], none⟩, ⟨none, .st 4 [] (.t 5) (.t 15), none⟩])
 (.seq (.reg false [] [2, 5, 6] [⟨some 16, .fad 0 (.t 5), none⟩, ⟨some 17, .ld 1 false (.t 16), none⟩, ⟨some 6, .mov (.t 17), none⟩])
 (.seq (.reg false [] [2, 6, 7] [⟨some 18, .fad 1 (.t 5), none⟩, ⟨some 19, .ld 1 false (.t 18), none⟩, ⟨some 20, .fad 2 (.t 5), none⟩, ⟨some 21, .ld 1 false (.t 20), none⟩, ⟨some 22, .bls 1 2 [.int .i64 0] [] [(0, (.t 19)), (1, (.t 21))], none⟩, ⟨some 7, .asg (.t 22), none⟩])
 (.seq (.seq (.reg false [] [2, 6, 7, 8] [⟨some 8, .mov (.c (.int .i64 0)), none⟩])
 (.block 0 (.loop (.seq (.seq (.reg false [] [2, 6, 7, 8, 24] [⟨some 23, .mov (.t 8), none⟩, ⟨some 24, .bin .lss (.t 23) (.c (.int .i64 2)), none⟩])
 (.cond (.t 24) .skip
 (.exit 0)))
 (.seq (.block 1 (.seq (.reg true [0, 1, 0, 0, 12, 28, 63, 127, 255, 0, 512, 0, 3584, 7680, 15872, 511, 65535] [2, 6, 7, 8, 9, 10] [⟨some 27, .fad 0 (.t 2), none⟩, ⟨some 28, .ld 1 false (.t 27), none⟩, ⟨some 29, .mov (.t 7), none⟩, ⟨some 30, .mov (.t 8), none⟩, ⟨some 31, .iadS 1 (.t 29) (.t 30), none⟩, ⟨some 32, .ld 1 false (.t 31), none⟩, ⟨some 33, .iadS 3 (.t 28) (.t 32), none⟩, ⟨some 34, .fad 2 (.t 33), none⟩, ⟨some 35, .ld 1 false (.t 34), none⟩, ⟨some 36, .fad 0 (.t 2), none⟩, ⟨some 37, .ld 1 false (.t 36), none⟩, ⟨some 38, .mov (.t 6), none⟩, ⟨some 39, .iadS 3 (.t 37) (.t 38), none⟩, ⟨some 40, .fad 2 (.t 39), none⟩, ⟨some 41, .ld 1 false (.t 40), none⟩, ⟨some 9, .mov (.t 35), none⟩, ⟨some 10, .mov (.t 41), none⟩])
 (.seq (.reg false [] [2, 6, 7, 8, 57] [⟨some 42, .mov (.t 9), none⟩, ⟨some 43, .mov (.t 10), none⟩, ⟨some 44, .bin .lss (.t 42) (.t 43), none⟩, ⟨some 45, .mov (.t 44), none⟩, ⟨some 46, .mov (.t 9), some (45, false)⟩, ⟨some 47, .mov (.t 10), some (45, false)⟩, ⟨some 48, .bin .eql (.t 46) (.t 47), some (45, false)⟩, ⟨some 49, .mov (.t 48), some (45, false)⟩, ⟨some 50, .mov (.t 7), some (49, true)⟩, ⟨some 51, .mov (.t 8), some (49, true)⟩, ⟨some 52, .iadS 1 (.t 50) (.t 51), some (49, true)⟩, ⟨some 53, .ld 1 false (.t 52), some (49, true)⟩, ⟨some 54, .mov (.t 6), some (49, true)⟩, ⟨some 55, .bin .lss (.t 53) (.t 54), some (49, true)⟩, ⟨some 56, .pick (.t 49) (.t 55) (.c (.bool false)), some (45, false)⟩, ⟨some 57, .pick (.t 45) (.c (.bool true)) (.t 56), none⟩])
 (.cond (.t 57) (.reg false [] [2, 6, 7, 8] [⟨some 58, .mov (.t 7), none⟩, ⟨some 59, .mov (.t 8), none⟩, ⟨some 60, .iadS 1 (.t 58) (.t 59), none⟩, ⟨some 61, .ld 1 false (.t 60), none⟩, ⟨some 6, .mov (.t 61), none⟩])
 .skip))))
 (.reg false [] [2, 6, 7, 8] [⟨some 25, .mov (.t 8), none⟩, ⟨some 26, .bin .add (.t 25) (.c (.int .i64 1)), none⟩, ⟨some 8, .mov (.t 26), none⟩]))))))
 (.seq (.reg false [] [4] [⟨some 62, .mov (.t 6), none⟩, ⟨some 4, .mov (.t 62), none⟩])
 .ret)))))) }

/-- sewershed/sewershedref07.Square -/
def N369_ref07_Square : NFun := { np := 2, nt := 28, res := [(4, none)], body :=
 (.seq (.reg false [] [2, 3] [⟨some 2, .boxF (.t 0), none⟩, ⟨some 3, .boxF (.t 1), none⟩, ⟨some 4, .mov (.c (.int .i64 0)), none⟩])
 (.seq (.reg false [] [4] [⟨some 5, .fad 0 (.t 2), none⟩, ⟨some 6, .ld 1 false (.t 5), none⟩, ⟨some 7, .fad 0 (.t 3), none⟩, ⟨some 8, .ld 1 false (.t 7), none⟩, ⟨some 9, .bin .sub (.t 6) (.t 8), none⟩, ⟨some 10, .fad 0 (.t 2), none⟩, ⟨some 11, .ld 1 false (.t 10), none⟩, ⟨some 12, .fad 0 (.t 3), none⟩, ⟨some 13, .ld 1 false (.t 12), none⟩, ⟨some 14, .bin .sub (.t 11) (.t 13), none⟩, ⟨some 15, .bin .mul (.t 9) (.t 14), none⟩, ⟨some 16, .fad 1 (.t 2), none⟩, ⟨some 17, .ld 1 false (.t 16), none⟩, ⟨some 18, .fad 1 (.t 3), none⟩, ⟨some 19, .ld 1 false (.t 18), none⟩, ⟨some 20, .bin .sub (.t 17) (.t 19), none⟩, ⟨some 21, .fad 1 (.t 2), none⟩, ⟨some 22, .ld 1 false (.t 21), none⟩, ⟨some 23, .fad 1 (.t 3), none⟩, ⟨some 24, .ld 1 false (.t 23), none⟩, ⟨some 25, .bin .sub (.t 22) (.t 24), none⟩, ⟨some 26, .bin .mul (.t 20) (.t 25), none⟩, ⟨some 27, .bin .add (.t 15) (.t 26), none⟩, ⟨some 4, .mov (.t 27), none⟩])
 .ret)) }

def prog : Nat → Option NFun
  | 11 => some N11_slices_ContainsFunc__int_int
  | 35 => some N35_slices_IndexFunc__int_int
  | 91 => some N91_math_bits_Mul64
  | 92 => some N92_math_bits_Div64
  | 99 => some N99_wide_Product
  | 101 => some N101_wide_Int
  | 102 => some N102_math_bits_LeadingZeros64
  | 103 => some N103_wide_times
  | 104 => some N104_wide_quotient
  | 105 => some N105_wide_placed
  | 106 => some N106_wide_Valid
  | 107 => some N107_wide_sum
  | 108 => some N108_wide_value
  | 110 => some N110_wide_whole
  | 111 => some N111_math_bits_Len64
  | 112 => some N112_wide_size
  | 113 => some N113_wide_signed
  | 215 => some N215_ref09_Valid
  | 227 => some N227_law13_awake
  | 229 => some N229_law13_few
  | 233 => some N233_locate_Level
  | 234 => some N234_mesh_Valid
  | 237 => some N237_ref07_Valid
  | 239 => some N239_slices_ContainsFunc__api_Point_api_Point
  | 250 => some N250_law13_right
  | 257 => some N257_ref09_Small
  | 258 => some N258_ref09_Check
  | 269 => some N269_locate_Exact
  | 271 => some N271_wide_Floor
  | 272 => some N272_wide_Ceil
  | 273 => some N273_mesh_Check
  | 274 => some N274_locate_on
  | 275 => some N275_locate_valid
  | 276 => some N276_locate_find
  | 278 => some N278_slices_IndexFunc__api_Point_api_Point
  | 284 => some N284_locate_outer
  | 285 => some N285_ref09_Triangle
  | 286 => some N286_ref07_Turn
  | 289 => some N289_ref09_Spot
  | 290 => some N290_ref09_Decimal
  | 291 => some N291_ref09_Point
  | 292 => some N292_ref09_corners
  | 293 => some N293_ref09_turn
  | 294 => some N294_ref09_sameSide
  | 295 => some N295_ref09_overlap
  | 298 => some N298_mesh_side
  | 300 => some N300_locate_exact
  | 301 => some N301_wide_divided
  | 302 => some N302_mesh_small
  | 303 => some N303_mesh_right
  | 304 => some N304_mesh_point
  | 305 => some N305_mesh_corners
  | 306 => some N306_mesh_Check_1
  | 307 => some N307_mesh_triangle
  | 308 => some N308_mesh_turn
  | 309 => some N309_slices_ContainsFunc___3api_Point__3api_Point
  | 310 => some N310_mesh_Check_2
  | 311 => some N311_mesh_separates
  | 312 => some N312_locate_valid_1
  | 313 => some N313_plane_Valid
  | 319 => some N319_locate_corners
  | 320 => some N320_locate_turn
  | 321 => some N321_locate_at
  | 323 => some N323_ref09_Corner
  | 324 => some N324_ref09_apart
  | 327 => some N327_wide_Add
  | 328 => some N328_slices_IndexFunc___3api_Point__3api_Point
  | 362 => some N362_law13_LocateSpots
  | 363 => some N363_locate_Nearest
  | 364 => some N364_locate_Nearest_1
  | 365 => some N365_locate_Lowest
  | 367 => some N367_ref13_Nearest
  | 368 => some N368_ref13_Lowest
  | 369 => some N369_ref07_Square
  | _ => none

end Go.Gv
