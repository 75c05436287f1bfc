/-
  Texts of the proof: GvP.
-/
import Derived.Test.YtkmpieodjlkooaaDoorX3
set_option linter.all false
set_option maxRecDepth 4000
namespace Go.Gv

/-- sewershed/sewershedlaw47.awake -/
def N3_law47_awake : NFun := { np := 0, nt := 47, res := [(0, none)], body :=
 (.seq (.reg false [] [] [⟨some 0, .mov (.c (.bool false)), none⟩])
 (.seq (.reg false [] [1, 2, 3] [⟨some 8, .call 23 [(.c (.int .i64 400))] [], none⟩, ⟨some 9, .call 15 [(.t 8)] [], none⟩, ⟨some 7, .mov (.t 9), none⟩, ⟨some 10, .ext 0 (.t 7), none⟩, ⟨some 11, .ext 1 (.t 7), none⟩, ⟨some 12, .ext 2 (.t 7), none⟩, ⟨some 1, .mov (.t 10), none⟩, ⟨some 2, .asg (.t 11), none⟩, ⟨some 3, .mov (.t 12), none⟩])
 (.seq (.reg false [] [1, 2, 3, 4, 5, 6] [⟨some 14, .call 23 [(.c (.int .i64 250))] [], none⟩, ⟨some 15, .call 15 [(.t 14)] [], none⟩, ⟨some 13, .mov (.t 15), none⟩, ⟨some 16, .ext 0 (.t 13), none⟩, ⟨some 17, .ext 1 (.t 13), none⟩, ⟨some 18, .ext 2 (.t 13), none⟩, ⟨some 4, .mov (.t 16), none⟩, ⟨some 5, .asg (.t 17), none⟩, ⟨some 6, .mov (.t 18), none⟩])
 (.seq (.reg false [] [0] [⟨some 19, .mov (.t 3), none⟩, ⟨some 20, .bin .eql (.t 19) (.c (.int .i64 0)), none⟩, ⟨some 21, .mov (.t 20), none⟩, ⟨some 22, .mov (.t 1), some (21, true)⟩, ⟨some 23, .bin .eql (.t 22) (.c (.int .i64 8000)), some (21, true)⟩, ⟨some 24, .pick (.t 21) (.t 23) (.c (.bool false)), none⟩, ⟨some 25, .mov (.t 24), none⟩, ⟨some 26, .asg (.t 2), some (25, true)⟩, ⟨some 27, .bls 1 2 [.int .i64 0] [] [(0, (.c (.int .i64 1))), (1, (.c (.int .i64 1)))], some (25, true)⟩, ⟨some 28, .call 19 [(.t 26), (.t 27)] [], some (25, true)⟩, ⟨some 29, .pick (.t 25) (.t 28) (.c (.bool false)), none⟩, ⟨some 30, .mov (.t 29), none⟩, ⟨some 31, .mov (.t 6), some (30, true)⟩, ⟨some 32, .bin .eql (.t 31) (.c (.int .i64 0)), some (30, true)⟩, ⟨some 33, .pick (.t 30) (.t 32) (.c (.bool false)), none⟩, ⟨some 34, .mov (.t 33), none⟩, ⟨some 35, .mov (.t 4), some (34, true)⟩, ⟨some 36, .bin .eql (.t 35) (.c (.int .i64 9000)), some (34, true)⟩, ⟨some 37, .pick (.t 34) (.t 36) (.c (.bool false)), none⟩, ⟨some 38, .mov (.t 37), none⟩, ⟨some 39, .asg (.t 5), some (38, true)⟩, ⟨some 40, .bls 1 2 [.int .i64 0] [] [(0, (.c (.int .i64 0))), (1, (.c (.int .i64 1)))], some (38, true)⟩, ⟨some 41, .call 19 [(.t 39), (.t 40)] [], some (38, true)⟩, ⟨some 42, .pick (.t 38) (.t 41) (.c (.bool false)), none⟩, ⟨some 43, .mov (.t 42), none⟩, ⟨some 44, .call 23 [(.c (.int .i64 1))] [], some (43, true)⟩, ⟨some 45, .call 24 [(.t 44)] [], some (43, true)⟩, ⟨some 46, .pick (.t 43) (.t 45) (.c (.bool false)), none⟩, ⟨some 0, .mov (.t 46), none⟩])
 .ret)))) }

/-- sewershed/sewershedlaw47.large -/
def N4_law47_large : NFun := { np := 1, nt := 36, res := [(2, none)], body :=
 (.seq (.reg false [] [1] [⟨some 1, .boxF (.t 0), none⟩, ⟨some 2, .mov (.c (.bool false)), none⟩])
 (.seq (.reg false [] [2] [⟨some 3, .fad 0 (.t 1), none⟩, ⟨some 4, .ld 1 false (.t 3), none⟩, ⟨some 5, .len (.t 4), none⟩, ⟨some 6, .bin .gtr (.t 5) (.c (.int .i64 12)), none⟩, ⟨some 7, .mov (.t 6), none⟩, ⟨some 8, .fad 1 (.t 1), some (7, false)⟩, ⟨some 9, .ld 1 false (.t 8), some (7, false)⟩, ⟨some 10, .len (.t 9), some (7, false)⟩, ⟨some 11, .bin .gtr (.t 10) (.c (.int .i64 12)), some (7, false)⟩, ⟨some 12, .pick (.t 7) (.c (.bool true)) (.t 11), none⟩, ⟨some 13, .mov (.t 12), none⟩, ⟨some 14, .fad 2 (.t 1), some (13, false)⟩, ⟨some 15, .ld 1 false (.t 14), some (13, false)⟩, ⟨some 16, .len (.t 15), some (13, false)⟩, ⟨some 17, .bin .gtr (.t 16) (.c (.int .i64 12)), some (13, false)⟩, ⟨some 18, .pick (.t 13) (.c (.bool true)) (.t 17), none⟩, ⟨some 19, .mov (.t 18), none⟩, ⟨some 20, .fad 3 (.t 1), some (19, false)⟩, ⟨some 21, .ld 1 false (.t 20), some (19, false)⟩, ⟨some 22, .len (.t 21), some (19, false)⟩, ⟨some 23, .bin .gtr (.t 22) (.c (.int .i64 12)), some (19, false)⟩, ⟨some 24, .pick (.t 19) (.c (.bool true)) (.t 23), none⟩, ⟨some 25, .mov (.t 24), none⟩, ⟨some 26, .fad 4 (.t 1), some (25, false)⟩, ⟨some 27, .ld 1 false (.t 26), some (25, false)⟩, ⟨some 28, .len (.t 27), some (25, false)⟩, ⟨some 29, .bin .gtr (.t 28) (.c (.int .i64 12)), some (25, false)⟩, ⟨some 30, .pick (.t 25) (.c (.bool true)) (.t 29), none⟩, ⟨some 31, .mov (.t 30), none⟩, ⟨some 32, .fad 5 (.t 1), some (31, false)⟩, ⟨some 33, .ld 1 false (.t 32), some (31, false)⟩, ⟨some 34, .call 25 [(.t 33)] [], some (31, false)⟩, ⟨some 35, .pick (.t 31) (.c (.bool true)) (.t 34), none⟩, ⟨some 2, .mov (.t 35), none⟩])
 .ret)) }

/-- slices.ContainsFunc[[]int,int] -/
def N11_slices_ContainsFunc__int_int : NFun := { np := 2, nt := 9, res := [(4, none)], body :=
 (.seq (.reg false [] [0, 1] [⟨some 4, .mov (.c (.bool false)), none⟩])
 (.seq (.reg false [] [4] [⟨some 5, .asg (.t 0), none⟩, ⟨some 6, .mov (.t 1), none⟩, ⟨some 7, .call 35 [(.t 5), (.t 6)] [], none⟩, ⟨some 8, .bin .geq (.t 7) (.c (.int .i64 0)), none⟩, ⟨some 4, .mov (.t 8), none⟩])
 .ret)) }

/-- sewershed/sizing.Solve -/
def N15_sizing_Solve : NFun := { np := 1, nt := 67, res := [(2, none), (3, none), (4, none)], body :=
 (.seq (.reg false [] [1] [⟨some 1, .boxF (.t 0), none⟩, ⟨some 2, .mov (.c (.int .i64 0)), none⟩, ⟨some 3, .mov (.c .nils), none⟩, ⟨some 4, .mov (.c (.int .i64 0)), none⟩])
 (.seq (.seq (.reg false [] [1, 14] [⟨some 12, .ld 6 true (.t 1), none⟩, ⟨some 13, .call 24 [(.t 12)] [], none⟩, ⟨some 14, .un .not (.t 13), none⟩])
 (.cond (.t 14) (.seq (.reg false [] [2, 3, 4] [⟨some 2, .mov (.c (.int .i64 0)), none⟩, ⟨some 3, .mov (.c .nils), none⟩, ⟨some 4, .mov (.c (.int .i64 1)), none⟩])
 .ret)
 .skip))
 (.seq (.reg false [] [1, 5] [⟨some 15, .ld 6 true (.t 1), none⟩, ⟨some 16, .call 30 [(.t 15)] [], none⟩, ⟨some 5, .mov (.t 16), none⟩])
 (.seq (.reg false [] [1, 5, 6] [⟨some 17, .mov (.t 5), none⟩, ⟨some 18, .call 39 [(.t 17)] [], none⟩, ⟨some 6, .asg (.t 18), none⟩])
 (.seq (.reg false [] [1, 5, 6, 7] [⟨some 19, .mov (.t 5), none⟩, ⟨some 20, .mov (.t 6), none⟩, ⟨some 21, .call 32 [(.t 19), (.t 20)] [], none⟩, ⟨some 7, .mov (.t 21), none⟩])
 (.seq (.seq (.reg false [] [1, 5, 6, 7, 23] [⟨some 22, .mov (.t 7), none⟩, ⟨some 23, .bin .eql (.t 22) (.c (.int .i64 (-1))), none⟩])
 (.cond (.t 23) (.seq (.reg false [] [2, 3, 4] [⟨some 2, .mov (.c (.int .i64 0)), none⟩, ⟨some 3, .mov (.c .nils), none⟩, ⟨some 4, .mov (.c (.int .i64 28)), none⟩])
 .ret)
 .skip))
 (.seq (.reg false [] [1, 5, 6, 7, 8] [⟨some 24, .fad 0 (.t 1), none⟩, ⟨some 25, .ld 1 false (.t 24), none⟩, ⟨some 26, .len (.t 25), none⟩, ⟨some 27, .mks 1 8 [.int .i64 0] (.t 26) (.t 26), none⟩, ⟨some 8, .asg (.t 27), none⟩])
 (.seq (.seq (.reg false [] [1, 5, 6, 7, 8, 9] [⟨some 28, .mov (.t 8), none⟩, ⟨some 29, .len (.t 28), none⟩, ⟨some 30, .bin .sub (.t 29) (.c (.int .i64 1)), none⟩, ⟨some 9, .mov (.t 30), none⟩])
 (.block 0 (.loop (.seq (.seq (.reg false [] [1, 5, 6, 7, 8, 9, 32] [⟨some 31, .mov (.t 9), none⟩, ⟨some 32, .bin .geq (.t 31) (.c (.int .i64 0)), none⟩])
 (.cond (.t 32) .skip
 (.exit 0)))
 (.seq (.block 1 (.seq (.reg false [] [1, 5, 6, 7, 8, 9, 10] [⟨some 10, .mov (.c (.int .i64 4194304)), none⟩])
 (.seq (.seq (.reg false [] [1, 5, 6, 7, 8, 9, 10, 11] [⟨some 35, .fad 0 (.t 1), none⟩, ⟨some 36, .ld 1 false (.t 35), none⟩, ⟨some 37, .mov (.t 9), none⟩, ⟨some 38, .iadS 1 (.t 36) (.t 37), none⟩, ⟨some 39, .ld 1 false (.t 38), none⟩, ⟨some 11, .mov (.t 39), none⟩])
 (.seq (.reg false [] [1, 5, 6, 7, 8, 9, 10, 11, 41] [⟨some 40, .mov (.t 11), none⟩, ⟨some 41, .bin .neq (.t 40) (.c (.int .i64 (-1))), none⟩])
 (.cond (.t 41) (.reg true [0, 1, 0, 0, 12, 28, 63, 127, 255, 511] [1, 5, 6, 7, 8, 9, 10] [⟨some 42, .fad 5 (.t 1), none⟩, ⟨some 43, .ld 1 false (.t 42), none⟩, ⟨some 44, .mov (.t 8), none⟩, ⟨some 45, .mov (.t 11), none⟩, ⟨some 46, .iadS 1 (.t 44) (.t 45), none⟩, ⟨some 47, .ld 1 false (.t 46), none⟩, ⟨some 48, .iadS 5 (.t 43) (.t 47), none⟩, ⟨some 49, .fad 1 (.t 48), none⟩, ⟨some 50, .ld 1 false (.t 49), none⟩, ⟨some 10, .mov (.t 50), none⟩])
 .skip)))
 (.reg false [] [1, 5, 6, 7, 8, 9] [⟨some 52, .mov (.t 8), none⟩, ⟨some 53, .mov (.t 9), none⟩, ⟨some 54, .mov (.t 5), none⟩, ⟨some 55, .mov (.t 6), none⟩, ⟨some 56, .mov (.t 9), none⟩, ⟨some 57, .iadS 1 (.t 55) (.t 56), none⟩, ⟨some 58, .ld 1 false (.t 57), none⟩, ⟨some 59, .mov (.t 9), none⟩, ⟨some 60, .mov (.t 10), none⟩, ⟨some 61, .call 40 [(.t 54), (.t 58), (.t 59), (.t 60)] [], none⟩, ⟨some 51, .mov (.t 61), none⟩, ⟨some 62, .ext 0 (.t 51), none⟩, ⟨some 63, .ext 1 (.t 51), none⟩, ⟨some 64, .iadS 1 (.t 52) (.t 53), none⟩, ⟨none, .st 1 [] (.t 64) (.t 63), none⟩]))))
 (.reg false [] [1, 5, 6, 7, 8, 9] [⟨some 33, .mov (.t 9), none⟩, ⟨some 34, .bin .sub (.t 33) (.c (.int .i64 1)), none⟩, ⟨some 9, .mov (.t 34), none⟩]))))))
 (.seq (.reg false [] [2, 3, 4] [⟨some 65, .mov (.t 7), none⟩, ⟨some 66, .asg (.t 8), none⟩, ⟨some 2, .mov (.t 65), none⟩, ⟨some 3, .asg (.t 66), none⟩, ⟨some 4, .mov (.c (.int .i64 0)), none⟩])
 .ret))))))))) }

/-- sewershed/sizing.Cheaper -/
def N17_sizing_Cheaper : NFun := { np := 2, nt := 38, res := [(4, none), (5, none)], body :=
 (.seq (.reg false [] [1, 2] [⟨some 2, .box [] (.t 0), none⟩, ⟨some 4, .mov (.c (.int .i64 0)), none⟩, ⟨some 5, .mov (.c (.int .i64 0)), none⟩])
 (.seq (.seq (.reg false [] [1, 2, 10] [⟨some 8, .ld 6 true (.t 2), none⟩, ⟨some 9, .call 24 [(.t 8)] [], none⟩, ⟨some 10, .un .not (.t 9), none⟩])
 (.cond (.t 10) (.seq (.reg false [] [4, 5] [⟨some 4, .mov (.c (.int .i64 0)), none⟩, ⟨some 5, .mov (.c (.int .i64 1)), none⟩])
 .ret)
 .skip))
 (.seq (.seq (.reg false [] [1, 2, 19] [⟨some 11, .mov (.t 1), none⟩, ⟨some 12, .bin .lss (.t 11) (.c (.int .i64 0)), none⟩, ⟨some 13, .mov (.t 12), none⟩, ⟨some 14, .mov (.t 1), some (13, false)⟩, ⟨some 15, .fad 0 (.t 2), some (13, false)⟩, ⟨some 16, .ld 1 false (.t 15), some (13, false)⟩, ⟨some 17, .len (.t 16), some (13, false)⟩, ⟨some 18, .bin .geq (.t 14) (.t 17), some (13, false)⟩, ⟨some 19, .pick (.t 13) (.c (.bool true)) (.t 18), none⟩])
 (.cond (.t 19) (.seq (.reg false [] [4, 5] [⟨some 4, .mov (.c (.int .i64 0)), none⟩, ⟨some 5, .mov (.c (.int .i64 2)), none⟩])
 .ret)
 .skip))
 (.seq (.reg false [] [1, 2, 6] [⟨some 6, .mov (.c (.fn 41 [])), none⟩])
 (.seq (.reg false [] [1, 2, 6, 7] [⟨some 20, .mov (.t 6), none⟩, ⟨some 21, .ld 6 true (.t 2), none⟩, ⟨some 22, .callv (.t 20) [(.t 21)], none⟩, ⟨some 7, .mov (.t 22), none⟩])
 (.seq (.seq (.reg false [] [1, 2, 6, 7, 24] [⟨some 23, .mov (.t 7), none⟩, ⟨some 24, .bin .eql (.t 23) (.c (.int .i64 (-1))), none⟩])
 (.cond (.t 24) (.seq (.reg false [] [4, 5] [⟨some 4, .mov (.c (.int .i64 0)), none⟩, ⟨some 5, .mov (.c (.int .i64 28)), none⟩])
 .ret)
 .skip))
 (.seq (.reg false [] [1, 2, 6, 7] [⟨some 25, .fad 2 (.t 2), none⟩, ⟨some 26, .ld 1 false (.t 25), none⟩, ⟨some 27, .callF 42 [(.t 26)], none⟩, ⟨some 28, .fad 2 (.t 2), none⟩, ⟨none, .st 1 [] (.t 28) (.t 27), none⟩])
 (.seq (.reg false [] [2, 6, 7] [⟨some 29, .fad 2 (.t 2), none⟩, ⟨some 30, .ld 1 false (.t 29), none⟩, ⟨some 31, .mov (.t 1), none⟩, ⟨some 32, .iadS 1 (.t 30) (.t 31), none⟩, ⟨none, .st 1 [] (.t 32) (.c (.int .i64 0)), none⟩])
 (.seq (.reg false [] [4, 5] [⟨some 33, .mov (.t 7), none⟩, ⟨some 34, .mov (.t 6), none⟩, ⟨some 35, .ld 6 true (.t 2), none⟩, ⟨some 36, .callv (.t 34) [(.t 35)], none⟩, ⟨some 37, .bin .sub (.t 33) (.t 36), none⟩, ⟨some 4, .mov (.t 37), none⟩, ⟨some 5, .mov (.c (.int .i64 0)), none⟩])
 .ret))))))))) }

/-- slices.Equal[[]int,int] -/
def N19_slices_Equal__int_int : NFun := { np := 2, nt := 26, res := [(4, none)], body :=
 (.seq (.reg false [] [0, 1] [⟨some 4, .mov (.c (.bool false)), none⟩])
 (.seq (.seq (.reg false [] [0, 1, 10] [⟨some 6, .mov (.t 0), none⟩, ⟨some 7, .len (.t 6), none⟩, ⟨some 8, .mov (.t 1), none⟩, ⟨some 9, .len (.t 8), none⟩, ⟨some 10, .bin .neq (.t 7) (.t 9), none⟩])
 (.cond (.t 10) (.seq (.reg false [] [4] [⟨some 4, .mov (.c (.bool false)), none⟩])
 .ret)
 .skip))
 (.seq (.seq (.reg false [] [0, 1, 12, 13] [⟨some 11, .mov (.t 0), none⟩, ⟨some 12, .len (.t 11), none⟩, ⟨some 13, .mov (.c (.int .i64 0)), none⟩])
 (.block 0 (.loop (.seq (.reg false [] [0, 1, 12, 13, 14] [⟨some 14, .bin .lss (.t 13) (.t 12), none⟩])
 (.seq (.cond (.t 14) .skip
 (.exit 0))
 (.seq (.block 1 (.seq (.reg false [] [0, 1, 5, 12, 13] [⟨some 15, .mov (.t 13), none⟩, ⟨some 5, .mov (.t 15), none⟩])
 (.seq (.reg true [0, 0, 3, 7, 0, 0, 48, 112, 255] [0, 1, 12, 13, 24] [⟨some 16, .mov (.t 0), none⟩, ⟨some 17, .mov (.t 5), none⟩, ⟨some 18, .iadS 1 (.t 16) (.t 17), none⟩, ⟨some 19, .ld 1 false (.t 18), none⟩, ⟨some 20, .mov (.t 1), none⟩, ⟨some 21, .mov (.t 5), none⟩, ⟨some 22, .iadS 1 (.t 20) (.t 21), none⟩, ⟨some 23, .ld 1 false (.t 22), none⟩, ⟨some 24, .bin .neq (.t 19) (.t 23), none⟩])
 (.cond (.t 24) (.seq (.reg false [] [4] [⟨some 4, .mov (.c (.bool false)), none⟩])
 .ret)
 .skip))))
 (.reg false [] [0, 1, 12, 13] [⟨some 25, .bin .add (.t 13) (.c (.int .i64 1)), none⟩, ⟨some 13, .mov (.t 25), none⟩])))))))
 (.seq (.reg false [] [4] [⟨some 4, .mov (.c (.bool true)), none⟩])
 .ret)))) }

/-- sewershed/sewershedlaw47.example -/
def N23_law47_example : NFun := { np := 1, nt := 13, res := [(2, some (6, true))], body :=
 (.seq (.reg false [] [0, 2] [⟨some 2, .alc [.own 1 [], .own 1 [], .own 1 [], .own 1 [], .own 1 [], .own 5 []], none⟩])
 (.seq (.reg false [] [2] [⟨some 3, .bls 1 2 [.int .i64 0] [] [(0, (.c (.int .i64 1))), (1, (.c (.int .i64 (-1))))], none⟩, ⟨some 4, .bls 1 2 [.int .i64 0] [] [(0, (.c (.int .i64 1000))), (1, (.c (.int .i64 1000)))], none⟩, ⟨some 5, .bls 1 2 [.int .i64 0] [] [(0, (.c (.int .i64 1))), (1, (.c (.int .i64 1)))], none⟩, ⟨some 6, .bls 1 2 [.int .i64 0] [] [(0, (.c (.int .i64 10))), (1, (.c (.int .i64 10)))], none⟩, ⟨some 7, .mov (.t 0), none⟩, ⟨some 8, .bls 1 2 [.int .i64 0] [] [(0, (.t 7)), (1, (.c (.int .i64 2000)))], none⟩, ⟨some 9, .call 43 [(.c (.str [97])), (.c (.int .i64 200)), (.c (.int .i64 5))] [], none⟩, ⟨some 10, .call 43 [(.c (.str [98])), (.c (.int .i64 300)), (.c (.int .i64 4))] [], none⟩, ⟨some 11, .bls 5 2 [.str [], .int .i64 0, .int .i64 0, .own 2 [], .own 2 []] [] [(0, (.t 9)), (1, (.t 10))], none⟩, ⟨some 12, .bld [.nils, .nils, .nils, .nils, .nils, .nils] [(0, 1, (.t 3)), (1, 1, (.t 4)), (2, 1, (.t 5)), (3, 1, (.t 6)), (4, 1, (.t 8)), (5, 1, (.t 11))], none⟩, ⟨none, .st 6 [] (.t 2) (.t 12), none⟩])
 .ret)) }

/-- sewershed/sizing.Valid -/
def N24_sizing_Valid : NFun := { np := 1, nt := 109, res := [(2, none)], body :=
 (.seq (.reg false [] [1] [⟨some 1, .boxF (.t 0), none⟩, ⟨some 2, .mov (.c (.bool false)), none⟩])
 (.seq (.reg false [] [1, 3] [⟨some 6, .fad 0 (.t 1), none⟩, ⟨some 7, .ld 1 false (.t 6), none⟩, ⟨some 8, .len (.t 7), none⟩, ⟨some 3, .mov (.t 8), none⟩])
 (.seq (.seq (.reg false [] [1, 3, 50] [⟨some 9, .mov (.t 3), none⟩, ⟨some 10, .bin .gtr (.t 9) (.c (.int .i64 400)), none⟩, ⟨some 11, .mov (.t 10), none⟩, ⟨some 12, .fad 1 (.t 1), some (11, false)⟩, ⟨some 13, .ld 1 false (.t 12), some (11, false)⟩, ⟨some 14, .len (.t 13), some (11, false)⟩, ⟨some 15, .mov (.t 3), some (11, false)⟩, ⟨some 16, .bin .neq (.t 14) (.t 15), some (11, false)⟩, ⟨some 17, .pick (.t 11) (.c (.bool true)) (.t 16), none⟩, ⟨some 18, .mov (.t 17), none⟩, ⟨some 19, .fad 2 (.t 1), some (18, false)⟩, ⟨some 20, .ld 1 false (.t 19), some (18, false)⟩, ⟨some 21, .len (.t 20), some (18, false)⟩, ⟨some 22, .mov (.t 3), some (18, false)⟩, ⟨some 23, .bin .neq (.t 21) (.t 22), some (18, false)⟩, ⟨some 24, .pick (.t 18) (.c (.bool true)) (.t 23), none⟩, ⟨some 25, .mov (.t 24), none⟩, ⟨some 26, .fad 3 (.t 1), some (25, false)⟩, ⟨some 27, .ld 1 false (.t 26), some (25, false)⟩, ⟨some 28, .len (.t 27), some (25, false)⟩, ⟨some 29, .mov (.t 3), some (25, false)⟩, ⟨some 30, .bin .neq (.t 28) (.t 29), some (25, false)⟩, ⟨some 31, .pick (.t 25) (.c (.bool true)) (.t 30), none⟩, ⟨some 32, .mov (.t 31), none⟩, ⟨some 33, .fad 4 (.t 1), some (32, false)⟩, ⟨some 34, .ld 1 false (.t 33), some (32, false)⟩, ⟨some 35, .len (.t 34), some (32, false)⟩, ⟨some 36, .mov (.t 3), some (32, false)⟩, ⟨some 37, .bin .neq (.t 35) (.t 36), some (32, false)⟩, ⟨some 38, .pick (.t 32) (.c (.bool true)) (.t 37), none⟩, ⟨some 39, .mov (.t 38), none⟩, ⟨some 40, .fad 5 (.t 1), some (39, false)⟩, ⟨some 41, .ld 1 false (.t 40), some (39, false)⟩, ⟨some 42, .len (.t 41), some (39, false)⟩, ⟨some 43, .bin .eql (.t 42) (.c (.int .i64 0)), some (39, false)⟩, ⟨some 44, .pick (.t 39) (.c (.bool true)) (.t 43), none⟩, ⟨some 45, .mov (.t 44), none⟩, ⟨some 46, .fad 5 (.t 1), some (45, false)⟩, ⟨some 47, .ld 1 false (.t 46), some (45, false)⟩, ⟨some 48, .call 44 [(.t 47)] [], some (45, false)⟩, ⟨some 49, .un .not (.t 48), some (45, false)⟩, ⟨some 50, .pick (.t 45) (.c (.bool true)) (.t 49), none⟩])
 (.cond (.t 50) (.seq (.reg false [] [2] [⟨some 2, .mov (.c (.bool false)), none⟩])
 .ret)
 .skip))
 (.seq (.seq (.reg false [] [1, 3, 51, 52] [⟨some 51, .mov (.t 3), none⟩, ⟨some 52, .mov (.c (.int .i64 0)), none⟩])
 (.block 0 (.loop (.seq (.reg false [] [1, 3, 51, 52, 53] [⟨some 53, .bin .lss (.t 52) (.t 51), none⟩])
 (.seq (.cond (.t 53) .skip
 (.exit 0))
 (.seq (.block 1 (.seq (.reg false [] [1, 3, 4, 51, 52] [⟨some 54, .mov (.t 52), none⟩, ⟨some 4, .mov (.t 54), none⟩])
 (.seq (.reg false [] [1, 3, 4, 5, 51, 52] [⟨some 55, .fad 0 (.t 1), none⟩, ⟨some 56, .ld 1 false (.t 55), none⟩, ⟨some 57, .mov (.t 4), none⟩, ⟨some 58, .iadS 1 (.t 56) (.t 57), none⟩, ⟨some 59, .ld 1 false (.t 58), none⟩, ⟨some 5, .mov (.t 59), none⟩])
 (.seq (.reg false [] [1, 3, 51, 52, 107] [⟨some 60, .mov (.t 5), none⟩, ⟨some 61, .bin .neq (.t 60) (.c (.int .i64 (-1))), none⟩, ⟨some 62, .mov (.t 61), none⟩, ⟨some 63, .mov (.t 5), some (62, true)⟩, ⟨some 64, .mov (.t 4), some (62, true)⟩, ⟨some 65, .bin .leq (.t 63) (.t 64), some (62, true)⟩, ⟨some 66, .mov (.t 65), some (62, true)⟩, ⟨some 67, .mov (.t 5), some (66, false)⟩, ⟨some 68, .mov (.t 3), some (66, false)⟩, ⟨some 69, .bin .geq (.t 67) (.t 68), some (66, false)⟩, ⟨some 70, .pick (.t 66) (.c (.bool true)) (.t 69), some (62, true)⟩, ⟨some 71, .pick (.t 62) (.t 70) (.c (.bool false)), none⟩, ⟨some 72, .mov (.t 71), none⟩, ⟨some 73, .fad 1 (.t 1), some (72, false)⟩, ⟨some 74, .ld 1 false (.t 73), some (72, false)⟩, ⟨some 75, .mov (.t 4), some (72, false)⟩, ⟨some 76, .iadS 1 (.t 74) (.t 75), some (72, false)⟩, ⟨some 77, .ld 1 false (.t 76), some (72, false)⟩, ⟨some 78, .call 29 [(.t 77), (.c (.int .i64 1)), (.c (.int .i64 16777216))] [], some (72, false)⟩, ⟨some 79, .un .not (.t 78), some (72, false)⟩, ⟨some 80, .pick (.t 72) (.c (.bool true)) (.t 79), none⟩, ⟨some 81, .mov (.t 80), none⟩, ⟨some 82, .fad 2 (.t 1), some (81, false)⟩, ⟨some 83, .ld 1 false (.t 82), some (81, false)⟩, ⟨some 84, .mov (.t 4), some (81, false)⟩, ⟨some 85, .iadS 1 (.t 83) (.t 84), some (81, false)⟩, ⟨some 86, .ld 1 false (.t 85), some (81, false)⟩, ⟨some 87, .call 29 [(.t 86), (.c (.int .i64 0)), (.c (.int .i64 1099511627776))] [], some (81, false)⟩, ⟨some 88, .un .not (.t 87), some (81, false)⟩, ⟨some 89, .pick (.t 81) (.c (.bool true)) (.t 88), none⟩, ⟨some 90, .mov (.t 89), none⟩, ⟨some 91, .fad 3 (.t 1), some (90, false)⟩, ⟨some 92, .ld 1 false (.t 91), some (90, false)⟩, ⟨some 93, .mov (.t 4), some (90, false)⟩, ⟨some 94, .iadS 1 (.t 92) (.t 93), some (90, false)⟩, ⟨some 95, .ld 1 false (.t 94), some (90, false)⟩, ⟨some 96, .call 29 [(.t 95), (.c (.int .i64 0)), (.c (.int .i64 4194304))] [], some (90, false)⟩, ⟨some 97, .un .not (.t 96), some (90, false)⟩, ⟨some 98, .pick (.t 90) (.c (.bool true)) (.t 97), none⟩, ⟨some 99, .mov (.t 98), none⟩, ⟨some 100, .fad 4 (.t 1), some (99, false)⟩, ⟨some 101, .ld 1 false (.t 100), some (99, false)⟩, ⟨some 102, .mov (.t 4), some (99, false)⟩, ⟨some 103, .iadS 1 (.t 101) (.t 102), some (99, false)⟩, ⟨some 104, .ld 1 false (.t 103), some (99, false)⟩, ⟨some 105, .call 29 [(.t 104), (.c (.int .i64 0)), (.c (.int .i64 4194304))] [], some (99, false)⟩, ⟨some 106, .un .not (.t 105), some (99, false)⟩, ⟨some 107, .pick (.t 99) (.c (.bool true)) (.t 106), none⟩])
 (.cond (.t 107) (.seq (.reg false [] [2] [⟨some 2, .mov (.c (.bool false)), none⟩])
 .ret)
 .skip)))))
 (.reg false [] [1, 3, 51, 52] [⟨some 108, .bin .add (.t 52) (.c (.int .i64 1)), none⟩, ⟨some 52, .mov (.t 108), none⟩])))))))
 (.seq (.reg false [] [2] [⟨some 2, .mov (.c (.bool true)), none⟩])
 .ret))))) }

/-- sewershed/sewershedlaw47.many -/
def N25_law47_many : NFun := { np := 1, nt := 10, res := [(2, none)], body :=
 (.seq (.reg false [] [0] [⟨some 2, .mov (.c (.bool false)), none⟩])
 (.seq (.reg false [] [2] [⟨some 3, .mov (.t 0), none⟩, ⟨some 4, .len (.t 3), none⟩, ⟨some 5, .bin .gtr (.t 4) (.c (.int .i64 8)), none⟩, ⟨some 6, .mov (.t 5), none⟩, ⟨some 7, .asg (.t 0), some (6, false)⟩, ⟨some 8, .call 45 [(.t 7), (.c (.fn 46 []))] [], some (6, false)⟩, ⟨some 9, .pick (.t 6) (.c (.bool true)) (.t 8), none⟩, ⟨some 2, .mov (.t 9), none⟩])
 .ret)) }

/-- sewershed/sizing.within -/
def N29_sizing_within : NFun := { np := 3, nt := 15, res := [(6, none)], body :=
 (.seq (.reg false [] [0, 1, 2] [⟨some 6, .mov (.c (.bool false)), none⟩])
 (.seq (.reg false [] [6] [⟨some 7, .mov (.t 0), none⟩, ⟨some 8, .mov (.t 1), none⟩, ⟨some 9, .bin .geq (.t 7) (.t 8), none⟩, ⟨some 10, .mov (.t 9), none⟩, ⟨some 11, .mov (.t 0), some (10, true)⟩, ⟨some 12, .mov (.t 2), some (10, true)⟩, ⟨some 13, .bin .leq (.t 11) (.t 12), some (10, true)⟩, ⟨some 14, .pick (.t 10) (.t 13) (.c (.bool false)), none⟩, ⟨some 6, .mov (.t 14), none⟩])
 .ret)) }

/-- sewershed/sizing.treeOf -/
def N30_sizing_treeOf : NFun := { np := 1, nt := 112, res := [(2, none)], body :=
 (.seq (.reg false [] [1] [⟨some 1, .boxF (.t 0), none⟩, ⟨some 2, .mov (.c .nilp), none⟩])
 (.seq (.reg true [0, 0, 2, 6, 14, 0, 32, 96, 224, 511, 1023, 2047] [1, 3] [⟨some 10, .ld 6 true (.t 1), none⟩, ⟨some 11, .fad 0 (.t 1), none⟩, ⟨some 12, .ld 1 false (.t 11), none⟩, ⟨some 13, .len (.t 12), none⟩, ⟨some 14, .mks 1 24 [.own 1 []] (.t 13) (.t 13), none⟩, ⟨some 15, .fad 0 (.t 1), none⟩, ⟨some 16, .ld 1 false (.t 15), none⟩, ⟨some 17, .len (.t 16), none⟩, ⟨some 18, .mks 1 24 [.own 1 []] (.t 17) (.t 17), none⟩, ⟨some 19, .bld [.nils, .nils, .nils, .nils, .nils, .nils, .nils, .nils] [(0, 6, (.t 10)), (6, 1, (.t 14)), (7, 1, (.t 18))], none⟩, ⟨some 20, .boxF (.t 19), none⟩, ⟨some 3, .mov (.t 20), none⟩])
 (.seq (.seq (.reg false [] [1, 3, 22, 23, 24] [⟨some 21, .fad 0 (.t 1), none⟩, ⟨some 22, .ld 1 false (.t 21), none⟩, ⟨some 23, .len (.t 22), none⟩, ⟨some 24, .mov (.c (.int .i64 0)), none⟩])
 (.block 0 (.loop (.seq (.reg false [] [1, 3, 22, 23, 24, 25] [⟨some 25, .bin .lss (.t 24) (.t 23), none⟩])
 (.seq (.cond (.t 25) .skip
 (.exit 0))
 (.seq (.block 1 (.seq (.reg false [] [1, 3, 4, 5, 22, 23, 24] [⟨some 26, .mov (.t 24), none⟩, ⟨some 27, .iadS 1 (.t 22) (.t 24), none⟩, ⟨some 28, .ld 1 false (.t 27), none⟩, ⟨some 4, .mov (.t 26), none⟩, ⟨some 5, .mov (.t 28), none⟩])
 (.seq (.seq (.reg false [] [1, 3, 4, 5, 22, 23, 24, 30] [⟨some 29, .mov (.t 5), none⟩, ⟨some 30, .bin .neq (.t 29) (.c (.int .i64 (-1))), none⟩])
 (.cond (.t 30) (.reg true [0, 1, 3, 7, 0, 0, 32, 96, 224, 0, 992, 2016, 0, 4096, 16352, 32767, 65535] [1, 3, 4, 22, 23, 24] [⟨some 31, .mov (.t 3), none⟩, ⟨some 32, .nck (.t 31), none⟩, ⟨some 33, .fad 7 (.t 32), none⟩, ⟨some 34, .ld 1 false (.t 33), none⟩, ⟨some 35, .mov (.t 5), none⟩, ⟨some 36, .mov (.t 3), none⟩, ⟨some 37, .nck (.t 36), none⟩, ⟨some 38, .fad 7 (.t 37), none⟩, ⟨some 39, .ld 1 false (.t 38), none⟩, ⟨some 40, .mov (.t 5), none⟩, ⟨some 41, .iadS 1 (.t 39) (.t 40), none⟩, ⟨some 42, .ld 1 false (.t 41), none⟩, ⟨some 43, .mov (.t 4), none⟩, ⟨some 44, .bls 1 1 [.int .i64 0] [] [(0, (.t 43))], none⟩, ⟨some 45, .app 1 8 false (.t 42) (.t 44), none⟩, ⟨some 46, .iadS 1 (.t 34) (.t 35), none⟩, ⟨none, .st 1 [] (.t 46) (.t 45), none⟩])
 .skip))
 (.seq (.reg false [] [1, 3, 4, 22, 23, 24, 48, 49, 50] [⟨some 47, .fad 5 (.t 1), none⟩, ⟨some 48, .ld 1 false (.t 47), none⟩, ⟨some 49, .len (.t 48), none⟩, ⟨some 50, .mov (.c (.int .i64 0)), none⟩])
 (.block 2 (.loop (.seq (.reg false [] [1, 3, 4, 22, 23, 24, 48, 49, 50, 51] [⟨some 51, .bin .lss (.t 50) (.t 49), none⟩])
 (.seq (.cond (.t 51) .skip
 (.exit 2))
 (.seq (.block 3 (.seq (.reg false [] [1, 3, 4, 7, 22, 23, 24, 48, 49, 50] [⟨some 52, .iadS 5 (.t 48) (.t 50), none⟩, ⟨some 53, .ld 5 true (.t 52), none⟩, ⟨some 7, .alc [.str [], .int .i64 0, .int .i64 0, .own 2 [], .own 2 []], none⟩, ⟨none, .st 5 [] (.t 7) (.t 53), none⟩])
 (.seq (.reg true [0, 0, 2, 0, 14, 30, 0, 64, 0, 448, 960, 2047, 4095, 8191, 8191, 16383, 65535] [1, 3, 4, 7, 8, 9, 22, 23, 24, 48, 49, 50] [⟨some 55, .ld 5 true (.t 7), none⟩, ⟨some 56, .fad 3 (.t 1), none⟩, ⟨some 57, .ld 1 false (.t 56), none⟩, ⟨some 58, .mov (.t 4), none⟩, ⟨some 59, .iadS 1 (.t 57) (.t 58), none⟩, ⟨some 60, .ld 1 false (.t 59), none⟩, ⟨some 61, .fad 1 (.t 1), none⟩, ⟨some 62, .ld 1 false (.t 61), none⟩, ⟨some 63, .mov (.t 4), none⟩, ⟨some 64, .iadS 1 (.t 62) (.t 63), none⟩, ⟨some 65, .ld 1 false (.t 64), none⟩, ⟨some 66, .call 47 [(.t 55), (.t 60), (.t 65)] [], none⟩, ⟨some 54, .mov (.t 66), none⟩, ⟨some 67, .ext 0 (.t 54), none⟩, ⟨some 68, .ext 1 (.t 54), none⟩, ⟨some 8, .mov (.t 67), none⟩, ⟨some 9, .mov (.t 68), none⟩])
 (.reg true [0, 1, 3, 7, 0, 0, 32, 96, 224, 0, 992, 2016, 0, 4096, 12288, 28672, 61440, 126976, 258048, 258048, 782336, 258048, 3928064, 8122368, 16773120, 33550336, 67104768, 134213632, 268431360, 536866816, 268431360, 1342173184, 268431360, 7784624128, 16374558720, 34359734272, 68719472640, 137438949376, 274877906912, 549755813887, 1099511627775] [1, 3, 4, 22, 23, 24, 48, 49, 50] [⟨some 69, .mov (.t 3), none⟩, ⟨some 70, .nck (.t 69), none⟩, ⟨some 71, .fad 6 (.t 70), none⟩, ⟨some 72, .ld 1 false (.t 71), none⟩, ⟨some 73, .mov (.t 4), none⟩, ⟨some 74, .mov (.t 3), none⟩, ⟨some 75, .nck (.t 74), none⟩, ⟨some 76, .fad 6 (.t 75), none⟩, ⟨some 77, .ld 1 false (.t 76), none⟩, ⟨some 78, .mov (.t 4), none⟩, ⟨some 79, .iadS 1 (.t 77) (.t 78), none⟩, ⟨some 80, .ld 1 false (.t 79), none⟩, ⟨some 81, .mov (.t 9), none⟩, ⟨some 82, .bin .eql (.t 81) (.c (.int .i64 5)), none⟩, ⟨some 83, .mov (.t 82), none⟩, ⟨some 84, .mov (.t 9), some (83, false)⟩, ⟨some 85, .bin .eql (.t 84) (.c (.int .i64 0)), some (83, false)⟩, ⟨some 86, .mov (.t 85), some (83, false)⟩, ⟨some 87, .mov (.t 8), some (86, true)⟩, ⟨some 88, .fad 2 (.t 1), some (86, true)⟩, ⟨some 89, .ld 1 false (.t 88), some (86, true)⟩, ⟨some 90, .mov (.t 4), some (86, true)⟩, ⟨some 91, .iadS 1 (.t 89) (.t 90), some (86, true)⟩, ⟨some 92, .ld 1 false (.t 91), some (86, true)⟩, ⟨some 93, .bin .geq (.t 87) (.t 92), some (86, true)⟩, ⟨some 94, .pick (.t 86) (.t 93) (.c (.bool false)), some (83, false)⟩, ⟨some 95, .pick (.t 83) (.c (.bool true)) (.t 94), none⟩, ⟨some 96, .mov (.t 95), none⟩, ⟨some 97, .fad 1 (.t 7), some (96, true)⟩, ⟨some 98, .ld 1 false (.t 97), some (96, true)⟩, ⟨some 99, .fad 4 (.t 1), some (96, true)⟩, ⟨some 100, .ld 1 false (.t 99), some (96, true)⟩, ⟨some 101, .mov (.t 4), some (96, true)⟩, ⟨some 102, .iadS 1 (.t 100) (.t 101), some (96, true)⟩, ⟨some 103, .ld 1 false (.t 102), some (96, true)⟩, ⟨some 104, .bin .leq (.t 98) (.t 103), some (96, true)⟩, ⟨some 105, .pick (.t 96) (.t 104) (.c (.bool false)), none⟩, ⟨some 106, .bls 1 1 [.bool false] [] [(0, (.t 105))], none⟩, ⟨some 107, .app 1 1 false (.t 80) (.t 106), none⟩, ⟨some 108, .iadS 1 (.t 72) (.t 73), none⟩, ⟨none, .st 1 [] (.t 108) (.t 107), none⟩]))))
 (.reg false [] [1, 3, 4, 22, 23, 24, 48, 49, 50] [⟨some 109, .bin .add (.t 50) (.c (.int .i64 1)), none⟩, ⟨some 50, .mov (.t 109), none⟩]))))))))))
 (.reg false [] [1, 3, 22, 23, 24] [⟨some 110, .bin .add (.t 24) (.c (.int .i64 1)), none⟩, ⟨some 24, .mov (.t 110), none⟩])))))))
 (.seq (.reg false [] [2] [⟨some 111, .mov (.t 3), none⟩, ⟨some 2, .mov (.t 111), none⟩])
 .ret)))) }

/-- (*sewershed/sizing.tree).cost -/
def N31_sizing_tree_cost : NFun := { np := 4, nt := 70, res := [(8, none)], body :=
 (.seq (.reg false [] [0, 1, 2, 3] [⟨some 8, .mov (.c (.int .i64 0)), none⟩])
 (.seq (.reg true [0, 1, 3, 7, 15, 0, 63, 127, 0, 256, 768, 1792, 3840, 0, 16128, 32512, 65280, 131071, 262143] [0, 1, 2, 3, 9] [⟨some 14, .mov (.t 0), none⟩, ⟨some 15, .nck (.t 14), none⟩, ⟨some 16, .fad 0 (.t 15), none⟩, ⟨some 17, .fad 1 (.t 16), none⟩, ⟨some 18, .ld 1 false (.t 17), none⟩, ⟨some 19, .mov (.t 2), none⟩, ⟨some 20, .iadS 1 (.t 18) (.t 19), none⟩, ⟨some 21, .ld 1 false (.t 20), none⟩, ⟨some 22, .mov (.t 0), none⟩, ⟨some 23, .nck (.t 22), none⟩, ⟨some 24, .fad 0 (.t 23), none⟩, ⟨some 25, .fad 5 (.t 24), none⟩, ⟨some 26, .ld 1 false (.t 25), none⟩, ⟨some 27, .mov (.t 3), none⟩, ⟨some 28, .iadS 5 (.t 26) (.t 27), none⟩, ⟨some 29, .fad 2 (.t 28), none⟩, ⟨some 30, .ld 1 false (.t 29), none⟩, ⟨some 31, .bin .mul (.t 21) (.t 30), none⟩, ⟨some 9, .mov (.t 31), none⟩])
 (.seq (.seq (.reg false [] [0, 1, 3, 9, 38, 39, 40] [⟨some 32, .mov (.t 0), none⟩, ⟨some 33, .nck (.t 32), none⟩, ⟨some 34, .fad 7 (.t 33), none⟩, ⟨some 35, .ld 1 false (.t 34), none⟩, ⟨some 36, .mov (.t 2), none⟩, ⟨some 37, .iadS 1 (.t 35) (.t 36), none⟩, ⟨some 38, .ld 1 false (.t 37), none⟩, ⟨some 39, .len (.t 38), none⟩, ⟨some 40, .mov (.c (.int .i64 0)), none⟩])
 (.block 0 (.loop (.seq (.reg false [] [0, 1, 3, 9, 38, 39, 40, 41] [⟨some 41, .bin .lss (.t 40) (.t 39), none⟩])
 (.seq (.cond (.t 41) .skip
 (.exit 0))
 (.seq (.block 1 (.seq (.reg false [] [0, 1, 3, 9, 11, 38, 39, 40] [⟨some 42, .iadS 1 (.t 38) (.t 40), none⟩, ⟨some 43, .ld 1 false (.t 42), none⟩, ⟨some 11, .mov (.t 43), none⟩])
 (.seq (.reg true [0, 0, 0, 6, 14, 0, 0, 64, 192, 448, 960, 0, 4032, 8128, 16320, 32767, 65535, 131071, 131071, 262143, 1048575] [0, 1, 3, 9, 12, 38, 39, 40] [⟨some 45, .mov (.t 0), none⟩, ⟨some 46, .mov (.t 1), none⟩, ⟨some 47, .mov (.t 11), none⟩, ⟨some 48, .iadS 1 (.t 46) (.t 47), none⟩, ⟨some 49, .ld 1 false (.t 48), none⟩, ⟨some 50, .mov (.t 11), none⟩, ⟨some 51, .mov (.t 0), none⟩, ⟨some 52, .nck (.t 51), none⟩, ⟨some 53, .fad 0 (.t 52), none⟩, ⟨some 54, .fad 5 (.t 53), none⟩, ⟨some 55, .ld 1 false (.t 54), none⟩, ⟨some 56, .mov (.t 3), none⟩, ⟨some 57, .iadS 5 (.t 55) (.t 56), none⟩, ⟨some 58, .fad 1 (.t 57), none⟩, ⟨some 59, .ld 1 false (.t 58), none⟩, ⟨some 60, .call 40 [(.t 45), (.t 49), (.t 50), (.t 59)] [], none⟩, ⟨some 44, .mov (.t 60), none⟩, ⟨some 61, .ext 0 (.t 44), none⟩, ⟨some 62, .ext 1 (.t 44), none⟩, ⟨some 12, .mov (.t 61), none⟩, ⟨some 13, .mov (.t 62), none⟩])
 (.seq (.seq (.reg false [] [0, 1, 3, 9, 12, 38, 39, 40, 64] [⟨some 63, .mov (.t 12), none⟩, ⟨some 64, .bin .eql (.t 63) (.c (.int .i64 (-1))), none⟩])
 (.cond (.t 64) (.seq (.reg false [] [8] [⟨some 8, .mov (.c (.int .i64 (-1))), none⟩])
 .ret)
 .skip))
 (.reg false [] [0, 1, 3, 9, 38, 39, 40] [⟨some 65, .mov (.t 9), none⟩, ⟨some 66, .mov (.t 12), none⟩, ⟨some 67, .bin .add (.t 65) (.t 66), none⟩, ⟨some 9, .mov (.t 67), none⟩])))))
 (.reg false [] [0, 1, 3, 9, 38, 39, 40] [⟨some 68, .bin .add (.t 40) (.c (.int .i64 1)), none⟩, ⟨some 40, .mov (.t 68), none⟩])))))))
 (.seq (.reg false [] [8] [⟨some 69, .mov (.t 9), none⟩, ⟨some 8, .mov (.t 69), none⟩])
 .ret)))) }

/-- (*sewershed/sizing.tree).bound -/
def N32_sizing_tree_bound : NFun := { np := 2, nt := 40, res := [(4, none)], body :=
 (.seq (.reg false [] [0, 1] [⟨some 4, .mov (.c (.int .i64 0)), none⟩])
 (.seq (.reg false [] [0, 1, 5] [⟨some 5, .mov (.c (.int .i64 0)), none⟩])
 (.seq (.seq (.reg false [] [0, 1, 5, 14, 15, 16] [⟨some 10, .mov (.t 0), none⟩, ⟨some 11, .nck (.t 10), none⟩, ⟨some 12, .fad 0 (.t 11), none⟩, ⟨some 13, .fad 0 (.t 12), none⟩, ⟨some 14, .ld 1 false (.t 13), none⟩, ⟨some 15, .len (.t 14), none⟩, ⟨some 16, .mov (.c (.int .i64 0)), none⟩])
 (.block 0 (.loop (.seq (.reg false [] [0, 1, 5, 14, 15, 16, 17] [⟨some 17, .bin .lss (.t 16) (.t 15), none⟩])
 (.seq (.cond (.t 17) .skip
 (.exit 0))
 (.seq (.block 1 (.seq (.reg false [] [0, 1, 5, 6, 7, 14, 15, 16] [⟨some 18, .mov (.t 16), none⟩, ⟨some 19, .iadS 1 (.t 14) (.t 16), none⟩, ⟨some 20, .ld 1 false (.t 19), none⟩, ⟨some 6, .mov (.t 18), none⟩, ⟨some 7, .mov (.t 20), none⟩])
 (.seq (.seq (.reg false [] [0, 1, 5, 6, 14, 15, 16, 22] [⟨some 21, .mov (.t 7), none⟩, ⟨some 22, .bin .neq (.t 21) (.c (.int .i64 (-1))), none⟩])
 (.cond (.t 22) (.exit 1)
 .skip))
 (.seq (.reg false [] [0, 1, 5, 8, 14, 15, 16] [⟨some 24, .mov (.t 0), none⟩, ⟨some 25, .mov (.t 1), none⟩, ⟨some 26, .mov (.t 6), none⟩, ⟨some 27, .iadS 1 (.t 25) (.t 26), none⟩, ⟨some 28, .ld 1 false (.t 27), none⟩, ⟨some 29, .mov (.t 6), none⟩, ⟨some 30, .call 40 [(.t 24), (.t 28), (.t 29), (.c (.int .i64 4194304))] [], none⟩, ⟨some 23, .mov (.t 30), none⟩, ⟨some 31, .ext 0 (.t 23), none⟩, ⟨some 32, .ext 1 (.t 23), none⟩, ⟨some 8, .mov (.t 31), none⟩, ⟨some 9, .mov (.t 32), none⟩])
 (.seq (.seq (.reg false [] [0, 1, 5, 8, 14, 15, 16, 34] [⟨some 33, .mov (.t 8), none⟩, ⟨some 34, .bin .eql (.t 33) (.c (.int .i64 (-1))), none⟩])
 (.cond (.t 34) (.seq (.reg false [] [4] [⟨some 4, .mov (.c (.int .i64 (-1))), none⟩])
 .ret)
 .skip))
 (.reg false [] [0, 1, 5, 14, 15, 16] [⟨some 35, .mov (.t 5), none⟩, ⟨some 36, .mov (.t 8), none⟩, ⟨some 37, .bin .add (.t 35) (.t 36), none⟩, ⟨some 5, .mov (.t 37), none⟩]))))))
 (.reg false [] [0, 1, 5, 14, 15, 16] [⟨some 38, .bin .add (.t 16) (.c (.int .i64 1)), none⟩, ⟨some 16, .mov (.t 38), none⟩])))))))
 (.seq (.reg false [] [4] [⟨some 39, .mov (.t 5), none⟩, ⟨some 4, .mov (.t 39), none⟩])
 .ret)))) }

/-- slices.IndexFunc[[]int,int] -/
def N35_slices_IndexFunc__int_int : NFun := { np := 2, nt := 19, res := [(4, none)], body :=
 (.seq (.reg false [] [0, 1] [⟨some 4, .mov (.c (.int .i64 0)), none⟩])
 (.seq (.seq (.reg false [] [0, 1, 7, 8] [⟨some 6, .mov (.t 0), none⟩, ⟨some 7, .len (.t 6), none⟩, ⟨some 8, .mov (.c (.int .i64 0)), none⟩])
 (.block 0 (.loop (.seq (.reg false [] [0, 1, 7, 8, 9] [⟨some 9, .bin .lss (.t 8) (.t 7), none⟩])
 (.seq (.cond (.t 9) .skip
 (.exit 0))
 (.seq (.block 1 (.seq (.reg false [] [0, 1, 5, 7, 8] [⟨some 10, .mov (.t 8), none⟩, ⟨some 5, .mov (.t 10), none⟩])
 (.seq (.reg false [] [0, 1, 5, 7, 8, 16] [⟨some 11, .mov (.t 1), none⟩, ⟨some 12, .mov (.t 0), none⟩, ⟨some 13, .mov (.t 5), none⟩, ⟨some 14, .iadS 1 (.t 12) (.t 13), none⟩, ⟨some 15, .ld 1 false (.t 14), none⟩, ⟨some 16, .callv (.t 11) [(.t 15)], none⟩])
 (.cond (.t 16) (.seq (.reg false [] [4] [⟨some 17, .mov (.t 5), none⟩, ⟨some 4, .mov (.t 17), none⟩])
 .ret)
 .skip))))
 (.reg false [] [0, 1, 7, 8] [⟨some 18, .bin .add (.t 8) (.c (.int .i64 1)), none⟩, ⟨some 8, .mov (.t 18), none⟩])))))))
 (.seq (.reg false [] [4] [⟨some 4, .mov (.c (.int .i64 (-1))), none⟩])
 .ret))) }

/-- (*sewershed/sizing.tree).values -/
def N39_sizing_tree_values : NFun := { np := 1, nt := 56, res := [(2, none)], body :=
 (.seq (.reg false [] [0] [⟨some 2, .mov (.c .nils), none⟩])
 (.seq (.reg false [] [0, 3] [⟨some 7, .mov (.t 0), none⟩, ⟨some 8, .nck (.t 7), none⟩, ⟨some 9, .fad 0 (.t 8), none⟩, ⟨some 10, .fad 0 (.t 9), none⟩, ⟨some 11, .ld 1 false (.t 10), none⟩, ⟨some 12, .len (.t 11), none⟩, ⟨some 13, .mks 1 24 [.own 1 []] (.t 12) (.t 12), none⟩, ⟨some 3, .asg (.t 13), none⟩])
 (.seq (.seq (.reg false [] [0, 3, 15, 16] [⟨some 14, .mov (.t 3), none⟩, ⟨some 15, .len (.t 14), none⟩, ⟨some 16, .mov (.c (.int .i64 0)), none⟩])
 (.block 0 (.loop (.seq (.reg false [] [0, 3, 15, 16, 17] [⟨some 17, .bin .lss (.t 16) (.t 15), none⟩])
 (.seq (.cond (.t 17) .skip
 (.exit 0))
 (.seq (.block 1 (.seq (.reg false [] [0, 3, 4, 15, 16] [⟨some 18, .mov (.t 16), none⟩, ⟨some 4, .mov (.t 18), none⟩])
 (.seq (.reg false [] [0, 3, 4, 15, 16, 24, 25] [⟨some 19, .mov (.t 0), none⟩, ⟨some 20, .nck (.t 19), none⟩, ⟨some 21, .fad 0 (.t 20), none⟩, ⟨some 22, .fad 5 (.t 21), none⟩, ⟨some 23, .ld 1 false (.t 22), none⟩, ⟨some 24, .len (.t 23), none⟩, ⟨some 25, .mov (.c (.int .i64 0)), none⟩])
 (.block 2 (.loop (.seq (.reg false [] [0, 3, 4, 15, 16, 24, 25, 26] [⟨some 26, .bin .lss (.t 25) (.t 24), none⟩])
 (.seq (.cond (.t 26) .skip
 (.exit 2))
 (.seq (.block 3 (.seq (.reg false [] [0, 3, 4, 5, 15, 16, 24, 25] [⟨some 27, .mov (.t 25), none⟩, ⟨some 5, .mov (.t 27), none⟩])
 (.seq (.reg false [] [0, 3, 4, 5, 6, 15, 16, 24, 25] [⟨some 6, .mov (.c (.int .i64 (-1))), none⟩])
 (.seq (.seq (.reg false [] [0, 3, 4, 5, 6, 15, 16, 24, 25, 37] [⟨some 28, .mov (.t 0), none⟩, ⟨some 29, .nck (.t 28), none⟩, ⟨some 30, .fad 6 (.t 29), none⟩, ⟨some 31, .ld 1 false (.t 30), none⟩, ⟨some 32, .mov (.t 4), none⟩, ⟨some 33, .iadS 1 (.t 31) (.t 32), none⟩, ⟨some 34, .ld 1 false (.t 33), none⟩, ⟨some 35, .mov (.t 5), none⟩, ⟨some 36, .iadS 1 (.t 34) (.t 35), none⟩, ⟨some 37, .ld 1 false (.t 36), none⟩])
 (.cond (.t 37) (.reg false [] [0, 3, 4, 6, 15, 16, 24, 25] [⟨some 38, .mov (.t 0), none⟩, ⟨some 39, .mov (.t 3), none⟩, ⟨some 40, .mov (.t 4), none⟩, ⟨some 41, .mov (.t 5), none⟩, ⟨some 42, .call 31 [(.t 38), (.t 39), (.t 40), (.t 41)] [], none⟩, ⟨some 6, .mov (.t 42), none⟩])
 .skip))
 (.reg false [] [0, 3, 4, 15, 16, 24, 25] [⟨some 43, .mov (.t 3), none⟩, ⟨some 44, .mov (.t 4), none⟩, ⟨some 45, .mov (.t 3), none⟩, ⟨some 46, .mov (.t 4), none⟩, ⟨some 47, .iadS 1 (.t 45) (.t 46), none⟩, ⟨some 48, .ld 1 false (.t 47), none⟩, ⟨some 49, .mov (.t 6), none⟩, ⟨some 50, .bls 1 1 [.int .i64 0] [] [(0, (.t 49))], none⟩, ⟨some 51, .app 1 8 false (.t 48) (.t 50), none⟩, ⟨some 52, .iadS 1 (.t 43) (.t 44), none⟩, ⟨none, .st 1 [] (.t 52) (.t 51), none⟩])))))
 (.reg false [] [0, 3, 4, 15, 16, 24, 25] [⟨some 53, .bin .add (.t 25) (.c (.int .i64 1)), none⟩, ⟨some 25, .mov (.t 53), none⟩])))))))))
 (.reg false [] [0, 3, 15, 16] [⟨some 54, .bin .add (.t 16) (.c (.int .i64 1)), none⟩, ⟨some 16, .mov (.t 54), none⟩])))))))
 (.seq (.reg false [] [2] [⟨some 55, .asg (.t 3), none⟩, ⟨some 2, .asg (.t 55), none⟩])
 .ret)))) }

/-- (*sewershed/sizing.tree).least -/
def N40_sizing_tree_least : NFun := { np := 4, nt := 62, res := [(8, none), (9, none)], body :=
 (.seq (.reg false [] [0, 1, 2, 3] [⟨some 8, .mov (.c (.int .i64 0)), none⟩, ⟨some 9, .mov (.c (.int .i64 0)), none⟩])
 (.seq (.reg false [] [0, 1, 2, 3, 10, 11] [⟨some 10, .mov (.c (.int .i64 (-1))), none⟩, ⟨some 11, .mov (.c (.int .i64 (-1))), none⟩])
 (.seq (.seq (.reg false [] [0, 2, 3, 10, 11, 14, 15, 16] [⟨some 14, .asg (.t 1), none⟩, ⟨some 15, .len (.t 14), none⟩, ⟨some 16, .mov (.c (.int .i64 0)), none⟩])
 (.block 0 (.loop (.seq (.reg false [] [0, 2, 3, 10, 11, 14, 15, 16, 17] [⟨some 17, .bin .lss (.t 16) (.t 15), none⟩])
 (.seq (.cond (.t 17) .skip
 (.exit 0))
 (.seq (.block 1 (.seq (.reg false [] [0, 2, 3, 10, 11, 12, 13, 14, 15, 16] [⟨some 18, .mov (.t 16), none⟩, ⟨some 19, .iadS 1 (.t 14) (.t 16), none⟩, ⟨some 20, .ld 1 false (.t 19), none⟩, ⟨some 12, .mov (.t 18), none⟩, ⟨some 13, .mov (.t 20), none⟩])
 (.seq (.reg false [] [0, 2, 3, 10, 11, 12, 13, 14, 15, 16, 56] [⟨some 21, .mov (.t 13), none⟩, ⟨some 22, .bin .neq (.t 21) (.c (.int .i64 (-1))), none⟩, ⟨some 23, .mov (.t 22), none⟩, ⟨some 24, .mov (.t 0), some (23, true)⟩, ⟨some 25, .nck (.t 24), some (23, true)⟩, ⟨some 26, .fad 6 (.t 25), some (23, true)⟩, ⟨some 27, .ld 1 false (.t 26), some (23, true)⟩, ⟨some 28, .mov (.t 2), some (23, true)⟩, ⟨some 29, .iadS 1 (.t 27) (.t 28), some (23, true)⟩, ⟨some 30, .ld 1 false (.t 29), some (23, true)⟩, ⟨some 31, .mov (.t 12), some (23, true)⟩, ⟨some 32, .iadS 1 (.t 30) (.t 31), some (23, true)⟩, ⟨some 33, .ld 1 false (.t 32), some (23, true)⟩, ⟨some 34, .pick (.t 23) (.t 33) (.c (.bool false)), none⟩, ⟨some 35, .mov (.t 34), none⟩, ⟨some 36, .mov (.t 0), some (35, true)⟩, ⟨some 37, .nck (.t 36), some (35, true)⟩, ⟨some 38, .fad 0 (.t 37), some (35, true)⟩, ⟨some 39, .fad 5 (.t 38), some (35, true)⟩, ⟨some 40, .ld 1 false (.t 39), some (35, true)⟩, ⟨some 41, .mov (.t 12), some (35, true)⟩, ⟨some 42, .iadS 5 (.t 40) (.t 41), some (35, true)⟩, ⟨some 43, .fad 1 (.t 42), some (35, true)⟩, ⟨some 44, .ld 1 false (.t 43), some (35, true)⟩, ⟨some 45, .mov (.t 3), some (35, true)⟩, ⟨some 46, .bin .leq (.t 44) (.t 45), some (35, true)⟩, ⟨some 47, .pick (.t 35) (.t 46) (.c (.bool false)), none⟩, ⟨some 48, .mov (.t 47), none⟩, ⟨some 49, .mov (.t 10), some (48, true)⟩, ⟨some 50, .bin .eql (.t 49) (.c (.int .i64 (-1))), some (48, true)⟩, ⟨some 51, .mov (.t 50), some (48, true)⟩, ⟨some 52, .mov (.t 13), some (51, false)⟩, ⟨some 53, .mov (.t 10), some (51, false)⟩, ⟨some 54, .bin .lss (.t 52) (.t 53), some (51, false)⟩, ⟨some 55, .pick (.t 51) (.c (.bool true)) (.t 54), some (48, true)⟩, ⟨some 56, .pick (.t 48) (.t 55) (.c (.bool false)), none⟩])
 (.cond (.t 56) (.reg false [] [0, 2, 3, 10, 11, 14, 15, 16] [⟨some 57, .mov (.t 13), none⟩, ⟨some 58, .mov (.t 12), none⟩, ⟨some 10, .mov (.t 57), none⟩, ⟨some 11, .mov (.t 58), none⟩])
 .skip))))
 (.reg false [] [0, 2, 3, 10, 11, 14, 15, 16] [⟨some 59, .bin .add (.t 16) (.c (.int .i64 1)), none⟩, ⟨some 16, .mov (.t 59), none⟩])))))))
 (.seq (.reg false [] [8, 9] [⟨some 60, .mov (.t 10), none⟩, ⟨some 61, .mov (.t 11), none⟩, ⟨some 8, .mov (.t 60), none⟩, ⟨some 9, .mov (.t 61), none⟩])
 .ret)))) }

/-- sewershed/sizing.Cheaper$1 -/
def N41_sizing_Cheaper_1 : NFun := { np := 1, nt := 10, res := [(2, none)], body :=
 (.seq (.reg false [] [1] [⟨some 1, .boxF (.t 0), none⟩, ⟨some 2, .mov (.c (.int .i64 0)), none⟩])
 (.seq (.reg false [] [3] [⟨some 4, .ld 6 true (.t 1), none⟩, ⟨some 5, .call 30 [(.t 4)] [], none⟩, ⟨some 3, .mov (.t 5), none⟩])
 (.seq (.reg false [] [2] [⟨some 6, .mov (.t 3), none⟩, ⟨some 7, .mov (.t 3), none⟩, ⟨some 8, .call 39 [(.t 7)] [], none⟩, ⟨some 9, .call 32 [(.t 6), (.t 8)] [], none⟩, ⟨some 2, .mov (.t 9), none⟩])
 .ret))) }

/-- slices.Clone[[]int,int] -/
def N42_slices_Clone__int_int : NFun := { np := 1, nt := 8, res := [(2, none)], body :=
 (.seq (.reg false [] [0] [⟨some 2, .mov (.c .nils), none⟩])
 (.seq (.seq (.reg false [] [0, 4] [⟨some 3, .mov (.t 0), none⟩, ⟨some 4, .beq false [9] (.t 3) (.c .nils), none⟩])
 (.cond (.t 4) (.seq (.reg false [] [2] [⟨some 2, .mov (.c .nils), none⟩])
 .ret)
 .skip))
 (.seq (.reg false [] [2] [⟨some 5, .bls 1 0 [.int .i64 0] [] [], none⟩, ⟨some 6, .asg (.t 0), none⟩, ⟨some 7, .app 1 8 false (.t 5) (.t 6), none⟩, ⟨some 2, .asg (.t 7), none⟩])
 .ret))) }

/-- sewershed/sewershedlaw47.section -/
def N43_law47_section : NFun := { np := 3, nt := 24, res := [(6, some (5, true))], body :=
 (.seq (.reg false [] [0, 1, 2, 6] [⟨some 6, .alc [.str [], .int .i64 0, .int .i64 0, .own 2 [], .own 2 []], none⟩])
 (.seq (.reg false [] [6] [⟨some 7, .mov (.t 0), none⟩, ⟨some 8, .mov (.t 1), none⟩, ⟨some 9, .mov (.t 2), none⟩, ⟨some 10, .bld [.int .i64 0, .int .i64 0] [], none⟩, ⟨some 11, .mov (.t 1), none⟩, ⟨some 12, .mov (.t 1), none⟩, ⟨some 13, .mov (.t 1), none⟩, ⟨some 14, .bin .mul (.t 12) (.t 13), none⟩, ⟨some 15, .bld [.int .i64 0, .int .i64 0] [(0, 1, (.t 11)), (1, 1, (.t 14))], none⟩, ⟨some 16, .bls 2 2 [.int .i64 0, .int .i64 0] [] [(0, (.t 10)), (1, (.t 15))], none⟩, ⟨some 17, .bld [.int .i64 0, .int .i64 0] [], none⟩, ⟨some 18, .mov (.t 1), none⟩, ⟨some 19, .mov (.t 1), none⟩, ⟨some 20, .bin .mul (.c (.int .i64 1000)) (.t 19), none⟩, ⟨some 21, .bld [.int .i64 0, .int .i64 0] [(0, 1, (.t 18)), (1, 1, (.t 20))], none⟩, ⟨some 22, .bls 2 2 [.int .i64 0, .int .i64 0] [] [(0, (.t 17)), (1, (.t 21))], none⟩, ⟨some 23, .bld [.str [], .int .i64 0, .int .i64 0, .nils, .nils] [(0, 1, (.t 7)), (1, 1, (.t 8)), (2, 1, (.t 9)), (3, 1, (.t 16)), (4, 1, (.t 22))], none⟩, ⟨none, .st 5 [] (.t 6) (.t 23), none⟩])
 .ret)) }

/-- sewershed/catalogue.Valid -/
def N44_catalogue_Valid : NFun := { np := 1, nt := 29, res := [(2, none)], body :=
 (.seq (.reg false [] [0] [⟨some 2, .mov (.c (.bool false)), none⟩])
 (.seq (.seq (.reg false [] [0, 8] [⟨some 6, .mov (.t 0), none⟩, ⟨some 7, .len (.t 6), none⟩, ⟨some 8, .bin .gtr (.t 7) (.c (.int .i64 40)), none⟩])
 (.cond (.t 8) (.seq (.reg false [] [2] [⟨some 2, .mov (.c (.bool false)), none⟩])
 .ret)
 .skip))
 (.seq (.reg false [] [0, 3] [⟨some 9, .mkm 0 1, none⟩, ⟨some 3, .mov (.t 9), none⟩])
 (.seq (.seq (.reg false [] [3, 10, 11, 12] [⟨some 10, .asg (.t 0), none⟩, ⟨some 11, .len (.t 10), none⟩, ⟨some 12, .mov (.c (.int .i64 0)), none⟩])
 (.block 0 (.loop (.seq (.reg false [] [3, 10, 11, 12, 13] [⟨some 13, .bin .lss (.t 12) (.t 11), none⟩])
 (.seq (.cond (.t 13) .skip
 (.exit 0))
 (.seq (.block 1 (.seq (.reg false [] [3, 5, 10, 11, 12] [⟨some 14, .iadS 5 (.t 10) (.t 12), none⟩, ⟨some 15, .ld 5 true (.t 14), none⟩, ⟨some 5, .alc [.str [], .int .i64 0, .int .i64 0, .own 2 [], .own 2 []], none⟩, ⟨none, .st 5 [] (.t 5) (.t 15), none⟩])
 (.seq (.seq (.reg false [] [3, 5, 10, 11, 12, 24] [⟨some 16, .ld 5 true (.t 5), none⟩, ⟨some 17, .call 51 [(.t 16)] [], none⟩, ⟨some 18, .un .not (.t 17), none⟩, ⟨some 19, .mov (.t 18), none⟩, ⟨some 20, .mov (.t 3), some (19, false)⟩, ⟨some 21, .fad 0 (.t 5), some (19, false)⟩, ⟨some 22, .ld 1 false (.t 21), some (19, false)⟩, ⟨some 23, .mpl .str 0 1 false (.bool false) (.t 20) (.t 22), some (19, false)⟩, ⟨some 24, .pick (.t 19) (.c (.bool true)) (.t 23), none⟩])
 (.cond (.t 24) (.seq (.reg false [] [2] [⟨some 2, .mov (.c (.bool false)), none⟩])
 .ret)
 .skip))
 (.reg false [] [3, 10, 11, 12] [⟨some 25, .mov (.t 3), none⟩, ⟨some 26, .fad 0 (.t 5), none⟩, ⟨some 27, .ld 1 false (.t 26), none⟩, ⟨none, .mpu .str 0 1 (.bool false) (.t 25) (.t 27) (.c (.bool true)), none⟩]))))
 (.reg false [] [3, 10, 11, 12] [⟨some 28, .bin .add (.t 12) (.c (.int .i64 1)), none⟩, ⟨some 12, .mov (.t 28), none⟩])))))))
 (.seq (.reg false [] [2] [⟨some 2, .mov (.c (.bool true)), none⟩])
 .ret))))) }

/-- slices.ContainsFunc[[]sewershed/api.Section,sewershed/api.Section] -/
def N45_slices_ContainsFunc__api_Section_api_Section : NFun := { np := 2, nt := 9, res := [(4, none)], body :=
 (.seq (.reg false [] [0, 1] [⟨some 4, .mov (.c (.bool false)), none⟩])
 (.seq (.reg false [] [4] [⟨some 5, .asg (.t 0), none⟩, ⟨some 6, .mov (.t 1), none⟩, ⟨some 7, .call 52 [(.t 5), (.t 6)] [], none⟩, ⟨some 8, .bin .geq (.t 7) (.c (.int .i64 0)), none⟩, ⟨some 4, .mov (.t 8), none⟩])
 .ret)) }

/-- sewershed/sewershedlaw47.many$1 -/
def N46_law47_many_1 : NFun := { np := 1, nt := 19, res := [(2, none)], body :=
 (.seq (.reg false [] [1] [⟨some 1, .boxF (.t 0), none⟩, ⟨some 2, .mov (.c (.bool false)), none⟩])
 (.seq (.reg false [] [2] [⟨some 3, .fad 3 (.t 1), none⟩, ⟨some 4, .ld 1 false (.t 3), none⟩, ⟨some 5, .len (.t 4), none⟩, ⟨some 6, .bin .gtr (.t 5) (.c (.int .i64 20)), none⟩, ⟨some 7, .mov (.t 6), none⟩, ⟨some 8, .fad 4 (.t 1), some (7, false)⟩, ⟨some 9, .ld 1 false (.t 8), some (7, false)⟩, ⟨some 10, .len (.t 9), some (7, false)⟩, ⟨some 11, .bin .gtr (.t 10) (.c (.int .i64 20)), some (7, false)⟩, ⟨some 12, .pick (.t 7) (.c (.bool true)) (.t 11), none⟩, ⟨some 13, .mov (.t 12), none⟩, ⟨some 14, .fad 0 (.t 1), some (13, false)⟩, ⟨some 15, .ld 1 false (.t 14), some (13, false)⟩, ⟨some 16, .lens (.t 15), some (13, false)⟩, ⟨some 17, .bin .gtr (.t 16) (.c (.int .i64 60)), some (13, false)⟩, ⟨some 18, .pick (.t 13) (.c (.bool true)) (.t 17), none⟩, ⟨some 2, .mov (.t 18), none⟩])
 .ret)) }

/-- sewershed/catalogue.Full -/
def N47_catalogue_Full : NFun := { np := 3, nt := 16, res := [(6, none), (7, none)], body :=
 (.seq (.reg false [] [1, 2, 3] [⟨some 3, .boxF (.t 0), none⟩, ⟨some 6, .mov (.c (.int .i64 0)), none⟩, ⟨some 7, .mov (.c (.int .i64 0)), none⟩])
 (.seq (.reg false [] [6, 7] [⟨some 8, .ld 5 true (.t 3), none⟩, ⟨some 9, .fad 1 (.t 3), none⟩, ⟨some 10, .ld 1 false (.t 9), none⟩, ⟨some 11, .mov (.t 1), none⟩, ⟨some 12, .mov (.t 2), none⟩, ⟨some 13, .call 53 [(.t 8), (.t 10), (.t 11), (.t 12)] [], none⟩, ⟨some 14, .ext 0 (.t 13), none⟩, ⟨some 15, .ext 1 (.t 13), none⟩, ⟨some 6, .mov (.t 14), none⟩, ⟨some 7, .mov (.t 15), none⟩])
 .ret)) }

/-- sewershed/catalogue.valid -/
def N51_catalogue_valid : NFun := { np := 1, nt := 40, res := [(2, none)], body :=
 (.seq (.reg false [] [1] [⟨some 1, .boxF (.t 0), none⟩, ⟨some 2, .mov (.c (.bool false)), none⟩])
 (.seq (.reg false [] [2] [⟨some 3, .fad 0 (.t 1), none⟩, ⟨some 4, .ld 1 false (.t 3), none⟩, ⟨some 5, .call 58 [(.t 4)] [], none⟩, ⟨some 6, .mov (.t 5), none⟩, ⟨some 7, .fad 1 (.t 1), some (6, true)⟩, ⟨some 8, .ld 1 false (.t 7), some (6, true)⟩, ⟨some 9, .bin .geq (.t 8) (.c (.int .i64 1)), some (6, true)⟩, ⟨some 10, .pick (.t 6) (.t 9) (.c (.bool false)), none⟩, ⟨some 11, .mov (.t 10), none⟩, ⟨some 12, .fad 1 (.t 1), some (11, true)⟩, ⟨some 13, .ld 1 false (.t 12), some (11, true)⟩, ⟨some 14, .bin .leq (.t 13) (.c (.int .i64 32768)), some (11, true)⟩, ⟨some 15, .pick (.t 11) (.t 14) (.c (.bool false)), none⟩, ⟨some 16, .mov (.t 15), none⟩, ⟨some 17, .fad 2 (.t 1), some (16, true)⟩, ⟨some 18, .ld 1 false (.t 17), some (16, true)⟩, ⟨some 19, .bin .geq (.t 18) (.c (.int .i64 0)), some (16, true)⟩, ⟨some 20, .pick (.t 16) (.t 19) (.c (.bool false)), none⟩, ⟨some 21, .mov (.t 20), none⟩, ⟨some 22, .fad 2 (.t 1), some (21, true)⟩, ⟨some 23, .ld 1 false (.t 22), some (21, true)⟩, ⟨some 24, .bin .leq (.t 23) (.c (.int .i64 1073741824)), some (21, true)⟩, ⟨some 25, .pick (.t 21) (.t 24) (.c (.bool false)), none⟩, ⟨some 26, .mov (.t 25), none⟩, ⟨some 27, .fad 3 (.t 1), some (26, true)⟩, ⟨some 28, .ld 1 false (.t 27), some (26, true)⟩, ⟨some 29, .fad 1 (.t 1), some (26, true)⟩, ⟨some 30, .ld 1 false (.t 29), some (26, true)⟩, ⟨some 31, .call 59 [(.t 28), (.t 30), (.c (.int .i64 1073741824))] [], some (26, true)⟩, ⟨some 32, .pick (.t 26) (.t 31) (.c (.bool false)), none⟩, ⟨some 33, .mov (.t 32), none⟩, ⟨some 34, .fad 4 (.t 1), some (33, true)⟩, ⟨some 35, .ld 1 false (.t 34), some (33, true)⟩, ⟨some 36, .fad 1 (.t 1), some (33, true)⟩, ⟨some 37, .ld 1 false (.t 36), some (33, true)⟩, ⟨some 38, .call 59 [(.t 35), (.t 37), (.c (.int .i64 1099511627776))] [], some (33, true)⟩, ⟨some 39, .pick (.t 33) (.t 38) (.c (.bool false)), none⟩, ⟨some 2, .mov (.t 39), none⟩])
 .ret)) }

/-- slices.IndexFunc[[]sewershed/api.Section,sewershed/api.Section] -/
def N52_slices_IndexFunc__api_Section_api_Section : NFun := { np := 2, nt := 19, res := [(4, none)], body :=
 (.seq (.reg false [] [0, 1] [⟨some 4, .mov (.c (.int .i64 0)), none⟩])
 (.seq (.seq (.reg false [] [0, 1, 7, 8] [⟨some 6, .mov (.t 0), none⟩, ⟨some 7, .len (.t 6), none⟩, ⟨some 8, .mov (.c (.int .i64 0)), none⟩])
 (.block 0 (.loop (.seq (.reg false [] [0, 1, 7, 8, 9] [⟨some 9, .bin .lss (.t 8) (.t 7), none⟩])
 (.seq (.cond (.t 9) .skip
 (.exit 0))
 (.seq (.block 1 (.seq (.reg false [] [0, 1, 5, 7, 8] [⟨some 10, .mov (.t 8), none⟩, ⟨some 5, .mov (.t 10), none⟩])
 (.seq (.reg false [] [0, 1, 5, 7, 8, 16] [⟨some 11, .mov (.t 1), none⟩, ⟨some 12, .mov (.t 0), none⟩, ⟨some 13, .mov (.t 5), none⟩, ⟨some 14, .iadS 5 (.t 12) (.t 13), none⟩, ⟨some 15, .ld 5 true (.t 14), none⟩, ⟨some 16, .callv (.t 11) [(.t 15)], none⟩])
 (.cond (.t 16) (.seq (.reg false [] [4] [⟨some 17, .mov (.t 5), none⟩, ⟨some 4, .mov (.t 17), none⟩])
 .ret)
 .skip))))
 (.reg false [] [0, 1, 7, 8] [⟨some 18, .bin .add (.t 8) (.c (.int .i64 1)), none⟩, ⟨some 8, .mov (.t 18), none⟩])))))))
 (.seq (.reg false [] [4] [⟨some 4, .mov (.c (.int .i64 (-1))), none⟩])
 .ret))) }

/-- sewershed/catalogue.Capacity -/
def N53_catalogue_Capacity : NFun := { np := 4, nt := 47, res := [(8, none), (9, none)], body :=
 (.seq (.reg false [] [1, 2, 3, 4] [⟨some 4, .boxF (.t 0), none⟩, ⟨some 8, .mov (.c (.int .i64 0)), none⟩, ⟨some 9, .mov (.c (.int .i64 0)), none⟩])
 (.seq (.block 0 (.seq (.reg false [] [1, 2, 3, 4, 12] [⟨some 13, .ld 5 true (.t 4), none⟩, ⟨some 14, .call 51 [(.t 13)] [], none⟩, ⟨some 15, .un .not (.t 14), none⟩, ⟨some 12, .mov (.t 15), none⟩])
 (.cond (.t 12) (.seq (.reg false [] [8, 9] [⟨some 8, .mov (.c (.int .i64 0)), none⟩, ⟨some 9, .mov (.c (.int .i64 1)), none⟩])
 .ret)
 (.seq (.reg false [] [1, 2, 3, 4, 16] [⟨some 17, .mov (.t 1), none⟩, ⟨some 18, .bin .lss (.t 17) (.c (.int .i64 0)), none⟩, ⟨some 19, .mov (.t 18), none⟩, ⟨some 20, .mov (.t 1), some (19, false)⟩, ⟨some 21, .fad 1 (.t 4), some (19, false)⟩, ⟨some 22, .ld 1 false (.t 21), some (19, false)⟩, ⟨some 23, .bin .gtr (.t 20) (.t 22), some (19, false)⟩, ⟨some 24, .pick (.t 19) (.c (.bool true)) (.t 23), none⟩, ⟨some 25, .mov (.t 24), none⟩, ⟨some 26, .mov (.t 2), some (25, false)⟩, ⟨some 27, .mov (.t 3), some (25, false)⟩, ⟨some 28, .call 60 [(.t 26), (.t 27)] [], some (25, false)⟩, ⟨some 29, .un .not (.t 28), some (25, false)⟩, ⟨some 30, .pick (.t 25) (.c (.bool true)) (.t 29), none⟩, ⟨some 16, .mov (.t 30), none⟩])
 (.cond (.t 16) (.seq (.reg false [] [8, 9] [⟨some 8, .mov (.c (.int .i64 0)), none⟩, ⟨some 9, .mov (.c (.int .i64 2)), none⟩])
 .ret)
 .skip)))))
 (.seq (.reg false [] [10, 11] [⟨some 32, .ld 5 true (.t 4), none⟩, ⟨some 33, .mov (.t 1), none⟩, ⟨some 34, .mov (.t 2), none⟩, ⟨some 35, .mov (.t 3), none⟩, ⟨some 36, .call 61 [(.t 32), (.t 33), (.t 34), (.t 35)] [], none⟩, ⟨some 31, .mov (.t 36), none⟩, ⟨some 37, .ext 0 (.t 31), none⟩, ⟨some 38, .ext 1 (.t 31), none⟩, ⟨some 10, .mov (.t 37), none⟩, ⟨some 11, .mov (.t 38), none⟩])
 (.seq (.block 1 (.seq (.reg false [] [10, 11, 39] [⟨some 40, .mov (.t 11), none⟩, ⟨some 41, .bin .neq (.t 40) (.c (.int .i64 0)), none⟩, ⟨some 39, .mov (.t 41), none⟩])
 (.cond (.t 39) (.seq (.reg false [] [8, 9] [⟨some 42, .mov (.t 11), none⟩, ⟨some 8, .mov (.c (.int .i64 0)), none⟩, ⟨some 9, .mov (.t 42), none⟩])
 .ret)
 (.seq (.reg false [] [10, 43] [⟨some 44, .mov (.t 10), none⟩, ⟨some 45, .bin .gtr (.t 44) (.c (.int .i64 1099511627776)), none⟩, ⟨some 43, .mov (.t 45), none⟩])
 (.cond (.t 43) (.seq (.reg false [] [8, 9] [⟨some 8, .mov (.c (.int .i64 0)), none⟩, ⟨some 9, .mov (.c (.int .i64 5)), none⟩])
 .ret)
 .skip)))))
 (.seq (.reg false [] [8, 9] [⟨some 46, .mov (.t 10), none⟩, ⟨some 8, .mov (.t 46), none⟩, ⟨some 9, .mov (.c (.int .i64 0)), none⟩])
 .ret))))) }

/-- sewershed/decimal.IsName -/
def N58_decimal_IsName : NFun := { np := 1, nt := 22, res := [(2, none)], body :=
 (.seq (.reg false [] [0] [⟨some 2, .mov (.c (.bool false)), none⟩])
 (.seq (.reg false [] [2] [⟨some 3, .mov (.t 0), none⟩, ⟨some 4, .bin .neq (.t 3) (.c (.str [])), none⟩, ⟨some 5, .mov (.t 4), none⟩, ⟨some 6, .mov (.t 0), some (5, true)⟩, ⟨some 7, .lens (.t 6), some (5, true)⟩, ⟨some 8, .bin .leq (.t 7) (.c (.int .i64 20)), some (5, true)⟩, ⟨some 9, .pick (.t 5) (.t 8) (.c (.bool false)), none⟩, ⟨some 10, .mov (.t 9), none⟩, ⟨some 11, .mov (.t 0), some (10, true)⟩, ⟨some 12, .idxS (.t 11) (.c (.int .i64 0)), some (10, true)⟩, ⟨some 13, .call 70 [(.t 12)] [], some (10, true)⟩, ⟨some 14, .pick (.t 10) (.t 13) (.c (.bool false)), none⟩, ⟨some 15, .mov (.t 14), none⟩, ⟨some 16, .mov (.t 0), some (15, true)⟩, ⟨some 17, .call 71 [(.t 16)] [], some (15, true)⟩, ⟨some 18, .mov (.t 0), some (15, true)⟩, ⟨some 19, .lens (.t 18), some (15, true)⟩, ⟨some 20, .bin .eql (.t 17) (.t 19), some (15, true)⟩, ⟨some 21, .pick (.t 15) (.t 20) (.c (.bool false)), none⟩, ⟨some 2, .mov (.t 21), none⟩])
 .ret)) }

/-- sewershed/catalogue.curve -/
def N59_catalogue_curve : NFun := { np := 3, nt := 34, res := [(6, none)], body :=
 (.seq (.reg false [] [0, 1, 2] [⟨some 6, .mov (.c (.bool false)), none⟩])
 (.seq (.seq (.reg false [] [0, 1, 2, 10] [⟨some 8, .mov (.t 0), none⟩, ⟨some 9, .call 72 [(.t 8)] [], none⟩, ⟨some 10, .un .not (.t 9), none⟩])
 (.cond (.t 10) (.seq (.reg false [] [6] [⟨some 6, .mov (.c (.bool false)), none⟩])
 .ret)
 .skip))
 (.seq (.reg false [] [0, 1, 2, 7] [⟨some 11, .mov (.t 0), none⟩, ⟨some 12, .mov (.t 0), none⟩, ⟨some 13, .len (.t 12), none⟩, ⟨some 14, .bin .sub (.t 13) (.c (.int .i64 1)), none⟩, ⟨some 15, .iadS 2 (.t 11) (.t 14), none⟩, ⟨some 16, .ld 2 true (.t 15), none⟩, ⟨some 7, .alc [.int .i64 0, .int .i64 0], none⟩, ⟨none, .st 2 [] (.t 7) (.t 16), none⟩])
 (.seq (.reg false [] [6] [⟨some 17, .asg (.t 0), none⟩, ⟨some 18, .iadS 2 (.t 17) (.c (.int .i64 0)), none⟩, ⟨some 19, .ld 2 true (.t 18), none⟩, ⟨some 20, .bld [.int .i64 0, .int .i64 0] [], none⟩, ⟨some 21, .beq false [0, 0] (.t 19) (.t 20), none⟩, ⟨some 22, .mov (.t 21), none⟩, ⟨some 23, .fad 0 (.t 7), some (22, true)⟩, ⟨some 24, .ld 1 false (.t 23), some (22, true)⟩, ⟨some 25, .mov (.t 1), some (22, true)⟩, ⟨some 26, .bin .eql (.t 24) (.t 25), some (22, true)⟩, ⟨some 27, .pick (.t 22) (.t 26) (.c (.bool false)), none⟩, ⟨some 28, .mov (.t 27), none⟩, ⟨some 29, .fad 1 (.t 7), some (28, true)⟩, ⟨some 30, .ld 1 false (.t 29), some (28, true)⟩, ⟨some 31, .mov (.t 2), some (28, true)⟩, ⟨some 32, .bin .leq (.t 30) (.t 31), some (28, true)⟩, ⟨some 33, .pick (.t 28) (.t 32) (.c (.bool false)), none⟩, ⟨some 6, .mov (.t 33), none⟩])
 .ret)))) }

/-- sewershed/catalogue.slope -/
def N60_catalogue_slope : NFun := { np := 2, nt := 19, res := [(4, none)], body :=
 (.seq (.reg false [] [0, 1] [⟨some 4, .mov (.c (.bool false)), none⟩])
 (.seq (.reg false [] [4] [⟨some 5, .mov (.t 0), none⟩, ⟨some 6, .bin .geq (.t 5) (.c (.int .i64 0)), none⟩, ⟨some 7, .mov (.t 6), none⟩, ⟨some 8, .mov (.t 0), some (7, true)⟩, ⟨some 9, .bin .leq (.t 8) (.c (.int .i64 4194304)), some (7, true)⟩, ⟨some 10, .pick (.t 7) (.t 9) (.c (.bool false)), none⟩, ⟨some 11, .mov (.t 10), none⟩, ⟨some 12, .mov (.t 1), some (11, true)⟩, ⟨some 13, .bin .geq (.t 12) (.c (.int .i64 1)), some (11, true)⟩, ⟨some 14, .pick (.t 11) (.t 13) (.c (.bool false)), none⟩, ⟨some 15, .mov (.t 14), none⟩, ⟨some 16, .mov (.t 1), some (15, true)⟩, ⟨some 17, .bin .leq (.t 16) (.c (.int .i64 16777216)), some (15, true)⟩, ⟨some 18, .pick (.t 15) (.t 17) (.c (.bool false)), none⟩, ⟨some 4, .mov (.t 18), none⟩])
 .ret)) }

/-- sewershed/catalogue.carried -/
def N61_catalogue_carried : NFun := { np := 4, nt := 30, res := [(8, none), (9, none)], body :=
 (.seq (.reg false [] [1, 2, 3, 4] [⟨some 4, .boxF (.t 0), none⟩, ⟨some 8, .mov (.c (.int .i64 0)), none⟩, ⟨some 9, .mov (.c (.int .i64 0)), none⟩])
 (.seq (.reg false [] [2, 3, 10, 11] [⟨some 13, .fad 4 (.t 4), none⟩, ⟨some 14, .ld 1 false (.t 13), none⟩, ⟨some 15, .mov (.t 1), none⟩, ⟨some 16, .call 73 [(.t 14), (.t 15)] [], none⟩, ⟨some 12, .mov (.t 16), none⟩, ⟨some 17, .ext 0 (.t 12), none⟩, ⟨some 18, .ext 1 (.t 12), none⟩, ⟨some 10, .mov (.t 17), none⟩, ⟨some 11, .mov (.t 18), none⟩])
 (.seq (.seq (.reg false [] [2, 3, 10, 11, 20] [⟨some 19, .mov (.t 11), none⟩, ⟨some 20, .bin .neq (.t 19) (.c (.int .i64 0)), none⟩])
 (.cond (.t 20) (.seq (.reg false [] [8, 9] [⟨some 21, .mov (.t 11), none⟩, ⟨some 8, .mov (.c (.int .i64 0)), none⟩, ⟨some 9, .mov (.t 21), none⟩])
 .ret)
 .skip))
 (.seq (.reg false [] [8, 9] [⟨some 22, .mov (.t 10), none⟩, ⟨some 23, .mov (.t 10), none⟩, ⟨some 24, .call 74 [(.t 22), (.t 23)] [], none⟩, ⟨some 25, .mov (.t 2), none⟩, ⟨some 26, .call 75 [(.t 24), (.t 25)] [], none⟩, ⟨some 27, .mov (.t 3), none⟩, ⟨some 28, .call 76 [(.t 26), (.t 27)] [], none⟩, ⟨some 29, .call 77 [(.t 28)] [], none⟩, ⟨some 8, .mov (.t 29), none⟩, ⟨some 9, .mov (.c (.int .i64 0)), none⟩])
 .ret)))) }

/-- sewershed/decimal.letter -/
def N70_decimal_letter : NFun := { np := 1, nt := 17, res := [(2, none)], body :=
 (.seq (.reg false [] [0] [⟨some 2, .mov (.c (.bool false)), none⟩])
 (.seq (.reg false [] [2] [⟨some 3, .mov (.t 0), none⟩, ⟨some 4, .bin .geq (.t 3) (.c (.int .u8 97)), none⟩, ⟨some 5, .mov (.t 4), none⟩, ⟨some 6, .mov (.t 0), some (5, true)⟩, ⟨some 7, .bin .leq (.t 6) (.c (.int .u8 122)), some (5, true)⟩, ⟨some 8, .pick (.t 5) (.t 7) (.c (.bool false)), none⟩, ⟨some 9, .mov (.t 8), none⟩, ⟨some 10, .mov (.t 0), some (9, false)⟩, ⟨some 11, .bin .geq (.t 10) (.c (.int .u8 65)), some (9, false)⟩, ⟨some 12, .mov (.t 11), some (9, false)⟩, ⟨some 13, .mov (.t 0), some (12, true)⟩, ⟨some 14, .bin .leq (.t 13) (.c (.int .u8 90)), some (12, true)⟩, ⟨some 15, .pick (.t 12) (.t 14) (.c (.bool false)), some (9, false)⟩, ⟨some 16, .pick (.t 9) (.c (.bool true)) (.t 15), none⟩, ⟨some 2, .mov (.t 16), none⟩])
 .ret)) }

/-- sewershed/decimal.word -/
def N71_decimal_word : NFun := { np := 1, nt := 29, res := [(2, none)], body :=
 (.seq (.reg false [] [0] [⟨some 2, .mov (.c (.int .i64 0)), none⟩])
 (.seq (.reg false [] [0, 3] [⟨some 3, .mov (.c (.int .i64 0)), none⟩])
 (.seq (.block 0 (.loop (.seq (.seq (.reg false [] [0, 3, 25] [⟨some 4, .mov (.t 3), none⟩, ⟨some 5, .mov (.t 0), none⟩, ⟨some 6, .lens (.t 5), none⟩, ⟨some 7, .bin .lss (.t 4) (.t 6), none⟩, ⟨some 8, .mov (.t 7), none⟩, ⟨some 9, .mov (.t 0), some (8, true)⟩, ⟨some 10, .mov (.t 3), some (8, true)⟩, ⟨some 11, .idxS (.t 9) (.t 10), some (8, true)⟩, ⟨some 12, .call 70 [(.t 11)] [], some (8, true)⟩, ⟨some 13, .mov (.t 12), some (8, true)⟩, ⟨some 14, .mov (.t 0), some (13, false)⟩, ⟨some 15, .mov (.t 3), some (13, false)⟩, ⟨some 16, .idxS (.t 14) (.t 15), some (13, false)⟩, ⟨some 17, .call 88 [(.t 16)] [], some (13, false)⟩, ⟨some 18, .pick (.t 13) (.c (.bool true)) (.t 17), some (8, true)⟩, ⟨some 19, .mov (.t 18), some (8, true)⟩, ⟨some 20, .mov (.t 0), some (19, false)⟩, ⟨some 21, .mov (.t 3), some (19, false)⟩, ⟨some 22, .idxS (.t 20) (.t 21), some (19, false)⟩, ⟨some 23, .bin .eql (.t 22) (.c (.int .u8 95)), some (19, false)⟩, ⟨some 24, .pick (.t 19) (.c (.bool true)) (.t 23), some (8, true)⟩, ⟨some 25, .pick (.t 8) (.t 24) (.c (.bool false)), none⟩])
 (.cond (.t 25) .skip
 (.exit 0)))
 (.block 1 (.reg false [] [0, 3] [⟨some 26, .mov (.t 3), none⟩, ⟨some 27, .bin .add (.t 26) (.c (.int .i64 1)), none⟩, ⟨some 3, .mov (.t 27), none⟩])))))
 (.seq (.reg false [] [2] [⟨some 28, .mov (.t 3), none⟩, ⟨some 2, .mov (.t 28), none⟩])
 .ret)))) }

/-- sewershed/table.Valid -/
def N72_table_Valid : NFun := { np := 1, nt := 57, res := [(2, none)], body :=
 (.seq (.reg false [] [0] [⟨some 2, .mov (.c (.bool false)), none⟩])
 (.seq (.seq (.reg false [] [0, 12] [⟨some 5, .mov (.t 0), none⟩, ⟨some 6, .len (.t 5), none⟩, ⟨some 7, .bin .lss (.t 6) (.c (.int .i64 1)), none⟩, ⟨some 8, .mov (.t 7), none⟩, ⟨some 9, .mov (.t 0), some (8, false)⟩, ⟨some 10, .len (.t 9), some (8, false)⟩, ⟨some 11, .bin .gtr (.t 10) (.c (.int .i64 100)), some (8, false)⟩, ⟨some 12, .pick (.t 8) (.c (.bool true)) (.t 11), none⟩])
 (.cond (.t 12) (.seq (.reg false [] [2] [⟨some 2, .mov (.c (.bool false)), none⟩])
 .ret)
 .skip))
 (.seq (.seq (.reg false [] [0, 13, 14, 15] [⟨some 13, .mov (.t 0), none⟩, ⟨some 14, .len (.t 13), none⟩, ⟨some 15, .mov (.c (.int .i64 0)), none⟩])
 (.block 0 (.loop (.seq (.reg false [] [0, 13, 14, 15, 16] [⟨some 16, .bin .lss (.t 15) (.t 14), none⟩])
 (.seq (.cond (.t 16) .skip
 (.exit 0))
 (.seq (.block 1 (.seq (.reg false [] [0, 3, 4, 13, 14, 15] [⟨some 17, .mov (.t 15), none⟩, ⟨some 18, .iadS 2 (.t 13) (.t 15), none⟩, ⟨some 19, .ld 2 true (.t 18), none⟩, ⟨some 4, .alc [.int .i64 0, .int .i64 0], none⟩, ⟨some 3, .mov (.t 17), none⟩, ⟨none, .st 2 [] (.t 4) (.t 19), none⟩])
 (.seq (.reg true [0, 1, 3, 7, 15, 31, 63, 127, 255, 511, 1023, 2047, 4095, 8191, 16383, 32767, 16383, 16383, 147455, 475135, 999423, 2047999, 4194303, 8388607, 16777215, 33554431, 16777215, 16777215, 150994943, 486539263, 1023410175, 2097151999, 4294967295, 8589934591, 17179869183, 34359738367] [0, 13, 14, 15, 55] [⟨some 20, .fad 0 (.t 4), none⟩, ⟨some 21, .ld 1 false (.t 20), none⟩, ⟨some 22, .call 89 [(.t 21)] [], none⟩, ⟨some 23, .un .not (.t 22), none⟩, ⟨some 24, .mov (.t 23), none⟩, ⟨some 25, .fad 1 (.t 4), some (24, false)⟩, ⟨some 26, .ld 1 false (.t 25), some (24, false)⟩, ⟨some 27, .call 89 [(.t 26)] [], some (24, false)⟩, ⟨some 28, .un .not (.t 27), some (24, false)⟩, ⟨some 29, .pick (.t 24) (.c (.bool true)) (.t 28), none⟩, ⟨some 30, .mov (.t 29), none⟩, ⟨some 31, .mov (.t 3), some (30, false)⟩, ⟨some 32, .bin .gtr (.t 31) (.c (.int .i64 0)), some (30, false)⟩, ⟨some 33, .mov (.t 32), some (30, false)⟩, ⟨some 34, .fad 0 (.t 4), some (33, true)⟩, ⟨some 35, .ld 1 false (.t 34), some (33, true)⟩, ⟨some 36, .mov (.t 0), some (33, true)⟩, ⟨some 37, .mov (.t 3), some (33, true)⟩, ⟨some 38, .bin .sub (.t 37) (.c (.int .i64 1)), some (33, true)⟩, ⟨some 39, .iadS 2 (.t 36) (.t 38), some (33, true)⟩, ⟨some 40, .fad 0 (.t 39), some (33, true)⟩, ⟨some 41, .ld 1 false (.t 40), some (33, true)⟩, ⟨some 42, .bin .leq (.t 35) (.t 41), some (33, true)⟩, ⟨some 43, .mov (.t 42), some (33, true)⟩, ⟨some 44, .fad 1 (.t 4), some (43, false)⟩, ⟨some 45, .ld 1 false (.t 44), some (43, false)⟩, ⟨some 46, .mov (.t 0), some (43, false)⟩, ⟨some 47, .mov (.t 3), some (43, false)⟩, ⟨some 48, .bin .sub (.t 47) (.c (.int .i64 1)), some (43, false)⟩, ⟨some 49, .iadS 2 (.t 46) (.t 48), some (43, false)⟩, ⟨some 50, .fad 1 (.t 49), some (43, false)⟩, ⟨some 51, .ld 1 false (.t 50), some (43, false)⟩, ⟨some 52, .bin .lss (.t 45) (.t 51), some (43, false)⟩, ⟨some 53, .pick (.t 43) (.c (.bool true)) (.t 52), some (33, true)⟩, ⟨some 54, .pick (.t 33) (.t 53) (.c (.bool false)), some (30, false)⟩, ⟨some 55, .pick (.t 30) (.c (.bool true)) (.t 54), none⟩])
 (.cond (.t 55) (.seq (.reg false [] [2] [⟨some 2, .mov (.c (.bool false)), none⟩])
 .ret)
 .skip))))
 (.reg false [] [0, 13, 14, 15] [⟨some 56, .bin .add (.t 15) (.c (.int .i64 1)), none⟩, ⟨some 15, .mov (.t 56), none⟩])))))))
 (.seq (.reg false [] [2] [⟨some 2, .mov (.c (.bool true)), none⟩])
 .ret)))) }

/-- sewershed/table.Floor -/
def N73_table_Floor : NFun := { np := 2, nt := 20, res := [(4, none), (5, none)], body :=
 (.seq (.reg false [] [0, 1] [⟨some 4, .mov (.c (.int .i64 0)), none⟩, ⟨some 5, .mov (.c (.int .i64 0)), none⟩])
 (.seq (.seq (.reg false [] [0, 1, 11] [⟨some 9, .mov (.t 0), none⟩, ⟨some 10, .call 72 [(.t 9)] [], none⟩, ⟨some 11, .un .not (.t 10), none⟩])
 (.cond (.t 11) (.seq (.reg false [] [4, 5] [⟨some 4, .mov (.c (.int .i64 0)), none⟩, ⟨some 5, .mov (.c (.int .i64 1)), none⟩])
 .ret)
 .skip))
 (.seq (.reg false [] [6] [⟨some 13, .asg (.t 0), none⟩, ⟨some 14, .mov (.t 1), none⟩, ⟨some 15, .call 90 [(.t 13), (.t 14)] [], none⟩, ⟨some 12, .mov (.t 15), none⟩, ⟨some 16, .ext 0 (.t 12), none⟩, ⟨some 17, .ext 1 (.t 12), none⟩, ⟨some 18, .ext 2 (.t 12), none⟩, ⟨some 6, .mov (.t 16), none⟩, ⟨some 7, .mov (.t 17), none⟩, ⟨some 8, .mov (.t 18), none⟩])
 (.seq (.reg false [] [4, 5] [⟨some 19, .mov (.t 6), none⟩, ⟨some 4, .mov (.t 19), none⟩, ⟨some 5, .mov (.c (.int .i64 0)), none⟩])
 .ret)))) }

/-- sewershed/catalogue.product -/
def N74_catalogue_product : NFun := { np := 2, nt := 18, res := [(4, some (2, true))], body :=
 (.seq (.reg false [] [0, 1, 4] [⟨some 4, .alc [.int .u64 0, .int .u64 0], none⟩])
 (.seq (.reg false [] [4, 5, 6] [⟨some 8, .mov (.t 0), none⟩, ⟨some 9, .conv .u64 (.t 8), none⟩, ⟨some 10, .mov (.t 1), none⟩, ⟨some 11, .conv .u64 (.t 10), none⟩, ⟨some 12, .call 91 [(.t 9), (.t 11)] [], none⟩, ⟨some 7, .mov (.t 12), none⟩, ⟨some 13, .ext 0 (.t 7), none⟩, ⟨some 14, .ext 1 (.t 7), none⟩, ⟨some 5, .mov (.t 13), none⟩, ⟨some 6, .mov (.t 14), none⟩])
 (.seq (.reg false [] [4] [⟨some 15, .mov (.t 5), none⟩, ⟨some 16, .mov (.t 6), none⟩, ⟨some 17, .bld [.int .u64 0, .int .u64 0] [(0, 1, (.t 15)), (1, 1, (.t 16))], none⟩, ⟨none, .st 2 [] (.t 4) (.t 17), none⟩])
 .ret))) }

/-- (sewershed/catalogue.wide).times -/
def N75_catalogue_wide_times : NFun := { np := 2, nt := 24, res := [(4, some (2, true))], body :=
 (.seq (.reg false [] [1, 2, 4] [⟨some 2, .boxF (.t 0), none⟩, ⟨some 4, .alc [.int .u64 0, .int .u64 0], none⟩])
 (.seq (.reg false [] [1, 2, 4, 5, 6] [⟨some 8, .fad 1 (.t 2), none⟩, ⟨some 9, .ld 1 false (.t 8), none⟩, ⟨some 10, .mov (.t 1), none⟩, ⟨some 11, .conv .u64 (.t 10), none⟩, ⟨some 12, .call 91 [(.t 9), (.t 11)] [], none⟩, ⟨some 7, .mov (.t 12), none⟩, ⟨some 13, .ext 0 (.t 7), none⟩, ⟨some 14, .ext 1 (.t 7), none⟩, ⟨some 5, .mov (.t 13), none⟩, ⟨some 6, .mov (.t 14), none⟩])
 (.seq (.reg false [] [4] [⟨some 15, .mov (.t 5), none⟩, ⟨some 16, .fad 0 (.t 2), none⟩, ⟨some 17, .ld 1 false (.t 16), none⟩, ⟨some 18, .mov (.t 1), none⟩, ⟨some 19, .conv .u64 (.t 18), none⟩, ⟨some 20, .bin .mul (.t 17) (.t 19), none⟩, ⟨some 21, .bin .add (.t 15) (.t 20), none⟩, ⟨some 22, .mov (.t 6), none⟩, ⟨some 23, .bld [.int .u64 0, .int .u64 0] [(0, 1, (.t 21)), (1, 1, (.t 22))], none⟩, ⟨none, .st 2 [] (.t 4) (.t 23), none⟩])
 .ret))) }

/-- (sewershed/catalogue.wide).over -/
def N76_catalogue_wide_over : NFun := { np := 2, nt := 31, res := [(4, some (2, true))], body :=
 (.seq (.reg false [] [1, 2, 4] [⟨some 2, .boxF (.t 0), none⟩, ⟨some 4, .alc [.int .u64 0, .int .u64 0], none⟩])
 (.seq (.reg true [0, 1, 0, 4, 15, 0, 32, 0, 128, 480, 31, 2047] [1, 2, 4, 5, 6] [⟨some 9, .fad 0 (.t 2), none⟩, ⟨some 10, .ld 1 false (.t 9), none⟩, ⟨some 11, .mov (.t 1), none⟩, ⟨some 12, .conv .u64 (.t 11), none⟩, ⟨some 13, .bin .quo (.t 10) (.t 12), none⟩, ⟨some 14, .fad 0 (.t 2), none⟩, ⟨some 15, .ld 1 false (.t 14), none⟩, ⟨some 16, .mov (.t 1), none⟩, ⟨some 17, .conv .u64 (.t 16), none⟩, ⟨some 18, .bin .rem (.t 15) (.t 17), none⟩, ⟨some 5, .mov (.t 13), none⟩, ⟨some 6, .mov (.t 18), none⟩])
 (.seq (.reg false [] [4, 5, 7] [⟨some 20, .mov (.t 6), none⟩, ⟨some 21, .fad 1 (.t 2), none⟩, ⟨some 22, .ld 1 false (.t 21), none⟩, ⟨some 23, .mov (.t 1), none⟩, ⟨some 24, .conv .u64 (.t 23), none⟩, ⟨some 25, .call 92 [(.t 20), (.t 22), (.t 24)] [], none⟩, ⟨some 19, .mov (.t 25), none⟩, ⟨some 26, .ext 0 (.t 19), none⟩, ⟨some 27, .ext 1 (.t 19), none⟩, ⟨some 7, .mov (.t 26), none⟩, ⟨some 8, .mov (.t 27), none⟩])
 (.seq (.reg false [] [4] [⟨some 28, .mov (.t 5), none⟩, ⟨some 29, .mov (.t 7), none⟩, ⟨some 30, .bld [.int .u64 0, .int .u64 0] [(0, 1, (.t 28)), (1, 1, (.t 29))], none⟩, ⟨none, .st 2 [] (.t 4) (.t 30), none⟩])
 .ret)))) }

/-- (sewershed/catalogue.wide).root -/
def N77_catalogue_wide_root : NFun := { np := 1, nt := 42, res := [(2, none)], body :=
 (.seq (.reg false [] [1] [⟨some 1, .boxF (.t 0), none⟩, ⟨some 2, .mov (.c (.int .i64 0)), none⟩])
 (.seq (.reg false [] [1, 3] [⟨some 3, .mov (.c (.int .u64 0)), none⟩])
 (.seq (.seq (.reg false [] [1, 3, 4] [⟨some 4, .mov (.c (.int .u64 4611686018427387904)), none⟩])
 (.block 0 (.loop (.seq (.seq (.reg false [] [1, 3, 4, 8] [⟨some 7, .mov (.t 4), none⟩, ⟨some 8, .bin .gtr (.t 7) (.c (.int .u64 0)), none⟩])
 (.cond (.t 8) .skip
 (.exit 0)))
 (.seq (.block 1 (.seq (.reg false [] [1, 3, 4, 5, 6] [⟨some 12, .mov (.t 3), none⟩, ⟨some 13, .mov (.t 4), none⟩, ⟨some 14, .bin .or (.t 12) (.t 13), none⟩, ⟨some 15, .mov (.t 3), none⟩, ⟨some 16, .mov (.t 4), none⟩, ⟨some 17, .bin .or (.t 15) (.t 16), none⟩, ⟨some 18, .call 91 [(.t 14), (.t 17)] [], none⟩, ⟨some 11, .mov (.t 18), none⟩, ⟨some 19, .ext 0 (.t 11), none⟩, ⟨some 20, .ext 1 (.t 11), none⟩, ⟨some 5, .mov (.t 19), none⟩, ⟨some 6, .mov (.t 20), none⟩])
 (.seq (.reg false [] [1, 3, 4, 36] [⟨some 21, .mov (.t 5), none⟩, ⟨some 22, .fad 0 (.t 1), none⟩, ⟨some 23, .ld 1 false (.t 22), none⟩, ⟨some 24, .bin .lss (.t 21) (.t 23), none⟩, ⟨some 25, .mov (.t 24), none⟩, ⟨some 26, .mov (.t 5), some (25, false)⟩, ⟨some 27, .fad 0 (.t 1), some (25, false)⟩, ⟨some 28, .ld 1 false (.t 27), some (25, false)⟩, ⟨some 29, .bin .eql (.t 26) (.t 28), some (25, false)⟩, ⟨some 30, .mov (.t 29), some (25, false)⟩, ⟨some 31, .mov (.t 6), some (30, true)⟩, ⟨some 32, .fad 1 (.t 1), some (30, true)⟩, ⟨some 33, .ld 1 false (.t 32), some (30, true)⟩, ⟨some 34, .bin .leq (.t 31) (.t 33), some (30, true)⟩, ⟨some 35, .pick (.t 30) (.t 34) (.c (.bool false)), some (25, false)⟩, ⟨some 36, .pick (.t 25) (.c (.bool true)) (.t 35), none⟩])
 (.cond (.t 36) (.reg false [] [1, 3, 4] [⟨some 37, .mov (.t 3), none⟩, ⟨some 38, .mov (.t 4), none⟩, ⟨some 39, .bin .or (.t 37) (.t 38), none⟩, ⟨some 3, .mov (.t 39), none⟩])
 .skip))))
 (.reg false [] [1, 3, 4] [⟨some 9, .mov (.t 4), none⟩, ⟨some 10, .bin .shr (.t 9) (.c (.int .u64 1)), none⟩, ⟨some 4, .mov (.t 10), none⟩]))))))
 (.seq (.reg false [] [2] [⟨some 40, .mov (.t 3), none⟩, ⟨some 41, .conv .i64 (.t 40), none⟩, ⟨some 2, .mov (.t 41), none⟩])
 .ret)))) }

/-- sewershed/decimal.digit -/
def N88_decimal_digit : NFun := { np := 1, nt := 9, res := [(2, none)], body :=
 (.seq (.reg false [] [0] [⟨some 2, .mov (.c (.bool false)), none⟩])
 (.seq (.reg false [] [2] [⟨some 3, .mov (.t 0), none⟩, ⟨some 4, .bin .geq (.t 3) (.c (.int .u8 48)), none⟩, ⟨some 5, .mov (.t 4), none⟩, ⟨some 6, .mov (.t 0), some (5, true)⟩, ⟨some 7, .bin .leq (.t 6) (.c (.int .u8 57)), some (5, true)⟩, ⟨some 8, .pick (.t 5) (.t 7) (.c (.bool false)), none⟩, ⟨some 2, .mov (.t 8), none⟩])
 .ret)) }

/-- sewershed/table.fits -/
def N89_table_fits : NFun := { np := 1, nt := 9, res := [(2, none)], body :=
 (.seq (.reg false [] [0] [⟨some 2, .mov (.c (.bool false)), none⟩])
 (.seq (.reg false [] [2] [⟨some 3, .mov (.t 0), none⟩, ⟨some 4, .bin .geq (.t 3) (.c (.int .i64 (-1125899906842624))), none⟩, ⟨some 5, .mov (.t 4), none⟩, ⟨some 6, .mov (.t 0), some (5, true)⟩, ⟨some 7, .bin .leq (.t 6) (.c (.int .i64 1125899906842624)), some (5, true)⟩, ⟨some 8, .pick (.t 5) (.t 7) (.c (.bool false)), none⟩, ⟨some 2, .mov (.t 8), none⟩])
 .ret)) }

/-- sewershed/table.piece -/
def N90_table_piece : NFun := { np := 2, nt := 110, res := [(4, none), (5, none), (6, none)], body :=
 (.seq (.reg false [] [0, 1] [⟨some 4, .mov (.c (.int .i64 0)), none⟩, ⟨some 5, .mov (.c (.int .i64 0)), none⟩, ⟨some 6, .mov (.c (.int .i64 0)), none⟩])
 (.seq (.reg false [] [0, 1, 7, 8] [⟨some 23, .mov (.t 0), none⟩, ⟨some 24, .mov (.t 1), none⟩, ⟨some 25, .call 96 [(.t 23), (.t 24), (.c (.fn 97 []))] [], none⟩, ⟨some 22, .mov (.t 25), none⟩, ⟨some 26, .ext 0 (.t 22), none⟩, ⟨some 27, .ext 1 (.t 22), none⟩, ⟨some 7, .mov (.t 26), none⟩, ⟨some 8, .mov (.t 27), none⟩])
 (.seq (.block 0 (.seq (.reg false [] [0, 1, 7, 28] [⟨some 29, .mov (.t 8), none⟩, ⟨some 30, .mov (.t 29), none⟩, ⟨some 31, .mov (.t 7), some (30, false)⟩, ⟨some 32, .bin .eql (.t 31) (.c (.int .i64 0)), some (30, false)⟩, ⟨some 33, .pick (.t 30) (.c (.bool true)) (.t 32), none⟩, ⟨some 28, .mov (.t 33), none⟩])
 (.cond (.t 28) (.seq (.reg false [] [4, 5, 6] [⟨some 34, .asg (.t 0), none⟩, ⟨some 35, .mov (.t 7), none⟩, ⟨some 36, .iadS 2 (.t 34) (.t 35), none⟩, ⟨some 37, .fad 1 (.t 36), none⟩, ⟨some 38, .ld 1 false (.t 37), none⟩, ⟨some 4, .mov (.t 38), none⟩, ⟨some 5, .mov (.c (.int .i64 0)), none⟩, ⟨some 6, .mov (.c (.int .i64 1)), none⟩])
 .ret)
 (.seq (.reg false [] [0, 1, 7, 39] [⟨some 40, .mov (.t 7), none⟩, ⟨some 41, .mov (.t 0), none⟩, ⟨some 42, .len (.t 41), none⟩, ⟨some 43, .bin .eql (.t 40) (.t 42), none⟩, ⟨some 39, .mov (.t 43), none⟩])
 (.cond (.t 39) (.seq (.reg false [] [4, 5, 6] [⟨some 44, .asg (.t 0), none⟩, ⟨some 45, .mov (.t 7), none⟩, ⟨some 46, .bin .sub (.t 45) (.c (.int .i64 1)), none⟩, ⟨some 47, .iadS 2 (.t 44) (.t 46), none⟩, ⟨some 48, .fad 1 (.t 47), none⟩, ⟨some 49, .ld 1 false (.t 48), none⟩, ⟨some 4, .mov (.t 49), none⟩, ⟨some 5, .mov (.c (.int .i64 0)), none⟩, ⟨some 6, .mov (.c (.int .i64 1)), none⟩])
 .ret)
 .skip)))))
 (.seq (.reg true [0, 0, 2, 7, 15, 0, 0, 96, 224, 0, 0, 1567, 4095] [1, 9, 10] [⟨some 50, .mov (.t 0), none⟩, ⟨some 51, .mov (.t 7), none⟩, ⟨some 52, .bin .sub (.t 51) (.c (.int .i64 1)), none⟩, ⟨some 53, .iadS 2 (.t 50) (.t 52), none⟩, ⟨some 54, .ld 2 true (.t 53), none⟩, ⟨some 55, .asg (.t 0), none⟩, ⟨some 56, .mov (.t 7), none⟩, ⟨some 57, .iadS 2 (.t 55) (.t 56), none⟩, ⟨some 58, .ld 2 true (.t 57), none⟩, ⟨some 9, .alc [.int .i64 0, .int .i64 0], none⟩, ⟨some 10, .alc [.int .i64 0, .int .i64 0], none⟩, ⟨none, .st 2 [] (.t 9) (.t 54), none⟩, ⟨none, .st 2 [] (.t 10) (.t 58), none⟩])
 (.seq (.reg true [0, 1, 0, 4, 15, 0, 0, 64, 224, 0, 512, 0, 2048, 7680, 31, 16895, 65535] [6, 9, 11, 12] [⟨some 59, .fad 1 (.t 10), none⟩, ⟨some 60, .ld 1 false (.t 59), none⟩, ⟨some 61, .fad 1 (.t 9), none⟩, ⟨some 62, .ld 1 false (.t 61), none⟩, ⟨some 63, .bin .sub (.t 60) (.t 62), none⟩, ⟨some 64, .mov (.t 1), none⟩, ⟨some 65, .fad 0 (.t 9), none⟩, ⟨some 66, .ld 1 false (.t 65), none⟩, ⟨some 67, .bin .sub (.t 64) (.t 66), none⟩, ⟨some 68, .fad 0 (.t 10), none⟩, ⟨some 69, .ld 1 false (.t 68), none⟩, ⟨some 70, .fad 0 (.t 9), none⟩, ⟨some 71, .ld 1 false (.t 70), none⟩, ⟨some 72, .bin .sub (.t 69) (.t 71), none⟩, ⟨some 11, .mov (.t 63), none⟩, ⟨some 12, .mov (.t 67), none⟩, ⟨some 6, .mov (.t 72), none⟩])
 (.seq (.reg false [] [6, 9, 11, 12, 13] [⟨some 74, .mov (.t 11), none⟩, ⟨some 75, .mov (.t 12), none⟩, ⟨some 76, .mov (.t 6), none⟩, ⟨some 77, .call 98 [(.t 74), (.t 75), (.t 76)] [], none⟩, ⟨some 73, .mov (.t 77), none⟩, ⟨some 78, .ext 0 (.t 73), none⟩, ⟨some 79, .ext 1 (.t 73), none⟩, ⟨some 80, .ext 2 (.t 73), none⟩, ⟨some 13, .mov (.t 78), none⟩, ⟨some 14, .mov (.t 79), none⟩, ⟨some 15, .mov (.t 80), none⟩])
 (.seq (.reg false [] [6, 9, 13, 16] [⟨some 82, .mov (.t 11), none⟩, ⟨some 83, .mov (.t 12), none⟩, ⟨some 84, .call 99 [(.t 82), (.t 83)] [], none⟩, ⟨some 81, .mov (.t 84), none⟩, ⟨some 85, .ext 0 (.t 81), none⟩, ⟨some 86, .ext 1 (.t 81), none⟩, ⟨some 16, .alc [.int .i64 0, .int .i64 0], none⟩, ⟨none, .st 2 [] (.t 16) (.t 85), none⟩, ⟨some 17, .mov (.t 86), none⟩])
 (.seq (.reg false [] [6, 9, 13, 16, 18] [⟨some 88, .mov (.t 13), none⟩, ⟨some 89, .mov (.t 6), none⟩, ⟨some 90, .call 99 [(.t 88), (.t 89)] [], none⟩, ⟨some 87, .mov (.t 90), none⟩, ⟨some 91, .ext 0 (.t 87), none⟩, ⟨some 92, .ext 1 (.t 87), none⟩, ⟨some 18, .alc [.int .i64 0, .int .i64 0], none⟩, ⟨none, .st 2 [] (.t 18) (.t 91), none⟩, ⟨some 19, .mov (.t 92), none⟩])
 (.seq (.reg false [] [6, 9, 13, 20] [⟨some 94, .ld 2 true (.t 16), none⟩, ⟨some 95, .ld 2 true (.t 18), none⟩, ⟨some 96, .call 100 [(.t 94), (.t 95)] [], none⟩, ⟨some 93, .mov (.t 96), none⟩, ⟨some 97, .ext 0 (.t 93), none⟩, ⟨some 98, .ext 1 (.t 93), none⟩, ⟨some 20, .alc [.int .i64 0, .int .i64 0], none⟩, ⟨none, .st 2 [] (.t 20) (.t 97), none⟩, ⟨some 21, .mov (.t 98), none⟩])
 (.seq (.reg false [] [5, 6, 9, 13] [⟨some 100, .ld 2 true (.t 20), none⟩, ⟨some 101, .call 101 [(.t 100)] [], none⟩, ⟨some 99, .mov (.t 101), none⟩, ⟨some 102, .ext 0 (.t 99), none⟩, ⟨some 103, .ext 1 (.t 99), none⟩, ⟨some 5, .mov (.t 102), none⟩])
 (.seq (.reg false [] [4, 5, 6] [⟨some 104, .fad 1 (.t 9), none⟩, ⟨some 105, .ld 1 false (.t 104), none⟩, ⟨some 106, .mov (.t 13), none⟩, ⟨some 107, .bin .add (.t 105) (.t 106), none⟩, ⟨some 108, .mov (.t 5), none⟩, ⟨some 109, .mov (.t 6), none⟩, ⟨some 4, .mov (.t 107), none⟩, ⟨some 5, .mov (.t 108), none⟩, ⟨some 6, .mov (.t 109), none⟩])
 .ret))))))))))) }

/-- math/bits.Mul64 -/
def N91_math_bits_Mul64 : NFun := { np := 2, nt := 51, res := [(4, none), (5, none)], body :=
 (.seq (.reg false [] [0, 1] [⟨some 4, .mov (.c (.int .u64 0)), none⟩, ⟨some 5, .mov (.c (.int .u64 0)), none⟩])
 (.seq (.reg false [] [0, 1, 6] [⟨some 14, .mov (.t 0), none⟩, ⟨some 15, .bin .and (.t 14) (.c (.int .u64 4294967295)), none⟩, ⟨some 6, .mov (.t 15), none⟩])
 (.seq (.reg false [] [0, 1, 6, 7] [⟨some 16, .mov (.t 0), none⟩, ⟨some 17, .bin .shr (.t 16) (.c (.int .u64 32)), none⟩, ⟨some 7, .mov (.t 17), none⟩])
 (.seq (.reg false [] [0, 1, 6, 7, 8] [⟨some 18, .mov (.t 1), none⟩, ⟨some 19, .bin .and (.t 18) (.c (.int .u64 4294967295)), none⟩, ⟨some 8, .mov (.t 19), none⟩])
 (.seq (.reg false [] [0, 1, 6, 7, 8, 9] [⟨some 20, .mov (.t 1), none⟩, ⟨some 21, .bin .shr (.t 20) (.c (.int .u64 32)), none⟩, ⟨some 9, .mov (.t 21), none⟩])
 (.seq (.reg false [] [0, 1, 6, 7, 8, 9, 10] [⟨some 22, .mov (.t 6), none⟩, ⟨some 23, .mov (.t 8), none⟩, ⟨some 24, .bin .mul (.t 22) (.t 23), none⟩, ⟨some 10, .mov (.t 24), none⟩])
 (.seq (.reg false [] [0, 1, 6, 7, 9, 11] [⟨some 25, .mov (.t 7), none⟩, ⟨some 26, .mov (.t 8), none⟩, ⟨some 27, .bin .mul (.t 25) (.t 26), none⟩, ⟨some 28, .mov (.t 10), none⟩, ⟨some 29, .bin .shr (.t 28) (.c (.int .u64 32)), none⟩, ⟨some 30, .bin .add (.t 27) (.t 29), none⟩, ⟨some 11, .mov (.t 30), none⟩])
 (.seq (.reg false [] [0, 1, 6, 7, 9, 11, 12] [⟨some 31, .mov (.t 11), none⟩, ⟨some 32, .bin .and (.t 31) (.c (.int .u64 4294967295)), none⟩, ⟨some 12, .mov (.t 32), none⟩])
 (.seq (.reg false [] [0, 1, 6, 7, 9, 12, 13] [⟨some 33, .mov (.t 11), none⟩, ⟨some 34, .bin .shr (.t 33) (.c (.int .u64 32)), none⟩, ⟨some 13, .mov (.t 34), none⟩])
 (.seq (.reg false [] [0, 1, 7, 9, 12, 13] [⟨some 35, .mov (.t 12), none⟩, ⟨some 36, .mov (.t 6), none⟩, ⟨some 37, .mov (.t 9), none⟩, ⟨some 38, .bin .mul (.t 36) (.t 37), none⟩, ⟨some 39, .bin .add (.t 35) (.t 38), none⟩, ⟨some 12, .mov (.t 39), none⟩])
 (.seq (.reg false [] [0, 1, 4] [⟨some 40, .mov (.t 7), none⟩, ⟨some 41, .mov (.t 9), none⟩, ⟨some 42, .bin .mul (.t 40) (.t 41), none⟩, ⟨some 43, .mov (.t 13), none⟩, ⟨some 44, .bin .add (.t 42) (.t 43), none⟩, ⟨some 45, .mov (.t 12), none⟩, ⟨some 46, .bin .shr (.t 45) (.c (.int .u64 32)), none⟩, ⟨some 47, .bin .add (.t 44) (.t 46), none⟩, ⟨some 4, .mov (.t 47), none⟩])
 (.seq (.reg false [] [4, 5] [⟨some 48, .mov (.t 0), none⟩, ⟨some 49, .mov (.t 1), none⟩, ⟨some 50, .bin .mul (.t 48) (.t 49), none⟩, ⟨some 5, .mov (.t 50), none⟩])
 .ret)))))))))))) }

/-- math/bits.Div64 -/
def N92_math_bits_Div64 : NFun := { np := 3, nt := 135, res := [(6, none), (7, none)], body :=
 (.seq (.reg false [] [0, 1, 2] [⟨some 6, .mov (.c (.int .u64 0)), none⟩, ⟨some 7, .mov (.c (.int .u64 0)), none⟩])
 (.seq (.seq (.reg false [] [0, 1, 2, 20] [⟨some 19, .mov (.t 2), none⟩, ⟨some 20, .bin .eql (.t 19) (.c (.int .u64 0)), none⟩])
 (.cond (.t 20) (.reg false [] [0, 1, 2] [⟨some 21, .dead, none⟩, ⟨none, .dead, none⟩])
 .skip))
 (.seq (.seq (.reg false [] [0, 1, 2, 24] [⟨some 22, .mov (.t 2), none⟩, ⟨some 23, .mov (.t 0), none⟩, ⟨some 24, .bin .leq (.t 22) (.t 23), none⟩])
 (.cond (.t 24) (.reg false [] [0, 1, 2] [⟨some 25, .dead, none⟩, ⟨none, .dead, none⟩])
 .skip))
 (.seq (.seq (.reg false [] [0, 1, 2, 27] [⟨some 26, .mov (.t 0), none⟩, ⟨some 27, .bin .eql (.t 26) (.c (.int .u64 0)), none⟩])
 (.cond (.t 27) (.seq (.reg true [0, 0, 3, 0, 0, 24, 7, 127] [6, 7] [⟨some 28, .mov (.t 1), none⟩, ⟨some 29, .mov (.t 2), none⟩, ⟨some 30, .bin .quo (.t 28) (.t 29), none⟩, ⟨some 31, .mov (.t 1), none⟩, ⟨some 32, .mov (.t 2), none⟩, ⟨some 33, .bin .rem (.t 31) (.t 32), none⟩, ⟨some 6, .mov (.t 30), none⟩, ⟨some 7, .mov (.t 33), none⟩])
 .ret)
 .skip))
 (.seq (.reg false [] [0, 1, 2, 8] [⟨some 34, .mov (.t 2), none⟩, ⟨some 35, .call 102 [(.t 34)] [], none⟩, ⟨some 36, .conv .u64 (.t 35), none⟩, ⟨some 8, .mov (.t 36), none⟩])
 (.seq (.reg false [] [0, 1, 2, 8] [⟨some 37, .mov (.t 2), none⟩, ⟨some 38, .mov (.t 8), none⟩, ⟨some 39, .bin .shl (.t 37) (.t 38), none⟩, ⟨some 2, .mov (.t 39), none⟩])
 (.seq (.reg false [] [0, 1, 2, 8, 9] [⟨some 40, .mov (.t 2), none⟩, ⟨some 41, .bin .shr (.t 40) (.c (.int .u64 32)), none⟩, ⟨some 9, .mov (.t 41), none⟩])
 (.seq (.reg false [] [0, 1, 2, 8, 9, 10] [⟨some 42, .mov (.t 2), none⟩, ⟨some 43, .bin .and (.t 42) (.c (.int .u64 4294967295)), none⟩, ⟨some 10, .mov (.t 43), none⟩])
 (.seq (.reg false [] [1, 2, 8, 9, 10, 11] [⟨some 44, .mov (.t 0), none⟩, ⟨some 45, .mov (.t 8), none⟩, ⟨some 46, .bin .shl (.t 44) (.t 45), none⟩, ⟨some 47, .mov (.t 1), none⟩, ⟨some 48, .mov (.t 8), none⟩, ⟨some 49, .bin .sub (.c (.int .u64 64)) (.t 48), none⟩, ⟨some 50, .bin .shr (.t 47) (.t 49), none⟩, ⟨some 51, .bin .or (.t 46) (.t 50), none⟩, ⟨some 11, .mov (.t 51), none⟩])
 (.seq (.reg false [] [2, 8, 9, 10, 11, 12] [⟨some 52, .mov (.t 1), none⟩, ⟨some 53, .mov (.t 8), none⟩, ⟨some 54, .bin .shl (.t 52) (.t 53), none⟩, ⟨some 12, .mov (.t 54), none⟩])
 (.seq (.reg false [] [2, 8, 9, 10, 11, 12, 13] [⟨some 55, .mov (.t 12), none⟩, ⟨some 56, .bin .shr (.t 55) (.c (.int .u64 32)), none⟩, ⟨some 13, .mov (.t 56), none⟩])
 (.seq (.reg false [] [2, 8, 9, 10, 11, 13, 14] [⟨some 57, .mov (.t 12), none⟩, ⟨some 58, .bin .and (.t 57) (.c (.int .u64 4294967295)), none⟩, ⟨some 14, .mov (.t 58), none⟩])
 (.seq (.reg false [] [2, 8, 9, 10, 11, 13, 14, 15] [⟨some 59, .mov (.t 11), none⟩, ⟨some 60, .mov (.t 9), none⟩, ⟨some 61, .bin .quo (.t 59) (.t 60), none⟩, ⟨some 15, .mov (.t 61), none⟩])
 (.seq (.reg false [] [2, 8, 9, 10, 11, 13, 14, 15, 16] [⟨some 62, .mov (.t 11), none⟩, ⟨some 63, .mov (.t 15), none⟩, ⟨some 64, .mov (.t 9), none⟩, ⟨some 65, .bin .mul (.t 63) (.t 64), none⟩, ⟨some 66, .bin .sub (.t 62) (.t 65), none⟩, ⟨some 16, .mov (.t 66), none⟩])
 (.seq (.block 0 (.loop (.seq (.seq (.reg false [] [2, 8, 9, 10, 11, 13, 14, 15, 16, 78] [⟨some 67, .mov (.t 15), none⟩, ⟨some 68, .bin .geq (.t 67) (.c (.int .u64 4294967296)), none⟩, ⟨some 69, .mov (.t 68), none⟩, ⟨some 70, .mov (.t 15), some (69, false)⟩, ⟨some 71, .mov (.t 10), some (69, false)⟩, ⟨some 72, .bin .mul (.t 70) (.t 71), some (69, false)⟩, ⟨some 73, .mov (.t 16), some (69, false)⟩, ⟨some 74, .bin .mul (.c (.int .u64 4294967296)) (.t 73), some (69, false)⟩, ⟨some 75, .mov (.t 13), some (69, false)⟩, ⟨some 76, .bin .add (.t 74) (.t 75), some (69, false)⟩, ⟨some 77, .bin .gtr (.t 72) (.t 76), some (69, false)⟩, ⟨some 78, .pick (.t 69) (.c (.bool true)) (.t 77), none⟩])
 (.cond (.t 78) .skip
 (.exit 0)))
 (.block 1 (.seq (.reg false [] [2, 8, 9, 10, 11, 13, 14, 15, 16] [⟨some 79, .mov (.t 15), none⟩, ⟨some 80, .bin .sub (.t 79) (.c (.int .u64 1)), none⟩, ⟨some 15, .mov (.t 80), none⟩])
 (.seq (.reg false [] [2, 8, 9, 10, 11, 13, 14, 15, 16] [⟨some 81, .mov (.t 16), none⟩, ⟨some 82, .mov (.t 9), none⟩, ⟨some 83, .bin .add (.t 81) (.t 82), none⟩, ⟨some 16, .mov (.t 83), none⟩])
 (.seq (.reg false [] [2, 8, 9, 10, 11, 13, 14, 15, 16, 85] [⟨some 84, .mov (.t 16), none⟩, ⟨some 85, .bin .geq (.t 84) (.c (.int .u64 4294967296)), none⟩])
 (.cond (.t 85) (.exit 0)
 .skip))))))))
 (.seq (.reg false [] [2, 8, 9, 10, 14, 15, 17] [⟨some 86, .mov (.t 11), none⟩, ⟨some 87, .bin .mul (.t 86) (.c (.int .u64 4294967296)), none⟩, ⟨some 88, .mov (.t 13), none⟩, ⟨some 89, .bin .add (.t 87) (.t 88), none⟩, ⟨some 90, .mov (.t 15), none⟩, ⟨some 91, .mov (.t 2), none⟩, ⟨some 92, .bin .mul (.t 90) (.t 91), none⟩, ⟨some 93, .bin .sub (.t 89) (.t 92), none⟩, ⟨some 17, .mov (.t 93), none⟩])
 (.seq (.reg false [] [2, 8, 9, 10, 14, 15, 17, 18] [⟨some 94, .mov (.t 17), none⟩, ⟨some 95, .mov (.t 9), none⟩, ⟨some 96, .bin .quo (.t 94) (.t 95), none⟩, ⟨some 18, .mov (.t 96), none⟩])
 (.seq (.reg false [] [2, 8, 9, 10, 14, 15, 16, 17, 18] [⟨some 97, .mov (.t 17), none⟩, ⟨some 98, .mov (.t 18), none⟩, ⟨some 99, .mov (.t 9), none⟩, ⟨some 100, .bin .mul (.t 98) (.t 99), none⟩, ⟨some 101, .bin .sub (.t 97) (.t 100), none⟩, ⟨some 16, .mov (.t 101), none⟩])
 (.seq (.block 2 (.loop (.seq (.seq (.reg false [] [2, 8, 9, 10, 14, 15, 16, 17, 18, 113] [⟨some 102, .mov (.t 18), none⟩, ⟨some 103, .bin .geq (.t 102) (.c (.int .u64 4294967296)), none⟩, ⟨some 104, .mov (.t 103), none⟩, ⟨some 105, .mov (.t 18), some (104, false)⟩, ⟨some 106, .mov (.t 10), some (104, false)⟩, ⟨some 107, .bin .mul (.t 105) (.t 106), some (104, false)⟩, ⟨some 108, .mov (.t 16), some (104, false)⟩, ⟨some 109, .bin .mul (.c (.int .u64 4294967296)) (.t 108), some (104, false)⟩, ⟨some 110, .mov (.t 14), some (104, false)⟩, ⟨some 111, .bin .add (.t 109) (.t 110), some (104, false)⟩, ⟨some 112, .bin .gtr (.t 107) (.t 111), some (104, false)⟩, ⟨some 113, .pick (.t 104) (.c (.bool true)) (.t 112), none⟩])
 (.cond (.t 113) .skip
 (.exit 2)))
 (.block 3 (.seq (.reg false [] [2, 8, 9, 10, 14, 15, 16, 17, 18] [⟨some 114, .mov (.t 18), none⟩, ⟨some 115, .bin .sub (.t 114) (.c (.int .u64 1)), none⟩, ⟨some 18, .mov (.t 115), none⟩])
 (.seq (.reg false [] [2, 8, 9, 10, 14, 15, 16, 17, 18] [⟨some 116, .mov (.t 16), none⟩, ⟨some 117, .mov (.t 9), none⟩, ⟨some 118, .bin .add (.t 116) (.t 117), none⟩, ⟨some 16, .mov (.t 118), none⟩])
 (.seq (.reg false [] [2, 8, 9, 10, 14, 15, 16, 17, 18, 120] [⟨some 119, .mov (.t 16), none⟩, ⟨some 120, .bin .geq (.t 119) (.c (.int .u64 4294967296)), none⟩])
 (.cond (.t 120) (.exit 2)
 .skip))))))))
 (.seq (.reg false [] [6, 7] [⟨some 121, .mov (.t 15), none⟩, ⟨some 122, .bin .mul (.t 121) (.c (.int .u64 4294967296)), none⟩, ⟨some 123, .mov (.t 18), none⟩, ⟨some 124, .bin .add (.t 122) (.t 123), none⟩, ⟨some 125, .mov (.t 17), none⟩, ⟨some 126, .bin .mul (.t 125) (.c (.int .u64 4294967296)), none⟩, ⟨some 127, .mov (.t 14), none⟩, ⟨some 128, .bin .add (.t 126) (.t 127), none⟩, ⟨some 129, .mov (.t 18), none⟩, ⟨some 130, .mov (.t 2), none⟩, ⟨some 131, .bin .mul (.t 129) (.t 130), none⟩, ⟨some 132, .bin .sub (.t 128) (.t 131), none⟩, ⟨some 133, .mov (.t 8), none⟩, ⟨some 134, .bin .shr (.t 132) (.t 133), none⟩, ⟨some 6, .mov (.t 124), none⟩, ⟨some 7, .mov (.t 134), none⟩])
 .ret)))))))))))))))))))) }

/-- slices.BinarySearchFunc[sewershed/api.Table,sewershed/api.Knot,int] -/
def N96_slices_BinarySearchFunc_api_Table_api_Knot_int : NFun := { np := 3, nt := 49, res := [(6, none), (7, none)], body :=
 (.seq (.reg false [] [0, 1, 2] [⟨some 6, .mov (.c (.int .i64 0)), none⟩, ⟨some 7, .mov (.c (.bool false)), none⟩])
 (.seq (.reg false [] [0, 1, 2, 8] [⟨some 12, .mov (.t 0), none⟩, ⟨some 13, .len (.t 12), none⟩, ⟨some 8, .mov (.t 13), none⟩])
 (.seq (.reg false [] [0, 1, 2, 8, 9, 10] [⟨some 14, .mov (.t 8), none⟩, ⟨some 9, .mov (.c (.int .i64 0)), none⟩, ⟨some 10, .mov (.t 14), none⟩])
 (.seq (.block 0 (.loop (.seq (.seq (.reg false [] [0, 1, 2, 8, 9, 10, 17] [⟨some 15, .mov (.t 9), none⟩, ⟨some 16, .mov (.t 10), none⟩, ⟨some 17, .bin .lss (.t 15) (.t 16), none⟩])
 (.cond (.t 17) .skip
 (.exit 0)))
 (.block 1 (.seq (.reg false [] [0, 1, 2, 8, 9, 10, 11] [⟨some 18, .mov (.t 9), none⟩, ⟨some 19, .mov (.t 10), none⟩, ⟨some 20, .bin .add (.t 18) (.t 19), none⟩, ⟨some 21, .conv .u64 (.t 20), none⟩, ⟨some 22, .bin .shr (.t 21) (.c (.int .u64 1)), none⟩, ⟨some 23, .conv .i64 (.t 22), none⟩, ⟨some 11, .mov (.t 23), none⟩])
 (.seq (.reg false [] [0, 1, 2, 8, 9, 10, 11, 31] [⟨some 24, .mov (.t 2), none⟩, ⟨some 25, .mov (.t 0), none⟩, ⟨some 26, .mov (.t 11), none⟩, ⟨some 27, .iadS 2 (.t 25) (.t 26), none⟩, ⟨some 28, .ld 2 true (.t 27), none⟩, ⟨some 29, .mov (.t 1), none⟩, ⟨some 30, .callv (.t 24) [(.t 28), (.t 29)], none⟩, ⟨some 31, .bin .lss (.t 30) (.c (.int .i64 0)), none⟩])
 (.cond (.t 31) (.reg false [] [0, 1, 2, 8, 9, 10] [⟨some 32, .mov (.t 11), none⟩, ⟨some 33, .bin .add (.t 32) (.c (.int .i64 1)), none⟩, ⟨some 9, .mov (.t 33), none⟩])
 (.reg false [] [0, 1, 2, 8, 9, 10] [⟨some 34, .mov (.t 11), none⟩, ⟨some 10, .mov (.t 34), none⟩]))))))))
 (.seq (.reg false [] [6, 7] [⟨some 35, .mov (.t 9), none⟩, ⟨some 36, .mov (.t 9), none⟩, ⟨some 37, .mov (.t 8), none⟩, ⟨some 38, .bin .lss (.t 36) (.t 37), none⟩, ⟨some 39, .mov (.t 38), none⟩, ⟨some 40, .mov (.t 2), some (39, true)⟩, ⟨some 41, .asg (.t 0), some (39, true)⟩, ⟨some 42, .mov (.t 9), some (39, true)⟩, ⟨some 43, .iadS 2 (.t 41) (.t 42), some (39, true)⟩, ⟨some 44, .ld 2 true (.t 43), some (39, true)⟩, ⟨some 45, .mov (.t 1), some (39, true)⟩, ⟨some 46, .callv (.t 40) [(.t 44), (.t 45)], some (39, true)⟩, ⟨some 47, .bin .eql (.t 46) (.c (.int .i64 0)), some (39, true)⟩, ⟨some 48, .pick (.t 39) (.t 47) (.c (.bool false)), none⟩, ⟨some 6, .mov (.t 35), none⟩, ⟨some 7, .mov (.t 48), none⟩])
 .ret))))) }

/-- sewershed/table.piece$1 -/
def N97_table_piece_1 : NFun := { np := 2, nt := 15, res := [(4, none)], body :=
 (.seq (.reg false [] [1, 2] [⟨some 2, .boxF (.t 0), none⟩, ⟨some 4, .mov (.c (.int .i64 0)), none⟩])
 (.seq (.block 0 (.seq (.reg false [] [1, 2, 5] [⟨some 6, .fad 0 (.t 2), none⟩, ⟨some 7, .ld 1 false (.t 6), none⟩, ⟨some 8, .mov (.t 1), none⟩, ⟨some 9, .bin .lss (.t 7) (.t 8), none⟩, ⟨some 5, .mov (.t 9), none⟩])
 (.cond (.t 5) (.seq (.reg false [] [4] [⟨some 4, .mov (.c (.int .i64 (-1))), none⟩])
 .ret)
 (.seq (.reg false [] [10] [⟨some 11, .fad 0 (.t 2), none⟩, ⟨some 12, .ld 1 false (.t 11), none⟩, ⟨some 13, .mov (.t 1), none⟩, ⟨some 14, .bin .gtr (.t 12) (.t 13), none⟩, ⟨some 10, .mov (.t 14), none⟩])
 (.cond (.t 10) (.seq (.reg false [] [4] [⟨some 4, .mov (.c (.int .i64 1)), none⟩])
 .ret)
 .skip)))))
 (.seq (.reg false [] [4] [⟨some 4, .mov (.c (.int .i64 0)), none⟩])
 .ret))) }

/-- sewershed/wide.Scale -/
def N98_wide_Scale : NFun := { np := 3, nt := 35, res := [(6, none), (7, none), (8, none)], body :=
 (.seq (.reg false [] [0, 1, 2] [⟨some 6, .mov (.c (.int .i64 0)), none⟩, ⟨some 7, .mov (.c (.int .i64 0)), none⟩, ⟨some 8, .mov (.c (.int .i64 0)), none⟩])
 (.seq (.seq (.reg false [] [0, 1, 2, 11] [⟨some 10, .mov (.t 2), none⟩, ⟨some 11, .bin .eql (.t 10) (.c (.int .i64 0)), none⟩])
 (.cond (.t 11) (.seq (.reg false [] [6, 7, 8] [⟨some 6, .mov (.c (.int .i64 0)), none⟩, ⟨some 7, .mov (.c (.int .i64 0)), none⟩, ⟨some 8, .mov (.c (.int .i64 16)), none⟩])
 .ret)
 .skip))
 (.seq (.reg false [] [2, 9] [⟨some 12, .mov (.t 0), none⟩, ⟨some 13, .mov (.t 1), none⟩, ⟨some 14, .call 103 [(.t 12), (.t 13)] [], none⟩, ⟨some 9, .alc [.int .u64 0, .int .u64 0, .bool false], none⟩, ⟨none, .st 3 [] (.t 9) (.t 14), none⟩])
 (.seq (.seq (.reg false [] [2, 6, 8, 9] [⟨some 16, .ld 3 true (.t 9), none⟩, ⟨some 17, .mov (.t 2), none⟩, ⟨some 18, .call 104 [(.t 16), (.t 17), (.c (.bool false))] [], none⟩, ⟨some 15, .mov (.t 18), none⟩, ⟨some 19, .ext 0 (.t 15), none⟩, ⟨some 20, .ext 1 (.t 15), none⟩, ⟨some 6, .mov (.t 19), none⟩, ⟨some 8, .mov (.t 20), none⟩])
 (.seq (.reg false [] [2, 6, 8, 9, 22] [⟨some 21, .mov (.t 8), none⟩, ⟨some 22, .bin .neq (.t 21) (.c (.int .i64 0)), none⟩])
 (.cond (.t 22) (.seq (.reg false [] [6, 7, 8] [⟨some 23, .mov (.t 8), none⟩, ⟨some 6, .mov (.c (.int .i64 0)), none⟩, ⟨some 7, .mov (.c (.int .i64 0)), none⟩, ⟨some 8, .mov (.t 23), none⟩])
 .ret)
 .skip)))
 (.seq (.seq (.reg false [] [6, 7, 8] [⟨some 25, .ld 3 true (.t 9), none⟩, ⟨some 26, .mov (.t 2), none⟩, ⟨some 27, .call 104 [(.t 25), (.t 26), (.c (.bool true))] [], none⟩, ⟨some 24, .mov (.t 27), none⟩, ⟨some 28, .ext 0 (.t 24), none⟩, ⟨some 29, .ext 1 (.t 24), none⟩, ⟨some 7, .mov (.t 28), none⟩, ⟨some 8, .mov (.t 29), none⟩])
 (.seq (.reg false [] [6, 7, 8, 31] [⟨some 30, .mov (.t 8), none⟩, ⟨some 31, .bin .neq (.t 30) (.c (.int .i64 0)), none⟩])
 (.cond (.t 31) (.seq (.reg false [] [6, 7, 8] [⟨some 32, .mov (.t 8), none⟩, ⟨some 6, .mov (.c (.int .i64 0)), none⟩, ⟨some 7, .mov (.c (.int .i64 0)), none⟩, ⟨some 8, .mov (.t 32), none⟩])
 .ret)
 .skip)))
 (.seq (.reg false [] [6, 7, 8] [⟨some 33, .mov (.t 6), none⟩, ⟨some 34, .mov (.t 7), none⟩, ⟨some 6, .mov (.t 33), none⟩, ⟨some 7, .mov (.t 34), none⟩, ⟨some 8, .mov (.c (.int .i64 0)), none⟩])
 .ret)))))) }

/-- sewershed/wide.Product -/
def N99_wide_Product : NFun := { np := 2, nt := 12, res := [(4, some (2, true)), (5, none)], body :=
 (.seq (.reg false [] [0, 1, 4] [⟨some 4, .alc [.int .i64 0, .int .i64 0], none⟩, ⟨some 5, .mov (.c (.int .i64 0)), none⟩])
 (.seq (.reg false [] [4, 5] [⟨some 6, .mov (.t 0), none⟩, ⟨some 7, .mov (.t 1), none⟩, ⟨some 8, .call 103 [(.t 6), (.t 7)] [], none⟩, ⟨some 9, .call 105 [(.t 8)] [], none⟩, ⟨some 10, .ext 0 (.t 9), none⟩, ⟨some 11, .ext 1 (.t 9), none⟩, ⟨none, .st 2 [] (.t 4) (.t 10), none⟩, ⟨some 5, .mov (.t 11), none⟩])
 .ret)) }

/-- sewershed/wide.Sub -/
def N100_wide_Sub : NFun := { np := 2, nt := 24, res := [(4, some (2, true)), (5, none)], body :=
 (.seq (.reg false [] [2, 3, 4] [⟨some 2, .boxF (.t 0), none⟩, ⟨some 3, .boxF (.t 1), none⟩, ⟨some 4, .alc [.int .i64 0, .int .i64 0], none⟩, ⟨some 5, .mov (.c (.int .i64 0)), none⟩])
 (.seq (.seq (.reg false [] [2, 3, 4, 13] [⟨some 6, .ld 2 true (.t 2), none⟩, ⟨some 7, .call 106 [(.t 6)] [], none⟩, ⟨some 8, .un .not (.t 7), none⟩, ⟨some 9, .mov (.t 8), none⟩, ⟨some 10, .ld 2 true (.t 3), some (9, false)⟩, ⟨some 11, .call 106 [(.t 10)] [], some (9, false)⟩, ⟨some 12, .un .not (.t 11), some (9, false)⟩, ⟨some 13, .pick (.t 9) (.c (.bool true)) (.t 12), none⟩])
 (.cond (.t 13) (.seq (.reg false [] [4, 5] [⟨some 14, .bld [.int .i64 0, .int .i64 0] [], none⟩, ⟨none, .st 2 [] (.t 4) (.t 14), none⟩, ⟨some 5, .mov (.c (.int .i64 1)), none⟩])
 .ret)
 .skip))
 (.seq (.reg true [0, 1, 0, 7, 15, 31, 63, 127, 127, 511, 1023] [4, 5] [⟨some 15, .ld 2 true (.t 2), none⟩, ⟨some 16, .call 108 [(.t 15)] [], none⟩, ⟨some 17, .ld 2 true (.t 3), none⟩, ⟨some 18, .call 108 [(.t 17)] [], none⟩, ⟨some 19, .call 109 [(.t 18)] [], none⟩, ⟨some 20, .call 107 [(.t 16), (.t 19)] [], none⟩, ⟨some 21, .call 105 [(.t 20)] [], none⟩, ⟨some 22, .ext 0 (.t 21), none⟩, ⟨some 23, .ext 1 (.t 21), none⟩, ⟨none, .st 2 [] (.t 4) (.t 22), none⟩, ⟨some 5, .mov (.t 23), none⟩])
 .ret))) }

/-- sewershed/wide.Int -/
def N101_wide_Int : NFun := { np := 1, nt := 20, res := [(2, none), (3, none)], body :=
 (.seq (.reg false [] [1] [⟨some 1, .boxF (.t 0), none⟩, ⟨some 2, .mov (.c (.int .i64 0)), none⟩, ⟨some 3, .mov (.c (.int .i64 0)), none⟩])
 (.seq (.seq (.reg false [] [1, 7] [⟨some 5, .ld 2 true (.t 1), none⟩, ⟨some 6, .call 106 [(.t 5)] [], none⟩, ⟨some 7, .un .not (.t 6), none⟩])
 (.cond (.t 7) (.seq (.reg false [] [2, 3] [⟨some 2, .mov (.c (.int .i64 0)), none⟩, ⟨some 3, .mov (.c (.int .i64 1)), none⟩])
 .ret)
 .skip))
 (.seq (.reg false [] [4] [⟨some 8, .ld 2 true (.t 1), none⟩, ⟨some 9, .call 108 [(.t 8)] [], none⟩, ⟨some 4, .alc [.int .u64 0, .int .u64 0, .bool false], none⟩, ⟨none, .st 3 [] (.t 4) (.t 9), none⟩])
 (.seq (.seq (.reg false [] [4, 12] [⟨some 10, .fad 0 (.t 4), none⟩, ⟨some 11, .ld 1 false (.t 10), none⟩, ⟨some 12, .bin .gtr (.t 11) (.c (.int .u64 0)), none⟩])
 (.cond (.t 12) (.seq (.reg false [] [2, 3] [⟨some 2, .mov (.c (.int .i64 0)), none⟩, ⟨some 3, .mov (.c (.int .i64 5)), none⟩])
 .ret)
 .skip))
 (.seq (.reg false [] [2, 3] [⟨some 13, .fad 1 (.t 4), none⟩, ⟨some 14, .ld 1 false (.t 13), none⟩, ⟨some 15, .fad 2 (.t 4), none⟩, ⟨some 16, .ld 1 false (.t 15), none⟩, ⟨some 17, .call 110 [(.t 14), (.t 16)] [], none⟩, ⟨some 18, .ext 0 (.t 17), none⟩, ⟨some 19, .ext 1 (.t 17), none⟩, ⟨some 2, .mov (.t 18), none⟩, ⟨some 3, .mov (.t 19), none⟩])
 .ret))))) }

/-- math/bits.LeadingZeros64 -/
def N102_math_bits_LeadingZeros64 : NFun := { np := 1, nt := 6, res := [(2, none)], body :=
 (.seq (.reg false [] [0] [⟨some 2, .mov (.c (.int .i64 0)), none⟩])
 (.seq (.reg false [] [2] [⟨some 3, .mov (.t 0), none⟩, ⟨some 4, .call 111 [(.t 3)] [], none⟩, ⟨some 5, .bin .sub (.c (.int .i64 64)) (.t 4), none⟩, ⟨some 2, .mov (.t 5), none⟩])
 .ret)) }

/-- sewershed/wide.times -/
def N103_wide_times : NFun := { np := 2, nt := 23, res := [(4, some (3, true))], body :=
 (.seq (.reg false [] [0, 1, 4] [⟨some 4, .alc [.int .u64 0, .int .u64 0, .bool false], none⟩])
 (.seq (.reg false [] [0, 1, 4, 5, 6] [⟨some 8, .mov (.t 0), none⟩, ⟨some 9, .call 112 [(.t 8)] [], none⟩, ⟨some 10, .mov (.t 1), none⟩, ⟨some 11, .call 112 [(.t 10)] [], none⟩, ⟨some 12, .call 91 [(.t 9), (.t 11)] [], none⟩, ⟨some 7, .mov (.t 12), none⟩, ⟨some 13, .ext 0 (.t 7), none⟩, ⟨some 14, .ext 1 (.t 7), none⟩, ⟨some 5, .mov (.t 13), none⟩, ⟨some 6, .mov (.t 14), none⟩])
 (.seq (.reg false [] [4] [⟨some 15, .mov (.t 5), none⟩, ⟨some 16, .mov (.t 6), none⟩, ⟨some 17, .mov (.t 0), none⟩, ⟨some 18, .bin .lss (.t 17) (.c (.int .i64 0)), none⟩, ⟨some 19, .mov (.t 1), none⟩, ⟨some 20, .bin .lss (.t 19) (.c (.int .i64 0)), none⟩, ⟨some 21, .beq true [] (.t 18) (.t 20), none⟩, ⟨some 22, .call 113 [(.t 15), (.t 16), (.t 21)] [], none⟩, ⟨none, .st 3 [] (.t 4) (.t 22), none⟩])
 .ret))) }

/-- sewershed/wide.quotient -/
def N104_wide_quotient : NFun := { np := 3, nt := 52, res := [(6, none), (7, none)], body :=
 (.seq (.reg false [] [1, 2, 3] [⟨some 3, .boxF (.t 0), none⟩, ⟨some 6, .mov (.c (.int .i64 0)), none⟩, ⟨some 7, .mov (.c (.int .i64 0)), none⟩])
 (.seq (.reg false [] [1, 2, 3, 8] [⟨some 12, .mov (.t 1), none⟩, ⟨some 13, .call 112 [(.t 12)] [], none⟩, ⟨some 8, .mov (.t 13), none⟩])
 (.seq (.seq (.reg false [] [1, 2, 3, 8, 17] [⟨some 14, .fad 0 (.t 3), none⟩, ⟨some 15, .ld 1 false (.t 14), none⟩, ⟨some 16, .mov (.t 8), none⟩, ⟨some 17, .bin .geq (.t 15) (.t 16), none⟩])
 (.cond (.t 17) (.seq (.reg false [] [6, 7] [⟨some 6, .mov (.c (.int .i64 0)), none⟩, ⟨some 7, .mov (.c (.int .i64 5)), none⟩])
 .ret)
 .skip))
 (.seq (.reg false [] [1, 2, 3, 9, 10] [⟨some 19, .fad 0 (.t 3), none⟩, ⟨some 20, .ld 1 false (.t 19), none⟩, ⟨some 21, .fad 1 (.t 3), none⟩, ⟨some 22, .ld 1 false (.t 21), none⟩, ⟨some 23, .mov (.t 8), none⟩, ⟨some 24, .call 92 [(.t 20), (.t 22), (.t 23)] [], none⟩, ⟨some 18, .mov (.t 24), none⟩, ⟨some 25, .ext 0 (.t 18), none⟩, ⟨some 26, .ext 1 (.t 18), none⟩, ⟨some 9, .mov (.t 25), none⟩, ⟨some 10, .mov (.t 26), none⟩])
 (.seq (.reg false [] [2, 9, 10, 11] [⟨some 27, .fad 2 (.t 3), none⟩, ⟨some 28, .ld 1 false (.t 27), none⟩, ⟨some 29, .mov (.t 1), none⟩, ⟨some 30, .bin .lss (.t 29) (.c (.int .i64 0)), none⟩, ⟨some 31, .beq true [] (.t 28) (.t 30), none⟩, ⟨some 11, .mov (.t 31), none⟩])
 (.seq (.seq (.reg false [] [9, 11, 38] [⟨some 32, .mov (.t 10), none⟩, ⟨some 33, .bin .gtr (.t 32) (.c (.int .u64 0)), none⟩, ⟨some 34, .mov (.t 33), none⟩, ⟨some 35, .mov (.t 11), some (34, true)⟩, ⟨some 36, .mov (.t 2), some (34, true)⟩, ⟨some 37, .beq true [] (.t 35) (.t 36), some (34, true)⟩, ⟨some 38, .pick (.t 34) (.t 37) (.c (.bool false)), none⟩])
 (.cond (.t 38) (.seq (.reg false [] [9, 11] [⟨some 39, .mov (.t 9), none⟩, ⟨some 40, .bin .add (.t 39) (.c (.int .u64 1)), none⟩, ⟨some 9, .mov (.t 40), none⟩])
 (.seq (.reg false [] [9, 11, 42] [⟨some 41, .mov (.t 9), none⟩, ⟨some 42, .bin .eql (.t 41) (.c (.int .u64 0)), none⟩])
 (.cond (.t 42) (.seq (.reg false [] [6, 7] [⟨some 6, .mov (.c (.int .i64 0)), none⟩, ⟨some 7, .mov (.c (.int .i64 5)), none⟩])
 .ret)
 .skip)))
 .skip))
 (.seq (.reg false [] [6, 7] [⟨some 43, .mov (.t 9), none⟩, ⟨some 44, .mov (.t 11), none⟩, ⟨some 45, .mov (.t 44), none⟩, ⟨some 46, .mov (.t 9), some (45, true)⟩, ⟨some 47, .bin .gtr (.t 46) (.c (.int .u64 0)), some (45, true)⟩, ⟨some 48, .pick (.t 45) (.t 47) (.c (.bool false)), none⟩, ⟨some 49, .call 110 [(.t 43), (.t 48)] [], none⟩, ⟨some 50, .ext 0 (.t 49), none⟩, ⟨some 51, .ext 1 (.t 49), none⟩, ⟨some 6, .mov (.t 50), none⟩, ⟨some 7, .mov (.t 51), none⟩])
 .ret))))))) }

/-- sewershed/wide.placed -/
def N105_wide_placed : NFun := { np := 1, nt := 56, res := [(2, some (2, true)), (3, none)], body :=
 (.seq (.reg false [] [1, 2] [⟨some 1, .boxF (.t 0), none⟩, ⟨some 2, .alc [.int .i64 0, .int .i64 0], none⟩, ⟨some 3, .mov (.c (.int .i64 0)), none⟩])
 (.seq (.seq (.reg false [] [1, 2, 23] [⟨some 6, .fad 0 (.t 1), none⟩, ⟨some 7, .ld 1 false (.t 6), none⟩, ⟨some 8, .bin .gtr (.t 7) (.c (.int .u64 72057594037927936)), none⟩, ⟨some 9, .mov (.t 8), none⟩, ⟨some 10, .fad 0 (.t 1), some (9, false)⟩, ⟨some 11, .ld 1 false (.t 10), some (9, false)⟩, ⟨some 12, .bin .eql (.t 11) (.c (.int .u64 72057594037927936)), some (9, false)⟩, ⟨some 13, .mov (.t 12), some (9, false)⟩, ⟨some 14, .fad 1 (.t 1), some (13, true)⟩, ⟨some 15, .ld 1 false (.t 14), some (13, true)⟩, ⟨some 16, .bin .gtr (.t 15) (.c (.int .u64 0)), some (13, true)⟩, ⟨some 17, .mov (.t 16), some (13, true)⟩, ⟨some 18, .fad 2 (.t 1), some (17, false)⟩, ⟨some 19, .ld 1 false (.t 18), some (17, false)⟩, ⟨some 20, .un .not (.t 19), some (17, false)⟩, ⟨some 21, .pick (.t 17) (.c (.bool true)) (.t 20), some (13, true)⟩, ⟨some 22, .pick (.t 13) (.t 21) (.c (.bool false)), some (9, false)⟩, ⟨some 23, .pick (.t 9) (.c (.bool true)) (.t 22), none⟩])
 (.cond (.t 23) (.seq (.reg false [] [2, 3] [⟨some 24, .bld [.int .i64 0, .int .i64 0] [], none⟩, ⟨none, .st 2 [] (.t 2) (.t 24), none⟩, ⟨some 3, .mov (.c (.int .i64 5)), none⟩])
 .ret)
 .skip))
 (.seq (.reg true [0, 1, 3, 0, 8, 24, 63, 127, 0, 256, 768, 1792, 255, 8191] [1, 2, 4, 5] [⟨some 25, .fad 0 (.t 1), none⟩, ⟨some 26, .ld 1 false (.t 25), none⟩, ⟨some 27, .bin .shl (.t 26) (.c (.int .u64 4)), none⟩, ⟨some 28, .fad 1 (.t 1), none⟩, ⟨some 29, .ld 1 false (.t 28), none⟩, ⟨some 30, .bin .shr (.t 29) (.c (.int .u64 60)), none⟩, ⟨some 31, .bin .or (.t 27) (.t 30), none⟩, ⟨some 32, .conv .i64 (.t 31), none⟩, ⟨some 33, .fad 1 (.t 1), none⟩, ⟨some 34, .ld 1 false (.t 33), none⟩, ⟨some 35, .bin .and (.t 34) (.c (.int .u64 1152921504606846975)), none⟩, ⟨some 36, .conv .i64 (.t 35), none⟩, ⟨some 4, .mov (.t 32), none⟩, ⟨some 5, .mov (.t 36), none⟩])
 (.seq (.block 0 (.seq (.reg false [] [2, 4, 5, 37] [⟨some 38, .fad 2 (.t 1), none⟩, ⟨some 39, .ld 1 false (.t 38), none⟩, ⟨some 40, .un .not (.t 39), none⟩, ⟨some 37, .mov (.t 40), none⟩])
 (.cond (.t 37) (.seq (.reg false [] [2, 3] [⟨some 41, .mov (.t 4), none⟩, ⟨some 42, .mov (.t 5), none⟩, ⟨some 43, .bld [.int .i64 0, .int .i64 0] [(0, 1, (.t 41)), (1, 1, (.t 42))], none⟩, ⟨none, .st 2 [] (.t 2) (.t 43), none⟩, ⟨some 3, .mov (.c (.int .i64 0)), none⟩])
 .ret)
 (.seq (.reg false [] [2, 4, 5, 44] [⟨some 45, .mov (.t 5), none⟩, ⟨some 46, .bin .eql (.t 45) (.c (.int .i64 0)), none⟩, ⟨some 44, .mov (.t 46), none⟩])
 (.cond (.t 44) (.seq (.reg false [] [2, 3] [⟨some 47, .mov (.t 4), none⟩, ⟨some 48, .un .neg (.t 47), none⟩, ⟨some 49, .bld [.int .i64 0, .int .i64 0] [(0, 1, (.t 48))], none⟩, ⟨none, .st 2 [] (.t 2) (.t 49), none⟩, ⟨some 3, .mov (.c (.int .i64 0)), none⟩])
 .ret)
 .skip)))))
 (.seq (.reg false [] [2, 3] [⟨some 50, .mov (.t 4), none⟩, ⟨some 51, .un .neg (.t 50), none⟩, ⟨some 52, .bin .sub (.t 51) (.c (.int .i64 1)), none⟩, ⟨some 53, .mov (.t 5), none⟩, ⟨some 54, .bin .sub (.c (.int .i64 1152921504606846976)) (.t 53), none⟩, ⟨some 55, .bld [.int .i64 0, .int .i64 0] [(0, 1, (.t 52)), (1, 1, (.t 54))], none⟩, ⟨none, .st 2 [] (.t 2) (.t 55), none⟩, ⟨some 3, .mov (.c (.int .i64 0)), none⟩])
 .ret))))) }

/-- sewershed/wide.Valid -/
def N106_wide_Valid : NFun := { np := 1, nt := 21, res := [(2, none)], body :=
 (.seq (.reg false [] [1] [⟨some 1, .boxF (.t 0), none⟩, ⟨some 2, .mov (.c (.bool false)), none⟩])
 (.seq (.reg false [] [2] [⟨some 3, .fad 0 (.t 1), none⟩, ⟨some 4, .ld 1 false (.t 3), none⟩, ⟨some 5, .bin .geq (.t 4) (.c (.int .i64 (-1152921504606846976))), none⟩, ⟨some 6, .mov (.t 5), none⟩, ⟨some 7, .fad 0 (.t 1), some (6, true)⟩, ⟨some 8, .ld 1 false (.t 7), some (6, true)⟩, ⟨some 9, .bin .lss (.t 8) (.c (.int .i64 1152921504606846976)), some (6, true)⟩, ⟨some 10, .pick (.t 6) (.t 9) (.c (.bool false)), none⟩, ⟨some 11, .mov (.t 10), none⟩, ⟨some 12, .fad 1 (.t 1), some (11, true)⟩, ⟨some 13, .ld 1 false (.t 12), some (11, true)⟩, ⟨some 14, .bin .geq (.t 13) (.c (.int .i64 0)), some (11, true)⟩, ⟨some 15, .pick (.t 11) (.t 14) (.c (.bool false)), none⟩, ⟨some 16, .mov (.t 15), none⟩, ⟨some 17, .fad 1 (.t 1), some (16, true)⟩, ⟨some 18, .ld 1 false (.t 17), some (16, true)⟩, ⟨some 19, .bin .lss (.t 18) (.c (.int .i64 1152921504606846976)), some (16, true)⟩, ⟨some 20, .pick (.t 16) (.t 19) (.c (.bool false)), none⟩, ⟨some 2, .mov (.t 20), none⟩])
 .ret)) }

/-- sewershed/wide.sum -/
def N107_wide_sum : NFun := { np := 2, nt := 73, res := [(4, some (3, true))], body :=
 (.seq (.reg false [] [2, 3, 4] [⟨some 2, .box [] (.t 0), none⟩, ⟨some 3, .box [] (.t 1), none⟩, ⟨some 4, .alc [.int .u64 0, .int .u64 0, .bool false], none⟩])
 (.seq (.seq (.reg false [] [2, 3, 4, 13] [⟨some 9, .fad 2 (.t 2), none⟩, ⟨some 10, .ld 1 false (.t 9), none⟩, ⟨some 11, .fad 2 (.t 3), none⟩, ⟨some 12, .ld 1 false (.t 11), none⟩, ⟨some 13, .beq false [] (.t 10) (.t 12), none⟩])
 (.cond (.t 13) (.seq (.reg false [] [2, 3, 4, 5, 6] [⟨some 15, .fad 1 (.t 2), none⟩, ⟨some 16, .ld 1 false (.t 15), none⟩, ⟨some 17, .fad 1 (.t 3), none⟩, ⟨some 18, .ld 1 false (.t 17), none⟩, ⟨some 19, .add64 (.t 16) (.t 18) (.c (.int .u64 0)), none⟩, ⟨some 14, .mov (.t 19), none⟩, ⟨some 20, .ext 0 (.t 14), none⟩, ⟨some 21, .ext 1 (.t 14), none⟩, ⟨some 5, .mov (.t 20), none⟩, ⟨some 6, .mov (.t 21), none⟩])
 (.seq (.reg false [] [4] [⟨some 22, .fad 0 (.t 2), none⟩, ⟨some 23, .ld 1 false (.t 22), none⟩, ⟨some 24, .fad 0 (.t 3), none⟩, ⟨some 25, .ld 1 false (.t 24), none⟩, ⟨some 26, .bin .add (.t 23) (.t 25), none⟩, ⟨some 27, .mov (.t 6), none⟩, ⟨some 28, .bin .add (.t 26) (.t 27), none⟩, ⟨some 29, .mov (.t 5), none⟩, ⟨some 30, .fad 2 (.t 2), none⟩, ⟨some 31, .ld 1 false (.t 30), none⟩, ⟨some 32, .call 113 [(.t 28), (.t 29), (.t 31)] [], none⟩, ⟨none, .st 3 [] (.t 4) (.t 32), none⟩])
 .ret))
 .skip))
 (.seq (.seq (.reg false [] [2, 3, 4, 51] [⟨some 33, .fad 0 (.t 2), none⟩, ⟨some 34, .ld 1 false (.t 33), none⟩, ⟨some 35, .fad 0 (.t 3), none⟩, ⟨some 36, .ld 1 false (.t 35), none⟩, ⟨some 37, .bin .lss (.t 34) (.t 36), none⟩, ⟨some 38, .mov (.t 37), none⟩, ⟨some 39, .fad 0 (.t 2), some (38, false)⟩, ⟨some 40, .ld 1 false (.t 39), some (38, false)⟩, ⟨some 41, .fad 0 (.t 3), some (38, false)⟩, ⟨some 42, .ld 1 false (.t 41), some (38, false)⟩, ⟨some 43, .bin .eql (.t 40) (.t 42), some (38, false)⟩, ⟨some 44, .mov (.t 43), some (38, false)⟩, ⟨some 45, .fad 1 (.t 2), some (44, true)⟩, ⟨some 46, .ld 1 false (.t 45), some (44, true)⟩, ⟨some 47, .fad 1 (.t 3), some (44, true)⟩, ⟨some 48, .ld 1 false (.t 47), some (44, true)⟩, ⟨some 49, .bin .lss (.t 46) (.t 48), some (44, true)⟩, ⟨some 50, .pick (.t 44) (.t 49) (.c (.bool false)), some (38, false)⟩, ⟨some 51, .pick (.t 38) (.c (.bool true)) (.t 50), none⟩])
 (.cond (.t 51) (.reg false [] [2, 3, 4] [⟨some 52, .ld 3 true (.t 3), none⟩, ⟨some 53, .ld 3 true (.t 2), none⟩, ⟨none, .st 3 [] (.t 2) (.t 52), none⟩, ⟨none, .st 3 [] (.t 3) (.t 53), none⟩])
 .skip))
 (.seq (.reg false [] [2, 3, 4, 7, 8] [⟨some 55, .fad 1 (.t 2), none⟩, ⟨some 56, .ld 1 false (.t 55), none⟩, ⟨some 57, .fad 1 (.t 3), none⟩, ⟨some 58, .ld 1 false (.t 57), none⟩, ⟨some 59, .sub64 (.t 56) (.t 58) (.c (.int .u64 0)), none⟩, ⟨some 54, .mov (.t 59), none⟩, ⟨some 60, .ext 0 (.t 54), none⟩, ⟨some 61, .ext 1 (.t 54), none⟩, ⟨some 7, .mov (.t 60), none⟩, ⟨some 8, .mov (.t 61), none⟩])
 (.seq (.reg false [] [4] [⟨some 62, .fad 0 (.t 2), none⟩, ⟨some 63, .ld 1 false (.t 62), none⟩, ⟨some 64, .fad 0 (.t 3), none⟩, ⟨some 65, .ld 1 false (.t 64), none⟩, ⟨some 66, .bin .sub (.t 63) (.t 65), none⟩, ⟨some 67, .mov (.t 8), none⟩, ⟨some 68, .bin .sub (.t 66) (.t 67), none⟩, ⟨some 69, .mov (.t 7), none⟩, ⟨some 70, .fad 2 (.t 2), none⟩, ⟨some 71, .ld 1 false (.t 70), none⟩, ⟨some 72, .call 113 [(.t 68), (.t 69), (.t 71)] [], none⟩, ⟨none, .st 3 [] (.t 4) (.t 72), none⟩])
 .ret))))) }

/-- sewershed/wide.value -/
def N108_wide_value : NFun := { np := 1, nt := 37, res := [(2, some (3, true))], body :=
 (.seq (.reg false [] [1, 2] [⟨some 1, .boxF (.t 0), none⟩, ⟨some 2, .alc [.int .u64 0, .int .u64 0, .bool false], none⟩])
 (.seq (.reg false [] [1, 2, 3] [⟨some 7, .fad 0 (.t 1), none⟩, ⟨some 8, .ld 1 false (.t 7), none⟩, ⟨some 9, .call 112 [(.t 8)] [], none⟩, ⟨some 3, .mov (.t 9), none⟩])
 (.seq (.reg false [] [1, 2, 4, 5] [⟨some 10, .mov (.t 3), none⟩, ⟨some 11, .bin .shr (.t 10) (.c (.int .u64 4)), none⟩, ⟨some 12, .mov (.t 3), none⟩, ⟨some 13, .bin .shl (.t 12) (.c (.int .u64 60)), none⟩, ⟨some 4, .mov (.t 11), none⟩, ⟨some 5, .mov (.t 13), none⟩])
 (.seq (.seq (.reg false [] [1, 2, 4, 5, 16] [⟨some 14, .fad 0 (.t 1), none⟩, ⟨some 15, .ld 1 false (.t 14), none⟩, ⟨some 16, .bin .geq (.t 15) (.c (.int .i64 0)), none⟩])
 (.cond (.t 16) (.seq (.reg false [] [2] [⟨some 17, .mov (.t 4), none⟩, ⟨some 18, .mov (.t 5), none⟩, ⟨some 19, .fad 1 (.t 1), none⟩, ⟨some 20, .ld 1 false (.t 19), none⟩, ⟨some 21, .conv .u64 (.t 20), none⟩, ⟨some 22, .bin .or (.t 18) (.t 21), none⟩, ⟨some 23, .bld [.int .u64 0, .int .u64 0, .bool false] [(0, 1, (.t 17)), (1, 1, (.t 22)), (2, 1, (.c (.bool false)))], none⟩, ⟨none, .st 3 [] (.t 2) (.t 23), none⟩])
 .ret)
 .skip))
 (.seq (.reg false [] [2, 4, 5, 6] [⟨some 25, .mov (.t 5), none⟩, ⟨some 26, .fad 1 (.t 1), none⟩, ⟨some 27, .ld 1 false (.t 26), none⟩, ⟨some 28, .conv .u64 (.t 27), none⟩, ⟨some 29, .sub64 (.t 25) (.t 28) (.c (.int .u64 0)), none⟩, ⟨some 24, .mov (.t 29), none⟩, ⟨some 30, .ext 0 (.t 24), none⟩, ⟨some 31, .ext 1 (.t 24), none⟩, ⟨some 5, .mov (.t 30), none⟩, ⟨some 6, .mov (.t 31), none⟩])
 (.seq (.reg false [] [2] [⟨some 32, .mov (.t 4), none⟩, ⟨some 33, .mov (.t 6), none⟩, ⟨some 34, .bin .sub (.t 32) (.t 33), none⟩, ⟨some 35, .mov (.t 5), none⟩, ⟨some 36, .bld [.int .u64 0, .int .u64 0, .bool false] [(0, 1, (.t 34)), (1, 1, (.t 35)), (2, 1, (.c (.bool true)))], none⟩, ⟨none, .st 3 [] (.t 2) (.t 36), none⟩])
 .ret)))))) }

/-- sewershed/wide.minus -/
def N109_wide_minus : NFun := { np := 1, nt := 11, res := [(2, some (3, true))], body :=
 (.seq (.reg false [] [1, 2] [⟨some 1, .boxF (.t 0), none⟩, ⟨some 2, .alc [.int .u64 0, .int .u64 0, .bool false], none⟩])
 (.seq (.reg false [] [2] [⟨some 3, .fad 0 (.t 1), none⟩, ⟨some 4, .ld 1 false (.t 3), none⟩, ⟨some 5, .fad 1 (.t 1), none⟩, ⟨some 6, .ld 1 false (.t 5), none⟩, ⟨some 7, .fad 2 (.t 1), none⟩, ⟨some 8, .ld 1 false (.t 7), none⟩, ⟨some 9, .un .not (.t 8), none⟩, ⟨some 10, .call 113 [(.t 4), (.t 6), (.t 9)] [], none⟩, ⟨none, .st 3 [] (.t 2) (.t 10), none⟩])
 .ret)) }

/-- sewershed/wide.whole -/
def N110_wide_whole : NFun := { np := 2, nt := 24, res := [(4, none), (5, none)], body :=
 (.seq (.reg false [] [0, 1] [⟨some 4, .mov (.c (.int .i64 0)), none⟩, ⟨some 5, .mov (.c (.int .i64 0)), none⟩])
 (.seq (.block 0 (.seq (.reg false [] [0, 1, 6] [⟨some 7, .mov (.t 1), none⟩, ⟨some 8, .un .not (.t 7), none⟩, ⟨some 9, .mov (.t 8), none⟩, ⟨some 10, .mov (.t 0), some (9, true)⟩, ⟨some 11, .bin .leq (.t 10) (.c (.int .u64 9223372036854775807)), some (9, true)⟩, ⟨some 12, .pick (.t 9) (.t 11) (.c (.bool false)), none⟩, ⟨some 6, .mov (.t 12), none⟩])
 (.cond (.t 6) (.seq (.reg false [] [4, 5] [⟨some 13, .mov (.t 0), none⟩, ⟨some 14, .conv .i64 (.t 13), none⟩, ⟨some 4, .mov (.t 14), none⟩, ⟨some 5, .mov (.c (.int .i64 0)), none⟩])
 .ret)
 (.seq (.reg false [] [0, 15] [⟨some 16, .mov (.t 1), none⟩, ⟨some 17, .mov (.t 16), none⟩, ⟨some 18, .mov (.t 0), some (17, true)⟩, ⟨some 19, .bin .leq (.t 18) (.c (.int .u64 9223372036854775808)), some (17, true)⟩, ⟨some 20, .pick (.t 17) (.t 19) (.c (.bool false)), none⟩, ⟨some 15, .mov (.t 20), none⟩])
 (.cond (.t 15) (.seq (.reg false [] [4, 5] [⟨some 21, .mov (.t 0), none⟩, ⟨some 22, .un .neg (.t 21), none⟩, ⟨some 23, .conv .i64 (.t 22), none⟩, ⟨some 4, .mov (.t 23), none⟩, ⟨some 5, .mov (.c (.int .i64 0)), none⟩])
 .ret)
 .skip)))))
 (.seq (.reg false [] [4, 5] [⟨some 4, .mov (.c (.int .i64 0)), none⟩, ⟨some 5, .mov (.c (.int .i64 5)), none⟩])
 .ret))) }

def S1 : List UInt8 := [0, 1, 2, 2, 3, 3, 3, 3, 4, 4, 4, 4, 4, 4, 4, 4, 5, 5, 5, 5, 5, 5, 5, 5, 5, 5, 5, 5, 5, 5, 5, 5, 6, 6, 6, 6, 6, 6, 6, 6, 6, 6, 6, 6, 6, 6, 6, 6, 6, 6, 6, 6, 6, 6, 6, 6, 6, 6, 6, 6, 6, 6, 6, 6, 7, 7, 7, 7, 7, 7, 7, 7, 7, 7, 7, 7, 7, 7, 7, 7, 7, 7, 7, 7, 7, 7, 7, 7, 7, 7, 7, 7, 7, 7, 7, 7, 7, 7, 7, 7, 7, 7, 7, 7, 7, 7, 7, 7, 7, 7, 7, 7, 7, 7, 7, 7, 7, 7, 7, 7, 7, 7, 7, 7, 7, 7, 7, 7, 8, 8, 8, 8, 8, 8, 8, 8, 8, 8, 8, 8, 8, 8, 8, 8, 8, 8, 8, 8, 8, 8, 8, 8, 8, 8, 8, 8, 8, 8, 8, 8, 8, 8, 8, 8, 8, 8, 8, 8, 8, 8, 8, 8, 8, 8, 8, 8, 8, 8, 8, 8, 8, 8, 8, 8, 8, 8, 8, 8, 8, 8, 8, 8, 8, 8, 8, 8, 8, 8, 8, 8, 8, 8, 8, 8, 8, 8, 8, 8, 8, 8, 8, 8, 8, 8, 8, 8, 8, 8, 8, 8, 8, 8, 8, 8, 8, 8, 8, 8, 8, 8, 8, 8, 8, 8, 8, 8, 8, 8, 8, 8, 8, 8, 8, 8, 8, 8, 8, 8, 8, 8, 8, 8, 8, 8, 8, 8]

/-- math/bits.Len64 -/
def N111_math_bits_Len64 : NFun := { np := 1, nt := 25, res := [(2, none)], body :=
 (.seq (.reg false [] [0, 2] [⟨some 2, .mov (.c (.int .i64 0)), none⟩])
 (.seq (.seq (.reg false [] [0, 2, 4] [⟨some 3, .mov (.t 0), none⟩, ⟨some 4, .bin .geq (.t 3) (.c (.int .u64 4294967296)), none⟩])
 (.cond (.t 4) (.seq (.reg false [] [0] [⟨some 5, .mov (.t 0), none⟩, ⟨some 6, .bin .shr (.t 5) (.c (.int .u64 32)), none⟩, ⟨some 0, .mov (.t 6), none⟩])
 (.reg false [] [0, 2] [⟨some 2, .mov (.c (.int .i64 32)), none⟩]))
 .skip))
 (.seq (.seq (.reg false [] [0, 2, 8] [⟨some 7, .mov (.t 0), none⟩, ⟨some 8, .bin .geq (.t 7) (.c (.int .u64 65536)), none⟩])
 (.cond (.t 8) (.seq (.reg false [] [0, 2] [⟨some 9, .mov (.t 0), none⟩, ⟨some 10, .bin .shr (.t 9) (.c (.int .u64 16)), none⟩, ⟨some 0, .mov (.t 10), none⟩])
 (.reg false [] [0, 2] [⟨some 11, .mov (.t 2), none⟩, ⟨some 12, .bin .add (.t 11) (.c (.int .i64 16)), none⟩, ⟨some 2, .mov (.t 12), none⟩]))
 .skip))
 (.seq (.seq (.reg false [] [0, 2, 14] [⟨some 13, .mov (.t 0), none⟩, ⟨some 14, .bin .geq (.t 13) (.c (.int .u64 256)), none⟩])
 (.cond (.t 14) (.seq (.reg false [] [0, 2] [⟨some 15, .mov (.t 0), none⟩, ⟨some 16, .bin .shr (.t 15) (.c (.int .u64 8)), none⟩, ⟨some 0, .mov (.t 16), none⟩])
 (.reg false [] [0, 2] [⟨some 17, .mov (.t 2), none⟩, ⟨some 18, .bin .add (.t 17) (.c (.int .i64 8)), none⟩, ⟨some 2, .mov (.t 18), none⟩]))
 .skip))
 (.seq (.reg false [] [2] [⟨some 19, .mov (.t 2), none⟩, ⟨some 20, .mov (.t 0), none⟩, ⟨some 21, .conv .u8 (.t 20), none⟩, ⟨some 22, .idxS (.c (.str S1)) (.t 21), none⟩, ⟨some 23, .conv .i64 (.t 22), none⟩, ⟨some 24, .bin .add (.t 19) (.t 23), none⟩, ⟨some 2, .mov (.t 24), none⟩])
 .ret))))) }

/-- sewershed/wide.size -/
def N112_wide_size : NFun := { np := 1, nt := 10, res := [(2, none)], body :=
 (.seq (.reg false [] [0] [⟨some 2, .mov (.c (.int .u64 0)), none⟩])
 (.seq (.seq (.reg false [] [0, 4] [⟨some 3, .mov (.t 0), none⟩, ⟨some 4, .bin .lss (.t 3) (.c (.int .i64 0)), none⟩])
 (.cond (.t 4) (.seq (.reg false [] [2] [⟨some 5, .mov (.t 0), none⟩, ⟨some 6, .conv .u64 (.t 5), none⟩, ⟨some 7, .un .neg (.t 6), none⟩, ⟨some 2, .mov (.t 7), none⟩])
 .ret)
 .skip))
 (.seq (.reg false [] [2] [⟨some 8, .mov (.t 0), none⟩, ⟨some 9, .conv .u64 (.t 8), none⟩, ⟨some 2, .mov (.t 9), none⟩])
 .ret))) }

/-- sewershed/wide.signed -/
def N113_wide_signed : NFun := { np := 3, nt := 19, res := [(6, some (3, true))], body :=
 (.seq (.reg false [] [0, 1, 2, 6] [⟨some 6, .alc [.int .u64 0, .int .u64 0, .bool false], none⟩])
 (.seq (.reg false [] [6] [⟨some 7, .mov (.t 0), none⟩, ⟨some 8, .mov (.t 1), none⟩, ⟨some 9, .mov (.t 2), none⟩, ⟨some 10, .mov (.t 9), none⟩, ⟨some 11, .mov (.t 0), some (10, true)⟩, ⟨some 12, .bin .neq (.t 11) (.c (.int .u64 0)), some (10, true)⟩, ⟨some 13, .mov (.t 12), some (10, true)⟩, ⟨some 14, .mov (.t 1), some (13, false)⟩, ⟨some 15, .bin .neq (.t 14) (.c (.int .u64 0)), some (13, false)⟩, ⟨some 16, .pick (.t 13) (.c (.bool true)) (.t 15), some (10, true)⟩, ⟨some 17, .pick (.t 10) (.t 16) (.c (.bool false)), none⟩, ⟨some 18, .bld [.int .u64 0, .int .u64 0, .bool false] [(0, 1, (.t 7)), (1, 1, (.t 8)), (2, 1, (.t 17))], none⟩, ⟨none, .st 3 [] (.t 6) (.t 18), none⟩])
 .ret)) }

/-- sewershed/sizing.Allowed -/
def N118_sizing_Allowed : NFun := { np := 2, nt := 52, res := [(4, none), (5, none), (6, none)], body :=
 (.seq (.reg false [] [2, 3] [⟨some 2, .boxF (.t 0), none⟩, ⟨some 3, .boxF (.t 1), none⟩, ⟨some 4, .mov (.c (.bool false)), none⟩, ⟨some 5, .mov (.c (.int .i64 0)), none⟩, ⟨some 6, .mov (.c (.int .i64 0)), none⟩])
 (.seq (.seq (.reg false [] [2, 3, 7] [⟨some 12, .ld 6 true (.t 2), none⟩, ⟨some 13, .ld 1 false (.t 3), none⟩, ⟨some 14, .call 120 [(.t 12), (.t 13)] [], none⟩, ⟨some 7, .mov (.t 14), none⟩])
 (.seq (.reg false [] [2, 3, 7, 16] [⟨some 15, .mov (.t 7), none⟩, ⟨some 16, .bin .neq (.t 15) (.c (.int .i64 0)), none⟩])
 (.cond (.t 16) (.seq (.reg false [] [4, 5, 6] [⟨some 17, .mov (.t 7), none⟩, ⟨some 4, .mov (.c (.bool false)), none⟩, ⟨some 5, .mov (.c (.int .i64 0)), none⟩, ⟨some 6, .mov (.t 17), none⟩])
 .ret)
 .skip)))
 (.seq (.reg false [] [2, 3, 8] [⟨some 18, .ld 6 true (.t 2), none⟩, ⟨some 19, .call 30 [(.t 18)] [], none⟩, ⟨some 8, .mov (.t 19), none⟩])
 (.seq (.seq (.reg false [] [2, 3, 8, 20, 21, 22] [⟨some 20, .ld 1 false (.t 3), none⟩, ⟨some 21, .len (.t 20), none⟩, ⟨some 22, .mov (.c (.int .i64 0)), none⟩])
 (.block 0 (.loop (.seq (.reg false [] [2, 3, 8, 20, 21, 22, 23] [⟨some 23, .bin .lss (.t 22) (.t 21), none⟩])
 (.seq (.cond (.t 23) .skip
 (.exit 0))
 (.seq (.block 1 (.seq (.reg false [] [2, 3, 8, 9, 10, 20, 21, 22] [⟨some 24, .mov (.t 22), none⟩, ⟨some 25, .iadS 1 (.t 20) (.t 22), none⟩, ⟨some 26, .ld 1 false (.t 25), none⟩, ⟨some 10, .alc [.int .i64 0], none⟩, ⟨some 9, .mov (.t 24), none⟩, ⟨none, .st 1 [] (.t 10) (.t 26), none⟩])
 (.seq (.reg false [] [2, 3, 8, 9, 10, 11, 20, 21, 22] [⟨some 27, .mov (.t 8), none⟩, ⟨some 28, .nck (.t 27), none⟩, ⟨some 29, .fad 7 (.t 28), none⟩, ⟨some 30, .ld 1 false (.t 29), none⟩, ⟨some 31, .mov (.t 9), none⟩, ⟨some 32, .iadS 1 (.t 30) (.t 31), none⟩, ⟨some 33, .ld 1 false (.t 32), none⟩, ⟨some 34, .mk 121 [(.t 2), (.t 3), (.t 10)], none⟩, ⟨some 35, .call 11 [(.t 33), (.t 34)] [], none⟩, ⟨some 11, .mov (.t 35), none⟩])
 (.seq (.reg true [0, 1, 3, 7, 0, 31, 63, 0, 255, 511, 1023, 2047, 4095, 8191] [2, 3, 8, 9, 20, 21, 22, 49] [⟨some 36, .mov (.t 8), none⟩, ⟨some 37, .nck (.t 36), none⟩, ⟨some 38, .fad 6 (.t 37), none⟩, ⟨some 39, .ld 1 false (.t 38), none⟩, ⟨some 40, .mov (.t 9), none⟩, ⟨some 41, .iadS 1 (.t 39) (.t 40), none⟩, ⟨some 42, .ld 1 false (.t 41), none⟩, ⟨some 43, .ld 1 false (.t 10), none⟩, ⟨some 44, .iadS 1 (.t 42) (.t 43), none⟩, ⟨some 45, .ld 1 false (.t 44), none⟩, ⟨some 46, .un .not (.t 45), none⟩, ⟨some 47, .mov (.t 46), none⟩, ⟨some 48, .mov (.t 11), some (47, false)⟩, ⟨some 49, .pick (.t 47) (.c (.bool true)) (.t 48), none⟩])
 (.cond (.t 49) (.seq (.reg false [] [4, 5, 6] [⟨some 50, .mov (.t 9), none⟩, ⟨some 4, .mov (.c (.bool false)), none⟩, ⟨some 5, .mov (.t 50), none⟩, ⟨some 6, .mov (.c (.int .i64 0)), none⟩])
 .ret)
 .skip)))))
 (.reg false [] [2, 3, 8, 20, 21, 22] [⟨some 51, .bin .add (.t 22) (.c (.int .i64 1)), none⟩, ⟨some 22, .mov (.t 51), none⟩])))))))
 (.seq (.reg false [] [4, 5, 6] [⟨some 4, .mov (.c (.bool true)), none⟩, ⟨some 5, .mov (.c (.int .i64 (-1))), none⟩, ⟨some 6, .mov (.c (.int .i64 0)), none⟩])
 .ret))))) }

/-- sewershed/sizing.choice -/
def N120_sizing_choice : NFun := { np := 2, nt := 20, res := [(4, none)], body :=
 (.seq (.reg false [] [1, 2] [⟨some 2, .boxF (.t 0), none⟩, ⟨some 4, .mov (.c (.int .i64 0)), none⟩])
 (.seq (.block 0 (.seq (.reg false [] [1, 2, 5] [⟨some 6, .ld 6 true (.t 2), none⟩, ⟨some 7, .call 24 [(.t 6)] [], none⟩, ⟨some 8, .un .not (.t 7), none⟩, ⟨some 5, .mov (.t 8), none⟩])
 (.cond (.t 5) (.seq (.reg false [] [4] [⟨some 4, .mov (.c (.int .i64 1)), none⟩])
 .ret)
 (.seq (.reg false [] [1, 2, 9] [⟨some 10, .mov (.t 1), none⟩, ⟨some 11, .len (.t 10), none⟩, ⟨some 12, .fad 0 (.t 2), none⟩, ⟨some 13, .ld 1 false (.t 12), none⟩, ⟨some 14, .len (.t 13), none⟩, ⟨some 15, .bin .neq (.t 11) (.t 14), none⟩, ⟨some 9, .mov (.t 15), none⟩])
 (.cond (.t 9) (.seq (.reg false [] [4] [⟨some 4, .mov (.c (.int .i64 3)), none⟩])
 .ret)
 (.seq (.reg false [] [16] [⟨some 17, .asg (.t 1), none⟩, ⟨some 18, .mk 122 [(.t 2)], none⟩, ⟨some 19, .call 11 [(.t 17), (.t 18)] [], none⟩, ⟨some 16, .mov (.t 19), none⟩])
 (.cond (.t 16) (.seq (.reg false [] [4] [⟨some 4, .mov (.c (.int .i64 2)), none⟩])
 .ret)
 .skip)))))))
 (.seq (.reg false [] [4] [⟨some 4, .mov (.c (.int .i64 0)), none⟩])
 .ret))) }

/-- sewershed/sizing.Allowed$1 -/
def N121_sizing_Allowed_1 : NFun := { np := 4, nt := 22, res := [(5, none)], body :=
 (.seq (.reg false [] [0, 1, 2, 3] [⟨some 5, .mov (.c (.bool false)), none⟩])
 (.seq (.reg true [0, 1, 0, 0, 12, 28, 63, 127, 255, 0, 512, 0, 3584, 7680, 15872, 32767, 65535] [5] [⟨some 6, .fad 5 (.t 1), none⟩, ⟨some 7, .ld 1 false (.t 6), none⟩, ⟨some 8, .ld 1 false (.t 2), none⟩, ⟨some 9, .mov (.t 0), none⟩, ⟨some 10, .iadS 1 (.t 8) (.t 9), none⟩, ⟨some 11, .ld 1 false (.t 10), none⟩, ⟨some 12, .iadS 5 (.t 7) (.t 11), none⟩, ⟨some 13, .fad 1 (.t 12), none⟩, ⟨some 14, .ld 1 false (.t 13), none⟩, ⟨some 15, .fad 5 (.t 1), none⟩, ⟨some 16, .ld 1 false (.t 15), none⟩, ⟨some 17, .ld 1 false (.t 3), none⟩, ⟨some 18, .iadS 5 (.t 16) (.t 17), none⟩, ⟨some 19, .fad 1 (.t 18), none⟩, ⟨some 20, .ld 1 false (.t 19), none⟩, ⟨some 21, .bin .gtr (.t 14) (.t 20), none⟩, ⟨some 5, .mov (.t 21), none⟩])
 .ret)) }

/-- sewershed/sizing.choice$1 -/
def N122_sizing_choice_1 : NFun := { np := 2, nt := 13, res := [(3, none)], body :=
 (.seq (.reg false [] [0, 1] [⟨some 3, .mov (.c (.bool false)), none⟩])
 (.seq (.reg false [] [3] [⟨some 4, .mov (.t 0), none⟩, ⟨some 5, .bin .lss (.t 4) (.c (.int .i64 0)), none⟩, ⟨some 6, .mov (.t 5), none⟩, ⟨some 7, .mov (.t 0), some (6, false)⟩, ⟨some 8, .fad 5 (.t 1), some (6, false)⟩, ⟨some 9, .ld 1 false (.t 8), some (6, false)⟩, ⟨some 10, .len (.t 9), some (6, false)⟩, ⟨some 11, .bin .geq (.t 7) (.t 10), some (6, false)⟩, ⟨some 12, .pick (.t 6) (.c (.bool true)) (.t 11), none⟩, ⟨some 3, .mov (.t 12), none⟩])
 .ret)) }

/-- sewershed/sewershedlaw47.SizingEasier -/
def N123_law47_SizingEasier : NFun := { np := 3, nt := 209, res := [(6, none)], body :=
 (.seq (.reg false [] [1, 2, 3] [⟨some 3, .boxF (.t 0), none⟩, ⟨some 6, .mov (.c (.bool false)), none⟩])
 (.seq (.seq (.reg false [] [1, 2, 3, 27] [⟨some 26, .call 3 [] [], none⟩, ⟨some 27, .un .not (.t 26), none⟩])
 (.cond (.t 27) (.seq (.reg false [] [6] [⟨some 6, .mov (.c (.bool false)), none⟩])
 .ret)
 .skip))
 (.seq (.seq (.reg false [] [1, 2, 3, 45] [⟨some 28, .ld 6 true (.t 3), none⟩, ⟨some 29, .call 4 [(.t 28)] [], none⟩, ⟨some 30, .mov (.t 29), none⟩, ⟨some 31, .mov (.t 1), some (30, false)⟩, ⟨some 32, .len (.t 31), some (30, false)⟩, ⟨some 33, .fad 2 (.t 3), some (30, false)⟩, ⟨some 34, .ld 1 false (.t 33), some (30, false)⟩, ⟨some 35, .len (.t 34), some (30, false)⟩, ⟨some 36, .bin .lss (.t 32) (.t 35), some (30, false)⟩, ⟨some 37, .pick (.t 30) (.c (.bool true)) (.t 36), none⟩, ⟨some 38, .mov (.t 37), none⟩, ⟨some 39, .mov (.t 2), some (38, false)⟩, ⟨some 40, .len (.t 39), some (38, false)⟩, ⟨some 41, .fad 4 (.t 3), some (38, false)⟩, ⟨some 42, .ld 1 false (.t 41), some (38, false)⟩, ⟨some 43, .len (.t 42), some (38, false)⟩, ⟨some 44, .bin .lss (.t 40) (.t 43), some (38, false)⟩, ⟨some 45, .pick (.t 38) (.c (.bool true)) (.t 44), none⟩])
 (.cond (.t 45) (.seq (.reg false [] [6] [⟨some 6, .mov (.c (.bool true)), none⟩])
 .ret)
 .skip))
 (.seq (.reg false [] [1, 2, 3, 7, 8, 9] [⟨some 47, .ld 6 true (.t 3), none⟩, ⟨some 48, .call 15 [(.t 47)] [], none⟩, ⟨some 46, .mov (.t 48), none⟩, ⟨some 49, .ext 0 (.t 46), none⟩, ⟨some 50, .ext 1 (.t 46), none⟩, ⟨some 51, .ext 2 (.t 46), none⟩, ⟨some 7, .mov (.t 49), none⟩, ⟨some 8, .asg (.t 50), none⟩, ⟨some 9, .mov (.t 51), none⟩])
 (.seq (.seq (.reg false [] [1, 2, 3, 7, 8, 53] [⟨some 52, .mov (.t 9), none⟩, ⟨some 53, .bin .neq (.t 52) (.c (.int .i64 0)), none⟩])
 (.cond (.t 53) (.seq (.reg false [] [6] [⟨some 54, .mov (.t 7), none⟩, ⟨some 55, .bin .eql (.t 54) (.c (.int .i64 0)), none⟩, ⟨some 56, .mov (.t 55), none⟩, ⟨some 57, .asg (.t 8), some (56, true)⟩, ⟨some 58, .len (.t 57), some (56, true)⟩, ⟨some 59, .bin .eql (.t 58) (.c (.int .i64 0)), some (56, true)⟩, ⟨some 60, .pick (.t 56) (.t 59) (.c (.bool false)), none⟩, ⟨some 6, .mov (.t 60), none⟩])
 .ret)
 .skip))
 (.seq (.reg false [] [1, 2, 3, 7, 8, 10] [⟨some 61, .ld 6 true (.t 3), none⟩, ⟨some 10, .alc [.own 1 [], .own 1 [], .own 1 [], .own 1 [], .own 1 [], .own 5 []], none⟩, ⟨none, .st 6 [] (.t 10) (.t 61), none⟩])
 (.seq (.reg true [0, 1, 3, 0, 8, 31, 7, 127, 255, 511] [1, 2, 3, 7, 8, 10] [⟨some 62, .fad 2 (.t 3), none⟩, ⟨some 63, .ld 1 false (.t 62), none⟩, ⟨some 64, .callF 42 [(.t 63)], none⟩, ⟨some 65, .fad 4 (.t 3), none⟩, ⟨some 66, .ld 1 false (.t 65), none⟩, ⟨some 67, .callF 42 [(.t 66)], none⟩, ⟨some 68, .fad 2 (.t 10), none⟩, ⟨none, .st 1 [] (.t 68) (.t 64), none⟩, ⟨some 69, .fad 4 (.t 10), none⟩, ⟨none, .st 1 [] (.t 69) (.t 67), none⟩])
 (.seq (.seq (.reg false [] [1, 2, 3, 7, 8, 10, 72, 73] [⟨some 70, .fad 2 (.t 10), none⟩, ⟨some 71, .ld 1 false (.t 70), none⟩, ⟨some 72, .len (.t 71), none⟩, ⟨some 73, .mov (.c (.int .i64 0)), none⟩])
 (.block 0 (.loop (.seq (.reg false [] [1, 2, 3, 7, 8, 10, 72, 73, 74] [⟨some 74, .bin .lss (.t 73) (.t 72), none⟩])
 (.seq (.cond (.t 74) .skip
 (.exit 0))
 (.seq (.block 1 (.seq (.reg false [] [1, 2, 3, 7, 8, 10, 11, 72, 73] [⟨some 75, .mov (.t 73), none⟩, ⟨some 11, .mov (.t 75), none⟩])
 (.seq (.reg true [0, 1, 0, 7, 15, 0, 32, 0, 224, 480, 0, 0, 3072, 7168, 15360, 32736, 65535, 131071, 262143] [1, 2, 3, 7, 8, 10, 11, 72, 73] [⟨some 76, .fad 2 (.t 10), none⟩, ⟨some 77, .ld 1 false (.t 76), none⟩, ⟨some 78, .mov (.t 11), none⟩, ⟨some 79, .iadS 1 (.t 77) (.t 78), none⟩, ⟨some 80, .ld 1 false (.t 79), none⟩, ⟨some 81, .fad 2 (.t 10), none⟩, ⟨some 82, .ld 1 false (.t 81), none⟩, ⟨some 83, .mov (.t 11), none⟩, ⟨some 84, .iadS 1 (.t 82) (.t 83), none⟩, ⟨some 85, .ld 1 false (.t 84), none⟩, ⟨some 86, .mov (.t 1), none⟩, ⟨some 87, .mov (.t 11), none⟩, ⟨some 88, .iadS 1 (.t 86) (.t 87), none⟩, ⟨some 89, .ld 1 false (.t 88), none⟩, ⟨some 90, .conv .i64 (.t 89), none⟩, ⟨some 91, .mn (.t 85) (.t 90), none⟩, ⟨some 92, .bin .sub (.t 80) (.t 91), none⟩, ⟨some 93, .iadS 1 (.t 77) (.t 78), none⟩, ⟨none, .st 1 [] (.t 93) (.t 92), none⟩])
 (.reg true [0, 1, 0, 0, 8, 0, 56, 120, 0, 0, 768, 1792, 3840, 8184, 16376, 32767, 65535] [1, 2, 3, 7, 8, 10, 72, 73] [⟨some 94, .fad 4 (.t 10), none⟩, ⟨some 95, .ld 1 false (.t 94), none⟩, ⟨some 96, .mov (.t 11), none⟩, ⟨some 97, .fad 4 (.t 10), none⟩, ⟨some 98, .ld 1 false (.t 97), none⟩, ⟨some 99, .mov (.t 11), none⟩, ⟨some 100, .iadS 1 (.t 98) (.t 99), none⟩, ⟨some 101, .ld 1 false (.t 100), none⟩, ⟨some 102, .mov (.t 2), none⟩, ⟨some 103, .mov (.t 11), none⟩, ⟨some 104, .iadS 1 (.t 102) (.t 103), none⟩, ⟨some 105, .ld 1 false (.t 104), none⟩, ⟨some 106, .conv .i64 (.t 105), none⟩, ⟨some 107, .bin .add (.t 101) (.t 106), none⟩, ⟨some 108, .mn (.c (.int .i64 4194304)) (.t 107), none⟩, ⟨some 109, .iadS 1 (.t 95) (.t 96), none⟩, ⟨none, .st 1 [] (.t 109) (.t 108), none⟩]))))
 (.reg false [] [1, 2, 3, 7, 8, 10, 72, 73] [⟨some 110, .bin .add (.t 73) (.c (.int .i64 1)), none⟩, ⟨some 73, .mov (.t 110), none⟩])))))))
 (.seq (.reg false [] [3, 7, 8, 12, 14] [⟨some 112, .ld 6 true (.t 10), none⟩, ⟨some 113, .call 15 [(.t 112)] [], none⟩, ⟨some 111, .mov (.t 113), none⟩, ⟨some 114, .ext 0 (.t 111), none⟩, ⟨some 115, .ext 1 (.t 111), none⟩, ⟨some 116, .ext 2 (.t 111), none⟩, ⟨some 12, .mov (.t 114), none⟩, ⟨some 13, .asg (.t 115), none⟩, ⟨some 14, .mov (.t 116), none⟩])
 (.seq (.reg false [] [3, 7, 8, 12, 14, 15, 16] [⟨some 118, .ld 6 true (.t 3), none⟩, ⟨some 119, .mov (.t 8), none⟩, ⟨some 120, .call 124 [(.t 118), (.t 119)] [], none⟩, ⟨some 117, .mov (.t 120), none⟩, ⟨some 121, .ext 0 (.t 117), none⟩, ⟨some 122, .ext 1 (.t 117), none⟩, ⟨some 15, .asg (.t 121), none⟩, ⟨some 16, .mov (.t 122), none⟩])
 (.seq (.seq (.reg false [] [3, 7, 8, 15, 133] [⟨some 123, .mov (.t 14), none⟩, ⟨some 124, .bin .neq (.t 123) (.c (.int .i64 0)), none⟩, ⟨some 125, .mov (.t 124), none⟩, ⟨some 126, .mov (.t 12), some (125, false)⟩, ⟨some 127, .mov (.t 7), some (125, false)⟩, ⟨some 128, .bin .gtr (.t 126) (.t 127), some (125, false)⟩, ⟨some 129, .pick (.t 125) (.c (.bool true)) (.t 128), none⟩, ⟨some 130, .mov (.t 129), none⟩, ⟨some 131, .mov (.t 16), some (130, false)⟩, ⟨some 132, .bin .neq (.t 131) (.c (.int .i64 0)), some (130, false)⟩, ⟨some 133, .pick (.t 130) (.c (.bool true)) (.t 132), none⟩])
 (.cond (.t 133) (.seq (.reg false [] [6] [⟨some 6, .mov (.c (.bool false)), none⟩])
 .ret)
 .skip))
 (.seq (.seq (.reg false [] [3, 7, 8, 15, 135, 136] [⟨some 134, .mov (.t 8), none⟩, ⟨some 135, .len (.t 134), none⟩, ⟨some 136, .mov (.c (.int .i64 0)), none⟩])
 (.block 2 (.loop (.seq (.reg false [] [3, 7, 8, 15, 135, 136, 137] [⟨some 137, .bin .lss (.t 136) (.t 135), none⟩])
 (.seq (.cond (.t 137) .skip
 (.exit 2))
 (.seq (.block 3 (.seq (.reg false [] [3, 7, 8, 15, 17, 135, 136] [⟨some 138, .mov (.t 136), none⟩, ⟨some 17, .alc [.int .i64 0], none⟩, ⟨none, .st 1 [] (.t 17) (.t 138), none⟩])
 (.seq (.seq (.reg false [] [3, 7, 8, 15, 17, 135, 136, 141] [⟨some 139, .mov (.t 15), none⟩, ⟨some 140, .mk 126 [(.t 17)], none⟩, ⟨some 141, .call 125 [(.t 139), (.t 140)] [], none⟩])
 (.cond (.t 141) (.exit 3)
 .skip))
 (.seq (.reg false [] [3, 7, 8, 15, 17, 135, 136, 144, 145] [⟨some 142, .fad 5 (.t 3), none⟩, ⟨some 143, .ld 1 false (.t 142), none⟩, ⟨some 144, .len (.t 143), none⟩, ⟨some 145, .mov (.c (.int .i64 0)), none⟩])
 (.block 4 (.loop (.seq (.reg false [] [3, 7, 8, 15, 17, 135, 136, 144, 145, 146] [⟨some 146, .bin .lss (.t 145) (.t 144), none⟩])
 (.seq (.cond (.t 146) .skip
 (.exit 4))
 (.seq (.block 5 (.seq (.reg false [] [3, 7, 8, 15, 17, 18, 135, 136, 144, 145] [⟨some 147, .mov (.t 145), none⟩, ⟨some 18, .mov (.t 147), none⟩])
 (.seq (.reg false [] [3, 7, 8, 15, 17, 18, 19, 135, 136, 144, 145] [⟨some 148, .mov (.t 8), none⟩, ⟨some 149, .callF 42 [(.t 148)], none⟩, ⟨some 19, .asg (.t 149), none⟩])
 (.seq (.reg false [] [3, 7, 8, 15, 17, 18, 19, 135, 136, 144, 145] [⟨some 150, .mov (.t 19), none⟩, ⟨some 151, .ld 1 false (.t 17), none⟩, ⟨some 152, .mov (.t 18), none⟩, ⟨some 153, .iadS 1 (.t 150) (.t 151), none⟩, ⟨none, .st 1 [] (.t 153) (.t 152), none⟩])
 (.seq (.reg false [] [3, 7, 8, 15, 17, 18, 20, 22, 135, 136, 144, 145] [⟨some 155, .ld 6 true (.t 3), none⟩, ⟨some 156, .asg (.t 19), none⟩, ⟨some 157, .call 118 [(.t 155), (.t 156)] [], none⟩, ⟨some 154, .mov (.t 157), none⟩, ⟨some 158, .ext 0 (.t 154), none⟩, ⟨some 159, .ext 1 (.t 154), none⟩, ⟨some 160, .ext 2 (.t 154), none⟩, ⟨some 20, .mov (.t 158), none⟩, ⟨some 21, .mov (.t 159), none⟩, ⟨some 22, .mov (.t 160), none⟩])
 (.seq (.reg true [0, 1, 3, 7, 15, 31, 63, 31, 255, 511, 1023, 31, 2079, 31, 31, 24607, 57375, 129055, 260127, 522271, 1048575, 2097151, 4194303] [3, 7, 8, 15, 17, 135, 136, 144, 145, 183] [⟨some 161, .mov (.t 22), none⟩, ⟨some 162, .bin .neq (.t 161) (.c (.int .i64 0)), none⟩, ⟨some 163, .mov (.t 162), none⟩, ⟨some 164, .mov (.t 20), some (163, false)⟩, ⟨some 165, .mov (.t 164), some (163, false)⟩, ⟨some 166, .fad 5 (.t 3), some (165, true)⟩, ⟨some 167, .ld 1 false (.t 166), some (165, true)⟩, ⟨some 168, .mov (.t 18), some (165, true)⟩, ⟨some 169, .iadS 5 (.t 167) (.t 168), some (165, true)⟩, ⟨some 170, .fad 2 (.t 169), some (165, true)⟩, ⟨some 171, .ld 1 false (.t 170), some (165, true)⟩, ⟨some 172, .fad 5 (.t 3), some (165, true)⟩, ⟨some 173, .ld 1 false (.t 172), some (165, true)⟩, ⟨some 174, .mov (.t 8), some (165, true)⟩, ⟨some 175, .ld 1 false (.t 17), some (165, true)⟩, ⟨some 176, .iadS 1 (.t 174) (.t 175), some (165, true)⟩, ⟨some 177, .ld 1 false (.t 176), some (165, true)⟩, ⟨some 178, .iadS 5 (.t 173) (.t 177), some (165, true)⟩, ⟨some 179, .fad 2 (.t 178), some (165, true)⟩, ⟨some 180, .ld 1 false (.t 179), some (165, true)⟩, ⟨some 181, .bin .lss (.t 171) (.t 180), some (165, true)⟩, ⟨some 182, .pick (.t 165) (.t 181) (.c (.bool false)), some (163, false)⟩, ⟨some 183, .pick (.t 163) (.c (.bool true)) (.t 182), none⟩])
 (.cond (.t 183) (.seq (.reg false [] [6] [⟨some 6, .mov (.c (.bool false)), none⟩])
 .ret)
 .skip)))))))
 (.reg false [] [3, 7, 8, 15, 17, 135, 136, 144, 145] [⟨some 184, .bin .add (.t 145) (.c (.int .i64 1)), none⟩, ⟨some 145, .mov (.t 184), none⟩]))))))))))
 (.reg false [] [3, 7, 8, 15, 135, 136] [⟨some 185, .bin .add (.t 136) (.c (.int .i64 1)), none⟩, ⟨some 136, .mov (.t 185), none⟩])))))))
 (.seq (.seq (.reg false [] [3, 7, 187, 188] [⟨some 186, .asg (.t 8), none⟩, ⟨some 187, .len (.t 186), none⟩, ⟨some 188, .mov (.c (.int .i64 0)), none⟩])
 (.block 6 (.loop (.seq (.reg false [] [3, 7, 187, 188, 189] [⟨some 189, .bin .lss (.t 188) (.t 187), none⟩])
 (.seq (.cond (.t 189) .skip
 (.exit 6))
 (.seq (.block 7 (.seq (.reg false [] [3, 7, 23, 187, 188] [⟨some 190, .mov (.t 188), none⟩, ⟨some 23, .mov (.t 190), none⟩])
 (.seq (.reg false [] [3, 7, 24, 25, 187, 188] [⟨some 192, .ld 6 true (.t 3), none⟩, ⟨some 193, .mov (.t 23), none⟩, ⟨some 194, .call 17 [(.t 192), (.t 193)] [], none⟩, ⟨some 191, .mov (.t 194), none⟩, ⟨some 195, .ext 0 (.t 191), none⟩, ⟨some 196, .ext 1 (.t 191), none⟩, ⟨some 24, .mov (.t 195), none⟩, ⟨some 25, .mov (.t 196), none⟩])
 (.seq (.reg false [] [3, 7, 187, 188, 207] [⟨some 197, .mov (.t 25), none⟩, ⟨some 198, .bin .neq (.t 197) (.c (.int .i64 0)), none⟩, ⟨some 199, .mov (.t 198), none⟩, ⟨some 200, .mov (.t 24), some (199, false)⟩, ⟨some 201, .bin .lss (.t 200) (.c (.int .i64 0)), some (199, false)⟩, ⟨some 202, .pick (.t 199) (.c (.bool true)) (.t 201), none⟩, ⟨some 203, .mov (.t 202), none⟩, ⟨some 204, .mov (.t 24), some (203, false)⟩, ⟨some 205, .mov (.t 7), some (203, false)⟩, ⟨some 206, .bin .gtr (.t 204) (.t 205), some (203, false)⟩, ⟨some 207, .pick (.t 203) (.c (.bool true)) (.t 206), none⟩])
 (.cond (.t 207) (.seq (.reg false [] [6] [⟨some 6, .mov (.c (.bool false)), none⟩])
 .ret)
 .skip)))))
 (.reg false [] [3, 7, 187, 188] [⟨some 208, .bin .add (.t 188) (.c (.int .i64 1)), none⟩, ⟨some 188, .mov (.t 208), none⟩])))))))
 (.seq (.reg false [] [6] [⟨some 6, .mov (.c (.bool true)), none⟩])
 .ret)))))))))))))) }

/-- sewershed/sizing.Binding -/
def N124_sizing_Binding : NFun := { np := 2, nt := 141, res := [(4, none), (5, none)], body :=
 (.seq (.reg false [] [2, 3] [⟨some 2, .boxF (.t 0), none⟩, ⟨some 3, .boxF (.t 1), none⟩, ⟨some 4, .mov (.c .nils), none⟩, ⟨some 5, .mov (.c (.int .i64 0)), none⟩])
 (.seq (.reg false [] [2, 3, 6, 8] [⟨some 19, .ld 6 true (.t 2), none⟩, ⟨some 20, .ld 1 false (.t 3), none⟩, ⟨some 21, .call 118 [(.t 19), (.t 20)] [], none⟩, ⟨some 18, .mov (.t 21), none⟩, ⟨some 22, .ext 0 (.t 18), none⟩, ⟨some 23, .ext 1 (.t 18), none⟩, ⟨some 24, .ext 2 (.t 18), none⟩, ⟨some 6, .mov (.t 22), none⟩, ⟨some 7, .mov (.t 23), none⟩, ⟨some 8, .mov (.t 24), none⟩])
 (.seq (.seq (.reg false [] [2, 3, 6, 8, 26] [⟨some 25, .mov (.t 8), none⟩, ⟨some 26, .bin .neq (.t 25) (.c (.int .i64 0)), none⟩])
 (.cond (.t 26) (.seq (.reg false [] [4, 5] [⟨some 27, .mov (.t 8), none⟩, ⟨some 4, .mov (.c .nils), none⟩, ⟨some 5, .mov (.t 27), none⟩])
 .ret)
 .skip))
 (.seq (.seq (.reg false [] [2, 3, 29] [⟨some 28, .mov (.t 6), none⟩, ⟨some 29, .un .not (.t 28), none⟩])
 (.cond (.t 29) (.seq (.reg false [] [4, 5] [⟨some 4, .mov (.c .nils), none⟩, ⟨some 5, .mov (.c (.int .i64 25)), none⟩])
 .ret)
 .skip))
 (.seq (.reg false [] [2, 3, 9] [⟨some 30, .ld 6 true (.t 2), none⟩, ⟨some 31, .call 30 [(.t 30)] [], none⟩, ⟨some 9, .mov (.t 31), none⟩])
 (.seq (.reg false [] [2, 3, 9, 10] [⟨some 10, .nilo 2, none⟩])
 (.seq (.seq (.reg false [] [2, 3, 9, 10, 32, 33, 34] [⟨some 32, .ld 1 false (.t 3), none⟩, ⟨some 33, .len (.t 32), none⟩, ⟨some 34, .mov (.c (.int .i64 0)), none⟩])
 (.block 0 (.loop (.seq (.reg false [] [2, 3, 9, 10, 32, 33, 34, 35] [⟨some 35, .bin .lss (.t 34) (.t 33), none⟩])
 (.seq (.cond (.t 35) .skip
 (.exit 0))
 (.seq (.block 1 (.seq (.reg false [] [2, 3, 9, 10, 11, 12, 32, 33, 34] [⟨some 36, .mov (.t 34), none⟩, ⟨some 37, .iadS 1 (.t 32) (.t 34), none⟩, ⟨some 38, .ld 1 false (.t 37), none⟩, ⟨some 11, .mov (.t 36), none⟩, ⟨some 12, .mov (.t 38), none⟩])
 (.seq (.reg false [] [2, 3, 9, 10, 11, 12, 13, 32, 33, 34] [⟨some 13, .mov (.c (.int .i64 0)), none⟩])
 (.seq (.seq (.reg false [] [2, 3, 9, 10, 11, 12, 13, 32, 33, 34, 40, 41, 42] [⟨some 39, .fad 5 (.t 2), none⟩, ⟨some 40, .ld 1 false (.t 39), none⟩, ⟨some 41, .len (.t 40), none⟩, ⟨some 42, .mov (.c (.int .i64 0)), none⟩])
 (.block 2 (.loop (.seq (.reg false [] [2, 3, 9, 10, 11, 12, 13, 32, 33, 34, 40, 41, 42, 43] [⟨some 43, .bin .lss (.t 42) (.t 41), none⟩])
 (.seq (.cond (.t 43) .skip
 (.exit 2))
 (.seq (.block 3 (.seq (.reg false [] [2, 3, 9, 10, 11, 12, 13, 14, 15, 32, 33, 34, 40, 41, 42] [⟨some 44, .mov (.t 42), none⟩, ⟨some 45, .iadS 5 (.t 40) (.t 42), none⟩, ⟨some 46, .ld 5 true (.t 45), none⟩, ⟨some 15, .alc [.str [], .int .i64 0, .int .i64 0, .own 2 [], .own 2 []], none⟩, ⟨some 14, .mov (.t 44), none⟩, ⟨none, .st 5 [] (.t 15) (.t 46), none⟩])
 (.seq (.seq (.reg true [0, 1, 0, 4, 0, 28, 60, 124, 255] [2, 3, 9, 10, 11, 12, 13, 14, 15, 32, 33, 34, 40, 41, 42, 55] [⟨some 47, .fad 2 (.t 15), none⟩, ⟨some 48, .ld 1 false (.t 47), none⟩, ⟨some 49, .fad 5 (.t 2), none⟩, ⟨some 50, .ld 1 false (.t 49), none⟩, ⟨some 51, .mov (.t 12), none⟩, ⟨some 52, .iadS 5 (.t 50) (.t 51), none⟩, ⟨some 53, .fad 2 (.t 52), none⟩, ⟨some 54, .ld 1 false (.t 53), none⟩, ⟨some 55, .bin .geq (.t 48) (.t 54), none⟩])
 (.cond (.t 55) (.exit 3)
 .skip))
 (.seq (.reg false [] [2, 3, 9, 10, 11, 12, 13, 14, 15, 16, 32, 33, 34, 40, 41, 42] [⟨some 56, .mov (.t 9), none⟩, ⟨some 57, .nck (.t 56), none⟩, ⟨some 58, .fad 7 (.t 57), none⟩, ⟨some 59, .ld 1 false (.t 58), none⟩, ⟨some 60, .mov (.t 11), none⟩, ⟨some 61, .iadS 1 (.t 59) (.t 60), none⟩, ⟨some 62, .ld 1 false (.t 61), none⟩, ⟨some 63, .mk 128 [(.t 2), (.t 3), (.t 15)], none⟩, ⟨some 64, .call 11 [(.t 62), (.t 63)] [], none⟩, ⟨some 16, .mov (.t 64), none⟩])
 (.seq (.reg true [0, 1, 0, 7, 15, 31, 63, 127, 255, 127, 639, 127, 127, 4223, 127, 28799, 61567, 129151, 260223, 523903, 1048191, 2096767, 4194303, 8388607, 16777215] [2, 3, 9, 10, 11, 12, 13, 14, 16, 17, 32, 33, 34, 40, 41, 42] [⟨some 65, .fad 0 (.t 2), none⟩, ⟨some 66, .ld 1 false (.t 65), none⟩, ⟨some 67, .mov (.t 11), none⟩, ⟨some 68, .iadS 1 (.t 66) (.t 67), none⟩, ⟨some 69, .ld 1 false (.t 68), none⟩, ⟨some 70, .bin .neq (.t 69) (.c (.int .i64 (-1))), none⟩, ⟨some 71, .mov (.t 70), none⟩, ⟨some 72, .fad 1 (.t 15), some (71, true)⟩, ⟨some 73, .ld 1 false (.t 72), some (71, true)⟩, ⟨some 74, .fad 5 (.t 2), some (71, true)⟩, ⟨some 75, .ld 1 false (.t 74), some (71, true)⟩, ⟨some 76, .ld 1 false (.t 3), some (71, true)⟩, ⟨some 77, .fad 0 (.t 2), some (71, true)⟩, ⟨some 78, .ld 1 false (.t 77), some (71, true)⟩, ⟨some 79, .mov (.t 11), some (71, true)⟩, ⟨some 80, .iadS 1 (.t 78) (.t 79), some (71, true)⟩, ⟨some 81, .ld 1 false (.t 80), some (71, true)⟩, ⟨some 82, .iadS 1 (.t 76) (.t 81), some (71, true)⟩, ⟨some 83, .ld 1 false (.t 82), some (71, true)⟩, ⟨some 84, .iadS 5 (.t 75) (.t 83), some (71, true)⟩, ⟨some 85, .fad 1 (.t 84), some (71, true)⟩, ⟨some 86, .ld 1 false (.t 85), some (71, true)⟩, ⟨some 87, .bin .gtr (.t 73) (.t 86), some (71, true)⟩, ⟨some 88, .pick (.t 71) (.t 87) (.c (.bool false)), none⟩, ⟨some 17, .mov (.t 88), none⟩])
 (.seq (.block 4 (.seq (.reg false [] [2, 3, 9, 10, 11, 12, 13, 14, 16, 32, 33, 34, 40, 41, 42, 89] [⟨some 90, .mov (.t 16), none⟩, ⟨some 91, .un .not (.t 90), none⟩, ⟨some 92, .mov (.t 91), none⟩, ⟨some 93, .mov (.t 17), some (92, true)⟩, ⟨some 94, .un .not (.t 93), some (92, true)⟩, ⟨some 95, .pick (.t 92) (.t 94) (.c (.bool false)), none⟩, ⟨some 96, .mov (.t 95), none⟩, ⟨some 97, .mov (.t 9), some (96, true)⟩, ⟨some 98, .nck (.t 97), some (96, true)⟩, ⟨some 99, .fad 6 (.t 98), some (96, true)⟩, ⟨some 100, .ld 1 false (.t 99), some (96, true)⟩, ⟨some 101, .mov (.t 11), some (96, true)⟩, ⟨some 102, .iadS 1 (.t 100) (.t 101), some (96, true)⟩, ⟨some 103, .ld 1 false (.t 102), some (96, true)⟩, ⟨some 104, .mov (.t 14), some (96, true)⟩, ⟨some 105, .iadS 1 (.t 103) (.t 104), some (96, true)⟩, ⟨some 106, .ld 1 false (.t 105), some (96, true)⟩, ⟨some 107, .un .not (.t 106), some (96, true)⟩, ⟨some 108, .pick (.t 96) (.t 107) (.c (.bool false)), none⟩, ⟨some 89, .mov (.t 108), none⟩])
 (.cond (.t 89) (.reg false [] [2, 3, 9, 10, 11, 12, 13, 32, 33, 34, 40, 41, 42] [⟨some 13, .mov (.c (.int .i64 1)), none⟩])
 (.seq (.reg false [] [2, 3, 9, 10, 11, 12, 13, 32, 33, 34, 40, 41, 42, 109] [⟨some 110, .mov (.t 13), none⟩, ⟨some 111, .bin .eql (.t 110) (.c (.int .i64 0)), none⟩, ⟨some 112, .mov (.t 111), none⟩, ⟨some 113, .mov (.t 9), some (112, true)⟩, ⟨some 114, .nck (.t 113), some (112, true)⟩, ⟨some 115, .fad 6 (.t 114), some (112, true)⟩, ⟨some 116, .ld 1 false (.t 115), some (112, true)⟩, ⟨some 117, .mov (.t 11), some (112, true)⟩, ⟨some 118, .iadS 1 (.t 116) (.t 117), some (112, true)⟩, ⟨some 119, .ld 1 false (.t 118), some (112, true)⟩, ⟨some 120, .mov (.t 14), some (112, true)⟩, ⟨some 121, .iadS 1 (.t 119) (.t 120), some (112, true)⟩, ⟨some 122, .ld 1 false (.t 121), some (112, true)⟩, ⟨some 123, .pick (.t 112) (.t 122) (.c (.bool false)), none⟩, ⟨some 124, .mov (.t 123), none⟩, ⟨some 125, .mov (.t 16), some (124, true)⟩, ⟨some 126, .pick (.t 124) (.t 125) (.c (.bool false)), none⟩, ⟨some 109, .mov (.t 126), none⟩])
 (.cond (.t 109) (.reg false [] [2, 3, 9, 10, 11, 12, 13, 32, 33, 34, 40, 41, 42] [⟨some 13, .mov (.c (.int .i64 2)), none⟩])
 .skip)))))
 (.seq (.reg false [] [2, 3, 9, 10, 11, 12, 13, 32, 33, 34, 40, 41, 42, 128] [⟨some 127, .mov (.t 13), none⟩, ⟨some 128, .bin .eql (.t 127) (.c (.int .i64 1)), none⟩])
 (.cond (.t 128) (.exit 2)
 .skip))))))))
 (.reg false [] [2, 3, 9, 10, 11, 12, 13, 32, 33, 34, 40, 41, 42] [⟨some 129, .bin .add (.t 42) (.c (.int .i64 1)), none⟩, ⟨some 42, .mov (.t 129), none⟩])))))))
 (.seq (.reg false [] [2, 3, 9, 10, 11, 13, 32, 33, 34, 131] [⟨some 130, .mov (.t 13), none⟩, ⟨some 131, .bin .gtr (.t 130) (.c (.int .i64 0)), none⟩])
 (.cond (.t 131) (.reg false [] [2, 3, 9, 10, 32, 33, 34] [⟨some 132, .mov (.t 10), none⟩, ⟨some 133, .mov (.t 13), none⟩, ⟨some 134, .mov (.t 11), none⟩, ⟨some 135, .call 127 [(.t 134)] [], none⟩, ⟨some 136, .bld [.int .i64 0, .str []] [(0, 1, (.t 133)), (1, 1, (.t 135))], none⟩, ⟨some 137, .bls 2 1 [.int .i64 0, .str []] [] [(0, (.t 136))], none⟩, ⟨some 138, .app 2 24 false (.t 132) (.t 137), none⟩, ⟨some 10, .asg (.t 138), none⟩])
 .skip))))))
 (.reg false [] [2, 3, 9, 10, 32, 33, 34] [⟨some 139, .bin .add (.t 34) (.c (.int .i64 1)), none⟩, ⟨some 34, .mov (.t 139), none⟩])))))))
 (.seq (.reg false [] [4, 5] [⟨some 140, .asg (.t 10), none⟩, ⟨some 4, .asg (.t 140), none⟩, ⟨some 5, .mov (.c (.int .i64 0)), none⟩])
 .ret)))))))) }

/-- slices.ContainsFunc[[]sewershed/api.Finding,sewershed/api.Finding] -/
def N125_slices_ContainsFunc__api_Finding_api_Finding : NFun := { np := 2, nt := 9, res := [(4, none)], body :=
 (.seq (.reg false [] [0, 1] [⟨some 4, .mov (.c (.bool false)), none⟩])
 (.seq (.reg false [] [4] [⟨some 5, .asg (.t 0), none⟩, ⟨some 6, .mov (.t 1), none⟩, ⟨some 7, .call 129 [(.t 5), (.t 6)] [], none⟩, ⟨some 8, .bin .geq (.t 7) (.c (.int .i64 0)), none⟩, ⟨some 4, .mov (.t 8), none⟩])
 .ret)) }

/-- sewershed/sewershedlaw47.SizingEasier$1 -/
def N126_law47_SizingEasier_1 : NFun := { np := 2, nt := 9, res := [(3, none)], body :=
 (.seq (.reg false [] [1, 2] [⟨some 2, .boxF (.t 0), none⟩, ⟨some 3, .mov (.c (.bool false)), none⟩])
 (.seq (.reg true [0, 1, 0, 4, 15, 31] [3] [⟨some 4, .fad 1 (.t 2), none⟩, ⟨some 5, .ld 1 false (.t 4), none⟩, ⟨some 6, .ld 1 false (.t 1), none⟩, ⟨some 7, .call 127 [(.t 6)] [], none⟩, ⟨some 8, .bin .eql (.t 5) (.t 7), none⟩, ⟨some 3, .mov (.t 8), none⟩])
 .ret)) }

/-- sewershed/sizing.Binding$1 -/
def N128_sizing_Binding_1 : NFun := { np := 4, nt := 18, res := [(5, none)], body :=
 (.seq (.reg false [] [0, 1, 2, 3] [⟨some 5, .mov (.c (.bool false)), none⟩])
 (.seq (.reg true [0, 1, 0, 0, 12, 28, 63, 127, 255, 0, 512, 2047, 4095] [5] [⟨some 6, .fad 5 (.t 1), none⟩, ⟨some 7, .ld 1 false (.t 6), none⟩, ⟨some 8, .ld 1 false (.t 2), none⟩, ⟨some 9, .mov (.t 0), none⟩, ⟨some 10, .iadS 1 (.t 8) (.t 9), none⟩, ⟨some 11, .ld 1 false (.t 10), none⟩, ⟨some 12, .iadS 5 (.t 7) (.t 11), none⟩, ⟨some 13, .fad 1 (.t 12), none⟩, ⟨some 14, .ld 1 false (.t 13), none⟩, ⟨some 15, .fad 1 (.t 3), none⟩, ⟨some 16, .ld 1 false (.t 15), none⟩, ⟨some 17, .bin .gtr (.t 14) (.t 16), none⟩, ⟨some 5, .mov (.t 17), none⟩])
 .ret)) }

/-- slices.IndexFunc[[]sewershed/api.Finding,sewershed/api.Finding] -/
def N129_slices_IndexFunc__api_Finding_api_Finding : NFun := { np := 2, nt := 19, res := [(4, none)], body :=
 (.seq (.reg false [] [0, 1] [⟨some 4, .mov (.c (.int .i64 0)), none⟩])
 (.seq (.seq (.reg false [] [0, 1, 7, 8] [⟨some 6, .mov (.t 0), none⟩, ⟨some 7, .len (.t 6), none⟩, ⟨some 8, .mov (.c (.int .i64 0)), none⟩])
 (.block 0 (.loop (.seq (.reg false [] [0, 1, 7, 8, 9] [⟨some 9, .bin .lss (.t 8) (.t 7), none⟩])
 (.seq (.cond (.t 9) .skip
 (.exit 0))
 (.seq (.block 1 (.seq (.reg false [] [0, 1, 5, 7, 8] [⟨some 10, .mov (.t 8), none⟩, ⟨some 5, .mov (.t 10), none⟩])
 (.seq (.reg false [] [0, 1, 5, 7, 8, 16] [⟨some 11, .mov (.t 1), none⟩, ⟨some 12, .mov (.t 0), none⟩, ⟨some 13, .mov (.t 5), none⟩, ⟨some 14, .iadS 2 (.t 12) (.t 13), none⟩, ⟨some 15, .ld 2 true (.t 14), none⟩, ⟨some 16, .callv (.t 11) [(.t 15)], none⟩])
 (.cond (.t 16) (.seq (.reg false [] [4] [⟨some 17, .mov (.t 5), none⟩, ⟨some 4, .mov (.t 17), none⟩])
 .ret)
 .skip))))
 (.reg false [] [0, 1, 7, 8] [⟨some 18, .bin .add (.t 8) (.c (.int .i64 1)), none⟩, ⟨some 8, .mov (.t 18), none⟩])))))))
 (.seq (.reg false [] [4] [⟨some 4, .mov (.c (.int .i64 (-1))), none⟩])
 .ret))) }

def prog : Nat → Option NFun
  | 3 => some N3_law47_awake
  | 4 => some N4_law47_large
  | 11 => some N11_slices_ContainsFunc__int_int
  | 15 => some N15_sizing_Solve
  | 17 => some N17_sizing_Cheaper
  | 19 => some N19_slices_Equal__int_int
  | 23 => some N23_law47_example
  | 24 => some N24_sizing_Valid
  | 25 => some N25_law47_many
  | 29 => some N29_sizing_within
  | 30 => some N30_sizing_treeOf
  | 31 => some N31_sizing_tree_cost
  | 32 => some N32_sizing_tree_bound
  | 35 => some N35_slices_IndexFunc__int_int
  | 39 => some N39_sizing_tree_values
  | 40 => some N40_sizing_tree_least
  | 41 => some N41_sizing_Cheaper_1
  | 42 => some N42_slices_Clone__int_int
  | 43 => some N43_law47_section
  | 44 => some N44_catalogue_Valid
  | 45 => some N45_slices_ContainsFunc__api_Section_api_Section
  | 46 => some N46_law47_many_1
  | 47 => some N47_catalogue_Full
  | 51 => some N51_catalogue_valid
  | 52 => some N52_slices_IndexFunc__api_Section_api_Section
  | 53 => some N53_catalogue_Capacity
  | 58 => some N58_decimal_IsName
  | 59 => some N59_catalogue_curve
  | 60 => some N60_catalogue_slope
  | 61 => some N61_catalogue_carried
  | 70 => some N70_decimal_letter
  | 71 => some N71_decimal_word
  | 72 => some N72_table_Valid
  | 73 => some N73_table_Floor
  | 74 => some N74_catalogue_product
  | 75 => some N75_catalogue_wide_times
  | 76 => some N76_catalogue_wide_over
  | 77 => some N77_catalogue_wide_root
  | 88 => some N88_decimal_digit
  | 89 => some N89_table_fits
  | 90 => some N90_table_piece
  | 91 => some N91_math_bits_Mul64
  | 92 => some N92_math_bits_Div64
  | 96 => some N96_slices_BinarySearchFunc_api_Table_api_Knot_int
  | 97 => some N97_table_piece_1
  | 98 => some N98_wide_Scale
  | 99 => some N99_wide_Product
  | 100 => some N100_wide_Sub
  | 101 => some N101_wide_Int
  | 102 => some N102_math_bits_LeadingZeros64
  | 103 => some N103_wide_times
  | 104 => some N104_wide_quotient
  | 105 => some N105_wide_placed
  | 106 => some N106_wide_Valid
  | 107 => some N107_wide_sum
  | 108 => some N108_wide_value
  | 109 => some N109_wide_minus
  | 110 => some N110_wide_whole
  | 111 => some N111_math_bits_Len64
  | 112 => some N112_wide_size
  | 113 => some N113_wide_signed
  | 118 => some N118_sizing_Allowed
  | 120 => some N120_sizing_choice
  | 121 => some N121_sizing_Allowed_1
  | 122 => some N122_sizing_choice_1
  | 123 => some N123_law47_SizingEasier
  | 124 => some N124_sizing_Binding
  | 125 => some N125_slices_ContainsFunc__api_Finding_api_Finding
  | 126 => some N126_law47_SizingEasier_1
  | 128 => some N128_sizing_Binding_1
  | 129 => some N129_slices_IndexFunc__api_Finding_api_Finding
  | _ => none

end Go.Gv
