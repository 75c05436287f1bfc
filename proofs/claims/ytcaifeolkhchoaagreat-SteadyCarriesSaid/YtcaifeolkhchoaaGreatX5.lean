/-
  Texts of the proof: GvP.
-/
import Derived.Test.YtcaifeolkhchoaaGreatX4
set_option linter.all false
set_option maxRecDepth 4000
namespace Go.Gv

/-- slices.ContainsFunc[[]int,int] -/
def N11_slices_ContainsFunc__int_int : NFun := { np := 2, nt := 9, res := [(4, none)], body :=
 (.seq (.reg false [] [0, 1] [⟨some 4, .mov (.c (.bool false)), none⟩])
 (.seq (.reg false [] [4] [⟨some 5, .asg (.t 0), none⟩, ⟨some 6, .mov (.t 1), none⟩, ⟨some 7, .call 35 [(.t 5), (.t 6)] [], none⟩, ⟨some 8, .bin .geq (.t 7) (.c (.int .i64 0)), none⟩, ⟨some 4, .mov (.t 8), none⟩])
 .ret)) }

/-- sewershed/sewershedref28.Valid -/
def N33_ref28_Valid : NFun := { np := 1, nt := 30, res := [(2, none)], body :=
 (.seq (.reg false [] [0] [⟨some 2, .mov (.c (.bool false)), none⟩])
 (.seq (.seq (.reg false [] [0, 6] [⟨some 4, .mov (.t 0), none⟩, ⟨some 5, .len (.t 4), none⟩, ⟨some 6, .bin .gtr (.t 5) (.c (.int .i64 40)), none⟩])
 (.cond (.t 6) (.seq (.reg false [] [2] [⟨some 2, .mov (.c (.bool false)), none⟩])
 .ret)
 .skip))
 (.seq (.seq (.reg false [] [0, 3] [⟨some 3, .mov (.c (.int .i64 0)), none⟩])
 (.block 0 (.loop (.seq (.seq (.reg false [] [0, 3, 10] [⟨some 7, .mov (.t 3), none⟩, ⟨some 8, .mov (.t 0), none⟩, ⟨some 9, .len (.t 8), none⟩, ⟨some 10, .bin .lss (.t 7) (.t 9), none⟩])
 (.cond (.t 10) .skip
 (.exit 0)))
 (.seq (.block 1 (.seq (.reg false [] [0, 3, 29] [⟨some 13, .mov (.t 0), none⟩, ⟨some 14, .mov (.t 3), none⟩, ⟨some 15, .iadS 5 (.t 13) (.t 14), none⟩, ⟨some 16, .ld 5 true (.t 15), none⟩, ⟨some 17, .call 48 [(.t 16)] [], none⟩, ⟨some 18, .un .not (.t 17), none⟩, ⟨some 19, .mov (.t 18), none⟩, ⟨some 20, .mov (.t 0), some (19, false)⟩, ⟨some 21, .mov (.t 0), some (19, false)⟩, ⟨some 22, .mov (.t 3), some (19, false)⟩, ⟨some 23, .iadS 5 (.t 21) (.t 22), some (19, false)⟩, ⟨some 24, .fad 0 (.t 23), some (19, false)⟩, ⟨some 25, .ld 1 false (.t 24), some (19, false)⟩, ⟨some 26, .call 49 [(.t 20), (.t 25)] [], some (19, false)⟩, ⟨some 27, .mov (.t 3), some (19, false)⟩, ⟨some 28, .bin .neq (.t 26) (.t 27), some (19, false)⟩, ⟨some 29, .pick (.t 19) (.c (.bool true)) (.t 28), none⟩])
 (.cond (.t 29) (.seq (.reg false [] [2] [⟨some 2, .mov (.c (.bool false)), none⟩])
 .ret)
 .skip)))
 (.reg false [] [0, 3] [⟨some 11, .mov (.t 3), none⟩, ⟨some 12, .bin .add (.t 11) (.c (.int .i64 1)), none⟩, ⟨some 3, .mov (.t 12), none⟩]))))))
 (.seq (.reg false [] [2] [⟨some 2, .mov (.c (.bool true)), none⟩])
 .ret)))) }

/-- slices.IndexFunc[[]int,int] -/
def N35_slices_IndexFunc__int_int : NFun := { np := 2, nt := 19, res := [(4, none)], body :=
 (.seq (.reg false [] [0, 1] [⟨some 4, .mov (.c (.int .i64 0)), none⟩])
 (.seq (.seq (.reg false [] [0, 1, 7, 8] [⟨some 6, .mov (.t 0), none⟩, ⟨some 7, .len (.t 6), none⟩, ⟨some 8, .mov (.c (.int .i64 0)), none⟩])
 (.block 0 (.loop (.seq (.reg false [] [0, 1, 7, 8, 9] [⟨some 9, .bin .lss (.t 8) (.t 7), none⟩])
 (.seq (.cond (.t 9) .skip
 (.exit 0))
 (.seq (.block 1 (.seq (.reg false [] [0, 1, 5, 7, 8] [⟨some 10, .mov (.t 8), none⟩, ⟨some 5, .mov (.t 10), none⟩])
 (.seq (.reg false [] [0, 1, 5, 7, 8, 16] [⟨some 11, .mov (.t 1), none⟩, ⟨some 12, .mov (.t 0), none⟩, ⟨some 13, .mov (.t 5), none⟩, ⟨some 14, .iadS 1 (.t 12) (.t 13), none⟩, ⟨some 15, .ld 1 false (.t 14), none⟩, ⟨some 16, .callv (.t 11) [(.t 15)], none⟩])
 (.cond (.t 16) (.seq (.reg false [] [4] [⟨some 17, .mov (.t 5), none⟩, ⟨some 4, .mov (.t 17), none⟩])
 .ret)
 .skip))))
 (.reg false [] [0, 1, 7, 8] [⟨some 18, .bin .add (.t 8) (.c (.int .i64 1)), none⟩, ⟨some 8, .mov (.t 18), none⟩])))))))
 (.seq (.reg false [] [4] [⟨some 4, .mov (.c (.int .i64 (-1))), none⟩])
 .ret))) }

/-- sewershed/catalogue.Valid -/
def N44_catalogue_Valid : NFun := { np := 1, nt := 29, res := [(2, none)], body :=
 (.seq (.reg false [] [0] [⟨some 2, .mov (.c (.bool false)), none⟩])
 (.seq (.seq (.reg false [] [0, 8] [⟨some 6, .mov (.t 0), none⟩, ⟨some 7, .len (.t 6), none⟩, ⟨some 8, .bin .gtr (.t 7) (.c (.int .i64 40)), none⟩])
 (.cond (.t 8) (.seq (.reg false [] [2] [⟨some 2, .mov (.c (.bool false)), none⟩])
 .ret)
 .skip))
 (.seq (.reg false [] [0, 3] [⟨some 9, .mkm 0 1, none⟩, ⟨some 3, .mov (.t 9), none⟩])
 (.seq (.seq (.reg false [] [3, 10, 11, 12] [⟨some 10, .asg (.t 0), none⟩, ⟨some 11, .len (.t 10), none⟩, ⟨some 12, .mov (.c (.int .i64 0)), none⟩])
 (.block 0 (.loop (.seq (.reg false [] [3, 10, 11, 12, 13] [⟨some 13, .bin .lss (.t 12) (.t 11), none⟩])
 (.seq (.cond (.t 13) .skip
 (.exit 0))
 (.seq (.block 1 (.seq (.reg false [] [3, 5, 10, 11, 12] [⟨some 14, .iadS 5 (.t 10) (.t 12), none⟩, ⟨some 15, .ld 5 true (.t 14), none⟩, ⟨some 5, .alc [.str [], .int .i64 0, .int .i64 0, .own 2 [], .own 2 []], none⟩, ⟨none, .st 5 [] (.t 5) (.t 15), none⟩])
 (.seq (.seq (.reg false [] [3, 5, 10, 11, 12, 24] [⟨some 16, .ld 5 true (.t 5), none⟩, ⟨some 17, .call 51 [(.t 16)] [], none⟩, ⟨some 18, .un .not (.t 17), none⟩, ⟨some 19, .mov (.t 18), none⟩, ⟨some 20, .mov (.t 3), some (19, false)⟩, ⟨some 21, .fad 0 (.t 5), some (19, false)⟩, ⟨some 22, .ld 1 false (.t 21), some (19, false)⟩, ⟨some 23, .mpl .str 0 1 false (.bool false) (.t 20) (.t 22), some (19, false)⟩, ⟨some 24, .pick (.t 19) (.c (.bool true)) (.t 23), none⟩])
 (.cond (.t 24) (.seq (.reg false [] [2] [⟨some 2, .mov (.c (.bool false)), none⟩])
 .ret)
 .skip))
 (.reg false [] [3, 10, 11, 12] [⟨some 25, .mov (.t 3), none⟩, ⟨some 26, .fad 0 (.t 5), none⟩, ⟨some 27, .ld 1 false (.t 26), none⟩, ⟨none, .mpu .str 0 1 (.bool false) (.t 25) (.t 27) (.c (.bool true)), none⟩]))))
 (.reg false [] [3, 10, 11, 12] [⟨some 28, .bin .add (.t 12) (.c (.int .i64 1)), none⟩, ⟨some 12, .mov (.t 28), none⟩])))))))
 (.seq (.reg false [] [2] [⟨some 2, .mov (.c (.bool true)), none⟩])
 .ret))))) }

/-- slices.ContainsFunc[[]sewershed/api.Section,sewershed/api.Section] -/
def N45_slices_ContainsFunc__api_Section_api_Section : NFun := { np := 2, nt := 9, res := [(4, none)], body :=
 (.seq (.reg false [] [0, 1] [⟨some 4, .mov (.c (.bool false)), none⟩])
 (.seq (.reg false [] [4] [⟨some 5, .asg (.t 0), none⟩, ⟨some 6, .mov (.t 1), none⟩, ⟨some 7, .call 52 [(.t 5), (.t 6)] [], none⟩, ⟨some 8, .bin .geq (.t 7) (.c (.int .i64 0)), none⟩, ⟨some 4, .mov (.t 8), none⟩])
 .ret)) }

/-- sewershed/sewershedref28.Right -/
def N48_ref28_Right : NFun := { np := 1, nt := 39, res := [(2, none)], body :=
 (.seq (.reg false [] [1] [⟨some 1, .boxF (.t 0), none⟩, ⟨some 2, .mov (.c (.bool false)), none⟩])
 (.seq (.seq (.reg false [] [1, 26] [⟨some 3, .fad 0 (.t 1), none⟩, ⟨some 4, .ld 1 false (.t 3), none⟩, ⟨some 5, .call 54 [(.t 4)] [], none⟩, ⟨some 6, .un .not (.t 5), none⟩, ⟨some 7, .mov (.t 6), none⟩, ⟨some 8, .fad 1 (.t 1), some (7, false)⟩, ⟨some 9, .ld 1 false (.t 8), some (7, false)⟩, ⟨some 10, .bin .lss (.t 9) (.c (.int .i64 1)), some (7, false)⟩, ⟨some 11, .pick (.t 7) (.c (.bool true)) (.t 10), none⟩, ⟨some 12, .mov (.t 11), none⟩, ⟨some 13, .fad 1 (.t 1), some (12, false)⟩, ⟨some 14, .ld 1 false (.t 13), some (12, false)⟩, ⟨some 15, .bin .gtr (.t 14) (.c (.int .i64 32768)), some (12, false)⟩, ⟨some 16, .pick (.t 12) (.c (.bool true)) (.t 15), none⟩, ⟨some 17, .mov (.t 16), none⟩, ⟨some 18, .fad 2 (.t 1), some (17, false)⟩, ⟨some 19, .ld 1 false (.t 18), some (17, false)⟩, ⟨some 20, .bin .lss (.t 19) (.c (.int .i64 0)), some (17, false)⟩, ⟨some 21, .pick (.t 17) (.c (.bool true)) (.t 20), none⟩, ⟨some 22, .mov (.t 21), none⟩, ⟨some 23, .fad 2 (.t 1), some (22, false)⟩, ⟨some 24, .ld 1 false (.t 23), some (22, false)⟩, ⟨some 25, .bin .gtr (.t 24) (.c (.int .i64 1073741824)), some (22, false)⟩, ⟨some 26, .pick (.t 22) (.c (.bool true)) (.t 25), none⟩])
 (.cond (.t 26) (.seq (.reg false [] [2] [⟨some 2, .mov (.c (.bool false)), none⟩])
 .ret)
 .skip))
 (.seq (.reg false [] [2] [⟨some 27, .fad 3 (.t 1), none⟩, ⟨some 28, .ld 1 false (.t 27), none⟩, ⟨some 29, .fad 1 (.t 1), none⟩, ⟨some 30, .ld 1 false (.t 29), none⟩, ⟨some 31, .call 55 [(.t 28), (.t 30), (.c (.int .i64 1073741824))] [], none⟩, ⟨some 32, .mov (.t 31), none⟩, ⟨some 33, .fad 4 (.t 1), some (32, true)⟩, ⟨some 34, .ld 1 false (.t 33), some (32, true)⟩, ⟨some 35, .fad 1 (.t 1), some (32, true)⟩, ⟨some 36, .ld 1 false (.t 35), some (32, true)⟩, ⟨some 37, .call 55 [(.t 34), (.t 36), (.c (.int .i64 1099511627776))] [], some (32, true)⟩, ⟨some 38, .pick (.t 32) (.t 37) (.c (.bool false)), none⟩, ⟨some 2, .mov (.t 38), none⟩])
 .ret))) }

/-- sewershed/sewershedref28.Find -/
def N49_ref28_Find : NFun := { np := 2, nt := 20, res := [(4, none)], body :=
 (.seq (.reg false [] [0, 1] [⟨some 4, .mov (.c (.int .i64 0)), none⟩])
 (.seq (.seq (.reg false [] [0, 1, 5] [⟨some 5, .mov (.c (.int .i64 0)), none⟩])
 (.block 0 (.loop (.seq (.seq (.reg false [] [0, 1, 5, 9] [⟨some 6, .mov (.t 5), none⟩, ⟨some 7, .mov (.t 0), none⟩, ⟨some 8, .len (.t 7), none⟩, ⟨some 9, .bin .lss (.t 6) (.t 8), none⟩])
 (.cond (.t 9) .skip
 (.exit 0)))
 (.seq (.block 1 (.seq (.reg false [] [0, 1, 5, 18] [⟨some 12, .mov (.t 0), none⟩, ⟨some 13, .mov (.t 5), none⟩, ⟨some 14, .iadS 5 (.t 12) (.t 13), none⟩, ⟨some 15, .fad 0 (.t 14), none⟩, ⟨some 16, .ld 1 false (.t 15), none⟩, ⟨some 17, .mov (.t 1), none⟩, ⟨some 18, .bin .eql (.t 16) (.t 17), none⟩])
 (.cond (.t 18) (.seq (.reg false [] [4] [⟨some 19, .mov (.t 5), none⟩, ⟨some 4, .mov (.t 19), none⟩])
 .ret)
 .skip)))
 (.reg false [] [0, 1, 5] [⟨some 10, .mov (.t 5), none⟩, ⟨some 11, .bin .add (.t 10) (.c (.int .i64 1)), none⟩, ⟨some 5, .mov (.t 11), none⟩]))))))
 (.seq (.reg false [] [4] [⟨some 4, .mov (.c (.int .i64 (-1))), none⟩])
 .ret))) }

/-- sewershed/catalogue.valid -/
def N51_catalogue_valid : NFun := { np := 1, nt := 40, res := [(2, none)], body :=
 (.seq (.reg false [] [1] [⟨some 1, .boxF (.t 0), none⟩, ⟨some 2, .mov (.c (.bool false)), none⟩])
 (.seq (.reg false [] [2] [⟨some 3, .fad 0 (.t 1), none⟩, ⟨some 4, .ld 1 false (.t 3), none⟩, ⟨some 5, .call 58 [(.t 4)] [], none⟩, ⟨some 6, .mov (.t 5), none⟩, ⟨some 7, .fad 1 (.t 1), some (6, true)⟩, ⟨some 8, .ld 1 false (.t 7), some (6, true)⟩, ⟨some 9, .bin .geq (.t 8) (.c (.int .i64 1)), some (6, true)⟩, ⟨some 10, .pick (.t 6) (.t 9) (.c (.bool false)), none⟩, ⟨some 11, .mov (.t 10), none⟩, ⟨some 12, .fad 1 (.t 1), some (11, true)⟩, ⟨some 13, .ld 1 false (.t 12), some (11, true)⟩, ⟨some 14, .bin .leq (.t 13) (.c (.int .i64 32768)), some (11, true)⟩, ⟨some 15, .pick (.t 11) (.t 14) (.c (.bool false)), none⟩, ⟨some 16, .mov (.t 15), none⟩, ⟨some 17, .fad 2 (.t 1), some (16, true)⟩, ⟨some 18, .ld 1 false (.t 17), some (16, true)⟩, ⟨some 19, .bin .geq (.t 18) (.c (.int .i64 0)), some (16, true)⟩, ⟨some 20, .pick (.t 16) (.t 19) (.c (.bool false)), none⟩, ⟨some 21, .mov (.t 20), none⟩, ⟨some 22, .fad 2 (.t 1), some (21, true)⟩, ⟨some 23, .ld 1 false (.t 22), some (21, true)⟩, ⟨some 24, .bin .leq (.t 23) (.c (.int .i64 1073741824)), some (21, true)⟩, ⟨some 25, .pick (.t 21) (.t 24) (.c (.bool false)), none⟩, ⟨some 26, .mov (.t 25), none⟩, ⟨some 27, .fad 3 (.t 1), some (26, true)⟩, ⟨some 28, .ld 1 false (.t 27), some (26, true)⟩, ⟨some 29, .fad 1 (.t 1), some (26, true)⟩, ⟨some 30, .ld 1 false (.t 29), some (26, true)⟩, ⟨some 31, .call 59 [(.t 28), (.t 30), (.c (.int .i64 1073741824))] [], some (26, true)⟩, ⟨some 32, .pick (.t 26) (.t 31) (.c (.bool false)), none⟩, ⟨some 33, .mov (.t 32), none⟩, ⟨some 34, .fad 4 (.t 1), some (33, true)⟩, ⟨some 35, .ld 1 false (.t 34), some (33, true)⟩, ⟨some 36, .fad 1 (.t 1), some (33, true)⟩, ⟨some 37, .ld 1 false (.t 36), some (33, true)⟩, ⟨some 38, .call 59 [(.t 35), (.t 37), (.c (.int .i64 1099511627776))] [], some (33, true)⟩, ⟨some 39, .pick (.t 33) (.t 38) (.c (.bool false)), none⟩, ⟨some 2, .mov (.t 39), none⟩])
 .ret)) }

/-- slices.IndexFunc[[]sewershed/api.Section,sewershed/api.Section] -/
def N52_slices_IndexFunc__api_Section_api_Section : NFun := { np := 2, nt := 19, res := [(4, none)], body :=
 (.seq (.reg false [] [0, 1] [⟨some 4, .mov (.c (.int .i64 0)), none⟩])
 (.seq (.seq (.reg false [] [0, 1, 7, 8] [⟨some 6, .mov (.t 0), none⟩, ⟨some 7, .len (.t 6), none⟩, ⟨some 8, .mov (.c (.int .i64 0)), none⟩])
 (.block 0 (.loop (.seq (.reg false [] [0, 1, 7, 8, 9] [⟨some 9, .bin .lss (.t 8) (.t 7), none⟩])
 (.seq (.cond (.t 9) .skip
 (.exit 0))
 (.seq (.block 1 (.seq (.reg false [] [0, 1, 5, 7, 8] [⟨some 10, .mov (.t 8), none⟩, ⟨some 5, .mov (.t 10), none⟩])
 (.seq (.reg false [] [0, 1, 5, 7, 8, 16] [⟨some 11, .mov (.t 1), none⟩, ⟨some 12, .mov (.t 0), none⟩, ⟨some 13, .mov (.t 5), none⟩, ⟨some 14, .iadS 5 (.t 12) (.t 13), none⟩, ⟨some 15, .ld 5 true (.t 14), none⟩, ⟨some 16, .callv (.t 11) [(.t 15)], none⟩])
 (.cond (.t 16) (.seq (.reg false [] [4] [⟨some 17, .mov (.t 5), none⟩, ⟨some 4, .mov (.t 17), none⟩])
 .ret)
 .skip))))
 (.reg false [] [0, 1, 7, 8] [⟨some 18, .bin .add (.t 8) (.c (.int .i64 1)), none⟩, ⟨some 8, .mov (.t 18), none⟩])))))))
 (.seq (.reg false [] [4] [⟨some 4, .mov (.c (.int .i64 (-1))), none⟩])
 .ret))) }

/-- sewershed/catalogue.Capacity -/
def N53_catalogue_Capacity : NFun := { np := 4, nt := 47, res := [(8, none), (9, none)], body :=
 (.seq (.reg false [] [1, 2, 3, 4] [⟨some 4, .boxF (.t 0), none⟩, ⟨some 8, .mov (.c (.int .i64 0)), none⟩, ⟨some 9, .mov (.c (.int .i64 0)), none⟩])
 (.seq (.block 0 (.seq (.reg false [] [1, 2, 3, 4, 12] [⟨some 13, .ld 5 true (.t 4), none⟩, ⟨some 14, .call 51 [(.t 13)] [], none⟩, ⟨some 15, .un .not (.t 14), none⟩, ⟨some 12, .mov (.t 15), none⟩])
 (.cond (.t 12) (.seq (.reg false [] [8, 9] [⟨some 8, .mov (.c (.int .i64 0)), none⟩, ⟨some 9, .mov (.c (.int .i64 1)), none⟩])
 .ret)
 (.seq (.reg false [] [1, 2, 3, 4, 16] [⟨some 17, .mov (.t 1), none⟩, ⟨some 18, .bin .lss (.t 17) (.c (.int .i64 0)), none⟩, ⟨some 19, .mov (.t 18), none⟩, ⟨some 20, .mov (.t 1), some (19, false)⟩, ⟨some 21, .fad 1 (.t 4), some (19, false)⟩, ⟨some 22, .ld 1 false (.t 21), some (19, false)⟩, ⟨some 23, .bin .gtr (.t 20) (.t 22), some (19, false)⟩, ⟨some 24, .pick (.t 19) (.c (.bool true)) (.t 23), none⟩, ⟨some 25, .mov (.t 24), none⟩, ⟨some 26, .mov (.t 2), some (25, false)⟩, ⟨some 27, .mov (.t 3), some (25, false)⟩, ⟨some 28, .call 60 [(.t 26), (.t 27)] [], some (25, false)⟩, ⟨some 29, .un .not (.t 28), some (25, false)⟩, ⟨some 30, .pick (.t 25) (.c (.bool true)) (.t 29), none⟩, ⟨some 16, .mov (.t 30), none⟩])
 (.cond (.t 16) (.seq (.reg false [] [8, 9] [⟨some 8, .mov (.c (.int .i64 0)), none⟩, ⟨some 9, .mov (.c (.int .i64 2)), none⟩])
 .ret)
 .skip)))))
 (.seq (.reg false [] [10, 11] [⟨some 32, .ld 5 true (.t 4), none⟩, ⟨some 33, .mov (.t 1), none⟩, ⟨some 34, .mov (.t 2), none⟩, ⟨some 35, .mov (.t 3), none⟩, ⟨some 36, .call 61 [(.t 32), (.t 33), (.t 34), (.t 35)] [], none⟩, ⟨some 31, .mov (.t 36), none⟩, ⟨some 37, .ext 0 (.t 31), none⟩, ⟨some 38, .ext 1 (.t 31), none⟩, ⟨some 10, .mov (.t 37), none⟩, ⟨some 11, .mov (.t 38), none⟩])
 (.seq (.block 1 (.seq (.reg false [] [10, 11, 39] [⟨some 40, .mov (.t 11), none⟩, ⟨some 41, .bin .neq (.t 40) (.c (.int .i64 0)), none⟩, ⟨some 39, .mov (.t 41), none⟩])
 (.cond (.t 39) (.seq (.reg false [] [8, 9] [⟨some 42, .mov (.t 11), none⟩, ⟨some 8, .mov (.c (.int .i64 0)), none⟩, ⟨some 9, .mov (.t 42), none⟩])
 .ret)
 (.seq (.reg false [] [10, 43] [⟨some 44, .mov (.t 10), none⟩, ⟨some 45, .bin .gtr (.t 44) (.c (.int .i64 1099511627776)), none⟩, ⟨some 43, .mov (.t 45), none⟩])
 (.cond (.t 43) (.seq (.reg false [] [8, 9] [⟨some 8, .mov (.c (.int .i64 0)), none⟩, ⟨some 9, .mov (.c (.int .i64 5)), none⟩])
 .ret)
 .skip)))))
 (.seq (.reg false [] [8, 9] [⟨some 46, .mov (.t 10), none⟩, ⟨some 8, .mov (.t 46), none⟩, ⟨some 9, .mov (.c (.int .i64 0)), none⟩])
 .ret))))) }

/-- sewershed/sewershedref01.IsName -/
def N54_ref01_IsName : NFun := { np := 1, nt := 22, res := [(2, none)], body :=
 (.seq (.reg false [] [0] [⟨some 2, .mov (.c (.bool false)), none⟩])
 (.seq (.seq (.reg false [] [0, 16] [⟨some 3, .mov (.t 0), none⟩, ⟨some 4, .lens (.t 3), none⟩, ⟨some 5, .bin .eql (.t 4) (.c (.int .i64 0)), none⟩, ⟨some 6, .mov (.t 5), none⟩, ⟨some 7, .mov (.t 0), some (6, false)⟩, ⟨some 8, .lens (.t 7), some (6, false)⟩, ⟨some 9, .bin .gtr (.t 8) (.c (.int .i64 20)), some (6, false)⟩, ⟨some 10, .pick (.t 6) (.c (.bool true)) (.t 9), none⟩, ⟨some 11, .mov (.t 10), none⟩, ⟨some 12, .mov (.t 0), some (11, false)⟩, ⟨some 13, .idxS (.t 12) (.c (.int .i64 0)), some (11, false)⟩, ⟨some 14, .call 62 [(.t 13)] [], some (11, false)⟩, ⟨some 15, .un .not (.t 14), some (11, false)⟩, ⟨some 16, .pick (.t 11) (.c (.bool true)) (.t 15), none⟩])
 (.cond (.t 16) (.seq (.reg false [] [2] [⟨some 2, .mov (.c (.bool false)), none⟩])
 .ret)
 .skip))
 (.seq (.reg false [] [2] [⟨some 17, .mov (.t 0), none⟩, ⟨some 18, .call 63 [(.t 17), (.c (.int .i64 0))] [], none⟩, ⟨some 19, .mov (.t 0), none⟩, ⟨some 20, .lens (.t 19), none⟩, ⟨some 21, .bin .eql (.t 18) (.t 20), none⟩, ⟨some 2, .mov (.t 21), none⟩])
 .ret))) }

/-- sewershed/sewershedref28.fits -/
def N55_ref28_fits : NFun := { np := 3, nt := 41, res := [(6, none)], body :=
 (.seq (.reg false [] [0, 1, 2] [⟨some 6, .mov (.c (.bool false)), none⟩])
 (.seq (.seq (.reg false [] [0, 1, 2, 10] [⟨some 8, .mov (.t 0), none⟩, ⟨some 9, .call 64 [(.t 8)] [], none⟩, ⟨some 10, .un .not (.t 9), none⟩])
 (.cond (.t 10) (.seq (.reg false [] [6] [⟨some 6, .mov (.c (.bool false)), none⟩])
 .ret)
 .skip))
 (.seq (.reg false [] [0, 1, 2, 7] [⟨some 11, .mov (.t 0), none⟩, ⟨some 12, .mov (.t 0), none⟩, ⟨some 13, .len (.t 12), none⟩, ⟨some 14, .bin .sub (.t 13) (.c (.int .i64 1)), none⟩, ⟨some 15, .iadS 2 (.t 11) (.t 14), none⟩, ⟨some 16, .ld 2 true (.t 15), none⟩, ⟨some 7, .alc [.int .i64 0, .int .i64 0], none⟩, ⟨none, .st 2 [] (.t 7) (.t 16), none⟩])
 (.seq (.reg false [] [6] [⟨some 17, .mov (.t 0), none⟩, ⟨some 18, .iadS 2 (.t 17) (.c (.int .i64 0)), none⟩, ⟨some 19, .fad 0 (.t 18), none⟩, ⟨some 20, .ld 1 false (.t 19), none⟩, ⟨some 21, .bin .eql (.t 20) (.c (.int .i64 0)), none⟩, ⟨some 22, .mov (.t 21), none⟩, ⟨some 23, .asg (.t 0), some (22, true)⟩, ⟨some 24, .iadS 2 (.t 23) (.c (.int .i64 0)), some (22, true)⟩, ⟨some 25, .fad 1 (.t 24), some (22, true)⟩, ⟨some 26, .ld 1 false (.t 25), some (22, true)⟩, ⟨some 27, .bin .eql (.t 26) (.c (.int .i64 0)), some (22, true)⟩, ⟨some 28, .pick (.t 22) (.t 27) (.c (.bool false)), none⟩, ⟨some 29, .mov (.t 28), none⟩, ⟨some 30, .fad 0 (.t 7), some (29, true)⟩, ⟨some 31, .ld 1 false (.t 30), some (29, true)⟩, ⟨some 32, .mov (.t 1), some (29, true)⟩, ⟨some 33, .bin .eql (.t 31) (.t 32), some (29, true)⟩, ⟨some 34, .pick (.t 29) (.t 33) (.c (.bool false)), none⟩, ⟨some 35, .mov (.t 34), none⟩, ⟨some 36, .fad 1 (.t 7), some (35, true)⟩, ⟨some 37, .ld 1 false (.t 36), some (35, true)⟩, ⟨some 38, .mov (.t 2), some (35, true)⟩, ⟨some 39, .bin .leq (.t 37) (.t 38), some (35, true)⟩, ⟨some 40, .pick (.t 35) (.t 39) (.c (.bool false)), none⟩, ⟨some 6, .mov (.t 40), none⟩])
 .ret)))) }

/-- sewershed/decimal.IsName -/
def N58_decimal_IsName : NFun := { np := 1, nt := 22, res := [(2, none)], body :=
 (.seq (.reg false [] [0] [⟨some 2, .mov (.c (.bool false)), none⟩])
 (.seq (.reg false [] [2] [⟨some 3, .mov (.t 0), none⟩, ⟨some 4, .bin .neq (.t 3) (.c (.str [])), none⟩, ⟨some 5, .mov (.t 4), none⟩, ⟨some 6, .mov (.t 0), some (5, true)⟩, ⟨some 7, .lens (.t 6), some (5, true)⟩, ⟨some 8, .bin .leq (.t 7) (.c (.int .i64 20)), some (5, true)⟩, ⟨some 9, .pick (.t 5) (.t 8) (.c (.bool false)), none⟩, ⟨some 10, .mov (.t 9), none⟩, ⟨some 11, .mov (.t 0), some (10, true)⟩, ⟨some 12, .idxS (.t 11) (.c (.int .i64 0)), some (10, true)⟩, ⟨some 13, .call 70 [(.t 12)] [], some (10, true)⟩, ⟨some 14, .pick (.t 10) (.t 13) (.c (.bool false)), none⟩, ⟨some 15, .mov (.t 14), none⟩, ⟨some 16, .mov (.t 0), some (15, true)⟩, ⟨some 17, .call 71 [(.t 16)] [], some (15, true)⟩, ⟨some 18, .mov (.t 0), some (15, true)⟩, ⟨some 19, .lens (.t 18), some (15, true)⟩, ⟨some 20, .bin .eql (.t 17) (.t 19), some (15, true)⟩, ⟨some 21, .pick (.t 15) (.t 20) (.c (.bool false)), none⟩, ⟨some 2, .mov (.t 21), none⟩])
 .ret)) }

/-- sewershed/catalogue.curve -/
def N59_catalogue_curve : NFun := { np := 3, nt := 34, res := [(6, none)], body :=
 (.seq (.reg false [] [0, 1, 2] [⟨some 6, .mov (.c (.bool false)), none⟩])
 (.seq (.seq (.reg false [] [0, 1, 2, 10] [⟨some 8, .mov (.t 0), none⟩, ⟨some 9, .call 72 [(.t 8)] [], none⟩, ⟨some 10, .un .not (.t 9), none⟩])
 (.cond (.t 10) (.seq (.reg false [] [6] [⟨some 6, .mov (.c (.bool false)), none⟩])
 .ret)
 .skip))
 (.seq (.reg false [] [0, 1, 2, 7] [⟨some 11, .mov (.t 0), none⟩, ⟨some 12, .mov (.t 0), none⟩, ⟨some 13, .len (.t 12), none⟩, ⟨some 14, .bin .sub (.t 13) (.c (.int .i64 1)), none⟩, ⟨some 15, .iadS 2 (.t 11) (.t 14), none⟩, ⟨some 16, .ld 2 true (.t 15), none⟩, ⟨some 7, .alc [.int .i64 0, .int .i64 0], none⟩, ⟨none, .st 2 [] (.t 7) (.t 16), none⟩])
 (.seq (.reg false [] [6] [⟨some 17, .asg (.t 0), none⟩, ⟨some 18, .iadS 2 (.t 17) (.c (.int .i64 0)), none⟩, ⟨some 19, .ld 2 true (.t 18), none⟩, ⟨some 20, .bld [.int .i64 0, .int .i64 0] [], none⟩, ⟨some 21, .beq false [0, 0] (.t 19) (.t 20), none⟩, ⟨some 22, .mov (.t 21), none⟩, ⟨some 23, .fad 0 (.t 7), some (22, true)⟩, ⟨some 24, .ld 1 false (.t 23), some (22, true)⟩, ⟨some 25, .mov (.t 1), some (22, true)⟩, ⟨some 26, .bin .eql (.t 24) (.t 25), some (22, true)⟩, ⟨some 27, .pick (.t 22) (.t 26) (.c (.bool false)), none⟩, ⟨some 28, .mov (.t 27), none⟩, ⟨some 29, .fad 1 (.t 7), some (28, true)⟩, ⟨some 30, .ld 1 false (.t 29), some (28, true)⟩, ⟨some 31, .mov (.t 2), some (28, true)⟩, ⟨some 32, .bin .leq (.t 30) (.t 31), some (28, true)⟩, ⟨some 33, .pick (.t 28) (.t 32) (.c (.bool false)), none⟩, ⟨some 6, .mov (.t 33), none⟩])
 .ret)))) }

/-- sewershed/catalogue.slope -/
def N60_catalogue_slope : NFun := { np := 2, nt := 19, res := [(4, none)], body :=
 (.seq (.reg false [] [0, 1] [⟨some 4, .mov (.c (.bool false)), none⟩])
 (.seq (.reg false [] [4] [⟨some 5, .mov (.t 0), none⟩, ⟨some 6, .bin .geq (.t 5) (.c (.int .i64 0)), none⟩, ⟨some 7, .mov (.t 6), none⟩, ⟨some 8, .mov (.t 0), some (7, true)⟩, ⟨some 9, .bin .leq (.t 8) (.c (.int .i64 4194304)), some (7, true)⟩, ⟨some 10, .pick (.t 7) (.t 9) (.c (.bool false)), none⟩, ⟨some 11, .mov (.t 10), none⟩, ⟨some 12, .mov (.t 1), some (11, true)⟩, ⟨some 13, .bin .geq (.t 12) (.c (.int .i64 1)), some (11, true)⟩, ⟨some 14, .pick (.t 11) (.t 13) (.c (.bool false)), none⟩, ⟨some 15, .mov (.t 14), none⟩, ⟨some 16, .mov (.t 1), some (15, true)⟩, ⟨some 17, .bin .leq (.t 16) (.c (.int .i64 16777216)), some (15, true)⟩, ⟨some 18, .pick (.t 15) (.t 17) (.c (.bool false)), none⟩, ⟨some 4, .mov (.t 18), none⟩])
 .ret)) }

/-- sewershed/catalogue.carried -/
def N61_catalogue_carried : NFun := { np := 4, nt := 30, res := [(8, none), (9, none)], body :=
 (.seq (.reg false [] [1, 2, 3, 4] [⟨some 4, .boxF (.t 0), none⟩, ⟨some 8, .mov (.c (.int .i64 0)), none⟩, ⟨some 9, .mov (.c (.int .i64 0)), none⟩])
 (.seq (.reg false [] [2, 3, 10, 11] [⟨some 13, .fad 4 (.t 4), none⟩, ⟨some 14, .ld 1 false (.t 13), none⟩, ⟨some 15, .mov (.t 1), none⟩, ⟨some 16, .call 73 [(.t 14), (.t 15)] [], none⟩, ⟨some 12, .mov (.t 16), none⟩, ⟨some 17, .ext 0 (.t 12), none⟩, ⟨some 18, .ext 1 (.t 12), none⟩, ⟨some 10, .mov (.t 17), none⟩, ⟨some 11, .mov (.t 18), none⟩])
 (.seq (.seq (.reg false [] [2, 3, 10, 11, 20] [⟨some 19, .mov (.t 11), none⟩, ⟨some 20, .bin .neq (.t 19) (.c (.int .i64 0)), none⟩])
 (.cond (.t 20) (.seq (.reg false [] [8, 9] [⟨some 21, .mov (.t 11), none⟩, ⟨some 8, .mov (.c (.int .i64 0)), none⟩, ⟨some 9, .mov (.t 21), none⟩])
 .ret)
 .skip))
 (.seq (.reg false [] [8, 9] [⟨some 22, .mov (.t 10), none⟩, ⟨some 23, .mov (.t 10), none⟩, ⟨some 24, .call 74 [(.t 22), (.t 23)] [], none⟩, ⟨some 25, .mov (.t 2), none⟩, ⟨some 26, .call 75 [(.t 24), (.t 25)] [], none⟩, ⟨some 27, .mov (.t 3), none⟩, ⟨some 28, .call 76 [(.t 26), (.t 27)] [], none⟩, ⟨some 29, .call 77 [(.t 28)] [], none⟩, ⟨some 8, .mov (.t 29), none⟩, ⟨some 9, .mov (.c (.int .i64 0)), none⟩])
 .ret)))) }

/-- sewershed/sewershedref01.Letter -/
def N62_ref01_Letter : NFun := { np := 1, nt := 17, res := [(2, none)], body :=
 (.seq (.reg false [] [0] [⟨some 2, .mov (.c (.bool false)), none⟩])
 (.seq (.reg false [] [2] [⟨some 3, .mov (.t 0), none⟩, ⟨some 4, .bin .geq (.t 3) (.c (.int .u8 97)), none⟩, ⟨some 5, .mov (.t 4), none⟩, ⟨some 6, .mov (.t 0), some (5, true)⟩, ⟨some 7, .bin .leq (.t 6) (.c (.int .u8 122)), some (5, true)⟩, ⟨some 8, .pick (.t 5) (.t 7) (.c (.bool false)), none⟩, ⟨some 9, .mov (.t 8), none⟩, ⟨some 10, .mov (.t 0), some (9, false)⟩, ⟨some 11, .bin .geq (.t 10) (.c (.int .u8 65)), some (9, false)⟩, ⟨some 12, .mov (.t 11), some (9, false)⟩, ⟨some 13, .mov (.t 0), some (12, true)⟩, ⟨some 14, .bin .leq (.t 13) (.c (.int .u8 90)), some (12, true)⟩, ⟨some 15, .pick (.t 12) (.t 14) (.c (.bool false)), some (9, false)⟩, ⟨some 16, .pick (.t 9) (.c (.bool true)) (.t 15), none⟩, ⟨some 2, .mov (.t 16), none⟩])
 .ret)) }

/-- sewershed/sewershedref01.word -/
def N63_ref01_word : NFun := { np := 2, nt := 30, res := [(4, none)], body :=
 (.seq (.reg false [] [0, 1] [⟨some 4, .mov (.c (.int .i64 0)), none⟩])
 (.seq (.block 0 (.loop (.seq (.seq (.reg false [] [0, 1, 26] [⟨some 5, .mov (.t 1), none⟩, ⟨some 6, .mov (.t 0), none⟩, ⟨some 7, .lens (.t 6), none⟩, ⟨some 8, .bin .lss (.t 5) (.t 7), none⟩, ⟨some 9, .mov (.t 8), none⟩, ⟨some 10, .mov (.t 0), some (9, true)⟩, ⟨some 11, .mov (.t 1), some (9, true)⟩, ⟨some 12, .idxS (.t 10) (.t 11), some (9, true)⟩, ⟨some 13, .call 62 [(.t 12)] [], some (9, true)⟩, ⟨some 14, .mov (.t 13), some (9, true)⟩, ⟨some 15, .mov (.t 0), some (14, false)⟩, ⟨some 16, .mov (.t 1), some (14, false)⟩, ⟨some 17, .idxS (.t 15) (.t 16), some (14, false)⟩, ⟨some 18, .call 78 [(.t 17)] [], some (14, false)⟩, ⟨some 19, .pick (.t 14) (.c (.bool true)) (.t 18), some (9, true)⟩, ⟨some 20, .mov (.t 19), some (9, true)⟩, ⟨some 21, .mov (.t 0), some (20, false)⟩, ⟨some 22, .mov (.t 1), some (20, false)⟩, ⟨some 23, .idxS (.t 21) (.t 22), some (20, false)⟩, ⟨some 24, .bin .eql (.t 23) (.c (.int .u8 95)), some (20, false)⟩, ⟨some 25, .pick (.t 20) (.c (.bool true)) (.t 24), some (9, true)⟩, ⟨some 26, .pick (.t 9) (.t 25) (.c (.bool false)), none⟩])
 (.cond (.t 26) .skip
 (.exit 0)))
 (.block 1 (.reg false [] [0, 1] [⟨some 27, .mov (.t 1), none⟩, ⟨some 28, .bin .add (.t 27) (.c (.int .i64 1)), none⟩, ⟨some 1, .mov (.t 28), none⟩])))))
 (.seq (.reg false [] [4] [⟨some 29, .mov (.t 1), none⟩, ⟨some 4, .mov (.t 29), none⟩])
 .ret))) }

/-- sewershed/sewershedref06.Valid -/
def N64_ref06_Valid : NFun := { np := 1, nt := 64, res := [(2, none)], body :=
 (.seq (.reg false [] [0] [⟨some 2, .mov (.c (.bool false)), none⟩])
 (.seq (.seq (.reg false [] [0, 11] [⟨some 4, .mov (.t 0), none⟩, ⟨some 5, .len (.t 4), none⟩, ⟨some 6, .bin .lss (.t 5) (.c (.int .i64 1)), none⟩, ⟨some 7, .mov (.t 6), none⟩, ⟨some 8, .mov (.t 0), some (7, false)⟩, ⟨some 9, .len (.t 8), some (7, false)⟩, ⟨some 10, .bin .gtr (.t 9) (.c (.int .i64 100)), some (7, false)⟩, ⟨some 11, .pick (.t 7) (.c (.bool true)) (.t 10), none⟩])
 (.cond (.t 11) (.seq (.reg false [] [2] [⟨some 2, .mov (.c (.bool false)), none⟩])
 .ret)
 .skip))
 (.seq (.seq (.reg false [] [0, 3] [⟨some 3, .mov (.c (.int .i64 0)), none⟩])
 (.block 0 (.loop (.seq (.seq (.reg false [] [0, 3, 15] [⟨some 12, .mov (.t 3), none⟩, ⟨some 13, .mov (.t 0), none⟩, ⟨some 14, .len (.t 13), none⟩, ⟨some 15, .bin .lss (.t 12) (.t 14), none⟩])
 (.cond (.t 15) .skip
 (.exit 0)))
 (.seq (.block 1 (.seq (.seq (.reg false [] [0, 3, 33] [⟨some 18, .mov (.t 0), none⟩, ⟨some 19, .mov (.t 3), none⟩, ⟨some 20, .iadS 2 (.t 18) (.t 19), none⟩, ⟨some 21, .fad 0 (.t 20), none⟩, ⟨some 22, .ld 1 false (.t 21), none⟩, ⟨some 23, .call 79 [(.t 22)] [], none⟩, ⟨some 24, .un .not (.t 23), none⟩, ⟨some 25, .mov (.t 24), none⟩, ⟨some 26, .mov (.t 0), some (25, false)⟩, ⟨some 27, .mov (.t 3), some (25, false)⟩, ⟨some 28, .iadS 2 (.t 26) (.t 27), some (25, false)⟩, ⟨some 29, .fad 1 (.t 28), some (25, false)⟩, ⟨some 30, .ld 1 false (.t 29), some (25, false)⟩, ⟨some 31, .call 79 [(.t 30)] [], some (25, false)⟩, ⟨some 32, .un .not (.t 31), some (25, false)⟩, ⟨some 33, .pick (.t 25) (.c (.bool true)) (.t 32), none⟩])
 (.cond (.t 33) (.seq (.reg false [] [2] [⟨some 2, .mov (.c (.bool false)), none⟩])
 .ret)
 .skip))
 (.seq (.reg true [0, 1, 3, 7, 7, 31, 63, 127, 7, 7, 519, 1799, 3847, 7943, 16383, 32767, 65535, 65535, 262143, 524287, 1048575, 65535, 65535, 4259839, 14745599, 31522815, 65077247, 134217727, 268435455, 536870911] [0, 3, 63] [⟨some 34, .mov (.t 3), none⟩, ⟨some 35, .bin .gtr (.t 34) (.c (.int .i64 0)), none⟩, ⟨some 36, .mov (.t 35), none⟩, ⟨some 37, .mov (.t 0), some (36, true)⟩, ⟨some 38, .mov (.t 3), some (36, true)⟩, ⟨some 39, .iadS 2 (.t 37) (.t 38), some (36, true)⟩, ⟨some 40, .fad 0 (.t 39), some (36, true)⟩, ⟨some 41, .ld 1 false (.t 40), some (36, true)⟩, ⟨some 42, .mov (.t 0), some (36, true)⟩, ⟨some 43, .mov (.t 3), some (36, true)⟩, ⟨some 44, .bin .sub (.t 43) (.c (.int .i64 1)), some (36, true)⟩, ⟨some 45, .iadS 2 (.t 42) (.t 44), some (36, true)⟩, ⟨some 46, .fad 0 (.t 45), some (36, true)⟩, ⟨some 47, .ld 1 false (.t 46), some (36, true)⟩, ⟨some 48, .bin .leq (.t 41) (.t 47), some (36, true)⟩, ⟨some 49, .mov (.t 48), some (36, true)⟩, ⟨some 50, .mov (.t 0), some (49, false)⟩, ⟨some 51, .mov (.t 3), some (49, false)⟩, ⟨some 52, .iadS 2 (.t 50) (.t 51), some (49, false)⟩, ⟨some 53, .fad 1 (.t 52), some (49, false)⟩, ⟨some 54, .ld 1 false (.t 53), some (49, false)⟩, ⟨some 55, .mov (.t 0), some (49, false)⟩, ⟨some 56, .mov (.t 3), some (49, false)⟩, ⟨some 57, .bin .sub (.t 56) (.c (.int .i64 1)), some (49, false)⟩, ⟨some 58, .iadS 2 (.t 55) (.t 57), some (49, false)⟩, ⟨some 59, .fad 1 (.t 58), some (49, false)⟩, ⟨some 60, .ld 1 false (.t 59), some (49, false)⟩, ⟨some 61, .bin .lss (.t 54) (.t 60), some (49, false)⟩, ⟨some 62, .pick (.t 49) (.c (.bool true)) (.t 61), some (36, true)⟩, ⟨some 63, .pick (.t 36) (.t 62) (.c (.bool false)), none⟩])
 (.cond (.t 63) (.seq (.reg false [] [2] [⟨some 2, .mov (.c (.bool false)), none⟩])
 .ret)
 .skip))))
 (.reg false [] [0, 3] [⟨some 16, .mov (.t 3), none⟩, ⟨some 17, .bin .add (.t 16) (.c (.int .i64 1)), none⟩, ⟨some 3, .mov (.t 17), none⟩]))))))
 (.seq (.reg false [] [2] [⟨some 2, .mov (.c (.bool true)), none⟩])
 .ret)))) }

/-- sewershed/decimal.letter -/
def N70_decimal_letter : NFun := { np := 1, nt := 17, res := [(2, none)], body :=
 (.seq (.reg false [] [0] [⟨some 2, .mov (.c (.bool false)), none⟩])
 (.seq (.reg false [] [2] [⟨some 3, .mov (.t 0), none⟩, ⟨some 4, .bin .geq (.t 3) (.c (.int .u8 97)), none⟩, ⟨some 5, .mov (.t 4), none⟩, ⟨some 6, .mov (.t 0), some (5, true)⟩, ⟨some 7, .bin .leq (.t 6) (.c (.int .u8 122)), some (5, true)⟩, ⟨some 8, .pick (.t 5) (.t 7) (.c (.bool false)), none⟩, ⟨some 9, .mov (.t 8), none⟩, ⟨some 10, .mov (.t 0), some (9, false)⟩, ⟨some 11, .bin .geq (.t 10) (.c (.int .u8 65)), some (9, false)⟩, ⟨some 12, .mov (.t 11), some (9, false)⟩, ⟨some 13, .mov (.t 0), some (12, true)⟩, ⟨some 14, .bin .leq (.t 13) (.c (.int .u8 90)), some (12, true)⟩, ⟨some 15, .pick (.t 12) (.t 14) (.c (.bool false)), some (9, false)⟩, ⟨some 16, .pick (.t 9) (.c (.bool true)) (.t 15), none⟩, ⟨some 2, .mov (.t 16), none⟩])
 .ret)) }

/-- sewershed/decimal.word -/
def N71_decimal_word : NFun := { np := 1, nt := 29, res := [(2, none)], body :=
 (.seq (.reg false [] [0] [⟨some 2, .mov (.c (.int .i64 0)), none⟩])
 (.seq (.reg false [] [0, 3] [⟨some 3, .mov (.c (.int .i64 0)), none⟩])
 (.seq (.block 0 (.loop (.seq (.seq (.reg false [] [0, 3, 25] [⟨some 4, .mov (.t 3), none⟩, ⟨some 5, .mov (.t 0), none⟩, ⟨some 6, .lens (.t 5), none⟩, ⟨some 7, .bin .lss (.t 4) (.t 6), none⟩, ⟨some 8, .mov (.t 7), none⟩, ⟨some 9, .mov (.t 0), some (8, true)⟩, ⟨some 10, .mov (.t 3), some (8, true)⟩, ⟨some 11, .idxS (.t 9) (.t 10), some (8, true)⟩, ⟨some 12, .call 70 [(.t 11)] [], some (8, true)⟩, ⟨some 13, .mov (.t 12), some (8, true)⟩, ⟨some 14, .mov (.t 0), some (13, false)⟩, ⟨some 15, .mov (.t 3), some (13, false)⟩, ⟨some 16, .idxS (.t 14) (.t 15), some (13, false)⟩, ⟨some 17, .call 88 [(.t 16)] [], some (13, false)⟩, ⟨some 18, .pick (.t 13) (.c (.bool true)) (.t 17), some (8, true)⟩, ⟨some 19, .mov (.t 18), some (8, true)⟩, ⟨some 20, .mov (.t 0), some (19, false)⟩, ⟨some 21, .mov (.t 3), some (19, false)⟩, ⟨some 22, .idxS (.t 20) (.t 21), some (19, false)⟩, ⟨some 23, .bin .eql (.t 22) (.c (.int .u8 95)), some (19, false)⟩, ⟨some 24, .pick (.t 19) (.c (.bool true)) (.t 23), some (8, true)⟩, ⟨some 25, .pick (.t 8) (.t 24) (.c (.bool false)), none⟩])
 (.cond (.t 25) .skip
 (.exit 0)))
 (.block 1 (.reg false [] [0, 3] [⟨some 26, .mov (.t 3), none⟩, ⟨some 27, .bin .add (.t 26) (.c (.int .i64 1)), none⟩, ⟨some 3, .mov (.t 27), none⟩])))))
 (.seq (.reg false [] [2] [⟨some 28, .mov (.t 3), none⟩, ⟨some 2, .mov (.t 28), none⟩])
 .ret)))) }

/-- sewershed/table.Valid -/
def N72_table_Valid : NFun := { np := 1, nt := 57, res := [(2, none)], body :=
 (.seq (.reg false [] [0] [⟨some 2, .mov (.c (.bool false)), none⟩])
 (.seq (.seq (.reg false [] [0, 12] [⟨some 5, .mov (.t 0), none⟩, ⟨some 6, .len (.t 5), none⟩, ⟨some 7, .bin .lss (.t 6) (.c (.int .i64 1)), none⟩, ⟨some 8, .mov (.t 7), none⟩, ⟨some 9, .mov (.t 0), some (8, false)⟩, ⟨some 10, .len (.t 9), some (8, false)⟩, ⟨some 11, .bin .gtr (.t 10) (.c (.int .i64 100)), some (8, false)⟩, ⟨some 12, .pick (.t 8) (.c (.bool true)) (.t 11), none⟩])
 (.cond (.t 12) (.seq (.reg false [] [2] [⟨some 2, .mov (.c (.bool false)), none⟩])
 .ret)
 .skip))
 (.seq (.seq (.reg false [] [0, 13, 14, 15] [⟨some 13, .mov (.t 0), none⟩, ⟨some 14, .len (.t 13), none⟩, ⟨some 15, .mov (.c (.int .i64 0)), none⟩])
 (.block 0 (.loop (.seq (.reg false [] [0, 13, 14, 15, 16] [⟨some 16, .bin .lss (.t 15) (.t 14), none⟩])
 (.seq (.cond (.t 16) .skip
 (.exit 0))
 (.seq (.block 1 (.seq (.reg false [] [0, 3, 4, 13, 14, 15] [⟨some 17, .mov (.t 15), none⟩, ⟨some 18, .iadS 2 (.t 13) (.t 15), none⟩, ⟨some 19, .ld 2 true (.t 18), none⟩, ⟨some 4, .alc [.int .i64 0, .int .i64 0], none⟩, ⟨some 3, .mov (.t 17), none⟩, ⟨none, .st 2 [] (.t 4) (.t 19), none⟩])
 (.seq (.reg true [0, 1, 3, 7, 15, 31, 63, 127, 255, 511, 1023, 2047, 4095, 8191, 16383, 32767, 16383, 16383, 147455, 475135, 999423, 2047999, 4194303, 8388607, 16777215, 33554431, 16777215, 16777215, 150994943, 486539263, 1023410175, 2097151999, 4294967295, 8589934591, 17179869183, 34359738367] [0, 13, 14, 15, 55] [⟨some 20, .fad 0 (.t 4), none⟩, ⟨some 21, .ld 1 false (.t 20), none⟩, ⟨some 22, .call 89 [(.t 21)] [], none⟩, ⟨some 23, .un .not (.t 22), none⟩, ⟨some 24, .mov (.t 23), none⟩, ⟨some 25, .fad 1 (.t 4), some (24, false)⟩, ⟨some 26, .ld 1 false (.t 25), some (24, false)⟩, ⟨some 27, .call 89 [(.t 26)] [], some (24, false)⟩, ⟨some 28, .un .not (.t 27), some (24, false)⟩, ⟨some 29, .pick (.t 24) (.c (.bool true)) (.t 28), none⟩, ⟨some 30, .mov (.t 29), none⟩, ⟨some 31, .mov (.t 3), some (30, false)⟩, ⟨some 32, .bin .gtr (.t 31) (.c (.int .i64 0)), some (30, false)⟩, ⟨some 33, .mov (.t 32), some (30, false)⟩, ⟨some 34, .fad 0 (.t 4), some (33, true)⟩, ⟨some 35, .ld 1 false (.t 34), some (33, true)⟩, ⟨some 36, .mov (.t 0), some (33, true)⟩, ⟨some 37, .mov (.t 3), some (33, true)⟩, ⟨some 38, .bin .sub (.t 37) (.c (.int .i64 1)), some (33, true)⟩, ⟨some 39, .iadS 2 (.t 36) (.t 38), some (33, true)⟩, ⟨some 40, .fad 0 (.t 39), some (33, true)⟩, ⟨some 41, .ld 1 false (.t 40), some (33, true)⟩, ⟨some 42, .bin .leq (.t 35) (.t 41), some (33, true)⟩, ⟨some 43, .mov (.t 42), some (33, true)⟩, ⟨some 44, .fad 1 (.t 4), some (43, false)⟩, ⟨some 45, .ld 1 false (.t 44), some (43, false)⟩, ⟨some 46, .mov (.t 0), some (43, false)⟩, ⟨some 47, .mov (.t 3), some (43, false)⟩, ⟨some 48, .bin .sub (.t 47) (.c (.int .i64 1)), some (43, false)⟩, ⟨some 49, .iadS 2 (.t 46) (.t 48), some (43, false)⟩, ⟨some 50, .fad 1 (.t 49), some (43, false)⟩, ⟨some 51, .ld 1 false (.t 50), some (43, false)⟩, ⟨some 52, .bin .lss (.t 45) (.t 51), some (43, false)⟩, ⟨some 53, .pick (.t 43) (.c (.bool true)) (.t 52), some (33, true)⟩, ⟨some 54, .pick (.t 33) (.t 53) (.c (.bool false)), some (30, false)⟩, ⟨some 55, .pick (.t 30) (.c (.bool true)) (.t 54), none⟩])
 (.cond (.t 55) (.seq (.reg false [] [2] [⟨some 2, .mov (.c (.bool false)), none⟩])
 .ret)
 .skip))))
 (.reg false [] [0, 13, 14, 15] [⟨some 56, .bin .add (.t 15) (.c (.int .i64 1)), none⟩, ⟨some 15, .mov (.t 56), none⟩])))))))
 (.seq (.reg false [] [2] [⟨some 2, .mov (.c (.bool true)), none⟩])
 .ret)))) }

/-- sewershed/table.Floor -/
def N73_table_Floor : NFun := { np := 2, nt := 20, res := [(4, none), (5, none)], body :=
 (.seq (.reg false [] [0, 1] [⟨some 4, .mov (.c (.int .i64 0)), none⟩, ⟨some 5, .mov (.c (.int .i64 0)), none⟩])
 (.seq (.seq (.reg false [] [0, 1, 11] [⟨some 9, .mov (.t 0), none⟩, ⟨some 10, .call 72 [(.t 9)] [], none⟩, ⟨some 11, .un .not (.t 10), none⟩])
 (.cond (.t 11) (.seq (.reg false [] [4, 5] [⟨some 4, .mov (.c (.int .i64 0)), none⟩, ⟨some 5, .mov (.c (.int .i64 1)), none⟩])
 .ret)
 .skip))
 (.seq (.reg false [] [6] [⟨some 13, .asg (.t 0), none⟩, ⟨some 14, .mov (.t 1), none⟩, ⟨some 15, .call 90 [(.t 13), (.t 14)] [], none⟩, ⟨some 12, .mov (.t 15), none⟩, ⟨some 16, .ext 0 (.t 12), none⟩, ⟨some 17, .ext 1 (.t 12), none⟩, ⟨some 18, .ext 2 (.t 12), none⟩, ⟨some 6, .mov (.t 16), none⟩, ⟨some 7, .mov (.t 17), none⟩, ⟨some 8, .mov (.t 18), none⟩])
 (.seq (.reg false [] [4, 5] [⟨some 19, .mov (.t 6), none⟩, ⟨some 4, .mov (.t 19), none⟩, ⟨some 5, .mov (.c (.int .i64 0)), none⟩])
 .ret)))) }

/-- sewershed/catalogue.product -/
def N74_catalogue_product : NFun := { np := 2, nt := 18, res := [(4, some (2, true))], body :=
 (.seq (.reg false [] [0, 1, 4] [⟨some 4, .alc [.int .u64 0, .int .u64 0], none⟩])
 (.seq (.reg false [] [4, 5, 6] [⟨some 8, .mov (.t 0), none⟩, ⟨some 9, .conv .u64 (.t 8), none⟩, ⟨some 10, .mov (.t 1), none⟩, ⟨some 11, .conv .u64 (.t 10), none⟩, ⟨some 12, .call 91 [(.t 9), (.t 11)] [], none⟩, ⟨some 7, .mov (.t 12), none⟩, ⟨some 13, .ext 0 (.t 7), none⟩, ⟨some 14, .ext 1 (.t 7), none⟩, ⟨some 5, .mov (.t 13), none⟩, ⟨some 6, .mov (.t 14), none⟩])
 (.seq (.reg false [] [4] [⟨some 15, .mov (.t 5), none⟩, ⟨some 16, .mov (.t 6), none⟩, ⟨some 17, .bld [.int .u64 0, .int .u64 0] [(0, 1, (.t 15)), (1, 1, (.t 16))], none⟩, ⟨none, .st 2 [] (.t 4) (.t 17), none⟩])
 .ret))) }

/-- (sewershed/catalogue.wide).times -/
def N75_catalogue_wide_times : NFun := { np := 2, nt := 24, res := [(4, some (2, true))], body :=
 (.seq (.reg false [] [1, 2, 4] [⟨some 2, .boxF (.t 0), none⟩, ⟨some 4, .alc [.int .u64 0, .int .u64 0], none⟩])
 (.seq (.reg false [] [1, 2, 4, 5, 6] [⟨some 8, .fad 1 (.t 2), none⟩, ⟨some 9, .ld 1 false (.t 8), none⟩, ⟨some 10, .mov (.t 1), none⟩, ⟨some 11, .conv .u64 (.t 10), none⟩, ⟨some 12, .call 91 [(.t 9), (.t 11)] [], none⟩, ⟨some 7, .mov (.t 12), none⟩, ⟨some 13, .ext 0 (.t 7), none⟩, ⟨some 14, .ext 1 (.t 7), none⟩, ⟨some 5, .mov (.t 13), none⟩, ⟨some 6, .mov (.t 14), none⟩])
 (.seq (.reg false [] [4] [⟨some 15, .mov (.t 5), none⟩, ⟨some 16, .fad 0 (.t 2), none⟩, ⟨some 17, .ld 1 false (.t 16), none⟩, ⟨some 18, .mov (.t 1), none⟩, ⟨some 19, .conv .u64 (.t 18), none⟩, ⟨some 20, .bin .mul (.t 17) (.t 19), none⟩, ⟨some 21, .bin .add (.t 15) (.t 20), none⟩, ⟨some 22, .mov (.t 6), none⟩, ⟨some 23, .bld [.int .u64 0, .int .u64 0] [(0, 1, (.t 21)), (1, 1, (.t 22))], none⟩, ⟨none, .st 2 [] (.t 4) (.t 23), none⟩])
 .ret))) }

/-- (sewershed/catalogue.wide).over -/
def N76_catalogue_wide_over : NFun := { np := 2, nt := 31, res := [(4, some (2, true))], body :=
 (.seq (.reg false [] [1, 2, 4] [⟨some 2, .boxF (.t 0), none⟩, ⟨some 4, .alc [.int .u64 0, .int .u64 0], none⟩])
 (.seq (.reg true [0, 1, 0, 4, 15, 0, 32, 0, 128, 480, 31, 2047] [1, 2, 4, 5, 6] [⟨some 9, .fad 0 (.t 2), none⟩, ⟨some 10, .ld 1 false (.t 9), none⟩, ⟨some 11, .mov (.t 1), none⟩, ⟨some 12, .conv .u64 (.t 11), none⟩, ⟨some 13, .bin .quo (.t 10) (.t 12), none⟩, ⟨some 14, .fad 0 (.t 2), none⟩, ⟨some 15, .ld 1 false (.t 14), none⟩, ⟨some 16, .mov (.t 1), none⟩, ⟨some 17, .conv .u64 (.t 16), none⟩, ⟨some 18, .bin .rem (.t 15) (.t 17), none⟩, ⟨some 5, .mov (.t 13), none⟩, ⟨some 6, .mov (.t 18), none⟩])
 (.seq (.reg false [] [4, 5, 7] [⟨some 20, .mov (.t 6), none⟩, ⟨some 21, .fad 1 (.t 2), none⟩, ⟨some 22, .ld 1 false (.t 21), none⟩, ⟨some 23, .mov (.t 1), none⟩, ⟨some 24, .conv .u64 (.t 23), none⟩, ⟨some 25, .call 92 [(.t 20), (.t 22), (.t 24)] [], none⟩, ⟨some 19, .mov (.t 25), none⟩, ⟨some 26, .ext 0 (.t 19), none⟩, ⟨some 27, .ext 1 (.t 19), none⟩, ⟨some 7, .mov (.t 26), none⟩, ⟨some 8, .mov (.t 27), none⟩])
 (.seq (.reg false [] [4] [⟨some 28, .mov (.t 5), none⟩, ⟨some 29, .mov (.t 7), none⟩, ⟨some 30, .bld [.int .u64 0, .int .u64 0] [(0, 1, (.t 28)), (1, 1, (.t 29))], none⟩, ⟨none, .st 2 [] (.t 4) (.t 30), none⟩])
 .ret)))) }

/-- (sewershed/catalogue.wide).root -/
def N77_catalogue_wide_root : NFun := { np := 1, nt := 42, res := [(2, none)], body :=
 (.seq (.reg false [] [1] [⟨some 1, .boxF (.t 0), none⟩, ⟨some 2, .mov (.c (.int .i64 0)), none⟩])
 (.seq (.reg false [] [1, 3] [⟨some 3, .mov (.c (.int .u64 0)), none⟩])
 (.seq (.seq (.reg false [] [1, 3, 4] [⟨some 4, .mov (.c (.int .u64 4611686018427387904)), none⟩])
 (.block 0 (.loop (.seq (.seq (.reg false [] [1, 3, 4, 8] [⟨some 7, .mov (.t 4), none⟩, ⟨some 8, .bin .gtr (.t 7) (.c (.int .u64 0)), none⟩])
 (.cond (.t 8) .skip
 (.exit 0)))
 (.seq (.block 1 (.seq (.reg false [] [1, 3, 4, 5, 6] [⟨some 12, .mov (.t 3), none⟩, ⟨some 13, .mov (.t 4), none⟩, ⟨some 14, .bin .or (.t 12) (.t 13), none⟩, ⟨some 15, .mov (.t 3), none⟩, ⟨some 16, .mov (.t 4), none⟩, ⟨some 17, .bin .or (.t 15) (.t 16), none⟩, ⟨some 18, .call 91 [(.t 14), (.t 17)] [], none⟩, ⟨some 11, .mov (.t 18), none⟩, ⟨some 19, .ext 0 (.t 11), none⟩, ⟨some 20, .ext 1 (.t 11), none⟩, ⟨some 5, .mov (.t 19), none⟩, ⟨some 6, .mov (.t 20), none⟩])
 (.seq (.reg false [] [1, 3, 4, 36] [⟨some 21, .mov (.t 5), none⟩, ⟨some 22, .fad 0 (.t 1), none⟩, ⟨some 23, .ld 1 false (.t 22), none⟩, ⟨some 24, .bin .lss (.t 21) (.t 23), none⟩, ⟨some 25, .mov (.t 24), none⟩, ⟨some 26, .mov (.t 5), some (25, false)⟩, ⟨some 27, .fad 0 (.t 1), some (25, false)⟩, ⟨some 28, .ld 1 false (.t 27), some (25, false)⟩, ⟨some 29, .bin .eql (.t 26) (.t 28), some (25, false)⟩, ⟨some 30, .mov (.t 29), some (25, false)⟩, ⟨some 31, .mov (.t 6), some (30, true)⟩, ⟨some 32, .fad 1 (.t 1), some (30, true)⟩, ⟨some 33, .ld 1 false (.t 32), some (30, true)⟩, ⟨some 34, .bin .leq (.t 31) (.t 33), some (30, true)⟩, ⟨some 35, .pick (.t 30) (.t 34) (.c (.bool false)), some (25, false)⟩, ⟨some 36, .pick (.t 25) (.c (.bool true)) (.t 35), none⟩])
 (.cond (.t 36) (.reg false [] [1, 3, 4] [⟨some 37, .mov (.t 3), none⟩, ⟨some 38, .mov (.t 4), none⟩, ⟨some 39, .bin .or (.t 37) (.t 38), none⟩, ⟨some 3, .mov (.t 39), none⟩])
 .skip))))
 (.reg false [] [1, 3, 4] [⟨some 9, .mov (.t 4), none⟩, ⟨some 10, .bin .shr (.t 9) (.c (.int .u64 1)), none⟩, ⟨some 4, .mov (.t 10), none⟩]))))))
 (.seq (.reg false [] [2] [⟨some 40, .mov (.t 3), none⟩, ⟨some 41, .conv .i64 (.t 40), none⟩, ⟨some 2, .mov (.t 41), none⟩])
 .ret)))) }

/-- sewershed/sewershedref01.Digit -/
def N78_ref01_Digit : NFun := { np := 1, nt := 9, res := [(2, none)], body :=
 (.seq (.reg false [] [0] [⟨some 2, .mov (.c (.bool false)), none⟩])
 (.seq (.reg false [] [2] [⟨some 3, .mov (.t 0), none⟩, ⟨some 4, .bin .geq (.t 3) (.c (.int .u8 48)), none⟩, ⟨some 5, .mov (.t 4), none⟩, ⟨some 6, .mov (.t 0), some (5, true)⟩, ⟨some 7, .bin .leq (.t 6) (.c (.int .u8 57)), some (5, true)⟩, ⟨some 8, .pick (.t 5) (.t 7) (.c (.bool false)), none⟩, ⟨some 2, .mov (.t 8), none⟩])
 .ret)) }

/-- sewershed/sewershedref06.Number -/
def N79_ref06_Number : NFun := { np := 1, nt := 9, res := [(2, none)], body :=
 (.seq (.reg false [] [0] [⟨some 2, .mov (.c (.bool false)), none⟩])
 (.seq (.reg false [] [2] [⟨some 3, .mov (.t 0), none⟩, ⟨some 4, .bin .geq (.t 3) (.c (.int .i64 (-1125899906842624))), none⟩, ⟨some 5, .mov (.t 4), none⟩, ⟨some 6, .mov (.t 0), some (5, true)⟩, ⟨some 7, .bin .leq (.t 6) (.c (.int .i64 1125899906842624)), some (5, true)⟩, ⟨some 8, .pick (.t 5) (.t 7) (.c (.bool false)), none⟩, ⟨some 2, .mov (.t 8), none⟩])
 .ret)) }

/-- sewershed/decimal.digit -/
def N88_decimal_digit : NFun := { np := 1, nt := 9, res := [(2, none)], body :=
 (.seq (.reg false [] [0] [⟨some 2, .mov (.c (.bool false)), none⟩])
 (.seq (.reg false [] [2] [⟨some 3, .mov (.t 0), none⟩, ⟨some 4, .bin .geq (.t 3) (.c (.int .u8 48)), none⟩, ⟨some 5, .mov (.t 4), none⟩, ⟨some 6, .mov (.t 0), some (5, true)⟩, ⟨some 7, .bin .leq (.t 6) (.c (.int .u8 57)), some (5, true)⟩, ⟨some 8, .pick (.t 5) (.t 7) (.c (.bool false)), none⟩, ⟨some 2, .mov (.t 8), none⟩])
 .ret)) }

/-- sewershed/table.fits -/
def N89_table_fits : NFun := { np := 1, nt := 9, res := [(2, none)], body :=
 (.seq (.reg false [] [0] [⟨some 2, .mov (.c (.bool false)), none⟩])
 (.seq (.reg false [] [2] [⟨some 3, .mov (.t 0), none⟩, ⟨some 4, .bin .geq (.t 3) (.c (.int .i64 (-1125899906842624))), none⟩, ⟨some 5, .mov (.t 4), none⟩, ⟨some 6, .mov (.t 0), some (5, true)⟩, ⟨some 7, .bin .leq (.t 6) (.c (.int .i64 1125899906842624)), some (5, true)⟩, ⟨some 8, .pick (.t 5) (.t 7) (.c (.bool false)), none⟩, ⟨some 2, .mov (.t 8), none⟩])
 .ret)) }

/-- sewershed/table.piece -/
def N90_table_piece : NFun := { np := 2, nt := 110, res := [(4, none), (5, none), (6, none)], body :=
 (.seq (.reg false [] [0, 1] [⟨some 4, .mov (.c (.int .i64 0)), none⟩, ⟨some 5, .mov (.c (.int .i64 0)), none⟩, ⟨some 6, .mov (.c (.int .i64 0)), none⟩])
 (.seq (.reg false [] [0, 1, 7, 8] [⟨some 23, .mov (.t 0), none⟩, ⟨some 24, .mov (.t 1), none⟩, ⟨some 25, .call 96 [(.t 23), (.t 24), (.c (.fn 97 []))] [], none⟩, ⟨some 22, .mov (.t 25), none⟩, ⟨some 26, .ext 0 (.t 22), none⟩, ⟨some 27, .ext 1 (.t 22), none⟩, ⟨some 7, .mov (.t 26), none⟩, ⟨some 8, .mov (.t 27), none⟩])
 (.seq (.block 0 (.seq (.reg false [] [0, 1, 7, 28] [⟨some 29, .mov (.t 8), none⟩, ⟨some 30, .mov (.t 29), none⟩, ⟨some 31, .mov (.t 7), some (30, false)⟩, ⟨some 32, .bin .eql (.t 31) (.c (.int .i64 0)), some (30, false)⟩, ⟨some 33, .pick (.t 30) (.c (.bool true)) (.t 32), none⟩, ⟨some 28, .mov (.t 33), none⟩])
 (.cond (.t 28) (.seq (.reg false [] [4, 5, 6] [⟨some 34, .asg (.t 0), none⟩, ⟨some 35, .mov (.t 7), none⟩, ⟨some 36, .iadS 2 (.t 34) (.t 35), none⟩, ⟨some 37, .fad 1 (.t 36), none⟩, ⟨some 38, .ld 1 false (.t 37), none⟩, ⟨some 4, .mov (.t 38), none⟩, ⟨some 5, .mov (.c (.int .i64 0)), none⟩, ⟨some 6, .mov (.c (.int .i64 1)), none⟩])
 .ret)
 (.seq (.reg false [] [0, 1, 7, 39] [⟨some 40, .mov (.t 7), none⟩, ⟨some 41, .mov (.t 0), none⟩, ⟨some 42, .len (.t 41), none⟩, ⟨some 43, .bin .eql (.t 40) (.t 42), none⟩, ⟨some 39, .mov (.t 43), none⟩])
 (.cond (.t 39) (.seq (.reg false [] [4, 5, 6] [⟨some 44, .asg (.t 0), none⟩, ⟨some 45, .mov (.t 7), none⟩, ⟨some 46, .bin .sub (.t 45) (.c (.int .i64 1)), none⟩, ⟨some 47, .iadS 2 (.t 44) (.t 46), none⟩, ⟨some 48, .fad 1 (.t 47), none⟩, ⟨some 49, .ld 1 false (.t 48), none⟩, ⟨some 4, .mov (.t 49), none⟩, ⟨some 5, .mov (.c (.int .i64 0)), none⟩, ⟨some 6, .mov (.c (.int .i64 1)), none⟩])
 .ret)
 .skip)))))
 (.seq (.reg true [0, 0, 2, 7, 15, 0, 0, 96, 224, 0, 0, 1567, 4095] [1, 9, 10] [⟨some 50, .mov (.t 0), none⟩, ⟨some 51, .mov (.t 7), none⟩, ⟨some 52, .bin .sub (.t 51) (.c (.int .i64 1)), none⟩, ⟨some 53, .iadS 2 (.t 50) (.t 52), none⟩, ⟨some 54, .ld 2 true (.t 53), none⟩, ⟨some 55, .asg (.t 0), none⟩, ⟨some 56, .mov (.t 7), none⟩, ⟨some 57, .iadS 2 (.t 55) (.t 56), none⟩, ⟨some 58, .ld 2 true (.t 57), none⟩, ⟨some 9, .alc [.int .i64 0, .int .i64 0], none⟩, ⟨some 10, .alc [.int .i64 0, .int .i64 0], none⟩, ⟨none, .st 2 [] (.t 9) (.t 54), none⟩, ⟨none, .st 2 [] (.t 10) (.t 58), none⟩])
 (.seq (.reg true [0, 1, 0, 4, 15, 0, 0, 64, 224, 0, 512, 0, 2048, 7680, 31, 16895, 65535] [6, 9, 11, 12] [⟨some 59, .fad 1 (.t 10), none⟩, ⟨some 60, .ld 1 false (.t 59), none⟩, ⟨some 61, .fad 1 (.t 9), none⟩, ⟨some 62, .ld 1 false (.t 61), none⟩, ⟨some 63, .bin .sub (.t 60) (.t 62), none⟩, ⟨some 64, .mov (.t 1), none⟩, ⟨some 65, .fad 0 (.t 9), none⟩, ⟨some 66, .ld 1 false (.t 65), none⟩, ⟨some 67, .bin .sub (.t 64) (.t 66), none⟩, ⟨some 68, .fad 0 (.t 10), none⟩, ⟨some 69, .ld 1 false (.t 68), none⟩, ⟨some 70, .fad 0 (.t 9), none⟩, ⟨some 71, .ld 1 false (.t 70), none⟩, ⟨some 72, .bin .sub (.t 69) (.t 71), none⟩, ⟨some 11, .mov (.t 63), none⟩, ⟨some 12, .mov (.t 67), none⟩, ⟨some 6, .mov (.t 72), none⟩])
 (.seq (.reg false [] [6, 9, 11, 12, 13] [⟨some 74, .mov (.t 11), none⟩, ⟨some 75, .mov (.t 12), none⟩, ⟨some 76, .mov (.t 6), none⟩, ⟨some 77, .call 98 [(.t 74), (.t 75), (.t 76)] [], none⟩, ⟨some 73, .mov (.t 77), none⟩, ⟨some 78, .ext 0 (.t 73), none⟩, ⟨some 79, .ext 1 (.t 73), none⟩, ⟨some 80, .ext 2 (.t 73), none⟩, ⟨some 13, .mov (.t 78), none⟩, ⟨some 14, .mov (.t 79), none⟩, ⟨some 15, .mov (.t 80), none⟩])
 (.seq (.reg false [] [6, 9, 13, 16] [⟨some 82, .mov (.t 11), none⟩, ⟨some 83, .mov (.t 12), none⟩, ⟨some 84, .call 99 [(.t 82), (.t 83)] [], none⟩, ⟨some 81, .mov (.t 84), none⟩, ⟨some 85, .ext 0 (.t 81), none⟩, ⟨some 86, .ext 1 (.t 81), none⟩, ⟨some 16, .alc [.int .i64 0, .int .i64 0], none⟩, ⟨none, .st 2 [] (.t 16) (.t 85), none⟩, ⟨some 17, .mov (.t 86), none⟩])
 (.seq (.reg false [] [6, 9, 13, 16, 18] [⟨some 88, .mov (.t 13), none⟩, ⟨some 89, .mov (.t 6), none⟩, ⟨some 90, .call 99 [(.t 88), (.t 89)] [], none⟩, ⟨some 87, .mov (.t 90), none⟩, ⟨some 91, .ext 0 (.t 87), none⟩, ⟨some 92, .ext 1 (.t 87), none⟩, ⟨some 18, .alc [.int .i64 0, .int .i64 0], none⟩, ⟨none, .st 2 [] (.t 18) (.t 91), none⟩, ⟨some 19, .mov (.t 92), none⟩])
 (.seq (.reg false [] [6, 9, 13, 20] [⟨some 94, .ld 2 true (.t 16), none⟩, ⟨some 95, .ld 2 true (.t 18), none⟩, ⟨some 96, .call 100 [(.t 94), (.t 95)] [], none⟩, ⟨some 93, .mov (.t 96), none⟩, ⟨some 97, .ext 0 (.t 93), none⟩, ⟨some 98, .ext 1 (.t 93), none⟩, ⟨some 20, .alc [.int .i64 0, .int .i64 0], none⟩, ⟨none, .st 2 [] (.t 20) (.t 97), none⟩, ⟨some 21, .mov (.t 98), none⟩])
 (.seq (.reg false [] [5, 6, 9, 13] [⟨some 100, .ld 2 true (.t 20), none⟩, ⟨some 101, .call 101 [(.t 100)] [], none⟩, ⟨some 99, .mov (.t 101), none⟩, ⟨some 102, .ext 0 (.t 99), none⟩, ⟨some 103, .ext 1 (.t 99), none⟩, ⟨some 5, .mov (.t 102), none⟩])
 (.seq (.reg false [] [4, 5, 6] [⟨some 104, .fad 1 (.t 9), none⟩, ⟨some 105, .ld 1 false (.t 104), none⟩, ⟨some 106, .mov (.t 13), none⟩, ⟨some 107, .bin .add (.t 105) (.t 106), none⟩, ⟨some 108, .mov (.t 5), none⟩, ⟨some 109, .mov (.t 6), none⟩, ⟨some 4, .mov (.t 107), none⟩, ⟨some 5, .mov (.t 108), none⟩, ⟨some 6, .mov (.t 109), none⟩])
 .ret))))))))))) }

/-- math/bits.Mul64 -/
def N91_math_bits_Mul64 : NFun := { np := 2, nt := 51, res := [(4, none), (5, none)], body :=
 (.seq (.reg false [] [0, 1] [⟨some 4, .mov (.c (.int .u64 0)), none⟩, ⟨some 5, .mov (.c (.int .u64 0)), none⟩])
 (.seq (.reg false [] [0, 1, 6] [⟨some 14, .mov (.t 0), none⟩, ⟨some 15, .bin .and (.t 14) (.c (.int .u64 4294967295)), none⟩, ⟨some 6, .mov (.t 15), none⟩])
 (.seq (.reg false [] [0, 1, 6, 7] [⟨some 16, .mov (.t 0), none⟩, ⟨some 17, .bin .shr (.t 16) (.c (.int .u64 32)), none⟩, ⟨some 7, .mov (.t 17), none⟩])
 (.seq (.reg false [] [0, 1, 6, 7, 8] [⟨some 18, .mov (.t 1), none⟩, ⟨some 19, .bin .and (.t 18) (.c (.int .u64 4294967295)), none⟩, ⟨some 8, .mov (.t 19), none⟩])
 (.seq (.reg false [] [0, 1, 6, 7, 8, 9] [⟨some 20, .mov (.t 1), none⟩, ⟨some 21, .bin .shr (.t 20) (.c (.int .u64 32)), none⟩, ⟨some 9, .mov (.t 21), none⟩])
 (.seq (.reg false [] [0, 1, 6, 7, 8, 9, 10] [⟨some 22, .mov (.t 6), none⟩, ⟨some 23, .mov (.t 8), none⟩, ⟨some 24, .bin .mul (.t 22) (.t 23), none⟩, ⟨some 10, .mov (.t 24), none⟩])
 (.seq (.reg false [] [0, 1, 6, 7, 9, 11] [⟨some 25, .mov (.t 7), none⟩, ⟨some 26, .mov (.t 8), none⟩, ⟨some 27, .bin .mul (.t 25) (.t 26), none⟩, ⟨some 28, .mov (.t 10), none⟩, ⟨some 29, .bin .shr (.t 28) (.c (.int .u64 32)), none⟩, ⟨some 30, .bin .add (.t 27) (.t 29), none⟩, ⟨some 11, .mov (.t 30), none⟩])
 (.seq (.reg false [] [0, 1, 6, 7, 9, 11, 12] [⟨some 31, .mov (.t 11), none⟩, ⟨some 32, .bin .and (.t 31) (.c (.int .u64 4294967295)), none⟩, ⟨some 12, .mov (.t 32), none⟩])
 (.seq (.reg false [] [0, 1, 6, 7, 9, 12, 13] [⟨some 33, .mov (.t 11), none⟩, ⟨some 34, .bin .shr (.t 33) (.c (.int .u64 32)), none⟩, ⟨some 13, .mov (.t 34), none⟩])
 (.seq (.reg false [] [0, 1, 7, 9, 12, 13] [⟨some 35, .mov (.t 12), none⟩, ⟨some 36, .mov (.t 6), none⟩, ⟨some 37, .mov (.t 9), none⟩, ⟨some 38, .bin .mul (.t 36) (.t 37), none⟩, ⟨some 39, .bin .add (.t 35) (.t 38), none⟩, ⟨some 12, .mov (.t 39), none⟩])
 (.seq (.reg false [] [0, 1, 4] [⟨some 40, .mov (.t 7), none⟩, ⟨some 41, .mov (.t 9), none⟩, ⟨some 42, .bin .mul (.t 40) (.t 41), none⟩, ⟨some 43, .mov (.t 13), none⟩, ⟨some 44, .bin .add (.t 42) (.t 43), none⟩, ⟨some 45, .mov (.t 12), none⟩, ⟨some 46, .bin .shr (.t 45) (.c (.int .u64 32)), none⟩, ⟨some 47, .bin .add (.t 44) (.t 46), none⟩, ⟨some 4, .mov (.t 47), none⟩])
 (.seq (.reg false [] [4, 5] [⟨some 48, .mov (.t 0), none⟩, ⟨some 49, .mov (.t 1), none⟩, ⟨some 50, .bin .mul (.t 48) (.t 49), none⟩, ⟨some 5, .mov (.t 50), none⟩])
 .ret)))))))))))) }

/-- math/bits.Div64 -/
def N92_math_bits_Div64 : NFun := { np := 3, nt := 135, res := [(6, none), (7, none)], body :=
 (.seq (.reg false [] [0, 1, 2] [⟨some 6, .mov (.c (.int .u64 0)), none⟩, ⟨some 7, .mov (.c (.int .u64 0)), none⟩])
 (.seq (.seq (.reg false [] [0, 1, 2, 20] [⟨some 19, .mov (.t 2), none⟩, ⟨some 20, .bin .eql (.t 19) (.c (.int .u64 0)), none⟩])
 (.cond (.t 20) (.reg false [] [0, 1, 2] [⟨some 21, .dead, none⟩, ⟨none, .dead, none⟩])
 .skip))
 (.seq (.seq (.reg false [] [0, 1, 2, 24] [⟨some 22, .mov (.t 2), none⟩, ⟨some 23, .mov (.t 0), none⟩, ⟨some 24, .bin .leq (.t 22) (.t 23), none⟩])
 (.cond (.t 24) (.reg false [] [0, 1, 2] [⟨some 25, .dead, none⟩, ⟨none, .dead, none⟩])
 .skip))
 (.seq (.seq (.reg false [] [0, 1, 2, 27] [⟨some 26, .mov (.t 0), none⟩, ⟨some 27, .bin .eql (.t 26) (.c (.int .u64 0)), none⟩])
 (.cond (.t 27) (.seq (.reg true [0, 0, 3, 0, 0, 24, 7, 127] [6, 7] [⟨some 28, .mov (.t 1), none⟩, ⟨some 29, .mov (.t 2), none⟩, ⟨some 30, .bin .quo (.t 28) (.t 29), none⟩, ⟨some 31, .mov (.t 1), none⟩, ⟨some 32, .mov (.t 2), none⟩, ⟨some 33, .bin .rem (.t 31) (.t 32), none⟩, ⟨some 6, .mov (.t 30), none⟩, ⟨some 7, .mov (.t 33), none⟩])
 .ret)
 .skip))
 (.seq (.reg false [] [0, 1, 2, 8] [⟨some 34, .mov (.t 2), none⟩, ⟨some 35, .call 102 [(.t 34)] [], none⟩, ⟨some 36, .conv .u64 (.t 35), none⟩, ⟨some 8, .mov (.t 36), none⟩])
 (.seq (.reg false [] [0, 1, 2, 8] [⟨some 37, .mov (.t 2), none⟩, ⟨some 38, .mov (.t 8), none⟩, ⟨some 39, .bin .shl (.t 37) (.t 38), none⟩, ⟨some 2, .mov (.t 39), none⟩])
 (.seq (.reg false [] [0, 1, 2, 8, 9] [⟨some 40, .mov (.t 2), none⟩, ⟨some 41, .bin .shr (.t 40) (.c (.int .u64 32)), none⟩, ⟨some 9, .mov (.t 41), none⟩])
 (.seq (.reg false [] [0, 1, 2, 8, 9, 10] [⟨some 42, .mov (.t 2), none⟩, ⟨some 43, .bin .and (.t 42) (.c (.int .u64 4294967295)), none⟩, ⟨some 10, .mov (.t 43), none⟩])
 (.seq (.reg false [] [1, 2, 8, 9, 10, 11] [⟨some 44, .mov (.t 0), none⟩, ⟨some 45, .mov (.t 8), none⟩, ⟨some 46, .bin .shl (.t 44) (.t 45), none⟩, ⟨some 47, .mov (.t 1), none⟩, ⟨some 48, .mov (.t 8), none⟩, ⟨some 49, .bin .sub (.c (.int .u64 64)) (.t 48), none⟩, ⟨some 50, .bin .shr (.t 47) (.t 49), none⟩, ⟨some 51, .bin .or (.t 46) (.t 50), none⟩, ⟨some 11, .mov (.t 51), none⟩])
 (.seq (.reg false [] [2, 8, 9, 10, 11, 12] [⟨some 52, .mov (.t 1), none⟩, ⟨some 53, .mov (.t 8), none⟩, ⟨some 54, .bin .shl (.t 52) (.t 53), none⟩, ⟨some 12, .mov (.t 54), none⟩])
 (.seq (.reg false [] [2, 8, 9, 10, 11, 12, 13] [⟨some 55, .mov (.t 12), none⟩, ⟨some 56, .bin .shr (.t 55) (.c (.int .u64 32)), none⟩, ⟨some 13, .mov (.t 56), none⟩])
 (.seq (.reg false [] [2, 8, 9, 10, 11, 13, 14] [⟨some 57, .mov (.t 12), none⟩, ⟨some 58, .bin .and (.t 57) (.c (.int .u64 4294967295)), none⟩, ⟨some 14, .mov (.t 58), none⟩])
 (.seq (.reg false [] [2, 8, 9, 10, 11, 13, 14, 15] [⟨some 59, .mov (.t 11), none⟩, ⟨some 60, .mov (.t 9), none⟩, ⟨some 61, .bin .quo (.t 59) (.t 60), none⟩, ⟨some 15, .mov (.t 61), none⟩])
 (.seq (.reg false [] [2, 8, 9, 10, 11, 13, 14, 15, 16] [⟨some 62, .mov (.t 11), none⟩, ⟨some 63, .mov (.t 15), none⟩, ⟨some 64, .mov (.t 9), none⟩, ⟨some 65, .bin .mul (.t 63) (.t 64), none⟩, ⟨some 66, .bin .sub (.t 62) (.t 65), none⟩, ⟨some 16, .mov (.t 66), none⟩])
 (.seq (.block 0 (.loop (.seq (.seq (.reg false [] [2, 8, 9, 10, 11, 13, 14, 15, 16, 78] [⟨some 67, .mov (.t 15), none⟩, ⟨some 68, .bin .geq (.t 67) (.c (.int .u64 4294967296)), none⟩, ⟨some 69, .mov (.t 68), none⟩, ⟨some 70, .mov (.t 15), some (69, false)⟩, ⟨some 71, .mov (.t 10), some (69, false)⟩, ⟨some 72, .bin .mul (.t 70) (.t 71), some (69, false)⟩, ⟨some 73, .mov (.t 16), some (69, false)⟩, ⟨some 74, .bin .mul (.c (.int .u64 4294967296)) (.t 73), some (69, false)⟩, ⟨some 75, .mov (.t 13), some (69, false)⟩, ⟨some 76, .bin .add (.t 74) (.t 75), some (69, false)⟩, ⟨some 77, .bin .gtr (.t 72) (.t 76), some (69, false)⟩, ⟨some 78, .pick (.t 69) (.c (.bool true)) (.t 77), none⟩])
 (.cond (.t 78) .skip
 (.exit 0)))
 (.block 1 (.seq (.reg false [] [2, 8, 9, 10, 11, 13, 14, 15, 16] [⟨some 79, .mov (.t 15), none⟩, ⟨some 80, .bin .sub (.t 79) (.c (.int .u64 1)), none⟩, ⟨some 15, .mov (.t 80), none⟩])
 (.seq (.reg false [] [2, 8, 9, 10, 11, 13, 14, 15, 16] [⟨some 81, .mov (.t 16), none⟩, ⟨some 82, .mov (.t 9), none⟩, ⟨some 83, .bin .add (.t 81) (.t 82), none⟩, ⟨some 16, .mov (.t 83), none⟩])
 (.seq (.reg false [] [2, 8, 9, 10, 11, 13, 14, 15, 16, 85] [⟨some 84, .mov (.t 16), none⟩, ⟨some 85, .bin .geq (.t 84) (.c (.int .u64 4294967296)), none⟩])
 (.cond (.t 85) (.exit 0)
 .skip))))))))
 (.seq (.reg false [] [2, 8, 9, 10, 14, 15, 17] [⟨some 86, .mov (.t 11), none⟩, ⟨some 87, .bin .mul (.t 86) (.c (.int .u64 4294967296)), none⟩, ⟨some 88, .mov (.t 13), none⟩, ⟨some 89, .bin .add (.t 87) (.t 88), none⟩, ⟨some 90, .mov (.t 15), none⟩, ⟨some 91, .mov (.t 2), none⟩, ⟨some 92, .bin .mul (.t 90) (.t 91), none⟩, ⟨some 93, .bin .sub (.t 89) (.t 92), none⟩, ⟨some 17, .mov (.t 93), none⟩])
 (.seq (.reg false [] [2, 8, 9, 10, 14, 15, 17, 18] [⟨some 94, .mov (.t 17), none⟩, ⟨some 95, .mov (.t 9), none⟩, ⟨some 96, .bin .quo (.t 94) (.t 95), none⟩, ⟨some 18, .mov (.t 96), none⟩])
 (.seq (.reg false [] [2, 8, 9, 10, 14, 15, 16, 17, 18] [⟨some 97, .mov (.t 17), none⟩, ⟨some 98, .mov (.t 18), none⟩, ⟨some 99, .mov (.t 9), none⟩, ⟨some 100, .bin .mul (.t 98) (.t 99), none⟩, ⟨some 101, .bin .sub (.t 97) (.t 100), none⟩, ⟨some 16, .mov (.t 101), none⟩])
 (.seq (.block 2 (.loop (.seq (.seq (.reg false [] [2, 8, 9, 10, 14, 15, 16, 17, 18, 113] [⟨some 102, .mov (.t 18), none⟩, ⟨some 103, .bin .geq (.t 102) (.c (.int .u64 4294967296)), none⟩, ⟨some 104, .mov (.t 103), none⟩, ⟨some 105, .mov (.t 18), some (104, false)⟩, ⟨some 106, .mov (.t 10), some (104, false)⟩, ⟨some 107, .bin .mul (.t 105) (.t 106), some (104, false)⟩, ⟨some 108, .mov (.t 16), some (104, false)⟩, ⟨some 109, .bin .mul (.c (.int .u64 4294967296)) (.t 108), some (104, false)⟩, ⟨some 110, .mov (.t 14), some (104, false)⟩, ⟨some 111, .bin .add (.t 109) (.t 110), some (104, false)⟩, ⟨some 112, .bin .gtr (.t 107) (.t 111), some (104, false)⟩, ⟨some 113, .pick (.t 104) (.c (.bool true)) (.t 112), none⟩])
 (.cond (.t 113) .skip
 (.exit 2)))
 (.block 3 (.seq (.reg false [] [2, 8, 9, 10, 14, 15, 16, 17, 18] [⟨some 114, .mov (.t 18), none⟩, ⟨some 115, .bin .sub (.t 114) (.c (.int .u64 1)), none⟩, ⟨some 18, .mov (.t 115), none⟩])
 (.seq (.reg false [] [2, 8, 9, 10, 14, 15, 16, 17, 18] [⟨some 116, .mov (.t 16), none⟩, ⟨some 117, .mov (.t 9), none⟩, ⟨some 118, .bin .add (.t 116) (.t 117), none⟩, ⟨some 16, .mov (.t 118), none⟩])
 (.seq (.reg false [] [2, 8, 9, 10, 14, 15, 16, 17, 18, 120] [⟨some 119, .mov (.t 16), none⟩, ⟨some 120, .bin .geq (.t 119) (.c (.int .u64 4294967296)), none⟩])
 (.cond (.t 120) (.exit 2)
 .skip))))))))
 (.seq (.reg false [] [6, 7] [⟨some 121, .mov (.t 15), none⟩, ⟨some 122, .bin .mul (.t 121) (.c (.int .u64 4294967296)), none⟩, ⟨some 123, .mov (.t 18), none⟩, ⟨some 124, .bin .add (.t 122) (.t 123), none⟩, ⟨some 125, .mov (.t 17), none⟩, ⟨some 126, .bin .mul (.t 125) (.c (.int .u64 4294967296)), none⟩, ⟨some 127, .mov (.t 14), none⟩, ⟨some 128, .bin .add (.t 126) (.t 127), none⟩, ⟨some 129, .mov (.t 18), none⟩, ⟨some 130, .mov (.t 2), none⟩, ⟨some 131, .bin .mul (.t 129) (.t 130), none⟩, ⟨some 132, .bin .sub (.t 128) (.t 131), none⟩, ⟨some 133, .mov (.t 8), none⟩, ⟨some 134, .bin .shr (.t 132) (.t 133), none⟩, ⟨some 6, .mov (.t 124), none⟩, ⟨some 7, .mov (.t 134), none⟩])
 .ret)))))))))))))))))))) }

/-- slices.BinarySearchFunc[sewershed/api.Table,sewershed/api.Knot,int] -/
def N96_slices_BinarySearchFunc_api_Table_api_Knot_int : NFun := { np := 3, nt := 49, res := [(6, none), (7, none)], body :=
 (.seq (.reg false [] [0, 1, 2] [⟨some 6, .mov (.c (.int .i64 0)), none⟩, ⟨some 7, .mov (.c (.bool false)), none⟩])
 (.seq (.reg false [] [0, 1, 2, 8] [⟨some 12, .mov (.t 0), none⟩, ⟨some 13, .len (.t 12), none⟩, ⟨some 8, .mov (.t 13), none⟩])
 (.seq (.reg false [] [0, 1, 2, 8, 9, 10] [⟨some 14, .mov (.t 8), none⟩, ⟨some 9, .mov (.c (.int .i64 0)), none⟩, ⟨some 10, .mov (.t 14), none⟩])
 (.seq (.block 0 (.loop (.seq (.seq (.reg false [] [0, 1, 2, 8, 9, 10, 17] [⟨some 15, .mov (.t 9), none⟩, ⟨some 16, .mov (.t 10), none⟩, ⟨some 17, .bin .lss (.t 15) (.t 16), none⟩])
 (.cond (.t 17) .skip
 (.exit 0)))
 (.block 1 (.seq (.reg false [] [0, 1, 2, 8, 9, 10, 11] [⟨some 18, .mov (.t 9), none⟩, ⟨some 19, .mov (.t 10), none⟩, ⟨some 20, .bin .add (.t 18) (.t 19), none⟩, ⟨some 21, .conv .u64 (.t 20), none⟩, ⟨some 22, .bin .shr (.t 21) (.c (.int .u64 1)), none⟩, ⟨some 23, .conv .i64 (.t 22), none⟩, ⟨some 11, .mov (.t 23), none⟩])
 (.seq (.reg false [] [0, 1, 2, 8, 9, 10, 11, 31] [⟨some 24, .mov (.t 2), none⟩, ⟨some 25, .mov (.t 0), none⟩, ⟨some 26, .mov (.t 11), none⟩, ⟨some 27, .iadS 2 (.t 25) (.t 26), none⟩, ⟨some 28, .ld 2 true (.t 27), none⟩, ⟨some 29, .mov (.t 1), none⟩, ⟨some 30, .callv (.t 24) [(.t 28), (.t 29)], none⟩, ⟨some 31, .bin .lss (.t 30) (.c (.int .i64 0)), none⟩])
 (.cond (.t 31) (.reg false [] [0, 1, 2, 8, 9, 10] [⟨some 32, .mov (.t 11), none⟩, ⟨some 33, .bin .add (.t 32) (.c (.int .i64 1)), none⟩, ⟨some 9, .mov (.t 33), none⟩])
 (.reg false [] [0, 1, 2, 8, 9, 10] [⟨some 34, .mov (.t 11), none⟩, ⟨some 10, .mov (.t 34), none⟩]))))))))
 (.seq (.reg false [] [6, 7] [⟨some 35, .mov (.t 9), none⟩, ⟨some 36, .mov (.t 9), none⟩, ⟨some 37, .mov (.t 8), none⟩, ⟨some 38, .bin .lss (.t 36) (.t 37), none⟩, ⟨some 39, .mov (.t 38), none⟩, ⟨some 40, .mov (.t 2), some (39, true)⟩, ⟨some 41, .asg (.t 0), some (39, true)⟩, ⟨some 42, .mov (.t 9), some (39, true)⟩, ⟨some 43, .iadS 2 (.t 41) (.t 42), some (39, true)⟩, ⟨some 44, .ld 2 true (.t 43), some (39, true)⟩, ⟨some 45, .mov (.t 1), some (39, true)⟩, ⟨some 46, .callv (.t 40) [(.t 44), (.t 45)], some (39, true)⟩, ⟨some 47, .bin .eql (.t 46) (.c (.int .i64 0)), some (39, true)⟩, ⟨some 48, .pick (.t 39) (.t 47) (.c (.bool false)), none⟩, ⟨some 6, .mov (.t 35), none⟩, ⟨some 7, .mov (.t 48), none⟩])
 .ret))))) }

/-- sewershed/table.piece$1 -/
def N97_table_piece_1 : NFun := { np := 2, nt := 15, res := [(4, none)], body :=
 (.seq (.reg false [] [1, 2] [⟨some 2, .boxF (.t 0), none⟩, ⟨some 4, .mov (.c (.int .i64 0)), none⟩])
 (.seq (.block 0 (.seq (.reg false [] [1, 2, 5] [⟨some 6, .fad 0 (.t 2), none⟩, ⟨some 7, .ld 1 false (.t 6), none⟩, ⟨some 8, .mov (.t 1), none⟩, ⟨some 9, .bin .lss (.t 7) (.t 8), none⟩, ⟨some 5, .mov (.t 9), none⟩])
 (.cond (.t 5) (.seq (.reg false [] [4] [⟨some 4, .mov (.c (.int .i64 (-1))), none⟩])
 .ret)
 (.seq (.reg false [] [10] [⟨some 11, .fad 0 (.t 2), none⟩, ⟨some 12, .ld 1 false (.t 11), none⟩, ⟨some 13, .mov (.t 1), none⟩, ⟨some 14, .bin .gtr (.t 12) (.t 13), none⟩, ⟨some 10, .mov (.t 14), none⟩])
 (.cond (.t 10) (.seq (.reg false [] [4] [⟨some 4, .mov (.c (.int .i64 1)), none⟩])
 .ret)
 .skip)))))
 (.seq (.reg false [] [4] [⟨some 4, .mov (.c (.int .i64 0)), none⟩])
 .ret))) }

/-- sewershed/wide.Scale -/
def N98_wide_Scale : NFun := { np := 3, nt := 35, res := [(6, none), (7, none), (8, none)], body :=
 (.seq (.reg false [] [0, 1, 2] [⟨some 6, .mov (.c (.int .i64 0)), none⟩, ⟨some 7, .mov (.c (.int .i64 0)), none⟩, ⟨some 8, .mov (.c (.int .i64 0)), none⟩])
 (.seq (.seq (.reg false [] [0, 1, 2, 11] [⟨some 10, .mov (.t 2), none⟩, ⟨some 11, .bin .eql (.t 10) (.c (.int .i64 0)), none⟩])
 (.cond (.t 11) (.seq (.reg false [] [6, 7, 8] [⟨some 6, .mov (.c (.int .i64 0)), none⟩, ⟨some 7, .mov (.c (.int .i64 0)), none⟩, ⟨some 8, .mov (.c (.int .i64 16)), none⟩])
 .ret)
 .skip))
 (.seq (.reg false [] [2, 9] [⟨some 12, .mov (.t 0), none⟩, ⟨some 13, .mov (.t 1), none⟩, ⟨some 14, .call 103 [(.t 12), (.t 13)] [], none⟩, ⟨some 9, .alc [.int .u64 0, .int .u64 0, .bool false], none⟩, ⟨none, .st 3 [] (.t 9) (.t 14), none⟩])
 (.seq (.seq (.reg false [] [2, 6, 8, 9] [⟨some 16, .ld 3 true (.t 9), none⟩, ⟨some 17, .mov (.t 2), none⟩, ⟨some 18, .call 104 [(.t 16), (.t 17), (.c (.bool false))] [], none⟩, ⟨some 15, .mov (.t 18), none⟩, ⟨some 19, .ext 0 (.t 15), none⟩, ⟨some 20, .ext 1 (.t 15), none⟩, ⟨some 6, .mov (.t 19), none⟩, ⟨some 8, .mov (.t 20), none⟩])
 (.seq (.reg false [] [2, 6, 8, 9, 22] [⟨some 21, .mov (.t 8), none⟩, ⟨some 22, .bin .neq (.t 21) (.c (.int .i64 0)), none⟩])
 (.cond (.t 22) (.seq (.reg false [] [6, 7, 8] [⟨some 23, .mov (.t 8), none⟩, ⟨some 6, .mov (.c (.int .i64 0)), none⟩, ⟨some 7, .mov (.c (.int .i64 0)), none⟩, ⟨some 8, .mov (.t 23), none⟩])
 .ret)
 .skip)))
 (.seq (.seq (.reg false [] [6, 7, 8] [⟨some 25, .ld 3 true (.t 9), none⟩, ⟨some 26, .mov (.t 2), none⟩, ⟨some 27, .call 104 [(.t 25), (.t 26), (.c (.bool true))] [], none⟩, ⟨some 24, .mov (.t 27), none⟩, ⟨some 28, .ext 0 (.t 24), none⟩, ⟨some 29, .ext 1 (.t 24), none⟩, ⟨some 7, .mov (.t 28), none⟩, ⟨some 8, .mov (.t 29), none⟩])
 (.seq (.reg false [] [6, 7, 8, 31] [⟨some 30, .mov (.t 8), none⟩, ⟨some 31, .bin .neq (.t 30) (.c (.int .i64 0)), none⟩])
 (.cond (.t 31) (.seq (.reg false [] [6, 7, 8] [⟨some 32, .mov (.t 8), none⟩, ⟨some 6, .mov (.c (.int .i64 0)), none⟩, ⟨some 7, .mov (.c (.int .i64 0)), none⟩, ⟨some 8, .mov (.t 32), none⟩])
 .ret)
 .skip)))
 (.seq (.reg false [] [6, 7, 8] [⟨some 33, .mov (.t 6), none⟩, ⟨some 34, .mov (.t 7), none⟩, ⟨some 6, .mov (.t 33), none⟩, ⟨some 7, .mov (.t 34), none⟩, ⟨some 8, .mov (.c (.int .i64 0)), none⟩])
 .ret)))))) }

/-- sewershed/wide.Product -/
def N99_wide_Product : NFun := { np := 2, nt := 12, res := [(4, some (2, true)), (5, none)], body :=
 (.seq (.reg false [] [0, 1, 4] [⟨some 4, .alc [.int .i64 0, .int .i64 0], none⟩, ⟨some 5, .mov (.c (.int .i64 0)), none⟩])
 (.seq (.reg false [] [4, 5] [⟨some 6, .mov (.t 0), none⟩, ⟨some 7, .mov (.t 1), none⟩, ⟨some 8, .call 103 [(.t 6), (.t 7)] [], none⟩, ⟨some 9, .call 105 [(.t 8)] [], none⟩, ⟨some 10, .ext 0 (.t 9), none⟩, ⟨some 11, .ext 1 (.t 9), none⟩, ⟨none, .st 2 [] (.t 4) (.t 10), none⟩, ⟨some 5, .mov (.t 11), none⟩])
 .ret)) }

/-- sewershed/wide.Sub -/
def N100_wide_Sub : NFun := { np := 2, nt := 24, res := [(4, some (2, true)), (5, none)], body :=
 (.seq (.reg false [] [2, 3, 4] [⟨some 2, .boxF (.t 0), none⟩, ⟨some 3, .boxF (.t 1), none⟩, ⟨some 4, .alc [.int .i64 0, .int .i64 0], none⟩, ⟨some 5, .mov (.c (.int .i64 0)), none⟩])
 (.seq (.seq (.reg false [] [2, 3, 4, 13] [⟨some 6, .ld 2 true (.t 2), none⟩, ⟨some 7, .call 106 [(.t 6)] [], none⟩, ⟨some 8, .un .not (.t 7), none⟩, ⟨some 9, .mov (.t 8), none⟩, ⟨some 10, .ld 2 true (.t 3), some (9, false)⟩, ⟨some 11, .call 106 [(.t 10)] [], some (9, false)⟩, ⟨some 12, .un .not (.t 11), some (9, false)⟩, ⟨some 13, .pick (.t 9) (.c (.bool true)) (.t 12), none⟩])
 (.cond (.t 13) (.seq (.reg false [] [4, 5] [⟨some 14, .bld [.int .i64 0, .int .i64 0] [], none⟩, ⟨none, .st 2 [] (.t 4) (.t 14), none⟩, ⟨some 5, .mov (.c (.int .i64 1)), none⟩])
 .ret)
 .skip))
 (.seq (.reg true [0, 1, 0, 7, 15, 31, 63, 127, 127, 511, 1023] [4, 5] [⟨some 15, .ld 2 true (.t 2), none⟩, ⟨some 16, .call 108 [(.t 15)] [], none⟩, ⟨some 17, .ld 2 true (.t 3), none⟩, ⟨some 18, .call 108 [(.t 17)] [], none⟩, ⟨some 19, .call 109 [(.t 18)] [], none⟩, ⟨some 20, .call 107 [(.t 16), (.t 19)] [], none⟩, ⟨some 21, .call 105 [(.t 20)] [], none⟩, ⟨some 22, .ext 0 (.t 21), none⟩, ⟨some 23, .ext 1 (.t 21), none⟩, ⟨none, .st 2 [] (.t 4) (.t 22), none⟩, ⟨some 5, .mov (.t 23), none⟩])
 .ret))) }

/-- sewershed/wide.Int -/
def N101_wide_Int : NFun := { np := 1, nt := 20, res := [(2, none), (3, none)], body :=
 (.seq (.reg false [] [1] [⟨some 1, .boxF (.t 0), none⟩, ⟨some 2, .mov (.c (.int .i64 0)), none⟩, ⟨some 3, .mov (.c (.int .i64 0)), none⟩])
 (.seq (.seq (.reg false [] [1, 7] [⟨some 5, .ld 2 true (.t 1), none⟩, ⟨some 6, .call 106 [(.t 5)] [], none⟩, ⟨some 7, .un .not (.t 6), none⟩])
 (.cond (.t 7) (.seq (.reg false [] [2, 3] [⟨some 2, .mov (.c (.int .i64 0)), none⟩, ⟨some 3, .mov (.c (.int .i64 1)), none⟩])
 .ret)
 .skip))
 (.seq (.reg false [] [4] [⟨some 8, .ld 2 true (.t 1), none⟩, ⟨some 9, .call 108 [(.t 8)] [], none⟩, ⟨some 4, .alc [.int .u64 0, .int .u64 0, .bool false], none⟩, ⟨none, .st 3 [] (.t 4) (.t 9), none⟩])
 (.seq (.seq (.reg false [] [4, 12] [⟨some 10, .fad 0 (.t 4), none⟩, ⟨some 11, .ld 1 false (.t 10), none⟩, ⟨some 12, .bin .gtr (.t 11) (.c (.int .u64 0)), none⟩])
 (.cond (.t 12) (.seq (.reg false [] [2, 3] [⟨some 2, .mov (.c (.int .i64 0)), none⟩, ⟨some 3, .mov (.c (.int .i64 5)), none⟩])
 .ret)
 .skip))
 (.seq (.reg false [] [2, 3] [⟨some 13, .fad 1 (.t 4), none⟩, ⟨some 14, .ld 1 false (.t 13), none⟩, ⟨some 15, .fad 2 (.t 4), none⟩, ⟨some 16, .ld 1 false (.t 15), none⟩, ⟨some 17, .call 110 [(.t 14), (.t 16)] [], none⟩, ⟨some 18, .ext 0 (.t 17), none⟩, ⟨some 19, .ext 1 (.t 17), none⟩, ⟨some 2, .mov (.t 18), none⟩, ⟨some 3, .mov (.t 19), none⟩])
 .ret))))) }

/-- math/bits.LeadingZeros64 -/
def N102_math_bits_LeadingZeros64 : NFun := { np := 1, nt := 6, res := [(2, none)], body :=
 (.seq (.reg false [] [0] [⟨some 2, .mov (.c (.int .i64 0)), none⟩])
 (.seq (.reg false [] [2] [⟨some 3, .mov (.t 0), none⟩, ⟨some 4, .call 111 [(.t 3)] [], none⟩, ⟨some 5, .bin .sub (.c (.int .i64 64)) (.t 4), none⟩, ⟨some 2, .mov (.t 5), none⟩])
 .ret)) }

/-- sewershed/wide.times -/
def N103_wide_times : NFun := { np := 2, nt := 23, res := [(4, some (3, true))], body :=
 (.seq (.reg false [] [0, 1, 4] [⟨some 4, .alc [.int .u64 0, .int .u64 0, .bool false], none⟩])
 (.seq (.reg false [] [0, 1, 4, 5, 6] [⟨some 8, .mov (.t 0), none⟩, ⟨some 9, .call 112 [(.t 8)] [], none⟩, ⟨some 10, .mov (.t 1), none⟩, ⟨some 11, .call 112 [(.t 10)] [], none⟩, ⟨some 12, .call 91 [(.t 9), (.t 11)] [], none⟩, ⟨some 7, .mov (.t 12), none⟩, ⟨some 13, .ext 0 (.t 7), none⟩, ⟨some 14, .ext 1 (.t 7), none⟩, ⟨some 5, .mov (.t 13), none⟩, ⟨some 6, .mov (.t 14), none⟩])
 (.seq (.reg false [] [4] [⟨some 15, .mov (.t 5), none⟩, ⟨some 16, .mov (.t 6), none⟩, ⟨some 17, .mov (.t 0), none⟩, ⟨some 18, .bin .lss (.t 17) (.c (.int .i64 0)), none⟩, ⟨some 19, .mov (.t 1), none⟩, ⟨some 20, .bin .lss (.t 19) (.c (.int .i64 0)), none⟩, ⟨some 21, .beq true [] (.t 18) (.t 20), none⟩, ⟨some 22, .call 113 [(.t 15), (.t 16), (.t 21)] [], none⟩, ⟨none, .st 3 [] (.t 4) (.t 22), none⟩])
 .ret))) }

/-- sewershed/wide.quotient -/
def N104_wide_quotient : NFun := { np := 3, nt := 52, res := [(6, none), (7, none)], body :=
 (.seq (.reg false [] [1, 2, 3] [⟨some 3, .boxF (.t 0), none⟩, ⟨some 6, .mov (.c (.int .i64 0)), none⟩, ⟨some 7, .mov (.c (.int .i64 0)), none⟩])
 (.seq (.reg false [] [1, 2, 3, 8] [⟨some 12, .mov (.t 1), none⟩, ⟨some 13, .call 112 [(.t 12)] [], none⟩, ⟨some 8, .mov (.t 13), none⟩])
 (.seq (.seq (.reg false [] [1, 2, 3, 8, 17] [⟨some 14, .fad 0 (.t 3), none⟩, ⟨some 15, .ld 1 false (.t 14), none⟩, ⟨some 16, .mov (.t 8), none⟩, ⟨some 17, .bin .geq (.t 15) (.t 16), none⟩])
 (.cond (.t 17) (.seq (.reg false [] [6, 7] [⟨some 6, .mov (.c (.int .i64 0)), none⟩, ⟨some 7, .mov (.c (.int .i64 5)), none⟩])
 .ret)
 .skip))
 (.seq (.reg false [] [1, 2, 3, 9, 10] [⟨some 19, .fad 0 (.t 3), none⟩, ⟨some 20, .ld 1 false (.t 19), none⟩, ⟨some 21, .fad 1 (.t 3), none⟩, ⟨some 22, .ld 1 false (.t 21), none⟩, ⟨some 23, .mov (.t 8), none⟩, ⟨some 24, .call 92 [(.t 20), (.t 22), (.t 23)] [], none⟩, ⟨some 18, .mov (.t 24), none⟩, ⟨some 25, .ext 0 (.t 18), none⟩, ⟨some 26, .ext 1 (.t 18), none⟩, ⟨some 9, .mov (.t 25), none⟩, ⟨some 10, .mov (.t 26), none⟩])
 (.seq (.reg false [] [2, 9, 10, 11] [⟨some 27, .fad 2 (.t 3), none⟩, ⟨some 28, .ld 1 false (.t 27), none⟩, ⟨some 29, .mov (.t 1), none⟩, ⟨some 30, .bin .lss (.t 29) (.c (.int .i64 0)), none⟩, ⟨some 31, .beq true [] (.t 28) (.t 30), none⟩, ⟨some 11, .mov (.t 31), none⟩])
 (.seq (.seq (.reg false [] [9, 11, 38] [⟨some 32, .mov (.t 10), none⟩, ⟨some 33, .bin .gtr (.t 32) (.c (.int .u64 0)), none⟩, ⟨some 34, .mov (.t 33), none⟩, ⟨some 35, .mov (.t 11), some (34, true)⟩, ⟨some 36, .mov (.t 2), some (34, true)⟩, ⟨some 37, .beq true [] (.t 35) (.t 36), some (34, true)⟩, ⟨some 38, .pick (.t 34) (.t 37) (.c (.bool false)), none⟩])
 (.cond (.t 38) (.seq (.reg false [] [9, 11] [⟨some 39, .mov (.t 9), none⟩, ⟨some 40, .bin .add (.t 39) (.c (.int .u64 1)), none⟩, ⟨some 9, .mov (.t 40), none⟩])
 (.seq (.reg false [] [9, 11, 42] [⟨some 41, .mov (.t 9), none⟩, ⟨some 42, .bin .eql (.t 41) (.c (.int .u64 0)), none⟩])
 (.cond (.t 42) (.seq (.reg false [] [6, 7] [⟨some 6, .mov (.c (.int .i64 0)), none⟩, ⟨some 7, .mov (.c (.int .i64 5)), none⟩])
 .ret)
 .skip)))
 .skip))
 (.seq (.reg false [] [6, 7] [⟨some 43, .mov (.t 9), none⟩, ⟨some 44, .mov (.t 11), none⟩, ⟨some 45, .mov (.t 44), none⟩, ⟨some 46, .mov (.t 9), some (45, true)⟩, ⟨some 47, .bin .gtr (.t 46) (.c (.int .u64 0)), some (45, true)⟩, ⟨some 48, .pick (.t 45) (.t 47) (.c (.bool false)), none⟩, ⟨some 49, .call 110 [(.t 43), (.t 48)] [], none⟩, ⟨some 50, .ext 0 (.t 49), none⟩, ⟨some 51, .ext 1 (.t 49), none⟩, ⟨some 6, .mov (.t 50), none⟩, ⟨some 7, .mov (.t 51), none⟩])
 .ret))))))) }

/-- sewershed/wide.placed -/
def N105_wide_placed : NFun := { np := 1, nt := 56, res := [(2, some (2, true)), (3, none)], body :=
 (.seq (.reg false [] [1, 2] [⟨some 1, .boxF (.t 0), none⟩, ⟨some 2, .alc [.int .i64 0, .int .i64 0], none⟩, ⟨some 3, .mov (.c (.int .i64 0)), none⟩])
 (.seq (.seq (.reg false [] [1, 2, 23] [⟨some 6, .fad 0 (.t 1), none⟩, ⟨some 7, .ld 1 false (.t 6), none⟩, ⟨some 8, .bin .gtr (.t 7) (.c (.int .u64 72057594037927936)), none⟩, ⟨some 9, .mov (.t 8), none⟩, ⟨some 10, .fad 0 (.t 1), some (9, false)⟩, ⟨some 11, .ld 1 false (.t 10), some (9, false)⟩, ⟨some 12, .bin .eql (.t 11) (.c (.int .u64 72057594037927936)), some (9, false)⟩, ⟨some 13, .mov (.t 12), some (9, false)⟩, ⟨some 14, .fad 1 (.t 1), some (13, true)⟩, ⟨some 15, .ld 1 false (.t 14), some (13, true)⟩, ⟨some 16, .bin .gtr (.t 15) (.c (.int .u64 0)), some (13, true)⟩, ⟨some 17, .mov (.t 16), some (13, true)⟩, ⟨some 18, .fad 2 (.t 1), some (17, false)⟩, ⟨some 19, .ld 1 false (.t 18), some (17, false)⟩, ⟨some 20, .un .not (.t 19), some (17, false)⟩, ⟨some 21, .pick (.t 17) (.c (.bool true)) (.t 20), some (13, true)⟩, ⟨some 22, .pick (.t 13) (.t 21) (.c (.bool false)), some (9, false)⟩, ⟨some 23, .pick (.t 9) (.c (.bool true)) (.t 22), none⟩])
 (.cond (.t 23) (.seq (.reg false [] [2, 3] [⟨some 24, .bld [.int .i64 0, .int .i64 0] [], none⟩, ⟨none, .st 2 [] (.t 2) (.t 24), none⟩, ⟨some 3, .mov (.c (.int .i64 5)), none⟩])
 .ret)
 .skip))
 (.seq (.reg true [0, 1, 3, 0, 8, 24, 63, 127, 0, 256, 768, 1792, 255, 8191] [1, 2, 4, 5] [⟨some 25, .fad 0 (.t 1), none⟩, ⟨some 26, .ld 1 false (.t 25), none⟩, ⟨some 27, .bin .shl (.t 26) (.c (.int .u64 4)), none⟩, ⟨some 28, .fad 1 (.t 1), none⟩, ⟨some 29, .ld 1 false (.t 28), none⟩, ⟨some 30, .bin .shr (.t 29) (.c (.int .u64 60)), none⟩, ⟨some 31, .bin .or (.t 27) (.t 30), none⟩, ⟨some 32, .conv .i64 (.t 31), none⟩, ⟨some 33, .fad 1 (.t 1), none⟩, ⟨some 34, .ld 1 false (.t 33), none⟩, ⟨some 35, .bin .and (.t 34) (.c (.int .u64 1152921504606846975)), none⟩, ⟨some 36, .conv .i64 (.t 35), none⟩, ⟨some 4, .mov (.t 32), none⟩, ⟨some 5, .mov (.t 36), none⟩])
 (.seq (.block 0 (.seq (.reg false [] [2, 4, 5, 37] [⟨some 38, .fad 2 (.t 1), none⟩, ⟨some 39, .ld 1 false (.t 38), none⟩, ⟨some 40, .un .not (.t 39), none⟩, ⟨some 37, .mov (.t 40), none⟩])
 (.cond (.t 37) (.seq (.reg false [] [2, 3] [⟨some 41, .mov (.t 4), none⟩, ⟨some 42, .mov (.t 5), none⟩, ⟨some 43, .bld [.int .i64 0, .int .i64 0] [(0, 1, (.t 41)), (1, 1, (.t 42))], none⟩, ⟨none, .st 2 [] (.t 2) (.t 43), none⟩, ⟨some 3, .mov (.c (.int .i64 0)), none⟩])
 .ret)
 (.seq (.reg false [] [2, 4, 5, 44] [⟨some 45, .mov (.t 5), none⟩, ⟨some 46, .bin .eql (.t 45) (.c (.int .i64 0)), none⟩, ⟨some 44, .mov (.t 46), none⟩])
 (.cond (.t 44) (.seq (.reg false [] [2, 3] [⟨some 47, .mov (.t 4), none⟩, ⟨some 48, .un .neg (.t 47), none⟩, ⟨some 49, .bld [.int .i64 0, .int .i64 0] [(0, 1, (.t 48))], none⟩, ⟨none, .st 2 [] (.t 2) (.t 49), none⟩, ⟨some 3, .mov (.c (.int .i64 0)), none⟩])
 .ret)
 .skip)))))
 (.seq (.reg false [] [2, 3] [⟨some 50, .mov (.t 4), none⟩, ⟨some 51, .un .neg (.t 50), none⟩, ⟨some 52, .bin .sub (.t 51) (.c (.int .i64 1)), none⟩, ⟨some 53, .mov (.t 5), none⟩, ⟨some 54, .bin .sub (.c (.int .i64 1152921504606846976)) (.t 53), none⟩, ⟨some 55, .bld [.int .i64 0, .int .i64 0] [(0, 1, (.t 52)), (1, 1, (.t 54))], none⟩, ⟨none, .st 2 [] (.t 2) (.t 55), none⟩, ⟨some 3, .mov (.c (.int .i64 0)), none⟩])
 .ret))))) }

/-- sewershed/wide.Valid -/
def N106_wide_Valid : NFun := { np := 1, nt := 21, res := [(2, none)], body :=
 (.seq (.reg false [] [1] [⟨some 1, .boxF (.t 0), none⟩, ⟨some 2, .mov (.c (.bool false)), none⟩])
 (.seq (.reg false [] [2] [⟨some 3, .fad 0 (.t 1), none⟩, ⟨some 4, .ld 1 false (.t 3), none⟩, ⟨some 5, .bin .geq (.t 4) (.c (.int .i64 (-1152921504606846976))), none⟩, ⟨some 6, .mov (.t 5), none⟩, ⟨some 7, .fad 0 (.t 1), some (6, true)⟩, ⟨some 8, .ld 1 false (.t 7), some (6, true)⟩, ⟨some 9, .bin .lss (.t 8) (.c (.int .i64 1152921504606846976)), some (6, true)⟩, ⟨some 10, .pick (.t 6) (.t 9) (.c (.bool false)), none⟩, ⟨some 11, .mov (.t 10), none⟩, ⟨some 12, .fad 1 (.t 1), some (11, true)⟩, ⟨some 13, .ld 1 false (.t 12), some (11, true)⟩, ⟨some 14, .bin .geq (.t 13) (.c (.int .i64 0)), some (11, true)⟩, ⟨some 15, .pick (.t 11) (.t 14) (.c (.bool false)), none⟩, ⟨some 16, .mov (.t 15), none⟩, ⟨some 17, .fad 1 (.t 1), some (16, true)⟩, ⟨some 18, .ld 1 false (.t 17), some (16, true)⟩, ⟨some 19, .bin .lss (.t 18) (.c (.int .i64 1152921504606846976)), some (16, true)⟩, ⟨some 20, .pick (.t 16) (.t 19) (.c (.bool false)), none⟩, ⟨some 2, .mov (.t 20), none⟩])
 .ret)) }

/-- sewershed/wide.sum -/
def N107_wide_sum : NFun := { np := 2, nt := 73, res := [(4, some (3, true))], body :=
 (.seq (.reg false [] [2, 3, 4] [⟨some 2, .box [] (.t 0), none⟩, ⟨some 3, .box [] (.t 1), none⟩, ⟨some 4, .alc [.int .u64 0, .int .u64 0, .bool false], none⟩])
 (.seq (.seq (.reg false [] [2, 3, 4, 13] [⟨some 9, .fad 2 (.t 2), none⟩, ⟨some 10, .ld 1 false (.t 9), none⟩, ⟨some 11, .fad 2 (.t 3), none⟩, ⟨some 12, .ld 1 false (.t 11), none⟩, ⟨some 13, .beq false [] (.t 10) (.t 12), none⟩])
 (.cond (.t 13) (.seq (.reg false [] [2, 3, 4, 5, 6] [⟨some 15, .fad 1 (.t 2), none⟩, ⟨some 16, .ld 1 false (.t 15), none⟩, ⟨some 17, .fad 1 (.t 3), none⟩, ⟨some 18, .ld 1 false (.t 17), none⟩, ⟨some 19, .add64 (.t 16) (.t 18) (.c (.int .u64 0)), none⟩, ⟨some 14, .mov (.t 19), none⟩, ⟨some 20, .ext 0 (.t 14), none⟩, ⟨some 21, .ext 1 (.t 14), none⟩, ⟨some 5, .mov (.t 20), none⟩, ⟨some 6, .mov (.t 21), none⟩])
 (.seq (.reg false [] [4] [⟨some 22, .fad 0 (.t 2), none⟩, ⟨some 23, .ld 1 false (.t 22), none⟩, ⟨some 24, .fad 0 (.t 3), none⟩, ⟨some 25, .ld 1 false (.t 24), none⟩, ⟨some 26, .bin .add (.t 23) (.t 25), none⟩, ⟨some 27, .mov (.t 6), none⟩, ⟨some 28, .bin .add (.t 26) (.t 27), none⟩, ⟨some 29, .mov (.t 5), none⟩, ⟨some 30, .fad 2 (.t 2), none⟩, ⟨some 31, .ld 1 false (.t 30), none⟩, ⟨some 32, .call 113 [(.t 28), (.t 29), (.t 31)] [], none⟩, ⟨none, .st 3 [] (.t 4) (.t 32), none⟩])
 .ret))
 .skip))
 (.seq (.seq (.reg false [] [2, 3, 4, 51] [⟨some 33, .fad 0 (.t 2), none⟩, ⟨some 34, .ld 1 false (.t 33), none⟩, ⟨some 35, .fad 0 (.t 3), none⟩, ⟨some 36, .ld 1 false (.t 35), none⟩, ⟨some 37, .bin .lss (.t 34) (.t 36), none⟩, ⟨some 38, .mov (.t 37), none⟩, ⟨some 39, .fad 0 (.t 2), some (38, false)⟩, ⟨some 40, .ld 1 false (.t 39), some (38, false)⟩, ⟨some 41, .fad 0 (.t 3), some (38, false)⟩, ⟨some 42, .ld 1 false (.t 41), some (38, false)⟩, ⟨some 43, .bin .eql (.t 40) (.t 42), some (38, false)⟩, ⟨some 44, .mov (.t 43), some (38, false)⟩, ⟨some 45, .fad 1 (.t 2), some (44, true)⟩, ⟨some 46, .ld 1 false (.t 45), some (44, true)⟩, ⟨some 47, .fad 1 (.t 3), some (44, true)⟩, ⟨some 48, .ld 1 false (.t 47), some (44, true)⟩, ⟨some 49, .bin .lss (.t 46) (.t 48), some (44, true)⟩, ⟨some 50, .pick (.t 44) (.t 49) (.c (.bool false)), some (38, false)⟩, ⟨some 51, .pick (.t 38) (.c (.bool true)) (.t 50), none⟩])
 (.cond (.t 51) (.reg false [] [2, 3, 4] [⟨some 52, .ld 3 true (.t 3), none⟩, ⟨some 53, .ld 3 true (.t 2), none⟩, ⟨none, .st 3 [] (.t 2) (.t 52), none⟩, ⟨none, .st 3 [] (.t 3) (.t 53), none⟩])
 .skip))
 (.seq (.reg false [] [2, 3, 4, 7, 8] [⟨some 55, .fad 1 (.t 2), none⟩, ⟨some 56, .ld 1 false (.t 55), none⟩, ⟨some 57, .fad 1 (.t 3), none⟩, ⟨some 58, .ld 1 false (.t 57), none⟩, ⟨some 59, .sub64 (.t 56) (.t 58) (.c (.int .u64 0)), none⟩, ⟨some 54, .mov (.t 59), none⟩, ⟨some 60, .ext 0 (.t 54), none⟩, ⟨some 61, .ext 1 (.t 54), none⟩, ⟨some 7, .mov (.t 60), none⟩, ⟨some 8, .mov (.t 61), none⟩])
 (.seq (.reg false [] [4] [⟨some 62, .fad 0 (.t 2), none⟩, ⟨some 63, .ld 1 false (.t 62), none⟩, ⟨some 64, .fad 0 (.t 3), none⟩, ⟨some 65, .ld 1 false (.t 64), none⟩, ⟨some 66, .bin .sub (.t 63) (.t 65), none⟩, ⟨some 67, .mov (.t 8), none⟩, ⟨some 68, .bin .sub (.t 66) (.t 67), none⟩, ⟨some 69, .mov (.t 7), none⟩, ⟨some 70, .fad 2 (.t 2), none⟩, ⟨some 71, .ld 1 false (.t 70), none⟩, ⟨some 72, .call 113 [(.t 68), (.t 69), (.t 71)] [], none⟩, ⟨none, .st 3 [] (.t 4) (.t 72), none⟩])
 .ret))))) }

/-- sewershed/wide.value -/
def N108_wide_value : NFun := { np := 1, nt := 37, res := [(2, some (3, true))], body :=
 (.seq (.reg false [] [1, 2] [⟨some 1, .boxF (.t 0), none⟩, ⟨some 2, .alc [.int .u64 0, .int .u64 0, .bool false], none⟩])
 (.seq (.reg false [] [1, 2, 3] [⟨some 7, .fad 0 (.t 1), none⟩, ⟨some 8, .ld 1 false (.t 7), none⟩, ⟨some 9, .call 112 [(.t 8)] [], none⟩, ⟨some 3, .mov (.t 9), none⟩])
 (.seq (.reg false [] [1, 2, 4, 5] [⟨some 10, .mov (.t 3), none⟩, ⟨some 11, .bin .shr (.t 10) (.c (.int .u64 4)), none⟩, ⟨some 12, .mov (.t 3), none⟩, ⟨some 13, .bin .shl (.t 12) (.c (.int .u64 60)), none⟩, ⟨some 4, .mov (.t 11), none⟩, ⟨some 5, .mov (.t 13), none⟩])
 (.seq (.seq (.reg false [] [1, 2, 4, 5, 16] [⟨some 14, .fad 0 (.t 1), none⟩, ⟨some 15, .ld 1 false (.t 14), none⟩, ⟨some 16, .bin .geq (.t 15) (.c (.int .i64 0)), none⟩])
 (.cond (.t 16) (.seq (.reg false [] [2] [⟨some 17, .mov (.t 4), none⟩, ⟨some 18, .mov (.t 5), none⟩, ⟨some 19, .fad 1 (.t 1), none⟩, ⟨some 20, .ld 1 false (.t 19), none⟩, ⟨some 21, .conv .u64 (.t 20), none⟩, ⟨some 22, .bin .or (.t 18) (.t 21), none⟩, ⟨some 23, .bld [.int .u64 0, .int .u64 0, .bool false] [(0, 1, (.t 17)), (1, 1, (.t 22)), (2, 1, (.c (.bool false)))], none⟩, ⟨none, .st 3 [] (.t 2) (.t 23), none⟩])
 .ret)
 .skip))
 (.seq (.reg false [] [2, 4, 5, 6] [⟨some 25, .mov (.t 5), none⟩, ⟨some 26, .fad 1 (.t 1), none⟩, ⟨some 27, .ld 1 false (.t 26), none⟩, ⟨some 28, .conv .u64 (.t 27), none⟩, ⟨some 29, .sub64 (.t 25) (.t 28) (.c (.int .u64 0)), none⟩, ⟨some 24, .mov (.t 29), none⟩, ⟨some 30, .ext 0 (.t 24), none⟩, ⟨some 31, .ext 1 (.t 24), none⟩, ⟨some 5, .mov (.t 30), none⟩, ⟨some 6, .mov (.t 31), none⟩])
 (.seq (.reg false [] [2] [⟨some 32, .mov (.t 4), none⟩, ⟨some 33, .mov (.t 6), none⟩, ⟨some 34, .bin .sub (.t 32) (.t 33), none⟩, ⟨some 35, .mov (.t 5), none⟩, ⟨some 36, .bld [.int .u64 0, .int .u64 0, .bool false] [(0, 1, (.t 34)), (1, 1, (.t 35)), (2, 1, (.c (.bool true)))], none⟩, ⟨none, .st 3 [] (.t 2) (.t 36), none⟩])
 .ret)))))) }

/-- sewershed/wide.minus -/
def N109_wide_minus : NFun := { np := 1, nt := 11, res := [(2, some (3, true))], body :=
 (.seq (.reg false [] [1, 2] [⟨some 1, .boxF (.t 0), none⟩, ⟨some 2, .alc [.int .u64 0, .int .u64 0, .bool false], none⟩])
 (.seq (.reg false [] [2] [⟨some 3, .fad 0 (.t 1), none⟩, ⟨some 4, .ld 1 false (.t 3), none⟩, ⟨some 5, .fad 1 (.t 1), none⟩, ⟨some 6, .ld 1 false (.t 5), none⟩, ⟨some 7, .fad 2 (.t 1), none⟩, ⟨some 8, .ld 1 false (.t 7), none⟩, ⟨some 9, .un .not (.t 8), none⟩, ⟨some 10, .call 113 [(.t 4), (.t 6), (.t 9)] [], none⟩, ⟨none, .st 3 [] (.t 2) (.t 10), none⟩])
 .ret)) }

/-- sewershed/wide.whole -/
def N110_wide_whole : NFun := { np := 2, nt := 24, res := [(4, none), (5, none)], body :=
 (.seq (.reg false [] [0, 1] [⟨some 4, .mov (.c (.int .i64 0)), none⟩, ⟨some 5, .mov (.c (.int .i64 0)), none⟩])
 (.seq (.block 0 (.seq (.reg false [] [0, 1, 6] [⟨some 7, .mov (.t 1), none⟩, ⟨some 8, .un .not (.t 7), none⟩, ⟨some 9, .mov (.t 8), none⟩, ⟨some 10, .mov (.t 0), some (9, true)⟩, ⟨some 11, .bin .leq (.t 10) (.c (.int .u64 9223372036854775807)), some (9, true)⟩, ⟨some 12, .pick (.t 9) (.t 11) (.c (.bool false)), none⟩, ⟨some 6, .mov (.t 12), none⟩])
 (.cond (.t 6) (.seq (.reg false [] [4, 5] [⟨some 13, .mov (.t 0), none⟩, ⟨some 14, .conv .i64 (.t 13), none⟩, ⟨some 4, .mov (.t 14), none⟩, ⟨some 5, .mov (.c (.int .i64 0)), none⟩])
 .ret)
 (.seq (.reg false [] [0, 15] [⟨some 16, .mov (.t 1), none⟩, ⟨some 17, .mov (.t 16), none⟩, ⟨some 18, .mov (.t 0), some (17, true)⟩, ⟨some 19, .bin .leq (.t 18) (.c (.int .u64 9223372036854775808)), some (17, true)⟩, ⟨some 20, .pick (.t 17) (.t 19) (.c (.bool false)), none⟩, ⟨some 15, .mov (.t 20), none⟩])
 (.cond (.t 15) (.seq (.reg false [] [4, 5] [⟨some 21, .mov (.t 0), none⟩, ⟨some 22, .un .neg (.t 21), none⟩, ⟨some 23, .conv .i64 (.t 22), none⟩, ⟨some 4, .mov (.t 23), none⟩, ⟨some 5, .mov (.c (.int .i64 0)), none⟩])
 .ret)
 .skip)))))
 (.seq (.reg false [] [4, 5] [⟨some 4, .mov (.c (.int .i64 0)), none⟩, ⟨some 5, .mov (.c (.int .i64 5)), none⟩])
 .ret))) }

def S1 : List UInt8 := [0, 1, 2, 2, 3, 3, 3, 3, 4, 4, 4, 4, 4, 4, 4, 4, 5, 5, 5, 5, 5, 5, 5, 5, 5, 5, 5, 5, 5, 5, 5, 5, 6, 6, 6, 6, 6, 6, 6, 6, 6, 6, 6, 6, 6, 6, 6, 6, 6, 6, 6, 6, 6, 6, 6, 6, 6, 6, 6, 6, 6, 6, 6, 6, 7, 7, 7, 7, 7, 7, 7, 7, 7, 7, 7, 7, 7, 7, 7, 7, 7, 7, 7, 7, 7, 7, 7, 7, 7, 7, 7, 7, 7, 7, 7, 7, 7, 7, 7, 7, 7, 7, 7, 7, 7, 7, 7, 7, 7, 7, 7, 7, 7, 7, 7, 7, 7, 7, 7, 7, 7, 7, 7, 7, 7, 7, 7, 7, 8, 8, 8, 8, 8, 8, 8, 8, 8, 8, 8, 8, 8, 8, 8, 8, 8, 8, 8, 8, 8, 8, 8, 8, 8, 8, 8, 8, 8, 8, 8, 8, 8, 8, 8, 8, 8, 8, 8, 8, 8, 8, 8, 8, 8, 8, 8, 8, 8, 8, 8, 8, 8, 8, 8, 8, 8, 8, 8, 8, 8, 8, 8, 8, 8, 8, 8, 8, 8, 8, 8, 8, 8, 8, 8, 8, 8, 8, 8, 8, 8, 8, 8, 8, 8, 8, 8, 8, 8, 8, 8, 8, 8, 8, 8, 8, 8, 8, 8, 8, 8, 8, 8, 8, 8, 8, 8, 8, 8, 8, 8, 8, 8, 8, 8, 8, 8, 8, 8, 8, 8, 8, 8, 8, 8, 8, 8, 8]

/-- math/bits.Len64 -/
def N111_math_bits_Len64 : NFun := { np := 1, nt := 25, res := [(2, none)], body :=
 (.seq (.reg false [] [0, 2] [⟨some 2, .mov (.c (.int .i64 0)), none⟩])
 (.seq (.seq (.reg false [] [0, 2, 4] [⟨some 3, .mov (.t 0), none⟩, ⟨some 4, .bin .geq (.t 3) (.c (.int .u64 4294967296)), none⟩])
 (.cond (.t 4) (.seq (.reg false [] [0] [⟨some 5, .mov (.t 0), none⟩, ⟨some 6, .bin .shr (.t 5) (.c (.int .u64 32)), none⟩, ⟨some 0, .mov (.t 6), none⟩])
 (.reg false [] [0, 2] [⟨some 2, .mov (.c (.int .i64 32)), none⟩]))
 .skip))
 (.seq (.seq (.reg false [] [0, 2, 8] [⟨some 7, .mov (.t 0), none⟩, ⟨some 8, .bin .geq (.t 7) (.c (.int .u64 65536)), none⟩])
 (.cond (.t 8) (.seq (.reg false [] [0, 2] [⟨some 9, .mov (.t 0), none⟩, ⟨some 10, .bin .shr (.t 9) (.c (.int .u64 16)), none⟩, ⟨some 0, .mov (.t 10), none⟩])
 (.reg false [] [0, 2] [⟨some 11, .mov (.t 2), none⟩, ⟨some 12, .bin .add (.t 11) (.c (.int .i64 16)), none⟩, ⟨some 2, .mov (.t 12), none⟩]))
 .skip))
 (.seq (.seq (.reg false [] [0, 2, 14] [⟨some 13, .mov (.t 0), none⟩, ⟨some 14, .bin .geq (.t 13) (.c (.int .u64 256)), none⟩])
 (.cond (.t 14) (.seq (.reg false [] [0, 2] [⟨some 15, .mov (.t 0), none⟩, ⟨some 16, .bin .shr (.t 15) (.c (.int .u64 8)), none⟩, ⟨some 0, .mov (.t 16), none⟩])
 (.reg false [] [0, 2] [⟨some 17, .mov (.t 2), none⟩, ⟨some 18, .bin .add (.t 17) (.c (.int .i64 8)), none⟩, ⟨some 2, .mov (.t 18), none⟩]))
 .skip))
 (.seq (.reg false [] [2] [⟨some 19, .mov (.t 2), none⟩, ⟨some 20, .mov (.t 0), none⟩, ⟨some 21, .conv .u8 (.t 20), none⟩, ⟨some 22, .idxS (.c (.str S1)) (.t 21), none⟩, ⟨some 23, .conv .i64 (.t 22), none⟩, ⟨some 24, .bin .add (.t 19) (.t 23), none⟩, ⟨some 2, .mov (.t 24), none⟩])
 .ret))))) }

/-- sewershed/wide.size -/
def N112_wide_size : NFun := { np := 1, nt := 10, res := [(2, none)], body :=
 (.seq (.reg false [] [0] [⟨some 2, .mov (.c (.int .u64 0)), none⟩])
 (.seq (.seq (.reg false [] [0, 4] [⟨some 3, .mov (.t 0), none⟩, ⟨some 4, .bin .lss (.t 3) (.c (.int .i64 0)), none⟩])
 (.cond (.t 4) (.seq (.reg false [] [2] [⟨some 5, .mov (.t 0), none⟩, ⟨some 6, .conv .u64 (.t 5), none⟩, ⟨some 7, .un .neg (.t 6), none⟩, ⟨some 2, .mov (.t 7), none⟩])
 .ret)
 .skip))
 (.seq (.reg false [] [2] [⟨some 8, .mov (.t 0), none⟩, ⟨some 9, .conv .u64 (.t 8), none⟩, ⟨some 2, .mov (.t 9), none⟩])
 .ret))) }

/-- sewershed/wide.signed -/
def N113_wide_signed : NFun := { np := 3, nt := 19, res := [(6, some (3, true))], body :=
 (.seq (.reg false [] [0, 1, 2, 6] [⟨some 6, .alc [.int .u64 0, .int .u64 0, .bool false], none⟩])
 (.seq (.reg false [] [6] [⟨some 7, .mov (.t 0), none⟩, ⟨some 8, .mov (.t 1), none⟩, ⟨some 9, .mov (.t 2), none⟩, ⟨some 10, .mov (.t 9), none⟩, ⟨some 11, .mov (.t 0), some (10, true)⟩, ⟨some 12, .bin .neq (.t 11) (.c (.int .u64 0)), some (10, true)⟩, ⟨some 13, .mov (.t 12), some (10, true)⟩, ⟨some 14, .mov (.t 1), some (13, false)⟩, ⟨some 15, .bin .neq (.t 14) (.c (.int .u64 0)), some (13, false)⟩, ⟨some 16, .pick (.t 13) (.c (.bool true)) (.t 15), some (10, true)⟩, ⟨some 17, .pick (.t 10) (.t 16) (.c (.bool false)), none⟩, ⟨some 18, .bld [.int .u64 0, .int .u64 0, .bool false] [(0, 1, (.t 7)), (1, 1, (.t 8)), (2, 1, (.t 17))], none⟩, ⟨none, .st 3 [] (.t 6) (.t 18), none⟩])
 .ret)) }

/-- sewershed/network.Valid -/
def N164_network_Valid : NFun := { np := 1, nt := 80, res := [(2, none)], body :=
 (.seq (.reg false [] [1] [⟨some 1, .boxF (.t 0), none⟩, ⟨some 2, .mov (.c (.bool false)), none⟩])
 (.seq (.seq (.reg false [] [1, 17] [⟨some 8, .fad 0 (.t 1), none⟩, ⟨some 9, .ld 1 false (.t 8), none⟩, ⟨some 10, .len (.t 9), none⟩, ⟨some 11, .bin .gtr (.t 10) (.c (.int .i64 300)), none⟩, ⟨some 12, .mov (.t 11), none⟩, ⟨some 13, .fad 1 (.t 1), some (12, false)⟩, ⟨some 14, .ld 1 false (.t 13), some (12, false)⟩, ⟨some 15, .len (.t 14), some (12, false)⟩, ⟨some 16, .bin .gtr (.t 15) (.c (.int .i64 400)), some (12, false)⟩, ⟨some 17, .pick (.t 12) (.c (.bool true)) (.t 16), none⟩])
 (.cond (.t 17) (.seq (.reg false [] [2] [⟨some 2, .mov (.c (.bool false)), none⟩])
 .ret)
 .skip))
 (.seq (.seq (.reg false [] [1, 19, 20, 21] [⟨some 18, .fad 0 (.t 1), none⟩, ⟨some 19, .ld 1 false (.t 18), none⟩, ⟨some 20, .len (.t 19), none⟩, ⟨some 21, .mov (.c (.int .i64 0)), none⟩])
 (.block 0 (.loop (.seq (.reg false [] [1, 19, 20, 21, 22] [⟨some 22, .bin .lss (.t 21) (.t 20), none⟩])
 (.seq (.cond (.t 22) .skip
 (.exit 0))
 (.seq (.block 1 (.seq (.reg false [] [1, 3, 4, 19, 20, 21] [⟨some 23, .mov (.t 21), none⟩, ⟨some 24, .iadS 9 (.t 19) (.t 21), none⟩, ⟨some 25, .ld 9 true (.t 24), none⟩, ⟨some 4, .alc [.str [], .int .i64 0, .int .i64 0, .int .i64 0, .int .i64 0, .int .i64 0, .own 2 [], .bool false, .int .i64 0], none⟩, ⟨some 3, .mov (.t 23), none⟩, ⟨none, .st 9 [] (.t 4) (.t 25), none⟩])
 (.seq (.reg false [] [1, 19, 20, 21, 36] [⟨some 26, .ld 9 true (.t 4), none⟩, ⟨some 27, .call 168 [(.t 26)] [], none⟩, ⟨some 28, .un .not (.t 27), none⟩, ⟨some 29, .mov (.t 28), none⟩, ⟨some 30, .ld 2 true (.t 1), some (29, false)⟩, ⟨some 31, .fad 0 (.t 4), some (29, false)⟩, ⟨some 32, .ld 1 false (.t 31), some (29, false)⟩, ⟨some 33, .call 169 [(.t 30), (.t 32)] [], some (29, false)⟩, ⟨some 34, .mov (.t 3), some (29, false)⟩, ⟨some 35, .bin .neq (.t 33) (.t 34), some (29, false)⟩, ⟨some 36, .pick (.t 29) (.c (.bool true)) (.t 35), none⟩])
 (.cond (.t 36) (.seq (.reg false [] [2] [⟨some 2, .mov (.c (.bool false)), none⟩])
 .ret)
 .skip))))
 (.reg false [] [1, 19, 20, 21] [⟨some 37, .bin .add (.t 21) (.c (.int .i64 1)), none⟩, ⟨some 21, .mov (.t 37), none⟩])))))))
 (.seq (.seq (.reg false [] [1, 39, 40, 41] [⟨some 38, .fad 1 (.t 1), none⟩, ⟨some 39, .ld 1 false (.t 38), none⟩, ⟨some 40, .len (.t 39), none⟩, ⟨some 41, .mov (.c (.int .i64 0)), none⟩])
 (.block 2 (.loop (.seq (.reg false [] [1, 39, 40, 41, 42] [⟨some 42, .bin .lss (.t 41) (.t 40), none⟩])
 (.seq (.cond (.t 42) .skip
 (.exit 2))
 (.seq (.block 3 (.seq (.reg false [] [1, 5, 6, 39, 40, 41] [⟨some 43, .mov (.t 41), none⟩, ⟨some 44, .iadS 11 (.t 39) (.t 41), none⟩, ⟨some 45, .ld 11 true (.t 44), none⟩, ⟨some 6, .alc [.str [], .str [], .str [], .int .i64 0, .int .i64 0, .int .i64 0, .int .i64 0, .str [], .int .i64 0, .int .i64 0, .own 2 []], none⟩, ⟨some 5, .mov (.t 43), none⟩, ⟨none, .st 11 [] (.t 6) (.t 45), none⟩])
 (.seq (.seq (.reg false [] [1, 6, 39, 40, 41, 56] [⟨some 46, .ld 11 true (.t 6), none⟩, ⟨some 47, .call 170 [(.t 46)] [], none⟩, ⟨some 48, .un .not (.t 47), none⟩, ⟨some 49, .mov (.t 48), none⟩, ⟨some 50, .ld 2 true (.t 1), some (49, false)⟩, ⟨some 51, .fad 0 (.t 6), some (49, false)⟩, ⟨some 52, .ld 1 false (.t 51), some (49, false)⟩, ⟨some 53, .call 171 [(.t 50), (.t 52)] [], some (49, false)⟩, ⟨some 54, .mov (.t 5), some (49, false)⟩, ⟨some 55, .bin .neq (.t 53) (.t 54), some (49, false)⟩, ⟨some 56, .pick (.t 49) (.c (.bool true)) (.t 55), none⟩])
 (.cond (.t 56) (.seq (.reg false [] [2] [⟨some 2, .mov (.c (.bool false)), none⟩])
 .ret)
 .skip))
 (.seq (.reg false [] [1, 6, 7, 39, 40, 41] [⟨some 57, .ld 2 true (.t 1), none⟩, ⟨some 58, .fad 1 (.t 6), none⟩, ⟨some 59, .ld 1 false (.t 58), none⟩, ⟨some 60, .call 169 [(.t 57), (.t 59)] [], none⟩, ⟨some 7, .mov (.t 60), none⟩])
 (.seq (.reg false [] [1, 39, 40, 41, 78] [⟨some 61, .mov (.t 7), none⟩, ⟨some 62, .bin .lss (.t 61) (.c (.int .i64 0)), none⟩, ⟨some 63, .mov (.t 62), none⟩, ⟨some 64, .ld 2 true (.t 1), some (63, false)⟩, ⟨some 65, .fad 2 (.t 6), some (63, false)⟩, ⟨some 66, .ld 1 false (.t 65), some (63, false)⟩, ⟨some 67, .call 169 [(.t 64), (.t 66)] [], some (63, false)⟩, ⟨some 68, .bin .lss (.t 67) (.c (.int .i64 0)), some (63, false)⟩, ⟨some 69, .pick (.t 63) (.c (.bool true)) (.t 68), none⟩, ⟨some 70, .mov (.t 69), none⟩, ⟨some 71, .fad 0 (.t 1), some (70, false)⟩, ⟨some 72, .ld 1 false (.t 71), some (70, false)⟩, ⟨some 73, .mov (.t 7), some (70, false)⟩, ⟨some 74, .iadS 9 (.t 72) (.t 73), some (70, false)⟩, ⟨some 75, .fad 1 (.t 74), some (70, false)⟩, ⟨some 76, .ld 1 false (.t 75), some (70, false)⟩, ⟨some 77, .bin .eql (.t 76) (.c (.int .i64 3)), some (70, false)⟩, ⟨some 78, .pick (.t 70) (.c (.bool true)) (.t 77), none⟩])
 (.cond (.t 78) (.seq (.reg false [] [2] [⟨some 2, .mov (.c (.bool false)), none⟩])
 .ret)
 .skip))))))
 (.reg false [] [1, 39, 40, 41] [⟨some 79, .bin .add (.t 41) (.c (.int .i64 1)), none⟩, ⟨some 41, .mov (.t 79), none⟩])))))))
 (.seq (.reg false [] [2] [⟨some 2, .mov (.c (.bool true)), none⟩])
 .ret))))) }

/-- sewershed/catalogue.Depth -/
def N165_catalogue_Depth : NFun := { np := 4, nt := 64, res := [(8, none), (9, none)], body :=
 (.seq (.reg false [] [1, 2, 3, 4] [⟨some 4, .boxF (.t 0), none⟩, ⟨some 8, .mov (.c (.int .i64 0)), none⟩, ⟨some 9, .mov (.c (.int .i64 0)), none⟩])
 (.seq (.block 0 (.seq (.reg false [] [1, 2, 3, 4, 15] [⟨some 16, .ld 5 true (.t 4), none⟩, ⟨some 17, .call 51 [(.t 16)] [], none⟩, ⟨some 18, .un .not (.t 17), none⟩, ⟨some 15, .mov (.t 18), none⟩])
 (.cond (.t 15) (.seq (.reg false [] [8, 9] [⟨some 8, .mov (.c (.int .i64 0)), none⟩, ⟨some 9, .mov (.c (.int .i64 1)), none⟩])
 .ret)
 (.seq (.reg false [] [1, 2, 3, 4, 19] [⟨some 20, .mov (.t 1), none⟩, ⟨some 21, .bin .lss (.t 20) (.c (.int .i64 0)), none⟩, ⟨some 22, .mov (.t 21), none⟩, ⟨some 23, .mov (.t 1), some (22, false)⟩, ⟨some 24, .bin .gtr (.t 23) (.c (.int .i64 1099511627776)), some (22, false)⟩, ⟨some 25, .pick (.t 22) (.c (.bool true)) (.t 24), none⟩, ⟨some 26, .mov (.t 25), none⟩, ⟨some 27, .mov (.t 2), some (26, false)⟩, ⟨some 28, .mov (.t 3), some (26, false)⟩, ⟨some 29, .call 60 [(.t 27), (.t 28)] [], some (26, false)⟩, ⟨some 30, .un .not (.t 29), some (26, false)⟩, ⟨some 31, .pick (.t 26) (.c (.bool true)) (.t 30), none⟩, ⟨some 19, .mov (.t 31), none⟩])
 (.cond (.t 19) (.seq (.reg false [] [8, 9] [⟨some 8, .mov (.c (.int .i64 0)), none⟩, ⟨some 9, .mov (.c (.int .i64 2)), none⟩])
 .ret)
 .skip)))))
 (.seq (.reg true [0, 1, 3, 0, 15] [1, 2, 3, 4, 10, 11] [⟨some 32, .fad 1 (.t 4), none⟩, ⟨some 33, .ld 1 false (.t 32), none⟩, ⟨some 34, .bin .add (.t 33) (.c (.int .i64 1)), none⟩, ⟨some 10, .mov (.c (.int .i64 0)), none⟩, ⟨some 11, .mov (.t 34), none⟩])
 (.seq (.block 1 (.loop (.seq (.seq (.reg false [] [1, 2, 3, 4, 10, 11, 37] [⟨some 35, .mov (.t 10), none⟩, ⟨some 36, .mov (.t 11), none⟩, ⟨some 37, .bin .lss (.t 35) (.t 36), none⟩])
 (.cond (.t 37) .skip
 (.exit 1)))
 (.block 2 (.seq (.reg false [] [1, 2, 3, 4, 10, 11, 12] [⟨some 38, .mov (.t 10), none⟩, ⟨some 39, .mov (.t 11), none⟩, ⟨some 40, .bin .add (.t 38) (.t 39), none⟩, ⟨some 41, .bin .quo (.t 40) (.c (.int .i64 2)), none⟩, ⟨some 12, .mov (.t 41), none⟩])
 (.seq (.reg false [] [1, 2, 3, 4, 10, 11, 12, 13, 14] [⟨some 43, .ld 5 true (.t 4), none⟩, ⟨some 44, .mov (.t 12), none⟩, ⟨some 45, .mov (.t 2), none⟩, ⟨some 46, .mov (.t 3), none⟩, ⟨some 47, .call 61 [(.t 43), (.t 44), (.t 45), (.t 46)] [], none⟩, ⟨some 42, .mov (.t 47), none⟩, ⟨some 48, .ext 0 (.t 42), none⟩, ⟨some 49, .ext 1 (.t 42), none⟩, ⟨some 13, .mov (.t 48), none⟩, ⟨some 14, .mov (.t 49), none⟩])
 (.seq (.seq (.reg false [] [1, 2, 3, 4, 10, 11, 12, 13, 14, 51] [⟨some 50, .mov (.t 14), none⟩, ⟨some 51, .bin .neq (.t 50) (.c (.int .i64 0)), none⟩])
 (.cond (.t 51) (.seq (.reg false [] [8, 9] [⟨some 52, .mov (.t 14), none⟩, ⟨some 8, .mov (.c (.int .i64 0)), none⟩, ⟨some 9, .mov (.t 52), none⟩])
 .ret)
 .skip))
 (.seq (.reg false [] [1, 2, 3, 4, 10, 11, 12, 55] [⟨some 53, .mov (.t 13), none⟩, ⟨some 54, .mov (.t 1), none⟩, ⟨some 55, .bin .geq (.t 53) (.t 54), none⟩])
 (.cond (.t 55) (.reg false [] [1, 2, 3, 4, 10, 11] [⟨some 56, .mov (.t 12), none⟩, ⟨some 11, .mov (.t 56), none⟩])
 (.reg false [] [1, 2, 3, 4, 10, 11] [⟨some 57, .mov (.t 12), none⟩, ⟨some 58, .bin .add (.t 57) (.c (.int .i64 1)), none⟩, ⟨some 10, .mov (.t 58), none⟩]))))))))))
 (.seq (.seq (.reg false [] [10, 62] [⟨some 59, .mov (.t 10), none⟩, ⟨some 60, .fad 1 (.t 4), none⟩, ⟨some 61, .ld 1 false (.t 60), none⟩, ⟨some 62, .bin .gtr (.t 59) (.t 61), none⟩])
 (.cond (.t 62) (.seq (.reg false [] [8, 9] [⟨some 8, .mov (.c (.int .i64 0)), none⟩, ⟨some 9, .mov (.c (.int .i64 28)), none⟩])
 .ret)
 .skip))
 (.seq (.reg false [] [8, 9] [⟨some 63, .mov (.t 10), none⟩, ⟨some 8, .mov (.t 63), none⟩, ⟨some 9, .mov (.c (.int .i64 0)), none⟩])
 .ret)))))) }

/-- sewershed/network.rightNode -/
def N168_network_rightNode : NFun := { np := 1, nt := 101, res := [(2, none)], body :=
 (.seq (.reg false [] [1] [⟨some 1, .boxF (.t 0), none⟩, ⟨some 2, .mov (.c (.bool false)), none⟩])
 (.seq (.seq (.reg false [] [1, 29] [⟨some 3, .fad 0 (.t 1), none⟩, ⟨some 4, .ld 1 false (.t 3), none⟩, ⟨some 5, .call 58 [(.t 4)] [], none⟩, ⟨some 6, .un .not (.t 5), none⟩, ⟨some 7, .mov (.t 6), none⟩, ⟨some 8, .fad 2 (.t 1), some (7, false)⟩, ⟨some 9, .fad 0 (.t 8), some (7, false)⟩, ⟨some 10, .ld 1 false (.t 9), some (7, false)⟩, ⟨some 11, .call 172 [(.t 10), (.c (.int .i64 (-16777216))), (.c (.int .i64 16777216))] [], some (7, false)⟩, ⟨some 12, .un .not (.t 11), some (7, false)⟩, ⟨some 13, .pick (.t 7) (.c (.bool true)) (.t 12), none⟩, ⟨some 14, .mov (.t 13), none⟩, ⟨some 15, .fad 2 (.t 1), some (14, false)⟩, ⟨some 16, .fad 1 (.t 15), some (14, false)⟩, ⟨some 17, .ld 1 false (.t 16), some (14, false)⟩, ⟨some 18, .call 172 [(.t 17), (.c (.int .i64 (-16777216))), (.c (.int .i64 16777216))] [], some (14, false)⟩, ⟨some 19, .un .not (.t 18), some (14, false)⟩, ⟨some 20, .pick (.t 14) (.c (.bool true)) (.t 19), none⟩, ⟨some 21, .mov (.t 20), none⟩, ⟨some 22, .fad 4 (.t 1), some (21, false)⟩, ⟨some 23, .ld 1 false (.t 22), some (21, false)⟩, ⟨some 24, .fad 5 (.t 1), some (21, false)⟩, ⟨some 25, .ld 1 false (.t 24), some (21, false)⟩, ⟨some 26, .bls 1 2 [.int .i64 0] [] [(0, (.t 23)), (1, (.t 25))], some (21, false)⟩, ⟨some 27, .call 173 [(.t 26)] [], some (21, false)⟩, ⟨some 28, .un .not (.t 27), some (21, false)⟩, ⟨some 29, .pick (.t 21) (.c (.bool true)) (.t 28), none⟩])
 (.cond (.t 29) (.seq (.reg false [] [2] [⟨some 2, .mov (.c (.bool false)), none⟩])
 .ret)
 .skip))
 (.seq (.seq (.reg false [] [1, 31] [⟨some 30, .fad 1 (.t 1), none⟩, ⟨some 31, .ld 1 false (.t 30), none⟩])
 (.block 0 (.seq (.seq (.reg false [] [1, 31, 32] [⟨some 33, .bin .eql (.t 31) (.c (.int .i64 1)), none⟩, ⟨some 32, .mov (.t 33), none⟩])
 (.cond (.t 32) .skip
 (.reg false [] [1, 31, 32] [⟨some 34, .bin .eql (.t 31) (.c (.int .i64 2)), none⟩, ⟨some 32, .mov (.t 34), none⟩])))
 (.cond (.t 32) (.seq (.seq (.reg false [] [1, 59] [⟨some 35, .fad 5 (.t 1), none⟩, ⟨some 36, .ld 1 false (.t 35), none⟩, ⟨some 37, .fad 4 (.t 1), none⟩, ⟨some 38, .ld 1 false (.t 37), none⟩, ⟨some 39, .bin .leq (.t 36) (.t 38), none⟩, ⟨some 40, .mov (.t 39), none⟩, ⟨some 41, .fad 6 (.t 1), some (40, false)⟩, ⟨some 42, .ld 1 false (.t 41), some (40, false)⟩, ⟨some 43, .fad 5 (.t 1), some (40, false)⟩, ⟨some 44, .ld 1 false (.t 43), some (40, false)⟩, ⟨some 45, .fad 4 (.t 1), some (40, false)⟩, ⟨some 46, .ld 1 false (.t 45), some (40, false)⟩, ⟨some 47, .bin .sub (.t 44) (.t 46), some (40, false)⟩, ⟨some 48, .call 174 [(.t 42), (.t 47)] [], some (40, false)⟩, ⟨some 49, .un .not (.t 48), some (40, false)⟩, ⟨some 50, .pick (.t 40) (.c (.bool true)) (.t 49), none⟩, ⟨some 51, .mov (.t 50), none⟩, ⟨some 52, .fad 1 (.t 1), some (51, false)⟩, ⟨some 53, .ld 1 false (.t 52), some (51, false)⟩, ⟨some 54, .bin .eql (.t 53) (.c (.int .i64 1)), some (51, false)⟩, ⟨some 55, .mov (.t 54), some (51, false)⟩, ⟨some 56, .fad 7 (.t 1), some (55, true)⟩, ⟨some 57, .ld 1 false (.t 56), some (55, true)⟩, ⟨some 58, .pick (.t 55) (.t 57) (.c (.bool false)), some (51, false)⟩, ⟨some 59, .pick (.t 51) (.c (.bool true)) (.t 58), none⟩])
 (.cond (.t 59) (.seq (.reg false [] [2] [⟨some 2, .mov (.c (.bool false)), none⟩])
 .ret)
 .skip))
 (.seq (.seq (.reg false [] [1, 62] [⟨some 60, .fad 7 (.t 1), none⟩, ⟨some 61, .ld 1 false (.t 60), none⟩, ⟨some 62, .un .not (.t 61), none⟩])
 (.cond (.t 62) (.seq (.reg false [] [2] [⟨some 63, .fad 8 (.t 1), none⟩, ⟨some 64, .ld 1 false (.t 63), none⟩, ⟨some 65, .bin .eql (.t 64) (.c (.int .i64 0)), none⟩, ⟨some 2, .mov (.t 65), none⟩])
 .ret)
 .skip))
 (.seq (.reg true [0, 1, 0, 4, 0, 16, 48, 112, 252, 508, 1020, 2047, 4095] [2] [⟨some 66, .fad 8 (.t 1), none⟩, ⟨some 67, .ld 1 false (.t 66), none⟩, ⟨some 68, .fad 6 (.t 1), none⟩, ⟨some 69, .ld 1 false (.t 68), none⟩, ⟨some 70, .fad 6 (.t 1), none⟩, ⟨some 71, .ld 1 false (.t 70), none⟩, ⟨some 72, .len (.t 71), none⟩, ⟨some 73, .bin .sub (.t 72) (.c (.int .i64 1)), none⟩, ⟨some 74, .iadS 2 (.t 69) (.t 73), none⟩, ⟨some 75, .fad 1 (.t 74), none⟩, ⟨some 76, .ld 1 false (.t 75), none⟩, ⟨some 77, .call 172 [(.t 67), (.c (.int .i64 0)), (.t 76)] [], none⟩, ⟨some 2, .mov (.t 77), none⟩])
 .ret)))
 (.seq (.reg false [] [1, 78] [⟨some 79, .bin .eql (.t 31) (.c (.int .i64 3)), none⟩, ⟨some 78, .mov (.t 79), none⟩])
 (.cond (.t 78) (.seq (.reg false [] [2] [⟨some 80, .fad 5 (.t 1), none⟩, ⟨some 81, .ld 1 false (.t 80), none⟩, ⟨some 82, .fad 4 (.t 1), none⟩, ⟨some 83, .ld 1 false (.t 82), none⟩, ⟨some 84, .bin .geq (.t 81) (.t 83), none⟩, ⟨some 85, .mov (.t 84), none⟩, ⟨some 86, .fad 6 (.t 1), some (85, true)⟩, ⟨some 87, .ld 1 false (.t 86), some (85, true)⟩, ⟨some 88, .len (.t 87), some (85, true)⟩, ⟨some 89, .bin .eql (.t 88) (.c (.int .i64 0)), some (85, true)⟩, ⟨some 90, .pick (.t 85) (.t 89) (.c (.bool false)), none⟩, ⟨some 91, .mov (.t 90), none⟩, ⟨some 92, .fad 7 (.t 1), some (91, true)⟩, ⟨some 93, .ld 1 false (.t 92), some (91, true)⟩, ⟨some 94, .un .not (.t 93), some (91, true)⟩, ⟨some 95, .pick (.t 91) (.t 94) (.c (.bool false)), none⟩, ⟨some 96, .mov (.t 95), none⟩, ⟨some 97, .fad 8 (.t 1), some (96, true)⟩, ⟨some 98, .ld 1 false (.t 97), some (96, true)⟩, ⟨some 99, .bin .eql (.t 98) (.c (.int .i64 0)), some (96, true)⟩, ⟨some 100, .pick (.t 96) (.t 99) (.c (.bool false)), none⟩, ⟨some 2, .mov (.t 100), none⟩])
 .ret)
 .skip))))))
 (.seq (.reg false [] [2] [⟨some 2, .mov (.c (.bool false)), none⟩])
 .ret)))) }

/-- sewershed/network.node -/
def N169_network_node : NFun := { np := 2, nt := 9, res := [(4, none)], body :=
 (.seq (.reg false [] [2, 3] [⟨some 2, .boxF (.t 0), none⟩, ⟨some 3, .boxF (.t 1), none⟩, ⟨some 4, .mov (.c (.int .i64 0)), none⟩])
 (.seq (.reg false [] [4] [⟨some 5, .fad 0 (.t 2), none⟩, ⟨some 6, .ld 1 false (.t 5), none⟩, ⟨some 7, .mk 176 [(.t 3)], none⟩, ⟨some 8, .call 175 [(.t 6), (.t 7)] [], none⟩, ⟨some 4, .mov (.t 8), none⟩])
 .ret)) }

/-- sewershed/network.rightLink -/
def N170_network_rightLink : NFun := { np := 1, nt := 97, res := [(2, none)], body :=
 (.seq (.reg false [] [1] [⟨some 1, .boxF (.t 0), none⟩, ⟨some 2, .mov (.c (.bool false)), none⟩])
 (.seq (.seq (.reg true [0, 1, 3, 7, 15, 31, 63, 127, 255, 511, 1023, 2047, 4095, 8191, 16383, 32767, 65535, 131071, 262143, 131071, 655359, 2097151, 4194303, 8388607, 16777215, 33554431, 67108863, 134217727, 268435455, 536870911, 1073741823, 2147483647, 2147483647, 6442450943, 17179869183, 34359738367, 68719476735] [1, 39] [⟨some 3, .fad 0 (.t 1), none⟩, ⟨some 4, .ld 1 false (.t 3), none⟩, ⟨some 5, .call 58 [(.t 4)] [], none⟩, ⟨some 6, .un .not (.t 5), none⟩, ⟨some 7, .mov (.t 6), none⟩, ⟨some 8, .fad 1 (.t 1), some (7, false)⟩, ⟨some 9, .ld 1 false (.t 8), some (7, false)⟩, ⟨some 10, .call 58 [(.t 9)] [], some (7, false)⟩, ⟨some 11, .un .not (.t 10), some (7, false)⟩, ⟨some 12, .pick (.t 7) (.c (.bool true)) (.t 11), none⟩, ⟨some 13, .mov (.t 12), none⟩, ⟨some 14, .fad 2 (.t 1), some (13, false)⟩, ⟨some 15, .ld 1 false (.t 14), some (13, false)⟩, ⟨some 16, .call 58 [(.t 15)] [], some (13, false)⟩, ⟨some 17, .un .not (.t 16), some (13, false)⟩, ⟨some 18, .pick (.t 13) (.c (.bool true)) (.t 17), none⟩, ⟨some 19, .mov (.t 18), none⟩, ⟨some 20, .fad 1 (.t 1), some (19, false)⟩, ⟨some 21, .ld 1 false (.t 20), some (19, false)⟩, ⟨some 22, .fad 2 (.t 1), some (19, false)⟩, ⟨some 23, .ld 1 false (.t 22), some (19, false)⟩, ⟨some 24, .bin .eql (.t 21) (.t 23), some (19, false)⟩, ⟨some 25, .pick (.t 19) (.c (.bool true)) (.t 24), none⟩, ⟨some 26, .mov (.t 25), none⟩, ⟨some 27, .fad 5 (.t 1), some (26, false)⟩, ⟨some 28, .ld 1 false (.t 27), some (26, false)⟩, ⟨some 29, .bls 1 1 [.int .i64 0] [] [(0, (.t 28))], some (26, false)⟩, ⟨some 30, .call 173 [(.t 29)] [], some (26, false)⟩, ⟨some 31, .un .not (.t 30), some (26, false)⟩, ⟨some 32, .pick (.t 26) (.c (.bool true)) (.t 31), none⟩, ⟨some 33, .mov (.t 32), none⟩, ⟨some 34, .ld 11 true (.t 1), some (33, false)⟩, ⟨some 35, .ld 11 true (.t 1), some (33, false)⟩, ⟨some 36, .call 178 [(.t 35)] [], some (33, false)⟩, ⟨some 37, .call 177 [(.t 34), (.t 36)] [], some (33, false)⟩, ⟨some 38, .un .not (.t 37), some (33, false)⟩, ⟨some 39, .pick (.t 33) (.c (.bool true)) (.t 38), none⟩])
 (.cond (.t 39) (.seq (.reg false [] [2] [⟨some 2, .mov (.c (.bool false)), none⟩])
 .ret)
 .skip))
 (.seq (.seq (.reg false [] [1, 41] [⟨some 40, .fad 3 (.t 1), none⟩, ⟨some 41, .ld 1 false (.t 40), none⟩])
 (.block 0 (.seq (.reg false [] [1, 41, 42] [⟨some 43, .bin .eql (.t 41) (.c (.int .i64 1)), none⟩, ⟨some 42, .mov (.t 43), none⟩])
 (.cond (.t 42) (.seq (.reg false [] [2] [⟨some 44, .fad 4 (.t 1), none⟩, ⟨some 45, .ld 1 false (.t 44), none⟩, ⟨some 46, .call 172 [(.t 45), (.c (.int .i64 1)), (.c (.int .i64 16777216))] [], none⟩, ⟨some 47, .mov (.t 46), none⟩, ⟨some 48, .fad 6 (.t 1), some (47, true)⟩, ⟨some 49, .ld 1 false (.t 48), some (47, true)⟩, ⟨some 50, .bls 1 1 [.int .i64 0] [] [(0, (.t 49))], some (47, true)⟩, ⟨some 51, .call 173 [(.t 50)] [], some (47, true)⟩, ⟨some 52, .pick (.t 47) (.t 51) (.c (.bool false)), none⟩, ⟨some 53, .mov (.t 52), none⟩, ⟨some 54, .fad 7 (.t 1), some (53, true)⟩, ⟨some 55, .ld 1 false (.t 54), some (53, true)⟩, ⟨some 56, .call 58 [(.t 55)] [], some (53, true)⟩, ⟨some 57, .pick (.t 53) (.t 56) (.c (.bool false)), none⟩, ⟨some 2, .mov (.t 57), none⟩])
 .ret)
 (.seq (.reg false [] [1, 41, 58] [⟨some 59, .bin .eql (.t 41) (.c (.int .i64 2)), none⟩, ⟨some 58, .mov (.t 59), none⟩])
 (.cond (.t 58) (.seq (.reg false [] [2] [⟨some 60, .fad 8 (.t 1), none⟩, ⟨some 61, .ld 1 false (.t 60), none⟩, ⟨some 62, .call 172 [(.t 61), (.c (.int .i64 1)), (.c (.int .i64 1048576))] [], none⟩, ⟨some 2, .mov (.t 62), none⟩])
 .ret)
 (.seq (.reg false [] [1, 41, 63] [⟨some 64, .bin .eql (.t 41) (.c (.int .i64 3)), none⟩, ⟨some 63, .mov (.t 64), none⟩])
 (.cond (.t 63) (.seq (.reg false [] [2] [⟨some 65, .fad 8 (.t 1), none⟩, ⟨some 66, .ld 1 false (.t 65), none⟩, ⟨some 67, .call 172 [(.t 66), (.c (.int .i64 1)), (.c (.int .i64 32768))] [], none⟩, ⟨some 68, .mov (.t 67), none⟩, ⟨some 69, .fad 9 (.t 1), some (68, true)⟩, ⟨some 70, .ld 1 false (.t 69), some (68, true)⟩, ⟨some 71, .call 172 [(.t 70), (.c (.int .i64 1)), (.c (.int .i64 32768))] [], some (68, true)⟩, ⟨some 72, .pick (.t 68) (.t 71) (.c (.bool false)), none⟩, ⟨some 2, .mov (.t 72), none⟩])
 .ret)
 (.seq (.reg false [] [1, 73] [⟨some 74, .bin .eql (.t 41) (.c (.int .i64 4)), none⟩, ⟨some 73, .mov (.t 74), none⟩])
 (.cond (.t 73) (.seq (.reg false [] [2] [⟨some 75, .fad 6 (.t 1), none⟩, ⟨some 76, .ld 1 false (.t 75), none⟩, ⟨some 77, .bls 1 1 [.int .i64 0] [] [(0, (.t 76))], none⟩, ⟨some 78, .call 173 [(.t 77)] [], none⟩, ⟨some 79, .mov (.t 78), none⟩, ⟨some 80, .fad 6 (.t 1), some (79, true)⟩, ⟨some 81, .ld 1 false (.t 80), some (79, true)⟩, ⟨some 82, .fad 5 (.t 1), some (79, true)⟩, ⟨some 83, .ld 1 false (.t 82), some (79, true)⟩, ⟨some 84, .bin .lss (.t 81) (.t 83), some (79, true)⟩, ⟨some 85, .pick (.t 79) (.t 84) (.c (.bool false)), none⟩, ⟨some 86, .mov (.t 85), none⟩, ⟨some 87, .fad 10 (.t 1), some (86, true)⟩, ⟨some 88, .ld 1 false (.t 87), some (86, true)⟩, ⟨some 89, .call 72 [(.t 88)] [], some (86, true)⟩, ⟨some 90, .pick (.t 86) (.t 89) (.c (.bool false)), none⟩, ⟨some 91, .mov (.t 90), none⟩, ⟨some 92, .fad 10 (.t 1), some (91, true)⟩, ⟨some 93, .ld 1 false (.t 92), some (91, true)⟩, ⟨some 94, .call 179 [(.t 93), (.c (.fn 180 []))] [], some (91, true)⟩, ⟨some 95, .un .not (.t 94), some (91, true)⟩, ⟨some 96, .pick (.t 91) (.t 95) (.c (.bool false)), none⟩, ⟨some 2, .mov (.t 96), none⟩])
 .ret)
 .skip))))))))))
 (.seq (.reg false [] [2] [⟨some 2, .mov (.c (.bool false)), none⟩])
 .ret)))) }

/-- sewershed/network.link -/
def N171_network_link : NFun := { np := 2, nt := 9, res := [(4, none)], body :=
 (.seq (.reg false [] [2, 3] [⟨some 2, .boxF (.t 0), none⟩, ⟨some 3, .boxF (.t 1), none⟩, ⟨some 4, .mov (.c (.int .i64 0)), none⟩])
 (.seq (.reg false [] [4] [⟨some 5, .fad 1 (.t 2), none⟩, ⟨some 6, .ld 1 false (.t 5), none⟩, ⟨some 7, .mk 182 [(.t 3)], none⟩, ⟨some 8, .call 181 [(.t 6), (.t 7)] [], none⟩, ⟨some 4, .mov (.t 8), none⟩])
 .ret)) }

/-- sewershed/network.between -/
def N172_network_between : NFun := { np := 3, nt := 15, res := [(6, none)], body :=
 (.seq (.reg false [] [0, 1, 2] [⟨some 6, .mov (.c (.bool false)), none⟩])
 (.seq (.reg false [] [6] [⟨some 7, .mov (.t 0), none⟩, ⟨some 8, .mov (.t 1), none⟩, ⟨some 9, .bin .geq (.t 7) (.t 8), none⟩, ⟨some 10, .mov (.t 9), none⟩, ⟨some 11, .mov (.t 0), some (10, true)⟩, ⟨some 12, .mov (.t 2), some (10, true)⟩, ⟨some 13, .bin .leq (.t 11) (.t 12), some (10, true)⟩, ⟨some 14, .pick (.t 10) (.t 13) (.c (.bool false)), none⟩, ⟨some 6, .mov (.t 14), none⟩])
 .ret)) }

/-- sewershed/network.level -/
def N173_network_level : NFun := { np := 1, nt := 6, res := [(2, none)], body :=
 (.seq (.reg false [] [0] [⟨some 2, .mov (.c (.bool false)), none⟩])
 (.seq (.reg false [] [2] [⟨some 3, .asg (.t 0), none⟩, ⟨some 4, .call 11 [(.t 3), (.c (.fn 183 []))] [], none⟩, ⟨some 5, .un .not (.t 4), none⟩, ⟨some 2, .mov (.t 5), none⟩])
 .ret)) }

/-- sewershed/network.shaped -/
def N174_network_shaped : NFun := { np := 2, nt := 31, res := [(4, none)], body :=
 (.seq (.reg false [] [0, 1] [⟨some 4, .mov (.c (.bool false)), none⟩])
 (.seq (.seq (.reg false [] [0, 1, 8] [⟨some 6, .mov (.t 0), none⟩, ⟨some 7, .call 72 [(.t 6)] [], none⟩, ⟨some 8, .un .not (.t 7), none⟩])
 (.cond (.t 8) (.seq (.reg false [] [4] [⟨some 4, .mov (.c (.bool false)), none⟩])
 .ret)
 .skip))
 (.seq (.reg false [] [0, 1, 5] [⟨some 9, .mov (.t 0), none⟩, ⟨some 10, .mov (.t 0), none⟩, ⟨some 11, .len (.t 10), none⟩, ⟨some 12, .bin .sub (.t 11) (.c (.int .i64 1)), none⟩, ⟨some 13, .iadS 2 (.t 9) (.t 12), none⟩, ⟨some 14, .ld 2 true (.t 13), none⟩, ⟨some 5, .alc [.int .i64 0, .int .i64 0], none⟩, ⟨none, .st 2 [] (.t 5) (.t 14), none⟩])
 (.seq (.reg false [] [4] [⟨some 15, .asg (.t 0), none⟩, ⟨some 16, .iadS 2 (.t 15) (.c (.int .i64 0)), none⟩, ⟨some 17, .ld 2 true (.t 16), none⟩, ⟨some 18, .bld [.int .i64 0, .int .i64 0] [], none⟩, ⟨some 19, .beq false [0, 0] (.t 17) (.t 18), none⟩, ⟨some 20, .mov (.t 19), none⟩, ⟨some 21, .fad 0 (.t 5), some (20, true)⟩, ⟨some 22, .ld 1 false (.t 21), some (20, true)⟩, ⟨some 23, .mov (.t 1), some (20, true)⟩, ⟨some 24, .bin .eql (.t 22) (.t 23), some (20, true)⟩, ⟨some 25, .pick (.t 20) (.t 24) (.c (.bool false)), none⟩, ⟨some 26, .mov (.t 25), none⟩, ⟨some 27, .fad 1 (.t 5), some (26, true)⟩, ⟨some 28, .ld 1 false (.t 27), some (26, true)⟩, ⟨some 29, .bin .leq (.t 28) (.c (.int .i64 1125899906842624)), some (26, true)⟩, ⟨some 30, .pick (.t 26) (.t 29) (.c (.bool false)), none⟩, ⟨some 4, .mov (.t 30), none⟩])
 .ret)))) }

/-- slices.IndexFunc[[]sewershed/api.Node,sewershed/api.Node] -/
def N175_slices_IndexFunc__api_Node_api_Node : NFun := { np := 2, nt := 19, res := [(4, none)], body :=
 (.seq (.reg false [] [0, 1] [⟨some 4, .mov (.c (.int .i64 0)), none⟩])
 (.seq (.seq (.reg false [] [0, 1, 7, 8] [⟨some 6, .mov (.t 0), none⟩, ⟨some 7, .len (.t 6), none⟩, ⟨some 8, .mov (.c (.int .i64 0)), none⟩])
 (.block 0 (.loop (.seq (.reg false [] [0, 1, 7, 8, 9] [⟨some 9, .bin .lss (.t 8) (.t 7), none⟩])
 (.seq (.cond (.t 9) .skip
 (.exit 0))
 (.seq (.block 1 (.seq (.reg false [] [0, 1, 5, 7, 8] [⟨some 10, .mov (.t 8), none⟩, ⟨some 5, .mov (.t 10), none⟩])
 (.seq (.reg false [] [0, 1, 5, 7, 8, 16] [⟨some 11, .mov (.t 1), none⟩, ⟨some 12, .mov (.t 0), none⟩, ⟨some 13, .mov (.t 5), none⟩, ⟨some 14, .iadS 9 (.t 12) (.t 13), none⟩, ⟨some 15, .ld 9 true (.t 14), none⟩, ⟨some 16, .callv (.t 11) [(.t 15)], none⟩])
 (.cond (.t 16) (.seq (.reg false [] [4] [⟨some 17, .mov (.t 5), none⟩, ⟨some 4, .mov (.t 17), none⟩])
 .ret)
 .skip))))
 (.reg false [] [0, 1, 7, 8] [⟨some 18, .bin .add (.t 8) (.c (.int .i64 1)), none⟩, ⟨some 8, .mov (.t 18), none⟩])))))))
 (.seq (.reg false [] [4] [⟨some 4, .mov (.c (.int .i64 (-1))), none⟩])
 .ret))) }

/-- sewershed/network.node$1 -/
def N176_network_node_1 : NFun := { np := 2, nt := 8, res := [(3, none)], body :=
 (.seq (.reg false [] [1, 2] [⟨some 2, .boxF (.t 0), none⟩, ⟨some 3, .mov (.c (.bool false)), none⟩])
 (.seq (.reg false [] [3] [⟨some 4, .fad 0 (.t 2), none⟩, ⟨some 5, .ld 1 false (.t 4), none⟩, ⟨some 6, .ld 1 false (.t 1), none⟩, ⟨some 7, .bin .eql (.t 5) (.t 6), none⟩, ⟨some 3, .mov (.t 7), none⟩])
 .ret)) }

/-- sewershed/network.sameLink -/
def N177_network_sameLink : NFun := { np := 2, nt := 80, res := [(4, none)], body :=
 (.seq (.reg false [] [2, 3] [⟨some 2, .boxF (.t 0), none⟩, ⟨some 3, .boxF (.t 1), none⟩, ⟨some 4, .mov (.c (.bool false)), none⟩])
 (.seq (.reg false [] [4] [⟨some 5, .fad 0 (.t 2), none⟩, ⟨some 6, .ld 1 false (.t 5), none⟩, ⟨some 7, .fad 0 (.t 3), none⟩, ⟨some 8, .ld 1 false (.t 7), none⟩, ⟨some 9, .bin .eql (.t 6) (.t 8), none⟩, ⟨some 10, .mov (.t 9), none⟩, ⟨some 11, .fad 1 (.t 2), some (10, true)⟩, ⟨some 12, .ld 1 false (.t 11), some (10, true)⟩, ⟨some 13, .fad 1 (.t 3), some (10, true)⟩, ⟨some 14, .ld 1 false (.t 13), some (10, true)⟩, ⟨some 15, .bin .eql (.t 12) (.t 14), some (10, true)⟩, ⟨some 16, .pick (.t 10) (.t 15) (.c (.bool false)), none⟩, ⟨some 17, .mov (.t 16), none⟩, ⟨some 18, .fad 2 (.t 2), some (17, true)⟩, ⟨some 19, .ld 1 false (.t 18), some (17, true)⟩, ⟨some 20, .fad 2 (.t 3), some (17, true)⟩, ⟨some 21, .ld 1 false (.t 20), some (17, true)⟩, ⟨some 22, .bin .eql (.t 19) (.t 21), some (17, true)⟩, ⟨some 23, .pick (.t 17) (.t 22) (.c (.bool false)), none⟩, ⟨some 24, .mov (.t 23), none⟩, ⟨some 25, .fad 3 (.t 2), some (24, true)⟩, ⟨some 26, .ld 1 false (.t 25), some (24, true)⟩, ⟨some 27, .fad 3 (.t 3), some (24, true)⟩, ⟨some 28, .ld 1 false (.t 27), some (24, true)⟩, ⟨some 29, .bin .eql (.t 26) (.t 28), some (24, true)⟩, ⟨some 30, .pick (.t 24) (.t 29) (.c (.bool false)), none⟩, ⟨some 31, .mov (.t 30), none⟩, ⟨some 32, .fad 4 (.t 2), some (31, true)⟩, ⟨some 33, .ld 1 false (.t 32), some (31, true)⟩, ⟨some 34, .fad 4 (.t 3), some (31, true)⟩, ⟨some 35, .ld 1 false (.t 34), some (31, true)⟩, ⟨some 36, .bin .eql (.t 33) (.t 35), some (31, true)⟩, ⟨some 37, .pick (.t 31) (.t 36) (.c (.bool false)), none⟩, ⟨some 38, .mov (.t 37), none⟩, ⟨some 39, .fad 5 (.t 2), some (38, true)⟩, ⟨some 40, .ld 1 false (.t 39), some (38, true)⟩, ⟨some 41, .fad 5 (.t 3), some (38, true)⟩, ⟨some 42, .ld 1 false (.t 41), some (38, true)⟩, ⟨some 43, .bin .eql (.t 40) (.t 42), some (38, true)⟩, ⟨some 44, .pick (.t 38) (.t 43) (.c (.bool false)), none⟩, ⟨some 45, .mov (.t 44), none⟩, ⟨some 46, .fad 6 (.t 2), some (45, true)⟩, ⟨some 47, .ld 1 false (.t 46), some (45, true)⟩, ⟨some 48, .fad 6 (.t 3), some (45, true)⟩, ⟨some 49, .ld 1 false (.t 48), some (45, true)⟩, ⟨some 50, .bin .eql (.t 47) (.t 49), some (45, true)⟩, ⟨some 51, .pick (.t 45) (.t 50) (.c (.bool false)), none⟩, ⟨some 52, .mov (.t 51), none⟩, ⟨some 53, .fad 7 (.t 2), some (52, true)⟩, ⟨some 54, .ld 1 false (.t 53), some (52, true)⟩, ⟨some 55, .fad 7 (.t 3), some (52, true)⟩, ⟨some 56, .ld 1 false (.t 55), some (52, true)⟩, ⟨some 57, .bin .eql (.t 54) (.t 56), some (52, true)⟩, ⟨some 58, .pick (.t 52) (.t 57) (.c (.bool false)), none⟩, ⟨some 59, .mov (.t 58), none⟩, ⟨some 60, .fad 8 (.t 2), some (59, true)⟩, ⟨some 61, .ld 1 false (.t 60), some (59, true)⟩, ⟨some 62, .fad 8 (.t 3), some (59, true)⟩, ⟨some 63, .ld 1 false (.t 62), some (59, true)⟩, ⟨some 64, .bin .eql (.t 61) (.t 63), some (59, true)⟩, ⟨some 65, .pick (.t 59) (.t 64) (.c (.bool false)), none⟩, ⟨some 66, .mov (.t 65), none⟩, ⟨some 67, .fad 9 (.t 2), some (66, true)⟩, ⟨some 68, .ld 1 false (.t 67), some (66, true)⟩, ⟨some 69, .fad 9 (.t 3), some (66, true)⟩, ⟨some 70, .ld 1 false (.t 69), some (66, true)⟩, ⟨some 71, .bin .eql (.t 68) (.t 70), some (66, true)⟩, ⟨some 72, .pick (.t 66) (.t 71) (.c (.bool false)), none⟩, ⟨some 73, .mov (.t 72), none⟩, ⟨some 74, .fad 10 (.t 2), some (73, true)⟩, ⟨some 75, .ld 1 false (.t 74), some (73, true)⟩, ⟨some 76, .fad 10 (.t 3), some (73, true)⟩, ⟨some 77, .ld 1 false (.t 76), some (73, true)⟩, ⟨some 78, .call 184 [(.t 75), (.t 77)] [], some (73, true)⟩, ⟨some 79, .pick (.t 73) (.t 78) (.c (.bool false)), none⟩, ⟨some 4, .mov (.t 79), none⟩])
 .ret)) }

/-- sewershed/network.plain -/
def N178_network_plain : NFun := { np := 1, nt := 50, res := [(2, some (11, true))], body :=
 (.seq (.reg false [] [1, 2] [⟨some 1, .boxF (.t 0), none⟩, ⟨some 2, .alc [.str [], .str [], .str [], .int .i64 0, .int .i64 0, .int .i64 0, .int .i64 0, .str [], .int .i64 0, .int .i64 0, .own 2 []], none⟩])
 (.seq (.reg false [] [1, 2, 3] [⟨some 4, .fad 0 (.t 1), none⟩, ⟨some 5, .ld 1 false (.t 4), none⟩, ⟨some 6, .fad 1 (.t 1), none⟩, ⟨some 7, .ld 1 false (.t 6), none⟩, ⟨some 8, .fad 2 (.t 1), none⟩, ⟨some 9, .ld 1 false (.t 8), none⟩, ⟨some 10, .fad 3 (.t 1), none⟩, ⟨some 11, .ld 1 false (.t 10), none⟩, ⟨some 12, .fad 5 (.t 1), none⟩, ⟨some 13, .ld 1 false (.t 12), none⟩, ⟨some 14, .bld [.str [], .str [], .str [], .int .i64 0, .int .i64 0, .int .i64 0, .int .i64 0, .str [], .int .i64 0, .int .i64 0, .nils] [(0, 1, (.t 5)), (1, 1, (.t 7)), (2, 1, (.t 9)), (3, 1, (.t 11)), (5, 1, (.t 13))], none⟩, ⟨some 3, .alc [.str [], .str [], .str [], .int .i64 0, .int .i64 0, .int .i64 0, .int .i64 0, .str [], .int .i64 0, .int .i64 0, .own 2 []], none⟩, ⟨none, .st 11 [] (.t 3) (.t 14), none⟩])
 (.seq (.seq (.reg false [] [1, 2, 3, 16] [⟨some 15, .fad 3 (.t 1), none⟩, ⟨some 16, .ld 1 false (.t 15), none⟩])
 (.block 0 (.seq (.reg false [] [1, 2, 3, 16, 17] [⟨some 18, .bin .eql (.t 16) (.c (.int .i64 1)), none⟩, ⟨some 17, .mov (.t 18), none⟩])
 (.cond (.t 17) (.reg true [0, 1, 0, 4, 0, 16, 3, 67, 207, 463, 1023, 2047] [2, 3] [⟨some 19, .fad 4 (.t 1), none⟩, ⟨some 20, .ld 1 false (.t 19), none⟩, ⟨some 21, .fad 6 (.t 1), none⟩, ⟨some 22, .ld 1 false (.t 21), none⟩, ⟨some 23, .fad 7 (.t 1), none⟩, ⟨some 24, .ld 1 false (.t 23), none⟩, ⟨some 25, .fad 4 (.t 3), none⟩, ⟨none, .st 1 [] (.t 25) (.t 20), none⟩, ⟨some 26, .fad 6 (.t 3), none⟩, ⟨none, .st 1 [] (.t 26) (.t 22), none⟩, ⟨some 27, .fad 7 (.t 3), none⟩, ⟨none, .st 1 [] (.t 27) (.t 24), none⟩])
 (.seq (.reg false [] [1, 2, 3, 16, 28] [⟨some 29, .bin .eql (.t 16) (.c (.int .i64 2)), none⟩, ⟨some 28, .mov (.t 29), none⟩])
 (.cond (.t 28) (.reg false [] [2, 3] [⟨some 30, .fad 8 (.t 1), none⟩, ⟨some 31, .ld 1 false (.t 30), none⟩, ⟨some 32, .fad 8 (.t 3), none⟩, ⟨none, .st 1 [] (.t 32) (.t 31), none⟩])
 (.seq (.reg false [] [1, 2, 3, 16, 33] [⟨some 34, .bin .eql (.t 16) (.c (.int .i64 3)), none⟩, ⟨some 33, .mov (.t 34), none⟩])
 (.cond (.t 33) (.reg true [0, 1, 0, 4, 3, 19, 63, 127] [2, 3] [⟨some 35, .fad 8 (.t 1), none⟩, ⟨some 36, .ld 1 false (.t 35), none⟩, ⟨some 37, .fad 9 (.t 1), none⟩, ⟨some 38, .ld 1 false (.t 37), none⟩, ⟨some 39, .fad 8 (.t 3), none⟩, ⟨none, .st 1 [] (.t 39) (.t 36), none⟩, ⟨some 40, .fad 9 (.t 3), none⟩, ⟨none, .st 1 [] (.t 40) (.t 38), none⟩])
 (.seq (.reg false [] [1, 2, 3, 41] [⟨some 42, .bin .eql (.t 16) (.c (.int .i64 4)), none⟩, ⟨some 41, .mov (.t 42), none⟩])
 (.cond (.t 41) (.reg true [0, 1, 0, 4, 3, 19, 63, 127] [2, 3] [⟨some 43, .fad 6 (.t 1), none⟩, ⟨some 44, .ld 1 false (.t 43), none⟩, ⟨some 45, .fad 10 (.t 1), none⟩, ⟨some 46, .ld 1 false (.t 45), none⟩, ⟨some 47, .fad 6 (.t 3), none⟩, ⟨none, .st 1 [] (.t 47) (.t 44), none⟩, ⟨some 48, .fad 10 (.t 3), none⟩, ⟨none, .st 1 [] (.t 48) (.t 46), none⟩])
 .skip))))))))))
 (.seq (.reg false [] [2] [⟨some 49, .ld 11 true (.t 3), none⟩, ⟨none, .st 11 [] (.t 2) (.t 49), none⟩])
 .ret)))) }

/-- slices.ContainsFunc[sewershed/api.Table,sewershed/api.Knot] -/
def N179_slices_ContainsFunc_api_Table_api_Knot : NFun := { np := 2, nt := 9, res := [(4, none)], body :=
 (.seq (.reg false [] [0, 1] [⟨some 4, .mov (.c (.bool false)), none⟩])
 (.seq (.reg false [] [4] [⟨some 5, .asg (.t 0), none⟩, ⟨some 6, .mov (.t 1), none⟩, ⟨some 7, .call 185 [(.t 5), (.t 6)] [], none⟩, ⟨some 8, .bin .geq (.t 7) (.c (.int .i64 0)), none⟩, ⟨some 4, .mov (.t 8), none⟩])
 .ret)) }

/-- sewershed/network.rightLink$1 -/
def N180_network_rightLink_1 : NFun := { np := 1, nt := 13, res := [(2, none)], body :=
 (.seq (.reg false [] [1] [⟨some 1, .boxF (.t 0), none⟩, ⟨some 2, .mov (.c (.bool false)), none⟩])
 (.seq (.reg false [] [2] [⟨some 3, .fad 0 (.t 1), none⟩, ⟨some 4, .ld 1 false (.t 3), none⟩, ⟨some 5, .call 172 [(.t 4), (.c (.int .i64 0)), (.c (.int .i64 4194304))] [], none⟩, ⟨some 6, .un .not (.t 5), none⟩, ⟨some 7, .mov (.t 6), none⟩, ⟨some 8, .fad 1 (.t 1), some (7, false)⟩, ⟨some 9, .ld 1 false (.t 8), some (7, false)⟩, ⟨some 10, .call 172 [(.t 9), (.c (.int .i64 0)), (.c (.int .i64 1099511627776))] [], some (7, false)⟩, ⟨some 11, .un .not (.t 10), some (7, false)⟩, ⟨some 12, .pick (.t 7) (.c (.bool true)) (.t 11), none⟩, ⟨some 2, .mov (.t 12), none⟩])
 .ret)) }

/-- slices.IndexFunc[[]sewershed/api.Link,sewershed/api.Link] -/
def N181_slices_IndexFunc__api_Link_api_Link : NFun := { np := 2, nt := 19, res := [(4, none)], body :=
 (.seq (.reg false [] [0, 1] [⟨some 4, .mov (.c (.int .i64 0)), none⟩])
 (.seq (.seq (.reg false [] [0, 1, 7, 8] [⟨some 6, .mov (.t 0), none⟩, ⟨some 7, .len (.t 6), none⟩, ⟨some 8, .mov (.c (.int .i64 0)), none⟩])
 (.block 0 (.loop (.seq (.reg false [] [0, 1, 7, 8, 9] [⟨some 9, .bin .lss (.t 8) (.t 7), none⟩])
 (.seq (.cond (.t 9) .skip
 (.exit 0))
 (.seq (.block 1 (.seq (.reg false [] [0, 1, 5, 7, 8] [⟨some 10, .mov (.t 8), none⟩, ⟨some 5, .mov (.t 10), none⟩])
 (.seq (.reg false [] [0, 1, 5, 7, 8, 16] [⟨some 11, .mov (.t 1), none⟩, ⟨some 12, .mov (.t 0), none⟩, ⟨some 13, .mov (.t 5), none⟩, ⟨some 14, .iadS 11 (.t 12) (.t 13), none⟩, ⟨some 15, .ld 11 true (.t 14), none⟩, ⟨some 16, .callv (.t 11) [(.t 15)], none⟩])
 (.cond (.t 16) (.seq (.reg false [] [4] [⟨some 17, .mov (.t 5), none⟩, ⟨some 4, .mov (.t 17), none⟩])
 .ret)
 .skip))))
 (.reg false [] [0, 1, 7, 8] [⟨some 18, .bin .add (.t 8) (.c (.int .i64 1)), none⟩, ⟨some 8, .mov (.t 18), none⟩])))))))
 (.seq (.reg false [] [4] [⟨some 4, .mov (.c (.int .i64 (-1))), none⟩])
 .ret))) }

/-- sewershed/network.link$1 -/
def N182_network_link_1 : NFun := { np := 2, nt := 8, res := [(3, none)], body :=
 (.seq (.reg false [] [1, 2] [⟨some 2, .boxF (.t 0), none⟩, ⟨some 3, .mov (.c (.bool false)), none⟩])
 (.seq (.reg false [] [3] [⟨some 4, .fad 0 (.t 2), none⟩, ⟨some 5, .ld 1 false (.t 4), none⟩, ⟨some 6, .ld 1 false (.t 1), none⟩, ⟨some 7, .bin .eql (.t 5) (.t 6), none⟩, ⟨some 3, .mov (.t 7), none⟩])
 .ret)) }

/-- sewershed/network.level$1 -/
def N183_network_level_1 : NFun := { np := 1, nt := 9, res := [(2, none)], body :=
 (.seq (.reg false [] [0] [⟨some 2, .mov (.c (.bool false)), none⟩])
 (.seq (.reg false [] [2] [⟨some 3, .mov (.t 0), none⟩, ⟨some 4, .bin .lss (.t 3) (.c (.int .i64 (-4194304))), none⟩, ⟨some 5, .mov (.t 4), none⟩, ⟨some 6, .mov (.t 0), some (5, false)⟩, ⟨some 7, .bin .gtr (.t 6) (.c (.int .i64 4194304)), some (5, false)⟩, ⟨some 8, .pick (.t 5) (.c (.bool true)) (.t 7), none⟩, ⟨some 2, .mov (.t 8), none⟩])
 .ret)) }

/-- slices.Equal[sewershed/api.Table,sewershed/api.Knot] -/
def N184_slices_Equal_api_Table_api_Knot : NFun := { np := 2, nt := 26, res := [(4, none)], body :=
 (.seq (.reg false [] [0, 1] [⟨some 4, .mov (.c (.bool false)), none⟩])
 (.seq (.seq (.reg false [] [0, 1, 10] [⟨some 6, .mov (.t 0), none⟩, ⟨some 7, .len (.t 6), none⟩, ⟨some 8, .mov (.t 1), none⟩, ⟨some 9, .len (.t 8), none⟩, ⟨some 10, .bin .neq (.t 7) (.t 9), none⟩])
 (.cond (.t 10) (.seq (.reg false [] [4] [⟨some 4, .mov (.c (.bool false)), none⟩])
 .ret)
 .skip))
 (.seq (.seq (.reg false [] [0, 1, 12, 13] [⟨some 11, .mov (.t 0), none⟩, ⟨some 12, .len (.t 11), none⟩, ⟨some 13, .mov (.c (.int .i64 0)), none⟩])
 (.block 0 (.loop (.seq (.reg false [] [0, 1, 12, 13, 14] [⟨some 14, .bin .lss (.t 13) (.t 12), none⟩])
 (.seq (.cond (.t 14) .skip
 (.exit 0))
 (.seq (.block 1 (.seq (.reg false [] [0, 1, 5, 12, 13] [⟨some 15, .mov (.t 13), none⟩, ⟨some 5, .mov (.t 15), none⟩])
 (.seq (.reg true [0, 0, 3, 7, 0, 0, 48, 112, 255] [0, 1, 12, 13, 24] [⟨some 16, .mov (.t 0), none⟩, ⟨some 17, .mov (.t 5), none⟩, ⟨some 18, .iadS 2 (.t 16) (.t 17), none⟩, ⟨some 19, .ld 2 true (.t 18), none⟩, ⟨some 20, .mov (.t 1), none⟩, ⟨some 21, .mov (.t 5), none⟩, ⟨some 22, .iadS 2 (.t 20) (.t 21), none⟩, ⟨some 23, .ld 2 true (.t 22), none⟩, ⟨some 24, .beq true [0, 0] (.t 19) (.t 23), none⟩])
 (.cond (.t 24) (.seq (.reg false [] [4] [⟨some 4, .mov (.c (.bool false)), none⟩])
 .ret)
 .skip))))
 (.reg false [] [0, 1, 12, 13] [⟨some 25, .bin .add (.t 13) (.c (.int .i64 1)), none⟩, ⟨some 13, .mov (.t 25), none⟩])))))))
 (.seq (.reg false [] [4] [⟨some 4, .mov (.c (.bool true)), none⟩])
 .ret)))) }

/-- slices.IndexFunc[sewershed/api.Table,sewershed/api.Knot] -/
def N185_slices_IndexFunc_api_Table_api_Knot : NFun := { np := 2, nt := 19, res := [(4, none)], body :=
 (.seq (.reg false [] [0, 1] [⟨some 4, .mov (.c (.int .i64 0)), none⟩])
 (.seq (.seq (.reg false [] [0, 1, 7, 8] [⟨some 6, .mov (.t 0), none⟩, ⟨some 7, .len (.t 6), none⟩, ⟨some 8, .mov (.c (.int .i64 0)), none⟩])
 (.block 0 (.loop (.seq (.reg false [] [0, 1, 7, 8, 9] [⟨some 9, .bin .lss (.t 8) (.t 7), none⟩])
 (.seq (.cond (.t 9) .skip
 (.exit 0))
 (.seq (.block 1 (.seq (.reg false [] [0, 1, 5, 7, 8] [⟨some 10, .mov (.t 8), none⟩, ⟨some 5, .mov (.t 10), none⟩])
 (.seq (.reg false [] [0, 1, 5, 7, 8, 16] [⟨some 11, .mov (.t 1), none⟩, ⟨some 12, .mov (.t 0), none⟩, ⟨some 13, .mov (.t 5), none⟩, ⟨some 14, .iadS 2 (.t 12) (.t 13), none⟩, ⟨some 15, .ld 2 true (.t 14), none⟩, ⟨some 16, .callv (.t 11) [(.t 15)], none⟩])
 (.cond (.t 16) (.seq (.reg false [] [4] [⟨some 17, .mov (.t 5), none⟩, ⟨some 4, .mov (.t 17), none⟩])
 .ret)
 .skip))))
 (.reg false [] [0, 1, 7, 8] [⟨some 18, .bin .add (.t 8) (.c (.int .i64 1)), none⟩, ⟨some 8, .mov (.t 18), none⟩])))))))
 (.seq (.reg false [] [4] [⟨some 4, .mov (.c (.int .i64 (-1))), none⟩])
 .ret))) }

/-- sewershed/sewershedref26.RightLink -/
def N194_ref26_RightLink : NFun := { np := 1, nt := 160, res := [(2, none)], body :=
 (.seq (.reg false [] [1] [⟨some 1, .boxF (.t 0), none⟩, ⟨some 2, .mov (.c (.bool false)), none⟩])
 (.seq (.seq (.reg false [] [1, 37] [⟨some 3, .fad 0 (.t 1), none⟩, ⟨some 4, .ld 1 false (.t 3), none⟩, ⟨some 5, .call 54 [(.t 4)] [], none⟩, ⟨some 6, .un .not (.t 5), none⟩, ⟨some 7, .mov (.t 6), none⟩, ⟨some 8, .fad 1 (.t 1), some (7, false)⟩, ⟨some 9, .ld 1 false (.t 8), some (7, false)⟩, ⟨some 10, .call 54 [(.t 9)] [], some (7, false)⟩, ⟨some 11, .un .not (.t 10), some (7, false)⟩, ⟨some 12, .pick (.t 7) (.c (.bool true)) (.t 11), none⟩, ⟨some 13, .mov (.t 12), none⟩, ⟨some 14, .fad 2 (.t 1), some (13, false)⟩, ⟨some 15, .ld 1 false (.t 14), some (13, false)⟩, ⟨some 16, .call 54 [(.t 15)] [], some (13, false)⟩, ⟨some 17, .un .not (.t 16), some (13, false)⟩, ⟨some 18, .pick (.t 13) (.c (.bool true)) (.t 17), none⟩, ⟨some 19, .mov (.t 18), none⟩, ⟨some 20, .fad 1 (.t 1), some (19, false)⟩, ⟨some 21, .ld 1 false (.t 20), some (19, false)⟩, ⟨some 22, .fad 2 (.t 1), some (19, false)⟩, ⟨some 23, .ld 1 false (.t 22), some (19, false)⟩, ⟨some 24, .bin .eql (.t 21) (.t 23), some (19, false)⟩, ⟨some 25, .pick (.t 19) (.c (.bool true)) (.t 24), none⟩, ⟨some 26, .mov (.t 25), none⟩, ⟨some 27, .fad 5 (.t 1), some (26, false)⟩, ⟨some 28, .ld 1 false (.t 27), some (26, false)⟩, ⟨some 29, .call 199 [(.t 28)] [], some (26, false)⟩, ⟨some 30, .un .not (.t 29), some (26, false)⟩, ⟨some 31, .pick (.t 26) (.c (.bool true)) (.t 30), none⟩, ⟨some 32, .mov (.t 31), none⟩, ⟨some 33, .fad 6 (.t 1), some (32, false)⟩, ⟨some 34, .ld 1 false (.t 33), some (32, false)⟩, ⟨some 35, .call 199 [(.t 34)] [], some (32, false)⟩, ⟨some 36, .un .not (.t 35), some (32, false)⟩, ⟨some 37, .pick (.t 32) (.c (.bool true)) (.t 36), none⟩])
 (.cond (.t 37) (.seq (.reg false [] [2] [⟨some 2, .mov (.c (.bool false)), none⟩])
 .ret)
 .skip))
 (.seq (.seq (.reg false [] [1, 39] [⟨some 38, .fad 3 (.t 1), none⟩, ⟨some 39, .ld 1 false (.t 38), none⟩])
 (.block 0 (.seq (.reg false [] [1, 39, 40] [⟨some 41, .bin .eql (.t 39) (.c (.int .i64 1)), none⟩, ⟨some 40, .mov (.t 41), none⟩])
 (.cond (.t 40) (.seq (.reg false [] [2] [⟨some 42, .fad 4 (.t 1), none⟩, ⟨some 43, .ld 1 false (.t 42), none⟩, ⟨some 44, .call 200 [(.t 43), (.c (.int .i64 16777216))] [], none⟩, ⟨some 45, .mov (.t 44), none⟩, ⟨some 46, .fad 7 (.t 1), some (45, true)⟩, ⟨some 47, .ld 1 false (.t 46), some (45, true)⟩, ⟨some 48, .call 54 [(.t 47)] [], some (45, true)⟩, ⟨some 49, .pick (.t 45) (.t 48) (.c (.bool false)), none⟩, ⟨some 50, .mov (.t 49), none⟩, ⟨some 51, .fad 8 (.t 1), some (50, true)⟩, ⟨some 52, .ld 1 false (.t 51), some (50, true)⟩, ⟨some 53, .bin .eql (.t 52) (.c (.int .i64 0)), some (50, true)⟩, ⟨some 54, .pick (.t 50) (.t 53) (.c (.bool false)), none⟩, ⟨some 55, .mov (.t 54), none⟩, ⟨some 56, .fad 9 (.t 1), some (55, true)⟩, ⟨some 57, .ld 1 false (.t 56), some (55, true)⟩, ⟨some 58, .bin .eql (.t 57) (.c (.int .i64 0)), some (55, true)⟩, ⟨some 59, .pick (.t 55) (.t 58) (.c (.bool false)), none⟩, ⟨some 60, .mov (.t 59), none⟩, ⟨some 61, .fad 10 (.t 1), some (60, true)⟩, ⟨some 62, .ld 1 false (.t 61), some (60, true)⟩, ⟨some 63, .len (.t 62), some (60, true)⟩, ⟨some 64, .bin .eql (.t 63) (.c (.int .i64 0)), some (60, true)⟩, ⟨some 65, .pick (.t 60) (.t 64) (.c (.bool false)), none⟩, ⟨some 2, .mov (.t 65), none⟩])
 .ret)
 (.seq (.reg false [] [1, 39, 66] [⟨some 67, .bin .eql (.t 39) (.c (.int .i64 2)), none⟩, ⟨some 66, .mov (.t 67), none⟩])
 (.cond (.t 66) (.seq (.reg false [] [2] [⟨some 68, .fad 4 (.t 1), none⟩, ⟨some 69, .ld 1 false (.t 68), none⟩, ⟨some 70, .bin .eql (.t 69) (.c (.int .i64 0)), none⟩, ⟨some 71, .mov (.t 70), none⟩, ⟨some 72, .fad 6 (.t 1), some (71, true)⟩, ⟨some 73, .ld 1 false (.t 72), some (71, true)⟩, ⟨some 74, .bin .eql (.t 73) (.c (.int .i64 0)), some (71, true)⟩, ⟨some 75, .pick (.t 71) (.t 74) (.c (.bool false)), none⟩, ⟨some 76, .mov (.t 75), none⟩, ⟨some 77, .fad 7 (.t 1), some (76, true)⟩, ⟨some 78, .ld 1 false (.t 77), some (76, true)⟩, ⟨some 79, .bin .eql (.t 78) (.c (.str [])), some (76, true)⟩, ⟨some 80, .pick (.t 76) (.t 79) (.c (.bool false)), none⟩, ⟨some 81, .mov (.t 80), none⟩, ⟨some 82, .fad 8 (.t 1), some (81, true)⟩, ⟨some 83, .ld 1 false (.t 82), some (81, true)⟩, ⟨some 84, .call 200 [(.t 83), (.c (.int .i64 1048576))] [], some (81, true)⟩, ⟨some 85, .pick (.t 81) (.t 84) (.c (.bool false)), none⟩, ⟨some 86, .mov (.t 85), none⟩, ⟨some 87, .fad 9 (.t 1), some (86, true)⟩, ⟨some 88, .ld 1 false (.t 87), some (86, true)⟩, ⟨some 89, .bin .eql (.t 88) (.c (.int .i64 0)), some (86, true)⟩, ⟨some 90, .pick (.t 86) (.t 89) (.c (.bool false)), none⟩, ⟨some 91, .mov (.t 90), none⟩, ⟨some 92, .fad 10 (.t 1), some (91, true)⟩, ⟨some 93, .ld 1 false (.t 92), some (91, true)⟩, ⟨some 94, .len (.t 93), some (91, true)⟩, ⟨some 95, .bin .eql (.t 94) (.c (.int .i64 0)), some (91, true)⟩, ⟨some 96, .pick (.t 91) (.t 95) (.c (.bool false)), none⟩, ⟨some 2, .mov (.t 96), none⟩])
 .ret)
 (.seq (.reg false [] [1, 39, 97] [⟨some 98, .bin .eql (.t 39) (.c (.int .i64 3)), none⟩, ⟨some 97, .mov (.t 98), none⟩])
 (.cond (.t 97) (.seq (.reg false [] [2] [⟨some 99, .fad 4 (.t 1), none⟩, ⟨some 100, .ld 1 false (.t 99), none⟩, ⟨some 101, .bin .eql (.t 100) (.c (.int .i64 0)), none⟩, ⟨some 102, .mov (.t 101), none⟩, ⟨some 103, .fad 6 (.t 1), some (102, true)⟩, ⟨some 104, .ld 1 false (.t 103), some (102, true)⟩, ⟨some 105, .bin .eql (.t 104) (.c (.int .i64 0)), some (102, true)⟩, ⟨some 106, .pick (.t 102) (.t 105) (.c (.bool false)), none⟩, ⟨some 107, .mov (.t 106), none⟩, ⟨some 108, .fad 7 (.t 1), some (107, true)⟩, ⟨some 109, .ld 1 false (.t 108), some (107, true)⟩, ⟨some 110, .bin .eql (.t 109) (.c (.str [])), some (107, true)⟩, ⟨some 111, .pick (.t 107) (.t 110) (.c (.bool false)), none⟩, ⟨some 112, .mov (.t 111), none⟩, ⟨some 113, .fad 8 (.t 1), some (112, true)⟩, ⟨some 114, .ld 1 false (.t 113), some (112, true)⟩, ⟨some 115, .call 200 [(.t 114), (.c (.int .i64 32768))] [], some (112, true)⟩, ⟨some 116, .pick (.t 112) (.t 115) (.c (.bool false)), none⟩, ⟨some 117, .mov (.t 116), none⟩, ⟨some 118, .fad 9 (.t 1), some (117, true)⟩, ⟨some 119, .ld 1 false (.t 118), some (117, true)⟩, ⟨some 120, .call 200 [(.t 119), (.c (.int .i64 32768))] [], some (117, true)⟩, ⟨some 121, .pick (.t 117) (.t 120) (.c (.bool false)), none⟩, ⟨some 122, .mov (.t 121), none⟩, ⟨some 123, .fad 10 (.t 1), some (122, true)⟩, ⟨some 124, .ld 1 false (.t 123), some (122, true)⟩, ⟨some 125, .len (.t 124), some (122, true)⟩, ⟨some 126, .bin .eql (.t 125) (.c (.int .i64 0)), some (122, true)⟩, ⟨some 127, .pick (.t 122) (.t 126) (.c (.bool false)), none⟩, ⟨some 2, .mov (.t 127), none⟩])
 .ret)
 (.seq (.reg false [] [1, 128] [⟨some 129, .bin .eql (.t 39) (.c (.int .i64 4)), none⟩, ⟨some 128, .mov (.t 129), none⟩])
 (.cond (.t 128) (.seq (.reg false [] [2] [⟨some 130, .fad 4 (.t 1), none⟩, ⟨some 131, .ld 1 false (.t 130), none⟩, ⟨some 132, .bin .eql (.t 131) (.c (.int .i64 0)), none⟩, ⟨some 133, .mov (.t 132), none⟩, ⟨some 134, .fad 6 (.t 1), some (133, true)⟩, ⟨some 135, .ld 1 false (.t 134), some (133, true)⟩, ⟨some 136, .fad 5 (.t 1), some (133, true)⟩, ⟨some 137, .ld 1 false (.t 136), some (133, true)⟩, ⟨some 138, .bin .lss (.t 135) (.t 137), some (133, true)⟩, ⟨some 139, .pick (.t 133) (.t 138) (.c (.bool false)), none⟩, ⟨some 140, .mov (.t 139), none⟩, ⟨some 141, .fad 7 (.t 1), some (140, true)⟩, ⟨some 142, .ld 1 false (.t 141), some (140, true)⟩, ⟨some 143, .bin .eql (.t 142) (.c (.str [])), some (140, true)⟩, ⟨some 144, .pick (.t 140) (.t 143) (.c (.bool false)), none⟩, ⟨some 145, .mov (.t 144), none⟩, ⟨some 146, .fad 8 (.t 1), some (145, true)⟩, ⟨some 147, .ld 1 false (.t 146), some (145, true)⟩, ⟨some 148, .bin .eql (.t 147) (.c (.int .i64 0)), some (145, true)⟩, ⟨some 149, .pick (.t 145) (.t 148) (.c (.bool false)), none⟩, ⟨some 150, .mov (.t 149), none⟩, ⟨some 151, .fad 9 (.t 1), some (150, true)⟩, ⟨some 152, .ld 1 false (.t 151), some (150, true)⟩, ⟨some 153, .bin .eql (.t 152) (.c (.int .i64 0)), some (150, true)⟩, ⟨some 154, .pick (.t 150) (.t 153) (.c (.bool false)), none⟩, ⟨some 155, .mov (.t 154), none⟩, ⟨some 156, .fad 10 (.t 1), some (155, true)⟩, ⟨some 157, .ld 1 false (.t 156), some (155, true)⟩, ⟨some 158, .call 201 [(.t 157)] [], some (155, true)⟩, ⟨some 159, .pick (.t 155) (.t 158) (.c (.bool false)), none⟩, ⟨some 2, .mov (.t 159), none⟩])
 .ret)
 .skip))))))))))
 (.seq (.reg false [] [2] [⟨some 2, .mov (.c (.bool false)), none⟩])
 .ret)))) }

/-- sewershed/sewershedref30.Fall -/
def N196_ref30_Fall : NFun := { np := 1, nt := 14, res := [(2, none)], body :=
 (.seq (.reg false [] [1] [⟨some 1, .boxF (.t 0), none⟩, ⟨some 2, .mov (.c (.int .i64 0)), none⟩])
 (.seq (.seq (.reg false [] [1, 8] [⟨some 3, .fad 5 (.t 1), none⟩, ⟨some 4, .ld 1 false (.t 3), none⟩, ⟨some 5, .fad 6 (.t 1), none⟩, ⟨some 6, .ld 1 false (.t 5), none⟩, ⟨some 7, .bin .sub (.t 4) (.t 6), none⟩, ⟨some 8, .bin .gtr (.t 7) (.c (.int .i64 4194304)), none⟩])
 (.cond (.t 8) (.seq (.reg false [] [2] [⟨some 2, .mov (.c (.int .i64 4194304)), none⟩])
 .ret)
 .skip))
 (.seq (.reg false [] [2] [⟨some 9, .fad 5 (.t 1), none⟩, ⟨some 10, .ld 1 false (.t 9), none⟩, ⟨some 11, .fad 6 (.t 1), none⟩, ⟨some 12, .ld 1 false (.t 11), none⟩, ⟨some 13, .bin .sub (.t 10) (.t 12), none⟩, ⟨some 2, .mov (.t 13), none⟩])
 .ret))) }

/-- sewershed/sewershedref26.level -/
def N199_ref26_level : NFun := { np := 1, nt := 9, res := [(2, none)], body :=
 (.seq (.reg false [] [0] [⟨some 2, .mov (.c (.bool false)), none⟩])
 (.seq (.reg false [] [2] [⟨some 3, .mov (.t 0), none⟩, ⟨some 4, .bin .geq (.t 3) (.c (.int .i64 (-4194304))), none⟩, ⟨some 5, .mov (.t 4), none⟩, ⟨some 6, .mov (.t 0), some (5, true)⟩, ⟨some 7, .bin .leq (.t 6) (.c (.int .i64 4194304)), some (5, true)⟩, ⟨some 8, .pick (.t 5) (.t 7) (.c (.bool false)), none⟩, ⟨some 2, .mov (.t 8), none⟩])
 .ret)) }

/-- sewershed/sewershedref26.within -/
def N200_ref26_within : NFun := { np := 2, nt := 12, res := [(4, none)], body :=
 (.seq (.reg false [] [0, 1] [⟨some 4, .mov (.c (.bool false)), none⟩])
 (.seq (.reg false [] [4] [⟨some 5, .mov (.t 0), none⟩, ⟨some 6, .bin .geq (.t 5) (.c (.int .i64 1)), none⟩, ⟨some 7, .mov (.t 6), none⟩, ⟨some 8, .mov (.t 0), some (7, true)⟩, ⟨some 9, .mov (.t 1), some (7, true)⟩, ⟨some 10, .bin .leq (.t 8) (.t 9), some (7, true)⟩, ⟨some 11, .pick (.t 7) (.t 10) (.c (.bool false)), none⟩, ⟨some 4, .mov (.t 11), none⟩])
 .ret)) }

/-- sewershed/sewershedref26.curve -/
def N201_ref26_curve : NFun := { np := 1, nt := 39, res := [(2, none)], body :=
 (.seq (.reg false [] [0] [⟨some 2, .mov (.c (.bool false)), none⟩])
 (.seq (.reg false [] [2] [⟨some 3, .mov (.t 0), none⟩, ⟨some 4, .call 64 [(.t 3)] [], none⟩, ⟨some 5, .mov (.t 4), none⟩, ⟨some 6, .mov (.t 0), some (5, true)⟩, ⟨some 7, .iadS 2 (.t 6) (.c (.int .i64 0)), some (5, true)⟩, ⟨some 8, .fad 0 (.t 7), some (5, true)⟩, ⟨some 9, .ld 1 false (.t 8), some (5, true)⟩, ⟨some 10, .bin .geq (.t 9) (.c (.int .i64 0)), some (5, true)⟩, ⟨some 11, .pick (.t 5) (.t 10) (.c (.bool false)), none⟩, ⟨some 12, .mov (.t 11), none⟩, ⟨some 13, .mov (.t 0), some (12, true)⟩, ⟨some 14, .mov (.t 0), some (12, true)⟩, ⟨some 15, .len (.t 14), some (12, true)⟩, ⟨some 16, .bin .sub (.t 15) (.c (.int .i64 1)), some (12, true)⟩, ⟨some 17, .iadS 2 (.t 13) (.t 16), some (12, true)⟩, ⟨some 18, .fad 0 (.t 17), some (12, true)⟩, ⟨some 19, .ld 1 false (.t 18), some (12, true)⟩, ⟨some 20, .bin .leq (.t 19) (.c (.int .i64 4194304)), some (12, true)⟩, ⟨some 21, .pick (.t 12) (.t 20) (.c (.bool false)), none⟩, ⟨some 22, .mov (.t 21), none⟩, ⟨some 23, .mov (.t 0), some (22, true)⟩, ⟨some 24, .iadS 2 (.t 23) (.c (.int .i64 0)), some (22, true)⟩, ⟨some 25, .fad 1 (.t 24), some (22, true)⟩, ⟨some 26, .ld 1 false (.t 25), some (22, true)⟩, ⟨some 27, .bin .geq (.t 26) (.c (.int .i64 0)), some (22, true)⟩, ⟨some 28, .pick (.t 22) (.t 27) (.c (.bool false)), none⟩, ⟨some 29, .mov (.t 28), none⟩, ⟨some 30, .mov (.t 0), some (29, true)⟩, ⟨some 31, .asg (.t 0), some (29, true)⟩, ⟨some 32, .len (.t 31), some (29, true)⟩, ⟨some 33, .bin .sub (.t 32) (.c (.int .i64 1)), some (29, true)⟩, ⟨some 34, .iadS 2 (.t 30) (.t 33), some (29, true)⟩, ⟨some 35, .fad 1 (.t 34), some (29, true)⟩, ⟨some 36, .ld 1 false (.t 35), some (29, true)⟩, ⟨some 37, .bin .leq (.t 36) (.c (.int .i64 1099511627776)), some (29, true)⟩, ⟨some 38, .pick (.t 29) (.t 37) (.c (.bool false)), none⟩, ⟨some 2, .mov (.t 38), none⟩])
 .ret)) }

/-- cmp.isNaN[int] -/
def N299_cmp_isNaN_int : NFun := { np := 1, nt := 6, res := [(2, none)], body :=
 (.seq (.reg false [] [0] [⟨some 2, .mov (.c (.bool false)), none⟩])
 (.seq (.reg false [] [2] [⟨some 3, .mov (.t 0), none⟩, ⟨some 4, .mov (.t 0), none⟩, ⟨some 5, .bin .neq (.t 3) (.t 4), none⟩, ⟨some 2, .mov (.t 5), none⟩])
 .ret)) }

/-- cmp.Less[int] -/
def N411_cmp_Less_int : NFun := { np := 2, nt := 17, res := [(4, none)], body :=
 (.seq (.reg false [] [0, 1] [⟨some 4, .mov (.c (.bool false)), none⟩])
 (.seq (.reg false [] [4] [⟨some 5, .mov (.t 0), none⟩, ⟨some 6, .call 299 [(.t 5)] [], none⟩, ⟨some 7, .mov (.t 6), none⟩, ⟨some 8, .mov (.t 1), some (7, true)⟩, ⟨some 9, .call 299 [(.t 8)] [], some (7, true)⟩, ⟨some 10, .un .not (.t 9), some (7, true)⟩, ⟨some 11, .pick (.t 7) (.t 10) (.c (.bool false)), none⟩, ⟨some 12, .mov (.t 11), none⟩, ⟨some 13, .mov (.t 0), some (12, false)⟩, ⟨some 14, .mov (.t 1), some (12, false)⟩, ⟨some 15, .bin .lss (.t 13) (.t 14), some (12, false)⟩, ⟨some 16, .pick (.t 12) (.c (.bool true)) (.t 15), none⟩, ⟨some 4, .mov (.t 16), none⟩])
 .ret)) }

/-- sewershed/sewershedlaw30.SteadyCarries -/
def N421_law30_SteadyCarries : NFun := { np := 3, nt := 163, res := [(6, none)], body :=
 (.seq (.reg false [] [1, 2, 3] [⟨some 3, .boxF (.t 0), none⟩, ⟨some 6, .mov (.c (.bool false)), none⟩])
 (.seq (.seq (.reg false [] [1, 2, 3, 20] [⟨some 19, .call 425 [] [], none⟩, ⟨some 20, .un .not (.t 19), none⟩])
 (.cond (.t 20) (.seq (.reg false [] [6] [⟨some 6, .mov (.c (.bool false)), none⟩])
 .ret)
 .skip))
 (.seq (.seq (.reg false [] [1, 2, 3, 31] [⟨some 21, .ld 2 true (.t 3), none⟩, ⟨some 22, .mov (.t 1), none⟩, ⟨some 23, .mov (.t 2), none⟩, ⟨some 24, .call 426 [(.t 21), (.t 22), (.t 23)] [], none⟩, ⟨some 25, .mov (.t 24), none⟩, ⟨some 26, .ld 2 true (.t 3), some (25, false)⟩, ⟨some 27, .mov (.t 1), some (25, false)⟩, ⟨some 28, .mov (.t 2), some (25, false)⟩, ⟨some 29, .call 440 [(.t 26), (.t 27), (.t 28), (.c (.bool false))] [], some (25, false)⟩, ⟨some 30, .bin .neq (.t 29) (.c (.int .i64 0)), some (25, false)⟩, ⟨some 31, .pick (.t 25) (.c (.bool true)) (.t 30), none⟩])
 (.cond (.t 31) (.seq (.reg false [] [6] [⟨some 6, .mov (.c (.bool true)), none⟩])
 .ret)
 .skip))
 (.seq (.reg false [] [1, 2, 3, 7, 8] [⟨some 33, .ld 2 true (.t 3), none⟩, ⟨some 34, .mov (.t 1), none⟩, ⟨some 35, .mov (.t 2), none⟩, ⟨some 36, .call 436 [(.t 33), (.t 34), (.t 35)] [], none⟩, ⟨some 32, .mov (.t 36), none⟩, ⟨some 37, .ext 0 (.t 32), none⟩, ⟨some 38, .ext 1 (.t 32), none⟩, ⟨some 7, .asg (.t 37), none⟩, ⟨some 8, .mov (.t 38), none⟩])
 (.seq (.seq (.reg false [] [1, 2, 3, 7, 8, 40] [⟨some 39, .mov (.t 8), none⟩, ⟨some 40, .bin .neq (.t 39) (.c (.int .i64 0)), none⟩])
 (.cond (.t 40) (.seq (.reg false [] [6] [⟨some 41, .mov (.t 8), none⟩, ⟨some 42, .bin .eql (.t 41) (.c (.int .i64 28)), none⟩, ⟨some 43, .mov (.t 42), none⟩, ⟨some 44, .asg (.t 7), some (43, true)⟩, ⟨some 45, .len (.t 44), some (43, true)⟩, ⟨some 46, .bin .eql (.t 45) (.c (.int .i64 0)), some (43, true)⟩, ⟨some 47, .pick (.t 43) (.t 46) (.c (.bool false)), none⟩, ⟨some 6, .mov (.t 47), none⟩])
 .ret)
 .skip))
 (.seq (.seq (.reg false [] [1, 2, 3, 7, 53] [⟨some 48, .mov (.t 7), none⟩, ⟨some 49, .len (.t 48), none⟩, ⟨some 50, .fad 1 (.t 3), none⟩, ⟨some 51, .ld 1 false (.t 50), none⟩, ⟨some 52, .len (.t 51), none⟩, ⟨some 53, .bin .neq (.t 49) (.t 52), none⟩])
 (.cond (.t 53) (.seq (.reg false [] [6] [⟨some 6, .mov (.c (.bool false)), none⟩])
 .ret)
 .skip))
 (.seq (.seq (.reg false [] [1, 2, 7, 55, 56, 57] [⟨some 54, .fad 1 (.t 3), none⟩, ⟨some 55, .ld 1 false (.t 54), none⟩, ⟨some 56, .len (.t 55), none⟩, ⟨some 57, .mov (.c (.int .i64 0)), none⟩])
 (.block 0 (.loop (.seq (.reg false [] [1, 2, 7, 55, 56, 57, 58] [⟨some 58, .bin .lss (.t 57) (.t 56), none⟩])
 (.seq (.cond (.t 58) .skip
 (.exit 0))
 (.seq (.block 1 (.seq (.reg false [] [1, 2, 7, 9, 10, 55, 56, 57] [⟨some 59, .mov (.t 57), none⟩, ⟨some 60, .iadS 11 (.t 55) (.t 57), none⟩, ⟨some 61, .ld 11 true (.t 60), none⟩, ⟨some 10, .alc [.str [], .str [], .str [], .int .i64 0, .int .i64 0, .int .i64 0, .int .i64 0, .str [], .int .i64 0, .int .i64 0, .own 2 []], none⟩, ⟨some 9, .mov (.t 59), none⟩, ⟨none, .st 11 [] (.t 10) (.t 61), none⟩])
 (.seq (.reg false [] [1, 2, 7, 9, 10, 11, 12, 55, 56, 57] [⟨some 63, .mov (.t 1), none⟩, ⟨some 64, .fad 7 (.t 10), none⟩, ⟨some 65, .ld 1 false (.t 64), none⟩, ⟨some 66, .call 441 [(.t 63), (.t 65)] [], none⟩, ⟨some 62, .mov (.t 66), none⟩, ⟨some 67, .ext 0 (.t 62), none⟩, ⟨some 68, .ext 1 (.t 62), none⟩, ⟨some 11, .mov (.t 67), none⟩, ⟨some 12, .mov (.t 68), none⟩])
 (.seq (.seq (.reg false [] [1, 2, 7, 9, 10, 11, 55, 56, 57, 80] [⟨some 69, .mov (.t 12), none⟩, ⟨some 70, .bin .neq (.t 69) (.c (.int .i64 0)), none⟩, ⟨some 71, .mov (.t 70), none⟩, ⟨some 72, .mov (.t 11), some (71, false)⟩, ⟨some 73, .bin .lss (.t 72) (.c (.int .i64 0)), some (71, false)⟩, ⟨some 74, .pick (.t 71) (.c (.bool true)) (.t 73), none⟩, ⟨some 75, .mov (.t 74), none⟩, ⟨some 76, .mov (.t 11), some (75, false)⟩, ⟨some 77, .mov (.t 1), some (75, false)⟩, ⟨some 78, .len (.t 77), some (75, false)⟩, ⟨some 79, .bin .geq (.t 76) (.t 78), some (75, false)⟩, ⟨some 80, .pick (.t 75) (.c (.bool true)) (.t 79), none⟩])
 (.cond (.t 80) (.seq (.reg false [] [6] [⟨some 6, .mov (.c (.bool false)), none⟩])
 .ret)
 .skip))
 (.seq (.reg true [0, 0, 3, 7, 15, 0, 0, 96, 224, 480, 1023, 0, 0, 6144, 14336, 30720, 0, 0, 196608, 458752, 983040, 2095104, 4194303, 8388607, 0] [1, 2, 7, 10, 11, 55, 56, 57, 103, 104, 105] [⟨some 81, .mov (.t 7), none⟩, ⟨some 82, .mov (.t 9), none⟩, ⟨some 83, .iadS 2 (.t 81) (.t 82), none⟩, ⟨some 84, .fad 0 (.t 83), none⟩, ⟨some 85, .ld 1 false (.t 84), none⟩, ⟨some 86, .mov (.t 2), none⟩, ⟨some 87, .mov (.t 9), none⟩, ⟨some 88, .iadS 2 (.t 86) (.t 87), none⟩, ⟨some 89, .fad 0 (.t 88), none⟩, ⟨some 90, .ld 1 false (.t 89), none⟩, ⟨some 91, .bld [.int .i64 0, .int .i64 0] [(0, 1, (.t 85)), (1, 1, (.t 90))], none⟩, ⟨some 92, .mov (.t 7), none⟩, ⟨some 93, .mov (.t 9), none⟩, ⟨some 94, .iadS 2 (.t 92) (.t 93), none⟩, ⟨some 95, .fad 1 (.t 94), none⟩, ⟨some 96, .ld 1 false (.t 95), none⟩, ⟨some 97, .mov (.t 2), none⟩, ⟨some 98, .mov (.t 9), none⟩, ⟨some 99, .iadS 2 (.t 97) (.t 98), none⟩, ⟨some 100, .fad 1 (.t 99), none⟩, ⟨some 101, .ld 1 false (.t 100), none⟩, ⟨some 102, .bld [.int .i64 0, .int .i64 0] [(0, 1, (.t 96)), (1, 1, (.t 101))], none⟩, ⟨some 103, .bls 2 2 [.int .i64 0, .int .i64 0] [] [(0, (.t 91)), (1, (.t 102))], none⟩, ⟨some 104, .len (.t 103), none⟩, ⟨some 105, .mov (.c (.int .i64 0)), none⟩])
 (.block 2 (.loop (.seq (.reg false [] [1, 2, 7, 10, 11, 55, 56, 57, 103, 104, 105, 106] [⟨some 106, .bin .lss (.t 105) (.t 104), none⟩])
 (.seq (.cond (.t 106) .skip
 (.exit 2))
 (.seq (.block 3 (.seq (.reg false [] [1, 2, 7, 10, 11, 14, 55, 56, 57, 103, 104, 105] [⟨some 107, .iadS 2 (.t 103) (.t 105), none⟩, ⟨some 108, .ld 2 true (.t 107), none⟩, ⟨some 14, .alc [.int .i64 0, .int .i64 0], none⟩, ⟨none, .st 2 [] (.t 14) (.t 108), none⟩])
 (.seq (.reg true [0, 0, 3, 7, 0, 16, 0, 64, 0, 256, 1023, 2047, 4095, 4095, 8191, 32767] [1, 2, 7, 10, 11, 14, 15, 16, 55, 56, 57, 103, 104, 105] [⟨some 110, .mov (.t 1), none⟩, ⟨some 111, .mov (.t 11), none⟩, ⟨some 112, .iadS 5 (.t 110) (.t 111), none⟩, ⟨some 113, .ld 5 true (.t 112), none⟩, ⟨some 114, .iadA 2 1 (.t 14) (.c (.int .i64 0)), none⟩, ⟨some 115, .ld 1 false (.t 114), none⟩, ⟨some 116, .ld 11 true (.t 10), none⟩, ⟨some 117, .call 196 [(.t 116)] [], none⟩, ⟨some 118, .fad 4 (.t 10), none⟩, ⟨some 119, .ld 1 false (.t 118), none⟩, ⟨some 120, .call 53 [(.t 113), (.t 115), (.t 117), (.t 119)] [], none⟩, ⟨some 109, .mov (.t 120), none⟩, ⟨some 121, .ext 0 (.t 109), none⟩, ⟨some 122, .ext 1 (.t 109), none⟩, ⟨some 15, .mov (.t 121), none⟩, ⟨some 16, .mov (.t 122), none⟩])
 (.seq (.seq (.reg false [] [1, 2, 7, 10, 11, 14, 55, 56, 57, 103, 104, 105, 134] [⟨some 123, .mov (.t 16), none⟩, ⟨some 124, .bin .neq (.t 123) (.c (.int .i64 5)), none⟩, ⟨some 125, .mov (.t 124), none⟩, ⟨some 126, .mov (.t 16), some (125, true)⟩, ⟨some 127, .bin .neq (.t 126) (.c (.int .i64 0)), some (125, true)⟩, ⟨some 128, .mov (.t 127), some (125, true)⟩, ⟨some 129, .mov (.t 15), some (128, false)⟩, ⟨some 130, .iadA 2 1 (.t 14) (.c (.int .i64 1)), some (128, false)⟩, ⟨some 131, .ld 1 false (.t 130), some (128, false)⟩, ⟨some 132, .bin .lss (.t 129) (.t 131), some (128, false)⟩, ⟨some 133, .pick (.t 128) (.c (.bool true)) (.t 132), some (125, true)⟩, ⟨some 134, .pick (.t 125) (.t 133) (.c (.bool false)), none⟩])
 (.cond (.t 134) (.seq (.reg false [] [6] [⟨some 6, .mov (.c (.bool false)), none⟩])
 .ret)
 .skip))
 (.seq (.seq (.reg false [] [1, 2, 7, 10, 11, 14, 55, 56, 57, 103, 104, 105, 137] [⟨some 135, .iadA 2 1 (.t 14) (.c (.int .i64 0)), none⟩, ⟨some 136, .ld 1 false (.t 135), none⟩, ⟨some 137, .bin .eql (.t 136) (.c (.int .i64 0)), none⟩])
 (.cond (.t 137) (.exit 3)
 .skip))
 (.seq (.reg true [0, 0, 3, 7, 0, 16, 48, 0, 128, 0, 512, 2047, 4095, 8191, 8191, 16383, 65535] [1, 2, 7, 10, 11, 14, 17, 18, 55, 56, 57, 103, 104, 105] [⟨some 139, .mov (.t 1), none⟩, ⟨some 140, .mov (.t 11), none⟩, ⟨some 141, .iadS 5 (.t 139) (.t 140), none⟩, ⟨some 142, .ld 5 true (.t 141), none⟩, ⟨some 143, .iadA 2 1 (.t 14) (.c (.int .i64 0)), none⟩, ⟨some 144, .ld 1 false (.t 143), none⟩, ⟨some 145, .bin .sub (.t 144) (.c (.int .i64 1)), none⟩, ⟨some 146, .ld 11 true (.t 10), none⟩, ⟨some 147, .call 196 [(.t 146)] [], none⟩, ⟨some 148, .fad 4 (.t 10), none⟩, ⟨some 149, .ld 1 false (.t 148), none⟩, ⟨some 150, .call 53 [(.t 142), (.t 145), (.t 147), (.t 149)] [], none⟩, ⟨some 138, .mov (.t 150), none⟩, ⟨some 151, .ext 0 (.t 138), none⟩, ⟨some 152, .ext 1 (.t 138), none⟩, ⟨some 17, .mov (.t 151), none⟩, ⟨some 18, .mov (.t 152), none⟩])
 (.seq (.reg false [] [1, 2, 7, 10, 11, 55, 56, 57, 103, 104, 105, 160] [⟨some 153, .mov (.t 18), none⟩, ⟨some 154, .bin .neq (.t 153) (.c (.int .i64 0)), none⟩, ⟨some 155, .mov (.t 154), none⟩, ⟨some 156, .mov (.t 17), some (155, false)⟩, ⟨some 157, .iadA 2 1 (.t 14) (.c (.int .i64 1)), some (155, false)⟩, ⟨some 158, .ld 1 false (.t 157), some (155, false)⟩, ⟨some 159, .bin .geq (.t 156) (.t 158), some (155, false)⟩, ⟨some 160, .pick (.t 155) (.c (.bool true)) (.t 159), none⟩])
 (.cond (.t 160) (.seq (.reg false [] [6] [⟨some 6, .mov (.c (.bool false)), none⟩])
 .ret)
 .skip))))))))
 (.reg false [] [1, 2, 7, 10, 11, 55, 56, 57, 103, 104, 105] [⟨some 161, .bin .add (.t 105) (.c (.int .i64 1)), none⟩, ⟨some 105, .mov (.t 161), none⟩])))))))))))
 (.reg false [] [1, 2, 7, 55, 56, 57] [⟨some 162, .bin .add (.t 57) (.c (.int .i64 1)), none⟩, ⟨some 57, .mov (.t 162), none⟩])))))))
 (.seq (.reg false [] [6] [⟨some 6, .mov (.c (.bool true)), none⟩])
 .ret)))))))) }

/-- sewershed/sewershedlaw30.awake -/
def N425_law30_awake : NFun := { np := 0, nt := 25, res := [(0, none)], body :=
 (.seq (.reg false [] [] [⟨some 0, .mov (.c (.bool false)), none⟩])
 (.seq (.reg false [] [1, 2] [⟨some 4, .call 452 [] [], none⟩, ⟨some 5, .bld [.int .i64 0, .int .i64 0] [(0, 1, (.c (.int .i64 1))), (1, 1, (.c (.int .i64 2)))], none⟩, ⟨some 6, .bld [.int .i64 0, .int .i64 0] [(0, 1, (.c (.int .i64 3))), (1, 1, (.c (.int .i64 5)))], none⟩, ⟨some 7, .bld [.int .i64 0, .int .i64 0] [(0, 1, (.c (.int .i64 0))), (1, 1, (.c (.int .i64 9)))], none⟩, ⟨some 8, .blsF 2 3 [.int .i64 0, .int .i64 0] [(0, (.t 5)), (1, (.t 6)), (2, (.t 7))], none⟩, ⟨some 9, .call 428 [(.t 4), (.t 8)] [], none⟩, ⟨some 3, .mov (.t 9), none⟩, ⟨some 10, .ext 0 (.t 3), none⟩, ⟨some 11, .ext 1 (.t 3), none⟩, ⟨some 1, .asg (.t 10), none⟩, ⟨some 2, .mov (.t 11), none⟩])
 (.seq (.reg false [] [0] [⟨some 12, .call 452 [] [], none⟩, ⟨some 13, .call 433 [(.t 12)] [], none⟩, ⟨some 14, .mov (.t 13), none⟩, ⟨some 15, .mov (.t 2), some (14, true)⟩, ⟨some 16, .bin .eql (.t 15) (.c (.int .i64 0)), some (14, true)⟩, ⟨some 17, .pick (.t 14) (.t 16) (.c (.bool false)), none⟩, ⟨some 18, .mov (.t 17), none⟩, ⟨some 19, .asg (.t 1), some (18, true)⟩, ⟨some 20, .bld [.int .i64 0, .int .i64 0] [(0, 1, (.c (.int .i64 1))), (1, 1, (.c (.int .i64 2)))], some (18, true)⟩, ⟨some 21, .bld [.int .i64 0, .int .i64 0] [(0, 1, (.c (.int .i64 4))), (1, 1, (.c (.int .i64 7)))], some (18, true)⟩, ⟨some 22, .bls 2 2 [.int .i64 0, .int .i64 0] [] [(0, (.t 20)), (1, (.t 21))], some (18, true)⟩, ⟨some 23, .call 434 [(.t 19), (.t 22)] [], some (18, true)⟩, ⟨some 24, .pick (.t 18) (.t 23) (.c (.bool false)), none⟩, ⟨some 0, .mov (.t 24), none⟩])
 .ret))) }

/-- sewershed/sewershedlaw30.large -/
def N426_law30_large : NFun := { np := 3, nt := 39, res := [(6, none)], body :=
 (.seq (.reg false [] [1, 2, 3] [⟨some 3, .boxF (.t 0), none⟩, ⟨some 6, .mov (.c (.bool false)), none⟩])
 (.seq (.seq (.reg false [] [1, 3, 26] [⟨some 7, .fad 0 (.t 3), none⟩, ⟨some 8, .ld 1 false (.t 7), none⟩, ⟨some 9, .len (.t 8), none⟩, ⟨some 10, .bin .gtr (.t 9) (.c (.int .i64 12)), none⟩, ⟨some 11, .mov (.t 10), none⟩, ⟨some 12, .fad 1 (.t 3), some (11, false)⟩, ⟨some 13, .ld 1 false (.t 12), some (11, false)⟩, ⟨some 14, .len (.t 13), some (11, false)⟩, ⟨some 15, .bin .gtr (.t 14) (.c (.int .i64 20)), some (11, false)⟩, ⟨some 16, .pick (.t 11) (.c (.bool true)) (.t 15), none⟩, ⟨some 17, .mov (.t 16), none⟩, ⟨some 18, .mov (.t 1), some (17, false)⟩, ⟨some 19, .len (.t 18), some (17, false)⟩, ⟨some 20, .bin .gtr (.t 19) (.c (.int .i64 12)), some (17, false)⟩, ⟨some 21, .pick (.t 17) (.c (.bool true)) (.t 20), none⟩, ⟨some 22, .mov (.t 21), none⟩, ⟨some 23, .asg (.t 2), some (22, false)⟩, ⟨some 24, .len (.t 23), some (22, false)⟩, ⟨some 25, .bin .gtr (.t 24) (.c (.int .i64 25)), some (22, false)⟩, ⟨some 26, .pick (.t 22) (.c (.bool true)) (.t 25), none⟩])
 (.cond (.t 26) (.seq (.reg false [] [6] [⟨some 6, .mov (.c (.bool true)), none⟩])
 .ret)
 .skip))
 (.seq (.reg false [] [6] [⟨some 27, .fad 0 (.t 3), none⟩, ⟨some 28, .ld 1 false (.t 27), none⟩, ⟨some 29, .call 453 [(.t 28), (.c (.fn 454 []))] [], none⟩, ⟨some 30, .mov (.t 29), none⟩, ⟨some 31, .fad 1 (.t 3), some (30, false)⟩, ⟨some 32, .ld 1 false (.t 31), some (30, false)⟩, ⟨some 33, .call 455 [(.t 32), (.c (.fn 456 []))] [], some (30, false)⟩, ⟨some 34, .pick (.t 30) (.c (.bool true)) (.t 33), none⟩, ⟨some 35, .mov (.t 34), none⟩, ⟨some 36, .asg (.t 1), some (35, false)⟩, ⟨some 37, .call 45 [(.t 36), (.c (.fn 457 []))] [], some (35, false)⟩, ⟨some 38, .pick (.t 35) (.c (.bool true)) (.t 37), none⟩, ⟨some 6, .mov (.t 38), none⟩])
 .ret))) }

/-- sewershed/sewershedref30.Tree -/
def N427_ref30_Tree : NFun := { np := 1, nt := 27, res := [(2, none)], body :=
 (.seq (.reg false [] [1] [⟨some 1, .boxF (.t 0), none⟩, ⟨some 2, .mov (.c (.bool false)), none⟩])
 (.seq (.seq (.reg false [] [1, 6] [⟨some 4, .ld 2 true (.t 1), none⟩, ⟨some 5, .call 458 [(.t 4)] [], none⟩, ⟨some 6, .un .not (.t 5), none⟩])
 (.cond (.t 6) (.seq (.reg false [] [2] [⟨some 2, .mov (.c (.bool false)), none⟩])
 .ret)
 .skip))
 (.seq (.seq (.reg false [] [1, 3] [⟨some 3, .mov (.c (.int .i64 0)), none⟩])
 (.block 0 (.loop (.seq (.seq (.reg false [] [1, 3, 11] [⟨some 7, .mov (.t 3), none⟩, ⟨some 8, .fad 1 (.t 1), none⟩, ⟨some 9, .ld 1 false (.t 8), none⟩, ⟨some 10, .len (.t 9), none⟩, ⟨some 11, .bin .lss (.t 7) (.t 10), none⟩])
 (.cond (.t 11) .skip
 (.exit 0)))
 (.seq (.block 1 (.seq (.reg false [] [1, 3, 20] [⟨some 14, .fad 1 (.t 1), none⟩, ⟨some 15, .ld 1 false (.t 14), none⟩, ⟨some 16, .mov (.t 3), none⟩, ⟨some 17, .iadS 11 (.t 15) (.t 16), none⟩, ⟨some 18, .fad 3 (.t 17), none⟩, ⟨some 19, .ld 1 false (.t 18), none⟩, ⟨some 20, .bin .neq (.t 19) (.c (.int .i64 1)), none⟩])
 (.cond (.t 20) (.seq (.reg false [] [2] [⟨some 2, .mov (.c (.bool false)), none⟩])
 .ret)
 .skip)))
 (.reg false [] [1, 3] [⟨some 12, .mov (.t 3), none⟩, ⟨some 13, .bin .add (.t 12) (.c (.int .i64 1)), none⟩, ⟨some 3, .mov (.t 13), none⟩]))))))
 (.seq (.reg true [0, 1, 3, 0, 8, 31, 63] [2] [⟨some 21, .fad 0 (.t 1), none⟩, ⟨some 22, .ld 1 false (.t 21), none⟩, ⟨some 23, .len (.t 22), none⟩, ⟨some 24, .ld 2 true (.t 1), none⟩, ⟨some 25, .call 429 [(.t 24)] [], none⟩, ⟨some 26, .call 459 [(.t 23), (.t 25)] [], none⟩, ⟨some 2, .mov (.t 26), none⟩])
 .ret)))) }

/-- sewershed/steady.Flows -/
def N428_steady_Flows : NFun := { np := 2, nt := 23, res := [(4, none), (5, none)], body :=
 (.seq (.reg false [] [1, 2] [⟨some 2, .boxF (.t 0), none⟩, ⟨some 4, .mov (.c .nils), none⟩, ⟨some 5, .mov (.c (.int .i64 0)), none⟩])
 (.seq (.seq (.reg false [] [1, 2, 9] [⟨some 7, .ld 2 true (.t 2), none⟩, ⟨some 8, .call 433 [(.t 7)] [], none⟩, ⟨some 9, .un .not (.t 8), none⟩])
 (.cond (.t 9) (.seq (.reg false [] [4, 5] [⟨some 4, .mov (.c .nils), none⟩, ⟨some 5, .mov (.c (.int .i64 1)), none⟩])
 .ret)
 .skip))
 (.seq (.seq (.reg false [] [1, 2, 6] [⟨some 10, .mov (.t 1), none⟩, ⟨some 11, .fad 0 (.t 2), none⟩, ⟨some 12, .ld 1 false (.t 11), none⟩, ⟨some 13, .len (.t 12), none⟩, ⟨some 14, .call 460 [(.t 10), (.t 13)] [], none⟩, ⟨some 6, .mov (.t 14), none⟩])
 (.seq (.reg false [] [1, 2, 6, 16] [⟨some 15, .mov (.t 6), none⟩, ⟨some 16, .bin .neq (.t 15) (.c (.int .i64 0)), none⟩])
 (.cond (.t 16) (.seq (.reg false [] [4, 5] [⟨some 17, .mov (.t 6), none⟩, ⟨some 4, .mov (.c .nils), none⟩, ⟨some 5, .mov (.t 17), none⟩])
 .ret)
 .skip)))
 (.seq (.reg false [] [4, 5] [⟨some 18, .ld 2 true (.t 2), none⟩, ⟨some 19, .asg (.t 1), none⟩, ⟨some 20, .call 461 [(.t 18), (.t 19)] [], none⟩, ⟨some 21, .ext 0 (.t 20), none⟩, ⟨some 22, .ext 1 (.t 20), none⟩, ⟨some 4, .asg (.t 21), none⟩, ⟨some 5, .mov (.t 22), none⟩])
 .ret)))) }

/-- sewershed/sewershedref26.Edges -/
def N429_ref26_Edges : NFun := { np := 1, nt := 33, res := [(2, none)], body :=
 (.seq (.reg false [] [1] [⟨some 1, .boxF (.t 0), none⟩, ⟨some 2, .mov (.c .nils), none⟩])
 (.seq (.reg false [] [1, 3] [⟨some 3, .nilo 2, none⟩])
 (.seq (.seq (.reg false [] [1, 3, 4] [⟨some 4, .mov (.c (.int .i64 0)), none⟩])
 (.block 0 (.loop (.seq (.seq (.reg false [] [1, 3, 4, 9] [⟨some 5, .mov (.t 4), none⟩, ⟨some 6, .fad 1 (.t 1), none⟩, ⟨some 7, .ld 1 false (.t 6), none⟩, ⟨some 8, .len (.t 7), none⟩, ⟨some 9, .bin .lss (.t 5) (.t 8), none⟩])
 (.cond (.t 9) .skip
 (.exit 0)))
 (.seq (.block 1 (.reg true [0, 0, 0, 4, 0, 28, 60, 124, 254, 0, 0, 1024, 0, 7168, 15360, 31744, 65534, 131070, 262142, 524287, 1048575] [1, 3, 4] [⟨some 12, .mov (.t 3), none⟩, ⟨some 13, .ld 2 true (.t 1), none⟩, ⟨some 14, .fad 1 (.t 1), none⟩, ⟨some 15, .ld 1 false (.t 14), none⟩, ⟨some 16, .mov (.t 4), none⟩, ⟨some 17, .iadS 11 (.t 15) (.t 16), none⟩, ⟨some 18, .fad 1 (.t 17), none⟩, ⟨some 19, .ld 1 false (.t 18), none⟩, ⟨some 20, .call 462 [(.t 13), (.t 19)] [], none⟩, ⟨some 21, .ld 2 true (.t 1), none⟩, ⟨some 22, .fad 1 (.t 1), none⟩, ⟨some 23, .ld 1 false (.t 22), none⟩, ⟨some 24, .mov (.t 4), none⟩, ⟨some 25, .iadS 11 (.t 23) (.t 24), none⟩, ⟨some 26, .fad 2 (.t 25), none⟩, ⟨some 27, .ld 1 false (.t 26), none⟩, ⟨some 28, .call 462 [(.t 21), (.t 27)] [], none⟩, ⟨some 29, .bld [.int .i64 0, .int .i64 0] [(0, 1, (.t 20)), (1, 1, (.t 28))], none⟩, ⟨some 30, .bls 2 1 [.int .i64 0, .int .i64 0] [] [(0, (.t 29))], none⟩, ⟨some 31, .app 2 16 false (.t 12) (.t 30), none⟩, ⟨some 3, .asg (.t 31), none⟩]))
 (.reg false [] [1, 3, 4] [⟨some 10, .mov (.t 4), none⟩, ⟨some 11, .bin .add (.t 10) (.c (.int .i64 1)), none⟩, ⟨some 4, .mov (.t 11), none⟩]))))))
 (.seq (.reg false [] [2] [⟨some 32, .asg (.t 3), none⟩, ⟨some 2, .asg (.t 32), none⟩])
 .ret)))) }

/-- sewershed/steady.Tree -/
def N433_steady_Tree : NFun := { np := 1, nt := 22, res := [(2, none)], body :=
 (.seq (.reg false [] [1] [⟨some 1, .boxF (.t 0), none⟩, ⟨some 2, .mov (.c (.bool false)), none⟩])
 (.seq (.seq (.reg false [] [1, 7] [⟨some 5, .fad 1 (.t 1), none⟩, ⟨some 6, .ld 1 false (.t 5), none⟩, ⟨some 7, .call 455 [(.t 6), (.c (.fn 470 []))] [], none⟩])
 (.cond (.t 7) (.seq (.reg false [] [2] [⟨some 2, .mov (.c (.bool false)), none⟩])
 .ret)
 .skip))
 (.seq (.reg false [] [1, 3, 4] [⟨some 9, .ld 2 true (.t 1), none⟩, ⟨some 10, .call 471 [(.t 9)] [], none⟩, ⟨some 8, .mov (.t 10), none⟩, ⟨some 11, .ext 0 (.t 8), none⟩, ⟨some 12, .ext 1 (.t 8), none⟩, ⟨some 3, .asg (.t 11), none⟩, ⟨some 4, .mov (.t 12), none⟩])
 (.seq (.reg false [] [2] [⟨some 13, .mov (.t 4), none⟩, ⟨some 14, .bin .eql (.t 13) (.c (.int .i64 0)), none⟩, ⟨some 15, .mov (.t 14), none⟩, ⟨some 16, .fad 0 (.t 1), some (15, true)⟩, ⟨some 17, .ld 1 false (.t 16), some (15, true)⟩, ⟨some 18, .len (.t 17), some (15, true)⟩, ⟨some 19, .asg (.t 3), some (15, true)⟩, ⟨some 20, .call 472 [(.t 18), (.t 19)] [], some (15, true)⟩, ⟨some 21, .pick (.t 15) (.t 20) (.c (.bool false)), none⟩, ⟨some 2, .mov (.t 21), none⟩])
 .ret)))) }

/-- slices.Equal[[]sewershed/api.Span,sewershed/api.Span] -/
def N434_slices_Equal__api_Span_api_Span : NFun := { np := 2, nt := 26, res := [(4, none)], body :=
 (.seq (.reg false [] [0, 1] [⟨some 4, .mov (.c (.bool false)), none⟩])
 (.seq (.seq (.reg false [] [0, 1, 10] [⟨some 6, .mov (.t 0), none⟩, ⟨some 7, .len (.t 6), none⟩, ⟨some 8, .mov (.t 1), none⟩, ⟨some 9, .len (.t 8), none⟩, ⟨some 10, .bin .neq (.t 7) (.t 9), none⟩])
 (.cond (.t 10) (.seq (.reg false [] [4] [⟨some 4, .mov (.c (.bool false)), none⟩])
 .ret)
 .skip))
 (.seq (.seq (.reg false [] [0, 1, 12, 13] [⟨some 11, .mov (.t 0), none⟩, ⟨some 12, .len (.t 11), none⟩, ⟨some 13, .mov (.c (.int .i64 0)), none⟩])
 (.block 0 (.loop (.seq (.reg false [] [0, 1, 12, 13, 14] [⟨some 14, .bin .lss (.t 13) (.t 12), none⟩])
 (.seq (.cond (.t 14) .skip
 (.exit 0))
 (.seq (.block 1 (.seq (.reg false [] [0, 1, 5, 12, 13] [⟨some 15, .mov (.t 13), none⟩, ⟨some 5, .mov (.t 15), none⟩])
 (.seq (.reg true [0, 0, 3, 7, 0, 0, 48, 112, 255] [0, 1, 12, 13, 24] [⟨some 16, .mov (.t 0), none⟩, ⟨some 17, .mov (.t 5), none⟩, ⟨some 18, .iadS 2 (.t 16) (.t 17), none⟩, ⟨some 19, .ld 2 true (.t 18), none⟩, ⟨some 20, .mov (.t 1), none⟩, ⟨some 21, .mov (.t 5), none⟩, ⟨some 22, .iadS 2 (.t 20) (.t 21), none⟩, ⟨some 23, .ld 2 true (.t 22), none⟩, ⟨some 24, .beq true [0, 0] (.t 19) (.t 23), none⟩])
 (.cond (.t 24) (.seq (.reg false [] [4] [⟨some 4, .mov (.c (.bool false)), none⟩])
 .ret)
 .skip))))
 (.reg false [] [0, 1, 12, 13] [⟨some 25, .bin .add (.t 13) (.c (.int .i64 1)), none⟩, ⟨some 13, .mov (.t 25), none⟩])))))))
 (.seq (.reg false [] [4] [⟨some 4, .mov (.c (.bool true)), none⟩])
 .ret)))) }

/-- sewershed/steady.Depths -/
def N436_steady_Depths : NFun := { np := 3, nt := 92, res := [(6, none), (7, none)], body :=
 (.seq (.reg false [] [1, 2, 3] [⟨some 3, .boxF (.t 0), none⟩, ⟨some 6, .mov (.c .nils), none⟩, ⟨some 7, .mov (.c (.int .i64 0)), none⟩])
 (.seq (.seq (.reg false [] [1, 2, 3, 8] [⟨some 16, .ld 2 true (.t 3), none⟩, ⟨some 17, .mov (.t 1), none⟩, ⟨some 18, .mov (.t 2), none⟩, ⟨some 19, .fad 1 (.t 3), none⟩, ⟨some 20, .ld 1 false (.t 19), none⟩, ⟨some 21, .len (.t 20), none⟩, ⟨some 22, .call 473 [(.t 16), (.t 17), (.t 18), (.t 21)] [], none⟩, ⟨some 8, .mov (.t 22), none⟩])
 (.seq (.reg false [] [1, 2, 3, 8, 24] [⟨some 23, .mov (.t 8), none⟩, ⟨some 24, .bin .neq (.t 23) (.c (.int .i64 0)), none⟩])
 (.cond (.t 24) (.seq (.reg false [] [6, 7] [⟨some 25, .mov (.t 8), none⟩, ⟨some 6, .mov (.c .nils), none⟩, ⟨some 7, .mov (.t 25), none⟩])
 .ret)
 .skip)))
 (.seq (.reg false [] [1, 2, 3, 9] [⟨some 9, .nilo 2, none⟩])
 (.seq (.seq (.reg false [] [1, 2, 9, 27, 28, 29] [⟨some 26, .fad 1 (.t 3), none⟩, ⟨some 27, .ld 1 false (.t 26), none⟩, ⟨some 28, .len (.t 27), none⟩, ⟨some 29, .mov (.c (.int .i64 0)), none⟩])
 (.block 0 (.loop (.seq (.reg false [] [1, 2, 9, 27, 28, 29, 30] [⟨some 30, .bin .lss (.t 29) (.t 28), none⟩])
 (.seq (.cond (.t 30) .skip
 (.exit 0))
 (.seq (.block 1 (.seq (.reg false [] [1, 2, 9, 10, 11, 27, 28, 29] [⟨some 31, .mov (.t 29), none⟩, ⟨some 32, .iadS 11 (.t 27) (.t 29), none⟩, ⟨some 33, .ld 11 true (.t 32), none⟩, ⟨some 11, .alc [.str [], .str [], .str [], .int .i64 0, .int .i64 0, .int .i64 0, .int .i64 0, .str [], .int .i64 0, .int .i64 0, .own 2 []], none⟩, ⟨some 10, .mov (.t 31), none⟩, ⟨none, .st 11 [] (.t 11) (.t 33), none⟩])
 (.seq (.reg false [] [1, 2, 9, 10, 11, 12, 13, 27, 28, 29] [⟨some 35, .mov (.t 1), none⟩, ⟨some 36, .fad 7 (.t 11), none⟩, ⟨some 37, .ld 1 false (.t 36), none⟩, ⟨some 38, .call 441 [(.t 35), (.t 37)] [], none⟩, ⟨some 34, .mov (.t 38), none⟩, ⟨some 39, .ext 0 (.t 34), none⟩, ⟨some 40, .ext 1 (.t 34), none⟩, ⟨some 12, .mov (.t 39), none⟩, ⟨some 13, .mov (.t 40), none⟩])
 (.seq (.seq (.reg false [] [1, 2, 9, 10, 11, 12, 13, 27, 28, 29, 42] [⟨some 41, .mov (.t 13), none⟩, ⟨some 42, .bin .neq (.t 41) (.c (.int .i64 0)), none⟩])
 (.cond (.t 42) (.seq (.reg false [] [6, 7] [⟨some 43, .mov (.t 13), none⟩, ⟨some 6, .mov (.c .nils), none⟩, ⟨some 7, .mov (.t 43), none⟩])
 .ret)
 .skip))
 (.seq (.reg true [0, 0, 3, 7, 0, 0, 48, 112, 240, 0, 512, 0, 2048, 8191, 16383, 32767, 32767, 65535, 262143] [1, 2, 9, 10, 11, 12, 13, 14, 27, 28, 29] [⟨some 45, .mov (.t 1), none⟩, ⟨some 46, .mov (.t 12), none⟩, ⟨some 47, .iadS 5 (.t 45) (.t 46), none⟩, ⟨some 48, .ld 5 true (.t 47), none⟩, ⟨some 49, .mov (.t 2), none⟩, ⟨some 50, .mov (.t 10), none⟩, ⟨some 51, .iadS 2 (.t 49) (.t 50), none⟩, ⟨some 52, .fad 0 (.t 51), none⟩, ⟨some 53, .ld 1 false (.t 52), none⟩, ⟨some 54, .ld 11 true (.t 11), none⟩, ⟨some 55, .call 474 [(.t 54)] [], none⟩, ⟨some 56, .fad 4 (.t 11), none⟩, ⟨some 57, .ld 1 false (.t 56), none⟩, ⟨some 58, .call 165 [(.t 48), (.t 53), (.t 55), (.t 57)] [], none⟩, ⟨some 44, .mov (.t 58), none⟩, ⟨some 59, .ext 0 (.t 44), none⟩, ⟨some 60, .ext 1 (.t 44), none⟩, ⟨some 14, .mov (.t 59), none⟩, ⟨some 13, .mov (.t 60), none⟩])
 (.seq (.seq (.reg false [] [1, 2, 9, 10, 11, 12, 13, 14, 27, 28, 29, 62] [⟨some 61, .mov (.t 13), none⟩, ⟨some 62, .bin .neq (.t 61) (.c (.int .i64 0)), none⟩])
 (.cond (.t 62) (.seq (.reg false [] [6, 7] [⟨some 63, .mov (.t 13), none⟩, ⟨some 6, .mov (.c .nils), none⟩, ⟨some 7, .mov (.t 63), none⟩])
 .ret)
 .skip))
 (.seq (.reg true [0, 0, 3, 7, 0, 0, 48, 112, 240, 0, 512, 0, 2048, 8191, 16383, 32767, 32767, 65535, 262143] [1, 2, 9, 13, 14, 15, 27, 28, 29] [⟨some 65, .mov (.t 1), none⟩, ⟨some 66, .mov (.t 12), none⟩, ⟨some 67, .iadS 5 (.t 65) (.t 66), none⟩, ⟨some 68, .ld 5 true (.t 67), none⟩, ⟨some 69, .mov (.t 2), none⟩, ⟨some 70, .mov (.t 10), none⟩, ⟨some 71, .iadS 2 (.t 69) (.t 70), none⟩, ⟨some 72, .fad 1 (.t 71), none⟩, ⟨some 73, .ld 1 false (.t 72), none⟩, ⟨some 74, .ld 11 true (.t 11), none⟩, ⟨some 75, .call 474 [(.t 74)] [], none⟩, ⟨some 76, .fad 4 (.t 11), none⟩, ⟨some 77, .ld 1 false (.t 76), none⟩, ⟨some 78, .call 165 [(.t 68), (.t 73), (.t 75), (.t 77)] [], none⟩, ⟨some 64, .mov (.t 78), none⟩, ⟨some 79, .ext 0 (.t 64), none⟩, ⟨some 80, .ext 1 (.t 64), none⟩, ⟨some 15, .mov (.t 79), none⟩, ⟨some 13, .mov (.t 80), none⟩])
 (.seq (.seq (.reg false [] [1, 2, 9, 13, 14, 15, 27, 28, 29, 82] [⟨some 81, .mov (.t 13), none⟩, ⟨some 82, .bin .neq (.t 81) (.c (.int .i64 0)), none⟩])
 (.cond (.t 82) (.seq (.reg false [] [6, 7] [⟨some 83, .mov (.t 13), none⟩, ⟨some 6, .mov (.c .nils), none⟩, ⟨some 7, .mov (.t 83), none⟩])
 .ret)
 .skip))
 (.reg false [] [1, 2, 9, 27, 28, 29] [⟨some 84, .mov (.t 9), none⟩, ⟨some 85, .mov (.t 14), none⟩, ⟨some 86, .mov (.t 15), none⟩, ⟨some 87, .bld [.int .i64 0, .int .i64 0] [(0, 1, (.t 85)), (1, 1, (.t 86))], none⟩, ⟨some 88, .bls 2 1 [.int .i64 0, .int .i64 0] [] [(0, (.t 87))], none⟩, ⟨some 89, .app 2 16 false (.t 84) (.t 88), none⟩, ⟨some 9, .asg (.t 89), none⟩])))))))))
 (.reg false [] [1, 2, 9, 27, 28, 29] [⟨some 90, .bin .add (.t 29) (.c (.int .i64 1)), none⟩, ⟨some 29, .mov (.t 90), none⟩])))))))
 (.seq (.reg false [] [6, 7] [⟨some 91, .asg (.t 9), none⟩, ⟨some 6, .asg (.t 91), none⟩, ⟨some 7, .mov (.c (.int .i64 0)), none⟩])
 .ret))))) }

/-- sewershed/sewershedref30.Given -/
def N440_ref30_Given : NFun := { np := 4, nt := 35, res := [(8, none)], body :=
 (.seq (.reg false [] [1, 2, 3, 4] [⟨some 4, .boxF (.t 0), none⟩, ⟨some 8, .mov (.c (.int .i64 0)), none⟩])
 (.seq (.seq (.reg false [] [1, 2, 3, 4, 18] [⟨some 11, .ld 2 true (.t 4), none⟩, ⟨some 12, .call 427 [(.t 11)] [], none⟩, ⟨some 13, .un .not (.t 12), none⟩, ⟨some 14, .mov (.t 13), none⟩, ⟨some 15, .mov (.t 1), some (14, false)⟩, ⟨some 16, .call 33 [(.t 15)] [], some (14, false)⟩, ⟨some 17, .un .not (.t 16), some (14, false)⟩, ⟨some 18, .pick (.t 14) (.c (.bool true)) (.t 17), none⟩])
 (.cond (.t 18) (.seq (.reg false [] [8] [⟨some 8, .mov (.c (.int .i64 1)), none⟩])
 .ret)
 .skip))
 (.seq (.reg false [] [1, 2, 3, 4, 9] [⟨some 19, .fad 1 (.t 4), none⟩, ⟨some 20, .ld 1 false (.t 19), none⟩, ⟨some 21, .len (.t 20), none⟩, ⟨some 9, .mov (.t 21), none⟩])
 (.seq (.seq (.reg false [] [1, 2, 4, 9, 22] [⟨some 22, .mov (.t 3), none⟩])
 (.cond (.t 22) (.reg false [] [1, 2, 4, 9] [⟨some 23, .fad 0 (.t 4), none⟩, ⟨some 24, .ld 1 false (.t 23), none⟩, ⟨some 25, .len (.t 24), none⟩, ⟨some 9, .mov (.t 25), none⟩])
 .skip))
 (.seq (.reg false [] [1, 4, 10] [⟨some 26, .asg (.t 2), none⟩, ⟨some 27, .mov (.t 9), none⟩, ⟨some 28, .call 465 [(.t 26), (.t 27)] [], none⟩, ⟨some 10, .mov (.t 28), none⟩])
 (.seq (.seq (.reg false [] [1, 4, 10, 30] [⟨some 29, .mov (.t 10), none⟩, ⟨some 30, .bin .neq (.t 29) (.c (.int .i64 0)), none⟩])
 (.cond (.t 30) (.seq (.reg false [] [8] [⟨some 31, .mov (.t 10), none⟩, ⟨some 8, .mov (.t 31), none⟩])
 .ret)
 .skip))
 (.seq (.reg false [] [8] [⟨some 32, .ld 2 true (.t 4), none⟩, ⟨some 33, .asg (.t 1), none⟩, ⟨some 34, .call 479 [(.t 32), (.t 33)] [], none⟩, ⟨some 8, .mov (.t 34), none⟩])
 .ret))))))) }

/-- sewershed/catalogue.Find -/
def N441_catalogue_Find : NFun := { np := 2, nt := 16, res := [(4, none), (5, none)], body :=
 (.seq (.reg false [] [0, 3] [⟨some 3, .boxF (.t 1), none⟩, ⟨some 4, .mov (.c (.int .i64 0)), none⟩, ⟨some 5, .mov (.c (.int .i64 0)), none⟩])
 (.seq (.seq (.reg false [] [0, 3, 9] [⟨some 7, .mov (.t 0), none⟩, ⟨some 8, .call 44 [(.t 7)] [], none⟩, ⟨some 9, .un .not (.t 8), none⟩])
 (.cond (.t 9) (.seq (.reg false [] [4, 5] [⟨some 4, .mov (.c (.int .i64 0)), none⟩, ⟨some 5, .mov (.c (.int .i64 1)), none⟩])
 .ret)
 .skip))
 (.seq (.seq (.reg false [] [6] [⟨some 10, .asg (.t 0), none⟩, ⟨some 11, .mk 480 [(.t 3)], none⟩, ⟨some 12, .call 52 [(.t 10), (.t 11)] [], none⟩, ⟨some 6, .mov (.t 12), none⟩])
 (.seq (.reg false [] [6, 14] [⟨some 13, .mov (.t 6), none⟩, ⟨some 14, .bin .geq (.t 13) (.c (.int .i64 0)), none⟩])
 (.cond (.t 14) (.seq (.reg false [] [4, 5] [⟨some 15, .mov (.t 6), none⟩, ⟨some 4, .mov (.t 15), none⟩, ⟨some 5, .mov (.c (.int .i64 0)), none⟩])
 .ret)
 .skip)))
 (.seq (.reg false [] [4, 5] [⟨some 4, .mov (.c (.int .i64 0)), none⟩, ⟨some 5, .mov (.c (.int .i64 9)), none⟩])
 .ret)))) }

/-- sewershed/sewershedlaw30.example -/
def N452_law30_example : NFun := { np := 0, nt := 15, res := [(0, some (2, true))], body :=
 (.seq (.reg false [] [0] [⟨some 0, .alc [.own 9 [], .own 11 []], none⟩])
 (.seq (.reg false [] [0, 1] [⟨some 1, .mov (.c (.fn 486 [])), none⟩])
 (.seq (.reg false [] [0, 1, 2] [⟨some 2, .mov (.c (.fn 487 [])), none⟩])
 (.seq (.reg false [] [0] [⟨some 3, .mov (.t 1), none⟩, ⟨some 4, .callv (.t 3) [(.c (.str [97]))], none⟩, ⟨some 5, .mov (.t 1), none⟩, ⟨some 6, .callv (.t 5) [(.c (.str [98]))], none⟩, ⟨some 7, .bld [.str [], .int .i64 0, .int .i64 0, .int .i64 0, .int .i64 0, .int .i64 0, .nils, .bool false, .int .i64 0] [(0, 1, (.c (.str [111]))), (1, 1, (.c (.int .i64 3)))], none⟩, ⟨some 8, .bls 9 3 [.str [], .int .i64 0, .int .i64 0, .int .i64 0, .int .i64 0, .int .i64 0, .own 2 [], .bool false, .int .i64 0] [] [(0, (.t 4)), (1, (.t 6)), (2, (.t 7))], none⟩, ⟨some 9, .mov (.t 2), none⟩, ⟨some 10, .callv (.t 9) [(.c (.str [112])), (.c (.str [97])), (.c (.str [98]))], none⟩, ⟨some 11, .mov (.t 2), none⟩, ⟨some 12, .callv (.t 11) [(.c (.str [113])), (.c (.str [98])), (.c (.str [111]))], none⟩, ⟨some 13, .bls 11 2 [.str [], .str [], .str [], .int .i64 0, .int .i64 0, .int .i64 0, .int .i64 0, .str [], .int .i64 0, .int .i64 0, .own 2 []] [] [(0, (.t 10)), (1, (.t 12))], none⟩, ⟨some 14, .bld [.nils, .nils] [(0, 1, (.t 8)), (1, 1, (.t 13))], none⟩, ⟨none, .st 2 [] (.t 0) (.t 14), none⟩])
 .ret)))) }

/-- slices.ContainsFunc[[]sewershed/api.Node,sewershed/api.Node] -/
def N453_slices_ContainsFunc__api_Node_api_Node : NFun := { np := 2, nt := 9, res := [(4, none)], body :=
 (.seq (.reg false [] [0, 1] [⟨some 4, .mov (.c (.bool false)), none⟩])
 (.seq (.reg false [] [4] [⟨some 5, .asg (.t 0), none⟩, ⟨some 6, .mov (.t 1), none⟩, ⟨some 7, .call 175 [(.t 5), (.t 6)] [], none⟩, ⟨some 8, .bin .geq (.t 7) (.c (.int .i64 0)), none⟩, ⟨some 4, .mov (.t 8), none⟩])
 .ret)) }

/-- sewershed/sewershedlaw30.large$1 -/
def N454_law30_large_1 : NFun := { np := 1, nt := 13, res := [(2, none)], body :=
 (.seq (.reg false [] [1] [⟨some 1, .boxF (.t 0), none⟩, ⟨some 2, .mov (.c (.bool false)), none⟩])
 (.seq (.reg false [] [2] [⟨some 3, .fad 6 (.t 1), none⟩, ⟨some 4, .ld 1 false (.t 3), none⟩, ⟨some 5, .len (.t 4), none⟩, ⟨some 6, .bin .gtr (.t 5) (.c (.int .i64 110)), none⟩, ⟨some 7, .mov (.t 6), none⟩, ⟨some 8, .fad 0 (.t 1), some (7, false)⟩, ⟨some 9, .ld 1 false (.t 8), some (7, false)⟩, ⟨some 10, .lens (.t 9), some (7, false)⟩, ⟨some 11, .bin .gtr (.t 10) (.c (.int .i64 100)), some (7, false)⟩, ⟨some 12, .pick (.t 7) (.c (.bool true)) (.t 11), none⟩, ⟨some 2, .mov (.t 12), none⟩])
 .ret)) }

/-- slices.ContainsFunc[[]sewershed/api.Link,sewershed/api.Link] -/
def N455_slices_ContainsFunc__api_Link_api_Link : NFun := { np := 2, nt := 9, res := [(4, none)], body :=
 (.seq (.reg false [] [0, 1] [⟨some 4, .mov (.c (.bool false)), none⟩])
 (.seq (.reg false [] [4] [⟨some 5, .asg (.t 0), none⟩, ⟨some 6, .mov (.t 1), none⟩, ⟨some 7, .call 181 [(.t 5), (.t 6)] [], none⟩, ⟨some 8, .bin .geq (.t 7) (.c (.int .i64 0)), none⟩, ⟨some 4, .mov (.t 8), none⟩])
 .ret)) }

/-- sewershed/sewershedlaw30.large$2 -/
def N456_law30_large_2 : NFun := { np := 1, nt := 31, res := [(2, none)], body :=
 (.seq (.reg false [] [1] [⟨some 1, .boxF (.t 0), none⟩, ⟨some 2, .mov (.c (.bool false)), none⟩])
 (.seq (.reg false [] [2] [⟨some 3, .fad 10 (.t 1), none⟩, ⟨some 4, .ld 1 false (.t 3), none⟩, ⟨some 5, .len (.t 4), none⟩, ⟨some 6, .bin .gtr (.t 5) (.c (.int .i64 110)), none⟩, ⟨some 7, .mov (.t 6), none⟩, ⟨some 8, .fad 0 (.t 1), some (7, false)⟩, ⟨some 9, .ld 1 false (.t 8), some (7, false)⟩, ⟨some 10, .lens (.t 9), some (7, false)⟩, ⟨some 11, .bin .gtr (.t 10) (.c (.int .i64 100)), some (7, false)⟩, ⟨some 12, .pick (.t 7) (.c (.bool true)) (.t 11), none⟩, ⟨some 13, .mov (.t 12), none⟩, ⟨some 14, .fad 1 (.t 1), some (13, false)⟩, ⟨some 15, .ld 1 false (.t 14), some (13, false)⟩, ⟨some 16, .lens (.t 15), some (13, false)⟩, ⟨some 17, .bin .gtr (.t 16) (.c (.int .i64 100)), some (13, false)⟩, ⟨some 18, .pick (.t 13) (.c (.bool true)) (.t 17), none⟩, ⟨some 19, .mov (.t 18), none⟩, ⟨some 20, .fad 2 (.t 1), some (19, false)⟩, ⟨some 21, .ld 1 false (.t 20), some (19, false)⟩, ⟨some 22, .lens (.t 21), some (19, false)⟩, ⟨some 23, .bin .gtr (.t 22) (.c (.int .i64 100)), some (19, false)⟩, ⟨some 24, .pick (.t 19) (.c (.bool true)) (.t 23), none⟩, ⟨some 25, .mov (.t 24), none⟩, ⟨some 26, .fad 7 (.t 1), some (25, false)⟩, ⟨some 27, .ld 1 false (.t 26), some (25, false)⟩, ⟨some 28, .lens (.t 27), some (25, false)⟩, ⟨some 29, .bin .gtr (.t 28) (.c (.int .i64 100)), some (25, false)⟩, ⟨some 30, .pick (.t 25) (.c (.bool true)) (.t 29), none⟩, ⟨some 2, .mov (.t 30), none⟩])
 .ret)) }

/-- sewershed/sewershedlaw30.large$3 -/
def N457_law30_large_3 : NFun := { np := 1, nt := 19, res := [(2, none)], body :=
 (.seq (.reg false [] [1] [⟨some 1, .boxF (.t 0), none⟩, ⟨some 2, .mov (.c (.bool false)), none⟩])
 (.seq (.reg false [] [2] [⟨some 3, .fad 3 (.t 1), none⟩, ⟨some 4, .ld 1 false (.t 3), none⟩, ⟨some 5, .len (.t 4), none⟩, ⟨some 6, .bin .gtr (.t 5) (.c (.int .i64 110)), none⟩, ⟨some 7, .mov (.t 6), none⟩, ⟨some 8, .fad 4 (.t 1), some (7, false)⟩, ⟨some 9, .ld 1 false (.t 8), some (7, false)⟩, ⟨some 10, .len (.t 9), some (7, false)⟩, ⟨some 11, .bin .gtr (.t 10) (.c (.int .i64 110)), some (7, false)⟩, ⟨some 12, .pick (.t 7) (.c (.bool true)) (.t 11), none⟩, ⟨some 13, .mov (.t 12), none⟩, ⟨some 14, .fad 0 (.t 1), some (13, false)⟩, ⟨some 15, .ld 1 false (.t 14), some (13, false)⟩, ⟨some 16, .lens (.t 15), some (13, false)⟩, ⟨some 17, .bin .gtr (.t 16) (.c (.int .i64 100)), some (13, false)⟩, ⟨some 18, .pick (.t 13) (.c (.bool true)) (.t 17), none⟩, ⟨some 2, .mov (.t 18), none⟩])
 .ret)) }

/-- sewershed/sewershedref26.Valid -/
def N458_ref26_Valid : NFun := { np := 1, nt := 88, res := [(2, none)], body :=
 (.seq (.reg false [] [1] [⟨some 1, .boxF (.t 0), none⟩, ⟨some 2, .mov (.c (.bool false)), none⟩])
 (.seq (.seq (.reg false [] [1, 16] [⟨some 7, .fad 0 (.t 1), none⟩, ⟨some 8, .ld 1 false (.t 7), none⟩, ⟨some 9, .len (.t 8), none⟩, ⟨some 10, .bin .gtr (.t 9) (.c (.int .i64 300)), none⟩, ⟨some 11, .mov (.t 10), none⟩, ⟨some 12, .fad 1 (.t 1), some (11, false)⟩, ⟨some 13, .ld 1 false (.t 12), some (11, false)⟩, ⟨some 14, .len (.t 13), some (11, false)⟩, ⟨some 15, .bin .gtr (.t 14) (.c (.int .i64 400)), some (11, false)⟩, ⟨some 16, .pick (.t 11) (.c (.bool true)) (.t 15), none⟩])
 (.cond (.t 16) (.seq (.reg false [] [2] [⟨some 2, .mov (.c (.bool false)), none⟩])
 .ret)
 .skip))
 (.seq (.seq (.reg false [] [1, 3] [⟨some 3, .mov (.c (.int .i64 0)), none⟩])
 (.block 0 (.loop (.seq (.seq (.reg false [] [1, 3, 21] [⟨some 17, .mov (.t 3), none⟩, ⟨some 18, .fad 0 (.t 1), none⟩, ⟨some 19, .ld 1 false (.t 18), none⟩, ⟨some 20, .len (.t 19), none⟩, ⟨some 21, .bin .lss (.t 17) (.t 20), none⟩])
 (.cond (.t 21) .skip
 (.exit 0)))
 (.seq (.block 1 (.seq (.reg true [0, 1, 0, 7, 15, 31, 63, 127, 255, 255, 767, 255, 3839, 7935, 16127, 32767, 255, 131071, 262143] [1, 3, 42] [⟨some 24, .fad 0 (.t 1), none⟩, ⟨some 25, .ld 1 false (.t 24), none⟩, ⟨some 26, .mov (.t 3), none⟩, ⟨some 27, .iadS 9 (.t 25) (.t 26), none⟩, ⟨some 28, .ld 9 true (.t 27), none⟩, ⟨some 29, .call 488 [(.t 28)] [], none⟩, ⟨some 30, .un .not (.t 29), none⟩, ⟨some 31, .mov (.t 30), none⟩, ⟨some 32, .ld 2 true (.t 1), some (31, false)⟩, ⟨some 33, .fad 0 (.t 1), some (31, false)⟩, ⟨some 34, .ld 1 false (.t 33), some (31, false)⟩, ⟨some 35, .mov (.t 3), some (31, false)⟩, ⟨some 36, .iadS 9 (.t 34) (.t 35), some (31, false)⟩, ⟨some 37, .fad 0 (.t 36), some (31, false)⟩, ⟨some 38, .ld 1 false (.t 37), some (31, false)⟩, ⟨some 39, .call 462 [(.t 32), (.t 38)] [], some (31, false)⟩, ⟨some 40, .mov (.t 3), some (31, false)⟩, ⟨some 41, .bin .neq (.t 39) (.t 40), some (31, false)⟩, ⟨some 42, .pick (.t 31) (.c (.bool true)) (.t 41), none⟩])
 (.cond (.t 42) (.seq (.reg false [] [2] [⟨some 2, .mov (.c (.bool false)), none⟩])
 .ret)
 .skip)))
 (.reg false [] [1, 3] [⟨some 22, .mov (.t 3), none⟩, ⟨some 23, .bin .add (.t 22) (.c (.int .i64 1)), none⟩, ⟨some 3, .mov (.t 23), none⟩]))))))
 (.seq (.seq (.reg false [] [1, 4] [⟨some 4, .mov (.c (.int .i64 0)), none⟩])
 (.block 2 (.loop (.seq (.seq (.reg false [] [1, 4, 47] [⟨some 43, .mov (.t 4), none⟩, ⟨some 44, .fad 1 (.t 1), none⟩, ⟨some 45, .ld 1 false (.t 44), none⟩, ⟨some 46, .len (.t 45), none⟩, ⟨some 47, .bin .lss (.t 43) (.t 46), none⟩])
 (.cond (.t 47) .skip
 (.exit 2)))
 (.seq (.block 3 (.seq (.reg false [] [1, 4, 5] [⟨some 50, .fad 1 (.t 1), none⟩, ⟨some 51, .ld 1 false (.t 50), none⟩, ⟨some 52, .mov (.t 4), none⟩, ⟨some 53, .iadS 11 (.t 51) (.t 52), none⟩, ⟨some 54, .ld 11 true (.t 53), none⟩, ⟨some 5, .alc [.str [], .str [], .str [], .int .i64 0, .int .i64 0, .int .i64 0, .int .i64 0, .str [], .int .i64 0, .int .i64 0, .own 2 []], none⟩, ⟨none, .st 11 [] (.t 5) (.t 54), none⟩])
 (.seq (.seq (.reg false [] [1, 4, 5, 72] [⟨some 55, .ld 11 true (.t 5), none⟩, ⟨some 56, .call 194 [(.t 55)] [], none⟩, ⟨some 57, .un .not (.t 56), none⟩, ⟨some 58, .mov (.t 57), none⟩, ⟨some 59, .ld 2 true (.t 1), some (58, false)⟩, ⟨some 60, .fad 0 (.t 5), some (58, false)⟩, ⟨some 61, .ld 1 false (.t 60), some (58, false)⟩, ⟨some 62, .call 467 [(.t 59), (.t 61)] [], some (58, false)⟩, ⟨some 63, .mov (.t 4), some (58, false)⟩, ⟨some 64, .bin .neq (.t 62) (.t 63), some (58, false)⟩, ⟨some 65, .pick (.t 58) (.c (.bool true)) (.t 64), none⟩, ⟨some 66, .mov (.t 65), none⟩, ⟨some 67, .ld 2 true (.t 1), some (66, false)⟩, ⟨some 68, .fad 2 (.t 5), some (66, false)⟩, ⟨some 69, .ld 1 false (.t 68), some (66, false)⟩, ⟨some 70, .call 462 [(.t 67), (.t 69)] [], some (66, false)⟩, ⟨some 71, .bin .lss (.t 70) (.c (.int .i64 0)), some (66, false)⟩, ⟨some 72, .pick (.t 66) (.c (.bool true)) (.t 71), none⟩])
 (.cond (.t 72) (.seq (.reg false [] [2] [⟨some 2, .mov (.c (.bool false)), none⟩])
 .ret)
 .skip))
 (.seq (.reg false [] [1, 4, 6] [⟨some 73, .ld 2 true (.t 1), none⟩, ⟨some 74, .fad 1 (.t 5), none⟩, ⟨some 75, .ld 1 false (.t 74), none⟩, ⟨some 76, .call 462 [(.t 73), (.t 75)] [], none⟩, ⟨some 6, .mov (.t 76), none⟩])
 (.seq (.reg false [] [1, 4, 87] [⟨some 77, .mov (.t 6), none⟩, ⟨some 78, .bin .lss (.t 77) (.c (.int .i64 0)), none⟩, ⟨some 79, .mov (.t 78), none⟩, ⟨some 80, .fad 0 (.t 1), some (79, false)⟩, ⟨some 81, .ld 1 false (.t 80), some (79, false)⟩, ⟨some 82, .mov (.t 6), some (79, false)⟩, ⟨some 83, .iadS 9 (.t 81) (.t 82), some (79, false)⟩, ⟨some 84, .fad 1 (.t 83), some (79, false)⟩, ⟨some 85, .ld 1 false (.t 84), some (79, false)⟩, ⟨some 86, .bin .eql (.t 85) (.c (.int .i64 3)), some (79, false)⟩, ⟨some 87, .pick (.t 79) (.c (.bool true)) (.t 86), none⟩])
 (.cond (.t 87) (.seq (.reg false [] [2] [⟨some 2, .mov (.c (.bool false)), none⟩])
 .ret)
 .skip))))))
 (.reg false [] [1, 4] [⟨some 48, .mov (.t 4), none⟩, ⟨some 49, .bin .add (.t 48) (.c (.int .i64 1)), none⟩, ⟨some 4, .mov (.t 49), none⟩]))))))
 (.seq (.reg false [] [2] [⟨some 2, .mov (.c (.bool true)), none⟩])
 .ret))))) }

/-- sewershed/sewershedref08.Tree -/
def N459_ref08_Tree : NFun := { np := 2, nt := 42, res := [(4, none)], body :=
 (.seq (.reg false [] [0, 1] [⟨some 4, .mov (.c (.bool false)), none⟩])
 (.seq (.seq (.reg false [] [0, 1, 12] [⟨some 9, .mov (.t 0), none⟩, ⟨some 10, .mov (.t 1), none⟩, ⟨some 11, .call 489 [(.t 9), (.t 10)] [], none⟩, ⟨some 12, .un .not (.t 11), none⟩])
 (.cond (.t 12) (.seq (.reg false [] [4] [⟨some 4, .mov (.c (.bool false)), none⟩])
 .ret)
 .skip))
 (.seq (.seq (.reg false [] [0, 1, 5] [⟨some 5, .mov (.c (.int .i64 0)), none⟩])
 (.block 0 (.loop (.seq (.seq (.reg false [] [0, 1, 5, 16] [⟨some 13, .mov (.t 5), none⟩, ⟨some 14, .mov (.t 1), none⟩, ⟨some 15, .len (.t 14), none⟩, ⟨some 16, .bin .lss (.t 13) (.t 15), none⟩])
 (.cond (.t 16) .skip
 (.exit 0)))
 (.seq (.block 1 (.seq (.reg false [] [0, 1, 5, 6] [⟨some 6, .mov (.c (.int .i64 0)), none⟩])
 (.block 2 (.loop (.seq (.seq (.reg false [] [0, 1, 5, 6, 21] [⟨some 19, .mov (.t 6), none⟩, ⟨some 20, .mov (.t 5), none⟩, ⟨some 21, .bin .lss (.t 19) (.t 20), none⟩])
 (.cond (.t 21) .skip
 (.exit 2)))
 (.seq (.block 3 (.seq (.reg true [0, 0, 3, 7, 15, 0, 0, 96, 224, 480, 1023] [0, 1, 5, 6, 34] [⟨some 24, .mov (.t 1), none⟩, ⟨some 25, .mov (.t 5), none⟩, ⟨some 26, .iadS 2 (.t 24) (.t 25), none⟩, ⟨some 27, .iadA 2 1 (.t 26) (.c (.int .i64 0)), none⟩, ⟨some 28, .ld 1 false (.t 27), none⟩, ⟨some 29, .mov (.t 1), none⟩, ⟨some 30, .mov (.t 6), none⟩, ⟨some 31, .iadS 2 (.t 29) (.t 30), none⟩, ⟨some 32, .iadA 2 1 (.t 31) (.c (.int .i64 0)), none⟩, ⟨some 33, .ld 1 false (.t 32), none⟩, ⟨some 34, .bin .eql (.t 28) (.t 33), none⟩])
 (.cond (.t 34) (.seq (.reg false [] [4] [⟨some 4, .mov (.c (.bool false)), none⟩])
 .ret)
 .skip)))
 (.reg false [] [0, 1, 5, 6] [⟨some 22, .mov (.t 6), none⟩, ⟨some 23, .bin .add (.t 22) (.c (.int .i64 1)), none⟩, ⟨some 6, .mov (.t 23), none⟩])))))))
 (.reg false [] [0, 1, 5] [⟨some 17, .mov (.t 5), none⟩, ⟨some 18, .bin .add (.t 17) (.c (.int .i64 1)), none⟩, ⟨some 5, .mov (.t 18), none⟩]))))))
 (.seq (.reg false [] [8] [⟨some 36, .mov (.t 0), none⟩, ⟨some 37, .asg (.t 1), none⟩, ⟨some 38, .call 490 [(.t 36), (.t 37)] [], none⟩, ⟨some 35, .mov (.t 38), none⟩, ⟨some 39, .ext 0 (.t 35), none⟩, ⟨some 40, .ext 1 (.t 35), none⟩, ⟨some 7, .asg (.t 39), none⟩, ⟨some 8, .mov (.t 40), none⟩])
 (.seq (.reg false [] [4] [⟨some 41, .mov (.t 8), none⟩, ⟨some 4, .mov (.t 41), none⟩])
 .ret))))) }

/-- sewershed/steady.spans -/
def N460_steady_spans : NFun := { np := 2, nt := 16, res := [(4, none)], body :=
 (.seq (.reg false [] [0, 1] [⟨some 4, .mov (.c (.int .i64 0)), none⟩])
 (.seq (.block 0 (.seq (.reg false [] [0, 1, 5] [⟨some 6, .mov (.t 0), none⟩, ⟨some 7, .call 491 [(.t 6), (.c (.fn 492 []))] [], none⟩, ⟨some 5, .mov (.t 7), none⟩])
 (.cond (.t 5) (.seq (.reg false [] [4] [⟨some 4, .mov (.c (.int .i64 1)), none⟩])
 .ret)
 (.seq (.reg false [] [0, 8] [⟨some 9, .mov (.t 0), none⟩, ⟨some 10, .len (.t 9), none⟩, ⟨some 11, .mov (.t 1), none⟩, ⟨some 12, .bin .neq (.t 10) (.t 11), none⟩, ⟨some 8, .mov (.t 12), none⟩])
 (.cond (.t 8) (.seq (.reg false [] [4] [⟨some 4, .mov (.c (.int .i64 3)), none⟩])
 .ret)
 (.seq (.reg false [] [13] [⟨some 14, .asg (.t 0), none⟩, ⟨some 15, .call 491 [(.t 14), (.c (.fn 494 []))] [], none⟩, ⟨some 13, .mov (.t 15), none⟩])
 (.cond (.t 13) (.seq (.reg false [] [4] [⟨some 4, .mov (.c (.int .i64 2)), none⟩])
 .ret)
 .skip)))))))
 (.seq (.reg false [] [4] [⟨some 4, .mov (.c (.int .i64 0)), none⟩])
 .ret))) }

/-- sewershed/steady.flows -/
def N461_steady_flows : NFun := { np := 2, nt := 97, res := [(4, none), (5, none)], body :=
 (.seq (.reg false [] [1, 2] [⟨some 2, .boxF (.t 0), none⟩, ⟨some 4, .mov (.c .nils), none⟩, ⟨some 5, .mov (.c (.int .i64 0)), none⟩])
 (.seq (.reg false [] [1, 2, 6, 7] [⟨some 17, .ld 2 true (.t 2), none⟩, ⟨some 18, .call 495 [(.t 17)] [], none⟩, ⟨some 16, .mov (.t 18), none⟩, ⟨some 19, .ext 0 (.t 16), none⟩, ⟨some 20, .ext 1 (.t 16), none⟩, ⟨some 6, .asg (.t 19), none⟩, ⟨some 7, .mov (.t 20), none⟩])
 (.seq (.seq (.reg false [] [1, 2, 6, 7, 22] [⟨some 21, .mov (.t 7), none⟩, ⟨some 22, .bin .neq (.t 21) (.c (.int .i64 0)), none⟩])
 (.cond (.t 22) (.seq (.reg false [] [4, 5] [⟨some 23, .mov (.t 7), none⟩, ⟨some 4, .mov (.c .nils), none⟩, ⟨some 5, .mov (.t 23), none⟩])
 .ret)
 .skip))
 (.seq (.reg false [] [1, 2, 6, 7, 8] [⟨some 25, .ld 2 true (.t 2), none⟩, ⟨some 26, .call 471 [(.t 25)] [], none⟩, ⟨some 24, .mov (.t 26), none⟩, ⟨some 27, .ext 0 (.t 24), none⟩, ⟨some 28, .ext 1 (.t 24), none⟩, ⟨some 8, .asg (.t 27), none⟩, ⟨some 7, .mov (.t 28), none⟩])
 (.seq (.seq (.reg false [] [1, 2, 6, 7, 8, 30] [⟨some 29, .mov (.t 7), none⟩, ⟨some 30, .bin .neq (.t 29) (.c (.int .i64 0)), none⟩])
 (.cond (.t 30) (.seq (.reg false [] [4, 5] [⟨some 31, .mov (.t 7), none⟩, ⟨some 4, .mov (.c .nils), none⟩, ⟨some 5, .mov (.t 31), none⟩])
 .ret)
 .skip))
 (.seq (.reg false [] [1, 6, 8, 9] [⟨some 32, .fad 1 (.t 2), none⟩, ⟨some 33, .ld 1 false (.t 32), none⟩, ⟨some 34, .len (.t 33), none⟩, ⟨some 35, .mks 2 16 [.int .i64 0, .int .i64 0] (.t 34) (.t 34), none⟩, ⟨some 9, .asg (.t 35), none⟩])
 (.seq (.reg false [] [6, 8, 9, 10] [⟨some 36, .asg (.t 1), none⟩, ⟨some 37, .callF 496 [(.t 36)], none⟩, ⟨some 10, .asg (.t 37), none⟩])
 (.seq (.seq (.reg false [] [8, 9, 10, 38, 39, 40] [⟨some 38, .asg (.t 6), none⟩, ⟨some 39, .len (.t 38), none⟩, ⟨some 40, .mov (.c (.int .i64 0)), none⟩])
 (.block 0 (.loop (.seq (.reg false [] [8, 9, 10, 38, 39, 40, 41] [⟨some 41, .bin .lss (.t 40) (.t 39), none⟩])
 (.seq (.cond (.t 41) .skip
 (.exit 0))
 (.seq (.block 1 (.seq (.reg false [] [8, 9, 10, 12, 38, 39, 40] [⟨some 42, .iadS 1 (.t 38) (.t 40), none⟩, ⟨some 43, .ld 1 false (.t 42), none⟩, ⟨some 12, .mov (.t 43), none⟩])
 (.seq (.reg false [] [8, 9, 10, 12, 38, 39, 40, 44, 45, 46] [⟨some 44, .mov (.t 8), none⟩, ⟨some 45, .len (.t 44), none⟩, ⟨some 46, .mov (.c (.int .i64 0)), none⟩])
 (.block 2 (.loop (.seq (.reg false [] [8, 9, 10, 12, 38, 39, 40, 44, 45, 46, 47] [⟨some 47, .bin .lss (.t 46) (.t 45), none⟩])
 (.seq (.cond (.t 47) .skip
 (.exit 2))
 (.seq (.block 3 (.seq (.reg false [] [8, 9, 10, 12, 13, 14, 38, 39, 40, 44, 45, 46] [⟨some 48, .mov (.t 46), none⟩, ⟨some 49, .iadS 2 (.t 44) (.t 46), none⟩, ⟨some 50, .ld 2 true (.t 49), none⟩, ⟨some 14, .alc [.int .i64 0, .int .i64 0], none⟩, ⟨some 13, .mov (.t 48), none⟩, ⟨none, .st 2 [] (.t 14) (.t 50), none⟩])
 (.seq (.seq (.reg false [] [8, 9, 10, 12, 13, 14, 38, 39, 40, 44, 45, 46, 54] [⟨some 51, .iadA 2 1 (.t 14) (.c (.int .i64 0)), none⟩, ⟨some 52, .ld 1 false (.t 51), none⟩, ⟨some 53, .mov (.t 12), none⟩, ⟨some 54, .bin .neq (.t 52) (.t 53), none⟩])
 (.cond (.t 54) (.exit 3)
 .skip))
 (.seq (.reg false [] [8, 9, 10, 12, 14, 38, 39, 40, 44, 45, 46] [⟨some 55, .mov (.t 9), none⟩, ⟨some 56, .mov (.t 13), none⟩, ⟨some 57, .mov (.t 10), none⟩, ⟨some 58, .mov (.t 12), none⟩, ⟨some 59, .iadS 2 (.t 57) (.t 58), none⟩, ⟨some 60, .ld 2 true (.t 59), none⟩, ⟨some 61, .iadS 2 (.t 55) (.t 56), none⟩, ⟨none, .st 2 [] (.t 61) (.t 60), none⟩])
 (.seq (.reg false [] [8, 9, 10, 12, 15, 38, 39, 40, 44, 45, 46] [⟨some 62, .mov (.t 10), none⟩, ⟨some 63, .iadA 2 1 (.t 14) (.c (.int .i64 1)), none⟩, ⟨some 64, .ld 1 false (.t 63), none⟩, ⟨some 65, .iadS 2 (.t 62) (.t 64), none⟩, ⟨some 15, .mov (.t 65), none⟩])
 (.reg true [0, 0, 0, 4, 12, 28, 0, 0, 192, 448, 960, 2044, 0, 4096, 12288, 28672, 0, 0, 196608, 458752, 983040, 2093056, 2097149, 6291453, 14680061, 33554431, 67108863, 134217727] [8, 9, 10, 12, 38, 39, 40, 44, 45, 46] [⟨some 66, .mov (.t 15), none⟩, ⟨some 67, .mov (.t 15), none⟩, ⟨some 68, .mov (.t 15), none⟩, ⟨some 69, .nck (.t 68), none⟩, ⟨some 70, .fad 0 (.t 69), none⟩, ⟨some 71, .ld 1 false (.t 70), none⟩, ⟨some 72, .mov (.t 10), none⟩, ⟨some 73, .mov (.t 12), none⟩, ⟨some 74, .iadS 2 (.t 72) (.t 73), none⟩, ⟨some 75, .fad 0 (.t 74), none⟩, ⟨some 76, .ld 1 false (.t 75), none⟩, ⟨some 77, .bin .add (.t 71) (.t 76), none⟩, ⟨some 78, .mov (.t 15), none⟩, ⟨some 79, .nck (.t 78), none⟩, ⟨some 80, .fad 1 (.t 79), none⟩, ⟨some 81, .ld 1 false (.t 80), none⟩, ⟨some 82, .mov (.t 10), none⟩, ⟨some 83, .mov (.t 12), none⟩, ⟨some 84, .iadS 2 (.t 82) (.t 83), none⟩, ⟨some 85, .fad 1 (.t 84), none⟩, ⟨some 86, .ld 1 false (.t 85), none⟩, ⟨some 87, .bin .add (.t 81) (.t 86), none⟩, ⟨some 88, .nck (.t 66), none⟩, ⟨some 89, .fad 0 (.t 88), none⟩, ⟨none, .st 1 [] (.t 89) (.t 77), none⟩, ⟨some 90, .nck (.t 67), none⟩, ⟨some 91, .fad 1 (.t 90), none⟩, ⟨none, .st 1 [] (.t 91) (.t 87), none⟩]))))))
 (.reg false [] [8, 9, 10, 12, 38, 39, 40, 44, 45, 46] [⟨some 92, .bin .add (.t 46) (.c (.int .i64 1)), none⟩, ⟨some 46, .mov (.t 92), none⟩])))))))))
 (.reg false [] [8, 9, 10, 38, 39, 40] [⟨some 93, .bin .add (.t 40) (.c (.int .i64 1)), none⟩, ⟨some 40, .mov (.t 93), none⟩])))))))
 (.seq (.seq (.reg false [] [9, 95] [⟨some 94, .mov (.t 9), none⟩, ⟨some 95, .call 491 [(.t 94), (.c (.fn 497 []))] [], none⟩])
 (.cond (.t 95) (.seq (.reg false [] [4, 5] [⟨some 4, .mov (.c .nils), none⟩, ⟨some 5, .mov (.c (.int .i64 5)), none⟩])
 .ret)
 .skip))
 (.seq (.reg false [] [4, 5] [⟨some 96, .asg (.t 9), none⟩, ⟨some 4, .asg (.t 96), none⟩, ⟨some 5, .mov (.c (.int .i64 0)), none⟩])
 .ret)))))))))) }

/-- sewershed/sewershedref26.FindNode -/
def N462_ref26_FindNode : NFun := { np := 2, nt := 22, res := [(4, none)], body :=
 (.seq (.reg false [] [1, 2] [⟨some 2, .boxF (.t 0), none⟩, ⟨some 4, .mov (.c (.int .i64 0)), none⟩])
 (.seq (.seq (.reg false [] [1, 2, 5] [⟨some 5, .mov (.c (.int .i64 0)), none⟩])
 (.block 0 (.loop (.seq (.seq (.reg false [] [1, 2, 5, 10] [⟨some 6, .mov (.t 5), none⟩, ⟨some 7, .fad 0 (.t 2), none⟩, ⟨some 8, .ld 1 false (.t 7), none⟩, ⟨some 9, .len (.t 8), none⟩, ⟨some 10, .bin .lss (.t 6) (.t 9), none⟩])
 (.cond (.t 10) .skip
 (.exit 0)))
 (.seq (.block 1 (.seq (.reg false [] [1, 2, 5, 20] [⟨some 13, .fad 0 (.t 2), none⟩, ⟨some 14, .ld 1 false (.t 13), none⟩, ⟨some 15, .mov (.t 5), none⟩, ⟨some 16, .iadS 9 (.t 14) (.t 15), none⟩, ⟨some 17, .fad 0 (.t 16), none⟩, ⟨some 18, .ld 1 false (.t 17), none⟩, ⟨some 19, .mov (.t 1), none⟩, ⟨some 20, .bin .eql (.t 18) (.t 19), none⟩])
 (.cond (.t 20) (.seq (.reg false [] [4] [⟨some 21, .mov (.t 5), none⟩, ⟨some 4, .mov (.t 21), none⟩])
 .ret)
 .skip)))
 (.reg false [] [1, 2, 5] [⟨some 11, .mov (.t 5), none⟩, ⟨some 12, .bin .add (.t 11) (.c (.int .i64 1)), none⟩, ⟨some 5, .mov (.t 12), none⟩]))))))
 (.seq (.reg false [] [4] [⟨some 4, .mov (.c (.int .i64 (-1))), none⟩])
 .ret))) }

/-- sewershed/sewershedref30.spans -/
def N465_ref30_spans : NFun := { np := 2, nt := 43, res := [(4, none)], body :=
 (.seq (.reg false [] [0, 1] [⟨some 4, .mov (.c (.int .i64 0)), none⟩])
 (.seq (.seq (.reg false [] [0, 1, 5] [⟨some 5, .mov (.c (.int .i64 0)), none⟩])
 (.block 0 (.loop (.seq (.seq (.reg false [] [0, 1, 5, 10] [⟨some 7, .mov (.t 5), none⟩, ⟨some 8, .mov (.t 0), none⟩, ⟨some 9, .len (.t 8), none⟩, ⟨some 10, .bin .lss (.t 7) (.t 9), none⟩])
 (.cond (.t 10) .skip
 (.exit 0)))
 (.seq (.block 1 (.seq (.reg false [] [0, 1, 5, 18] [⟨some 13, .mov (.t 0), none⟩, ⟨some 14, .mov (.t 5), none⟩, ⟨some 15, .iadS 2 (.t 13) (.t 14), none⟩, ⟨some 16, .ld 2 true (.t 15), none⟩, ⟨some 17, .call 501 [(.t 16)] [], none⟩, ⟨some 18, .un .not (.t 17), none⟩])
 (.cond (.t 18) (.seq (.reg false [] [4] [⟨some 4, .mov (.c (.int .i64 1)), none⟩])
 .ret)
 .skip)))
 (.reg false [] [0, 1, 5] [⟨some 11, .mov (.t 5), none⟩, ⟨some 12, .bin .add (.t 11) (.c (.int .i64 1)), none⟩, ⟨some 5, .mov (.t 12), none⟩]))))))
 (.seq (.seq (.reg false [] [0, 22] [⟨some 19, .mov (.t 0), none⟩, ⟨some 20, .len (.t 19), none⟩, ⟨some 21, .mov (.t 1), none⟩, ⟨some 22, .bin .neq (.t 20) (.t 21), none⟩])
 (.cond (.t 22) (.seq (.reg false [] [4] [⟨some 4, .mov (.c (.int .i64 3)), none⟩])
 .ret)
 .skip))
 (.seq (.seq (.reg false [] [0, 6] [⟨some 6, .mov (.c (.int .i64 0)), none⟩])
 (.block 2 (.loop (.seq (.seq (.reg false [] [0, 6, 26] [⟨some 23, .mov (.t 6), none⟩, ⟨some 24, .mov (.t 0), none⟩, ⟨some 25, .len (.t 24), none⟩, ⟨some 26, .bin .lss (.t 23) (.t 25), none⟩])
 (.cond (.t 26) .skip
 (.exit 2)))
 (.seq (.block 3 (.seq (.reg false [] [0, 6, 42] [⟨some 29, .mov (.t 0), none⟩, ⟨some 30, .mov (.t 6), none⟩, ⟨some 31, .iadS 2 (.t 29) (.t 30), none⟩, ⟨some 32, .fad 0 (.t 31), none⟩, ⟨some 33, .ld 1 false (.t 32), none⟩, ⟨some 34, .bin .lss (.t 33) (.c (.int .i64 0)), none⟩, ⟨some 35, .mov (.t 34), none⟩, ⟨some 36, .mov (.t 0), some (35, false)⟩, ⟨some 37, .mov (.t 6), some (35, false)⟩, ⟨some 38, .iadS 2 (.t 36) (.t 37), some (35, false)⟩, ⟨some 39, .fad 1 (.t 38), some (35, false)⟩, ⟨some 40, .ld 1 false (.t 39), some (35, false)⟩, ⟨some 41, .bin .gtr (.t 40) (.c (.int .i64 1099511627776)), some (35, false)⟩, ⟨some 42, .pick (.t 35) (.c (.bool true)) (.t 41), none⟩])
 (.cond (.t 42) (.seq (.reg false [] [4] [⟨some 4, .mov (.c (.int .i64 2)), none⟩])
 .ret)
 .skip)))
 (.reg false [] [0, 6] [⟨some 27, .mov (.t 6), none⟩, ⟨some 28, .bin .add (.t 27) (.c (.int .i64 1)), none⟩, ⟨some 6, .mov (.t 28), none⟩]))))))
 (.seq (.reg false [] [4] [⟨some 4, .mov (.c (.int .i64 0)), none⟩])
 .ret))))) }

/-- sewershed/sewershedref26.FindLink -/
def N467_ref26_FindLink : NFun := { np := 2, nt := 22, res := [(4, none)], body :=
 (.seq (.reg false [] [1, 2] [⟨some 2, .boxF (.t 0), none⟩, ⟨some 4, .mov (.c (.int .i64 0)), none⟩])
 (.seq (.seq (.reg false [] [1, 2, 5] [⟨some 5, .mov (.c (.int .i64 0)), none⟩])
 (.block 0 (.loop (.seq (.seq (.reg false [] [1, 2, 5, 10] [⟨some 6, .mov (.t 5), none⟩, ⟨some 7, .fad 1 (.t 2), none⟩, ⟨some 8, .ld 1 false (.t 7), none⟩, ⟨some 9, .len (.t 8), none⟩, ⟨some 10, .bin .lss (.t 6) (.t 9), none⟩])
 (.cond (.t 10) .skip
 (.exit 0)))
 (.seq (.block 1 (.seq (.reg false [] [1, 2, 5, 20] [⟨some 13, .fad 1 (.t 2), none⟩, ⟨some 14, .ld 1 false (.t 13), none⟩, ⟨some 15, .mov (.t 5), none⟩, ⟨some 16, .iadS 11 (.t 14) (.t 15), none⟩, ⟨some 17, .fad 0 (.t 16), none⟩, ⟨some 18, .ld 1 false (.t 17), none⟩, ⟨some 19, .mov (.t 1), none⟩, ⟨some 20, .bin .eql (.t 18) (.t 19), none⟩])
 (.cond (.t 20) (.seq (.reg false [] [4] [⟨some 21, .mov (.t 5), none⟩, ⟨some 4, .mov (.t 21), none⟩])
 .ret)
 .skip)))
 (.reg false [] [1, 2, 5] [⟨some 11, .mov (.t 5), none⟩, ⟨some 12, .bin .add (.t 11) (.c (.int .i64 1)), none⟩, ⟨some 5, .mov (.t 12), none⟩]))))))
 (.seq (.reg false [] [4] [⟨some 4, .mov (.c (.int .i64 (-1))), none⟩])
 .ret))) }

/-- sewershed/steady.Tree$1 -/
def N470_steady_Tree_1 : NFun := { np := 1, nt := 6, res := [(2, none)], body :=
 (.seq (.reg false [] [1] [⟨some 1, .boxF (.t 0), none⟩, ⟨some 2, .mov (.c (.bool false)), none⟩])
 (.seq (.reg false [] [2] [⟨some 3, .fad 3 (.t 1), none⟩, ⟨some 4, .ld 1 false (.t 3), none⟩, ⟨some 5, .bin .neq (.t 4) (.c (.int .i64 1)), none⟩, ⟨some 2, .mov (.t 5), none⟩])
 .ret)) }

/-- sewershed/network.Edges -/
def N471_network_Edges : NFun := { np := 1, nt := 9, res := [(2, none), (3, none)], body :=
 (.seq (.reg false [] [1] [⟨some 1, .boxF (.t 0), none⟩, ⟨some 2, .mov (.c .nils), none⟩, ⟨some 3, .mov (.c (.int .i64 0)), none⟩])
 (.seq (.seq (.reg false [] [1, 6] [⟨some 4, .ld 2 true (.t 1), none⟩, ⟨some 5, .call 164 [(.t 4)] [], none⟩, ⟨some 6, .un .not (.t 5), none⟩])
 (.cond (.t 6) (.seq (.reg false [] [2, 3] [⟨some 2, .mov (.c .nils), none⟩, ⟨some 3, .mov (.c (.int .i64 1)), none⟩])
 .ret)
 .skip))
 (.seq (.reg false [] [2, 3] [⟨some 7, .ld 2 true (.t 1), none⟩, ⟨some 8, .call 499 [(.t 7)] [], none⟩, ⟨some 2, .asg (.t 8), none⟩, ⟨some 3, .mov (.c (.int .i64 0)), none⟩])
 .ret))) }

/-- sewershed/digraph.Tree -/
def N472_digraph_Tree : NFun := { np := 2, nt := 36, res := [(4, none)], body :=
 (.seq (.reg false [] [0, 1] [⟨some 4, .mov (.c (.bool false)), none⟩])
 (.seq (.seq (.reg false [] [0, 1, 11] [⟨some 8, .mov (.t 0), none⟩, ⟨some 9, .mov (.t 1), none⟩, ⟨some 10, .call 503 [(.t 8), (.t 9)] [], none⟩, ⟨some 11, .un .not (.t 10), none⟩])
 (.cond (.t 11) (.seq (.reg false [] [4] [⟨some 4, .mov (.c (.bool false)), none⟩])
 .ret)
 .skip))
 (.seq (.reg false [] [0, 1, 5] [⟨some 12, .mov (.t 0), none⟩, ⟨some 13, .mks 1 1 [.bool false] (.t 12) (.t 12), none⟩, ⟨some 5, .asg (.t 13), none⟩])
 (.seq (.seq (.reg false [] [0, 1, 5, 14, 15, 16] [⟨some 14, .mov (.t 1), none⟩, ⟨some 15, .len (.t 14), none⟩, ⟨some 16, .mov (.c (.int .i64 0)), none⟩])
 (.block 0 (.loop (.seq (.reg false [] [0, 1, 5, 14, 15, 16, 17] [⟨some 17, .bin .lss (.t 16) (.t 15), none⟩])
 (.seq (.cond (.t 17) .skip
 (.exit 0))
 (.seq (.block 1 (.seq (.reg false [] [0, 1, 5, 7, 14, 15, 16] [⟨some 18, .iadS 2 (.t 14) (.t 16), none⟩, ⟨some 19, .ld 2 true (.t 18), none⟩, ⟨some 7, .alc [.int .i64 0, .int .i64 0], none⟩, ⟨none, .st 2 [] (.t 7) (.t 19), none⟩])
 (.seq (.seq (.reg false [] [0, 1, 5, 7, 14, 15, 16, 24] [⟨some 20, .mov (.t 5), none⟩, ⟨some 21, .iadA 2 1 (.t 7) (.c (.int .i64 0)), none⟩, ⟨some 22, .ld 1 false (.t 21), none⟩, ⟨some 23, .iadS 1 (.t 20) (.t 22), none⟩, ⟨some 24, .ld 1 false (.t 23), none⟩])
 (.cond (.t 24) (.seq (.reg false [] [4] [⟨some 4, .mov (.c (.bool false)), none⟩])
 .ret)
 .skip))
 (.reg false [] [0, 1, 5, 14, 15, 16] [⟨some 25, .mov (.t 5), none⟩, ⟨some 26, .iadA 2 1 (.t 7) (.c (.int .i64 0)), none⟩, ⟨some 27, .ld 1 false (.t 26), none⟩, ⟨some 28, .iadS 1 (.t 25) (.t 27), none⟩, ⟨none, .st 1 [] (.t 28) (.c (.bool true)), none⟩]))))
 (.reg false [] [0, 1, 5, 14, 15, 16] [⟨some 29, .bin .add (.t 16) (.c (.int .i64 1)), none⟩, ⟨some 16, .mov (.t 29), none⟩])))))))
 (.seq (.reg false [] [4] [⟨some 30, .mov (.t 0), none⟩, ⟨some 31, .asg (.t 1), none⟩, ⟨some 32, .call 504 [(.t 30), (.t 31)] [], none⟩, ⟨some 33, .len (.t 32), none⟩, ⟨some 34, .mov (.t 0), none⟩, ⟨some 35, .bin .eql (.t 33) (.t 34), none⟩, ⟨some 4, .mov (.t 35), none⟩])
 .ret))))) }

/-- sewershed/steady.pipes -/
def N473_steady_pipes : NFun := { np := 4, nt := 27, res := [(8, none)], body :=
 (.seq (.reg false [] [1, 2, 3, 4] [⟨some 4, .boxF (.t 0), none⟩, ⟨some 8, .mov (.c (.int .i64 0)), none⟩])
 (.seq (.seq (.reg false [] [1, 2, 3, 4, 17] [⟨some 10, .ld 2 true (.t 4), none⟩, ⟨some 11, .call 433 [(.t 10)] [], none⟩, ⟨some 12, .un .not (.t 11), none⟩, ⟨some 13, .mov (.t 12), none⟩, ⟨some 14, .mov (.t 1), some (13, false)⟩, ⟨some 15, .call 44 [(.t 14)] [], some (13, false)⟩, ⟨some 16, .un .not (.t 15), some (13, false)⟩, ⟨some 17, .pick (.t 13) (.c (.bool true)) (.t 16), none⟩])
 (.cond (.t 17) (.seq (.reg false [] [8] [⟨some 8, .mov (.c (.int .i64 1)), none⟩])
 .ret)
 .skip))
 (.seq (.seq (.reg false [] [1, 4, 9] [⟨some 18, .asg (.t 2), none⟩, ⟨some 19, .mov (.t 3), none⟩, ⟨some 20, .call 460 [(.t 18), (.t 19)] [], none⟩, ⟨some 9, .mov (.t 20), none⟩])
 (.seq (.reg false [] [1, 4, 9, 22] [⟨some 21, .mov (.t 9), none⟩, ⟨some 22, .bin .neq (.t 21) (.c (.int .i64 0)), none⟩])
 (.cond (.t 22) (.seq (.reg false [] [8] [⟨some 23, .mov (.t 9), none⟩, ⟨some 8, .mov (.t 23), none⟩])
 .ret)
 .skip)))
 (.seq (.reg false [] [8] [⟨some 24, .ld 2 true (.t 4), none⟩, ⟨some 25, .asg (.t 1), none⟩, ⟨some 26, .call 481 [(.t 24), (.t 25)] [], none⟩, ⟨some 8, .mov (.t 26), none⟩])
 .ret)))) }

/-- sewershed/steady.fall -/
def N474_steady_fall : NFun := { np := 1, nt := 9, res := [(2, none)], body :=
 (.seq (.reg false [] [1] [⟨some 1, .boxF (.t 0), none⟩, ⟨some 2, .mov (.c (.int .i64 0)), none⟩])
 (.seq (.reg false [] [2] [⟨some 3, .fad 5 (.t 1), none⟩, ⟨some 4, .ld 1 false (.t 3), none⟩, ⟨some 5, .fad 6 (.t 1), none⟩, ⟨some 6, .ld 1 false (.t 5), none⟩, ⟨some 7, .bin .sub (.t 4) (.t 6), none⟩, ⟨some 8, .mn (.t 7) (.c (.int .i64 4194304)), none⟩, ⟨some 2, .mov (.t 8), none⟩])
 .ret)) }

/-- sewershed/sewershedref30.pipes -/
def N479_ref30_pipes : NFun := { np := 2, nt := 43, res := [(4, none)], body :=
 (.seq (.reg false [] [1, 2] [⟨some 2, .boxF (.t 0), none⟩, ⟨some 4, .mov (.c (.int .i64 0)), none⟩])
 (.seq (.seq (.reg false [] [1, 2, 5] [⟨some 5, .mov (.c (.int .i64 0)), none⟩])
 (.block 0 (.loop (.seq (.seq (.reg false [] [1, 2, 5, 11] [⟨some 7, .mov (.t 5), none⟩, ⟨some 8, .fad 1 (.t 2), none⟩, ⟨some 9, .ld 1 false (.t 8), none⟩, ⟨some 10, .len (.t 9), none⟩, ⟨some 11, .bin .lss (.t 7) (.t 10), none⟩])
 (.cond (.t 11) .skip
 (.exit 0)))
 (.seq (.block 1 (.seq (.reg false [] [1, 2, 5, 22] [⟨some 14, .mov (.t 1), none⟩, ⟨some 15, .fad 1 (.t 2), none⟩, ⟨some 16, .ld 1 false (.t 15), none⟩, ⟨some 17, .mov (.t 5), none⟩, ⟨some 18, .iadS 11 (.t 16) (.t 17), none⟩, ⟨some 19, .fad 7 (.t 18), none⟩, ⟨some 20, .ld 1 false (.t 19), none⟩, ⟨some 21, .call 49 [(.t 14), (.t 20)] [], none⟩, ⟨some 22, .bin .lss (.t 21) (.c (.int .i64 0)), none⟩])
 (.cond (.t 22) (.seq (.reg false [] [4] [⟨some 4, .mov (.c (.int .i64 9)), none⟩])
 .ret)
 .skip)))
 (.reg false [] [1, 2, 5] [⟨some 12, .mov (.t 5), none⟩, ⟨some 13, .bin .add (.t 12) (.c (.int .i64 1)), none⟩, ⟨some 5, .mov (.t 13), none⟩]))))))
 (.seq (.seq (.reg false [] [2, 6] [⟨some 6, .mov (.c (.int .i64 0)), none⟩])
 (.block 2 (.loop (.seq (.seq (.reg false [] [2, 6, 27] [⟨some 23, .mov (.t 6), none⟩, ⟨some 24, .fad 1 (.t 2), none⟩, ⟨some 25, .ld 1 false (.t 24), none⟩, ⟨some 26, .len (.t 25), none⟩, ⟨some 27, .bin .lss (.t 23) (.t 26), none⟩])
 (.cond (.t 27) .skip
 (.exit 2)))
 (.seq (.block 3 (.seq (.reg true [0, 1, 0, 7, 15, 31, 0, 64, 0, 448, 960, 1984, 4095] [2, 6, 42] [⟨some 30, .fad 1 (.t 2), none⟩, ⟨some 31, .ld 1 false (.t 30), none⟩, ⟨some 32, .mov (.t 6), none⟩, ⟨some 33, .iadS 11 (.t 31) (.t 32), none⟩, ⟨some 34, .fad 5 (.t 33), none⟩, ⟨some 35, .ld 1 false (.t 34), none⟩, ⟨some 36, .fad 1 (.t 2), none⟩, ⟨some 37, .ld 1 false (.t 36), none⟩, ⟨some 38, .mov (.t 6), none⟩, ⟨some 39, .iadS 11 (.t 37) (.t 38), none⟩, ⟨some 40, .fad 6 (.t 39), none⟩, ⟨some 41, .ld 1 false (.t 40), none⟩, ⟨some 42, .bin .lss (.t 35) (.t 41), none⟩])
 (.cond (.t 42) (.seq (.reg false [] [4] [⟨some 4, .mov (.c (.int .i64 23)), none⟩])
 .ret)
 .skip)))
 (.reg false [] [2, 6] [⟨some 28, .mov (.t 6), none⟩, ⟨some 29, .bin .add (.t 28) (.c (.int .i64 1)), none⟩, ⟨some 6, .mov (.t 29), none⟩]))))))
 (.seq (.reg false [] [4] [⟨some 4, .mov (.c (.int .i64 0)), none⟩])
 .ret)))) }

/-- sewershed/catalogue.Find$1 -/
def N480_catalogue_Find_1 : NFun := { np := 2, nt := 8, res := [(3, none)], body :=
 (.seq (.reg false [] [1, 2] [⟨some 2, .boxF (.t 0), none⟩, ⟨some 3, .mov (.c (.bool false)), none⟩])
 (.seq (.reg false [] [3] [⟨some 4, .fad 0 (.t 2), none⟩, ⟨some 5, .ld 1 false (.t 4), none⟩, ⟨some 6, .ld 1 false (.t 1), none⟩, ⟨some 7, .bin .eql (.t 5) (.t 6), none⟩, ⟨some 3, .mov (.t 7), none⟩])
 .ret)) }

/-- sewershed/steady.sections -/
def N481_steady_sections : NFun := { np := 2, nt := 30, res := [(4, none)], body :=
 (.seq (.reg false [] [1, 2] [⟨some 2, .boxF (.t 0), none⟩, ⟨some 4, .mov (.c (.int .i64 0)), none⟩])
 (.seq (.seq (.reg false [] [1, 2, 10, 11, 12] [⟨some 9, .fad 1 (.t 2), none⟩, ⟨some 10, .ld 1 false (.t 9), none⟩, ⟨some 11, .len (.t 10), none⟩, ⟨some 12, .mov (.c (.int .i64 0)), none⟩])
 (.block 0 (.loop (.seq (.reg false [] [1, 2, 10, 11, 12, 13] [⟨some 13, .bin .lss (.t 12) (.t 11), none⟩])
 (.seq (.cond (.t 13) .skip
 (.exit 0))
 (.seq (.block 1 (.seq (.reg false [] [1, 2, 6, 10, 11, 12] [⟨some 14, .iadS 11 (.t 10) (.t 12), none⟩, ⟨some 15, .ld 11 true (.t 14), none⟩, ⟨some 6, .alc [.str [], .str [], .str [], .int .i64 0, .int .i64 0, .int .i64 0, .int .i64 0, .str [], .int .i64 0, .int .i64 0, .own 2 []], none⟩, ⟨none, .st 11 [] (.t 6) (.t 15), none⟩])
 (.seq (.reg false [] [1, 2, 8, 10, 11, 12] [⟨some 17, .mov (.t 1), none⟩, ⟨some 18, .fad 7 (.t 6), none⟩, ⟨some 19, .ld 1 false (.t 18), none⟩, ⟨some 20, .call 441 [(.t 17), (.t 19)] [], none⟩, ⟨some 16, .mov (.t 20), none⟩, ⟨some 21, .ext 0 (.t 16), none⟩, ⟨some 22, .ext 1 (.t 16), none⟩, ⟨some 7, .mov (.t 21), none⟩, ⟨some 8, .mov (.t 22), none⟩])
 (.seq (.reg false [] [1, 2, 8, 10, 11, 12, 24] [⟨some 23, .mov (.t 8), none⟩, ⟨some 24, .bin .neq (.t 23) (.c (.int .i64 0)), none⟩])
 (.cond (.t 24) (.seq (.reg false [] [4] [⟨some 25, .mov (.t 8), none⟩, ⟨some 4, .mov (.t 25), none⟩])
 .ret)
 .skip)))))
 (.reg false [] [1, 2, 10, 11, 12] [⟨some 26, .bin .add (.t 12) (.c (.int .i64 1)), none⟩, ⟨some 12, .mov (.t 26), none⟩])))))))
 (.seq (.seq (.reg false [] [29] [⟨some 27, .fad 1 (.t 2), none⟩, ⟨some 28, .ld 1 false (.t 27), none⟩, ⟨some 29, .call 455 [(.t 28), (.c (.fn 506 []))] [], none⟩])
 (.cond (.t 29) (.seq (.reg false [] [4] [⟨some 4, .mov (.c (.int .i64 23)), none⟩])
 .ret)
 .skip))
 (.seq (.reg false [] [4] [⟨some 4, .mov (.c (.int .i64 0)), none⟩])
 .ret)))) }

/-- sewershed/sewershedlaw30.example$1 -/
def N486_law30_example_1 : NFun := { np := 1, nt := 8, res := [(2, some (9, true))], body :=
 (.seq (.reg false [] [0, 2] [⟨some 2, .alc [.str [], .int .i64 0, .int .i64 0, .int .i64 0, .int .i64 0, .int .i64 0, .own 2 [], .bool false, .int .i64 0], none⟩])
 (.seq (.reg false [] [2] [⟨some 3, .mov (.t 0), none⟩, ⟨some 4, .bld [.int .i64 0, .int .i64 0] [], none⟩, ⟨some 5, .bld [.int .i64 0, .int .i64 0] [(0, 1, (.c (.int .i64 9))), (1, 1, (.c (.int .i64 5)))], none⟩, ⟨some 6, .bls 2 2 [.int .i64 0, .int .i64 0] [] [(0, (.t 4)), (1, (.t 5))], none⟩, ⟨some 7, .bld [.str [], .int .i64 0, .int .i64 0, .int .i64 0, .int .i64 0, .int .i64 0, .nils, .bool false, .int .i64 0] [(0, 1, (.t 3)), (1, 1, (.c (.int .i64 1))), (5, 1, (.c (.int .i64 9))), (6, 1, (.t 6))], none⟩, ⟨none, .st 9 [] (.t 2) (.t 7), none⟩])
 .ret)) }

/-- sewershed/sewershedlaw30.example$2 -/
def N487_law30_example_2 : NFun := { np := 3, nt := 11, res := [(6, some (11, true))], body :=
 (.seq (.reg false [] [0, 1, 2, 6] [⟨some 6, .alc [.str [], .str [], .str [], .int .i64 0, .int .i64 0, .int .i64 0, .int .i64 0, .str [], .int .i64 0, .int .i64 0, .own 2 []], none⟩])
 (.seq (.reg false [] [6] [⟨some 7, .mov (.t 0), none⟩, ⟨some 8, .mov (.t 1), none⟩, ⟨some 9, .mov (.t 2), none⟩, ⟨some 10, .bld [.str [], .str [], .str [], .int .i64 0, .int .i64 0, .int .i64 0, .int .i64 0, .str [], .int .i64 0, .int .i64 0, .nils] [(0, 1, (.t 7)), (1, 1, (.t 8)), (2, 1, (.t 9)), (3, 1, (.c (.int .i64 1))), (4, 1, (.c (.int .i64 5))), (5, 1, (.c (.int .i64 3))), (7, 1, (.c (.str [115])))], none⟩, ⟨none, .st 11 [] (.t 6) (.t 10), none⟩])
 .ret)) }

/-- sewershed/sewershedref26.RightNode -/
def N488_ref26_RightNode : NFun := { np := 1, nt := 105, res := [(2, none)], body :=
 (.seq (.reg false [] [1] [⟨some 1, .boxF (.t 0), none⟩, ⟨some 2, .mov (.c (.bool false)), none⟩])
 (.seq (.seq (.reg false [] [1, 32] [⟨some 3, .fad 0 (.t 1), none⟩, ⟨some 4, .ld 1 false (.t 3), none⟩, ⟨some 5, .call 54 [(.t 4)] [], none⟩, ⟨some 6, .un .not (.t 5), none⟩, ⟨some 7, .mov (.t 6), none⟩, ⟨some 8, .fad 2 (.t 1), some (7, false)⟩, ⟨some 9, .fad 0 (.t 8), some (7, false)⟩, ⟨some 10, .ld 1 false (.t 9), some (7, false)⟩, ⟨some 11, .call 507 [(.t 10)] [], some (7, false)⟩, ⟨some 12, .un .not (.t 11), some (7, false)⟩, ⟨some 13, .pick (.t 7) (.c (.bool true)) (.t 12), none⟩, ⟨some 14, .mov (.t 13), none⟩, ⟨some 15, .fad 2 (.t 1), some (14, false)⟩, ⟨some 16, .fad 1 (.t 15), some (14, false)⟩, ⟨some 17, .ld 1 false (.t 16), some (14, false)⟩, ⟨some 18, .call 507 [(.t 17)] [], some (14, false)⟩, ⟨some 19, .un .not (.t 18), some (14, false)⟩, ⟨some 20, .pick (.t 14) (.c (.bool true)) (.t 19), none⟩, ⟨some 21, .mov (.t 20), none⟩, ⟨some 22, .fad 4 (.t 1), some (21, false)⟩, ⟨some 23, .ld 1 false (.t 22), some (21, false)⟩, ⟨some 24, .call 199 [(.t 23)] [], some (21, false)⟩, ⟨some 25, .un .not (.t 24), some (21, false)⟩, ⟨some 26, .pick (.t 21) (.c (.bool true)) (.t 25), none⟩, ⟨some 27, .mov (.t 26), none⟩, ⟨some 28, .fad 5 (.t 1), some (27, false)⟩, ⟨some 29, .ld 1 false (.t 28), some (27, false)⟩, ⟨some 30, .call 199 [(.t 29)] [], some (27, false)⟩, ⟨some 31, .un .not (.t 30), some (27, false)⟩, ⟨some 32, .pick (.t 27) (.c (.bool true)) (.t 31), none⟩])
 (.cond (.t 32) (.seq (.reg false [] [2] [⟨some 2, .mov (.c (.bool false)), none⟩])
 .ret)
 .skip))
 (.seq (.seq (.reg false [] [1, 34] [⟨some 33, .fad 1 (.t 1), none⟩, ⟨some 34, .ld 1 false (.t 33), none⟩])
 (.block 0 (.seq (.reg false [] [1, 34, 35] [⟨some 36, .bin .eql (.t 34) (.c (.int .i64 3)), none⟩, ⟨some 35, .mov (.t 36), none⟩])
 (.cond (.t 35) (.seq (.reg false [] [2] [⟨some 37, .fad 5 (.t 1), none⟩, ⟨some 38, .ld 1 false (.t 37), none⟩, ⟨some 39, .fad 4 (.t 1), none⟩, ⟨some 40, .ld 1 false (.t 39), none⟩, ⟨some 41, .bin .geq (.t 38) (.t 40), none⟩, ⟨some 42, .mov (.t 41), none⟩, ⟨some 43, .fad 6 (.t 1), some (42, true)⟩, ⟨some 44, .ld 1 false (.t 43), some (42, true)⟩, ⟨some 45, .len (.t 44), some (42, true)⟩, ⟨some 46, .bin .eql (.t 45) (.c (.int .i64 0)), some (42, true)⟩, ⟨some 47, .pick (.t 42) (.t 46) (.c (.bool false)), none⟩, ⟨some 48, .mov (.t 47), none⟩, ⟨some 49, .fad 7 (.t 1), some (48, true)⟩, ⟨some 50, .ld 1 false (.t 49), some (48, true)⟩, ⟨some 51, .un .not (.t 50), some (48, true)⟩, ⟨some 52, .pick (.t 48) (.t 51) (.c (.bool false)), none⟩, ⟨some 53, .mov (.t 52), none⟩, ⟨some 54, .fad 8 (.t 1), some (53, true)⟩, ⟨some 55, .ld 1 false (.t 54), some (53, true)⟩, ⟨some 56, .bin .eql (.t 55) (.c (.int .i64 0)), some (53, true)⟩, ⟨some 57, .pick (.t 53) (.t 56) (.c (.bool false)), none⟩, ⟨some 2, .mov (.t 57), none⟩])
 .ret)
 (.seq (.seq (.reg false [] [1, 34, 58] [⟨some 59, .bin .eql (.t 34) (.c (.int .i64 1)), none⟩, ⟨some 58, .mov (.t 59), none⟩])
 (.cond (.t 58) .skip
 (.reg false [] [1, 58] [⟨some 60, .bin .eql (.t 34) (.c (.int .i64 2)), none⟩, ⟨some 58, .mov (.t 60), none⟩])))
 (.cond (.t 58) (.seq (.seq (.reg false [] [1, 76] [⟨some 61, .fad 5 (.t 1), none⟩, ⟨some 62, .ld 1 false (.t 61), none⟩, ⟨some 63, .fad 4 (.t 1), none⟩, ⟨some 64, .ld 1 false (.t 63), none⟩, ⟨some 65, .bin .leq (.t 62) (.t 64), none⟩, ⟨some 66, .mov (.t 65), none⟩, ⟨some 67, .fad 6 (.t 1), some (66, false)⟩, ⟨some 68, .ld 1 false (.t 67), some (66, false)⟩, ⟨some 69, .fad 5 (.t 1), some (66, false)⟩, ⟨some 70, .ld 1 false (.t 69), some (66, false)⟩, ⟨some 71, .fad 4 (.t 1), some (66, false)⟩, ⟨some 72, .ld 1 false (.t 71), some (66, false)⟩, ⟨some 73, .bin .sub (.t 70) (.t 72), some (66, false)⟩, ⟨some 74, .call 508 [(.t 68), (.t 73)] [], some (66, false)⟩, ⟨some 75, .un .not (.t 74), some (66, false)⟩, ⟨some 76, .pick (.t 66) (.c (.bool true)) (.t 75), none⟩])
 (.cond (.t 76) (.seq (.reg false [] [2] [⟨some 2, .mov (.c (.bool false)), none⟩])
 .ret)
 .skip))
 (.seq (.seq (.reg false [] [1, 79] [⟨some 77, .fad 7 (.t 1), none⟩, ⟨some 78, .ld 1 false (.t 77), none⟩, ⟨some 79, .un .not (.t 78), none⟩])
 (.cond (.t 79) (.seq (.reg false [] [2] [⟨some 80, .fad 8 (.t 1), none⟩, ⟨some 81, .ld 1 false (.t 80), none⟩, ⟨some 82, .bin .eql (.t 81) (.c (.int .i64 0)), none⟩, ⟨some 2, .mov (.t 82), none⟩])
 .ret)
 .skip))
 (.seq (.reg true [0, 1, 3, 7, 15, 31, 63, 127, 255, 511, 1023, 511, 2559, 511, 8703, 25087, 57855, 129535, 260607, 522751, 1048575, 2097151, 4194303] [2] [⟨some 83, .fad 1 (.t 1), none⟩, ⟨some 84, .ld 1 false (.t 83), none⟩, ⟨some 85, .bin .eql (.t 84) (.c (.int .i64 2)), none⟩, ⟨some 86, .mov (.t 85), none⟩, ⟨some 87, .fad 8 (.t 1), some (86, true)⟩, ⟨some 88, .ld 1 false (.t 87), some (86, true)⟩, ⟨some 89, .bin .geq (.t 88) (.c (.int .i64 0)), some (86, true)⟩, ⟨some 90, .pick (.t 86) (.t 89) (.c (.bool false)), none⟩, ⟨some 91, .mov (.t 90), none⟩, ⟨some 92, .fad 8 (.t 1), some (91, true)⟩, ⟨some 93, .ld 1 false (.t 92), some (91, true)⟩, ⟨some 94, .fad 6 (.t 1), some (91, true)⟩, ⟨some 95, .ld 1 false (.t 94), some (91, true)⟩, ⟨some 96, .fad 6 (.t 1), some (91, true)⟩, ⟨some 97, .ld 1 false (.t 96), some (91, true)⟩, ⟨some 98, .len (.t 97), some (91, true)⟩, ⟨some 99, .bin .sub (.t 98) (.c (.int .i64 1)), some (91, true)⟩, ⟨some 100, .iadS 2 (.t 95) (.t 99), some (91, true)⟩, ⟨some 101, .fad 1 (.t 100), some (91, true)⟩, ⟨some 102, .ld 1 false (.t 101), some (91, true)⟩, ⟨some 103, .bin .leq (.t 93) (.t 102), some (91, true)⟩, ⟨some 104, .pick (.t 91) (.t 103) (.c (.bool false)), none⟩, ⟨some 2, .mov (.t 104), none⟩])
 .ret)))
 .skip))))))
 (.seq (.reg false [] [2] [⟨some 2, .mov (.c (.bool false)), none⟩])
 .ret)))) }

/-- sewershed/sewershedref08.Valid -/
def N489_ref08_Valid : NFun := { np := 2, nt := 55, res := [(4, none)], body :=
 (.seq (.reg false [] [0, 1] [⟨some 4, .mov (.c (.bool false)), none⟩])
 (.seq (.seq (.reg false [] [0, 1, 16] [⟨some 6, .mov (.t 0), none⟩, ⟨some 7, .bin .lss (.t 6) (.c (.int .i64 0)), none⟩, ⟨some 8, .mov (.t 7), none⟩, ⟨some 9, .mov (.t 0), some (8, false)⟩, ⟨some 10, .bin .gtr (.t 9) (.c (.int .i64 300)), some (8, false)⟩, ⟨some 11, .pick (.t 8) (.c (.bool true)) (.t 10), none⟩, ⟨some 12, .mov (.t 11), none⟩, ⟨some 13, .mov (.t 1), some (12, false)⟩, ⟨some 14, .len (.t 13), some (12, false)⟩, ⟨some 15, .bin .gtr (.t 14) (.c (.int .i64 1000)), some (12, false)⟩, ⟨some 16, .pick (.t 12) (.c (.bool true)) (.t 15), none⟩])
 (.cond (.t 16) (.seq (.reg false [] [4] [⟨some 4, .mov (.c (.bool false)), none⟩])
 .ret)
 .skip))
 (.seq (.seq (.reg false [] [0, 1, 5] [⟨some 5, .mov (.c (.int .i64 0)), none⟩])
 (.block 0 (.loop (.seq (.seq (.reg false [] [0, 1, 5, 20] [⟨some 17, .mov (.t 5), none⟩, ⟨some 18, .mov (.t 1), none⟩, ⟨some 19, .len (.t 18), none⟩, ⟨some 20, .bin .lss (.t 17) (.t 19), none⟩])
 (.cond (.t 20) .skip
 (.exit 0)))
 (.seq (.block 1 (.seq (.reg false [] [0, 1, 5, 54] [⟨some 23, .mov (.t 1), none⟩, ⟨some 24, .mov (.t 5), none⟩, ⟨some 25, .iadS 2 (.t 23) (.t 24), none⟩, ⟨some 26, .iadA 2 1 (.t 25) (.c (.int .i64 0)), none⟩, ⟨some 27, .ld 1 false (.t 26), none⟩, ⟨some 28, .bin .lss (.t 27) (.c (.int .i64 0)), none⟩, ⟨some 29, .mov (.t 28), none⟩, ⟨some 30, .mov (.t 1), some (29, false)⟩, ⟨some 31, .mov (.t 5), some (29, false)⟩, ⟨some 32, .iadS 2 (.t 30) (.t 31), some (29, false)⟩, ⟨some 33, .iadA 2 1 (.t 32) (.c (.int .i64 0)), some (29, false)⟩, ⟨some 34, .ld 1 false (.t 33), some (29, false)⟩, ⟨some 35, .mov (.t 0), some (29, false)⟩, ⟨some 36, .bin .geq (.t 34) (.t 35), some (29, false)⟩, ⟨some 37, .pick (.t 29) (.c (.bool true)) (.t 36), none⟩, ⟨some 38, .mov (.t 37), none⟩, ⟨some 39, .mov (.t 1), some (38, false)⟩, ⟨some 40, .mov (.t 5), some (38, false)⟩, ⟨some 41, .iadS 2 (.t 39) (.t 40), some (38, false)⟩, ⟨some 42, .iadA 2 1 (.t 41) (.c (.int .i64 1)), some (38, false)⟩, ⟨some 43, .ld 1 false (.t 42), some (38, false)⟩, ⟨some 44, .bin .lss (.t 43) (.c (.int .i64 0)), some (38, false)⟩, ⟨some 45, .pick (.t 38) (.c (.bool true)) (.t 44), none⟩, ⟨some 46, .mov (.t 45), none⟩, ⟨some 47, .mov (.t 1), some (46, false)⟩, ⟨some 48, .mov (.t 5), some (46, false)⟩, ⟨some 49, .iadS 2 (.t 47) (.t 48), some (46, false)⟩, ⟨some 50, .iadA 2 1 (.t 49) (.c (.int .i64 1)), some (46, false)⟩, ⟨some 51, .ld 1 false (.t 50), some (46, false)⟩, ⟨some 52, .mov (.t 0), some (46, false)⟩, ⟨some 53, .bin .geq (.t 51) (.t 52), some (46, false)⟩, ⟨some 54, .pick (.t 46) (.c (.bool true)) (.t 53), none⟩])
 (.cond (.t 54) (.seq (.reg false [] [4] [⟨some 4, .mov (.c (.bool false)), none⟩])
 .ret)
 .skip)))
 (.reg false [] [0, 1, 5] [⟨some 21, .mov (.t 5), none⟩, ⟨some 22, .bin .add (.t 21) (.c (.int .i64 1)), none⟩, ⟨some 5, .mov (.t 22), none⟩]))))))
 (.seq (.reg false [] [4] [⟨some 4, .mov (.c (.bool true)), none⟩])
 .ret)))) }

/-- sewershed/sewershedref08.Order -/
def N490_ref08_Order : NFun := { np := 2, nt := 67, res := [(4, none), (5, none)], body :=
 (.seq (.reg false [] [0, 1] [⟨some 4, .mov (.c .nils), none⟩, ⟨some 5, .mov (.c (.bool false)), none⟩])
 (.seq (.reg false [] [0, 1, 6] [⟨some 12, .mov (.t 0), none⟩, ⟨some 13, .mks 1 1 [.bool false] (.t 12) (.t 12), none⟩, ⟨some 6, .asg (.t 13), none⟩])
 (.seq (.reg false [] [0, 1, 6, 7] [⟨some 7, .nilo 1, none⟩])
 (.seq (.block 0 (.loop (.seq (.seq (.reg false [] [0, 1, 6, 7, 17] [⟨some 14, .mov (.t 7), none⟩, ⟨some 15, .len (.t 14), none⟩, ⟨some 16, .mov (.t 0), none⟩, ⟨some 17, .bin .lss (.t 15) (.t 16), none⟩])
 (.cond (.t 17) .skip
 (.exit 0)))
 (.block 1 (.seq (.reg false [] [0, 1, 6, 7, 8] [⟨some 8, .mov (.c (.int .i64 (-1))), none⟩])
 (.seq (.seq (.reg false [] [0, 1, 6, 7, 8, 9] [⟨some 9, .mov (.c (.int .i64 0)), none⟩])
 (.block 2 (.loop (.seq (.seq (.reg false [] [0, 1, 6, 7, 8, 9, 24] [⟨some 18, .mov (.t 9), none⟩, ⟨some 19, .mov (.t 0), none⟩, ⟨some 20, .bin .lss (.t 18) (.t 19), none⟩, ⟨some 21, .mov (.t 20), none⟩, ⟨some 22, .mov (.t 8), some (21, true)⟩, ⟨some 23, .bin .lss (.t 22) (.c (.int .i64 0)), some (21, true)⟩, ⟨some 24, .pick (.t 21) (.t 23) (.c (.bool false)), none⟩])
 (.cond (.t 24) .skip
 (.exit 2)))
 (.seq (.block 3 (.seq (.seq (.reg false [] [0, 1, 6, 7, 8, 9, 30] [⟨some 27, .mov (.t 6), none⟩, ⟨some 28, .mov (.t 9), none⟩, ⟨some 29, .iadS 1 (.t 27) (.t 28), none⟩, ⟨some 30, .ld 1 false (.t 29), none⟩])
 (.cond (.t 30) (.exit 3)
 .skip))
 (.seq (.reg false [] [0, 1, 6, 7, 8, 9, 10] [⟨some 10, .mov (.c (.bool true)), none⟩])
 (.seq (.seq (.reg false [] [0, 1, 6, 7, 8, 9, 10, 11] [⟨some 11, .mov (.c (.int .i64 0)), none⟩])
 (.block 4 (.loop (.seq (.seq (.reg false [] [0, 1, 6, 7, 8, 9, 10, 11, 34] [⟨some 31, .mov (.t 11), none⟩, ⟨some 32, .mov (.t 1), none⟩, ⟨some 33, .len (.t 32), none⟩, ⟨some 34, .bin .lss (.t 31) (.t 33), none⟩])
 (.cond (.t 34) .skip
 (.exit 4)))
 (.seq (.block 5 (.seq (.reg false [] [0, 1, 6, 7, 8, 9, 10, 11, 54] [⟨some 37, .mov (.t 1), none⟩, ⟨some 38, .mov (.t 11), none⟩, ⟨some 39, .iadS 2 (.t 37) (.t 38), none⟩, ⟨some 40, .iadA 2 1 (.t 39) (.c (.int .i64 1)), none⟩, ⟨some 41, .ld 1 false (.t 40), none⟩, ⟨some 42, .mov (.t 9), none⟩, ⟨some 43, .bin .eql (.t 41) (.t 42), none⟩, ⟨some 44, .mov (.t 43), none⟩, ⟨some 45, .mov (.t 6), some (44, true)⟩, ⟨some 46, .mov (.t 1), some (44, true)⟩, ⟨some 47, .mov (.t 11), some (44, true)⟩, ⟨some 48, .iadS 2 (.t 46) (.t 47), some (44, true)⟩, ⟨some 49, .iadA 2 1 (.t 48) (.c (.int .i64 0)), some (44, true)⟩, ⟨some 50, .ld 1 false (.t 49), some (44, true)⟩, ⟨some 51, .iadS 1 (.t 45) (.t 50), some (44, true)⟩, ⟨some 52, .ld 1 false (.t 51), some (44, true)⟩, ⟨some 53, .un .not (.t 52), some (44, true)⟩, ⟨some 54, .pick (.t 44) (.t 53) (.c (.bool false)), none⟩])
 (.cond (.t 54) (.reg false [] [0, 1, 6, 7, 8, 9, 10, 11] [⟨some 10, .mov (.c (.bool false)), none⟩])
 .skip)))
 (.reg false [] [0, 1, 6, 7, 8, 9, 10, 11] [⟨some 35, .mov (.t 11), none⟩, ⟨some 36, .bin .add (.t 35) (.c (.int .i64 1)), none⟩, ⟨some 11, .mov (.t 36), none⟩]))))))
 (.seq (.reg false [] [0, 1, 6, 7, 8, 9, 55] [⟨some 55, .mov (.t 10), none⟩])
 (.cond (.t 55) (.reg false [] [0, 1, 6, 7, 8, 9] [⟨some 56, .mov (.t 9), none⟩, ⟨some 8, .mov (.t 56), none⟩])
 .skip))))))
 (.reg false [] [0, 1, 6, 7, 8, 9] [⟨some 25, .mov (.t 9), none⟩, ⟨some 26, .bin .add (.t 25) (.c (.int .i64 1)), none⟩, ⟨some 9, .mov (.t 26), none⟩]))))))
 (.seq (.seq (.reg false [] [0, 1, 6, 7, 8, 58] [⟨some 57, .mov (.t 8), none⟩, ⟨some 58, .bin .lss (.t 57) (.c (.int .i64 0)), none⟩])
 (.cond (.t 58) (.seq (.reg false [] [4, 5] [⟨some 4, .mov (.c .nils), none⟩, ⟨some 5, .mov (.c (.bool false)), none⟩])
 .ret)
 .skip))
 (.seq (.reg false [] [0, 1, 6, 7, 8] [⟨some 59, .mov (.t 6), none⟩, ⟨some 60, .mov (.t 8), none⟩, ⟨some 61, .iadS 1 (.t 59) (.t 60), none⟩, ⟨none, .st 1 [] (.t 61) (.c (.bool true)), none⟩])
 (.reg false [] [0, 1, 6, 7] [⟨some 62, .mov (.t 7), none⟩, ⟨some 63, .mov (.t 8), none⟩, ⟨some 64, .bls 1 1 [.int .i64 0] [] [(0, (.t 63))], none⟩, ⟨some 65, .app 1 8 false (.t 62) (.t 64), none⟩, ⟨some 7, .asg (.t 65), none⟩])))))))))
 (.seq (.reg false [] [4, 5] [⟨some 66, .asg (.t 7), none⟩, ⟨some 4, .asg (.t 66), none⟩, ⟨some 5, .mov (.c (.bool true)), none⟩])
 .ret))))) }

/-- slices.ContainsFunc[[]sewershed/api.Span,sewershed/api.Span] -/
def N491_slices_ContainsFunc__api_Span_api_Span : NFun := { np := 2, nt := 9, res := [(4, none)], body :=
 (.seq (.reg false [] [0, 1] [⟨some 4, .mov (.c (.bool false)), none⟩])
 (.seq (.reg false [] [4] [⟨some 5, .asg (.t 0), none⟩, ⟨some 6, .mov (.t 1), none⟩, ⟨some 7, .call 509 [(.t 5), (.t 6)] [], none⟩, ⟨some 8, .bin .geq (.t 7) (.c (.int .i64 0)), none⟩, ⟨some 4, .mov (.t 8), none⟩])
 .ret)) }

/-- sewershed/steady.spans$1 -/
def N492_steady_spans_1 : NFun := { np := 1, nt := 6, res := [(2, none)], body :=
 (.seq (.reg false [] [1] [⟨some 1, .boxF (.t 0), none⟩, ⟨some 2, .mov (.c (.bool false)), none⟩])
 (.seq (.reg false [] [2] [⟨some 3, .ld 2 true (.t 1), none⟩, ⟨some 4, .call 493 [(.t 3)] [], none⟩, ⟨some 5, .un .not (.t 4), none⟩, ⟨some 2, .mov (.t 5), none⟩])
 .ret)) }

/-- sewershed/span.Valid -/
def N493_span_Valid : NFun := { np := 1, nt := 18, res := [(2, none)], body :=
 (.seq (.reg false [] [1] [⟨some 1, .boxF (.t 0), none⟩, ⟨some 2, .mov (.c (.bool false)), none⟩])
 (.seq (.reg false [] [2] [⟨some 3, .fad 0 (.t 1), none⟩, ⟨some 4, .ld 1 false (.t 3), none⟩, ⟨some 5, .fad 1 (.t 1), none⟩, ⟨some 6, .ld 1 false (.t 5), none⟩, ⟨some 7, .bin .leq (.t 4) (.t 6), none⟩, ⟨some 8, .mov (.t 7), none⟩, ⟨some 9, .fad 0 (.t 1), some (8, true)⟩, ⟨some 10, .ld 1 false (.t 9), some (8, true)⟩, ⟨some 11, .call 510 [(.t 10)] [], some (8, true)⟩, ⟨some 12, .pick (.t 8) (.t 11) (.c (.bool false)), none⟩, ⟨some 13, .mov (.t 12), none⟩, ⟨some 14, .fad 1 (.t 1), some (13, true)⟩, ⟨some 15, .ld 1 false (.t 14), some (13, true)⟩, ⟨some 16, .call 510 [(.t 15)] [], some (13, true)⟩, ⟨some 17, .pick (.t 13) (.t 16) (.c (.bool false)), none⟩, ⟨some 2, .mov (.t 17), none⟩])
 .ret)) }

/-- sewershed/steady.spans$2 -/
def N494_steady_spans_2 : NFun := { np := 1, nt := 11, res := [(2, none)], body :=
 (.seq (.reg false [] [1] [⟨some 1, .boxF (.t 0), none⟩, ⟨some 2, .mov (.c (.bool false)), none⟩])
 (.seq (.reg false [] [2] [⟨some 3, .fad 0 (.t 1), none⟩, ⟨some 4, .ld 1 false (.t 3), none⟩, ⟨some 5, .bin .lss (.t 4) (.c (.int .i64 0)), none⟩, ⟨some 6, .mov (.t 5), none⟩, ⟨some 7, .fad 1 (.t 1), some (6, false)⟩, ⟨some 8, .ld 1 false (.t 7), some (6, false)⟩, ⟨some 9, .bin .gtr (.t 8) (.c (.int .i64 1099511627776)), some (6, false)⟩, ⟨some 10, .pick (.t 6) (.c (.bool true)) (.t 9), none⟩, ⟨some 2, .mov (.t 10), none⟩])
 .ret)) }

/-- sewershed/network.Order -/
def N495_network_Order : NFun := { np := 1, nt := 15, res := [(2, none), (3, none)], body :=
 (.seq (.reg false [] [1] [⟨some 1, .boxF (.t 0), none⟩, ⟨some 2, .mov (.c .nils), none⟩, ⟨some 3, .mov (.c (.int .i64 0)), none⟩])
 (.seq (.seq (.reg false [] [1, 6] [⟨some 4, .ld 2 true (.t 1), none⟩, ⟨some 5, .call 164 [(.t 4)] [], none⟩, ⟨some 6, .un .not (.t 5), none⟩])
 (.cond (.t 6) (.seq (.reg false [] [2, 3] [⟨some 2, .mov (.c .nils), none⟩, ⟨some 3, .mov (.c (.int .i64 1)), none⟩])
 .ret)
 .skip))
 (.seq (.reg true [0, 1, 3, 0, 8, 31, 63, 63, 255, 511] [2, 3] [⟨some 7, .fad 0 (.t 1), none⟩, ⟨some 8, .ld 1 false (.t 7), none⟩, ⟨some 9, .len (.t 8), none⟩, ⟨some 10, .ld 2 true (.t 1), none⟩, ⟨some 11, .call 499 [(.t 10)] [], none⟩, ⟨some 12, .call 511 [(.t 9), (.t 11)] [], none⟩, ⟨some 13, .ext 0 (.t 12), none⟩, ⟨some 14, .ext 1 (.t 12), none⟩, ⟨some 2, .asg (.t 13), none⟩, ⟨some 3, .mov (.t 14), none⟩])
 .ret))) }

/-- slices.Clone[[]sewershed/api.Span,sewershed/api.Span] -/
def N496_slices_Clone__api_Span_api_Span : NFun := { np := 1, nt := 8, res := [(2, none)], body :=
 (.seq (.reg false [] [0] [⟨some 2, .mov (.c .nils), none⟩])
 (.seq (.seq (.reg false [] [0, 4] [⟨some 3, .mov (.t 0), none⟩, ⟨some 4, .beq false [9] (.t 3) (.c .nils), none⟩])
 (.cond (.t 4) (.seq (.reg false [] [2] [⟨some 2, .mov (.c .nils), none⟩])
 .ret)
 .skip))
 (.seq (.reg false [] [2] [⟨some 5, .bls 2 0 [.int .i64 0, .int .i64 0] [] [], none⟩, ⟨some 6, .asg (.t 0), none⟩, ⟨some 7, .app 2 16 false (.t 5) (.t 6), none⟩, ⟨some 2, .asg (.t 7), none⟩])
 .ret))) }

/-- sewershed/steady.flows$1 -/
def N497_steady_flows_1 : NFun := { np := 1, nt := 6, res := [(2, none)], body :=
 (.seq (.reg false [] [1] [⟨some 1, .boxF (.t 0), none⟩, ⟨some 2, .mov (.c (.bool false)), none⟩])
 (.seq (.reg false [] [2] [⟨some 3, .fad 1 (.t 1), none⟩, ⟨some 4, .ld 1 false (.t 3), none⟩, ⟨some 5, .bin .gtr (.t 4) (.c (.int .i64 1099511627776)), none⟩, ⟨some 2, .mov (.t 5), none⟩])
 .ret)) }

/-- sewershed/network.edges -/
def N499_network_edges : NFun := { np := 1, nt := 27, res := [(2, none)], body :=
 (.seq (.reg false [] [1] [⟨some 1, .boxF (.t 0), none⟩, ⟨some 2, .mov (.c .nils), none⟩])
 (.seq (.reg false [] [1, 3] [⟨some 3, .nilo 2, none⟩])
 (.seq (.seq (.reg false [] [1, 3, 7, 8, 9] [⟨some 6, .fad 1 (.t 1), none⟩, ⟨some 7, .ld 1 false (.t 6), none⟩, ⟨some 8, .len (.t 7), none⟩, ⟨some 9, .mov (.c (.int .i64 0)), none⟩])
 (.block 0 (.loop (.seq (.reg false [] [1, 3, 7, 8, 9, 10] [⟨some 10, .bin .lss (.t 9) (.t 8), none⟩])
 (.seq (.cond (.t 10) .skip
 (.exit 0))
 (.seq (.block 1 (.seq (.reg false [] [1, 3, 5, 7, 8, 9] [⟨some 11, .iadS 11 (.t 7) (.t 9), none⟩, ⟨some 12, .ld 11 true (.t 11), none⟩, ⟨some 5, .alc [.str [], .str [], .str [], .int .i64 0, .int .i64 0, .int .i64 0, .int .i64 0, .str [], .int .i64 0, .int .i64 0, .own 2 []], none⟩, ⟨none, .st 11 [] (.t 5) (.t 12), none⟩])
 (.reg true [0, 0, 0, 4, 14, 0, 0, 64, 254, 510, 1022, 2047, 4095] [1, 3, 7, 8, 9] [⟨some 13, .mov (.t 3), none⟩, ⟨some 14, .ld 2 true (.t 1), none⟩, ⟨some 15, .fad 1 (.t 5), none⟩, ⟨some 16, .ld 1 false (.t 15), none⟩, ⟨some 17, .call 169 [(.t 14), (.t 16)] [], none⟩, ⟨some 18, .ld 2 true (.t 1), none⟩, ⟨some 19, .fad 2 (.t 5), none⟩, ⟨some 20, .ld 1 false (.t 19), none⟩, ⟨some 21, .call 169 [(.t 18), (.t 20)] [], none⟩, ⟨some 22, .bld [.int .i64 0, .int .i64 0] [(0, 1, (.t 17)), (1, 1, (.t 21))], none⟩, ⟨some 23, .bls 2 1 [.int .i64 0, .int .i64 0] [] [(0, (.t 22))], none⟩, ⟨some 24, .app 2 16 false (.t 13) (.t 23), none⟩, ⟨some 3, .asg (.t 24), none⟩])))
 (.reg false [] [1, 3, 7, 8, 9] [⟨some 25, .bin .add (.t 9) (.c (.int .i64 1)), none⟩, ⟨some 9, .mov (.t 25), none⟩])))))))
 (.seq (.reg false [] [2] [⟨some 26, .asg (.t 3), none⟩, ⟨some 2, .asg (.t 26), none⟩])
 .ret)))) }

/-- sewershed/sewershedref04.Valid -/
def N501_ref04_Valid : NFun := { np := 1, nt := 18, res := [(2, none)], body :=
 (.seq (.reg false [] [1] [⟨some 1, .boxF (.t 0), none⟩, ⟨some 2, .mov (.c (.bool false)), none⟩])
 (.seq (.reg false [] [2] [⟨some 3, .fad 0 (.t 1), none⟩, ⟨some 4, .ld 1 false (.t 3), none⟩, ⟨some 5, .fad 1 (.t 1), none⟩, ⟨some 6, .ld 1 false (.t 5), none⟩, ⟨some 7, .bin .leq (.t 4) (.t 6), none⟩, ⟨some 8, .mov (.t 7), none⟩, ⟨some 9, .fad 0 (.t 1), some (8, true)⟩, ⟨some 10, .ld 1 false (.t 9), some (8, true)⟩, ⟨some 11, .bin .geq (.t 10) (.c (.int .i64 (-72057594037927936))), some (8, true)⟩, ⟨some 12, .pick (.t 8) (.t 11) (.c (.bool false)), none⟩, ⟨some 13, .mov (.t 12), none⟩, ⟨some 14, .fad 1 (.t 1), some (13, true)⟩, ⟨some 15, .ld 1 false (.t 14), some (13, true)⟩, ⟨some 16, .bin .leq (.t 15) (.c (.int .i64 72057594037927936)), some (13, true)⟩, ⟨some 17, .pick (.t 13) (.t 16) (.c (.bool false)), none⟩, ⟨some 2, .mov (.t 17), none⟩])
 .ret)) }

/-- sewershed/digraph.Valid -/
def N503_digraph_Valid : NFun := { np := 2, nt := 20, res := [(4, none)], body :=
 (.seq (.reg false [] [1, 2] [⟨some 2, .boxF (.t 0), none⟩, ⟨some 4, .mov (.c (.bool false)), none⟩])
 (.seq (.seq (.reg false [] [1, 2, 15] [⟨some 5, .ld 1 false (.t 2), none⟩, ⟨some 6, .bin .lss (.t 5) (.c (.int .i64 0)), none⟩, ⟨some 7, .mov (.t 6), none⟩, ⟨some 8, .ld 1 false (.t 2), some (7, false)⟩, ⟨some 9, .bin .gtr (.t 8) (.c (.int .i64 300)), some (7, false)⟩, ⟨some 10, .pick (.t 7) (.c (.bool true)) (.t 9), none⟩, ⟨some 11, .mov (.t 10), none⟩, ⟨some 12, .mov (.t 1), some (11, false)⟩, ⟨some 13, .len (.t 12), some (11, false)⟩, ⟨some 14, .bin .gtr (.t 13) (.c (.int .i64 1000)), some (11, false)⟩, ⟨some 15, .pick (.t 11) (.c (.bool true)) (.t 14), none⟩])
 (.cond (.t 15) (.seq (.reg false [] [4] [⟨some 4, .mov (.c (.bool false)), none⟩])
 .ret)
 .skip))
 (.seq (.reg false [] [4] [⟨some 16, .asg (.t 1), none⟩, ⟨some 17, .mk 515 [(.t 2)], none⟩, ⟨some 18, .call 514 [(.t 16), (.t 17)] [], none⟩, ⟨some 19, .un .not (.t 18), none⟩, ⟨some 4, .mov (.t 19), none⟩])
 .ret))) }

/-- sewershed/digraph.order -/
def N504_digraph_order : NFun := { np := 2, nt := 104, res := [(4, none)], body :=
 (.seq (.reg false [] [0, 1] [⟨some 4, .mov (.c .nils), none⟩])
 (.seq (.reg false [] [0, 5] [⟨some 20, .mov (.t 0), none⟩, ⟨some 21, .asg (.t 1), none⟩, ⟨some 22, .call 517 [(.t 20), (.t 21)] [], none⟩, ⟨some 5, .asg (.t 22), none⟩])
 (.seq (.reg false [] [5, 6] [⟨some 23, .mov (.t 0), none⟩, ⟨some 24, .mks 1 8 [.int .i64 0] (.t 23) (.t 23), none⟩, ⟨some 6, .asg (.t 24), none⟩])
 (.seq (.seq (.reg false [] [5, 6, 25, 26, 27] [⟨some 25, .mov (.t 5), none⟩, ⟨some 26, .len (.t 25), none⟩, ⟨some 27, .mov (.c (.int .i64 0)), none⟩])
 (.block 0 (.loop (.seq (.reg false [] [5, 6, 25, 26, 27, 28] [⟨some 28, .bin .lss (.t 27) (.t 26), none⟩])
 (.seq (.cond (.t 28) .skip
 (.exit 0))
 (.seq (.block 1 (.seq (.reg false [] [5, 6, 8, 25, 26, 27] [⟨some 29, .iadS 1 (.t 25) (.t 27), none⟩, ⟨some 30, .ld 1 false (.t 29), none⟩, ⟨some 8, .asg (.t 30), none⟩])
 (.seq (.reg false [] [5, 6, 25, 26, 27, 31, 32, 33] [⟨some 31, .asg (.t 8), none⟩, ⟨some 32, .len (.t 31), none⟩, ⟨some 33, .mov (.c (.int .i64 0)), none⟩])
 (.block 2 (.loop (.seq (.reg false [] [5, 6, 25, 26, 27, 31, 32, 33, 34] [⟨some 34, .bin .lss (.t 33) (.t 32), none⟩])
 (.seq (.cond (.t 34) .skip
 (.exit 2))
 (.seq (.block 3 (.seq (.reg false [] [5, 6, 10, 25, 26, 27, 31, 32, 33] [⟨some 35, .iadS 1 (.t 31) (.t 33), none⟩, ⟨some 36, .ld 1 false (.t 35), none⟩, ⟨some 10, .mov (.t 36), none⟩])
 (.reg false [] [5, 6, 25, 26, 27, 31, 32, 33] [⟨some 37, .mov (.t 6), none⟩, ⟨some 38, .mov (.t 10), none⟩, ⟨some 39, .iadS 1 (.t 37) (.t 38), none⟩, ⟨some 40, .ld 1 false (.t 39), none⟩, ⟨some 41, .bin .add (.t 40) (.c (.int .i64 1)), none⟩, ⟨some 42, .iadS 1 (.t 37) (.t 38), none⟩, ⟨none, .st 1 [] (.t 42) (.t 41), none⟩])))
 (.reg false [] [5, 6, 25, 26, 27, 31, 32, 33] [⟨some 43, .bin .add (.t 33) (.c (.int .i64 1)), none⟩, ⟨some 33, .mov (.t 43), none⟩])))))))))
 (.reg false [] [5, 6, 25, 26, 27] [⟨some 44, .bin .add (.t 27) (.c (.int .i64 1)), none⟩, ⟨some 27, .mov (.t 44), none⟩])))))))
 (.seq (.reg false [] [5, 6, 11, 12] [⟨some 11, .nilo 1, none⟩, ⟨some 12, .nilo 1, none⟩])
 (.seq (.seq (.reg false [] [5, 6, 11, 12, 45, 46, 47] [⟨some 45, .mov (.t 6), none⟩, ⟨some 46, .len (.t 45), none⟩, ⟨some 47, .mov (.c (.int .i64 0)), none⟩])
 (.block 4 (.loop (.seq (.reg false [] [5, 6, 11, 12, 45, 46, 47, 48] [⟨some 48, .bin .lss (.t 47) (.t 46), none⟩])
 (.seq (.cond (.t 48) .skip
 (.exit 4))
 (.seq (.block 5 (.seq (.reg false [] [5, 6, 11, 12, 13, 14, 45, 46, 47] [⟨some 49, .mov (.t 47), none⟩, ⟨some 50, .iadS 1 (.t 45) (.t 47), none⟩, ⟨some 51, .ld 1 false (.t 50), none⟩, ⟨some 13, .mov (.t 49), none⟩, ⟨some 14, .mov (.t 51), none⟩])
 (.seq (.reg false [] [5, 6, 11, 12, 13, 45, 46, 47, 53] [⟨some 52, .mov (.t 14), none⟩, ⟨some 53, .bin .eql (.t 52) (.c (.int .i64 0)), none⟩])
 (.cond (.t 53) (.reg false [] [5, 6, 11, 12, 45, 46, 47] [⟨some 54, .mov (.t 11), none⟩, ⟨some 55, .mov (.t 13), none⟩, ⟨some 56, .bls 1 1 [.int .i64 0] [] [(0, (.t 55))], none⟩, ⟨some 57, .app 1 8 false (.t 54) (.t 56), none⟩, ⟨some 11, .asg (.t 57), none⟩])
 .skip))))
 (.reg false [] [5, 6, 11, 12, 45, 46, 47] [⟨some 58, .bin .add (.t 47) (.c (.int .i64 1)), none⟩, ⟨some 47, .mov (.t 58), none⟩])))))))
 (.seq (.block 6 (.loop (.seq (.seq (.reg false [] [5, 6, 11, 12, 61] [⟨some 59, .mov (.t 11), none⟩, ⟨some 60, .len (.t 59), none⟩, ⟨some 61, .bin .gtr (.t 60) (.c (.int .i64 0)), none⟩])
 (.cond (.t 61) .skip
 (.exit 6)))
 (.block 7 (.seq (.reg false [] [5, 6, 11, 12, 15] [⟨some 62, .mov (.t 11), none⟩, ⟨some 63, .iadS 1 (.t 62) (.c (.int .i64 0)), none⟩, ⟨some 64, .ld 1 false (.t 63), none⟩, ⟨some 15, .mov (.t 64), none⟩])
 (.seq (.reg false [] [5, 6, 11, 12, 15] [⟨some 65, .mov (.t 11), none⟩, ⟨some 66, .slc 1 (.t 65) (some (.c (.int .i64 1))) none, none⟩, ⟨some 11, .asg (.t 66), none⟩])
 (.seq (.reg false [] [5, 6, 11, 12, 15] [⟨some 67, .mov (.t 12), none⟩, ⟨some 68, .mov (.t 15), none⟩, ⟨some 69, .bls 1 1 [.int .i64 0] [] [(0, (.t 68))], none⟩, ⟨some 70, .app 1 8 false (.t 67) (.t 69), none⟩, ⟨some 12, .asg (.t 70), none⟩])
 (.seq (.reg false [] [5, 6, 11, 12, 74, 75, 76] [⟨some 71, .mov (.t 5), none⟩, ⟨some 72, .mov (.t 15), none⟩, ⟨some 73, .iadS 1 (.t 71) (.t 72), none⟩, ⟨some 74, .ld 1 false (.t 73), none⟩, ⟨some 75, .len (.t 74), none⟩, ⟨some 76, .mov (.c (.int .i64 0)), none⟩])
 (.block 8 (.loop (.seq (.reg false [] [5, 6, 11, 12, 74, 75, 76, 77] [⟨some 77, .bin .lss (.t 76) (.t 75), none⟩])
 (.seq (.cond (.t 77) .skip
 (.exit 8))
 (.seq (.block 9 (.seq (.reg false [] [5, 6, 11, 12, 17, 74, 75, 76] [⟨some 78, .iadS 1 (.t 74) (.t 76), none⟩, ⟨some 79, .ld 1 false (.t 78), none⟩, ⟨some 17, .mov (.t 79), none⟩])
 (.seq (.reg false [] [5, 6, 11, 12, 17, 74, 75, 76] [⟨some 80, .mov (.t 6), none⟩, ⟨some 81, .mov (.t 17), none⟩, ⟨some 82, .iadS 1 (.t 80) (.t 81), none⟩, ⟨some 83, .ld 1 false (.t 82), none⟩, ⟨some 84, .bin .sub (.t 83) (.c (.int .i64 1)), none⟩, ⟨some 85, .iadS 1 (.t 80) (.t 81), none⟩, ⟨none, .st 1 [] (.t 85) (.t 84), none⟩])
 (.seq (.reg false [] [5, 6, 11, 12, 17, 74, 75, 76, 90] [⟨some 86, .mov (.t 6), none⟩, ⟨some 87, .mov (.t 17), none⟩, ⟨some 88, .iadS 1 (.t 86) (.t 87), none⟩, ⟨some 89, .ld 1 false (.t 88), none⟩, ⟨some 90, .bin .eql (.t 89) (.c (.int .i64 0)), none⟩])
 (.cond (.t 90) (.seq (.reg false [] [5, 6, 11, 12, 17, 18, 74, 75, 76] [⟨some 92, .mov (.t 11), none⟩, ⟨some 93, .mov (.t 17), none⟩, ⟨some 94, .call 518 [(.t 92), (.t 93)] [], none⟩, ⟨some 91, .mov (.t 94), none⟩, ⟨some 95, .ext 0 (.t 91), none⟩, ⟨some 96, .ext 1 (.t 91), none⟩, ⟨some 18, .mov (.t 95), none⟩, ⟨some 19, .mov (.t 96), none⟩])
 (.reg false [] [5, 6, 11, 12, 74, 75, 76] [⟨some 97, .mov (.t 11), none⟩, ⟨some 98, .mov (.t 18), none⟩, ⟨some 99, .mov (.t 17), none⟩, ⟨some 100, .bls 1 1 [.int .i64 0] [] [(0, (.t 99))], none⟩, ⟨some 101, .callE 519 (.t 97) [(.t 98), (.t 100)], none⟩, ⟨some 11, .asg (.t 101), none⟩]))
 .skip)))))
 (.reg false [] [5, 6, 11, 12, 74, 75, 76] [⟨some 102, .bin .add (.t 76) (.c (.int .i64 1)), none⟩, ⟨some 76, .mov (.t 102), none⟩]))))))))))))))
 (.seq (.reg false [] [4] [⟨some 103, .asg (.t 12), none⟩, ⟨some 4, .asg (.t 103), none⟩])
 .ret)))))))) }

/-- sewershed/steady.sections$1 -/
def N506_steady_sections_1 : NFun := { np := 1, nt := 8, res := [(2, none)], body :=
 (.seq (.reg false [] [1] [⟨some 1, .boxF (.t 0), none⟩, ⟨some 2, .mov (.c (.bool false)), none⟩])
 (.seq (.reg false [] [2] [⟨some 3, .fad 5 (.t 1), none⟩, ⟨some 4, .ld 1 false (.t 3), none⟩, ⟨some 5, .fad 6 (.t 1), none⟩, ⟨some 6, .ld 1 false (.t 5), none⟩, ⟨some 7, .bin .lss (.t 4) (.t 6), none⟩, ⟨some 2, .mov (.t 7), none⟩])
 .ret)) }

/-- sewershed/sewershedref26.position -/
def N507_ref26_position : NFun := { np := 1, nt := 9, res := [(2, none)], body :=
 (.seq (.reg false [] [0] [⟨some 2, .mov (.c (.bool false)), none⟩])
 (.seq (.reg false [] [2] [⟨some 3, .mov (.t 0), none⟩, ⟨some 4, .bin .geq (.t 3) (.c (.int .i64 (-16777216))), none⟩, ⟨some 5, .mov (.t 4), none⟩, ⟨some 6, .mov (.t 0), some (5, true)⟩, ⟨some 7, .bin .leq (.t 6) (.c (.int .i64 16777216)), some (5, true)⟩, ⟨some 8, .pick (.t 5) (.t 7) (.c (.bool false)), none⟩, ⟨some 2, .mov (.t 8), none⟩])
 .ret)) }

/-- sewershed/sewershedref26.shape -/
def N508_ref26_shape : NFun := { np := 2, nt := 38, res := [(4, none)], body :=
 (.seq (.reg false [] [0, 1] [⟨some 4, .mov (.c (.bool false)), none⟩])
 (.seq (.seq (.reg false [] [0, 1, 8] [⟨some 6, .mov (.t 0), none⟩, ⟨some 7, .call 64 [(.t 6)] [], none⟩, ⟨some 8, .un .not (.t 7), none⟩])
 (.cond (.t 8) (.seq (.reg false [] [4] [⟨some 4, .mov (.c (.bool false)), none⟩])
 .ret)
 .skip))
 (.seq (.reg false [] [0, 1, 5] [⟨some 9, .mov (.t 0), none⟩, ⟨some 10, .mov (.t 0), none⟩, ⟨some 11, .len (.t 10), none⟩, ⟨some 12, .bin .sub (.t 11) (.c (.int .i64 1)), none⟩, ⟨some 13, .iadS 2 (.t 9) (.t 12), none⟩, ⟨some 14, .ld 2 true (.t 13), none⟩, ⟨some 5, .alc [.int .i64 0, .int .i64 0], none⟩, ⟨none, .st 2 [] (.t 5) (.t 14), none⟩])
 (.seq (.reg false [] [4] [⟨some 15, .mov (.t 0), none⟩, ⟨some 16, .iadS 2 (.t 15) (.c (.int .i64 0)), none⟩, ⟨some 17, .fad 0 (.t 16), none⟩, ⟨some 18, .ld 1 false (.t 17), none⟩, ⟨some 19, .bin .eql (.t 18) (.c (.int .i64 0)), none⟩, ⟨some 20, .mov (.t 19), none⟩, ⟨some 21, .asg (.t 0), some (20, true)⟩, ⟨some 22, .iadS 2 (.t 21) (.c (.int .i64 0)), some (20, true)⟩, ⟨some 23, .fad 1 (.t 22), some (20, true)⟩, ⟨some 24, .ld 1 false (.t 23), some (20, true)⟩, ⟨some 25, .bin .eql (.t 24) (.c (.int .i64 0)), some (20, true)⟩, ⟨some 26, .pick (.t 20) (.t 25) (.c (.bool false)), none⟩, ⟨some 27, .mov (.t 26), none⟩, ⟨some 28, .fad 0 (.t 5), some (27, true)⟩, ⟨some 29, .ld 1 false (.t 28), some (27, true)⟩, ⟨some 30, .mov (.t 1), some (27, true)⟩, ⟨some 31, .bin .eql (.t 29) (.t 30), some (27, true)⟩, ⟨some 32, .pick (.t 27) (.t 31) (.c (.bool false)), none⟩, ⟨some 33, .mov (.t 32), none⟩, ⟨some 34, .fad 1 (.t 5), some (33, true)⟩, ⟨some 35, .ld 1 false (.t 34), some (33, true)⟩, ⟨some 36, .bin .leq (.t 35) (.c (.int .i64 1125899906842624)), some (33, true)⟩, ⟨some 37, .pick (.t 33) (.t 36) (.c (.bool false)), none⟩, ⟨some 4, .mov (.t 37), none⟩])
 .ret)))) }

/-- slices.IndexFunc[[]sewershed/api.Span,sewershed/api.Span] -/
def N509_slices_IndexFunc__api_Span_api_Span : NFun := { np := 2, nt := 19, res := [(4, none)], body :=
 (.seq (.reg false [] [0, 1] [⟨some 4, .mov (.c (.int .i64 0)), none⟩])
 (.seq (.seq (.reg false [] [0, 1, 7, 8] [⟨some 6, .mov (.t 0), none⟩, ⟨some 7, .len (.t 6), none⟩, ⟨some 8, .mov (.c (.int .i64 0)), none⟩])
 (.block 0 (.loop (.seq (.reg false [] [0, 1, 7, 8, 9] [⟨some 9, .bin .lss (.t 8) (.t 7), none⟩])
 (.seq (.cond (.t 9) .skip
 (.exit 0))
 (.seq (.block 1 (.seq (.reg false [] [0, 1, 5, 7, 8] [⟨some 10, .mov (.t 8), none⟩, ⟨some 5, .mov (.t 10), none⟩])
 (.seq (.reg false [] [0, 1, 5, 7, 8, 16] [⟨some 11, .mov (.t 1), none⟩, ⟨some 12, .mov (.t 0), none⟩, ⟨some 13, .mov (.t 5), none⟩, ⟨some 14, .iadS 2 (.t 12) (.t 13), none⟩, ⟨some 15, .ld 2 true (.t 14), none⟩, ⟨some 16, .callv (.t 11) [(.t 15)], none⟩])
 (.cond (.t 16) (.seq (.reg false [] [4] [⟨some 17, .mov (.t 5), none⟩, ⟨some 4, .mov (.t 17), none⟩])
 .ret)
 .skip))))
 (.reg false [] [0, 1, 7, 8] [⟨some 18, .bin .add (.t 8) (.c (.int .i64 1)), none⟩, ⟨some 8, .mov (.t 18), none⟩])))))))
 (.seq (.reg false [] [4] [⟨some 4, .mov (.c (.int .i64 (-1))), none⟩])
 .ret))) }

/-- sewershed/span.fits -/
def N510_span_fits : NFun := { np := 1, nt := 9, res := [(2, none)], body :=
 (.seq (.reg false [] [0] [⟨some 2, .mov (.c (.bool false)), none⟩])
 (.seq (.reg false [] [2] [⟨some 3, .mov (.t 0), none⟩, ⟨some 4, .bin .geq (.t 3) (.c (.int .i64 (-72057594037927936))), none⟩, ⟨some 5, .mov (.t 4), none⟩, ⟨some 6, .mov (.t 0), some (5, true)⟩, ⟨some 7, .bin .leq (.t 6) (.c (.int .i64 72057594037927936)), some (5, true)⟩, ⟨some 8, .pick (.t 5) (.t 7) (.c (.bool false)), none⟩, ⟨some 2, .mov (.t 8), none⟩])
 .ret)) }

/-- sewershed/digraph.Order -/
def N511_digraph_Order : NFun := { np := 2, nt := 19, res := [(4, none), (5, none)], body :=
 (.seq (.reg false [] [0, 1] [⟨some 4, .mov (.c .nils), none⟩, ⟨some 5, .mov (.c (.int .i64 0)), none⟩])
 (.seq (.seq (.reg false [] [0, 1, 10] [⟨some 7, .mov (.t 0), none⟩, ⟨some 8, .mov (.t 1), none⟩, ⟨some 9, .call 503 [(.t 7), (.t 8)] [], none⟩, ⟨some 10, .un .not (.t 9), none⟩])
 (.cond (.t 10) (.seq (.reg false [] [4, 5] [⟨some 4, .mov (.c .nils), none⟩, ⟨some 5, .mov (.c (.int .i64 1)), none⟩])
 .ret)
 .skip))
 (.seq (.reg false [] [0, 6] [⟨some 11, .mov (.t 0), none⟩, ⟨some 12, .asg (.t 1), none⟩, ⟨some 13, .call 504 [(.t 11), (.t 12)] [], none⟩, ⟨some 6, .asg (.t 13), none⟩])
 (.seq (.seq (.reg false [] [6, 17] [⟨some 14, .mov (.t 6), none⟩, ⟨some 15, .len (.t 14), none⟩, ⟨some 16, .mov (.t 0), none⟩, ⟨some 17, .bin .lss (.t 15) (.t 16), none⟩])
 (.cond (.t 17) (.seq (.reg false [] [4, 5] [⟨some 4, .mov (.c .nils), none⟩, ⟨some 5, .mov (.c (.int .i64 22)), none⟩])
 .ret)
 .skip))
 (.seq (.reg false [] [4, 5] [⟨some 18, .asg (.t 6), none⟩, ⟨some 4, .asg (.t 18), none⟩, ⟨some 5, .mov (.c (.int .i64 0)), none⟩])
 .ret))))) }

/-- slices.ContainsFunc[[][2]int,[2]int] -/
def N514_slices_ContainsFunc___2int__2int : NFun := { np := 2, nt := 9, res := [(4, none)], body :=
 (.seq (.reg false [] [0, 1] [⟨some 4, .mov (.c (.bool false)), none⟩])
 (.seq (.reg false [] [4] [⟨some 5, .asg (.t 0), none⟩, ⟨some 6, .mov (.t 1), none⟩, ⟨some 7, .call 522 [(.t 5), (.t 6)] [], none⟩, ⟨some 8, .bin .geq (.t 7) (.c (.int .i64 0)), none⟩, ⟨some 4, .mov (.t 8), none⟩])
 .ret)) }

/-- sewershed/digraph.Valid$1 -/
def N515_digraph_Valid_1 : NFun := { np := 2, nt := 16, res := [(3, none)], body :=
 (.seq (.reg false [] [1, 2] [⟨some 2, .boxF (.t 0), none⟩, ⟨some 3, .mov (.c (.bool false)), none⟩])
 (.seq (.reg false [] [3] [⟨some 4, .ld 1 false (.t 1), none⟩, ⟨some 5, .iadA 2 1 (.t 2) (.c (.int .i64 0)), none⟩, ⟨some 6, .ld 1 false (.t 5), none⟩, ⟨some 7, .call 516 [(.t 4), (.t 6)] [], none⟩, ⟨some 8, .un .not (.t 7), none⟩, ⟨some 9, .mov (.t 8), none⟩, ⟨some 10, .ld 1 false (.t 1), some (9, false)⟩, ⟨some 11, .iadA 2 1 (.t 2) (.c (.int .i64 1)), some (9, false)⟩, ⟨some 12, .ld 1 false (.t 11), some (9, false)⟩, ⟨some 13, .call 516 [(.t 10), (.t 12)] [], some (9, false)⟩, ⟨some 14, .un .not (.t 13), some (9, false)⟩, ⟨some 15, .pick (.t 9) (.c (.bool true)) (.t 14), none⟩, ⟨some 3, .mov (.t 15), none⟩])
 .ret)) }

/-- sewershed/digraph.is -/
def N516_digraph_is : NFun := { np := 2, nt := 12, res := [(4, none)], body :=
 (.seq (.reg false [] [0, 1] [⟨some 4, .mov (.c (.bool false)), none⟩])
 (.seq (.reg false [] [4] [⟨some 5, .mov (.t 1), none⟩, ⟨some 6, .bin .geq (.t 5) (.c (.int .i64 0)), none⟩, ⟨some 7, .mov (.t 6), none⟩, ⟨some 8, .mov (.t 1), some (7, true)⟩, ⟨some 9, .mov (.t 0), some (7, true)⟩, ⟨some 10, .bin .lss (.t 8) (.t 9), some (7, true)⟩, ⟨some 11, .pick (.t 7) (.t 10) (.c (.bool false)), none⟩, ⟨some 4, .mov (.t 11), none⟩])
 .ret)) }

/-- sewershed/digraph.next -/
def N517_digraph_next : NFun := { np := 2, nt := 51, res := [(4, none)], body :=
 (.seq (.reg false [] [0, 1] [⟨some 4, .mov (.c .nils), none⟩])
 (.seq (.reg false [] [1, 5] [⟨some 9, .mov (.t 0), none⟩, ⟨some 10, .mks 1 24 [.own 1 []] (.t 9) (.t 9), none⟩, ⟨some 5, .asg (.t 10), none⟩])
 (.seq (.seq (.reg false [] [5, 11, 12, 13] [⟨some 11, .asg (.t 1), none⟩, ⟨some 12, .len (.t 11), none⟩, ⟨some 13, .mov (.c (.int .i64 0)), none⟩])
 (.block 0 (.loop (.seq (.reg false [] [5, 11, 12, 13, 14] [⟨some 14, .bin .lss (.t 13) (.t 12), none⟩])
 (.seq (.cond (.t 14) .skip
 (.exit 0))
 (.seq (.block 1 (.seq (.reg false [] [5, 7, 11, 12, 13] [⟨some 15, .iadS 2 (.t 11) (.t 13), none⟩, ⟨some 16, .ld 2 true (.t 15), none⟩, ⟨some 7, .alc [.int .i64 0, .int .i64 0], none⟩, ⟨none, .st 2 [] (.t 7) (.t 16), none⟩])
 (.reg true [0, 0, 2, 0, 0, 16, 56, 120, 0, 256, 768, 2040, 4095, 8191] [5, 11, 12, 13] [⟨some 17, .mov (.t 5), none⟩, ⟨some 18, .iadA 2 1 (.t 7) (.c (.int .i64 0)), none⟩, ⟨some 19, .ld 1 false (.t 18), none⟩, ⟨some 20, .mov (.t 5), none⟩, ⟨some 21, .iadA 2 1 (.t 7) (.c (.int .i64 0)), none⟩, ⟨some 22, .ld 1 false (.t 21), none⟩, ⟨some 23, .iadS 1 (.t 20) (.t 22), none⟩, ⟨some 24, .ld 1 false (.t 23), none⟩, ⟨some 25, .iadA 2 1 (.t 7) (.c (.int .i64 1)), none⟩, ⟨some 26, .ld 1 false (.t 25), none⟩, ⟨some 27, .bls 1 1 [.int .i64 0] [] [(0, (.t 26))], none⟩, ⟨some 28, .app 1 8 false (.t 24) (.t 27), none⟩, ⟨some 29, .iadS 1 (.t 17) (.t 19), none⟩, ⟨none, .st 1 [] (.t 29) (.t 28), none⟩])))
 (.reg false [] [5, 11, 12, 13] [⟨some 30, .bin .add (.t 13) (.c (.int .i64 1)), none⟩, ⟨some 13, .mov (.t 30), none⟩])))))))
 (.seq (.seq (.reg false [] [5, 32, 33] [⟨some 31, .mov (.t 5), none⟩, ⟨some 32, .len (.t 31), none⟩, ⟨some 33, .mov (.c (.int .i64 0)), none⟩])
 (.block 2 (.loop (.seq (.reg false [] [5, 32, 33, 34] [⟨some 34, .bin .lss (.t 33) (.t 32), none⟩])
 (.seq (.cond (.t 34) .skip
 (.exit 2))
 (.seq (.block 3 (.seq (.reg false [] [5, 8, 32, 33] [⟨some 35, .mov (.t 33), none⟩, ⟨some 8, .mov (.t 35), none⟩])
 (.seq (.reg false [] [5, 8, 32, 33] [⟨some 36, .mov (.t 5), none⟩, ⟨some 37, .mov (.t 8), none⟩, ⟨some 38, .iadS 1 (.t 36) (.t 37), none⟩, ⟨some 39, .ld 1 false (.t 38), none⟩, ⟨some 40, .callN 366 (.t 39) [], none⟩])
 (.reg false [] [5, 32, 33] [⟨some 41, .mov (.t 5), none⟩, ⟨some 42, .mov (.t 8), none⟩, ⟨some 43, .mov (.t 5), none⟩, ⟨some 44, .mov (.t 8), none⟩, ⟨some 45, .iadS 1 (.t 43) (.t 44), none⟩, ⟨some 46, .ld 1 false (.t 45), none⟩, ⟨some 47, .callE 523 (.t 46) [], none⟩, ⟨some 48, .iadS 1 (.t 41) (.t 42), none⟩, ⟨none, .st 1 [] (.t 48) (.t 47), none⟩]))))
 (.reg false [] [5, 32, 33] [⟨some 49, .bin .add (.t 33) (.c (.int .i64 1)), none⟩, ⟨some 33, .mov (.t 49), none⟩])))))))
 (.seq (.reg false [] [4] [⟨some 50, .asg (.t 5), none⟩, ⟨some 4, .asg (.t 50), none⟩])
 .ret))))) }

/-- slices.BinarySearch[[]int,int] -/
def N518_slices_BinarySearch__int_int : NFun := { np := 2, nt := 54, res := [(4, none), (5, none)], body :=
 (.seq (.reg false [] [0, 1] [⟨some 4, .mov (.c (.int .i64 0)), none⟩, ⟨some 5, .mov (.c (.bool false)), none⟩])
 (.seq (.reg false [] [0, 1, 6] [⟨some 10, .mov (.t 0), none⟩, ⟨some 11, .len (.t 10), none⟩, ⟨some 6, .mov (.t 11), none⟩])
 (.seq (.reg false [] [0, 1, 6, 7, 8] [⟨some 12, .mov (.t 6), none⟩, ⟨some 7, .mov (.c (.int .i64 0)), none⟩, ⟨some 8, .mov (.t 12), none⟩])
 (.seq (.block 0 (.loop (.seq (.seq (.reg false [] [0, 1, 6, 7, 8, 15] [⟨some 13, .mov (.t 7), none⟩, ⟨some 14, .mov (.t 8), none⟩, ⟨some 15, .bin .lss (.t 13) (.t 14), none⟩])
 (.cond (.t 15) .skip
 (.exit 0)))
 (.block 1 (.seq (.reg false [] [0, 1, 6, 7, 8, 9] [⟨some 16, .mov (.t 7), none⟩, ⟨some 17, .mov (.t 8), none⟩, ⟨some 18, .bin .add (.t 16) (.t 17), none⟩, ⟨some 19, .conv .u64 (.t 18), none⟩, ⟨some 20, .bin .shr (.t 19) (.c (.int .u64 1)), none⟩, ⟨some 21, .conv .i64 (.t 20), none⟩, ⟨some 9, .mov (.t 21), none⟩])
 (.seq (.reg false [] [0, 1, 6, 7, 8, 9, 27] [⟨some 22, .mov (.t 0), none⟩, ⟨some 23, .mov (.t 9), none⟩, ⟨some 24, .iadS 1 (.t 22) (.t 23), none⟩, ⟨some 25, .ld 1 false (.t 24), none⟩, ⟨some 26, .mov (.t 1), none⟩, ⟨some 27, .call 411 [(.t 25), (.t 26)] [], none⟩])
 (.cond (.t 27) (.reg false [] [0, 1, 6, 7, 8] [⟨some 28, .mov (.t 9), none⟩, ⟨some 29, .bin .add (.t 28) (.c (.int .i64 1)), none⟩, ⟨some 7, .mov (.t 29), none⟩])
 (.reg false [] [0, 1, 6, 7, 8] [⟨some 30, .mov (.t 9), none⟩, ⟨some 8, .mov (.t 30), none⟩]))))))))
 (.seq (.reg false [] [4, 5] [⟨some 31, .mov (.t 7), none⟩, ⟨some 32, .mov (.t 7), none⟩, ⟨some 33, .mov (.t 6), none⟩, ⟨some 34, .bin .lss (.t 32) (.t 33), none⟩, ⟨some 35, .mov (.t 34), none⟩, ⟨some 36, .mov (.t 0), some (35, true)⟩, ⟨some 37, .mov (.t 7), some (35, true)⟩, ⟨some 38, .iadS 1 (.t 36) (.t 37), some (35, true)⟩, ⟨some 39, .ld 1 false (.t 38), some (35, true)⟩, ⟨some 40, .mov (.t 1), some (35, true)⟩, ⟨some 41, .bin .eql (.t 39) (.t 40), some (35, true)⟩, ⟨some 42, .mov (.t 41), some (35, true)⟩, ⟨some 43, .asg (.t 0), some (42, false)⟩, ⟨some 44, .mov (.t 7), some (42, false)⟩, ⟨some 45, .iadS 1 (.t 43) (.t 44), some (42, false)⟩, ⟨some 46, .ld 1 false (.t 45), some (42, false)⟩, ⟨some 47, .call 524 [(.t 46)] [], some (42, false)⟩, ⟨some 48, .mov (.t 47), some (42, false)⟩, ⟨some 49, .mov (.t 1), some (48, true)⟩, ⟨some 50, .call 524 [(.t 49)] [], some (48, true)⟩, ⟨some 51, .pick (.t 48) (.t 50) (.c (.bool false)), some (42, false)⟩, ⟨some 52, .pick (.t 42) (.c (.bool true)) (.t 51), some (35, true)⟩, ⟨some 53, .pick (.t 35) (.t 52) (.c (.bool false)), none⟩, ⟨some 4, .mov (.t 31), none⟩, ⟨some 5, .mov (.t 53), none⟩])
 .ret))))) }

/-- slices.IndexFunc[[][2]int,[2]int] -/
def N522_slices_IndexFunc___2int__2int : NFun := { np := 2, nt := 19, res := [(4, none)], body :=
 (.seq (.reg false [] [0, 1] [⟨some 4, .mov (.c (.int .i64 0)), none⟩])
 (.seq (.seq (.reg false [] [0, 1, 7, 8] [⟨some 6, .mov (.t 0), none⟩, ⟨some 7, .len (.t 6), none⟩, ⟨some 8, .mov (.c (.int .i64 0)), none⟩])
 (.block 0 (.loop (.seq (.reg false [] [0, 1, 7, 8, 9] [⟨some 9, .bin .lss (.t 8) (.t 7), none⟩])
 (.seq (.cond (.t 9) .skip
 (.exit 0))
 (.seq (.block 1 (.seq (.reg false [] [0, 1, 5, 7, 8] [⟨some 10, .mov (.t 8), none⟩, ⟨some 5, .mov (.t 10), none⟩])
 (.seq (.reg false [] [0, 1, 5, 7, 8, 16] [⟨some 11, .mov (.t 1), none⟩, ⟨some 12, .mov (.t 0), none⟩, ⟨some 13, .mov (.t 5), none⟩, ⟨some 14, .iadS 2 (.t 12) (.t 13), none⟩, ⟨some 15, .ld 2 true (.t 14), none⟩, ⟨some 16, .callv (.t 11) [(.t 15)], none⟩])
 (.cond (.t 16) (.seq (.reg false [] [4] [⟨some 17, .mov (.t 5), none⟩, ⟨some 4, .mov (.t 17), none⟩])
 .ret)
 .skip))))
 (.reg false [] [0, 1, 7, 8] [⟨some 18, .bin .add (.t 8) (.c (.int .i64 1)), none⟩, ⟨some 8, .mov (.t 18), none⟩])))))))
 (.seq (.reg false [] [4] [⟨some 4, .mov (.c (.int .i64 (-1))), none⟩])
 .ret))) }

/-- slices.isNaN[int] -/
def N524_slices_isNaN_int : NFun := { np := 1, nt := 6, res := [(2, none)], body :=
 (.seq (.reg false [] [0] [⟨some 2, .mov (.c (.bool false)), none⟩])
 (.seq (.reg false [] [2] [⟨some 3, .mov (.t 0), none⟩, ⟨some 4, .mov (.t 0), none⟩, ⟨some 5, .bin .neq (.t 3) (.t 4), none⟩, ⟨some 2, .mov (.t 5), none⟩])
 .ret)) }

def prog : Nat → Option NFun
  | 11 => some N11_slices_ContainsFunc__int_int
  | 33 => some N33_ref28_Valid
  | 35 => some N35_slices_IndexFunc__int_int
  | 44 => some N44_catalogue_Valid
  | 45 => some N45_slices_ContainsFunc__api_Section_api_Section
  | 48 => some N48_ref28_Right
  | 49 => some N49_ref28_Find
  | 51 => some N51_catalogue_valid
  | 52 => some N52_slices_IndexFunc__api_Section_api_Section
  | 53 => some N53_catalogue_Capacity
  | 54 => some N54_ref01_IsName
  | 55 => some N55_ref28_fits
  | 58 => some N58_decimal_IsName
  | 59 => some N59_catalogue_curve
  | 60 => some N60_catalogue_slope
  | 61 => some N61_catalogue_carried
  | 62 => some N62_ref01_Letter
  | 63 => some N63_ref01_word
  | 64 => some N64_ref06_Valid
  | 70 => some N70_decimal_letter
  | 71 => some N71_decimal_word
  | 72 => some N72_table_Valid
  | 73 => some N73_table_Floor
  | 74 => some N74_catalogue_product
  | 75 => some N75_catalogue_wide_times
  | 76 => some N76_catalogue_wide_over
  | 77 => some N77_catalogue_wide_root
  | 78 => some N78_ref01_Digit
  | 79 => some N79_ref06_Number
  | 88 => some N88_decimal_digit
  | 89 => some N89_table_fits
  | 90 => some N90_table_piece
  | 91 => some N91_math_bits_Mul64
  | 92 => some N92_math_bits_Div64
  | 96 => some N96_slices_BinarySearchFunc_api_Table_api_Knot_int
  | 97 => some N97_table_piece_1
  | 98 => some N98_wide_Scale
  | 99 => some N99_wide_Product
  | 100 => some N100_wide_Sub
  | 101 => some N101_wide_Int
  | 102 => some N102_math_bits_LeadingZeros64
  | 103 => some N103_wide_times
  | 104 => some N104_wide_quotient
  | 105 => some N105_wide_placed
  | 106 => some N106_wide_Valid
  | 107 => some N107_wide_sum
  | 108 => some N108_wide_value
  | 109 => some N109_wide_minus
  | 110 => some N110_wide_whole
  | 111 => some N111_math_bits_Len64
  | 112 => some N112_wide_size
  | 113 => some N113_wide_signed
  | 164 => some N164_network_Valid
  | 165 => some N165_catalogue_Depth
  | 168 => some N168_network_rightNode
  | 169 => some N169_network_node
  | 170 => some N170_network_rightLink
  | 171 => some N171_network_link
  | 172 => some N172_network_between
  | 173 => some N173_network_level
  | 174 => some N174_network_shaped
  | 175 => some N175_slices_IndexFunc__api_Node_api_Node
  | 176 => some N176_network_node_1
  | 177 => some N177_network_sameLink
  | 178 => some N178_network_plain
  | 179 => some N179_slices_ContainsFunc_api_Table_api_Knot
  | 180 => some N180_network_rightLink_1
  | 181 => some N181_slices_IndexFunc__api_Link_api_Link
  | 182 => some N182_network_link_1
  | 183 => some N183_network_level_1
  | 184 => some N184_slices_Equal_api_Table_api_Knot
  | 185 => some N185_slices_IndexFunc_api_Table_api_Knot
  | 194 => some N194_ref26_RightLink
  | 196 => some N196_ref30_Fall
  | 199 => some N199_ref26_level
  | 200 => some N200_ref26_within
  | 201 => some N201_ref26_curve
  | 299 => some N299_cmp_isNaN_int
  | 411 => some N411_cmp_Less_int
  | 421 => some N421_law30_SteadyCarries
  | 425 => some N425_law30_awake
  | 426 => some N426_law30_large
  | 427 => some N427_ref30_Tree
  | 428 => some N428_steady_Flows
  | 429 => some N429_ref26_Edges
  | 433 => some N433_steady_Tree
  | 434 => some N434_slices_Equal__api_Span_api_Span
  | 436 => some N436_steady_Depths
  | 440 => some N440_ref30_Given
  | 441 => some N441_catalogue_Find
  | 452 => some N452_law30_example
  | 453 => some N453_slices_ContainsFunc__api_Node_api_Node
  | 454 => some N454_law30_large_1
  | 455 => some N455_slices_ContainsFunc__api_Link_api_Link
  | 456 => some N456_law30_large_2
  | 457 => some N457_law30_large_3
  | 458 => some N458_ref26_Valid
  | 459 => some N459_ref08_Tree
  | 460 => some N460_steady_spans
  | 461 => some N461_steady_flows
  | 462 => some N462_ref26_FindNode
  | 465 => some N465_ref30_spans
  | 467 => some N467_ref26_FindLink
  | 470 => some N470_steady_Tree_1
  | 471 => some N471_network_Edges
  | 472 => some N472_digraph_Tree
  | 473 => some N473_steady_pipes
  | 474 => some N474_steady_fall
  | 479 => some N479_ref30_pipes
  | 480 => some N480_catalogue_Find_1
  | 481 => some N481_steady_sections
  | 486 => some N486_law30_example_1
  | 487 => some N487_law30_example_2
  | 488 => some N488_ref26_RightNode
  | 489 => some N489_ref08_Valid
  | 490 => some N490_ref08_Order
  | 491 => some N491_slices_ContainsFunc__api_Span_api_Span
  | 492 => some N492_steady_spans_1
  | 493 => some N493_span_Valid
  | 494 => some N494_steady_spans_2
  | 495 => some N495_network_Order
  | 496 => some N496_slices_Clone__api_Span_api_Span
  | 497 => some N497_steady_flows_1
  | 499 => some N499_network_edges
  | 501 => some N501_ref04_Valid
  | 503 => some N503_digraph_Valid
  | 504 => some N504_digraph_order
  | 506 => some N506_steady_sections_1
  | 507 => some N507_ref26_position
  | 508 => some N508_ref26_shape
  | 509 => some N509_slices_IndexFunc__api_Span_api_Span
  | 510 => some N510_span_fits
  | 511 => some N511_digraph_Order
  | 514 => some N514_slices_ContainsFunc___2int__2int
  | 515 => some N515_digraph_Valid_1
  | 516 => some N516_digraph_is
  | 517 => some N517_digraph_next
  | 518 => some N518_slices_BinarySearch__int_int
  | 522 => some N522_slices_IndexFunc___2int__2int
  | 524 => some N524_slices_isNaN_int
  | _ => none

end Go.Gv
