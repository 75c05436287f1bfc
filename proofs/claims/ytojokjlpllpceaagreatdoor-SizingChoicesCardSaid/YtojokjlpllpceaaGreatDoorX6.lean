/-
  Texts of the proof: GvP.
-/
import Derived.Test.YtojokjlpllpceaaGreatDoorX5
set_option linter.all false
set_option maxRecDepth 4000
namespace Go.Gv

@[simp] def zm (a b : Nat) : NOper := ⟨some a, .mov (.t b), none⟩
@[simp] def zc (a : Nat) (d : D) : NOper := ⟨some a, .mov (.c d), none⟩
@[simp] def zf (a i b : Nat) : NOper := ⟨some a, .fad i (.t b), none⟩
@[simp] def zl (a n b : Nat) : NOper := ⟨some a, .ld n false (.t b), none⟩
@[simp] def zL (a n b : Nat) : NOper := ⟨some a, .ld n true (.t b), none⟩
@[simp] def zx (a i b : Nat) : NOper := ⟨some a, .ext i (.t b), none⟩
@[simp] def zn (a b : Nat) : NOper := ⟨some a, .len (.t b), none⟩
@[simp] def zq (a b : Nat) : NOper := ⟨some a, .asg (.t b), none⟩
@[simp] def zi (a n b c : Nat) : NOper := ⟨some a, .iadS n (.t b) (.t c), none⟩
@[simp] def zo (a b : Nat) : NOper := ⟨some a, .boxF (.t b), none⟩
@[simp] def zt (a b : Nat) : NOper := ⟨some a, .un .not (.t b), none⟩
@[simp] def zk (a g : Nat) (xs : List Opd) : NOper := ⟨some a, .call g xs [], none⟩
@[simp] def zb (a : Nat) (op : BinOp) (b c : Nat) : NOper := ⟨some a, .bin op (.t b) (.t c), none⟩
@[simp] def zd (a : Nat) (op : BinOp) (b : Nat) (d : D) : NOper := ⟨some a, .bin op (.t b) (.c d), none⟩
@[simp] def zg (c : Nat) (b : Bool) (s : NOper) : NOper := ⟨s.dst, s.op, some (c, b)⟩

/-- sewershed/sewershedlaw47.awake -/
def N3_law47_awake : NFun := { np := 0, nt := 47, res := [(0, none)], body :=
 (.seq (.reg false [] [] [zc 0 (.bool false)])
 (.seq (.reg false [] [1, 2, 3] [zk 8 23 [(.c (.int .i64 400))], zk 9 15 [(.t 8)], zm 7 9, zx 10 0 7, zx 11 1 7, zx 12 2 7, zm 1 10, zq 2 11, zm 3 12])
 (.seq (.reg false [] [1, 2, 3, 4, 5, 6] [zk 14 23 [(.c (.int .i64 250))], zk 15 15 [(.t 14)], zm 13 15, zx 16 0 13, zx 17 1 13, zx 18 2 13, zm 4 16, zq 5 17, zm 6 18])
 (.seq (.reg false [] [0] [zm 19 3, zd 20 .eql 19 (.int .i64 0), zm 21 20, zg 21 true (zm 22 1), zg 21 true (zd 23 .eql 22 (.int .i64 8000)), ⟨some 24, .pick (.t 21) (.t 23) (.c (.bool false)), none⟩, zm 25 24, zg 25 true (zq 26 2), zg 25 true (⟨some 27, .bls 1 2 [.int .i64 0] [] [(0, (.c (.int .i64 1))), (1, (.c (.int .i64 1)))], none⟩), zg 25 true (zk 28 19 [(.t 26), (.t 27)]), ⟨some 29, .pick (.t 25) (.t 28) (.c (.bool false)), none⟩, zm 30 29, zg 30 true (zm 31 6), zg 30 true (zd 32 .eql 31 (.int .i64 0)), ⟨some 33, .pick (.t 30) (.t 32) (.c (.bool false)), none⟩, zm 34 33, zg 34 true (zm 35 4), zg 34 true (zd 36 .eql 35 (.int .i64 9000)), ⟨some 37, .pick (.t 34) (.t 36) (.c (.bool false)), none⟩, zm 38 37, zg 38 true (zq 39 5), zg 38 true (⟨some 40, .bls 1 2 [.int .i64 0] [] [(0, (.c (.int .i64 0))), (1, (.c (.int .i64 1)))], none⟩), zg 38 true (zk 41 19 [(.t 39), (.t 40)]), ⟨some 42, .pick (.t 38) (.t 41) (.c (.bool false)), none⟩, zm 43 42, zg 43 true (zk 44 23 [(.c (.int .i64 1))]), zg 43 true (zk 45 24 [(.t 44)]), ⟨some 46, .pick (.t 43) (.t 45) (.c (.bool false)), none⟩, zm 0 46])
 .ret)))) }

/-- sewershed/sewershedlaw47.large -/
def N4_law47_large : NFun := { np := 1, nt := 36, res := [(2, none)], body :=
 (.seq (.reg false [] [1] [zo 1 0, zc 2 (.bool false)])
 (.seq (.reg false [] [2] [zf 3 0 1, zl 4 1 3, zn 5 4, zd 6 .gtr 5 (.int .i64 12), zm 7 6, zg 7 false (zf 8 1 1), zg 7 false (zl 9 1 8), zg 7 false (zn 10 9), zg 7 false (zd 11 .gtr 10 (.int .i64 12)), ⟨some 12, .pick (.t 7) (.c (.bool true)) (.t 11), none⟩, zm 13 12, zg 13 false (zf 14 2 1), zg 13 false (zl 15 1 14), zg 13 false (zn 16 15), zg 13 false (zd 17 .gtr 16 (.int .i64 12)), ⟨some 18, .pick (.t 13) (.c (.bool true)) (.t 17), none⟩, zm 19 18, zg 19 false (zf 20 3 1), zg 19 false (zl 21 1 20), zg 19 false (zn 22 21), zg 19 false (zd 23 .gtr 22 (.int .i64 12)), ⟨some 24, .pick (.t 19) (.c (.bool true)) (.t 23), none⟩, zm 25 24, zg 25 false (zf 26 4 1), zg 25 false (zl 27 1 26), zg 25 false (zn 28 27), zg 25 false (zd 29 .gtr 28 (.int .i64 12)), ⟨some 30, .pick (.t 25) (.c (.bool true)) (.t 29), none⟩, zm 31 30, zg 31 false (zf 32 5 1), zg 31 false (zl 33 1 32), zg 31 false (zk 34 25 [(.t 33)]), ⟨some 35, .pick (.t 31) (.c (.bool true)) (.t 34), none⟩, zm 2 35])
 .ret)) }

/-- sewershed/sewershedref47.Valid -/
def N8_ref47_Valid : NFun := { np := 1, nt := 97, res := [(2, none)], body :=
 (.seq (.reg false [] [1] [zo 1 0, zc 2 (.bool false)])
 (.seq (.reg false [] [1, 3] [zf 5 0 1, zl 6 1 5, zn 7 6, zm 3 7])
 (.seq (.seq (.reg false [] [1, 3, 49] [zm 8 3, zd 9 .gtr 8 (.int .i64 400), zm 10 9, zg 10 false (zf 11 1 1), zg 10 false (zl 12 1 11), zg 10 false (zn 13 12), zg 10 false (zm 14 3), zg 10 false (zb 15 .neq 13 14), ⟨some 16, .pick (.t 10) (.c (.bool true)) (.t 15), none⟩, zm 17 16, zg 17 false (zf 18 2 1), zg 17 false (zl 19 1 18), zg 17 false (zn 20 19), zg 17 false (zm 21 3), zg 17 false (zb 22 .neq 20 21), ⟨some 23, .pick (.t 17) (.c (.bool true)) (.t 22), none⟩, zm 24 23, zg 24 false (zf 25 3 1), zg 24 false (zl 26 1 25), zg 24 false (zn 27 26), zg 24 false (zm 28 3), zg 24 false (zb 29 .neq 27 28), ⟨some 30, .pick (.t 24) (.c (.bool true)) (.t 29), none⟩, zm 31 30, zg 31 false (zf 32 4 1), zg 31 false (zl 33 1 32), zg 31 false (zn 34 33), zg 31 false (zm 35 3), zg 31 false (zb 36 .neq 34 35), ⟨some 37, .pick (.t 31) (.c (.bool true)) (.t 36), none⟩, zm 38 37, zg 38 false (zf 39 5 1), zg 38 false (zl 40 1 39), zg 38 false (zn 41 40), zg 38 false (zd 42 .lss 41 (.int .i64 1)), ⟨some 43, .pick (.t 38) (.c (.bool true)) (.t 42), none⟩, zm 44 43, zg 44 false (zf 45 5 1), zg 44 false (zl 46 1 45), zg 44 false (zk 47 33 [(.t 46)]), zg 44 false (zt 48 47), ⟨some 49, .pick (.t 44) (.c (.bool true)) (.t 48), none⟩])
 (.cond (.t 49) (.seq (.reg false [] [2] [zc 2 (.bool false)])
 .ret)
 .skip))
 (.seq (.seq (.reg false [] [1, 3, 4] [zc 4 (.int .i64 0)])
 (.block 0 (.loop (.seq (.seq (.reg false [] [1, 3, 4, 52] [zm 50 4, zm 51 3, zb 52 .lss 50 51])
 (.cond (.t 52) .skip
 (.exit 0)))
 (.seq (.block 1 (.seq (.reg false [] [1, 3, 4, 78] [zf 55 0 1, zl 56 1 55, zm 57 4, zi 58 1 56 57, zl 59 1 58, ⟨some 60, .bin .neq (.t 59) (.c (.int .i64 (-1))), none⟩, zm 61 60, zg 61 true (zf 62 0 1), zg 61 true (zl 63 1 62), zg 61 true (zm 64 4), zg 61 true (zi 65 1 63 64), zg 61 true (zl 66 1 65), zg 61 true (zm 67 4), zg 61 true (zb 68 .leq 66 67), zg 61 true (zm 69 68), zg 69 false (zf 70 0 1), zg 69 false (zl 71 1 70), zg 69 false (zm 72 4), zg 69 false (zi 73 1 71 72), zg 69 false (zl 74 1 73), zg 69 false (zm 75 3), zg 69 false (zb 76 .geq 74 75), zg 61 true (⟨some 77, .pick (.t 69) (.c (.bool true)) (.t 76), none⟩), ⟨some 78, .pick (.t 61) (.t 77) (.c (.bool false)), none⟩])
 (.cond (.t 78) (.seq (.reg false [] [2] [zc 2 (.bool false)])
 .ret)
 .skip)))
 (.reg false [] [1, 3, 4] [zm 53 4, zd 54 .add 53 (.int .i64 1), zm 4 54]))))))
 (.seq (.reg false [] [2] [zf 79 1 1, zl 80 1 79, zk 81 34 [(.t 80), (.c (.int .i64 1)), (.c (.int .i64 16777216))], zm 82 81, zg 82 true (zf 83 2 1), zg 82 true (zl 84 1 83), zg 82 true (zk 85 34 [(.t 84), (.c (.int .i64 0)), (.c (.int .i64 1099511627776))]), ⟨some 86, .pick (.t 82) (.t 85) (.c (.bool false)), none⟩, zm 87 86, zg 87 true (zf 88 3 1), zg 87 true (zl 89 1 88), zg 87 true (zk 90 34 [(.t 89), (.c (.int .i64 0)), (.c (.int .i64 4194304))]), ⟨some 91, .pick (.t 87) (.t 90) (.c (.bool false)), none⟩, zm 92 91, zg 92 true (zf 93 4 1), zg 92 true (zl 94 1 93), zg 92 true (zk 95 34 [(.t 94), (.c (.int .i64 0)), (.c (.int .i64 4194304))]), ⟨some 96, .pick (.t 92) (.t 95) (.c (.bool false)), none⟩, zm 2 96])
 .ret))))) }

/-- slices.ContainsFunc[[]int,int] -/
def N11_slices_ContainsFunc__int_int : NFun := { np := 2, nt := 9, res := [(4, none)], body :=
 (.seq (.reg false [] [0, 1] [zc 4 (.bool false)])
 (.seq (.reg false [] [4] [zq 5 0, zm 6 1, zk 7 35 [(.t 5), (.t 6)], zd 8 .geq 7 (.int .i64 0), zm 4 8])
 .ret)) }

/-- sewershed/sizing.Solve -/
def N15_sizing_Solve : NFun := { np := 1, nt := 67, res := [(2, none), (3, none), (4, none)], body :=
 (.seq (.reg false [] [1] [zo 1 0, zc 2 (.int .i64 0), zc 3 .nils, zc 4 (.int .i64 0)])
 (.seq (.seq (.reg false [] [1, 14] [zL 12 6 1, zk 13 24 [(.t 12)], zt 14 13])
 (.cond (.t 14) (.seq (.reg false [] [2, 3, 4] [zc 2 (.int .i64 0), zc 3 .nils, zc 4 (.int .i64 1)])
 .ret)
 .skip))
 (.seq (.reg false [] [1, 5] [zL 15 6 1, zk 16 30 [(.t 15)], zm 5 16])
 (.seq (.reg false [] [1, 5, 6] [zm 17 5, zk 18 39 [(.t 17)], zq 6 18])
 (.seq (.reg false [] [1, 5, 6, 7] [zm 19 5, zm 20 6, zk 21 32 [(.t 19), (.t 20)], zm 7 21])
 (.seq (.seq (.reg false [] [1, 5, 6, 7, 23] [zm 22 7, ⟨some 23, .bin .eql (.t 22) (.c (.int .i64 (-1))), none⟩])
 (.cond (.t 23) (.seq (.reg false [] [2, 3, 4] [zc 2 (.int .i64 0), zc 3 .nils, zc 4 (.int .i64 28)])
 .ret)
 .skip))
 (.seq (.reg false [] [1, 5, 6, 7, 8] [zf 24 0 1, zl 25 1 24, zn 26 25, ⟨some 27, .mks 1 8 [.int .i64 0] (.t 26) (.t 26), none⟩, zq 8 27])
 (.seq (.seq (.reg false [] [1, 5, 6, 7, 8, 9] [zm 28 8, zn 29 28, zd 30 .sub 29 (.int .i64 1), zm 9 30])
 (.block 0 (.loop (.seq (.seq (.reg false [] [1, 5, 6, 7, 8, 9, 32] [zm 31 9, zd 32 .geq 31 (.int .i64 0)])
 (.cond (.t 32) .skip
 (.exit 0)))
 (.seq (.block 1 (.seq (.reg false [] [1, 5, 6, 7, 8, 9, 10] [zc 10 (.int .i64 4194304)])
 (.seq (.seq (.reg false [] [1, 5, 6, 7, 8, 9, 10, 11] [zf 35 0 1, zl 36 1 35, zm 37 9, zi 38 1 36 37, zl 39 1 38, zm 11 39])
 (.seq (.reg false [] [1, 5, 6, 7, 8, 9, 10, 11, 41] [zm 40 11, ⟨some 41, .bin .neq (.t 40) (.c (.int .i64 (-1))), none⟩])
 (.cond (.t 41) (.reg true [0, 1, 0, 0, 12, 28, 63, 127, 255, 511] [1, 5, 6, 7, 8, 9, 10] [zf 42 5 1, zl 43 1 42, zm 44 8, zm 45 11, zi 46 1 44 45, zl 47 1 46, zi 48 5 43 47, zf 49 1 48, zl 50 1 49, zm 10 50])
 .skip)))
 (.reg false [] [1, 5, 6, 7, 8, 9] [zm 52 8, zm 53 9, zm 54 5, zm 55 6, zm 56 9, zi 57 1 55 56, zl 58 1 57, zm 59 9, zm 60 10, zk 61 40 [(.t 54), (.t 58), (.t 59), (.t 60)], zm 51 61, zx 62 0 51, zx 63 1 51, zi 64 1 52 53, ⟨none, .st 1 [] (.t 64) (.t 63), none⟩]))))
 (.reg false [] [1, 5, 6, 7, 8, 9] [zm 33 9, zd 34 .sub 33 (.int .i64 1), zm 9 34]))))))
 (.seq (.reg false [] [2, 3, 4] [zm 65 7, zq 66 8, zm 2 65, zq 3 66, zc 4 (.int .i64 0)])
 .ret))))))))) }

/-- slices.Equal[[]int,int] -/
def N19_slices_Equal__int_int : NFun := { np := 2, nt := 26, res := [(4, none)], body :=
 (.seq (.reg false [] [0, 1] [zc 4 (.bool false)])
 (.seq (.seq (.reg false [] [0, 1, 10] [zm 6 0, zn 7 6, zm 8 1, zn 9 8, zb 10 .neq 7 9])
 (.cond (.t 10) (.seq (.reg false [] [4] [zc 4 (.bool false)])
 .ret)
 .skip))
 (.seq (.seq (.reg false [] [0, 1, 12, 13] [zm 11 0, zn 12 11, zc 13 (.int .i64 0)])
 (.block 0 (.loop (.seq (.reg false [] [0, 1, 12, 13, 14] [zb 14 .lss 13 12])
 (.seq (.cond (.t 14) .skip
 (.exit 0))
 (.seq (.block 1 (.seq (.reg false [] [0, 1, 5, 12, 13] [zm 15 13, zm 5 15])
 (.seq (.reg true [0, 0, 3, 7, 0, 0, 48, 112, 255] [0, 1, 12, 13, 24] [zm 16 0, zm 17 5, zi 18 1 16 17, zl 19 1 18, zm 20 1, zm 21 5, zi 22 1 20 21, zl 23 1 22, zb 24 .neq 19 23])
 (.cond (.t 24) (.seq (.reg false [] [4] [zc 4 (.bool false)])
 .ret)
 .skip))))
 (.reg false [] [0, 1, 12, 13] [zd 25 .add 13 (.int .i64 1), zm 13 25])))))))
 (.seq (.reg false [] [4] [zc 4 (.bool true)])
 .ret)))) }

/-- sewershed/sewershedlaw47.example -/
def N23_law47_example : NFun := { np := 1, nt := 13, res := [(2, some (6, true))], body :=
 (.seq (.reg false [] [0, 2] [⟨some 2, .alc [.own 1 [], .own 1 [], .own 1 [], .own 1 [], .own 1 [], .own 5 []], none⟩])
 (.seq (.reg false [] [2] [⟨some 3, .bls 1 2 [.int .i64 0] [] [(0, (.c (.int .i64 1))), (1, (.c (.int .i64 (-1))))], none⟩, ⟨some 4, .bls 1 2 [.int .i64 0] [] [(0, (.c (.int .i64 1000))), (1, (.c (.int .i64 1000)))], none⟩, ⟨some 5, .bls 1 2 [.int .i64 0] [] [(0, (.c (.int .i64 1))), (1, (.c (.int .i64 1)))], none⟩, ⟨some 6, .bls 1 2 [.int .i64 0] [] [(0, (.c (.int .i64 10))), (1, (.c (.int .i64 10)))], none⟩, zm 7 0, ⟨some 8, .bls 1 2 [.int .i64 0] [] [(0, (.t 7)), (1, (.c (.int .i64 2000)))], none⟩, ⟨some 9, .call 43 [(.c (.str [97])), (.c (.int .i64 200)), (.c (.int .i64 5))] [], none⟩, ⟨some 10, .call 43 [(.c (.str [98])), (.c (.int .i64 300)), (.c (.int .i64 4))] [], none⟩, ⟨some 11, .bls 5 2 [.str [], .int .i64 0, .int .i64 0, .own 2 [], .own 2 []] [] [(0, (.t 9)), (1, (.t 10))], none⟩, ⟨some 12, .bld [.nils, .nils, .nils, .nils, .nils, .nils] [(0, 1, (.t 3)), (1, 1, (.t 4)), (2, 1, (.t 5)), (3, 1, (.t 6)), (4, 1, (.t 8)), (5, 1, (.t 11))], none⟩, ⟨none, .st 6 [] (.t 2) (.t 12), none⟩])
 .ret)) }

/-- sewershed/sizing.Valid -/
def N24_sizing_Valid : NFun := { np := 1, nt := 109, res := [(2, none)], body :=
 (.seq (.reg false [] [1] [zo 1 0, zc 2 (.bool false)])
 (.seq (.reg false [] [1, 3] [zf 6 0 1, zl 7 1 6, zn 8 7, zm 3 8])
 (.seq (.seq (.reg false [] [1, 3, 50] [zm 9 3, zd 10 .gtr 9 (.int .i64 400), zm 11 10, zg 11 false (zf 12 1 1), zg 11 false (zl 13 1 12), zg 11 false (zn 14 13), zg 11 false (zm 15 3), zg 11 false (zb 16 .neq 14 15), ⟨some 17, .pick (.t 11) (.c (.bool true)) (.t 16), none⟩, zm 18 17, zg 18 false (zf 19 2 1), zg 18 false (zl 20 1 19), zg 18 false (zn 21 20), zg 18 false (zm 22 3), zg 18 false (zb 23 .neq 21 22), ⟨some 24, .pick (.t 18) (.c (.bool true)) (.t 23), none⟩, zm 25 24, zg 25 false (zf 26 3 1), zg 25 false (zl 27 1 26), zg 25 false (zn 28 27), zg 25 false (zm 29 3), zg 25 false (zb 30 .neq 28 29), ⟨some 31, .pick (.t 25) (.c (.bool true)) (.t 30), none⟩, zm 32 31, zg 32 false (zf 33 4 1), zg 32 false (zl 34 1 33), zg 32 false (zn 35 34), zg 32 false (zm 36 3), zg 32 false (zb 37 .neq 35 36), ⟨some 38, .pick (.t 32) (.c (.bool true)) (.t 37), none⟩, zm 39 38, zg 39 false (zf 40 5 1), zg 39 false (zl 41 1 40), zg 39 false (zn 42 41), zg 39 false (zd 43 .eql 42 (.int .i64 0)), ⟨some 44, .pick (.t 39) (.c (.bool true)) (.t 43), none⟩, zm 45 44, zg 45 false (zf 46 5 1), zg 45 false (zl 47 1 46), zg 45 false (zk 48 44 [(.t 47)]), zg 45 false (zt 49 48), ⟨some 50, .pick (.t 45) (.c (.bool true)) (.t 49), none⟩])
 (.cond (.t 50) (.seq (.reg false [] [2] [zc 2 (.bool false)])
 .ret)
 .skip))
 (.seq (.seq (.reg false [] [1, 3, 51, 52] [zm 51 3, zc 52 (.int .i64 0)])
 (.block 0 (.loop (.seq (.reg false [] [1, 3, 51, 52, 53] [zb 53 .lss 52 51])
 (.seq (.cond (.t 53) .skip
 (.exit 0))
 (.seq (.block 1 (.seq (.reg false [] [1, 3, 4, 51, 52] [zm 54 52, zm 4 54])
 (.seq (.reg false [] [1, 3, 4, 5, 51, 52] [zf 55 0 1, zl 56 1 55, zm 57 4, zi 58 1 56 57, zl 59 1 58, zm 5 59])
 (.seq (.reg false [] [1, 3, 51, 52, 107] [zm 60 5, ⟨some 61, .bin .neq (.t 60) (.c (.int .i64 (-1))), none⟩, zm 62 61, zg 62 true (zm 63 5), zg 62 true (zm 64 4), zg 62 true (zb 65 .leq 63 64), zg 62 true (zm 66 65), zg 66 false (zm 67 5), zg 66 false (zm 68 3), zg 66 false (zb 69 .geq 67 68), zg 62 true (⟨some 70, .pick (.t 66) (.c (.bool true)) (.t 69), none⟩), ⟨some 71, .pick (.t 62) (.t 70) (.c (.bool false)), none⟩, zm 72 71, zg 72 false (zf 73 1 1), zg 72 false (zl 74 1 73), zg 72 false (zm 75 4), zg 72 false (zi 76 1 74 75), zg 72 false (zl 77 1 76), zg 72 false (zk 78 29 [(.t 77), (.c (.int .i64 1)), (.c (.int .i64 16777216))]), zg 72 false (zt 79 78), ⟨some 80, .pick (.t 72) (.c (.bool true)) (.t 79), none⟩, zm 81 80, zg 81 false (zf 82 2 1), zg 81 false (zl 83 1 82), zg 81 false (zm 84 4), zg 81 false (zi 85 1 83 84), zg 81 false (zl 86 1 85), zg 81 false (zk 87 29 [(.t 86), (.c (.int .i64 0)), (.c (.int .i64 1099511627776))]), zg 81 false (zt 88 87), ⟨some 89, .pick (.t 81) (.c (.bool true)) (.t 88), none⟩, zm 90 89, zg 90 false (zf 91 3 1), zg 90 false (zl 92 1 91), zg 90 false (zm 93 4), zg 90 false (zi 94 1 92 93), zg 90 false (zl 95 1 94), zg 90 false (zk 96 29 [(.t 95), (.c (.int .i64 0)), (.c (.int .i64 4194304))]), zg 90 false (zt 97 96), ⟨some 98, .pick (.t 90) (.c (.bool true)) (.t 97), none⟩, zm 99 98, zg 99 false (zf 100 4 1), zg 99 false (zl 101 1 100), zg 99 false (zm 102 4), zg 99 false (zi 103 1 101 102), zg 99 false (zl 104 1 103), zg 99 false (zk 105 29 [(.t 104), (.c (.int .i64 0)), (.c (.int .i64 4194304))]), zg 99 false (zt 106 105), ⟨some 107, .pick (.t 99) (.c (.bool true)) (.t 106), none⟩])
 (.cond (.t 107) (.seq (.reg false [] [2] [zc 2 (.bool false)])
 .ret)
 .skip)))))
 (.reg false [] [1, 3, 51, 52] [zd 108 .add 52 (.int .i64 1), zm 52 108])))))))
 (.seq (.reg false [] [2] [zc 2 (.bool true)])
 .ret))))) }

/-- sewershed/sewershedlaw47.many -/
def N25_law47_many : NFun := { np := 1, nt := 10, res := [(2, none)], body :=
 (.seq (.reg false [] [0] [zc 2 (.bool false)])
 (.seq (.reg false [] [2] [zm 3 0, zn 4 3, zd 5 .gtr 4 (.int .i64 8), zm 6 5, zg 6 false (zq 7 0), zg 6 false (⟨some 8, .call 45 [(.t 7), (.c (.fn 46 []))] [], none⟩), ⟨some 9, .pick (.t 6) (.c (.bool true)) (.t 8), none⟩, zm 2 9])
 .ret)) }

/-- sewershed/sizing.within -/
def N29_sizing_within : NFun := { np := 3, nt := 15, res := [(6, none)], body :=
 (.seq (.reg false [] [0, 1, 2] [zc 6 (.bool false)])
 (.seq (.reg false [] [6] [zm 7 0, zm 8 1, zb 9 .geq 7 8, zm 10 9, zg 10 true (zm 11 0), zg 10 true (zm 12 2), zg 10 true (zb 13 .leq 11 12), ⟨some 14, .pick (.t 10) (.t 13) (.c (.bool false)), none⟩, zm 6 14])
 .ret)) }

/-- sewershed/sizing.treeOf -/
def N30_sizing_treeOf : NFun := { np := 1, nt := 112, res := [(2, none)], body :=
 (.seq (.reg false [] [1] [zo 1 0, zc 2 .nilp])
 (.seq (.reg true [0, 0, 2, 6, 14, 0, 32, 96, 224, 511, 1023, 2047] [1, 3] [zL 10 6 1, zf 11 0 1, zl 12 1 11, zn 13 12, ⟨some 14, .mks 1 24 [.own 1 []] (.t 13) (.t 13), none⟩, zf 15 0 1, zl 16 1 15, zn 17 16, ⟨some 18, .mks 1 24 [.own 1 []] (.t 17) (.t 17), none⟩, ⟨some 19, .bld [.nils, .nils, .nils, .nils, .nils, .nils, .nils, .nils] [(0, 6, (.t 10)), (6, 1, (.t 14)), (7, 1, (.t 18))], none⟩, zo 20 19, zm 3 20])
 (.seq (.seq (.reg false [] [1, 3, 22, 23, 24] [zf 21 0 1, zl 22 1 21, zn 23 22, zc 24 (.int .i64 0)])
 (.block 0 (.loop (.seq (.reg false [] [1, 3, 22, 23, 24, 25] [zb 25 .lss 24 23])
 (.seq (.cond (.t 25) .skip
 (.exit 0))
 (.seq (.block 1 (.seq (.reg false [] [1, 3, 4, 5, 22, 23, 24] [zm 26 24, zi 27 1 22 24, zl 28 1 27, zm 4 26, zm 5 28])
 (.seq (.seq (.reg false [] [1, 3, 4, 5, 22, 23, 24, 30] [zm 29 5, ⟨some 30, .bin .neq (.t 29) (.c (.int .i64 (-1))), none⟩])
 (.cond (.t 30) (.reg true [0, 1, 3, 7, 0, 0, 32, 96, 224, 0, 992, 2016, 0, 4096, 16352, 32767, 65535] [1, 3, 4, 22, 23, 24] [zm 31 3, ⟨some 32, .nck (.t 31), none⟩, zf 33 7 32, zl 34 1 33, zm 35 5, zm 36 3, ⟨some 37, .nck (.t 36), none⟩, zf 38 7 37, zl 39 1 38, zm 40 5, zi 41 1 39 40, zl 42 1 41, zm 43 4, ⟨some 44, .bls 1 1 [.int .i64 0] [] [(0, (.t 43))], none⟩, ⟨some 45, .app 1 8 false (.t 42) (.t 44), none⟩, zi 46 1 34 35, ⟨none, .st 1 [] (.t 46) (.t 45), none⟩])
 .skip))
 (.seq (.reg false [] [1, 3, 4, 22, 23, 24, 48, 49, 50] [zf 47 5 1, zl 48 1 47, zn 49 48, zc 50 (.int .i64 0)])
 (.block 2 (.loop (.seq (.reg false [] [1, 3, 4, 22, 23, 24, 48, 49, 50, 51] [zb 51 .lss 50 49])
 (.seq (.cond (.t 51) .skip
 (.exit 2))
 (.seq (.block 3 (.seq (.reg false [] [1, 3, 4, 7, 22, 23, 24, 48, 49, 50] [zi 52 5 48 50, zL 53 5 52, ⟨some 7, .alc [.str [], .int .i64 0, .int .i64 0, .own 2 [], .own 2 []], none⟩, ⟨none, .st 5 [] (.t 7) (.t 53), none⟩])
 (.seq (.reg true [0, 0, 2, 0, 14, 30, 0, 64, 0, 448, 960, 2047, 4095, 8191, 8191, 16383, 65535] [1, 3, 4, 7, 8, 9, 22, 23, 24, 48, 49, 50] [zL 55 5 7, zf 56 3 1, zl 57 1 56, zm 58 4, zi 59 1 57 58, zl 60 1 59, zf 61 1 1, zl 62 1 61, zm 63 4, zi 64 1 62 63, zl 65 1 64, zk 66 47 [(.t 55), (.t 60), (.t 65)], zm 54 66, zx 67 0 54, zx 68 1 54, zm 8 67, zm 9 68])
 (.reg true [0, 1, 3, 7, 0, 0, 32, 96, 224, 0, 992, 2016, 0, 4096, 12288, 28672, 61440, 126976, 258048, 258048, 782336, 258048, 3928064, 8122368, 16773120, 33550336, 67104768, 134213632, 268431360, 536866816, 268431360, 1342173184, 268431360, 7784624128, 16374558720, 34359734272, 68719472640, 137438949376, 274877906912, 549755813887, 1099511627775] [1, 3, 4, 22, 23, 24, 48, 49, 50] [zm 69 3, ⟨some 70, .nck (.t 69), none⟩, zf 71 6 70, zl 72 1 71, zm 73 4, zm 74 3, ⟨some 75, .nck (.t 74), none⟩, zf 76 6 75, zl 77 1 76, zm 78 4, zi 79 1 77 78, zl 80 1 79, zm 81 9, zd 82 .eql 81 (.int .i64 5), zm 83 82, zg 83 false (zm 84 9), zg 83 false (zd 85 .eql 84 (.int .i64 0)), zg 83 false (zm 86 85), zg 86 true (zm 87 8), zg 86 true (zf 88 2 1), zg 86 true (zl 89 1 88), zg 86 true (zm 90 4), zg 86 true (zi 91 1 89 90), zg 86 true (zl 92 1 91), zg 86 true (zb 93 .geq 87 92), zg 83 false (⟨some 94, .pick (.t 86) (.t 93) (.c (.bool false)), none⟩), ⟨some 95, .pick (.t 83) (.c (.bool true)) (.t 94), none⟩, zm 96 95, zg 96 true (zf 97 1 7), zg 96 true (zl 98 1 97), zg 96 true (zf 99 4 1), zg 96 true (zl 100 1 99), zg 96 true (zm 101 4), zg 96 true (zi 102 1 100 101), zg 96 true (zl 103 1 102), zg 96 true (zb 104 .leq 98 103), ⟨some 105, .pick (.t 96) (.t 104) (.c (.bool false)), none⟩, ⟨some 106, .bls 1 1 [.bool false] [] [(0, (.t 105))], none⟩, ⟨some 107, .app 1 1 false (.t 80) (.t 106), none⟩, zi 108 1 72 73, ⟨none, .st 1 [] (.t 108) (.t 107), none⟩]))))
 (.reg false [] [1, 3, 4, 22, 23, 24, 48, 49, 50] [zd 109 .add 50 (.int .i64 1), zm 50 109]))))))))))
 (.reg false [] [1, 3, 22, 23, 24] [zd 110 .add 24 (.int .i64 1), zm 24 110])))))))
 (.seq (.reg false [] [2] [zm 111 3, zm 2 111])
 .ret)))) }

/-- (*sewershed/sizing.tree).cost -/
def N31_sizing_tree_cost : NFun := { np := 4, nt := 70, res := [(8, none)], body :=
 (.seq (.reg false [] [0, 1, 2, 3] [zc 8 (.int .i64 0)])
 (.seq (.reg true [0, 1, 3, 7, 15, 0, 63, 127, 0, 256, 768, 1792, 3840, 0, 16128, 32512, 65280, 131071, 262143] [0, 1, 2, 3, 9] [zm 14 0, ⟨some 15, .nck (.t 14), none⟩, zf 16 0 15, zf 17 1 16, zl 18 1 17, zm 19 2, zi 20 1 18 19, zl 21 1 20, zm 22 0, ⟨some 23, .nck (.t 22), none⟩, zf 24 0 23, zf 25 5 24, zl 26 1 25, zm 27 3, zi 28 5 26 27, zf 29 2 28, zl 30 1 29, zb 31 .mul 21 30, zm 9 31])
 (.seq (.seq (.reg false [] [0, 1, 3, 9, 38, 39, 40] [zm 32 0, ⟨some 33, .nck (.t 32), none⟩, zf 34 7 33, zl 35 1 34, zm 36 2, zi 37 1 35 36, zl 38 1 37, zn 39 38, zc 40 (.int .i64 0)])
 (.block 0 (.loop (.seq (.reg false [] [0, 1, 3, 9, 38, 39, 40, 41] [zb 41 .lss 40 39])
 (.seq (.cond (.t 41) .skip
 (.exit 0))
 (.seq (.block 1 (.seq (.reg false [] [0, 1, 3, 9, 11, 38, 39, 40] [zi 42 1 38 40, zl 43 1 42, zm 11 43])
 (.seq (.reg true [0, 0, 0, 6, 14, 0, 0, 64, 192, 448, 960, 0, 4032, 8128, 16320, 32767, 65535, 131071, 131071, 262143, 1048575] [0, 1, 3, 9, 12, 38, 39, 40] [zm 45 0, zm 46 1, zm 47 11, zi 48 1 46 47, zl 49 1 48, zm 50 11, zm 51 0, ⟨some 52, .nck (.t 51), none⟩, zf 53 0 52, zf 54 5 53, zl 55 1 54, zm 56 3, zi 57 5 55 56, zf 58 1 57, zl 59 1 58, zk 60 40 [(.t 45), (.t 49), (.t 50), (.t 59)], zm 44 60, zx 61 0 44, zx 62 1 44, zm 12 61, zm 13 62])
 (.seq (.seq (.reg false [] [0, 1, 3, 9, 12, 38, 39, 40, 64] [zm 63 12, ⟨some 64, .bin .eql (.t 63) (.c (.int .i64 (-1))), none⟩])
 (.cond (.t 64) (.seq (.reg false [] [8] [⟨some 8, .mov (.c (.int .i64 (-1))), none⟩])
 .ret)
 .skip))
 (.reg false [] [0, 1, 3, 9, 38, 39, 40] [zm 65 9, zm 66 12, zb 67 .add 65 66, zm 9 67])))))
 (.reg false [] [0, 1, 3, 9, 38, 39, 40] [zd 68 .add 40 (.int .i64 1), zm 40 68])))))))
 (.seq (.reg false [] [8] [zm 69 9, zm 8 69])
 .ret)))) }

/-- (*sewershed/sizing.tree).bound -/
def N32_sizing_tree_bound : NFun := { np := 2, nt := 40, res := [(4, none)], body :=
 (.seq (.reg false [] [0, 1] [zc 4 (.int .i64 0)])
 (.seq (.reg false [] [0, 1, 5] [zc 5 (.int .i64 0)])
 (.seq (.seq (.reg false [] [0, 1, 5, 14, 15, 16] [zm 10 0, ⟨some 11, .nck (.t 10), none⟩, zf 12 0 11, zf 13 0 12, zl 14 1 13, zn 15 14, zc 16 (.int .i64 0)])
 (.block 0 (.loop (.seq (.reg false [] [0, 1, 5, 14, 15, 16, 17] [zb 17 .lss 16 15])
 (.seq (.cond (.t 17) .skip
 (.exit 0))
 (.seq (.block 1 (.seq (.reg false [] [0, 1, 5, 6, 7, 14, 15, 16] [zm 18 16, zi 19 1 14 16, zl 20 1 19, zm 6 18, zm 7 20])
 (.seq (.seq (.reg false [] [0, 1, 5, 6, 14, 15, 16, 22] [zm 21 7, ⟨some 22, .bin .neq (.t 21) (.c (.int .i64 (-1))), none⟩])
 (.cond (.t 22) (.exit 1)
 .skip))
 (.seq (.reg false [] [0, 1, 5, 8, 14, 15, 16] [zm 24 0, zm 25 1, zm 26 6, zi 27 1 25 26, zl 28 1 27, zm 29 6, zk 30 40 [(.t 24), (.t 28), (.t 29), (.c (.int .i64 4194304))], zm 23 30, zx 31 0 23, zx 32 1 23, zm 8 31, zm 9 32])
 (.seq (.seq (.reg false [] [0, 1, 5, 8, 14, 15, 16, 34] [zm 33 8, ⟨some 34, .bin .eql (.t 33) (.c (.int .i64 (-1))), none⟩])
 (.cond (.t 34) (.seq (.reg false [] [4] [⟨some 4, .mov (.c (.int .i64 (-1))), none⟩])
 .ret)
 .skip))
 (.reg false [] [0, 1, 5, 14, 15, 16] [zm 35 5, zm 36 8, zb 37 .add 35 36, zm 5 37]))))))
 (.reg false [] [0, 1, 5, 14, 15, 16] [zd 38 .add 16 (.int .i64 1), zm 16 38])))))))
 (.seq (.reg false [] [4] [zm 39 5, zm 4 39])
 .ret)))) }

/-- sewershed/sewershedref28.Valid -/
def N33_ref28_Valid : NFun := { np := 1, nt := 30, res := [(2, none)], body :=
 (.seq (.reg false [] [0] [zc 2 (.bool false)])
 (.seq (.seq (.reg false [] [0, 6] [zm 4 0, zn 5 4, zd 6 .gtr 5 (.int .i64 40)])
 (.cond (.t 6) (.seq (.reg false [] [2] [zc 2 (.bool false)])
 .ret)
 .skip))
 (.seq (.seq (.reg false [] [0, 3] [zc 3 (.int .i64 0)])
 (.block 0 (.loop (.seq (.seq (.reg false [] [0, 3, 10] [zm 7 3, zm 8 0, zn 9 8, zb 10 .lss 7 9])
 (.cond (.t 10) .skip
 (.exit 0)))
 (.seq (.block 1 (.seq (.reg false [] [0, 3, 29] [zm 13 0, zm 14 3, zi 15 5 13 14, zL 16 5 15, zk 17 48 [(.t 16)], zt 18 17, zm 19 18, zg 19 false (zm 20 0), zg 19 false (zm 21 0), zg 19 false (zm 22 3), zg 19 false (zi 23 5 21 22), zg 19 false (zf 24 0 23), zg 19 false (zl 25 1 24), zg 19 false (zk 26 49 [(.t 20), (.t 25)]), zg 19 false (zm 27 3), zg 19 false (zb 28 .neq 26 27), ⟨some 29, .pick (.t 19) (.c (.bool true)) (.t 28), none⟩])
 (.cond (.t 29) (.seq (.reg false [] [2] [zc 2 (.bool false)])
 .ret)
 .skip)))
 (.reg false [] [0, 3] [zm 11 3, zd 12 .add 11 (.int .i64 1), zm 3 12]))))))
 (.seq (.reg false [] [2] [zc 2 (.bool true)])
 .ret)))) }

/-- sewershed/sewershedref47.ranges -/
def N34_ref47_ranges : NFun := { np := 3, nt := 28, res := [(6, none)], body :=
 (.seq (.reg false [] [0, 1, 2] [zc 6 (.bool false)])
 (.seq (.seq (.reg false [] [0, 1, 2, 7] [zc 7 (.int .i64 0)])
 (.block 0 (.loop (.seq (.seq (.reg false [] [0, 1, 2, 7, 11] [zm 8 7, zm 9 0, zn 10 9, zb 11 .lss 8 10])
 (.cond (.t 11) .skip
 (.exit 0)))
 (.seq (.block 1 (.seq (.reg false [] [0, 1, 2, 7, 27] [zm 14 0, zm 15 7, zi 16 1 14 15, zl 17 1 16, zm 18 1, zb 19 .lss 17 18, zm 20 19, zg 20 false (zm 21 0), zg 20 false (zm 22 7), zg 20 false (zi 23 1 21 22), zg 20 false (zl 24 1 23), zg 20 false (zm 25 2), zg 20 false (zb 26 .gtr 24 25), ⟨some 27, .pick (.t 20) (.c (.bool true)) (.t 26), none⟩])
 (.cond (.t 27) (.seq (.reg false [] [6] [zc 6 (.bool false)])
 .ret)
 .skip)))
 (.reg false [] [0, 1, 2, 7] [zm 12 7, zd 13 .add 12 (.int .i64 1), zm 7 13]))))))
 (.seq (.reg false [] [6] [zc 6 (.bool true)])
 .ret))) }

/-- slices.IndexFunc[[]int,int] -/
def N35_slices_IndexFunc__int_int : NFun := { np := 2, nt := 19, res := [(4, none)], body :=
 (.seq (.reg false [] [0, 1] [zc 4 (.int .i64 0)])
 (.seq (.seq (.reg false [] [0, 1, 7, 8] [zm 6 0, zn 7 6, zc 8 (.int .i64 0)])
 (.block 0 (.loop (.seq (.reg false [] [0, 1, 7, 8, 9] [zb 9 .lss 8 7])
 (.seq (.cond (.t 9) .skip
 (.exit 0))
 (.seq (.block 1 (.seq (.reg false [] [0, 1, 5, 7, 8] [zm 10 8, zm 5 10])
 (.seq (.reg false [] [0, 1, 5, 7, 8, 16] [zm 11 1, zm 12 0, zm 13 5, zi 14 1 12 13, zl 15 1 14, ⟨some 16, .callv (.t 11) [(.t 15)], none⟩])
 (.cond (.t 16) (.seq (.reg false [] [4] [zm 17 5, zm 4 17])
 .ret)
 .skip))))
 (.reg false [] [0, 1, 7, 8] [zd 18 .add 8 (.int .i64 1), zm 8 18])))))))
 (.seq (.reg false [] [4] [⟨some 4, .mov (.c (.int .i64 (-1))), none⟩])
 .ret))) }

/-- sewershed/sewershedref47.Possible -/
def N36_ref47_Possible : NFun := { np := 3, nt := 43, res := [(6, none)], body :=
 (.seq (.reg false [] [1, 2, 3] [zo 3 0, zc 6 (.bool false)])
 (.seq (.reg false [] [1, 3, 7] [zf 8 5 3, zl 9 1 8, zm 10 2, zi 11 5 9 10, zL 12 5 11, ⟨some 7, .alc [.str [], .int .i64 0, .int .i64 0, .own 2 [], .own 2 []], none⟩, ⟨none, .st 5 [] (.t 7) (.t 12), none⟩])
 (.seq (.reg true [0, 1, 0, 4, 0, 28, 60, 127, 255, 511, 511, 1535, 511, 4607, 511, 29183, 61951, 511, 131583, 511, 918015, 1966591, 4194303, 511, 8389119, 511, 58720767, 125829631, 268435455, 536870911, 1073741823] [6] [zf 13 1 7, zl 14 1 13, zf 15 4 3, zl 16 1 15, zm 17 1, zi 18 1 16 17, zl 19 1 18, zb 20 .leq 14 19, zm 21 20, zg 21 true (zL 22 5 7), zg 21 true (zf 23 1 7), zg 21 true (zl 24 1 23), zg 21 true (zf 25 3 3), zg 21 true (zl 26 1 25), zg 21 true (zm 27 1), zg 21 true (zi 28 1 26 27), zg 21 true (zl 29 1 28), zg 21 true (zf 30 1 3), zg 21 true (zl 31 1 30), zg 21 true (zm 32 1), zg 21 true (zi 33 1 31 32), zg 21 true (zl 34 1 33), zg 21 true (zk 35 50 [(.t 22), (.t 24), (.t 29), (.t 34)]), zg 21 true (zf 36 2 3), zg 21 true (zl 37 1 36), zg 21 true (zm 38 1), zg 21 true (zi 39 1 37 38), zg 21 true (zl 40 1 39), zg 21 true (zb 41 .geq 35 40), ⟨some 42, .pick (.t 21) (.t 41) (.c (.bool false)), none⟩, zm 6 42])
 .ret))) }

/-- (*sewershed/sizing.tree).values -/
def N39_sizing_tree_values : NFun := { np := 1, nt := 56, res := [(2, none)], body :=
 (.seq (.reg false [] [0] [zc 2 .nils])
 (.seq (.reg false [] [0, 3] [zm 7 0, ⟨some 8, .nck (.t 7), none⟩, zf 9 0 8, zf 10 0 9, zl 11 1 10, zn 12 11, ⟨some 13, .mks 1 24 [.own 1 []] (.t 12) (.t 12), none⟩, zq 3 13])
 (.seq (.seq (.reg false [] [0, 3, 15, 16] [zm 14 3, zn 15 14, zc 16 (.int .i64 0)])
 (.block 0 (.loop (.seq (.reg false [] [0, 3, 15, 16, 17] [zb 17 .lss 16 15])
 (.seq (.cond (.t 17) .skip
 (.exit 0))
 (.seq (.block 1 (.seq (.reg false [] [0, 3, 4, 15, 16] [zm 18 16, zm 4 18])
 (.seq (.reg false [] [0, 3, 4, 15, 16, 24, 25] [zm 19 0, ⟨some 20, .nck (.t 19), none⟩, zf 21 0 20, zf 22 5 21, zl 23 1 22, zn 24 23, zc 25 (.int .i64 0)])
 (.block 2 (.loop (.seq (.reg false [] [0, 3, 4, 15, 16, 24, 25, 26] [zb 26 .lss 25 24])
 (.seq (.cond (.t 26) .skip
 (.exit 2))
 (.seq (.block 3 (.seq (.reg false [] [0, 3, 4, 5, 15, 16, 24, 25] [zm 27 25, zm 5 27])
 (.seq (.reg false [] [0, 3, 4, 5, 6, 15, 16, 24, 25] [⟨some 6, .mov (.c (.int .i64 (-1))), none⟩])
 (.seq (.seq (.reg false [] [0, 3, 4, 5, 6, 15, 16, 24, 25, 37] [zm 28 0, ⟨some 29, .nck (.t 28), none⟩, zf 30 6 29, zl 31 1 30, zm 32 4, zi 33 1 31 32, zl 34 1 33, zm 35 5, zi 36 1 34 35, zl 37 1 36])
 (.cond (.t 37) (.reg false [] [0, 3, 4, 6, 15, 16, 24, 25] [zm 38 0, zm 39 3, zm 40 4, zm 41 5, zk 42 31 [(.t 38), (.t 39), (.t 40), (.t 41)], zm 6 42])
 .skip))
 (.reg false [] [0, 3, 4, 15, 16, 24, 25] [zm 43 3, zm 44 4, zm 45 3, zm 46 4, zi 47 1 45 46, zl 48 1 47, zm 49 6, ⟨some 50, .bls 1 1 [.int .i64 0] [] [(0, (.t 49))], none⟩, ⟨some 51, .app 1 8 false (.t 48) (.t 50), none⟩, zi 52 1 43 44, ⟨none, .st 1 [] (.t 52) (.t 51), none⟩])))))
 (.reg false [] [0, 3, 4, 15, 16, 24, 25] [zd 53 .add 25 (.int .i64 1), zm 25 53])))))))))
 (.reg false [] [0, 3, 15, 16] [zd 54 .add 16 (.int .i64 1), zm 16 54])))))))
 (.seq (.reg false [] [2] [zq 55 3, zq 2 55])
 .ret)))) }

/-- (*sewershed/sizing.tree).least -/
def N40_sizing_tree_least : NFun := { np := 4, nt := 62, res := [(8, none), (9, none)], body :=
 (.seq (.reg false [] [0, 1, 2, 3] [zc 8 (.int .i64 0), zc 9 (.int .i64 0)])
 (.seq (.reg false [] [0, 1, 2, 3, 10, 11] [⟨some 10, .mov (.c (.int .i64 (-1))), none⟩, ⟨some 11, .mov (.c (.int .i64 (-1))), none⟩])
 (.seq (.seq (.reg false [] [0, 2, 3, 10, 11, 14, 15, 16] [zq 14 1, zn 15 14, zc 16 (.int .i64 0)])
 (.block 0 (.loop (.seq (.reg false [] [0, 2, 3, 10, 11, 14, 15, 16, 17] [zb 17 .lss 16 15])
 (.seq (.cond (.t 17) .skip
 (.exit 0))
 (.seq (.block 1 (.seq (.reg false [] [0, 2, 3, 10, 11, 12, 13, 14, 15, 16] [zm 18 16, zi 19 1 14 16, zl 20 1 19, zm 12 18, zm 13 20])
 (.seq (.reg false [] [0, 2, 3, 10, 11, 12, 13, 14, 15, 16, 56] [zm 21 13, ⟨some 22, .bin .neq (.t 21) (.c (.int .i64 (-1))), none⟩, zm 23 22, zg 23 true (zm 24 0), zg 23 true (⟨some 25, .nck (.t 24), none⟩), zg 23 true (zf 26 6 25), zg 23 true (zl 27 1 26), zg 23 true (zm 28 2), zg 23 true (zi 29 1 27 28), zg 23 true (zl 30 1 29), zg 23 true (zm 31 12), zg 23 true (zi 32 1 30 31), zg 23 true (zl 33 1 32), ⟨some 34, .pick (.t 23) (.t 33) (.c (.bool false)), none⟩, zm 35 34, zg 35 true (zm 36 0), zg 35 true (⟨some 37, .nck (.t 36), none⟩), zg 35 true (zf 38 0 37), zg 35 true (zf 39 5 38), zg 35 true (zl 40 1 39), zg 35 true (zm 41 12), zg 35 true (zi 42 5 40 41), zg 35 true (zf 43 1 42), zg 35 true (zl 44 1 43), zg 35 true (zm 45 3), zg 35 true (zb 46 .leq 44 45), ⟨some 47, .pick (.t 35) (.t 46) (.c (.bool false)), none⟩, zm 48 47, zg 48 true (zm 49 10), zg 48 true (⟨some 50, .bin .eql (.t 49) (.c (.int .i64 (-1))), none⟩), zg 48 true (zm 51 50), zg 51 false (zm 52 13), zg 51 false (zm 53 10), zg 51 false (zb 54 .lss 52 53), zg 48 true (⟨some 55, .pick (.t 51) (.c (.bool true)) (.t 54), none⟩), ⟨some 56, .pick (.t 48) (.t 55) (.c (.bool false)), none⟩])
 (.cond (.t 56) (.reg false [] [0, 2, 3, 10, 11, 14, 15, 16] [zm 57 13, zm 58 12, zm 10 57, zm 11 58])
 .skip))))
 (.reg false [] [0, 2, 3, 10, 11, 14, 15, 16] [zd 59 .add 16 (.int .i64 1), zm 16 59])))))))
 (.seq (.reg false [] [8, 9] [zm 60 10, zm 61 11, zm 8 60, zm 9 61])
 .ret)))) }

/-- sewershed/sewershedlaw47.section -/
def N43_law47_section : NFun := { np := 3, nt := 24, res := [(6, some (5, true))], body :=
 (.seq (.reg false [] [0, 1, 2, 6] [⟨some 6, .alc [.str [], .int .i64 0, .int .i64 0, .own 2 [], .own 2 []], none⟩])
 (.seq (.reg false [] [6] [zm 7 0, zm 8 1, zm 9 2, ⟨some 10, .bld [.int .i64 0, .int .i64 0] [], none⟩, zm 11 1, zm 12 1, zm 13 1, zb 14 .mul 12 13, ⟨some 15, .bld [.int .i64 0, .int .i64 0] [(0, 1, (.t 11)), (1, 1, (.t 14))], none⟩, ⟨some 16, .bls 2 2 [.int .i64 0, .int .i64 0] [] [(0, (.t 10)), (1, (.t 15))], none⟩, ⟨some 17, .bld [.int .i64 0, .int .i64 0] [], none⟩, zm 18 1, zm 19 1, ⟨some 20, .bin .mul (.c (.int .i64 1000)) (.t 19), none⟩, ⟨some 21, .bld [.int .i64 0, .int .i64 0] [(0, 1, (.t 18)), (1, 1, (.t 20))], none⟩, ⟨some 22, .bls 2 2 [.int .i64 0, .int .i64 0] [] [(0, (.t 17)), (1, (.t 21))], none⟩, ⟨some 23, .bld [.str [], .int .i64 0, .int .i64 0, .nils, .nils] [(0, 1, (.t 7)), (1, 1, (.t 8)), (2, 1, (.t 9)), (3, 1, (.t 16)), (4, 1, (.t 22))], none⟩, ⟨none, .st 5 [] (.t 6) (.t 23), none⟩])
 .ret)) }

/-- sewershed/catalogue.Valid -/
def N44_catalogue_Valid : NFun := { np := 1, nt := 29, res := [(2, none)], body :=
 (.seq (.reg false [] [0] [zc 2 (.bool false)])
 (.seq (.seq (.reg false [] [0, 8] [zm 6 0, zn 7 6, zd 8 .gtr 7 (.int .i64 40)])
 (.cond (.t 8) (.seq (.reg false [] [2] [zc 2 (.bool false)])
 .ret)
 .skip))
 (.seq (.reg false [] [0, 3] [⟨some 9, .mkm 0 1, none⟩, zm 3 9])
 (.seq (.seq (.reg false [] [3, 10, 11, 12] [zq 10 0, zn 11 10, zc 12 (.int .i64 0)])
 (.block 0 (.loop (.seq (.reg false [] [3, 10, 11, 12, 13] [zb 13 .lss 12 11])
 (.seq (.cond (.t 13) .skip
 (.exit 0))
 (.seq (.block 1 (.seq (.reg false [] [3, 5, 10, 11, 12] [zi 14 5 10 12, zL 15 5 14, ⟨some 5, .alc [.str [], .int .i64 0, .int .i64 0, .own 2 [], .own 2 []], none⟩, ⟨none, .st 5 [] (.t 5) (.t 15), none⟩])
 (.seq (.seq (.reg false [] [3, 5, 10, 11, 12, 24] [zL 16 5 5, zk 17 51 [(.t 16)], zt 18 17, zm 19 18, zg 19 false (zm 20 3), zg 19 false (zf 21 0 5), zg 19 false (zl 22 1 21), zg 19 false (⟨some 23, .mpl .str 0 1 false (.bool false) (.t 20) (.t 22), none⟩), ⟨some 24, .pick (.t 19) (.c (.bool true)) (.t 23), none⟩])
 (.cond (.t 24) (.seq (.reg false [] [2] [zc 2 (.bool false)])
 .ret)
 .skip))
 (.reg false [] [3, 10, 11, 12] [zm 25 3, zf 26 0 5, zl 27 1 26, ⟨none, .mpu .str 0 1 (.bool false) (.t 25) (.t 27) (.c (.bool true)), none⟩]))))
 (.reg false [] [3, 10, 11, 12] [zd 28 .add 12 (.int .i64 1), zm 12 28])))))))
 (.seq (.reg false [] [2] [zc 2 (.bool true)])
 .ret))))) }

/-- slices.ContainsFunc[[]sewershed/api.Section,sewershed/api.Section] -/
def N45_slices_ContainsFunc__api_Section_api_Section : NFun := { np := 2, nt := 9, res := [(4, none)], body :=
 (.seq (.reg false [] [0, 1] [zc 4 (.bool false)])
 (.seq (.reg false [] [4] [zq 5 0, zm 6 1, zk 7 52 [(.t 5), (.t 6)], zd 8 .geq 7 (.int .i64 0), zm 4 8])
 .ret)) }

/-- sewershed/sewershedlaw47.many$1 -/
def N46_law47_many_1 : NFun := { np := 1, nt := 19, res := [(2, none)], body :=
 (.seq (.reg false [] [1] [zo 1 0, zc 2 (.bool false)])
 (.seq (.reg false [] [2] [zf 3 3 1, zl 4 1 3, zn 5 4, zd 6 .gtr 5 (.int .i64 20), zm 7 6, zg 7 false (zf 8 4 1), zg 7 false (zl 9 1 8), zg 7 false (zn 10 9), zg 7 false (zd 11 .gtr 10 (.int .i64 20)), ⟨some 12, .pick (.t 7) (.c (.bool true)) (.t 11), none⟩, zm 13 12, zg 13 false (zf 14 0 1), zg 13 false (zl 15 1 14), zg 13 false (⟨some 16, .lens (.t 15), none⟩), zg 13 false (zd 17 .gtr 16 (.int .i64 60)), ⟨some 18, .pick (.t 13) (.c (.bool true)) (.t 17), none⟩, zm 2 18])
 .ret)) }

/-- sewershed/catalogue.Full -/
def N47_catalogue_Full : NFun := { np := 3, nt := 16, res := [(6, none), (7, none)], body :=
 (.seq (.reg false [] [1, 2, 3] [zo 3 0, zc 6 (.int .i64 0), zc 7 (.int .i64 0)])
 (.seq (.reg false [] [6, 7] [zL 8 5 3, zf 9 1 3, zl 10 1 9, zm 11 1, zm 12 2, zk 13 53 [(.t 8), (.t 10), (.t 11), (.t 12)], zx 14 0 13, zx 15 1 13, zm 6 14, zm 7 15])
 .ret)) }

/-- sewershed/sewershedref28.Right -/
def N48_ref28_Right : NFun := { np := 1, nt := 39, res := [(2, none)], body :=
 (.seq (.reg false [] [1] [zo 1 0, zc 2 (.bool false)])
 (.seq (.seq (.reg false [] [1, 26] [zf 3 0 1, zl 4 1 3, zk 5 54 [(.t 4)], zt 6 5, zm 7 6, zg 7 false (zf 8 1 1), zg 7 false (zl 9 1 8), zg 7 false (zd 10 .lss 9 (.int .i64 1)), ⟨some 11, .pick (.t 7) (.c (.bool true)) (.t 10), none⟩, zm 12 11, zg 12 false (zf 13 1 1), zg 12 false (zl 14 1 13), zg 12 false (zd 15 .gtr 14 (.int .i64 32768)), ⟨some 16, .pick (.t 12) (.c (.bool true)) (.t 15), none⟩, zm 17 16, zg 17 false (zf 18 2 1), zg 17 false (zl 19 1 18), zg 17 false (zd 20 .lss 19 (.int .i64 0)), ⟨some 21, .pick (.t 17) (.c (.bool true)) (.t 20), none⟩, zm 22 21, zg 22 false (zf 23 2 1), zg 22 false (zl 24 1 23), zg 22 false (zd 25 .gtr 24 (.int .i64 1073741824)), ⟨some 26, .pick (.t 22) (.c (.bool true)) (.t 25), none⟩])
 (.cond (.t 26) (.seq (.reg false [] [2] [zc 2 (.bool false)])
 .ret)
 .skip))
 (.seq (.reg false [] [2] [zf 27 3 1, zl 28 1 27, zf 29 1 1, zl 30 1 29, zk 31 55 [(.t 28), (.t 30), (.c (.int .i64 1073741824))], zm 32 31, zg 32 true (zf 33 4 1), zg 32 true (zl 34 1 33), zg 32 true (zf 35 1 1), zg 32 true (zl 36 1 35), zg 32 true (zk 37 55 [(.t 34), (.t 36), (.c (.int .i64 1099511627776))]), ⟨some 38, .pick (.t 32) (.t 37) (.c (.bool false)), none⟩, zm 2 38])
 .ret))) }

/-- sewershed/sewershedref28.Find -/
def N49_ref28_Find : NFun := { np := 2, nt := 20, res := [(4, none)], body :=
 (.seq (.reg false [] [0, 1] [zc 4 (.int .i64 0)])
 (.seq (.seq (.reg false [] [0, 1, 5] [zc 5 (.int .i64 0)])
 (.block 0 (.loop (.seq (.seq (.reg false [] [0, 1, 5, 9] [zm 6 5, zm 7 0, zn 8 7, zb 9 .lss 6 8])
 (.cond (.t 9) .skip
 (.exit 0)))
 (.seq (.block 1 (.seq (.reg false [] [0, 1, 5, 18] [zm 12 0, zm 13 5, zi 14 5 12 13, zf 15 0 14, zl 16 1 15, zm 17 1, zb 18 .eql 16 17])
 (.cond (.t 18) (.seq (.reg false [] [4] [zm 19 5, zm 4 19])
 .ret)
 .skip)))
 (.reg false [] [0, 1, 5] [zm 10 5, zd 11 .add 10 (.int .i64 1), zm 5 11]))))))
 (.seq (.reg false [] [4] [⟨some 4, .mov (.c (.int .i64 (-1))), none⟩])
 .ret))) }

/-- sewershed/sewershedref28.Carried -/
def N50_ref28_Carried : NFun := { np := 4, nt := 20, res := [(8, none)], body :=
 (.seq (.reg false [] [1, 2, 3, 4] [zo 4 0, zc 8 (.int .i64 0)])
 (.seq (.reg false [] [2, 3, 9] [zf 10 4 4, zl 11 1 10, zm 12 1, zk 13 56 [(.t 11), (.t 12)], zm 9 13])
 (.seq (.reg false [] [8] [zm 14 9, zm 15 9, zm 16 2, zb 17 .mul 15 16, zm 18 3, zk 19 57 [(.t 14), (.t 17), (.t 18)], zm 8 19])
 .ret))) }

/-- sewershed/catalogue.valid -/
def N51_catalogue_valid : NFun := { np := 1, nt := 40, res := [(2, none)], body :=
 (.seq (.reg false [] [1] [zo 1 0, zc 2 (.bool false)])
 (.seq (.reg false [] [2] [zf 3 0 1, zl 4 1 3, zk 5 58 [(.t 4)], zm 6 5, zg 6 true (zf 7 1 1), zg 6 true (zl 8 1 7), zg 6 true (zd 9 .geq 8 (.int .i64 1)), ⟨some 10, .pick (.t 6) (.t 9) (.c (.bool false)), none⟩, zm 11 10, zg 11 true (zf 12 1 1), zg 11 true (zl 13 1 12), zg 11 true (zd 14 .leq 13 (.int .i64 32768)), ⟨some 15, .pick (.t 11) (.t 14) (.c (.bool false)), none⟩, zm 16 15, zg 16 true (zf 17 2 1), zg 16 true (zl 18 1 17), zg 16 true (zd 19 .geq 18 (.int .i64 0)), ⟨some 20, .pick (.t 16) (.t 19) (.c (.bool false)), none⟩, zm 21 20, zg 21 true (zf 22 2 1), zg 21 true (zl 23 1 22), zg 21 true (zd 24 .leq 23 (.int .i64 1073741824)), ⟨some 25, .pick (.t 21) (.t 24) (.c (.bool false)), none⟩, zm 26 25, zg 26 true (zf 27 3 1), zg 26 true (zl 28 1 27), zg 26 true (zf 29 1 1), zg 26 true (zl 30 1 29), zg 26 true (zk 31 59 [(.t 28), (.t 30), (.c (.int .i64 1073741824))]), ⟨some 32, .pick (.t 26) (.t 31) (.c (.bool false)), none⟩, zm 33 32, zg 33 true (zf 34 4 1), zg 33 true (zl 35 1 34), zg 33 true (zf 36 1 1), zg 33 true (zl 37 1 36), zg 33 true (zk 38 59 [(.t 35), (.t 37), (.c (.int .i64 1099511627776))]), ⟨some 39, .pick (.t 33) (.t 38) (.c (.bool false)), none⟩, zm 2 39])
 .ret)) }

/-- slices.IndexFunc[[]sewershed/api.Section,sewershed/api.Section] -/
def N52_slices_IndexFunc__api_Section_api_Section : NFun := { np := 2, nt := 19, res := [(4, none)], body :=
 (.seq (.reg false [] [0, 1] [zc 4 (.int .i64 0)])
 (.seq (.seq (.reg false [] [0, 1, 7, 8] [zm 6 0, zn 7 6, zc 8 (.int .i64 0)])
 (.block 0 (.loop (.seq (.reg false [] [0, 1, 7, 8, 9] [zb 9 .lss 8 7])
 (.seq (.cond (.t 9) .skip
 (.exit 0))
 (.seq (.block 1 (.seq (.reg false [] [0, 1, 5, 7, 8] [zm 10 8, zm 5 10])
 (.seq (.reg false [] [0, 1, 5, 7, 8, 16] [zm 11 1, zm 12 0, zm 13 5, zi 14 5 12 13, zL 15 5 14, ⟨some 16, .callv (.t 11) [(.t 15)], none⟩])
 (.cond (.t 16) (.seq (.reg false [] [4] [zm 17 5, zm 4 17])
 .ret)
 .skip))))
 (.reg false [] [0, 1, 7, 8] [zd 18 .add 8 (.int .i64 1), zm 8 18])))))))
 (.seq (.reg false [] [4] [⟨some 4, .mov (.c (.int .i64 (-1))), none⟩])
 .ret))) }

/-- sewershed/catalogue.Capacity -/
def N53_catalogue_Capacity : NFun := { np := 4, nt := 47, res := [(8, none), (9, none)], body :=
 (.seq (.reg false [] [1, 2, 3, 4] [zo 4 0, zc 8 (.int .i64 0), zc 9 (.int .i64 0)])
 (.seq (.block 0 (.seq (.reg false [] [1, 2, 3, 4, 12] [zL 13 5 4, zk 14 51 [(.t 13)], zt 15 14, zm 12 15])
 (.cond (.t 12) (.seq (.reg false [] [8, 9] [zc 8 (.int .i64 0), zc 9 (.int .i64 1)])
 .ret)
 (.seq (.reg false [] [1, 2, 3, 4, 16] [zm 17 1, zd 18 .lss 17 (.int .i64 0), zm 19 18, zg 19 false (zm 20 1), zg 19 false (zf 21 1 4), zg 19 false (zl 22 1 21), zg 19 false (zb 23 .gtr 20 22), ⟨some 24, .pick (.t 19) (.c (.bool true)) (.t 23), none⟩, zm 25 24, zg 25 false (zm 26 2), zg 25 false (zm 27 3), zg 25 false (zk 28 60 [(.t 26), (.t 27)]), zg 25 false (zt 29 28), ⟨some 30, .pick (.t 25) (.c (.bool true)) (.t 29), none⟩, zm 16 30])
 (.cond (.t 16) (.seq (.reg false [] [8, 9] [zc 8 (.int .i64 0), zc 9 (.int .i64 2)])
 .ret)
 .skip)))))
 (.seq (.reg false [] [10, 11] [zL 32 5 4, zm 33 1, zm 34 2, zm 35 3, zk 36 61 [(.t 32), (.t 33), (.t 34), (.t 35)], zm 31 36, zx 37 0 31, zx 38 1 31, zm 10 37, zm 11 38])
 (.seq (.block 1 (.seq (.reg false [] [10, 11, 39] [zm 40 11, zd 41 .neq 40 (.int .i64 0), zm 39 41])
 (.cond (.t 39) (.seq (.reg false [] [8, 9] [zm 42 11, zc 8 (.int .i64 0), zm 9 42])
 .ret)
 (.seq (.reg false [] [10, 43] [zm 44 10, zd 45 .gtr 44 (.int .i64 1099511627776), zm 43 45])
 (.cond (.t 43) (.seq (.reg false [] [8, 9] [zc 8 (.int .i64 0), zc 9 (.int .i64 5)])
 .ret)
 .skip)))))
 (.seq (.reg false [] [8, 9] [zm 46 10, zm 8 46, zc 9 (.int .i64 0)])
 .ret))))) }

/-- sewershed/sewershedref01.IsName -/
def N54_ref01_IsName : NFun := { np := 1, nt := 22, res := [(2, none)], body :=
 (.seq (.reg false [] [0] [zc 2 (.bool false)])
 (.seq (.seq (.reg false [] [0, 16] [zm 3 0, ⟨some 4, .lens (.t 3), none⟩, zd 5 .eql 4 (.int .i64 0), zm 6 5, zg 6 false (zm 7 0), zg 6 false (⟨some 8, .lens (.t 7), none⟩), zg 6 false (zd 9 .gtr 8 (.int .i64 20)), ⟨some 10, .pick (.t 6) (.c (.bool true)) (.t 9), none⟩, zm 11 10, zg 11 false (zm 12 0), zg 11 false (⟨some 13, .idxS (.t 12) (.c (.int .i64 0)), none⟩), zg 11 false (zk 14 62 [(.t 13)]), zg 11 false (zt 15 14), ⟨some 16, .pick (.t 11) (.c (.bool true)) (.t 15), none⟩])
 (.cond (.t 16) (.seq (.reg false [] [2] [zc 2 (.bool false)])
 .ret)
 .skip))
 (.seq (.reg false [] [2] [zm 17 0, zk 18 63 [(.t 17), (.c (.int .i64 0))], zm 19 0, ⟨some 20, .lens (.t 19), none⟩, zb 21 .eql 18 20, zm 2 21])
 .ret))) }

/-- sewershed/sewershedref28.fits -/
def N55_ref28_fits : NFun := { np := 3, nt := 41, res := [(6, none)], body :=
 (.seq (.reg false [] [0, 1, 2] [zc 6 (.bool false)])
 (.seq (.seq (.reg false [] [0, 1, 2, 10] [zm 8 0, zk 9 64 [(.t 8)], zt 10 9])
 (.cond (.t 10) (.seq (.reg false [] [6] [zc 6 (.bool false)])
 .ret)
 .skip))
 (.seq (.reg false [] [0, 1, 2, 7] [zm 11 0, zm 12 0, zn 13 12, zd 14 .sub 13 (.int .i64 1), zi 15 2 11 14, zL 16 2 15, ⟨some 7, .alc [.int .i64 0, .int .i64 0], none⟩, ⟨none, .st 2 [] (.t 7) (.t 16), none⟩])
 (.seq (.reg false [] [6] [zm 17 0, ⟨some 18, .iadS 2 (.t 17) (.c (.int .i64 0)), none⟩, zf 19 0 18, zl 20 1 19, zd 21 .eql 20 (.int .i64 0), zm 22 21, zg 22 true (zq 23 0), zg 22 true (⟨some 24, .iadS 2 (.t 23) (.c (.int .i64 0)), none⟩), zg 22 true (zf 25 1 24), zg 22 true (zl 26 1 25), zg 22 true (zd 27 .eql 26 (.int .i64 0)), ⟨some 28, .pick (.t 22) (.t 27) (.c (.bool false)), none⟩, zm 29 28, zg 29 true (zf 30 0 7), zg 29 true (zl 31 1 30), zg 29 true (zm 32 1), zg 29 true (zb 33 .eql 31 32), ⟨some 34, .pick (.t 29) (.t 33) (.c (.bool false)), none⟩, zm 35 34, zg 35 true (zf 36 1 7), zg 35 true (zl 37 1 36), zg 35 true (zm 38 2), zg 35 true (zb 39 .leq 37 38), ⟨some 40, .pick (.t 35) (.t 39) (.c (.bool false)), none⟩, zm 6 40])
 .ret)))) }

/-- sewershed/sewershedref06.Floor -/
def N56_ref06_Floor : NFun := { np := 2, nt := 16, res := [(4, none)], body :=
 (.seq (.reg false [] [0, 1] [zc 4 (.int .i64 0)])
 (.seq (.reg false [] [5] [zq 9 0, zm 10 1, zk 11 65 [(.t 9), (.t 10)], zm 8 11, zx 12 0 8, zx 13 1 8, zx 14 2 8, zm 5 12, zm 6 13, zm 7 14])
 (.seq (.reg false [] [4] [zm 15 5, zm 4 15])
 .ret))) }

/-- sewershed/sewershedref28.Root -/
def N57_ref28_Root : NFun := { np := 3, nt := 18, res := [(6, none)], body :=
 (.seq (.reg false [] [0, 1, 2] [zc 6 (.int .i64 0)])
 (.seq (.reg false [] [7] [zm 8 0, zm 9 1, zk 10 67 [(.t 8), (.t 9)], zm 11 2, zk 12 68 [(.t 11)], zk 13 66 [(.t 10), (.t 12)], ⟨some 7, .alc [.int .u64 0, .int .u64 0, .bool false], none⟩, ⟨none, .st 3 [] (.t 7) (.t 13), none⟩])
 (.seq (.reg false [] [6] [zf 14 0 7, zL 15 2 14, zk 16 69 [(.t 15)], ⟨some 17, .conv .i64 (.t 16), none⟩, zm 6 17])
 .ret))) }

/-- sewershed/decimal.IsName -/
def N58_decimal_IsName : NFun := { np := 1, nt := 22, res := [(2, none)], body :=
 (.seq (.reg false [] [0] [zc 2 (.bool false)])
 (.seq (.reg false [] [2] [zm 3 0, zd 4 .neq 3 (.str []), zm 5 4, zg 5 true (zm 6 0), zg 5 true (⟨some 7, .lens (.t 6), none⟩), zg 5 true (zd 8 .leq 7 (.int .i64 20)), ⟨some 9, .pick (.t 5) (.t 8) (.c (.bool false)), none⟩, zm 10 9, zg 10 true (zm 11 0), zg 10 true (⟨some 12, .idxS (.t 11) (.c (.int .i64 0)), none⟩), zg 10 true (zk 13 70 [(.t 12)]), ⟨some 14, .pick (.t 10) (.t 13) (.c (.bool false)), none⟩, zm 15 14, zg 15 true (zm 16 0), zg 15 true (zk 17 71 [(.t 16)]), zg 15 true (zm 18 0), zg 15 true (⟨some 19, .lens (.t 18), none⟩), zg 15 true (zb 20 .eql 17 19), ⟨some 21, .pick (.t 15) (.t 20) (.c (.bool false)), none⟩, zm 2 21])
 .ret)) }

/-- sewershed/catalogue.curve -/
def N59_catalogue_curve : NFun := { np := 3, nt := 34, res := [(6, none)], body :=
 (.seq (.reg false [] [0, 1, 2] [zc 6 (.bool false)])
 (.seq (.seq (.reg false [] [0, 1, 2, 10] [zm 8 0, zk 9 72 [(.t 8)], zt 10 9])
 (.cond (.t 10) (.seq (.reg false [] [6] [zc 6 (.bool false)])
 .ret)
 .skip))
 (.seq (.reg false [] [0, 1, 2, 7] [zm 11 0, zm 12 0, zn 13 12, zd 14 .sub 13 (.int .i64 1), zi 15 2 11 14, zL 16 2 15, ⟨some 7, .alc [.int .i64 0, .int .i64 0], none⟩, ⟨none, .st 2 [] (.t 7) (.t 16), none⟩])
 (.seq (.reg false [] [6] [zq 17 0, ⟨some 18, .iadS 2 (.t 17) (.c (.int .i64 0)), none⟩, zL 19 2 18, ⟨some 20, .bld [.int .i64 0, .int .i64 0] [], none⟩, ⟨some 21, .beq false [0, 0] (.t 19) (.t 20), none⟩, zm 22 21, zg 22 true (zf 23 0 7), zg 22 true (zl 24 1 23), zg 22 true (zm 25 1), zg 22 true (zb 26 .eql 24 25), ⟨some 27, .pick (.t 22) (.t 26) (.c (.bool false)), none⟩, zm 28 27, zg 28 true (zf 29 1 7), zg 28 true (zl 30 1 29), zg 28 true (zm 31 2), zg 28 true (zb 32 .leq 30 31), ⟨some 33, .pick (.t 28) (.t 32) (.c (.bool false)), none⟩, zm 6 33])
 .ret)))) }

/-- sewershed/catalogue.slope -/
def N60_catalogue_slope : NFun := { np := 2, nt := 19, res := [(4, none)], body :=
 (.seq (.reg false [] [0, 1] [zc 4 (.bool false)])
 (.seq (.reg false [] [4] [zm 5 0, zd 6 .geq 5 (.int .i64 0), zm 7 6, zg 7 true (zm 8 0), zg 7 true (zd 9 .leq 8 (.int .i64 4194304)), ⟨some 10, .pick (.t 7) (.t 9) (.c (.bool false)), none⟩, zm 11 10, zg 11 true (zm 12 1), zg 11 true (zd 13 .geq 12 (.int .i64 1)), ⟨some 14, .pick (.t 11) (.t 13) (.c (.bool false)), none⟩, zm 15 14, zg 15 true (zm 16 1), zg 15 true (zd 17 .leq 16 (.int .i64 16777216)), ⟨some 18, .pick (.t 15) (.t 17) (.c (.bool false)), none⟩, zm 4 18])
 .ret)) }

/-- sewershed/catalogue.carried -/
def N61_catalogue_carried : NFun := { np := 4, nt := 30, res := [(8, none), (9, none)], body :=
 (.seq (.reg false [] [1, 2, 3, 4] [zo 4 0, zc 8 (.int .i64 0), zc 9 (.int .i64 0)])
 (.seq (.reg false [] [2, 3, 10, 11] [zf 13 4 4, zl 14 1 13, zm 15 1, zk 16 73 [(.t 14), (.t 15)], zm 12 16, zx 17 0 12, zx 18 1 12, zm 10 17, zm 11 18])
 (.seq (.seq (.reg false [] [2, 3, 10, 11, 20] [zm 19 11, zd 20 .neq 19 (.int .i64 0)])
 (.cond (.t 20) (.seq (.reg false [] [8, 9] [zm 21 11, zc 8 (.int .i64 0), zm 9 21])
 .ret)
 .skip))
 (.seq (.reg false [] [8, 9] [zm 22 10, zm 23 10, zk 24 74 [(.t 22), (.t 23)], zm 25 2, zk 26 75 [(.t 24), (.t 25)], zm 27 3, zk 28 76 [(.t 26), (.t 27)], zk 29 77 [(.t 28)], zm 8 29, zc 9 (.int .i64 0)])
 .ret)))) }

/-- sewershed/sewershedref01.Letter -/
def N62_ref01_Letter : NFun := { np := 1, nt := 17, res := [(2, none)], body :=
 (.seq (.reg false [] [0] [zc 2 (.bool false)])
 (.seq (.reg false [] [2] [zm 3 0, zd 4 .geq 3 (.int .u8 97), zm 5 4, zg 5 true (zm 6 0), zg 5 true (zd 7 .leq 6 (.int .u8 122)), ⟨some 8, .pick (.t 5) (.t 7) (.c (.bool false)), none⟩, zm 9 8, zg 9 false (zm 10 0), zg 9 false (zd 11 .geq 10 (.int .u8 65)), zg 9 false (zm 12 11), zg 12 true (zm 13 0), zg 12 true (zd 14 .leq 13 (.int .u8 90)), zg 9 false (⟨some 15, .pick (.t 12) (.t 14) (.c (.bool false)), none⟩), ⟨some 16, .pick (.t 9) (.c (.bool true)) (.t 15), none⟩, zm 2 16])
 .ret)) }

/-- sewershed/sewershedref01.word -/
def N63_ref01_word : NFun := { np := 2, nt := 30, res := [(4, none)], body :=
 (.seq (.reg false [] [0, 1] [zc 4 (.int .i64 0)])
 (.seq (.block 0 (.loop (.seq (.seq (.reg false [] [0, 1, 26] [zm 5 1, zm 6 0, ⟨some 7, .lens (.t 6), none⟩, zb 8 .lss 5 7, zm 9 8, zg 9 true (zm 10 0), zg 9 true (zm 11 1), zg 9 true (⟨some 12, .idxS (.t 10) (.t 11), none⟩), zg 9 true (zk 13 62 [(.t 12)]), zg 9 true (zm 14 13), zg 14 false (zm 15 0), zg 14 false (zm 16 1), zg 14 false (⟨some 17, .idxS (.t 15) (.t 16), none⟩), zg 14 false (zk 18 78 [(.t 17)]), zg 9 true (⟨some 19, .pick (.t 14) (.c (.bool true)) (.t 18), none⟩), zg 9 true (zm 20 19), zg 20 false (zm 21 0), zg 20 false (zm 22 1), zg 20 false (⟨some 23, .idxS (.t 21) (.t 22), none⟩), zg 20 false (zd 24 .eql 23 (.int .u8 95)), zg 9 true (⟨some 25, .pick (.t 20) (.c (.bool true)) (.t 24), none⟩), ⟨some 26, .pick (.t 9) (.t 25) (.c (.bool false)), none⟩])
 (.cond (.t 26) .skip
 (.exit 0)))
 (.block 1 (.reg false [] [0, 1] [zm 27 1, zd 28 .add 27 (.int .i64 1), zm 1 28])))))
 (.seq (.reg false [] [4] [zm 29 1, zm 4 29])
 .ret))) }

/-- sewershed/sewershedref06.Valid -/
def N64_ref06_Valid : NFun := { np := 1, nt := 64, res := [(2, none)], body :=
 (.seq (.reg false [] [0] [zc 2 (.bool false)])
 (.seq (.seq (.reg false [] [0, 11] [zm 4 0, zn 5 4, zd 6 .lss 5 (.int .i64 1), zm 7 6, zg 7 false (zm 8 0), zg 7 false (zn 9 8), zg 7 false (zd 10 .gtr 9 (.int .i64 100)), ⟨some 11, .pick (.t 7) (.c (.bool true)) (.t 10), none⟩])
 (.cond (.t 11) (.seq (.reg false [] [2] [zc 2 (.bool false)])
 .ret)
 .skip))
 (.seq (.seq (.reg false [] [0, 3] [zc 3 (.int .i64 0)])
 (.block 0 (.loop (.seq (.seq (.reg false [] [0, 3, 15] [zm 12 3, zm 13 0, zn 14 13, zb 15 .lss 12 14])
 (.cond (.t 15) .skip
 (.exit 0)))
 (.seq (.block 1 (.seq (.seq (.reg false [] [0, 3, 33] [zm 18 0, zm 19 3, zi 20 2 18 19, zf 21 0 20, zl 22 1 21, zk 23 79 [(.t 22)], zt 24 23, zm 25 24, zg 25 false (zm 26 0), zg 25 false (zm 27 3), zg 25 false (zi 28 2 26 27), zg 25 false (zf 29 1 28), zg 25 false (zl 30 1 29), zg 25 false (zk 31 79 [(.t 30)]), zg 25 false (zt 32 31), ⟨some 33, .pick (.t 25) (.c (.bool true)) (.t 32), none⟩])
 (.cond (.t 33) (.seq (.reg false [] [2] [zc 2 (.bool false)])
 .ret)
 .skip))
 (.seq (.reg true [0, 1, 3, 7, 7, 31, 63, 127, 7, 7, 519, 1799, 3847, 7943, 16383, 32767, 65535, 65535, 262143, 524287, 1048575, 65535, 65535, 4259839, 14745599, 31522815, 65077247, 134217727, 268435455, 536870911] [0, 3, 63] [zm 34 3, zd 35 .gtr 34 (.int .i64 0), zm 36 35, zg 36 true (zm 37 0), zg 36 true (zm 38 3), zg 36 true (zi 39 2 37 38), zg 36 true (zf 40 0 39), zg 36 true (zl 41 1 40), zg 36 true (zm 42 0), zg 36 true (zm 43 3), zg 36 true (zd 44 .sub 43 (.int .i64 1)), zg 36 true (zi 45 2 42 44), zg 36 true (zf 46 0 45), zg 36 true (zl 47 1 46), zg 36 true (zb 48 .leq 41 47), zg 36 true (zm 49 48), zg 49 false (zm 50 0), zg 49 false (zm 51 3), zg 49 false (zi 52 2 50 51), zg 49 false (zf 53 1 52), zg 49 false (zl 54 1 53), zg 49 false (zm 55 0), zg 49 false (zm 56 3), zg 49 false (zd 57 .sub 56 (.int .i64 1)), zg 49 false (zi 58 2 55 57), zg 49 false (zf 59 1 58), zg 49 false (zl 60 1 59), zg 49 false (zb 61 .lss 54 60), zg 36 true (⟨some 62, .pick (.t 49) (.c (.bool true)) (.t 61), none⟩), ⟨some 63, .pick (.t 36) (.t 62) (.c (.bool false)), none⟩])
 (.cond (.t 63) (.seq (.reg false [] [2] [zc 2 (.bool false)])
 .ret)
 .skip))))
 (.reg false [] [0, 3] [zm 16 3, zd 17 .add 16 (.int .i64 1), zm 3 17]))))))
 (.seq (.reg false [] [2] [zc 2 (.bool true)])
 .ret)))) }

/-- sewershed/sewershedref06.Value -/
def N65_ref06_Value : NFun := { np := 2, nt := 85, res := [(4, none), (5, none), (6, none)], body :=
 (.seq (.reg false [] [0, 1] [zc 4 (.int .i64 0), zc 5 (.int .i64 0), zc 6 (.int .i64 0)])
 (.seq (.reg false [] [0, 1, 7] [zm 11 0, zm 12 1, zk 13 80 [(.t 11), (.t 12)], zm 7 13])
 (.seq (.seq (.reg false [] [0, 1, 7, 15] [zm 14 7, zd 15 .lss 14 (.int .i64 0)])
 (.cond (.t 15) (.seq (.reg false [] [4, 5, 6] [zq 16 0, ⟨some 17, .iadS 2 (.t 16) (.c (.int .i64 0)), none⟩, zf 18 1 17, zl 19 1 18, zm 4 19, zc 5 (.int .i64 0), zc 6 (.int .i64 1)])
 .ret)
 .skip))
 (.seq (.seq (.reg false [] [0, 1, 7, 24] [zm 20 7, zm 21 0, zn 22 21, zd 23 .sub 22 (.int .i64 1), zb 24 .eql 20 23])
 (.cond (.t 24) (.seq (.reg false [] [4, 5, 6] [zq 25 0, zm 26 7, zi 27 2 25 26, zf 28 1 27, zl 29 1 28, zm 4 29, zc 5 (.int .i64 0), zc 6 (.int .i64 1)])
 .ret)
 .skip))
 (.seq (.reg true [0, 0, 2, 7, 15, 31, 0, 0, 192, 448, 960, 2047, 4095] [0, 1, 7, 8] [zm 30 0, zm 31 7, zd 32 .add 31 (.int .i64 1), zi 33 2 30 32, zf 34 0 33, zl 35 1 34, zm 36 0, zm 37 7, zi 38 2 36 37, zf 39 0 38, zl 40 1 39, zb 41 .sub 35 40, zm 8 41])
 (.seq (.reg true [0, 0, 2, 7, 15, 31, 0, 0, 192, 448, 960, 2047, 4095] [0, 1, 7, 8, 9] [zm 42 0, zm 43 7, zd 44 .add 43 (.int .i64 1), zi 45 2 42 44, zf 46 1 45, zl 47 1 46, zm 48 0, zm 49 7, zi 50 2 48 49, zf 51 1 50, zl 52 1 51, zb 53 .sub 47 52, zm 9 53])
 (.seq (.reg false [] [0, 1, 7, 8, 9, 10] [zm 54 9, zm 55 1, zm 56 0, zm 57 7, zi 58 2 56 57, zf 59 0 58, zl 60 1 59, zb 61 .sub 55 60, zm 62 8, zk 63 81 [(.t 54), (.t 61), (.t 62)], zm 10 63])
 (.seq (.reg true [0, 0, 3, 7, 15, 0, 63, 0, 0, 0, 0, 1536, 3584, 7680, 16128, 32640, 0, 0, 196608, 524160, 0, 127, 3145727, 8388607] [4, 5, 6] [zm 64 0, zm 65 7, zi 66 2 64 65, zf 67 1 66, zl 68 1 67, zm 69 10, zb 70 .add 68 69, zm 71 9, zm 72 1, zq 73 0, zm 74 7, zi 75 2 73 74, zf 76 0 75, zl 77 1 76, zb 78 .sub 72 77, zb 79 .mul 71 78, zm 80 10, zm 81 8, zb 82 .mul 80 81, zb 83 .sub 79 82, zm 84 8, zm 4 70, zm 5 83, zm 6 84])
 .ret)))))))) }

/-- sewershed/sewershedref03.Down -/
def N66_ref03_Down : NFun := { np := 2, nt := 33, res := [(4, some (3, true))], body :=
 (.seq (.reg false [] [2, 3, 4] [zo 2 0, zo 3 1, ⟨some 4, .alc [.int .u64 0, .int .u64 0, .bool false], none⟩])
 (.seq (.reg false [] [2, 3, 4, 5, 6] [zf 9 0 2, zL 10 2 9, zf 11 0 3, zL 12 2 11, zk 13 82 [(.t 10), (.t 12)], zm 8 13, zx 14 0 8, zx 15 1 8, ⟨some 5, .alc [.int .u64 0, .int .u64 0], none⟩, ⟨some 6, .alc [.int .u64 0, .int .u64 0], none⟩, ⟨none, .st 2 [] (.t 5) (.t 14), none⟩, ⟨none, .st 2 [] (.t 6) (.t 15), none⟩])
 (.seq (.reg false [] [4, 5, 6, 7] [zf 16 2 2, zl 17 1 16, zf 18 2 3, zl 19 1 18, ⟨some 20, .beq true [] (.t 17) (.t 19), none⟩, zm 7 20])
 (.seq (.seq (.reg false [] [4, 5, 7, 26] [zm 21 7, zm 22 21, zg 22 true (zL 23 2 6), zg 22 true (⟨some 24, .bld [.int .u64 0, .int .u64 0] [], none⟩), zg 22 true (⟨some 25, .beq true [0, 0] (.t 23) (.t 24), none⟩), ⟨some 26, .pick (.t 22) (.t 25) (.c (.bool false)), none⟩])
 (.cond (.t 26) (.reg false [] [4, 5, 7] [zL 27 2 5, ⟨some 28, .bld [.int .u64 0, .int .u64 0] [(0, 1, (.c (.int .u64 0))), (1, 1, (.c (.int .u64 1)))], none⟩, zk 29 83 [(.t 27), (.t 28)], ⟨none, .st 2 [] (.t 5) (.t 29), none⟩])
 .skip))
 (.seq (.reg false [] [4] [zL 30 2 5, zm 31 7, zk 32 84 [(.t 30), (.t 31)], ⟨none, .st 3 [] (.t 4) (.t 32), none⟩])
 .ret))))) }

/-- sewershed/sewershedref03.Times -/
def N67_ref03_Times : NFun := { np := 2, nt := 16, res := [(4, some (3, true))], body :=
 (.seq (.reg false [] [0, 1, 4] [⟨some 4, .alc [.int .u64 0, .int .u64 0, .bool false], none⟩])
 (.seq (.reg false [] [4] [zm 5 0, zk 6 86 [(.t 5)], zm 7 1, zk 8 86 [(.t 7)], zk 9 85 [(.t 6), (.t 8)], zm 10 0, zd 11 .lss 10 (.int .i64 0), zm 12 1, zd 13 .lss 12 (.int .i64 0), ⟨some 14, .beq true [] (.t 11) (.t 13), none⟩, zk 15 84 [(.t 9), (.t 14)], ⟨none, .st 3 [] (.t 4) (.t 15), none⟩])
 .ret)) }

/-- sewershed/sewershedref03.OfInt -/
def N68_ref03_OfInt : NFun := { np := 1, nt := 9, res := [(2, some (3, true))], body :=
 (.seq (.reg false [] [0, 2] [⟨some 2, .alc [.int .u64 0, .int .u64 0, .bool false], none⟩])
 (.seq (.reg false [] [2] [zm 3 0, zk 4 86 [(.t 3)], ⟨some 5, .bld [.int .u64 0, .int .u64 0] [(0, 1, (.c (.int .u64 0))), (1, 1, (.t 4))], none⟩, zm 6 0, zd 7 .lss 6 (.int .i64 0), zk 8 84 [(.t 5), (.t 7)], ⟨none, .st 3 [] (.t 2) (.t 8), none⟩])
 .ret)) }

/-- sewershed/sewershedref03.Root -/
def N69_ref03_Root : NFun := { np := 1, nt := 24, res := [(2, none)], body :=
 (.seq (.reg false [] [1] [zo 1 0, zc 2 (.int .u64 0)])
 (.seq (.reg false [] [1, 3] [zc 3 (.int .u64 0)])
 (.seq (.seq (.reg false [] [1, 3, 4] [zc 4 (.int .i64 0)])
 (.block 0 (.loop (.seq (.seq (.reg false [] [1, 3, 4, 7] [zm 6 4, zd 7 .lss 6 (.int .i64 63)])
 (.cond (.t 7) .skip
 (.exit 0)))
 (.seq (.block 1 (.seq (.reg false [] [1, 3, 4, 5] [zm 10 3, zm 11 4, ⟨some 12, .bin .sub (.c (.int .i64 62)) (.t 11), none⟩, ⟨some 13, .conv .u64 (.t 12), none⟩, ⟨some 14, .bin .shl (.c (.int .u64 1)) (.t 13), none⟩, zb 15 .add 10 14, zm 5 15])
 (.seq (.reg true [0, 0, 0, 6, 15, 31] [1, 3, 4, 5, 21] [zL 16 2 1, zm 17 5, zm 18 5, zk 19 85 [(.t 17), (.t 18)], zk 20 87 [(.t 16), (.t 19)], zt 21 20])
 (.cond (.t 21) (.reg false [] [1, 3, 4] [zm 22 5, zm 3 22])
 .skip))))
 (.reg false [] [1, 3, 4] [zm 8 4, zd 9 .add 8 (.int .i64 1), zm 4 9]))))))
 (.seq (.reg false [] [2] [zm 23 3, zm 2 23])
 .ret)))) }

/-- sewershed/decimal.letter -/
def N70_decimal_letter : NFun := { np := 1, nt := 17, res := [(2, none)], body :=
 (.seq (.reg false [] [0] [zc 2 (.bool false)])
 (.seq (.reg false [] [2] [zm 3 0, zd 4 .geq 3 (.int .u8 97), zm 5 4, zg 5 true (zm 6 0), zg 5 true (zd 7 .leq 6 (.int .u8 122)), ⟨some 8, .pick (.t 5) (.t 7) (.c (.bool false)), none⟩, zm 9 8, zg 9 false (zm 10 0), zg 9 false (zd 11 .geq 10 (.int .u8 65)), zg 9 false (zm 12 11), zg 12 true (zm 13 0), zg 12 true (zd 14 .leq 13 (.int .u8 90)), zg 9 false (⟨some 15, .pick (.t 12) (.t 14) (.c (.bool false)), none⟩), ⟨some 16, .pick (.t 9) (.c (.bool true)) (.t 15), none⟩, zm 2 16])
 .ret)) }

/-- sewershed/decimal.word -/
def N71_decimal_word : NFun := { np := 1, nt := 29, res := [(2, none)], body :=
 (.seq (.reg false [] [0] [zc 2 (.int .i64 0)])
 (.seq (.reg false [] [0, 3] [zc 3 (.int .i64 0)])
 (.seq (.block 0 (.loop (.seq (.seq (.reg false [] [0, 3, 25] [zm 4 3, zm 5 0, ⟨some 6, .lens (.t 5), none⟩, zb 7 .lss 4 6, zm 8 7, zg 8 true (zm 9 0), zg 8 true (zm 10 3), zg 8 true (⟨some 11, .idxS (.t 9) (.t 10), none⟩), zg 8 true (zk 12 70 [(.t 11)]), zg 8 true (zm 13 12), zg 13 false (zm 14 0), zg 13 false (zm 15 3), zg 13 false (⟨some 16, .idxS (.t 14) (.t 15), none⟩), zg 13 false (zk 17 88 [(.t 16)]), zg 8 true (⟨some 18, .pick (.t 13) (.c (.bool true)) (.t 17), none⟩), zg 8 true (zm 19 18), zg 19 false (zm 20 0), zg 19 false (zm 21 3), zg 19 false (⟨some 22, .idxS (.t 20) (.t 21), none⟩), zg 19 false (zd 23 .eql 22 (.int .u8 95)), zg 8 true (⟨some 24, .pick (.t 19) (.c (.bool true)) (.t 23), none⟩), ⟨some 25, .pick (.t 8) (.t 24) (.c (.bool false)), none⟩])
 (.cond (.t 25) .skip
 (.exit 0)))
 (.block 1 (.reg false [] [0, 3] [zm 26 3, zd 27 .add 26 (.int .i64 1), zm 3 27])))))
 (.seq (.reg false [] [2] [zm 28 3, zm 2 28])
 .ret)))) }

/-- sewershed/table.Valid -/
def N72_table_Valid : NFun := { np := 1, nt := 57, res := [(2, none)], body :=
 (.seq (.reg false [] [0] [zc 2 (.bool false)])
 (.seq (.seq (.reg false [] [0, 12] [zm 5 0, zn 6 5, zd 7 .lss 6 (.int .i64 1), zm 8 7, zg 8 false (zm 9 0), zg 8 false (zn 10 9), zg 8 false (zd 11 .gtr 10 (.int .i64 100)), ⟨some 12, .pick (.t 8) (.c (.bool true)) (.t 11), none⟩])
 (.cond (.t 12) (.seq (.reg false [] [2] [zc 2 (.bool false)])
 .ret)
 .skip))
 (.seq (.seq (.reg false [] [0, 13, 14, 15] [zm 13 0, zn 14 13, zc 15 (.int .i64 0)])
 (.block 0 (.loop (.seq (.reg false [] [0, 13, 14, 15, 16] [zb 16 .lss 15 14])
 (.seq (.cond (.t 16) .skip
 (.exit 0))
 (.seq (.block 1 (.seq (.reg false [] [0, 3, 4, 13, 14, 15] [zm 17 15, zi 18 2 13 15, zL 19 2 18, ⟨some 4, .alc [.int .i64 0, .int .i64 0], none⟩, zm 3 17, ⟨none, .st 2 [] (.t 4) (.t 19), none⟩])
 (.seq (.reg true [0, 1, 3, 7, 15, 31, 63, 127, 255, 511, 1023, 2047, 4095, 8191, 16383, 32767, 16383, 16383, 147455, 475135, 999423, 2047999, 4194303, 8388607, 16777215, 33554431, 16777215, 16777215, 150994943, 486539263, 1023410175, 2097151999, 4294967295, 8589934591, 17179869183, 34359738367] [0, 13, 14, 15, 55] [zf 20 0 4, zl 21 1 20, zk 22 89 [(.t 21)], zt 23 22, zm 24 23, zg 24 false (zf 25 1 4), zg 24 false (zl 26 1 25), zg 24 false (zk 27 89 [(.t 26)]), zg 24 false (zt 28 27), ⟨some 29, .pick (.t 24) (.c (.bool true)) (.t 28), none⟩, zm 30 29, zg 30 false (zm 31 3), zg 30 false (zd 32 .gtr 31 (.int .i64 0)), zg 30 false (zm 33 32), zg 33 true (zf 34 0 4), zg 33 true (zl 35 1 34), zg 33 true (zm 36 0), zg 33 true (zm 37 3), zg 33 true (zd 38 .sub 37 (.int .i64 1)), zg 33 true (zi 39 2 36 38), zg 33 true (zf 40 0 39), zg 33 true (zl 41 1 40), zg 33 true (zb 42 .leq 35 41), zg 33 true (zm 43 42), zg 43 false (zf 44 1 4), zg 43 false (zl 45 1 44), zg 43 false (zm 46 0), zg 43 false (zm 47 3), zg 43 false (zd 48 .sub 47 (.int .i64 1)), zg 43 false (zi 49 2 46 48), zg 43 false (zf 50 1 49), zg 43 false (zl 51 1 50), zg 43 false (zb 52 .lss 45 51), zg 33 true (⟨some 53, .pick (.t 43) (.c (.bool true)) (.t 52), none⟩), zg 30 false (⟨some 54, .pick (.t 33) (.t 53) (.c (.bool false)), none⟩), ⟨some 55, .pick (.t 30) (.c (.bool true)) (.t 54), none⟩])
 (.cond (.t 55) (.seq (.reg false [] [2] [zc 2 (.bool false)])
 .ret)
 .skip))))
 (.reg false [] [0, 13, 14, 15] [zd 56 .add 15 (.int .i64 1), zm 15 56])))))))
 (.seq (.reg false [] [2] [zc 2 (.bool true)])
 .ret)))) }

/-- sewershed/table.Floor -/
def N73_table_Floor : NFun := { np := 2, nt := 20, res := [(4, none), (5, none)], body :=
 (.seq (.reg false [] [0, 1] [zc 4 (.int .i64 0), zc 5 (.int .i64 0)])
 (.seq (.seq (.reg false [] [0, 1, 11] [zm 9 0, zk 10 72 [(.t 9)], zt 11 10])
 (.cond (.t 11) (.seq (.reg false [] [4, 5] [zc 4 (.int .i64 0), zc 5 (.int .i64 1)])
 .ret)
 .skip))
 (.seq (.reg false [] [6] [zq 13 0, zm 14 1, zk 15 90 [(.t 13), (.t 14)], zm 12 15, zx 16 0 12, zx 17 1 12, zx 18 2 12, zm 6 16, zm 7 17, zm 8 18])
 (.seq (.reg false [] [4, 5] [zm 19 6, zm 4 19, zc 5 (.int .i64 0)])
 .ret)))) }

/-- sewershed/catalogue.product -/
def N74_catalogue_product : NFun := { np := 2, nt := 18, res := [(4, some (2, true))], body :=
 (.seq (.reg false [] [0, 1, 4] [⟨some 4, .alc [.int .u64 0, .int .u64 0], none⟩])
 (.seq (.reg false [] [4, 5, 6] [zm 8 0, ⟨some 9, .conv .u64 (.t 8), none⟩, zm 10 1, ⟨some 11, .conv .u64 (.t 10), none⟩, zk 12 91 [(.t 9), (.t 11)], zm 7 12, zx 13 0 7, zx 14 1 7, zm 5 13, zm 6 14])
 (.seq (.reg false [] [4] [zm 15 5, zm 16 6, ⟨some 17, .bld [.int .u64 0, .int .u64 0] [(0, 1, (.t 15)), (1, 1, (.t 16))], none⟩, ⟨none, .st 2 [] (.t 4) (.t 17), none⟩])
 .ret))) }

/-- (sewershed/catalogue.wide).times -/
def N75_catalogue_wide_times : NFun := { np := 2, nt := 24, res := [(4, some (2, true))], body :=
 (.seq (.reg false [] [1, 2, 4] [zo 2 0, ⟨some 4, .alc [.int .u64 0, .int .u64 0], none⟩])
 (.seq (.reg false [] [1, 2, 4, 5, 6] [zf 8 1 2, zl 9 1 8, zm 10 1, ⟨some 11, .conv .u64 (.t 10), none⟩, zk 12 91 [(.t 9), (.t 11)], zm 7 12, zx 13 0 7, zx 14 1 7, zm 5 13, zm 6 14])
 (.seq (.reg false [] [4] [zm 15 5, zf 16 0 2, zl 17 1 16, zm 18 1, ⟨some 19, .conv .u64 (.t 18), none⟩, zb 20 .mul 17 19, zb 21 .add 15 20, zm 22 6, ⟨some 23, .bld [.int .u64 0, .int .u64 0] [(0, 1, (.t 21)), (1, 1, (.t 22))], none⟩, ⟨none, .st 2 [] (.t 4) (.t 23), none⟩])
 .ret))) }

/-- (sewershed/catalogue.wide).over -/
def N76_catalogue_wide_over : NFun := { np := 2, nt := 31, res := [(4, some (2, true))], body :=
 (.seq (.reg false [] [1, 2, 4] [zo 2 0, ⟨some 4, .alc [.int .u64 0, .int .u64 0], none⟩])
 (.seq (.reg true [0, 1, 0, 4, 15, 0, 32, 0, 128, 480, 31, 2047] [1, 2, 4, 5, 6] [zf 9 0 2, zl 10 1 9, zm 11 1, ⟨some 12, .conv .u64 (.t 11), none⟩, zb 13 .quo 10 12, zf 14 0 2, zl 15 1 14, zm 16 1, ⟨some 17, .conv .u64 (.t 16), none⟩, zb 18 .rem 15 17, zm 5 13, zm 6 18])
 (.seq (.reg false [] [4, 5, 7] [zm 20 6, zf 21 1 2, zl 22 1 21, zm 23 1, ⟨some 24, .conv .u64 (.t 23), none⟩, zk 25 92 [(.t 20), (.t 22), (.t 24)], zm 19 25, zx 26 0 19, zx 27 1 19, zm 7 26, zm 8 27])
 (.seq (.reg false [] [4] [zm 28 5, zm 29 7, ⟨some 30, .bld [.int .u64 0, .int .u64 0] [(0, 1, (.t 28)), (1, 1, (.t 29))], none⟩, ⟨none, .st 2 [] (.t 4) (.t 30), none⟩])
 .ret)))) }

/-- (sewershed/catalogue.wide).root -/
def N77_catalogue_wide_root : NFun := { np := 1, nt := 42, res := [(2, none)], body :=
 (.seq (.reg false [] [1] [zo 1 0, zc 2 (.int .i64 0)])
 (.seq (.reg false [] [1, 3] [zc 3 (.int .u64 0)])
 (.seq (.seq (.reg false [] [1, 3, 4] [zc 4 (.int .u64 4611686018427387904)])
 (.block 0 (.loop (.seq (.seq (.reg false [] [1, 3, 4, 8] [zm 7 4, zd 8 .gtr 7 (.int .u64 0)])
 (.cond (.t 8) .skip
 (.exit 0)))
 (.seq (.block 1 (.seq (.reg false [] [1, 3, 4, 5, 6] [zm 12 3, zm 13 4, zb 14 .or 12 13, zm 15 3, zm 16 4, zb 17 .or 15 16, zk 18 91 [(.t 14), (.t 17)], zm 11 18, zx 19 0 11, zx 20 1 11, zm 5 19, zm 6 20])
 (.seq (.reg false [] [1, 3, 4, 36] [zm 21 5, zf 22 0 1, zl 23 1 22, zb 24 .lss 21 23, zm 25 24, zg 25 false (zm 26 5), zg 25 false (zf 27 0 1), zg 25 false (zl 28 1 27), zg 25 false (zb 29 .eql 26 28), zg 25 false (zm 30 29), zg 30 true (zm 31 6), zg 30 true (zf 32 1 1), zg 30 true (zl 33 1 32), zg 30 true (zb 34 .leq 31 33), zg 25 false (⟨some 35, .pick (.t 30) (.t 34) (.c (.bool false)), none⟩), ⟨some 36, .pick (.t 25) (.c (.bool true)) (.t 35), none⟩])
 (.cond (.t 36) (.reg false [] [1, 3, 4] [zm 37 3, zm 38 4, zb 39 .or 37 38, zm 3 39])
 .skip))))
 (.reg false [] [1, 3, 4] [zm 9 4, zd 10 .shr 9 (.int .u64 1), zm 4 10]))))))
 (.seq (.reg false [] [2] [zm 40 3, ⟨some 41, .conv .i64 (.t 40), none⟩, zm 2 41])
 .ret)))) }

/-- sewershed/sewershedref01.Digit -/
def N78_ref01_Digit : NFun := { np := 1, nt := 9, res := [(2, none)], body :=
 (.seq (.reg false [] [0] [zc 2 (.bool false)])
 (.seq (.reg false [] [2] [zm 3 0, zd 4 .geq 3 (.int .u8 48), zm 5 4, zg 5 true (zm 6 0), zg 5 true (zd 7 .leq 6 (.int .u8 57)), ⟨some 8, .pick (.t 5) (.t 7) (.c (.bool false)), none⟩, zm 2 8])
 .ret)) }

/-- sewershed/sewershedref06.Number -/
def N79_ref06_Number : NFun := { np := 1, nt := 9, res := [(2, none)], body :=
 (.seq (.reg false [] [0] [zc 2 (.bool false)])
 (.seq (.reg false [] [2] [zm 3 0, ⟨some 4, .bin .geq (.t 3) (.c (.int .i64 (-1125899906842624))), none⟩, zm 5 4, zg 5 true (zm 6 0), zg 5 true (zd 7 .leq 6 (.int .i64 1125899906842624)), ⟨some 8, .pick (.t 5) (.t 7) (.c (.bool false)), none⟩, zm 2 8])
 .ret)) }

/-- sewershed/sewershedref06.before -/
def N80_ref06_before : NFun := { np := 2, nt := 22, res := [(4, none)], body :=
 (.seq (.reg false [] [0, 1] [zc 4 (.int .i64 0)])
 (.seq (.reg false [] [0, 1, 5] [⟨some 5, .mov (.c (.int .i64 (-1))), none⟩])
 (.seq (.seq (.reg false [] [0, 1, 5, 6] [zc 6 (.int .i64 0)])
 (.block 0 (.loop (.seq (.seq (.reg false [] [0, 1, 5, 6, 10] [zm 7 6, zm 8 0, zn 9 8, zb 10 .lss 7 9])
 (.cond (.t 10) .skip
 (.exit 0)))
 (.seq (.block 1 (.seq (.reg false [] [0, 1, 5, 6, 19] [zm 13 0, zm 14 6, zi 15 2 13 14, zf 16 0 15, zl 17 1 16, zm 18 1, zb 19 .leq 17 18])
 (.cond (.t 19) (.reg false [] [0, 1, 5, 6] [zm 20 6, zm 5 20])
 .skip)))
 (.reg false [] [0, 1, 5, 6] [zm 11 6, zd 12 .add 11 (.int .i64 1), zm 6 12]))))))
 (.seq (.reg false [] [4] [zm 21 5, zm 4 21])
 .ret)))) }

/-- sewershed/sewershedref03.FloorOf -/
def N81_ref03_FloorOf : NFun := { np := 3, nt := 20, res := [(6, none)], body :=
 (.seq (.reg false [] [0, 1, 2] [zc 6 (.int .i64 0)])
 (.seq (.reg false [] [7] [zm 10 0, zm 11 1, zk 12 67 [(.t 10), (.t 11)], zm 13 2, zk 14 68 [(.t 13)], zk 15 66 [(.t 12), (.t 14)], zk 16 93 [(.t 15)], zm 9 16, zx 17 0 9, zx 18 1 9, zm 7 17, zm 8 18])
 (.seq (.reg false [] [6] [zm 19 7, zm 6 19])
 .ret))) }

/-- sewershed/sewershedref03.Div -/
def N82_ref03_Div : NFun := { np := 2, nt := 45, res := [(4, some (2, true)), (5, some (2, true))], body :=
 (.seq (.reg false [] [2, 3, 4, 5] [⟨some 2, .box [] (.t 0), none⟩, zo 3 1, ⟨some 4, .alc [.int .u64 0, .int .u64 0], none⟩, ⟨some 5, .alc [.int .u64 0, .int .u64 0], none⟩])
 (.seq (.reg false [] [2, 3, 4, 5, 6, 7] [⟨some 6, .alc [.int .u64 0, .int .u64 0], none⟩, ⟨some 7, .alc [.int .u64 0, .int .u64 0], none⟩])
 (.seq (.seq (.reg false [] [2, 3, 4, 5, 6, 7, 8] [zc 8 (.int .i64 0)])
 (.block 0 (.loop (.seq (.seq (.reg false [] [2, 3, 4, 5, 6, 7, 8, 12] [zm 11 8, zd 12 .lss 11 (.int .i64 128)])
 (.cond (.t 12) .skip
 (.exit 0)))
 (.seq (.block 1 (.seq (.reg false [] [2, 3, 4, 5, 6, 7, 8, 9] [zf 15 0 2, zl 16 1 15, zd 17 .shr 16 (.int .u64 63), zm 9 17])
 (.seq (.reg false [] [2, 3, 4, 5, 6, 7, 8, 9] [zL 18 2 2, zk 19 94 [(.t 18), (.c (.int .u64 0))], ⟨none, .st 2 [] (.t 2) (.t 19), none⟩])
 (.seq (.reg false [] [2, 3, 4, 5, 6, 7, 8, 9, 10] [zf 20 0 7, zl 21 1 20, zd 22 .shr 21 (.int .u64 63), zm 10 22])
 (.seq (.reg false [] [2, 3, 4, 5, 6, 7, 8, 10] [zL 23 2 7, zm 24 9, zk 25 94 [(.t 23), (.t 24)], ⟨none, .st 2 [] (.t 7) (.t 25), none⟩])
 (.seq (.reg false [] [2, 3, 4, 5, 6, 7, 8, 10] [zL 26 2 6, zk 27 94 [(.t 26), (.c (.int .u64 0))], ⟨none, .st 2 [] (.t 6) (.t 27), none⟩])
 (.seq (.reg false [] [2, 3, 4, 5, 6, 7, 8, 35] [zm 28 10, zd 29 .gtr 28 (.int .u64 0), zm 30 29, zg 30 false (zL 31 2 7), zg 30 false (zL 32 2 3), zg 30 false (zk 33 87 [(.t 31), (.t 32)]), zg 30 false (zt 34 33), ⟨some 35, .pick (.t 30) (.c (.bool true)) (.t 34), none⟩])
 (.cond (.t 35) (.seq (.reg false [] [2, 3, 4, 5, 6, 7, 8] [zL 36 2 7, zL 37 2 3, zk 38 95 [(.t 36), (.t 37)], ⟨none, .st 2 [] (.t 7) (.t 38), none⟩])
 (.reg false [] [2, 3, 4, 5, 6, 7, 8] [zf 39 1 6, zl 40 1 39, zd 41 .add 40 (.int .u64 1), zf 42 1 6, ⟨none, .st 1 [] (.t 42) (.t 41), none⟩]))
 .skip))))))))
 (.reg false [] [2, 3, 4, 5, 6, 7, 8] [zm 13 8, zd 14 .add 13 (.int .i64 1), zm 8 14]))))))
 (.seq (.reg true [0, 0, 1, 7] [4, 5] [zL 43 2 6, zL 44 2 7, ⟨none, .st 2 [] (.t 4) (.t 43), none⟩, ⟨none, .st 2 [] (.t 5) (.t 44), none⟩])
 .ret)))) }

/-- sewershed/sewershedref03.Plus -/
def N83_ref03_Plus : NFun := { np := 2, nt := 26, res := [(4, some (2, true))], body :=
 (.seq (.reg false [] [2, 3, 4] [zo 2 0, zo 3 1, ⟨some 4, .alc [.int .u64 0, .int .u64 0], none⟩])
 (.seq (.reg false [] [2, 3, 4, 5] [zf 7 1 2, zl 8 1 7, zf 9 1 3, zl 10 1 9, zb 11 .add 8 10, zm 5 11])
 (.seq (.reg false [] [2, 4, 5, 6] [zf 12 0 2, zl 13 1 12, zf 14 0 3, zl 15 1 14, zb 16 .add 13 15, zm 6 16])
 (.seq (.seq (.reg false [] [4, 5, 6, 20] [zm 17 5, zf 18 1 2, zl 19 1 18, zb 20 .lss 17 19])
 (.cond (.t 20) (.reg false [] [4, 5, 6] [zm 21 6, zd 22 .add 21 (.int .u64 1), zm 6 22])
 .skip))
 (.seq (.reg false [] [4] [zm 23 6, zm 24 5, ⟨some 25, .bld [.int .u64 0, .int .u64 0] [(0, 1, (.t 23)), (1, 1, (.t 24))], none⟩, ⟨none, .st 2 [] (.t 4) (.t 25), none⟩])
 .ret))))) }

/-- sewershed/sewershedref03.Made -/
def N84_ref03_Made : NFun := { np := 2, nt := 13, res := [(4, some (3, true))], body :=
 (.seq (.reg false [] [1, 2, 4] [zo 2 0, ⟨some 4, .alc [.int .u64 0, .int .u64 0, .bool false], none⟩])
 (.seq (.reg true [0, 0, 2, 6, 6, 30, 62, 127, 255] [4] [zL 5 2 2, zm 6 1, zm 7 6, zg 7 true (zL 8 2 2), zg 7 true (⟨some 9, .bld [.int .u64 0, .int .u64 0] [], none⟩), zg 7 true (⟨some 10, .beq true [0, 0] (.t 8) (.t 9), none⟩), ⟨some 11, .pick (.t 7) (.t 10) (.c (.bool false)), none⟩, ⟨some 12, .bld [.int .u64 0, .int .u64 0, .bool false] [(0, 2, (.t 5)), (2, 1, (.t 11))], none⟩, ⟨none, .st 3 [] (.t 4) (.t 12), none⟩])
 .ret)) }

/-- sewershed/sewershedref03.Mul -/
def N85_ref03_Mul : NFun := { np := 2, nt := 50, res := [(4, some (2, true))], body :=
 (.seq (.reg false [] [0, 1, 4] [⟨some 4, .alc [.int .u64 0, .int .u64 0], none⟩])
 (.seq (.reg false [] [4, 5, 6, 7, 8] [zm 12 0, zd 13 .shr 12 (.int .u64 32), zm 14 0, zd 15 .and 14 (.int .u64 4294967295), zm 16 1, zd 17 .shr 16 (.int .u64 32), zm 18 1, zd 19 .and 18 (.int .u64 4294967295), zm 5 13, zm 6 15, zm 7 17, zm 8 19])
 (.seq (.reg false [] [4, 5, 6, 7, 8, 9] [zm 20 6, zm 21 8, zb 22 .mul 20 21, zm 9 22])
 (.seq (.reg false [] [4, 5, 6, 7, 9, 10] [zm 23 5, zm 24 8, zb 25 .mul 23 24, zm 26 9, zd 27 .shr 26 (.int .u64 32), zb 28 .add 25 27, zm 10 28])
 (.seq (.reg false [] [4, 5, 7, 9, 10, 11] [zm 29 6, zm 30 7, zb 31 .mul 29 30, zm 32 10, zd 33 .and 32 (.int .u64 4294967295), zb 34 .add 31 33, zm 11 34])
 (.seq (.reg false [] [4] [zm 35 5, zm 36 7, zb 37 .mul 35 36, zm 38 10, zd 39 .shr 38 (.int .u64 32), zb 40 .add 37 39, zm 41 11, zd 42 .shr 41 (.int .u64 32), zb 43 .add 40 42, zm 44 11, zd 45 .shl 44 (.int .u64 32), zm 46 9, zd 47 .and 46 (.int .u64 4294967295), zb 48 .add 45 47, ⟨some 49, .bld [.int .u64 0, .int .u64 0] [(0, 1, (.t 43)), (1, 1, (.t 48))], none⟩, ⟨none, .st 2 [] (.t 4) (.t 49), none⟩])
 .ret)))))) }

/-- sewershed/sewershedref03.Size -/
def N86_ref03_Size : NFun := { np := 1, nt := 10, res := [(2, none)], body :=
 (.seq (.reg false [] [0] [zc 2 (.int .u64 0)])
 (.seq (.seq (.reg false [] [0, 4] [zm 3 0, zd 4 .lss 3 (.int .i64 0)])
 (.cond (.t 4) (.seq (.reg false [] [2] [zm 5 0, ⟨some 6, .conv .u64 (.t 5), none⟩, ⟨some 7, .bin .sub (.c (.int .u64 0)) (.t 6), none⟩, zm 2 7])
 .ret)
 .skip))
 (.seq (.reg false [] [2] [zm 8 0, ⟨some 9, .conv .u64 (.t 8), none⟩, zm 2 9])
 .ret))) }

/-- sewershed/sewershedref03.Less -/
def N87_ref03_Less : NFun := { np := 2, nt := 24, res := [(4, none)], body :=
 (.seq (.reg false [] [2, 3] [zo 2 0, zo 3 1, zc 4 (.bool false)])
 (.seq (.reg false [] [4] [zf 5 0 2, zl 6 1 5, zf 7 0 3, zl 8 1 7, zb 9 .lss 6 8, zm 10 9, zg 10 false (zf 11 0 2), zg 10 false (zl 12 1 11), zg 10 false (zf 13 0 3), zg 10 false (zl 14 1 13), zg 10 false (zb 15 .eql 12 14), zg 10 false (zm 16 15), zg 16 true (zf 17 1 2), zg 16 true (zl 18 1 17), zg 16 true (zf 19 1 3), zg 16 true (zl 20 1 19), zg 16 true (zb 21 .lss 18 20), zg 10 false (⟨some 22, .pick (.t 16) (.t 21) (.c (.bool false)), none⟩), ⟨some 23, .pick (.t 10) (.c (.bool true)) (.t 22), none⟩, zm 4 23])
 .ret)) }

/-- sewershed/decimal.digit -/
def N88_decimal_digit : NFun := { np := 1, nt := 9, res := [(2, none)], body :=
 (.seq (.reg false [] [0] [zc 2 (.bool false)])
 (.seq (.reg false [] [2] [zm 3 0, zd 4 .geq 3 (.int .u8 48), zm 5 4, zg 5 true (zm 6 0), zg 5 true (zd 7 .leq 6 (.int .u8 57)), ⟨some 8, .pick (.t 5) (.t 7) (.c (.bool false)), none⟩, zm 2 8])
 .ret)) }

/-- sewershed/table.fits -/
def N89_table_fits : NFun := { np := 1, nt := 9, res := [(2, none)], body :=
 (.seq (.reg false [] [0] [zc 2 (.bool false)])
 (.seq (.reg false [] [2] [zm 3 0, ⟨some 4, .bin .geq (.t 3) (.c (.int .i64 (-1125899906842624))), none⟩, zm 5 4, zg 5 true (zm 6 0), zg 5 true (zd 7 .leq 6 (.int .i64 1125899906842624)), ⟨some 8, .pick (.t 5) (.t 7) (.c (.bool false)), none⟩, zm 2 8])
 .ret)) }

/-- sewershed/table.piece -/
def N90_table_piece : NFun := { np := 2, nt := 110, res := [(4, none), (5, none), (6, none)], body :=
 (.seq (.reg false [] [0, 1] [zc 4 (.int .i64 0), zc 5 (.int .i64 0), zc 6 (.int .i64 0)])
 (.seq (.reg false [] [0, 1, 7, 8] [zm 23 0, zm 24 1, ⟨some 25, .call 96 [(.t 23), (.t 24), (.c (.fn 97 []))] [], none⟩, zm 22 25, zx 26 0 22, zx 27 1 22, zm 7 26, zm 8 27])
 (.seq (.block 0 (.seq (.reg false [] [0, 1, 7, 28] [zm 29 8, zm 30 29, zg 30 false (zm 31 7), zg 30 false (zd 32 .eql 31 (.int .i64 0)), ⟨some 33, .pick (.t 30) (.c (.bool true)) (.t 32), none⟩, zm 28 33])
 (.cond (.t 28) (.seq (.reg false [] [4, 5, 6] [zq 34 0, zm 35 7, zi 36 2 34 35, zf 37 1 36, zl 38 1 37, zm 4 38, zc 5 (.int .i64 0), zc 6 (.int .i64 1)])
 .ret)
 (.seq (.reg false [] [0, 1, 7, 39] [zm 40 7, zm 41 0, zn 42 41, zb 43 .eql 40 42, zm 39 43])
 (.cond (.t 39) (.seq (.reg false [] [4, 5, 6] [zq 44 0, zm 45 7, zd 46 .sub 45 (.int .i64 1), zi 47 2 44 46, zf 48 1 47, zl 49 1 48, zm 4 49, zc 5 (.int .i64 0), zc 6 (.int .i64 1)])
 .ret)
 .skip)))))
 (.seq (.reg true [0, 0, 2, 7, 15, 0, 0, 96, 224, 0, 0, 1567, 4095] [1, 9, 10] [zm 50 0, zm 51 7, zd 52 .sub 51 (.int .i64 1), zi 53 2 50 52, zL 54 2 53, zq 55 0, zm 56 7, zi 57 2 55 56, zL 58 2 57, ⟨some 9, .alc [.int .i64 0, .int .i64 0], none⟩, ⟨some 10, .alc [.int .i64 0, .int .i64 0], none⟩, ⟨none, .st 2 [] (.t 9) (.t 54), none⟩, ⟨none, .st 2 [] (.t 10) (.t 58), none⟩])
 (.seq (.reg true [0, 1, 0, 4, 15, 0, 0, 64, 224, 0, 512, 0, 2048, 7680, 31, 16895, 65535] [6, 9, 11, 12] [zf 59 1 10, zl 60 1 59, zf 61 1 9, zl 62 1 61, zb 63 .sub 60 62, zm 64 1, zf 65 0 9, zl 66 1 65, zb 67 .sub 64 66, zf 68 0 10, zl 69 1 68, zf 70 0 9, zl 71 1 70, zb 72 .sub 69 71, zm 11 63, zm 12 67, zm 6 72])
 (.seq (.reg false [] [6, 9, 11, 12, 13] [zm 74 11, zm 75 12, zm 76 6, zk 77 98 [(.t 74), (.t 75), (.t 76)], zm 73 77, zx 78 0 73, zx 79 1 73, zx 80 2 73, zm 13 78, zm 14 79, zm 15 80])
 (.seq (.reg false [] [6, 9, 13, 16] [zm 82 11, zm 83 12, zk 84 99 [(.t 82), (.t 83)], zm 81 84, zx 85 0 81, zx 86 1 81, ⟨some 16, .alc [.int .i64 0, .int .i64 0], none⟩, ⟨none, .st 2 [] (.t 16) (.t 85), none⟩, zm 17 86])
 (.seq (.reg false [] [6, 9, 13, 16, 18] [zm 88 13, zm 89 6, zk 90 99 [(.t 88), (.t 89)], zm 87 90, zx 91 0 87, zx 92 1 87, ⟨some 18, .alc [.int .i64 0, .int .i64 0], none⟩, ⟨none, .st 2 [] (.t 18) (.t 91), none⟩, zm 19 92])
 (.seq (.reg false [] [6, 9, 13, 20] [zL 94 2 16, zL 95 2 18, zk 96 100 [(.t 94), (.t 95)], zm 93 96, zx 97 0 93, zx 98 1 93, ⟨some 20, .alc [.int .i64 0, .int .i64 0], none⟩, ⟨none, .st 2 [] (.t 20) (.t 97), none⟩, zm 21 98])
 (.seq (.reg false [] [5, 6, 9, 13] [zL 100 2 20, zk 101 101 [(.t 100)], zm 99 101, zx 102 0 99, zx 103 1 99, zm 5 102])
 (.seq (.reg false [] [4, 5, 6] [zf 104 1 9, zl 105 1 104, zm 106 13, zb 107 .add 105 106, zm 108 5, zm 109 6, zm 4 107, zm 5 108, zm 6 109])
 .ret))))))))))) }

/-- math/bits.Mul64 -/
def N91_math_bits_Mul64 : NFun := { np := 2, nt := 51, res := [(4, none), (5, none)], body :=
 (.seq (.reg false [] [0, 1] [zc 4 (.int .u64 0), zc 5 (.int .u64 0)])
 (.seq (.reg false [] [0, 1, 6] [zm 14 0, zd 15 .and 14 (.int .u64 4294967295), zm 6 15])
 (.seq (.reg false [] [0, 1, 6, 7] [zm 16 0, zd 17 .shr 16 (.int .u64 32), zm 7 17])
 (.seq (.reg false [] [0, 1, 6, 7, 8] [zm 18 1, zd 19 .and 18 (.int .u64 4294967295), zm 8 19])
 (.seq (.reg false [] [0, 1, 6, 7, 8, 9] [zm 20 1, zd 21 .shr 20 (.int .u64 32), zm 9 21])
 (.seq (.reg false [] [0, 1, 6, 7, 8, 9, 10] [zm 22 6, zm 23 8, zb 24 .mul 22 23, zm 10 24])
 (.seq (.reg false [] [0, 1, 6, 7, 9, 11] [zm 25 7, zm 26 8, zb 27 .mul 25 26, zm 28 10, zd 29 .shr 28 (.int .u64 32), zb 30 .add 27 29, zm 11 30])
 (.seq (.reg false [] [0, 1, 6, 7, 9, 11, 12] [zm 31 11, zd 32 .and 31 (.int .u64 4294967295), zm 12 32])
 (.seq (.reg false [] [0, 1, 6, 7, 9, 12, 13] [zm 33 11, zd 34 .shr 33 (.int .u64 32), zm 13 34])
 (.seq (.reg false [] [0, 1, 7, 9, 12, 13] [zm 35 12, zm 36 6, zm 37 9, zb 38 .mul 36 37, zb 39 .add 35 38, zm 12 39])
 (.seq (.reg false [] [0, 1, 4] [zm 40 7, zm 41 9, zb 42 .mul 40 41, zm 43 13, zb 44 .add 42 43, zm 45 12, zd 46 .shr 45 (.int .u64 32), zb 47 .add 44 46, zm 4 47])
 (.seq (.reg false [] [4, 5] [zm 48 0, zm 49 1, zb 50 .mul 48 49, zm 5 50])
 .ret)))))))))))) }

/-- math/bits.Div64 -/
def N92_math_bits_Div64 : NFun := { np := 3, nt := 135, res := [(6, none), (7, none)], body :=
 (.seq (.reg false [] [0, 1, 2] [zc 6 (.int .u64 0), zc 7 (.int .u64 0)])
 (.seq (.seq (.reg false [] [0, 1, 2, 20] [zm 19 2, zd 20 .eql 19 (.int .u64 0)])
 (.cond (.t 20) (.reg false [] [0, 1, 2] [⟨some 21, .dead, none⟩, ⟨none, .dead, none⟩])
 .skip))
 (.seq (.seq (.reg false [] [0, 1, 2, 24] [zm 22 2, zm 23 0, zb 24 .leq 22 23])
 (.cond (.t 24) (.reg false [] [0, 1, 2] [⟨some 25, .dead, none⟩, ⟨none, .dead, none⟩])
 .skip))
 (.seq (.seq (.reg false [] [0, 1, 2, 27] [zm 26 0, zd 27 .eql 26 (.int .u64 0)])
 (.cond (.t 27) (.seq (.reg true [0, 0, 3, 0, 0, 24, 7, 127] [6, 7] [zm 28 1, zm 29 2, zb 30 .quo 28 29, zm 31 1, zm 32 2, zb 33 .rem 31 32, zm 6 30, zm 7 33])
 .ret)
 .skip))
 (.seq (.reg false [] [0, 1, 2, 8] [zm 34 2, zk 35 102 [(.t 34)], ⟨some 36, .conv .u64 (.t 35), none⟩, zm 8 36])
 (.seq (.reg false [] [0, 1, 2, 8] [zm 37 2, zm 38 8, zb 39 .shl 37 38, zm 2 39])
 (.seq (.reg false [] [0, 1, 2, 8, 9] [zm 40 2, zd 41 .shr 40 (.int .u64 32), zm 9 41])
 (.seq (.reg false [] [0, 1, 2, 8, 9, 10] [zm 42 2, zd 43 .and 42 (.int .u64 4294967295), zm 10 43])
 (.seq (.reg false [] [1, 2, 8, 9, 10, 11] [zm 44 0, zm 45 8, zb 46 .shl 44 45, zm 47 1, zm 48 8, ⟨some 49, .bin .sub (.c (.int .u64 64)) (.t 48), none⟩, zb 50 .shr 47 49, zb 51 .or 46 50, zm 11 51])
 (.seq (.reg false [] [2, 8, 9, 10, 11, 12] [zm 52 1, zm 53 8, zb 54 .shl 52 53, zm 12 54])
 (.seq (.reg false [] [2, 8, 9, 10, 11, 12, 13] [zm 55 12, zd 56 .shr 55 (.int .u64 32), zm 13 56])
 (.seq (.reg false [] [2, 8, 9, 10, 11, 13, 14] [zm 57 12, zd 58 .and 57 (.int .u64 4294967295), zm 14 58])
 (.seq (.reg false [] [2, 8, 9, 10, 11, 13, 14, 15] [zm 59 11, zm 60 9, zb 61 .quo 59 60, zm 15 61])
 (.seq (.reg false [] [2, 8, 9, 10, 11, 13, 14, 15, 16] [zm 62 11, zm 63 15, zm 64 9, zb 65 .mul 63 64, zb 66 .sub 62 65, zm 16 66])
 (.seq (.block 0 (.loop (.seq (.seq (.reg false [] [2, 8, 9, 10, 11, 13, 14, 15, 16, 78] [zm 67 15, zd 68 .geq 67 (.int .u64 4294967296), zm 69 68, zg 69 false (zm 70 15), zg 69 false (zm 71 10), zg 69 false (zb 72 .mul 70 71), zg 69 false (zm 73 16), zg 69 false (⟨some 74, .bin .mul (.c (.int .u64 4294967296)) (.t 73), none⟩), zg 69 false (zm 75 13), zg 69 false (zb 76 .add 74 75), zg 69 false (zb 77 .gtr 72 76), ⟨some 78, .pick (.t 69) (.c (.bool true)) (.t 77), none⟩])
 (.cond (.t 78) .skip
 (.exit 0)))
 (.block 1 (.seq (.reg false [] [2, 8, 9, 10, 11, 13, 14, 15, 16] [zm 79 15, zd 80 .sub 79 (.int .u64 1), zm 15 80])
 (.seq (.reg false [] [2, 8, 9, 10, 11, 13, 14, 15, 16] [zm 81 16, zm 82 9, zb 83 .add 81 82, zm 16 83])
 (.seq (.reg false [] [2, 8, 9, 10, 11, 13, 14, 15, 16, 85] [zm 84 16, zd 85 .geq 84 (.int .u64 4294967296)])
 (.cond (.t 85) (.exit 0)
 .skip))))))))
 (.seq (.reg false [] [2, 8, 9, 10, 14, 15, 17] [zm 86 11, zd 87 .mul 86 (.int .u64 4294967296), zm 88 13, zb 89 .add 87 88, zm 90 15, zm 91 2, zb 92 .mul 90 91, zb 93 .sub 89 92, zm 17 93])
 (.seq (.reg false [] [2, 8, 9, 10, 14, 15, 17, 18] [zm 94 17, zm 95 9, zb 96 .quo 94 95, zm 18 96])
 (.seq (.reg false [] [2, 8, 9, 10, 14, 15, 16, 17, 18] [zm 97 17, zm 98 18, zm 99 9, zb 100 .mul 98 99, zb 101 .sub 97 100, zm 16 101])
 (.seq (.block 2 (.loop (.seq (.seq (.reg false [] [2, 8, 9, 10, 14, 15, 16, 17, 18, 113] [zm 102 18, zd 103 .geq 102 (.int .u64 4294967296), zm 104 103, zg 104 false (zm 105 18), zg 104 false (zm 106 10), zg 104 false (zb 107 .mul 105 106), zg 104 false (zm 108 16), zg 104 false (⟨some 109, .bin .mul (.c (.int .u64 4294967296)) (.t 108), none⟩), zg 104 false (zm 110 14), zg 104 false (zb 111 .add 109 110), zg 104 false (zb 112 .gtr 107 111), ⟨some 113, .pick (.t 104) (.c (.bool true)) (.t 112), none⟩])
 (.cond (.t 113) .skip
 (.exit 2)))
 (.block 3 (.seq (.reg false [] [2, 8, 9, 10, 14, 15, 16, 17, 18] [zm 114 18, zd 115 .sub 114 (.int .u64 1), zm 18 115])
 (.seq (.reg false [] [2, 8, 9, 10, 14, 15, 16, 17, 18] [zm 116 16, zm 117 9, zb 118 .add 116 117, zm 16 118])
 (.seq (.reg false [] [2, 8, 9, 10, 14, 15, 16, 17, 18, 120] [zm 119 16, zd 120 .geq 119 (.int .u64 4294967296)])
 (.cond (.t 120) (.exit 2)
 .skip))))))))
 (.seq (.reg false [] [6, 7] [zm 121 15, zd 122 .mul 121 (.int .u64 4294967296), zm 123 18, zb 124 .add 122 123, zm 125 17, zd 126 .mul 125 (.int .u64 4294967296), zm 127 14, zb 128 .add 126 127, zm 129 18, zm 130 2, zb 131 .mul 129 130, zb 132 .sub 128 131, zm 133 8, zb 134 .shr 132 133, zm 6 124, zm 7 134])
 .ret)))))))))))))))))))) }

/-- sewershed/sewershedref03.IsInt -/
def N93_ref03_IsInt : NFun := { np := 1, nt := 35, res := [(2, none), (3, none)], body :=
 (.seq (.reg false [] [1] [zo 1 0, zc 2 (.int .i64 0), zc 3 (.bool false)])
 (.seq (.seq (.reg false [] [1, 5] [zf 4 2 1, zl 5 1 4])
 (.cond (.t 5) (.seq (.reg true [0, 1, 3, 7, 15, 0, 32, 96, 224, 480, 992, 2016, 4064, 8160, 16352, 1023, 65535] [2, 3] [zf 6 0 1, zf 7 1 6, zl 8 1 7, ⟨some 9, .bin .sub (.c (.int .u64 0)) (.t 8), none⟩, ⟨some 10, .conv .i64 (.t 9), none⟩, zf 11 0 1, zf 12 0 11, zl 13 1 12, zd 14 .eql 13 (.int .u64 0), zm 15 14, zg 15 true (zf 16 0 1), zg 15 true (zf 17 1 16), zg 15 true (zl 18 1 17), zg 15 true (zd 19 .leq 18 (.int .u64 9223372036854775808)), ⟨some 20, .pick (.t 15) (.t 19) (.c (.bool false)), none⟩, zm 2 10, zm 3 20])
 .ret)
 .skip))
 (.seq (.reg true [0, 1, 3, 7, 0, 16, 48, 112, 240, 496, 1008, 2032, 4080, 8176, 511, 32767] [2, 3] [zf 21 0 1, zf 22 1 21, zl 23 1 22, ⟨some 24, .conv .i64 (.t 23), none⟩, zf 25 0 1, zf 26 0 25, zl 27 1 26, zd 28 .eql 27 (.int .u64 0), zm 29 28, zg 29 true (zf 30 0 1), zg 29 true (zf 31 1 30), zg 29 true (zl 32 1 31), zg 29 true (zd 33 .lss 32 (.int .u64 9223372036854775808)), ⟨some 34, .pick (.t 29) (.t 33) (.c (.bool false)), none⟩, zm 2 24, zm 3 34])
 .ret))) }

/-- sewershed/sewershedref03.Shift -/
def N94_ref03_Shift : NFun := { np := 2, nt := 18, res := [(4, some (2, true))], body :=
 (.seq (.reg false [] [1, 2, 4] [zo 2 0, ⟨some 4, .alc [.int .u64 0, .int .u64 0], none⟩])
 (.seq (.reg false [] [4] [zf 5 0 2, zl 6 1 5, zd 7 .shl 6 (.int .u64 1), zf 8 1 2, zl 9 1 8, zd 10 .shr 9 (.int .u64 63), zb 11 .add 7 10, zf 12 1 2, zl 13 1 12, zd 14 .shl 13 (.int .u64 1), zm 15 1, zb 16 .add 14 15, ⟨some 17, .bld [.int .u64 0, .int .u64 0] [(0, 1, (.t 11)), (1, 1, (.t 16))], none⟩, ⟨none, .st 2 [] (.t 4) (.t 17), none⟩])
 .ret)) }

/-- sewershed/sewershedref03.Minus -/
def N95_ref03_Minus : NFun := { np := 2, nt := 25, res := [(4, some (2, true))], body :=
 (.seq (.reg false [] [2, 3, 4] [zo 2 0, zo 3 1, ⟨some 4, .alc [.int .u64 0, .int .u64 0], none⟩])
 (.seq (.reg false [] [2, 3, 4, 5] [zf 6 0 2, zl 7 1 6, zf 8 0 3, zl 9 1 8, zb 10 .sub 7 9, zm 5 10])
 (.seq (.seq (.reg false [] [2, 3, 4, 5, 15] [zf 11 1 2, zl 12 1 11, zf 13 1 3, zl 14 1 13, zb 15 .lss 12 14])
 (.cond (.t 15) (.reg false [] [2, 3, 4, 5] [zm 16 5, zd 17 .sub 16 (.int .u64 1), zm 5 17])
 .skip))
 (.seq (.reg false [] [4] [zm 18 5, zf 19 1 2, zl 20 1 19, zf 21 1 3, zl 22 1 21, zb 23 .sub 20 22, ⟨some 24, .bld [.int .u64 0, .int .u64 0] [(0, 1, (.t 18)), (1, 1, (.t 23))], none⟩, ⟨none, .st 2 [] (.t 4) (.t 24), none⟩])
 .ret)))) }

/-- slices.BinarySearchFunc[sewershed/api.Table,sewershed/api.Knot,int] -/
def N96_slices_BinarySearchFunc_api_Table_api_Knot_int : NFun := { np := 3, nt := 49, res := [(6, none), (7, none)], body :=
 (.seq (.reg false [] [0, 1, 2] [zc 6 (.int .i64 0), zc 7 (.bool false)])
 (.seq (.reg false [] [0, 1, 2, 8] [zm 12 0, zn 13 12, zm 8 13])
 (.seq (.reg false [] [0, 1, 2, 8, 9, 10] [zm 14 8, zc 9 (.int .i64 0), zm 10 14])
 (.seq (.block 0 (.loop (.seq (.seq (.reg false [] [0, 1, 2, 8, 9, 10, 17] [zm 15 9, zm 16 10, zb 17 .lss 15 16])
 (.cond (.t 17) .skip
 (.exit 0)))
 (.block 1 (.seq (.reg false [] [0, 1, 2, 8, 9, 10, 11] [zm 18 9, zm 19 10, zb 20 .add 18 19, ⟨some 21, .conv .u64 (.t 20), none⟩, zd 22 .shr 21 (.int .u64 1), ⟨some 23, .conv .i64 (.t 22), none⟩, zm 11 23])
 (.seq (.reg false [] [0, 1, 2, 8, 9, 10, 11, 31] [zm 24 2, zm 25 0, zm 26 11, zi 27 2 25 26, zL 28 2 27, zm 29 1, ⟨some 30, .callv (.t 24) [(.t 28), (.t 29)], none⟩, zd 31 .lss 30 (.int .i64 0)])
 (.cond (.t 31) (.reg false [] [0, 1, 2, 8, 9, 10] [zm 32 11, zd 33 .add 32 (.int .i64 1), zm 9 33])
 (.reg false [] [0, 1, 2, 8, 9, 10] [zm 34 11, zm 10 34]))))))))
 (.seq (.reg false [] [6, 7] [zm 35 9, zm 36 9, zm 37 8, zb 38 .lss 36 37, zm 39 38, zg 39 true (zm 40 2), zg 39 true (zq 41 0), zg 39 true (zm 42 9), zg 39 true (zi 43 2 41 42), zg 39 true (zL 44 2 43), zg 39 true (zm 45 1), zg 39 true (⟨some 46, .callv (.t 40) [(.t 44), (.t 45)], none⟩), zg 39 true (zd 47 .eql 46 (.int .i64 0)), ⟨some 48, .pick (.t 39) (.t 47) (.c (.bool false)), none⟩, zm 6 35, zm 7 48])
 .ret))))) }

/-- sewershed/table.piece$1 -/
def N97_table_piece_1 : NFun := { np := 2, nt := 15, res := [(4, none)], body :=
 (.seq (.reg false [] [1, 2] [zo 2 0, zc 4 (.int .i64 0)])
 (.seq (.block 0 (.seq (.reg false [] [1, 2, 5] [zf 6 0 2, zl 7 1 6, zm 8 1, zb 9 .lss 7 8, zm 5 9])
 (.cond (.t 5) (.seq (.reg false [] [4] [⟨some 4, .mov (.c (.int .i64 (-1))), none⟩])
 .ret)
 (.seq (.reg false [] [10] [zf 11 0 2, zl 12 1 11, zm 13 1, zb 14 .gtr 12 13, zm 10 14])
 (.cond (.t 10) (.seq (.reg false [] [4] [zc 4 (.int .i64 1)])
 .ret)
 .skip)))))
 (.seq (.reg false [] [4] [zc 4 (.int .i64 0)])
 .ret))) }

/-- sewershed/wide.Scale -/
def N98_wide_Scale : NFun := { np := 3, nt := 35, res := [(6, none), (7, none), (8, none)], body :=
 (.seq (.reg false [] [0, 1, 2] [zc 6 (.int .i64 0), zc 7 (.int .i64 0), zc 8 (.int .i64 0)])
 (.seq (.seq (.reg false [] [0, 1, 2, 11] [zm 10 2, zd 11 .eql 10 (.int .i64 0)])
 (.cond (.t 11) (.seq (.reg false [] [6, 7, 8] [zc 6 (.int .i64 0), zc 7 (.int .i64 0), zc 8 (.int .i64 16)])
 .ret)
 .skip))
 (.seq (.reg false [] [2, 9] [zm 12 0, zm 13 1, zk 14 103 [(.t 12), (.t 13)], ⟨some 9, .alc [.int .u64 0, .int .u64 0, .bool false], none⟩, ⟨none, .st 3 [] (.t 9) (.t 14), none⟩])
 (.seq (.seq (.reg false [] [2, 6, 8, 9] [zL 16 3 9, zm 17 2, zk 18 104 [(.t 16), (.t 17), (.c (.bool false))], zm 15 18, zx 19 0 15, zx 20 1 15, zm 6 19, zm 8 20])
 (.seq (.reg false [] [2, 6, 8, 9, 22] [zm 21 8, zd 22 .neq 21 (.int .i64 0)])
 (.cond (.t 22) (.seq (.reg false [] [6, 7, 8] [zm 23 8, zc 6 (.int .i64 0), zc 7 (.int .i64 0), zm 8 23])
 .ret)
 .skip)))
 (.seq (.seq (.reg false [] [6, 7, 8] [zL 25 3 9, zm 26 2, zk 27 104 [(.t 25), (.t 26), (.c (.bool true))], zm 24 27, zx 28 0 24, zx 29 1 24, zm 7 28, zm 8 29])
 (.seq (.reg false [] [6, 7, 8, 31] [zm 30 8, zd 31 .neq 30 (.int .i64 0)])
 (.cond (.t 31) (.seq (.reg false [] [6, 7, 8] [zm 32 8, zc 6 (.int .i64 0), zc 7 (.int .i64 0), zm 8 32])
 .ret)
 .skip)))
 (.seq (.reg false [] [6, 7, 8] [zm 33 6, zm 34 7, zm 6 33, zm 7 34, zc 8 (.int .i64 0)])
 .ret)))))) }

/-- sewershed/wide.Product -/
def N99_wide_Product : NFun := { np := 2, nt := 12, res := [(4, some (2, true)), (5, none)], body :=
 (.seq (.reg false [] [0, 1, 4] [⟨some 4, .alc [.int .i64 0, .int .i64 0], none⟩, zc 5 (.int .i64 0)])
 (.seq (.reg false [] [4, 5] [zm 6 0, zm 7 1, zk 8 103 [(.t 6), (.t 7)], zk 9 105 [(.t 8)], zx 10 0 9, zx 11 1 9, ⟨none, .st 2 [] (.t 4) (.t 10), none⟩, zm 5 11])
 .ret)) }

/-- sewershed/wide.Sub -/
def N100_wide_Sub : NFun := { np := 2, nt := 24, res := [(4, some (2, true)), (5, none)], body :=
 (.seq (.reg false [] [2, 3, 4] [zo 2 0, zo 3 1, ⟨some 4, .alc [.int .i64 0, .int .i64 0], none⟩, zc 5 (.int .i64 0)])
 (.seq (.seq (.reg false [] [2, 3, 4, 13] [zL 6 2 2, zk 7 106 [(.t 6)], zt 8 7, zm 9 8, zg 9 false (zL 10 2 3), zg 9 false (zk 11 106 [(.t 10)]), zg 9 false (zt 12 11), ⟨some 13, .pick (.t 9) (.c (.bool true)) (.t 12), none⟩])
 (.cond (.t 13) (.seq (.reg false [] [4, 5] [⟨some 14, .bld [.int .i64 0, .int .i64 0] [], none⟩, ⟨none, .st 2 [] (.t 4) (.t 14), none⟩, zc 5 (.int .i64 1)])
 .ret)
 .skip))
 (.seq (.reg true [0, 1, 0, 7, 15, 31, 63, 127, 127, 511, 1023] [4, 5] [zL 15 2 2, zk 16 108 [(.t 15)], zL 17 2 3, zk 18 108 [(.t 17)], zk 19 109 [(.t 18)], zk 20 107 [(.t 16), (.t 19)], zk 21 105 [(.t 20)], zx 22 0 21, zx 23 1 21, ⟨none, .st 2 [] (.t 4) (.t 22), none⟩, zm 5 23])
 .ret))) }

/-- sewershed/wide.Int -/
def N101_wide_Int : NFun := { np := 1, nt := 20, res := [(2, none), (3, none)], body :=
 (.seq (.reg false [] [1] [zo 1 0, zc 2 (.int .i64 0), zc 3 (.int .i64 0)])
 (.seq (.seq (.reg false [] [1, 7] [zL 5 2 1, zk 6 106 [(.t 5)], zt 7 6])
 (.cond (.t 7) (.seq (.reg false [] [2, 3] [zc 2 (.int .i64 0), zc 3 (.int .i64 1)])
 .ret)
 .skip))
 (.seq (.reg false [] [4] [zL 8 2 1, zk 9 108 [(.t 8)], ⟨some 4, .alc [.int .u64 0, .int .u64 0, .bool false], none⟩, ⟨none, .st 3 [] (.t 4) (.t 9), none⟩])
 (.seq (.seq (.reg false [] [4, 12] [zf 10 0 4, zl 11 1 10, zd 12 .gtr 11 (.int .u64 0)])
 (.cond (.t 12) (.seq (.reg false [] [2, 3] [zc 2 (.int .i64 0), zc 3 (.int .i64 5)])
 .ret)
 .skip))
 (.seq (.reg false [] [2, 3] [zf 13 1 4, zl 14 1 13, zf 15 2 4, zl 16 1 15, zk 17 110 [(.t 14), (.t 16)], zx 18 0 17, zx 19 1 17, zm 2 18, zm 3 19])
 .ret))))) }

/-- math/bits.LeadingZeros64 -/
def N102_math_bits_LeadingZeros64 : NFun := { np := 1, nt := 6, res := [(2, none)], body :=
 (.seq (.reg false [] [0] [zc 2 (.int .i64 0)])
 (.seq (.reg false [] [2] [zm 3 0, zk 4 111 [(.t 3)], ⟨some 5, .bin .sub (.c (.int .i64 64)) (.t 4), none⟩, zm 2 5])
 .ret)) }

/-- sewershed/wide.times -/
def N103_wide_times : NFun := { np := 2, nt := 23, res := [(4, some (3, true))], body :=
 (.seq (.reg false [] [0, 1, 4] [⟨some 4, .alc [.int .u64 0, .int .u64 0, .bool false], none⟩])
 (.seq (.reg false [] [0, 1, 4, 5, 6] [zm 8 0, zk 9 112 [(.t 8)], zm 10 1, zk 11 112 [(.t 10)], zk 12 91 [(.t 9), (.t 11)], zm 7 12, zx 13 0 7, zx 14 1 7, zm 5 13, zm 6 14])
 (.seq (.reg false [] [4] [zm 15 5, zm 16 6, zm 17 0, zd 18 .lss 17 (.int .i64 0), zm 19 1, zd 20 .lss 19 (.int .i64 0), ⟨some 21, .beq true [] (.t 18) (.t 20), none⟩, zk 22 113 [(.t 15), (.t 16), (.t 21)], ⟨none, .st 3 [] (.t 4) (.t 22), none⟩])
 .ret))) }

/-- sewershed/wide.quotient -/
def N104_wide_quotient : NFun := { np := 3, nt := 52, res := [(6, none), (7, none)], body :=
 (.seq (.reg false [] [1, 2, 3] [zo 3 0, zc 6 (.int .i64 0), zc 7 (.int .i64 0)])
 (.seq (.reg false [] [1, 2, 3, 8] [zm 12 1, zk 13 112 [(.t 12)], zm 8 13])
 (.seq (.seq (.reg false [] [1, 2, 3, 8, 17] [zf 14 0 3, zl 15 1 14, zm 16 8, zb 17 .geq 15 16])
 (.cond (.t 17) (.seq (.reg false [] [6, 7] [zc 6 (.int .i64 0), zc 7 (.int .i64 5)])
 .ret)
 .skip))
 (.seq (.reg false [] [1, 2, 3, 9, 10] [zf 19 0 3, zl 20 1 19, zf 21 1 3, zl 22 1 21, zm 23 8, zk 24 92 [(.t 20), (.t 22), (.t 23)], zm 18 24, zx 25 0 18, zx 26 1 18, zm 9 25, zm 10 26])
 (.seq (.reg false [] [2, 9, 10, 11] [zf 27 2 3, zl 28 1 27, zm 29 1, zd 30 .lss 29 (.int .i64 0), ⟨some 31, .beq true [] (.t 28) (.t 30), none⟩, zm 11 31])
 (.seq (.seq (.reg false [] [9, 11, 38] [zm 32 10, zd 33 .gtr 32 (.int .u64 0), zm 34 33, zg 34 true (zm 35 11), zg 34 true (zm 36 2), zg 34 true (⟨some 37, .beq true [] (.t 35) (.t 36), none⟩), ⟨some 38, .pick (.t 34) (.t 37) (.c (.bool false)), none⟩])
 (.cond (.t 38) (.seq (.reg false [] [9, 11] [zm 39 9, zd 40 .add 39 (.int .u64 1), zm 9 40])
 (.seq (.reg false [] [9, 11, 42] [zm 41 9, zd 42 .eql 41 (.int .u64 0)])
 (.cond (.t 42) (.seq (.reg false [] [6, 7] [zc 6 (.int .i64 0), zc 7 (.int .i64 5)])
 .ret)
 .skip)))
 .skip))
 (.seq (.reg false [] [6, 7] [zm 43 9, zm 44 11, zm 45 44, zg 45 true (zm 46 9), zg 45 true (zd 47 .gtr 46 (.int .u64 0)), ⟨some 48, .pick (.t 45) (.t 47) (.c (.bool false)), none⟩, zk 49 110 [(.t 43), (.t 48)], zx 50 0 49, zx 51 1 49, zm 6 50, zm 7 51])
 .ret))))))) }

/-- sewershed/wide.placed -/
def N105_wide_placed : NFun := { np := 1, nt := 56, res := [(2, some (2, true)), (3, none)], body :=
 (.seq (.reg false [] [1, 2] [zo 1 0, ⟨some 2, .alc [.int .i64 0, .int .i64 0], none⟩, zc 3 (.int .i64 0)])
 (.seq (.seq (.reg false [] [1, 2, 23] [zf 6 0 1, zl 7 1 6, zd 8 .gtr 7 (.int .u64 72057594037927936), zm 9 8, zg 9 false (zf 10 0 1), zg 9 false (zl 11 1 10), zg 9 false (zd 12 .eql 11 (.int .u64 72057594037927936)), zg 9 false (zm 13 12), zg 13 true (zf 14 1 1), zg 13 true (zl 15 1 14), zg 13 true (zd 16 .gtr 15 (.int .u64 0)), zg 13 true (zm 17 16), zg 17 false (zf 18 2 1), zg 17 false (zl 19 1 18), zg 17 false (zt 20 19), zg 13 true (⟨some 21, .pick (.t 17) (.c (.bool true)) (.t 20), none⟩), zg 9 false (⟨some 22, .pick (.t 13) (.t 21) (.c (.bool false)), none⟩), ⟨some 23, .pick (.t 9) (.c (.bool true)) (.t 22), none⟩])
 (.cond (.t 23) (.seq (.reg false [] [2, 3] [⟨some 24, .bld [.int .i64 0, .int .i64 0] [], none⟩, ⟨none, .st 2 [] (.t 2) (.t 24), none⟩, zc 3 (.int .i64 5)])
 .ret)
 .skip))
 (.seq (.reg true [0, 1, 3, 0, 8, 24, 63, 127, 0, 256, 768, 1792, 255, 8191] [1, 2, 4, 5] [zf 25 0 1, zl 26 1 25, zd 27 .shl 26 (.int .u64 4), zf 28 1 1, zl 29 1 28, zd 30 .shr 29 (.int .u64 60), zb 31 .or 27 30, ⟨some 32, .conv .i64 (.t 31), none⟩, zf 33 1 1, zl 34 1 33, zd 35 .and 34 (.int .u64 1152921504606846975), ⟨some 36, .conv .i64 (.t 35), none⟩, zm 4 32, zm 5 36])
 (.seq (.block 0 (.seq (.reg false [] [2, 4, 5, 37] [zf 38 2 1, zl 39 1 38, zt 40 39, zm 37 40])
 (.cond (.t 37) (.seq (.reg false [] [2, 3] [zm 41 4, zm 42 5, ⟨some 43, .bld [.int .i64 0, .int .i64 0] [(0, 1, (.t 41)), (1, 1, (.t 42))], none⟩, ⟨none, .st 2 [] (.t 2) (.t 43), none⟩, zc 3 (.int .i64 0)])
 .ret)
 (.seq (.reg false [] [2, 4, 5, 44] [zm 45 5, zd 46 .eql 45 (.int .i64 0), zm 44 46])
 (.cond (.t 44) (.seq (.reg false [] [2, 3] [zm 47 4, ⟨some 48, .un .neg (.t 47), none⟩, ⟨some 49, .bld [.int .i64 0, .int .i64 0] [(0, 1, (.t 48))], none⟩, ⟨none, .st 2 [] (.t 2) (.t 49), none⟩, zc 3 (.int .i64 0)])
 .ret)
 .skip)))))
 (.seq (.reg false [] [2, 3] [zm 50 4, ⟨some 51, .un .neg (.t 50), none⟩, zd 52 .sub 51 (.int .i64 1), zm 53 5, ⟨some 54, .bin .sub (.c (.int .i64 1152921504606846976)) (.t 53), none⟩, ⟨some 55, .bld [.int .i64 0, .int .i64 0] [(0, 1, (.t 52)), (1, 1, (.t 54))], none⟩, ⟨none, .st 2 [] (.t 2) (.t 55), none⟩, zc 3 (.int .i64 0)])
 .ret))))) }

/-- sewershed/wide.Valid -/
def N106_wide_Valid : NFun := { np := 1, nt := 21, res := [(2, none)], body :=
 (.seq (.reg false [] [1] [zo 1 0, zc 2 (.bool false)])
 (.seq (.reg false [] [2] [zf 3 0 1, zl 4 1 3, ⟨some 5, .bin .geq (.t 4) (.c (.int .i64 (-1152921504606846976))), none⟩, zm 6 5, zg 6 true (zf 7 0 1), zg 6 true (zl 8 1 7), zg 6 true (zd 9 .lss 8 (.int .i64 1152921504606846976)), ⟨some 10, .pick (.t 6) (.t 9) (.c (.bool false)), none⟩, zm 11 10, zg 11 true (zf 12 1 1), zg 11 true (zl 13 1 12), zg 11 true (zd 14 .geq 13 (.int .i64 0)), ⟨some 15, .pick (.t 11) (.t 14) (.c (.bool false)), none⟩, zm 16 15, zg 16 true (zf 17 1 1), zg 16 true (zl 18 1 17), zg 16 true (zd 19 .lss 18 (.int .i64 1152921504606846976)), ⟨some 20, .pick (.t 16) (.t 19) (.c (.bool false)), none⟩, zm 2 20])
 .ret)) }

/-- sewershed/wide.sum -/
def N107_wide_sum : NFun := { np := 2, nt := 73, res := [(4, some (3, true))], body :=
 (.seq (.reg false [] [2, 3, 4] [⟨some 2, .box [] (.t 0), none⟩, ⟨some 3, .box [] (.t 1), none⟩, ⟨some 4, .alc [.int .u64 0, .int .u64 0, .bool false], none⟩])
 (.seq (.seq (.reg false [] [2, 3, 4, 13] [zf 9 2 2, zl 10 1 9, zf 11 2 3, zl 12 1 11, ⟨some 13, .beq false [] (.t 10) (.t 12), none⟩])
 (.cond (.t 13) (.seq (.reg false [] [2, 3, 4, 5, 6] [zf 15 1 2, zl 16 1 15, zf 17 1 3, zl 18 1 17, ⟨some 19, .add64 (.t 16) (.t 18) (.c (.int .u64 0)), none⟩, zm 14 19, zx 20 0 14, zx 21 1 14, zm 5 20, zm 6 21])
 (.seq (.reg false [] [4] [zf 22 0 2, zl 23 1 22, zf 24 0 3, zl 25 1 24, zb 26 .add 23 25, zm 27 6, zb 28 .add 26 27, zm 29 5, zf 30 2 2, zl 31 1 30, zk 32 113 [(.t 28), (.t 29), (.t 31)], ⟨none, .st 3 [] (.t 4) (.t 32), none⟩])
 .ret))
 .skip))
 (.seq (.seq (.reg false [] [2, 3, 4, 51] [zf 33 0 2, zl 34 1 33, zf 35 0 3, zl 36 1 35, zb 37 .lss 34 36, zm 38 37, zg 38 false (zf 39 0 2), zg 38 false (zl 40 1 39), zg 38 false (zf 41 0 3), zg 38 false (zl 42 1 41), zg 38 false (zb 43 .eql 40 42), zg 38 false (zm 44 43), zg 44 true (zf 45 1 2), zg 44 true (zl 46 1 45), zg 44 true (zf 47 1 3), zg 44 true (zl 48 1 47), zg 44 true (zb 49 .lss 46 48), zg 38 false (⟨some 50, .pick (.t 44) (.t 49) (.c (.bool false)), none⟩), ⟨some 51, .pick (.t 38) (.c (.bool true)) (.t 50), none⟩])
 (.cond (.t 51) (.reg false [] [2, 3, 4] [zL 52 3 3, zL 53 3 2, ⟨none, .st 3 [] (.t 2) (.t 52), none⟩, ⟨none, .st 3 [] (.t 3) (.t 53), none⟩])
 .skip))
 (.seq (.reg false [] [2, 3, 4, 7, 8] [zf 55 1 2, zl 56 1 55, zf 57 1 3, zl 58 1 57, ⟨some 59, .sub64 (.t 56) (.t 58) (.c (.int .u64 0)), none⟩, zm 54 59, zx 60 0 54, zx 61 1 54, zm 7 60, zm 8 61])
 (.seq (.reg false [] [4] [zf 62 0 2, zl 63 1 62, zf 64 0 3, zl 65 1 64, zb 66 .sub 63 65, zm 67 8, zb 68 .sub 66 67, zm 69 7, zf 70 2 2, zl 71 1 70, zk 72 113 [(.t 68), (.t 69), (.t 71)], ⟨none, .st 3 [] (.t 4) (.t 72), none⟩])
 .ret))))) }

/-- sewershed/wide.value -/
def N108_wide_value : NFun := { np := 1, nt := 37, res := [(2, some (3, true))], body :=
 (.seq (.reg false [] [1, 2] [zo 1 0, ⟨some 2, .alc [.int .u64 0, .int .u64 0, .bool false], none⟩])
 (.seq (.reg false [] [1, 2, 3] [zf 7 0 1, zl 8 1 7, zk 9 112 [(.t 8)], zm 3 9])
 (.seq (.reg false [] [1, 2, 4, 5] [zm 10 3, zd 11 .shr 10 (.int .u64 4), zm 12 3, zd 13 .shl 12 (.int .u64 60), zm 4 11, zm 5 13])
 (.seq (.seq (.reg false [] [1, 2, 4, 5, 16] [zf 14 0 1, zl 15 1 14, zd 16 .geq 15 (.int .i64 0)])
 (.cond (.t 16) (.seq (.reg false [] [2] [zm 17 4, zm 18 5, zf 19 1 1, zl 20 1 19, ⟨some 21, .conv .u64 (.t 20), none⟩, zb 22 .or 18 21, ⟨some 23, .bld [.int .u64 0, .int .u64 0, .bool false] [(0, 1, (.t 17)), (1, 1, (.t 22)), (2, 1, (.c (.bool false)))], none⟩, ⟨none, .st 3 [] (.t 2) (.t 23), none⟩])
 .ret)
 .skip))
 (.seq (.reg false [] [2, 4, 5, 6] [zm 25 5, zf 26 1 1, zl 27 1 26, ⟨some 28, .conv .u64 (.t 27), none⟩, ⟨some 29, .sub64 (.t 25) (.t 28) (.c (.int .u64 0)), none⟩, zm 24 29, zx 30 0 24, zx 31 1 24, zm 5 30, zm 6 31])
 (.seq (.reg false [] [2] [zm 32 4, zm 33 6, zb 34 .sub 32 33, zm 35 5, ⟨some 36, .bld [.int .u64 0, .int .u64 0, .bool false] [(0, 1, (.t 34)), (1, 1, (.t 35)), (2, 1, (.c (.bool true)))], none⟩, ⟨none, .st 3 [] (.t 2) (.t 36), none⟩])
 .ret)))))) }

/-- sewershed/wide.minus -/
def N109_wide_minus : NFun := { np := 1, nt := 11, res := [(2, some (3, true))], body :=
 (.seq (.reg false [] [1, 2] [zo 1 0, ⟨some 2, .alc [.int .u64 0, .int .u64 0, .bool false], none⟩])
 (.seq (.reg false [] [2] [zf 3 0 1, zl 4 1 3, zf 5 1 1, zl 6 1 5, zf 7 2 1, zl 8 1 7, zt 9 8, zk 10 113 [(.t 4), (.t 6), (.t 9)], ⟨none, .st 3 [] (.t 2) (.t 10), none⟩])
 .ret)) }

/-- sewershed/wide.whole -/
def N110_wide_whole : NFun := { np := 2, nt := 24, res := [(4, none), (5, none)], body :=
 (.seq (.reg false [] [0, 1] [zc 4 (.int .i64 0), zc 5 (.int .i64 0)])
 (.seq (.block 0 (.seq (.reg false [] [0, 1, 6] [zm 7 1, zt 8 7, zm 9 8, zg 9 true (zm 10 0), zg 9 true (zd 11 .leq 10 (.int .u64 9223372036854775807)), ⟨some 12, .pick (.t 9) (.t 11) (.c (.bool false)), none⟩, zm 6 12])
 (.cond (.t 6) (.seq (.reg false [] [4, 5] [zm 13 0, ⟨some 14, .conv .i64 (.t 13), none⟩, zm 4 14, zc 5 (.int .i64 0)])
 .ret)
 (.seq (.reg false [] [0, 15] [zm 16 1, zm 17 16, zg 17 true (zm 18 0), zg 17 true (zd 19 .leq 18 (.int .u64 9223372036854775808)), ⟨some 20, .pick (.t 17) (.t 19) (.c (.bool false)), none⟩, zm 15 20])
 (.cond (.t 15) (.seq (.reg false [] [4, 5] [zm 21 0, ⟨some 22, .un .neg (.t 21), none⟩, ⟨some 23, .conv .i64 (.t 22), none⟩, zm 4 23, zc 5 (.int .i64 0)])
 .ret)
 .skip)))))
 (.seq (.reg false [] [4, 5] [zc 4 (.int .i64 0), zc 5 (.int .i64 5)])
 .ret))) }

def S1 : List UInt8 := [0, 1, 2, 2, 3, 3, 3, 3, 4, 4, 4, 4, 4, 4, 4, 4, 5, 5, 5, 5, 5, 5, 5, 5, 5, 5, 5, 5, 5, 5, 5, 5, 6, 6, 6, 6, 6, 6, 6, 6, 6, 6, 6, 6, 6, 6, 6, 6, 6, 6, 6, 6, 6, 6, 6, 6, 6, 6, 6, 6, 6, 6, 6, 6, 7, 7, 7, 7, 7, 7, 7, 7, 7, 7, 7, 7, 7, 7, 7, 7, 7, 7, 7, 7, 7, 7, 7, 7, 7, 7, 7, 7, 7, 7, 7, 7, 7, 7, 7, 7, 7, 7, 7, 7, 7, 7, 7, 7, 7, 7, 7, 7, 7, 7, 7, 7, 7, 7, 7, 7, 7, 7, 7, 7, 7, 7, 7, 7, 8, 8, 8, 8, 8, 8, 8, 8, 8, 8, 8, 8, 8, 8, 8, 8, 8, 8, 8, 8, 8, 8, 8, 8, 8, 8, 8, 8, 8, 8, 8, 8, 8, 8, 8, 8, 8, 8, 8, 8, 8, 8, 8, 8, 8, 8, 8, 8, 8, 8, 8, 8, 8, 8, 8, 8, 8, 8, 8, 8, 8, 8, 8, 8, 8, 8, 8, 8, 8, 8, 8, 8, 8, 8, 8, 8, 8, 8, 8, 8, 8, 8, 8, 8, 8, 8, 8, 8, 8, 8, 8, 8, 8, 8, 8, 8, 8, 8, 8, 8, 8, 8, 8, 8, 8, 8, 8, 8, 8, 8, 8, 8, 8, 8, 8, 8, 8, 8, 8, 8, 8, 8, 8, 8, 8, 8, 8, 8]

/-- math/bits.Len64 -/
def N111_math_bits_Len64 : NFun := { np := 1, nt := 25, res := [(2, none)], body :=
 (.seq (.reg false [] [0, 2] [zc 2 (.int .i64 0)])
 (.seq (.seq (.reg false [] [0, 2, 4] [zm 3 0, zd 4 .geq 3 (.int .u64 4294967296)])
 (.cond (.t 4) (.seq (.reg false [] [0] [zm 5 0, zd 6 .shr 5 (.int .u64 32), zm 0 6])
 (.reg false [] [0, 2] [zc 2 (.int .i64 32)]))
 .skip))
 (.seq (.seq (.reg false [] [0, 2, 8] [zm 7 0, zd 8 .geq 7 (.int .u64 65536)])
 (.cond (.t 8) (.seq (.reg false [] [0, 2] [zm 9 0, zd 10 .shr 9 (.int .u64 16), zm 0 10])
 (.reg false [] [0, 2] [zm 11 2, zd 12 .add 11 (.int .i64 16), zm 2 12]))
 .skip))
 (.seq (.seq (.reg false [] [0, 2, 14] [zm 13 0, zd 14 .geq 13 (.int .u64 256)])
 (.cond (.t 14) (.seq (.reg false [] [0, 2] [zm 15 0, zd 16 .shr 15 (.int .u64 8), zm 0 16])
 (.reg false [] [0, 2] [zm 17 2, zd 18 .add 17 (.int .i64 8), zm 2 18]))
 .skip))
 (.seq (.reg false [] [2] [zm 19 2, zm 20 0, ⟨some 21, .conv .u8 (.t 20), none⟩, ⟨some 22, .idxS (.c (.str S1)) (.t 21), none⟩, ⟨some 23, .conv .i64 (.t 22), none⟩, zb 24 .add 19 23, zm 2 24])
 .ret))))) }

/-- sewershed/wide.size -/
def N112_wide_size : NFun := { np := 1, nt := 10, res := [(2, none)], body :=
 (.seq (.reg false [] [0] [zc 2 (.int .u64 0)])
 (.seq (.seq (.reg false [] [0, 4] [zm 3 0, zd 4 .lss 3 (.int .i64 0)])
 (.cond (.t 4) (.seq (.reg false [] [2] [zm 5 0, ⟨some 6, .conv .u64 (.t 5), none⟩, ⟨some 7, .un .neg (.t 6), none⟩, zm 2 7])
 .ret)
 .skip))
 (.seq (.reg false [] [2] [zm 8 0, ⟨some 9, .conv .u64 (.t 8), none⟩, zm 2 9])
 .ret))) }

/-- sewershed/wide.signed -/
def N113_wide_signed : NFun := { np := 3, nt := 19, res := [(6, some (3, true))], body :=
 (.seq (.reg false [] [0, 1, 2, 6] [⟨some 6, .alc [.int .u64 0, .int .u64 0, .bool false], none⟩])
 (.seq (.reg false [] [6] [zm 7 0, zm 8 1, zm 9 2, zm 10 9, zg 10 true (zm 11 0), zg 10 true (zd 12 .neq 11 (.int .u64 0)), zg 10 true (zm 13 12), zg 13 false (zm 14 1), zg 13 false (zd 15 .neq 14 (.int .u64 0)), zg 10 true (⟨some 16, .pick (.t 13) (.c (.bool true)) (.t 15), none⟩), ⟨some 17, .pick (.t 10) (.t 16) (.c (.bool false)), none⟩, ⟨some 18, .bld [.int .u64 0, .int .u64 0, .bool false] [(0, 1, (.t 7)), (1, 1, (.t 8)), (2, 1, (.t 17))], none⟩, ⟨none, .st 3 [] (.t 6) (.t 18), none⟩])
 .ret)) }

/-- sewershed/sizing.Allowed -/
def N118_sizing_Allowed : NFun := { np := 2, nt := 52, res := [(4, none), (5, none), (6, none)], body :=
 (.seq (.reg false [] [2, 3] [zo 2 0, zo 3 1, zc 4 (.bool false), zc 5 (.int .i64 0), zc 6 (.int .i64 0)])
 (.seq (.seq (.reg false [] [2, 3, 7] [zL 12 6 2, zl 13 1 3, zk 14 120 [(.t 12), (.t 13)], zm 7 14])
 (.seq (.reg false [] [2, 3, 7, 16] [zm 15 7, zd 16 .neq 15 (.int .i64 0)])
 (.cond (.t 16) (.seq (.reg false [] [4, 5, 6] [zm 17 7, zc 4 (.bool false), zc 5 (.int .i64 0), zm 6 17])
 .ret)
 .skip)))
 (.seq (.reg false [] [2, 3, 8] [zL 18 6 2, zk 19 30 [(.t 18)], zm 8 19])
 (.seq (.seq (.reg false [] [2, 3, 8, 20, 21, 22] [zl 20 1 3, zn 21 20, zc 22 (.int .i64 0)])
 (.block 0 (.loop (.seq (.reg false [] [2, 3, 8, 20, 21, 22, 23] [zb 23 .lss 22 21])
 (.seq (.cond (.t 23) .skip
 (.exit 0))
 (.seq (.block 1 (.seq (.reg false [] [2, 3, 8, 9, 10, 20, 21, 22] [zm 24 22, zi 25 1 20 22, zl 26 1 25, ⟨some 10, .alc [.int .i64 0], none⟩, zm 9 24, ⟨none, .st 1 [] (.t 10) (.t 26), none⟩])
 (.seq (.reg false [] [2, 3, 8, 9, 10, 11, 20, 21, 22] [zm 27 8, ⟨some 28, .nck (.t 27), none⟩, zf 29 7 28, zl 30 1 29, zm 31 9, zi 32 1 30 31, zl 33 1 32, ⟨some 34, .mk 121 [(.t 2), (.t 3), (.t 10)], none⟩, zk 35 11 [(.t 33), (.t 34)], zm 11 35])
 (.seq (.reg true [0, 1, 3, 7, 0, 31, 63, 0, 255, 511, 1023, 2047, 4095, 8191] [2, 3, 8, 9, 20, 21, 22, 49] [zm 36 8, ⟨some 37, .nck (.t 36), none⟩, zf 38 6 37, zl 39 1 38, zm 40 9, zi 41 1 39 40, zl 42 1 41, zl 43 1 10, zi 44 1 42 43, zl 45 1 44, zt 46 45, zm 47 46, zg 47 false (zm 48 11), ⟨some 49, .pick (.t 47) (.c (.bool true)) (.t 48), none⟩])
 (.cond (.t 49) (.seq (.reg false [] [4, 5, 6] [zm 50 9, zc 4 (.bool false), zm 5 50, zc 6 (.int .i64 0)])
 .ret)
 .skip)))))
 (.reg false [] [2, 3, 8, 20, 21, 22] [zd 51 .add 22 (.int .i64 1), zm 22 51])))))))
 (.seq (.reg false [] [4, 5, 6] [zc 4 (.bool true), ⟨some 5, .mov (.c (.int .i64 (-1))), none⟩, zc 6 (.int .i64 0)])
 .ret))))) }

/-- sewershed/sizing.Cost -/
def N119_sizing_Cost : NFun := { np := 2, nt := 39, res := [(4, none), (5, none)], body :=
 (.seq (.reg false [] [1, 2] [zo 2 0, zc 4 (.int .i64 0), zc 5 (.int .i64 0)])
 (.seq (.seq (.reg false [] [1, 2, 6] [zL 10 6 2, zm 11 1, zk 12 120 [(.t 10), (.t 11)], zm 6 12])
 (.seq (.reg false [] [1, 2, 6, 14] [zm 13 6, zd 14 .neq 13 (.int .i64 0)])
 (.cond (.t 14) (.seq (.reg false [] [4, 5] [zm 15 6, zc 4 (.int .i64 0), zm 5 15])
 .ret)
 .skip)))
 (.seq (.reg false [] [1, 2, 7] [zc 7 (.int .i64 0)])
 (.seq (.seq (.reg false [] [2, 7, 16, 17, 18] [zq 16 1, zn 17 16, zc 18 (.int .i64 0)])
 (.block 0 (.loop (.seq (.reg false [] [2, 7, 16, 17, 18, 19] [zb 19 .lss 18 17])
 (.seq (.cond (.t 19) .skip
 (.exit 0))
 (.seq (.block 1 (.seq (.reg false [] [2, 7, 8, 9, 16, 17, 18] [zm 20 18, zi 21 1 16 18, zl 22 1 21, zm 8 20, zm 9 22])
 (.reg true [0, 0, 2, 0, 14, 30, 0, 64, 0, 448, 960, 1984, 4094, 8191, 16383] [2, 7, 16, 17, 18] [zm 23 7, zf 24 1 2, zl 25 1 24, zm 26 8, zi 27 1 25 26, zl 28 1 27, zf 29 5 2, zl 30 1 29, zm 31 9, zi 32 5 30 31, zf 33 2 32, zl 34 1 33, zb 35 .mul 28 34, zb 36 .add 23 35, zm 7 36])))
 (.reg false [] [2, 7, 16, 17, 18] [zd 37 .add 18 (.int .i64 1), zm 18 37])))))))
 (.seq (.reg false [] [4, 5] [zm 38 7, zm 4 38, zc 5 (.int .i64 0)])
 .ret))))) }

/-- sewershed/sizing.choice -/
def N120_sizing_choice : NFun := { np := 2, nt := 20, res := [(4, none)], body :=
 (.seq (.reg false [] [1, 2] [zo 2 0, zc 4 (.int .i64 0)])
 (.seq (.block 0 (.seq (.reg false [] [1, 2, 5] [zL 6 6 2, zk 7 24 [(.t 6)], zt 8 7, zm 5 8])
 (.cond (.t 5) (.seq (.reg false [] [4] [zc 4 (.int .i64 1)])
 .ret)
 (.seq (.reg false [] [1, 2, 9] [zm 10 1, zn 11 10, zf 12 0 2, zl 13 1 12, zn 14 13, zb 15 .neq 11 14, zm 9 15])
 (.cond (.t 9) (.seq (.reg false [] [4] [zc 4 (.int .i64 3)])
 .ret)
 (.seq (.reg false [] [16] [zq 17 1, ⟨some 18, .mk 122 [(.t 2)], none⟩, zk 19 11 [(.t 17), (.t 18)], zm 16 19])
 (.cond (.t 16) (.seq (.reg false [] [4] [zc 4 (.int .i64 2)])
 .ret)
 .skip)))))))
 (.seq (.reg false [] [4] [zc 4 (.int .i64 0)])
 .ret))) }

/-- sewershed/sizing.Allowed$1 -/
def N121_sizing_Allowed_1 : NFun := { np := 4, nt := 22, res := [(5, none)], body :=
 (.seq (.reg false [] [0, 1, 2, 3] [zc 5 (.bool false)])
 (.seq (.reg true [0, 1, 0, 0, 12, 28, 63, 127, 255, 0, 512, 0, 3584, 7680, 15872, 32767, 65535] [5] [zf 6 5 1, zl 7 1 6, zl 8 1 2, zm 9 0, zi 10 1 8 9, zl 11 1 10, zi 12 5 7 11, zf 13 1 12, zl 14 1 13, zf 15 5 1, zl 16 1 15, zl 17 1 3, zi 18 5 16 17, zf 19 1 18, zl 20 1 19, zb 21 .gtr 14 20, zm 5 21])
 .ret)) }

/-- sewershed/sizing.choice$1 -/
def N122_sizing_choice_1 : NFun := { np := 2, nt := 13, res := [(3, none)], body :=
 (.seq (.reg false [] [0, 1] [zc 3 (.bool false)])
 (.seq (.reg false [] [3] [zm 4 0, zd 5 .lss 4 (.int .i64 0), zm 6 5, zg 6 false (zm 7 0), zg 6 false (zf 8 5 1), zg 6 false (zl 9 1 8), zg 6 false (zn 10 9), zg 6 false (zb 11 .geq 7 10), ⟨some 12, .pick (.t 6) (.c (.bool true)) (.t 11), none⟩, zm 3 12])
 .ret)) }

/-- sewershed/sizing.Binding -/
def N124_sizing_Binding : NFun := { np := 2, nt := 141, res := [(4, none), (5, none)], body :=
 (.seq (.reg false [] [2, 3] [zo 2 0, zo 3 1, zc 4 .nils, zc 5 (.int .i64 0)])
 (.seq (.reg false [] [2, 3, 6, 8] [zL 19 6 2, zl 20 1 3, zk 21 118 [(.t 19), (.t 20)], zm 18 21, zx 22 0 18, zx 23 1 18, zx 24 2 18, zm 6 22, zm 7 23, zm 8 24])
 (.seq (.seq (.reg false [] [2, 3, 6, 8, 26] [zm 25 8, zd 26 .neq 25 (.int .i64 0)])
 (.cond (.t 26) (.seq (.reg false [] [4, 5] [zm 27 8, zc 4 .nils, zm 5 27])
 .ret)
 .skip))
 (.seq (.seq (.reg false [] [2, 3, 29] [zm 28 6, zt 29 28])
 (.cond (.t 29) (.seq (.reg false [] [4, 5] [zc 4 .nils, zc 5 (.int .i64 25)])
 .ret)
 .skip))
 (.seq (.reg false [] [2, 3, 9] [zL 30 6 2, zk 31 30 [(.t 30)], zm 9 31])
 (.seq (.reg false [] [2, 3, 9, 10] [⟨some 10, .nilo 2, none⟩])
 (.seq (.seq (.reg false [] [2, 3, 9, 10, 32, 33, 34] [zl 32 1 3, zn 33 32, zc 34 (.int .i64 0)])
 (.block 0 (.loop (.seq (.reg false [] [2, 3, 9, 10, 32, 33, 34, 35] [zb 35 .lss 34 33])
 (.seq (.cond (.t 35) .skip
 (.exit 0))
 (.seq (.block 1 (.seq (.reg false [] [2, 3, 9, 10, 11, 12, 32, 33, 34] [zm 36 34, zi 37 1 32 34, zl 38 1 37, zm 11 36, zm 12 38])
 (.seq (.reg false [] [2, 3, 9, 10, 11, 12, 13, 32, 33, 34] [zc 13 (.int .i64 0)])
 (.seq (.seq (.reg false [] [2, 3, 9, 10, 11, 12, 13, 32, 33, 34, 40, 41, 42] [zf 39 5 2, zl 40 1 39, zn 41 40, zc 42 (.int .i64 0)])
 (.block 2 (.loop (.seq (.reg false [] [2, 3, 9, 10, 11, 12, 13, 32, 33, 34, 40, 41, 42, 43] [zb 43 .lss 42 41])
 (.seq (.cond (.t 43) .skip
 (.exit 2))
 (.seq (.block 3 (.seq (.reg false [] [2, 3, 9, 10, 11, 12, 13, 14, 15, 32, 33, 34, 40, 41, 42] [zm 44 42, zi 45 5 40 42, zL 46 5 45, ⟨some 15, .alc [.str [], .int .i64 0, .int .i64 0, .own 2 [], .own 2 []], none⟩, zm 14 44, ⟨none, .st 5 [] (.t 15) (.t 46), none⟩])
 (.seq (.seq (.reg true [0, 1, 0, 4, 0, 28, 60, 124, 255] [2, 3, 9, 10, 11, 12, 13, 14, 15, 32, 33, 34, 40, 41, 42, 55] [zf 47 2 15, zl 48 1 47, zf 49 5 2, zl 50 1 49, zm 51 12, zi 52 5 50 51, zf 53 2 52, zl 54 1 53, zb 55 .geq 48 54])
 (.cond (.t 55) (.exit 3)
 .skip))
 (.seq (.reg false [] [2, 3, 9, 10, 11, 12, 13, 14, 15, 16, 32, 33, 34, 40, 41, 42] [zm 56 9, ⟨some 57, .nck (.t 56), none⟩, zf 58 7 57, zl 59 1 58, zm 60 11, zi 61 1 59 60, zl 62 1 61, ⟨some 63, .mk 128 [(.t 2), (.t 3), (.t 15)], none⟩, zk 64 11 [(.t 62), (.t 63)], zm 16 64])
 (.seq (.reg true [0, 1, 0, 7, 15, 31, 63, 127, 255, 127, 639, 127, 127, 4223, 127, 28799, 61567, 129151, 260223, 523903, 1048191, 2096767, 4194303, 8388607, 16777215] [2, 3, 9, 10, 11, 12, 13, 14, 16, 17, 32, 33, 34, 40, 41, 42] [zf 65 0 2, zl 66 1 65, zm 67 11, zi 68 1 66 67, zl 69 1 68, ⟨some 70, .bin .neq (.t 69) (.c (.int .i64 (-1))), none⟩, zm 71 70, zg 71 true (zf 72 1 15), zg 71 true (zl 73 1 72), zg 71 true (zf 74 5 2), zg 71 true (zl 75 1 74), zg 71 true (zl 76 1 3), zg 71 true (zf 77 0 2), zg 71 true (zl 78 1 77), zg 71 true (zm 79 11), zg 71 true (zi 80 1 78 79), zg 71 true (zl 81 1 80), zg 71 true (zi 82 1 76 81), zg 71 true (zl 83 1 82), zg 71 true (zi 84 5 75 83), zg 71 true (zf 85 1 84), zg 71 true (zl 86 1 85), zg 71 true (zb 87 .gtr 73 86), ⟨some 88, .pick (.t 71) (.t 87) (.c (.bool false)), none⟩, zm 17 88])
 (.seq (.block 4 (.seq (.reg false [] [2, 3, 9, 10, 11, 12, 13, 14, 16, 32, 33, 34, 40, 41, 42, 89] [zm 90 16, zt 91 90, zm 92 91, zg 92 true (zm 93 17), zg 92 true (zt 94 93), ⟨some 95, .pick (.t 92) (.t 94) (.c (.bool false)), none⟩, zm 96 95, zg 96 true (zm 97 9), zg 96 true (⟨some 98, .nck (.t 97), none⟩), zg 96 true (zf 99 6 98), zg 96 true (zl 100 1 99), zg 96 true (zm 101 11), zg 96 true (zi 102 1 100 101), zg 96 true (zl 103 1 102), zg 96 true (zm 104 14), zg 96 true (zi 105 1 103 104), zg 96 true (zl 106 1 105), zg 96 true (zt 107 106), ⟨some 108, .pick (.t 96) (.t 107) (.c (.bool false)), none⟩, zm 89 108])
 (.cond (.t 89) (.reg false [] [2, 3, 9, 10, 11, 12, 13, 32, 33, 34, 40, 41, 42] [zc 13 (.int .i64 1)])
 (.seq (.reg false [] [2, 3, 9, 10, 11, 12, 13, 32, 33, 34, 40, 41, 42, 109] [zm 110 13, zd 111 .eql 110 (.int .i64 0), zm 112 111, zg 112 true (zm 113 9), zg 112 true (⟨some 114, .nck (.t 113), none⟩), zg 112 true (zf 115 6 114), zg 112 true (zl 116 1 115), zg 112 true (zm 117 11), zg 112 true (zi 118 1 116 117), zg 112 true (zl 119 1 118), zg 112 true (zm 120 14), zg 112 true (zi 121 1 119 120), zg 112 true (zl 122 1 121), ⟨some 123, .pick (.t 112) (.t 122) (.c (.bool false)), none⟩, zm 124 123, zg 124 true (zm 125 16), ⟨some 126, .pick (.t 124) (.t 125) (.c (.bool false)), none⟩, zm 109 126])
 (.cond (.t 109) (.reg false [] [2, 3, 9, 10, 11, 12, 13, 32, 33, 34, 40, 41, 42] [zc 13 (.int .i64 2)])
 .skip)))))
 (.seq (.reg false [] [2, 3, 9, 10, 11, 12, 13, 32, 33, 34, 40, 41, 42, 128] [zm 127 13, zd 128 .eql 127 (.int .i64 1)])
 (.cond (.t 128) (.exit 2)
 .skip))))))))
 (.reg false [] [2, 3, 9, 10, 11, 12, 13, 32, 33, 34, 40, 41, 42] [zd 129 .add 42 (.int .i64 1), zm 42 129])))))))
 (.seq (.reg false [] [2, 3, 9, 10, 11, 13, 32, 33, 34, 131] [zm 130 13, zd 131 .gtr 130 (.int .i64 0)])
 (.cond (.t 131) (.reg false [] [2, 3, 9, 10, 32, 33, 34] [zm 132 10, zm 133 13, zm 134 11, zk 135 127 [(.t 134)], ⟨some 136, .bld [.int .i64 0, .str []] [(0, 1, (.t 133)), (1, 1, (.t 135))], none⟩, ⟨some 137, .bls 2 1 [.int .i64 0, .str []] [] [(0, (.t 136))], none⟩, ⟨some 138, .app 2 24 false (.t 132) (.t 137), none⟩, zq 10 138])
 .skip))))))
 (.reg false [] [2, 3, 9, 10, 32, 33, 34] [zd 139 .add 34 (.int .i64 1), zm 34 139])))))))
 (.seq (.reg false [] [4, 5] [zq 140 10, zq 4 140, zc 5 (.int .i64 0)])
 .ret)))))))) }

/-- sewershed/sizing.Binding$1 -/
def N128_sizing_Binding_1 : NFun := { np := 4, nt := 18, res := [(5, none)], body :=
 (.seq (.reg false [] [0, 1, 2, 3] [zc 5 (.bool false)])
 (.seq (.reg true [0, 1, 0, 0, 12, 28, 63, 127, 255, 0, 512, 2047, 4095] [5] [zf 6 5 1, zl 7 1 6, zl 8 1 2, zm 9 0, zi 10 1 8 9, zl 11 1 10, zi 12 5 7 11, zf 13 1 12, zl 14 1 13, zf 15 1 3, zl 16 1 15, zb 17 .gtr 14 16, zm 5 17])
 .ret)) }

/-- sewershed/sewershedlaw47.SizingChoices -/
def N143_law47_SizingChoices : NFun := { np := 2, nt := 129, res := [(4, none)], body :=
 (.seq (.reg false [] [1, 2] [zo 2 0, zc 4 (.bool false)])
 (.seq (.seq (.reg false [] [1, 2, 15] [zk 14 3 [], zt 15 14])
 (.cond (.t 15) (.seq (.reg false [] [4] [zc 4 (.bool false)])
 .ret)
 .skip))
 (.seq (.seq (.reg false [] [1, 2, 22] [zL 16 6 2, zk 17 4 [(.t 16)], zm 18 17, zg 18 false (zm 19 1), zg 18 false (zn 20 19), zg 18 false (zd 21 .gtr 20 (.int .i64 20)), ⟨some 22, .pick (.t 18) (.c (.bool true)) (.t 21), none⟩])
 (.cond (.t 22) (.seq (.reg false [] [4] [zc 4 (.bool true)])
 .ret)
 .skip))
 (.seq (.reg false [] [1, 2, 5, 6, 7] [zL 24 6 2, zm 25 1, zk 26 118 [(.t 24), (.t 25)], zm 23 26, zx 27 0 23, zx 28 1 23, zx 29 2 23, zm 5 27, zm 6 28, zm 7 29])
 (.seq (.reg false [] [1, 2, 5, 6, 7, 8, 9] [zL 31 6 2, zm 32 1, zk 33 119 [(.t 31), (.t 32)], zm 30 33, zx 34 0 30, zx 35 1 30, zm 8 34, zm 9 35])
 (.seq (.reg false [] [1, 2, 5, 6, 7, 8, 9, 10, 11] [zL 37 6 2, zm 38 1, zk 39 124 [(.t 37), (.t 38)], zm 36 39, zx 40 0 36, zx 41 1 36, zq 10 40, zm 11 41])
 (.seq (.reg false [] [1, 2, 5, 6, 7, 8, 9, 10, 11, 12] [zc 12 (.int .i64 1)])
 (.seq (.seq (.reg false [] [1, 2, 5, 6, 7, 8, 9, 10, 11, 12, 43] [zL 42 6 2, zk 43 8 [(.t 42)]])
 (.cond (.t 43) (.reg false [] [1, 2, 5, 6, 7, 8, 9, 10, 11, 12] [zL 44 6 2, zm 45 1, zk 46 144 [(.t 44), (.t 45)], zm 12 46])
 .skip))
 (.seq (.seq (.reg true [0, 1, 0, 7, 15] [1, 2, 5, 6, 7, 8, 9, 10, 11, 12, 51] [zL 47 6 2, zk 48 24 [(.t 47)], zL 49 6 2, zk 50 8 [(.t 49)], ⟨some 51, .beq true [] (.t 48) (.t 50), none⟩])
 (.cond (.t 51) (.seq (.reg false [] [4] [zc 4 (.bool false)])
 .ret)
 .skip))
 (.seq (.seq (.reg false [] [1, 2, 5, 6, 7, 8, 9, 10, 11, 12, 53] [zm 52 12, zd 53 .neq 52 (.int .i64 0)])
 (.cond (.t 53) (.seq (.reg false [] [4] [zm 54 5, zt 55 54, zm 56 55, zg 56 true (zm 57 6), zg 56 true (zd 58 .eql 57 (.int .i64 0)), ⟨some 59, .pick (.t 56) (.t 58) (.c (.bool false)), none⟩, zm 60 59, zg 60 true (zm 61 7), zg 60 true (zm 62 12), zg 60 true (zb 63 .eql 61 62), ⟨some 64, .pick (.t 60) (.t 63) (.c (.bool false)), none⟩, zm 65 64, zg 65 true (zm 66 8), zg 65 true (zd 67 .eql 66 (.int .i64 0)), ⟨some 68, .pick (.t 65) (.t 67) (.c (.bool false)), none⟩, zm 69 68, zg 69 true (zm 70 9), zg 69 true (zm 71 12), zg 69 true (zb 72 .eql 70 71), ⟨some 73, .pick (.t 69) (.t 72) (.c (.bool false)), none⟩, zm 74 73, zg 74 true (zq 75 10), zg 74 true (zn 76 75), zg 74 true (zd 77 .eql 76 (.int .i64 0)), ⟨some 78, .pick (.t 74) (.t 77) (.c (.bool false)), none⟩, zm 79 78, zg 79 true (zm 80 11), zg 79 true (zm 81 12), zg 79 true (zb 82 .eql 80 81), ⟨some 83, .pick (.t 79) (.t 82) (.c (.bool false)), none⟩, zm 4 83])
 .ret)
 .skip))
 (.seq (.reg false [] [1, 2, 5, 6, 7, 8, 9, 10, 11, 13] [zL 84 6 2, zm 85 1, zk 86 145 [(.t 84), (.t 85)], zm 13 86])
 (.seq (.seq (.reg false [] [1, 2, 10, 11, 13, 110] [zm 87 5, zm 88 13, zd 89 .lss 88 (.int .i64 0), ⟨some 90, .beq true [] (.t 87) (.t 89), none⟩, zm 91 90, zg 91 false (zm 92 6), zg 91 false (zm 93 13), zg 91 false (zb 94 .neq 92 93), ⟨some 95, .pick (.t 91) (.c (.bool true)) (.t 94), none⟩, zm 96 95, zg 96 false (zm 97 7), zg 96 false (zd 98 .neq 97 (.int .i64 0)), ⟨some 99, .pick (.t 96) (.c (.bool true)) (.t 98), none⟩, zm 100 99, zg 100 false (zm 101 8), zg 100 false (zL 102 6 2), zg 100 false (zm 103 1), zg 100 false (zk 104 146 [(.t 102), (.t 103)]), zg 100 false (zb 105 .neq 101 104), ⟨some 106, .pick (.t 100) (.c (.bool true)) (.t 105), none⟩, zm 107 106, zg 107 false (zm 108 9), zg 107 false (zd 109 .neq 108 (.int .i64 0)), ⟨some 110, .pick (.t 107) (.c (.bool true)) (.t 109), none⟩])
 (.cond (.t 110) (.seq (.reg false [] [4] [zc 4 (.bool false)])
 .ret)
 .skip))
 (.seq (.seq (.reg false [] [1, 2, 10, 11, 112] [zm 111 13, zd 112 .geq 111 (.int .i64 0)])
 (.cond (.t 112) (.seq (.reg false [] [4] [zq 113 10, zn 114 113, zd 115 .eql 114 (.int .i64 0), zm 116 115, zg 116 true (zm 117 11), zg 116 true (zd 118 .eql 117 (.int .i64 25)), ⟨some 119, .pick (.t 116) (.t 118) (.c (.bool false)), none⟩, zm 4 119])
 .ret)
 .skip))
 (.seq (.reg false [] [4] [zm 120 11, zd 121 .eql 120 (.int .i64 0), zm 122 121, zg 122 true (zq 123 10), zg 122 true (zL 124 6 2), zg 122 true (zq 125 1), zg 122 true (zk 126 148 [(.t 124), (.t 125)]), zg 122 true (zk 127 147 [(.t 123), (.t 126)]), ⟨some 128, .pick (.t 122) (.t 127) (.c (.bool false)), none⟩, zm 4 128])
 .ret)))))))))))))) }

/-- sewershed/sewershedref47.Sizes -/
def N144_ref47_Sizes : NFun := { np := 2, nt := 18, res := [(4, none)], body :=
 (.seq (.reg false [] [1, 2] [zo 2 0, zc 4 (.int .i64 0)])
 (.seq (.seq (.reg false [] [1, 2, 10] [zm 5 1, zn 6 5, zf 7 0 2, zl 8 1 7, zn 9 8, zb 10 .neq 6 9])
 (.cond (.t 10) (.seq (.reg false [] [4] [zc 4 (.int .i64 3)])
 .ret)
 .skip))
 (.seq (.seq (.reg false [] [17] [zq 11 1, zf 12 5 2, zl 13 1 12, zn 14 13, zd 15 .sub 14 (.int .i64 1), zk 16 34 [(.t 11), (.c (.int .i64 0)), (.t 15)], zt 17 16])
 (.cond (.t 17) (.seq (.reg false [] [4] [zc 4 (.int .i64 2)])
 .ret)
 .skip))
 (.seq (.reg false [] [4] [zc 4 (.int .i64 0)])
 .ret)))) }

/-- sewershed/sewershedref47.Allowed -/
def N145_ref47_Allowed : NFun := { np := 2, nt := 31, res := [(4, none)], body :=
 (.seq (.reg false [] [1, 2] [zo 2 0, zc 4 (.int .i64 0)])
 (.seq (.seq (.reg false [] [1, 2, 5] [zc 5 (.int .i64 0)])
 (.block 0 (.loop (.seq (.seq (.reg false [] [1, 2, 5, 9] [zm 6 5, zm 7 1, zn 8 7, zb 9 .lss 6 8])
 (.cond (.t 9) .skip
 (.exit 0)))
 (.seq (.block 1 (.seq (.reg true [0, 0, 0, 0, 12, 28, 63, 127, 255, 511, 511, 511, 511, 511, 12799, 29183, 65535, 131071] [1, 2, 5, 29] [zL 12 6 2, zm 13 5, zm 14 1, zm 15 5, zi 16 1 14 15, zl 17 1 16, zk 18 36 [(.t 12), (.t 13), (.t 17)], zt 19 18, zm 20 19, zg 20 false (zL 21 6 2), zg 20 false (zm 22 1), zg 20 false (zm 23 5), zg 20 false (zm 24 1), zg 20 false (zm 25 5), zg 20 false (zi 26 1 24 25), zg 20 false (zl 27 1 26), zg 20 false (zk 28 149 [(.t 21), (.t 22), (.t 23), (.t 27)]), ⟨some 29, .pick (.t 20) (.c (.bool true)) (.t 28), none⟩])
 (.cond (.t 29) (.seq (.reg false [] [4] [zm 30 5, zm 4 30])
 .ret)
 .skip)))
 (.reg false [] [1, 2, 5] [zm 10 5, zd 11 .add 10 (.int .i64 1), zm 5 11]))))))
 (.seq (.reg false [] [4] [⟨some 4, .mov (.c (.int .i64 (-1))), none⟩])
 .ret))) }

/-- sewershed/sewershedref47.Cost -/
def N146_ref47_Cost : NFun := { np := 2, nt := 31, res := [(4, none)], body :=
 (.seq (.reg false [] [1, 2] [zo 2 0, zc 4 (.int .i64 0)])
 (.seq (.reg false [] [1, 2, 5] [zc 5 (.int .i64 0)])
 (.seq (.seq (.reg false [] [1, 2, 5, 6] [zc 6 (.int .i64 0)])
 (.block 0 (.loop (.seq (.seq (.reg false [] [1, 2, 5, 6, 10] [zm 7 6, zm 8 1, zn 9 8, zb 10 .lss 7 9])
 (.cond (.t 10) .skip
 (.exit 0)))
 (.seq (.block 1 (.reg true [0, 0, 2, 0, 14, 30, 0, 64, 0, 0, 768, 1792, 4032, 8128, 16320, 32766, 65535, 131071] [1, 2, 5, 6] [zm 13 5, zf 14 1 2, zl 15 1 14, zm 16 6, zi 17 1 15 16, zl 18 1 17, zf 19 5 2, zl 20 1 19, zm 21 1, zm 22 6, zi 23 1 21 22, zl 24 1 23, zi 25 5 20 24, zf 26 2 25, zl 27 1 26, zb 28 .mul 18 27, zb 29 .add 13 28, zm 5 29]))
 (.reg false [] [1, 2, 5, 6] [zm 11 6, zd 12 .add 11 (.int .i64 1), zm 6 12]))))))
 (.seq (.reg false [] [4] [zm 30 5, zm 4 30])
 .ret)))) }

/-- slices.Equal[[]sewershed/api.Finding,sewershed/api.Finding] -/
def N147_slices_Equal__api_Finding_api_Finding : NFun := { np := 2, nt := 26, res := [(4, none)], body :=
 (.seq (.reg false [] [0, 1] [zc 4 (.bool false)])
 (.seq (.seq (.reg false [] [0, 1, 10] [zm 6 0, zn 7 6, zm 8 1, zn 9 8, zb 10 .neq 7 9])
 (.cond (.t 10) (.seq (.reg false [] [4] [zc 4 (.bool false)])
 .ret)
 .skip))
 (.seq (.seq (.reg false [] [0, 1, 12, 13] [zm 11 0, zn 12 11, zc 13 (.int .i64 0)])
 (.block 0 (.loop (.seq (.reg false [] [0, 1, 12, 13, 14] [zb 14 .lss 13 12])
 (.seq (.cond (.t 14) .skip
 (.exit 0))
 (.seq (.block 1 (.seq (.reg false [] [0, 1, 5, 12, 13] [zm 15 13, zm 5 15])
 (.seq (.reg true [0, 0, 3, 7, 0, 0, 48, 112, 255] [0, 1, 12, 13, 24] [zm 16 0, zm 17 5, zi 18 2 16 17, zL 19 2 18, zm 20 1, zm 21 5, zi 22 2 20 21, zL 23 2 22, ⟨some 24, .beq true [0, 2] (.t 19) (.t 23), none⟩])
 (.cond (.t 24) (.seq (.reg false [] [4] [zc 4 (.bool false)])
 .ret)
 .skip))))
 (.reg false [] [0, 1, 12, 13] [zd 25 .add 13 (.int .i64 1), zm 13 25])))))))
 (.seq (.reg false [] [4] [zc 4 (.bool true)])
 .ret)))) }

/-- sewershed/sewershedref47.Binding -/
def N148_ref47_Binding : NFun := { np := 2, nt := 113, res := [(4, none)], body :=
 (.seq (.reg false [] [1, 2] [zo 2 0, zc 4 .nils])
 (.seq (.reg false [] [1, 2, 5] [⟨some 5, .nilo 2, none⟩])
 (.seq (.seq (.reg false [] [1, 2, 5, 6] [zc 6 (.int .i64 0)])
 (.block 0 (.loop (.seq (.seq (.reg false [] [1, 2, 5, 6, 16] [zm 13 6, zm 14 1, zn 15 14, zb 16 .lss 13 15])
 (.cond (.t 16) .skip
 (.exit 0)))
 (.seq (.block 1 (.seq (.reg false [] [1, 2, 5, 6, 7, 8] [zc 7 (.bool false), zc 8 (.bool false)])
 (.seq (.seq (.reg false [] [1, 2, 5, 6, 7, 8, 9] [zc 9 (.int .i64 0)])
 (.block 2 (.loop (.seq (.seq (.reg false [] [1, 2, 5, 6, 7, 8, 9, 23] [zm 19 9, zf 20 5 2, zl 21 1 20, zn 22 21, zb 23 .lss 19 22])
 (.cond (.t 23) .skip
 (.exit 2)))
 (.seq (.block 3 (.seq (.seq (.reg true [0, 1, 0, 7, 15, 31, 0, 64, 0, 0, 768, 1792, 4032, 8128, 16320, 32767] [1, 2, 5, 6, 7, 8, 9, 41] [zf 26 5 2, zl 27 1 26, zm 28 9, zi 29 5 27 28, zf 30 2 29, zl 31 1 30, zf 32 5 2, zl 33 1 32, zm 34 1, zm 35 6, zi 36 1 34 35, zl 37 1 36, zi 38 5 33 37, zf 39 2 38, zl 40 1 39, zb 41 .geq 31 40])
 (.cond (.t 41) (.exit 3)
 .skip))
 (.seq (.reg false [] [1, 2, 5, 6, 7, 8, 9, 10] [zL 42 6 2, zm 43 1, zm 44 6, zm 45 9, zk 46 149 [(.t 42), (.t 43), (.t 44), (.t 45)], zm 10 46])
 (.seq (.reg true [0, 1, 0, 7, 15, 31, 63, 127, 255, 127, 1023, 2047, 4095, 127, 8319, 127, 127, 65663, 127, 458879, 983167, 2064511, 4161663, 8380543, 16769151, 33546367, 67108863, 134217727, 268435455] [1, 2, 5, 6, 7, 8, 9, 10, 11] [zf 47 0 2, zl 48 1 47, zm 49 6, zi 50 1 48 49, zl 51 1 50, zd 52 .geq 51 (.int .i64 0), zm 53 52, zg 53 true (zf 54 5 2), zg 53 true (zl 55 1 54), zg 53 true (zm 56 9), zg 53 true (zi 57 5 55 56), zg 53 true (zf 58 1 57), zg 53 true (zl 59 1 58), zg 53 true (zf 60 5 2), zg 53 true (zl 61 1 60), zg 53 true (zm 62 1), zg 53 true (zf 63 0 2), zg 53 true (zl 64 1 63), zg 53 true (zm 65 6), zg 53 true (zi 66 1 64 65), zg 53 true (zl 67 1 66), zg 53 true (zi 68 1 62 67), zg 53 true (zl 69 1 68), zg 53 true (zi 70 5 61 69), zg 53 true (zf 71 1 70), zg 53 true (zl 72 1 71), zg 53 true (zb 73 .gtr 59 72), ⟨some 74, .pick (.t 53) (.t 73) (.c (.bool false)), none⟩, zm 11 74])
 (.seq (.reg false [] [1, 2, 5, 6, 7, 8, 9, 10] [zm 75 7, zm 76 75, zg 76 false (zm 77 10), zg 76 false (zt 78 77), zg 76 false (zm 79 78), zg 79 true (zm 80 11), zg 79 true (zt 81 80), zg 76 false (⟨some 82, .pick (.t 79) (.t 81) (.c (.bool false)), none⟩), zg 76 false (zm 83 82), zg 83 true (zL 84 6 2), zg 83 true (zm 85 6), zg 83 true (zm 86 9), zg 83 true (zk 87 36 [(.t 84), (.t 85), (.t 86)]), zg 83 true (zt 88 87), zg 76 false (⟨some 89, .pick (.t 83) (.t 88) (.c (.bool false)), none⟩), ⟨some 90, .pick (.t 76) (.c (.bool true)) (.t 89), none⟩, zm 7 90])
 (.reg false [] [1, 2, 5, 6, 7, 8, 9] [zm 91 8, zm 92 91, zg 92 false (zm 93 10), zg 92 false (zm 94 93), zg 94 true (zL 95 6 2), zg 94 true (zm 96 6), zg 94 true (zm 97 9), zg 94 true (zk 98 36 [(.t 95), (.t 96), (.t 97)]), zg 92 false (⟨some 99, .pick (.t 94) (.t 98) (.c (.bool false)), none⟩), ⟨some 100, .pick (.t 92) (.c (.bool true)) (.t 99), none⟩, zm 8 100]))))))
 (.reg false [] [1, 2, 5, 6, 7, 8, 9] [zm 24 9, zd 25 .add 24 (.int .i64 1), zm 9 25]))))))
 (.seq (.reg false [] [1, 2, 5, 6, 7, 8, 12] [zc 12 (.int .i64 0)])
 (.seq (.seq (.reg false [] [1, 2, 5, 6, 8, 12, 101] [zm 101 7])
 (.cond (.t 101) (.reg false [] [1, 2, 5, 6, 12] [zc 12 (.int .i64 1)])
 (.seq (.reg false [] [1, 2, 5, 6, 12, 102] [zm 102 8])
 (.cond (.t 102) (.reg false [] [1, 2, 5, 6, 12] [zc 12 (.int .i64 2)])
 .skip))))
 (.seq (.reg false [] [1, 2, 5, 6, 12, 104] [zm 103 12, zd 104 .gtr 103 (.int .i64 0)])
 (.cond (.t 104) (.reg false [] [1, 2, 5, 6] [zm 105 5, zm 106 12, zm 107 6, zk 108 150 [(.t 107), (.c (.int .i64 0))], ⟨some 109, .bld [.int .i64 0, .str []] [(0, 1, (.t 106)), (1, 1, (.t 108))], none⟩, ⟨some 110, .bls 2 1 [.int .i64 0, .str []] [] [(0, (.t 109))], none⟩, ⟨some 111, .app 2 24 false (.t 105) (.t 110), none⟩, zq 5 111])
 .skip)))))))
 (.reg false [] [1, 2, 5, 6] [zm 17 6, zd 18 .add 17 (.int .i64 1), zm 6 18]))))))
 (.seq (.reg false [] [4] [zq 112 5, zq 4 112])
 .ret)))) }

/-- sewershed/sewershedref47.lower -/
def N149_ref47_lower : NFun := { np := 4, nt := 40, res := [(8, none)], body :=
 (.seq (.reg false [] [1, 2, 3, 4] [zo 4 0, zc 8 (.bool false)])
 (.seq (.seq (.reg false [] [1, 2, 3, 4, 9] [zc 9 (.int .i64 0)])
 (.block 0 (.loop (.seq (.seq (.reg false [] [1, 2, 3, 4, 9, 12] [zm 10 9, zm 11 2, zb 12 .lss 10 11])
 (.cond (.t 12) .skip
 (.exit 0)))
 (.seq (.block 1 (.seq (.reg true [0, 1, 0, 7, 15, 0, 63, 127, 255, 511, 255, 255, 3327, 7423, 16383, 32767, 65535, 255, 131327, 255, 917759, 1966335, 4063487, 8388607, 16777215] [1, 2, 3, 4, 9, 39] [zf 15 0 4, zl 16 1 15, zm 17 9, zi 18 1 16 17, zl 19 1 18, zm 20 2, zb 21 .eql 19 20, zm 22 21, zg 22 true (zf 23 5 4), zg 22 true (zl 24 1 23), zg 22 true (zm 25 1), zg 22 true (zm 26 9), zg 22 true (zi 27 1 25 26), zg 22 true (zl 28 1 27), zg 22 true (zi 29 5 24 28), zg 22 true (zf 30 1 29), zg 22 true (zl 31 1 30), zg 22 true (zf 32 5 4), zg 22 true (zl 33 1 32), zg 22 true (zm 34 3), zg 22 true (zi 35 5 33 34), zg 22 true (zf 36 1 35), zg 22 true (zl 37 1 36), zg 22 true (zb 38 .gtr 31 37), ⟨some 39, .pick (.t 22) (.t 38) (.c (.bool false)), none⟩])
 (.cond (.t 39) (.seq (.reg false [] [8] [zc 8 (.bool true)])
 .ret)
 .skip)))
 (.reg false [] [1, 2, 3, 4, 9] [zm 13 9, zd 14 .add 13 (.int .i64 1), zm 9 14]))))))
 (.seq (.reg false [] [8] [zc 8 (.bool false)])
 .ret))) }

/-- sewershed/sewershedref01.Format -/
def N150_ref01_Format : NFun := { np := 2, nt := 36, res := [(4, none)], body :=
 (.seq (.reg false [] [0, 1] [zc 4 (.str [])])
 (.seq (.reg false [] [0, 1, 5] [zc 5 (.str [])])
 (.seq (.seq (.reg false [] [0, 1, 5, 8] [zm 7 0, zd 8 .lss 7 (.int .i64 0)])
 (.cond (.t 8) (.seq (.reg false [] [0, 1, 5] [zc 5 (.str [45])])
 (.reg false [] [0, 1, 5] [zm 9 0, ⟨some 10, .bin .sub (.c (.int .i64 0)) (.t 9), none⟩, zm 0 10]))
 .skip))
 (.seq (.reg false [] [1, 5, 6] [zm 11 0, zm 12 1, zd 13 .add 12 (.int .i64 1), zk 14 151 [(.t 11), (.t 13)], zm 6 14])
 (.seq (.seq (.reg false [] [1, 5, 6, 16] [zm 15 1, zd 16 .eql 15 (.int .i64 0)])
 (.cond (.t 16) (.seq (.reg false [] [4] [zm 17 5, zm 18 6, zb 19 .add 17 18, zm 4 19])
 .ret)
 .skip))
 (.seq (.reg true [0, 0, 0, 4, 0, 28, 62, 127, 255, 0, 0, 1024, 0, 7168, 15872, 32767, 65535] [4] [zm 20 5, zm 21 6, zm 22 6, ⟨some 23, .lens (.t 22), none⟩, zm 24 1, zb 25 .sub 23 24, ⟨some 26, .slS (.t 21) none (some (.t 25)), none⟩, zb 27 .add 20 26, zd 28 .add 27 (.str [46]), zm 29 6, zm 30 6, ⟨some 31, .lens (.t 30), none⟩, zm 32 1, zb 33 .sub 31 32, ⟨some 34, .slS (.t 29) (some (.t 33)) none, none⟩, zb 35 .add 28 34, zm 4 35])
 .ret)))))) }

/-- sewershed/sewershedref01.digits -/
def N151_ref01_digits : NFun := { np := 2, nt := 25, res := [(4, none)], body :=
 (.seq (.reg false [] [0, 1] [zc 4 (.str [])])
 (.seq (.reg false [] [0, 1, 5] [zc 5 (.str [])])
 (.seq (.block 0 (.loop (.seq (.seq (.reg false [] [0, 1, 5, 13] [zm 6 0, zd 7 .gtr 6 (.int .i64 0), zm 8 7, zg 8 false (zm 9 5), zg 8 false (⟨some 10, .lens (.t 9), none⟩), zg 8 false (zm 11 1), zg 8 false (zb 12 .lss 10 11), ⟨some 13, .pick (.t 8) (.c (.bool true)) (.t 12), none⟩])
 (.cond (.t 13) .skip
 (.exit 0)))
 (.block 1 (.seq (.reg false [] [0, 1, 5] [zm 14 0, zd 15 .rem 14 (.int .i64 10), ⟨some 16, .bin .add (.c (.int .i64 48)) (.t 15), none⟩, ⟨some 17, .conv .u8 (.t 16), none⟩, ⟨some 18, .blsF 1 1 [.int .u8 0] [(0, (.t 17))], none⟩, ⟨some 19, .cvS (.t 18), none⟩, zm 20 5, zb 21 .add 19 20, zm 5 21])
 (.reg false [] [0, 1, 5] [zm 22 0, zd 23 .quo 22 (.int .i64 10), zm 0 23]))))))
 (.seq (.reg false [] [4] [zm 24 5, zm 4 24])
 .ret)))) }

def prog : Nat → Option NFun
  | 3 => some N3_law47_awake
  | 4 => some N4_law47_large
  | 8 => some N8_ref47_Valid
  | 11 => some N11_slices_ContainsFunc__int_int
  | 15 => some N15_sizing_Solve
  | 19 => some N19_slices_Equal__int_int
  | 23 => some N23_law47_example
  | 24 => some N24_sizing_Valid
  | 25 => some N25_law47_many
  | 29 => some N29_sizing_within
  | 30 => some N30_sizing_treeOf
  | 31 => some N31_sizing_tree_cost
  | 32 => some N32_sizing_tree_bound
  | 33 => some N33_ref28_Valid
  | 34 => some N34_ref47_ranges
  | 35 => some N35_slices_IndexFunc__int_int
  | 36 => some N36_ref47_Possible
  | 39 => some N39_sizing_tree_values
  | 40 => some N40_sizing_tree_least
  | 43 => some N43_law47_section
  | 44 => some N44_catalogue_Valid
  | 45 => some N45_slices_ContainsFunc__api_Section_api_Section
  | 46 => some N46_law47_many_1
  | 47 => some N47_catalogue_Full
  | 48 => some N48_ref28_Right
  | 49 => some N49_ref28_Find
  | 50 => some N50_ref28_Carried
  | 51 => some N51_catalogue_valid
  | 52 => some N52_slices_IndexFunc__api_Section_api_Section
  | 53 => some N53_catalogue_Capacity
  | 54 => some N54_ref01_IsName
  | 55 => some N55_ref28_fits
  | 56 => some N56_ref06_Floor
  | 57 => some N57_ref28_Root
  | 58 => some N58_decimal_IsName
  | 59 => some N59_catalogue_curve
  | 60 => some N60_catalogue_slope
  | 61 => some N61_catalogue_carried
  | 62 => some N62_ref01_Letter
  | 63 => some N63_ref01_word
  | 64 => some N64_ref06_Valid
  | 65 => some N65_ref06_Value
  | 66 => some N66_ref03_Down
  | 67 => some N67_ref03_Times
  | 68 => some N68_ref03_OfInt
  | 69 => some N69_ref03_Root
  | 70 => some N70_decimal_letter
  | 71 => some N71_decimal_word
  | 72 => some N72_table_Valid
  | 73 => some N73_table_Floor
  | 74 => some N74_catalogue_product
  | 75 => some N75_catalogue_wide_times
  | 76 => some N76_catalogue_wide_over
  | 77 => some N77_catalogue_wide_root
  | 78 => some N78_ref01_Digit
  | 79 => some N79_ref06_Number
  | 80 => some N80_ref06_before
  | 81 => some N81_ref03_FloorOf
  | 82 => some N82_ref03_Div
  | 83 => some N83_ref03_Plus
  | 84 => some N84_ref03_Made
  | 85 => some N85_ref03_Mul
  | 86 => some N86_ref03_Size
  | 87 => some N87_ref03_Less
  | 88 => some N88_decimal_digit
  | 89 => some N89_table_fits
  | 90 => some N90_table_piece
  | 91 => some N91_math_bits_Mul64
  | 92 => some N92_math_bits_Div64
  | 93 => some N93_ref03_IsInt
  | 94 => some N94_ref03_Shift
  | 95 => some N95_ref03_Minus
  | 96 => some N96_slices_BinarySearchFunc_api_Table_api_Knot_int
  | 97 => some N97_table_piece_1
  | 98 => some N98_wide_Scale
  | 99 => some N99_wide_Product
  | 100 => some N100_wide_Sub
  | 101 => some N101_wide_Int
  | 102 => some N102_math_bits_LeadingZeros64
  | 103 => some N103_wide_times
  | 104 => some N104_wide_quotient
  | 105 => some N105_wide_placed
  | 106 => some N106_wide_Valid
  | 107 => some N107_wide_sum
  | 108 => some N108_wide_value
  | 109 => some N109_wide_minus
  | 110 => some N110_wide_whole
  | 111 => some N111_math_bits_Len64
  | 112 => some N112_wide_size
  | 113 => some N113_wide_signed
  | 118 => some N118_sizing_Allowed
  | 119 => some N119_sizing_Cost
  | 120 => some N120_sizing_choice
  | 121 => some N121_sizing_Allowed_1
  | 122 => some N122_sizing_choice_1
  | 124 => some N124_sizing_Binding
  | 128 => some N128_sizing_Binding_1
  | 143 => some N143_law47_SizingChoices
  | 144 => some N144_ref47_Sizes
  | 145 => some N145_ref47_Allowed
  | 146 => some N146_ref47_Cost
  | 147 => some N147_slices_Equal__api_Finding_api_Finding
  | 148 => some N148_ref47_Binding
  | 149 => some N149_ref47_lower
  | 150 => some N150_ref01_Format
  | 151 => some N151_ref01_digits
  | _ => none

end Go.Gv
