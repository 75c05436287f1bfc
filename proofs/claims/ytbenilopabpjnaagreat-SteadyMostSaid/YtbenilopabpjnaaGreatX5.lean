/-
  Texts of the proof: GvP.
-/
import Derived.Test.YtbenilopabpjnaaGreatX4
set_option linter.all false
set_option maxRecDepth 4000
namespace Go.Gv
@[simp] def zm (a b : Nat) : NOper := ⟨some a, .mov (.t b), none⟩
@[simp] def zc (a : Nat) (d : D) : NOper := ⟨some a, .mov (.c d), none⟩
@[simp] def zf (a i b : Nat) : NOper := ⟨some a, .fad i (.t b), none⟩
@[simp] def zl (a n b : Nat) : NOper := ⟨some a, .ld n false (.t b), none⟩
@[simp] def zL (a n b : Nat) : NOper := ⟨some a, .ld n true (.t b), none⟩
@[simp] def zx (a i b : Nat) : NOper := ⟨some a, .ext i (.t b), none⟩
@[simp] def zn (a b : Nat) : NOper := ⟨some a, .len (.t b), none⟩
@[simp] def zq (a b : Nat) : NOper := ⟨some a, .asg (.t b), none⟩
@[simp] def zi (a n b c : Nat) : NOper := ⟨some a, .iadS n (.t b) (.t c), none⟩
@[simp] def zo (a b : Nat) : NOper := ⟨some a, .boxF (.t b), none⟩
@[simp] def zt (a b : Nat) : NOper := ⟨some a, .un .not (.t b), none⟩
@[simp] def zk (a g : Nat) (xs : List Opd) : NOper := ⟨some a, .call g xs [], none⟩
@[simp] def zb (a : Nat) (op : BinOp) (b c : Nat) : NOper := ⟨some a, .bin op (.t b) (.t c), none⟩
@[simp] def zd (a : Nat) (op : BinOp) (b : Nat) (d : D) : NOper := ⟨some a, .bin op (.t b) (.c d), none⟩
@[simp] def zg (c : Nat) (b : Bool) (s : NOper) : NOper := ⟨s.dst, s.op, some (c, b)⟩
def N11_slices_ContainsFunc__int_int : NFun := { np := 2, nt := 9, res := [(4, none)], body :=
 (.seq (.reg false [] [0, 1] [zc 4 (.bool false)])
 (.seq (.reg false [] [4] [zq 5 0, zm 6 1, zk 7 35 [(.t 5), (.t 6)], zd 8 .geq 7 (.int .i64 0), zm 4 8])
 .ret)) }
def N33_ref28_Valid : NFun := { np := 1, nt := 30, res := [(2, none)], body :=
 (.seq (.reg false [] [0] [zc 2 (.bool false)])
 (.seq (.seq (.reg false [] [0, 6] [zm 4 0, zn 5 4, zd 6 .gtr 5 (.int .i64 40)])
 (.cond (.t 6) (.seq (.reg false [] [2] [zc 2 (.bool false)])
 .ret)
 .skip))
 (.seq (.seq (.reg false [] [0, 3] [zc 3 (.int .i64 0)])
 (.block 0 (.loop (.seq (.seq (.reg false [] [0, 3, 10] [zm 7 3, zm 8 0, zn 9 8, zb 10 .lss 7 9])
 (.cond (.t 10) .skip
 (.exit 0)))
 (.seq (.block 1 (.seq (.reg false [] [0, 3, 29] [zm 13 0, zm 14 3, zi 15 5 13 14, zL 16 5 15, zk 17 48 [(.t 16)], zt 18 17, zm 19 18, zg 19 false (zm 20 0), zg 19 false (zm 21 0), zg 19 false (zm 22 3), zg 19 false (zi 23 5 21 22), zg 19 false (zf 24 0 23), zg 19 false (zl 25 1 24), zg 19 false (zk 26 49 [(.t 20), (.t 25)]), zg 19 false (zm 27 3), zg 19 false (zb 28 .neq 26 27), ⟨some 29, .pick (.t 19) (.c (.bool true)) (.t 28), none⟩])
 (.cond (.t 29) (.seq (.reg false [] [2] [zc 2 (.bool false)])
 .ret)
 .skip)))
 (.reg false [] [0, 3] [zm 11 3, zd 12 .add 11 (.int .i64 1), zm 3 12]))))))
 (.seq (.reg false [] [2] [zc 2 (.bool true)])
 .ret)))) }
def N35_slices_IndexFunc__int_int : NFun := { np := 2, nt := 19, res := [(4, none)], body :=
 (.seq (.reg false [] [0, 1] [zc 4 (.int .i64 0)])
 (.seq (.seq (.reg false [] [0, 1, 7, 8] [zm 6 0, zn 7 6, zc 8 (.int .i64 0)])
 (.block 0 (.loop (.seq (.reg false [] [0, 1, 7, 8, 9] [zb 9 .lss 8 7])
 (.seq (.cond (.t 9) .skip
 (.exit 0))
 (.seq (.block 1 (.seq (.reg false [] [0, 1, 5, 7, 8] [zm 10 8, zm 5 10])
 (.seq (.reg false [] [0, 1, 5, 7, 8, 16] [zm 11 1, zm 12 0, zm 13 5, zi 14 1 12 13, zl 15 1 14, ⟨some 16, .callv (.t 11) [(.t 15)], none⟩])
 (.cond (.t 16) (.seq (.reg false [] [4] [zm 17 5, zm 4 17])
 .ret)
 .skip))))
 (.reg false [] [0, 1, 7, 8] [zd 18 .add 8 (.int .i64 1), zm 8 18])))))))
 (.seq (.reg false [] [4] [⟨some 4, .mov (.c (.int .i64 (-1))), none⟩])
 .ret))) }
def N42_slices_Clone__int_int : NFun := { np := 1, nt := 8, res := [(2, none)], body :=
 (.seq (.reg false [] [0] [zc 2 .nils])
 (.seq (.seq (.reg false [] [0, 4] [zm 3 0, ⟨some 4, .beq false [9] (.t 3) (.c .nils), none⟩])
 (.cond (.t 4) (.seq (.reg false [] [2] [zc 2 .nils])
 .ret)
 .skip))
 (.seq (.reg false [] [2] [⟨some 5, .bls 1 0 [.int .i64 0] [] [], none⟩, zq 6 0, ⟨some 7, .app 1 8 false (.t 5) (.t 6), none⟩, zq 2 7])
 .ret))) }
def N44_catalogue_Valid : NFun := { np := 1, nt := 29, res := [(2, none)], body :=
 (.seq (.reg false [] [0] [zc 2 (.bool false)])
 (.seq (.seq (.reg false [] [0, 8] [zm 6 0, zn 7 6, zd 8 .gtr 7 (.int .i64 40)])
 (.cond (.t 8) (.seq (.reg false [] [2] [zc 2 (.bool false)])
 .ret)
 .skip))
 (.seq (.reg false [] [0, 3] [⟨some 9, .mkm 0 1, none⟩, zm 3 9])
 (.seq (.seq (.reg false [] [3, 10, 11, 12] [zq 10 0, zn 11 10, zc 12 (.int .i64 0)])
 (.block 0 (.loop (.seq (.reg false [] [3, 10, 11, 12, 13] [zb 13 .lss 12 11])
 (.seq (.cond (.t 13) .skip
 (.exit 0))
 (.seq (.block 1 (.seq (.reg false [] [3, 5, 10, 11, 12] [zi 14 5 10 12, zL 15 5 14, ⟨some 5, .alc [.str [], .int .i64 0, .int .i64 0, .own 2 [], .own 2 []], none⟩, ⟨none, .st 5 [] (.t 5) (.t 15), none⟩])
 (.seq (.seq (.reg false [] [3, 5, 10, 11, 12, 24] [zL 16 5 5, zk 17 51 [(.t 16)], zt 18 17, zm 19 18, zg 19 false (zm 20 3), zg 19 false (zf 21 0 5), zg 19 false (zl 22 1 21), zg 19 false (⟨some 23, .mpl .str 0 1 false (.bool false) (.t 20) (.t 22), none⟩), ⟨some 24, .pick (.t 19) (.c (.bool true)) (.t 23), none⟩])
 (.cond (.t 24) (.seq (.reg false [] [2] [zc 2 (.bool false)])
 .ret)
 .skip))
 (.reg false [] [3, 10, 11, 12] [zm 25 3, zf 26 0 5, zl 27 1 26, ⟨none, .mpu .str 0 1 (.bool false) (.t 25) (.t 27) (.c (.bool true)), none⟩]))))
 (.reg false [] [3, 10, 11, 12] [zd 28 .add 12 (.int .i64 1), zm 12 28])))))))
 (.seq (.reg false [] [2] [zc 2 (.bool true)])
 .ret))))) }
def N45_slices_ContainsFunc__api_Section_api_Section : NFun := { np := 2, nt := 9, res := [(4, none)], body :=
 (.seq (.reg false [] [0, 1] [zc 4 (.bool false)])
 (.seq (.reg false [] [4] [zq 5 0, zm 6 1, zk 7 52 [(.t 5), (.t 6)], zd 8 .geq 7 (.int .i64 0), zm 4 8])
 .ret)) }
def N47_catalogue_Full : NFun := { np := 3, nt := 16, res := [(6, none), (7, none)], body :=
 (.seq (.reg false [] [1, 2, 3] [zo 3 0, zc 6 (.int .i64 0), zc 7 (.int .i64 0)])
 (.seq (.reg false [] [6, 7] [zL 8 5 3, zf 9 1 3, zl 10 1 9, zm 11 1, zm 12 2, zk 13 53 [(.t 8), (.t 10), (.t 11), (.t 12)], zx 14 0 13, zx 15 1 13, zm 6 14, zm 7 15])
 .ret)) }
def N48_ref28_Right : NFun := { np := 1, nt := 39, res := [(2, none)], body :=
 (.seq (.reg false [] [1] [zo 1 0, zc 2 (.bool false)])
 (.seq (.seq (.reg false [] [1, 26] [zf 3 0 1, zl 4 1 3, zk 5 54 [(.t 4)], zt 6 5, zm 7 6, zg 7 false (zf 8 1 1), zg 7 false (zl 9 1 8), zg 7 false (zd 10 .lss 9 (.int .i64 1)), ⟨some 11, .pick (.t 7) (.c (.bool true)) (.t 10), none⟩, zm 12 11, zg 12 false (zf 13 1 1), zg 12 false (zl 14 1 13), zg 12 false (zd 15 .gtr 14 (.int .i64 32768)), ⟨some 16, .pick (.t 12) (.c (.bool true)) (.t 15), none⟩, zm 17 16, zg 17 false (zf 18 2 1), zg 17 false (zl 19 1 18), zg 17 false (zd 20 .lss 19 (.int .i64 0)), ⟨some 21, .pick (.t 17) (.c (.bool true)) (.t 20), none⟩, zm 22 21, zg 22 false (zf 23 2 1), zg 22 false (zl 24 1 23), zg 22 false (zd 25 .gtr 24 (.int .i64 1073741824)), ⟨some 26, .pick (.t 22) (.c (.bool true)) (.t 25), none⟩])
 (.cond (.t 26) (.seq (.reg false [] [2] [zc 2 (.bool false)])
 .ret)
 .skip))
 (.seq (.reg false [] [2] [zf 27 3 1, zl 28 1 27, zf 29 1 1, zl 30 1 29, zk 31 55 [(.t 28), (.t 30), (.c (.int .i64 1073741824))], zm 32 31, zg 32 true (zf 33 4 1), zg 32 true (zl 34 1 33), zg 32 true (zf 35 1 1), zg 32 true (zl 36 1 35), zg 32 true (zk 37 55 [(.t 34), (.t 36), (.c (.int .i64 1099511627776))]), ⟨some 38, .pick (.t 32) (.t 37) (.c (.bool false)), none⟩, zm 2 38])
 .ret))) }
def N49_ref28_Find : NFun := { np := 2, nt := 20, res := [(4, none)], body :=
 (.seq (.reg false [] [0, 1] [zc 4 (.int .i64 0)])
 (.seq (.seq (.reg false [] [0, 1, 5] [zc 5 (.int .i64 0)])
 (.block 0 (.loop (.seq (.seq (.reg false [] [0, 1, 5, 9] [zm 6 5, zm 7 0, zn 8 7, zb 9 .lss 6 8])
 (.cond (.t 9) .skip
 (.exit 0)))
 (.seq (.block 1 (.seq (.reg false [] [0, 1, 5, 18] [zm 12 0, zm 13 5, zi 14 5 12 13, zf 15 0 14, zl 16 1 15, zm 17 1, zb 18 .eql 16 17])
 (.cond (.t 18) (.seq (.reg false [] [4] [zm 19 5, zm 4 19])
 .ret)
 .skip)))
 (.reg false [] [0, 1, 5] [zm 10 5, zd 11 .add 10 (.int .i64 1), zm 5 11]))))))
 (.seq (.reg false [] [4] [⟨some 4, .mov (.c (.int .i64 (-1))), none⟩])
 .ret))) }
def N51_catalogue_valid : NFun := { np := 1, nt := 40, res := [(2, none)], body :=
 (.seq (.reg false [] [1] [zo 1 0, zc 2 (.bool false)])
 (.seq (.reg false [] [2] [zf 3 0 1, zl 4 1 3, zk 5 58 [(.t 4)], zm 6 5, zg 6 true (zf 7 1 1), zg 6 true (zl 8 1 7), zg 6 true (zd 9 .geq 8 (.int .i64 1)), ⟨some 10, .pick (.t 6) (.t 9) (.c (.bool false)), none⟩, zm 11 10, zg 11 true (zf 12 1 1), zg 11 true (zl 13 1 12), zg 11 true (zd 14 .leq 13 (.int .i64 32768)), ⟨some 15, .pick (.t 11) (.t 14) (.c (.bool false)), none⟩, zm 16 15, zg 16 true (zf 17 2 1), zg 16 true (zl 18 1 17), zg 16 true (zd 19 .geq 18 (.int .i64 0)), ⟨some 20, .pick (.t 16) (.t 19) (.c (.bool false)), none⟩, zm 21 20, zg 21 true (zf 22 2 1), zg 21 true (zl 23 1 22), zg 21 true (zd 24 .leq 23 (.int .i64 1073741824)), ⟨some 25, .pick (.t 21) (.t 24) (.c (.bool false)), none⟩, zm 26 25, zg 26 true (zf 27 3 1), zg 26 true (zl 28 1 27), zg 26 true (zf 29 1 1), zg 26 true (zl 30 1 29), zg 26 true (zk 31 59 [(.t 28), (.t 30), (.c (.int .i64 1073741824))]), ⟨some 32, .pick (.t 26) (.t 31) (.c (.bool false)), none⟩, zm 33 32, zg 33 true (zf 34 4 1), zg 33 true (zl 35 1 34), zg 33 true (zf 36 1 1), zg 33 true (zl 37 1 36), zg 33 true (zk 38 59 [(.t 35), (.t 37), (.c (.int .i64 1099511627776))]), ⟨some 39, .pick (.t 33) (.t 38) (.c (.bool false)), none⟩, zm 2 39])
 .ret)) }
def N52_slices_IndexFunc__api_Section_api_Section : NFun := { np := 2, nt := 19, res := [(4, none)], body :=
 (.seq (.reg false [] [0, 1] [zc 4 (.int .i64 0)])
 (.seq (.seq (.reg false [] [0, 1, 7, 8] [zm 6 0, zn 7 6, zc 8 (.int .i64 0)])
 (.block 0 (.loop (.seq (.reg false [] [0, 1, 7, 8, 9] [zb 9 .lss 8 7])
 (.seq (.cond (.t 9) .skip
 (.exit 0))
 (.seq (.block 1 (.seq (.reg false [] [0, 1, 5, 7, 8] [zm 10 8, zm 5 10])
 (.seq (.reg false [] [0, 1, 5, 7, 8, 16] [zm 11 1, zm 12 0, zm 13 5, zi 14 5 12 13, zL 15 5 14, ⟨some 16, .callv (.t 11) [(.t 15)], none⟩])
 (.cond (.t 16) (.seq (.reg false [] [4] [zm 17 5, zm 4 17])
 .ret)
 .skip))))
 (.reg false [] [0, 1, 7, 8] [zd 18 .add 8 (.int .i64 1), zm 8 18])))))))
 (.seq (.reg false [] [4] [⟨some 4, .mov (.c (.int .i64 (-1))), none⟩])
 .ret))) }
def N53_catalogue_Capacity : NFun := { np := 4, nt := 47, res := [(8, none), (9, none)], body :=
 (.seq (.reg false [] [1, 2, 3, 4] [zo 4 0, zc 8 (.int .i64 0), zc 9 (.int .i64 0)])
 (.seq (.block 0 (.seq (.reg false [] [1, 2, 3, 4, 12] [zL 13 5 4, zk 14 51 [(.t 13)], zt 15 14, zm 12 15])
 (.cond (.t 12) (.seq (.reg false [] [8, 9] [zc 8 (.int .i64 0), zc 9 (.int .i64 1)])
 .ret)
 (.seq (.reg false [] [1, 2, 3, 4, 16] [zm 17 1, zd 18 .lss 17 (.int .i64 0), zm 19 18, zg 19 false (zm 20 1), zg 19 false (zf 21 1 4), zg 19 false (zl 22 1 21), zg 19 false (zb 23 .gtr 20 22), ⟨some 24, .pick (.t 19) (.c (.bool true)) (.t 23), none⟩, zm 25 24, zg 25 false (zm 26 2), zg 25 false (zm 27 3), zg 25 false (zk 28 60 [(.t 26), (.t 27)]), zg 25 false (zt 29 28), ⟨some 30, .pick (.t 25) (.c (.bool true)) (.t 29), none⟩, zm 16 30])
 (.cond (.t 16) (.seq (.reg false [] [8, 9] [zc 8 (.int .i64 0), zc 9 (.int .i64 2)])
 .ret)
 .skip)))))
 (.seq (.reg false [] [10, 11] [zL 32 5 4, zm 33 1, zm 34 2, zm 35 3, zk 36 61 [(.t 32), (.t 33), (.t 34), (.t 35)], zm 31 36, zx 37 0 31, zx 38 1 31, zm 10 37, zm 11 38])
 (.seq (.block 1 (.seq (.reg false [] [10, 11, 39] [zm 40 11, zd 41 .neq 40 (.int .i64 0), zm 39 41])
 (.cond (.t 39) (.seq (.reg false [] [8, 9] [zm 42 11, zc 8 (.int .i64 0), zm 9 42])
 .ret)
 (.seq (.reg false [] [10, 43] [zm 44 10, zd 45 .gtr 44 (.int .i64 1099511627776), zm 43 45])
 (.cond (.t 43) (.seq (.reg false [] [8, 9] [zc 8 (.int .i64 0), zc 9 (.int .i64 5)])
 .ret)
 .skip)))))
 (.seq (.reg false [] [8, 9] [zm 46 10, zm 8 46, zc 9 (.int .i64 0)])
 .ret))))) }
def N54_ref01_IsName : NFun := { np := 1, nt := 22, res := [(2, none)], body :=
 (.seq (.reg false [] [0] [zc 2 (.bool false)])
 (.seq (.seq (.reg false [] [0, 16] [zm 3 0, ⟨some 4, .lens (.t 3), none⟩, zd 5 .eql 4 (.int .i64 0), zm 6 5, zg 6 false (zm 7 0), zg 6 false (⟨some 8, .lens (.t 7), none⟩), zg 6 false (zd 9 .gtr 8 (.int .i64 20)), ⟨some 10, .pick (.t 6) (.c (.bool true)) (.t 9), none⟩, zm 11 10, zg 11 false (zm 12 0), zg 11 false (⟨some 13, .idxS (.t 12) (.c (.int .i64 0)), none⟩), zg 11 false (zk 14 62 [(.t 13)]), zg 11 false (zt 15 14), ⟨some 16, .pick (.t 11) (.c (.bool true)) (.t 15), none⟩])
 (.cond (.t 16) (.seq (.reg false [] [2] [zc 2 (.bool false)])
 .ret)
 .skip))
 (.seq (.reg false [] [2] [zm 17 0, zk 18 63 [(.t 17), (.c (.int .i64 0))], zm 19 0, ⟨some 20, .lens (.t 19), none⟩, zb 21 .eql 18 20, zm 2 21])
 .ret))) }
def N55_ref28_fits : NFun := { np := 3, nt := 41, res := [(6, none)], body :=
 (.seq (.reg false [] [0, 1, 2] [zc 6 (.bool false)])
 (.seq (.seq (.reg false [] [0, 1, 2, 10] [zm 8 0, zk 9 64 [(.t 8)], zt 10 9])
 (.cond (.t 10) (.seq (.reg false [] [6] [zc 6 (.bool false)])
 .ret)
 .skip))
 (.seq (.reg false [] [0, 1, 2, 7] [zm 11 0, zm 12 0, zn 13 12, zd 14 .sub 13 (.int .i64 1), zi 15 2 11 14, zL 16 2 15, ⟨some 7, .alc [.int .i64 0, .int .i64 0], none⟩, ⟨none, .st 2 [] (.t 7) (.t 16), none⟩])
 (.seq (.reg false [] [6] [zm 17 0, ⟨some 18, .iadS 2 (.t 17) (.c (.int .i64 0)), none⟩, zf 19 0 18, zl 20 1 19, zd 21 .eql 20 (.int .i64 0), zm 22 21, zg 22 true (zq 23 0), zg 22 true (⟨some 24, .iadS 2 (.t 23) (.c (.int .i64 0)), none⟩), zg 22 true (zf 25 1 24), zg 22 true (zl 26 1 25), zg 22 true (zd 27 .eql 26 (.int .i64 0)), ⟨some 28, .pick (.t 22) (.t 27) (.c (.bool false)), none⟩, zm 29 28, zg 29 true (zf 30 0 7), zg 29 true (zl 31 1 30), zg 29 true (zm 32 1), zg 29 true (zb 33 .eql 31 32), ⟨some 34, .pick (.t 29) (.t 33) (.c (.bool false)), none⟩, zm 35 34, zg 35 true (zf 36 1 7), zg 35 true (zl 37 1 36), zg 35 true (zm 38 2), zg 35 true (zb 39 .leq 37 38), ⟨some 40, .pick (.t 35) (.t 39) (.c (.bool false)), none⟩, zm 6 40])
 .ret)))) }
def N58_decimal_IsName : NFun := { np := 1, nt := 22, res := [(2, none)], body :=
 (.seq (.reg false [] [0] [zc 2 (.bool false)])
 (.seq (.reg false [] [2] [zm 3 0, zd 4 .neq 3 (.str []), zm 5 4, zg 5 true (zm 6 0), zg 5 true (⟨some 7, .lens (.t 6), none⟩), zg 5 true (zd 8 .leq 7 (.int .i64 20)), ⟨some 9, .pick (.t 5) (.t 8) (.c (.bool false)), none⟩, zm 10 9, zg 10 true (zm 11 0), zg 10 true (⟨some 12, .idxS (.t 11) (.c (.int .i64 0)), none⟩), zg 10 true (zk 13 70 [(.t 12)]), ⟨some 14, .pick (.t 10) (.t 13) (.c (.bool false)), none⟩, zm 15 14, zg 15 true (zm 16 0), zg 15 true (zk 17 71 [(.t 16)]), zg 15 true (zm 18 0), zg 15 true (⟨some 19, .lens (.t 18), none⟩), zg 15 true (zb 20 .eql 17 19), ⟨some 21, .pick (.t 15) (.t 20) (.c (.bool false)), none⟩, zm 2 21])
 .ret)) }
def N59_catalogue_curve : NFun := { np := 3, nt := 34, res := [(6, none)], body :=
 (.seq (.reg false [] [0, 1, 2] [zc 6 (.bool false)])
 (.seq (.seq (.reg false [] [0, 1, 2, 10] [zm 8 0, zk 9 72 [(.t 8)], zt 10 9])
 (.cond (.t 10) (.seq (.reg false [] [6] [zc 6 (.bool false)])
 .ret)
 .skip))
 (.seq (.reg false [] [0, 1, 2, 7] [zm 11 0, zm 12 0, zn 13 12, zd 14 .sub 13 (.int .i64 1), zi 15 2 11 14, zL 16 2 15, ⟨some 7, .alc [.int .i64 0, .int .i64 0], none⟩, ⟨none, .st 2 [] (.t 7) (.t 16), none⟩])
 (.seq (.reg false [] [6] [zq 17 0, ⟨some 18, .iadS 2 (.t 17) (.c (.int .i64 0)), none⟩, zL 19 2 18, ⟨some 20, .bld [.int .i64 0, .int .i64 0] [], none⟩, ⟨some 21, .beq false [0, 0] (.t 19) (.t 20), none⟩, zm 22 21, zg 22 true (zf 23 0 7), zg 22 true (zl 24 1 23), zg 22 true (zm 25 1), zg 22 true (zb 26 .eql 24 25), ⟨some 27, .pick (.t 22) (.t 26) (.c (.bool false)), none⟩, zm 28 27, zg 28 true (zf 29 1 7), zg 28 true (zl 30 1 29), zg 28 true (zm 31 2), zg 28 true (zb 32 .leq 30 31), ⟨some 33, .pick (.t 28) (.t 32) (.c (.bool false)), none⟩, zm 6 33])
 .ret)))) }
def N60_catalogue_slope : NFun := { np := 2, nt := 19, res := [(4, none)], body :=
 (.seq (.reg false [] [0, 1] [zc 4 (.bool false)])
 (.seq (.reg false [] [4] [zm 5 0, zd 6 .geq 5 (.int .i64 0), zm 7 6, zg 7 true (zm 8 0), zg 7 true (zd 9 .leq 8 (.int .i64 4194304)), ⟨some 10, .pick (.t 7) (.t 9) (.c (.bool false)), none⟩, zm 11 10, zg 11 true (zm 12 1), zg 11 true (zd 13 .geq 12 (.int .i64 1)), ⟨some 14, .pick (.t 11) (.t 13) (.c (.bool false)), none⟩, zm 15 14, zg 15 true (zm 16 1), zg 15 true (zd 17 .leq 16 (.int .i64 16777216)), ⟨some 18, .pick (.t 15) (.t 17) (.c (.bool false)), none⟩, zm 4 18])
 .ret)) }
def N61_catalogue_carried : NFun := { np := 4, nt := 30, res := [(8, none), (9, none)], body :=
 (.seq (.reg false [] [1, 2, 3, 4] [zo 4 0, zc 8 (.int .i64 0), zc 9 (.int .i64 0)])
 (.seq (.reg false [] [2, 3, 10, 11] [zf 13 4 4, zl 14 1 13, zm 15 1, zk 16 73 [(.t 14), (.t 15)], zm 12 16, zx 17 0 12, zx 18 1 12, zm 10 17, zm 11 18])
 (.seq (.seq (.reg false [] [2, 3, 10, 11, 20] [zm 19 11, zd 20 .neq 19 (.int .i64 0)])
 (.cond (.t 20) (.seq (.reg false [] [8, 9] [zm 21 11, zc 8 (.int .i64 0), zm 9 21])
 .ret)
 .skip))
 (.seq (.reg false [] [8, 9] [zm 22 10, zm 23 10, zk 24 74 [(.t 22), (.t 23)], zm 25 2, zk 26 75 [(.t 24), (.t 25)], zm 27 3, zk 28 76 [(.t 26), (.t 27)], zk 29 77 [(.t 28)], zm 8 29, zc 9 (.int .i64 0)])
 .ret)))) }
def N62_ref01_Letter : NFun := { np := 1, nt := 17, res := [(2, none)], body :=
 (.seq (.reg false [] [0] [zc 2 (.bool false)])
 (.seq (.reg false [] [2] [zm 3 0, zd 4 .geq 3 (.int .u8 97), zm 5 4, zg 5 true (zm 6 0), zg 5 true (zd 7 .leq 6 (.int .u8 122)), ⟨some 8, .pick (.t 5) (.t 7) (.c (.bool false)), none⟩, zm 9 8, zg 9 false (zm 10 0), zg 9 false (zd 11 .geq 10 (.int .u8 65)), zg 9 false (zm 12 11), zg 12 true (zm 13 0), zg 12 true (zd 14 .leq 13 (.int .u8 90)), zg 9 false (⟨some 15, .pick (.t 12) (.t 14) (.c (.bool false)), none⟩), ⟨some 16, .pick (.t 9) (.c (.bool true)) (.t 15), none⟩, zm 2 16])
 .ret)) }
def N63_ref01_word : NFun := { np := 2, nt := 30, res := [(4, none)], body :=
 (.seq (.reg false [] [0, 1] [zc 4 (.int .i64 0)])
 (.seq (.block 0 (.loop (.seq (.seq (.reg false [] [0, 1, 26] [zm 5 1, zm 6 0, ⟨some 7, .lens (.t 6), none⟩, zb 8 .lss 5 7, zm 9 8, zg 9 true (zm 10 0), zg 9 true (zm 11 1), zg 9 true (⟨some 12, .idxS (.t 10) (.t 11), none⟩), zg 9 true (zk 13 62 [(.t 12)]), zg 9 true (zm 14 13), zg 14 false (zm 15 0), zg 14 false (zm 16 1), zg 14 false (⟨some 17, .idxS (.t 15) (.t 16), none⟩), zg 14 false (zk 18 78 [(.t 17)]), zg 9 true (⟨some 19, .pick (.t 14) (.c (.bool true)) (.t 18), none⟩), zg 9 true (zm 20 19), zg 20 false (zm 21 0), zg 20 false (zm 22 1), zg 20 false (⟨some 23, .idxS (.t 21) (.t 22), none⟩), zg 20 false (zd 24 .eql 23 (.int .u8 95)), zg 9 true (⟨some 25, .pick (.t 20) (.c (.bool true)) (.t 24), none⟩), ⟨some 26, .pick (.t 9) (.t 25) (.c (.bool false)), none⟩])
 (.cond (.t 26) .skip
 (.exit 0)))
 (.block 1 (.reg false [] [0, 1] [zm 27 1, zd 28 .add 27 (.int .i64 1), zm 1 28])))))
 (.seq (.reg false [] [4] [zm 29 1, zm 4 29])
 .ret))) }
def N64_ref06_Valid : NFun := { np := 1, nt := 64, res := [(2, none)], body :=
 (.seq (.reg false [] [0] [zc 2 (.bool false)])
 (.seq (.seq (.reg false [] [0, 11] [zm 4 0, zn 5 4, zd 6 .lss 5 (.int .i64 1), zm 7 6, zg 7 false (zm 8 0), zg 7 false (zn 9 8), zg 7 false (zd 10 .gtr 9 (.int .i64 100)), ⟨some 11, .pick (.t 7) (.c (.bool true)) (.t 10), none⟩])
 (.cond (.t 11) (.seq (.reg false [] [2] [zc 2 (.bool false)])
 .ret)
 .skip))
 (.seq (.seq (.reg false [] [0, 3] [zc 3 (.int .i64 0)])
 (.block 0 (.loop (.seq (.seq (.reg false [] [0, 3, 15] [zm 12 3, zm 13 0, zn 14 13, zb 15 .lss 12 14])
 (.cond (.t 15) .skip
 (.exit 0)))
 (.seq (.block 1 (.seq (.seq (.reg false [] [0, 3, 33] [zm 18 0, zm 19 3, zi 20 2 18 19, zf 21 0 20, zl 22 1 21, zk 23 79 [(.t 22)], zt 24 23, zm 25 24, zg 25 false (zm 26 0), zg 25 false (zm 27 3), zg 25 false (zi 28 2 26 27), zg 25 false (zf 29 1 28), zg 25 false (zl 30 1 29), zg 25 false (zk 31 79 [(.t 30)]), zg 25 false (zt 32 31), ⟨some 33, .pick (.t 25) (.c (.bool true)) (.t 32), none⟩])
 (.cond (.t 33) (.seq (.reg false [] [2] [zc 2 (.bool false)])
 .ret)
 .skip))
 (.seq (.reg true [0, 1, 3, 7, 7, 31, 63, 127, 7, 7, 519, 1799, 3847, 7943, 16383, 32767, 65535, 65535, 262143, 524287, 1048575, 65535, 65535, 4259839, 14745599, 31522815, 65077247, 134217727, 268435455, 536870911] [0, 3, 63] [zm 34 3, zd 35 .gtr 34 (.int .i64 0), zm 36 35, zg 36 true (zm 37 0), zg 36 true (zm 38 3), zg 36 true (zi 39 2 37 38), zg 36 true (zf 40 0 39), zg 36 true (zl 41 1 40), zg 36 true (zm 42 0), zg 36 true (zm 43 3), zg 36 true (zd 44 .sub 43 (.int .i64 1)), zg 36 true (zi 45 2 42 44), zg 36 true (zf 46 0 45), zg 36 true (zl 47 1 46), zg 36 true (zb 48 .leq 41 47), zg 36 true (zm 49 48), zg 49 false (zm 50 0), zg 49 false (zm 51 3), zg 49 false (zi 52 2 50 51), zg 49 false (zf 53 1 52), zg 49 false (zl 54 1 53), zg 49 false (zm 55 0), zg 49 false (zm 56 3), zg 49 false (zd 57 .sub 56 (.int .i64 1)), zg 49 false (zi 58 2 55 57), zg 49 false (zf 59 1 58), zg 49 false (zl 60 1 59), zg 49 false (zb 61 .lss 54 60), zg 36 true (⟨some 62, .pick (.t 49) (.c (.bool true)) (.t 61), none⟩), ⟨some 63, .pick (.t 36) (.t 62) (.c (.bool false)), none⟩])
 (.cond (.t 63) (.seq (.reg false [] [2] [zc 2 (.bool false)])
 .ret)
 .skip))))
 (.reg false [] [0, 3] [zm 16 3, zd 17 .add 16 (.int .i64 1), zm 3 17]))))))
 (.seq (.reg false [] [2] [zc 2 (.bool true)])
 .ret)))) }
def N70_decimal_letter : NFun := { np := 1, nt := 17, res := [(2, none)], body :=
 (.seq (.reg false [] [0] [zc 2 (.bool false)])
 (.seq (.reg false [] [2] [zm 3 0, zd 4 .geq 3 (.int .u8 97), zm 5 4, zg 5 true (zm 6 0), zg 5 true (zd 7 .leq 6 (.int .u8 122)), ⟨some 8, .pick (.t 5) (.t 7) (.c (.bool false)), none⟩, zm 9 8, zg 9 false (zm 10 0), zg 9 false (zd 11 .geq 10 (.int .u8 65)), zg 9 false (zm 12 11), zg 12 true (zm 13 0), zg 12 true (zd 14 .leq 13 (.int .u8 90)), zg 9 false (⟨some 15, .pick (.t 12) (.t 14) (.c (.bool false)), none⟩), ⟨some 16, .pick (.t 9) (.c (.bool true)) (.t 15), none⟩, zm 2 16])
 .ret)) }
def N71_decimal_word : NFun := { np := 1, nt := 29, res := [(2, none)], body :=
 (.seq (.reg false [] [0] [zc 2 (.int .i64 0)])
 (.seq (.reg false [] [0, 3] [zc 3 (.int .i64 0)])
 (.seq (.block 0 (.loop (.seq (.seq (.reg false [] [0, 3, 25] [zm 4 3, zm 5 0, ⟨some 6, .lens (.t 5), none⟩, zb 7 .lss 4 6, zm 8 7, zg 8 true (zm 9 0), zg 8 true (zm 10 3), zg 8 true (⟨some 11, .idxS (.t 9) (.t 10), none⟩), zg 8 true (zk 12 70 [(.t 11)]), zg 8 true (zm 13 12), zg 13 false (zm 14 0), zg 13 false (zm 15 3), zg 13 false (⟨some 16, .idxS (.t 14) (.t 15), none⟩), zg 13 false (zk 17 88 [(.t 16)]), zg 8 true (⟨some 18, .pick (.t 13) (.c (.bool true)) (.t 17), none⟩), zg 8 true (zm 19 18), zg 19 false (zm 20 0), zg 19 false (zm 21 3), zg 19 false (⟨some 22, .idxS (.t 20) (.t 21), none⟩), zg 19 false (zd 23 .eql 22 (.int .u8 95)), zg 8 true (⟨some 24, .pick (.t 19) (.c (.bool true)) (.t 23), none⟩), ⟨some 25, .pick (.t 8) (.t 24) (.c (.bool false)), none⟩])
 (.cond (.t 25) .skip
 (.exit 0)))
 (.block 1 (.reg false [] [0, 3] [zm 26 3, zd 27 .add 26 (.int .i64 1), zm 3 27])))))
 (.seq (.reg false [] [2] [zm 28 3, zm 2 28])
 .ret)))) }
def N72_table_Valid : NFun := { np := 1, nt := 57, res := [(2, none)], body :=
 (.seq (.reg false [] [0] [zc 2 (.bool false)])
 (.seq (.seq (.reg false [] [0, 12] [zm 5 0, zn 6 5, zd 7 .lss 6 (.int .i64 1), zm 8 7, zg 8 false (zm 9 0), zg 8 false (zn 10 9), zg 8 false (zd 11 .gtr 10 (.int .i64 100)), ⟨some 12, .pick (.t 8) (.c (.bool true)) (.t 11), none⟩])
 (.cond (.t 12) (.seq (.reg false [] [2] [zc 2 (.bool false)])
 .ret)
 .skip))
 (.seq (.seq (.reg false [] [0, 13, 14, 15] [zm 13 0, zn 14 13, zc 15 (.int .i64 0)])
 (.block 0 (.loop (.seq (.reg false [] [0, 13, 14, 15, 16] [zb 16 .lss 15 14])
 (.seq (.cond (.t 16) .skip
 (.exit 0))
 (.seq (.block 1 (.seq (.reg false [] [0, 3, 4, 13, 14, 15] [zm 17 15, zi 18 2 13 15, zL 19 2 18, ⟨some 4, .alc [.int .i64 0, .int .i64 0], none⟩, zm 3 17, ⟨none, .st 2 [] (.t 4) (.t 19), none⟩])
 (.seq (.reg true [0, 1, 3, 7, 15, 31, 63, 127, 255, 511, 1023, 2047, 4095, 8191, 16383, 32767, 16383, 16383, 147455, 475135, 999423, 2047999, 4194303, 8388607, 16777215, 33554431, 16777215, 16777215, 150994943, 486539263, 1023410175, 2097151999, 4294967295, 8589934591, 17179869183, 34359738367] [0, 13, 14, 15, 55] [zf 20 0 4, zl 21 1 20, zk 22 89 [(.t 21)], zt 23 22, zm 24 23, zg 24 false (zf 25 1 4), zg 24 false (zl 26 1 25), zg 24 false (zk 27 89 [(.t 26)]), zg 24 false (zt 28 27), ⟨some 29, .pick (.t 24) (.c (.bool true)) (.t 28), none⟩, zm 30 29, zg 30 false (zm 31 3), zg 30 false (zd 32 .gtr 31 (.int .i64 0)), zg 30 false (zm 33 32), zg 33 true (zf 34 0 4), zg 33 true (zl 35 1 34), zg 33 true (zm 36 0), zg 33 true (zm 37 3), zg 33 true (zd 38 .sub 37 (.int .i64 1)), zg 33 true (zi 39 2 36 38), zg 33 true (zf 40 0 39), zg 33 true (zl 41 1 40), zg 33 true (zb 42 .leq 35 41), zg 33 true (zm 43 42), zg 43 false (zf 44 1 4), zg 43 false (zl 45 1 44), zg 43 false (zm 46 0), zg 43 false (zm 47 3), zg 43 false (zd 48 .sub 47 (.int .i64 1)), zg 43 false (zi 49 2 46 48), zg 43 false (zf 50 1 49), zg 43 false (zl 51 1 50), zg 43 false (zb 52 .lss 45 51), zg 33 true (⟨some 53, .pick (.t 43) (.c (.bool true)) (.t 52), none⟩), zg 30 false (⟨some 54, .pick (.t 33) (.t 53) (.c (.bool false)), none⟩), ⟨some 55, .pick (.t 30) (.c (.bool true)) (.t 54), none⟩])
 (.cond (.t 55) (.seq (.reg false [] [2] [zc 2 (.bool false)])
 .ret)
 .skip))))
 (.reg false [] [0, 13, 14, 15] [zd 56 .add 15 (.int .i64 1), zm 15 56])))))))
 (.seq (.reg false [] [2] [zc 2 (.bool true)])
 .ret)))) }
def N73_table_Floor : NFun := { np := 2, nt := 20, res := [(4, none), (5, none)], body :=
 (.seq (.reg false [] [0, 1] [zc 4 (.int .i64 0), zc 5 (.int .i64 0)])
 (.seq (.seq (.reg false [] [0, 1, 11] [zm 9 0, zk 10 72 [(.t 9)], zt 11 10])
 (.cond (.t 11) (.seq (.reg false [] [4, 5] [zc 4 (.int .i64 0), zc 5 (.int .i64 1)])
 .ret)
 .skip))
 (.seq (.reg false [] [6] [zq 13 0, zm 14 1, zk 15 90 [(.t 13), (.t 14)], zm 12 15, zx 16 0 12, zx 17 1 12, zx 18 2 12, zm 6 16, zm 7 17, zm 8 18])
 (.seq (.reg false [] [4, 5] [zm 19 6, zm 4 19, zc 5 (.int .i64 0)])
 .ret)))) }
def N74_catalogue_product : NFun := { np := 2, nt := 18, res := [(4, some (2, true))], body :=
 (.seq (.reg false [] [0, 1, 4] [⟨some 4, .alc [.int .u64 0, .int .u64 0], none⟩])
 (.seq (.reg false [] [4, 5, 6] [zm 8 0, ⟨some 9, .conv .u64 (.t 8), none⟩, zm 10 1, ⟨some 11, .conv .u64 (.t 10), none⟩, zk 12 91 [(.t 9), (.t 11)], zm 7 12, zx 13 0 7, zx 14 1 7, zm 5 13, zm 6 14])
 (.seq (.reg false [] [4] [zm 15 5, zm 16 6, ⟨some 17, .bld [.int .u64 0, .int .u64 0] [(0, 1, (.t 15)), (1, 1, (.t 16))], none⟩, ⟨none, .st 2 [] (.t 4) (.t 17), none⟩])
 .ret))) }
def N75_catalogue_wide_times : NFun := { np := 2, nt := 24, res := [(4, some (2, true))], body :=
 (.seq (.reg false [] [1, 2, 4] [zo 2 0, ⟨some 4, .alc [.int .u64 0, .int .u64 0], none⟩])
 (.seq (.reg false [] [1, 2, 4, 5, 6] [zf 8 1 2, zl 9 1 8, zm 10 1, ⟨some 11, .conv .u64 (.t 10), none⟩, zk 12 91 [(.t 9), (.t 11)], zm 7 12, zx 13 0 7, zx 14 1 7, zm 5 13, zm 6 14])
 (.seq (.reg false [] [4] [zm 15 5, zf 16 0 2, zl 17 1 16, zm 18 1, ⟨some 19, .conv .u64 (.t 18), none⟩, zb 20 .mul 17 19, zb 21 .add 15 20, zm 22 6, ⟨some 23, .bld [.int .u64 0, .int .u64 0] [(0, 1, (.t 21)), (1, 1, (.t 22))], none⟩, ⟨none, .st 2 [] (.t 4) (.t 23), none⟩])
 .ret))) }
def N76_catalogue_wide_over : NFun := { np := 2, nt := 31, res := [(4, some (2, true))], body :=
 (.seq (.reg false [] [1, 2, 4] [zo 2 0, ⟨some 4, .alc [.int .u64 0, .int .u64 0], none⟩])
 (.seq (.reg true [0, 1, 0, 4, 15, 0, 32, 0, 128, 480, 31, 2047] [1, 2, 4, 5, 6] [zf 9 0 2, zl 10 1 9, zm 11 1, ⟨some 12, .conv .u64 (.t 11), none⟩, zb 13 .quo 10 12, zf 14 0 2, zl 15 1 14, zm 16 1, ⟨some 17, .conv .u64 (.t 16), none⟩, zb 18 .rem 15 17, zm 5 13, zm 6 18])
 (.seq (.reg false [] [4, 5, 7] [zm 20 6, zf 21 1 2, zl 22 1 21, zm 23 1, ⟨some 24, .conv .u64 (.t 23), none⟩, zk 25 92 [(.t 20), (.t 22), (.t 24)], zm 19 25, zx 26 0 19, zx 27 1 19, zm 7 26, zm 8 27])
 (.seq (.reg false [] [4] [zm 28 5, zm 29 7, ⟨some 30, .bld [.int .u64 0, .int .u64 0] [(0, 1, (.t 28)), (1, 1, (.t 29))], none⟩, ⟨none, .st 2 [] (.t 4) (.t 30), none⟩])
 .ret)))) }
def N77_catalogue_wide_root : NFun := { np := 1, nt := 42, res := [(2, none)], body :=
 (.seq (.reg false [] [1] [zo 1 0, zc 2 (.int .i64 0)])
 (.seq (.reg false [] [1, 3] [zc 3 (.int .u64 0)])
 (.seq (.seq (.reg false [] [1, 3, 4] [zc 4 (.int .u64 4611686018427387904)])
 (.block 0 (.loop (.seq (.seq (.reg false [] [1, 3, 4, 8] [zm 7 4, zd 8 .gtr 7 (.int .u64 0)])
 (.cond (.t 8) .skip
 (.exit 0)))
 (.seq (.block 1 (.seq (.reg false [] [1, 3, 4, 5, 6] [zm 12 3, zm 13 4, zb 14 .or 12 13, zm 15 3, zm 16 4, zb 17 .or 15 16, zk 18 91 [(.t 14), (.t 17)], zm 11 18, zx 19 0 11, zx 20 1 11, zm 5 19, zm 6 20])
 (.seq (.reg false [] [1, 3, 4, 36] [zm 21 5, zf 22 0 1, zl 23 1 22, zb 24 .lss 21 23, zm 25 24, zg 25 false (zm 26 5), zg 25 false (zf 27 0 1), zg 25 false (zl 28 1 27), zg 25 false (zb 29 .eql 26 28), zg 25 false (zm 30 29), zg 30 true (zm 31 6), zg 30 true (zf 32 1 1), zg 30 true (zl 33 1 32), zg 30 true (zb 34 .leq 31 33), zg 25 false (⟨some 35, .pick (.t 30) (.t 34) (.c (.bool false)), none⟩), ⟨some 36, .pick (.t 25) (.c (.bool true)) (.t 35), none⟩])
 (.cond (.t 36) (.reg false [] [1, 3, 4] [zm 37 3, zm 38 4, zb 39 .or 37 38, zm 3 39])
 .skip))))
 (.reg false [] [1, 3, 4] [zm 9 4, zd 10 .shr 9 (.int .u64 1), zm 4 10]))))))
 (.seq (.reg false [] [2] [zm 40 3, ⟨some 41, .conv .i64 (.t 40), none⟩, zm 2 41])
 .ret)))) }
def N78_ref01_Digit : NFun := { np := 1, nt := 9, res := [(2, none)], body :=
 (.seq (.reg false [] [0] [zc 2 (.bool false)])
 (.seq (.reg false [] [2] [zm 3 0, zd 4 .geq 3 (.int .u8 48), zm 5 4, zg 5 true (zm 6 0), zg 5 true (zd 7 .leq 6 (.int .u8 57)), ⟨some 8, .pick (.t 5) (.t 7) (.c (.bool false)), none⟩, zm 2 8])
 .ret)) }
def N79_ref06_Number : NFun := { np := 1, nt := 9, res := [(2, none)], body :=
 (.seq (.reg false [] [0] [zc 2 (.bool false)])
 (.seq (.reg false [] [2] [zm 3 0, ⟨some 4, .bin .geq (.t 3) (.c (.int .i64 (-1125899906842624))), none⟩, zm 5 4, zg 5 true (zm 6 0), zg 5 true (zd 7 .leq 6 (.int .i64 1125899906842624)), ⟨some 8, .pick (.t 5) (.t 7) (.c (.bool false)), none⟩, zm 2 8])
 .ret)) }
def N88_decimal_digit : NFun := { np := 1, nt := 9, res := [(2, none)], body :=
 (.seq (.reg false [] [0] [zc 2 (.bool false)])
 (.seq (.reg false [] [2] [zm 3 0, zd 4 .geq 3 (.int .u8 48), zm 5 4, zg 5 true (zm 6 0), zg 5 true (zd 7 .leq 6 (.int .u8 57)), ⟨some 8, .pick (.t 5) (.t 7) (.c (.bool false)), none⟩, zm 2 8])
 .ret)) }
def N89_table_fits : NFun := { np := 1, nt := 9, res := [(2, none)], body :=
 (.seq (.reg false [] [0] [zc 2 (.bool false)])
 (.seq (.reg false [] [2] [zm 3 0, ⟨some 4, .bin .geq (.t 3) (.c (.int .i64 (-1125899906842624))), none⟩, zm 5 4, zg 5 true (zm 6 0), zg 5 true (zd 7 .leq 6 (.int .i64 1125899906842624)), ⟨some 8, .pick (.t 5) (.t 7) (.c (.bool false)), none⟩, zm 2 8])
 .ret)) }
def N90_table_piece : NFun := { np := 2, nt := 110, res := [(4, none), (5, none), (6, none)], body :=
 (.seq (.reg false [] [0, 1] [zc 4 (.int .i64 0), zc 5 (.int .i64 0), zc 6 (.int .i64 0)])
 (.seq (.reg false [] [0, 1, 7, 8] [zm 23 0, zm 24 1, ⟨some 25, .call 96 [(.t 23), (.t 24), (.c (.fn 97 []))] [], none⟩, zm 22 25, zx 26 0 22, zx 27 1 22, zm 7 26, zm 8 27])
 (.seq (.block 0 (.seq (.reg false [] [0, 1, 7, 28] [zm 29 8, zm 30 29, zg 30 false (zm 31 7), zg 30 false (zd 32 .eql 31 (.int .i64 0)), ⟨some 33, .pick (.t 30) (.c (.bool true)) (.t 32), none⟩, zm 28 33])
 (.cond (.t 28) (.seq (.reg false [] [4, 5, 6] [zq 34 0, zm 35 7, zi 36 2 34 35, zf 37 1 36, zl 38 1 37, zm 4 38, zc 5 (.int .i64 0), zc 6 (.int .i64 1)])
 .ret)
 (.seq (.reg false [] [0, 1, 7, 39] [zm 40 7, zm 41 0, zn 42 41, zb 43 .eql 40 42, zm 39 43])
 (.cond (.t 39) (.seq (.reg false [] [4, 5, 6] [zq 44 0, zm 45 7, zd 46 .sub 45 (.int .i64 1), zi 47 2 44 46, zf 48 1 47, zl 49 1 48, zm 4 49, zc 5 (.int .i64 0), zc 6 (.int .i64 1)])
 .ret)
 .skip)))))
 (.seq (.reg true [0, 0, 2, 7, 15, 0, 0, 96, 224, 0, 0, 1567, 4095] [1, 9, 10] [zm 50 0, zm 51 7, zd 52 .sub 51 (.int .i64 1), zi 53 2 50 52, zL 54 2 53, zq 55 0, zm 56 7, zi 57 2 55 56, zL 58 2 57, ⟨some 9, .alc [.int .i64 0, .int .i64 0], none⟩, ⟨some 10, .alc [.int .i64 0, .int .i64 0], none⟩, ⟨none, .st 2 [] (.t 9) (.t 54), none⟩, ⟨none, .st 2 [] (.t 10) (.t 58), none⟩])
 (.seq (.reg true [0, 1, 0, 4, 15, 0, 0, 64, 224, 0, 512, 0, 2048, 7680, 31, 16895, 65535] [6, 9, 11, 12] [zf 59 1 10, zl 60 1 59, zf 61 1 9, zl 62 1 61, zb 63 .sub 60 62, zm 64 1, zf 65 0 9, zl 66 1 65, zb 67 .sub 64 66, zf 68 0 10, zl 69 1 68, zf 70 0 9, zl 71 1 70, zb 72 .sub 69 71, zm 11 63, zm 12 67, zm 6 72])
 (.seq (.reg false [] [6, 9, 11, 12, 13] [zm 74 11, zm 75 12, zm 76 6, zk 77 98 [(.t 74), (.t 75), (.t 76)], zm 73 77, zx 78 0 73, zx 79 1 73, zx 80 2 73, zm 13 78, zm 14 79, zm 15 80])
 (.seq (.reg false [] [6, 9, 13, 16] [zm 82 11, zm 83 12, zk 84 99 [(.t 82), (.t 83)], zm 81 84, zx 85 0 81, zx 86 1 81, ⟨some 16, .alc [.int .i64 0, .int .i64 0], none⟩, ⟨none, .st 2 [] (.t 16) (.t 85), none⟩, zm 17 86])
 (.seq (.reg false [] [6, 9, 13, 16, 18] [zm 88 13, zm 89 6, zk 90 99 [(.t 88), (.t 89)], zm 87 90, zx 91 0 87, zx 92 1 87, ⟨some 18, .alc [.int .i64 0, .int .i64 0], none⟩, ⟨none, .st 2 [] (.t 18) (.t 91), none⟩, zm 19 92])
 (.seq (.reg false [] [6, 9, 13, 20] [zL 94 2 16, zL 95 2 18, zk 96 100 [(.t 94), (.t 95)], zm 93 96, zx 97 0 93, zx 98 1 93, ⟨some 20, .alc [.int .i64 0, .int .i64 0], none⟩, ⟨none, .st 2 [] (.t 20) (.t 97), none⟩, zm 21 98])
 (.seq (.reg false [] [5, 6, 9, 13] [zL 100 2 20, zk 101 101 [(.t 100)], zm 99 101, zx 102 0 99, zx 103 1 99, zm 5 102])
 (.seq (.reg false [] [4, 5, 6] [zf 104 1 9, zl 105 1 104, zm 106 13, zb 107 .add 105 106, zm 108 5, zm 109 6, zm 4 107, zm 5 108, zm 6 109])
 .ret))))))))))) }
def N91_math_bits_Mul64 : NFun := { np := 2, nt := 51, res := [(4, none), (5, none)], body :=
 (.seq (.reg false [] [0, 1] [zc 4 (.int .u64 0), zc 5 (.int .u64 0)])
 (.seq (.reg false [] [0, 1, 6] [zm 14 0, zd 15 .and 14 (.int .u64 4294967295), zm 6 15])
 (.seq (.reg false [] [0, 1, 6, 7] [zm 16 0, zd 17 .shr 16 (.int .u64 32), zm 7 17])
 (.seq (.reg false [] [0, 1, 6, 7, 8] [zm 18 1, zd 19 .and 18 (.int .u64 4294967295), zm 8 19])
 (.seq (.reg false [] [0, 1, 6, 7, 8, 9] [zm 20 1, zd 21 .shr 20 (.int .u64 32), zm 9 21])
 (.seq (.reg false [] [0, 1, 6, 7, 8, 9, 10] [zm 22 6, zm 23 8, zb 24 .mul 22 23, zm 10 24])
 (.seq (.reg false [] [0, 1, 6, 7, 9, 11] [zm 25 7, zm 26 8, zb 27 .mul 25 26, zm 28 10, zd 29 .shr 28 (.int .u64 32), zb 30 .add 27 29, zm 11 30])
 (.seq (.reg false [] [0, 1, 6, 7, 9, 11, 12] [zm 31 11, zd 32 .and 31 (.int .u64 4294967295), zm 12 32])
 (.seq (.reg false [] [0, 1, 6, 7, 9, 12, 13] [zm 33 11, zd 34 .shr 33 (.int .u64 32), zm 13 34])
 (.seq (.reg false [] [0, 1, 7, 9, 12, 13] [zm 35 12, zm 36 6, zm 37 9, zb 38 .mul 36 37, zb 39 .add 35 38, zm 12 39])
 (.seq (.reg false [] [0, 1, 4] [zm 40 7, zm 41 9, zb 42 .mul 40 41, zm 43 13, zb 44 .add 42 43, zm 45 12, zd 46 .shr 45 (.int .u64 32), zb 47 .add 44 46, zm 4 47])
 (.seq (.reg false [] [4, 5] [zm 48 0, zm 49 1, zb 50 .mul 48 49, zm 5 50])
 .ret)))))))))))) }
def N92_math_bits_Div64 : NFun := { np := 3, nt := 135, res := [(6, none), (7, none)], body :=
 (.seq (.reg false [] [0, 1, 2] [zc 6 (.int .u64 0), zc 7 (.int .u64 0)])
 (.seq (.seq (.reg false [] [0, 1, 2, 20] [zm 19 2, zd 20 .eql 19 (.int .u64 0)])
 (.cond (.t 20) (.reg false [] [0, 1, 2] [⟨some 21, .dead, none⟩, ⟨none, .dead, none⟩])
 .skip))
 (.seq (.seq (.reg false [] [0, 1, 2, 24] [zm 22 2, zm 23 0, zb 24 .leq 22 23])
 (.cond (.t 24) (.reg false [] [0, 1, 2] [⟨some 25, .dead, none⟩, ⟨none, .dead, none⟩])
 .skip))
 (.seq (.seq (.reg false [] [0, 1, 2, 27] [zm 26 0, zd 27 .eql 26 (.int .u64 0)])
 (.cond (.t 27) (.seq (.reg true [0, 0, 3, 0, 0, 24, 7, 127] [6, 7] [zm 28 1, zm 29 2, zb 30 .quo 28 29, zm 31 1, zm 32 2, zb 33 .rem 31 32, zm 6 30, zm 7 33])
 .ret)
 .skip))
 (.seq (.reg false [] [0, 1, 2, 8] [zm 34 2, zk 35 102 [(.t 34)], ⟨some 36, .conv .u64 (.t 35), none⟩, zm 8 36])
 (.seq (.reg false [] [0, 1, 2, 8] [zm 37 2, zm 38 8, zb 39 .shl 37 38, zm 2 39])
 (.seq (.reg false [] [0, 1, 2, 8, 9] [zm 40 2, zd 41 .shr 40 (.int .u64 32), zm 9 41])
 (.seq (.reg false [] [0, 1, 2, 8, 9, 10] [zm 42 2, zd 43 .and 42 (.int .u64 4294967295), zm 10 43])
 (.seq (.reg false [] [1, 2, 8, 9, 10, 11] [zm 44 0, zm 45 8, zb 46 .shl 44 45, zm 47 1, zm 48 8, ⟨some 49, .bin .sub (.c (.int .u64 64)) (.t 48), none⟩, zb 50 .shr 47 49, zb 51 .or 46 50, zm 11 51])
 (.seq (.reg false [] [2, 8, 9, 10, 11, 12] [zm 52 1, zm 53 8, zb 54 .shl 52 53, zm 12 54])
 (.seq (.reg false [] [2, 8, 9, 10, 11, 12, 13] [zm 55 12, zd 56 .shr 55 (.int .u64 32), zm 13 56])
 (.seq (.reg false [] [2, 8, 9, 10, 11, 13, 14] [zm 57 12, zd 58 .and 57 (.int .u64 4294967295), zm 14 58])
 (.seq (.reg false [] [2, 8, 9, 10, 11, 13, 14, 15] [zm 59 11, zm 60 9, zb 61 .quo 59 60, zm 15 61])
 (.seq (.reg false [] [2, 8, 9, 10, 11, 13, 14, 15, 16] [zm 62 11, zm 63 15, zm 64 9, zb 65 .mul 63 64, zb 66 .sub 62 65, zm 16 66])
 (.seq (.block 0 (.loop (.seq (.seq (.reg false [] [2, 8, 9, 10, 11, 13, 14, 15, 16, 78] [zm 67 15, zd 68 .geq 67 (.int .u64 4294967296), zm 69 68, zg 69 false (zm 70 15), zg 69 false (zm 71 10), zg 69 false (zb 72 .mul 70 71), zg 69 false (zm 73 16), zg 69 false (⟨some 74, .bin .mul (.c (.int .u64 4294967296)) (.t 73), none⟩), zg 69 false (zm 75 13), zg 69 false (zb 76 .add 74 75), zg 69 false (zb 77 .gtr 72 76), ⟨some 78, .pick (.t 69) (.c (.bool true)) (.t 77), none⟩])
 (.cond (.t 78) .skip
 (.exit 0)))
 (.block 1 (.seq (.reg false [] [2, 8, 9, 10, 11, 13, 14, 15, 16] [zm 79 15, zd 80 .sub 79 (.int .u64 1), zm 15 80])
 (.seq (.reg false [] [2, 8, 9, 10, 11, 13, 14, 15, 16] [zm 81 16, zm 82 9, zb 83 .add 81 82, zm 16 83])
 (.seq (.reg false [] [2, 8, 9, 10, 11, 13, 14, 15, 16, 85] [zm 84 16, zd 85 .geq 84 (.int .u64 4294967296)])
 (.cond (.t 85) (.exit 0)
 .skip))))))))
 (.seq (.reg false [] [2, 8, 9, 10, 14, 15, 17] [zm 86 11, zd 87 .mul 86 (.int .u64 4294967296), zm 88 13, zb 89 .add 87 88, zm 90 15, zm 91 2, zb 92 .mul 90 91, zb 93 .sub 89 92, zm 17 93])
 (.seq (.reg false [] [2, 8, 9, 10, 14, 15, 17, 18] [zm 94 17, zm 95 9, zb 96 .quo 94 95, zm 18 96])
 (.seq (.reg false [] [2, 8, 9, 10, 14, 15, 16, 17, 18] [zm 97 17, zm 98 18, zm 99 9, zb 100 .mul 98 99, zb 101 .sub 97 100, zm 16 101])
 (.seq (.block 2 (.loop (.seq (.seq (.reg false [] [2, 8, 9, 10, 14, 15, 16, 17, 18, 113] [zm 102 18, zd 103 .geq 102 (.int .u64 4294967296), zm 104 103, zg 104 false (zm 105 18), zg 104 false (zm 106 10), zg 104 false (zb 107 .mul 105 106), zg 104 false (zm 108 16), zg 104 false (⟨some 109, .bin .mul (.c (.int .u64 4294967296)) (.t 108), none⟩), zg 104 false (zm 110 14), zg 104 false (zb 111 .add 109 110), zg 104 false (zb 112 .gtr 107 111), ⟨some 113, .pick (.t 104) (.c (.bool true)) (.t 112), none⟩])
 (.cond (.t 113) .skip
 (.exit 2)))
 (.block 3 (.seq (.reg false [] [2, 8, 9, 10, 14, 15, 16, 17, 18] [zm 114 18, zd 115 .sub 114 (.int .u64 1), zm 18 115])
 (.seq (.reg false [] [2, 8, 9, 10, 14, 15, 16, 17, 18] [zm 116 16, zm 117 9, zb 118 .add 116 117, zm 16 118])
 (.seq (.reg false [] [2, 8, 9, 10, 14, 15, 16, 17, 18, 120] [zm 119 16, zd 120 .geq 119 (.int .u64 4294967296)])
 (.cond (.t 120) (.exit 2)
 .skip))))))))
 (.seq (.reg false [] [6, 7] [zm 121 15, zd 122 .mul 121 (.int .u64 4294967296), zm 123 18, zb 124 .add 122 123, zm 125 17, zd 126 .mul 125 (.int .u64 4294967296), zm 127 14, zb 128 .add 126 127, zm 129 18, zm 130 2, zb 131 .mul 129 130, zb 132 .sub 128 131, zm 133 8, zb 134 .shr 132 133, zm 6 124, zm 7 134])
 .ret)))))))))))))))))))) }
def N96_slices_BinarySearchFunc_api_Table_api_Knot_int : NFun := { np := 3, nt := 49, res := [(6, none), (7, none)], body :=
 (.seq (.reg false [] [0, 1, 2] [zc 6 (.int .i64 0), zc 7 (.bool false)])
 (.seq (.reg false [] [0, 1, 2, 8] [zm 12 0, zn 13 12, zm 8 13])
 (.seq (.reg false [] [0, 1, 2, 8, 9, 10] [zm 14 8, zc 9 (.int .i64 0), zm 10 14])
 (.seq (.block 0 (.loop (.seq (.seq (.reg false [] [0, 1, 2, 8, 9, 10, 17] [zm 15 9, zm 16 10, zb 17 .lss 15 16])
 (.cond (.t 17) .skip
 (.exit 0)))
 (.block 1 (.seq (.reg false [] [0, 1, 2, 8, 9, 10, 11] [zm 18 9, zm 19 10, zb 20 .add 18 19, ⟨some 21, .conv .u64 (.t 20), none⟩, zd 22 .shr 21 (.int .u64 1), ⟨some 23, .conv .i64 (.t 22), none⟩, zm 11 23])
 (.seq (.reg false [] [0, 1, 2, 8, 9, 10, 11, 31] [zm 24 2, zm 25 0, zm 26 11, zi 27 2 25 26, zL 28 2 27, zm 29 1, ⟨some 30, .callv (.t 24) [(.t 28), (.t 29)], none⟩, zd 31 .lss 30 (.int .i64 0)])
 (.cond (.t 31) (.reg false [] [0, 1, 2, 8, 9, 10] [zm 32 11, zd 33 .add 32 (.int .i64 1), zm 9 33])
 (.reg false [] [0, 1, 2, 8, 9, 10] [zm 34 11, zm 10 34]))))))))
 (.seq (.reg false [] [6, 7] [zm 35 9, zm 36 9, zm 37 8, zb 38 .lss 36 37, zm 39 38, zg 39 true (zm 40 2), zg 39 true (zq 41 0), zg 39 true (zm 42 9), zg 39 true (zi 43 2 41 42), zg 39 true (zL 44 2 43), zg 39 true (zm 45 1), zg 39 true (⟨some 46, .callv (.t 40) [(.t 44), (.t 45)], none⟩), zg 39 true (zd 47 .eql 46 (.int .i64 0)), ⟨some 48, .pick (.t 39) (.t 47) (.c (.bool false)), none⟩, zm 6 35, zm 7 48])
 .ret))))) }
def N97_table_piece_1 : NFun := { np := 2, nt := 15, res := [(4, none)], body :=
 (.seq (.reg false [] [1, 2] [zo 2 0, zc 4 (.int .i64 0)])
 (.seq (.block 0 (.seq (.reg false [] [1, 2, 5] [zf 6 0 2, zl 7 1 6, zm 8 1, zb 9 .lss 7 8, zm 5 9])
 (.cond (.t 5) (.seq (.reg false [] [4] [⟨some 4, .mov (.c (.int .i64 (-1))), none⟩])
 .ret)
 (.seq (.reg false [] [10] [zf 11 0 2, zl 12 1 11, zm 13 1, zb 14 .gtr 12 13, zm 10 14])
 (.cond (.t 10) (.seq (.reg false [] [4] [zc 4 (.int .i64 1)])
 .ret)
 .skip)))))
 (.seq (.reg false [] [4] [zc 4 (.int .i64 0)])
 .ret))) }
def N98_wide_Scale : NFun := { np := 3, nt := 35, res := [(6, none), (7, none), (8, none)], body :=
 (.seq (.reg false [] [0, 1, 2] [zc 6 (.int .i64 0), zc 7 (.int .i64 0), zc 8 (.int .i64 0)])
 (.seq (.seq (.reg false [] [0, 1, 2, 11] [zm 10 2, zd 11 .eql 10 (.int .i64 0)])
 (.cond (.t 11) (.seq (.reg false [] [6, 7, 8] [zc 6 (.int .i64 0), zc 7 (.int .i64 0), zc 8 (.int .i64 16)])
 .ret)
 .skip))
 (.seq (.reg false [] [2, 9] [zm 12 0, zm 13 1, zk 14 103 [(.t 12), (.t 13)], ⟨some 9, .alc [.int .u64 0, .int .u64 0, .bool false], none⟩, ⟨none, .st 3 [] (.t 9) (.t 14), none⟩])
 (.seq (.seq (.reg false [] [2, 6, 8, 9] [zL 16 3 9, zm 17 2, zk 18 104 [(.t 16), (.t 17), (.c (.bool false))], zm 15 18, zx 19 0 15, zx 20 1 15, zm 6 19, zm 8 20])
 (.seq (.reg false [] [2, 6, 8, 9, 22] [zm 21 8, zd 22 .neq 21 (.int .i64 0)])
 (.cond (.t 22) (.seq (.reg false [] [6, 7, 8] [zm 23 8, zc 6 (.int .i64 0), zc 7 (.int .i64 0), zm 8 23])
 .ret)
 .skip)))
 (.seq (.seq (.reg false [] [6, 7, 8] [zL 25 3 9, zm 26 2, zk 27 104 [(.t 25), (.t 26), (.c (.bool true))], zm 24 27, zx 28 0 24, zx 29 1 24, zm 7 28, zm 8 29])
 (.seq (.reg false [] [6, 7, 8, 31] [zm 30 8, zd 31 .neq 30 (.int .i64 0)])
 (.cond (.t 31) (.seq (.reg false [] [6, 7, 8] [zm 32 8, zc 6 (.int .i64 0), zc 7 (.int .i64 0), zm 8 32])
 .ret)
 .skip)))
 (.seq (.reg false [] [6, 7, 8] [zm 33 6, zm 34 7, zm 6 33, zm 7 34, zc 8 (.int .i64 0)])
 .ret)))))) }
def N99_wide_Product : NFun := { np := 2, nt := 12, res := [(4, some (2, true)), (5, none)], body :=
 (.seq (.reg false [] [0, 1, 4] [⟨some 4, .alc [.int .i64 0, .int .i64 0], none⟩, zc 5 (.int .i64 0)])
 (.seq (.reg false [] [4, 5] [zm 6 0, zm 7 1, zk 8 103 [(.t 6), (.t 7)], zk 9 105 [(.t 8)], zx 10 0 9, zx 11 1 9, ⟨none, .st 2 [] (.t 4) (.t 10), none⟩, zm 5 11])
 .ret)) }
def N100_wide_Sub : NFun := { np := 2, nt := 24, res := [(4, some (2, true)), (5, none)], body :=
 (.seq (.reg false [] [2, 3, 4] [zo 2 0, zo 3 1, ⟨some 4, .alc [.int .i64 0, .int .i64 0], none⟩, zc 5 (.int .i64 0)])
 (.seq (.seq (.reg false [] [2, 3, 4, 13] [zL 6 2 2, zk 7 106 [(.t 6)], zt 8 7, zm 9 8, zg 9 false (zL 10 2 3), zg 9 false (zk 11 106 [(.t 10)]), zg 9 false (zt 12 11), ⟨some 13, .pick (.t 9) (.c (.bool true)) (.t 12), none⟩])
 (.cond (.t 13) (.seq (.reg false [] [4, 5] [⟨some 14, .bld [.int .i64 0, .int .i64 0] [], none⟩, ⟨none, .st 2 [] (.t 4) (.t 14), none⟩, zc 5 (.int .i64 1)])
 .ret)
 .skip))
 (.seq (.reg true [0, 1, 0, 7, 15, 31, 63, 127, 127, 511, 1023] [4, 5] [zL 15 2 2, zk 16 108 [(.t 15)], zL 17 2 3, zk 18 108 [(.t 17)], zk 19 109 [(.t 18)], zk 20 107 [(.t 16), (.t 19)], zk 21 105 [(.t 20)], zx 22 0 21, zx 23 1 21, ⟨none, .st 2 [] (.t 4) (.t 22), none⟩, zm 5 23])
 .ret))) }
def N101_wide_Int : NFun := { np := 1, nt := 20, res := [(2, none), (3, none)], body :=
 (.seq (.reg false [] [1] [zo 1 0, zc 2 (.int .i64 0), zc 3 (.int .i64 0)])
 (.seq (.seq (.reg false [] [1, 7] [zL 5 2 1, zk 6 106 [(.t 5)], zt 7 6])
 (.cond (.t 7) (.seq (.reg false [] [2, 3] [zc 2 (.int .i64 0), zc 3 (.int .i64 1)])
 .ret)
 .skip))
 (.seq (.reg false [] [4] [zL 8 2 1, zk 9 108 [(.t 8)], ⟨some 4, .alc [.int .u64 0, .int .u64 0, .bool false], none⟩, ⟨none, .st 3 [] (.t 4) (.t 9), none⟩])
 (.seq (.seq (.reg false [] [4, 12] [zf 10 0 4, zl 11 1 10, zd 12 .gtr 11 (.int .u64 0)])
 (.cond (.t 12) (.seq (.reg false [] [2, 3] [zc 2 (.int .i64 0), zc 3 (.int .i64 5)])
 .ret)
 .skip))
 (.seq (.reg false [] [2, 3] [zf 13 1 4, zl 14 1 13, zf 15 2 4, zl 16 1 15, zk 17 110 [(.t 14), (.t 16)], zx 18 0 17, zx 19 1 17, zm 2 18, zm 3 19])
 .ret))))) }
def N102_math_bits_LeadingZeros64 : NFun := { np := 1, nt := 6, res := [(2, none)], body :=
 (.seq (.reg false [] [0] [zc 2 (.int .i64 0)])
 (.seq (.reg false [] [2] [zm 3 0, zk 4 111 [(.t 3)], ⟨some 5, .bin .sub (.c (.int .i64 64)) (.t 4), none⟩, zm 2 5])
 .ret)) }
def N103_wide_times : NFun := { np := 2, nt := 23, res := [(4, some (3, true))], body :=
 (.seq (.reg false [] [0, 1, 4] [⟨some 4, .alc [.int .u64 0, .int .u64 0, .bool false], none⟩])
 (.seq (.reg false [] [0, 1, 4, 5, 6] [zm 8 0, zk 9 112 [(.t 8)], zm 10 1, zk 11 112 [(.t 10)], zk 12 91 [(.t 9), (.t 11)], zm 7 12, zx 13 0 7, zx 14 1 7, zm 5 13, zm 6 14])
 (.seq (.reg false [] [4] [zm 15 5, zm 16 6, zm 17 0, zd 18 .lss 17 (.int .i64 0), zm 19 1, zd 20 .lss 19 (.int .i64 0), ⟨some 21, .beq true [] (.t 18) (.t 20), none⟩, zk 22 113 [(.t 15), (.t 16), (.t 21)], ⟨none, .st 3 [] (.t 4) (.t 22), none⟩])
 .ret))) }
def N104_wide_quotient : NFun := { np := 3, nt := 52, res := [(6, none), (7, none)], body :=
 (.seq (.reg false [] [1, 2, 3] [zo 3 0, zc 6 (.int .i64 0), zc 7 (.int .i64 0)])
 (.seq (.reg false [] [1, 2, 3, 8] [zm 12 1, zk 13 112 [(.t 12)], zm 8 13])
 (.seq (.seq (.reg false [] [1, 2, 3, 8, 17] [zf 14 0 3, zl 15 1 14, zm 16 8, zb 17 .geq 15 16])
 (.cond (.t 17) (.seq (.reg false [] [6, 7] [zc 6 (.int .i64 0), zc 7 (.int .i64 5)])
 .ret)
 .skip))
 (.seq (.reg false [] [1, 2, 3, 9, 10] [zf 19 0 3, zl 20 1 19, zf 21 1 3, zl 22 1 21, zm 23 8, zk 24 92 [(.t 20), (.t 22), (.t 23)], zm 18 24, zx 25 0 18, zx 26 1 18, zm 9 25, zm 10 26])
 (.seq (.reg false [] [2, 9, 10, 11] [zf 27 2 3, zl 28 1 27, zm 29 1, zd 30 .lss 29 (.int .i64 0), ⟨some 31, .beq true [] (.t 28) (.t 30), none⟩, zm 11 31])
 (.seq (.seq (.reg false [] [9, 11, 38] [zm 32 10, zd 33 .gtr 32 (.int .u64 0), zm 34 33, zg 34 true (zm 35 11), zg 34 true (zm 36 2), zg 34 true (⟨some 37, .beq true [] (.t 35) (.t 36), none⟩), ⟨some 38, .pick (.t 34) (.t 37) (.c (.bool false)), none⟩])
 (.cond (.t 38) (.seq (.reg false [] [9, 11] [zm 39 9, zd 40 .add 39 (.int .u64 1), zm 9 40])
 (.seq (.reg false [] [9, 11, 42] [zm 41 9, zd 42 .eql 41 (.int .u64 0)])
 (.cond (.t 42) (.seq (.reg false [] [6, 7] [zc 6 (.int .i64 0), zc 7 (.int .i64 5)])
 .ret)
 .skip)))
 .skip))
 (.seq (.reg false [] [6, 7] [zm 43 9, zm 44 11, zm 45 44, zg 45 true (zm 46 9), zg 45 true (zd 47 .gtr 46 (.int .u64 0)), ⟨some 48, .pick (.t 45) (.t 47) (.c (.bool false)), none⟩, zk 49 110 [(.t 43), (.t 48)], zx 50 0 49, zx 51 1 49, zm 6 50, zm 7 51])
 .ret))))))) }
def N105_wide_placed : NFun := { np := 1, nt := 56, res := [(2, some (2, true)), (3, none)], body :=
 (.seq (.reg false [] [1, 2] [zo 1 0, ⟨some 2, .alc [.int .i64 0, .int .i64 0], none⟩, zc 3 (.int .i64 0)])
 (.seq (.seq (.reg false [] [1, 2, 23] [zf 6 0 1, zl 7 1 6, zd 8 .gtr 7 (.int .u64 72057594037927936), zm 9 8, zg 9 false (zf 10 0 1), zg 9 false (zl 11 1 10), zg 9 false (zd 12 .eql 11 (.int .u64 72057594037927936)), zg 9 false (zm 13 12), zg 13 true (zf 14 1 1), zg 13 true (zl 15 1 14), zg 13 true (zd 16 .gtr 15 (.int .u64 0)), zg 13 true (zm 17 16), zg 17 false (zf 18 2 1), zg 17 false (zl 19 1 18), zg 17 false (zt 20 19), zg 13 true (⟨some 21, .pick (.t 17) (.c (.bool true)) (.t 20), none⟩), zg 9 false (⟨some 22, .pick (.t 13) (.t 21) (.c (.bool false)), none⟩), ⟨some 23, .pick (.t 9) (.c (.bool true)) (.t 22), none⟩])
 (.cond (.t 23) (.seq (.reg false [] [2, 3] [⟨some 24, .bld [.int .i64 0, .int .i64 0] [], none⟩, ⟨none, .st 2 [] (.t 2) (.t 24), none⟩, zc 3 (.int .i64 5)])
 .ret)
 .skip))
 (.seq (.reg true [0, 1, 3, 0, 8, 24, 63, 127, 0, 256, 768, 1792, 255, 8191] [1, 2, 4, 5] [zf 25 0 1, zl 26 1 25, zd 27 .shl 26 (.int .u64 4), zf 28 1 1, zl 29 1 28, zd 30 .shr 29 (.int .u64 60), zb 31 .or 27 30, ⟨some 32, .conv .i64 (.t 31), none⟩, zf 33 1 1, zl 34 1 33, zd 35 .and 34 (.int .u64 1152921504606846975), ⟨some 36, .conv .i64 (.t 35), none⟩, zm 4 32, zm 5 36])
 (.seq (.block 0 (.seq (.reg false [] [2, 4, 5, 37] [zf 38 2 1, zl 39 1 38, zt 40 39, zm 37 40])
 (.cond (.t 37) (.seq (.reg false [] [2, 3] [zm 41 4, zm 42 5, ⟨some 43, .bld [.int .i64 0, .int .i64 0] [(0, 1, (.t 41)), (1, 1, (.t 42))], none⟩, ⟨none, .st 2 [] (.t 2) (.t 43), none⟩, zc 3 (.int .i64 0)])
 .ret)
 (.seq (.reg false [] [2, 4, 5, 44] [zm 45 5, zd 46 .eql 45 (.int .i64 0), zm 44 46])
 (.cond (.t 44) (.seq (.reg false [] [2, 3] [zm 47 4, ⟨some 48, .un .neg (.t 47), none⟩, ⟨some 49, .bld [.int .i64 0, .int .i64 0] [(0, 1, (.t 48))], none⟩, ⟨none, .st 2 [] (.t 2) (.t 49), none⟩, zc 3 (.int .i64 0)])
 .ret)
 .skip)))))
 (.seq (.reg false [] [2, 3] [zm 50 4, ⟨some 51, .un .neg (.t 50), none⟩, zd 52 .sub 51 (.int .i64 1), zm 53 5, ⟨some 54, .bin .sub (.c (.int .i64 1152921504606846976)) (.t 53), none⟩, ⟨some 55, .bld [.int .i64 0, .int .i64 0] [(0, 1, (.t 52)), (1, 1, (.t 54))], none⟩, ⟨none, .st 2 [] (.t 2) (.t 55), none⟩, zc 3 (.int .i64 0)])
 .ret))))) }
def N106_wide_Valid : NFun := { np := 1, nt := 21, res := [(2, none)], body :=
 (.seq (.reg false [] [1] [zo 1 0, zc 2 (.bool false)])
 (.seq (.reg false [] [2] [zf 3 0 1, zl 4 1 3, ⟨some 5, .bin .geq (.t 4) (.c (.int .i64 (-1152921504606846976))), none⟩, zm 6 5, zg 6 true (zf 7 0 1), zg 6 true (zl 8 1 7), zg 6 true (zd 9 .lss 8 (.int .i64 1152921504606846976)), ⟨some 10, .pick (.t 6) (.t 9) (.c (.bool false)), none⟩, zm 11 10, zg 11 true (zf 12 1 1), zg 11 true (zl 13 1 12), zg 11 true (zd 14 .geq 13 (.int .i64 0)), ⟨some 15, .pick (.t 11) (.t 14) (.c (.bool false)), none⟩, zm 16 15, zg 16 true (zf 17 1 1), zg 16 true (zl 18 1 17), zg 16 true (zd 19 .lss 18 (.int .i64 1152921504606846976)), ⟨some 20, .pick (.t 16) (.t 19) (.c (.bool false)), none⟩, zm 2 20])
 .ret)) }
def N107_wide_sum : NFun := { np := 2, nt := 73, res := [(4, some (3, true))], body :=
 (.seq (.reg false [] [2, 3, 4] [⟨some 2, .box [] (.t 0), none⟩, ⟨some 3, .box [] (.t 1), none⟩, ⟨some 4, .alc [.int .u64 0, .int .u64 0, .bool false], none⟩])
 (.seq (.seq (.reg false [] [2, 3, 4, 13] [zf 9 2 2, zl 10 1 9, zf 11 2 3, zl 12 1 11, ⟨some 13, .beq false [] (.t 10) (.t 12), none⟩])
 (.cond (.t 13) (.seq (.reg false [] [2, 3, 4, 5, 6] [zf 15 1 2, zl 16 1 15, zf 17 1 3, zl 18 1 17, ⟨some 19, .add64 (.t 16) (.t 18) (.c (.int .u64 0)), none⟩, zm 14 19, zx 20 0 14, zx 21 1 14, zm 5 20, zm 6 21])
 (.seq (.reg false [] [4] [zf 22 0 2, zl 23 1 22, zf 24 0 3, zl 25 1 24, zb 26 .add 23 25, zm 27 6, zb 28 .add 26 27, zm 29 5, zf 30 2 2, zl 31 1 30, zk 32 113 [(.t 28), (.t 29), (.t 31)], ⟨none, .st 3 [] (.t 4) (.t 32), none⟩])
 .ret))
 .skip))
 (.seq (.seq (.reg false [] [2, 3, 4, 51] [zf 33 0 2, zl 34 1 33, zf 35 0 3, zl 36 1 35, zb 37 .lss 34 36, zm 38 37, zg 38 false (zf 39 0 2), zg 38 false (zl 40 1 39), zg 38 false (zf 41 0 3), zg 38 false (zl 42 1 41), zg 38 false (zb 43 .eql 40 42), zg 38 false (zm 44 43), zg 44 true (zf 45 1 2), zg 44 true (zl 46 1 45), zg 44 true (zf 47 1 3), zg 44 true (zl 48 1 47), zg 44 true (zb 49 .lss 46 48), zg 38 false (⟨some 50, .pick (.t 44) (.t 49) (.c (.bool false)), none⟩), ⟨some 51, .pick (.t 38) (.c (.bool true)) (.t 50), none⟩])
 (.cond (.t 51) (.reg false [] [2, 3, 4] [zL 52 3 3, zL 53 3 2, ⟨none, .st 3 [] (.t 2) (.t 52), none⟩, ⟨none, .st 3 [] (.t 3) (.t 53), none⟩])
 .skip))
 (.seq (.reg false [] [2, 3, 4, 7, 8] [zf 55 1 2, zl 56 1 55, zf 57 1 3, zl 58 1 57, ⟨some 59, .sub64 (.t 56) (.t 58) (.c (.int .u64 0)), none⟩, zm 54 59, zx 60 0 54, zx 61 1 54, zm 7 60, zm 8 61])
 (.seq (.reg false [] [4] [zf 62 0 2, zl 63 1 62, zf 64 0 3, zl 65 1 64, zb 66 .sub 63 65, zm 67 8, zb 68 .sub 66 67, zm 69 7, zf 70 2 2, zl 71 1 70, zk 72 113 [(.t 68), (.t 69), (.t 71)], ⟨none, .st 3 [] (.t 4) (.t 72), none⟩])
 .ret))))) }
def N108_wide_value : NFun := { np := 1, nt := 37, res := [(2, some (3, true))], body :=
 (.seq (.reg false [] [1, 2] [zo 1 0, ⟨some 2, .alc [.int .u64 0, .int .u64 0, .bool false], none⟩])
 (.seq (.reg false [] [1, 2, 3] [zf 7 0 1, zl 8 1 7, zk 9 112 [(.t 8)], zm 3 9])
 (.seq (.reg false [] [1, 2, 4, 5] [zm 10 3, zd 11 .shr 10 (.int .u64 4), zm 12 3, zd 13 .shl 12 (.int .u64 60), zm 4 11, zm 5 13])
 (.seq (.seq (.reg false [] [1, 2, 4, 5, 16] [zf 14 0 1, zl 15 1 14, zd 16 .geq 15 (.int .i64 0)])
 (.cond (.t 16) (.seq (.reg false [] [2] [zm 17 4, zm 18 5, zf 19 1 1, zl 20 1 19, ⟨some 21, .conv .u64 (.t 20), none⟩, zb 22 .or 18 21, ⟨some 23, .bld [.int .u64 0, .int .u64 0, .bool false] [(0, 1, (.t 17)), (1, 1, (.t 22)), (2, 1, (.c (.bool false)))], none⟩, ⟨none, .st 3 [] (.t 2) (.t 23), none⟩])
 .ret)
 .skip))
 (.seq (.reg false [] [2, 4, 5, 6] [zm 25 5, zf 26 1 1, zl 27 1 26, ⟨some 28, .conv .u64 (.t 27), none⟩, ⟨some 29, .sub64 (.t 25) (.t 28) (.c (.int .u64 0)), none⟩, zm 24 29, zx 30 0 24, zx 31 1 24, zm 5 30, zm 6 31])
 (.seq (.reg false [] [2] [zm 32 4, zm 33 6, zb 34 .sub 32 33, zm 35 5, ⟨some 36, .bld [.int .u64 0, .int .u64 0, .bool false] [(0, 1, (.t 34)), (1, 1, (.t 35)), (2, 1, (.c (.bool true)))], none⟩, ⟨none, .st 3 [] (.t 2) (.t 36), none⟩])
 .ret)))))) }
def N109_wide_minus : NFun := { np := 1, nt := 11, res := [(2, some (3, true))], body :=
 (.seq (.reg false [] [1, 2] [zo 1 0, ⟨some 2, .alc [.int .u64 0, .int .u64 0, .bool false], none⟩])
 (.seq (.reg false [] [2] [zf 3 0 1, zl 4 1 3, zf 5 1 1, zl 6 1 5, zf 7 2 1, zl 8 1 7, zt 9 8, zk 10 113 [(.t 4), (.t 6), (.t 9)], ⟨none, .st 3 [] (.t 2) (.t 10), none⟩])
 .ret)) }
def N110_wide_whole : NFun := { np := 2, nt := 24, res := [(4, none), (5, none)], body :=
 (.seq (.reg false [] [0, 1] [zc 4 (.int .i64 0), zc 5 (.int .i64 0)])
 (.seq (.block 0 (.seq (.reg false [] [0, 1, 6] [zm 7 1, zt 8 7, zm 9 8, zg 9 true (zm 10 0), zg 9 true (zd 11 .leq 10 (.int .u64 9223372036854775807)), ⟨some 12, .pick (.t 9) (.t 11) (.c (.bool false)), none⟩, zm 6 12])
 (.cond (.t 6) (.seq (.reg false [] [4, 5] [zm 13 0, ⟨some 14, .conv .i64 (.t 13), none⟩, zm 4 14, zc 5 (.int .i64 0)])
 .ret)
 (.seq (.reg false [] [0, 15] [zm 16 1, zm 17 16, zg 17 true (zm 18 0), zg 17 true (zd 19 .leq 18 (.int .u64 9223372036854775808)), ⟨some 20, .pick (.t 17) (.t 19) (.c (.bool false)), none⟩, zm 15 20])
 (.cond (.t 15) (.seq (.reg false [] [4, 5] [zm 21 0, ⟨some 22, .un .neg (.t 21), none⟩, ⟨some 23, .conv .i64 (.t 22), none⟩, zm 4 23, zc 5 (.int .i64 0)])
 .ret)
 .skip)))))
 (.seq (.reg false [] [4, 5] [zc 4 (.int .i64 0), zc 5 (.int .i64 5)])
 .ret))) }
def S1 : List UInt8 := [0, 1, 2, 2, 3, 3, 3, 3, 4, 4, 4, 4, 4, 4, 4, 4, 5, 5, 5, 5, 5, 5, 5, 5, 5, 5, 5, 5, 5, 5, 5, 5, 6, 6, 6, 6, 6, 6, 6, 6, 6, 6, 6, 6, 6, 6, 6, 6, 6, 6, 6, 6, 6, 6, 6, 6, 6, 6, 6, 6, 6, 6, 6, 6, 7, 7, 7, 7, 7, 7, 7, 7, 7, 7, 7, 7, 7, 7, 7, 7, 7, 7, 7, 7, 7, 7, 7, 7, 7, 7, 7, 7, 7, 7, 7, 7, 7, 7, 7, 7, 7, 7, 7, 7, 7, 7, 7, 7, 7, 7, 7, 7, 7, 7, 7, 7, 7, 7, 7, 7, 7, 7, 7, 7, 7, 7, 7, 7, 8, 8, 8, 8, 8, 8, 8, 8, 8, 8, 8, 8, 8, 8, 8, 8, 8, 8, 8, 8, 8, 8, 8, 8, 8, 8, 8, 8, 8, 8, 8, 8, 8, 8, 8, 8, 8, 8, 8, 8, 8, 8, 8, 8, 8, 8, 8, 8, 8, 8, 8, 8, 8, 8, 8, 8, 8, 8, 8, 8, 8, 8, 8, 8, 8, 8, 8, 8, 8, 8, 8, 8, 8, 8, 8, 8, 8, 8, 8, 8, 8, 8, 8, 8, 8, 8, 8, 8, 8, 8, 8, 8, 8, 8, 8, 8, 8, 8, 8, 8, 8, 8, 8, 8, 8, 8, 8, 8, 8, 8, 8, 8, 8, 8, 8, 8, 8, 8, 8, 8, 8, 8, 8, 8, 8, 8, 8, 8]
def N111_math_bits_Len64 : NFun := { np := 1, nt := 25, res := [(2, none)], body :=
 (.seq (.reg false [] [0, 2] [zc 2 (.int .i64 0)])
 (.seq (.seq (.reg false [] [0, 2, 4] [zm 3 0, zd 4 .geq 3 (.int .u64 4294967296)])
 (.cond (.t 4) (.seq (.reg false [] [0] [zm 5 0, zd 6 .shr 5 (.int .u64 32), zm 0 6])
 (.reg false [] [0, 2] [zc 2 (.int .i64 32)]))
 .skip))
 (.seq (.seq (.reg false [] [0, 2, 8] [zm 7 0, zd 8 .geq 7 (.int .u64 65536)])
 (.cond (.t 8) (.seq (.reg false [] [0, 2] [zm 9 0, zd 10 .shr 9 (.int .u64 16), zm 0 10])
 (.reg false [] [0, 2] [zm 11 2, zd 12 .add 11 (.int .i64 16), zm 2 12]))
 .skip))
 (.seq (.seq (.reg false [] [0, 2, 14] [zm 13 0, zd 14 .geq 13 (.int .u64 256)])
 (.cond (.t 14) (.seq (.reg false [] [0, 2] [zm 15 0, zd 16 .shr 15 (.int .u64 8), zm 0 16])
 (.reg false [] [0, 2] [zm 17 2, zd 18 .add 17 (.int .i64 8), zm 2 18]))
 .skip))
 (.seq (.reg false [] [2] [zm 19 2, zm 20 0, ⟨some 21, .conv .u8 (.t 20), none⟩, ⟨some 22, .idxS (.c (.str S1)) (.t 21), none⟩, ⟨some 23, .conv .i64 (.t 22), none⟩, zb 24 .add 19 23, zm 2 24])
 .ret))))) }
def N112_wide_size : NFun := { np := 1, nt := 10, res := [(2, none)], body :=
 (.seq (.reg false [] [0] [zc 2 (.int .u64 0)])
 (.seq (.seq (.reg false [] [0, 4] [zm 3 0, zd 4 .lss 3 (.int .i64 0)])
 (.cond (.t 4) (.seq (.reg false [] [2] [zm 5 0, ⟨some 6, .conv .u64 (.t 5), none⟩, ⟨some 7, .un .neg (.t 6), none⟩, zm 2 7])
 .ret)
 .skip))
 (.seq (.reg false [] [2] [zm 8 0, ⟨some 9, .conv .u64 (.t 8), none⟩, zm 2 9])
 .ret))) }
def N113_wide_signed : NFun := { np := 3, nt := 19, res := [(6, some (3, true))], body :=
 (.seq (.reg false [] [0, 1, 2, 6] [⟨some 6, .alc [.int .u64 0, .int .u64 0, .bool false], none⟩])
 (.seq (.reg false [] [6] [zm 7 0, zm 8 1, zm 9 2, zm 10 9, zg 10 true (zm 11 0), zg 10 true (zd 12 .neq 11 (.int .u64 0)), zg 10 true (zm 13 12), zg 13 false (zm 14 1), zg 13 false (zd 15 .neq 14 (.int .u64 0)), zg 10 true (⟨some 16, .pick (.t 13) (.c (.bool true)) (.t 15), none⟩), ⟨some 17, .pick (.t 10) (.t 16) (.c (.bool false)), none⟩, ⟨some 18, .bld [.int .u64 0, .int .u64 0, .bool false] [(0, 1, (.t 7)), (1, 1, (.t 8)), (2, 1, (.t 17))], none⟩, ⟨none, .st 3 [] (.t 6) (.t 18), none⟩])
 .ret)) }
def N164_network_Valid : NFun := { np := 1, nt := 80, res := [(2, none)], body :=
 (.seq (.reg false [] [1] [zo 1 0, zc 2 (.bool false)])
 (.seq (.seq (.reg false [] [1, 17] [zf 8 0 1, zl 9 1 8, zn 10 9, zd 11 .gtr 10 (.int .i64 300), zm 12 11, zg 12 false (zf 13 1 1), zg 12 false (zl 14 1 13), zg 12 false (zn 15 14), zg 12 false (zd 16 .gtr 15 (.int .i64 400)), ⟨some 17, .pick (.t 12) (.c (.bool true)) (.t 16), none⟩])
 (.cond (.t 17) (.seq (.reg false [] [2] [zc 2 (.bool false)])
 .ret)
 .skip))
 (.seq (.seq (.reg false [] [1, 19, 20, 21] [zf 18 0 1, zl 19 1 18, zn 20 19, zc 21 (.int .i64 0)])
 (.block 0 (.loop (.seq (.reg false [] [1, 19, 20, 21, 22] [zb 22 .lss 21 20])
 (.seq (.cond (.t 22) .skip
 (.exit 0))
 (.seq (.block 1 (.seq (.reg false [] [1, 3, 4, 19, 20, 21] [zm 23 21, zi 24 9 19 21, zL 25 9 24, ⟨some 4, .alc [.str [], .int .i64 0, .int .i64 0, .int .i64 0, .int .i64 0, .int .i64 0, .own 2 [], .bool false, .int .i64 0], none⟩, zm 3 23, ⟨none, .st 9 [] (.t 4) (.t 25), none⟩])
 (.seq (.reg false [] [1, 19, 20, 21, 36] [zL 26 9 4, zk 27 168 [(.t 26)], zt 28 27, zm 29 28, zg 29 false (zL 30 2 1), zg 29 false (zf 31 0 4), zg 29 false (zl 32 1 31), zg 29 false (zk 33 169 [(.t 30), (.t 32)]), zg 29 false (zm 34 3), zg 29 false (zb 35 .neq 33 34), ⟨some 36, .pick (.t 29) (.c (.bool true)) (.t 35), none⟩])
 (.cond (.t 36) (.seq (.reg false [] [2] [zc 2 (.bool false)])
 .ret)
 .skip))))
 (.reg false [] [1, 19, 20, 21] [zd 37 .add 21 (.int .i64 1), zm 21 37])))))))
 (.seq (.seq (.reg false [] [1, 39, 40, 41] [zf 38 1 1, zl 39 1 38, zn 40 39, zc 41 (.int .i64 0)])
 (.block 2 (.loop (.seq (.reg false [] [1, 39, 40, 41, 42] [zb 42 .lss 41 40])
 (.seq (.cond (.t 42) .skip
 (.exit 2))
 (.seq (.block 3 (.seq (.reg false [] [1, 5, 6, 39, 40, 41] [zm 43 41, zi 44 11 39 41, zL 45 11 44, ⟨some 6, .alc [.str [], .str [], .str [], .int .i64 0, .int .i64 0, .int .i64 0, .int .i64 0, .str [], .int .i64 0, .int .i64 0, .own 2 []], none⟩, zm 5 43, ⟨none, .st 11 [] (.t 6) (.t 45), none⟩])
 (.seq (.seq (.reg false [] [1, 6, 39, 40, 41, 56] [zL 46 11 6, zk 47 170 [(.t 46)], zt 48 47, zm 49 48, zg 49 false (zL 50 2 1), zg 49 false (zf 51 0 6), zg 49 false (zl 52 1 51), zg 49 false (zk 53 171 [(.t 50), (.t 52)]), zg 49 false (zm 54 5), zg 49 false (zb 55 .neq 53 54), ⟨some 56, .pick (.t 49) (.c (.bool true)) (.t 55), none⟩])
 (.cond (.t 56) (.seq (.reg false [] [2] [zc 2 (.bool false)])
 .ret)
 .skip))
 (.seq (.reg false [] [1, 6, 7, 39, 40, 41] [zL 57 2 1, zf 58 1 6, zl 59 1 58, zk 60 169 [(.t 57), (.t 59)], zm 7 60])
 (.seq (.reg false [] [1, 39, 40, 41, 78] [zm 61 7, zd 62 .lss 61 (.int .i64 0), zm 63 62, zg 63 false (zL 64 2 1), zg 63 false (zf 65 2 6), zg 63 false (zl 66 1 65), zg 63 false (zk 67 169 [(.t 64), (.t 66)]), zg 63 false (zd 68 .lss 67 (.int .i64 0)), ⟨some 69, .pick (.t 63) (.c (.bool true)) (.t 68), none⟩, zm 70 69, zg 70 false (zf 71 0 1), zg 70 false (zl 72 1 71), zg 70 false (zm 73 7), zg 70 false (zi 74 9 72 73), zg 70 false (zf 75 1 74), zg 70 false (zl 76 1 75), zg 70 false (zd 77 .eql 76 (.int .i64 3)), ⟨some 78, .pick (.t 70) (.c (.bool true)) (.t 77), none⟩])
 (.cond (.t 78) (.seq (.reg false [] [2] [zc 2 (.bool false)])
 .ret)
 .skip))))))
 (.reg false [] [1, 39, 40, 41] [zd 79 .add 41 (.int .i64 1), zm 41 79])))))))
 (.seq (.reg false [] [2] [zc 2 (.bool true)])
 .ret))))) }
def N168_network_rightNode : NFun := { np := 1, nt := 101, res := [(2, none)], body :=
 (.seq (.reg false [] [1] [zo 1 0, zc 2 (.bool false)])
 (.seq (.seq (.reg false [] [1, 29] [zf 3 0 1, zl 4 1 3, zk 5 58 [(.t 4)], zt 6 5, zm 7 6, zg 7 false (zf 8 2 1), zg 7 false (zf 9 0 8), zg 7 false (zl 10 1 9), zg 7 false (zk 11 172 [(.t 10), (.c (.int .i64 (-16777216))), (.c (.int .i64 16777216))]), zg 7 false (zt 12 11), ⟨some 13, .pick (.t 7) (.c (.bool true)) (.t 12), none⟩, zm 14 13, zg 14 false (zf 15 2 1), zg 14 false (zf 16 1 15), zg 14 false (zl 17 1 16), zg 14 false (zk 18 172 [(.t 17), (.c (.int .i64 (-16777216))), (.c (.int .i64 16777216))]), zg 14 false (zt 19 18), ⟨some 20, .pick (.t 14) (.c (.bool true)) (.t 19), none⟩, zm 21 20, zg 21 false (zf 22 4 1), zg 21 false (zl 23 1 22), zg 21 false (zf 24 5 1), zg 21 false (zl 25 1 24), zg 21 false (⟨some 26, .bls 1 2 [.int .i64 0] [] [(0, (.t 23)), (1, (.t 25))], none⟩), zg 21 false (zk 27 173 [(.t 26)]), zg 21 false (zt 28 27), ⟨some 29, .pick (.t 21) (.c (.bool true)) (.t 28), none⟩])
 (.cond (.t 29) (.seq (.reg false [] [2] [zc 2 (.bool false)])
 .ret)
 .skip))
 (.seq (.seq (.reg false [] [1, 31] [zf 30 1 1, zl 31 1 30])
 (.block 0 (.seq (.seq (.reg false [] [1, 31, 32] [zd 33 .eql 31 (.int .i64 1), zm 32 33])
 (.cond (.t 32) .skip
 (.reg false [] [1, 31, 32] [zd 34 .eql 31 (.int .i64 2), zm 32 34])))
 (.cond (.t 32) (.seq (.seq (.reg false [] [1, 59] [zf 35 5 1, zl 36 1 35, zf 37 4 1, zl 38 1 37, zb 39 .leq 36 38, zm 40 39, zg 40 false (zf 41 6 1), zg 40 false (zl 42 1 41), zg 40 false (zf 43 5 1), zg 40 false (zl 44 1 43), zg 40 false (zf 45 4 1), zg 40 false (zl 46 1 45), zg 40 false (zb 47 .sub 44 46), zg 40 false (zk 48 174 [(.t 42), (.t 47)]), zg 40 false (zt 49 48), ⟨some 50, .pick (.t 40) (.c (.bool true)) (.t 49), none⟩, zm 51 50, zg 51 false (zf 52 1 1), zg 51 false (zl 53 1 52), zg 51 false (zd 54 .eql 53 (.int .i64 1)), zg 51 false (zm 55 54), zg 55 true (zf 56 7 1), zg 55 true (zl 57 1 56), zg 51 false (⟨some 58, .pick (.t 55) (.t 57) (.c (.bool false)), none⟩), ⟨some 59, .pick (.t 51) (.c (.bool true)) (.t 58), none⟩])
 (.cond (.t 59) (.seq (.reg false [] [2] [zc 2 (.bool false)])
 .ret)
 .skip))
 (.seq (.seq (.reg false [] [1, 62] [zf 60 7 1, zl 61 1 60, zt 62 61])
 (.cond (.t 62) (.seq (.reg false [] [2] [zf 63 8 1, zl 64 1 63, zd 65 .eql 64 (.int .i64 0), zm 2 65])
 .ret)
 .skip))
 (.seq (.reg true [0, 1, 0, 4, 0, 16, 48, 112, 252, 508, 1020, 2047, 4095] [2] [zf 66 8 1, zl 67 1 66, zf 68 6 1, zl 69 1 68, zf 70 6 1, zl 71 1 70, zn 72 71, zd 73 .sub 72 (.int .i64 1), zi 74 2 69 73, zf 75 1 74, zl 76 1 75, zk 77 172 [(.t 67), (.c (.int .i64 0)), (.t 76)], zm 2 77])
 .ret)))
 (.seq (.reg false [] [1, 78] [zd 79 .eql 31 (.int .i64 3), zm 78 79])
 (.cond (.t 78) (.seq (.reg false [] [2] [zf 80 5 1, zl 81 1 80, zf 82 4 1, zl 83 1 82, zb 84 .geq 81 83, zm 85 84, zg 85 true (zf 86 6 1), zg 85 true (zl 87 1 86), zg 85 true (zn 88 87), zg 85 true (zd 89 .eql 88 (.int .i64 0)), ⟨some 90, .pick (.t 85) (.t 89) (.c (.bool false)), none⟩, zm 91 90, zg 91 true (zf 92 7 1), zg 91 true (zl 93 1 92), zg 91 true (zt 94 93), ⟨some 95, .pick (.t 91) (.t 94) (.c (.bool false)), none⟩, zm 96 95, zg 96 true (zf 97 8 1), zg 96 true (zl 98 1 97), zg 96 true (zd 99 .eql 98 (.int .i64 0)), ⟨some 100, .pick (.t 96) (.t 99) (.c (.bool false)), none⟩, zm 2 100])
 .ret)
 .skip))))))
 (.seq (.reg false [] [2] [zc 2 (.bool false)])
 .ret)))) }
def N169_network_node : NFun := { np := 2, nt := 9, res := [(4, none)], body :=
 (.seq (.reg false [] [2, 3] [zo 2 0, zo 3 1, zc 4 (.int .i64 0)])
 (.seq (.reg false [] [4] [zf 5 0 2, zl 6 1 5, ⟨some 7, .mk 176 [(.t 3)], none⟩, zk 8 175 [(.t 6), (.t 7)], zm 4 8])
 .ret)) }
def N170_network_rightLink : NFun := { np := 1, nt := 97, res := [(2, none)], body :=
 (.seq (.reg false [] [1] [zo 1 0, zc 2 (.bool false)])
 (.seq (.seq (.reg true [0, 1, 3, 7, 15, 31, 63, 127, 255, 511, 1023, 2047, 4095, 8191, 16383, 32767, 65535, 131071, 262143, 131071, 655359, 2097151, 4194303, 8388607, 16777215, 33554431, 67108863, 134217727, 268435455, 536870911, 1073741823, 2147483647, 2147483647, 6442450943, 17179869183, 34359738367, 68719476735] [1, 39] [zf 3 0 1, zl 4 1 3, zk 5 58 [(.t 4)], zt 6 5, zm 7 6, zg 7 false (zf 8 1 1), zg 7 false (zl 9 1 8), zg 7 false (zk 10 58 [(.t 9)]), zg 7 false (zt 11 10), ⟨some 12, .pick (.t 7) (.c (.bool true)) (.t 11), none⟩, zm 13 12, zg 13 false (zf 14 2 1), zg 13 false (zl 15 1 14), zg 13 false (zk 16 58 [(.t 15)]), zg 13 false (zt 17 16), ⟨some 18, .pick (.t 13) (.c (.bool true)) (.t 17), none⟩, zm 19 18, zg 19 false (zf 20 1 1), zg 19 false (zl 21 1 20), zg 19 false (zf 22 2 1), zg 19 false (zl 23 1 22), zg 19 false (zb 24 .eql 21 23), ⟨some 25, .pick (.t 19) (.c (.bool true)) (.t 24), none⟩, zm 26 25, zg 26 false (zf 27 5 1), zg 26 false (zl 28 1 27), zg 26 false (⟨some 29, .bls 1 1 [.int .i64 0] [] [(0, (.t 28))], none⟩), zg 26 false (zk 30 173 [(.t 29)]), zg 26 false (zt 31 30), ⟨some 32, .pick (.t 26) (.c (.bool true)) (.t 31), none⟩, zm 33 32, zg 33 false (zL 34 11 1), zg 33 false (zL 35 11 1), zg 33 false (zk 36 178 [(.t 35)]), zg 33 false (zk 37 177 [(.t 34), (.t 36)]), zg 33 false (zt 38 37), ⟨some 39, .pick (.t 33) (.c (.bool true)) (.t 38), none⟩])
 (.cond (.t 39) (.seq (.reg false [] [2] [zc 2 (.bool false)])
 .ret)
 .skip))
 (.seq (.seq (.reg false [] [1, 41] [zf 40 3 1, zl 41 1 40])
 (.block 0 (.seq (.reg false [] [1, 41, 42] [zd 43 .eql 41 (.int .i64 1), zm 42 43])
 (.cond (.t 42) (.seq (.reg false [] [2] [zf 44 4 1, zl 45 1 44, zk 46 172 [(.t 45), (.c (.int .i64 1)), (.c (.int .i64 16777216))], zm 47 46, zg 47 true (zf 48 6 1), zg 47 true (zl 49 1 48), zg 47 true (⟨some 50, .bls 1 1 [.int .i64 0] [] [(0, (.t 49))], none⟩), zg 47 true (zk 51 173 [(.t 50)]), ⟨some 52, .pick (.t 47) (.t 51) (.c (.bool false)), none⟩, zm 53 52, zg 53 true (zf 54 7 1), zg 53 true (zl 55 1 54), zg 53 true (zk 56 58 [(.t 55)]), ⟨some 57, .pick (.t 53) (.t 56) (.c (.bool false)), none⟩, zm 2 57])
 .ret)
 (.seq (.reg false [] [1, 41, 58] [zd 59 .eql 41 (.int .i64 2), zm 58 59])
 (.cond (.t 58) (.seq (.reg false [] [2] [zf 60 8 1, zl 61 1 60, zk 62 172 [(.t 61), (.c (.int .i64 1)), (.c (.int .i64 1048576))], zm 2 62])
 .ret)
 (.seq (.reg false [] [1, 41, 63] [zd 64 .eql 41 (.int .i64 3), zm 63 64])
 (.cond (.t 63) (.seq (.reg false [] [2] [zf 65 8 1, zl 66 1 65, zk 67 172 [(.t 66), (.c (.int .i64 1)), (.c (.int .i64 32768))], zm 68 67, zg 68 true (zf 69 9 1), zg 68 true (zl 70 1 69), zg 68 true (zk 71 172 [(.t 70), (.c (.int .i64 1)), (.c (.int .i64 32768))]), ⟨some 72, .pick (.t 68) (.t 71) (.c (.bool false)), none⟩, zm 2 72])
 .ret)
 (.seq (.reg false [] [1, 73] [zd 74 .eql 41 (.int .i64 4), zm 73 74])
 (.cond (.t 73) (.seq (.reg false [] [2] [zf 75 6 1, zl 76 1 75, ⟨some 77, .bls 1 1 [.int .i64 0] [] [(0, (.t 76))], none⟩, zk 78 173 [(.t 77)], zm 79 78, zg 79 true (zf 80 6 1), zg 79 true (zl 81 1 80), zg 79 true (zf 82 5 1), zg 79 true (zl 83 1 82), zg 79 true (zb 84 .lss 81 83), ⟨some 85, .pick (.t 79) (.t 84) (.c (.bool false)), none⟩, zm 86 85, zg 86 true (zf 87 10 1), zg 86 true (zl 88 1 87), zg 86 true (zk 89 72 [(.t 88)]), ⟨some 90, .pick (.t 86) (.t 89) (.c (.bool false)), none⟩, zm 91 90, zg 91 true (zf 92 10 1), zg 91 true (zl 93 1 92), zg 91 true (⟨some 94, .call 179 [(.t 93), (.c (.fn 180 []))] [], none⟩), zg 91 true (zt 95 94), ⟨some 96, .pick (.t 91) (.t 95) (.c (.bool false)), none⟩, zm 2 96])
 .ret)
 .skip))))))))))
 (.seq (.reg false [] [2] [zc 2 (.bool false)])
 .ret)))) }
def N171_network_link : NFun := { np := 2, nt := 9, res := [(4, none)], body :=
 (.seq (.reg false [] [2, 3] [zo 2 0, zo 3 1, zc 4 (.int .i64 0)])
 (.seq (.reg false [] [4] [zf 5 1 2, zl 6 1 5, ⟨some 7, .mk 182 [(.t 3)], none⟩, zk 8 181 [(.t 6), (.t 7)], zm 4 8])
 .ret)) }
def N172_network_between : NFun := { np := 3, nt := 15, res := [(6, none)], body :=
 (.seq (.reg false [] [0, 1, 2] [zc 6 (.bool false)])
 (.seq (.reg false [] [6] [zm 7 0, zm 8 1, zb 9 .geq 7 8, zm 10 9, zg 10 true (zm 11 0), zg 10 true (zm 12 2), zg 10 true (zb 13 .leq 11 12), ⟨some 14, .pick (.t 10) (.t 13) (.c (.bool false)), none⟩, zm 6 14])
 .ret)) }
def N173_network_level : NFun := { np := 1, nt := 6, res := [(2, none)], body :=
 (.seq (.reg false [] [0] [zc 2 (.bool false)])
 (.seq (.reg false [] [2] [zq 3 0, ⟨some 4, .call 11 [(.t 3), (.c (.fn 183 []))] [], none⟩, zt 5 4, zm 2 5])
 .ret)) }
def N174_network_shaped : NFun := { np := 2, nt := 31, res := [(4, none)], body :=
 (.seq (.reg false [] [0, 1] [zc 4 (.bool false)])
 (.seq (.seq (.reg false [] [0, 1, 8] [zm 6 0, zk 7 72 [(.t 6)], zt 8 7])
 (.cond (.t 8) (.seq (.reg false [] [4] [zc 4 (.bool false)])
 .ret)
 .skip))
 (.seq (.reg false [] [0, 1, 5] [zm 9 0, zm 10 0, zn 11 10, zd 12 .sub 11 (.int .i64 1), zi 13 2 9 12, zL 14 2 13, ⟨some 5, .alc [.int .i64 0, .int .i64 0], none⟩, ⟨none, .st 2 [] (.t 5) (.t 14), none⟩])
 (.seq (.reg false [] [4] [zq 15 0, ⟨some 16, .iadS 2 (.t 15) (.c (.int .i64 0)), none⟩, zL 17 2 16, ⟨some 18, .bld [.int .i64 0, .int .i64 0] [], none⟩, ⟨some 19, .beq false [0, 0] (.t 17) (.t 18), none⟩, zm 20 19, zg 20 true (zf 21 0 5), zg 20 true (zl 22 1 21), zg 20 true (zm 23 1), zg 20 true (zb 24 .eql 22 23), ⟨some 25, .pick (.t 20) (.t 24) (.c (.bool false)), none⟩, zm 26 25, zg 26 true (zf 27 1 5), zg 26 true (zl 28 1 27), zg 26 true (zd 29 .leq 28 (.int .i64 1125899906842624)), ⟨some 30, .pick (.t 26) (.t 29) (.c (.bool false)), none⟩, zm 4 30])
 .ret)))) }
def N175_slices_IndexFunc__api_Node_api_Node : NFun := { np := 2, nt := 19, res := [(4, none)], body :=
 (.seq (.reg false [] [0, 1] [zc 4 (.int .i64 0)])
 (.seq (.seq (.reg false [] [0, 1, 7, 8] [zm 6 0, zn 7 6, zc 8 (.int .i64 0)])
 (.block 0 (.loop (.seq (.reg false [] [0, 1, 7, 8, 9] [zb 9 .lss 8 7])
 (.seq (.cond (.t 9) .skip
 (.exit 0))
 (.seq (.block 1 (.seq (.reg false [] [0, 1, 5, 7, 8] [zm 10 8, zm 5 10])
 (.seq (.reg false [] [0, 1, 5, 7, 8, 16] [zm 11 1, zm 12 0, zm 13 5, zi 14 9 12 13, zL 15 9 14, ⟨some 16, .callv (.t 11) [(.t 15)], none⟩])
 (.cond (.t 16) (.seq (.reg false [] [4] [zm 17 5, zm 4 17])
 .ret)
 .skip))))
 (.reg false [] [0, 1, 7, 8] [zd 18 .add 8 (.int .i64 1), zm 8 18])))))))
 (.seq (.reg false [] [4] [⟨some 4, .mov (.c (.int .i64 (-1))), none⟩])
 .ret))) }
def N176_network_node_1 : NFun := { np := 2, nt := 8, res := [(3, none)], body :=
 (.seq (.reg false [] [1, 2] [zo 2 0, zc 3 (.bool false)])
 (.seq (.reg false [] [3] [zf 4 0 2, zl 5 1 4, zl 6 1 1, zb 7 .eql 5 6, zm 3 7])
 .ret)) }
def N177_network_sameLink : NFun := { np := 2, nt := 80, res := [(4, none)], body :=
 (.seq (.reg false [] [2, 3] [zo 2 0, zo 3 1, zc 4 (.bool false)])
 (.seq (.reg false [] [4] [zf 5 0 2, zl 6 1 5, zf 7 0 3, zl 8 1 7, zb 9 .eql 6 8, zm 10 9, zg 10 true (zf 11 1 2), zg 10 true (zl 12 1 11), zg 10 true (zf 13 1 3), zg 10 true (zl 14 1 13), zg 10 true (zb 15 .eql 12 14), ⟨some 16, .pick (.t 10) (.t 15) (.c (.bool false)), none⟩, zm 17 16, zg 17 true (zf 18 2 2), zg 17 true (zl 19 1 18), zg 17 true (zf 20 2 3), zg 17 true (zl 21 1 20), zg 17 true (zb 22 .eql 19 21), ⟨some 23, .pick (.t 17) (.t 22) (.c (.bool false)), none⟩, zm 24 23, zg 24 true (zf 25 3 2), zg 24 true (zl 26 1 25), zg 24 true (zf 27 3 3), zg 24 true (zl 28 1 27), zg 24 true (zb 29 .eql 26 28), ⟨some 30, .pick (.t 24) (.t 29) (.c (.bool false)), none⟩, zm 31 30, zg 31 true (zf 32 4 2), zg 31 true (zl 33 1 32), zg 31 true (zf 34 4 3), zg 31 true (zl 35 1 34), zg 31 true (zb 36 .eql 33 35), ⟨some 37, .pick (.t 31) (.t 36) (.c (.bool false)), none⟩, zm 38 37, zg 38 true (zf 39 5 2), zg 38 true (zl 40 1 39), zg 38 true (zf 41 5 3), zg 38 true (zl 42 1 41), zg 38 true (zb 43 .eql 40 42), ⟨some 44, .pick (.t 38) (.t 43) (.c (.bool false)), none⟩, zm 45 44, zg 45 true (zf 46 6 2), zg 45 true (zl 47 1 46), zg 45 true (zf 48 6 3), zg 45 true (zl 49 1 48), zg 45 true (zb 50 .eql 47 49), ⟨some 51, .pick (.t 45) (.t 50) (.c (.bool false)), none⟩, zm 52 51, zg 52 true (zf 53 7 2), zg 52 true (zl 54 1 53), zg 52 true (zf 55 7 3), zg 52 true (zl 56 1 55), zg 52 true (zb 57 .eql 54 56), ⟨some 58, .pick (.t 52) (.t 57) (.c (.bool false)), none⟩, zm 59 58, zg 59 true (zf 60 8 2), zg 59 true (zl 61 1 60), zg 59 true (zf 62 8 3), zg 59 true (zl 63 1 62), zg 59 true (zb 64 .eql 61 63), ⟨some 65, .pick (.t 59) (.t 64) (.c (.bool false)), none⟩, zm 66 65, zg 66 true (zf 67 9 2), zg 66 true (zl 68 1 67), zg 66 true (zf 69 9 3), zg 66 true (zl 70 1 69), zg 66 true (zb 71 .eql 68 70), ⟨some 72, .pick (.t 66) (.t 71) (.c (.bool false)), none⟩, zm 73 72, zg 73 true (zf 74 10 2), zg 73 true (zl 75 1 74), zg 73 true (zf 76 10 3), zg 73 true (zl 77 1 76), zg 73 true (zk 78 184 [(.t 75), (.t 77)]), ⟨some 79, .pick (.t 73) (.t 78) (.c (.bool false)), none⟩, zm 4 79])
 .ret)) }
def N178_network_plain : NFun := { np := 1, nt := 50, res := [(2, some (11, true))], body :=
 (.seq (.reg false [] [1, 2] [zo 1 0, ⟨some 2, .alc [.str [], .str [], .str [], .int .i64 0, .int .i64 0, .int .i64 0, .int .i64 0, .str [], .int .i64 0, .int .i64 0, .own 2 []], none⟩])
 (.seq (.reg false [] [1, 2, 3] [zf 4 0 1, zl 5 1 4, zf 6 1 1, zl 7 1 6, zf 8 2 1, zl 9 1 8, zf 10 3 1, zl 11 1 10, zf 12 5 1, zl 13 1 12, ⟨some 14, .bld [.str [], .str [], .str [], .int .i64 0, .int .i64 0, .int .i64 0, .int .i64 0, .str [], .int .i64 0, .int .i64 0, .nils] [(0, 1, (.t 5)), (1, 1, (.t 7)), (2, 1, (.t 9)), (3, 1, (.t 11)), (5, 1, (.t 13))], none⟩, ⟨some 3, .alc [.str [], .str [], .str [], .int .i64 0, .int .i64 0, .int .i64 0, .int .i64 0, .str [], .int .i64 0, .int .i64 0, .own 2 []], none⟩, ⟨none, .st 11 [] (.t 3) (.t 14), none⟩])
 (.seq (.seq (.reg false [] [1, 2, 3, 16] [zf 15 3 1, zl 16 1 15])
 (.block 0 (.seq (.reg false [] [1, 2, 3, 16, 17] [zd 18 .eql 16 (.int .i64 1), zm 17 18])
 (.cond (.t 17) (.reg true [0, 1, 0, 4, 0, 16, 3, 67, 207, 463, 1023, 2047] [2, 3] [zf 19 4 1, zl 20 1 19, zf 21 6 1, zl 22 1 21, zf 23 7 1, zl 24 1 23, zf 25 4 3, ⟨none, .st 1 [] (.t 25) (.t 20), none⟩, zf 26 6 3, ⟨none, .st 1 [] (.t 26) (.t 22), none⟩, zf 27 7 3, ⟨none, .st 1 [] (.t 27) (.t 24), none⟩])
 (.seq (.reg false [] [1, 2, 3, 16, 28] [zd 29 .eql 16 (.int .i64 2), zm 28 29])
 (.cond (.t 28) (.reg false [] [2, 3] [zf 30 8 1, zl 31 1 30, zf 32 8 3, ⟨none, .st 1 [] (.t 32) (.t 31), none⟩])
 (.seq (.reg false [] [1, 2, 3, 16, 33] [zd 34 .eql 16 (.int .i64 3), zm 33 34])
 (.cond (.t 33) (.reg true [0, 1, 0, 4, 3, 19, 63, 127] [2, 3] [zf 35 8 1, zl 36 1 35, zf 37 9 1, zl 38 1 37, zf 39 8 3, ⟨none, .st 1 [] (.t 39) (.t 36), none⟩, zf 40 9 3, ⟨none, .st 1 [] (.t 40) (.t 38), none⟩])
 (.seq (.reg false [] [1, 2, 3, 41] [zd 42 .eql 16 (.int .i64 4), zm 41 42])
 (.cond (.t 41) (.reg true [0, 1, 0, 4, 3, 19, 63, 127] [2, 3] [zf 43 6 1, zl 44 1 43, zf 45 10 1, zl 46 1 45, zf 47 6 3, ⟨none, .st 1 [] (.t 47) (.t 44), none⟩, zf 48 10 3, ⟨none, .st 1 [] (.t 48) (.t 46), none⟩])
 .skip))))))))))
 (.seq (.reg false [] [2] [zL 49 11 3, ⟨none, .st 11 [] (.t 2) (.t 49), none⟩])
 .ret)))) }
def N179_slices_ContainsFunc_api_Table_api_Knot : NFun := { np := 2, nt := 9, res := [(4, none)], body :=
 (.seq (.reg false [] [0, 1] [zc 4 (.bool false)])
 (.seq (.reg false [] [4] [zq 5 0, zm 6 1, zk 7 185 [(.t 5), (.t 6)], zd 8 .geq 7 (.int .i64 0), zm 4 8])
 .ret)) }
def N180_network_rightLink_1 : NFun := { np := 1, nt := 13, res := [(2, none)], body :=
 (.seq (.reg false [] [1] [zo 1 0, zc 2 (.bool false)])
 (.seq (.reg false [] [2] [zf 3 0 1, zl 4 1 3, zk 5 172 [(.t 4), (.c (.int .i64 0)), (.c (.int .i64 4194304))], zt 6 5, zm 7 6, zg 7 false (zf 8 1 1), zg 7 false (zl 9 1 8), zg 7 false (zk 10 172 [(.t 9), (.c (.int .i64 0)), (.c (.int .i64 1099511627776))]), zg 7 false (zt 11 10), ⟨some 12, .pick (.t 7) (.c (.bool true)) (.t 11), none⟩, zm 2 12])
 .ret)) }
def N181_slices_IndexFunc__api_Link_api_Link : NFun := { np := 2, nt := 19, res := [(4, none)], body :=
 (.seq (.reg false [] [0, 1] [zc 4 (.int .i64 0)])
 (.seq (.seq (.reg false [] [0, 1, 7, 8] [zm 6 0, zn 7 6, zc 8 (.int .i64 0)])
 (.block 0 (.loop (.seq (.reg false [] [0, 1, 7, 8, 9] [zb 9 .lss 8 7])
 (.seq (.cond (.t 9) .skip
 (.exit 0))
 (.seq (.block 1 (.seq (.reg false [] [0, 1, 5, 7, 8] [zm 10 8, zm 5 10])
 (.seq (.reg false [] [0, 1, 5, 7, 8, 16] [zm 11 1, zm 12 0, zm 13 5, zi 14 11 12 13, zL 15 11 14, ⟨some 16, .callv (.t 11) [(.t 15)], none⟩])
 (.cond (.t 16) (.seq (.reg false [] [4] [zm 17 5, zm 4 17])
 .ret)
 .skip))))
 (.reg false [] [0, 1, 7, 8] [zd 18 .add 8 (.int .i64 1), zm 8 18])))))))
 (.seq (.reg false [] [4] [⟨some 4, .mov (.c (.int .i64 (-1))), none⟩])
 .ret))) }
def N182_network_link_1 : NFun := { np := 2, nt := 8, res := [(3, none)], body :=
 (.seq (.reg false [] [1, 2] [zo 2 0, zc 3 (.bool false)])
 (.seq (.reg false [] [3] [zf 4 0 2, zl 5 1 4, zl 6 1 1, zb 7 .eql 5 6, zm 3 7])
 .ret)) }
def N183_network_level_1 : NFun := { np := 1, nt := 9, res := [(2, none)], body :=
 (.seq (.reg false [] [0] [zc 2 (.bool false)])
 (.seq (.reg false [] [2] [zm 3 0, ⟨some 4, .bin .lss (.t 3) (.c (.int .i64 (-4194304))), none⟩, zm 5 4, zg 5 false (zm 6 0), zg 5 false (zd 7 .gtr 6 (.int .i64 4194304)), ⟨some 8, .pick (.t 5) (.c (.bool true)) (.t 7), none⟩, zm 2 8])
 .ret)) }
def N184_slices_Equal_api_Table_api_Knot : NFun := { np := 2, nt := 26, res := [(4, none)], body :=
 (.seq (.reg false [] [0, 1] [zc 4 (.bool false)])
 (.seq (.seq (.reg false [] [0, 1, 10] [zm 6 0, zn 7 6, zm 8 1, zn 9 8, zb 10 .neq 7 9])
 (.cond (.t 10) (.seq (.reg false [] [4] [zc 4 (.bool false)])
 .ret)
 .skip))
 (.seq (.seq (.reg false [] [0, 1, 12, 13] [zm 11 0, zn 12 11, zc 13 (.int .i64 0)])
 (.block 0 (.loop (.seq (.reg false [] [0, 1, 12, 13, 14] [zb 14 .lss 13 12])
 (.seq (.cond (.t 14) .skip
 (.exit 0))
 (.seq (.block 1 (.seq (.reg false [] [0, 1, 5, 12, 13] [zm 15 13, zm 5 15])
 (.seq (.reg true [0, 0, 3, 7, 0, 0, 48, 112, 255] [0, 1, 12, 13, 24] [zm 16 0, zm 17 5, zi 18 2 16 17, zL 19 2 18, zm 20 1, zm 21 5, zi 22 2 20 21, zL 23 2 22, ⟨some 24, .beq true [0, 0] (.t 19) (.t 23), none⟩])
 (.cond (.t 24) (.seq (.reg false [] [4] [zc 4 (.bool false)])
 .ret)
 .skip))))
 (.reg false [] [0, 1, 12, 13] [zd 25 .add 13 (.int .i64 1), zm 13 25])))))))
 (.seq (.reg false [] [4] [zc 4 (.bool true)])
 .ret)))) }
def N185_slices_IndexFunc_api_Table_api_Knot : NFun := { np := 2, nt := 19, res := [(4, none)], body :=
 (.seq (.reg false [] [0, 1] [zc 4 (.int .i64 0)])
 (.seq (.seq (.reg false [] [0, 1, 7, 8] [zm 6 0, zn 7 6, zc 8 (.int .i64 0)])
 (.block 0 (.loop (.seq (.reg false [] [0, 1, 7, 8, 9] [zb 9 .lss 8 7])
 (.seq (.cond (.t 9) .skip
 (.exit 0))
 (.seq (.block 1 (.seq (.reg false [] [0, 1, 5, 7, 8] [zm 10 8, zm 5 10])
 (.seq (.reg false [] [0, 1, 5, 7, 8, 16] [zm 11 1, zm 12 0, zm 13 5, zi 14 2 12 13, zL 15 2 14, ⟨some 16, .callv (.t 11) [(.t 15)], none⟩])
 (.cond (.t 16) (.seq (.reg false [] [4] [zm 17 5, zm 4 17])
 .ret)
 .skip))))
 (.reg false [] [0, 1, 7, 8] [zd 18 .add 8 (.int .i64 1), zm 8 18])))))))
 (.seq (.reg false [] [4] [⟨some 4, .mov (.c (.int .i64 (-1))), none⟩])
 .ret))) }
def N194_ref26_RightLink : NFun := { np := 1, nt := 160, res := [(2, none)], body :=
 (.seq (.reg false [] [1] [zo 1 0, zc 2 (.bool false)])
 (.seq (.seq (.reg false [] [1, 37] [zf 3 0 1, zl 4 1 3, zk 5 54 [(.t 4)], zt 6 5, zm 7 6, zg 7 false (zf 8 1 1), zg 7 false (zl 9 1 8), zg 7 false (zk 10 54 [(.t 9)]), zg 7 false (zt 11 10), ⟨some 12, .pick (.t 7) (.c (.bool true)) (.t 11), none⟩, zm 13 12, zg 13 false (zf 14 2 1), zg 13 false (zl 15 1 14), zg 13 false (zk 16 54 [(.t 15)]), zg 13 false (zt 17 16), ⟨some 18, .pick (.t 13) (.c (.bool true)) (.t 17), none⟩, zm 19 18, zg 19 false (zf 20 1 1), zg 19 false (zl 21 1 20), zg 19 false (zf 22 2 1), zg 19 false (zl 23 1 22), zg 19 false (zb 24 .eql 21 23), ⟨some 25, .pick (.t 19) (.c (.bool true)) (.t 24), none⟩, zm 26 25, zg 26 false (zf 27 5 1), zg 26 false (zl 28 1 27), zg 26 false (zk 29 199 [(.t 28)]), zg 26 false (zt 30 29), ⟨some 31, .pick (.t 26) (.c (.bool true)) (.t 30), none⟩, zm 32 31, zg 32 false (zf 33 6 1), zg 32 false (zl 34 1 33), zg 32 false (zk 35 199 [(.t 34)]), zg 32 false (zt 36 35), ⟨some 37, .pick (.t 32) (.c (.bool true)) (.t 36), none⟩])
 (.cond (.t 37) (.seq (.reg false [] [2] [zc 2 (.bool false)])
 .ret)
 .skip))
 (.seq (.seq (.reg false [] [1, 39] [zf 38 3 1, zl 39 1 38])
 (.block 0 (.seq (.reg false [] [1, 39, 40] [zd 41 .eql 39 (.int .i64 1), zm 40 41])
 (.cond (.t 40) (.seq (.reg false [] [2] [zf 42 4 1, zl 43 1 42, zk 44 200 [(.t 43), (.c (.int .i64 16777216))], zm 45 44, zg 45 true (zf 46 7 1), zg 45 true (zl 47 1 46), zg 45 true (zk 48 54 [(.t 47)]), ⟨some 49, .pick (.t 45) (.t 48) (.c (.bool false)), none⟩, zm 50 49, zg 50 true (zf 51 8 1), zg 50 true (zl 52 1 51), zg 50 true (zd 53 .eql 52 (.int .i64 0)), ⟨some 54, .pick (.t 50) (.t 53) (.c (.bool false)), none⟩, zm 55 54, zg 55 true (zf 56 9 1), zg 55 true (zl 57 1 56), zg 55 true (zd 58 .eql 57 (.int .i64 0)), ⟨some 59, .pick (.t 55) (.t 58) (.c (.bool false)), none⟩, zm 60 59, zg 60 true (zf 61 10 1), zg 60 true (zl 62 1 61), zg 60 true (zn 63 62), zg 60 true (zd 64 .eql 63 (.int .i64 0)), ⟨some 65, .pick (.t 60) (.t 64) (.c (.bool false)), none⟩, zm 2 65])
 .ret)
 (.seq (.reg false [] [1, 39, 66] [zd 67 .eql 39 (.int .i64 2), zm 66 67])
 (.cond (.t 66) (.seq (.reg false [] [2] [zf 68 4 1, zl 69 1 68, zd 70 .eql 69 (.int .i64 0), zm 71 70, zg 71 true (zf 72 6 1), zg 71 true (zl 73 1 72), zg 71 true (zd 74 .eql 73 (.int .i64 0)), ⟨some 75, .pick (.t 71) (.t 74) (.c (.bool false)), none⟩, zm 76 75, zg 76 true (zf 77 7 1), zg 76 true (zl 78 1 77), zg 76 true (zd 79 .eql 78 (.str [])), ⟨some 80, .pick (.t 76) (.t 79) (.c (.bool false)), none⟩, zm 81 80, zg 81 true (zf 82 8 1), zg 81 true (zl 83 1 82), zg 81 true (zk 84 200 [(.t 83), (.c (.int .i64 1048576))]), ⟨some 85, .pick (.t 81) (.t 84) (.c (.bool false)), none⟩, zm 86 85, zg 86 true (zf 87 9 1), zg 86 true (zl 88 1 87), zg 86 true (zd 89 .eql 88 (.int .i64 0)), ⟨some 90, .pick (.t 86) (.t 89) (.c (.bool false)), none⟩, zm 91 90, zg 91 true (zf 92 10 1), zg 91 true (zl 93 1 92), zg 91 true (zn 94 93), zg 91 true (zd 95 .eql 94 (.int .i64 0)), ⟨some 96, .pick (.t 91) (.t 95) (.c (.bool false)), none⟩, zm 2 96])
 .ret)
 (.seq (.reg false [] [1, 39, 97] [zd 98 .eql 39 (.int .i64 3), zm 97 98])
 (.cond (.t 97) (.seq (.reg false [] [2] [zf 99 4 1, zl 100 1 99, zd 101 .eql 100 (.int .i64 0), zm 102 101, zg 102 true (zf 103 6 1), zg 102 true (zl 104 1 103), zg 102 true (zd 105 .eql 104 (.int .i64 0)), ⟨some 106, .pick (.t 102) (.t 105) (.c (.bool false)), none⟩, zm 107 106, zg 107 true (zf 108 7 1), zg 107 true (zl 109 1 108), zg 107 true (zd 110 .eql 109 (.str [])), ⟨some 111, .pick (.t 107) (.t 110) (.c (.bool false)), none⟩, zm 112 111, zg 112 true (zf 113 8 1), zg 112 true (zl 114 1 113), zg 112 true (zk 115 200 [(.t 114), (.c (.int .i64 32768))]), ⟨some 116, .pick (.t 112) (.t 115) (.c (.bool false)), none⟩, zm 117 116, zg 117 true (zf 118 9 1), zg 117 true (zl 119 1 118), zg 117 true (zk 120 200 [(.t 119), (.c (.int .i64 32768))]), ⟨some 121, .pick (.t 117) (.t 120) (.c (.bool false)), none⟩, zm 122 121, zg 122 true (zf 123 10 1), zg 122 true (zl 124 1 123), zg 122 true (zn 125 124), zg 122 true (zd 126 .eql 125 (.int .i64 0)), ⟨some 127, .pick (.t 122) (.t 126) (.c (.bool false)), none⟩, zm 2 127])
 .ret)
 (.seq (.reg false [] [1, 128] [zd 129 .eql 39 (.int .i64 4), zm 128 129])
 (.cond (.t 128) (.seq (.reg false [] [2] [zf 130 4 1, zl 131 1 130, zd 132 .eql 131 (.int .i64 0), zm 133 132, zg 133 true (zf 134 6 1), zg 133 true (zl 135 1 134), zg 133 true (zf 136 5 1), zg 133 true (zl 137 1 136), zg 133 true (zb 138 .lss 135 137), ⟨some 139, .pick (.t 133) (.t 138) (.c (.bool false)), none⟩, zm 140 139, zg 140 true (zf 141 7 1), zg 140 true (zl 142 1 141), zg 140 true (zd 143 .eql 142 (.str [])), ⟨some 144, .pick (.t 140) (.t 143) (.c (.bool false)), none⟩, zm 145 144, zg 145 true (zf 146 8 1), zg 145 true (zl 147 1 146), zg 145 true (zd 148 .eql 147 (.int .i64 0)), ⟨some 149, .pick (.t 145) (.t 148) (.c (.bool false)), none⟩, zm 150 149, zg 150 true (zf 151 9 1), zg 150 true (zl 152 1 151), zg 150 true (zd 153 .eql 152 (.int .i64 0)), ⟨some 154, .pick (.t 150) (.t 153) (.c (.bool false)), none⟩, zm 155 154, zg 155 true (zf 156 10 1), zg 155 true (zl 157 1 156), zg 155 true (zk 158 201 [(.t 157)]), ⟨some 159, .pick (.t 155) (.t 158) (.c (.bool false)), none⟩, zm 2 159])
 .ret)
 .skip))))))))))
 (.seq (.reg false [] [2] [zc 2 (.bool false)])
 .ret)))) }
def N199_ref26_level : NFun := { np := 1, nt := 9, res := [(2, none)], body :=
 (.seq (.reg false [] [0] [zc 2 (.bool false)])
 (.seq (.reg false [] [2] [zm 3 0, ⟨some 4, .bin .geq (.t 3) (.c (.int .i64 (-4194304))), none⟩, zm 5 4, zg 5 true (zm 6 0), zg 5 true (zd 7 .leq 6 (.int .i64 4194304)), ⟨some 8, .pick (.t 5) (.t 7) (.c (.bool false)), none⟩, zm 2 8])
 .ret)) }
def N200_ref26_within : NFun := { np := 2, nt := 12, res := [(4, none)], body :=
 (.seq (.reg false [] [0, 1] [zc 4 (.bool false)])
 (.seq (.reg false [] [4] [zm 5 0, zd 6 .geq 5 (.int .i64 1), zm 7 6, zg 7 true (zm 8 0), zg 7 true (zm 9 1), zg 7 true (zb 10 .leq 8 9), ⟨some 11, .pick (.t 7) (.t 10) (.c (.bool false)), none⟩, zm 4 11])
 .ret)) }
def N201_ref26_curve : NFun := { np := 1, nt := 39, res := [(2, none)], body :=
 (.seq (.reg false [] [0] [zc 2 (.bool false)])
 (.seq (.reg false [] [2] [zm 3 0, zk 4 64 [(.t 3)], zm 5 4, zg 5 true (zm 6 0), zg 5 true (⟨some 7, .iadS 2 (.t 6) (.c (.int .i64 0)), none⟩), zg 5 true (zf 8 0 7), zg 5 true (zl 9 1 8), zg 5 true (zd 10 .geq 9 (.int .i64 0)), ⟨some 11, .pick (.t 5) (.t 10) (.c (.bool false)), none⟩, zm 12 11, zg 12 true (zm 13 0), zg 12 true (zm 14 0), zg 12 true (zn 15 14), zg 12 true (zd 16 .sub 15 (.int .i64 1)), zg 12 true (zi 17 2 13 16), zg 12 true (zf 18 0 17), zg 12 true (zl 19 1 18), zg 12 true (zd 20 .leq 19 (.int .i64 4194304)), ⟨some 21, .pick (.t 12) (.t 20) (.c (.bool false)), none⟩, zm 22 21, zg 22 true (zm 23 0), zg 22 true (⟨some 24, .iadS 2 (.t 23) (.c (.int .i64 0)), none⟩), zg 22 true (zf 25 1 24), zg 22 true (zl 26 1 25), zg 22 true (zd 27 .geq 26 (.int .i64 0)), ⟨some 28, .pick (.t 22) (.t 27) (.c (.bool false)), none⟩, zm 29 28, zg 29 true (zm 30 0), zg 29 true (zq 31 0), zg 29 true (zn 32 31), zg 29 true (zd 33 .sub 32 (.int .i64 1)), zg 29 true (zi 34 2 30 33), zg 29 true (zf 35 1 34), zg 29 true (zl 36 1 35), zg 29 true (zd 37 .leq 36 (.int .i64 1099511627776)), ⟨some 38, .pick (.t 29) (.t 37) (.c (.bool false)), none⟩, zm 2 38])
 .ret)) }
def N299_cmp_isNaN_int : NFun := { np := 1, nt := 6, res := [(2, none)], body :=
 (.seq (.reg false [] [0] [zc 2 (.bool false)])
 (.seq (.reg false [] [2] [zm 3 0, zm 4 0, zb 5 .neq 3 4, zm 2 5])
 .ret)) }
def N411_cmp_Less_int : NFun := { np := 2, nt := 17, res := [(4, none)], body :=
 (.seq (.reg false [] [0, 1] [zc 4 (.bool false)])
 (.seq (.reg false [] [4] [zm 5 0, zk 6 299 [(.t 5)], zm 7 6, zg 7 true (zm 8 1), zg 7 true (zk 9 299 [(.t 8)]), zg 7 true (zt 10 9), ⟨some 11, .pick (.t 7) (.t 10) (.c (.bool false)), none⟩, zm 12 11, zg 12 false (zm 13 0), zg 12 false (zm 14 1), zg 12 false (zb 15 .lss 13 14), ⟨some 16, .pick (.t 12) (.c (.bool true)) (.t 15), none⟩, zm 4 16])
 .ret)) }
def N424_law30_SteadyMost : NFun := { np := 3, nt := 150, res := [(6, none)], body :=
 (.seq (.reg false [] [1, 2, 3] [zo 3 0, zc 6 (.bool false)])
 (.seq (.seq (.reg false [] [1, 2, 3, 19] [zk 18 425 [], zt 19 18])
 (.cond (.t 19) (.seq (.reg false [] [6] [zc 6 (.bool false)])
 .ret)
 .skip))
 (.seq (.seq (.reg true [0, 0, 3, 7, 15, 31, 63, 127, 255, 511, 1023, 1023, 1023, 5119, 13311, 29695, 65535, 131071, 262143] [1, 2, 3, 38] [zL 20 2 3, zm 21 1, zk 22 426 [(.t 20), (.t 21), (.c .nils)], zm 23 22, zg 23 false (zf 24 0 3), zg 23 false (zl 25 1 24), zg 23 false (zn 26 25), zg 23 false (zd 27 .eql 26 (.int .i64 0)), ⟨some 28, .pick (.t 23) (.c (.bool true)) (.t 27), none⟩, zm 29 28, zg 29 false (zL 30 2 3), zg 29 false (zm 31 1), zg 29 false (zf 32 0 3), zg 29 false (zl 33 1 32), zg 29 false (zn 34 33), zg 29 false (⟨some 35, .mks 2 16 [.int .i64 0, .int .i64 0] (.t 34) (.t 34), none⟩), zg 29 false (zk 36 440 [(.t 30), (.t 31), (.t 35), (.c (.bool true))]), zg 29 false (zd 37 .neq 36 (.int .i64 0)), ⟨some 38, .pick (.t 29) (.c (.bool true)) (.t 37), none⟩])
 (.cond (.t 38) (.seq (.reg false [] [6] [zc 6 (.bool true)])
 .ret)
 .skip))
 (.seq (.reg false [] [1, 3, 7] [zm 39 2, ⟨some 40, .conv .i64 (.t 39), none⟩, zf 41 0 3, zl 42 1 41, zn 43 42, zb 44 .rem 40 43, zm 7 44])
 (.seq (.reg true [0, 0, 0, 4, 0, 28, 60, 124, 255, 511, 1023, 1023, 2047, 8191] [1, 3, 7, 8, 9] [zL 46 2 3, zm 47 1, zf 48 0 3, zl 49 1 48, zm 50 7, zi 51 9 49 50, zf 52 0 51, zl 53 1 52, zk 54 443 [(.t 46), (.t 47), (.t 53)], zm 45 54, zx 55 0 45, zx 56 1 45, zm 8 55, zm 9 56])
 (.seq (.seq (.reg false [] [1, 3, 7, 8, 66] [zm 57 9, zd 58 .neq 57 (.int .i64 0), zm 59 58, zg 59 false (zm 60 8), zg 59 false (zd 61 .lss 60 (.int .i64 0)), ⟨some 62, .pick (.t 59) (.c (.bool true)) (.t 61), none⟩, zm 63 62, zg 63 false (zm 64 8), zg 63 false (zd 65 .gtr 64 (.int .i64 1099511627776)), ⟨some 66, .pick (.t 63) (.c (.bool true)) (.t 65), none⟩])
 (.cond (.t 66) (.seq (.reg false [] [6] [zc 6 (.bool false)])
 .ret)
 .skip))
 (.seq (.reg false [] [1, 3, 7, 8, 10] [zf 67 0 3, zl 68 1 67, zn 69 68, ⟨some 70, .mks 2 16 [.int .i64 0, .int .i64 0] (.t 69) (.t 69), none⟩, zq 10 70])
 (.seq (.reg false [] [1, 3, 7, 8, 10] [zm 71 10, zm 72 7, zm 73 8, zm 74 8, ⟨some 75, .bld [.int .i64 0, .int .i64 0] [(0, 1, (.t 73)), (1, 1, (.t 74))], none⟩, zi 76 2 71 72, ⟨none, .st 2 [] (.t 76) (.t 75), none⟩])
 (.seq (.reg false [] [1, 3, 7, 8, 10, 11, 12, 13] [zL 78 2 3, zm 79 1, zm 80 10, ⟨some 81, .callG 442 [(.t 78), (.t 79), (.t 80)], none⟩, zm 77 81, zx 82 0 77, zx 83 1 77, zx 84 2 77, zq 11 82, zq 12 83, zm 13 84])
 (.seq (.seq (.reg false [] [1, 3, 7, 8, 10, 96] [zm 85 13, zd 86 .neq 85 (.int .i64 0), zm 87 86, zg 87 false (zq 88 11), zg 87 false (zn 89 88), zg 87 false (zd 90 .neq 89 (.int .i64 0)), ⟨some 91, .pick (.t 87) (.c (.bool true)) (.t 90), none⟩, zm 92 91, zg 92 false (zq 93 12), zg 92 false (zn 94 93), zg 92 false (zd 95 .neq 94 (.int .i64 0)), ⟨some 96, .pick (.t 92) (.c (.bool true)) (.t 95), none⟩])
 (.cond (.t 96) (.seq (.reg false [] [6] [zc 6 (.bool false)])
 .ret)
 .skip))
 (.seq (.seq (.reg false [] [1, 3, 7, 8, 10, 98] [zm 97 8, zd 98 .eql 97 (.int .i64 1099511627776)])
 (.cond (.t 98) (.seq (.reg false [] [6] [zc 6 (.bool true)])
 .ret)
 .skip))
 (.seq (.reg false [] [1, 3, 7, 10] [zm 99 10, zm 100 7, zm 101 8, zd 102 .add 101 (.int .i64 1), zm 103 8, zd 104 .add 103 (.int .i64 1), ⟨some 105, .bld [.int .i64 0, .int .i64 0] [(0, 1, (.t 102)), (1, 1, (.t 104))], none⟩, zi 106 2 99 100, ⟨none, .st 2 [] (.t 106) (.t 105), none⟩])
 (.seq (.reg false [] [3, 7, 10, 11, 13] [zL 108 2 3, zq 109 1, zm 110 10, ⟨some 111, .callG 442 [(.t 108), (.t 109), (.t 110)], none⟩, zm 107 111, zx 112 0 107, zx 113 1 107, zx 114 2 107, zq 11 112, zm 13 114])
 (.seq (.seq (.reg false [] [3, 7, 10, 11, 121] [zm 115 13, zd 116 .neq 115 (.int .i64 0), zm 117 116, zg 117 false (zm 118 11), zg 117 false (zn 119 118), zg 117 false (zd 120 .eql 119 (.int .i64 0)), ⟨some 121, .pick (.t 117) (.c (.bool true)) (.t 120), none⟩])
 (.cond (.t 121) (.seq (.reg false [] [6] [zc 6 (.bool false)])
 .ret)
 .skip))
 (.seq (.seq (.reg false [] [3, 7, 10, 122, 123, 124] [zq 122 11, zn 123 122, zc 124 (.int .i64 0)])
 (.block 0 (.loop (.seq (.reg false [] [3, 7, 10, 122, 123, 124, 125] [zb 125 .lss 124 123])
 (.seq (.cond (.t 125) .skip
 (.exit 0))
 (.seq (.block 1 (.seq (.reg false [] [3, 7, 10, 15, 122, 123, 124] [zi 126 1 122 124, zl 127 1 126, zm 15 127])
 (.seq (.reg false [] [3, 7, 10, 16, 17, 122, 123, 124] [zL 129 2 3, zm 130 10, zm 131 15, ⟨some 132, .callG 430 [(.t 129), (.t 130), (.t 131)], none⟩, zm 128 132, zx 133 0 128, zx 134 1 128, zq 16 133, zm 17 134])
 (.seq (.reg false [] [3, 7, 10, 122, 123, 124, 148] [zm 135 17, zd 136 .neq 135 (.int .i64 0), zm 137 136, zg 137 false (zq 138 16), zg 137 false (zf 139 0 3), zg 137 false (zl 140 1 139), zg 137 false (zm 141 7), zg 137 false (zi 142 9 140 141), zg 137 false (zf 143 0 142), zg 137 false (zl 144 1 143), zg 137 false (⟨some 145, .bls 1 1 [.str []] [] [(0, (.t 144))], none⟩), zg 137 false (zk 146 435 [(.t 138), (.t 145)]), zg 137 false (zt 147 146), ⟨some 148, .pick (.t 137) (.c (.bool true)) (.t 147), none⟩])
 (.cond (.t 148) (.seq (.reg false [] [6] [zc 6 (.bool false)])
 .ret)
 .skip)))))
 (.reg false [] [3, 7, 10, 122, 123, 124] [zd 149 .add 124 (.int .i64 1), zm 124 149])))))))
 (.seq (.reg false [] [6] [zc 6 (.bool true)])
 .ret)))))))))))))))) }
def N425_law30_awake : NFun := { np := 0, nt := 25, res := [(0, none)], body :=
 (.seq (.reg false [] [] [zc 0 (.bool false)])
 (.seq (.reg false [] [1, 2] [zk 4 452 [], ⟨some 5, .bld [.int .i64 0, .int .i64 0] [(0, 1, (.c (.int .i64 1))), (1, 1, (.c (.int .i64 2)))], none⟩, ⟨some 6, .bld [.int .i64 0, .int .i64 0] [(0, 1, (.c (.int .i64 3))), (1, 1, (.c (.int .i64 5)))], none⟩, ⟨some 7, .bld [.int .i64 0, .int .i64 0] [(0, 1, (.c (.int .i64 0))), (1, 1, (.c (.int .i64 9)))], none⟩, ⟨some 8, .blsF 2 3 [.int .i64 0, .int .i64 0] [(0, (.t 5)), (1, (.t 6)), (2, (.t 7))], none⟩, zk 9 428 [(.t 4), (.t 8)], zm 3 9, zx 10 0 3, zx 11 1 3, zq 1 10, zm 2 11])
 (.seq (.reg false [] [0] [zk 12 452 [], zk 13 433 [(.t 12)], zm 14 13, zg 14 true (zm 15 2), zg 14 true (zd 16 .eql 15 (.int .i64 0)), ⟨some 17, .pick (.t 14) (.t 16) (.c (.bool false)), none⟩, zm 18 17, zg 18 true (zq 19 1), zg 18 true (⟨some 20, .bld [.int .i64 0, .int .i64 0] [(0, 1, (.c (.int .i64 1))), (1, 1, (.c (.int .i64 2)))], none⟩), zg 18 true (⟨some 21, .bld [.int .i64 0, .int .i64 0] [(0, 1, (.c (.int .i64 4))), (1, 1, (.c (.int .i64 7)))], none⟩), zg 18 true (⟨some 22, .bls 2 2 [.int .i64 0, .int .i64 0] [] [(0, (.t 20)), (1, (.t 21))], none⟩), zg 18 true (zk 23 434 [(.t 19), (.t 22)]), ⟨some 24, .pick (.t 18) (.t 23) (.c (.bool false)), none⟩, zm 0 24])
 .ret))) }
def N426_law30_large : NFun := { np := 3, nt := 39, res := [(6, none)], body :=
 (.seq (.reg false [] [1, 2, 3] [zo 3 0, zc 6 (.bool false)])
 (.seq (.seq (.reg false [] [1, 3, 26] [zf 7 0 3, zl 8 1 7, zn 9 8, zd 10 .gtr 9 (.int .i64 12), zm 11 10, zg 11 false (zf 12 1 3), zg 11 false (zl 13 1 12), zg 11 false (zn 14 13), zg 11 false (zd 15 .gtr 14 (.int .i64 20)), ⟨some 16, .pick (.t 11) (.c (.bool true)) (.t 15), none⟩, zm 17 16, zg 17 false (zm 18 1), zg 17 false (zn 19 18), zg 17 false (zd 20 .gtr 19 (.int .i64 12)), ⟨some 21, .pick (.t 17) (.c (.bool true)) (.t 20), none⟩, zm 22 21, zg 22 false (zq 23 2), zg 22 false (zn 24 23), zg 22 false (zd 25 .gtr 24 (.int .i64 25)), ⟨some 26, .pick (.t 22) (.c (.bool true)) (.t 25), none⟩])
 (.cond (.t 26) (.seq (.reg false [] [6] [zc 6 (.bool true)])
 .ret)
 .skip))
 (.seq (.reg false [] [6] [zf 27 0 3, zl 28 1 27, ⟨some 29, .call 453 [(.t 28), (.c (.fn 454 []))] [], none⟩, zm 30 29, zg 30 false (zf 31 1 3), zg 30 false (zl 32 1 31), zg 30 false (⟨some 33, .call 455 [(.t 32), (.c (.fn 456 []))] [], none⟩), ⟨some 34, .pick (.t 30) (.c (.bool true)) (.t 33), none⟩, zm 35 34, zg 35 false (zq 36 1), zg 35 false (⟨some 37, .call 45 [(.t 36), (.c (.fn 457 []))] [], none⟩), ⟨some 38, .pick (.t 35) (.c (.bool true)) (.t 37), none⟩, zm 6 38])
 .ret))) }
def N427_ref30_Tree : NFun := { np := 1, nt := 27, res := [(2, none)], body :=
 (.seq (.reg false [] [1] [zo 1 0, zc 2 (.bool false)])
 (.seq (.seq (.reg false [] [1, 6] [zL 4 2 1, zk 5 458 [(.t 4)], zt 6 5])
 (.cond (.t 6) (.seq (.reg false [] [2] [zc 2 (.bool false)])
 .ret)
 .skip))
 (.seq (.seq (.reg false [] [1, 3] [zc 3 (.int .i64 0)])
 (.block 0 (.loop (.seq (.seq (.reg false [] [1, 3, 11] [zm 7 3, zf 8 1 1, zl 9 1 8, zn 10 9, zb 11 .lss 7 10])
 (.cond (.t 11) .skip
 (.exit 0)))
 (.seq (.block 1 (.seq (.reg false [] [1, 3, 20] [zf 14 1 1, zl 15 1 14, zm 16 3, zi 17 11 15 16, zf 18 3 17, zl 19 1 18, zd 20 .neq 19 (.int .i64 1)])
 (.cond (.t 20) (.seq (.reg false [] [2] [zc 2 (.bool false)])
 .ret)
 .skip)))
 (.reg false [] [1, 3] [zm 12 3, zd 13 .add 12 (.int .i64 1), zm 3 13]))))))
 (.seq (.reg true [0, 1, 3, 0, 8, 31, 63] [2] [zf 21 0 1, zl 22 1 21, zn 23 22, zL 24 2 1, zk 25 429 [(.t 24)], zk 26 459 [(.t 23), (.t 25)], zm 2 26])
 .ret)))) }
def N428_steady_Flows : NFun := { np := 2, nt := 23, res := [(4, none), (5, none)], body :=
 (.seq (.reg false [] [1, 2] [zo 2 0, zc 4 .nils, zc 5 (.int .i64 0)])
 (.seq (.seq (.reg false [] [1, 2, 9] [zL 7 2 2, zk 8 433 [(.t 7)], zt 9 8])
 (.cond (.t 9) (.seq (.reg false [] [4, 5] [zc 4 .nils, zc 5 (.int .i64 1)])
 .ret)
 .skip))
 (.seq (.seq (.reg false [] [1, 2, 6] [zm 10 1, zf 11 0 2, zl 12 1 11, zn 13 12, zk 14 460 [(.t 10), (.t 13)], zm 6 14])
 (.seq (.reg false [] [1, 2, 6, 16] [zm 15 6, zd 16 .neq 15 (.int .i64 0)])
 (.cond (.t 16) (.seq (.reg false [] [4, 5] [zm 17 6, zc 4 .nils, zm 5 17])
 .ret)
 .skip)))
 (.seq (.reg false [] [4, 5] [zL 18 2 2, zq 19 1, zk 20 461 [(.t 18), (.t 19)], zx 21 0 20, zx 22 1 20, zq 4 21, zm 5 22])
 .ret)))) }
def N429_ref26_Edges : NFun := { np := 1, nt := 33, res := [(2, none)], body :=
 (.seq (.reg false [] [1] [zo 1 0, zc 2 .nils])
 (.seq (.reg false [] [1, 3] [⟨some 3, .nilo 2, none⟩])
 (.seq (.seq (.reg false [] [1, 3, 4] [zc 4 (.int .i64 0)])
 (.block 0 (.loop (.seq (.seq (.reg false [] [1, 3, 4, 9] [zm 5 4, zf 6 1 1, zl 7 1 6, zn 8 7, zb 9 .lss 5 8])
 (.cond (.t 9) .skip
 (.exit 0)))
 (.seq (.block 1 (.reg true [0, 0, 0, 4, 0, 28, 60, 124, 254, 0, 0, 1024, 0, 7168, 15360, 31744, 65534, 131070, 262142, 524287, 1048575] [1, 3, 4] [zm 12 3, zL 13 2 1, zf 14 1 1, zl 15 1 14, zm 16 4, zi 17 11 15 16, zf 18 1 17, zl 19 1 18, zk 20 462 [(.t 13), (.t 19)], zL 21 2 1, zf 22 1 1, zl 23 1 22, zm 24 4, zi 25 11 23 24, zf 26 2 25, zl 27 1 26, zk 28 462 [(.t 21), (.t 27)], ⟨some 29, .bld [.int .i64 0, .int .i64 0] [(0, 1, (.t 20)), (1, 1, (.t 28))], none⟩, ⟨some 30, .bls 2 1 [.int .i64 0, .int .i64 0] [] [(0, (.t 29))], none⟩, ⟨some 31, .app 2 16 false (.t 12) (.t 30), none⟩, zq 3 31]))
 (.reg false [] [1, 3, 4] [zm 10 4, zd 11 .add 10 (.int .i64 1), zm 4 11]))))))
 (.seq (.reg false [] [2] [zq 32 3, zq 2 32])
 .ret)))) }
def N430_steady_Share : NFun := { np := 3, nt := 84, res := [(6, none), (7, none)], body :=
 (.seq (.reg false [] [1, 2, 3] [zo 3 0, zc 6 .nils, zc 7 (.int .i64 0)])
 (.seq (.seq (.reg false [] [1, 2, 3, 18] [zL 16 2 3, zk 17 433 [(.t 16)], zt 18 17])
 (.cond (.t 18) (.seq (.reg false [] [6, 7] [zc 6 .nils, zc 7 (.int .i64 1)])
 .ret)
 .skip))
 (.seq (.seq (.reg false [] [1, 2, 3, 8] [zm 19 1, zf 20 0 3, zl 21 1 20, zn 22 21, zk 23 460 [(.t 19), (.t 22)], zm 8 23])
 (.seq (.reg false [] [1, 2, 3, 8, 25] [zm 24 8, zd 25 .neq 24 (.int .i64 0)])
 (.cond (.t 25) (.seq (.reg false [] [6, 7] [zm 26 8, zc 6 .nils, zm 7 26])
 .ret)
 .skip)))
 (.seq (.reg false [] [1, 3, 9, 10] [zL 28 2 3, zm 29 2, zk 30 463 [(.t 28), (.t 29)], zm 27 30, zx 31 0 27, zx 32 1 27, zm 9 31, zm 10 32])
 (.seq (.seq (.reg false [] [1, 3, 9, 10, 34] [zm 33 10, zd 34 .neq 33 (.int .i64 0)])
 (.cond (.t 34) (.seq (.reg false [] [6, 7] [zm 35 10, zc 6 .nils, zm 7 35])
 .ret)
 .skip))
 (.seq (.reg false [] [1, 3, 11] [zf 36 1 3, zl 37 1 36, zm 38 9, zi 39 11 37 38, zf 40 1 39, zl 41 1 40, zm 11 41])
 (.seq (.reg false [] [1, 3, 10, 11, 12] [zL 43 2 3, zm 44 11, zk 45 464 [(.t 43), (.t 44)], zm 42 45, zx 46 0 42, zx 47 1 42, zq 12 46, zm 10 47])
 (.seq (.seq (.reg false [] [1, 3, 10, 11, 12, 49] [zm 48 10, zd 49 .neq 48 (.int .i64 0)])
 (.cond (.t 49) (.seq (.reg false [] [6, 7] [zm 50 10, zc 6 .nils, zm 7 50])
 .ret)
 .skip))
 (.seq (.reg false [] [1, 3, 11, 12, 13] [⟨some 13, .nilo 1, none⟩])
 (.seq (.seq (.reg false [] [1, 11, 12, 13, 52, 53, 54] [zf 51 0 3, zl 52 1 51, zn 53 52, zc 54 (.int .i64 0)])
 (.block 0 (.loop (.seq (.reg false [] [1, 11, 12, 13, 52, 53, 54, 55] [zb 55 .lss 54 53])
 (.seq (.cond (.t 55) .skip
 (.exit 0))
 (.seq (.block 1 (.seq (.reg false [] [1, 11, 12, 13, 14, 15, 52, 53, 54] [zm 56 54, zi 57 9 52 54, zL 58 9 57, ⟨some 15, .alc [.str [], .int .i64 0, .int .i64 0, .int .i64 0, .int .i64 0, .int .i64 0, .own 2 [], .bool false, .int .i64 0], none⟩, zm 14 56, ⟨none, .st 9 [] (.t 15) (.t 58), none⟩])
 (.seq (.reg false [] [1, 11, 12, 13, 15, 52, 53, 54, 76] [zm 59 1, zm 60 14, zi 61 2 59 60, zf 62 1 61, zl 63 1 62, zd 64 .gtr 63 (.int .i64 0), zm 65 64, zg 65 true (zf 66 0 15), zg 65 true (zl 67 1 66), zg 65 true (zm 68 11), zg 65 true (zb 69 .eql 67 68), zg 65 true (zm 70 69), zg 70 false (zm 71 12), zg 70 false (zf 72 0 15), zg 70 false (zl 73 1 72), zg 70 false (zk 74 450 [(.t 71), (.t 73)]), zg 65 true (⟨some 75, .pick (.t 70) (.c (.bool true)) (.t 74), none⟩), ⟨some 76, .pick (.t 65) (.t 75) (.c (.bool false)), none⟩])
 (.cond (.t 76) (.reg false [] [1, 11, 12, 13, 52, 53, 54] [zm 77 13, zf 78 0 15, zl 79 1 78, ⟨some 80, .bls 1 1 [.str []] [] [(0, (.t 79))], none⟩, ⟨some 81, .app 1 16 false (.t 77) (.t 80), none⟩, zq 13 81])
 .skip))))
 (.reg false [] [1, 11, 12, 13, 52, 53, 54] [zd 82 .add 54 (.int .i64 1), zm 54 82])))))))
 (.seq (.reg false [] [6, 7] [zq 83 13, zq 6 83, zc 7 (.int .i64 0)])
 .ret))))))))))) }
def N433_steady_Tree : NFun := { np := 1, nt := 22, res := [(2, none)], body :=
 (.seq (.reg false [] [1] [zo 1 0, zc 2 (.bool false)])
 (.seq (.seq (.reg false [] [1, 7] [zf 5 1 1, zl 6 1 5, ⟨some 7, .call 455 [(.t 6), (.c (.fn 470 []))] [], none⟩])
 (.cond (.t 7) (.seq (.reg false [] [2] [zc 2 (.bool false)])
 .ret)
 .skip))
 (.seq (.reg false [] [1, 3, 4] [zL 9 2 1, zk 10 471 [(.t 9)], zm 8 10, zx 11 0 8, zx 12 1 8, zq 3 11, zm 4 12])
 (.seq (.reg false [] [2] [zm 13 4, zd 14 .eql 13 (.int .i64 0), zm 15 14, zg 15 true (zf 16 0 1), zg 15 true (zl 17 1 16), zg 15 true (zn 18 17), zg 15 true (zq 19 3), zg 15 true (zk 20 472 [(.t 18), (.t 19)]), ⟨some 21, .pick (.t 15) (.t 20) (.c (.bool false)), none⟩, zm 2 21])
 .ret)))) }
def N434_slices_Equal__api_Span_api_Span : NFun := { np := 2, nt := 26, res := [(4, none)], body :=
 (.seq (.reg false [] [0, 1] [zc 4 (.bool false)])
 (.seq (.seq (.reg false [] [0, 1, 10] [zm 6 0, zn 7 6, zm 8 1, zn 9 8, zb 10 .neq 7 9])
 (.cond (.t 10) (.seq (.reg false [] [4] [zc 4 (.bool false)])
 .ret)
 .skip))
 (.seq (.seq (.reg false [] [0, 1, 12, 13] [zm 11 0, zn 12 11, zc 13 (.int .i64 0)])
 (.block 0 (.loop (.seq (.reg false [] [0, 1, 12, 13, 14] [zb 14 .lss 13 12])
 (.seq (.cond (.t 14) .skip
 (.exit 0))
 (.seq (.block 1 (.seq (.reg false [] [0, 1, 5, 12, 13] [zm 15 13, zm 5 15])
 (.seq (.reg true [0, 0, 3, 7, 0, 0, 48, 112, 255] [0, 1, 12, 13, 24] [zm 16 0, zm 17 5, zi 18 2 16 17, zL 19 2 18, zm 20 1, zm 21 5, zi 22 2 20 21, zL 23 2 22, ⟨some 24, .beq true [0, 0] (.t 19) (.t 23), none⟩])
 (.cond (.t 24) (.seq (.reg false [] [4] [zc 4 (.bool false)])
 .ret)
 .skip))))
 (.reg false [] [0, 1, 12, 13] [zd 25 .add 13 (.int .i64 1), zm 13 25])))))))
 (.seq (.reg false [] [4] [zc 4 (.bool true)])
 .ret)))) }
def N435_slices_Equal__string_string : NFun := { np := 2, nt := 26, res := [(4, none)], body :=
 (.seq (.reg false [] [0, 1] [zc 4 (.bool false)])
 (.seq (.seq (.reg false [] [0, 1, 10] [zm 6 0, zn 7 6, zm 8 1, zn 9 8, zb 10 .neq 7 9])
 (.cond (.t 10) (.seq (.reg false [] [4] [zc 4 (.bool false)])
 .ret)
 .skip))
 (.seq (.seq (.reg false [] [0, 1, 12, 13] [zm 11 0, zn 12 11, zc 13 (.int .i64 0)])
 (.block 0 (.loop (.seq (.reg false [] [0, 1, 12, 13, 14] [zb 14 .lss 13 12])
 (.seq (.cond (.t 14) .skip
 (.exit 0))
 (.seq (.block 1 (.seq (.reg false [] [0, 1, 5, 12, 13] [zm 15 13, zm 5 15])
 (.seq (.reg true [0, 0, 3, 7, 0, 0, 48, 112, 255] [0, 1, 12, 13, 24] [zm 16 0, zm 17 5, zi 18 1 16 17, zl 19 1 18, zm 20 1, zm 21 5, zi 22 1 20 21, zl 23 1 22, zb 24 .neq 19 23])
 (.cond (.t 24) (.seq (.reg false [] [4] [zc 4 (.bool false)])
 .ret)
 .skip))))
 (.reg false [] [0, 1, 12, 13] [zd 25 .add 13 (.int .i64 1), zm 13 25])))))))
 (.seq (.reg false [] [4] [zc 4 (.bool true)])
 .ret)))) }
def N440_ref30_Given : NFun := { np := 4, nt := 35, res := [(8, none)], body :=
 (.seq (.reg false [] [1, 2, 3, 4] [zo 4 0, zc 8 (.int .i64 0)])
 (.seq (.seq (.reg false [] [1, 2, 3, 4, 18] [zL 11 2 4, zk 12 427 [(.t 11)], zt 13 12, zm 14 13, zg 14 false (zm 15 1), zg 14 false (zk 16 33 [(.t 15)]), zg 14 false (zt 17 16), ⟨some 18, .pick (.t 14) (.c (.bool true)) (.t 17), none⟩])
 (.cond (.t 18) (.seq (.reg false [] [8] [zc 8 (.int .i64 1)])
 .ret)
 .skip))
 (.seq (.reg false [] [1, 2, 3, 4, 9] [zf 19 1 4, zl 20 1 19, zn 21 20, zm 9 21])
 (.seq (.seq (.reg false [] [1, 2, 4, 9, 22] [zm 22 3])
 (.cond (.t 22) (.reg false [] [1, 2, 4, 9] [zf 23 0 4, zl 24 1 23, zn 25 24, zm 9 25])
 .skip))
 (.seq (.reg false [] [1, 4, 10] [zq 26 2, zm 27 9, zk 28 465 [(.t 26), (.t 27)], zm 10 28])
 (.seq (.seq (.reg false [] [1, 4, 10, 30] [zm 29 10, zd 30 .neq 29 (.int .i64 0)])
 (.cond (.t 30) (.seq (.reg false [] [8] [zm 31 10, zm 8 31])
 .ret)
 .skip))
 (.seq (.reg false [] [8] [zL 32 2 4, zq 33 1, zk 34 479 [(.t 32), (.t 33)], zm 8 34])
 .ret))))))) }
def N441_catalogue_Find : NFun := { np := 2, nt := 16, res := [(4, none), (5, none)], body :=
 (.seq (.reg false [] [0, 3] [zo 3 1, zc 4 (.int .i64 0), zc 5 (.int .i64 0)])
 (.seq (.seq (.reg false [] [0, 3, 9] [zm 7 0, zk 8 44 [(.t 7)], zt 9 8])
 (.cond (.t 9) (.seq (.reg false [] [4, 5] [zc 4 (.int .i64 0), zc 5 (.int .i64 1)])
 .ret)
 .skip))
 (.seq (.seq (.reg false [] [6] [zq 10 0, ⟨some 11, .mk 480 [(.t 3)], none⟩, zk 12 52 [(.t 10), (.t 11)], zm 6 12])
 (.seq (.reg false [] [6, 14] [zm 13 6, zd 14 .geq 13 (.int .i64 0)])
 (.cond (.t 14) (.seq (.reg false [] [4, 5] [zm 15 6, zm 4 15, zc 5 (.int .i64 0)])
 .ret)
 .skip)))
 (.seq (.reg false [] [4, 5] [zc 4 (.int .i64 0), zc 5 (.int .i64 9)])
 .ret)))) }
def N442_steady_Overloaded : NFun := { np := 3, nt := 81, res := [(6, none), (7, none), (8, none)], body :=
 (.seq (.reg false [] [1, 2, 3] [zo 3 0, zc 6 .nils, zc 7 .nils, zc 8 (.int .i64 0)])
 (.seq (.seq (.reg false [] [1, 2, 3, 9] [zL 18 2 3, zm 19 1, zm 20 2, zf 21 0 3, zl 22 1 21, zn 23 22, zk 24 473 [(.t 18), (.t 19), (.t 20), (.t 23)], zm 9 24])
 (.seq (.reg false [] [1, 2, 3, 9, 26] [zm 25 9, zd 26 .neq 25 (.int .i64 0)])
 (.cond (.t 26) (.seq (.reg false [] [6, 7, 8] [zm 27 9, zc 6 .nils, zc 7 .nils, zm 8 27])
 .ret)
 .skip)))
 (.seq (.reg false [] [1, 3, 10, 11] [zL 29 2 3, zq 30 2, zk 31 461 [(.t 29), (.t 30)], zm 28 31, zx 32 0 28, zx 33 1 28, zq 10 32, zm 11 33])
 (.seq (.seq (.reg false [] [1, 3, 10, 11, 35] [zm 34 11, zd 35 .neq 34 (.int .i64 0)])
 (.cond (.t 35) (.seq (.reg false [] [6, 7, 8] [zm 36 11, zc 6 .nils, zc 7 .nils, zm 8 36])
 .ret)
 .skip))
 (.seq (.reg false [] [1, 3, 10, 12, 13] [⟨some 12, .nilo 1, none⟩, ⟨some 13, .nilo 1, none⟩])
 (.seq (.seq (.reg false [] [1, 10, 12, 13, 38, 39, 40] [zf 37 1 3, zl 38 1 37, zn 39 38, zc 40 (.int .i64 0)])
 (.block 0 (.loop (.seq (.reg false [] [1, 10, 12, 13, 38, 39, 40, 41] [zb 41 .lss 40 39])
 (.seq (.cond (.t 41) .skip
 (.exit 0))
 (.seq (.block 1 (.seq (.reg false [] [1, 10, 12, 13, 14, 15, 38, 39, 40] [zm 42 40, zi 43 11 38 40, zL 44 11 43, ⟨some 15, .alc [.str [], .str [], .str [], .int .i64 0, .int .i64 0, .int .i64 0, .int .i64 0, .str [], .int .i64 0, .int .i64 0, .own 2 []], none⟩, zm 14 42, ⟨none, .st 11 [] (.t 15) (.t 44), none⟩])
 (.seq (.reg false [] [1, 10, 12, 13, 14, 15, 16, 17, 38, 39, 40] [zm 46 1, zL 47 11 15, zk 48 475 [(.t 46), (.t 47)], zm 45 48, zx 49 0 45, zx 50 1 45, zm 16 49, zm 17 50])
 (.seq (.seq (.reg false [] [1, 10, 12, 13, 14, 15, 16, 17, 38, 39, 40, 52] [zm 51 17, zd 52 .neq 51 (.int .i64 0)])
 (.cond (.t 52) (.seq (.reg false [] [6, 7, 8] [zm 53 17, zc 6 .nils, zc 7 .nils, zm 8 53])
 .ret)
 .skip))
 (.seq (.seq (.reg false [] [1, 10, 12, 13, 14, 15, 16, 38, 39, 40, 60] [zm 54 10, zm 55 14, zi 56 2 54 55, zf 57 0 56, zl 58 1 57, zm 59 16, zb 60 .gtr 58 59])
 (.cond (.t 60) (.reg false [] [1, 10, 12, 13, 14, 15, 16, 38, 39, 40] [zm 61 12, zf 62 0 15, zl 63 1 62, ⟨some 64, .bls 1 1 [.str []] [] [(0, (.t 63))], none⟩, ⟨some 65, .app 1 16 false (.t 61) (.t 64), none⟩, zq 12 65])
 .skip))
 (.seq (.reg false [] [1, 10, 12, 13, 15, 38, 39, 40, 72] [zm 66 10, zm 67 14, zi 68 2 66 67, zf 69 1 68, zl 70 1 69, zm 71 16, zb 72 .gtr 70 71])
 (.cond (.t 72) (.reg false [] [1, 10, 12, 13, 38, 39, 40] [zm 73 13, zf 74 0 15, zl 75 1 74, ⟨some 76, .bls 1 1 [.str []] [] [(0, (.t 75))], none⟩, ⟨some 77, .app 1 16 false (.t 73) (.t 76), none⟩, zq 13 77])
 .skip)))))))
 (.reg false [] [1, 10, 12, 13, 38, 39, 40] [zd 78 .add 40 (.int .i64 1), zm 40 78])))))))
 (.seq (.reg false [] [6, 7, 8] [zq 79 12, zq 80 13, zq 6 79, zq 7 80, zc 8 (.int .i64 0)])
 .ret))))))) }
def N443_steady_Most : NFun := { np := 3, nt := 67, res := [(6, none), (7, none)], body :=
 (.seq (.reg false [] [1, 3, 5] [zo 3 0, ⟨some 5, .box [] (.t 2), none⟩, zc 6 (.int .i64 0), zc 7 (.int .i64 0)])
 (.seq (.seq (.reg false [] [1, 3, 5, 22] [zL 15 2 3, zk 16 433 [(.t 15)], zt 17 16, zm 18 17, zg 18 false (zm 19 1), zg 18 false (zk 20 44 [(.t 19)]), zg 18 false (zt 21 20), ⟨some 22, .pick (.t 18) (.c (.bool true)) (.t 21), none⟩])
 (.cond (.t 22) (.seq (.reg false [] [6, 7] [zc 6 (.int .i64 0), zc 7 (.int .i64 1)])
 .ret)
 .skip))
 (.seq (.seq (.reg false [] [1, 3, 5, 8] [zL 23 2 3, zm 24 1, zk 25 481 [(.t 23), (.t 24)], zm 8 25])
 (.seq (.reg false [] [1, 3, 5, 8, 27] [zm 26 8, zd 27 .neq 26 (.int .i64 0)])
 (.cond (.t 27) (.seq (.reg false [] [6, 7] [zm 28 8, zc 6 (.int .i64 0), zm 7 28])
 .ret)
 .skip)))
 (.seq (.seq (.reg false [] [1, 3, 5, 10] [zL 30 2 3, zl 31 1 5, zk 32 482 [(.t 30), (.t 31)], zm 29 32, zx 33 0 29, zx 34 1 29, zm 9 33, zm 10 34])
 (.seq (.reg false [] [1, 3, 5, 10, 36] [zm 35 10, zd 36 .neq 35 (.int .i64 0)])
 (.cond (.t 36) (.seq (.reg false [] [6, 7] [zm 37 10, zc 6 (.int .i64 0), zm 7 37])
 .ret)
 .skip)))
 (.seq (.reg false [] [1, 3, 5, 11] [zc 11 (.int .i64 1099511627776)])
 (.block 0 (.loop (.block 1 (.seq (.reg false [] [1, 3, 5, 11, 12] [zf 38 1 3, zl 39 1 38, ⟨some 40, .mk 483 [(.t 5)], none⟩, zk 41 181 [(.t 39), (.t 40)], zm 12 41])
 (.seq (.seq (.reg false [] [1, 3, 5, 11, 12, 43] [zm 42 12, zd 43 .lss 42 (.int .i64 0)])
 (.cond (.t 43) (.seq (.reg false [] [6, 7] [zm 44 11, zm 6 44, zc 7 (.int .i64 0)])
 .ret)
 .skip))
 (.seq (.reg false [] [1, 3, 5, 11, 12, 13, 14] [zm 46 1, zf 47 1 3, zl 48 1 47, zm 49 12, zi 50 11 48 49, zL 51 11 50, zk 52 475 [(.t 46), (.t 51)], zm 45 52, zx 53 0 45, zx 54 1 45, zm 13 53, zm 14 54])
 (.seq (.seq (.reg false [] [1, 3, 5, 11, 12, 13, 14, 56] [zm 55 14, zd 56 .neq 55 (.int .i64 0)])
 (.cond (.t 56) (.seq (.reg false [] [6, 7] [zm 57 14, zc 6 (.int .i64 0), zm 7 57])
 .ret)
 .skip))
 (.seq (.reg false [] [1, 3, 5, 11, 12] [zm 58 11, zm 59 13, ⟨some 60, .mn (.t 58) (.t 59), none⟩, zm 11 60])
 (.reg false [] [1, 3, 5, 11] [zf 61 1 3, zl 62 1 61, zm 63 12, zi 64 11 62 63, zf 65 2 64, zl 66 1 65, ⟨none, .st 1 [] (.t 5) (.t 66), none⟩])))))))))))))) }
def N450_slices_Contains__string_string : NFun := { np := 2, nt := 9, res := [(4, none)], body :=
 (.seq (.reg false [] [0, 1] [zc 4 (.bool false)])
 (.seq (.reg false [] [4] [zq 5 0, zm 6 1, zk 7 485 [(.t 5), (.t 6)], zd 8 .geq 7 (.int .i64 0), zm 4 8])
 .ret)) }
def N452_law30_example : NFun := { np := 0, nt := 15, res := [(0, some (2, true))], body :=
 (.seq (.reg false [] [0] [⟨some 0, .alc [.own 9 [], .own 11 []], none⟩])
 (.seq (.reg false [] [0, 1] [zc 1 (.fn 486 [])])
 (.seq (.reg false [] [0, 1, 2] [zc 2 (.fn 487 [])])
 (.seq (.reg false [] [0] [zm 3 1, ⟨some 4, .callv (.t 3) [(.c (.str [97]))], none⟩, zm 5 1, ⟨some 6, .callv (.t 5) [(.c (.str [98]))], none⟩, ⟨some 7, .bld [.str [], .int .i64 0, .int .i64 0, .int .i64 0, .int .i64 0, .int .i64 0, .nils, .bool false, .int .i64 0] [(0, 1, (.c (.str [111]))), (1, 1, (.c (.int .i64 3)))], none⟩, ⟨some 8, .bls 9 3 [.str [], .int .i64 0, .int .i64 0, .int .i64 0, .int .i64 0, .int .i64 0, .own 2 [], .bool false, .int .i64 0] [] [(0, (.t 4)), (1, (.t 6)), (2, (.t 7))], none⟩, zm 9 2, ⟨some 10, .callv (.t 9) [(.c (.str [112])), (.c (.str [97])), (.c (.str [98]))], none⟩, zm 11 2, ⟨some 12, .callv (.t 11) [(.c (.str [113])), (.c (.str [98])), (.c (.str [111]))], none⟩, ⟨some 13, .bls 11 2 [.str [], .str [], .str [], .int .i64 0, .int .i64 0, .int .i64 0, .int .i64 0, .str [], .int .i64 0, .int .i64 0, .own 2 []] [] [(0, (.t 10)), (1, (.t 12))], none⟩, ⟨some 14, .bld [.nils, .nils] [(0, 1, (.t 8)), (1, 1, (.t 13))], none⟩, ⟨none, .st 2 [] (.t 0) (.t 14), none⟩])
 .ret)))) }
def N453_slices_ContainsFunc__api_Node_api_Node : NFun := { np := 2, nt := 9, res := [(4, none)], body :=
 (.seq (.reg false [] [0, 1] [zc 4 (.bool false)])
 (.seq (.reg false [] [4] [zq 5 0, zm 6 1, zk 7 175 [(.t 5), (.t 6)], zd 8 .geq 7 (.int .i64 0), zm 4 8])
 .ret)) }
def N454_law30_large_1 : NFun := { np := 1, nt := 13, res := [(2, none)], body :=
 (.seq (.reg false [] [1] [zo 1 0, zc 2 (.bool false)])
 (.seq (.reg false [] [2] [zf 3 6 1, zl 4 1 3, zn 5 4, zd 6 .gtr 5 (.int .i64 110), zm 7 6, zg 7 false (zf 8 0 1), zg 7 false (zl 9 1 8), zg 7 false (⟨some 10, .lens (.t 9), none⟩), zg 7 false (zd 11 .gtr 10 (.int .i64 100)), ⟨some 12, .pick (.t 7) (.c (.bool true)) (.t 11), none⟩, zm 2 12])
 .ret)) }
def N455_slices_ContainsFunc__api_Link_api_Link : NFun := { np := 2, nt := 9, res := [(4, none)], body :=
 (.seq (.reg false [] [0, 1] [zc 4 (.bool false)])
 (.seq (.reg false [] [4] [zq 5 0, zm 6 1, zk 7 181 [(.t 5), (.t 6)], zd 8 .geq 7 (.int .i64 0), zm 4 8])
 .ret)) }
def N456_law30_large_2 : NFun := { np := 1, nt := 31, res := [(2, none)], body :=
 (.seq (.reg false [] [1] [zo 1 0, zc 2 (.bool false)])
 (.seq (.reg false [] [2] [zf 3 10 1, zl 4 1 3, zn 5 4, zd 6 .gtr 5 (.int .i64 110), zm 7 6, zg 7 false (zf 8 0 1), zg 7 false (zl 9 1 8), zg 7 false (⟨some 10, .lens (.t 9), none⟩), zg 7 false (zd 11 .gtr 10 (.int .i64 100)), ⟨some 12, .pick (.t 7) (.c (.bool true)) (.t 11), none⟩, zm 13 12, zg 13 false (zf 14 1 1), zg 13 false (zl 15 1 14), zg 13 false (⟨some 16, .lens (.t 15), none⟩), zg 13 false (zd 17 .gtr 16 (.int .i64 100)), ⟨some 18, .pick (.t 13) (.c (.bool true)) (.t 17), none⟩, zm 19 18, zg 19 false (zf 20 2 1), zg 19 false (zl 21 1 20), zg 19 false (⟨some 22, .lens (.t 21), none⟩), zg 19 false (zd 23 .gtr 22 (.int .i64 100)), ⟨some 24, .pick (.t 19) (.c (.bool true)) (.t 23), none⟩, zm 25 24, zg 25 false (zf 26 7 1), zg 25 false (zl 27 1 26), zg 25 false (⟨some 28, .lens (.t 27), none⟩), zg 25 false (zd 29 .gtr 28 (.int .i64 100)), ⟨some 30, .pick (.t 25) (.c (.bool true)) (.t 29), none⟩, zm 2 30])
 .ret)) }
def N457_law30_large_3 : NFun := { np := 1, nt := 19, res := [(2, none)], body :=
 (.seq (.reg false [] [1] [zo 1 0, zc 2 (.bool false)])
 (.seq (.reg false [] [2] [zf 3 3 1, zl 4 1 3, zn 5 4, zd 6 .gtr 5 (.int .i64 110), zm 7 6, zg 7 false (zf 8 4 1), zg 7 false (zl 9 1 8), zg 7 false (zn 10 9), zg 7 false (zd 11 .gtr 10 (.int .i64 110)), ⟨some 12, .pick (.t 7) (.c (.bool true)) (.t 11), none⟩, zm 13 12, zg 13 false (zf 14 0 1), zg 13 false (zl 15 1 14), zg 13 false (⟨some 16, .lens (.t 15), none⟩), zg 13 false (zd 17 .gtr 16 (.int .i64 100)), ⟨some 18, .pick (.t 13) (.c (.bool true)) (.t 17), none⟩, zm 2 18])
 .ret)) }
def N458_ref26_Valid : NFun := { np := 1, nt := 88, res := [(2, none)], body :=
 (.seq (.reg false [] [1] [zo 1 0, zc 2 (.bool false)])
 (.seq (.seq (.reg false [] [1, 16] [zf 7 0 1, zl 8 1 7, zn 9 8, zd 10 .gtr 9 (.int .i64 300), zm 11 10, zg 11 false (zf 12 1 1), zg 11 false (zl 13 1 12), zg 11 false (zn 14 13), zg 11 false (zd 15 .gtr 14 (.int .i64 400)), ⟨some 16, .pick (.t 11) (.c (.bool true)) (.t 15), none⟩])
 (.cond (.t 16) (.seq (.reg false [] [2] [zc 2 (.bool false)])
 .ret)
 .skip))
 (.seq (.seq (.reg false [] [1, 3] [zc 3 (.int .i64 0)])
 (.block 0 (.loop (.seq (.seq (.reg false [] [1, 3, 21] [zm 17 3, zf 18 0 1, zl 19 1 18, zn 20 19, zb 21 .lss 17 20])
 (.cond (.t 21) .skip
 (.exit 0)))
 (.seq (.block 1 (.seq (.reg true [0, 1, 0, 7, 15, 31, 63, 127, 255, 255, 767, 255, 3839, 7935, 16127, 32767, 255, 131071, 262143] [1, 3, 42] [zf 24 0 1, zl 25 1 24, zm 26 3, zi 27 9 25 26, zL 28 9 27, zk 29 488 [(.t 28)], zt 30 29, zm 31 30, zg 31 false (zL 32 2 1), zg 31 false (zf 33 0 1), zg 31 false (zl 34 1 33), zg 31 false (zm 35 3), zg 31 false (zi 36 9 34 35), zg 31 false (zf 37 0 36), zg 31 false (zl 38 1 37), zg 31 false (zk 39 462 [(.t 32), (.t 38)]), zg 31 false (zm 40 3), zg 31 false (zb 41 .neq 39 40), ⟨some 42, .pick (.t 31) (.c (.bool true)) (.t 41), none⟩])
 (.cond (.t 42) (.seq (.reg false [] [2] [zc 2 (.bool false)])
 .ret)
 .skip)))
 (.reg false [] [1, 3] [zm 22 3, zd 23 .add 22 (.int .i64 1), zm 3 23]))))))
 (.seq (.seq (.reg false [] [1, 4] [zc 4 (.int .i64 0)])
 (.block 2 (.loop (.seq (.seq (.reg false [] [1, 4, 47] [zm 43 4, zf 44 1 1, zl 45 1 44, zn 46 45, zb 47 .lss 43 46])
 (.cond (.t 47) .skip
 (.exit 2)))
 (.seq (.block 3 (.seq (.reg false [] [1, 4, 5] [zf 50 1 1, zl 51 1 50, zm 52 4, zi 53 11 51 52, zL 54 11 53, ⟨some 5, .alc [.str [], .str [], .str [], .int .i64 0, .int .i64 0, .int .i64 0, .int .i64 0, .str [], .int .i64 0, .int .i64 0, .own 2 []], none⟩, ⟨none, .st 11 [] (.t 5) (.t 54), none⟩])
 (.seq (.seq (.reg false [] [1, 4, 5, 72] [zL 55 11 5, zk 56 194 [(.t 55)], zt 57 56, zm 58 57, zg 58 false (zL 59 2 1), zg 58 false (zf 60 0 5), zg 58 false (zl 61 1 60), zg 58 false (zk 62 467 [(.t 59), (.t 61)]), zg 58 false (zm 63 4), zg 58 false (zb 64 .neq 62 63), ⟨some 65, .pick (.t 58) (.c (.bool true)) (.t 64), none⟩, zm 66 65, zg 66 false (zL 67 2 1), zg 66 false (zf 68 2 5), zg 66 false (zl 69 1 68), zg 66 false (zk 70 462 [(.t 67), (.t 69)]), zg 66 false (zd 71 .lss 70 (.int .i64 0)), ⟨some 72, .pick (.t 66) (.c (.bool true)) (.t 71), none⟩])
 (.cond (.t 72) (.seq (.reg false [] [2] [zc 2 (.bool false)])
 .ret)
 .skip))
 (.seq (.reg false [] [1, 4, 6] [zL 73 2 1, zf 74 1 5, zl 75 1 74, zk 76 462 [(.t 73), (.t 75)], zm 6 76])
 (.seq (.reg false [] [1, 4, 87] [zm 77 6, zd 78 .lss 77 (.int .i64 0), zm 79 78, zg 79 false (zf 80 0 1), zg 79 false (zl 81 1 80), zg 79 false (zm 82 6), zg 79 false (zi 83 9 81 82), zg 79 false (zf 84 1 83), zg 79 false (zl 85 1 84), zg 79 false (zd 86 .eql 85 (.int .i64 3)), ⟨some 87, .pick (.t 79) (.c (.bool true)) (.t 86), none⟩])
 (.cond (.t 87) (.seq (.reg false [] [2] [zc 2 (.bool false)])
 .ret)
 .skip))))))
 (.reg false [] [1, 4] [zm 48 4, zd 49 .add 48 (.int .i64 1), zm 4 49]))))))
 (.seq (.reg false [] [2] [zc 2 (.bool true)])
 .ret))))) }
def N459_ref08_Tree : NFun := { np := 2, nt := 42, res := [(4, none)], body :=
 (.seq (.reg false [] [0, 1] [zc 4 (.bool false)])
 (.seq (.seq (.reg false [] [0, 1, 12] [zm 9 0, zm 10 1, zk 11 489 [(.t 9), (.t 10)], zt 12 11])
 (.cond (.t 12) (.seq (.reg false [] [4] [zc 4 (.bool false)])
 .ret)
 .skip))
 (.seq (.seq (.reg false [] [0, 1, 5] [zc 5 (.int .i64 0)])
 (.block 0 (.loop (.seq (.seq (.reg false [] [0, 1, 5, 16] [zm 13 5, zm 14 1, zn 15 14, zb 16 .lss 13 15])
 (.cond (.t 16) .skip
 (.exit 0)))
 (.seq (.block 1 (.seq (.reg false [] [0, 1, 5, 6] [zc 6 (.int .i64 0)])
 (.block 2 (.loop (.seq (.seq (.reg false [] [0, 1, 5, 6, 21] [zm 19 6, zm 20 5, zb 21 .lss 19 20])
 (.cond (.t 21) .skip
 (.exit 2)))
 (.seq (.block 3 (.seq (.reg true [0, 0, 3, 7, 15, 0, 0, 96, 224, 480, 1023] [0, 1, 5, 6, 34] [zm 24 1, zm 25 5, zi 26 2 24 25, ⟨some 27, .iadA 2 1 (.t 26) (.c (.int .i64 0)), none⟩, zl 28 1 27, zm 29 1, zm 30 6, zi 31 2 29 30, ⟨some 32, .iadA 2 1 (.t 31) (.c (.int .i64 0)), none⟩, zl 33 1 32, zb 34 .eql 28 33])
 (.cond (.t 34) (.seq (.reg false [] [4] [zc 4 (.bool false)])
 .ret)
 .skip)))
 (.reg false [] [0, 1, 5, 6] [zm 22 6, zd 23 .add 22 (.int .i64 1), zm 6 23])))))))
 (.reg false [] [0, 1, 5] [zm 17 5, zd 18 .add 17 (.int .i64 1), zm 5 18]))))))
 (.seq (.reg false [] [8] [zm 36 0, zq 37 1, zk 38 490 [(.t 36), (.t 37)], zm 35 38, zx 39 0 35, zx 40 1 35, zq 7 39, zm 8 40])
 (.seq (.reg false [] [4] [zm 41 8, zm 4 41])
 .ret))))) }
def N460_steady_spans : NFun := { np := 2, nt := 16, res := [(4, none)], body :=
 (.seq (.reg false [] [0, 1] [zc 4 (.int .i64 0)])
 (.seq (.block 0 (.seq (.reg false [] [0, 1, 5] [zm 6 0, ⟨some 7, .call 491 [(.t 6), (.c (.fn 492 []))] [], none⟩, zm 5 7])
 (.cond (.t 5) (.seq (.reg false [] [4] [zc 4 (.int .i64 1)])
 .ret)
 (.seq (.reg false [] [0, 8] [zm 9 0, zn 10 9, zm 11 1, zb 12 .neq 10 11, zm 8 12])
 (.cond (.t 8) (.seq (.reg false [] [4] [zc 4 (.int .i64 3)])
 .ret)
 (.seq (.reg false [] [13] [zq 14 0, ⟨some 15, .call 491 [(.t 14), (.c (.fn 494 []))] [], none⟩, zm 13 15])
 (.cond (.t 13) (.seq (.reg false [] [4] [zc 4 (.int .i64 2)])
 .ret)
 .skip)))))))
 (.seq (.reg false [] [4] [zc 4 (.int .i64 0)])
 .ret))) }
def N461_steady_flows : NFun := { np := 2, nt := 97, res := [(4, none), (5, none)], body :=
 (.seq (.reg false [] [1, 2] [zo 2 0, zc 4 .nils, zc 5 (.int .i64 0)])
 (.seq (.reg false [] [1, 2, 6, 7] [zL 17 2 2, zk 18 495 [(.t 17)], zm 16 18, zx 19 0 16, zx 20 1 16, zq 6 19, zm 7 20])
 (.seq (.seq (.reg false [] [1, 2, 6, 7, 22] [zm 21 7, zd 22 .neq 21 (.int .i64 0)])
 (.cond (.t 22) (.seq (.reg false [] [4, 5] [zm 23 7, zc 4 .nils, zm 5 23])
 .ret)
 .skip))
 (.seq (.reg false [] [1, 2, 6, 7, 8] [zL 25 2 2, zk 26 471 [(.t 25)], zm 24 26, zx 27 0 24, zx 28 1 24, zq 8 27, zm 7 28])
 (.seq (.seq (.reg false [] [1, 2, 6, 7, 8, 30] [zm 29 7, zd 30 .neq 29 (.int .i64 0)])
 (.cond (.t 30) (.seq (.reg false [] [4, 5] [zm 31 7, zc 4 .nils, zm 5 31])
 .ret)
 .skip))
 (.seq (.reg false [] [1, 6, 8, 9] [zf 32 1 2, zl 33 1 32, zn 34 33, ⟨some 35, .mks 2 16 [.int .i64 0, .int .i64 0] (.t 34) (.t 34), none⟩, zq 9 35])
 (.seq (.reg false [] [6, 8, 9, 10] [zq 36 1, ⟨some 37, .callF 496 [(.t 36)], none⟩, zq 10 37])
 (.seq (.seq (.reg false [] [8, 9, 10, 38, 39, 40] [zq 38 6, zn 39 38, zc 40 (.int .i64 0)])
 (.block 0 (.loop (.seq (.reg false [] [8, 9, 10, 38, 39, 40, 41] [zb 41 .lss 40 39])
 (.seq (.cond (.t 41) .skip
 (.exit 0))
 (.seq (.block 1 (.seq (.reg false [] [8, 9, 10, 12, 38, 39, 40] [zi 42 1 38 40, zl 43 1 42, zm 12 43])
 (.seq (.reg false [] [8, 9, 10, 12, 38, 39, 40, 44, 45, 46] [zm 44 8, zn 45 44, zc 46 (.int .i64 0)])
 (.block 2 (.loop (.seq (.reg false [] [8, 9, 10, 12, 38, 39, 40, 44, 45, 46, 47] [zb 47 .lss 46 45])
 (.seq (.cond (.t 47) .skip
 (.exit 2))
 (.seq (.block 3 (.seq (.reg false [] [8, 9, 10, 12, 13, 14, 38, 39, 40, 44, 45, 46] [zm 48 46, zi 49 2 44 46, zL 50 2 49, ⟨some 14, .alc [.int .i64 0, .int .i64 0], none⟩, zm 13 48, ⟨none, .st 2 [] (.t 14) (.t 50), none⟩])
 (.seq (.seq (.reg false [] [8, 9, 10, 12, 13, 14, 38, 39, 40, 44, 45, 46, 54] [⟨some 51, .iadA 2 1 (.t 14) (.c (.int .i64 0)), none⟩, zl 52 1 51, zm 53 12, zb 54 .neq 52 53])
 (.cond (.t 54) (.exit 3)
 .skip))
 (.seq (.reg false [] [8, 9, 10, 12, 14, 38, 39, 40, 44, 45, 46] [zm 55 9, zm 56 13, zm 57 10, zm 58 12, zi 59 2 57 58, zL 60 2 59, zi 61 2 55 56, ⟨none, .st 2 [] (.t 61) (.t 60), none⟩])
 (.seq (.reg false [] [8, 9, 10, 12, 15, 38, 39, 40, 44, 45, 46] [zm 62 10, ⟨some 63, .iadA 2 1 (.t 14) (.c (.int .i64 1)), none⟩, zl 64 1 63, zi 65 2 62 64, zm 15 65])
 (.reg true [0, 0, 0, 4, 12, 28, 0, 0, 192, 448, 960, 2044, 0, 4096, 12288, 28672, 0, 0, 196608, 458752, 983040, 2093056, 2097149, 6291453, 14680061, 33554431, 67108863, 134217727] [8, 9, 10, 12, 38, 39, 40, 44, 45, 46] [zm 66 15, zm 67 15, zm 68 15, ⟨some 69, .nck (.t 68), none⟩, zf 70 0 69, zl 71 1 70, zm 72 10, zm 73 12, zi 74 2 72 73, zf 75 0 74, zl 76 1 75, zb 77 .add 71 76, zm 78 15, ⟨some 79, .nck (.t 78), none⟩, zf 80 1 79, zl 81 1 80, zm 82 10, zm 83 12, zi 84 2 82 83, zf 85 1 84, zl 86 1 85, zb 87 .add 81 86, ⟨some 88, .nck (.t 66), none⟩, zf 89 0 88, ⟨none, .st 1 [] (.t 89) (.t 77), none⟩, ⟨some 90, .nck (.t 67), none⟩, zf 91 1 90, ⟨none, .st 1 [] (.t 91) (.t 87), none⟩]))))))
 (.reg false [] [8, 9, 10, 12, 38, 39, 40, 44, 45, 46] [zd 92 .add 46 (.int .i64 1), zm 46 92])))))))))
 (.reg false [] [8, 9, 10, 38, 39, 40] [zd 93 .add 40 (.int .i64 1), zm 40 93])))))))
 (.seq (.seq (.reg false [] [9, 95] [zm 94 9, ⟨some 95, .call 491 [(.t 94), (.c (.fn 497 []))] [], none⟩])
 (.cond (.t 95) (.seq (.reg false [] [4, 5] [zc 4 .nils, zc 5 (.int .i64 5)])
 .ret)
 .skip))
 (.seq (.reg false [] [4, 5] [zq 96 9, zq 4 96, zc 5 (.int .i64 0)])
 .ret)))))))))) }
def N462_ref26_FindNode : NFun := { np := 2, nt := 22, res := [(4, none)], body :=
 (.seq (.reg false [] [1, 2] [zo 2 0, zc 4 (.int .i64 0)])
 (.seq (.seq (.reg false [] [1, 2, 5] [zc 5 (.int .i64 0)])
 (.block 0 (.loop (.seq (.seq (.reg false [] [1, 2, 5, 10] [zm 6 5, zf 7 0 2, zl 8 1 7, zn 9 8, zb 10 .lss 6 9])
 (.cond (.t 10) .skip
 (.exit 0)))
 (.seq (.block 1 (.seq (.reg false [] [1, 2, 5, 20] [zf 13 0 2, zl 14 1 13, zm 15 5, zi 16 9 14 15, zf 17 0 16, zl 18 1 17, zm 19 1, zb 20 .eql 18 19])
 (.cond (.t 20) (.seq (.reg false [] [4] [zm 21 5, zm 4 21])
 .ret)
 .skip)))
 (.reg false [] [1, 2, 5] [zm 11 5, zd 12 .add 11 (.int .i64 1), zm 5 12]))))))
 (.seq (.reg false [] [4] [⟨some 4, .mov (.c (.int .i64 (-1))), none⟩])
 .ret))) }
def N463_network_Link : NFun := { np := 2, nt := 16, res := [(4, none), (5, none)], body :=
 (.seq (.reg false [] [1, 2] [zo 2 0, zc 4 (.int .i64 0), zc 5 (.int .i64 0)])
 (.seq (.seq (.reg false [] [1, 2, 8] [zL 6 2 2, zk 7 164 [(.t 6)], zt 8 7])
 (.cond (.t 8) (.seq (.reg false [] [4, 5] [zc 4 (.int .i64 0), zc 5 (.int .i64 1)])
 .ret)
 .skip))
 (.seq (.reg true [0, 0, 0, 6, 15, 31, 31, 127, 255] [4, 5] [zL 9 2 2, zL 10 2 2, zm 11 1, zk 12 171 [(.t 10), (.t 11)], zk 13 498 [(.t 9), (.t 12)], zx 14 0 13, zx 15 1 13, zm 4 14, zm 5 15])
 .ret))) }
def N464_network_Above : NFun := { np := 2, nt := 36, res := [(4, none), (5, none)], body :=
 (.seq (.reg false [] [1, 2] [zo 2 0, zc 4 .nils, zc 5 (.int .i64 0)])
 (.seq (.seq (.reg false [] [1, 2, 11] [zL 9 2 2, zk 10 164 [(.t 9)], zt 11 10])
 (.cond (.t 11) (.seq (.reg false [] [4, 5] [zc 4 .nils, zc 5 (.int .i64 1)])
 .ret)
 .skip))
 (.seq (.reg false [] [1, 2, 6] [zL 12 2 2, ⟨some 13, .callF 499 [(.t 12)], none⟩, zq 6 13])
 (.seq (.seq (.reg false [] [1, 2, 6, 14, 15, 16] [zm 14 6, zn 15 14, zc 16 (.int .i64 0)])
 (.block 0 (.loop (.seq (.reg false [] [1, 2, 6, 14, 15, 16, 17] [zb 17 .lss 16 15])
 (.seq (.cond (.t 17) .skip
 (.exit 0))
 (.seq (.block 1 (.seq (.reg false [] [1, 2, 6, 7, 8, 14, 15, 16] [zm 18 16, zi 19 2 14 16, zL 20 2 19, ⟨some 8, .alc [.int .i64 0, .int .i64 0], none⟩, zm 7 18, ⟨none, .st 2 [] (.t 8) (.t 20), none⟩])
 (.reg false [] [1, 2, 6, 14, 15, 16] [zm 21 6, zm 22 7, ⟨some 23, .iadA 2 1 (.t 8) (.c (.int .i64 1)), none⟩, zl 24 1 23, ⟨some 25, .iadA 2 1 (.t 8) (.c (.int .i64 0)), none⟩, zl 26 1 25, ⟨some 27, .bld [.int .i64 0, .int .i64 0] [(0, 1, (.t 24)), (1, 1, (.t 26))], none⟩, zi 28 2 21 22, ⟨none, .st 2 [] (.t 28) (.t 27), none⟩])))
 (.reg false [] [1, 2, 6, 14, 15, 16] [zd 29 .add 16 (.int .i64 1), zm 16 29])))))))
 (.seq (.reg false [] [4, 5] [zL 30 2 2, zm 31 1, ⟨some 32, .frz (.t 6), none⟩, zk 33 500 [(.t 30), (.t 31), (.t 32)], zx 34 0 33, zx 35 1 33, zq 4 34, zm 5 35])
 .ret))))) }
def N465_ref30_spans : NFun := { np := 2, nt := 43, res := [(4, none)], body :=
 (.seq (.reg false [] [0, 1] [zc 4 (.int .i64 0)])
 (.seq (.seq (.reg false [] [0, 1, 5] [zc 5 (.int .i64 0)])
 (.block 0 (.loop (.seq (.seq (.reg false [] [0, 1, 5, 10] [zm 7 5, zm 8 0, zn 9 8, zb 10 .lss 7 9])
 (.cond (.t 10) .skip
 (.exit 0)))
 (.seq (.block 1 (.seq (.reg false [] [0, 1, 5, 18] [zm 13 0, zm 14 5, zi 15 2 13 14, zL 16 2 15, zk 17 501 [(.t 16)], zt 18 17])
 (.cond (.t 18) (.seq (.reg false [] [4] [zc 4 (.int .i64 1)])
 .ret)
 .skip)))
 (.reg false [] [0, 1, 5] [zm 11 5, zd 12 .add 11 (.int .i64 1), zm 5 12]))))))
 (.seq (.seq (.reg false [] [0, 22] [zm 19 0, zn 20 19, zm 21 1, zb 22 .neq 20 21])
 (.cond (.t 22) (.seq (.reg false [] [4] [zc 4 (.int .i64 3)])
 .ret)
 .skip))
 (.seq (.seq (.reg false [] [0, 6] [zc 6 (.int .i64 0)])
 (.block 2 (.loop (.seq (.seq (.reg false [] [0, 6, 26] [zm 23 6, zm 24 0, zn 25 24, zb 26 .lss 23 25])
 (.cond (.t 26) .skip
 (.exit 2)))
 (.seq (.block 3 (.seq (.reg false [] [0, 6, 42] [zm 29 0, zm 30 6, zi 31 2 29 30, zf 32 0 31, zl 33 1 32, zd 34 .lss 33 (.int .i64 0), zm 35 34, zg 35 false (zm 36 0), zg 35 false (zm 37 6), zg 35 false (zi 38 2 36 37), zg 35 false (zf 39 1 38), zg 35 false (zl 40 1 39), zg 35 false (zd 41 .gtr 40 (.int .i64 1099511627776)), ⟨some 42, .pick (.t 35) (.c (.bool true)) (.t 41), none⟩])
 (.cond (.t 42) (.seq (.reg false [] [4] [zc 4 (.int .i64 2)])
 .ret)
 .skip)))
 (.reg false [] [0, 6] [zm 27 6, zd 28 .add 27 (.int .i64 1), zm 6 28]))))))
 (.seq (.reg false [] [4] [zc 4 (.int .i64 0)])
 .ret))))) }
def N467_ref26_FindLink : NFun := { np := 2, nt := 22, res := [(4, none)], body :=
 (.seq (.reg false [] [1, 2] [zo 2 0, zc 4 (.int .i64 0)])
 (.seq (.seq (.reg false [] [1, 2, 5] [zc 5 (.int .i64 0)])
 (.block 0 (.loop (.seq (.seq (.reg false [] [1, 2, 5, 10] [zm 6 5, zf 7 1 2, zl 8 1 7, zn 9 8, zb 10 .lss 6 9])
 (.cond (.t 10) .skip
 (.exit 0)))
 (.seq (.block 1 (.seq (.reg false [] [1, 2, 5, 20] [zf 13 1 2, zl 14 1 13, zm 15 5, zi 16 11 14 15, zf 17 0 16, zl 18 1 17, zm 19 1, zb 20 .eql 18 19])
 (.cond (.t 20) (.seq (.reg false [] [4] [zm 21 5, zm 4 21])
 .ret)
 .skip)))
 (.reg false [] [1, 2, 5] [zm 11 5, zd 12 .add 11 (.int .i64 1), zm 5 12]))))))
 (.seq (.reg false [] [4] [⟨some 4, .mov (.c (.int .i64 (-1))), none⟩])
 .ret))) }
def N470_steady_Tree_1 : NFun := { np := 1, nt := 6, res := [(2, none)], body :=
 (.seq (.reg false [] [1] [zo 1 0, zc 2 (.bool false)])
 (.seq (.reg false [] [2] [zf 3 3 1, zl 4 1 3, zd 5 .neq 4 (.int .i64 1), zm 2 5])
 .ret)) }
def N471_network_Edges : NFun := { np := 1, nt := 9, res := [(2, none), (3, none)], body :=
 (.seq (.reg false [] [1] [zo 1 0, zc 2 .nils, zc 3 (.int .i64 0)])
 (.seq (.seq (.reg false [] [1, 6] [zL 4 2 1, zk 5 164 [(.t 4)], zt 6 5])
 (.cond (.t 6) (.seq (.reg false [] [2, 3] [zc 2 .nils, zc 3 (.int .i64 1)])
 .ret)
 .skip))
 (.seq (.reg false [] [2, 3] [zL 7 2 1, zk 8 499 [(.t 7)], zq 2 8, zc 3 (.int .i64 0)])
 .ret))) }
def N472_digraph_Tree : NFun := { np := 2, nt := 36, res := [(4, none)], body :=
 (.seq (.reg false [] [0, 1] [zc 4 (.bool false)])
 (.seq (.seq (.reg false [] [0, 1, 11] [zm 8 0, zm 9 1, zk 10 503 [(.t 8), (.t 9)], zt 11 10])
 (.cond (.t 11) (.seq (.reg false [] [4] [zc 4 (.bool false)])
 .ret)
 .skip))
 (.seq (.reg false [] [0, 1, 5] [zm 12 0, ⟨some 13, .mks 1 1 [.bool false] (.t 12) (.t 12), none⟩, zq 5 13])
 (.seq (.seq (.reg false [] [0, 1, 5, 14, 15, 16] [zm 14 1, zn 15 14, zc 16 (.int .i64 0)])
 (.block 0 (.loop (.seq (.reg false [] [0, 1, 5, 14, 15, 16, 17] [zb 17 .lss 16 15])
 (.seq (.cond (.t 17) .skip
 (.exit 0))
 (.seq (.block 1 (.seq (.reg false [] [0, 1, 5, 7, 14, 15, 16] [zi 18 2 14 16, zL 19 2 18, ⟨some 7, .alc [.int .i64 0, .int .i64 0], none⟩, ⟨none, .st 2 [] (.t 7) (.t 19), none⟩])
 (.seq (.seq (.reg false [] [0, 1, 5, 7, 14, 15, 16, 24] [zm 20 5, ⟨some 21, .iadA 2 1 (.t 7) (.c (.int .i64 0)), none⟩, zl 22 1 21, zi 23 1 20 22, zl 24 1 23])
 (.cond (.t 24) (.seq (.reg false [] [4] [zc 4 (.bool false)])
 .ret)
 .skip))
 (.reg false [] [0, 1, 5, 14, 15, 16] [zm 25 5, ⟨some 26, .iadA 2 1 (.t 7) (.c (.int .i64 0)), none⟩, zl 27 1 26, zi 28 1 25 27, ⟨none, .st 1 [] (.t 28) (.c (.bool true)), none⟩]))))
 (.reg false [] [0, 1, 5, 14, 15, 16] [zd 29 .add 16 (.int .i64 1), zm 16 29])))))))
 (.seq (.reg false [] [4] [zm 30 0, zq 31 1, zk 32 504 [(.t 30), (.t 31)], zn 33 32, zm 34 0, zb 35 .eql 33 34, zm 4 35])
 .ret))))) }
def N473_steady_pipes : NFun := { np := 4, nt := 27, res := [(8, none)], body :=
 (.seq (.reg false [] [1, 2, 3, 4] [zo 4 0, zc 8 (.int .i64 0)])
 (.seq (.seq (.reg false [] [1, 2, 3, 4, 17] [zL 10 2 4, zk 11 433 [(.t 10)], zt 12 11, zm 13 12, zg 13 false (zm 14 1), zg 13 false (zk 15 44 [(.t 14)]), zg 13 false (zt 16 15), ⟨some 17, .pick (.t 13) (.c (.bool true)) (.t 16), none⟩])
 (.cond (.t 17) (.seq (.reg false [] [8] [zc 8 (.int .i64 1)])
 .ret)
 .skip))
 (.seq (.seq (.reg false [] [1, 4, 9] [zq 18 2, zm 19 3, zk 20 460 [(.t 18), (.t 19)], zm 9 20])
 (.seq (.reg false [] [1, 4, 9, 22] [zm 21 9, zd 22 .neq 21 (.int .i64 0)])
 (.cond (.t 22) (.seq (.reg false [] [8] [zm 23 9, zm 8 23])
 .ret)
 .skip)))
 (.seq (.reg false [] [8] [zL 24 2 4, zq 25 1, zk 26 481 [(.t 24), (.t 25)], zm 8 26])
 .ret)))) }
def N474_steady_fall : NFun := { np := 1, nt := 9, res := [(2, none)], body :=
 (.seq (.reg false [] [1] [zo 1 0, zc 2 (.int .i64 0)])
 (.seq (.reg false [] [2] [zf 3 5 1, zl 4 1 3, zf 5 6 1, zl 6 1 5, zb 7 .sub 4 6, ⟨some 8, .mn (.t 7) (.c (.int .i64 4194304)), none⟩, zm 2 8])
 .ret)) }
def N475_steady_full : NFun := { np := 2, nt := 35, res := [(4, none), (5, none)], body :=
 (.seq (.reg false [] [0, 3] [zo 3 1, zc 4 (.int .i64 0), zc 5 (.int .i64 0)])
 (.seq (.reg false [] [0, 3, 6, 7] [zm 10 0, zf 11 7 3, zl 12 1 11, zk 13 441 [(.t 10), (.t 12)], zm 9 13, zx 14 0 9, zx 15 1 9, zm 6 14, zm 7 15])
 (.seq (.seq (.reg false [] [0, 3, 6, 7, 17] [zm 16 7, zd 17 .neq 16 (.int .i64 0)])
 (.cond (.t 17) (.seq (.reg false [] [4, 5] [zm 18 7, zc 4 (.int .i64 0), zm 5 18])
 .ret)
 .skip))
 (.seq (.reg true [0, 0, 3, 7, 0, 16, 0, 64, 255, 511, 1023, 1023, 2047, 8191] [7, 8] [zq 20 0, zm 21 6, zi 22 5 20 21, zL 23 5 22, zL 24 11 3, zk 25 474 [(.t 24)], zf 26 4 3, zl 27 1 26, zk 28 47 [(.t 23), (.t 25), (.t 27)], zm 19 28, zx 29 0 19, zx 30 1 19, zm 8 29, zm 7 30])
 (.seq (.seq (.reg false [] [7, 8, 32] [zm 31 7, zd 32 .eql 31 (.int .i64 5)])
 (.cond (.t 32) (.seq (.reg false [] [4, 5] [zc 4 (.int .i64 1099511627776), zc 5 (.int .i64 0)])
 .ret)
 .skip))
 (.seq (.reg false [] [4, 5] [zm 33 8, zm 34 7, zm 4 33, zm 5 34])
 .ret)))))) }
def N479_ref30_pipes : NFun := { np := 2, nt := 43, res := [(4, none)], body :=
 (.seq (.reg false [] [1, 2] [zo 2 0, zc 4 (.int .i64 0)])
 (.seq (.seq (.reg false [] [1, 2, 5] [zc 5 (.int .i64 0)])
 (.block 0 (.loop (.seq (.seq (.reg false [] [1, 2, 5, 11] [zm 7 5, zf 8 1 2, zl 9 1 8, zn 10 9, zb 11 .lss 7 10])
 (.cond (.t 11) .skip
 (.exit 0)))
 (.seq (.block 1 (.seq (.reg false [] [1, 2, 5, 22] [zm 14 1, zf 15 1 2, zl 16 1 15, zm 17 5, zi 18 11 16 17, zf 19 7 18, zl 20 1 19, zk 21 49 [(.t 14), (.t 20)], zd 22 .lss 21 (.int .i64 0)])
 (.cond (.t 22) (.seq (.reg false [] [4] [zc 4 (.int .i64 9)])
 .ret)
 .skip)))
 (.reg false [] [1, 2, 5] [zm 12 5, zd 13 .add 12 (.int .i64 1), zm 5 13]))))))
 (.seq (.seq (.reg false [] [2, 6] [zc 6 (.int .i64 0)])
 (.block 2 (.loop (.seq (.seq (.reg false [] [2, 6, 27] [zm 23 6, zf 24 1 2, zl 25 1 24, zn 26 25, zb 27 .lss 23 26])
 (.cond (.t 27) .skip
 (.exit 2)))
 (.seq (.block 3 (.seq (.reg true [0, 1, 0, 7, 15, 31, 0, 64, 0, 448, 960, 1984, 4095] [2, 6, 42] [zf 30 1 2, zl 31 1 30, zm 32 6, zi 33 11 31 32, zf 34 5 33, zl 35 1 34, zf 36 1 2, zl 37 1 36, zm 38 6, zi 39 11 37 38, zf 40 6 39, zl 41 1 40, zb 42 .lss 35 41])
 (.cond (.t 42) (.seq (.reg false [] [4] [zc 4 (.int .i64 23)])
 .ret)
 .skip)))
 (.reg false [] [2, 6] [zm 28 6, zd 29 .add 28 (.int .i64 1), zm 6 29]))))))
 (.seq (.reg false [] [4] [zc 4 (.int .i64 0)])
 .ret)))) }
def N480_catalogue_Find_1 : NFun := { np := 2, nt := 8, res := [(3, none)], body :=
 (.seq (.reg false [] [1, 2] [zo 2 0, zc 3 (.bool false)])
 (.seq (.reg false [] [3] [zf 4 0 2, zl 5 1 4, zl 6 1 1, zb 7 .eql 5 6, zm 3 7])
 .ret)) }
def N481_steady_sections : NFun := { np := 2, nt := 30, res := [(4, none)], body :=
 (.seq (.reg false [] [1, 2] [zo 2 0, zc 4 (.int .i64 0)])
 (.seq (.seq (.reg false [] [1, 2, 10, 11, 12] [zf 9 1 2, zl 10 1 9, zn 11 10, zc 12 (.int .i64 0)])
 (.block 0 (.loop (.seq (.reg false [] [1, 2, 10, 11, 12, 13] [zb 13 .lss 12 11])
 (.seq (.cond (.t 13) .skip
 (.exit 0))
 (.seq (.block 1 (.seq (.reg false [] [1, 2, 6, 10, 11, 12] [zi 14 11 10 12, zL 15 11 14, ⟨some 6, .alc [.str [], .str [], .str [], .int .i64 0, .int .i64 0, .int .i64 0, .int .i64 0, .str [], .int .i64 0, .int .i64 0, .own 2 []], none⟩, ⟨none, .st 11 [] (.t 6) (.t 15), none⟩])
 (.seq (.reg false [] [1, 2, 8, 10, 11, 12] [zm 17 1, zf 18 7 6, zl 19 1 18, zk 20 441 [(.t 17), (.t 19)], zm 16 20, zx 21 0 16, zx 22 1 16, zm 7 21, zm 8 22])
 (.seq (.reg false [] [1, 2, 8, 10, 11, 12, 24] [zm 23 8, zd 24 .neq 23 (.int .i64 0)])
 (.cond (.t 24) (.seq (.reg false [] [4] [zm 25 8, zm 4 25])
 .ret)
 .skip)))))
 (.reg false [] [1, 2, 10, 11, 12] [zd 26 .add 12 (.int .i64 1), zm 12 26])))))))
 (.seq (.seq (.reg false [] [29] [zf 27 1 2, zl 28 1 27, ⟨some 29, .call 455 [(.t 28), (.c (.fn 506 []))] [], none⟩])
 (.cond (.t 29) (.seq (.reg false [] [4] [zc 4 (.int .i64 23)])
 .ret)
 .skip))
 (.seq (.reg false [] [4] [zc 4 (.int .i64 0)])
 .ret)))) }
def N482_network_Node : NFun := { np := 2, nt := 16, res := [(4, none), (5, none)], body :=
 (.seq (.reg false [] [1, 2] [zo 2 0, zc 4 (.int .i64 0), zc 5 (.int .i64 0)])
 (.seq (.seq (.reg false [] [1, 2, 8] [zL 6 2 2, zk 7 164 [(.t 6)], zt 8 7])
 (.cond (.t 8) (.seq (.reg false [] [4, 5] [zc 4 (.int .i64 0), zc 5 (.int .i64 1)])
 .ret)
 .skip))
 (.seq (.reg true [0, 0, 0, 6, 15, 31, 31, 127, 255] [4, 5] [zL 9 2 2, zL 10 2 2, zm 11 1, zk 12 169 [(.t 10), (.t 11)], zk 13 498 [(.t 9), (.t 12)], zx 14 0 13, zx 15 1 13, zm 4 14, zm 5 15])
 .ret))) }
def N483_steady_Most_1 : NFun := { np := 2, nt := 8, res := [(3, none)], body :=
 (.seq (.reg false [] [1, 2] [zo 2 0, zc 3 (.bool false)])
 (.seq (.reg false [] [3] [zf 4 1 2, zl 5 1 4, zl 6 1 1, zb 7 .eql 5 6, zm 3 7])
 .ret)) }
def N485_slices_Index__string_string : NFun := { np := 2, nt := 19, res := [(4, none)], body :=
 (.seq (.reg false [] [0, 1] [zc 4 (.int .i64 0)])
 (.seq (.seq (.reg false [] [0, 1, 7, 8] [zm 6 0, zn 7 6, zc 8 (.int .i64 0)])
 (.block 0 (.loop (.seq (.reg false [] [0, 1, 7, 8, 9] [zb 9 .lss 8 7])
 (.seq (.cond (.t 9) .skip
 (.exit 0))
 (.seq (.block 1 (.seq (.reg false [] [0, 1, 5, 7, 8] [zm 10 8, zm 5 10])
 (.seq (.reg false [] [0, 1, 5, 7, 8, 16] [zm 11 1, zm 12 0, zm 13 5, zi 14 1 12 13, zl 15 1 14, zb 16 .eql 11 15])
 (.cond (.t 16) (.seq (.reg false [] [4] [zm 17 5, zm 4 17])
 .ret)
 .skip))))
 (.reg false [] [0, 1, 7, 8] [zd 18 .add 8 (.int .i64 1), zm 8 18])))))))
 (.seq (.reg false [] [4] [⟨some 4, .mov (.c (.int .i64 (-1))), none⟩])
 .ret))) }
def N486_law30_example_1 : NFun := { np := 1, nt := 8, res := [(2, some (9, true))], body :=
 (.seq (.reg false [] [0, 2] [⟨some 2, .alc [.str [], .int .i64 0, .int .i64 0, .int .i64 0, .int .i64 0, .int .i64 0, .own 2 [], .bool false, .int .i64 0], none⟩])
 (.seq (.reg false [] [2] [zm 3 0, ⟨some 4, .bld [.int .i64 0, .int .i64 0] [], none⟩, ⟨some 5, .bld [.int .i64 0, .int .i64 0] [(0, 1, (.c (.int .i64 9))), (1, 1, (.c (.int .i64 5)))], none⟩, ⟨some 6, .bls 2 2 [.int .i64 0, .int .i64 0] [] [(0, (.t 4)), (1, (.t 5))], none⟩, ⟨some 7, .bld [.str [], .int .i64 0, .int .i64 0, .int .i64 0, .int .i64 0, .int .i64 0, .nils, .bool false, .int .i64 0] [(0, 1, (.t 3)), (1, 1, (.c (.int .i64 1))), (5, 1, (.c (.int .i64 9))), (6, 1, (.t 6))], none⟩, ⟨none, .st 9 [] (.t 2) (.t 7), none⟩])
 .ret)) }
def N487_law30_example_2 : NFun := { np := 3, nt := 11, res := [(6, some (11, true))], body :=
 (.seq (.reg false [] [0, 1, 2, 6] [⟨some 6, .alc [.str [], .str [], .str [], .int .i64 0, .int .i64 0, .int .i64 0, .int .i64 0, .str [], .int .i64 0, .int .i64 0, .own 2 []], none⟩])
 (.seq (.reg false [] [6] [zm 7 0, zm 8 1, zm 9 2, ⟨some 10, .bld [.str [], .str [], .str [], .int .i64 0, .int .i64 0, .int .i64 0, .int .i64 0, .str [], .int .i64 0, .int .i64 0, .nils] [(0, 1, (.t 7)), (1, 1, (.t 8)), (2, 1, (.t 9)), (3, 1, (.c (.int .i64 1))), (4, 1, (.c (.int .i64 5))), (5, 1, (.c (.int .i64 3))), (7, 1, (.c (.str [115])))], none⟩, ⟨none, .st 11 [] (.t 6) (.t 10), none⟩])
 .ret)) }
def N488_ref26_RightNode : NFun := { np := 1, nt := 105, res := [(2, none)], body :=
 (.seq (.reg false [] [1] [zo 1 0, zc 2 (.bool false)])
 (.seq (.seq (.reg false [] [1, 32] [zf 3 0 1, zl 4 1 3, zk 5 54 [(.t 4)], zt 6 5, zm 7 6, zg 7 false (zf 8 2 1), zg 7 false (zf 9 0 8), zg 7 false (zl 10 1 9), zg 7 false (zk 11 507 [(.t 10)]), zg 7 false (zt 12 11), ⟨some 13, .pick (.t 7) (.c (.bool true)) (.t 12), none⟩, zm 14 13, zg 14 false (zf 15 2 1), zg 14 false (zf 16 1 15), zg 14 false (zl 17 1 16), zg 14 false (zk 18 507 [(.t 17)]), zg 14 false (zt 19 18), ⟨some 20, .pick (.t 14) (.c (.bool true)) (.t 19), none⟩, zm 21 20, zg 21 false (zf 22 4 1), zg 21 false (zl 23 1 22), zg 21 false (zk 24 199 [(.t 23)]), zg 21 false (zt 25 24), ⟨some 26, .pick (.t 21) (.c (.bool true)) (.t 25), none⟩, zm 27 26, zg 27 false (zf 28 5 1), zg 27 false (zl 29 1 28), zg 27 false (zk 30 199 [(.t 29)]), zg 27 false (zt 31 30), ⟨some 32, .pick (.t 27) (.c (.bool true)) (.t 31), none⟩])
 (.cond (.t 32) (.seq (.reg false [] [2] [zc 2 (.bool false)])
 .ret)
 .skip))
 (.seq (.seq (.reg false [] [1, 34] [zf 33 1 1, zl 34 1 33])
 (.block 0 (.seq (.reg false [] [1, 34, 35] [zd 36 .eql 34 (.int .i64 3), zm 35 36])
 (.cond (.t 35) (.seq (.reg false [] [2] [zf 37 5 1, zl 38 1 37, zf 39 4 1, zl 40 1 39, zb 41 .geq 38 40, zm 42 41, zg 42 true (zf 43 6 1), zg 42 true (zl 44 1 43), zg 42 true (zn 45 44), zg 42 true (zd 46 .eql 45 (.int .i64 0)), ⟨some 47, .pick (.t 42) (.t 46) (.c (.bool false)), none⟩, zm 48 47, zg 48 true (zf 49 7 1), zg 48 true (zl 50 1 49), zg 48 true (zt 51 50), ⟨some 52, .pick (.t 48) (.t 51) (.c (.bool false)), none⟩, zm 53 52, zg 53 true (zf 54 8 1), zg 53 true (zl 55 1 54), zg 53 true (zd 56 .eql 55 (.int .i64 0)), ⟨some 57, .pick (.t 53) (.t 56) (.c (.bool false)), none⟩, zm 2 57])
 .ret)
 (.seq (.seq (.reg false [] [1, 34, 58] [zd 59 .eql 34 (.int .i64 1), zm 58 59])
 (.cond (.t 58) .skip
 (.reg false [] [1, 58] [zd 60 .eql 34 (.int .i64 2), zm 58 60])))
 (.cond (.t 58) (.seq (.seq (.reg false [] [1, 76] [zf 61 5 1, zl 62 1 61, zf 63 4 1, zl 64 1 63, zb 65 .leq 62 64, zm 66 65, zg 66 false (zf 67 6 1), zg 66 false (zl 68 1 67), zg 66 false (zf 69 5 1), zg 66 false (zl 70 1 69), zg 66 false (zf 71 4 1), zg 66 false (zl 72 1 71), zg 66 false (zb 73 .sub 70 72), zg 66 false (zk 74 508 [(.t 68), (.t 73)]), zg 66 false (zt 75 74), ⟨some 76, .pick (.t 66) (.c (.bool true)) (.t 75), none⟩])
 (.cond (.t 76) (.seq (.reg false [] [2] [zc 2 (.bool false)])
 .ret)
 .skip))
 (.seq (.seq (.reg false [] [1, 79] [zf 77 7 1, zl 78 1 77, zt 79 78])
 (.cond (.t 79) (.seq (.reg false [] [2] [zf 80 8 1, zl 81 1 80, zd 82 .eql 81 (.int .i64 0), zm 2 82])
 .ret)
 .skip))
 (.seq (.reg true [0, 1, 3, 7, 15, 31, 63, 127, 255, 511, 1023, 511, 2559, 511, 8703, 25087, 57855, 129535, 260607, 522751, 1048575, 2097151, 4194303] [2] [zf 83 1 1, zl 84 1 83, zd 85 .eql 84 (.int .i64 2), zm 86 85, zg 86 true (zf 87 8 1), zg 86 true (zl 88 1 87), zg 86 true (zd 89 .geq 88 (.int .i64 0)), ⟨some 90, .pick (.t 86) (.t 89) (.c (.bool false)), none⟩, zm 91 90, zg 91 true (zf 92 8 1), zg 91 true (zl 93 1 92), zg 91 true (zf 94 6 1), zg 91 true (zl 95 1 94), zg 91 true (zf 96 6 1), zg 91 true (zl 97 1 96), zg 91 true (zn 98 97), zg 91 true (zd 99 .sub 98 (.int .i64 1)), zg 91 true (zi 100 2 95 99), zg 91 true (zf 101 1 100), zg 91 true (zl 102 1 101), zg 91 true (zb 103 .leq 93 102), ⟨some 104, .pick (.t 91) (.t 103) (.c (.bool false)), none⟩, zm 2 104])
 .ret)))
 .skip))))))
 (.seq (.reg false [] [2] [zc 2 (.bool false)])
 .ret)))) }
def N489_ref08_Valid : NFun := { np := 2, nt := 55, res := [(4, none)], body :=
 (.seq (.reg false [] [0, 1] [zc 4 (.bool false)])
 (.seq (.seq (.reg false [] [0, 1, 16] [zm 6 0, zd 7 .lss 6 (.int .i64 0), zm 8 7, zg 8 false (zm 9 0), zg 8 false (zd 10 .gtr 9 (.int .i64 300)), ⟨some 11, .pick (.t 8) (.c (.bool true)) (.t 10), none⟩, zm 12 11, zg 12 false (zm 13 1), zg 12 false (zn 14 13), zg 12 false (zd 15 .gtr 14 (.int .i64 1000)), ⟨some 16, .pick (.t 12) (.c (.bool true)) (.t 15), none⟩])
 (.cond (.t 16) (.seq (.reg false [] [4] [zc 4 (.bool false)])
 .ret)
 .skip))
 (.seq (.seq (.reg false [] [0, 1, 5] [zc 5 (.int .i64 0)])
 (.block 0 (.loop (.seq (.seq (.reg false [] [0, 1, 5, 20] [zm 17 5, zm 18 1, zn 19 18, zb 20 .lss 17 19])
 (.cond (.t 20) .skip
 (.exit 0)))
 (.seq (.block 1 (.seq (.reg false [] [0, 1, 5, 54] [zm 23 1, zm 24 5, zi 25 2 23 24, ⟨some 26, .iadA 2 1 (.t 25) (.c (.int .i64 0)), none⟩, zl 27 1 26, zd 28 .lss 27 (.int .i64 0), zm 29 28, zg 29 false (zm 30 1), zg 29 false (zm 31 5), zg 29 false (zi 32 2 30 31), zg 29 false (⟨some 33, .iadA 2 1 (.t 32) (.c (.int .i64 0)), none⟩), zg 29 false (zl 34 1 33), zg 29 false (zm 35 0), zg 29 false (zb 36 .geq 34 35), ⟨some 37, .pick (.t 29) (.c (.bool true)) (.t 36), none⟩, zm 38 37, zg 38 false (zm 39 1), zg 38 false (zm 40 5), zg 38 false (zi 41 2 39 40), zg 38 false (⟨some 42, .iadA 2 1 (.t 41) (.c (.int .i64 1)), none⟩), zg 38 false (zl 43 1 42), zg 38 false (zd 44 .lss 43 (.int .i64 0)), ⟨some 45, .pick (.t 38) (.c (.bool true)) (.t 44), none⟩, zm 46 45, zg 46 false (zm 47 1), zg 46 false (zm 48 5), zg 46 false (zi 49 2 47 48), zg 46 false (⟨some 50, .iadA 2 1 (.t 49) (.c (.int .i64 1)), none⟩), zg 46 false (zl 51 1 50), zg 46 false (zm 52 0), zg 46 false (zb 53 .geq 51 52), ⟨some 54, .pick (.t 46) (.c (.bool true)) (.t 53), none⟩])
 (.cond (.t 54) (.seq (.reg false [] [4] [zc 4 (.bool false)])
 .ret)
 .skip)))
 (.reg false [] [0, 1, 5] [zm 21 5, zd 22 .add 21 (.int .i64 1), zm 5 22]))))))
 (.seq (.reg false [] [4] [zc 4 (.bool true)])
 .ret)))) }
def N490_ref08_Order : NFun := { np := 2, nt := 67, res := [(4, none), (5, none)], body :=
 (.seq (.reg false [] [0, 1] [zc 4 .nils, zc 5 (.bool false)])
 (.seq (.reg false [] [0, 1, 6] [zm 12 0, ⟨some 13, .mks 1 1 [.bool false] (.t 12) (.t 12), none⟩, zq 6 13])
 (.seq (.reg false [] [0, 1, 6, 7] [⟨some 7, .nilo 1, none⟩])
 (.seq (.block 0 (.loop (.seq (.seq (.reg false [] [0, 1, 6, 7, 17] [zm 14 7, zn 15 14, zm 16 0, zb 17 .lss 15 16])
 (.cond (.t 17) .skip
 (.exit 0)))
 (.block 1 (.seq (.reg false [] [0, 1, 6, 7, 8] [⟨some 8, .mov (.c (.int .i64 (-1))), none⟩])
 (.seq (.seq (.reg false [] [0, 1, 6, 7, 8, 9] [zc 9 (.int .i64 0)])
 (.block 2 (.loop (.seq (.seq (.reg false [] [0, 1, 6, 7, 8, 9, 24] [zm 18 9, zm 19 0, zb 20 .lss 18 19, zm 21 20, zg 21 true (zm 22 8), zg 21 true (zd 23 .lss 22 (.int .i64 0)), ⟨some 24, .pick (.t 21) (.t 23) (.c (.bool false)), none⟩])
 (.cond (.t 24) .skip
 (.exit 2)))
 (.seq (.block 3 (.seq (.seq (.reg false [] [0, 1, 6, 7, 8, 9, 30] [zm 27 6, zm 28 9, zi 29 1 27 28, zl 30 1 29])
 (.cond (.t 30) (.exit 3)
 .skip))
 (.seq (.reg false [] [0, 1, 6, 7, 8, 9, 10] [zc 10 (.bool true)])
 (.seq (.seq (.reg false [] [0, 1, 6, 7, 8, 9, 10, 11] [zc 11 (.int .i64 0)])
 (.block 4 (.loop (.seq (.seq (.reg false [] [0, 1, 6, 7, 8, 9, 10, 11, 34] [zm 31 11, zm 32 1, zn 33 32, zb 34 .lss 31 33])
 (.cond (.t 34) .skip
 (.exit 4)))
 (.seq (.block 5 (.seq (.reg false [] [0, 1, 6, 7, 8, 9, 10, 11, 54] [zm 37 1, zm 38 11, zi 39 2 37 38, ⟨some 40, .iadA 2 1 (.t 39) (.c (.int .i64 1)), none⟩, zl 41 1 40, zm 42 9, zb 43 .eql 41 42, zm 44 43, zg 44 true (zm 45 6), zg 44 true (zm 46 1), zg 44 true (zm 47 11), zg 44 true (zi 48 2 46 47), zg 44 true (⟨some 49, .iadA 2 1 (.t 48) (.c (.int .i64 0)), none⟩), zg 44 true (zl 50 1 49), zg 44 true (zi 51 1 45 50), zg 44 true (zl 52 1 51), zg 44 true (zt 53 52), ⟨some 54, .pick (.t 44) (.t 53) (.c (.bool false)), none⟩])
 (.cond (.t 54) (.reg false [] [0, 1, 6, 7, 8, 9, 10, 11] [zc 10 (.bool false)])
 .skip)))
 (.reg false [] [0, 1, 6, 7, 8, 9, 10, 11] [zm 35 11, zd 36 .add 35 (.int .i64 1), zm 11 36]))))))
 (.seq (.reg false [] [0, 1, 6, 7, 8, 9, 55] [zm 55 10])
 (.cond (.t 55) (.reg false [] [0, 1, 6, 7, 8, 9] [zm 56 9, zm 8 56])
 .skip))))))
 (.reg false [] [0, 1, 6, 7, 8, 9] [zm 25 9, zd 26 .add 25 (.int .i64 1), zm 9 26]))))))
 (.seq (.seq (.reg false [] [0, 1, 6, 7, 8, 58] [zm 57 8, zd 58 .lss 57 (.int .i64 0)])
 (.cond (.t 58) (.seq (.reg false [] [4, 5] [zc 4 .nils, zc 5 (.bool false)])
 .ret)
 .skip))
 (.seq (.reg false [] [0, 1, 6, 7, 8] [zm 59 6, zm 60 8, zi 61 1 59 60, ⟨none, .st 1 [] (.t 61) (.c (.bool true)), none⟩])
 (.reg false [] [0, 1, 6, 7] [zm 62 7, zm 63 8, ⟨some 64, .bls 1 1 [.int .i64 0] [] [(0, (.t 63))], none⟩, ⟨some 65, .app 1 8 false (.t 62) (.t 64), none⟩, zq 7 65])))))))))
 (.seq (.reg false [] [4, 5] [zq 66 7, zq 4 66, zc 5 (.bool true)])
 .ret))))) }
def N491_slices_ContainsFunc__api_Span_api_Span : NFun := { np := 2, nt := 9, res := [(4, none)], body :=
 (.seq (.reg false [] [0, 1] [zc 4 (.bool false)])
 (.seq (.reg false [] [4] [zq 5 0, zm 6 1, zk 7 509 [(.t 5), (.t 6)], zd 8 .geq 7 (.int .i64 0), zm 4 8])
 .ret)) }
def N492_steady_spans_1 : NFun := { np := 1, nt := 6, res := [(2, none)], body :=
 (.seq (.reg false [] [1] [zo 1 0, zc 2 (.bool false)])
 (.seq (.reg false [] [2] [zL 3 2 1, zk 4 493 [(.t 3)], zt 5 4, zm 2 5])
 .ret)) }
def N493_span_Valid : NFun := { np := 1, nt := 18, res := [(2, none)], body :=
 (.seq (.reg false [] [1] [zo 1 0, zc 2 (.bool false)])
 (.seq (.reg false [] [2] [zf 3 0 1, zl 4 1 3, zf 5 1 1, zl 6 1 5, zb 7 .leq 4 6, zm 8 7, zg 8 true (zf 9 0 1), zg 8 true (zl 10 1 9), zg 8 true (zk 11 510 [(.t 10)]), ⟨some 12, .pick (.t 8) (.t 11) (.c (.bool false)), none⟩, zm 13 12, zg 13 true (zf 14 1 1), zg 13 true (zl 15 1 14), zg 13 true (zk 16 510 [(.t 15)]), ⟨some 17, .pick (.t 13) (.t 16) (.c (.bool false)), none⟩, zm 2 17])
 .ret)) }
def N494_steady_spans_2 : NFun := { np := 1, nt := 11, res := [(2, none)], body :=
 (.seq (.reg false [] [1] [zo 1 0, zc 2 (.bool false)])
 (.seq (.reg false [] [2] [zf 3 0 1, zl 4 1 3, zd 5 .lss 4 (.int .i64 0), zm 6 5, zg 6 false (zf 7 1 1), zg 6 false (zl 8 1 7), zg 6 false (zd 9 .gtr 8 (.int .i64 1099511627776)), ⟨some 10, .pick (.t 6) (.c (.bool true)) (.t 9), none⟩, zm 2 10])
 .ret)) }
def N495_network_Order : NFun := { np := 1, nt := 15, res := [(2, none), (3, none)], body :=
 (.seq (.reg false [] [1] [zo 1 0, zc 2 .nils, zc 3 (.int .i64 0)])
 (.seq (.seq (.reg false [] [1, 6] [zL 4 2 1, zk 5 164 [(.t 4)], zt 6 5])
 (.cond (.t 6) (.seq (.reg false [] [2, 3] [zc 2 .nils, zc 3 (.int .i64 1)])
 .ret)
 .skip))
 (.seq (.reg true [0, 1, 3, 0, 8, 31, 63, 63, 255, 511] [2, 3] [zf 7 0 1, zl 8 1 7, zn 9 8, zL 10 2 1, zk 11 499 [(.t 10)], zk 12 511 [(.t 9), (.t 11)], zx 13 0 12, zx 14 1 12, zq 2 13, zm 3 14])
 .ret))) }
def N496_slices_Clone__api_Span_api_Span : NFun := { np := 1, nt := 8, res := [(2, none)], body :=
 (.seq (.reg false [] [0] [zc 2 .nils])
 (.seq (.seq (.reg false [] [0, 4] [zm 3 0, ⟨some 4, .beq false [9] (.t 3) (.c .nils), none⟩])
 (.cond (.t 4) (.seq (.reg false [] [2] [zc 2 .nils])
 .ret)
 .skip))
 (.seq (.reg false [] [2] [⟨some 5, .bls 2 0 [.int .i64 0, .int .i64 0] [] [], none⟩, zq 6 0, ⟨some 7, .app 2 16 false (.t 5) (.t 6), none⟩, zq 2 7])
 .ret))) }
def N497_steady_flows_1 : NFun := { np := 1, nt := 6, res := [(2, none)], body :=
 (.seq (.reg false [] [1] [zo 1 0, zc 2 (.bool false)])
 (.seq (.reg false [] [2] [zf 3 1 1, zl 4 1 3, zd 5 .gtr 4 (.int .i64 1099511627776), zm 2 5])
 .ret)) }
def N498_network_found : NFun := { np := 2, nt := 9, res := [(4, none), (5, none)], body :=
 (.seq (.reg false [] [1] [zo 2 0, zc 4 (.int .i64 0), zc 5 (.int .i64 0)])
 (.seq (.seq (.reg false [] [1, 7] [zm 6 1, zd 7 .lss 6 (.int .i64 0)])
 (.cond (.t 7) (.seq (.reg false [] [4, 5] [zc 4 (.int .i64 0), zc 5 (.int .i64 9)])
 .ret)
 .skip))
 (.seq (.reg false [] [4, 5] [zm 8 1, zm 4 8, zc 5 (.int .i64 0)])
 .ret))) }
def N499_network_edges : NFun := { np := 1, nt := 27, res := [(2, none)], body :=
 (.seq (.reg false [] [1] [zo 1 0, zc 2 .nils])
 (.seq (.reg false [] [1, 3] [⟨some 3, .nilo 2, none⟩])
 (.seq (.seq (.reg false [] [1, 3, 7, 8, 9] [zf 6 1 1, zl 7 1 6, zn 8 7, zc 9 (.int .i64 0)])
 (.block 0 (.loop (.seq (.reg false [] [1, 3, 7, 8, 9, 10] [zb 10 .lss 9 8])
 (.seq (.cond (.t 10) .skip
 (.exit 0))
 (.seq (.block 1 (.seq (.reg false [] [1, 3, 5, 7, 8, 9] [zi 11 11 7 9, zL 12 11 11, ⟨some 5, .alc [.str [], .str [], .str [], .int .i64 0, .int .i64 0, .int .i64 0, .int .i64 0, .str [], .int .i64 0, .int .i64 0, .own 2 []], none⟩, ⟨none, .st 11 [] (.t 5) (.t 12), none⟩])
 (.reg true [0, 0, 0, 4, 14, 0, 0, 64, 254, 510, 1022, 2047, 4095] [1, 3, 7, 8, 9] [zm 13 3, zL 14 2 1, zf 15 1 5, zl 16 1 15, zk 17 169 [(.t 14), (.t 16)], zL 18 2 1, zf 19 2 5, zl 20 1 19, zk 21 169 [(.t 18), (.t 20)], ⟨some 22, .bld [.int .i64 0, .int .i64 0] [(0, 1, (.t 17)), (1, 1, (.t 21))], none⟩, ⟨some 23, .bls 2 1 [.int .i64 0, .int .i64 0] [] [(0, (.t 22))], none⟩, ⟨some 24, .app 2 16 false (.t 13) (.t 23), none⟩, zq 3 24])))
 (.reg false [] [1, 3, 7, 8, 9] [zd 25 .add 9 (.int .i64 1), zm 9 25])))))))
 (.seq (.reg false [] [2] [zq 26 3, zq 2 26])
 .ret)))) }
def N500_network_ways : NFun := { np := 3, nt := 75, res := [(6, none), (7, none)], body :=
 (.seq (.reg false [] [1, 2, 3] [zo 3 0, zc 6 .nils, zc 7 (.int .i64 0)])
 (.seq (.reg true [0, 0, 0, 6, 15, 31, 63, 63, 127, 511] [2, 3, 8, 9] [zL 18 2 3, zL 19 2 3, zm 20 1, zk 21 169 [(.t 19), (.t 20)], zk 22 498 [(.t 18), (.t 21)], zm 17 22, zx 23 0 17, zx 24 1 17, zm 8 23, zm 9 24])
 (.seq (.seq (.reg false [] [2, 3, 8, 9, 26] [zm 25 9, zd 26 .neq 25 (.int .i64 0)])
 (.cond (.t 26) (.seq (.reg false [] [6, 7] [zm 27 9, zc 6 .nils, zm 7 27])
 .ret)
 .skip))
 (.seq (.reg false [] [2, 3, 8, 10] [⟨some 10, .nilo 1, none⟩])
 (.seq (.seq (.reg false [] [2, 3, 8, 10, 28, 29, 30] [zm 28 2, zn 29 28, zc 30 (.int .i64 0)])
 (.block 0 (.loop (.seq (.reg false [] [2, 3, 8, 10, 28, 29, 30, 31] [zb 31 .lss 30 29])
 (.seq (.cond (.t 31) .skip
 (.exit 0))
 (.seq (.block 1 (.seq (.reg false [] [2, 3, 8, 10, 12, 28, 29, 30] [zi 32 2 28 30, zL 33 2 32, ⟨some 12, .alc [.int .i64 0, .int .i64 0], none⟩, ⟨none, .st 2 [] (.t 12) (.t 33), none⟩])
 (.seq (.reg false [] [2, 3, 8, 10, 12, 28, 29, 30, 37] [⟨some 34, .iadA 2 1 (.t 12) (.c (.int .i64 0)), none⟩, zl 35 1 34, zm 36 8, zb 37 .eql 35 36])
 (.cond (.t 37) (.reg false [] [2, 3, 8, 10, 28, 29, 30] [zm 38 10, ⟨some 39, .iadA 2 1 (.t 12) (.c (.int .i64 1)), none⟩, zl 40 1 39, ⟨some 41, .bls 1 1 [.int .i64 0] [] [(0, (.t 40))], none⟩, ⟨some 42, .app 1 8 false (.t 38) (.t 41), none⟩, zq 10 42])
 .skip))))
 (.reg false [] [2, 3, 8, 10, 28, 29, 30] [zd 43 .add 30 (.int .i64 1), zm 30 43])))))))
 (.seq (.reg false [] [3, 9, 13] [zf 45 0 3, zl 46 1 45, zn 47 46, zq 48 2, ⟨some 49, .frz (.t 10), none⟩, zk 50 512 [(.t 47), (.t 48), (.t 49)], zm 44 50, zx 51 0 44, zx 52 1 44, zq 13 51, zm 9 52])
 (.seq (.seq (.reg false [] [3, 9, 13, 54] [zm 53 9, zd 54 .neq 53 (.int .i64 0)])
 (.cond (.t 54) (.seq (.reg false [] [6, 7] [zm 55 9, zc 6 .nils, zm 7 55])
 .ret)
 .skip))
 (.seq (.reg false [] [3, 13, 14] [⟨some 14, .nilo 1, none⟩])
 (.seq (.seq (.reg false [] [13, 14, 57, 58, 59] [zf 56 0 3, zl 57 1 56, zn 58 57, zc 59 (.int .i64 0)])
 (.block 2 (.loop (.seq (.reg false [] [13, 14, 57, 58, 59, 60] [zb 60 .lss 59 58])
 (.seq (.cond (.t 60) .skip
 (.exit 2))
 (.seq (.block 3 (.seq (.reg false [] [13, 14, 15, 16, 57, 58, 59] [zm 61 59, zi 62 9 57 59, zL 63 9 62, ⟨some 16, .alc [.str [], .int .i64 0, .int .i64 0, .int .i64 0, .int .i64 0, .int .i64 0, .own 2 [], .bool false, .int .i64 0], none⟩, zm 15 61, ⟨none, .st 9 [] (.t 16) (.t 63), none⟩])
 (.seq (.reg false [] [13, 14, 16, 57, 58, 59, 67] [zm 64 13, zm 65 15, zi 66 1 64 65, zl 67 1 66])
 (.cond (.t 67) (.reg false [] [13, 14, 57, 58, 59] [zm 68 14, zf 69 0 16, zl 70 1 69, ⟨some 71, .bls 1 1 [.str []] [] [(0, (.t 70))], none⟩, ⟨some 72, .app 1 16 false (.t 68) (.t 71), none⟩, zq 14 72])
 .skip))))
 (.reg false [] [13, 14, 57, 58, 59] [zd 73 .add 59 (.int .i64 1), zm 59 73])))))))
 (.seq (.reg false [] [6, 7] [zq 74 14, zq 6 74, zc 7 (.int .i64 0)])
 .ret)))))))))) }
def N501_ref04_Valid : NFun := { np := 1, nt := 18, res := [(2, none)], body :=
 (.seq (.reg false [] [1] [zo 1 0, zc 2 (.bool false)])
 (.seq (.reg false [] [2] [zf 3 0 1, zl 4 1 3, zf 5 1 1, zl 6 1 5, zb 7 .leq 4 6, zm 8 7, zg 8 true (zf 9 0 1), zg 8 true (zl 10 1 9), zg 8 true (⟨some 11, .bin .geq (.t 10) (.c (.int .i64 (-72057594037927936))), none⟩), ⟨some 12, .pick (.t 8) (.t 11) (.c (.bool false)), none⟩, zm 13 12, zg 13 true (zf 14 1 1), zg 13 true (zl 15 1 14), zg 13 true (zd 16 .leq 15 (.int .i64 72057594037927936)), ⟨some 17, .pick (.t 13) (.t 16) (.c (.bool false)), none⟩, zm 2 17])
 .ret)) }
def N503_digraph_Valid : NFun := { np := 2, nt := 20, res := [(4, none)], body :=
 (.seq (.reg false [] [1, 2] [zo 2 0, zc 4 (.bool false)])
 (.seq (.seq (.reg false [] [1, 2, 15] [zl 5 1 2, zd 6 .lss 5 (.int .i64 0), zm 7 6, zg 7 false (zl 8 1 2), zg 7 false (zd 9 .gtr 8 (.int .i64 300)), ⟨some 10, .pick (.t 7) (.c (.bool true)) (.t 9), none⟩, zm 11 10, zg 11 false (zm 12 1), zg 11 false (zn 13 12), zg 11 false (zd 14 .gtr 13 (.int .i64 1000)), ⟨some 15, .pick (.t 11) (.c (.bool true)) (.t 14), none⟩])
 (.cond (.t 15) (.seq (.reg false [] [4] [zc 4 (.bool false)])
 .ret)
 .skip))
 (.seq (.reg false [] [4] [zq 16 1, ⟨some 17, .mk 515 [(.t 2)], none⟩, zk 18 514 [(.t 16), (.t 17)], zt 19 18, zm 4 19])
 .ret))) }
def N504_digraph_order : NFun := { np := 2, nt := 104, res := [(4, none)], body :=
 (.seq (.reg false [] [0, 1] [zc 4 .nils])
 (.seq (.reg false [] [0, 5] [zm 20 0, zq 21 1, zk 22 517 [(.t 20), (.t 21)], zq 5 22])
 (.seq (.reg false [] [5, 6] [zm 23 0, ⟨some 24, .mks 1 8 [.int .i64 0] (.t 23) (.t 23), none⟩, zq 6 24])
 (.seq (.seq (.reg false [] [5, 6, 25, 26, 27] [zm 25 5, zn 26 25, zc 27 (.int .i64 0)])
 (.block 0 (.loop (.seq (.reg false [] [5, 6, 25, 26, 27, 28] [zb 28 .lss 27 26])
 (.seq (.cond (.t 28) .skip
 (.exit 0))
 (.seq (.block 1 (.seq (.reg false [] [5, 6, 8, 25, 26, 27] [zi 29 1 25 27, zl 30 1 29, zq 8 30])
 (.seq (.reg false [] [5, 6, 25, 26, 27, 31, 32, 33] [zq 31 8, zn 32 31, zc 33 (.int .i64 0)])
 (.block 2 (.loop (.seq (.reg false [] [5, 6, 25, 26, 27, 31, 32, 33, 34] [zb 34 .lss 33 32])
 (.seq (.cond (.t 34) .skip
 (.exit 2))
 (.seq (.block 3 (.seq (.reg false [] [5, 6, 10, 25, 26, 27, 31, 32, 33] [zi 35 1 31 33, zl 36 1 35, zm 10 36])
 (.reg false [] [5, 6, 25, 26, 27, 31, 32, 33] [zm 37 6, zm 38 10, zi 39 1 37 38, zl 40 1 39, zd 41 .add 40 (.int .i64 1), zi 42 1 37 38, ⟨none, .st 1 [] (.t 42) (.t 41), none⟩])))
 (.reg false [] [5, 6, 25, 26, 27, 31, 32, 33] [zd 43 .add 33 (.int .i64 1), zm 33 43])))))))))
 (.reg false [] [5, 6, 25, 26, 27] [zd 44 .add 27 (.int .i64 1), zm 27 44])))))))
 (.seq (.reg false [] [5, 6, 11, 12] [⟨some 11, .nilo 1, none⟩, ⟨some 12, .nilo 1, none⟩])
 (.seq (.seq (.reg false [] [5, 6, 11, 12, 45, 46, 47] [zm 45 6, zn 46 45, zc 47 (.int .i64 0)])
 (.block 4 (.loop (.seq (.reg false [] [5, 6, 11, 12, 45, 46, 47, 48] [zb 48 .lss 47 46])
 (.seq (.cond (.t 48) .skip
 (.exit 4))
 (.seq (.block 5 (.seq (.reg false [] [5, 6, 11, 12, 13, 14, 45, 46, 47] [zm 49 47, zi 50 1 45 47, zl 51 1 50, zm 13 49, zm 14 51])
 (.seq (.reg false [] [5, 6, 11, 12, 13, 45, 46, 47, 53] [zm 52 14, zd 53 .eql 52 (.int .i64 0)])
 (.cond (.t 53) (.reg false [] [5, 6, 11, 12, 45, 46, 47] [zm 54 11, zm 55 13, ⟨some 56, .bls 1 1 [.int .i64 0] [] [(0, (.t 55))], none⟩, ⟨some 57, .app 1 8 false (.t 54) (.t 56), none⟩, zq 11 57])
 .skip))))
 (.reg false [] [5, 6, 11, 12, 45, 46, 47] [zd 58 .add 47 (.int .i64 1), zm 47 58])))))))
 (.seq (.block 6 (.loop (.seq (.seq (.reg false [] [5, 6, 11, 12, 61] [zm 59 11, zn 60 59, zd 61 .gtr 60 (.int .i64 0)])
 (.cond (.t 61) .skip
 (.exit 6)))
 (.block 7 (.seq (.reg false [] [5, 6, 11, 12, 15] [zm 62 11, ⟨some 63, .iadS 1 (.t 62) (.c (.int .i64 0)), none⟩, zl 64 1 63, zm 15 64])
 (.seq (.reg false [] [5, 6, 11, 12, 15] [zm 65 11, ⟨some 66, .slc 1 (.t 65) (some (.c (.int .i64 1))) none, none⟩, zq 11 66])
 (.seq (.reg false [] [5, 6, 11, 12, 15] [zm 67 12, zm 68 15, ⟨some 69, .bls 1 1 [.int .i64 0] [] [(0, (.t 68))], none⟩, ⟨some 70, .app 1 8 false (.t 67) (.t 69), none⟩, zq 12 70])
 (.seq (.reg false [] [5, 6, 11, 12, 74, 75, 76] [zm 71 5, zm 72 15, zi 73 1 71 72, zl 74 1 73, zn 75 74, zc 76 (.int .i64 0)])
 (.block 8 (.loop (.seq (.reg false [] [5, 6, 11, 12, 74, 75, 76, 77] [zb 77 .lss 76 75])
 (.seq (.cond (.t 77) .skip
 (.exit 8))
 (.seq (.block 9 (.seq (.reg false [] [5, 6, 11, 12, 17, 74, 75, 76] [zi 78 1 74 76, zl 79 1 78, zm 17 79])
 (.seq (.reg false [] [5, 6, 11, 12, 17, 74, 75, 76] [zm 80 6, zm 81 17, zi 82 1 80 81, zl 83 1 82, zd 84 .sub 83 (.int .i64 1), zi 85 1 80 81, ⟨none, .st 1 [] (.t 85) (.t 84), none⟩])
 (.seq (.reg false [] [5, 6, 11, 12, 17, 74, 75, 76, 90] [zm 86 6, zm 87 17, zi 88 1 86 87, zl 89 1 88, zd 90 .eql 89 (.int .i64 0)])
 (.cond (.t 90) (.seq (.reg false [] [5, 6, 11, 12, 17, 18, 74, 75, 76] [zm 92 11, zm 93 17, zk 94 518 [(.t 92), (.t 93)], zm 91 94, zx 95 0 91, zx 96 1 91, zm 18 95, zm 19 96])
 (.reg false [] [5, 6, 11, 12, 74, 75, 76] [zm 97 11, zm 98 18, zm 99 17, ⟨some 100, .bls 1 1 [.int .i64 0] [] [(0, (.t 99))], none⟩, ⟨some 101, .callE 519 (.t 97) [(.t 98), (.t 100)], none⟩, zq 11 101]))
 .skip)))))
 (.reg false [] [5, 6, 11, 12, 74, 75, 76] [zd 102 .add 76 (.int .i64 1), zm 76 102]))))))))))))))
 (.seq (.reg false [] [4] [zq 103 12, zq 4 103])
 .ret)))))))) }
def N506_steady_sections_1 : NFun := { np := 1, nt := 8, res := [(2, none)], body :=
 (.seq (.reg false [] [1] [zo 1 0, zc 2 (.bool false)])
 (.seq (.reg false [] [2] [zf 3 5 1, zl 4 1 3, zf 5 6 1, zl 6 1 5, zb 7 .lss 4 6, zm 2 7])
 .ret)) }
def N507_ref26_position : NFun := { np := 1, nt := 9, res := [(2, none)], body :=
 (.seq (.reg false [] [0] [zc 2 (.bool false)])
 (.seq (.reg false [] [2] [zm 3 0, ⟨some 4, .bin .geq (.t 3) (.c (.int .i64 (-16777216))), none⟩, zm 5 4, zg 5 true (zm 6 0), zg 5 true (zd 7 .leq 6 (.int .i64 16777216)), ⟨some 8, .pick (.t 5) (.t 7) (.c (.bool false)), none⟩, zm 2 8])
 .ret)) }
def N508_ref26_shape : NFun := { np := 2, nt := 38, res := [(4, none)], body :=
 (.seq (.reg false [] [0, 1] [zc 4 (.bool false)])
 (.seq (.seq (.reg false [] [0, 1, 8] [zm 6 0, zk 7 64 [(.t 6)], zt 8 7])
 (.cond (.t 8) (.seq (.reg false [] [4] [zc 4 (.bool false)])
 .ret)
 .skip))
 (.seq (.reg false [] [0, 1, 5] [zm 9 0, zm 10 0, zn 11 10, zd 12 .sub 11 (.int .i64 1), zi 13 2 9 12, zL 14 2 13, ⟨some 5, .alc [.int .i64 0, .int .i64 0], none⟩, ⟨none, .st 2 [] (.t 5) (.t 14), none⟩])
 (.seq (.reg false [] [4] [zm 15 0, ⟨some 16, .iadS 2 (.t 15) (.c (.int .i64 0)), none⟩, zf 17 0 16, zl 18 1 17, zd 19 .eql 18 (.int .i64 0), zm 20 19, zg 20 true (zq 21 0), zg 20 true (⟨some 22, .iadS 2 (.t 21) (.c (.int .i64 0)), none⟩), zg 20 true (zf 23 1 22), zg 20 true (zl 24 1 23), zg 20 true (zd 25 .eql 24 (.int .i64 0)), ⟨some 26, .pick (.t 20) (.t 25) (.c (.bool false)), none⟩, zm 27 26, zg 27 true (zf 28 0 5), zg 27 true (zl 29 1 28), zg 27 true (zm 30 1), zg 27 true (zb 31 .eql 29 30), ⟨some 32, .pick (.t 27) (.t 31) (.c (.bool false)), none⟩, zm 33 32, zg 33 true (zf 34 1 5), zg 33 true (zl 35 1 34), zg 33 true (zd 36 .leq 35 (.int .i64 1125899906842624)), ⟨some 37, .pick (.t 33) (.t 36) (.c (.bool false)), none⟩, zm 4 37])
 .ret)))) }
def N509_slices_IndexFunc__api_Span_api_Span : NFun := { np := 2, nt := 19, res := [(4, none)], body :=
 (.seq (.reg false [] [0, 1] [zc 4 (.int .i64 0)])
 (.seq (.seq (.reg false [] [0, 1, 7, 8] [zm 6 0, zn 7 6, zc 8 (.int .i64 0)])
 (.block 0 (.loop (.seq (.reg false [] [0, 1, 7, 8, 9] [zb 9 .lss 8 7])
 (.seq (.cond (.t 9) .skip
 (.exit 0))
 (.seq (.block 1 (.seq (.reg false [] [0, 1, 5, 7, 8] [zm 10 8, zm 5 10])
 (.seq (.reg false [] [0, 1, 5, 7, 8, 16] [zm 11 1, zm 12 0, zm 13 5, zi 14 2 12 13, zL 15 2 14, ⟨some 16, .callv (.t 11) [(.t 15)], none⟩])
 (.cond (.t 16) (.seq (.reg false [] [4] [zm 17 5, zm 4 17])
 .ret)
 .skip))))
 (.reg false [] [0, 1, 7, 8] [zd 18 .add 8 (.int .i64 1), zm 8 18])))))))
 (.seq (.reg false [] [4] [⟨some 4, .mov (.c (.int .i64 (-1))), none⟩])
 .ret))) }
def N510_span_fits : NFun := { np := 1, nt := 9, res := [(2, none)], body :=
 (.seq (.reg false [] [0] [zc 2 (.bool false)])
 (.seq (.reg false [] [2] [zm 3 0, ⟨some 4, .bin .geq (.t 3) (.c (.int .i64 (-72057594037927936))), none⟩, zm 5 4, zg 5 true (zm 6 0), zg 5 true (zd 7 .leq 6 (.int .i64 72057594037927936)), ⟨some 8, .pick (.t 5) (.t 7) (.c (.bool false)), none⟩, zm 2 8])
 .ret)) }
def N511_digraph_Order : NFun := { np := 2, nt := 19, res := [(4, none), (5, none)], body :=
 (.seq (.reg false [] [0, 1] [zc 4 .nils, zc 5 (.int .i64 0)])
 (.seq (.seq (.reg false [] [0, 1, 10] [zm 7 0, zm 8 1, zk 9 503 [(.t 7), (.t 8)], zt 10 9])
 (.cond (.t 10) (.seq (.reg false [] [4, 5] [zc 4 .nils, zc 5 (.int .i64 1)])
 .ret)
 .skip))
 (.seq (.reg false [] [0, 6] [zm 11 0, zq 12 1, zk 13 504 [(.t 11), (.t 12)], zq 6 13])
 (.seq (.seq (.reg false [] [6, 17] [zm 14 6, zn 15 14, zm 16 0, zb 17 .lss 15 16])
 (.cond (.t 17) (.seq (.reg false [] [4, 5] [zc 4 .nils, zc 5 (.int .i64 22)])
 .ret)
 .skip))
 (.seq (.reg false [] [4, 5] [zq 18 6, zq 4 18, zc 5 (.int .i64 0)])
 .ret))))) }
def N512_digraph_Reach : NFun := { np := 3, nt := 26, res := [(6, none), (7, none)], body :=
 (.seq (.reg false [] [1, 2, 3] [zo 3 0, zc 6 .nils, zc 7 (.int .i64 0)])
 (.seq (.block 0 (.seq (.reg false [] [1, 2, 3, 8] [zl 9 1 3, zm 10 1, zk 11 503 [(.t 9), (.t 10)], zt 12 11, zm 8 12])
 (.cond (.t 8) (.seq (.reg false [] [6, 7] [zc 6 .nils, zc 7 (.int .i64 1)])
 .ret)
 (.seq (.reg false [] [1, 2, 3, 13] [zm 14 2, zn 15 14, zd 16 .gtr 15 (.int .i64 1000), zm 13 16])
 (.cond (.t 13) (.seq (.reg false [] [6, 7] [zc 6 .nils, zc 7 (.int .i64 4)])
 .ret)
 (.seq (.reg false [] [1, 2, 3, 17] [zm 18 2, ⟨some 19, .mk 520 [(.t 3)], none⟩, zk 20 11 [(.t 18), (.t 19)], zm 17 20])
 (.cond (.t 17) (.seq (.reg false [] [6, 7] [zc 6 .nils, zc 7 (.int .i64 2)])
 .ret)
 .skip)))))))
 (.seq (.reg false [] [6, 7] [zl 21 1 3, zq 22 1, zk 23 517 [(.t 21), (.t 22)], zq 24 2, zk 25 521 [(.t 23), (.t 24)], zq 6 25, zc 7 (.int .i64 0)])
 .ret))) }
def N514_slices_ContainsFunc___2int__2int : NFun := { np := 2, nt := 9, res := [(4, none)], body :=
 (.seq (.reg false [] [0, 1] [zc 4 (.bool false)])
 (.seq (.reg false [] [4] [zq 5 0, zm 6 1, zk 7 522 [(.t 5), (.t 6)], zd 8 .geq 7 (.int .i64 0), zm 4 8])
 .ret)) }
def N515_digraph_Valid_1 : NFun := { np := 2, nt := 16, res := [(3, none)], body :=
 (.seq (.reg false [] [1, 2] [zo 2 0, zc 3 (.bool false)])
 (.seq (.reg false [] [3] [zl 4 1 1, ⟨some 5, .iadA 2 1 (.t 2) (.c (.int .i64 0)), none⟩, zl 6 1 5, zk 7 516 [(.t 4), (.t 6)], zt 8 7, zm 9 8, zg 9 false (zl 10 1 1), zg 9 false (⟨some 11, .iadA 2 1 (.t 2) (.c (.int .i64 1)), none⟩), zg 9 false (zl 12 1 11), zg 9 false (zk 13 516 [(.t 10), (.t 12)]), zg 9 false (zt 14 13), ⟨some 15, .pick (.t 9) (.c (.bool true)) (.t 14), none⟩, zm 3 15])
 .ret)) }
def N516_digraph_is : NFun := { np := 2, nt := 12, res := [(4, none)], body :=
 (.seq (.reg false [] [0, 1] [zc 4 (.bool false)])
 (.seq (.reg false [] [4] [zm 5 1, zd 6 .geq 5 (.int .i64 0), zm 7 6, zg 7 true (zm 8 1), zg 7 true (zm 9 0), zg 7 true (zb 10 .lss 8 9), ⟨some 11, .pick (.t 7) (.t 10) (.c (.bool false)), none⟩, zm 4 11])
 .ret)) }
def N517_digraph_next : NFun := { np := 2, nt := 51, res := [(4, none)], body :=
 (.seq (.reg false [] [0, 1] [zc 4 .nils])
 (.seq (.reg false [] [1, 5] [zm 9 0, ⟨some 10, .mks 1 24 [.own 1 []] (.t 9) (.t 9), none⟩, zq 5 10])
 (.seq (.seq (.reg false [] [5, 11, 12, 13] [zq 11 1, zn 12 11, zc 13 (.int .i64 0)])
 (.block 0 (.loop (.seq (.reg false [] [5, 11, 12, 13, 14] [zb 14 .lss 13 12])
 (.seq (.cond (.t 14) .skip
 (.exit 0))
 (.seq (.block 1 (.seq (.reg false [] [5, 7, 11, 12, 13] [zi 15 2 11 13, zL 16 2 15, ⟨some 7, .alc [.int .i64 0, .int .i64 0], none⟩, ⟨none, .st 2 [] (.t 7) (.t 16), none⟩])
 (.reg true [0, 0, 2, 0, 0, 16, 56, 120, 0, 256, 768, 2040, 4095, 8191] [5, 11, 12, 13] [zm 17 5, ⟨some 18, .iadA 2 1 (.t 7) (.c (.int .i64 0)), none⟩, zl 19 1 18, zm 20 5, ⟨some 21, .iadA 2 1 (.t 7) (.c (.int .i64 0)), none⟩, zl 22 1 21, zi 23 1 20 22, zl 24 1 23, ⟨some 25, .iadA 2 1 (.t 7) (.c (.int .i64 1)), none⟩, zl 26 1 25, ⟨some 27, .bls 1 1 [.int .i64 0] [] [(0, (.t 26))], none⟩, ⟨some 28, .app 1 8 false (.t 24) (.t 27), none⟩, zi 29 1 17 19, ⟨none, .st 1 [] (.t 29) (.t 28), none⟩])))
 (.reg false [] [5, 11, 12, 13] [zd 30 .add 13 (.int .i64 1), zm 13 30])))))))
 (.seq (.seq (.reg false [] [5, 32, 33] [zm 31 5, zn 32 31, zc 33 (.int .i64 0)])
 (.block 2 (.loop (.seq (.reg false [] [5, 32, 33, 34] [zb 34 .lss 33 32])
 (.seq (.cond (.t 34) .skip
 (.exit 2))
 (.seq (.block 3 (.seq (.reg false [] [5, 8, 32, 33] [zm 35 33, zm 8 35])
 (.seq (.reg false [] [5, 8, 32, 33] [zm 36 5, zm 37 8, zi 38 1 36 37, zl 39 1 38, ⟨some 40, .callN 366 (.t 39) [], none⟩])
 (.reg false [] [5, 32, 33] [zm 41 5, zm 42 8, zm 43 5, zm 44 8, zi 45 1 43 44, zl 46 1 45, ⟨some 47, .callE 523 (.t 46) [], none⟩, zi 48 1 41 42, ⟨none, .st 1 [] (.t 48) (.t 47), none⟩]))))
 (.reg false [] [5, 32, 33] [zd 49 .add 33 (.int .i64 1), zm 33 49])))))))
 (.seq (.reg false [] [4] [zq 50 5, zq 4 50])
 .ret))))) }
def N518_slices_BinarySearch__int_int : NFun := { np := 2, nt := 54, res := [(4, none), (5, none)], body :=
 (.seq (.reg false [] [0, 1] [zc 4 (.int .i64 0), zc 5 (.bool false)])
 (.seq (.reg false [] [0, 1, 6] [zm 10 0, zn 11 10, zm 6 11])
 (.seq (.reg false [] [0, 1, 6, 7, 8] [zm 12 6, zc 7 (.int .i64 0), zm 8 12])
 (.seq (.block 0 (.loop (.seq (.seq (.reg false [] [0, 1, 6, 7, 8, 15] [zm 13 7, zm 14 8, zb 15 .lss 13 14])
 (.cond (.t 15) .skip
 (.exit 0)))
 (.block 1 (.seq (.reg false [] [0, 1, 6, 7, 8, 9] [zm 16 7, zm 17 8, zb 18 .add 16 17, ⟨some 19, .conv .u64 (.t 18), none⟩, zd 20 .shr 19 (.int .u64 1), ⟨some 21, .conv .i64 (.t 20), none⟩, zm 9 21])
 (.seq (.reg false [] [0, 1, 6, 7, 8, 9, 27] [zm 22 0, zm 23 9, zi 24 1 22 23, zl 25 1 24, zm 26 1, zk 27 411 [(.t 25), (.t 26)]])
 (.cond (.t 27) (.reg false [] [0, 1, 6, 7, 8] [zm 28 9, zd 29 .add 28 (.int .i64 1), zm 7 29])
 (.reg false [] [0, 1, 6, 7, 8] [zm 30 9, zm 8 30]))))))))
 (.seq (.reg false [] [4, 5] [zm 31 7, zm 32 7, zm 33 6, zb 34 .lss 32 33, zm 35 34, zg 35 true (zm 36 0), zg 35 true (zm 37 7), zg 35 true (zi 38 1 36 37), zg 35 true (zl 39 1 38), zg 35 true (zm 40 1), zg 35 true (zb 41 .eql 39 40), zg 35 true (zm 42 41), zg 42 false (zq 43 0), zg 42 false (zm 44 7), zg 42 false (zi 45 1 43 44), zg 42 false (zl 46 1 45), zg 42 false (zk 47 524 [(.t 46)]), zg 42 false (zm 48 47), zg 48 true (zm 49 1), zg 48 true (zk 50 524 [(.t 49)]), zg 42 false (⟨some 51, .pick (.t 48) (.t 50) (.c (.bool false)), none⟩), zg 35 true (⟨some 52, .pick (.t 42) (.c (.bool true)) (.t 51), none⟩), ⟨some 53, .pick (.t 35) (.t 52) (.c (.bool false)), none⟩, zm 4 31, zm 5 53])
 .ret))))) }
def N520_digraph_Reach_1 : NFun := { np := 2, nt := 8, res := [(3, none)], body :=
 (.seq (.reg false [] [0, 1] [zc 3 (.bool false)])
 (.seq (.reg false [] [3] [zl 4 1 1, zm 5 0, zk 6 516 [(.t 4), (.t 5)], zt 7 6, zm 3 7])
 .ret)) }
def N521_digraph_reach : NFun := { np := 2, nt := 42, res := [(4, none)], body :=
 (.seq (.reg false [] [0, 1] [zc 4 .nils])
 (.seq (.reg false [] [0, 1, 5] [zm 8 0, zn 9 8, ⟨some 10, .mks 1 1 [.bool false] (.t 9) (.t 9), none⟩, zq 5 10])
 (.seq (.reg false [] [0, 5, 6] [zq 11 1, ⟨some 12, .callF 42 [(.t 11)], none⟩, zq 6 12])
 (.seq (.block 0 (.loop (.seq (.seq (.reg false [] [0, 5, 6, 15] [zm 13 6, zn 14 13, zd 15 .gtr 14 (.int .i64 0)])
 (.cond (.t 15) .skip
 (.exit 0)))
 (.block 1 (.seq (.reg false [] [0, 5, 6, 7] [zm 16 6, zm 17 6, zn 18 17, zd 19 .sub 18 (.int .i64 1), zi 20 1 16 19, zl 21 1 20, zm 7 21])
 (.seq (.reg false [] [0, 5, 6, 7] [zm 22 6, zm 23 6, zn 24 23, zd 25 .sub 24 (.int .i64 1), ⟨some 26, .slc 1 (.t 22) none (some (.t 25)), none⟩, zq 6 26])
 (.seq (.reg false [] [0, 5, 6, 7, 31] [zm 27 5, zm 28 7, zi 29 1 27 28, zl 30 1 29, zt 31 30])
 (.cond (.t 31) (.seq (.reg false [] [0, 5, 6, 7] [zm 32 5, zm 33 7, zi 34 1 32 33, ⟨none, .st 1 [] (.t 34) (.c (.bool true)), none⟩])
 (.reg false [] [0, 5, 6] [zm 35 6, zm 36 0, zm 37 7, zi 38 1 36 37, zl 39 1 38, ⟨some 40, .app 1 8 false (.t 35) (.t 39), none⟩, zq 6 40]))
 .skip))))))))
 (.seq (.reg false [] [4] [zq 41 5, zq 4 41])
 .ret))))) }
def N522_slices_IndexFunc___2int__2int : NFun := { np := 2, nt := 19, res := [(4, none)], body :=
 (.seq (.reg false [] [0, 1] [zc 4 (.int .i64 0)])
 (.seq (.seq (.reg false [] [0, 1, 7, 8] [zm 6 0, zn 7 6, zc 8 (.int .i64 0)])
 (.block 0 (.loop (.seq (.reg false [] [0, 1, 7, 8, 9] [zb 9 .lss 8 7])
 (.seq (.cond (.t 9) .skip
 (.exit 0))
 (.seq (.block 1 (.seq (.reg false [] [0, 1, 5, 7, 8] [zm 10 8, zm 5 10])
 (.seq (.reg false [] [0, 1, 5, 7, 8, 16] [zm 11 1, zm 12 0, zm 13 5, zi 14 2 12 13, zL 15 2 14, ⟨some 16, .callv (.t 11) [(.t 15)], none⟩])
 (.cond (.t 16) (.seq (.reg false [] [4] [zm 17 5, zm 4 17])
 .ret)
 .skip))))
 (.reg false [] [0, 1, 7, 8] [zd 18 .add 8 (.int .i64 1), zm 8 18])))))))
 (.seq (.reg false [] [4] [⟨some 4, .mov (.c (.int .i64 (-1))), none⟩])
 .ret))) }
def N524_slices_isNaN_int : NFun := { np := 1, nt := 6, res := [(2, none)], body :=
 (.seq (.reg false [] [0] [zc 2 (.bool false)])
 (.seq (.reg false [] [2] [zm 3 0, zm 4 0, zb 5 .neq 3 4, zm 2 5])
 .ret)) }
def prog : Nat → Option NFun
  | 11 => some N11_slices_ContainsFunc__int_int
  | 33 => some N33_ref28_Valid
  | 35 => some N35_slices_IndexFunc__int_int
  | 42 => some N42_slices_Clone__int_int
  | 44 => some N44_catalogue_Valid
  | 45 => some N45_slices_ContainsFunc__api_Section_api_Section
  | 47 => some N47_catalogue_Full
  | 48 => some N48_ref28_Right
  | 49 => some N49_ref28_Find
  | 51 => some N51_catalogue_valid
  | 52 => some N52_slices_IndexFunc__api_Section_api_Section
  | 53 => some N53_catalogue_Capacity
  | 54 => some N54_ref01_IsName
  | 55 => some N55_ref28_fits
  | 58 => some N58_decimal_IsName
  | 59 => some N59_catalogue_curve
  | 60 => some N60_catalogue_slope
  | 61 => some N61_catalogue_carried
  | 62 => some N62_ref01_Letter
  | 63 => some N63_ref01_word
  | 64 => some N64_ref06_Valid
  | 70 => some N70_decimal_letter
  | 71 => some N71_decimal_word
  | 72 => some N72_table_Valid
  | 73 => some N73_table_Floor
  | 74 => some N74_catalogue_product
  | 75 => some N75_catalogue_wide_times
  | 76 => some N76_catalogue_wide_over
  | 77 => some N77_catalogue_wide_root
  | 78 => some N78_ref01_Digit
  | 79 => some N79_ref06_Number
  | 88 => some N88_decimal_digit
  | 89 => some N89_table_fits
  | 90 => some N90_table_piece
  | 91 => some N91_math_bits_Mul64
  | 92 => some N92_math_bits_Div64
  | 96 => some N96_slices_BinarySearchFunc_api_Table_api_Knot_int
  | 97 => some N97_table_piece_1
  | 98 => some N98_wide_Scale
  | 99 => some N99_wide_Product
  | 100 => some N100_wide_Sub
  | 101 => some N101_wide_Int
  | 102 => some N102_math_bits_LeadingZeros64
  | 103 => some N103_wide_times
  | 104 => some N104_wide_quotient
  | 105 => some N105_wide_placed
  | 106 => some N106_wide_Valid
  | 107 => some N107_wide_sum
  | 108 => some N108_wide_value
  | 109 => some N109_wide_minus
  | 110 => some N110_wide_whole
  | 111 => some N111_math_bits_Len64
  | 112 => some N112_wide_size
  | 113 => some N113_wide_signed
  | 164 => some N164_network_Valid
  | 168 => some N168_network_rightNode
  | 169 => some N169_network_node
  | 170 => some N170_network_rightLink
  | 171 => some N171_network_link
  | 172 => some N172_network_between
  | 173 => some N173_network_level
  | 174 => some N174_network_shaped
  | 175 => some N175_slices_IndexFunc__api_Node_api_Node
  | 176 => some N176_network_node_1
  | 177 => some N177_network_sameLink
  | 178 => some N178_network_plain
  | 179 => some N179_slices_ContainsFunc_api_Table_api_Knot
  | 180 => some N180_network_rightLink_1
  | 181 => some N181_slices_IndexFunc__api_Link_api_Link
  | 182 => some N182_network_link_1
  | 183 => some N183_network_level_1
  | 184 => some N184_slices_Equal_api_Table_api_Knot
  | 185 => some N185_slices_IndexFunc_api_Table_api_Knot
  | 194 => some N194_ref26_RightLink
  | 199 => some N199_ref26_level
  | 200 => some N200_ref26_within
  | 201 => some N201_ref26_curve
  | 299 => some N299_cmp_isNaN_int
  | 411 => some N411_cmp_Less_int
  | 424 => some N424_law30_SteadyMost
  | 425 => some N425_law30_awake
  | 426 => some N426_law30_large
  | 427 => some N427_ref30_Tree
  | 428 => some N428_steady_Flows
  | 429 => some N429_ref26_Edges
  | 430 => some N430_steady_Share
  | 433 => some N433_steady_Tree
  | 434 => some N434_slices_Equal__api_Span_api_Span
  | 435 => some N435_slices_Equal__string_string
  | 440 => some N440_ref30_Given
  | 441 => some N441_catalogue_Find
  | 442 => some N442_steady_Overloaded
  | 443 => some N443_steady_Most
  | 450 => some N450_slices_Contains__string_string
  | 452 => some N452_law30_example
  | 453 => some N453_slices_ContainsFunc__api_Node_api_Node
  | 454 => some N454_law30_large_1
  | 455 => some N455_slices_ContainsFunc__api_Link_api_Link
  | 456 => some N456_law30_large_2
  | 457 => some N457_law30_large_3
  | 458 => some N458_ref26_Valid
  | 459 => some N459_ref08_Tree
  | 460 => some N460_steady_spans
  | 461 => some N461_steady_flows
  | 462 => some N462_ref26_FindNode
  | 463 => some N463_network_Link
  | 464 => some N464_network_Above
  | 465 => some N465_ref30_spans
  | 467 => some N467_ref26_FindLink
  | 470 => some N470_steady_Tree_1
  | 471 => some N471_network_Edges
  | 472 => some N472_digraph_Tree
  | 473 => some N473_steady_pipes
  | 474 => some N474_steady_fall
  | 475 => some N475_steady_full
  | 479 => some N479_ref30_pipes
  | 480 => some N480_catalogue_Find_1
  | 481 => some N481_steady_sections
  | 482 => some N482_network_Node
  | 483 => some N483_steady_Most_1
  | 485 => some N485_slices_Index__string_string
  | 486 => some N486_law30_example_1
  | 487 => some N487_law30_example_2
  | 488 => some N488_ref26_RightNode
  | 489 => some N489_ref08_Valid
  | 490 => some N490_ref08_Order
  | 491 => some N491_slices_ContainsFunc__api_Span_api_Span
  | 492 => some N492_steady_spans_1
  | 493 => some N493_span_Valid
  | 494 => some N494_steady_spans_2
  | 495 => some N495_network_Order
  | 496 => some N496_slices_Clone__api_Span_api_Span
  | 497 => some N497_steady_flows_1
  | 498 => some N498_network_found
  | 499 => some N499_network_edges
  | 500 => some N500_network_ways
  | 501 => some N501_ref04_Valid
  | 503 => some N503_digraph_Valid
  | 504 => some N504_digraph_order
  | 506 => some N506_steady_sections_1
  | 507 => some N507_ref26_position
  | 508 => some N508_ref26_shape
  | 509 => some N509_slices_IndexFunc__api_Span_api_Span
  | 510 => some N510_span_fits
  | 511 => some N511_digraph_Order
  | 512 => some N512_digraph_Reach
  | 514 => some N514_slices_ContainsFunc___2int__2int
  | 515 => some N515_digraph_Valid_1
  | 516 => some N516_digraph_is
  | 517 => some N517_digraph_next
  | 518 => some N518_slices_BinarySearch__int_int
  | 520 => some N520_digraph_Reach_1
  | 521 => some N521_digraph_reach
  | 522 => some N522_slices_IndexFunc___2int__2int
  | 524 => some N524_slices_isNaN_int
  | _ => none
end Go.Gv
