/-
  Texts of the proof: GvP.
-/
import Derived.Test.YteaonmajblajnaaGreatDoorX5
set_option linter.all false
set_option maxRecDepth 4000
namespace Go.Gv
@[simp] def zm (a b : Nat) : NOper := ⟨some a, .mov (.t b), none⟩
@[simp] def zc (a : Nat) (d : D) : NOper := ⟨some a, .mov (.c d), none⟩
@[simp] def zf (a i b : Nat) : NOper := ⟨some a, .fad i (.t b), none⟩
@[simp] def zl (a n b : Nat) : NOper := ⟨some a, .ld n false (.t b), none⟩
@[simp] def zL (a n b : Nat) : NOper := ⟨some a, .ld n true (.t b), none⟩
@[simp] def zx (a i b : Nat) : NOper := ⟨some a, .ext i (.t b), none⟩
@[simp] def zn (a b : Nat) : NOper := ⟨some a, .len (.t b), none⟩
@[simp] def zq (a b : Nat) : NOper := ⟨some a, .asg (.t b), none⟩
@[simp] def zi (a n b c : Nat) : NOper := ⟨some a, .iadS n (.t b) (.t c), none⟩
@[simp] def zo (a b : Nat) : NOper := ⟨some a, .boxF (.t b), none⟩
@[simp] def zt (a b : Nat) : NOper := ⟨some a, .un .not (.t b), none⟩
@[simp] def zk (a g : Nat) (xs : List Opd) : NOper := ⟨some a, .call g xs [], none⟩
@[simp] def zb (a : Nat) (op : BinOp) (b c : Nat) : NOper := ⟨some a, .bin op (.t b) (.t c), none⟩
@[simp] def zd (a : Nat) (op : BinOp) (b : Nat) (d : D) : NOper := ⟨some a, .bin op (.t b) (.c d), none⟩
@[simp] def zg (c : Nat) (b : Bool) (s : NOper) : NOper := ⟨s.dst, s.op, some (c, b)⟩
def N11_slices_ContainsFunc__int_int : NFun := { np := 2, nt := 9, res := [(4, none)], body :=
 (.seq (.reg false [] [0, 1] [zc 4 (.bool false)])
 (.seq (.reg false [] [4] [zq 5 0, zm 6 1, zk 7 35 [(.t 5), (.t 6)], zd 8 .geq 7 (.int .i64 0), zm 4 8])
 .ret)) }
def N19_slices_Equal__int_int : NFun := { np := 2, nt := 26, res := [(4, none)], body :=
 (.seq (.reg false [] [0, 1] [zc 4 (.bool false)])
 (.seq (.seq (.reg false [] [0, 1, 10] [zm 6 0, zn 7 6, zm 8 1, zn 9 8, zb 10 .neq 7 9])
 (.cond (.t 10) (.seq (.reg false [] [4] [zc 4 (.bool false)])
 .ret)
 .skip))
 (.seq (.seq (.reg false [] [0, 1, 12, 13] [zm 11 0, zn 12 11, zc 13 (.int .i64 0)])
 (.block 0 (.loop (.seq (.reg false [] [0, 1, 12, 13, 14] [zb 14 .lss 13 12])
 (.seq (.cond (.t 14) .skip
 (.exit 0))
 (.seq (.block 1 (.seq (.reg false [] [0, 1, 5, 12, 13] [zm 15 13, zm 5 15])
 (.seq (.reg true [0, 0, 3, 7, 0, 0, 48, 112, 255] [0, 1, 12, 13, 24] [zm 16 0, zm 17 5, zi 18 1 16 17, zl 19 1 18, zm 20 1, zm 21 5, zi 22 1 20 21, zl 23 1 22, zb 24 .neq 19 23])
 (.cond (.t 24) (.seq (.reg false [] [4] [zc 4 (.bool false)])
 .ret)
 .skip))))
 (.reg false [] [0, 1, 12, 13] [zd 25 .add 13 (.int .i64 1), zm 13 25])))))))
 (.seq (.reg false [] [4] [zc 4 (.bool true)])
 .ret)))) }
def N35_slices_IndexFunc__int_int : NFun := { np := 2, nt := 19, res := [(4, none)], body :=
 (.seq (.reg false [] [0, 1] [zc 4 (.int .i64 0)])
 (.seq (.seq (.reg false [] [0, 1, 7, 8] [zm 6 0, zn 7 6, zc 8 (.int .i64 0)])
 (.block 0 (.loop (.seq (.reg false [] [0, 1, 7, 8, 9] [zb 9 .lss 8 7])
 (.seq (.cond (.t 9) .skip
 (.exit 0))
 (.seq (.block 1 (.seq (.reg false [] [0, 1, 5, 7, 8] [zm 10 8, zm 5 10])
 (.seq (.reg false [] [0, 1, 5, 7, 8, 16] [zm 11 1, zm 12 0, zm 13 5, zi 14 1 12 13, zl 15 1 14, ⟨some 16, .callv (.t 11) [(.t 15)], none⟩])
 (.cond (.t 16) (.seq (.reg false [] [4] [zm 17 5, zm 4 17])
 .ret)
 .skip))))
 (.reg false [] [0, 1, 7, 8] [zd 18 .add 8 (.int .i64 1), zm 8 18])))))))
 (.seq (.reg false [] [4] [⟨some 4, .mov (.c (.int .i64 (-1))), none⟩])
 .ret))) }
def N91_math_bits_Mul64 : NFun := { np := 2, nt := 51, res := [(4, none), (5, none)], body :=
 (.seq (.reg false [] [0, 1] [zc 4 (.int .u64 0), zc 5 (.int .u64 0)])
 (.seq (.reg false [] [0, 1, 6] [zm 14 0, zd 15 .and 14 (.int .u64 4294967295), zm 6 15])
 (.seq (.reg false [] [0, 1, 6, 7] [zm 16 0, zd 17 .shr 16 (.int .u64 32), zm 7 17])
 (.seq (.reg false [] [0, 1, 6, 7, 8] [zm 18 1, zd 19 .and 18 (.int .u64 4294967295), zm 8 19])
 (.seq (.reg false [] [0, 1, 6, 7, 8, 9] [zm 20 1, zd 21 .shr 20 (.int .u64 32), zm 9 21])
 (.seq (.reg false [] [0, 1, 6, 7, 8, 9, 10] [zm 22 6, zm 23 8, zb 24 .mul 22 23, zm 10 24])
 (.seq (.reg false [] [0, 1, 6, 7, 9, 11] [zm 25 7, zm 26 8, zb 27 .mul 25 26, zm 28 10, zd 29 .shr 28 (.int .u64 32), zb 30 .add 27 29, zm 11 30])
 (.seq (.reg false [] [0, 1, 6, 7, 9, 11, 12] [zm 31 11, zd 32 .and 31 (.int .u64 4294967295), zm 12 32])
 (.seq (.reg false [] [0, 1, 6, 7, 9, 12, 13] [zm 33 11, zd 34 .shr 33 (.int .u64 32), zm 13 34])
 (.seq (.reg false [] [0, 1, 7, 9, 12, 13] [zm 35 12, zm 36 6, zm 37 9, zb 38 .mul 36 37, zb 39 .add 35 38, zm 12 39])
 (.seq (.reg false [] [0, 1, 4] [zm 40 7, zm 41 9, zb 42 .mul 40 41, zm 43 13, zb 44 .add 42 43, zm 45 12, zd 46 .shr 45 (.int .u64 32), zb 47 .add 44 46, zm 4 47])
 (.seq (.reg false [] [4, 5] [zm 48 0, zm 49 1, zb 50 .mul 48 49, zm 5 50])
 .ret)))))))))))) }
def N92_math_bits_Div64 : NFun := { np := 3, nt := 135, res := [(6, none), (7, none)], body :=
 (.seq (.reg false [] [0, 1, 2] [zc 6 (.int .u64 0), zc 7 (.int .u64 0)])
 (.seq (.seq (.reg false [] [0, 1, 2, 20] [zm 19 2, zd 20 .eql 19 (.int .u64 0)])
 (.cond (.t 20) (.reg false [] [0, 1, 2] [⟨some 21, .dead, none⟩, ⟨none, .dead, none⟩])
 .skip))
 (.seq (.seq (.reg false [] [0, 1, 2, 24] [zm 22 2, zm 23 0, zb 24 .leq 22 23])
 (.cond (.t 24) (.reg false [] [0, 1, 2] [⟨some 25, .dead, none⟩, ⟨none, .dead, none⟩])
 .skip))
 (.seq (.seq (.reg false [] [0, 1, 2, 27] [zm 26 0, zd 27 .eql 26 (.int .u64 0)])
 (.cond (.t 27) (.seq (.reg true [0, 0, 3, 0, 0, 24, 7, 127] [6, 7] [zm 28 1, zm 29 2, zb 30 .quo 28 29, zm 31 1, zm 32 2, zb 33 .rem 31 32, zm 6 30, zm 7 33])
 .ret)
 .skip))
 (.seq (.reg false [] [0, 1, 2, 8] [zm 34 2, zk 35 102 [(.t 34)], ⟨some 36, .conv .u64 (.t 35), none⟩, zm 8 36])
 (.seq (.reg false [] [0, 1, 2, 8] [zm 37 2, zm 38 8, zb 39 .shl 37 38, zm 2 39])
 (.seq (.reg false [] [0, 1, 2, 8, 9] [zm 40 2, zd 41 .shr 40 (.int .u64 32), zm 9 41])
 (.seq (.reg false [] [0, 1, 2, 8, 9, 10] [zm 42 2, zd 43 .and 42 (.int .u64 4294967295), zm 10 43])
 (.seq (.reg false [] [1, 2, 8, 9, 10, 11] [zm 44 0, zm 45 8, zb 46 .shl 44 45, zm 47 1, zm 48 8, ⟨some 49, .bin .sub (.c (.int .u64 64)) (.t 48), none⟩, zb 50 .shr 47 49, zb 51 .or 46 50, zm 11 51])
 (.seq (.reg false [] [2, 8, 9, 10, 11, 12] [zm 52 1, zm 53 8, zb 54 .shl 52 53, zm 12 54])
 (.seq (.reg false [] [2, 8, 9, 10, 11, 12, 13] [zm 55 12, zd 56 .shr 55 (.int .u64 32), zm 13 56])
 (.seq (.reg false [] [2, 8, 9, 10, 11, 13, 14] [zm 57 12, zd 58 .and 57 (.int .u64 4294967295), zm 14 58])
 (.seq (.reg false [] [2, 8, 9, 10, 11, 13, 14, 15] [zm 59 11, zm 60 9, zb 61 .quo 59 60, zm 15 61])
 (.seq (.reg false [] [2, 8, 9, 10, 11, 13, 14, 15, 16] [zm 62 11, zm 63 15, zm 64 9, zb 65 .mul 63 64, zb 66 .sub 62 65, zm 16 66])
 (.seq (.block 0 (.loop (.seq (.seq (.reg false [] [2, 8, 9, 10, 11, 13, 14, 15, 16, 78] [zm 67 15, zd 68 .geq 67 (.int .u64 4294967296), zm 69 68, zg 69 false (zm 70 15), zg 69 false (zm 71 10), zg 69 false (zb 72 .mul 70 71), zg 69 false (zm 73 16), zg 69 false (⟨some 74, .bin .mul (.c (.int .u64 4294967296)) (.t 73), none⟩), zg 69 false (zm 75 13), zg 69 false (zb 76 .add 74 75), zg 69 false (zb 77 .gtr 72 76), ⟨some 78, .pick (.t 69) (.c (.bool true)) (.t 77), none⟩])
 (.cond (.t 78) .skip
 (.exit 0)))
 (.block 1 (.seq (.reg false [] [2, 8, 9, 10, 11, 13, 14, 15, 16] [zm 79 15, zd 80 .sub 79 (.int .u64 1), zm 15 80])
 (.seq (.reg false [] [2, 8, 9, 10, 11, 13, 14, 15, 16] [zm 81 16, zm 82 9, zb 83 .add 81 82, zm 16 83])
 (.seq (.reg false [] [2, 8, 9, 10, 11, 13, 14, 15, 16, 85] [zm 84 16, zd 85 .geq 84 (.int .u64 4294967296)])
 (.cond (.t 85) (.exit 0)
 .skip))))))))
 (.seq (.reg false [] [2, 8, 9, 10, 14, 15, 17] [zm 86 11, zd 87 .mul 86 (.int .u64 4294967296), zm 88 13, zb 89 .add 87 88, zm 90 15, zm 91 2, zb 92 .mul 90 91, zb 93 .sub 89 92, zm 17 93])
 (.seq (.reg false [] [2, 8, 9, 10, 14, 15, 17, 18] [zm 94 17, zm 95 9, zb 96 .quo 94 95, zm 18 96])
 (.seq (.reg false [] [2, 8, 9, 10, 14, 15, 16, 17, 18] [zm 97 17, zm 98 18, zm 99 9, zb 100 .mul 98 99, zb 101 .sub 97 100, zm 16 101])
 (.seq (.block 2 (.loop (.seq (.seq (.reg false [] [2, 8, 9, 10, 14, 15, 16, 17, 18, 113] [zm 102 18, zd 103 .geq 102 (.int .u64 4294967296), zm 104 103, zg 104 false (zm 105 18), zg 104 false (zm 106 10), zg 104 false (zb 107 .mul 105 106), zg 104 false (zm 108 16), zg 104 false (⟨some 109, .bin .mul (.c (.int .u64 4294967296)) (.t 108), none⟩), zg 104 false (zm 110 14), zg 104 false (zb 111 .add 109 110), zg 104 false (zb 112 .gtr 107 111), ⟨some 113, .pick (.t 104) (.c (.bool true)) (.t 112), none⟩])
 (.cond (.t 113) .skip
 (.exit 2)))
 (.block 3 (.seq (.reg false [] [2, 8, 9, 10, 14, 15, 16, 17, 18] [zm 114 18, zd 115 .sub 114 (.int .u64 1), zm 18 115])
 (.seq (.reg false [] [2, 8, 9, 10, 14, 15, 16, 17, 18] [zm 116 16, zm 117 9, zb 118 .add 116 117, zm 16 118])
 (.seq (.reg false [] [2, 8, 9, 10, 14, 15, 16, 17, 18, 120] [zm 119 16, zd 120 .geq 119 (.int .u64 4294967296)])
 (.cond (.t 120) (.exit 2)
 .skip))))))))
 (.seq (.reg false [] [6, 7] [zm 121 15, zd 122 .mul 121 (.int .u64 4294967296), zm 123 18, zb 124 .add 122 123, zm 125 17, zd 126 .mul 125 (.int .u64 4294967296), zm 127 14, zb 128 .add 126 127, zm 129 18, zm 130 2, zb 131 .mul 129 130, zb 132 .sub 128 131, zm 133 8, zb 134 .shr 132 133, zm 6 124, zm 7 134])
 .ret)))))))))))))))))))) }
def N99_wide_Product : NFun := { np := 2, nt := 12, res := [(4, some (2, true)), (5, none)], body :=
 (.seq (.reg false [] [0, 1, 4] [⟨some 4, .alc [.int .i64 0, .int .i64 0], none⟩, zc 5 (.int .i64 0)])
 (.seq (.reg false [] [4, 5] [zm 6 0, zm 7 1, zk 8 103 [(.t 6), (.t 7)], zk 9 105 [(.t 8)], zx 10 0 9, zx 11 1 9, ⟨none, .st 2 [] (.t 4) (.t 10), none⟩, zm 5 11])
 .ret)) }
def N102_math_bits_LeadingZeros64 : NFun := { np := 1, nt := 6, res := [(2, none)], body :=
 (.seq (.reg false [] [0] [zc 2 (.int .i64 0)])
 (.seq (.reg false [] [2] [zm 3 0, zk 4 111 [(.t 3)], ⟨some 5, .bin .sub (.c (.int .i64 64)) (.t 4), none⟩, zm 2 5])
 .ret)) }
def N103_wide_times : NFun := { np := 2, nt := 23, res := [(4, some (3, true))], body :=
 (.seq (.reg false [] [0, 1, 4] [⟨some 4, .alc [.int .u64 0, .int .u64 0, .bool false], none⟩])
 (.seq (.reg false [] [0, 1, 4, 5, 6] [zm 8 0, zk 9 112 [(.t 8)], zm 10 1, zk 11 112 [(.t 10)], zk 12 91 [(.t 9), (.t 11)], zm 7 12, zx 13 0 7, zx 14 1 7, zm 5 13, zm 6 14])
 (.seq (.reg false [] [4] [zm 15 5, zm 16 6, zm 17 0, zd 18 .lss 17 (.int .i64 0), zm 19 1, zd 20 .lss 19 (.int .i64 0), ⟨some 21, .beq true [] (.t 18) (.t 20), none⟩, zk 22 113 [(.t 15), (.t 16), (.t 21)], ⟨none, .st 3 [] (.t 4) (.t 22), none⟩])
 .ret))) }
def N104_wide_quotient : NFun := { np := 3, nt := 52, res := [(6, none), (7, none)], body :=
 (.seq (.reg false [] [1, 2, 3] [zo 3 0, zc 6 (.int .i64 0), zc 7 (.int .i64 0)])
 (.seq (.reg false [] [1, 2, 3, 8] [zm 12 1, zk 13 112 [(.t 12)], zm 8 13])
 (.seq (.seq (.reg false [] [1, 2, 3, 8, 17] [zf 14 0 3, zl 15 1 14, zm 16 8, zb 17 .geq 15 16])
 (.cond (.t 17) (.seq (.reg false [] [6, 7] [zc 6 (.int .i64 0), zc 7 (.int .i64 5)])
 .ret)
 .skip))
 (.seq (.reg false [] [1, 2, 3, 9, 10] [zf 19 0 3, zl 20 1 19, zf 21 1 3, zl 22 1 21, zm 23 8, zk 24 92 [(.t 20), (.t 22), (.t 23)], zm 18 24, zx 25 0 18, zx 26 1 18, zm 9 25, zm 10 26])
 (.seq (.reg false [] [2, 9, 10, 11] [zf 27 2 3, zl 28 1 27, zm 29 1, zd 30 .lss 29 (.int .i64 0), ⟨some 31, .beq true [] (.t 28) (.t 30), none⟩, zm 11 31])
 (.seq (.seq (.reg false [] [9, 11, 38] [zm 32 10, zd 33 .gtr 32 (.int .u64 0), zm 34 33, zg 34 true (zm 35 11), zg 34 true (zm 36 2), zg 34 true (⟨some 37, .beq true [] (.t 35) (.t 36), none⟩), ⟨some 38, .pick (.t 34) (.t 37) (.c (.bool false)), none⟩])
 (.cond (.t 38) (.seq (.reg false [] [9, 11] [zm 39 9, zd 40 .add 39 (.int .u64 1), zm 9 40])
 (.seq (.reg false [] [9, 11, 42] [zm 41 9, zd 42 .eql 41 (.int .u64 0)])
 (.cond (.t 42) (.seq (.reg false [] [6, 7] [zc 6 (.int .i64 0), zc 7 (.int .i64 5)])
 .ret)
 .skip)))
 .skip))
 (.seq (.reg false [] [6, 7] [zm 43 9, zm 44 11, zm 45 44, zg 45 true (zm 46 9), zg 45 true (zd 47 .gtr 46 (.int .u64 0)), ⟨some 48, .pick (.t 45) (.t 47) (.c (.bool false)), none⟩, zk 49 110 [(.t 43), (.t 48)], zx 50 0 49, zx 51 1 49, zm 6 50, zm 7 51])
 .ret))))))) }
def N105_wide_placed : NFun := { np := 1, nt := 56, res := [(2, some (2, true)), (3, none)], body :=
 (.seq (.reg false [] [1, 2] [zo 1 0, ⟨some 2, .alc [.int .i64 0, .int .i64 0], none⟩, zc 3 (.int .i64 0)])
 (.seq (.seq (.reg false [] [1, 2, 23] [zf 6 0 1, zl 7 1 6, zd 8 .gtr 7 (.int .u64 72057594037927936), zm 9 8, zg 9 false (zf 10 0 1), zg 9 false (zl 11 1 10), zg 9 false (zd 12 .eql 11 (.int .u64 72057594037927936)), zg 9 false (zm 13 12), zg 13 true (zf 14 1 1), zg 13 true (zl 15 1 14), zg 13 true (zd 16 .gtr 15 (.int .u64 0)), zg 13 true (zm 17 16), zg 17 false (zf 18 2 1), zg 17 false (zl 19 1 18), zg 17 false (zt 20 19), zg 13 true (⟨some 21, .pick (.t 17) (.c (.bool true)) (.t 20), none⟩), zg 9 false (⟨some 22, .pick (.t 13) (.t 21) (.c (.bool false)), none⟩), ⟨some 23, .pick (.t 9) (.c (.bool true)) (.t 22), none⟩])
 (.cond (.t 23) (.seq (.reg false [] [2, 3] [⟨some 24, .bld [.int .i64 0, .int .i64 0] [], none⟩, ⟨none, .st 2 [] (.t 2) (.t 24), none⟩, zc 3 (.int .i64 5)])
 .ret)
 .skip))
 (.seq (.reg true [0, 1, 3, 0, 8, 24, 63, 127, 0, 256, 768, 1792, 255, 8191] [1, 2, 4, 5] [zf 25 0 1, zl 26 1 25, zd 27 .shl 26 (.int .u64 4), zf 28 1 1, zl 29 1 28, zd 30 .shr 29 (.int .u64 60), zb 31 .or 27 30, ⟨some 32, .conv .i64 (.t 31), none⟩, zf 33 1 1, zl 34 1 33, zd 35 .and 34 (.int .u64 1152921504606846975), ⟨some 36, .conv .i64 (.t 35), none⟩, zm 4 32, zm 5 36])
 (.seq (.block 0 (.seq (.reg false [] [2, 4, 5, 37] [zf 38 2 1, zl 39 1 38, zt 40 39, zm 37 40])
 (.cond (.t 37) (.seq (.reg false [] [2, 3] [zm 41 4, zm 42 5, ⟨some 43, .bld [.int .i64 0, .int .i64 0] [(0, 1, (.t 41)), (1, 1, (.t 42))], none⟩, ⟨none, .st 2 [] (.t 2) (.t 43), none⟩, zc 3 (.int .i64 0)])
 .ret)
 (.seq (.reg false [] [2, 4, 5, 44] [zm 45 5, zd 46 .eql 45 (.int .i64 0), zm 44 46])
 (.cond (.t 44) (.seq (.reg false [] [2, 3] [zm 47 4, ⟨some 48, .un .neg (.t 47), none⟩, ⟨some 49, .bld [.int .i64 0, .int .i64 0] [(0, 1, (.t 48))], none⟩, ⟨none, .st 2 [] (.t 2) (.t 49), none⟩, zc 3 (.int .i64 0)])
 .ret)
 .skip)))))
 (.seq (.reg false [] [2, 3] [zm 50 4, ⟨some 51, .un .neg (.t 50), none⟩, zd 52 .sub 51 (.int .i64 1), zm 53 5, ⟨some 54, .bin .sub (.c (.int .i64 1152921504606846976)) (.t 53), none⟩, ⟨some 55, .bld [.int .i64 0, .int .i64 0] [(0, 1, (.t 52)), (1, 1, (.t 54))], none⟩, ⟨none, .st 2 [] (.t 2) (.t 55), none⟩, zc 3 (.int .i64 0)])
 .ret))))) }
def N106_wide_Valid : NFun := { np := 1, nt := 21, res := [(2, none)], body :=
 (.seq (.reg false [] [1] [zo 1 0, zc 2 (.bool false)])
 (.seq (.reg false [] [2] [zf 3 0 1, zl 4 1 3, ⟨some 5, .bin .geq (.t 4) (.c (.int .i64 (-1152921504606846976))), none⟩, zm 6 5, zg 6 true (zf 7 0 1), zg 6 true (zl 8 1 7), zg 6 true (zd 9 .lss 8 (.int .i64 1152921504606846976)), ⟨some 10, .pick (.t 6) (.t 9) (.c (.bool false)), none⟩, zm 11 10, zg 11 true (zf 12 1 1), zg 11 true (zl 13 1 12), zg 11 true (zd 14 .geq 13 (.int .i64 0)), ⟨some 15, .pick (.t 11) (.t 14) (.c (.bool false)), none⟩, zm 16 15, zg 16 true (zf 17 1 1), zg 16 true (zl 18 1 17), zg 16 true (zd 19 .lss 18 (.int .i64 1152921504606846976)), ⟨some 20, .pick (.t 16) (.t 19) (.c (.bool false)), none⟩, zm 2 20])
 .ret)) }
def N107_wide_sum : NFun := { np := 2, nt := 73, res := [(4, some (3, true))], body :=
 (.seq (.reg false [] [2, 3, 4] [⟨some 2, .box [] (.t 0), none⟩, ⟨some 3, .box [] (.t 1), none⟩, ⟨some 4, .alc [.int .u64 0, .int .u64 0, .bool false], none⟩])
 (.seq (.seq (.reg false [] [2, 3, 4, 13] [zf 9 2 2, zl 10 1 9, zf 11 2 3, zl 12 1 11, ⟨some 13, .beq false [] (.t 10) (.t 12), none⟩])
 (.cond (.t 13) (.seq (.reg false [] [2, 3, 4, 5, 6] [zf 15 1 2, zl 16 1 15, zf 17 1 3, zl 18 1 17, ⟨some 19, .add64 (.t 16) (.t 18) (.c (.int .u64 0)), none⟩, zm 14 19, zx 20 0 14, zx 21 1 14, zm 5 20, zm 6 21])
 (.seq (.reg false [] [4] [zf 22 0 2, zl 23 1 22, zf 24 0 3, zl 25 1 24, zb 26 .add 23 25, zm 27 6, zb 28 .add 26 27, zm 29 5, zf 30 2 2, zl 31 1 30, zk 32 113 [(.t 28), (.t 29), (.t 31)], ⟨none, .st 3 [] (.t 4) (.t 32), none⟩])
 .ret))
 .skip))
 (.seq (.seq (.reg false [] [2, 3, 4, 51] [zf 33 0 2, zl 34 1 33, zf 35 0 3, zl 36 1 35, zb 37 .lss 34 36, zm 38 37, zg 38 false (zf 39 0 2), zg 38 false (zl 40 1 39), zg 38 false (zf 41 0 3), zg 38 false (zl 42 1 41), zg 38 false (zb 43 .eql 40 42), zg 38 false (zm 44 43), zg 44 true (zf 45 1 2), zg 44 true (zl 46 1 45), zg 44 true (zf 47 1 3), zg 44 true (zl 48 1 47), zg 44 true (zb 49 .lss 46 48), zg 38 false (⟨some 50, .pick (.t 44) (.t 49) (.c (.bool false)), none⟩), ⟨some 51, .pick (.t 38) (.c (.bool true)) (.t 50), none⟩])
 (.cond (.t 51) (.reg false [] [2, 3, 4] [zL 52 3 3, zL 53 3 2, ⟨none, .st 3 [] (.t 2) (.t 52), none⟩, ⟨none, .st 3 [] (.t 3) (.t 53), none⟩])
 .skip))
 (.seq (.reg false [] [2, 3, 4, 7, 8] [zf 55 1 2, zl 56 1 55, zf 57 1 3, zl 58 1 57, ⟨some 59, .sub64 (.t 56) (.t 58) (.c (.int .u64 0)), none⟩, zm 54 59, zx 60 0 54, zx 61 1 54, zm 7 60, zm 8 61])
 (.seq (.reg false [] [4] [zf 62 0 2, zl 63 1 62, zf 64 0 3, zl 65 1 64, zb 66 .sub 63 65, zm 67 8, zb 68 .sub 66 67, zm 69 7, zf 70 2 2, zl 71 1 70, zk 72 113 [(.t 68), (.t 69), (.t 71)], ⟨none, .st 3 [] (.t 4) (.t 72), none⟩])
 .ret))))) }
def N108_wide_value : NFun := { np := 1, nt := 37, res := [(2, some (3, true))], body :=
 (.seq (.reg false [] [1, 2] [zo 1 0, ⟨some 2, .alc [.int .u64 0, .int .u64 0, .bool false], none⟩])
 (.seq (.reg false [] [1, 2, 3] [zf 7 0 1, zl 8 1 7, zk 9 112 [(.t 8)], zm 3 9])
 (.seq (.reg false [] [1, 2, 4, 5] [zm 10 3, zd 11 .shr 10 (.int .u64 4), zm 12 3, zd 13 .shl 12 (.int .u64 60), zm 4 11, zm 5 13])
 (.seq (.seq (.reg false [] [1, 2, 4, 5, 16] [zf 14 0 1, zl 15 1 14, zd 16 .geq 15 (.int .i64 0)])
 (.cond (.t 16) (.seq (.reg false [] [2] [zm 17 4, zm 18 5, zf 19 1 1, zl 20 1 19, ⟨some 21, .conv .u64 (.t 20), none⟩, zb 22 .or 18 21, ⟨some 23, .bld [.int .u64 0, .int .u64 0, .bool false] [(0, 1, (.t 17)), (1, 1, (.t 22)), (2, 1, (.c (.bool false)))], none⟩, ⟨none, .st 3 [] (.t 2) (.t 23), none⟩])
 .ret)
 .skip))
 (.seq (.reg false [] [2, 4, 5, 6] [zm 25 5, zf 26 1 1, zl 27 1 26, ⟨some 28, .conv .u64 (.t 27), none⟩, ⟨some 29, .sub64 (.t 25) (.t 28) (.c (.int .u64 0)), none⟩, zm 24 29, zx 30 0 24, zx 31 1 24, zm 5 30, zm 6 31])
 (.seq (.reg false [] [2] [zm 32 4, zm 33 6, zb 34 .sub 32 33, zm 35 5, ⟨some 36, .bld [.int .u64 0, .int .u64 0, .bool false] [(0, 1, (.t 34)), (1, 1, (.t 35)), (2, 1, (.c (.bool true)))], none⟩, ⟨none, .st 3 [] (.t 2) (.t 36), none⟩])
 .ret)))))) }
def N110_wide_whole : NFun := { np := 2, nt := 24, res := [(4, none), (5, none)], body :=
 (.seq (.reg false [] [0, 1] [zc 4 (.int .i64 0), zc 5 (.int .i64 0)])
 (.seq (.block 0 (.seq (.reg false [] [0, 1, 6] [zm 7 1, zt 8 7, zm 9 8, zg 9 true (zm 10 0), zg 9 true (zd 11 .leq 10 (.int .u64 9223372036854775807)), ⟨some 12, .pick (.t 9) (.t 11) (.c (.bool false)), none⟩, zm 6 12])
 (.cond (.t 6) (.seq (.reg false [] [4, 5] [zm 13 0, ⟨some 14, .conv .i64 (.t 13), none⟩, zm 4 14, zc 5 (.int .i64 0)])
 .ret)
 (.seq (.reg false [] [0, 15] [zm 16 1, zm 17 16, zg 17 true (zm 18 0), zg 17 true (zd 19 .leq 18 (.int .u64 9223372036854775808)), ⟨some 20, .pick (.t 17) (.t 19) (.c (.bool false)), none⟩, zm 15 20])
 (.cond (.t 15) (.seq (.reg false [] [4, 5] [zm 21 0, ⟨some 22, .un .neg (.t 21), none⟩, ⟨some 23, .conv .i64 (.t 22), none⟩, zm 4 23, zc 5 (.int .i64 0)])
 .ret)
 .skip)))))
 (.seq (.reg false [] [4, 5] [zc 4 (.int .i64 0), zc 5 (.int .i64 5)])
 .ret))) }
def S1 : List UInt8 := [0, 1, 2, 2, 3, 3, 3, 3, 4, 4, 4, 4, 4, 4, 4, 4, 5, 5, 5, 5, 5, 5, 5, 5, 5, 5, 5, 5, 5, 5, 5, 5, 6, 6, 6, 6, 6, 6, 6, 6, 6, 6, 6, 6, 6, 6, 6, 6, 6, 6, 6, 6, 6, 6, 6, 6, 6, 6, 6, 6, 6, 6, 6, 6, 7, 7, 7, 7, 7, 7, 7, 7, 7, 7, 7, 7, 7, 7, 7, 7, 7, 7, 7, 7, 7, 7, 7, 7, 7, 7, 7, 7, 7, 7, 7, 7, 7, 7, 7, 7, 7, 7, 7, 7, 7, 7, 7, 7, 7, 7, 7, 7, 7, 7, 7, 7, 7, 7, 7, 7, 7, 7, 7, 7, 7, 7, 7, 7, 8, 8, 8, 8, 8, 8, 8, 8, 8, 8, 8, 8, 8, 8, 8, 8, 8, 8, 8, 8, 8, 8, 8, 8, 8, 8, 8, 8, 8, 8, 8, 8, 8, 8, 8, 8, 8, 8, 8, 8, 8, 8, 8, 8, 8, 8, 8, 8, 8, 8, 8, 8, 8, 8, 8, 8, 8, 8, 8, 8, 8, 8, 8, 8, 8, 8, 8, 8, 8, 8, 8, 8, 8, 8, 8, 8, 8, 8, 8, 8, 8, 8, 8, 8, 8, 8, 8, 8, 8, 8, 8, 8, 8, 8, 8, 8, 8, 8, 8, 8, 8, 8, 8, 8, 8, 8, 8, 8, 8, 8, 8, 8, 8, 8, 8, 8, 8, 8, 8, 8, 8, 8, 8, 8, 8, 8, 8, 8]
def N111_math_bits_Len64 : NFun := { np := 1, nt := 25, res := [(2, none)], body :=
 (.seq (.reg false [] [0, 2] [zc 2 (.int .i64 0)])
 (.seq (.seq (.reg false [] [0, 2, 4] [zm 3 0, zd 4 .geq 3 (.int .u64 4294967296)])
 (.cond (.t 4) (.seq (.reg false [] [0] [zm 5 0, zd 6 .shr 5 (.int .u64 32), zm 0 6])
 (.reg false [] [0, 2] [zc 2 (.int .i64 32)]))
 .skip))
 (.seq (.seq (.reg false [] [0, 2, 8] [zm 7 0, zd 8 .geq 7 (.int .u64 65536)])
 (.cond (.t 8) (.seq (.reg false [] [0, 2] [zm 9 0, zd 10 .shr 9 (.int .u64 16), zm 0 10])
 (.reg false [] [0, 2] [zm 11 2, zd 12 .add 11 (.int .i64 16), zm 2 12]))
 .skip))
 (.seq (.seq (.reg false [] [0, 2, 14] [zm 13 0, zd 14 .geq 13 (.int .u64 256)])
 (.cond (.t 14) (.seq (.reg false [] [0, 2] [zm 15 0, zd 16 .shr 15 (.int .u64 8), zm 0 16])
 (.reg false [] [0, 2] [zm 17 2, zd 18 .add 17 (.int .i64 8), zm 2 18]))
 .skip))
 (.seq (.reg false [] [2] [zm 19 2, zm 20 0, ⟨some 21, .conv .u8 (.t 20), none⟩, ⟨some 22, .idxS (.c (.str S1)) (.t 21), none⟩, ⟨some 23, .conv .i64 (.t 22), none⟩, zb 24 .add 19 23, zm 2 24])
 .ret))))) }
def N112_wide_size : NFun := { np := 1, nt := 10, res := [(2, none)], body :=
 (.seq (.reg false [] [0] [zc 2 (.int .u64 0)])
 (.seq (.seq (.reg false [] [0, 4] [zm 3 0, zd 4 .lss 3 (.int .i64 0)])
 (.cond (.t 4) (.seq (.reg false [] [2] [zm 5 0, ⟨some 6, .conv .u64 (.t 5), none⟩, ⟨some 7, .un .neg (.t 6), none⟩, zm 2 7])
 .ret)
 .skip))
 (.seq (.reg false [] [2] [zm 8 0, ⟨some 9, .conv .u64 (.t 8), none⟩, zm 2 9])
 .ret))) }
def N113_wide_signed : NFun := { np := 3, nt := 19, res := [(6, some (3, true))], body :=
 (.seq (.reg false [] [0, 1, 2, 6] [⟨some 6, .alc [.int .u64 0, .int .u64 0, .bool false], none⟩])
 (.seq (.reg false [] [6] [zm 7 0, zm 8 1, zm 9 2, zm 10 9, zg 10 true (zm 11 0), zg 10 true (zd 12 .neq 11 (.int .u64 0)), zg 10 true (zm 13 12), zg 13 false (zm 14 1), zg 13 false (zd 15 .neq 14 (.int .u64 0)), zg 10 true (⟨some 16, .pick (.t 13) (.c (.bool true)) (.t 15), none⟩), ⟨some 17, .pick (.t 10) (.t 16) (.c (.bool false)), none⟩, ⟨some 18, .bld [.int .u64 0, .int .u64 0, .bool false] [(0, 1, (.t 7)), (1, 1, (.t 8)), (2, 1, (.t 17))], none⟩, ⟨none, .st 3 [] (.t 6) (.t 18), none⟩])
 .ret)) }
def N233_locate_Level : NFun := { np := 2, nt := 45, res := [(4, some (2, true)), (5, none)], body :=
 (.seq (.reg false [] [2, 3, 4] [zo 2 0, zo 3 1, ⟨some 4, .alc [.int .i64 0, .int .i64 0], none⟩, zc 5 (.int .i64 0)])
 (.seq (.reg false [] [4, 6, 7, 8] [zL 12 2 2, zL 13 2 3, zk 14 269 [(.t 12), (.t 13)], zm 11 14, zx 15 0 11, zx 16 1 11, zx 17 2 11, ⟨some 6, .alc [.int .i64 0, .int .i64 0], none⟩, ⟨none, .st 2 [] (.t 6) (.t 15), none⟩, zm 7 16, zm 8 17])
 (.seq (.seq (.reg false [] [4, 6, 7, 8, 19] [zm 18 8, zd 19 .neq 18 (.int .i64 0)])
 (.cond (.t 19) (.seq (.reg false [] [4, 5] [⟨some 20, .bld [.int .i64 0, .int .i64 0] [], none⟩, zm 21 8, ⟨none, .st 2 [] (.t 4) (.t 20), none⟩, zm 5 21])
 .ret)
 .skip))
 (.seq (.reg false [] [4, 6, 7, 8, 9] [zL 23 2 6, zm 24 7, zk 25 271 [(.t 23), (.t 24)], zm 22 25, zx 26 0 22, zx 27 1 22, zm 9 26, zm 8 27])
 (.seq (.seq (.reg false [] [4, 6, 7, 8, 9, 29] [zm 28 8, zd 29 .neq 28 (.int .i64 0)])
 (.cond (.t 29) (.seq (.reg false [] [4, 5] [⟨some 30, .bld [.int .i64 0, .int .i64 0] [], none⟩, zm 31 8, ⟨none, .st 2 [] (.t 4) (.t 30), none⟩, zm 5 31])
 .ret)
 .skip))
 (.seq (.reg false [] [4, 8, 9, 10] [zL 33 2 6, zm 34 7, zk 35 272 [(.t 33), (.t 34)], zm 32 35, zx 36 0 32, zx 37 1 32, zm 10 36, zm 8 37])
 (.seq (.seq (.reg false [] [4, 8, 9, 10, 39] [zm 38 8, zd 39 .neq 38 (.int .i64 0)])
 (.cond (.t 39) (.seq (.reg false [] [4, 5] [⟨some 40, .bld [.int .i64 0, .int .i64 0] [], none⟩, zm 41 8, ⟨none, .st 2 [] (.t 4) (.t 40), none⟩, zm 5 41])
 .ret)
 .skip))
 (.seq (.reg false [] [4, 5] [zm 42 9, zm 43 10, ⟨some 44, .bld [.int .i64 0, .int .i64 0] [(0, 1, (.t 42)), (1, 1, (.t 43))], none⟩, ⟨none, .st 2 [] (.t 4) (.t 44), none⟩, zc 5 (.int .i64 0)])
 .ret)))))))) }
def N234_mesh_Valid : NFun := { np := 1, nt := 17, res := [(2, none)], body :=
 (.seq (.reg false [] [1] [zo 1 0, zc 2 (.bool false)])
 (.seq (.reg false [] [3, 4] [zL 6 2 1, zk 7 273 [(.t 6)], zm 5 7, zx 8 0 5, zx 9 1 5, zq 3 8, zm 4 9])
 (.seq (.reg false [] [2] [zm 10 4, zd 11 .eql 10 (.int .i64 0), zm 12 11, zg 12 true (zq 13 3), zg 12 true (zn 14 13), zg 12 true (zd 15 .eql 14 (.int .i64 0)), ⟨some 16, .pick (.t 12) (.t 15) (.c (.bool false)), none⟩, zm 2 16])
 .ret))) }
def N237_ref07_Valid : NFun := { np := 1, nt := 21, res := [(2, none)], body :=
 (.seq (.reg false [] [1] [zo 1 0, zc 2 (.bool false)])
 (.seq (.reg false [] [2] [zf 3 0 1, zl 4 1 3, ⟨some 5, .bin .geq (.t 4) (.c (.int .i64 (-16777216))), none⟩, zm 6 5, zg 6 true (zf 7 0 1), zg 6 true (zl 8 1 7), zg 6 true (zd 9 .leq 8 (.int .i64 16777216)), ⟨some 10, .pick (.t 6) (.t 9) (.c (.bool false)), none⟩, zm 11 10, zg 11 true (zf 12 1 1), zg 11 true (zl 13 1 12), zg 11 true (⟨some 14, .bin .geq (.t 13) (.c (.int .i64 (-16777216))), none⟩), ⟨some 15, .pick (.t 11) (.t 14) (.c (.bool false)), none⟩, zm 16 15, zg 16 true (zf 17 1 1), zg 16 true (zl 18 1 17), zg 16 true (zd 19 .leq 18 (.int .i64 16777216)), ⟨some 20, .pick (.t 16) (.t 19) (.c (.bool false)), none⟩, zm 2 20])
 .ret)) }
def N239_slices_ContainsFunc__api_Point_api_Point : NFun := { np := 2, nt := 9, res := [(4, none)], body :=
 (.seq (.reg false [] [0, 1] [zc 4 (.bool false)])
 (.seq (.reg false [] [4] [zq 5 0, zm 6 1, zk 7 278 [(.t 5), (.t 6)], zd 8 .geq 7 (.int .i64 0), zm 4 8])
 .ret)) }
def N267_cmp_Compare_int : NFun := { np := 2, nt := 20, res := [(4, none)], body :=
 (.seq (.reg false [] [0, 1] [zc 4 (.int .i64 0)])
 (.seq (.reg false [] [0, 1, 5] [zm 7 0, zk 8 299 [(.t 7)], zm 5 8])
 (.seq (.reg false [] [0, 1, 5, 6] [zm 9 1, zk 10 299 [(.t 9)], zm 6 10])
 (.seq (.seq (.reg false [] [0, 1, 6, 11] [zm 11 5])
 (.cond (.t 11) (.seq (.seq (.reg false [] [12] [zm 12 6])
 (.cond (.t 12) (.seq (.reg false [] [4] [zc 4 (.int .i64 0)])
 .ret)
 .skip))
 (.seq (.reg false [] [4] [⟨some 4, .mov (.c (.int .i64 (-1))), none⟩])
 .ret))
 .skip))
 (.seq (.seq (.reg false [] [0, 1, 13] [zm 13 6])
 (.cond (.t 13) (.seq (.reg false [] [4] [zc 4 (.int .i64 1)])
 .ret)
 .skip))
 (.seq (.seq (.reg false [] [0, 1, 16] [zm 14 0, zm 15 1, zb 16 .lss 14 15])
 (.cond (.t 16) (.seq (.reg false [] [4] [⟨some 4, .mov (.c (.int .i64 (-1))), none⟩])
 .ret)
 .skip))
 (.seq (.seq (.reg false [] [19] [zm 17 0, zm 18 1, zb 19 .gtr 17 18])
 (.cond (.t 19) (.seq (.reg false [] [4] [zc 4 (.int .i64 1)])
 .ret)
 .skip))
 (.seq (.reg false [] [4] [zc 4 (.int .i64 0)])
 .ret)))))))) }
def N269_locate_Exact : NFun := { np := 2, nt := 25, res := [(4, some (2, true)), (5, none), (6, none)], body :=
 (.seq (.reg false [] [2, 3, 4] [zo 2 0, zo 3 1, ⟨some 4, .alc [.int .i64 0, .int .i64 0], none⟩, zc 5 (.int .i64 0), zc 6 (.int .i64 0)])
 (.seq (.reg false [] [2, 3, 4, 6, 7] [zL 9 2 2, zL 10 2 3, zk 11 274 [(.t 9), (.t 10)], zm 8 11, zx 12 0 8, zx 13 1 8, zm 7 12, zm 6 13])
 (.seq (.seq (.reg false [] [2, 3, 4, 6, 7, 15] [zm 14 6, zd 15 .neq 14 (.int .i64 0)])
 (.cond (.t 15) (.seq (.reg false [] [4, 5, 6] [⟨some 16, .bld [.int .i64 0, .int .i64 0] [], none⟩, zm 17 6, ⟨none, .st 2 [] (.t 4) (.t 16), none⟩, zc 5 (.int .i64 0), zm 6 17])
 .ret)
 .skip))
 (.seq (.reg false [] [4, 5, 6] [zL 18 2 2, zm 19 7, zL 20 2 3, zk 21 300 [(.t 18), (.t 19), (.t 20)], zx 22 0 21, zx 23 1 21, zx 24 2 21, ⟨none, .st 2 [] (.t 4) (.t 22), none⟩, zm 5 23, zm 6 24])
 .ret)))) }
def N271_wide_Floor : NFun := { np := 2, nt := 11, res := [(4, none), (5, none)], body :=
 (.seq (.reg false [] [1, 2] [zo 2 0, zc 4 (.int .i64 0), zc 5 (.int .i64 0)])
 (.seq (.reg false [] [4, 5] [zL 6 2 2, zm 7 1, zk 8 301 [(.t 6), (.t 7), (.c (.bool false))], zx 9 0 8, zx 10 1 8, zm 4 9, zm 5 10])
 .ret)) }
def N272_wide_Ceil : NFun := { np := 2, nt := 11, res := [(4, none), (5, none)], body :=
 (.seq (.reg false [] [1, 2] [zo 2 0, zc 4 (.int .i64 0), zc 5 (.int .i64 0)])
 (.seq (.reg false [] [4, 5] [zL 6 2 2, zm 7 1, zk 8 301 [(.t 6), (.t 7), (.c (.bool true))], zx 9 0 8, zx 10 1 8, zm 4 9, zm 5 10])
 .ret)) }
def N273_mesh_Check : NFun := { np := 1, nt := 202, res := [(2, none), (3, none)], body :=
 (.seq (.reg false [] [1] [zo 1 0, zc 2 .nils, zc 3 (.int .i64 0)])
 (.seq (.seq (.reg false [] [1, 24] [zL 22 2 1, zk 23 302 [(.t 22)], zt 24 23])
 (.cond (.t 24) (.seq (.reg false [] [2, 3] [zc 2 .nils, zc 3 (.int .i64 4)])
 .ret)
 .skip))
 (.seq (.reg false [] [1, 4] [⟨some 4, .alc [.own 1 [], .own 1 [], .own 1 [], .own 1 [], .own 1 [], .own 1 [], .own 1 []], none⟩])
 (.seq (.reg false [] [1, 4, 5] [zf 25 0 1, zl 26 1 25, zn 27 26, ⟨some 28, .mks 1 1 [.bool false] (.t 27) (.t 27), none⟩, ⟨some 5, .alc [.own 1 []], none⟩, ⟨none, .st 1 [] (.t 5) (.t 28), none⟩])
 (.seq (.reg false [] [1, 4, 5, 6] [⟨some 29, .mkm 4 1, none⟩, zm 6 29])
 (.seq (.seq (.reg false [] [1, 4, 5, 6, 31, 32, 33] [zf 30 0 1, zl 31 1 30, zn 32 31, zc 33 (.int .i64 0)])
 (.block 0 (.loop (.seq (.reg false [] [1, 4, 5, 6, 31, 32, 33, 34] [zb 34 .lss 33 32])
 (.seq (.cond (.t 34) .skip
 (.exit 0))
 (.seq (.block 1 (.seq (.reg false [] [1, 4, 5, 6, 7, 8, 31, 32, 33] [zm 35 33, zi 36 3 31 33, zL 37 3 36, ⟨some 8, .alc [.int .i64 0, .int .i64 0, .int .i64 0], none⟩, zm 7 35, ⟨none, .st 3 [] (.t 8) (.t 37), none⟩])
 (.seq (.seq (.reg true [0, 0, 0, 4, 12, 31, 63] [1, 4, 5, 6, 7, 31, 32, 33] [zl 38 1 5, zm 39 7, zL 40 3 8, zk 41 303 [(.t 40)], zt 42 41, zi 43 1 38 39, ⟨none, .st 1 [] (.t 43) (.t 42), none⟩])
 (.seq (.reg false [] [1, 4, 5, 6, 7, 31, 32, 33, 47] [zl 44 1 5, zm 45 7, zi 46 1 44 45, zl 47 1 46])
 (.cond (.t 47) (.seq (.reg false [] [1, 4, 5, 6, 31, 32, 33] [⟨some 48, .iadA 7 1 (.t 4) (.c (.int .i64 1)), none⟩, zl 49 1 48, zm 50 7, ⟨some 51, .bls 1 1 [.int .i64 0] [] [(0, (.t 50))], none⟩, ⟨some 52, .app 1 8 false (.t 49) (.t 51), none⟩, ⟨some 53, .iadA 7 1 (.t 4) (.c (.int .i64 1)), none⟩, ⟨none, .st 1 [] (.t 53) (.t 52), none⟩])
 (.exit 1))
 .skip)))
 (.seq (.reg false [] [1, 4, 5, 6, 7, 9, 31, 32, 33] [zL 54 2 1, zm 55 7, zk 56 304 [(.t 54), (.t 55)], ⟨some 9, .alc [.int .i64 0, .int .i64 0], none⟩, ⟨none, .st 2 [] (.t 9) (.t 56), none⟩])
 (.seq (.seq (.reg false [] [1, 4, 5, 6, 7, 9, 31, 32, 33, 59] [zm 57 6, zL 58 2 9, ⟨some 59, .mpl (.ints .i64 2) 4 1 false (.bool false) (.t 57) (.t 58), none⟩])
 (.cond (.t 59) (.reg false [] [1, 4, 5, 6, 9, 31, 32, 33] [⟨some 60, .iadA 7 1 (.t 4) (.c (.int .i64 2)), none⟩, zl 61 1 60, zm 62 7, ⟨some 63, .bls 1 1 [.int .i64 0] [] [(0, (.t 62))], none⟩, ⟨some 64, .app 1 8 false (.t 61) (.t 63), none⟩, ⟨some 65, .iadA 7 1 (.t 4) (.c (.int .i64 2)), none⟩, ⟨none, .st 1 [] (.t 65) (.t 64), none⟩])
 .skip))
 (.reg false [] [1, 4, 5, 6, 31, 32, 33] [zm 66 6, zL 67 2 9, ⟨none, .mpu (.ints .i64 2) 4 1 (.bool false) (.t 66) (.t 67) (.c (.bool true)), none⟩]))))))
 (.reg false [] [1, 4, 5, 6, 31, 32, 33] [zd 68 .add 33 (.int .i64 1), zm 33 68])))))))
 (.seq (.reg false [] [1, 4, 5, 10] [⟨some 69, .mkm 3 1, none⟩, zm 10 69])
 (.seq (.reg false [] [1, 4, 5, 10, 11] [⟨some 11, .nilo 6, none⟩])
 (.seq (.seq (.reg false [] [1, 4, 5, 10, 11, 71, 72, 73] [zf 70 1 1, zl 71 1 70, zn 72 71, zc 73 (.int .i64 0)])
 (.block 2 (.loop (.seq (.reg false [] [1, 4, 5, 10, 11, 71, 72, 73, 74] [zb 74 .lss 73 72])
 (.seq (.cond (.t 74) .skip
 (.exit 2))
 (.seq (.block 3 (.seq (.reg false [] [1, 4, 5, 10, 11, 12, 13, 71, 72, 73] [zm 75 73, zi 76 4 71 73, zL 77 4 76, ⟨some 13, .alc [.int .i64 0, .int .i64 0, .int .i64 0, .int .i64 0], none⟩, zm 12 75, ⟨none, .st 4 [] (.t 13) (.t 77), none⟩])
 (.seq (.reg false [] [1, 4, 5, 10, 11, 12, 13, 14, 71, 72, 73] [zL 78 4 13, zk 79 305 [(.t 78)], ⟨some 14, .alc [.int .i64 0, .int .i64 0, .int .i64 0], none⟩, ⟨none, .st 3 [] (.t 14) (.t 79), none⟩])
 (.seq (.seq (.reg false [] [1, 4, 5, 10, 11, 12, 13, 71, 72, 73, 113] [⟨some 80, .slM 3 1 (.t 14), none⟩, ⟨some 81, .mk 306 [(.t 1), (.t 5)], none⟩, zk 82 11 [(.t 80), (.t 81)], zm 83 82, zg 83 false (zf 84 0 13), zg 83 false (zl 85 1 84), zg 83 false (zf 86 1 13), zg 83 false (zl 87 1 86), zg 83 false (zb 88 .eql 85 87), ⟨some 89, .pick (.t 83) (.c (.bool true)) (.t 88), none⟩, zm 90 89, zg 90 false (zf 91 1 13), zg 90 false (zl 92 1 91), zg 90 false (zf 93 2 13), zg 90 false (zl 94 1 93), zg 90 false (zb 95 .eql 92 94), ⟨some 96, .pick (.t 90) (.c (.bool true)) (.t 95), none⟩, zm 97 96, zg 97 false (zf 98 2 13), zg 97 false (zl 99 1 98), zg 97 false (zf 100 0 13), zg 97 false (zl 101 1 100), zg 97 false (zb 102 .eql 99 101), ⟨some 103, .pick (.t 97) (.c (.bool true)) (.t 102), none⟩, zm 104 103, zg 104 false (zf 105 3 13), zg 104 false (zl 106 1 105), zg 104 false (zd 107 .lss 106 (.int .i64 0)), ⟨some 108, .pick (.t 104) (.c (.bool true)) (.t 107), none⟩, zm 109 108, zg 109 false (zf 110 3 13), zg 109 false (zl 111 1 110), zg 109 false (zd 112 .geq 111 (.int .i64 16)), ⟨some 113, .pick (.t 109) (.c (.bool true)) (.t 112), none⟩])
 (.cond (.t 113) (.seq (.reg false [] [1, 4, 5, 10, 11, 71, 72, 73] [⟨some 114, .iadA 7 1 (.t 4) (.c (.int .i64 3)), none⟩, zl 115 1 114, zm 116 12, ⟨some 117, .bls 1 1 [.int .i64 0] [] [(0, (.t 116))], none⟩, ⟨some 118, .app 1 8 false (.t 115) (.t 117), none⟩, ⟨some 119, .iadA 7 1 (.t 4) (.c (.int .i64 3)), none⟩, ⟨none, .st 1 [] (.t 119) (.t 118), none⟩])
 (.exit 3))
 .skip))
 (.seq (.reg false [] [1, 4, 5, 10, 11, 12, 13, 15, 71, 72, 73] [zL 120 2 1, zL 121 4 13, zk 122 307 [(.t 120), (.t 121)], ⟨some 15, .alc [.int .i64 0, .int .i64 0, .int .i64 0, .int .i64 0, .int .i64 0, .int .i64 0], none⟩, ⟨none, .st 6 [] (.t 15) (.t 122), none⟩])
 (.seq (.seq (.reg false [] [1, 4, 5, 10, 11, 12, 13, 15, 71, 72, 73, 130] [⟨some 123, .iadA 3 2 (.t 15) (.c (.int .i64 0)), none⟩, zL 124 2 123, ⟨some 125, .iadA 3 2 (.t 15) (.c (.int .i64 1)), none⟩, zL 126 2 125, ⟨some 127, .iadA 3 2 (.t 15) (.c (.int .i64 2)), none⟩, zL 128 2 127, zk 129 308 [(.t 124), (.t 126), (.t 128)], zd 130 .leq 129 (.int .i64 0)])
 (.cond (.t 130) (.seq (.reg false [] [1, 4, 5, 10, 11, 71, 72, 73] [⟨some 131, .iadA 7 1 (.t 4) (.c (.int .i64 4)), none⟩, zl 132 1 131, zm 133 12, ⟨some 134, .bls 1 1 [.int .i64 0] [] [(0, (.t 133))], none⟩, ⟨some 135, .app 1 8 false (.t 132) (.t 134), none⟩, ⟨some 136, .iadA 7 1 (.t 4) (.c (.int .i64 4)), none⟩, ⟨none, .st 1 [] (.t 136) (.t 135), none⟩])
 (.exit 3))
 .skip))
 (.seq (.seq (.reg false [] [1, 4, 5, 10, 11, 12, 13, 15, 71, 72, 73, 152] [zm 137 10, zL 138 4 13, zk 139 298 [(.t 138), (.c (.int .i64 0))], ⟨some 140, .mpl (.ints .i64 2) 3 1 false (.bool false) (.t 137) (.t 139), none⟩, zm 141 140, zg 141 false (zm 142 10), zg 141 false (zL 143 4 13), zg 141 false (zk 144 298 [(.t 143), (.c (.int .i64 1))]), zg 141 false (⟨some 145, .mpl (.ints .i64 2) 3 1 false (.bool false) (.t 142) (.t 144), none⟩), ⟨some 146, .pick (.t 141) (.c (.bool true)) (.t 145), none⟩, zm 147 146, zg 147 false (zm 148 10), zg 147 false (zL 149 4 13), zg 147 false (zk 150 298 [(.t 149), (.c (.int .i64 2))]), zg 147 false (⟨some 151, .mpl (.ints .i64 2) 3 1 false (.bool false) (.t 148) (.t 150), none⟩), ⟨some 152, .pick (.t 147) (.c (.bool true)) (.t 151), none⟩])
 (.cond (.t 152) (.reg false [] [1, 4, 5, 10, 11, 12, 13, 15, 71, 72, 73] [⟨some 153, .iadA 7 1 (.t 4) (.c (.int .i64 5)), none⟩, zl 154 1 153, zm 155 12, ⟨some 156, .bls 1 1 [.int .i64 0] [] [(0, (.t 155))], none⟩, ⟨some 157, .app 1 8 false (.t 154) (.t 156), none⟩, ⟨some 158, .iadA 7 1 (.t 4) (.c (.int .i64 5)), none⟩, ⟨none, .st 1 [] (.t 158) (.t 157), none⟩])
 .skip))
 (.seq (.seq (.reg false [] [1, 4, 5, 10, 11, 12, 13, 15, 71, 72, 73, 159] [zc 159 (.int .i64 0)])
 (.block 4 (.loop (.seq (.reg false [] [1, 4, 5, 10, 11, 12, 13, 15, 71, 72, 73, 159, 160] [zd 160 .lss 159 (.int .i64 3)])
 (.seq (.cond (.t 160) .skip
 (.exit 4))
 (.seq (.block 5 (.seq (.reg false [] [1, 4, 5, 10, 11, 12, 13, 15, 16, 71, 72, 73, 159] [zm 161 159, zm 16 161])
 (.reg false [] [1, 4, 5, 10, 11, 12, 13, 15, 71, 72, 73, 159] [zm 162 10, zL 163 4 13, zm 164 16, zk 165 298 [(.t 163), (.t 164)], ⟨none, .mpu (.ints .i64 2) 3 1 (.bool false) (.t 162) (.t 165) (.c (.bool true)), none⟩])))
 (.reg false [] [1, 4, 5, 10, 11, 12, 13, 15, 71, 72, 73, 159] [zd 166 .add 159 (.int .i64 1), zm 159 166])))))))
 (.seq (.seq (.reg false [] [1, 4, 5, 10, 11, 12, 15, 71, 72, 73, 169] [zm 167 11, ⟨some 168, .mk 310 [(.t 15)], none⟩, zk 169 309 [(.t 167), (.t 168)]])
 (.cond (.t 169) (.reg false [] [1, 4, 5, 10, 11, 15, 71, 72, 73] [⟨some 170, .iadA 7 1 (.t 4) (.c (.int .i64 6)), none⟩, zl 171 1 170, zm 172 12, ⟨some 173, .bls 1 1 [.int .i64 0] [] [(0, (.t 172))], none⟩, ⟨some 174, .app 1 8 false (.t 171) (.t 173), none⟩, ⟨some 175, .iadA 7 1 (.t 4) (.c (.int .i64 6)), none⟩, ⟨none, .st 1 [] (.t 175) (.t 174), none⟩])
 .skip))
 (.reg false [] [1, 4, 5, 10, 11, 71, 72, 73] [zm 176 11, zL 177 6 15, ⟨some 178, .bls 6 1 [.int .i64 0, .int .i64 0, .int .i64 0, .int .i64 0, .int .i64 0, .int .i64 0] [] [(0, (.t 177))], none⟩, ⟨some 179, .app 6 48 false (.t 176) (.t 178), none⟩, zq 11 179]))))))))))
 (.reg false [] [1, 4, 5, 10, 11, 71, 72, 73] [zd 180 .add 73 (.int .i64 1), zm 73 180])))))))
 (.seq (.reg false [] [4, 17] [⟨some 17, .nilo 2, none⟩])
 (.seq (.seq (.reg false [] [17, 181, 182] [zL 181 7 4, zc 182 (.int .i64 0)])
 (.block 6 (.loop (.seq (.reg false [] [17, 181, 182, 183] [zd 183 .lss 182 (.int .i64 7)])
 (.seq (.cond (.t 183) .skip
 (.exit 6))
 (.seq (.block 7 (.seq (.reg false [] [17, 18, 19, 181, 182] [zm 184 182, ⟨some 185, .idxA 7 1 false (.t 181) (.t 182), none⟩, zm 18 184, zq 19 185])
 (.seq (.reg false [] [17, 18, 181, 182, 186, 187, 188] [zq 186 19, zn 187 186, zc 188 (.int .i64 0)])
 (.block 8 (.loop (.seq (.reg false [] [17, 18, 181, 182, 186, 187, 188, 189] [zb 189 .lss 188 187])
 (.seq (.cond (.t 189) .skip
 (.exit 8))
 (.seq (.block 9 (.seq (.reg false [] [17, 18, 21, 181, 182, 186, 187, 188] [zi 190 1 186 188, zl 191 1 190, zm 21 191])
 (.reg false [] [17, 18, 181, 182, 186, 187, 188] [zm 192 17, zm 193 18, zm 194 21, zk 195 127 [(.t 194)], ⟨some 196, .bld [.int .i64 0, .str []] [(0, 1, (.t 193)), (1, 1, (.t 195))], none⟩, ⟨some 197, .bls 2 1 [.int .i64 0, .str []] [] [(0, (.t 196))], none⟩, ⟨some 198, .app 2 24 false (.t 192) (.t 197), none⟩, zq 17 198])))
 (.reg false [] [17, 18, 181, 182, 186, 187, 188] [zd 199 .add 188 (.int .i64 1), zm 188 199])))))))))
 (.reg false [] [17, 181, 182] [zd 200 .add 182 (.int .i64 1), zm 182 200])))))))
 (.seq (.reg false [] [2, 3] [zq 201 17, zq 2 201, zc 3 (.int .i64 0)])
 .ret)))))))))))) }
def N274_locate_on : NFun := { np := 2, nt := 18, res := [(4, none), (5, none)], body :=
 (.seq (.reg false [] [2, 3] [zo 2 0, zo 3 1, zc 4 (.int .i64 0), zc 5 (.int .i64 0)])
 (.seq (.seq (.reg false [] [2, 3, 11] [zL 7 2 2, zL 8 2 3, ⟨some 9, .bls 2 1 [.int .i64 0, .int .i64 0] [] [(0, (.t 8))], none⟩, zk 10 275 [(.t 7), (.t 9)], zt 11 10])
 (.cond (.t 11) (.seq (.reg false [] [4, 5] [zc 4 (.int .i64 0), zc 5 (.int .i64 1)])
 .ret)
 .skip))
 (.seq (.reg false [] [6] [zL 12 2 2, zL 13 2 3, zk 14 276 [(.t 12), (.t 13)], zm 6 14])
 (.seq (.seq (.reg false [] [6, 16] [zm 15 6, zd 16 .lss 15 (.int .i64 0)])
 (.cond (.t 16) (.seq (.reg false [] [4, 5] [zc 4 (.int .i64 0), zc 5 (.int .i64 12)])
 .ret)
 .skip))
 (.seq (.reg false [] [4, 5] [zm 17 6, zm 4 17, zc 5 (.int .i64 0)])
 .ret))))) }
def N275_locate_valid : NFun := { np := 2, nt := 12, res := [(4, none)], body :=
 (.seq (.reg false [] [1, 2] [zo 2 0, zc 4 (.bool false)])
 (.seq (.reg false [] [4] [zL 5 2 2, zk 6 234 [(.t 5)], zm 7 6, zg 7 true (zq 8 1), zg 7 true (⟨some 9, .call 239 [(.t 8), (.c (.fn 312 []))] [], none⟩), zg 7 true (zt 10 9), ⟨some 11, .pick (.t 7) (.t 10) (.c (.bool false)), none⟩, zm 4 11])
 .ret)) }
def N276_locate_find : NFun := { np := 2, nt := 19, res := [(4, none)], body :=
 (.seq (.reg false [] [2, 3] [zo 2 0, zo 3 1, zc 4 (.int .i64 0)])
 (.seq (.seq (.reg false [] [2, 3, 8, 9] [zf 6 1 2, zl 7 1 6, zn 8 7, zc 9 (.int .i64 0)])
 (.block 0 (.loop (.seq (.reg false [] [2, 3, 8, 9, 10] [zb 10 .lss 9 8])
 (.seq (.cond (.t 10) .skip
 (.exit 0))
 (.seq (.block 1 (.seq (.reg false [] [2, 3, 5, 8, 9] [zm 11 9, zm 5 11])
 (.seq (.reg false [] [2, 3, 5, 8, 9, 16] [zL 12 2 2, zm 13 5, zL 14 2 3, zk 15 284 [(.t 12), (.t 13), (.t 14)], zd 16 .lss 15 (.int .i64 0)])
 (.cond (.t 16) (.seq (.reg false [] [4] [zm 17 5, zm 4 17])
 .ret)
 .skip))))
 (.reg false [] [2, 3, 8, 9] [zd 18 .add 9 (.int .i64 1), zm 9 18])))))))
 (.seq (.reg false [] [4] [⟨some 4, .mov (.c (.int .i64 (-1))), none⟩])
 .ret))) }
def N278_slices_IndexFunc__api_Point_api_Point : NFun := { np := 2, nt := 19, res := [(4, none)], body :=
 (.seq (.reg false [] [0, 1] [zc 4 (.int .i64 0)])
 (.seq (.seq (.reg false [] [0, 1, 7, 8] [zm 6 0, zn 7 6, zc 8 (.int .i64 0)])
 (.block 0 (.loop (.seq (.reg false [] [0, 1, 7, 8, 9] [zb 9 .lss 8 7])
 (.seq (.cond (.t 9) .skip
 (.exit 0))
 (.seq (.block 1 (.seq (.reg false [] [0, 1, 5, 7, 8] [zm 10 8, zm 5 10])
 (.seq (.reg false [] [0, 1, 5, 7, 8, 16] [zm 11 1, zm 12 0, zm 13 5, zi 14 2 12 13, zL 15 2 14, ⟨some 16, .callv (.t 11) [(.t 15)], none⟩])
 (.cond (.t 16) (.seq (.reg false [] [4] [zm 17 5, zm 4 17])
 .ret)
 .skip))))
 (.reg false [] [0, 1, 7, 8] [zd 18 .add 8 (.int .i64 1), zm 8 18])))))))
 (.seq (.reg false [] [4] [⟨some 4, .mov (.c (.int .i64 (-1))), none⟩])
 .ret))) }
def N284_locate_outer : NFun := { np := 3, nt := 30, res := [(6, none)], body :=
 (.seq (.reg false [] [1, 3, 5] [zo 3 0, zo 5 2, zc 6 (.int .i64 0)])
 (.seq (.reg false [] [5, 7] [zL 9 2 3, zm 10 1, zk 11 319 [(.t 9), (.t 10)], ⟨some 7, .alc [.int .i64 0, .int .i64 0, .int .i64 0, .int .i64 0, .int .i64 0, .int .i64 0, .int .i64 0, .int .i64 0, .int .i64 0], none⟩, ⟨none, .st 9 [] (.t 7) (.t 11), none⟩])
 (.seq (.seq (.reg false [] [5, 7, 12] [zc 12 (.int .i64 0)])
 (.block 0 (.loop (.seq (.reg false [] [5, 7, 12, 13] [zd 13 .lss 12 (.int .i64 3)])
 (.seq (.cond (.t 13) .skip
 (.exit 0))
 (.seq (.block 1 (.seq (.reg false [] [5, 7, 8, 12] [zm 14 12, zm 8 14])
 (.seq (.reg true [0, 1, 3, 7, 0, 16, 48, 112, 240, 511, 0, 2047, 4095] [5, 7, 8, 12, 27] [zm 15 8, ⟨some 16, .iadA 3 3 (.t 7) (.t 15), none⟩, zL 17 3 16, zk 18 321 [(.t 17)], zm 19 8, zd 20 .add 19 (.int .i64 1), zd 21 .rem 20 (.int .i64 3), ⟨some 22, .iadA 3 3 (.t 7) (.t 21), none⟩, zL 23 3 22, zk 24 321 [(.t 23)], zL 25 2 5, zk 26 320 [(.t 18), (.t 24), (.t 25)], zd 27 .lss 26 (.int .i64 0)])
 (.cond (.t 27) (.seq (.reg false [] [6] [zm 28 8, zm 6 28])
 .ret)
 .skip))))
 (.reg false [] [5, 7, 12] [zd 29 .add 12 (.int .i64 1), zm 12 29])))))))
 (.seq (.reg false [] [6] [⟨some 6, .mov (.c (.int .i64 (-1))), none⟩])
 .ret)))) }
def N298_mesh_side : NFun := { np := 2, nt := 17, res := [(4, some (2, true))], body :=
 (.seq (.reg false [] [1, 2, 4] [zo 2 0, ⟨some 4, .alc [.int .i64 0, .int .i64 0], none⟩])
 (.seq (.reg false [] [1, 4, 5] [zL 6 4 2, zk 7 305 [(.t 6)], ⟨some 5, .alc [.int .i64 0, .int .i64 0, .int .i64 0], none⟩, ⟨none, .st 3 [] (.t 5) (.t 7), none⟩])
 (.seq (.reg true [0, 1, 3, 0, 8, 24, 56, 120, 255, 511] [4] [zm 8 1, ⟨some 9, .iadA 3 1 (.t 5) (.t 8), none⟩, zl 10 1 9, zm 11 1, zd 12 .add 11 (.int .i64 1), zd 13 .rem 12 (.int .i64 3), ⟨some 14, .iadA 3 1 (.t 5) (.t 13), none⟩, zl 15 1 14, ⟨some 16, .bld [.int .i64 0, .int .i64 0] [(0, 1, (.t 10)), (1, 1, (.t 15))], none⟩, ⟨none, .st 2 [] (.t 4) (.t 16), none⟩])
 .ret))) }
def N299_cmp_isNaN_int : NFun := { np := 1, nt := 6, res := [(2, none)], body :=
 (.seq (.reg false [] [0] [zc 2 (.bool false)])
 (.seq (.reg false [] [2] [zm 3 0, zm 4 0, zb 5 .neq 3 4, zm 2 5])
 .ret)) }
def N300_locate_exact : NFun := { np := 3, nt := 68, res := [(6, some (2, true)), (7, none), (8, none)], body :=
 (.seq (.reg false [] [1, 3, 5, 6] [zo 3 0, zo 5 2, ⟨some 6, .alc [.int .i64 0, .int .i64 0], none⟩, zc 7 (.int .i64 0), zc 8 (.int .i64 0)])
 (.seq (.reg false [] [5, 6, 9] [zL 14 2 3, zm 15 1, zk 16 319 [(.t 14), (.t 15)], ⟨some 9, .alc [.int .i64 0, .int .i64 0, .int .i64 0, .int .i64 0, .int .i64 0, .int .i64 0, .int .i64 0, .int .i64 0, .int .i64 0], none⟩, ⟨none, .st 9 [] (.t 9) (.t 16), none⟩])
 (.seq (.seq (.reg false [] [5, 6, 9, 17, 18] [zL 17 9 9, zc 18 (.int .i64 0)])
 (.block 0 (.loop (.seq (.reg false [] [5, 6, 9, 17, 18, 19] [zd 19 .lss 18 (.int .i64 3)])
 (.seq (.cond (.t 19) .skip
 (.exit 0))
 (.seq (.block 1 (.seq (.reg false [] [5, 6, 9, 10, 11, 17, 18] [zm 20 18, ⟨some 21, .idxA 3 3 true (.t 17) (.t 18), none⟩, ⟨some 11, .alc [.int .i64 0, .int .i64 0, .int .i64 0], none⟩, zm 10 20, ⟨none, .st 3 [] (.t 11) (.t 21), none⟩])
 (.seq (.reg true [0, 1, 0, 0, 8, 24, 56, 120, 248, 0, 512, 1536, 3584, 7680, 16376, 32764, 65535, 131071, 262143, 262143, 0, 1572863, 4194303] [5, 6, 9, 12, 13, 17, 18] [zf 23 2 11, zl 24 1 23, zL 25 2 5, zm 26 10, zd 27 .add 26 (.int .i64 1), zd 28 .rem 27 (.int .i64 3), ⟨some 29, .iadA 3 3 (.t 9) (.t 28), none⟩, zL 30 3 29, zk 31 321 [(.t 30)], zm 32 10, zd 33 .add 32 (.int .i64 2), zd 34 .rem 33 (.int .i64 3), ⟨some 35, .iadA 3 3 (.t 9) (.t 34), none⟩, zL 36 3 35, zk 37 321 [(.t 36)], zk 38 320 [(.t 25), (.t 31), (.t 37)], zk 39 99 [(.t 24), (.t 38)], zm 22 39, zx 40 0 22, zx 41 1 22, ⟨some 12, .alc [.int .i64 0, .int .i64 0], none⟩, ⟨none, .st 2 [] (.t 12) (.t 40), none⟩, zm 13 41])
 (.seq (.seq (.reg false [] [5, 6, 9, 12, 13, 17, 18, 43] [zm 42 13, zd 43 .neq 42 (.int .i64 0)])
 (.cond (.t 43) (.seq (.reg false [] [6, 7, 8] [⟨some 44, .bld [.int .i64 0, .int .i64 0] [], none⟩, zm 45 13, ⟨none, .st 2 [] (.t 6) (.t 44), none⟩, zc 7 (.int .i64 0), zm 8 45])
 .ret)
 .skip))
 (.seq (.reg false [] [5, 6, 9, 13, 17, 18] [zL 47 2 6, zL 48 2 12, zk 49 327 [(.t 47), (.t 48)], zm 46 49, zx 50 0 46, zx 51 1 46, ⟨none, .st 2 [] (.t 6) (.t 50), none⟩, zm 13 51])
 (.seq (.reg false [] [5, 6, 9, 13, 17, 18, 53] [zm 52 13, zd 53 .neq 52 (.int .i64 0)])
 (.cond (.t 53) (.seq (.reg false [] [6, 7, 8] [⟨some 54, .bld [.int .i64 0, .int .i64 0] [], none⟩, zm 55 13, ⟨none, .st 2 [] (.t 6) (.t 54), none⟩, zc 7 (.int .i64 0), zm 8 55])
 .ret)
 .skip)))))))
 (.reg false [] [5, 6, 9, 17, 18] [zd 56 .add 18 (.int .i64 1), zm 18 56])))))))
 (.seq (.reg true [0, 0, 2, 6, 0, 16, 62, 0, 128, 510, 1022, 2047, 4095, 8191] [6, 7, 8] [zL 57 2 6, ⟨some 58, .iadA 3 3 (.t 9) (.c (.int .i64 0)), none⟩, zL 59 3 58, zk 60 321 [(.t 59)], ⟨some 61, .iadA 3 3 (.t 9) (.c (.int .i64 1)), none⟩, zL 62 3 61, zk 63 321 [(.t 62)], ⟨some 64, .iadA 3 3 (.t 9) (.c (.int .i64 2)), none⟩, zL 65 3 64, zk 66 321 [(.t 65)], zk 67 320 [(.t 60), (.t 63), (.t 66)], ⟨none, .st 2 [] (.t 6) (.t 57), none⟩, zm 7 67, zc 8 (.int .i64 0)])
 .ret)))) }
def N301_wide_divided : NFun := { np := 3, nt := 20, res := [(6, none), (7, none)], body :=
 (.seq (.reg false [] [1, 2, 3] [zo 3 0, zc 6 (.int .i64 0), zc 7 (.int .i64 0)])
 (.seq (.seq (.reg false [] [1, 2, 3, 10] [zL 8 2 3, zk 9 106 [(.t 8)], zt 10 9])
 (.cond (.t 10) (.seq (.reg false [] [6, 7] [zc 6 (.int .i64 0), zc 7 (.int .i64 1)])
 .ret)
 .skip))
 (.seq (.seq (.reg false [] [1, 2, 3, 12] [zm 11 1, zd 12 .eql 11 (.int .i64 0)])
 (.cond (.t 12) (.seq (.reg false [] [6, 7] [zc 6 (.int .i64 0), zc 7 (.int .i64 16)])
 .ret)
 .skip))
 (.seq (.reg false [] [6, 7] [zL 13 2 3, zk 14 108 [(.t 13)], zm 15 1, zm 16 2, zk 17 104 [(.t 14), (.t 15), (.t 16)], zx 18 0 17, zx 19 1 17, zm 6 18, zm 7 19])
 .ret)))) }
def N302_mesh_small : NFun := { np := 1, nt := 13, res := [(2, none)], body :=
 (.seq (.reg false [] [1] [zo 1 0, zc 2 (.bool false)])
 (.seq (.reg false [] [2] [zf 3 0 1, zl 4 1 3, zn 5 4, zd 6 .leq 5 (.int .i64 2000), zm 7 6, zg 7 true (zf 8 1 1), zg 7 true (zl 9 1 8), zg 7 true (zn 10 9), zg 7 true (zd 11 .leq 10 (.int .i64 4000)), ⟨some 12, .pick (.t 7) (.t 11) (.c (.bool false)), none⟩, zm 2 12])
 .ret)) }
def N303_mesh_right : NFun := { np := 1, nt := 19, res := [(2, none)], body :=
 (.seq (.reg false [] [1] [zo 1 0, zc 2 (.bool false)])
 (.seq (.reg false [] [2] [zf 3 0 1, zl 4 1 3, zf 5 1 1, zl 6 1 5, ⟨some 7, .bld [.int .i64 0, .int .i64 0] [(0, 1, (.t 4)), (1, 1, (.t 6))], none⟩, zk 8 313 [(.t 7)], zm 9 8, zg 9 true (zf 10 2 1), zg 9 true (zl 11 1 10), zg 9 true (⟨some 12, .bin .geq (.t 11) (.c (.int .i64 (-4194304))), none⟩), ⟨some 13, .pick (.t 9) (.t 12) (.c (.bool false)), none⟩, zm 14 13, zg 14 true (zf 15 2 1), zg 14 true (zl 16 1 15), zg 14 true (zd 17 .leq 16 (.int .i64 4194304)), ⟨some 18, .pick (.t 14) (.t 17) (.c (.bool false)), none⟩, zm 2 18])
 .ret)) }
def N304_mesh_point : NFun := { np := 2, nt := 18, res := [(4, some (2, true))], body :=
 (.seq (.reg false [] [1, 2, 4] [zo 2 0, ⟨some 4, .alc [.int .i64 0, .int .i64 0], none⟩])
 (.seq (.reg true [0, 1, 0, 7, 15, 31, 0, 64, 0, 448, 960, 1984, 4095, 8191] [4] [zf 5 0 2, zl 6 1 5, zm 7 1, zi 8 3 6 7, zf 9 0 8, zl 10 1 9, zf 11 0 2, zl 12 1 11, zm 13 1, zi 14 3 12 13, zf 15 1 14, zl 16 1 15, ⟨some 17, .bld [.int .i64 0, .int .i64 0] [(0, 1, (.t 10)), (1, 1, (.t 16))], none⟩, ⟨none, .st 2 [] (.t 4) (.t 17), none⟩])
 .ret)) }
def N305_mesh_corners : NFun := { np := 1, nt := 10, res := [(2, some (3, true))], body :=
 (.seq (.reg false [] [1, 2] [zo 1 0, ⟨some 2, .alc [.int .i64 0, .int .i64 0, .int .i64 0], none⟩])
 (.seq (.reg false [] [2] [zf 3 0 1, zl 4 1 3, zf 5 1 1, zl 6 1 5, zf 7 2 1, zl 8 1 7, ⟨some 9, .bld [.int .i64 0, .int .i64 0, .int .i64 0] [(0, 1, (.t 4)), (1, 1, (.t 6)), (2, 1, (.t 8))], none⟩, ⟨none, .st 3 [] (.t 2) (.t 9), none⟩])
 .ret)) }
def N306_mesh_Check_1 : NFun := { np := 3, nt := 20, res := [(4, none)], body :=
 (.seq (.reg false [] [0, 1, 2] [zc 4 (.bool false)])
 (.seq (.reg false [] [4] [zm 5 0, zd 6 .lss 5 (.int .i64 0), zm 7 6, zg 7 false (zm 8 0), zg 7 false (zf 9 0 1), zg 7 false (zl 10 1 9), zg 7 false (zn 11 10), zg 7 false (zb 12 .geq 8 11), ⟨some 13, .pick (.t 7) (.c (.bool true)) (.t 12), none⟩, zm 14 13, zg 14 false (zl 15 1 2), zg 14 false (zm 16 0), zg 14 false (zi 17 1 15 16), zg 14 false (zl 18 1 17), ⟨some 19, .pick (.t 14) (.c (.bool true)) (.t 18), none⟩, zm 4 19])
 .ret)) }
def N307_mesh_triangle : NFun := { np := 2, nt := 18, res := [(4, some (6, true))], body :=
 (.seq (.reg false [] [2, 3, 4] [zo 2 0, zo 3 1, ⟨some 4, .alc [.int .i64 0, .int .i64 0, .int .i64 0, .int .i64 0, .int .i64 0, .int .i64 0], none⟩])
 (.seq (.reg true [0, 0, 2, 7, 0, 0, 32, 127, 0, 0, 512, 2047, 4095, 8191] [4] [zL 5 2 2, zf 6 0 3, zl 7 1 6, zk 8 304 [(.t 5), (.t 7)], zL 9 2 2, zf 10 1 3, zl 11 1 10, zk 12 304 [(.t 9), (.t 11)], zL 13 2 2, zf 14 2 3, zl 15 1 14, zk 16 304 [(.t 13), (.t 15)], ⟨some 17, .bld [.int .i64 0, .int .i64 0, .int .i64 0, .int .i64 0, .int .i64 0, .int .i64 0] [(0, 2, (.t 8)), (2, 2, (.t 12)), (4, 2, (.t 16))], none⟩, ⟨none, .st 6 [] (.t 4) (.t 17), none⟩])
 .ret)) }
def N308_mesh_turn : NFun := { np := 3, nt := 30, res := [(6, none)], body :=
 (.seq (.reg false [] [3, 4, 5] [zo 3 0, zo 4 1, zo 5 2, zc 6 (.int .i64 0)])
 (.seq (.reg false [] [6] [zf 7 0 4, zl 8 1 7, zf 9 0 3, zl 10 1 9, zb 11 .sub 8 10, zf 12 1 5, zl 13 1 12, zf 14 1 3, zl 15 1 14, zb 16 .sub 13 15, zb 17 .mul 11 16, zf 18 1 4, zl 19 1 18, zf 20 1 3, zl 21 1 20, zb 22 .sub 19 21, zf 23 0 5, zl 24 1 23, zf 25 0 3, zl 26 1 25, zb 27 .sub 24 26, zb 28 .mul 22 27, zb 29 .sub 17 28, zm 6 29])
 .ret)) }
def N309_slices_ContainsFunc___3api_Point__3api_Point : NFun := { np := 2, nt := 9, res := [(4, none)], body :=
 (.seq (.reg false [] [0, 1] [zc 4 (.bool false)])
 (.seq (.reg false [] [4] [zq 5 0, zm 6 1, zk 7 328 [(.t 5), (.t 6)], zd 8 .geq 7 (.int .i64 0), zm 4 8])
 .ret)) }
def N310_mesh_Check_2 : NFun := { np := 2, nt := 14, res := [(3, none)], body :=
 (.seq (.reg false [] [1, 2] [zo 2 0, zc 3 (.bool false)])
 (.seq (.reg false [] [3] [zL 4 6 1, zL 5 6 2, zk 6 311 [(.t 4), (.t 5)], zt 7 6, zm 8 7, zg 8 true (zL 9 6 2), zg 8 true (zL 10 6 1), zg 8 true (zk 11 311 [(.t 9), (.t 10)]), zg 8 true (zt 12 11), ⟨some 13, .pick (.t 8) (.t 12) (.c (.bool false)), none⟩, zm 3 13])
 .ret)) }
def N311_mesh_separates : NFun := { np := 2, nt := 42, res := [(4, none)], body :=
 (.seq (.reg false [] [2, 3] [zo 2 0, zo 3 1, zc 4 (.bool false)])
 (.seq (.seq (.reg false [] [2, 3, 8] [zc 8 (.int .i64 0)])
 (.block 0 (.loop (.seq (.reg false [] [2, 3, 8, 9] [zd 9 .lss 8 (.int .i64 3)])
 (.seq (.cond (.t 9) .skip
 (.exit 0))
 (.seq (.block 1 (.seq (.reg false [] [2, 3, 5, 8] [zm 10 8, zm 5 10])
 (.seq (.reg true [0, 1, 3, 0, 8, 24, 56, 120, 0, 0, 775, 2047] [2, 3, 6, 7, 8] [zm 11 5, ⟨some 12, .iadA 3 2 (.t 2) (.t 11), none⟩, zL 13 2 12, zm 14 5, zd 15 .add 14 (.int .i64 1), zd 16 .rem 15 (.int .i64 3), ⟨some 17, .iadA 3 2 (.t 2) (.t 16), none⟩, zL 18 2 17, ⟨some 6, .alc [.int .i64 0, .int .i64 0], none⟩, ⟨some 7, .alc [.int .i64 0, .int .i64 0], none⟩, ⟨none, .st 2 [] (.t 6) (.t 13), none⟩, ⟨none, .st 2 [] (.t 7) (.t 18), none⟩])
 (.seq (.reg false [] [2, 3, 8, 40] [zL 19 2 6, zL 20 2 7, ⟨some 21, .iadA 3 2 (.t 3) (.c (.int .i64 0)), none⟩, zL 22 2 21, zk 23 308 [(.t 19), (.t 20), (.t 22)], zd 24 .leq 23 (.int .i64 0), zm 25 24, zg 25 true (zL 26 2 6), zg 25 true (zL 27 2 7), zg 25 true (⟨some 28, .iadA 3 2 (.t 3) (.c (.int .i64 1)), none⟩), zg 25 true (zL 29 2 28), zg 25 true (zk 30 308 [(.t 26), (.t 27), (.t 29)]), zg 25 true (zd 31 .leq 30 (.int .i64 0)), ⟨some 32, .pick (.t 25) (.t 31) (.c (.bool false)), none⟩, zm 33 32, zg 33 true (zL 34 2 6), zg 33 true (zL 35 2 7), zg 33 true (⟨some 36, .iadA 3 2 (.t 3) (.c (.int .i64 2)), none⟩), zg 33 true (zL 37 2 36), zg 33 true (zk 38 308 [(.t 34), (.t 35), (.t 37)]), zg 33 true (zd 39 .leq 38 (.int .i64 0)), ⟨some 40, .pick (.t 33) (.t 39) (.c (.bool false)), none⟩])
 (.cond (.t 40) (.seq (.reg false [] [4] [zc 4 (.bool true)])
 .ret)
 .skip)))))
 (.reg false [] [2, 3, 8] [zd 41 .add 8 (.int .i64 1), zm 8 41])))))))
 (.seq (.reg false [] [4] [zc 4 (.bool false)])
 .ret))) }
def N312_locate_valid_1 : NFun := { np := 1, nt := 6, res := [(2, none)], body :=
 (.seq (.reg false [] [1] [zo 1 0, zc 2 (.bool false)])
 (.seq (.reg false [] [2] [zL 3 2 1, zk 4 313 [(.t 3)], zt 5 4, zm 2 5])
 .ret)) }
def N313_plane_Valid : NFun := { np := 1, nt := 21, res := [(2, none)], body :=
 (.seq (.reg false [] [1] [zo 1 0, zc 2 (.bool false)])
 (.seq (.reg false [] [2] [zf 3 0 1, zl 4 1 3, ⟨some 5, .bin .geq (.t 4) (.c (.int .i64 (-16777216))), none⟩, zm 6 5, zg 6 true (zf 7 0 1), zg 6 true (zl 8 1 7), zg 6 true (zd 9 .leq 8 (.int .i64 16777216)), ⟨some 10, .pick (.t 6) (.t 9) (.c (.bool false)), none⟩, zm 11 10, zg 11 true (zf 12 1 1), zg 11 true (zl 13 1 12), zg 11 true (⟨some 14, .bin .geq (.t 13) (.c (.int .i64 (-16777216))), none⟩), ⟨some 15, .pick (.t 11) (.t 14) (.c (.bool false)), none⟩, zm 16 15, zg 16 true (zf 17 1 1), zg 16 true (zl 18 1 17), zg 16 true (zd 19 .leq 18 (.int .i64 16777216)), ⟨some 20, .pick (.t 16) (.t 19) (.c (.bool false)), none⟩, zm 2 20])
 .ret)) }
def N319_locate_corners : NFun := { np := 2, nt := 30, res := [(4, some (9, true))], body :=
 (.seq (.reg false [] [1, 2, 4] [zo 2 0, ⟨some 4, .alc [.int .i64 0, .int .i64 0, .int .i64 0, .int .i64 0, .int .i64 0, .int .i64 0, .int .i64 0, .int .i64 0, .int .i64 0], none⟩])
 (.seq (.reg false [] [2, 4, 5] [zf 6 1 2, zl 7 1 6, zm 8 1, zi 9 4 7 8, zL 10 4 9, ⟨some 5, .alc [.int .i64 0, .int .i64 0, .int .i64 0, .int .i64 0], none⟩, ⟨none, .st 4 [] (.t 5) (.t 10), none⟩])
 (.seq (.reg true [0, 1, 0, 4, 15, 31, 0, 64, 0, 256, 960, 1984, 0, 4096, 0, 16384, 61440, 126976, 262143, 524287] [4] [zf 11 0 2, zl 12 1 11, zf 13 0 5, zl 14 1 13, zi 15 3 12 14, zL 16 3 15, zf 17 0 2, zl 18 1 17, zf 19 1 5, zl 20 1 19, zi 21 3 18 20, zL 22 3 21, zf 23 0 2, zl 24 1 23, zf 25 2 5, zl 26 1 25, zi 27 3 24 26, zL 28 3 27, ⟨some 29, .bld [.int .i64 0, .int .i64 0, .int .i64 0, .int .i64 0, .int .i64 0, .int .i64 0, .int .i64 0, .int .i64 0, .int .i64 0] [(0, 3, (.t 16)), (3, 3, (.t 22)), (6, 3, (.t 28))], none⟩, ⟨none, .st 9 [] (.t 4) (.t 29), none⟩])
 .ret))) }
def N320_locate_turn : NFun := { np := 3, nt := 30, res := [(6, none)], body :=
 (.seq (.reg false [] [3, 4, 5] [zo 3 0, zo 4 1, zo 5 2, zc 6 (.int .i64 0)])
 (.seq (.reg false [] [6] [zf 7 0 4, zl 8 1 7, zf 9 0 3, zl 10 1 9, zb 11 .sub 8 10, zf 12 1 5, zl 13 1 12, zf 14 1 3, zl 15 1 14, zb 16 .sub 13 15, zb 17 .mul 11 16, zf 18 1 4, zl 19 1 18, zf 20 1 3, zl 21 1 20, zb 22 .sub 19 21, zf 23 0 5, zl 24 1 23, zf 25 0 3, zl 26 1 25, zb 27 .sub 24 26, zb 28 .mul 22 27, zb 29 .sub 17 28, zm 6 29])
 .ret)) }
def N321_locate_at : NFun := { np := 1, nt := 8, res := [(2, some (2, true))], body :=
 (.seq (.reg false [] [1, 2] [zo 1 0, ⟨some 2, .alc [.int .i64 0, .int .i64 0], none⟩])
 (.seq (.reg false [] [2] [zf 3 0 1, zl 4 1 3, zf 5 1 1, zl 6 1 5, ⟨some 7, .bld [.int .i64 0, .int .i64 0] [(0, 1, (.t 4)), (1, 1, (.t 6))], none⟩, ⟨none, .st 2 [] (.t 2) (.t 7), none⟩])
 .ret)) }
def N327_wide_Add : NFun := { np := 2, nt := 23, res := [(4, some (2, true)), (5, none)], body :=
 (.seq (.reg false [] [2, 3, 4] [zo 2 0, zo 3 1, ⟨some 4, .alc [.int .i64 0, .int .i64 0], none⟩, zc 5 (.int .i64 0)])
 (.seq (.seq (.reg false [] [2, 3, 4, 13] [zL 6 2 2, zk 7 106 [(.t 6)], zt 8 7, zm 9 8, zg 9 false (zL 10 2 3), zg 9 false (zk 11 106 [(.t 10)]), zg 9 false (zt 12 11), ⟨some 13, .pick (.t 9) (.c (.bool true)) (.t 12), none⟩])
 (.cond (.t 13) (.seq (.reg false [] [4, 5] [⟨some 14, .bld [.int .i64 0, .int .i64 0] [], none⟩, ⟨none, .st 2 [] (.t 4) (.t 14), none⟩, zc 5 (.int .i64 1)])
 .ret)
 .skip))
 (.seq (.reg true [0, 1, 0, 7, 15, 31, 63, 63, 255, 511] [4, 5] [zL 15 2 2, zk 16 108 [(.t 15)], zL 17 2 3, zk 18 108 [(.t 17)], zk 19 107 [(.t 16), (.t 18)], zk 20 105 [(.t 19)], zx 21 0 20, zx 22 1 20, ⟨none, .st 2 [] (.t 4) (.t 21), none⟩, zm 5 22])
 .ret))) }
def N328_slices_IndexFunc___3api_Point__3api_Point : NFun := { np := 2, nt := 19, res := [(4, none)], body :=
 (.seq (.reg false [] [0, 1] [zc 4 (.int .i64 0)])
 (.seq (.seq (.reg false [] [0, 1, 7, 8] [zm 6 0, zn 7 6, zc 8 (.int .i64 0)])
 (.block 0 (.loop (.seq (.reg false [] [0, 1, 7, 8, 9] [zb 9 .lss 8 7])
 (.seq (.cond (.t 9) .skip
 (.exit 0))
 (.seq (.block 1 (.seq (.reg false [] [0, 1, 5, 7, 8] [zm 10 8, zm 5 10])
 (.seq (.reg false [] [0, 1, 5, 7, 8, 16] [zm 11 1, zm 12 0, zm 13 5, zi 14 6 12 13, zL 15 6 14, ⟨some 16, .callv (.t 11) [(.t 15)], none⟩])
 (.cond (.t 16) (.seq (.reg false [] [4] [zm 17 5, zm 4 17])
 .ret)
 .skip))))
 (.reg false [] [0, 1, 7, 8] [zd 18 .add 8 (.int .i64 1), zm 8 18])))))))
 (.seq (.reg false [] [4] [⟨some 4, .mov (.c (.int .i64 (-1))), none⟩])
 .ret))) }
def N355_plane_Inside : NFun := { np := 4, nt := 54, res := [(8, none), (9, none)], body :=
 (.seq (.reg false [] [4, 5, 6, 7] [zo 4 0, zo 5 1, zo 6 2, zo 7 3, zc 8 (.int .i64 0), zc 9 (.int .i64 0)])
 (.seq (.seq (.reg false [] [4, 5, 6, 7, 20] [zL 14 2 4, zL 15 2 5, zL 16 2 6, zL 17 2 7, ⟨some 18, .bls 2 4 [.int .i64 0, .int .i64 0] [] [(0, (.t 14)), (1, (.t 15)), (2, (.t 16)), (3, (.t 17))], none⟩, zk 19 359 [(.t 18)], zt 20 19])
 (.cond (.t 20) (.seq (.reg false [] [8, 9] [zc 8 (.int .i64 0), zc 9 (.int .i64 1)])
 .ret)
 .skip))
 (.seq (.reg false [] [4, 5, 6, 7, 10] [zL 21 2 5, zL 22 2 6, zL 23 2 7, zk 24 360 [(.t 21), (.t 22), (.t 23)], zk 25 267 [(.t 24), (.c (.int .i64 0))], zm 10 25])
 (.seq (.seq (.reg false [] [4, 5, 6, 7, 10, 27] [zm 26 10, zd 27 .eql 26 (.int .i64 0)])
 (.cond (.t 27) (.seq (.reg false [] [8, 9] [zc 8 (.int .i64 0), zc 9 (.int .i64 25)])
 .ret)
 .skip))
 (.seq (.reg false [] [4, 5, 6, 7, 10, 11] [zc 11 (.int .i64 1)])
 (.seq (.seq (.reg false [] [4, 10, 11, 37, 38] [zL 28 2 5, zL 29 2 6, ⟨some 30, .bld [.int .i64 0, .int .i64 0, .int .i64 0, .int .i64 0] [(0, 2, (.t 28)), (2, 2, (.t 29))], none⟩, zL 31 2 6, zL 32 2 7, ⟨some 33, .bld [.int .i64 0, .int .i64 0, .int .i64 0, .int .i64 0] [(0, 2, (.t 31)), (2, 2, (.t 32))], none⟩, zL 34 2 7, zL 35 2 5, ⟨some 36, .bld [.int .i64 0, .int .i64 0, .int .i64 0, .int .i64 0] [(0, 2, (.t 34)), (2, 2, (.t 35))], none⟩, ⟨some 37, .bld [.int .i64 0, .int .i64 0, .int .i64 0, .int .i64 0, .int .i64 0, .int .i64 0, .int .i64 0, .int .i64 0, .int .i64 0, .int .i64 0, .int .i64 0, .int .i64 0] [(0, 4, (.t 30)), (4, 4, (.t 33)), (8, 4, (.t 36))], none⟩, zc 38 (.int .i64 0)])
 (.block 0 (.loop (.seq (.reg false [] [4, 10, 11, 37, 38, 39] [zd 39 .lss 38 (.int .i64 3)])
 (.seq (.cond (.t 39) .skip
 (.exit 0))
 (.seq (.block 1 (.seq (.reg false [] [4, 10, 11, 13, 37, 38] [⟨some 40, .idxA 3 4 true (.t 37) (.t 38), none⟩, ⟨some 13, .alc [.int .i64 0, .int .i64 0, .int .i64 0, .int .i64 0], none⟩, ⟨none, .st 4 [] (.t 13) (.t 40), none⟩])
 (.reg false [] [4, 10, 11, 37, 38] [zm 41 11, zm 42 10, ⟨some 43, .iadA 2 2 (.t 13) (.c (.int .i64 0)), none⟩, zL 44 2 43, ⟨some 45, .iadA 2 2 (.t 13) (.c (.int .i64 1)), none⟩, zL 46 2 45, zL 47 2 4, zk 48 360 [(.t 44), (.t 46), (.t 47)], zk 49 267 [(.t 48), (.c (.int .i64 0))], zb 50 .mul 42 49, ⟨some 51, .mn (.t 41) (.t 50), none⟩, zm 11 51])))
 (.reg false [] [4, 10, 11, 37, 38] [zd 52 .add 38 (.int .i64 1), zm 38 52])))))))
 (.seq (.reg false [] [8, 9] [zm 53 11, zm 8 53, zc 9 (.int .i64 0)])
 .ret))))))) }
def N359_plane_all : NFun := { np := 1, nt := 6, res := [(2, none)], body :=
 (.seq (.reg false [] [0] [zc 2 (.bool false)])
 (.seq (.reg false [] [2] [zq 3 0, ⟨some 4, .call 239 [(.t 3), (.c (.fn 361 []))] [], none⟩, zt 5 4, zm 2 5])
 .ret)) }
def N360_plane_turn : NFun := { np := 3, nt := 30, res := [(6, none)], body :=
 (.seq (.reg false [] [3, 4, 5] [zo 3 0, zo 4 1, zo 5 2, zc 6 (.int .i64 0)])
 (.seq (.reg false [] [6] [zf 7 0 4, zl 8 1 7, zf 9 0 3, zl 10 1 9, zb 11 .sub 8 10, zf 12 1 5, zl 13 1 12, zf 14 1 3, zl 15 1 14, zb 16 .sub 13 15, zb 17 .mul 11 16, zf 18 1 4, zl 19 1 18, zf 20 1 3, zl 21 1 20, zb 22 .sub 19 21, zf 23 0 5, zl 24 1 23, zf 25 0 3, zl 26 1 25, zb 27 .sub 24 26, zb 28 .mul 22 27, zb 29 .sub 17 28, zm 6 29])
 .ret)) }
def N361_plane_all_1 : NFun := { np := 1, nt := 6, res := [(2, none)], body :=
 (.seq (.reg false [] [1] [zo 1 0, zc 2 (.bool false)])
 (.seq (.reg false [] [2] [zL 3 2 1, zk 4 313 [(.t 3)], zt 5 4, zm 2 5])
 .ret)) }
def N477_ref04_Floor : NFun := { np := 2, nt := 17, res := [(4, none)], body :=
 (.seq (.reg false [] [0, 1] [zc 4 (.int .i64 0)])
 (.seq (.reg false [] [0, 1, 5] [zm 6 0, zm 7 1, zb 8 .quo 6 7, zm 5 8])
 (.seq (.seq (.reg false [] [5, 13] [zm 9 5, zm 10 1, zb 11 .mul 9 10, zm 12 0, zb 13 .gtr 11 12])
 (.cond (.t 13) (.reg false [] [5] [zm 14 5, zd 15 .sub 14 (.int .i64 1), zm 5 15])
 .skip))
 (.seq (.reg false [] [4] [zm 16 5, zm 4 16])
 .ret)))) }
def N669_law14_TransectPoints : NFun := { np := 3, nt := 61, res := [(6, none)], body :=
 (.seq (.reg false [] [2, 3, 4] [zo 3 0, zo 4 1, zc 6 (.bool false)])
 (.seq (.seq (.reg false [] [2, 3, 4, 12] [zk 11 677 [], zt 12 11])
 (.cond (.t 12) (.seq (.reg false [] [6] [zc 6 (.bool false)])
 .ret)
 .skip))
 (.seq (.reg false [] [2, 3, 4, 7, 8] [zL 14 2 3, zL 15 2 4, zm 16 2, zk 17 678 [(.t 14), (.t 15), (.t 16)], zm 13 17, zx 18 0 13, zx 19 1 13, zq 7 18, zm 8 19])
 (.seq (.reg false [] [2, 3, 4, 7, 8, 9, 10] [zL 21 2 3, zL 22 2 4, zm 23 2, zk 24 679 [(.t 21), (.t 22), (.t 23)], zm 20 24, zx 25 0 20, zx 26 1 20, zq 9 25, zm 10 26])
 (.seq (.reg true [0, 0, 3, 7, 15, 15, 63, 127, 255, 511, 1023, 2047, 4095, 8191, 4095, 20479, 65535, 131071, 262143, 524287, 1048575, 262143, 4194303, 8388607, 16777215, 33554431, 33554431, 134217727, 268435455, 33554431, 1073741823, 2147483647, 4294967295, 8589934591, 17179869183] [6] [zm 27 7, zq 28 9, zk 29 680 [(.t 27), (.t 28)], zm 30 29, zg 30 true (zm 31 8), zg 30 true (zm 32 10), zg 30 true (zb 33 .eql 31 32), ⟨some 34, .pick (.t 30) (.t 33) (.c (.bool false)), none⟩, zm 35 34, zg 35 true (zm 36 8), zg 35 true (zd 37 .neq 36 (.int .i64 0)), zg 35 true (zm 38 37), zg 38 false (zm 39 7), zg 38 false (zn 40 39), zg 38 false (zm 41 2), zg 38 false (zd 42 .add 41 (.int .i64 1)), zg 38 false (zb 43 .eql 40 42), zg 38 false (zm 44 43), zg 44 true (zm 45 7), zg 44 true (⟨some 46, .iadS 2 (.t 45) (.c (.int .i64 0)), none⟩), zg 44 true (zL 47 2 46), zg 44 true (zL 48 2 3), zg 44 true (⟨some 49, .beq false [0, 0] (.t 47) (.t 48), none⟩), zg 38 false (⟨some 50, .pick (.t 44) (.t 49) (.c (.bool false)), none⟩), zg 38 false (zm 51 50), zg 51 true (zq 52 7), zg 51 true (zm 53 2), zg 51 true (zi 54 2 52 53), zg 51 true (zL 55 2 54), zg 51 true (zL 56 2 4), zg 51 true (⟨some 57, .beq false [0, 0] (.t 55) (.t 56), none⟩), zg 38 false (⟨some 58, .pick (.t 51) (.t 57) (.c (.bool false)), none⟩), zg 35 true (⟨some 59, .pick (.t 38) (.c (.bool true)) (.t 58), none⟩), ⟨some 60, .pick (.t 35) (.t 59) (.c (.bool false)), none⟩, zm 6 60])
 .ret))))) }
def N677_law14_awake : NFun := { np := 0, nt := 78, res := [(0, none)], body :=
 (.seq (.reg false [] [] [zc 0 (.bool false)])
 (.seq (.reg false [] [1, 2] [⟨some 11, .bld [.int .i64 0, .int .i64 0] [(0, 1, (.c (.int .i64 20)))], none⟩, ⟨some 12, .bld [.int .i64 0, .int .i64 0] [(1, 1, (.c (.int .i64 20)))], none⟩, ⟨some 1, .alc [.int .i64 0, .int .i64 0], none⟩, ⟨some 2, .alc [.int .i64 0, .int .i64 0], none⟩, ⟨none, .st 2 [] (.t 1) (.t 11), none⟩, ⟨none, .st 2 [] (.t 2) (.t 12), none⟩])
 (.seq (.reg true [0, 0, 0, 7, 15, 31, 31, 63, 255] [1, 2, 3, 4] [zk 14 702 [], zL 15 2 1, zL 16 2 2, zk 17 682 [(.t 14), (.t 15), (.t 16)], zm 13 17, zx 18 0 13, zx 19 1 13, zq 3 18, zm 4 19])
 (.seq (.reg true [0, 0, 0, 7, 15, 31, 31, 63, 255] [1, 2, 3, 4, 5, 6] [zk 21 702 [], zL 22 2 1, zL 23 2 2, zk 24 683 [(.t 21), (.t 22), (.t 23)], zm 20 24, zx 25 0 20, zx 26 1 20, zq 5 25, zm 6 26])
 (.seq (.reg false [] [1, 2, 3, 4, 5, 6, 7, 8] [zL 28 2 1, zL 29 2 2, zk 30 678 [(.t 28), (.t 29), (.c (.int .i64 2))], zm 27 30, zx 31 0 27, zx 32 1 27, zq 7 31, zm 8 32])
 (.seq (.reg true [0, 0, 0, 7, 15, 31, 31, 0, 191, 511] [3, 4, 5, 6, 7, 8, 9, 10] [zk 34 702 [], zL 35 2 1, zL 36 2 2, zk 37 691 [(.t 34), (.t 35), (.t 36), (.c (.int .i64 2)), (.c (.int .i64 10)), (.c (.int .i64 20))], zm 33 37, zx 38 0 33, zx 39 1 33, ⟨some 9, .alc [.int .i64 0, .int .i64 0], none⟩, ⟨none, .st 2 [] (.t 9) (.t 38), none⟩, zm 10 39])
 (.seq (.reg false [] [0] [zm 40 4, zd 41 .eql 40 (.int .i64 0), zm 42 41, zg 42 true (zq 43 3), zg 42 true (⟨some 44, .bls 1 2 [.int .i64 0] [] [(0, (.c (.int .i64 0))), (1, (.c (.int .i64 1)))], none⟩), zg 42 true (zk 45 19 [(.t 43), (.t 44)]), ⟨some 46, .pick (.t 42) (.t 45) (.c (.bool false)), none⟩, zm 47 46, zg 47 true (zm 48 6), zg 47 true (zd 49 .eql 48 (.int .i64 0)), ⟨some 50, .pick (.t 47) (.t 49) (.c (.bool false)), none⟩, zm 51 50, zg 51 true (zq 52 5), zg 51 true (⟨some 53, .bld [.int .i64 0, .int .i64 0] [(0, 1, (.c (.int .i64 1))), (1, 1, (.c (.int .i64 2)))], none⟩), zg 51 true (⟨some 54, .bls 2 1 [.int .i64 0, .int .i64 0] [] [(0, (.t 53))], none⟩), zg 51 true (zk 55 687 [(.t 52), (.t 54)]), ⟨some 56, .pick (.t 51) (.t 55) (.c (.bool false)), none⟩, zm 57 56, zg 57 true (zm 58 8), zg 57 true (zd 59 .eql 58 (.int .i64 0)), ⟨some 60, .pick (.t 57) (.t 59) (.c (.bool false)), none⟩, zm 61 60, zg 61 true (zq 62 7), zg 61 true (⟨some 63, .bld [.int .i64 0, .int .i64 0] [(0, 1, (.c (.int .i64 20)))], none⟩), zg 61 true (⟨some 64, .bld [.int .i64 0, .int .i64 0] [(0, 1, (.c (.int .i64 10))), (1, 1, (.c (.int .i64 10)))], none⟩), zg 61 true (⟨some 65, .bld [.int .i64 0, .int .i64 0] [(1, 1, (.c (.int .i64 20)))], none⟩), zg 61 true (⟨some 66, .bls 2 3 [.int .i64 0, .int .i64 0] [] [(0, (.t 63)), (1, (.t 64)), (2, (.t 65))], none⟩), zg 61 true (zk 67 680 [(.t 62), (.t 66)]), ⟨some 68, .pick (.t 61) (.t 67) (.c (.bool false)), none⟩, zm 69 68, zg 69 true (zm 70 10), zg 69 true (zd 71 .eql 70 (.int .i64 0)), ⟨some 72, .pick (.t 69) (.t 71) (.c (.bool false)), none⟩, zm 73 72, zg 73 true (zL 74 2 9), zg 73 true (⟨some 75, .bld [.int .i64 0, .int .i64 0] [(0, 1, (.c (.int .i64 70))), (1, 1, (.c (.int .i64 70)))], none⟩), zg 73 true (⟨some 76, .beq false [0, 0] (.t 74) (.t 75), none⟩), ⟨some 77, .pick (.t 73) (.t 76) (.c (.bool false)), none⟩, zm 0 77])
 .ret))))))) }
def N678_transect_Points : NFun := { np := 3, nt := 20, res := [(6, none), (7, none)], body :=
 (.seq (.reg false [] [2, 3, 4] [zo 3 0, zo 4 1, zc 6 .nils, zc 7 (.int .i64 0)])
 (.seq (.seq (.reg false [] [2, 3, 4, 8] [zL 9 2 3, zL 10 2 4, zm 11 2, zk 12 703 [(.c .nilp), (.t 9), (.t 10), (.t 11), (.c .nils)], zm 8 12])
 (.seq (.reg false [] [2, 3, 4, 8, 14] [zm 13 8, zd 14 .neq 13 (.int .i64 0)])
 (.cond (.t 14) (.seq (.reg false [] [6, 7] [zm 15 8, zc 6 .nils, zm 7 15])
 .ret)
 .skip)))
 (.seq (.reg false [] [6, 7] [zL 16 2 3, zL 17 2 4, zm 18 2, zk 19 704 [(.t 16), (.t 17), (.t 18)], zq 6 19, zc 7 (.int .i64 0)])
 .ret))) }
def N679_ref14_Points : NFun := { np := 3, nt := 34, res := [(6, none), (7, none)], body :=
 (.seq (.reg false [] [2, 3, 4] [zo 3 0, zo 4 1, zc 6 .nils, zc 7 (.int .i64 0)])
 (.seq (.reg false [] [2, 3, 4, 8] [zL 11 2 3, zL 12 2 4, zk 13 705 [(.t 11), (.t 12)], zm 8 13])
 (.seq (.seq (.reg false [] [2, 3, 4, 8, 15] [zm 14 8, zd 15 .neq 14 (.int .i64 0)])
 (.cond (.t 15) (.seq (.reg false [] [6, 7] [zm 16 8, zc 6 .nils, zm 7 16])
 .ret)
 .skip))
 (.seq (.seq (.reg false [] [2, 3, 4, 19] [zm 17 2, zk 18 706 [(.t 17)], zt 19 18])
 (.cond (.t 19) (.seq (.reg false [] [6, 7] [zc 6 .nils, zc 7 (.int .i64 2)])
 .ret)
 .skip))
 (.seq (.reg false [] [2, 3, 4, 9] [⟨some 9, .nilo 2, none⟩])
 (.seq (.seq (.reg false [] [2, 3, 4, 9, 10] [zc 10 (.int .i64 0)])
 (.block 0 (.loop (.seq (.seq (.reg false [] [2, 3, 4, 9, 10, 22] [zm 20 10, zm 21 2, zb 22 .leq 20 21])
 (.cond (.t 22) .skip
 (.exit 0)))
 (.seq (.block 1 (.reg false [] [2, 3, 4, 9, 10] [zm 25 9, zL 26 2 3, zL 27 2 4, zm 28 2, zm 29 10, zk 30 707 [(.t 26), (.t 27), (.t 28), (.t 29)], ⟨some 31, .bls 2 1 [.int .i64 0, .int .i64 0] [] [(0, (.t 30))], none⟩, ⟨some 32, .app 2 16 false (.t 25) (.t 31), none⟩, zq 9 32]))
 (.reg false [] [2, 3, 4, 9, 10] [zm 23 10, zd 24 .add 23 (.int .i64 1), zm 10 24]))))))
 (.seq (.reg false [] [6, 7] [zq 33 9, zq 6 33, zc 7 (.int .i64 0)])
 .ret))))))) }
def N680_slices_Equal__api_Point_api_Point : NFun := { np := 2, nt := 26, res := [(4, none)], body :=
 (.seq (.reg false [] [0, 1] [zc 4 (.bool false)])
 (.seq (.seq (.reg false [] [0, 1, 10] [zm 6 0, zn 7 6, zm 8 1, zn 9 8, zb 10 .neq 7 9])
 (.cond (.t 10) (.seq (.reg false [] [4] [zc 4 (.bool false)])
 .ret)
 .skip))
 (.seq (.seq (.reg false [] [0, 1, 12, 13] [zm 11 0, zn 12 11, zc 13 (.int .i64 0)])
 (.block 0 (.loop (.seq (.reg false [] [0, 1, 12, 13, 14] [zb 14 .lss 13 12])
 (.seq (.cond (.t 14) .skip
 (.exit 0))
 (.seq (.block 1 (.seq (.reg false [] [0, 1, 5, 12, 13] [zm 15 13, zm 5 15])
 (.seq (.reg true [0, 0, 3, 7, 0, 0, 48, 112, 255] [0, 1, 12, 13, 24] [zm 16 0, zm 17 5, zi 18 2 16 17, zL 19 2 18, zm 20 1, zm 21 5, zi 22 2 20 21, zL 23 2 22, ⟨some 24, .beq true [0, 0] (.t 19) (.t 23), none⟩])
 (.cond (.t 24) (.seq (.reg false [] [4] [zc 4 (.bool false)])
 .ret)
 .skip))))
 (.reg false [] [0, 1, 12, 13] [zd 25 .add 13 (.int .i64 1), zm 13 25])))))))
 (.seq (.reg false [] [4] [zc 4 (.bool true)])
 .ret)))) }
def N682_transect_Faces : NFun := { np := 3, nt := 38, res := [(6, none), (7, none)], body :=
 (.seq (.reg false [] [3, 4, 5] [zo 3 0, zo 4 1, zo 5 2, zc 6 .nils, zc 7 (.int .i64 0)])
 (.seq (.seq (.reg false [] [3, 4, 5, 8] [zL 12 2 4, zL 13 2 5, zk 14 708 [(.t 3), (.t 12), (.t 13)], zm 8 14])
 (.seq (.reg false [] [3, 4, 5, 8, 16] [zm 15 8, zd 16 .neq 15 (.int .i64 0)])
 (.cond (.t 16) (.seq (.reg false [] [6, 7] [zm 17 8, zc 6 .nils, zm 7 17])
 .ret)
 .skip)))
 (.seq (.reg false [] [3, 4, 5, 9] [⟨some 9, .nilo 1, none⟩])
 (.seq (.seq (.reg false [] [3, 4, 5, 9, 19, 20, 21] [zf 18 1 3, zl 19 1 18, zn 20 19, zc 21 (.int .i64 0)])
 (.block 0 (.loop (.seq (.reg false [] [3, 4, 5, 9, 19, 20, 21, 22] [zb 22 .lss 21 20])
 (.seq (.cond (.t 22) .skip
 (.exit 0))
 (.seq (.block 1 (.seq (.reg false [] [3, 4, 5, 9, 10, 11, 19, 20, 21] [zm 23 21, zi 24 4 19 21, zL 25 4 24, ⟨some 11, .alc [.int .i64 0, .int .i64 0, .int .i64 0, .int .i64 0], none⟩, zm 10 23, ⟨none, .st 4 [] (.t 11) (.t 25), none⟩])
 (.seq (.reg true [0, 0, 3, 0, 0, 31] [3, 4, 5, 9, 10, 19, 20, 21, 31] [zL 26 2 3, zL 27 4 11, zk 28 710 [(.t 26), (.t 27)], zL 29 2 4, zL 30 2 5, zk 31 709 [(.t 28), (.t 29), (.t 30)]])
 (.cond (.t 31) (.reg false [] [3, 4, 5, 9, 19, 20, 21] [zm 32 9, zm 33 10, ⟨some 34, .bls 1 1 [.int .i64 0] [] [(0, (.t 33))], none⟩, ⟨some 35, .app 1 8 false (.t 32) (.t 34), none⟩, zq 9 35])
 .skip))))
 (.reg false [] [3, 4, 5, 9, 19, 20, 21] [zd 36 .add 21 (.int .i64 1), zm 21 36])))))))
 (.seq (.reg false [] [6, 7] [zq 37 9, zq 6 37, zc 7 (.int .i64 0)])
 .ret))))) }
def N683_transect_Cuts : NFun := { np := 3, nt := 82, res := [(6, none), (7, none)], body :=
 (.seq (.reg false [] [3, 4, 5] [zo 3 0, zo 4 1, zo 5 2, zc 6 .nils, zc 7 (.int .i64 0)])
 (.seq (.seq (.reg false [] [3, 4, 5, 8] [zL 20 2 4, zL 21 2 5, zk 22 708 [(.t 3), (.t 20), (.t 21)], zm 8 22])
 (.seq (.reg false [] [3, 4, 5, 8, 24] [zm 23 8, zd 24 .neq 23 (.int .i64 0)])
 (.cond (.t 24) (.seq (.reg false [] [6, 7] [zm 25 8, zc 6 .nils, zm 7 25])
 .ret)
 .skip)))
 (.seq (.reg false [] [3, 4, 5, 9] [⟨some 9, .nilo 2, none⟩])
 (.seq (.seq (.reg false [] [3, 4, 5, 9, 27, 28, 29] [zf 26 1 3, zl 27 1 26, zn 28 27, zc 29 (.int .i64 0)])
 (.block 0 (.loop (.seq (.reg false [] [3, 4, 5, 9, 27, 28, 29, 30] [zb 30 .lss 29 28])
 (.seq (.cond (.t 30) .skip
 (.exit 0))
 (.seq (.block 1 (.seq (.reg false [] [3, 4, 5, 9, 11, 27, 28, 29] [zi 31 4 27 29, zL 32 4 31, ⟨some 11, .alc [.int .i64 0, .int .i64 0, .int .i64 0, .int .i64 0], none⟩, ⟨none, .st 4 [] (.t 11) (.t 32), none⟩])
 (.seq (.reg false [] [3, 4, 5, 9, 12, 27, 28, 29] [zL 33 2 3, zL 34 4 11, zk 35 710 [(.t 33), (.t 34)], ⟨some 12, .alc [.int .i64 0, .int .i64 0, .int .i64 0, .int .i64 0, .int .i64 0, .int .i64 0], none⟩, ⟨none, .st 6 [] (.t 12) (.t 35), none⟩])
 (.seq (.reg false [] [3, 4, 5, 9, 12, 27, 28, 29, 36] [zc 36 (.int .i64 0)])
 (.block 2 (.loop (.seq (.reg false [] [3, 4, 5, 9, 12, 27, 28, 29, 36, 37] [zd 37 .lss 36 (.int .i64 3)])
 (.seq (.cond (.t 37) .skip
 (.exit 2))
 (.seq (.block 3 (.seq (.reg false [] [3, 4, 5, 9, 12, 13, 27, 28, 29, 36] [zm 38 36, zm 13 38])
 (.seq (.reg true [0, 1, 3, 0, 8, 24, 56, 120, 0, 0, 775, 2047] [3, 4, 5, 9, 12, 14, 15, 27, 28, 29, 36] [zm 39 13, ⟨some 40, .iadA 3 2 (.t 12) (.t 39), none⟩, zL 41 2 40, zm 42 13, zd 43 .add 42 (.int .i64 1), zd 44 .rem 43 (.int .i64 3), ⟨some 45, .iadA 3 2 (.t 12) (.t 44), none⟩, zL 46 2 45, ⟨some 14, .alc [.int .i64 0, .int .i64 0], none⟩, ⟨some 15, .alc [.int .i64 0, .int .i64 0], none⟩, ⟨none, .st 2 [] (.t 14) (.t 41), none⟩, ⟨none, .st 2 [] (.t 15) (.t 46), none⟩])
 (.seq (.seq (.reg false [] [3, 4, 5, 9, 12, 14, 15, 16, 17, 27, 28, 29, 36] [zL 48 2 4, zL 49 2 5, zL 50 2 14, zL 51 2 15, zk 52 711 [(.t 48), (.t 49), (.t 50), (.t 51)], zm 47 52, zx 53 0 47, zx 54 1 47, zm 16 53, zm 17 54])
 (.seq (.reg false [] [3, 4, 5, 9, 12, 14, 15, 27, 28, 29, 36, 60] [zm 55 17, zd 56 .neq 55 (.int .i64 0), zm 57 56, zg 57 false (zm 58 16), zg 57 false (zd 59 .neq 58 (.int .i64 2)), ⟨some 60, .pick (.t 57) (.c (.bool true)) (.t 59), none⟩])
 (.cond (.t 60) (.exit 3)
 .skip)))
 (.seq (.reg false [] [3, 4, 5, 9, 12, 18, 19, 27, 28, 29, 36] [zL 62 2 4, zL 63 2 5, zL 64 2 14, zL 65 2 15, zk 66 712 [(.t 62), (.t 63), (.t 64), (.t 65)], zm 61 66, zx 67 0 61, zx 68 1 61, ⟨some 18, .alc [.int .i64 0, .int .i64 0], none⟩, ⟨none, .st 2 [] (.t 18) (.t 67), none⟩, zm 19 68])
 (.seq (.seq (.reg false [] [3, 4, 5, 9, 12, 18, 19, 27, 28, 29, 36, 70] [zm 69 19, zd 70 .neq 69 (.int .i64 0)])
 (.cond (.t 70) (.seq (.reg false [] [6, 7] [zm 71 19, zc 6 .nils, zm 7 71])
 .ret)
 .skip))
 (.reg false [] [3, 4, 5, 9, 12, 27, 28, 29, 36] [zm 72 9, zL 73 2 18, ⟨some 74, .bls 2 1 [.int .i64 0, .int .i64 0] [] [(0, (.t 73))], none⟩, ⟨some 75, .app 2 16 false (.t 72) (.t 74), none⟩, zq 9 75])))))))
 (.reg false [] [3, 4, 5, 9, 12, 27, 28, 29, 36] [zd 76 .add 36 (.int .i64 1), zm 36 76]))))))))))
 (.reg false [] [3, 4, 5, 9, 27, 28, 29] [zd 77 .add 29 (.int .i64 1), zm 29 77])))))))
 (.seq (.reg false [] [9] [zm 78 9, ⟨some 79, .callS 713 (.t 78) [(.c (.fn 714 []))], none⟩])
 (.seq (.reg false [] [6, 7] [zq 80 9, ⟨some 81, .callE 715 (.t 80) [], none⟩, zq 6 81, zc 7 (.int .i64 0)])
 .ret)))))) }
def N687_slices_Equal__api_Frac_api_Frac : NFun := { np := 2, nt := 26, res := [(4, none)], body :=
 (.seq (.reg false [] [0, 1] [zc 4 (.bool false)])
 (.seq (.seq (.reg false [] [0, 1, 10] [zm 6 0, zn 7 6, zm 8 1, zn 9 8, zb 10 .neq 7 9])
 (.cond (.t 10) (.seq (.reg false [] [4] [zc 4 (.bool false)])
 .ret)
 .skip))
 (.seq (.seq (.reg false [] [0, 1, 12, 13] [zm 11 0, zn 12 11, zc 13 (.int .i64 0)])
 (.block 0 (.loop (.seq (.reg false [] [0, 1, 12, 13, 14] [zb 14 .lss 13 12])
 (.seq (.cond (.t 14) .skip
 (.exit 0))
 (.seq (.block 1 (.seq (.reg false [] [0, 1, 5, 12, 13] [zm 15 13, zm 5 15])
 (.seq (.reg true [0, 0, 3, 7, 0, 0, 48, 112, 255] [0, 1, 12, 13, 24] [zm 16 0, zm 17 5, zi 18 2 16 17, zL 19 2 18, zm 20 1, zm 21 5, zi 22 2 20 21, zL 23 2 22, ⟨some 24, .beq true [0, 0] (.t 19) (.t 23), none⟩])
 (.cond (.t 24) (.seq (.reg false [] [4] [zc 4 (.bool false)])
 .ret)
 .skip))))
 (.reg false [] [0, 1, 12, 13] [zd 25 .add 13 (.int .i64 1), zm 13 25])))))))
 (.seq (.reg false [] [4] [zc 4 (.bool true)])
 .ret)))) }
def N690_ratio_Cmp : NFun := { np := 2, nt := 32, res := [(4, none), (5, none)], body :=
 (.seq (.reg false [] [2, 3] [zo 2 0, zo 3 1, zc 4 (.int .i64 0), zc 5 (.int .i64 0)])
 (.seq (.seq (.reg false [] [2, 3, 14] [zL 7 2 2, zk 8 722 [(.t 7)], zt 9 8, zm 10 9, zg 10 false (zL 11 2 3), zg 10 false (zk 12 722 [(.t 11)]), zg 10 false (zt 13 12), ⟨some 14, .pick (.t 10) (.c (.bool true)) (.t 13), none⟩])
 (.cond (.t 14) (.seq (.reg false [] [4, 5] [zc 4 (.int .i64 0), zc 5 (.int .i64 1)])
 .ret)
 .skip))
 (.seq (.seq (.reg false [] [6] [zf 15 0 2, zl 16 1 15, zf 17 1 3, zl 18 1 17, zb 19 .mul 16 18, zf 20 0 3, zl 21 1 20, zf 22 1 2, zl 23 1 22, zb 24 .mul 21 23, zb 25 .sub 19 24, zm 6 25])
 (.block 0 (.seq (.reg false [] [6, 26] [zm 27 6, zd 28 .lss 27 (.int .i64 0), zm 26 28])
 (.cond (.t 26) (.seq (.reg false [] [4, 5] [⟨some 4, .mov (.c (.int .i64 (-1))), none⟩, zc 5 (.int .i64 0)])
 .ret)
 (.seq (.reg false [] [29] [zm 30 6, zd 31 .gtr 30 (.int .i64 0), zm 29 31])
 (.cond (.t 29) (.seq (.reg false [] [4, 5] [zc 4 (.int .i64 1), zc 5 (.int .i64 0)])
 .ret)
 .skip))))))
 (.seq (.reg false [] [4, 5] [zc 4 (.int .i64 0), zc 5 (.int .i64 0)])
 .ret)))) }
def N691_transect_Cover : NFun := { np := 6, nt := 35, res := [(12, some (2, true)), (13, none)], body :=
 (.seq (.reg false [] [3, 4, 5, 6, 7, 8, 12] [zo 6 0, zo 7 1, zo 8 2, ⟨some 12, .alc [.int .i64 0, .int .i64 0], none⟩, zc 13 (.int .i64 0)])
 (.seq (.seq (.reg false [] [3, 4, 5, 6, 7, 8, 12, 14] [zL 15 2 7, zL 16 2 8, zm 17 3, zm 18 4, zm 19 5, ⟨some 20, .bls 1 2 [.int .i64 0] [] [(0, (.t 18)), (1, (.t 19))], none⟩, zk 21 703 [(.t 6), (.t 15), (.t 16), (.t 17), (.t 20)], zm 14 21])
 (.seq (.reg false [] [3, 4, 5, 6, 7, 8, 12, 14, 23] [zm 22 14, zd 23 .neq 22 (.int .i64 0)])
 (.cond (.t 23) (.seq (.reg false [] [12, 13] [⟨some 24, .bld [.int .i64 0, .int .i64 0] [], none⟩, zm 25 14, ⟨none, .st 2 [] (.t 12) (.t 24), none⟩, zm 13 25])
 .ret)
 .skip)))
 (.seq (.reg false [] [12, 13] [zL 26 2 6, zL 27 2 7, zL 28 2 8, zm 29 3, zm 30 4, zm 31 5, zk 32 723 [(.t 26), (.t 27), (.t 28), (.t 29), (.t 30), (.t 31)], zx 33 0 32, zx 34 1 32, ⟨none, .st 2 [] (.t 12) (.t 33), none⟩, zm 13 34])
 .ret))) }
def N702_law14_example : NFun := { np := 0, nt := 10, res := [(0, some (2, true))], body :=
 (.seq (.reg false [] [0] [⟨some 0, .alc [.own 3 [], .own 4 []], none⟩])
 (.seq (.reg false [] [0] [⟨some 1, .bld [.int .i64 0, .int .i64 0, .int .i64 0] [(2, 1, (.c (.int .i64 90)))], none⟩, ⟨some 2, .bld [.int .i64 0, .int .i64 0, .int .i64 0] [(0, 1, (.c (.int .i64 30))), (2, 1, (.c (.int .i64 90)))], none⟩, ⟨some 3, .bld [.int .i64 0, .int .i64 0, .int .i64 0] [(0, 1, (.c (.int .i64 30))), (1, 1, (.c (.int .i64 30))), (2, 1, (.c (.int .i64 90)))], none⟩, ⟨some 4, .bld [.int .i64 0, .int .i64 0, .int .i64 0] [(1, 1, (.c (.int .i64 30))), (2, 1, (.c (.int .i64 90)))], none⟩, ⟨some 5, .bls 3 4 [.int .i64 0, .int .i64 0, .int .i64 0] [] [(0, (.t 1)), (1, (.t 2)), (2, (.t 3)), (3, (.t 4))], none⟩, ⟨some 6, .bld [.int .i64 0, .int .i64 0, .int .i64 0, .int .i64 0] [(0, 1, (.c (.int .i64 0))), (1, 1, (.c (.int .i64 1))), (2, 1, (.c (.int .i64 2)))], none⟩, ⟨some 7, .bld [.int .i64 0, .int .i64 0, .int .i64 0, .int .i64 0] [(0, 1, (.c (.int .i64 0))), (1, 1, (.c (.int .i64 2))), (2, 1, (.c (.int .i64 3)))], none⟩, ⟨some 8, .bls 4 2 [.int .i64 0, .int .i64 0, .int .i64 0, .int .i64 0] [] [(0, (.t 6)), (1, (.t 7))], none⟩, ⟨some 9, .bld [.nils, .nils] [(0, 1, (.t 5)), (1, 1, (.t 8))], none⟩, ⟨none, .st 2 [] (.t 0) (.t 9), none⟩])
 .ret)) }
def N703_transect_counted : NFun := { np := 5, nt := 30, res := [(10, none)], body :=
 (.seq (.reg false [] [0, 3, 4, 6, 7] [zo 6 1, zo 7 2, zc 10 (.int .i64 0)])
 (.seq (.seq (.reg false [] [3, 4, 11] [zm 12 0, zL 13 2 6, zL 14 2 7, zk 15 708 [(.t 12), (.t 13), (.t 14)], zm 11 15])
 (.seq (.reg false [] [3, 4, 11, 17] [zm 16 11, zd 17 .neq 16 (.int .i64 0)])
 (.cond (.t 17) (.seq (.reg false [] [10] [zm 18 11, zm 10 18])
 .ret)
 .skip)))
 (.seq (.seq (.reg false [] [29] [zm 19 3, zd 20 .lss 19 (.int .i64 1), zm 21 20, zg 21 false (zm 22 3), zg 21 false (zd 23 .gtr 22 (.int .i64 999)), ⟨some 24, .pick (.t 21) (.c (.bool true)) (.t 23), none⟩, zm 25 24, zg 25 false (zq 26 4), zg 25 false (zk 27 729 [(.t 26)]), zg 25 false (zt 28 27), ⟨some 29, .pick (.t 25) (.c (.bool true)) (.t 28), none⟩])
 (.cond (.t 29) (.seq (.reg false [] [10] [zc 10 (.int .i64 2)])
 .ret)
 .skip))
 (.seq (.reg false [] [10] [zc 10 (.int .i64 0)])
 .ret)))) }
def N704_transect_points : NFun := { np := 3, nt := 47, res := [(6, none)], body :=
 (.seq (.reg false [] [2, 3, 4] [zo 3 0, zo 4 1, zc 6 .nils])
 (.seq (.reg false [] [2, 3, 4, 7] [zm 9 2, zd 10 .add 9 (.int .i64 1), ⟨some 11, .mks 2 16 [.int .i64 0, .int .i64 0] (.c (.int .i64 0)) (.t 10), none⟩, zq 7 11])
 (.seq (.seq (.reg false [] [2, 3, 4, 7, 13, 14] [zm 12 2, zd 13 .add 12 (.int .i64 1), zc 14 (.int .i64 0)])
 (.block 0 (.loop (.seq (.reg false [] [2, 3, 4, 7, 13, 14, 15] [zb 15 .lss 14 13])
 (.seq (.cond (.t 15) .skip
 (.exit 0))
 (.seq (.block 1 (.seq (.reg false [] [2, 3, 4, 7, 8, 13, 14] [zm 16 14, zm 8 16])
 (.reg true [0, 0, 2, 0, 8, 0, 32, 120, 0, 504, 0, 2040, 4094, 0, 8192, 0, 32768, 0, 131072, 491520, 0, 2064384, 0, 8359928, 16773112, 33554430, 67108862, 134217727, 268435455] [2, 3, 4, 7, 13, 14] [zm 17 7, zf 18 0 3, zl 19 1 18, zf 20 0 4, zl 21 1 20, zf 22 0 3, zl 23 1 22, zb 24 .sub 21 23, zm 25 8, zb 26 .mul 24 25, zm 27 2, zk 28 730 [(.t 26), (.t 27)], zb 29 .add 19 28, zf 30 1 3, zl 31 1 30, zf 32 1 4, zl 33 1 32, zf 34 1 3, zl 35 1 34, zb 36 .sub 33 35, zm 37 8, zb 38 .mul 36 37, zm 39 2, zk 40 730 [(.t 38), (.t 39)], zb 41 .add 31 40, ⟨some 42, .bld [.int .i64 0, .int .i64 0] [(0, 1, (.t 29)), (1, 1, (.t 41))], none⟩, ⟨some 43, .bls 2 1 [.int .i64 0, .int .i64 0] [] [(0, (.t 42))], none⟩, ⟨some 44, .app 2 16 false (.t 17) (.t 43), none⟩, zq 7 44])))
 (.reg false [] [2, 3, 4, 7, 13, 14] [zd 45 .add 14 (.int .i64 1), zm 14 45])))))))
 (.seq (.reg false [] [6] [zq 46 7, zq 6 46])
 .ret)))) }
def N705_ref14_Line : NFun := { np := 2, nt := 16, res := [(4, none)], body :=
 (.seq (.reg false [] [2, 3] [zo 2 0, zo 3 1, zc 4 (.int .i64 0)])
 (.seq (.seq (.reg false [] [2, 3, 12] [zL 5 2 2, zk 6 237 [(.t 5)], zt 7 6, zm 8 7, zg 8 false (zL 9 2 3), zg 8 false (zk 10 237 [(.t 9)]), zg 8 false (zt 11 10), ⟨some 12, .pick (.t 8) (.c (.bool true)) (.t 11), none⟩])
 (.cond (.t 12) (.seq (.reg false [] [4] [zc 4 (.int .i64 1)])
 .ret)
 .skip))
 (.seq (.seq (.reg false [] [15] [zL 13 2 2, zL 14 2 3, ⟨some 15, .beq false [0, 0] (.t 13) (.t 14), none⟩])
 (.cond (.t 15) (.seq (.reg false [] [4] [zc 4 (.int .i64 25)])
 .ret)
 .skip))
 (.seq (.reg false [] [4] [zc 4 (.int .i64 0)])
 .ret)))) }
def N706_ref14_Parts : NFun := { np := 1, nt := 9, res := [(2, none)], body :=
 (.seq (.reg false [] [0] [zc 2 (.bool false)])
 (.seq (.reg false [] [2] [zm 3 0, zd 4 .geq 3 (.int .i64 1), zm 5 4, zg 5 true (zm 6 0), zg 5 true (zd 7 .leq 6 (.int .i64 999)), ⟨some 8, .pick (.t 5) (.t 7) (.c (.bool false)), none⟩, zm 2 8])
 .ret)) }
def N707_ref14_At : NFun := { np := 4, nt := 34, res := [(8, some (2, true))], body :=
 (.seq (.reg false [] [2, 3, 4, 5, 8] [zo 4 0, zo 5 1, ⟨some 8, .alc [.int .i64 0, .int .i64 0], none⟩])
 (.seq (.reg true [0, 1, 0, 4, 0, 16, 60, 0, 252, 0, 1020, 2047, 0, 4096, 0, 16384, 0, 65536, 245760, 0, 1032192, 0, 4179964, 8386556, 16777215, 33554431] [8] [zf 9 0 4, zl 10 1 9, zf 11 0 5, zl 12 1 11, zf 13 0 4, zl 14 1 13, zb 15 .sub 12 14, zm 16 3, zb 17 .mul 15 16, zm 18 2, zk 19 477 [(.t 17), (.t 18)], zb 20 .add 10 19, zf 21 1 4, zl 22 1 21, zf 23 1 5, zl 24 1 23, zf 25 1 4, zl 26 1 25, zb 27 .sub 24 26, zm 28 3, zb 29 .mul 27 28, zm 30 2, zk 31 477 [(.t 29), (.t 30)], zb 32 .add 22 31, ⟨some 33, .bld [.int .i64 0, .int .i64 0] [(0, 1, (.t 20)), (1, 1, (.t 32))], none⟩, ⟨none, .st 2 [] (.t 8) (.t 33), none⟩])
 .ret)) }
def N708_transect_line : NFun := { np := 3, nt := 31, res := [(6, none)], body :=
 (.seq (.reg false [] [0, 4, 5] [zo 4 1, zo 5 2, zc 6 (.int .i64 0)])
 (.seq (.block 0 (.seq (.reg false [] [4, 5, 7] [zm 8 0, ⟨some 9, .beq true [8] (.t 8) (.c .nilp), none⟩, zm 10 9, zg 10 true (zm 11 0), zg 10 true (⟨some 12, .nck (.t 11), none⟩), zg 10 true (zL 13 2 12), zg 10 true (zk 14 234 [(.t 13)]), zg 10 true (zt 15 14), ⟨some 16, .pick (.t 10) (.t 15) (.c (.bool false)), none⟩, zm 17 16, zg 17 false (zL 18 2 4), zg 17 false (zk 19 313 [(.t 18)]), zg 17 false (zt 20 19), ⟨some 21, .pick (.t 17) (.c (.bool true)) (.t 20), none⟩, zm 22 21, zg 22 false (zL 23 2 5), zg 22 false (zk 24 313 [(.t 23)]), zg 22 false (zt 25 24), ⟨some 26, .pick (.t 22) (.c (.bool true)) (.t 25), none⟩, zm 7 26])
 (.cond (.t 7) (.seq (.reg false [] [6] [zc 6 (.int .i64 1)])
 .ret)
 (.seq (.reg false [] [27] [zL 28 2 4, zL 29 2 5, ⟨some 30, .beq false [0, 0] (.t 28) (.t 29), none⟩, zm 27 30])
 (.cond (.t 27) (.seq (.reg false [] [6] [zc 6 (.int .i64 25)])
 .ret)
 .skip)))))
 (.seq (.reg false [] [6] [zc 6 (.int .i64 0)])
 .ret))) }
def N709_transect_meets : NFun := { np := 3, nt := 64, res := [(6, none)], body :=
 (.seq (.reg false [] [3, 4, 5] [zo 3 0, zo 4 1, zo 5 2, zc 6 (.bool false)])
 (.seq (.seq (.reg false [] [3, 4, 5, 16, 17, 18] [zL 14 2 4, zL 15 2 5, ⟨some 16, .bls 2 2 [.int .i64 0, .int .i64 0] [] [(0, (.t 14)), (1, (.t 15))], none⟩, zn 17 16, zc 18 (.int .i64 0)])
 (.block 0 (.loop (.seq (.reg false [] [3, 4, 5, 16, 17, 18, 19] [zb 19 .lss 18 17])
 (.seq (.cond (.t 19) .skip
 (.exit 0))
 (.seq (.block 1 (.seq (.reg false [] [3, 4, 5, 8, 16, 17, 18] [zi 20 2 16 18, zL 21 2 20, ⟨some 8, .alc [.int .i64 0, .int .i64 0], none⟩, ⟨none, .st 2 [] (.t 8) (.t 21), none⟩])
 (.seq (.reg false [] [3, 4, 5, 9, 10, 16, 17, 18] [zL 23 2 8, ⟨some 24, .iadA 3 2 (.t 3) (.c (.int .i64 0)), none⟩, zL 25 2 24, ⟨some 26, .iadA 3 2 (.t 3) (.c (.int .i64 1)), none⟩, zL 27 2 26, ⟨some 28, .iadA 3 2 (.t 3) (.c (.int .i64 2)), none⟩, zL 29 2 28, zk 30 355 [(.t 23), (.t 25), (.t 27), (.t 29)], zm 22 30, zx 31 0 22, zx 32 1 22, zm 9 31, zm 10 32])
 (.seq (.reg false [] [3, 4, 5, 16, 17, 18, 38] [zm 33 10, zd 34 .eql 33 (.int .i64 0), zm 35 34, zg 35 true (zm 36 9), zg 35 true (zd 37 .geq 36 (.int .i64 0)), ⟨some 38, .pick (.t 35) (.t 37) (.c (.bool false)), none⟩])
 (.cond (.t 38) (.seq (.reg false [] [6] [zc 6 (.bool true)])
 .ret)
 .skip)))))
 (.reg false [] [3, 4, 5, 16, 17, 18] [zd 39 .add 18 (.int .i64 1), zm 18 39])))))))
 (.seq (.seq (.reg false [] [3, 4, 5, 40] [zc 40 (.int .i64 0)])
 (.block 2 (.loop (.seq (.reg false [] [3, 4, 5, 40, 41] [zd 41 .lss 40 (.int .i64 3)])
 (.seq (.cond (.t 41) .skip
 (.exit 2))
 (.seq (.block 3 (.seq (.reg false [] [3, 4, 5, 11, 40] [zm 42 40, zm 11 42])
 (.seq (.reg true [0, 0, 0, 4, 12, 0, 32, 96, 224, 480, 1023, 2047, 4095, 4095, 8191, 32767] [3, 4, 5, 12, 13, 40] [zL 44 2 4, zL 45 2 5, zm 46 11, ⟨some 47, .iadA 3 2 (.t 3) (.t 46), none⟩, zL 48 2 47, zm 49 11, zd 50 .add 49 (.int .i64 1), zd 51 .rem 50 (.int .i64 3), ⟨some 52, .iadA 3 2 (.t 3) (.t 51), none⟩, zL 53 2 52, zk 54 711 [(.t 44), (.t 45), (.t 48), (.t 53)], zm 43 54, zx 55 0 43, zx 56 1 43, zm 12 55, zm 13 56])
 (.seq (.reg false [] [3, 4, 5, 40, 62] [zm 57 13, zd 58 .eql 57 (.int .i64 0), zm 59 58, zg 59 true (zm 60 12), zg 59 true (zd 61 .gtr 60 (.int .i64 0)), ⟨some 62, .pick (.t 59) (.t 61) (.c (.bool false)), none⟩])
 (.cond (.t 62) (.seq (.reg false [] [6] [zc 6 (.bool true)])
 .ret)
 .skip)))))
 (.reg false [] [3, 4, 5, 40] [zd 63 .add 40 (.int .i64 1), zm 40 63])))))))
 (.seq (.reg false [] [6] [zc 6 (.bool false)])
 .ret)))) }
def N710_transect_corners : NFun := { np := 2, nt := 38, res := [(4, some (6, true))], body :=
 (.seq (.reg false [] [2, 3, 4] [zo 2 0, zo 3 1, ⟨some 4, .alc [.int .i64 0, .int .i64 0, .int .i64 0, .int .i64 0, .int .i64 0, .int .i64 0], none⟩])
 (.seq (.reg false [] [2, 3, 4, 5] [⟨some 5, .alc [.int .i64 0, .int .i64 0, .int .i64 0, .int .i64 0, .int .i64 0, .int .i64 0], none⟩])
 (.seq (.seq (.reg false [] [2, 4, 5, 14, 15, 16] [zf 8 0 3, zl 9 1 8, zf 10 1 3, zl 11 1 10, zf 12 2 3, zl 13 1 12, ⟨some 14, .bls 1 3 [.int .i64 0] [] [(0, (.t 9)), (1, (.t 11)), (2, (.t 13))], none⟩, zn 15 14, zc 16 (.int .i64 0)])
 (.block 0 (.loop (.seq (.reg false [] [2, 4, 5, 14, 15, 16, 17] [zb 17 .lss 16 15])
 (.seq (.cond (.t 17) .skip
 (.exit 0))
 (.seq (.block 1 (.seq (.reg false [] [2, 4, 5, 6, 7, 14, 15, 16] [zm 18 16, zi 19 1 14 16, zl 20 1 19, zm 6 18, zm 7 20])
 (.reg true [0, 0, 2, 0, 14, 30, 62, 0, 128, 0, 896, 1920, 3968, 8190, 16383, 32767] [2, 4, 5, 14, 15, 16] [zm 21 6, zf 22 0 2, zl 23 1 22, zm 24 7, zi 25 3 23 24, zf 26 0 25, zl 27 1 26, zf 28 0 2, zl 29 1 28, zm 30 7, zi 31 3 29 30, zf 32 1 31, zl 33 1 32, ⟨some 34, .bld [.int .i64 0, .int .i64 0] [(0, 1, (.t 27)), (1, 1, (.t 33))], none⟩, ⟨some 35, .iadA 3 2 (.t 5) (.t 21), none⟩, ⟨none, .st 2 [] (.t 35) (.t 34), none⟩])))
 (.reg false [] [2, 4, 5, 14, 15, 16] [zd 36 .add 16 (.int .i64 1), zm 16 36])))))))
 (.seq (.reg false [] [4] [zL 37 6 5, ⟨none, .st 6 [] (.t 4) (.t 37), none⟩])
 .ret)))) }
def N711_plane_Cross : NFun := { np := 4, nt := 63, res := [(8, none), (9, none)], body :=
 (.seq (.reg false [] [4, 5, 6, 7] [zo 4 0, zo 5 1, zo 6 2, zo 7 3, zc 8 (.int .i64 0), zc 9 (.int .i64 0)])
 (.seq (.block 0 (.seq (.reg false [] [4, 5, 6, 7, 10] [zL 11 2 4, zL 12 2 5, zL 13 2 6, zL 14 2 7, ⟨some 15, .bls 2 4 [.int .i64 0, .int .i64 0] [] [(0, (.t 11)), (1, (.t 12)), (2, (.t 13)), (3, (.t 14))], none⟩, zk 16 359 [(.t 15)], zt 17 16, zm 10 17])
 (.cond (.t 10) (.seq (.reg false [] [8, 9] [zc 8 (.int .i64 0), zc 9 (.int .i64 1)])
 .ret)
 (.seq (.reg false [] [4, 5, 6, 7, 18] [zL 19 2 4, zL 20 2 5, ⟨some 21, .beq false [0, 0] (.t 19) (.t 20), none⟩, zm 22 21, zg 22 false (zL 23 2 6), zg 22 false (zL 24 2 7), zg 22 false (⟨some 25, .beq false [0, 0] (.t 23) (.t 24), none⟩), ⟨some 26, .pick (.t 22) (.c (.bool true)) (.t 25), none⟩, zm 18 26])
 (.cond (.t 18) (.seq (.reg false [] [8, 9] [zc 8 (.int .i64 0), zc 9 (.int .i64 25)])
 .ret)
 (.seq (.reg false [] [4, 5, 6, 7, 27] [zL 28 2 4, zL 29 2 5, zL 30 2 6, zL 31 2 7, zk 32 731 [(.t 28), (.t 29), (.t 30), (.t 31)], zm 33 32, zg 33 true (zL 34 2 6), zg 33 true (zL 35 2 7), zg 33 true (zL 36 2 4), zg 33 true (zL 37 2 5), zg 33 true (zk 38 731 [(.t 34), (.t 35), (.t 36), (.t 37)]), ⟨some 39, .pick (.t 33) (.t 38) (.c (.bool false)), none⟩, zm 27 39])
 (.cond (.t 27) (.seq (.reg false [] [8, 9] [zc 8 (.int .i64 2), zc 9 (.int .i64 0)])
 .ret)
 (.seq (.reg false [] [40] [zL 41 2 4, zL 42 2 5, zL 43 2 6, zk 44 732 [(.t 41), (.t 42), (.t 43)], zm 45 44, zg 45 false (zL 46 2 4), zg 45 false (zL 47 2 5), zg 45 false (zL 48 2 7), zg 45 false (zk 49 732 [(.t 46), (.t 47), (.t 48)]), ⟨some 50, .pick (.t 45) (.c (.bool true)) (.t 49), none⟩, zm 51 50, zg 51 false (zL 52 2 6), zg 51 false (zL 53 2 7), zg 51 false (zL 54 2 4), zg 51 false (zk 55 732 [(.t 52), (.t 53), (.t 54)]), ⟨some 56, .pick (.t 51) (.c (.bool true)) (.t 55), none⟩, zm 57 56, zg 57 false (zL 58 2 6), zg 57 false (zL 59 2 7), zg 57 false (zL 60 2 5), zg 57 false (zk 61 732 [(.t 58), (.t 59), (.t 60)]), ⟨some 62, .pick (.t 57) (.c (.bool true)) (.t 61), none⟩, zm 40 62])
 (.cond (.t 40) (.seq (.reg false [] [8, 9] [zc 8 (.int .i64 1), zc 9 (.int .i64 0)])
 .ret)
 .skip)))))))))
 (.seq (.reg false [] [8, 9] [zc 8 (.int .i64 0), zc 9 (.int .i64 0)])
 .ret))) }
def N712_plane_Cut : NFun := { np := 4, nt := 61, res := [(8, some (2, true)), (9, none)], body :=
 (.seq (.reg false [] [4, 5, 6, 7, 8] [zo 4 0, zo 5 1, zo 6 2, zo 7 3, ⟨some 8, .alc [.int .i64 0, .int .i64 0], none⟩, zc 9 (.int .i64 0)])
 (.seq (.seq (.reg false [] [4, 5, 6, 7, 8, 18] [zL 12 2 4, zL 13 2 5, zL 14 2 6, zL 15 2 7, ⟨some 16, .bls 2 4 [.int .i64 0, .int .i64 0] [] [(0, (.t 12)), (1, (.t 13)), (2, (.t 14)), (3, (.t 15))], none⟩, zk 17 359 [(.t 16)], zt 18 17])
 (.cond (.t 18) (.seq (.reg false [] [8, 9] [⟨some 19, .bld [.int .i64 0, .int .i64 0] [], none⟩, ⟨none, .st 2 [] (.t 8) (.t 19), none⟩, zc 9 (.int .i64 1)])
 .ret)
 .skip))
 (.seq (.seq (.reg false [] [4, 5, 6, 7, 8, 27] [zL 20 2 4, zL 21 2 5, ⟨some 22, .beq false [0, 0] (.t 20) (.t 21), none⟩, zm 23 22, zg 23 false (zL 24 2 6), zg 23 false (zL 25 2 7), zg 23 false (⟨some 26, .beq false [0, 0] (.t 24) (.t 25), none⟩), ⟨some 27, .pick (.t 23) (.c (.bool true)) (.t 26), none⟩])
 (.cond (.t 27) (.seq (.reg false [] [8, 9] [⟨some 28, .bld [.int .i64 0, .int .i64 0] [], none⟩, ⟨none, .st 2 [] (.t 8) (.t 28), none⟩, zc 9 (.int .i64 25)])
 .ret)
 .skip))
 (.seq (.reg false [] [5, 6, 7, 8, 10] [zL 29 2 6, zL 30 2 7, zL 31 2 4, zk 32 360 [(.t 29), (.t 30), (.t 31)], zm 10 32])
 (.seq (.reg false [] [8, 10, 11] [zm 33 10, zL 34 2 6, zL 35 2 7, zL 36 2 5, zk 37 360 [(.t 34), (.t 35), (.t 36)], zb 38 .sub 33 37, zm 11 38])
 (.seq (.seq (.reg false [] [8, 10, 11, 40] [zm 39 11, zd 40 .eql 39 (.int .i64 0)])
 (.cond (.t 40) (.seq (.reg false [] [8, 9] [⟨some 41, .bld [.int .i64 0, .int .i64 0] [], none⟩, ⟨none, .st 2 [] (.t 8) (.t 41), none⟩, zc 9 (.int .i64 16)])
 .ret)
 .skip))
 (.seq (.seq (.reg false [] [8, 10, 11, 43] [zm 42 11, zd 43 .lss 42 (.int .i64 0)])
 (.cond (.t 43) (.reg false [] [8, 10, 11] [zm 44 10, ⟨some 45, .un .neg (.t 44), none⟩, zm 46 11, ⟨some 47, .un .neg (.t 46), none⟩, zm 10 45, zm 11 47])
 .skip))
 (.seq (.seq (.reg false [] [8, 10, 11, 54] [zm 48 10, zd 49 .lss 48 (.int .i64 0), zm 50 49, zg 50 false (zm 51 10), zg 50 false (zm 52 11), zg 50 false (zb 53 .gtr 51 52), ⟨some 54, .pick (.t 50) (.c (.bool true)) (.t 53), none⟩])
 (.cond (.t 54) (.seq (.reg false [] [8, 9] [⟨some 55, .bld [.int .i64 0, .int .i64 0] [], none⟩, ⟨none, .st 2 [] (.t 8) (.t 55), none⟩, zc 9 (.int .i64 2)])
 .ret)
 .skip))
 (.seq (.reg false [] [8, 9] [zm 56 10, zm 57 11, zk 58 733 [(.t 56), (.t 57)], zx 59 0 58, zx 60 1 58, ⟨none, .st 2 [] (.t 8) (.t 59), none⟩, zm 9 60])
 .ret))))))))) }
def N714_transect_Cuts_1 : NFun := { np := 2, nt := 14, res := [(4, none)], body :=
 (.seq (.reg false [] [2, 3] [zo 2 0, zo 3 1, zc 4 (.int .i64 0)])
 (.seq (.reg false [] [5] [zL 8 2 2, zL 9 2 3, zk 10 690 [(.t 8), (.t 9)], zm 7 10, zx 11 0 7, zx 12 1 7, zm 5 11, zm 6 12])
 (.seq (.reg false [] [4] [zm 13 5, zm 4 13])
 .ret))) }
def N715_slices_Compact__api_Frac_api_Frac : NFun := { np := 1, nt := 61, res := [(2, none)], body :=
 (.seq (.reg false [] [0] [zc 2 .nils])
 (.seq (.seq (.reg false [] [0, 8] [zm 6 0, zn 7 6, zd 8 .lss 7 (.int .i64 2)])
 (.cond (.t 8) (.seq (.reg false [] [2] [zq 9 0, zq 2 9])
 .ret)
 .skip))
 (.seq (.seq (.reg false [] [0, 3] [zc 3 (.int .i64 1)])
 (.block 0 (.loop (.seq (.seq (.reg false [] [0, 3, 13] [zm 10 3, zm 11 0, zn 12 11, zb 13 .lss 10 12])
 (.cond (.t 13) .skip
 (.exit 0)))
 (.seq (.block 1 (.seq (.reg true [0, 0, 3, 7, 0, 0, 32, 112, 240, 511] [0, 3, 25] [zm 16 0, zm 17 3, zi 18 2 16 17, zL 19 2 18, zm 20 0, zm 21 3, zd 22 .sub 21 (.int .i64 1), zi 23 2 20 22, zL 24 2 23, ⟨some 25, .beq false [0, 0] (.t 19) (.t 24), none⟩])
 (.cond (.t 25) (.seq (.reg false [] [0, 3, 4] [zm 26 0, zm 27 3, ⟨some 28, .slc 2 (.t 26) (some (.t 27)) none, none⟩, zm 4 28])
 (.seq (.seq (.reg false [] [0, 3, 4, 5] [zc 5 (.int .i64 1)])
 (.block 2 (.loop (.seq (.seq (.reg false [] [0, 3, 4, 5, 32] [zm 29 5, zm 30 4, zn 31 30, zb 32 .lss 29 31])
 (.cond (.t 32) .skip
 (.exit 2)))
 (.seq (.block 3 (.seq (.reg true [0, 0, 3, 7, 0, 0, 32, 112, 240, 511] [0, 3, 4, 5, 44] [zm 35 4, zm 36 5, zi 37 2 35 36, zL 38 2 37, zm 39 4, zm 40 5, zd 41 .sub 40 (.int .i64 1), zi 42 2 39 41, zL 43 2 42, ⟨some 44, .beq true [0, 0] (.t 38) (.t 43), none⟩])
 (.cond (.t 44) (.seq (.reg false [] [0, 3, 4, 5] [zm 45 0, zm 46 3, zm 47 4, zm 48 5, zi 49 2 47 48, zL 50 2 49, zi 51 2 45 46, ⟨none, .st 2 [] (.t 51) (.t 50), none⟩])
 (.reg false [] [0, 3, 4, 5] [zm 52 3, zd 53 .add 52 (.int .i64 1), zm 3 53]))
 .skip)))
 (.reg false [] [0, 3, 4, 5] [zm 33 5, zd 34 .add 33 (.int .i64 1), zm 5 34]))))))
 (.seq (.reg false [] [0, 3] [zm 54 0, zm 55 3, ⟨some 56, .slc 2 (.t 54) (some (.t 55)) none, none⟩, ⟨none, .clr [.int .i64 0, .int .i64 0] (.t 56), none⟩])
 (.seq (.reg false [] [2] [zq 57 0, zm 58 3, ⟨some 59, .slc 2 (.t 57) none (some (.t 58)), none⟩, zq 2 59])
 .ret))))
 .skip)))
 (.reg false [] [0, 3] [zm 14 3, zd 15 .add 14 (.int .i64 1), zm 3 15]))))))
 (.seq (.reg false [] [2] [zq 60 0, zq 2 60])
 .ret)))) }
def N722_ratio_Valid : NFun := { np := 1, nt := 31, res := [(2, none)], body :=
 (.seq (.reg false [] [1] [zo 1 0, zc 2 (.bool false)])
 (.seq (.reg true [0, 1, 3, 7, 15, 31, 63, 127, 255, 511, 1023, 2047, 4095, 8191, 16383, 32767, 65535, 131071, 262143, 524287, 1048575, 2097151, 524287, 4718591, 13107199, 33554431, 67108863, 134217727, 268435455] [2] [zf 3 1 1, zl 4 1 3, zd 5 .geq 4 (.int .i64 1), zm 6 5, zg 6 true (zf 7 1 1), zg 6 true (zl 8 1 7), zg 6 true (zd 9 .leq 8 (.int .i64 1073741824)), ⟨some 10, .pick (.t 6) (.t 9) (.c (.bool false)), none⟩, zm 11 10, zg 11 true (zf 12 0 1), zg 11 true (zl 13 1 12), zg 11 true (⟨some 14, .bin .geq (.t 13) (.c (.int .i64 (-1073741824))), none⟩), ⟨some 15, .pick (.t 11) (.t 14) (.c (.bool false)), none⟩, zm 16 15, zg 16 true (zf 17 0 1), zg 16 true (zl 18 1 17), zg 16 true (zd 19 .leq 18 (.int .i64 1073741824)), ⟨some 20, .pick (.t 16) (.t 19) (.c (.bool false)), none⟩, zm 21 20, zg 21 true (zf 22 0 1), zg 21 true (zl 23 1 22), zg 21 true (zk 24 739 [(.t 23)]), zg 21 true (zf 25 1 1), zg 21 true (zl 26 1 25), zg 21 true (⟨some 27, .conv .u64 (.t 26), none⟩), zg 21 true (zk 28 738 [(.t 24), (.t 27)]), zg 21 true (zd 29 .eql 28 (.int .u64 1)), ⟨some 30, .pick (.t 21) (.t 29) (.c (.bool false)), none⟩, zm 2 30])
 .ret)) }
def N723_transect_cover : NFun := { np := 6, nt := 74, res := [(12, some (2, true)), (13, none)], body :=
 (.seq (.reg false [] [3, 4, 5, 6, 7, 8, 12] [zo 6 0, zo 7 1, zo 8 2, ⟨some 12, .alc [.int .i64 0, .int .i64 0], none⟩, zc 13 (.int .i64 0)])
 (.seq (.reg false [] [3, 4, 5, 12, 14, 15] [zL 21 2 6, zL 22 2 7, zL 23 2 8, zm 24 3, ⟨some 25, .callA 726 [(.t 21), (.t 22), (.t 23), (.t 24)], none⟩, zm 20 25, zx 26 0 20, zx 27 1 20, zq 14 26, zm 15 27])
 (.seq (.seq (.reg false [] [3, 4, 5, 12, 14, 15, 29] [zm 28 15, zd 29 .neq 28 (.int .i64 0)])
 (.cond (.t 29) (.seq (.reg false [] [12, 13] [⟨some 30, .bld [.int .i64 0, .int .i64 0] [], none⟩, zm 31 15, ⟨none, .st 2 [] (.t 12) (.t 30), none⟩, zm 13 31])
 .ret)
 .skip))
 (.seq (.seq (.reg false [] [3, 4, 5, 12, 14, 33, 34] [zm 32 14, zn 33 32, zc 34 (.int .i64 0)])
 (.block 0 (.loop (.seq (.reg false [] [3, 4, 5, 12, 14, 33, 34, 35] [zb 35 .lss 34 33])
 (.seq (.cond (.t 35) .skip
 (.exit 0))
 (.seq (.block 1 (.seq (.reg false [] [3, 4, 5, 12, 14, 16, 33, 34] [zm 36 34, zm 16 36])
 (.seq (.reg false [] [3, 4, 5, 12, 14, 16, 17, 33, 34] [zm 37 5, zm 38 4, zb 39 .sub 37 38, zm 40 16, zb 41 .mul 39 40, zm 17 41])
 (.seq (.reg false [] [3, 4, 5, 12, 14, 16, 18, 19, 33, 34] [zm 42 4, zm 43 17, zm 44 3, zk 45 730 [(.t 43), (.t 44)], zb 46 .add 42 45, zm 47 4, zm 48 17, ⟨some 49, .un .neg (.t 48), none⟩, zm 50 3, zk 51 730 [(.t 49), (.t 50)], zb 52 .sub 47 51, zm 18 46, zm 19 52])
 (.reg true [0, 0, 0, 0, 12, 28, 60, 0, 252, 0, 0, 1536, 3584, 7680, 0, 32256, 65532, 131071, 262143] [3, 4, 5, 12, 14, 33, 34] [zm 53 14, zm 54 16, zm 55 14, zm 56 16, zi 57 2 55 56, zf 58 0 57, zl 59 1 58, zm 60 19, zb 61 .sub 59 60, zm 62 14, zm 63 16, zi 64 2 62 63, zf 65 1 64, zl 66 1 65, zm 67 18, zb 68 .sub 66 67, ⟨some 69, .bld [.int .i64 0, .int .i64 0] [(0, 1, (.t 61)), (1, 1, (.t 68))], none⟩, zi 70 2 53 54, ⟨none, .st 2 [] (.t 70) (.t 69), none⟩])))))
 (.reg false [] [3, 4, 5, 12, 14, 33, 34] [zd 71 .add 34 (.int .i64 1), zm 34 71])))))))
 (.seq (.reg false [] [12, 13] [zq 72 14, zk 73 727 [(.t 72)], ⟨none, .st 2 [] (.t 12) (.t 73), none⟩, zc 13 (.int .i64 0)])
 .ret))))) }
def N726_transect_levels : NFun := { np := 4, nt := 39, res := [(8, none), (9, none)], body :=
 (.seq (.reg false [] [3, 4, 5, 6] [zo 4 0, zo 5 1, zo 6 2, zc 8 .nils, zc 9 (.int .i64 0)])
 (.seq (.reg false [] [3, 4, 5, 6, 10] [⟨some 10, .nilo 2, none⟩])
 (.seq (.seq (.reg false [] [4, 10, 18, 19, 20] [zL 15 2 5, zL 16 2 6, zm 17 3, zk 18 704 [(.t 15), (.t 16), (.t 17)], zn 19 18, zc 20 (.int .i64 0)])
 (.block 0 (.loop (.seq (.reg false [] [4, 10, 18, 19, 20, 21] [zb 21 .lss 20 19])
 (.seq (.cond (.t 21) .skip
 (.exit 0))
 (.seq (.block 1 (.seq (.reg false [] [4, 10, 12, 18, 19, 20] [zi 22 2 18 20, zL 23 2 22, ⟨some 12, .alc [.int .i64 0, .int .i64 0], none⟩, ⟨none, .st 2 [] (.t 12) (.t 23), none⟩])
 (.seq (.reg false [] [4, 10, 13, 14, 18, 19, 20] [zL 25 2 4, zL 26 2 12, zk 27 233 [(.t 25), (.t 26)], zm 24 27, zx 28 0 24, zx 29 1 24, ⟨some 13, .alc [.int .i64 0, .int .i64 0], none⟩, ⟨none, .st 2 [] (.t 13) (.t 28), none⟩, zm 14 29])
 (.seq (.seq (.reg false [] [4, 10, 13, 14, 18, 19, 20, 31] [zm 30 14, zd 31 .neq 30 (.int .i64 0)])
 (.cond (.t 31) (.seq (.reg false [] [8, 9] [zm 32 14, zc 8 .nils, zm 9 32])
 .ret)
 .skip))
 (.reg false [] [4, 10, 18, 19, 20] [zm 33 10, zL 34 2 13, ⟨some 35, .bls 2 1 [.int .i64 0, .int .i64 0] [] [(0, (.t 34))], none⟩, ⟨some 36, .app 2 16 false (.t 33) (.t 35), none⟩, zq 10 36])))))
 (.reg false [] [4, 10, 18, 19, 20] [zd 37 .add 20 (.int .i64 1), zm 20 37])))))))
 (.seq (.reg false [] [8, 9] [zq 38 10, zq 8 38, zc 9 (.int .i64 0)])
 .ret)))) }
def N727_transect_least : NFun := { np := 1, nt := 29, res := [(2, some (2, true))], body :=
 (.seq (.reg false [] [0, 2] [⟨some 2, .alc [.int .i64 0, .int .i64 0], none⟩])
 (.seq (.reg false [] [0, 2, 3] [zm 6 0, ⟨some 7, .iadS 2 (.t 6) (.c (.int .i64 0)), none⟩, zL 8 2 7, ⟨some 3, .alc [.int .i64 0, .int .i64 0], none⟩, ⟨none, .st 2 [] (.t 3) (.t 8), none⟩])
 (.seq (.seq (.reg false [] [2, 3, 9, 10, 11] [zq 9 0, zn 10 9, zc 11 (.int .i64 0)])
 (.block 0 (.loop (.seq (.reg false [] [2, 3, 9, 10, 11, 12] [zb 12 .lss 11 10])
 (.seq (.cond (.t 12) .skip
 (.exit 0))
 (.seq (.block 1 (.seq (.reg false [] [2, 3, 5, 9, 10, 11] [zi 13 2 9 11, zL 14 2 13, ⟨some 5, .alc [.int .i64 0, .int .i64 0], none⟩, ⟨none, .st 2 [] (.t 5) (.t 14), none⟩])
 (.reg true [0, 1, 0, 4, 15, 0, 32, 0, 128, 480, 127, 1151, 4095, 8191] [2, 3, 9, 10, 11] [zf 15 0 3, zl 16 1 15, zf 17 0 5, zl 18 1 17, ⟨some 19, .mn (.t 16) (.t 18), none⟩, zf 20 1 3, zl 21 1 20, zf 22 1 5, zl 23 1 22, ⟨some 24, .mn (.t 21) (.t 23), none⟩, zf 25 0 3, ⟨none, .st 1 [] (.t 25) (.t 19), none⟩, zf 26 1 3, ⟨none, .st 1 [] (.t 26) (.t 24), none⟩])))
 (.reg false [] [2, 3, 9, 10, 11] [zd 27 .add 11 (.int .i64 1), zm 11 27])))))))
 (.seq (.reg false [] [2] [zL 28 2 3, ⟨none, .st 2 [] (.t 2) (.t 28), none⟩])
 .ret)))) }
def N729_transect_level : NFun := { np := 1, nt := 6, res := [(2, none)], body :=
 (.seq (.reg false [] [0] [zc 2 (.bool false)])
 (.seq (.reg false [] [2] [zq 3 0, ⟨some 4, .call 11 [(.t 3), (.c (.fn 740 []))] [], none⟩, zt 5 4, zm 2 5])
 .ret)) }
def N730_transect_floor : NFun := { np := 2, nt := 16, res := [(4, none)], body :=
 (.seq (.reg false [] [0, 1] [zc 4 (.int .i64 0)])
 (.seq (.reg false [] [0, 1, 5] [zm 6 0, zm 7 1, zb 8 .quo 6 7, zm 5 8])
 (.seq (.seq (.reg false [] [5, 12] [zm 9 0, zm 10 1, zb 11 .rem 9 10, zd 12 .lss 11 (.int .i64 0)])
 (.cond (.t 12) (.reg false [] [5] [zm 13 5, zd 14 .sub 13 (.int .i64 1), zm 5 14])
 .skip))
 (.seq (.reg false [] [4] [zm 15 5, zm 4 15])
 .ret)))) }
def N731_plane_apart : NFun := { np := 4, nt := 33, res := [(8, none)], body :=
 (.seq (.reg false [] [4, 5, 6, 7] [zo 4 0, zo 5 1, zo 6 2, zo 7 3, zc 8 (.bool false)])
 (.seq (.reg true [0, 0, 0, 7, 0, 0, 0, 127, 255, 511] [9, 10] [zL 11 2 4, zL 12 2 5, zL 13 2 6, zk 14 360 [(.t 11), (.t 12), (.t 13)], zL 15 2 4, zL 16 2 5, zL 17 2 7, zk 18 360 [(.t 15), (.t 16), (.t 17)], zm 9 14, zm 10 18])
 (.seq (.reg false [] [8] [zm 19 9, zd 20 .lss 19 (.int .i64 0), zm 21 20, zg 21 true (zm 22 10), zg 21 true (zd 23 .gtr 22 (.int .i64 0)), ⟨some 24, .pick (.t 21) (.t 23) (.c (.bool false)), none⟩, zm 25 24, zg 25 false (zm 26 9), zg 25 false (zd 27 .gtr 26 (.int .i64 0)), zg 25 false (zm 28 27), zg 28 true (zm 29 10), zg 28 true (zd 30 .lss 29 (.int .i64 0)), zg 25 false (⟨some 31, .pick (.t 28) (.t 30) (.c (.bool false)), none⟩), ⟨some 32, .pick (.t 25) (.c (.bool true)) (.t 31), none⟩, zm 8 32])
 .ret))) }
def N732_plane_on : NFun := { np := 3, nt := 52, res := [(6, none)], body :=
 (.seq (.reg false [] [3, 4, 5] [zo 3 0, zo 4 1, zo 5 2, zc 6 (.bool false)])
 (.seq (.reg false [] [6] [zL 7 2 3, zL 8 2 4, zL 9 2 5, zk 10 360 [(.t 7), (.t 8), (.t 9)], zd 11 .eql 10 (.int .i64 0), zm 12 11, zg 12 true (zf 13 0 5), zg 12 true (zl 14 1 13), zg 12 true (zf 15 0 3), zg 12 true (zl 16 1 15), zg 12 true (zf 17 0 4), zg 12 true (zl 18 1 17), zg 12 true (⟨some 19, .mn (.t 16) (.t 18), none⟩), zg 12 true (zb 20 .geq 14 19), ⟨some 21, .pick (.t 12) (.t 20) (.c (.bool false)), none⟩, zm 22 21, zg 22 true (zf 23 0 5), zg 22 true (zl 24 1 23), zg 22 true (zf 25 0 3), zg 22 true (zl 26 1 25), zg 22 true (zf 27 0 4), zg 22 true (zl 28 1 27), zg 22 true (⟨some 29, .mx (.t 26) (.t 28), none⟩), zg 22 true (zb 30 .leq 24 29), ⟨some 31, .pick (.t 22) (.t 30) (.c (.bool false)), none⟩, zm 32 31, zg 32 true (zf 33 1 5), zg 32 true (zl 34 1 33), zg 32 true (zf 35 1 3), zg 32 true (zl 36 1 35), zg 32 true (zf 37 1 4), zg 32 true (zl 38 1 37), zg 32 true (⟨some 39, .mn (.t 36) (.t 38), none⟩), zg 32 true (zb 40 .geq 34 39), ⟨some 41, .pick (.t 32) (.t 40) (.c (.bool false)), none⟩, zm 42 41, zg 42 true (zf 43 1 5), zg 42 true (zl 44 1 43), zg 42 true (zf 45 1 3), zg 42 true (zl 46 1 45), zg 42 true (zf 47 1 4), zg 42 true (zl 48 1 47), zg 42 true (⟨some 49, .mx (.t 46) (.t 48), none⟩), zg 42 true (zb 50 .leq 44 49), ⟨some 51, .pick (.t 42) (.t 50) (.c (.bool false)), none⟩, zm 6 51])
 .ret)) }
def N733_ratio_Make : NFun := { np := 2, nt := 48, res := [(4, some (2, true)), (5, none)], body :=
 (.seq (.reg false [] [0, 1, 4] [⟨some 4, .alc [.int .i64 0, .int .i64 0], none⟩, zc 5 (.int .i64 0)])
 (.seq (.seq (.reg false [] [0, 1, 4, 11] [zm 10 1, zd 11 .eql 10 (.int .i64 0)])
 (.cond (.t 11) (.seq (.reg false [] [4, 5] [⟨some 12, .bld [.int .i64 0, .int .i64 0] [], none⟩, ⟨none, .st 2 [] (.t 4) (.t 12), none⟩, zc 5 (.int .i64 16)])
 .ret)
 .skip))
 (.seq (.reg false [] [0, 1, 4, 6, 7] [zm 13 0, zk 14 739 [(.t 13)], zm 15 1, zk 16 739 [(.t 15)], zm 6 14, zm 7 16])
 (.seq (.reg false [] [0, 1, 4, 6, 7, 8] [zm 17 6, zm 18 7, zk 19 738 [(.t 17), (.t 18)], zm 8 19])
 (.seq (.seq (.reg true [0, 0, 3, 0, 0, 24, 7, 127] [0, 1, 4, 6, 7] [zm 20 6, zm 21 8, zb 22 .quo 20 21, zm 23 7, zm 24 8, zb 25 .quo 23 24, zm 6 22, zm 7 25])
 (.seq (.reg false [] [0, 1, 4, 6, 7, 31] [zm 26 6, zd 27 .gtr 26 (.int .u64 1073741824), zm 28 27, zg 28 false (zm 29 7), zg 28 false (zd 30 .gtr 29 (.int .u64 1073741824)), ⟨some 31, .pick (.t 28) (.c (.bool true)) (.t 30), none⟩])
 (.cond (.t 31) (.seq (.reg false [] [4, 5] [⟨some 32, .bld [.int .i64 0, .int .i64 0] [], none⟩, ⟨none, .st 2 [] (.t 4) (.t 32), none⟩, zc 5 (.int .i64 5)])
 .ret)
 .skip)))
 (.seq (.reg false [] [0, 1, 4, 9] [zm 33 6, ⟨some 34, .conv .i64 (.t 33), none⟩, zm 35 7, ⟨some 36, .conv .i64 (.t 35), none⟩, ⟨some 37, .bld [.int .i64 0, .int .i64 0] [(0, 1, (.t 34)), (1, 1, (.t 36))], none⟩, ⟨some 9, .alc [.int .i64 0, .int .i64 0], none⟩, ⟨none, .st 2 [] (.t 9) (.t 37), none⟩])
 (.seq (.seq (.reg false [] [4, 9, 42] [zm 38 0, zd 39 .lss 38 (.int .i64 0), zm 40 1, zd 41 .lss 40 (.int .i64 0), ⟨some 42, .beq true [] (.t 39) (.t 41), none⟩])
 (.cond (.t 42) (.reg false [] [4, 9] [zf 43 0 9, zl 44 1 43, ⟨some 45, .un .neg (.t 44), none⟩, zf 46 0 9, ⟨none, .st 1 [] (.t 46) (.t 45), none⟩])
 .skip))
 (.seq (.reg false [] [4, 5] [zL 47 2 9, ⟨none, .st 2 [] (.t 4) (.t 47), none⟩, zc 5 (.int .i64 0)])
 .ret)))))))) }
def N738_ratio_common : NFun := { np := 2, nt := 12, res := [(4, none)], body :=
 (.seq (.reg false [] [0, 1] [zc 4 (.int .u64 0)])
 (.seq (.block 0 (.loop (.seq (.seq (.reg false [] [0, 1, 6] [zm 5 1, zd 6 .neq 5 (.int .u64 0)])
 (.cond (.t 6) .skip
 (.exit 0)))
 (.block 1 (.reg true [0, 0, 0, 6, 3, 31] [0, 1] [zm 7 1, zm 8 0, zm 9 1, zb 10 .rem 8 9, zm 0 7, zm 1 10])))))
 (.seq (.reg false [] [4] [zm 11 0, zm 4 11])
 .ret))) }
def N739_ratio_size : NFun := { np := 1, nt := 10, res := [(2, none)], body :=
 (.seq (.reg false [] [0] [zc 2 (.int .u64 0)])
 (.seq (.seq (.reg false [] [0, 4] [zm 3 0, zd 4 .lss 3 (.int .i64 0)])
 (.cond (.t 4) (.seq (.reg false [] [2] [zm 5 0, ⟨some 6, .conv .u64 (.t 5), none⟩, ⟨some 7, .un .neg (.t 6), none⟩, zm 2 7])
 .ret)
 .skip))
 (.seq (.reg false [] [2] [zm 8 0, ⟨some 9, .conv .u64 (.t 8), none⟩, zm 2 9])
 .ret))) }
def N740_transect_level_1 : NFun := { np := 1, nt := 9, res := [(2, none)], body :=
 (.seq (.reg false [] [0] [zc 2 (.bool false)])
 (.seq (.reg false [] [2] [zm 3 0, ⟨some 4, .bin .lss (.t 3) (.c (.int .i64 (-4194304))), none⟩, zm 5 4, zg 5 false (zm 6 0), zg 5 false (zd 7 .gtr 6 (.int .i64 4194304)), ⟨some 8, .pick (.t 5) (.c (.bool true)) (.t 7), none⟩, zm 2 8])
 .ret)) }
def prog : Nat → Option NFun
  | 11 => some N11_slices_ContainsFunc__int_int
  | 19 => some N19_slices_Equal__int_int
  | 35 => some N35_slices_IndexFunc__int_int
  | 91 => some N91_math_bits_Mul64
  | 92 => some N92_math_bits_Div64
  | 99 => some N99_wide_Product
  | 102 => some N102_math_bits_LeadingZeros64
  | 103 => some N103_wide_times
  | 104 => some N104_wide_quotient
  | 105 => some N105_wide_placed
  | 106 => some N106_wide_Valid
  | 107 => some N107_wide_sum
  | 108 => some N108_wide_value
  | 110 => some N110_wide_whole
  | 111 => some N111_math_bits_Len64
  | 112 => some N112_wide_size
  | 113 => some N113_wide_signed
  | 233 => some N233_locate_Level
  | 234 => some N234_mesh_Valid
  | 237 => some N237_ref07_Valid
  | 239 => some N239_slices_ContainsFunc__api_Point_api_Point
  | 267 => some N267_cmp_Compare_int
  | 269 => some N269_locate_Exact
  | 271 => some N271_wide_Floor
  | 272 => some N272_wide_Ceil
  | 273 => some N273_mesh_Check
  | 274 => some N274_locate_on
  | 275 => some N275_locate_valid
  | 276 => some N276_locate_find
  | 278 => some N278_slices_IndexFunc__api_Point_api_Point
  | 284 => some N284_locate_outer
  | 298 => some N298_mesh_side
  | 299 => some N299_cmp_isNaN_int
  | 300 => some N300_locate_exact
  | 301 => some N301_wide_divided
  | 302 => some N302_mesh_small
  | 303 => some N303_mesh_right
  | 304 => some N304_mesh_point
  | 305 => some N305_mesh_corners
  | 306 => some N306_mesh_Check_1
  | 307 => some N307_mesh_triangle
  | 308 => some N308_mesh_turn
  | 309 => some N309_slices_ContainsFunc___3api_Point__3api_Point
  | 310 => some N310_mesh_Check_2
  | 311 => some N311_mesh_separates
  | 312 => some N312_locate_valid_1
  | 313 => some N313_plane_Valid
  | 319 => some N319_locate_corners
  | 320 => some N320_locate_turn
  | 321 => some N321_locate_at
  | 327 => some N327_wide_Add
  | 328 => some N328_slices_IndexFunc___3api_Point__3api_Point
  | 355 => some N355_plane_Inside
  | 359 => some N359_plane_all
  | 360 => some N360_plane_turn
  | 361 => some N361_plane_all_1
  | 477 => some N477_ref04_Floor
  | 669 => some N669_law14_TransectPoints
  | 677 => some N677_law14_awake
  | 678 => some N678_transect_Points
  | 679 => some N679_ref14_Points
  | 680 => some N680_slices_Equal__api_Point_api_Point
  | 682 => some N682_transect_Faces
  | 683 => some N683_transect_Cuts
  | 687 => some N687_slices_Equal__api_Frac_api_Frac
  | 690 => some N690_ratio_Cmp
  | 691 => some N691_transect_Cover
  | 702 => some N702_law14_example
  | 703 => some N703_transect_counted
  | 704 => some N704_transect_points
  | 705 => some N705_ref14_Line
  | 706 => some N706_ref14_Parts
  | 707 => some N707_ref14_At
  | 708 => some N708_transect_line
  | 709 => some N709_transect_meets
  | 710 => some N710_transect_corners
  | 711 => some N711_plane_Cross
  | 712 => some N712_plane_Cut
  | 714 => some N714_transect_Cuts_1
  | 715 => some N715_slices_Compact__api_Frac_api_Frac
  | 722 => some N722_ratio_Valid
  | 723 => some N723_transect_cover
  | 726 => some N726_transect_levels
  | 727 => some N727_transect_least
  | 729 => some N729_transect_level
  | 730 => some N730_transect_floor
  | 731 => some N731_plane_apart
  | 732 => some N732_plane_on
  | 733 => some N733_ratio_Make
  | 738 => some N738_ratio_common
  | 739 => some N739_ratio_size
  | 740 => some N740_transect_level_1
  | _ => none
end Go.Gv
