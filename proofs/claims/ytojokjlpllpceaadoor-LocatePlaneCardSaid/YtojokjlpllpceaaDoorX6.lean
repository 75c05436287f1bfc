/-
  Texts of the proof: GvP.
-/
import Derived.Test.YtojokjlpllpceaaDoorX5
set_option linter.all false
set_option maxRecDepth 4000
namespace Go.Gv

@[simp] def zm (a b : Nat) : NOper := ⟨some a, .mov (.t b), none⟩
@[simp] def zc (a : Nat) (d : D) : NOper := ⟨some a, .mov (.c d), none⟩
@[simp] def zf (a i b : Nat) : NOper := ⟨some a, .fad i (.t b), none⟩
@[simp] def zl (a n b : Nat) : NOper := ⟨some a, .ld n false (.t b), none⟩
@[simp] def zL (a n b : Nat) : NOper := ⟨some a, .ld n true (.t b), none⟩
@[simp] def zx (a i b : Nat) : NOper := ⟨some a, .ext i (.t b), none⟩
@[simp] def zn (a b : Nat) : NOper := ⟨some a, .len (.t b), none⟩
@[simp] def zq (a b : Nat) : NOper := ⟨some a, .asg (.t b), none⟩
@[simp] def zi (a n b c : Nat) : NOper := ⟨some a, .iadS n (.t b) (.t c), none⟩
@[simp] def zo (a b : Nat) : NOper := ⟨some a, .boxF (.t b), none⟩
@[simp] def zt (a b : Nat) : NOper := ⟨some a, .un .not (.t b), none⟩
@[simp] def zk (a g : Nat) (xs : List Opd) : NOper := ⟨some a, .call g xs [], none⟩
@[simp] def zb (a : Nat) (op : BinOp) (b c : Nat) : NOper := ⟨some a, .bin op (.t b) (.t c), none⟩
@[simp] def zd (a : Nat) (op : BinOp) (b : Nat) (d : D) : NOper := ⟨some a, .bin op (.t b) (.c d), none⟩
@[simp] def zg (c : Nat) (b : Bool) (s : NOper) : NOper := ⟨s.dst, s.op, some (c, b)⟩

/-- slices.ContainsFunc[[]int,int] -/
def N11_slices_ContainsFunc__int_int : NFun := { np := 2, nt := 9, res := [(4, none)], body :=
 (.seq (.reg false [] [0, 1] [zc 4 (.bool false)])
 (.seq (.reg false [] [4] [zq 5 0, zm 6 1, zk 7 35 [(.t 5), (.t 6)], zd 8 .geq 7 (.int .i64 0), zm 4 8])
 .ret)) }

/-- slices.IndexFunc[[]int,int] -/
def N35_slices_IndexFunc__int_int : NFun := { np := 2, nt := 19, res := [(4, none)], body :=
 (.seq (.reg false [] [0, 1] [zc 4 (.int .i64 0)])
 (.seq (.seq (.reg false [] [0, 1, 7, 8] [zm 6 0, zn 7 6, zc 8 (.int .i64 0)])
 (.block 0 (.loop (.seq (.reg false [] [0, 1, 7, 8, 9] [zb 9 .lss 8 7])
 (.seq (.cond (.t 9) .skip
 (.exit 0))
 (.seq (.block 1 (.seq (.reg false [] [0, 1, 5, 7, 8] [zm 10 8, zm 5 10])
 (.seq (.reg false [] [0, 1, 5, 7, 8, 16] [zm 11 1, zm 12 0, zm 13 5, zi 14 1 12 13, zl 15 1 14, ⟨some 16, .callv (.t 11) [(.t 15)], none⟩])
 (.cond (.t 16) (.seq (.reg false [] [4] [zm 17 5, zm 4 17])
 .ret)
 .skip))))
 (.reg false [] [0, 1, 7, 8] [zd 18 .add 8 (.int .i64 1), zm 8 18])))))))
 (.seq (.reg false [] [4] [⟨some 4, .mov (.c (.int .i64 (-1))), none⟩])
 .ret))) }

/-- math/bits.Mul64 -/
def N91_math_bits_Mul64 : NFun := { np := 2, nt := 51, res := [(4, none), (5, none)], body :=
 (.seq (.reg false [] [0, 1] [zc 4 (.int .u64 0), zc 5 (.int .u64 0)])
 (.seq (.reg false [] [0, 1, 6] [zm 14 0, zd 15 .and 14 (.int .u64 4294967295), zm 6 15])
 (.seq (.reg false [] [0, 1, 6, 7] [zm 16 0, zd 17 .shr 16 (.int .u64 32), zm 7 17])
 (.seq (.reg false [] [0, 1, 6, 7, 8] [zm 18 1, zd 19 .and 18 (.int .u64 4294967295), zm 8 19])
 (.seq (.reg false [] [0, 1, 6, 7, 8, 9] [zm 20 1, zd 21 .shr 20 (.int .u64 32), zm 9 21])
 (.seq (.reg false [] [0, 1, 6, 7, 8, 9, 10] [zm 22 6, zm 23 8, zb 24 .mul 22 23, zm 10 24])
 (.seq (.reg false [] [0, 1, 6, 7, 9, 11] [zm 25 7, zm 26 8, zb 27 .mul 25 26, zm 28 10, zd 29 .shr 28 (.int .u64 32), zb 30 .add 27 29, zm 11 30])
 (.seq (.reg false [] [0, 1, 6, 7, 9, 11, 12] [zm 31 11, zd 32 .and 31 (.int .u64 4294967295), zm 12 32])
 (.seq (.reg false [] [0, 1, 6, 7, 9, 12, 13] [zm 33 11, zd 34 .shr 33 (.int .u64 32), zm 13 34])
 (.seq (.reg false [] [0, 1, 7, 9, 12, 13] [zm 35 12, zm 36 6, zm 37 9, zb 38 .mul 36 37, zb 39 .add 35 38, zm 12 39])
 (.seq (.reg false [] [0, 1, 4] [zm 40 7, zm 41 9, zb 42 .mul 40 41, zm 43 13, zb 44 .add 42 43, zm 45 12, zd 46 .shr 45 (.int .u64 32), zb 47 .add 44 46, zm 4 47])
 (.seq (.reg false [] [4, 5] [zm 48 0, zm 49 1, zb 50 .mul 48 49, zm 5 50])
 .ret)))))))))))) }

/-- math/bits.Div64 -/
def N92_math_bits_Div64 : NFun := { np := 3, nt := 135, res := [(6, none), (7, none)], body :=
 (.seq (.reg false [] [0, 1, 2] [zc 6 (.int .u64 0), zc 7 (.int .u64 0)])
 (.seq (.seq (.reg false [] [0, 1, 2, 20] [zm 19 2, zd 20 .eql 19 (.int .u64 0)])
 (.cond (.t 20) (.reg false [] [0, 1, 2] [⟨some 21, .dead, none⟩, ⟨none, .dead, none⟩])
 .skip))
 (.seq (.seq (.reg false [] [0, 1, 2, 24] [zm 22 2, zm 23 0, zb 24 .leq 22 23])
 (.cond (.t 24) (.reg false [] [0, 1, 2] [⟨some 25, .dead, none⟩, ⟨none, .dead, none⟩])
 .skip))
 (.seq (.seq (.reg false [] [0, 1, 2, 27] [zm 26 0, zd 27 .eql 26 (.int .u64 0)])
 (.cond (.t 27) (.seq (.reg true [0, 0, 3, 0, 0, 24, 7, 127] [6, 7] [zm 28 1, zm 29 2, zb 30 .quo 28 29, zm 31 1, zm 32 2, zb 33 .rem 31 32, zm 6 30, zm 7 33])
 .ret)
 .skip))
 (.seq (.reg false [] [0, 1, 2, 8] [zm 34 2, zk 35 102 [(.t 34)], ⟨some 36, .conv .u64 (.t 35), none⟩, zm 8 36])
 (.seq (.reg false [] [0, 1, 2, 8] [zm 37 2, zm 38 8, zb 39 .shl 37 38, zm 2 39])
 (.seq (.reg false [] [0, 1, 2, 8, 9] [zm 40 2, zd 41 .shr 40 (.int .u64 32), zm 9 41])
 (.seq (.reg false [] [0, 1, 2, 8, 9, 10] [zm 42 2, zd 43 .and 42 (.int .u64 4294967295), zm 10 43])
 (.seq (.reg false [] [1, 2, 8, 9, 10, 11] [zm 44 0, zm 45 8, zb 46 .shl 44 45, zm 47 1, zm 48 8, ⟨some 49, .bin .sub (.c (.int .u64 64)) (.t 48), none⟩, zb 50 .shr 47 49, zb 51 .or 46 50, zm 11 51])
 (.seq (.reg false [] [2, 8, 9, 10, 11, 12] [zm 52 1, zm 53 8, zb 54 .shl 52 53, zm 12 54])
 (.seq (.reg false [] [2, 8, 9, 10, 11, 12, 13] [zm 55 12, zd 56 .shr 55 (.int .u64 32), zm 13 56])
 (.seq (.reg false [] [2, 8, 9, 10, 11, 13, 14] [zm 57 12, zd 58 .and 57 (.int .u64 4294967295), zm 14 58])
 (.seq (.reg false [] [2, 8, 9, 10, 11, 13, 14, 15] [zm 59 11, zm 60 9, zb 61 .quo 59 60, zm 15 61])
 (.seq (.reg false [] [2, 8, 9, 10, 11, 13, 14, 15, 16] [zm 62 11, zm 63 15, zm 64 9, zb 65 .mul 63 64, zb 66 .sub 62 65, zm 16 66])
 (.seq (.block 0 (.loop (.seq (.seq (.reg false [] [2, 8, 9, 10, 11, 13, 14, 15, 16, 78] [zm 67 15, zd 68 .geq 67 (.int .u64 4294967296), zm 69 68, zg 69 false (zm 70 15), zg 69 false (zm 71 10), zg 69 false (zb 72 .mul 70 71), zg 69 false (zm 73 16), zg 69 false (⟨some 74, .bin .mul (.c (.int .u64 4294967296)) (.t 73), none⟩), zg 69 false (zm 75 13), zg 69 false (zb 76 .add 74 75), zg 69 false (zb 77 .gtr 72 76), ⟨some 78, .pick (.t 69) (.c (.bool true)) (.t 77), none⟩])
 (.cond (.t 78) .skip
 (.exit 0)))
 (.block 1 (.seq (.reg false [] [2, 8, 9, 10, 11, 13, 14, 15, 16] [zm 79 15, zd 80 .sub 79 (.int .u64 1), zm 15 80])
 (.seq (.reg false [] [2, 8, 9, 10, 11, 13, 14, 15, 16] [zm 81 16, zm 82 9, zb 83 .add 81 82, zm 16 83])
 (.seq (.reg false [] [2, 8, 9, 10, 11, 13, 14, 15, 16, 85] [zm 84 16, zd 85 .geq 84 (.int .u64 4294967296)])
 (.cond (.t 85) (.exit 0)
 .skip))))))))
 (.seq (.reg false [] [2, 8, 9, 10, 14, 15, 17] [zm 86 11, zd 87 .mul 86 (.int .u64 4294967296), zm 88 13, zb 89 .add 87 88, zm 90 15, zm 91 2, zb 92 .mul 90 91, zb 93 .sub 89 92, zm 17 93])
 (.seq (.reg false [] [2, 8, 9, 10, 14, 15, 17, 18] [zm 94 17, zm 95 9, zb 96 .quo 94 95, zm 18 96])
 (.seq (.reg false [] [2, 8, 9, 10, 14, 15, 16, 17, 18] [zm 97 17, zm 98 18, zm 99 9, zb 100 .mul 98 99, zb 101 .sub 97 100, zm 16 101])
 (.seq (.block 2 (.loop (.seq (.seq (.reg false [] [2, 8, 9, 10, 14, 15, 16, 17, 18, 113] [zm 102 18, zd 103 .geq 102 (.int .u64 4294967296), zm 104 103, zg 104 false (zm 105 18), zg 104 false (zm 106 10), zg 104 false (zb 107 .mul 105 106), zg 104 false (zm 108 16), zg 104 false (⟨some 109, .bin .mul (.c (.int .u64 4294967296)) (.t 108), none⟩), zg 104 false (zm 110 14), zg 104 false (zb 111 .add 109 110), zg 104 false (zb 112 .gtr 107 111), ⟨some 113, .pick (.t 104) (.c (.bool true)) (.t 112), none⟩])
 (.cond (.t 113) .skip
 (.exit 2)))
 (.block 3 (.seq (.reg false [] [2, 8, 9, 10, 14, 15, 16, 17, 18] [zm 114 18, zd 115 .sub 114 (.int .u64 1), zm 18 115])
 (.seq (.reg false [] [2, 8, 9, 10, 14, 15, 16, 17, 18] [zm 116 16, zm 117 9, zb 118 .add 116 117, zm 16 118])
 (.seq (.reg false [] [2, 8, 9, 10, 14, 15, 16, 17, 18, 120] [zm 119 16, zd 120 .geq 119 (.int .u64 4294967296)])
 (.cond (.t 120) (.exit 2)
 .skip))))))))
 (.seq (.reg false [] [6, 7] [zm 121 15, zd 122 .mul 121 (.int .u64 4294967296), zm 123 18, zb 124 .add 122 123, zm 125 17, zd 126 .mul 125 (.int .u64 4294967296), zm 127 14, zb 128 .add 126 127, zm 129 18, zm 130 2, zb 131 .mul 129 130, zb 132 .sub 128 131, zm 133 8, zb 134 .shr 132 133, zm 6 124, zm 7 134])
 .ret)))))))))))))))))))) }

/-- sewershed/wide.Product -/
def N99_wide_Product : NFun := { np := 2, nt := 12, res := [(4, some (2, true)), (5, none)], body :=
 (.seq (.reg false [] [0, 1, 4] [⟨some 4, .alc [.int .i64 0, .int .i64 0], none⟩, zc 5 (.int .i64 0)])
 (.seq (.reg false [] [4, 5] [zm 6 0, zm 7 1, zk 8 103 [(.t 6), (.t 7)], zk 9 105 [(.t 8)], zx 10 0 9, zx 11 1 9, ⟨none, .st 2 [] (.t 4) (.t 10), none⟩, zm 5 11])
 .ret)) }

/-- sewershed/wide.Int -/
def N101_wide_Int : NFun := { np := 1, nt := 20, res := [(2, none), (3, none)], body :=
 (.seq (.reg false [] [1] [zo 1 0, zc 2 (.int .i64 0), zc 3 (.int .i64 0)])
 (.seq (.seq (.reg false [] [1, 7] [zL 5 2 1, zk 6 106 [(.t 5)], zt 7 6])
 (.cond (.t 7) (.seq (.reg false [] [2, 3] [zc 2 (.int .i64 0), zc 3 (.int .i64 1)])
 .ret)
 .skip))
 (.seq (.reg false [] [4] [zL 8 2 1, zk 9 108 [(.t 8)], ⟨some 4, .alc [.int .u64 0, .int .u64 0, .bool false], none⟩, ⟨none, .st 3 [] (.t 4) (.t 9), none⟩])
 (.seq (.seq (.reg false [] [4, 12] [zf 10 0 4, zl 11 1 10, zd 12 .gtr 11 (.int .u64 0)])
 (.cond (.t 12) (.seq (.reg false [] [2, 3] [zc 2 (.int .i64 0), zc 3 (.int .i64 5)])
 .ret)
 .skip))
 (.seq (.reg false [] [2, 3] [zf 13 1 4, zl 14 1 13, zf 15 2 4, zl 16 1 15, zk 17 110 [(.t 14), (.t 16)], zx 18 0 17, zx 19 1 17, zm 2 18, zm 3 19])
 .ret))))) }

/-- math/bits.LeadingZeros64 -/
def N102_math_bits_LeadingZeros64 : NFun := { np := 1, nt := 6, res := [(2, none)], body :=
 (.seq (.reg false [] [0] [zc 2 (.int .i64 0)])
 (.seq (.reg false [] [2] [zm 3 0, zk 4 111 [(.t 3)], ⟨some 5, .bin .sub (.c (.int .i64 64)) (.t 4), none⟩, zm 2 5])
 .ret)) }

/-- sewershed/wide.times -/
def N103_wide_times : NFun := { np := 2, nt := 23, res := [(4, some (3, true))], body :=
 (.seq (.reg false [] [0, 1, 4] [⟨some 4, .alc [.int .u64 0, .int .u64 0, .bool false], none⟩])
 (.seq (.reg false [] [0, 1, 4, 5, 6] [zm 8 0, zk 9 112 [(.t 8)], zm 10 1, zk 11 112 [(.t 10)], zk 12 91 [(.t 9), (.t 11)], zm 7 12, zx 13 0 7, zx 14 1 7, zm 5 13, zm 6 14])
 (.seq (.reg false [] [4] [zm 15 5, zm 16 6, zm 17 0, zd 18 .lss 17 (.int .i64 0), zm 19 1, zd 20 .lss 19 (.int .i64 0), ⟨some 21, .beq true [] (.t 18) (.t 20), none⟩, zk 22 113 [(.t 15), (.t 16), (.t 21)], ⟨none, .st 3 [] (.t 4) (.t 22), none⟩])
 .ret))) }

/-- sewershed/wide.quotient -/
def N104_wide_quotient : NFun := { np := 3, nt := 52, res := [(6, none), (7, none)], body :=
 (.seq (.reg false [] [1, 2, 3] [zo 3 0, zc 6 (.int .i64 0), zc 7 (.int .i64 0)])
 (.seq (.reg false [] [1, 2, 3, 8] [zm 12 1, zk 13 112 [(.t 12)], zm 8 13])
 (.seq (.seq (.reg false [] [1, 2, 3, 8, 17] [zf 14 0 3, zl 15 1 14, zm 16 8, zb 17 .geq 15 16])
 (.cond (.t 17) (.seq (.reg false [] [6, 7] [zc 6 (.int .i64 0), zc 7 (.int .i64 5)])
 .ret)
 .skip))
 (.seq (.reg false [] [1, 2, 3, 9, 10] [zf 19 0 3, zl 20 1 19, zf 21 1 3, zl 22 1 21, zm 23 8, zk 24 92 [(.t 20), (.t 22), (.t 23)], zm 18 24, zx 25 0 18, zx 26 1 18, zm 9 25, zm 10 26])
 (.seq (.reg false [] [2, 9, 10, 11] [zf 27 2 3, zl 28 1 27, zm 29 1, zd 30 .lss 29 (.int .i64 0), ⟨some 31, .beq true [] (.t 28) (.t 30), none⟩, zm 11 31])
 (.seq (.seq (.reg false [] [9, 11, 38] [zm 32 10, zd 33 .gtr 32 (.int .u64 0), zm 34 33, zg 34 true (zm 35 11), zg 34 true (zm 36 2), zg 34 true (⟨some 37, .beq true [] (.t 35) (.t 36), none⟩), ⟨some 38, .pick (.t 34) (.t 37) (.c (.bool false)), none⟩])
 (.cond (.t 38) (.seq (.reg false [] [9, 11] [zm 39 9, zd 40 .add 39 (.int .u64 1), zm 9 40])
 (.seq (.reg false [] [9, 11, 42] [zm 41 9, zd 42 .eql 41 (.int .u64 0)])
 (.cond (.t 42) (.seq (.reg false [] [6, 7] [zc 6 (.int .i64 0), zc 7 (.int .i64 5)])
 .ret)
 .skip)))
 .skip))
 (.seq (.reg false [] [6, 7] [zm 43 9, zm 44 11, zm 45 44, zg 45 true (zm 46 9), zg 45 true (zd 47 .gtr 46 (.int .u64 0)), ⟨some 48, .pick (.t 45) (.t 47) (.c (.bool false)), none⟩, zk 49 110 [(.t 43), (.t 48)], zx 50 0 49, zx 51 1 49, zm 6 50, zm 7 51])
 .ret))))))) }

/-- sewershed/wide.placed -/
def N105_wide_placed : NFun := { np := 1, nt := 56, res := [(2, some (2, true)), (3, none)], body :=
 (.seq (.reg false [] [1, 2] [zo 1 0, ⟨some 2, .alc [.int .i64 0, .int .i64 0], none⟩, zc 3 (.int .i64 0)])
 (.seq (.seq (.reg false [] [1, 2, 23] [zf 6 0 1, zl 7 1 6, zd 8 .gtr 7 (.int .u64 72057594037927936), zm 9 8, zg 9 false (zf 10 0 1), zg 9 false (zl 11 1 10), zg 9 false (zd 12 .eql 11 (.int .u64 72057594037927936)), zg 9 false (zm 13 12), zg 13 true (zf 14 1 1), zg 13 true (zl 15 1 14), zg 13 true (zd 16 .gtr 15 (.int .u64 0)), zg 13 true (zm 17 16), zg 17 false (zf 18 2 1), zg 17 false (zl 19 1 18), zg 17 false (zt 20 19), zg 13 true (⟨some 21, .pick (.t 17) (.c (.bool true)) (.t 20), none⟩), zg 9 false (⟨some 22, .pick (.t 13) (.t 21) (.c (.bool false)), none⟩), ⟨some 23, .pick (.t 9) (.c (.bool true)) (.t 22), none⟩])
 (.cond (.t 23) (.seq (.reg false [] [2, 3] [⟨some 24, .bld [.int .i64 0, .int .i64 0] [], none⟩, ⟨none, .st 2 [] (.t 2) (.t 24), none⟩, zc 3 (.int .i64 5)])
 .ret)
 .skip))
 (.seq (.reg true [0, 1, 3, 0, 8, 24, 63, 127, 0, 256, 768, 1792, 255, 8191] [1, 2, 4, 5] [zf 25 0 1, zl 26 1 25, zd 27 .shl 26 (.int .u64 4), zf 28 1 1, zl 29 1 28, zd 30 .shr 29 (.int .u64 60), zb 31 .or 27 30, ⟨some 32, .conv .i64 (.t 31), none⟩, zf 33 1 1, zl 34 1 33, zd 35 .and 34 (.int .u64 1152921504606846975), ⟨some 36, .conv .i64 (.t 35), none⟩, zm 4 32, zm 5 36])
 (.seq (.block 0 (.seq (.reg false [] [2, 4, 5, 37] [zf 38 2 1, zl 39 1 38, zt 40 39, zm 37 40])
 (.cond (.t 37) (.seq (.reg false [] [2, 3] [zm 41 4, zm 42 5, ⟨some 43, .bld [.int .i64 0, .int .i64 0] [(0, 1, (.t 41)), (1, 1, (.t 42))], none⟩, ⟨none, .st 2 [] (.t 2) (.t 43), none⟩, zc 3 (.int .i64 0)])
 .ret)
 (.seq (.reg false [] [2, 4, 5, 44] [zm 45 5, zd 46 .eql 45 (.int .i64 0), zm 44 46])
 (.cond (.t 44) (.seq (.reg false [] [2, 3] [zm 47 4, ⟨some 48, .un .neg (.t 47), none⟩, ⟨some 49, .bld [.int .i64 0, .int .i64 0] [(0, 1, (.t 48))], none⟩, ⟨none, .st 2 [] (.t 2) (.t 49), none⟩, zc 3 (.int .i64 0)])
 .ret)
 .skip)))))
 (.seq (.reg false [] [2, 3] [zm 50 4, ⟨some 51, .un .neg (.t 50), none⟩, zd 52 .sub 51 (.int .i64 1), zm 53 5, ⟨some 54, .bin .sub (.c (.int .i64 1152921504606846976)) (.t 53), none⟩, ⟨some 55, .bld [.int .i64 0, .int .i64 0] [(0, 1, (.t 52)), (1, 1, (.t 54))], none⟩, ⟨none, .st 2 [] (.t 2) (.t 55), none⟩, zc 3 (.int .i64 0)])
 .ret))))) }

/-- sewershed/wide.Valid -/
def N106_wide_Valid : NFun := { np := 1, nt := 21, res := [(2, none)], body :=
 (.seq (.reg false [] [1] [zo 1 0, zc 2 (.bool false)])
 (.seq (.reg false [] [2] [zf 3 0 1, zl 4 1 3, ⟨some 5, .bin .geq (.t 4) (.c (.int .i64 (-1152921504606846976))), none⟩, zm 6 5, zg 6 true (zf 7 0 1), zg 6 true (zl 8 1 7), zg 6 true (zd 9 .lss 8 (.int .i64 1152921504606846976)), ⟨some 10, .pick (.t 6) (.t 9) (.c (.bool false)), none⟩, zm 11 10, zg 11 true (zf 12 1 1), zg 11 true (zl 13 1 12), zg 11 true (zd 14 .geq 13 (.int .i64 0)), ⟨some 15, .pick (.t 11) (.t 14) (.c (.bool false)), none⟩, zm 16 15, zg 16 true (zf 17 1 1), zg 16 true (zl 18 1 17), zg 16 true (zd 19 .lss 18 (.int .i64 1152921504606846976)), ⟨some 20, .pick (.t 16) (.t 19) (.c (.bool false)), none⟩, zm 2 20])
 .ret)) }

/-- sewershed/wide.sum -/
def N107_wide_sum : NFun := { np := 2, nt := 73, res := [(4, some (3, true))], body :=
 (.seq (.reg false [] [2, 3, 4] [⟨some 2, .box [] (.t 0), none⟩, ⟨some 3, .box [] (.t 1), none⟩, ⟨some 4, .alc [.int .u64 0, .int .u64 0, .bool false], none⟩])
 (.seq (.seq (.reg false [] [2, 3, 4, 13] [zf 9 2 2, zl 10 1 9, zf 11 2 3, zl 12 1 11, ⟨some 13, .beq false [] (.t 10) (.t 12), none⟩])
 (.cond (.t 13) (.seq (.reg false [] [2, 3, 4, 5, 6] [zf 15 1 2, zl 16 1 15, zf 17 1 3, zl 18 1 17, ⟨some 19, .add64 (.t 16) (.t 18) (.c (.int .u64 0)), none⟩, zm 14 19, zx 20 0 14, zx 21 1 14, zm 5 20, zm 6 21])
 (.seq (.reg false [] [4] [zf 22 0 2, zl 23 1 22, zf 24 0 3, zl 25 1 24, zb 26 .add 23 25, zm 27 6, zb 28 .add 26 27, zm 29 5, zf 30 2 2, zl 31 1 30, zk 32 113 [(.t 28), (.t 29), (.t 31)], ⟨none, .st 3 [] (.t 4) (.t 32), none⟩])
 .ret))
 .skip))
 (.seq (.seq (.reg false [] [2, 3, 4, 51] [zf 33 0 2, zl 34 1 33, zf 35 0 3, zl 36 1 35, zb 37 .lss 34 36, zm 38 37, zg 38 false (zf 39 0 2), zg 38 false (zl 40 1 39), zg 38 false (zf 41 0 3), zg 38 false (zl 42 1 41), zg 38 false (zb 43 .eql 40 42), zg 38 false (zm 44 43), zg 44 true (zf 45 1 2), zg 44 true (zl 46 1 45), zg 44 true (zf 47 1 3), zg 44 true (zl 48 1 47), zg 44 true (zb 49 .lss 46 48), zg 38 false (⟨some 50, .pick (.t 44) (.t 49) (.c (.bool false)), none⟩), ⟨some 51, .pick (.t 38) (.c (.bool true)) (.t 50), none⟩])
 (.cond (.t 51) (.reg false [] [2, 3, 4] [zL 52 3 3, zL 53 3 2, ⟨none, .st 3 [] (.t 2) (.t 52), none⟩, ⟨none, .st 3 [] (.t 3) (.t 53), none⟩])
 .skip))
 (.seq (.reg false [] [2, 3, 4, 7, 8] [zf 55 1 2, zl 56 1 55, zf 57 1 3, zl 58 1 57, ⟨some 59, .sub64 (.t 56) (.t 58) (.c (.int .u64 0)), none⟩, zm 54 59, zx 60 0 54, zx 61 1 54, zm 7 60, zm 8 61])
 (.seq (.reg false [] [4] [zf 62 0 2, zl 63 1 62, zf 64 0 3, zl 65 1 64, zb 66 .sub 63 65, zm 67 8, zb 68 .sub 66 67, zm 69 7, zf 70 2 2, zl 71 1 70, zk 72 113 [(.t 68), (.t 69), (.t 71)], ⟨none, .st 3 [] (.t 4) (.t 72), none⟩])
 .ret))))) }

/-- sewershed/wide.value -/
def N108_wide_value : NFun := { np := 1, nt := 37, res := [(2, some (3, true))], body :=
 (.seq (.reg false [] [1, 2] [zo 1 0, ⟨some 2, .alc [.int .u64 0, .int .u64 0, .bool false], none⟩])
 (.seq (.reg false [] [1, 2, 3] [zf 7 0 1, zl 8 1 7, zk 9 112 [(.t 8)], zm 3 9])
 (.seq (.reg false [] [1, 2, 4, 5] [zm 10 3, zd 11 .shr 10 (.int .u64 4), zm 12 3, zd 13 .shl 12 (.int .u64 60), zm 4 11, zm 5 13])
 (.seq (.seq (.reg false [] [1, 2, 4, 5, 16] [zf 14 0 1, zl 15 1 14, zd 16 .geq 15 (.int .i64 0)])
 (.cond (.t 16) (.seq (.reg false [] [2] [zm 17 4, zm 18 5, zf 19 1 1, zl 20 1 19, ⟨some 21, .conv .u64 (.t 20), none⟩, zb 22 .or 18 21, ⟨some 23, .bld [.int .u64 0, .int .u64 0, .bool false] [(0, 1, (.t 17)), (1, 1, (.t 22)), (2, 1, (.c (.bool false)))], none⟩, ⟨none, .st 3 [] (.t 2) (.t 23), none⟩])
 .ret)
 .skip))
 (.seq (.reg false [] [2, 4, 5, 6] [zm 25 5, zf 26 1 1, zl 27 1 26, ⟨some 28, .conv .u64 (.t 27), none⟩, ⟨some 29, .sub64 (.t 25) (.t 28) (.c (.int .u64 0)), none⟩, zm 24 29, zx 30 0 24, zx 31 1 24, zm 5 30, zm 6 31])
 (.seq (.reg false [] [2] [zm 32 4, zm 33 6, zb 34 .sub 32 33, zm 35 5, ⟨some 36, .bld [.int .u64 0, .int .u64 0, .bool false] [(0, 1, (.t 34)), (1, 1, (.t 35)), (2, 1, (.c (.bool true)))], none⟩, ⟨none, .st 3 [] (.t 2) (.t 36), none⟩])
 .ret)))))) }

/-- sewershed/wide.whole -/
def N110_wide_whole : NFun := { np := 2, nt := 24, res := [(4, none), (5, none)], body :=
 (.seq (.reg false [] [0, 1] [zc 4 (.int .i64 0), zc 5 (.int .i64 0)])
 (.seq (.block 0 (.seq (.reg false [] [0, 1, 6] [zm 7 1, zt 8 7, zm 9 8, zg 9 true (zm 10 0), zg 9 true (zd 11 .leq 10 (.int .u64 9223372036854775807)), ⟨some 12, .pick (.t 9) (.t 11) (.c (.bool false)), none⟩, zm 6 12])
 (.cond (.t 6) (.seq (.reg false [] [4, 5] [zm 13 0, ⟨some 14, .conv .i64 (.t 13), none⟩, zm 4 14, zc 5 (.int .i64 0)])
 .ret)
 (.seq (.reg false [] [0, 15] [zm 16 1, zm 17 16, zg 17 true (zm 18 0), zg 17 true (zd 19 .leq 18 (.int .u64 9223372036854775808)), ⟨some 20, .pick (.t 17) (.t 19) (.c (.bool false)), none⟩, zm 15 20])
 (.cond (.t 15) (.seq (.reg false [] [4, 5] [zm 21 0, ⟨some 22, .un .neg (.t 21), none⟩, ⟨some 23, .conv .i64 (.t 22), none⟩, zm 4 23, zc 5 (.int .i64 0)])
 .ret)
 .skip)))))
 (.seq (.reg false [] [4, 5] [zc 4 (.int .i64 0), zc 5 (.int .i64 5)])
 .ret))) }

def S1 : List UInt8 := [0, 1, 2, 2, 3, 3, 3, 3, 4, 4, 4, 4, 4, 4, 4, 4, 5, 5, 5, 5, 5, 5, 5, 5, 5, 5, 5, 5, 5, 5, 5, 5, 6, 6, 6, 6, 6, 6, 6, 6, 6, 6, 6, 6, 6, 6, 6, 6, 6, 6, 6, 6, 6, 6, 6, 6, 6, 6, 6, 6, 6, 6, 6, 6, 7, 7, 7, 7, 7, 7, 7, 7, 7, 7, 7, 7, 7, 7, 7, 7, 7, 7, 7, 7, 7, 7, 7, 7, 7, 7, 7, 7, 7, 7, 7, 7, 7, 7, 7, 7, 7, 7, 7, 7, 7, 7, 7, 7, 7, 7, 7, 7, 7, 7, 7, 7, 7, 7, 7, 7, 7, 7, 7, 7, 7, 7, 7, 7, 8, 8, 8, 8, 8, 8, 8, 8, 8, 8, 8, 8, 8, 8, 8, 8, 8, 8, 8, 8, 8, 8, 8, 8, 8, 8, 8, 8, 8, 8, 8, 8, 8, 8, 8, 8, 8, 8, 8, 8, 8, 8, 8, 8, 8, 8, 8, 8, 8, 8, 8, 8, 8, 8, 8, 8, 8, 8, 8, 8, 8, 8, 8, 8, 8, 8, 8, 8, 8, 8, 8, 8, 8, 8, 8, 8, 8, 8, 8, 8, 8, 8, 8, 8, 8, 8, 8, 8, 8, 8, 8, 8, 8, 8, 8, 8, 8, 8, 8, 8, 8, 8, 8, 8, 8, 8, 8, 8, 8, 8, 8, 8, 8, 8, 8, 8, 8, 8, 8, 8, 8, 8, 8, 8, 8, 8, 8, 8]

/-- math/bits.Len64 -/
def N111_math_bits_Len64 : NFun := { np := 1, nt := 25, res := [(2, none)], body :=
 (.seq (.reg false [] [0, 2] [zc 2 (.int .i64 0)])
 (.seq (.seq (.reg false [] [0, 2, 4] [zm 3 0, zd 4 .geq 3 (.int .u64 4294967296)])
 (.cond (.t 4) (.seq (.reg false [] [0] [zm 5 0, zd 6 .shr 5 (.int .u64 32), zm 0 6])
 (.reg false [] [0, 2] [zc 2 (.int .i64 32)]))
 .skip))
 (.seq (.seq (.reg false [] [0, 2, 8] [zm 7 0, zd 8 .geq 7 (.int .u64 65536)])
 (.cond (.t 8) (.seq (.reg false [] [0, 2] [zm 9 0, zd 10 .shr 9 (.int .u64 16), zm 0 10])
 (.reg false [] [0, 2] [zm 11 2, zd 12 .add 11 (.int .i64 16), zm 2 12]))
 .skip))
 (.seq (.seq (.reg false [] [0, 2, 14] [zm 13 0, zd 14 .geq 13 (.int .u64 256)])
 (.cond (.t 14) (.seq (.reg false [] [0, 2] [zm 15 0, zd 16 .shr 15 (.int .u64 8), zm 0 16])
 (.reg false [] [0, 2] [zm 17 2, zd 18 .add 17 (.int .i64 8), zm 2 18]))
 .skip))
 (.seq (.reg false [] [2] [zm 19 2, zm 20 0, ⟨some 21, .conv .u8 (.t 20), none⟩, ⟨some 22, .idxS (.c (.str S1)) (.t 21), none⟩, ⟨some 23, .conv .i64 (.t 22), none⟩, zb 24 .add 19 23, zm 2 24])
 .ret))))) }

/-- sewershed/wide.size -/
def N112_wide_size : NFun := { np := 1, nt := 10, res := [(2, none)], body :=
 (.seq (.reg false [] [0] [zc 2 (.int .u64 0)])
 (.seq (.seq (.reg false [] [0, 4] [zm 3 0, zd 4 .lss 3 (.int .i64 0)])
 (.cond (.t 4) (.seq (.reg false [] [2] [zm 5 0, ⟨some 6, .conv .u64 (.t 5), none⟩, ⟨some 7, .un .neg (.t 6), none⟩, zm 2 7])
 .ret)
 .skip))
 (.seq (.reg false [] [2] [zm 8 0, ⟨some 9, .conv .u64 (.t 8), none⟩, zm 2 9])
 .ret))) }

/-- sewershed/wide.signed -/
def N113_wide_signed : NFun := { np := 3, nt := 19, res := [(6, some (3, true))], body :=
 (.seq (.reg false [] [0, 1, 2, 6] [⟨some 6, .alc [.int .u64 0, .int .u64 0, .bool false], none⟩])
 (.seq (.reg false [] [6] [zm 7 0, zm 8 1, zm 9 2, zm 10 9, zg 10 true (zm 11 0), zg 10 true (zd 12 .neq 11 (.int .u64 0)), zg 10 true (zm 13 12), zg 13 false (zm 14 1), zg 13 false (zd 15 .neq 14 (.int .u64 0)), zg 10 true (⟨some 16, .pick (.t 13) (.c (.bool true)) (.t 15), none⟩), ⟨some 17, .pick (.t 10) (.t 16) (.c (.bool false)), none⟩, ⟨some 18, .bld [.int .u64 0, .int .u64 0, .bool false] [(0, 1, (.t 7)), (1, 1, (.t 8)), (2, 1, (.t 17))], none⟩, ⟨none, .st 3 [] (.t 6) (.t 18), none⟩])
 .ret)) }

/-- sewershed/sewershedlaw13.LocatePlane -/
def N206_law13_LocatePlane : NFun := { np := 5, nt := 110, res := [(10, none)], body :=
 (.seq (.reg false [] [1, 2, 3, 5, 9] [zo 5 0, zo 9 4, zc 10 (.bool false)])
 (.seq (.seq (.reg false [] [1, 2, 3, 5, 9, 21] [zk 20 227 [], zt 21 20])
 (.cond (.t 21) (.seq (.reg false [] [10] [zc 10 (.bool false)])
 .ret)
 .skip))
 (.seq (.reg false [] [1, 2, 3, 5, 9, 11] [⟨some 11, .alc [.any], none⟩, ⟨none, .st 1 [] (.t 11) (.c (.fn 228 [])), none⟩])
 (.seq (.seq (.reg false [] [1, 2, 3, 5, 9, 38] [zL 22 2 5, zk 23 229 [(.t 22)], zt 24 23, zm 25 24, zg 25 false (zl 26 1 11), zg 25 false (zf 27 0 9), zg 25 false (zl 28 1 27), zg 25 false (zf 29 1 9), zg 25 false (zl 30 1 29), zg 25 false (⟨some 31, .callv (.t 26) [(.t 28), (.t 30)], none⟩), ⟨some 32, .pick (.t 25) (.c (.bool true)) (.t 31), none⟩, zm 33 32, zg 33 false (zf 34 0 5), zg 33 false (zl 35 1 34), zg 33 false (⟨some 36, .mk 231 [(.t 11)], none⟩), zg 33 false (zk 37 230 [(.t 35), (.t 36)]), ⟨some 38, .pick (.t 33) (.c (.bool true)) (.t 37), none⟩])
 (.cond (.t 38) (.seq (.reg false [] [10] [zc 10 (.bool true)])
 .ret)
 .skip))
 (.seq (.reg false [] [1, 2, 3, 9, 12] [zL 39 2 5, ⟨some 40, .callA 232 [(.t 39)], none⟩, ⟨some 12, .alc [.own 3 [], .own 4 []], none⟩, ⟨none, .st 2 [] (.t 12) (.t 40), none⟩])
 (.seq (.reg false [] [3, 9, 12, 13, 14] [zm 41 1, ⟨some 42, .conv .i64 (.t 41), none⟩, zd 43 .rem 42 (.int .i64 2), zm 44 2, ⟨some 45, .conv .i64 (.t 44), none⟩, zd 46 .rem 45 (.int .i64 2), zm 13 43, zm 14 46])
 (.seq (.seq (.reg false [] [3, 9, 12, 13, 14, 48, 49, 50] [zf 47 0 12, zl 48 1 47, zn 49 48, zc 50 (.int .i64 0)])
 (.block 0 (.loop (.seq (.reg false [] [3, 9, 12, 13, 14, 48, 49, 50, 51] [zb 51 .lss 50 49])
 (.seq (.cond (.t 51) .skip
 (.exit 0))
 (.seq (.block 1 (.seq (.reg false [] [3, 9, 12, 13, 14, 15, 16, 48, 49, 50] [zm 52 50, zi 53 3 48 50, zL 54 3 53, ⟨some 16, .alc [.int .i64 0, .int .i64 0, .int .i64 0], none⟩, zm 15 52, ⟨none, .st 3 [] (.t 16) (.t 54), none⟩])
 (.reg false [] [3, 9, 12, 13, 14, 48, 49, 50] [zf 55 0 12, zl 56 1 55, zm 57 15, zm 58 13, zf 59 0 16, zl 60 1 59, zb 61 .mul 58 60, zm 62 14, zf 63 1 16, zl 64 1 63, zb 65 .mul 62 64, zb 66 .add 61 65, zm 67 3, ⟨some 68, .conv .i64 (.t 67), none⟩, zb 69 .add 66 68, zi 70 3 56 57, zf 71 2 70, ⟨none, .st 1 [] (.t 71) (.t 69), none⟩])))
 (.reg false [] [3, 9, 12, 13, 14, 48, 49, 50] [zd 72 .add 50 (.int .i64 1), zm 50 72])))))))
 (.seq (.reg false [] [3, 9, 12, 13, 14, 17, 18] [zL 74 2 12, zL 75 2 9, zk 76 233 [(.t 74), (.t 75)], zm 73 76, zx 77 0 73, zx 78 1 73, ⟨some 17, .alc [.int .i64 0, .int .i64 0], none⟩, ⟨none, .st 2 [] (.t 17) (.t 77), none⟩, zm 18 78])
 (.seq (.seq (.reg false [] [3, 9, 12, 13, 14, 17, 18, 80] [zm 79 18, zd 80 .neq 79 (.int .i64 0)])
 (.cond (.t 80) (.seq (.reg false [] [10] [zL 81 2 17, ⟨some 82, .bld [.int .i64 0, .int .i64 0] [], none⟩, ⟨some 83, .beq false [0, 0] (.t 81) (.t 82), none⟩, zm 84 83, zg 84 true (zm 85 18), zg 84 true (zd 86 .eql 85 (.int .i64 12)), zg 84 true (zm 87 86), zg 87 false (zL 88 2 12), zg 87 false (zk 89 234 [(.t 88)]), zg 87 false (zt 90 89), zg 84 true (⟨some 91, .pick (.t 87) (.c (.bool true)) (.t 90), none⟩), ⟨some 92, .pick (.t 84) (.t 91) (.c (.bool false)), none⟩, zm 10 92])
 .ret)
 .skip))
 (.seq (.reg false [] [17, 19] [zm 93 13, zf 94 0 9, zl 95 1 94, zb 96 .mul 93 95, zm 97 14, zf 98 1 9, zl 99 1 98, zb 100 .mul 97 99, zb 101 .add 96 100, zm 102 3, ⟨some 103, .conv .i64 (.t 102), none⟩, zb 104 .add 101 103, zm 19 104])
 (.seq (.reg false [] [10] [zL 105 2 17, zm 106 19, zm 107 19, ⟨some 108, .bld [.int .i64 0, .int .i64 0] [(0, 1, (.t 106)), (1, 1, (.t 107))], none⟩, ⟨some 109, .beq false [0, 0] (.t 105) (.t 108), none⟩, zm 10 109])
 .ret))))))))))) }

/-- sewershed/sewershedlaw13.awake -/
def N227_law13_awake : NFun := { np := 0, nt := 57, res := [(0, none)], body :=
 (.seq (.reg false [] [] [zc 0 (.bool false)])
 (.seq (.reg false [] [1] [⟨some 9, .bld [.int .i64 0, .int .i64 0, .int .i64 0] [(2, 1, (.c (.int .i64 100)))], none⟩, ⟨some 10, .bld [.int .i64 0, .int .i64 0, .int .i64 0] [(0, 1, (.c (.int .i64 1000))), (2, 1, (.c (.int .i64 200)))], none⟩, ⟨some 11, .bld [.int .i64 0, .int .i64 0, .int .i64 0] [(1, 1, (.c (.int .i64 1000))), (2, 1, (.c (.int .i64 400)))], none⟩, ⟨some 12, .bls 3 3 [.int .i64 0, .int .i64 0, .int .i64 0] [] [(0, (.t 9)), (1, (.t 10)), (2, (.t 11))], none⟩, ⟨some 13, .bld [.int .i64 0, .int .i64 0, .int .i64 0, .int .i64 0] [(0, 1, (.c (.int .i64 0))), (1, 1, (.c (.int .i64 1))), (2, 1, (.c (.int .i64 2)))], none⟩, ⟨some 14, .bls 4 1 [.int .i64 0, .int .i64 0, .int .i64 0, .int .i64 0] [] [(0, (.t 13))], none⟩, ⟨some 15, .bld [.nils, .nils] [(0, 1, (.t 12)), (1, 1, (.t 14))], none⟩, ⟨some 1, .alc [.own 3 [], .own 4 []], none⟩, ⟨none, .st 2 [] (.t 1) (.t 15), none⟩])
 (.seq (.reg false [] [1, 2, 3, 4] [zL 17 2 1, ⟨some 18, .bld [.int .i64 0, .int .i64 0] [(0, 1, (.c (.int .i64 250))), (1, 1, (.c (.int .i64 500)))], none⟩, zk 19 269 [(.t 17), (.t 18)], zm 16 19, zx 20 0 16, zx 21 1 16, zx 22 2 16, ⟨some 2, .alc [.int .i64 0, .int .i64 0], none⟩, ⟨none, .st 2 [] (.t 2) (.t 20), none⟩, zm 3 21, zm 4 22])
 (.seq (.reg false [] [1, 3, 4, 5, 6] [zL 24 2 2, zk 25 101 [(.t 24)], zm 23 25, zx 26 0 23, zx 27 1 23, zm 5 26, zm 6 27])
 (.seq (.reg false [] [3, 4, 5, 6, 7, 8] [zL 29 2 1, ⟨some 30, .bld [.int .i64 0, .int .i64 0] [(0, 1, (.c (.int .i64 1))), (1, 1, (.c (.int .i64 1)))], none⟩, zk 31 233 [(.t 29), (.t 30)], zm 28 31, zx 32 0 28, zx 33 1 28, ⟨some 7, .alc [.int .i64 0, .int .i64 0], none⟩, ⟨none, .st 2 [] (.t 7) (.t 32), none⟩, zm 8 33])
 (.seq (.reg false [] [0] [zm 34 4, zd 35 .eql 34 (.int .i64 0), zm 36 35, zg 36 true (zm 37 6), zg 36 true (zd 38 .eql 37 (.int .i64 0)), ⟨some 39, .pick (.t 36) (.t 38) (.c (.bool false)), none⟩, zm 40 39, zg 40 true (zm 41 5), zg 40 true (zd 42 .eql 41 (.int .i64 275000000)), ⟨some 43, .pick (.t 40) (.t 42) (.c (.bool false)), none⟩, zm 44 43, zg 44 true (zm 45 3), zg 44 true (zd 46 .eql 45 (.int .i64 1000000)), ⟨some 47, .pick (.t 44) (.t 46) (.c (.bool false)), none⟩, zm 48 47, zg 48 true (zm 49 8), zg 48 true (zd 50 .eql 49 (.int .i64 0)), ⟨some 51, .pick (.t 48) (.t 50) (.c (.bool false)), none⟩, zm 52 51, zg 52 true (zL 53 2 7), zg 52 true (⟨some 54, .bld [.int .i64 0, .int .i64 0] [(0, 1, (.c (.int .i64 100))), (1, 1, (.c (.int .i64 101)))], none⟩), zg 52 true (⟨some 55, .beq false [0, 0] (.t 53) (.t 54), none⟩), ⟨some 56, .pick (.t 52) (.t 55) (.c (.bool false)), none⟩, zm 0 56])
 .ret)))))) }

/-- sewershed/sewershedlaw13.LocatePlane$1 -/
def N228_law13_LocatePlane_1 : NFun := { np := 2, nt := 19, res := [(4, none)], body :=
 (.seq (.reg false [] [0, 1] [zc 4 (.bool false)])
 (.seq (.reg false [] [4] [zm 5 0, ⟨some 6, .bin .lss (.t 5) (.c (.int .i64 (-1048576))), none⟩, zm 7 6, zg 7 false (zm 8 0), zg 7 false (zd 9 .gtr 8 (.int .i64 1048576)), ⟨some 10, .pick (.t 7) (.c (.bool true)) (.t 9), none⟩, zm 11 10, zg 11 false (zm 12 1), zg 11 false (⟨some 13, .bin .lss (.t 12) (.c (.int .i64 (-1048576))), none⟩), ⟨some 14, .pick (.t 11) (.c (.bool true)) (.t 13), none⟩, zm 15 14, zg 15 false (zm 16 1), zg 15 false (zd 17 .gtr 16 (.int .i64 1048576)), ⟨some 18, .pick (.t 15) (.c (.bool true)) (.t 17), none⟩, zm 4 18])
 .ret)) }

/-- sewershed/sewershedlaw13.few -/
def N229_law13_few : NFun := { np := 1, nt := 13, res := [(2, none)], body :=
 (.seq (.reg false [] [1] [zo 1 0, zc 2 (.bool false)])
 (.seq (.reg false [] [2] [zf 3 0 1, zl 4 1 3, zn 5 4, zd 6 .leq 5 (.int .i64 60), zm 7 6, zg 7 true (zf 8 1 1), zg 7 true (zl 9 1 8), zg 7 true (zn 10 9), zg 7 true (zd 11 .leq 10 (.int .i64 60)), ⟨some 12, .pick (.t 7) (.t 11) (.c (.bool false)), none⟩, zm 2 12])
 .ret)) }

/-- slices.ContainsFunc[[]sewershed/api.Spot,sewershed/api.Spot] -/
def N230_slices_ContainsFunc__api_Spot_api_Spot : NFun := { np := 2, nt := 9, res := [(4, none)], body :=
 (.seq (.reg false [] [0, 1] [zc 4 (.bool false)])
 (.seq (.reg false [] [4] [zq 5 0, zm 6 1, zk 7 270 [(.t 5), (.t 6)], zd 8 .geq 7 (.int .i64 0), zm 4 8])
 .ret)) }

/-- sewershed/sewershedlaw13.LocatePlane$2 -/
def N231_law13_LocatePlane_2 : NFun := { np := 2, nt := 10, res := [(3, none)], body :=
 (.seq (.reg false [] [1, 2] [zo 2 0, zc 3 (.bool false)])
 (.seq (.reg false [] [3] [zl 4 1 1, zf 5 0 2, zl 6 1 5, zf 7 1 2, zl 8 1 7, ⟨some 9, .callv (.t 4) [(.t 6), (.t 8)], none⟩, zm 3 9])
 .ret)) }

/-- sewershed/sewershedref09.Copy -/
def N232_ref09_Copy : NFun := { np := 1, nt := 12, res := [(2, some (2, true))], body :=
 (.seq (.reg false [] [1, 2] [zo 1 0, ⟨some 2, .alc [.own 3 [], .own 4 []], none⟩])
 (.seq (.reg true [0, 0, 2, 7, 0, 0, 32, 127, 255, 511] [2] [⟨some 3, .bls 3 0 [.int .i64 0, .int .i64 0, .int .i64 0] [] [], none⟩, zf 4 0 1, zl 5 1 4, ⟨some 6, .app 3 24 false (.t 3) (.t 5), none⟩, ⟨some 7, .bls 4 0 [.int .i64 0, .int .i64 0, .int .i64 0, .int .i64 0] [] [], none⟩, zf 8 1 1, zl 9 1 8, ⟨some 10, .app 4 32 false (.t 7) (.t 9), none⟩, ⟨some 11, .bld [.nils, .nils] [(0, 1, (.t 6)), (1, 1, (.t 10))], none⟩, ⟨none, .st 2 [] (.t 2) (.t 11), none⟩])
 .ret)) }

/-- sewershed/locate.Level -/
def N233_locate_Level : NFun := { np := 2, nt := 45, res := [(4, some (2, true)), (5, none)], body :=
 (.seq (.reg false [] [2, 3, 4] [zo 2 0, zo 3 1, ⟨some 4, .alc [.int .i64 0, .int .i64 0], none⟩, zc 5 (.int .i64 0)])
 (.seq (.reg false [] [4, 6, 7, 8] [zL 12 2 2, zL 13 2 3, zk 14 269 [(.t 12), (.t 13)], zm 11 14, zx 15 0 11, zx 16 1 11, zx 17 2 11, ⟨some 6, .alc [.int .i64 0, .int .i64 0], none⟩, ⟨none, .st 2 [] (.t 6) (.t 15), none⟩, zm 7 16, zm 8 17])
 (.seq (.seq (.reg false [] [4, 6, 7, 8, 19] [zm 18 8, zd 19 .neq 18 (.int .i64 0)])
 (.cond (.t 19) (.seq (.reg false [] [4, 5] [⟨some 20, .bld [.int .i64 0, .int .i64 0] [], none⟩, zm 21 8, ⟨none, .st 2 [] (.t 4) (.t 20), none⟩, zm 5 21])
 .ret)
 .skip))
 (.seq (.reg false [] [4, 6, 7, 8, 9] [zL 23 2 6, zm 24 7, zk 25 271 [(.t 23), (.t 24)], zm 22 25, zx 26 0 22, zx 27 1 22, zm 9 26, zm 8 27])
 (.seq (.seq (.reg false [] [4, 6, 7, 8, 9, 29] [zm 28 8, zd 29 .neq 28 (.int .i64 0)])
 (.cond (.t 29) (.seq (.reg false [] [4, 5] [⟨some 30, .bld [.int .i64 0, .int .i64 0] [], none⟩, zm 31 8, ⟨none, .st 2 [] (.t 4) (.t 30), none⟩, zm 5 31])
 .ret)
 .skip))
 (.seq (.reg false [] [4, 8, 9, 10] [zL 33 2 6, zm 34 7, zk 35 272 [(.t 33), (.t 34)], zm 32 35, zx 36 0 32, zx 37 1 32, zm 10 36, zm 8 37])
 (.seq (.seq (.reg false [] [4, 8, 9, 10, 39] [zm 38 8, zd 39 .neq 38 (.int .i64 0)])
 (.cond (.t 39) (.seq (.reg false [] [4, 5] [⟨some 40, .bld [.int .i64 0, .int .i64 0] [], none⟩, zm 41 8, ⟨none, .st 2 [] (.t 4) (.t 40), none⟩, zm 5 41])
 .ret)
 .skip))
 (.seq (.reg false [] [4, 5] [zm 42 9, zm 43 10, ⟨some 44, .bld [.int .i64 0, .int .i64 0] [(0, 1, (.t 42)), (1, 1, (.t 43))], none⟩, ⟨none, .st 2 [] (.t 4) (.t 44), none⟩, zc 5 (.int .i64 0)])
 .ret)))))))) }

/-- sewershed/mesh.Valid -/
def N234_mesh_Valid : NFun := { np := 1, nt := 17, res := [(2, none)], body :=
 (.seq (.reg false [] [1] [zo 1 0, zc 2 (.bool false)])
 (.seq (.reg false [] [3, 4] [zL 6 2 1, zk 7 273 [(.t 6)], zm 5 7, zx 8 0 5, zx 9 1 5, zq 3 8, zm 4 9])
 (.seq (.reg false [] [2] [zm 10 4, zd 11 .eql 10 (.int .i64 0), zm 12 11, zg 12 true (zq 13 3), zg 12 true (zn 14 13), zg 12 true (zd 15 .eql 14 (.int .i64 0)), ⟨some 16, .pick (.t 12) (.t 15) (.c (.bool false)), none⟩, zm 2 16])
 .ret))) }

/-- slices.ContainsFunc[[]sewershed/api.Point,sewershed/api.Point] -/
def N239_slices_ContainsFunc__api_Point_api_Point : NFun := { np := 2, nt := 9, res := [(4, none)], body :=
 (.seq (.reg false [] [0, 1] [zc 4 (.bool false)])
 (.seq (.reg false [] [4] [zq 5 0, zm 6 1, zk 7 278 [(.t 5), (.t 6)], zd 8 .geq 7 (.int .i64 0), zm 4 8])
 .ret)) }

/-- sewershed/locate.Exact -/
def N269_locate_Exact : NFun := { np := 2, nt := 25, res := [(4, some (2, true)), (5, none), (6, none)], body :=
 (.seq (.reg false [] [2, 3, 4] [zo 2 0, zo 3 1, ⟨some 4, .alc [.int .i64 0, .int .i64 0], none⟩, zc 5 (.int .i64 0), zc 6 (.int .i64 0)])
 (.seq (.reg false [] [2, 3, 4, 6, 7] [zL 9 2 2, zL 10 2 3, zk 11 274 [(.t 9), (.t 10)], zm 8 11, zx 12 0 8, zx 13 1 8, zm 7 12, zm 6 13])
 (.seq (.seq (.reg false [] [2, 3, 4, 6, 7, 15] [zm 14 6, zd 15 .neq 14 (.int .i64 0)])
 (.cond (.t 15) (.seq (.reg false [] [4, 5, 6] [⟨some 16, .bld [.int .i64 0, .int .i64 0] [], none⟩, zm 17 6, ⟨none, .st 2 [] (.t 4) (.t 16), none⟩, zc 5 (.int .i64 0), zm 6 17])
 .ret)
 .skip))
 (.seq (.reg false [] [4, 5, 6] [zL 18 2 2, zm 19 7, zL 20 2 3, zk 21 300 [(.t 18), (.t 19), (.t 20)], zx 22 0 21, zx 23 1 21, zx 24 2 21, ⟨none, .st 2 [] (.t 4) (.t 22), none⟩, zm 5 23, zm 6 24])
 .ret)))) }

/-- slices.IndexFunc[[]sewershed/api.Spot,sewershed/api.Spot] -/
def N270_slices_IndexFunc__api_Spot_api_Spot : NFun := { np := 2, nt := 19, res := [(4, none)], body :=
 (.seq (.reg false [] [0, 1] [zc 4 (.int .i64 0)])
 (.seq (.seq (.reg false [] [0, 1, 7, 8] [zm 6 0, zn 7 6, zc 8 (.int .i64 0)])
 (.block 0 (.loop (.seq (.reg false [] [0, 1, 7, 8, 9] [zb 9 .lss 8 7])
 (.seq (.cond (.t 9) .skip
 (.exit 0))
 (.seq (.block 1 (.seq (.reg false [] [0, 1, 5, 7, 8] [zm 10 8, zm 5 10])
 (.seq (.reg false [] [0, 1, 5, 7, 8, 16] [zm 11 1, zm 12 0, zm 13 5, zi 14 3 12 13, zL 15 3 14, ⟨some 16, .callv (.t 11) [(.t 15)], none⟩])
 (.cond (.t 16) (.seq (.reg false [] [4] [zm 17 5, zm 4 17])
 .ret)
 .skip))))
 (.reg false [] [0, 1, 7, 8] [zd 18 .add 8 (.int .i64 1), zm 8 18])))))))
 (.seq (.reg false [] [4] [⟨some 4, .mov (.c (.int .i64 (-1))), none⟩])
 .ret))) }

/-- sewershed/wide.Floor -/
def N271_wide_Floor : NFun := { np := 2, nt := 11, res := [(4, none), (5, none)], body :=
 (.seq (.reg false [] [1, 2] [zo 2 0, zc 4 (.int .i64 0), zc 5 (.int .i64 0)])
 (.seq (.reg false [] [4, 5] [zL 6 2 2, zm 7 1, zk 8 301 [(.t 6), (.t 7), (.c (.bool false))], zx 9 0 8, zx 10 1 8, zm 4 9, zm 5 10])
 .ret)) }

/-- sewershed/wide.Ceil -/
def N272_wide_Ceil : NFun := { np := 2, nt := 11, res := [(4, none), (5, none)], body :=
 (.seq (.reg false [] [1, 2] [zo 2 0, zc 4 (.int .i64 0), zc 5 (.int .i64 0)])
 (.seq (.reg false [] [4, 5] [zL 6 2 2, zm 7 1, zk 8 301 [(.t 6), (.t 7), (.c (.bool true))], zx 9 0 8, zx 10 1 8, zm 4 9, zm 5 10])
 .ret)) }

/-- sewershed/mesh.Check -/
def N273_mesh_Check : NFun := { np := 1, nt := 202, res := [(2, none), (3, none)], body :=
 (.seq (.reg false [] [1] [zo 1 0, zc 2 .nils, zc 3 (.int .i64 0)])
 (.seq (.seq (.reg false [] [1, 24] [zL 22 2 1, zk 23 302 [(.t 22)], zt 24 23])
 (.cond (.t 24) (.seq (.reg false [] [2, 3] [zc 2 .nils, zc 3 (.int .i64 4)])
 .ret)
 .skip))
 (.seq (.reg false [] [1, 4] [⟨some 4, .alc [.own 1 [], .own 1 [], .own 1 [], .own 1 [], .own 1 [], .own 1 [], .own 1 []], none⟩])
 (.seq (.reg false [] [1, 4, 5] [zf 25 0 1, zl 26 1 25, zn 27 26, ⟨some 28, .mks 1 1 [.bool false] (.t 27) (.t 27), none⟩, ⟨some 5, .alc [.own 1 []], none⟩, ⟨none, .st 1 [] (.t 5) (.t 28), none⟩])
 (.seq (.reg false [] [1, 4, 5, 6] [⟨some 29, .mkm 4 1, none⟩, zm 6 29])
 (.seq (.seq (.reg false [] [1, 4, 5, 6, 31, 32, 33] [zf 30 0 1, zl 31 1 30, zn 32 31, zc 33 (.int .i64 0)])
 (.block 0 (.loop (.seq (.reg false [] [1, 4, 5, 6, 31, 32, 33, 34] [zb 34 .lss 33 32])
 (.seq (.cond (.t 34) .skip
 (.exit 0))
 (.seq (.block 1 (.seq (.reg false [] [1, 4, 5, 6, 7, 8, 31, 32, 33] [zm 35 33, zi 36 3 31 33, zL 37 3 36, ⟨some 8, .alc [.int .i64 0, .int .i64 0, .int .i64 0], none⟩, zm 7 35, ⟨none, .st 3 [] (.t 8) (.t 37), none⟩])
 (.seq (.seq (.reg true [0, 0, 0, 4, 12, 31, 63] [1, 4, 5, 6, 7, 31, 32, 33] [zl 38 1 5, zm 39 7, zL 40 3 8, zk 41 303 [(.t 40)], zt 42 41, zi 43 1 38 39, ⟨none, .st 1 [] (.t 43) (.t 42), none⟩])
 (.seq (.reg false [] [1, 4, 5, 6, 7, 31, 32, 33, 47] [zl 44 1 5, zm 45 7, zi 46 1 44 45, zl 47 1 46])
 (.cond (.t 47) (.seq (.reg false [] [1, 4, 5, 6, 31, 32, 33] [⟨some 48, .iadA 7 1 (.t 4) (.c (.int .i64 1)), none⟩, zl 49 1 48, zm 50 7, ⟨some 51, .bls 1 1 [.int .i64 0] [] [(0, (.t 50))], none⟩, ⟨some 52, .app 1 8 false (.t 49) (.t 51), none⟩, ⟨some 53, .iadA 7 1 (.t 4) (.c (.int .i64 1)), none⟩, ⟨none, .st 1 [] (.t 53) (.t 52), none⟩])
 (.exit 1))
 .skip)))
 (.seq (.reg false [] [1, 4, 5, 6, 7, 9, 31, 32, 33] [zL 54 2 1, zm 55 7, zk 56 304 [(.t 54), (.t 55)], ⟨some 9, .alc [.int .i64 0, .int .i64 0], none⟩, ⟨none, .st 2 [] (.t 9) (.t 56), none⟩])
 (.seq (.seq (.reg false [] [1, 4, 5, 6, 7, 9, 31, 32, 33, 59] [zm 57 6, zL 58 2 9, ⟨some 59, .mpl (.ints .i64 2) 4 1 false (.bool false) (.t 57) (.t 58), none⟩])
 (.cond (.t 59) (.reg false [] [1, 4, 5, 6, 9, 31, 32, 33] [⟨some 60, .iadA 7 1 (.t 4) (.c (.int .i64 2)), none⟩, zl 61 1 60, zm 62 7, ⟨some 63, .bls 1 1 [.int .i64 0] [] [(0, (.t 62))], none⟩, ⟨some 64, .app 1 8 false (.t 61) (.t 63), none⟩, ⟨some 65, .iadA 7 1 (.t 4) (.c (.int .i64 2)), none⟩, ⟨none, .st 1 [] (.t 65) (.t 64), none⟩])
 .skip))
 (.reg false [] [1, 4, 5, 6, 31, 32, 33] [zm 66 6, zL 67 2 9, ⟨none, .mpu (.ints .i64 2) 4 1 (.bool false) (.t 66) (.t 67) (.c (.bool true)), none⟩]))))))
 (.reg false [] [1, 4, 5, 6, 31, 32, 33] [zd 68 .add 33 (.int .i64 1), zm 33 68])))))))
 (.seq (.reg false [] [1, 4, 5, 10] [⟨some 69, .mkm 3 1, none⟩, zm 10 69])
 (.seq (.reg false [] [1, 4, 5, 10, 11] [⟨some 11, .nilo 6, none⟩])
 (.seq (.seq (.reg false [] [1, 4, 5, 10, 11, 71, 72, 73] [zf 70 1 1, zl 71 1 70, zn 72 71, zc 73 (.int .i64 0)])
 (.block 2 (.loop (.seq (.reg false [] [1, 4, 5, 10, 11, 71, 72, 73, 74] [zb 74 .lss 73 72])
 (.seq (.cond (.t 74) .skip
 (.exit 2))
 (.seq (.block 3 (.seq (.reg false [] [1, 4, 5, 10, 11, 12, 13, 71, 72, 73] [zm 75 73, zi 76 4 71 73, zL 77 4 76, ⟨some 13, .alc [.int .i64 0, .int .i64 0, .int .i64 0, .int .i64 0], none⟩, zm 12 75, ⟨none, .st 4 [] (.t 13) (.t 77), none⟩])
 (.seq (.reg false [] [1, 4, 5, 10, 11, 12, 13, 14, 71, 72, 73] [zL 78 4 13, zk 79 305 [(.t 78)], ⟨some 14, .alc [.int .i64 0, .int .i64 0, .int .i64 0], none⟩, ⟨none, .st 3 [] (.t 14) (.t 79), none⟩])
 (.seq (.seq (.reg false [] [1, 4, 5, 10, 11, 12, 13, 71, 72, 73, 113] [⟨some 80, .slM 3 1 (.t 14), none⟩, ⟨some 81, .mk 306 [(.t 1), (.t 5)], none⟩, zk 82 11 [(.t 80), (.t 81)], zm 83 82, zg 83 false (zf 84 0 13), zg 83 false (zl 85 1 84), zg 83 false (zf 86 1 13), zg 83 false (zl 87 1 86), zg 83 false (zb 88 .eql 85 87), ⟨some 89, .pick (.t 83) (.c (.bool true)) (.t 88), none⟩, zm 90 89, zg 90 false (zf 91 1 13), zg 90 false (zl 92 1 91), zg 90 false (zf 93 2 13), zg 90 false (zl 94 1 93), zg 90 false (zb 95 .eql 92 94), ⟨some 96, .pick (.t 90) (.c (.bool true)) (.t 95), none⟩, zm 97 96, zg 97 false (zf 98 2 13), zg 97 false (zl 99 1 98), zg 97 false (zf 100 0 13), zg 97 false (zl 101 1 100), zg 97 false (zb 102 .eql 99 101), ⟨some 103, .pick (.t 97) (.c (.bool true)) (.t 102), none⟩, zm 104 103, zg 104 false (zf 105 3 13), zg 104 false (zl 106 1 105), zg 104 false (zd 107 .lss 106 (.int .i64 0)), ⟨some 108, .pick (.t 104) (.c (.bool true)) (.t 107), none⟩, zm 109 108, zg 109 false (zf 110 3 13), zg 109 false (zl 111 1 110), zg 109 false (zd 112 .geq 111 (.int .i64 16)), ⟨some 113, .pick (.t 109) (.c (.bool true)) (.t 112), none⟩])
 (.cond (.t 113) (.seq (.reg false [] [1, 4, 5, 10, 11, 71, 72, 73] [⟨some 114, .iadA 7 1 (.t 4) (.c (.int .i64 3)), none⟩, zl 115 1 114, zm 116 12, ⟨some 117, .bls 1 1 [.int .i64 0] [] [(0, (.t 116))], none⟩, ⟨some 118, .app 1 8 false (.t 115) (.t 117), none⟩, ⟨some 119, .iadA 7 1 (.t 4) (.c (.int .i64 3)), none⟩, ⟨none, .st 1 [] (.t 119) (.t 118), none⟩])
 (.exit 3))
 .skip))
 (.seq (.reg false [] [1, 4, 5, 10, 11, 12, 13, 15, 71, 72, 73] [zL 120 2 1, zL 121 4 13, zk 122 307 [(.t 120), (.t 121)], ⟨some 15, .alc [.int .i64 0, .int .i64 0, .int .i64 0, .int .i64 0, .int .i64 0, .int .i64 0], none⟩, ⟨none, .st 6 [] (.t 15) (.t 122), none⟩])
 (.seq (.seq (.reg false [] [1, 4, 5, 10, 11, 12, 13, 15, 71, 72, 73, 130] [⟨some 123, .iadA 3 2 (.t 15) (.c (.int .i64 0)), none⟩, zL 124 2 123, ⟨some 125, .iadA 3 2 (.t 15) (.c (.int .i64 1)), none⟩, zL 126 2 125, ⟨some 127, .iadA 3 2 (.t 15) (.c (.int .i64 2)), none⟩, zL 128 2 127, zk 129 308 [(.t 124), (.t 126), (.t 128)], zd 130 .leq 129 (.int .i64 0)])
 (.cond (.t 130) (.seq (.reg false [] [1, 4, 5, 10, 11, 71, 72, 73] [⟨some 131, .iadA 7 1 (.t 4) (.c (.int .i64 4)), none⟩, zl 132 1 131, zm 133 12, ⟨some 134, .bls 1 1 [.int .i64 0] [] [(0, (.t 133))], none⟩, ⟨some 135, .app 1 8 false (.t 132) (.t 134), none⟩, ⟨some 136, .iadA 7 1 (.t 4) (.c (.int .i64 4)), none⟩, ⟨none, .st 1 [] (.t 136) (.t 135), none⟩])
 (.exit 3))
 .skip))
 (.seq (.seq (.reg false [] [1, 4, 5, 10, 11, 12, 13, 15, 71, 72, 73, 152] [zm 137 10, zL 138 4 13, zk 139 298 [(.t 138), (.c (.int .i64 0))], ⟨some 140, .mpl (.ints .i64 2) 3 1 false (.bool false) (.t 137) (.t 139), none⟩, zm 141 140, zg 141 false (zm 142 10), zg 141 false (zL 143 4 13), zg 141 false (zk 144 298 [(.t 143), (.c (.int .i64 1))]), zg 141 false (⟨some 145, .mpl (.ints .i64 2) 3 1 false (.bool false) (.t 142) (.t 144), none⟩), ⟨some 146, .pick (.t 141) (.c (.bool true)) (.t 145), none⟩, zm 147 146, zg 147 false (zm 148 10), zg 147 false (zL 149 4 13), zg 147 false (zk 150 298 [(.t 149), (.c (.int .i64 2))]), zg 147 false (⟨some 151, .mpl (.ints .i64 2) 3 1 false (.bool false) (.t 148) (.t 150), none⟩), ⟨some 152, .pick (.t 147) (.c (.bool true)) (.t 151), none⟩])
 (.cond (.t 152) (.reg false [] [1, 4, 5, 10, 11, 12, 13, 15, 71, 72, 73] [⟨some 153, .iadA 7 1 (.t 4) (.c (.int .i64 5)), none⟩, zl 154 1 153, zm 155 12, ⟨some 156, .bls 1 1 [.int .i64 0] [] [(0, (.t 155))], none⟩, ⟨some 157, .app 1 8 false (.t 154) (.t 156), none⟩, ⟨some 158, .iadA 7 1 (.t 4) (.c (.int .i64 5)), none⟩, ⟨none, .st 1 [] (.t 158) (.t 157), none⟩])
 .skip))
 (.seq (.seq (.reg false [] [1, 4, 5, 10, 11, 12, 13, 15, 71, 72, 73, 159] [zc 159 (.int .i64 0)])
 (.block 4 (.loop (.seq (.reg false [] [1, 4, 5, 10, 11, 12, 13, 15, 71, 72, 73, 159, 160] [zd 160 .lss 159 (.int .i64 3)])
 (.seq (.cond (.t 160) .skip
 (.exit 4))
 (.seq (.block 5 (.seq (.reg false [] [1, 4, 5, 10, 11, 12, 13, 15, 16, 71, 72, 73, 159] [zm 161 159, zm 16 161])
 (.reg false [] [1, 4, 5, 10, 11, 12, 13, 15, 71, 72, 73, 159] [zm 162 10, zL 163 4 13, zm 164 16, zk 165 298 [(.t 163), (.t 164)], ⟨none, .mpu (.ints .i64 2) 3 1 (.bool false) (.t 162) (.t 165) (.c (.bool true)), none⟩])))
 (.reg false [] [1, 4, 5, 10, 11, 12, 13, 15, 71, 72, 73, 159] [zd 166 .add 159 (.int .i64 1), zm 159 166])))))))
 (.seq (.seq (.reg false [] [1, 4, 5, 10, 11, 12, 15, 71, 72, 73, 169] [zm 167 11, ⟨some 168, .mk 310 [(.t 15)], none⟩, zk 169 309 [(.t 167), (.t 168)]])
 (.cond (.t 169) (.reg false [] [1, 4, 5, 10, 11, 15, 71, 72, 73] [⟨some 170, .iadA 7 1 (.t 4) (.c (.int .i64 6)), none⟩, zl 171 1 170, zm 172 12, ⟨some 173, .bls 1 1 [.int .i64 0] [] [(0, (.t 172))], none⟩, ⟨some 174, .app 1 8 false (.t 171) (.t 173), none⟩, ⟨some 175, .iadA 7 1 (.t 4) (.c (.int .i64 6)), none⟩, ⟨none, .st 1 [] (.t 175) (.t 174), none⟩])
 .skip))
 (.reg false [] [1, 4, 5, 10, 11, 71, 72, 73] [zm 176 11, zL 177 6 15, ⟨some 178, .bls 6 1 [.int .i64 0, .int .i64 0, .int .i64 0, .int .i64 0, .int .i64 0, .int .i64 0] [] [(0, (.t 177))], none⟩, ⟨some 179, .app 6 48 false (.t 176) (.t 178), none⟩, zq 11 179]))))))))))
 (.reg false [] [1, 4, 5, 10, 11, 71, 72, 73] [zd 180 .add 73 (.int .i64 1), zm 73 180])))))))
 (.seq (.reg false [] [4, 17] [⟨some 17, .nilo 2, none⟩])
 (.seq (.seq (.reg false [] [17, 181, 182] [zL 181 7 4, zc 182 (.int .i64 0)])
 (.block 6 (.loop (.seq (.reg false [] [17, 181, 182, 183] [zd 183 .lss 182 (.int .i64 7)])
 (.seq (.cond (.t 183) .skip
 (.exit 6))
 (.seq (.block 7 (.seq (.reg false [] [17, 18, 19, 181, 182] [zm 184 182, ⟨some 185, .idxA 7 1 false (.t 181) (.t 182), none⟩, zm 18 184, zq 19 185])
 (.seq (.reg false [] [17, 18, 181, 182, 186, 187, 188] [zq 186 19, zn 187 186, zc 188 (.int .i64 0)])
 (.block 8 (.loop (.seq (.reg false [] [17, 18, 181, 182, 186, 187, 188, 189] [zb 189 .lss 188 187])
 (.seq (.cond (.t 189) .skip
 (.exit 8))
 (.seq (.block 9 (.seq (.reg false [] [17, 18, 21, 181, 182, 186, 187, 188] [zi 190 1 186 188, zl 191 1 190, zm 21 191])
 (.reg false [] [17, 18, 181, 182, 186, 187, 188] [zm 192 17, zm 193 18, zm 194 21, zk 195 127 [(.t 194)], ⟨some 196, .bld [.int .i64 0, .str []] [(0, 1, (.t 193)), (1, 1, (.t 195))], none⟩, ⟨some 197, .bls 2 1 [.int .i64 0, .str []] [] [(0, (.t 196))], none⟩, ⟨some 198, .app 2 24 false (.t 192) (.t 197), none⟩, zq 17 198])))
 (.reg false [] [17, 18, 181, 182, 186, 187, 188] [zd 199 .add 188 (.int .i64 1), zm 188 199])))))))))
 (.reg false [] [17, 181, 182] [zd 200 .add 182 (.int .i64 1), zm 182 200])))))))
 (.seq (.reg false [] [2, 3] [zq 201 17, zq 2 201, zc 3 (.int .i64 0)])
 .ret)))))))))))) }

/-- sewershed/locate.on -/
def N274_locate_on : NFun := { np := 2, nt := 18, res := [(4, none), (5, none)], body :=
 (.seq (.reg false [] [2, 3] [zo 2 0, zo 3 1, zc 4 (.int .i64 0), zc 5 (.int .i64 0)])
 (.seq (.seq (.reg false [] [2, 3, 11] [zL 7 2 2, zL 8 2 3, ⟨some 9, .bls 2 1 [.int .i64 0, .int .i64 0] [] [(0, (.t 8))], none⟩, zk 10 275 [(.t 7), (.t 9)], zt 11 10])
 (.cond (.t 11) (.seq (.reg false [] [4, 5] [zc 4 (.int .i64 0), zc 5 (.int .i64 1)])
 .ret)
 .skip))
 (.seq (.reg false [] [6] [zL 12 2 2, zL 13 2 3, zk 14 276 [(.t 12), (.t 13)], zm 6 14])
 (.seq (.seq (.reg false [] [6, 16] [zm 15 6, zd 16 .lss 15 (.int .i64 0)])
 (.cond (.t 16) (.seq (.reg false [] [4, 5] [zc 4 (.int .i64 0), zc 5 (.int .i64 12)])
 .ret)
 .skip))
 (.seq (.reg false [] [4, 5] [zm 17 6, zm 4 17, zc 5 (.int .i64 0)])
 .ret))))) }

/-- sewershed/locate.valid -/
def N275_locate_valid : NFun := { np := 2, nt := 12, res := [(4, none)], body :=
 (.seq (.reg false [] [1, 2] [zo 2 0, zc 4 (.bool false)])
 (.seq (.reg false [] [4] [zL 5 2 2, zk 6 234 [(.t 5)], zm 7 6, zg 7 true (zq 8 1), zg 7 true (⟨some 9, .call 239 [(.t 8), (.c (.fn 312 []))] [], none⟩), zg 7 true (zt 10 9), ⟨some 11, .pick (.t 7) (.t 10) (.c (.bool false)), none⟩, zm 4 11])
 .ret)) }

/-- sewershed/locate.find -/
def N276_locate_find : NFun := { np := 2, nt := 19, res := [(4, none)], body :=
 (.seq (.reg false [] [2, 3] [zo 2 0, zo 3 1, zc 4 (.int .i64 0)])
 (.seq (.seq (.reg false [] [2, 3, 8, 9] [zf 6 1 2, zl 7 1 6, zn 8 7, zc 9 (.int .i64 0)])
 (.block 0 (.loop (.seq (.reg false [] [2, 3, 8, 9, 10] [zb 10 .lss 9 8])
 (.seq (.cond (.t 10) .skip
 (.exit 0))
 (.seq (.block 1 (.seq (.reg false [] [2, 3, 5, 8, 9] [zm 11 9, zm 5 11])
 (.seq (.reg false [] [2, 3, 5, 8, 9, 16] [zL 12 2 2, zm 13 5, zL 14 2 3, zk 15 284 [(.t 12), (.t 13), (.t 14)], zd 16 .lss 15 (.int .i64 0)])
 (.cond (.t 16) (.seq (.reg false [] [4] [zm 17 5, zm 4 17])
 .ret)
 .skip))))
 (.reg false [] [2, 3, 8, 9] [zd 18 .add 9 (.int .i64 1), zm 9 18])))))))
 (.seq (.reg false [] [4] [⟨some 4, .mov (.c (.int .i64 (-1))), none⟩])
 .ret))) }

/-- slices.IndexFunc[[]sewershed/api.Point,sewershed/api.Point] -/
def N278_slices_IndexFunc__api_Point_api_Point : NFun := { np := 2, nt := 19, res := [(4, none)], body :=
 (.seq (.reg false [] [0, 1] [zc 4 (.int .i64 0)])
 (.seq (.seq (.reg false [] [0, 1, 7, 8] [zm 6 0, zn 7 6, zc 8 (.int .i64 0)])
 (.block 0 (.loop (.seq (.reg false [] [0, 1, 7, 8, 9] [zb 9 .lss 8 7])
 (.seq (.cond (.t 9) .skip
 (.exit 0))
 (.seq (.block 1 (.seq (.reg false [] [0, 1, 5, 7, 8] [zm 10 8, zm 5 10])
 (.seq (.reg false [] [0, 1, 5, 7, 8, 16] [zm 11 1, zm 12 0, zm 13 5, zi 14 2 12 13, zL 15 2 14, ⟨some 16, .callv (.t 11) [(.t 15)], none⟩])
 (.cond (.t 16) (.seq (.reg false [] [4] [zm 17 5, zm 4 17])
 .ret)
 .skip))))
 (.reg false [] [0, 1, 7, 8] [zd 18 .add 8 (.int .i64 1), zm 8 18])))))))
 (.seq (.reg false [] [4] [⟨some 4, .mov (.c (.int .i64 (-1))), none⟩])
 .ret))) }

/-- sewershed/locate.outer -/
def N284_locate_outer : NFun := { np := 3, nt := 30, res := [(6, none)], body :=
 (.seq (.reg false [] [1, 3, 5] [zo 3 0, zo 5 2, zc 6 (.int .i64 0)])
 (.seq (.reg false [] [5, 7] [zL 9 2 3, zm 10 1, zk 11 319 [(.t 9), (.t 10)], ⟨some 7, .alc [.int .i64 0, .int .i64 0, .int .i64 0, .int .i64 0, .int .i64 0, .int .i64 0, .int .i64 0, .int .i64 0, .int .i64 0], none⟩, ⟨none, .st 9 [] (.t 7) (.t 11), none⟩])
 (.seq (.seq (.reg false [] [5, 7, 12] [zc 12 (.int .i64 0)])
 (.block 0 (.loop (.seq (.reg false [] [5, 7, 12, 13] [zd 13 .lss 12 (.int .i64 3)])
 (.seq (.cond (.t 13) .skip
 (.exit 0))
 (.seq (.block 1 (.seq (.reg false [] [5, 7, 8, 12] [zm 14 12, zm 8 14])
 (.seq (.reg true [0, 1, 3, 7, 0, 16, 48, 112, 240, 511, 0, 2047, 4095] [5, 7, 8, 12, 27] [zm 15 8, ⟨some 16, .iadA 3 3 (.t 7) (.t 15), none⟩, zL 17 3 16, zk 18 321 [(.t 17)], zm 19 8, zd 20 .add 19 (.int .i64 1), zd 21 .rem 20 (.int .i64 3), ⟨some 22, .iadA 3 3 (.t 7) (.t 21), none⟩, zL 23 3 22, zk 24 321 [(.t 23)], zL 25 2 5, zk 26 320 [(.t 18), (.t 24), (.t 25)], zd 27 .lss 26 (.int .i64 0)])
 (.cond (.t 27) (.seq (.reg false [] [6] [zm 28 8, zm 6 28])
 .ret)
 .skip))))
 (.reg false [] [5, 7, 12] [zd 29 .add 12 (.int .i64 1), zm 12 29])))))))
 (.seq (.reg false [] [6] [⟨some 6, .mov (.c (.int .i64 (-1))), none⟩])
 .ret)))) }

/-- sewershed/mesh.side -/
def N298_mesh_side : NFun := { np := 2, nt := 17, res := [(4, some (2, true))], body :=
 (.seq (.reg false [] [1, 2, 4] [zo 2 0, ⟨some 4, .alc [.int .i64 0, .int .i64 0], none⟩])
 (.seq (.reg false [] [1, 4, 5] [zL 6 4 2, zk 7 305 [(.t 6)], ⟨some 5, .alc [.int .i64 0, .int .i64 0, .int .i64 0], none⟩, ⟨none, .st 3 [] (.t 5) (.t 7), none⟩])
 (.seq (.reg true [0, 1, 3, 0, 8, 24, 56, 120, 255, 511] [4] [zm 8 1, ⟨some 9, .iadA 3 1 (.t 5) (.t 8), none⟩, zl 10 1 9, zm 11 1, zd 12 .add 11 (.int .i64 1), zd 13 .rem 12 (.int .i64 3), ⟨some 14, .iadA 3 1 (.t 5) (.t 13), none⟩, zl 15 1 14, ⟨some 16, .bld [.int .i64 0, .int .i64 0] [(0, 1, (.t 10)), (1, 1, (.t 15))], none⟩, ⟨none, .st 2 [] (.t 4) (.t 16), none⟩])
 .ret))) }

/-- sewershed/locate.exact -/
def N300_locate_exact : NFun := { np := 3, nt := 68, res := [(6, some (2, true)), (7, none), (8, none)], body :=
 (.seq (.reg false [] [1, 3, 5, 6] [zo 3 0, zo 5 2, ⟨some 6, .alc [.int .i64 0, .int .i64 0], none⟩, zc 7 (.int .i64 0), zc 8 (.int .i64 0)])
 (.seq (.reg false [] [5, 6, 9] [zL 14 2 3, zm 15 1, zk 16 319 [(.t 14), (.t 15)], ⟨some 9, .alc [.int .i64 0, .int .i64 0, .int .i64 0, .int .i64 0, .int .i64 0, .int .i64 0, .int .i64 0, .int .i64 0, .int .i64 0], none⟩, ⟨none, .st 9 [] (.t 9) (.t 16), none⟩])
 (.seq (.seq (.reg false [] [5, 6, 9, 17, 18] [zL 17 9 9, zc 18 (.int .i64 0)])
 (.block 0 (.loop (.seq (.reg false [] [5, 6, 9, 17, 18, 19] [zd 19 .lss 18 (.int .i64 3)])
 (.seq (.cond (.t 19) .skip
 (.exit 0))
 (.seq (.block 1 (.seq (.reg false [] [5, 6, 9, 10, 11, 17, 18] [zm 20 18, ⟨some 21, .idxA 3 3 true (.t 17) (.t 18), none⟩, ⟨some 11, .alc [.int .i64 0, .int .i64 0, .int .i64 0], none⟩, zm 10 20, ⟨none, .st 3 [] (.t 11) (.t 21), none⟩])
 (.seq (.reg true [0, 1, 0, 0, 8, 24, 56, 120, 248, 0, 512, 1536, 3584, 7680, 16376, 32764, 65535, 131071, 262143, 262143, 0, 1572863, 4194303] [5, 6, 9, 12, 13, 17, 18] [zf 23 2 11, zl 24 1 23, zL 25 2 5, zm 26 10, zd 27 .add 26 (.int .i64 1), zd 28 .rem 27 (.int .i64 3), ⟨some 29, .iadA 3 3 (.t 9) (.t 28), none⟩, zL 30 3 29, zk 31 321 [(.t 30)], zm 32 10, zd 33 .add 32 (.int .i64 2), zd 34 .rem 33 (.int .i64 3), ⟨some 35, .iadA 3 3 (.t 9) (.t 34), none⟩, zL 36 3 35, zk 37 321 [(.t 36)], zk 38 320 [(.t 25), (.t 31), (.t 37)], zk 39 99 [(.t 24), (.t 38)], zm 22 39, zx 40 0 22, zx 41 1 22, ⟨some 12, .alc [.int .i64 0, .int .i64 0], none⟩, ⟨none, .st 2 [] (.t 12) (.t 40), none⟩, zm 13 41])
 (.seq (.seq (.reg false [] [5, 6, 9, 12, 13, 17, 18, 43] [zm 42 13, zd 43 .neq 42 (.int .i64 0)])
 (.cond (.t 43) (.seq (.reg false [] [6, 7, 8] [⟨some 44, .bld [.int .i64 0, .int .i64 0] [], none⟩, zm 45 13, ⟨none, .st 2 [] (.t 6) (.t 44), none⟩, zc 7 (.int .i64 0), zm 8 45])
 .ret)
 .skip))
 (.seq (.reg false [] [5, 6, 9, 13, 17, 18] [zL 47 2 6, zL 48 2 12, zk 49 327 [(.t 47), (.t 48)], zm 46 49, zx 50 0 46, zx 51 1 46, ⟨none, .st 2 [] (.t 6) (.t 50), none⟩, zm 13 51])
 (.seq (.reg false [] [5, 6, 9, 13, 17, 18, 53] [zm 52 13, zd 53 .neq 52 (.int .i64 0)])
 (.cond (.t 53) (.seq (.reg false [] [6, 7, 8] [⟨some 54, .bld [.int .i64 0, .int .i64 0] [], none⟩, zm 55 13, ⟨none, .st 2 [] (.t 6) (.t 54), none⟩, zc 7 (.int .i64 0), zm 8 55])
 .ret)
 .skip)))))))
 (.reg false [] [5, 6, 9, 17, 18] [zd 56 .add 18 (.int .i64 1), zm 18 56])))))))
 (.seq (.reg true [0, 0, 2, 6, 0, 16, 62, 0, 128, 510, 1022, 2047, 4095, 8191] [6, 7, 8] [zL 57 2 6, ⟨some 58, .iadA 3 3 (.t 9) (.c (.int .i64 0)), none⟩, zL 59 3 58, zk 60 321 [(.t 59)], ⟨some 61, .iadA 3 3 (.t 9) (.c (.int .i64 1)), none⟩, zL 62 3 61, zk 63 321 [(.t 62)], ⟨some 64, .iadA 3 3 (.t 9) (.c (.int .i64 2)), none⟩, zL 65 3 64, zk 66 321 [(.t 65)], zk 67 320 [(.t 60), (.t 63), (.t 66)], ⟨none, .st 2 [] (.t 6) (.t 57), none⟩, zm 7 67, zc 8 (.int .i64 0)])
 .ret)))) }

/-- sewershed/wide.divided -/
def N301_wide_divided : NFun := { np := 3, nt := 20, res := [(6, none), (7, none)], body :=
 (.seq (.reg false [] [1, 2, 3] [zo 3 0, zc 6 (.int .i64 0), zc 7 (.int .i64 0)])
 (.seq (.seq (.reg false [] [1, 2, 3, 10] [zL 8 2 3, zk 9 106 [(.t 8)], zt 10 9])
 (.cond (.t 10) (.seq (.reg false [] [6, 7] [zc 6 (.int .i64 0), zc 7 (.int .i64 1)])
 .ret)
 .skip))
 (.seq (.seq (.reg false [] [1, 2, 3, 12] [zm 11 1, zd 12 .eql 11 (.int .i64 0)])
 (.cond (.t 12) (.seq (.reg false [] [6, 7] [zc 6 (.int .i64 0), zc 7 (.int .i64 16)])
 .ret)
 .skip))
 (.seq (.reg false [] [6, 7] [zL 13 2 3, zk 14 108 [(.t 13)], zm 15 1, zm 16 2, zk 17 104 [(.t 14), (.t 15), (.t 16)], zx 18 0 17, zx 19 1 17, zm 6 18, zm 7 19])
 .ret)))) }

/-- sewershed/mesh.small -/
def N302_mesh_small : NFun := { np := 1, nt := 13, res := [(2, none)], body :=
 (.seq (.reg false [] [1] [zo 1 0, zc 2 (.bool false)])
 (.seq (.reg false [] [2] [zf 3 0 1, zl 4 1 3, zn 5 4, zd 6 .leq 5 (.int .i64 2000), zm 7 6, zg 7 true (zf 8 1 1), zg 7 true (zl 9 1 8), zg 7 true (zn 10 9), zg 7 true (zd 11 .leq 10 (.int .i64 4000)), ⟨some 12, .pick (.t 7) (.t 11) (.c (.bool false)), none⟩, zm 2 12])
 .ret)) }

/-- sewershed/mesh.right -/
def N303_mesh_right : NFun := { np := 1, nt := 19, res := [(2, none)], body :=
 (.seq (.reg false [] [1] [zo 1 0, zc 2 (.bool false)])
 (.seq (.reg false [] [2] [zf 3 0 1, zl 4 1 3, zf 5 1 1, zl 6 1 5, ⟨some 7, .bld [.int .i64 0, .int .i64 0] [(0, 1, (.t 4)), (1, 1, (.t 6))], none⟩, zk 8 313 [(.t 7)], zm 9 8, zg 9 true (zf 10 2 1), zg 9 true (zl 11 1 10), zg 9 true (⟨some 12, .bin .geq (.t 11) (.c (.int .i64 (-4194304))), none⟩), ⟨some 13, .pick (.t 9) (.t 12) (.c (.bool false)), none⟩, zm 14 13, zg 14 true (zf 15 2 1), zg 14 true (zl 16 1 15), zg 14 true (zd 17 .leq 16 (.int .i64 4194304)), ⟨some 18, .pick (.t 14) (.t 17) (.c (.bool false)), none⟩, zm 2 18])
 .ret)) }

/-- sewershed/mesh.point -/
def N304_mesh_point : NFun := { np := 2, nt := 18, res := [(4, some (2, true))], body :=
 (.seq (.reg false [] [1, 2, 4] [zo 2 0, ⟨some 4, .alc [.int .i64 0, .int .i64 0], none⟩])
 (.seq (.reg true [0, 1, 0, 7, 15, 31, 0, 64, 0, 448, 960, 1984, 4095, 8191] [4] [zf 5 0 2, zl 6 1 5, zm 7 1, zi 8 3 6 7, zf 9 0 8, zl 10 1 9, zf 11 0 2, zl 12 1 11, zm 13 1, zi 14 3 12 13, zf 15 1 14, zl 16 1 15, ⟨some 17, .bld [.int .i64 0, .int .i64 0] [(0, 1, (.t 10)), (1, 1, (.t 16))], none⟩, ⟨none, .st 2 [] (.t 4) (.t 17), none⟩])
 .ret)) }

/-- sewershed/mesh.corners -/
def N305_mesh_corners : NFun := { np := 1, nt := 10, res := [(2, some (3, true))], body :=
 (.seq (.reg false [] [1, 2] [zo 1 0, ⟨some 2, .alc [.int .i64 0, .int .i64 0, .int .i64 0], none⟩])
 (.seq (.reg false [] [2] [zf 3 0 1, zl 4 1 3, zf 5 1 1, zl 6 1 5, zf 7 2 1, zl 8 1 7, ⟨some 9, .bld [.int .i64 0, .int .i64 0, .int .i64 0] [(0, 1, (.t 4)), (1, 1, (.t 6)), (2, 1, (.t 8))], none⟩, ⟨none, .st 3 [] (.t 2) (.t 9), none⟩])
 .ret)) }

/-- sewershed/mesh.Check$1 -/
def N306_mesh_Check_1 : NFun := { np := 3, nt := 20, res := [(4, none)], body :=
 (.seq (.reg false [] [0, 1, 2] [zc 4 (.bool false)])
 (.seq (.reg false [] [4] [zm 5 0, zd 6 .lss 5 (.int .i64 0), zm 7 6, zg 7 false (zm 8 0), zg 7 false (zf 9 0 1), zg 7 false (zl 10 1 9), zg 7 false (zn 11 10), zg 7 false (zb 12 .geq 8 11), ⟨some 13, .pick (.t 7) (.c (.bool true)) (.t 12), none⟩, zm 14 13, zg 14 false (zl 15 1 2), zg 14 false (zm 16 0), zg 14 false (zi 17 1 15 16), zg 14 false (zl 18 1 17), ⟨some 19, .pick (.t 14) (.c (.bool true)) (.t 18), none⟩, zm 4 19])
 .ret)) }

/-- sewershed/mesh.triangle -/
def N307_mesh_triangle : NFun := { np := 2, nt := 18, res := [(4, some (6, true))], body :=
 (.seq (.reg false [] [2, 3, 4] [zo 2 0, zo 3 1, ⟨some 4, .alc [.int .i64 0, .int .i64 0, .int .i64 0, .int .i64 0, .int .i64 0, .int .i64 0], none⟩])
 (.seq (.reg true [0, 0, 2, 7, 0, 0, 32, 127, 0, 0, 512, 2047, 4095, 8191] [4] [zL 5 2 2, zf 6 0 3, zl 7 1 6, zk 8 304 [(.t 5), (.t 7)], zL 9 2 2, zf 10 1 3, zl 11 1 10, zk 12 304 [(.t 9), (.t 11)], zL 13 2 2, zf 14 2 3, zl 15 1 14, zk 16 304 [(.t 13), (.t 15)], ⟨some 17, .bld [.int .i64 0, .int .i64 0, .int .i64 0, .int .i64 0, .int .i64 0, .int .i64 0] [(0, 2, (.t 8)), (2, 2, (.t 12)), (4, 2, (.t 16))], none⟩, ⟨none, .st 6 [] (.t 4) (.t 17), none⟩])
 .ret)) }

/-- sewershed/mesh.turn -/
def N308_mesh_turn : NFun := { np := 3, nt := 30, res := [(6, none)], body :=
 (.seq (.reg false [] [3, 4, 5] [zo 3 0, zo 4 1, zo 5 2, zc 6 (.int .i64 0)])
 (.seq (.reg false [] [6] [zf 7 0 4, zl 8 1 7, zf 9 0 3, zl 10 1 9, zb 11 .sub 8 10, zf 12 1 5, zl 13 1 12, zf 14 1 3, zl 15 1 14, zb 16 .sub 13 15, zb 17 .mul 11 16, zf 18 1 4, zl 19 1 18, zf 20 1 3, zl 21 1 20, zb 22 .sub 19 21, zf 23 0 5, zl 24 1 23, zf 25 0 3, zl 26 1 25, zb 27 .sub 24 26, zb 28 .mul 22 27, zb 29 .sub 17 28, zm 6 29])
 .ret)) }

/-- slices.ContainsFunc[[][3]sewershed/api.Point,[3]sewershed/api.Point] -/
def N309_slices_ContainsFunc___3api_Point__3api_Point : NFun := { np := 2, nt := 9, res := [(4, none)], body :=
 (.seq (.reg false [] [0, 1] [zc 4 (.bool false)])
 (.seq (.reg false [] [4] [zq 5 0, zm 6 1, zk 7 328 [(.t 5), (.t 6)], zd 8 .geq 7 (.int .i64 0), zm 4 8])
 .ret)) }

/-- sewershed/mesh.Check$2 -/
def N310_mesh_Check_2 : NFun := { np := 2, nt := 14, res := [(3, none)], body :=
 (.seq (.reg false [] [1, 2] [zo 2 0, zc 3 (.bool false)])
 (.seq (.reg false [] [3] [zL 4 6 1, zL 5 6 2, zk 6 311 [(.t 4), (.t 5)], zt 7 6, zm 8 7, zg 8 true (zL 9 6 2), zg 8 true (zL 10 6 1), zg 8 true (zk 11 311 [(.t 9), (.t 10)]), zg 8 true (zt 12 11), ⟨some 13, .pick (.t 8) (.t 12) (.c (.bool false)), none⟩, zm 3 13])
 .ret)) }

/-- sewershed/mesh.separates -/
def N311_mesh_separates : NFun := { np := 2, nt := 42, res := [(4, none)], body :=
 (.seq (.reg false [] [2, 3] [zo 2 0, zo 3 1, zc 4 (.bool false)])
 (.seq (.seq (.reg false [] [2, 3, 8] [zc 8 (.int .i64 0)])
 (.block 0 (.loop (.seq (.reg false [] [2, 3, 8, 9] [zd 9 .lss 8 (.int .i64 3)])
 (.seq (.cond (.t 9) .skip
 (.exit 0))
 (.seq (.block 1 (.seq (.reg false [] [2, 3, 5, 8] [zm 10 8, zm 5 10])
 (.seq (.reg true [0, 1, 3, 0, 8, 24, 56, 120, 0, 0, 775, 2047] [2, 3, 6, 7, 8] [zm 11 5, ⟨some 12, .iadA 3 2 (.t 2) (.t 11), none⟩, zL 13 2 12, zm 14 5, zd 15 .add 14 (.int .i64 1), zd 16 .rem 15 (.int .i64 3), ⟨some 17, .iadA 3 2 (.t 2) (.t 16), none⟩, zL 18 2 17, ⟨some 6, .alc [.int .i64 0, .int .i64 0], none⟩, ⟨some 7, .alc [.int .i64 0, .int .i64 0], none⟩, ⟨none, .st 2 [] (.t 6) (.t 13), none⟩, ⟨none, .st 2 [] (.t 7) (.t 18), none⟩])
 (.seq (.reg false [] [2, 3, 8, 40] [zL 19 2 6, zL 20 2 7, ⟨some 21, .iadA 3 2 (.t 3) (.c (.int .i64 0)), none⟩, zL 22 2 21, zk 23 308 [(.t 19), (.t 20), (.t 22)], zd 24 .leq 23 (.int .i64 0), zm 25 24, zg 25 true (zL 26 2 6), zg 25 true (zL 27 2 7), zg 25 true (⟨some 28, .iadA 3 2 (.t 3) (.c (.int .i64 1)), none⟩), zg 25 true (zL 29 2 28), zg 25 true (zk 30 308 [(.t 26), (.t 27), (.t 29)]), zg 25 true (zd 31 .leq 30 (.int .i64 0)), ⟨some 32, .pick (.t 25) (.t 31) (.c (.bool false)), none⟩, zm 33 32, zg 33 true (zL 34 2 6), zg 33 true (zL 35 2 7), zg 33 true (⟨some 36, .iadA 3 2 (.t 3) (.c (.int .i64 2)), none⟩), zg 33 true (zL 37 2 36), zg 33 true (zk 38 308 [(.t 34), (.t 35), (.t 37)]), zg 33 true (zd 39 .leq 38 (.int .i64 0)), ⟨some 40, .pick (.t 33) (.t 39) (.c (.bool false)), none⟩])
 (.cond (.t 40) (.seq (.reg false [] [4] [zc 4 (.bool true)])
 .ret)
 .skip)))))
 (.reg false [] [2, 3, 8] [zd 41 .add 8 (.int .i64 1), zm 8 41])))))))
 (.seq (.reg false [] [4] [zc 4 (.bool false)])
 .ret))) }

/-- sewershed/locate.valid$1 -/
def N312_locate_valid_1 : NFun := { np := 1, nt := 6, res := [(2, none)], body :=
 (.seq (.reg false [] [1] [zo 1 0, zc 2 (.bool false)])
 (.seq (.reg false [] [2] [zL 3 2 1, zk 4 313 [(.t 3)], zt 5 4, zm 2 5])
 .ret)) }

/-- sewershed/plane.Valid -/
def N313_plane_Valid : NFun := { np := 1, nt := 21, res := [(2, none)], body :=
 (.seq (.reg false [] [1] [zo 1 0, zc 2 (.bool false)])
 (.seq (.reg false [] [2] [zf 3 0 1, zl 4 1 3, ⟨some 5, .bin .geq (.t 4) (.c (.int .i64 (-16777216))), none⟩, zm 6 5, zg 6 true (zf 7 0 1), zg 6 true (zl 8 1 7), zg 6 true (zd 9 .leq 8 (.int .i64 16777216)), ⟨some 10, .pick (.t 6) (.t 9) (.c (.bool false)), none⟩, zm 11 10, zg 11 true (zf 12 1 1), zg 11 true (zl 13 1 12), zg 11 true (⟨some 14, .bin .geq (.t 13) (.c (.int .i64 (-16777216))), none⟩), ⟨some 15, .pick (.t 11) (.t 14) (.c (.bool false)), none⟩, zm 16 15, zg 16 true (zf 17 1 1), zg 16 true (zl 18 1 17), zg 16 true (zd 19 .leq 18 (.int .i64 16777216)), ⟨some 20, .pick (.t 16) (.t 19) (.c (.bool false)), none⟩, zm 2 20])
 .ret)) }

/-- sewershed/locate.corners -/
def N319_locate_corners : NFun := { np := 2, nt := 30, res := [(4, some (9, true))], body :=
 (.seq (.reg false [] [1, 2, 4] [zo 2 0, ⟨some 4, .alc [.int .i64 0, .int .i64 0, .int .i64 0, .int .i64 0, .int .i64 0, .int .i64 0, .int .i64 0, .int .i64 0, .int .i64 0], none⟩])
 (.seq (.reg false [] [2, 4, 5] [zf 6 1 2, zl 7 1 6, zm 8 1, zi 9 4 7 8, zL 10 4 9, ⟨some 5, .alc [.int .i64 0, .int .i64 0, .int .i64 0, .int .i64 0], none⟩, ⟨none, .st 4 [] (.t 5) (.t 10), none⟩])
 (.seq (.reg true [0, 1, 0, 4, 15, 31, 0, 64, 0, 256, 960, 1984, 0, 4096, 0, 16384, 61440, 126976, 262143, 524287] [4] [zf 11 0 2, zl 12 1 11, zf 13 0 5, zl 14 1 13, zi 15 3 12 14, zL 16 3 15, zf 17 0 2, zl 18 1 17, zf 19 1 5, zl 20 1 19, zi 21 3 18 20, zL 22 3 21, zf 23 0 2, zl 24 1 23, zf 25 2 5, zl 26 1 25, zi 27 3 24 26, zL 28 3 27, ⟨some 29, .bld [.int .i64 0, .int .i64 0, .int .i64 0, .int .i64 0, .int .i64 0, .int .i64 0, .int .i64 0, .int .i64 0, .int .i64 0] [(0, 3, (.t 16)), (3, 3, (.t 22)), (6, 3, (.t 28))], none⟩, ⟨none, .st 9 [] (.t 4) (.t 29), none⟩])
 .ret))) }

/-- sewershed/locate.turn -/
def N320_locate_turn : NFun := { np := 3, nt := 30, res := [(6, none)], body :=
 (.seq (.reg false [] [3, 4, 5] [zo 3 0, zo 4 1, zo 5 2, zc 6 (.int .i64 0)])
 (.seq (.reg false [] [6] [zf 7 0 4, zl 8 1 7, zf 9 0 3, zl 10 1 9, zb 11 .sub 8 10, zf 12 1 5, zl 13 1 12, zf 14 1 3, zl 15 1 14, zb 16 .sub 13 15, zb 17 .mul 11 16, zf 18 1 4, zl 19 1 18, zf 20 1 3, zl 21 1 20, zb 22 .sub 19 21, zf 23 0 5, zl 24 1 23, zf 25 0 3, zl 26 1 25, zb 27 .sub 24 26, zb 28 .mul 22 27, zb 29 .sub 17 28, zm 6 29])
 .ret)) }

/-- sewershed/locate.at -/
def N321_locate_at : NFun := { np := 1, nt := 8, res := [(2, some (2, true))], body :=
 (.seq (.reg false [] [1, 2] [zo 1 0, ⟨some 2, .alc [.int .i64 0, .int .i64 0], none⟩])
 (.seq (.reg false [] [2] [zf 3 0 1, zl 4 1 3, zf 5 1 1, zl 6 1 5, ⟨some 7, .bld [.int .i64 0, .int .i64 0] [(0, 1, (.t 4)), (1, 1, (.t 6))], none⟩, ⟨none, .st 2 [] (.t 2) (.t 7), none⟩])
 .ret)) }

/-- sewershed/wide.Add -/
def N327_wide_Add : NFun := { np := 2, nt := 23, res := [(4, some (2, true)), (5, none)], body :=
 (.seq (.reg false [] [2, 3, 4] [zo 2 0, zo 3 1, ⟨some 4, .alc [.int .i64 0, .int .i64 0], none⟩, zc 5 (.int .i64 0)])
 (.seq (.seq (.reg false [] [2, 3, 4, 13] [zL 6 2 2, zk 7 106 [(.t 6)], zt 8 7, zm 9 8, zg 9 false (zL 10 2 3), zg 9 false (zk 11 106 [(.t 10)]), zg 9 false (zt 12 11), ⟨some 13, .pick (.t 9) (.c (.bool true)) (.t 12), none⟩])
 (.cond (.t 13) (.seq (.reg false [] [4, 5] [⟨some 14, .bld [.int .i64 0, .int .i64 0] [], none⟩, ⟨none, .st 2 [] (.t 4) (.t 14), none⟩, zc 5 (.int .i64 1)])
 .ret)
 .skip))
 (.seq (.reg true [0, 1, 0, 7, 15, 31, 63, 63, 255, 511] [4, 5] [zL 15 2 2, zk 16 108 [(.t 15)], zL 17 2 3, zk 18 108 [(.t 17)], zk 19 107 [(.t 16), (.t 18)], zk 20 105 [(.t 19)], zx 21 0 20, zx 22 1 20, ⟨none, .st 2 [] (.t 4) (.t 21), none⟩, zm 5 22])
 .ret))) }

/-- slices.IndexFunc[[][3]sewershed/api.Point,[3]sewershed/api.Point] -/
def N328_slices_IndexFunc___3api_Point__3api_Point : NFun := { np := 2, nt := 19, res := [(4, none)], body :=
 (.seq (.reg false [] [0, 1] [zc 4 (.int .i64 0)])
 (.seq (.seq (.reg false [] [0, 1, 7, 8] [zm 6 0, zn 7 6, zc 8 (.int .i64 0)])
 (.block 0 (.loop (.seq (.reg false [] [0, 1, 7, 8, 9] [zb 9 .lss 8 7])
 (.seq (.cond (.t 9) .skip
 (.exit 0))
 (.seq (.block 1 (.seq (.reg false [] [0, 1, 5, 7, 8] [zm 10 8, zm 5 10])
 (.seq (.reg false [] [0, 1, 5, 7, 8, 16] [zm 11 1, zm 12 0, zm 13 5, zi 14 6 12 13, zL 15 6 14, ⟨some 16, .callv (.t 11) [(.t 15)], none⟩])
 (.cond (.t 16) (.seq (.reg false [] [4] [zm 17 5, zm 4 17])
 .ret)
 .skip))))
 (.reg false [] [0, 1, 7, 8] [zd 18 .add 8 (.int .i64 1), zm 8 18])))))))
 (.seq (.reg false [] [4] [⟨some 4, .mov (.c (.int .i64 (-1))), none⟩])
 .ret))) }

def prog : Nat → Option NFun
  | 11 => some N11_slices_ContainsFunc__int_int
  | 35 => some N35_slices_IndexFunc__int_int
  | 91 => some N91_math_bits_Mul64
  | 92 => some N92_math_bits_Div64
  | 99 => some N99_wide_Product
  | 101 => some N101_wide_Int
  | 102 => some N102_math_bits_LeadingZeros64
  | 103 => some N103_wide_times
  | 104 => some N104_wide_quotient
  | 105 => some N105_wide_placed
  | 106 => some N106_wide_Valid
  | 107 => some N107_wide_sum
  | 108 => some N108_wide_value
  | 110 => some N110_wide_whole
  | 111 => some N111_math_bits_Len64
  | 112 => some N112_wide_size
  | 113 => some N113_wide_signed
  | 206 => some N206_law13_LocatePlane
  | 227 => some N227_law13_awake
  | 228 => some N228_law13_LocatePlane_1
  | 229 => some N229_law13_few
  | 230 => some N230_slices_ContainsFunc__api_Spot_api_Spot
  | 231 => some N231_law13_LocatePlane_2
  | 232 => some N232_ref09_Copy
  | 233 => some N233_locate_Level
  | 234 => some N234_mesh_Valid
  | 239 => some N239_slices_ContainsFunc__api_Point_api_Point
  | 269 => some N269_locate_Exact
  | 270 => some N270_slices_IndexFunc__api_Spot_api_Spot
  | 271 => some N271_wide_Floor
  | 272 => some N272_wide_Ceil
  | 273 => some N273_mesh_Check
  | 274 => some N274_locate_on
  | 275 => some N275_locate_valid
  | 276 => some N276_locate_find
  | 278 => some N278_slices_IndexFunc__api_Point_api_Point
  | 284 => some N284_locate_outer
  | 298 => some N298_mesh_side
  | 300 => some N300_locate_exact
  | 301 => some N301_wide_divided
  | 302 => some N302_mesh_small
  | 303 => some N303_mesh_right
  | 304 => some N304_mesh_point
  | 305 => some N305_mesh_corners
  | 306 => some N306_mesh_Check_1
  | 307 => some N307_mesh_triangle
  | 308 => some N308_mesh_turn
  | 309 => some N309_slices_ContainsFunc___3api_Point__3api_Point
  | 310 => some N310_mesh_Check_2
  | 311 => some N311_mesh_separates
  | 312 => some N312_locate_valid_1
  | 313 => some N313_plane_Valid
  | 319 => some N319_locate_corners
  | 320 => some N320_locate_turn
  | 321 => some N321_locate_at
  | 327 => some N327_wide_Add
  | 328 => some N328_slices_IndexFunc___3api_Point__3api_Point
  | _ => none

end Go.Gv
