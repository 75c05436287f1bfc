/-
  Texts of the proof: GvP.
-/
import Derived.Test.YtaodbcdhomimpaaGreatDoorX5
set_option linter.all false
set_option maxRecDepth 4000
namespace Go.Gv
@[simp] def zm (a b : Nat) : NOper := ⟨some a, .mov (.t b), none⟩
@[simp] def zc (a : Nat) (d : D) : NOper := ⟨some a, .mov (.c d), none⟩
@[simp] def zf (a i b : Nat) : NOper := ⟨some a, .fad i (.t b), none⟩
@[simp] def zl (a n b : Nat) : NOper := ⟨some a, .ld n false (.t b), none⟩
@[simp] def zL (a n b : Nat) : NOper := ⟨some a, .ld n true (.t b), none⟩
@[simp] def zx (a i b : Nat) : NOper := ⟨some a, .ext i (.t b), none⟩
@[simp] def zn (a b : Nat) : NOper := ⟨some a, .len (.t b), none⟩
@[simp] def zq (a b : Nat) : NOper := ⟨some a, .asg (.t b), none⟩
@[simp] def zi (a n b c : Nat) : NOper := ⟨some a, .iadS n (.t b) (.t c), none⟩
@[simp] def zo (a b : Nat) : NOper := ⟨some a, .boxF (.t b), none⟩
@[simp] def zt (a b : Nat) : NOper := ⟨some a, .un .not (.t b), none⟩
@[simp] def zk (a g : Nat) (xs : List Opd) : NOper := ⟨some a, .call g xs [], none⟩
@[simp] def zb (a : Nat) (op : BinOp) (b c : Nat) : NOper := ⟨some a, .bin op (.t b) (.t c), none⟩
@[simp] def zd (a : Nat) (op : BinOp) (b : Nat) (d : D) : NOper := ⟨some a, .bin op (.t b) (.c d), none⟩
@[simp] def zg (c : Nat) (b : Bool) (s : NOper) : NOper := ⟨s.dst, s.op, some (c, b)⟩
def N11_slices_ContainsFunc__int_int : NFun := { np := 2, nt := 9, res := [(4, none)], body :=
 (.seq (.reg false [] [0, 1] [zc 4 (.bool false)])
 (.seq (.reg false [] [4] [zq 5 0, zm 6 1, zk 7 35 [(.t 5), (.t 6)], zd 8 .geq 7 (.int .i64 0), zm 4 8])
 .ret)) }
def N19_slices_Equal__int_int : NFun := { np := 2, nt := 26, res := [(4, none)], body :=
 (.seq (.reg false [] [0, 1] [zc 4 (.bool false)])
 (.seq (.seq (.reg false [] [0, 1, 10] [zm 6 0, zn 7 6, zm 8 1, zn 9 8, zb 10 .neq 7 9])
 (.cond (.t 10) (.seq (.reg false [] [4] [zc 4 (.bool false)])
 .ret)
 .skip))
 (.seq (.seq (.reg false [] [0, 1, 12, 13] [zm 11 0, zn 12 11, zc 13 (.int .i64 0)])
 (.block 0 (.loop (.seq (.reg false [] [0, 1, 12, 13, 14] [zb 14 .lss 13 12])
 (.seq (.cond (.t 14) .skip
 (.exit 0))
 (.seq (.block 1 (.seq (.reg false [] [0, 1, 5, 12, 13] [zm 15 13, zm 5 15])
 (.seq (.reg true [0, 0, 3, 7, 0, 0, 48, 112, 255] [0, 1, 12, 13, 24] [zm 16 0, zm 17 5, zi 18 1 16 17, zl 19 1 18, zm 20 1, zm 21 5, zi 22 1 20 21, zl 23 1 22, zb 24 .neq 19 23])
 (.cond (.t 24) (.seq (.reg false [] [4] [zc 4 (.bool false)])
 .ret)
 .skip))))
 (.reg false [] [0, 1, 12, 13] [zd 25 .add 13 (.int .i64 1), zm 13 25])))))))
 (.seq (.reg false [] [4] [zc 4 (.bool true)])
 .ret)))) }
def N35_slices_IndexFunc__int_int : NFun := { np := 2, nt := 19, res := [(4, none)], body :=
 (.seq (.reg false [] [0, 1] [zc 4 (.int .i64 0)])
 (.seq (.seq (.reg false [] [0, 1, 7, 8] [zm 6 0, zn 7 6, zc 8 (.int .i64 0)])
 (.block 0 (.loop (.seq (.reg false [] [0, 1, 7, 8, 9] [zb 9 .lss 8 7])
 (.seq (.cond (.t 9) .skip
 (.exit 0))
 (.seq (.block 1 (.seq (.reg false [] [0, 1, 5, 7, 8] [zm 10 8, zm 5 10])
 (.seq (.reg false [] [0, 1, 5, 7, 8, 16] [zm 11 1, zm 12 0, zm 13 5, zi 14 1 12 13, zl 15 1 14, ⟨some 16, .callv (.t 11) [(.t 15)], none⟩])
 (.cond (.t 16) (.seq (.reg false [] [4] [zm 17 5, zm 4 17])
 .ret)
 .skip))))
 (.reg false [] [0, 1, 7, 8] [zd 18 .add 8 (.int .i64 1), zm 8 18])))))))
 (.seq (.reg false [] [4] [⟨some 4, .mov (.c (.int .i64 (-1))), none⟩])
 .ret))) }
def N67_ref03_Times : NFun := { np := 2, nt := 16, res := [(4, some (3, true))], body :=
 (.seq (.reg false [] [0, 1, 4] [⟨some 4, .alc [.int .u64 0, .int .u64 0, .bool false], none⟩])
 (.seq (.reg false [] [4] [zm 5 0, zk 6 86 [(.t 5)], zm 7 1, zk 8 86 [(.t 7)], zk 9 85 [(.t 6), (.t 8)], zm 10 0, zd 11 .lss 10 (.int .i64 0), zm 12 1, zd 13 .lss 12 (.int .i64 0), ⟨some 14, .beq true [] (.t 11) (.t 13), none⟩, zk 15 84 [(.t 9), (.t 14)], ⟨none, .st 3 [] (.t 4) (.t 15), none⟩])
 .ret)) }
def N83_ref03_Plus : NFun := { np := 2, nt := 26, res := [(4, some (2, true))], body :=
 (.seq (.reg false [] [2, 3, 4] [zo 2 0, zo 3 1, ⟨some 4, .alc [.int .u64 0, .int .u64 0], none⟩])
 (.seq (.reg false [] [2, 3, 4, 5] [zf 7 1 2, zl 8 1 7, zf 9 1 3, zl 10 1 9, zb 11 .add 8 10, zm 5 11])
 (.seq (.reg false [] [2, 4, 5, 6] [zf 12 0 2, zl 13 1 12, zf 14 0 3, zl 15 1 14, zb 16 .add 13 15, zm 6 16])
 (.seq (.seq (.reg false [] [4, 5, 6, 20] [zm 17 5, zf 18 1 2, zl 19 1 18, zb 20 .lss 17 19])
 (.cond (.t 20) (.reg false [] [4, 5, 6] [zm 21 6, zd 22 .add 21 (.int .u64 1), zm 6 22])
 .skip))
 (.seq (.reg false [] [4] [zm 23 6, zm 24 5, ⟨some 25, .bld [.int .u64 0, .int .u64 0] [(0, 1, (.t 23)), (1, 1, (.t 24))], none⟩, ⟨none, .st 2 [] (.t 4) (.t 25), none⟩])
 .ret))))) }
def N84_ref03_Made : NFun := { np := 2, nt := 13, res := [(4, some (3, true))], body :=
 (.seq (.reg false [] [1, 2, 4] [zo 2 0, ⟨some 4, .alc [.int .u64 0, .int .u64 0, .bool false], none⟩])
 (.seq (.reg true [0, 0, 2, 6, 6, 30, 62, 127, 255] [4] [zL 5 2 2, zm 6 1, zm 7 6, zg 7 true (zL 8 2 2), zg 7 true (⟨some 9, .bld [.int .u64 0, .int .u64 0] [], none⟩), zg 7 true (⟨some 10, .beq true [0, 0] (.t 8) (.t 9), none⟩), ⟨some 11, .pick (.t 7) (.t 10) (.c (.bool false)), none⟩, ⟨some 12, .bld [.int .u64 0, .int .u64 0, .bool false] [(0, 2, (.t 5)), (2, 1, (.t 11))], none⟩, ⟨none, .st 3 [] (.t 4) (.t 12), none⟩])
 .ret)) }
def N85_ref03_Mul : NFun := { np := 2, nt := 50, res := [(4, some (2, true))], body :=
 (.seq (.reg false [] [0, 1, 4] [⟨some 4, .alc [.int .u64 0, .int .u64 0], none⟩])
 (.seq (.reg false [] [4, 5, 6, 7, 8] [zm 12 0, zd 13 .shr 12 (.int .u64 32), zm 14 0, zd 15 .and 14 (.int .u64 4294967295), zm 16 1, zd 17 .shr 16 (.int .u64 32), zm 18 1, zd 19 .and 18 (.int .u64 4294967295), zm 5 13, zm 6 15, zm 7 17, zm 8 19])
 (.seq (.reg false [] [4, 5, 6, 7, 8, 9] [zm 20 6, zm 21 8, zb 22 .mul 20 21, zm 9 22])
 (.seq (.reg false [] [4, 5, 6, 7, 9, 10] [zm 23 5, zm 24 8, zb 25 .mul 23 24, zm 26 9, zd 27 .shr 26 (.int .u64 32), zb 28 .add 25 27, zm 10 28])
 (.seq (.reg false [] [4, 5, 7, 9, 10, 11] [zm 29 6, zm 30 7, zb 31 .mul 29 30, zm 32 10, zd 33 .and 32 (.int .u64 4294967295), zb 34 .add 31 33, zm 11 34])
 (.seq (.reg false [] [4] [zm 35 5, zm 36 7, zb 37 .mul 35 36, zm 38 10, zd 39 .shr 38 (.int .u64 32), zb 40 .add 37 39, zm 41 11, zd 42 .shr 41 (.int .u64 32), zb 43 .add 40 42, zm 44 11, zd 45 .shl 44 (.int .u64 32), zm 46 9, zd 47 .and 46 (.int .u64 4294967295), zb 48 .add 45 47, ⟨some 49, .bld [.int .u64 0, .int .u64 0] [(0, 1, (.t 43)), (1, 1, (.t 48))], none⟩, ⟨none, .st 2 [] (.t 4) (.t 49), none⟩])
 .ret)))))) }
def N86_ref03_Size : NFun := { np := 1, nt := 10, res := [(2, none)], body :=
 (.seq (.reg false [] [0] [zc 2 (.int .u64 0)])
 (.seq (.seq (.reg false [] [0, 4] [zm 3 0, zd 4 .lss 3 (.int .i64 0)])
 (.cond (.t 4) (.seq (.reg false [] [2] [zm 5 0, ⟨some 6, .conv .u64 (.t 5), none⟩, ⟨some 7, .bin .sub (.c (.int .u64 0)) (.t 6), none⟩, zm 2 7])
 .ret)
 .skip))
 (.seq (.reg false [] [2] [zm 8 0, ⟨some 9, .conv .u64 (.t 8), none⟩, zm 2 9])
 .ret))) }
def N87_ref03_Less : NFun := { np := 2, nt := 24, res := [(4, none)], body :=
 (.seq (.reg false [] [2, 3] [zo 2 0, zo 3 1, zc 4 (.bool false)])
 (.seq (.reg false [] [4] [zf 5 0 2, zl 6 1 5, zf 7 0 3, zl 8 1 7, zb 9 .lss 6 8, zm 10 9, zg 10 false (zf 11 0 2), zg 10 false (zl 12 1 11), zg 10 false (zf 13 0 3), zg 10 false (zl 14 1 13), zg 10 false (zb 15 .eql 12 14), zg 10 false (zm 16 15), zg 16 true (zf 17 1 2), zg 16 true (zl 18 1 17), zg 16 true (zf 19 1 3), zg 16 true (zl 20 1 19), zg 16 true (zb 21 .lss 18 20), zg 10 false (⟨some 22, .pick (.t 16) (.t 21) (.c (.bool false)), none⟩), ⟨some 23, .pick (.t 10) (.c (.bool true)) (.t 22), none⟩, zm 4 23])
 .ret)) }
def N91_math_bits_Mul64 : NFun := { np := 2, nt := 51, res := [(4, none), (5, none)], body :=
 (.seq (.reg false [] [0, 1] [zc 4 (.int .u64 0), zc 5 (.int .u64 0)])
 (.seq (.reg false [] [0, 1, 6] [zm 14 0, zd 15 .and 14 (.int .u64 4294967295), zm 6 15])
 (.seq (.reg false [] [0, 1, 6, 7] [zm 16 0, zd 17 .shr 16 (.int .u64 32), zm 7 17])
 (.seq (.reg false [] [0, 1, 6, 7, 8] [zm 18 1, zd 19 .and 18 (.int .u64 4294967295), zm 8 19])
 (.seq (.reg false [] [0, 1, 6, 7, 8, 9] [zm 20 1, zd 21 .shr 20 (.int .u64 32), zm 9 21])
 (.seq (.reg false [] [0, 1, 6, 7, 8, 9, 10] [zm 22 6, zm 23 8, zb 24 .mul 22 23, zm 10 24])
 (.seq (.reg false [] [0, 1, 6, 7, 9, 11] [zm 25 7, zm 26 8, zb 27 .mul 25 26, zm 28 10, zd 29 .shr 28 (.int .u64 32), zb 30 .add 27 29, zm 11 30])
 (.seq (.reg false [] [0, 1, 6, 7, 9, 11, 12] [zm 31 11, zd 32 .and 31 (.int .u64 4294967295), zm 12 32])
 (.seq (.reg false [] [0, 1, 6, 7, 9, 12, 13] [zm 33 11, zd 34 .shr 33 (.int .u64 32), zm 13 34])
 (.seq (.reg false [] [0, 1, 7, 9, 12, 13] [zm 35 12, zm 36 6, zm 37 9, zb 38 .mul 36 37, zb 39 .add 35 38, zm 12 39])
 (.seq (.reg false [] [0, 1, 4] [zm 40 7, zm 41 9, zb 42 .mul 40 41, zm 43 13, zb 44 .add 42 43, zm 45 12, zd 46 .shr 45 (.int .u64 32), zb 47 .add 44 46, zm 4 47])
 (.seq (.reg false [] [4, 5] [zm 48 0, zm 49 1, zb 50 .mul 48 49, zm 5 50])
 .ret)))))))))))) }
def N95_ref03_Minus : NFun := { np := 2, nt := 25, res := [(4, some (2, true))], body :=
 (.seq (.reg false [] [2, 3, 4] [zo 2 0, zo 3 1, ⟨some 4, .alc [.int .u64 0, .int .u64 0], none⟩])
 (.seq (.reg false [] [2, 3, 4, 5] [zf 6 0 2, zl 7 1 6, zf 8 0 3, zl 9 1 8, zb 10 .sub 7 9, zm 5 10])
 (.seq (.seq (.reg false [] [2, 3, 4, 5, 15] [zf 11 1 2, zl 12 1 11, zf 13 1 3, zl 14 1 13, zb 15 .lss 12 14])
 (.cond (.t 15) (.reg false [] [2, 3, 4, 5] [zm 16 5, zd 17 .sub 16 (.int .u64 1), zm 5 17])
 .skip))
 (.seq (.reg false [] [4] [zm 18 5, zf 19 1 2, zl 20 1 19, zf 21 1 3, zl 22 1 21, zb 23 .sub 20 22, ⟨some 24, .bld [.int .u64 0, .int .u64 0] [(0, 1, (.t 18)), (1, 1, (.t 23))], none⟩, ⟨none, .st 2 [] (.t 4) (.t 24), none⟩])
 .ret)))) }
def N99_wide_Product : NFun := { np := 2, nt := 12, res := [(4, some (2, true)), (5, none)], body :=
 (.seq (.reg false [] [0, 1, 4] [⟨some 4, .alc [.int .i64 0, .int .i64 0], none⟩, zc 5 (.int .i64 0)])
 (.seq (.reg false [] [4, 5] [zm 6 0, zm 7 1, zk 8 103 [(.t 6), (.t 7)], zk 9 105 [(.t 8)], zx 10 0 9, zx 11 1 9, ⟨none, .st 2 [] (.t 4) (.t 10), none⟩, zm 5 11])
 .ret)) }
def N103_wide_times : NFun := { np := 2, nt := 23, res := [(4, some (3, true))], body :=
 (.seq (.reg false [] [0, 1, 4] [⟨some 4, .alc [.int .u64 0, .int .u64 0, .bool false], none⟩])
 (.seq (.reg false [] [0, 1, 4, 5, 6] [zm 8 0, zk 9 112 [(.t 8)], zm 10 1, zk 11 112 [(.t 10)], zk 12 91 [(.t 9), (.t 11)], zm 7 12, zx 13 0 7, zx 14 1 7, zm 5 13, zm 6 14])
 (.seq (.reg false [] [4] [zm 15 5, zm 16 6, zm 17 0, zd 18 .lss 17 (.int .i64 0), zm 19 1, zd 20 .lss 19 (.int .i64 0), ⟨some 21, .beq true [] (.t 18) (.t 20), none⟩, zk 22 113 [(.t 15), (.t 16), (.t 21)], ⟨none, .st 3 [] (.t 4) (.t 22), none⟩])
 .ret))) }
def N105_wide_placed : NFun := { np := 1, nt := 56, res := [(2, some (2, true)), (3, none)], body :=
 (.seq (.reg false [] [1, 2] [zo 1 0, ⟨some 2, .alc [.int .i64 0, .int .i64 0], none⟩, zc 3 (.int .i64 0)])
 (.seq (.seq (.reg false [] [1, 2, 23] [zf 6 0 1, zl 7 1 6, zd 8 .gtr 7 (.int .u64 72057594037927936), zm 9 8, zg 9 false (zf 10 0 1), zg 9 false (zl 11 1 10), zg 9 false (zd 12 .eql 11 (.int .u64 72057594037927936)), zg 9 false (zm 13 12), zg 13 true (zf 14 1 1), zg 13 true (zl 15 1 14), zg 13 true (zd 16 .gtr 15 (.int .u64 0)), zg 13 true (zm 17 16), zg 17 false (zf 18 2 1), zg 17 false (zl 19 1 18), zg 17 false (zt 20 19), zg 13 true (⟨some 21, .pick (.t 17) (.c (.bool true)) (.t 20), none⟩), zg 9 false (⟨some 22, .pick (.t 13) (.t 21) (.c (.bool false)), none⟩), ⟨some 23, .pick (.t 9) (.c (.bool true)) (.t 22), none⟩])
 (.cond (.t 23) (.seq (.reg false [] [2, 3] [⟨some 24, .bld [.int .i64 0, .int .i64 0] [], none⟩, ⟨none, .st 2 [] (.t 2) (.t 24), none⟩, zc 3 (.int .i64 5)])
 .ret)
 .skip))
 (.seq (.reg true [0, 1, 3, 0, 8, 24, 63, 127, 0, 256, 768, 1792, 255, 8191] [1, 2, 4, 5] [zf 25 0 1, zl 26 1 25, zd 27 .shl 26 (.int .u64 4), zf 28 1 1, zl 29 1 28, zd 30 .shr 29 (.int .u64 60), zb 31 .or 27 30, ⟨some 32, .conv .i64 (.t 31), none⟩, zf 33 1 1, zl 34 1 33, zd 35 .and 34 (.int .u64 1152921504606846975), ⟨some 36, .conv .i64 (.t 35), none⟩, zm 4 32, zm 5 36])
 (.seq (.block 0 (.seq (.reg false [] [2, 4, 5, 37] [zf 38 2 1, zl 39 1 38, zt 40 39, zm 37 40])
 (.cond (.t 37) (.seq (.reg false [] [2, 3] [zm 41 4, zm 42 5, ⟨some 43, .bld [.int .i64 0, .int .i64 0] [(0, 1, (.t 41)), (1, 1, (.t 42))], none⟩, ⟨none, .st 2 [] (.t 2) (.t 43), none⟩, zc 3 (.int .i64 0)])
 .ret)
 (.seq (.reg false [] [2, 4, 5, 44] [zm 45 5, zd 46 .eql 45 (.int .i64 0), zm 44 46])
 (.cond (.t 44) (.seq (.reg false [] [2, 3] [zm 47 4, ⟨some 48, .un .neg (.t 47), none⟩, ⟨some 49, .bld [.int .i64 0, .int .i64 0] [(0, 1, (.t 48))], none⟩, ⟨none, .st 2 [] (.t 2) (.t 49), none⟩, zc 3 (.int .i64 0)])
 .ret)
 .skip)))))
 (.seq (.reg false [] [2, 3] [zm 50 4, ⟨some 51, .un .neg (.t 50), none⟩, zd 52 .sub 51 (.int .i64 1), zm 53 5, ⟨some 54, .bin .sub (.c (.int .i64 1152921504606846976)) (.t 53), none⟩, ⟨some 55, .bld [.int .i64 0, .int .i64 0] [(0, 1, (.t 52)), (1, 1, (.t 54))], none⟩, ⟨none, .st 2 [] (.t 2) (.t 55), none⟩, zc 3 (.int .i64 0)])
 .ret))))) }
def N106_wide_Valid : NFun := { np := 1, nt := 21, res := [(2, none)], body :=
 (.seq (.reg false [] [1] [zo 1 0, zc 2 (.bool false)])
 (.seq (.reg false [] [2] [zf 3 0 1, zl 4 1 3, ⟨some 5, .bin .geq (.t 4) (.c (.int .i64 (-1152921504606846976))), none⟩, zm 6 5, zg 6 true (zf 7 0 1), zg 6 true (zl 8 1 7), zg 6 true (zd 9 .lss 8 (.int .i64 1152921504606846976)), ⟨some 10, .pick (.t 6) (.t 9) (.c (.bool false)), none⟩, zm 11 10, zg 11 true (zf 12 1 1), zg 11 true (zl 13 1 12), zg 11 true (zd 14 .geq 13 (.int .i64 0)), ⟨some 15, .pick (.t 11) (.t 14) (.c (.bool false)), none⟩, zm 16 15, zg 16 true (zf 17 1 1), zg 16 true (zl 18 1 17), zg 16 true (zd 19 .lss 18 (.int .i64 1152921504606846976)), ⟨some 20, .pick (.t 16) (.t 19) (.c (.bool false)), none⟩, zm 2 20])
 .ret)) }
def S1 : List UInt8 := [0, 1, 2, 2, 3, 3, 3, 3, 4, 4, 4, 4, 4, 4, 4, 4, 5, 5, 5, 5, 5, 5, 5, 5, 5, 5, 5, 5, 5, 5, 5, 5, 6, 6, 6, 6, 6, 6, 6, 6, 6, 6, 6, 6, 6, 6, 6, 6, 6, 6, 6, 6, 6, 6, 6, 6, 6, 6, 6, 6, 6, 6, 6, 6, 7, 7, 7, 7, 7, 7, 7, 7, 7, 7, 7, 7, 7, 7, 7, 7, 7, 7, 7, 7, 7, 7, 7, 7, 7, 7, 7, 7, 7, 7, 7, 7, 7, 7, 7, 7, 7, 7, 7, 7, 7, 7, 7, 7, 7, 7, 7, 7, 7, 7, 7, 7, 7, 7, 7, 7, 7, 7, 7, 7, 7, 7, 7, 7, 8, 8, 8, 8, 8, 8, 8, 8, 8, 8, 8, 8, 8, 8, 8, 8, 8, 8, 8, 8, 8, 8, 8, 8, 8, 8, 8, 8, 8, 8, 8, 8, 8, 8, 8, 8, 8, 8, 8, 8, 8, 8, 8, 8, 8, 8, 8, 8, 8, 8, 8, 8, 8, 8, 8, 8, 8, 8, 8, 8, 8, 8, 8, 8, 8, 8, 8, 8, 8, 8, 8, 8, 8, 8, 8, 8, 8, 8, 8, 8, 8, 8, 8, 8, 8, 8, 8, 8, 8, 8, 8, 8, 8, 8, 8, 8, 8, 8, 8, 8, 8, 8, 8, 8, 8, 8, 8, 8, 8, 8, 8, 8, 8, 8, 8, 8, 8, 8, 8, 8, 8, 8, 8, 8, 8, 8, 8, 8]
def N111_math_bits_Len64 : NFun := { np := 1, nt := 25, res := [(2, none)], body :=
 (.seq (.reg false [] [0, 2] [zc 2 (.int .i64 0)])
 (.seq (.seq (.reg false [] [0, 2, 4] [zm 3 0, zd 4 .geq 3 (.int .u64 4294967296)])
 (.cond (.t 4) (.seq (.reg false [] [0] [zm 5 0, zd 6 .shr 5 (.int .u64 32), zm 0 6])
 (.reg false [] [0, 2] [zc 2 (.int .i64 32)]))
 .skip))
 (.seq (.seq (.reg false [] [0, 2, 8] [zm 7 0, zd 8 .geq 7 (.int .u64 65536)])
 (.cond (.t 8) (.seq (.reg false [] [0, 2] [zm 9 0, zd 10 .shr 9 (.int .u64 16), zm 0 10])
 (.reg false [] [0, 2] [zm 11 2, zd 12 .add 11 (.int .i64 16), zm 2 12]))
 .skip))
 (.seq (.seq (.reg false [] [0, 2, 14] [zm 13 0, zd 14 .geq 13 (.int .u64 256)])
 (.cond (.t 14) (.seq (.reg false [] [0, 2] [zm 15 0, zd 16 .shr 15 (.int .u64 8), zm 0 16])
 (.reg false [] [0, 2] [zm 17 2, zd 18 .add 17 (.int .i64 8), zm 2 18]))
 .skip))
 (.seq (.reg false [] [2] [zm 19 2, zm 20 0, ⟨some 21, .conv .u8 (.t 20), none⟩, ⟨some 22, .idxS (.c (.str S1)) (.t 21), none⟩, ⟨some 23, .conv .i64 (.t 22), none⟩, zb 24 .add 19 23, zm 2 24])
 .ret))))) }
def N112_wide_size : NFun := { np := 1, nt := 10, res := [(2, none)], body :=
 (.seq (.reg false [] [0] [zc 2 (.int .u64 0)])
 (.seq (.seq (.reg false [] [0, 4] [zm 3 0, zd 4 .lss 3 (.int .i64 0)])
 (.cond (.t 4) (.seq (.reg false [] [2] [zm 5 0, ⟨some 6, .conv .u64 (.t 5), none⟩, ⟨some 7, .un .neg (.t 6), none⟩, zm 2 7])
 .ret)
 .skip))
 (.seq (.reg false [] [2] [zm 8 0, ⟨some 9, .conv .u64 (.t 8), none⟩, zm 2 9])
 .ret))) }
def N113_wide_signed : NFun := { np := 3, nt := 19, res := [(6, some (3, true))], body :=
 (.seq (.reg false [] [0, 1, 2, 6] [⟨some 6, .alc [.int .u64 0, .int .u64 0, .bool false], none⟩])
 (.seq (.reg false [] [6] [zm 7 0, zm 8 1, zm 9 2, zm 10 9, zg 10 true (zm 11 0), zg 10 true (zd 12 .neq 11 (.int .u64 0)), zg 10 true (zm 13 12), zg 13 false (zm 14 1), zg 13 false (zd 15 .neq 14 (.int .u64 0)), zg 10 true (⟨some 16, .pick (.t 13) (.c (.bool true)) (.t 15), none⟩), ⟨some 17, .pick (.t 10) (.t 16) (.c (.bool false)), none⟩, ⟨some 18, .bld [.int .u64 0, .int .u64 0, .bool false] [(0, 1, (.t 7)), (1, 1, (.t 8)), (2, 1, (.t 17))], none⟩, ⟨none, .st 3 [] (.t 6) (.t 18), none⟩])
 .ret)) }
def N211_law10_awake : NFun := { np := 0, nt := 63, res := [(0, none)], body :=
 (.seq (.reg false [] [] [zc 0 (.bool false)])
 (.seq (.reg false [] [1, 2] [zk 10 252 [(.c (.int .i64 3))], zk 11 220 [(.t 10)], zm 9 11, zx 12 0 9, zx 13 1 9, zq 1 12, zm 2 13])
 (.seq (.reg false [] [1, 2, 3, 4] [zk 15 252 [(.c (.int .i64 0))], zk 16 213 [(.t 15)], zm 14 16, zx 17 0 14, zx 18 1 14, zq 3 17, zm 4 18])
 (.seq (.reg false [] [1, 2, 3, 4, 5, 6] [zk 20 252 [(.c (.int .i64 3))], zk 21 213 [(.t 20)], zm 19 21, zx 22 0 19, zx 23 1 19, zq 5 22, zm 6 23])
 (.seq (.reg false [] [1, 2, 3, 4, 5, 6, 7, 8] [zk 25 252 [(.c (.int .i64 3))], zk 26 214 [(.t 25), (.c (.int .i64 0))], zm 24 26, zx 27 0 24, zx 28 1 24, zq 7 27, zm 8 28])
 (.seq (.reg false [] [0] [zm 29 2, zd 30 .eql 29 (.int .i64 0), zm 31 30, zg 31 true (zq 32 1), zg 31 true (⟨some 33, .bls 1 2 [.int .i64 0] [] [(0, (.c (.int .i64 12))), (1, (.c (.int .i64 9)))], none⟩), zg 31 true (zk 34 19 [(.t 32), (.t 33)]), ⟨some 35, .pick (.t 31) (.t 34) (.c (.bool false)), none⟩, zm 36 35, zg 36 true (zm 37 4), zg 36 true (zd 38 .eql 37 (.int .i64 0)), ⟨some 39, .pick (.t 36) (.t 38) (.c (.bool false)), none⟩, zm 40 39, zg 40 true (zq 41 3), zg 40 true (⟨some 42, .bls 1 2 [.int .i64 0] [] [(0, (.c (.int .i64 (-1)))), (1, (.c (.int .i64 (-1))))], none⟩), zg 40 true (zk 43 19 [(.t 41), (.t 42)]), ⟨some 44, .pick (.t 40) (.t 43) (.c (.bool false)), none⟩, zm 45 44, zg 45 true (zm 46 6), zg 45 true (zd 47 .eql 46 (.int .i64 0)), ⟨some 48, .pick (.t 45) (.t 47) (.c (.bool false)), none⟩, zm 49 48, zg 49 true (zq 50 5), zg 49 true (⟨some 51, .bls 1 2 [.int .i64 0] [] [(0, (.c (.int .i64 1))), (1, (.c (.int .i64 (-1))))], none⟩), zg 49 true (zk 52 19 [(.t 50), (.t 51)]), ⟨some 53, .pick (.t 49) (.t 52) (.c (.bool false)), none⟩, zm 54 53, zg 54 true (zm 55 8), zg 54 true (zd 56 .eql 55 (.int .i64 0)), ⟨some 57, .pick (.t 54) (.t 56) (.c (.bool false)), none⟩, zm 58 57, zg 58 true (zq 59 7), zg 58 true (⟨some 60, .bls 1 2 [.int .i64 0] [] [(0, (.c (.int .i64 0))), (1, (.c (.int .i64 1)))], none⟩), zg 58 true (zk 61 19 [(.t 59), (.t 60)]), ⟨some 62, .pick (.t 58) (.t 61) (.c (.bool false)), none⟩, zm 0 62])
 .ret)))))) }
def N212_law10_large : NFun := { np := 1, nt := 37, res := [(2, none)], body :=
 (.seq (.reg false [] [1] [zo 1 0, zc 2 (.bool false)])
 (.seq (.reg false [] [2] [zf 3 0 1, zl 4 1 3, zn 5 4, zd 6 .gtr 5 (.int .i64 80), zm 7 6, zg 7 true (zf 8 0 1), zg 7 true (zl 9 1 8), zg 7 true (zn 10 9), zg 7 true (zd 11 .leq 10 (.int .i64 2000)), ⟨some 12, .pick (.t 7) (.t 11) (.c (.bool false)), none⟩, zm 13 12, zg 13 false (zf 14 1 1), zg 13 false (zl 15 1 14), zg 13 false (zn 16 15), zg 13 false (zd 17 .gtr 16 (.int .i64 80)), zg 13 false (zm 18 17), zg 18 true (zf 19 1 1), zg 18 true (zl 20 1 19), zg 18 true (zn 21 20), zg 18 true (zd 22 .leq 21 (.int .i64 4000)), zg 13 false (⟨some 23, .pick (.t 18) (.t 22) (.c (.bool false)), none⟩), ⟨some 24, .pick (.t 13) (.c (.bool true)) (.t 23), none⟩, zm 25 24, zg 25 false (zf 26 0 1), zg 25 false (zl 27 1 26), zg 25 false (zn 28 27), zg 25 false (zd 29 .gtr 28 (.int .i64 2010)), ⟨some 30, .pick (.t 25) (.c (.bool true)) (.t 29), none⟩, zm 31 30, zg 31 false (zf 32 1 1), zg 31 false (zl 33 1 32), zg 31 false (zn 34 33), zg 31 false (zd 35 .gtr 34 (.int .i64 4010)), ⟨some 36, .pick (.t 31) (.c (.bool true)) (.t 35), none⟩, zm 2 36])
 .ret)) }
def N213_relief_Flow : NFun := { np := 1, nt := 16, res := [(2, none), (3, none)], body :=
 (.seq (.reg false [] [1] [zo 1 0, zc 2 .nils, zc 3 (.int .i64 0)])
 (.seq (.reg false [] [4, 5] [zL 7 2 1, zk 8 253 [(.t 7)], zm 6 8, zx 9 0 6, zx 10 1 6, zm 4 9, zm 5 10])
 (.seq (.seq (.reg false [] [4, 5, 12] [zm 11 5, zd 12 .neq 11 (.int .i64 0)])
 (.cond (.t 12) (.seq (.reg false [] [2, 3] [zm 13 5, zc 2 .nils, zm 3 13])
 .ret)
 .skip))
 (.seq (.reg false [] [2, 3] [zm 14 4, zk 15 254 [(.t 14)], zq 2 15, zc 3 (.int .i64 0)])
 .ret)))) }
def N214_relief_Path : NFun := { np := 2, nt := 34, res := [(4, none), (5, none)], body :=
 (.seq (.reg false [] [1, 2] [zo 2 0, zc 4 .nils, zc 5 (.int .i64 0)])
 (.seq (.reg false [] [1, 6, 7] [zL 10 2 2, zk 11 253 [(.t 10)], zm 9 11, zx 12 0 9, zx 13 1 9, zm 6 12, zm 7 13])
 (.seq (.block 0 (.seq (.reg false [] [1, 6, 7, 14] [zm 15 7, zd 16 .neq 15 (.int .i64 0), zm 14 16])
 (.cond (.t 14) (.seq (.reg false [] [4, 5] [zm 17 7, zc 4 .nils, zm 5 17])
 .ret)
 (.seq (.reg false [] [1, 6, 18] [zm 19 6, zm 20 1, ⟨some 21, .bls 1 1 [.int .i64 0] [] [(0, (.t 20))], none⟩, zk 22 255 [(.t 19), (.t 21)], zt 23 22, zm 18 23])
 (.cond (.t 18) (.seq (.reg false [] [4, 5] [zc 4 .nils, zc 5 (.int .i64 2)])
 .ret)
 .skip)))))
 (.seq (.reg false [] [1, 6, 8] [⟨some 8, .nilo 1, none⟩])
 (.seq (.block 1 (.loop (.seq (.seq (.reg false [] [1, 6, 8, 25] [zm 24 1, zd 25 .geq 24 (.int .i64 0)])
 (.cond (.t 25) .skip
 (.exit 1)))
 (.block 2 (.seq (.reg false [] [1, 6, 8] [zm 26 8, zm 27 1, ⟨some 28, .bls 1 1 [.int .i64 0] [] [(0, (.t 27))], none⟩, ⟨some 29, .app 1 8 false (.t 26) (.t 28), none⟩, zq 8 29])
 (.reg false [] [1, 6, 8] [zm 30 6, zm 31 1, zk 32 256 [(.t 30), (.t 31)], zm 1 32]))))))
 (.seq (.reg false [] [4, 5] [zq 33 8, zq 4 33, zc 5 (.int .i64 0)])
 .ret)))))) }
def N215_ref09_Valid : NFun := { np := 1, nt := 11, res := [(2, none)], body :=
 (.seq (.reg false [] [1] [zo 1 0, zc 2 (.bool false)])
 (.seq (.reg false [] [2] [zL 3 2 1, zk 4 257 [(.t 3)], zm 5 4, zg 5 true (zL 6 2 1), zg 5 true (zk 7 258 [(.t 6)]), zg 5 true (zn 8 7), zg 5 true (zd 9 .eql 8 (.int .i64 0)), ⟨some 10, .pick (.t 5) (.t 9) (.c (.bool false)), none⟩, zm 2 10])
 .ret)) }
def N216_ref10_Flow : NFun := { np := 1, nt := 23, res := [(2, none)], body :=
 (.seq (.reg false [] [1] [zo 1 0, zc 2 .nils])
 (.seq (.reg false [] [1, 3] [zL 6 2 1, zk 7 259 [(.t 6)], zq 3 7])
 (.seq (.reg false [] [1, 3, 4] [⟨some 4, .nilo 1, none⟩])
 (.seq (.seq (.reg false [] [1, 3, 4, 5] [zc 5 (.int .i64 0)])
 (.block 0 (.loop (.seq (.seq (.reg false [] [1, 3, 4, 5, 12] [zm 8 5, zf 9 1 1, zl 10 1 9, zn 11 10, zb 12 .lss 8 11])
 (.cond (.t 12) .skip
 (.exit 0)))
 (.seq (.block 1 (.reg false [] [1, 3, 4, 5] [zm 15 4, zL 16 2 1, zm 17 3, zm 18 5, zk 19 260 [(.t 16), (.t 17), (.t 18)], ⟨some 20, .bls 1 1 [.int .i64 0] [] [(0, (.t 19))], none⟩, ⟨some 21, .app 1 8 false (.t 15) (.t 20), none⟩, zq 4 21]))
 (.reg false [] [1, 3, 4, 5] [zm 13 5, zd 14 .add 13 (.int .i64 1), zm 5 14]))))))
 (.seq (.reg false [] [2] [zq 22 4, zq 2 22])
 .ret))))) }
def N218_ref10_Path : NFun := { np := 2, nt := 31, res := [(4, none)], body :=
 (.seq (.reg false [] [0, 1] [zc 4 .nils])
 (.seq (.reg false [] [0, 5] [zm 6 1, ⟨some 7, .bls 1 1 [.int .i64 0] [] [(0, (.t 6))], none⟩, zq 5 7])
 (.seq (.block 0 (.loop (.seq (.seq (.reg false [] [0, 5, 17] [zm 8 0, zm 9 5, zm 10 5, zn 11 10, zd 12 .sub 11 (.int .i64 1), zi 13 1 9 12, zl 14 1 13, zi 15 1 8 14, zl 16 1 15, zd 17 .geq 16 (.int .i64 0)])
 (.cond (.t 17) .skip
 (.exit 0)))
 (.block 1 (.reg false [] [0, 5] [zm 18 5, zm 19 0, zm 20 5, zm 21 5, zn 22 21, zd 23 .sub 22 (.int .i64 1), zi 24 1 20 23, zl 25 1 24, zi 26 1 19 25, zl 27 1 26, ⟨some 28, .bls 1 1 [.int .i64 0] [] [(0, (.t 27))], none⟩, ⟨some 29, .app 1 8 false (.t 18) (.t 28), none⟩, zq 5 29])))))
 (.seq (.reg false [] [4] [zq 30 5, zq 4 30])
 .ret)))) }
def N220_relief_Sums : NFun := { np := 1, nt := 18, res := [(2, none), (3, none)], body :=
 (.seq (.reg false [] [1] [zo 1 0, zc 2 .nils, zc 3 (.int .i64 0)])
 (.seq (.reg false [] [4, 5] [zL 7 2 1, zk 8 253 [(.t 7)], zm 6 8, zx 9 0 6, zx 10 1 6, zm 4 9, zm 5 10])
 (.seq (.seq (.reg false [] [4, 5, 12] [zm 11 5, zd 12 .neq 11 (.int .i64 0)])
 (.cond (.t 12) (.seq (.reg false [] [2, 3] [zm 13 5, zc 2 .nils, zm 3 13])
 .ret)
 .skip))
 (.seq (.reg false [] [2, 3] [zm 14 4, ⟨some 15, .nck (.t 14), none⟩, zf 16 1 15, zl 17 1 16, zq 2 17, zc 3 (.int .i64 0)])
 .ret)))) }
def N221_mesh_Neighbours : NFun := { np := 1, nt := 9, res := [(2, none), (3, none)], body :=
 (.seq (.reg false [] [1] [zo 1 0, zc 2 .nils, zc 3 (.int .i64 0)])
 (.seq (.seq (.reg false [] [1, 6] [zL 4 2 1, zk 5 234 [(.t 4)], zt 6 5])
 (.cond (.t 6) (.seq (.reg false [] [2, 3] [zc 2 .nils, zc 3 (.int .i64 1)])
 .ret)
 .skip))
 (.seq (.reg false [] [2, 3] [zL 7 2 1, zk 8 261 [(.t 7)], zq 2 8, zc 3 (.int .i64 0)])
 .ret))) }
def N222_relief_Lakes : NFun := { np := 1, nt := 33, res := [(2, none), (3, none)], body :=
 (.seq (.reg false [] [1] [zo 1 0, zc 2 .nils, zc 3 (.int .i64 0)])
 (.seq (.reg false [] [4, 5] [zL 10 2 1, zk 11 253 [(.t 10)], zm 9 11, zx 12 0 9, zx 13 1 9, zm 4 12, zm 5 13])
 (.seq (.seq (.reg false [] [4, 5, 15] [zm 14 5, zd 15 .neq 14 (.int .i64 0)])
 (.cond (.t 15) (.seq (.reg false [] [2, 3] [zm 16 5, zc 2 .nils, zm 3 16])
 .ret)
 .skip))
 (.seq (.reg false [] [4, 6] [⟨some 6, .nilo 1, none⟩])
 (.seq (.seq (.reg false [] [6, 18, 19, 20] [zm 17 4, zk 18 254 [(.t 17)], zn 19 18, zc 20 (.int .i64 0)])
 (.block 0 (.loop (.seq (.reg false [] [6, 18, 19, 20, 21] [zb 21 .lss 20 19])
 (.seq (.cond (.t 21) .skip
 (.exit 0))
 (.seq (.block 1 (.seq (.reg false [] [6, 7, 8, 18, 19, 20] [zm 22 20, zi 23 1 18 20, zl 24 1 23, zm 7 22, zm 8 24])
 (.seq (.reg false [] [6, 7, 18, 19, 20, 26] [zm 25 8, ⟨some 26, .bin .eql (.t 25) (.c (.int .i64 (-2))), none⟩])
 (.cond (.t 26) (.reg false [] [6, 18, 19, 20] [zm 27 6, zm 28 7, ⟨some 29, .bls 1 1 [.int .i64 0] [] [(0, (.t 28))], none⟩, ⟨some 30, .app 1 8 false (.t 27) (.t 29), none⟩, zq 6 30])
 .skip))))
 (.reg false [] [6, 18, 19, 20] [zd 31 .add 20 (.int .i64 1), zm 20 31])))))))
 (.seq (.reg false [] [2, 3] [zq 32 6, zq 2 32, zc 3 (.int .i64 0)])
 .ret)))))) }
def N223_slices_Contains__int_int : NFun := { np := 2, nt := 9, res := [(4, none)], body :=
 (.seq (.reg false [] [0, 1] [zc 4 (.bool false)])
 (.seq (.reg false [] [4] [zq 5 0, zm 6 1, zk 7 262 [(.t 5), (.t 6)], zd 8 .geq 7 (.int .i64 0), zm 4 8])
 .ret)) }
def N225_wide_Cmp : NFun := { np := 2, nt := 26, res := [(4, none), (5, none)], body :=
 (.seq (.reg false [] [2, 3] [zo 2 0, zo 3 1, zc 4 (.int .i64 0), zc 5 (.int .i64 0)])
 (.seq (.seq (.reg false [] [2, 3, 13] [zL 6 2 2, zk 7 106 [(.t 6)], zt 8 7, zm 9 8, zg 9 false (zL 10 2 3), zg 9 false (zk 11 106 [(.t 10)]), zg 9 false (zt 12 11), ⟨some 13, .pick (.t 9) (.c (.bool true)) (.t 12), none⟩])
 (.cond (.t 13) (.seq (.reg false [] [4, 5] [zc 4 (.int .i64 0), zc 5 (.int .i64 1)])
 .ret)
 .skip))
 (.seq (.reg true [0, 1, 0, 4, 15, 0, 32, 0, 128, 511, 1023, 2047, 4095, 8191] [4, 5] [zf 14 0 2, zl 15 1 14, zf 16 0 3, zl 17 1 16, zk 18 267 [(.t 15), (.t 17)], zf 19 1 2, zl 20 1 19, zf 21 1 3, zl 22 1 21, zk 23 267 [(.t 20), (.t 22)], ⟨some 24, .bls 1 2 [.int .i64 0] [] [(0, (.t 18)), (1, (.t 23))], none⟩, zk 25 266 [(.t 24)], zm 4 25, zc 5 (.int .i64 0)])
 .ret))) }
def N234_mesh_Valid : NFun := { np := 1, nt := 17, res := [(2, none)], body :=
 (.seq (.reg false [] [1] [zo 1 0, zc 2 (.bool false)])
 (.seq (.reg false [] [3, 4] [zL 6 2 1, zk 7 273 [(.t 6)], zm 5 7, zx 8 0 5, zx 9 1 5, zq 3 8, zm 4 9])
 (.seq (.reg false [] [2] [zm 10 4, zd 11 .eql 10 (.int .i64 0), zm 12 11, zg 12 true (zq 13 3), zg 12 true (zn 14 13), zg 12 true (zd 15 .eql 14 (.int .i64 0)), ⟨some 16, .pick (.t 12) (.t 15) (.c (.bool false)), none⟩, zm 2 16])
 .ret))) }
def N252_law10_example : NFun := { np := 1, nt := 13, res := [(2, some (2, true))], body :=
 (.seq (.reg false [] [0, 2] [⟨some 2, .alc [.own 3 [], .own 4 []], none⟩])
 (.seq (.reg false [] [2] [⟨some 3, .bld [.int .i64 0, .int .i64 0, .int .i64 0] [], none⟩, zm 4 0, ⟨some 5, .bld [.int .i64 0, .int .i64 0, .int .i64 0] [(0, 1, (.c (.int .i64 30))), (2, 1, (.t 4))], none⟩, ⟨some 6, .bld [.int .i64 0, .int .i64 0, .int .i64 0] [(0, 1, (.c (.int .i64 30))), (1, 1, (.c (.int .i64 30))), (2, 1, (.c (.int .i64 9)))], none⟩, ⟨some 7, .bld [.int .i64 0, .int .i64 0, .int .i64 0] [(1, 1, (.c (.int .i64 30)))], none⟩, ⟨some 8, .bls 3 4 [.int .i64 0, .int .i64 0, .int .i64 0] [] [(0, (.t 3)), (1, (.t 5)), (2, (.t 6)), (3, (.t 7))], none⟩, ⟨some 9, .bld [.int .i64 0, .int .i64 0, .int .i64 0, .int .i64 0] [(0, 1, (.c (.int .i64 0))), (1, 1, (.c (.int .i64 1))), (2, 1, (.c (.int .i64 2)))], none⟩, ⟨some 10, .bld [.int .i64 0, .int .i64 0, .int .i64 0, .int .i64 0] [(0, 1, (.c (.int .i64 0))), (1, 1, (.c (.int .i64 2))), (2, 1, (.c (.int .i64 3)))], none⟩, ⟨some 11, .bls 4 2 [.int .i64 0, .int .i64 0, .int .i64 0, .int .i64 0] [] [(0, (.t 9)), (1, (.t 10))], none⟩, ⟨some 12, .bld [.nils, .nils] [(0, 1, (.t 8)), (1, 1, (.t 11))], none⟩, ⟨none, .st 2 [] (.t 2) (.t 12), none⟩])
 .ret)) }
def N253_relief_made : NFun := { np := 1, nt := 93, res := [(2, none), (3, none)], body :=
 (.seq (.reg false [] [1] [zo 1 0, zc 2 .nilp, zc 3 (.int .i64 0)])
 (.seq (.reg false [] [1, 4, 5] [zL 13 2 1, zk 14 221 [(.t 13)], zm 12 14, zx 15 0 12, zx 16 1 12, zq 4 15, zm 5 16])
 (.seq (.seq (.reg false [] [1, 4, 5, 18] [zm 17 5, zd 18 .neq 17 (.int .i64 0)])
 (.cond (.t 18) (.seq (.reg false [] [2, 3] [zm 19 5, zc 2 .nilp, zm 3 19])
 .ret)
 .skip))
 (.seq (.reg false [] [1, 6] [zq 20 4, ⟨some 21, .bld [.nils, .nils, .nils] [(0, 1, (.t 20))], none⟩, ⟨some 22, .box [] (.t 21), none⟩, zm 6 22])
 (.seq (.seq (.reg false [] [1, 6, 24, 25, 26] [zf 23 1 1, zl 24 1 23, zn 25 24, zc 26 (.int .i64 0)])
 (.block 0 (.loop (.seq (.reg false [] [1, 6, 24, 25, 26, 27] [zb 27 .lss 26 25])
 (.seq (.cond (.t 27) .skip
 (.exit 0))
 (.seq (.block 1 (.seq (.reg false [] [1, 6, 8, 24, 25, 26] [zi 28 4 24 26, zL 29 4 28, ⟨some 8, .alc [.int .i64 0, .int .i64 0, .int .i64 0, .int .i64 0], none⟩, ⟨none, .st 4 [] (.t 8) (.t 29), none⟩])
 (.seq (.reg true [0, 1, 0, 4, 15, 31, 0, 64, 0, 256, 960, 1984, 0, 4096, 0, 16384, 61440, 126976, 0, 0, 0, 1835071, 3936255, 8388607] [1, 6, 9, 10, 11, 24, 25, 26] [zf 30 0 1, zl 31 1 30, zf 32 0 8, zl 33 1 32, zi 34 3 31 33, zL 35 3 34, zf 36 0 1, zl 37 1 36, zf 38 1 8, zl 39 1 38, zi 40 3 37 39, zL 41 3 40, zf 42 0 1, zl 43 1 42, zf 44 2 8, zl 45 1 44, zi 46 3 43 45, zL 47 3 46, ⟨some 9, .alc [.int .i64 0, .int .i64 0, .int .i64 0], none⟩, ⟨some 10, .alc [.int .i64 0, .int .i64 0, .int .i64 0], none⟩, ⟨some 11, .alc [.int .i64 0, .int .i64 0, .int .i64 0], none⟩, ⟨none, .st 3 [] (.t 9) (.t 35), none⟩, ⟨none, .st 3 [] (.t 10) (.t 41), none⟩, ⟨none, .st 3 [] (.t 11) (.t 47), none⟩])
 (.seq (.reg true [0, 0, 2, 6, 14, 0, 32, 0, 128, 480, 0, 1024, 4064, 8160, 16382, 32767, 65535, 131071] [1, 6, 9, 10, 11, 24, 25, 26] [zm 48 6, zm 49 6, ⟨some 50, .nck (.t 49), none⟩, zf 51 1 50, zl 52 1 51, zf 53 2 9, zl 54 1 53, zf 55 2 10, zl 56 1 55, zb 57 .add 54 56, zf 58 2 11, zl 59 1 58, zb 60 .add 57 59, ⟨some 61, .bls 1 1 [.int .i64 0] [] [(0, (.t 60))], none⟩, ⟨some 62, .app 1 8 false (.t 52) (.t 61), none⟩, ⟨some 63, .nck (.t 48), none⟩, zf 64 1 63, ⟨none, .st 1 [] (.t 64) (.t 62), none⟩])
 (.reg true [0, 0, 2, 6, 14, 0, 32, 0, 128, 480, 0, 1024, 4064, 0, 8192, 0, 32768, 122880, 0, 262144, 1040384, 2097120, 4194272, 8388606, 16777215, 33554431, 67108863] [1, 6, 24, 25, 26] [zm 65 6, zm 66 6, ⟨some 67, .nck (.t 66), none⟩, zf 68 2 67, zl 69 1 68, zf 70 0 9, zl 71 1 70, zf 72 0 10, zl 73 1 72, zb 74 .add 71 73, zf 75 0 11, zl 76 1 75, zb 77 .add 74 76, zf 78 1 9, zl 79 1 78, zf 80 1 10, zl 81 1 80, zb 82 .add 79 81, zf 83 1 11, zl 84 1 83, zb 85 .add 82 84, ⟨some 86, .bld [.int .i64 0, .int .i64 0] [(0, 1, (.t 77)), (1, 1, (.t 85))], none⟩, ⟨some 87, .bls 2 1 [.int .i64 0, .int .i64 0] [] [(0, (.t 86))], none⟩, ⟨some 88, .app 2 16 false (.t 69) (.t 87), none⟩, ⟨some 89, .nck (.t 65), none⟩, zf 90 2 89, ⟨none, .st 1 [] (.t 90) (.t 88), none⟩])))))
 (.reg false [] [1, 6, 24, 25, 26] [zd 91 .add 26 (.int .i64 1), zm 26 91])))))))
 (.seq (.reg false [] [2, 3] [zm 92 6, zm 2 92, zc 3 (.int .i64 0)])
 .ret)))))) }
def N254_relief_ground_flow : NFun := { np := 1, nt := 27, res := [(2, none)], body :=
 (.seq (.reg false [] [0] [zc 2 .nils])
 (.seq (.reg false [] [0, 3] [zm 5 0, ⟨some 6, .nck (.t 5), none⟩, zf 7 1 6, zl 8 1 7, zn 9 8, ⟨some 10, .mks 1 8 [.int .i64 0] (.c (.int .i64 0)) (.t 9), none⟩, zq 3 10])
 (.seq (.seq (.reg false [] [0, 3, 15, 16] [zm 11 0, ⟨some 12, .nck (.t 11), none⟩, zf 13 1 12, zl 14 1 13, zn 15 14, zc 16 (.int .i64 0)])
 (.block 0 (.loop (.seq (.reg false [] [0, 3, 15, 16, 17] [zb 17 .lss 16 15])
 (.seq (.cond (.t 17) .skip
 (.exit 0))
 (.seq (.block 1 (.seq (.reg false [] [0, 3, 4, 15, 16] [zm 18 16, zm 4 18])
 (.reg false [] [0, 3, 15, 16] [zm 19 3, zm 20 0, zm 21 4, zk 22 256 [(.t 20), (.t 21)], ⟨some 23, .bls 1 1 [.int .i64 0] [] [(0, (.t 22))], none⟩, ⟨some 24, .app 1 8 false (.t 19) (.t 23), none⟩, zq 3 24])))
 (.reg false [] [0, 3, 15, 16] [zd 25 .add 16 (.int .i64 1), zm 16 25])))))))
 (.seq (.reg false [] [2] [zq 26 3, zq 2 26])
 .ret)))) }
def N255_relief_ground_has : NFun := { np := 2, nt := 9, res := [(4, none)], body :=
 (.seq (.reg false [] [1, 2] [zo 2 0, zc 4 (.bool false)])
 (.seq (.reg false [] [4] [zq 5 1, ⟨some 6, .mk 288 [(.t 2)], none⟩, zk 7 11 [(.t 5), (.t 6)], zt 8 7, zm 4 8])
 .ret)) }
def N256_relief_ground_runs : NFun := { np := 2, nt := 67, res := [(4, none)], body :=
 (.seq (.reg false [] [0, 1] [zc 4 (.int .i64 0)])
 (.seq (.reg false [] [0, 1, 5] [⟨some 5, .mov (.c (.int .i64 (-2))), none⟩])
 (.seq (.seq (.reg false [] [0, 1, 5, 15, 16] [zm 9 0, ⟨some 10, .nck (.t 9), none⟩, zf 11 0 10, zl 12 1 11, zm 13 1, zi 14 3 12 13, zL 15 3 14, zc 16 (.int .i64 0)])
 (.block 0 (.loop (.seq (.reg false [] [0, 1, 5, 15, 16, 17] [zd 17 .lss 16 (.int .i64 3)])
 (.seq (.cond (.t 17) .skip
 (.exit 0))
 (.seq (.block 1 (.seq (.reg false [] [0, 1, 5, 7, 15, 16] [⟨some 18, .idxA 3 1 false (.t 15) (.t 16), none⟩, zm 7 18])
 (.seq (.seq (.reg true [0, 1, 3, 7, 15, 31, 63, 7, 255, 511, 7, 1031, 3079, 7175, 7, 31751, 64519, 131071, 262143] [0, 1, 5, 7, 15, 16, 37] [zm 19 7, zd 20 .lss 19 (.int .i64 0), zm 21 20, zg 21 false (zm 22 0), zg 21 false (⟨some 23, .nck (.t 22), none⟩), zg 21 false (zf 24 1 23), zg 21 false (zl 25 1 24), zg 21 false (zm 26 7), zg 21 false (zi 27 1 25 26), zg 21 false (zl 28 1 27), zg 21 false (zm 29 0), zg 21 false (⟨some 30, .nck (.t 29), none⟩), zg 21 false (zf 31 1 30), zg 21 false (zl 32 1 31), zg 21 false (zm 33 1), zg 21 false (zi 34 1 32 33), zg 21 false (zl 35 1 34), zg 21 false (zb 36 .geq 28 35), ⟨some 37, .pick (.t 21) (.c (.bool true)) (.t 36), none⟩])
 (.cond (.t 37) (.exit 1)
 .skip))
 (.seq (.seq (.reg false [] [0, 1, 5, 7, 15, 16, 39] [zm 38 5, zd 39 .lss 38 (.int .i64 0)])
 (.cond (.t 39) (.seq (.reg false [] [0, 1, 5, 15, 16] [zm 40 7, zm 5 40])
 (.exit 1))
 .skip))
 (.seq (.reg false [] [0, 1, 5, 7, 8, 15, 16] [zm 41 0, zm 42 1, zm 43 7, zm 44 5, zk 45 268 [(.t 41), (.t 42), (.t 43), (.t 44)], zm 8 45])
 (.seq (.reg false [] [0, 1, 5, 7, 15, 16, 56] [zm 46 8, zd 47 .gtr 46 (.int .i64 0), zm 48 47, zg 48 false (zm 49 8), zg 48 false (zd 50 .eql 49 (.int .i64 0)), zg 48 false (zm 51 50), zg 51 true (zm 52 7), zg 51 true (zm 53 5), zg 51 true (zb 54 .lss 52 53), zg 48 false (⟨some 55, .pick (.t 51) (.t 54) (.c (.bool false)), none⟩), ⟨some 56, .pick (.t 48) (.c (.bool true)) (.t 55), none⟩])
 (.cond (.t 56) (.reg false [] [0, 1, 5, 15, 16] [zm 57 7, zm 5 57])
 .skip)))))))
 (.reg false [] [0, 1, 5, 15, 16] [zd 58 .add 16 (.int .i64 1), zm 16 58])))))))
 (.seq (.seq (.reg false [] [5, 65] [zm 59 5, ⟨some 60, .bin .eql (.t 59) (.c (.int .i64 (-2))), none⟩, zm 61 60, zg 61 true (zm 62 0), zg 61 true (zm 63 1), zg 61 true (zk 64 263 [(.t 62), (.t 63), (.c (.int .i64 (-1)))]), ⟨some 65, .pick (.t 61) (.t 64) (.c (.bool false)), none⟩])
 (.cond (.t 65) (.seq (.reg false [] [4] [⟨some 4, .mov (.c (.int .i64 (-1))), none⟩])
 .ret)
 .skip))
 (.seq (.reg false [] [4] [zm 66 5, zm 4 66])
 .ret))))) }
def N257_ref09_Small : NFun := { np := 1, nt := 13, res := [(2, none)], body :=
 (.seq (.reg false [] [1] [zo 1 0, zc 2 (.bool false)])
 (.seq (.reg false [] [2] [zf 3 0 1, zl 4 1 3, zn 5 4, zd 6 .leq 5 (.int .i64 2000), zm 7 6, zg 7 true (zf 8 1 1), zg 7 true (zl 9 1 8), zg 7 true (zn 10 9), zg 7 true (zd 11 .leq 10 (.int .i64 4000)), ⟨some 12, .pick (.t 7) (.t 11) (.c (.bool false)), none⟩, zm 2 12])
 .ret)) }
def N258_ref09_Check : NFun := { np := 1, nt := 177, res := [(2, none)], body :=
 (.seq (.reg false [] [1] [zo 1 0, zc 2 .nils])
 (.seq (.reg false [] [1, 3] [⟨some 15, .mks 1 24 [.own 2 []] (.c (.int .i64 7)) (.c (.int .i64 7)), none⟩, zq 3 15])
 (.seq (.seq (.reg false [] [1, 3, 4] [zc 4 (.int .i64 0)])
 (.block 0 (.loop (.seq (.seq (.reg false [] [1, 3, 4, 20] [zm 16 4, zf 17 0 1, zl 18 1 17, zn 19 18, zb 20 .lss 16 19])
 (.cond (.t 20) .skip
 (.exit 0)))
 (.seq (.block 1 (.seq (.reg false [] [1, 3, 4, 5] [zf 23 0 1, zl 24 1 23, zm 25 4, zi 26 3 24 25, zL 27 3 26, ⟨some 5, .alc [.int .i64 0, .int .i64 0, .int .i64 0], none⟩, ⟨none, .st 3 [] (.t 5) (.t 27), none⟩])
 (.seq (.seq (.reg false [] [1, 3, 4, 5, 30] [zL 28 3 5, zk 29 289 [(.t 28)], zt 30 29])
 (.cond (.t 30) (.seq (.reg true [0, 0, 2, 6, 0, 16, 48, 112, 254, 511, 1023] [1, 3, 4] [zm 31 3, zm 32 3, ⟨some 33, .iadS 1 (.t 32) (.c (.int .i64 1)), none⟩, zl 34 1 33, zm 35 4, zk 36 290 [(.t 35)], ⟨some 37, .bld [.int .i64 0, .str []] [(0, 1, (.c (.int .i64 1))), (1, 1, (.t 36))], none⟩, ⟨some 38, .bls 2 1 [.int .i64 0, .str []] [] [(0, (.t 37))], none⟩, ⟨some 39, .app 2 24 false (.t 34) (.t 38), none⟩, ⟨some 40, .iadS 1 (.t 31) (.c (.int .i64 1)), none⟩, ⟨none, .st 1 [] (.t 40) (.t 39), none⟩])
 (.exit 1))
 .skip))
 (.seq (.reg false [] [1, 3, 4, 5, 6] [zc 6 (.int .i64 0)])
 (.block 2 (.loop (.seq (.seq (.reg false [] [1, 3, 4, 5, 6, 43] [zm 41 6, zm 42 4, zb 43 .lss 41 42])
 (.cond (.t 43) .skip
 (.exit 2)))
 (.seq (.block 3 (.seq (.reg true [0, 1, 0, 7, 15, 31, 63, 127, 255, 127, 1023, 2047, 4095, 127, 16383, 32767, 65535] [1, 3, 4, 5, 6, 62] [zf 46 0 1, zl 47 1 46, zm 48 6, zi 49 3 47 48, zL 50 3 49, zk 51 289 [(.t 50)], zm 52 51, zg 52 true (zf 53 0 1), zg 52 true (zl 54 1 53), zg 52 true (zm 55 6), zg 52 true (zi 56 3 54 55), zg 52 true (zL 57 3 56), zg 52 true (zk 58 291 [(.t 57)]), zg 52 true (zL 59 3 5), zg 52 true (zk 60 291 [(.t 59)]), zg 52 true (⟨some 61, .beq false [0, 0] (.t 58) (.t 60), none⟩), ⟨some 62, .pick (.t 52) (.t 61) (.c (.bool false)), none⟩])
 (.cond (.t 62) (.seq (.reg true [0, 0, 2, 6, 0, 16, 48, 112, 254, 511, 1023] [1, 3, 4] [zm 63 3, zm 64 3, ⟨some 65, .iadS 1 (.t 64) (.c (.int .i64 2)), none⟩, zl 66 1 65, zm 67 4, zk 68 290 [(.t 67)], ⟨some 69, .bld [.int .i64 0, .str []] [(0, 1, (.c (.int .i64 2))), (1, 1, (.t 68))], none⟩, ⟨some 70, .bls 2 1 [.int .i64 0, .str []] [] [(0, (.t 69))], none⟩, ⟨some 71, .app 2 24 false (.t 66) (.t 70), none⟩, ⟨some 72, .iadS 1 (.t 63) (.c (.int .i64 2)), none⟩, ⟨none, .st 1 [] (.t 72) (.t 71), none⟩])
 (.exit 2))
 .skip)))
 (.reg false [] [1, 3, 4, 5, 6] [zm 44 6, zd 45 .add 44 (.int .i64 1), zm 6 45])))))))))
 (.reg false [] [1, 3, 4] [zm 21 4, zd 22 .add 21 (.int .i64 1), zm 4 22]))))))
 (.seq (.reg false [] [1, 3, 7] [⟨some 7, .nilo 4, none⟩])
 (.seq (.seq (.reg false [] [1, 3, 7, 8] [zc 8 (.int .i64 0)])
 (.block 4 (.loop (.seq (.seq (.reg false [] [1, 3, 7, 8, 77] [zm 73 8, zf 74 1 1, zl 75 1 74, zn 76 75, zb 77 .lss 73 76])
 (.cond (.t 77) .skip
 (.exit 4)))
 (.seq (.block 5 (.seq (.reg false [] [1, 3, 7, 8, 9] [zf 80 1 1, zl 81 1 80, zm 82 8, zi 83 4 81 82, zL 84 4 83, ⟨some 9, .alc [.int .i64 0, .int .i64 0, .int .i64 0, .int .i64 0], none⟩, ⟨none, .st 4 [] (.t 9) (.t 84), none⟩])
 (.seq (.seq (.reg false [] [1, 3, 7, 8, 9, 88] [zL 85 2 1, zL 86 4 9, zk 87 292 [(.t 85), (.t 86)], zt 88 87])
 (.cond (.t 88) (.seq (.reg true [0, 0, 2, 6, 0, 16, 48, 112, 254, 511, 1023] [1, 3, 7, 8] [zm 89 3, zm 90 3, ⟨some 91, .iadS 1 (.t 90) (.c (.int .i64 3)), none⟩, zl 92 1 91, zm 93 8, zk 94 290 [(.t 93)], ⟨some 95, .bld [.int .i64 0, .str []] [(0, 1, (.c (.int .i64 3))), (1, 1, (.t 94))], none⟩, ⟨some 96, .bls 2 1 [.int .i64 0, .str []] [] [(0, (.t 95))], none⟩, ⟨some 97, .app 2 24 false (.t 92) (.t 96), none⟩, ⟨some 98, .iadS 1 (.t 89) (.c (.int .i64 3)), none⟩, ⟨none, .st 1 [] (.t 98) (.t 97), none⟩])
 (.exit 5))
 .skip))
 (.seq (.seq (.reg false [] [1, 3, 7, 8, 9, 102] [zL 99 2 1, zL 100 4 9, zk 101 293 [(.t 99), (.t 100)], zd 102 .leq 101 (.int .i64 0)])
 (.cond (.t 102) (.seq (.reg true [0, 0, 2, 6, 0, 16, 48, 112, 254, 511, 1023] [1, 3, 7, 8] [zm 103 3, zm 104 3, ⟨some 105, .iadS 1 (.t 104) (.c (.int .i64 4)), none⟩, zl 106 1 105, zm 107 8, zk 108 290 [(.t 107)], ⟨some 109, .bld [.int .i64 0, .str []] [(0, 1, (.c (.int .i64 4))), (1, 1, (.t 108))], none⟩, ⟨some 110, .bls 2 1 [.int .i64 0, .str []] [] [(0, (.t 109))], none⟩, ⟨some 111, .app 2 24 false (.t 106) (.t 110), none⟩, ⟨some 112, .iadS 1 (.t 103) (.c (.int .i64 4)), none⟩, ⟨none, .st 1 [] (.t 112) (.t 111), none⟩])
 (.exit 5))
 .skip))
 (.seq (.reg false [] [1, 3, 7, 8, 9, 10, 11] [zc 10 (.bool false), zc 11 (.bool false)])
 (.seq (.seq (.reg false [] [1, 3, 7, 8, 9, 10, 11, 12] [zc 12 (.int .i64 0)])
 (.block 6 (.loop (.seq (.seq (.reg false [] [1, 3, 7, 8, 9, 10, 11, 12, 116] [zm 113 12, zm 114 7, zn 115 114, zb 116 .lss 113 115])
 (.cond (.t 116) .skip
 (.exit 6)))
 (.seq (.block 7 (.seq (.reg true [0, 1, 3, 3, 3, 27, 59, 127, 255, 511] [1, 3, 7, 8, 9, 10, 11, 12] [zm 119 10, zm 120 119, zg 120 false (zL 121 4 9), zg 120 false (zm 122 7), zg 120 false (zm 123 12), zg 120 false (zi 124 4 122 123), zg 120 false (zL 125 4 124), zg 120 false (zk 126 294 [(.t 121), (.t 125)]), ⟨some 127, .pick (.t 120) (.c (.bool true)) (.t 126), none⟩, zm 10 127])
 (.reg true [0, 1, 3, 3, 3, 3, 51, 115, 255, 511, 1023] [1, 3, 7, 8, 9, 10, 11, 12] [zm 128 11, zm 129 128, zg 129 false (zL 130 2 1), zg 129 false (zL 131 4 9), zg 129 false (zm 132 7), zg 129 false (zm 133 12), zg 129 false (zi 134 4 132 133), zg 129 false (zL 135 4 134), zg 129 false (zk 136 295 [(.t 130), (.t 131), (.t 135)]), ⟨some 137, .pick (.t 129) (.c (.bool true)) (.t 136), none⟩, zm 11 137])))
 (.reg false [] [1, 3, 7, 8, 9, 10, 11, 12] [zm 117 12, zd 118 .add 117 (.int .i64 1), zm 12 118]))))))
 (.seq (.seq (.reg false [] [1, 3, 7, 8, 9, 11, 138] [zm 138 10])
 (.cond (.t 138) (.reg true [0, 0, 2, 6, 0, 16, 48, 112, 254, 511, 1023] [1, 3, 7, 8, 9, 11] [zm 139 3, zm 140 3, ⟨some 141, .iadS 1 (.t 140) (.c (.int .i64 5)), none⟩, zl 142 1 141, zm 143 8, zk 144 290 [(.t 143)], ⟨some 145, .bld [.int .i64 0, .str []] [(0, 1, (.c (.int .i64 5))), (1, 1, (.t 144))], none⟩, ⟨some 146, .bls 2 1 [.int .i64 0, .str []] [] [(0, (.t 145))], none⟩, ⟨some 147, .app 2 24 false (.t 142) (.t 146), none⟩, ⟨some 148, .iadS 1 (.t 139) (.c (.int .i64 5)), none⟩, ⟨none, .st 1 [] (.t 148) (.t 147), none⟩])
 .skip))
 (.seq (.seq (.reg false [] [1, 3, 7, 8, 9, 149] [zm 149 11])
 (.cond (.t 149) (.reg true [0, 0, 2, 6, 0, 16, 48, 112, 254, 511, 1023] [1, 3, 7, 8, 9] [zm 150 3, zm 151 3, ⟨some 152, .iadS 1 (.t 151) (.c (.int .i64 6)), none⟩, zl 153 1 152, zm 154 8, zk 155 290 [(.t 154)], ⟨some 156, .bld [.int .i64 0, .str []] [(0, 1, (.c (.int .i64 6))), (1, 1, (.t 155))], none⟩, ⟨some 157, .bls 2 1 [.int .i64 0, .str []] [] [(0, (.t 156))], none⟩, ⟨some 158, .app 2 24 false (.t 153) (.t 157), none⟩, ⟨some 159, .iadS 1 (.t 150) (.c (.int .i64 6)), none⟩, ⟨none, .st 1 [] (.t 159) (.t 158), none⟩])
 .skip))
 (.reg false [] [1, 3, 7, 8] [zm 160 7, zL 161 4 9, ⟨some 162, .bls 4 1 [.int .i64 0, .int .i64 0, .int .i64 0, .int .i64 0] [] [(0, (.t 161))], none⟩, ⟨some 163, .app 4 32 false (.t 160) (.t 162), none⟩, zq 7 163])))))))))
 (.reg false [] [1, 3, 7, 8] [zm 78 8, zd 79 .add 78 (.int .i64 1), zm 8 79]))))))
 (.seq (.reg false [] [3, 13] [⟨some 13, .nilo 2, none⟩])
 (.seq (.seq (.reg false [] [3, 13, 14] [zc 14 (.int .i64 0)])
 (.block 8 (.loop (.seq (.seq (.reg false [] [3, 13, 14, 167] [zm 164 14, zm 165 3, zn 166 165, zb 167 .lss 164 166])
 (.cond (.t 167) .skip
 (.exit 8)))
 (.seq (.block 9 (.reg false [] [3, 13, 14] [zm 170 13, zm 171 3, zm 172 14, zi 173 1 171 172, zl 174 1 173, ⟨some 175, .app 2 24 false (.t 170) (.t 174), none⟩, zq 13 175]))
 (.reg false [] [3, 13, 14] [zm 168 14, zd 169 .add 168 (.int .i64 1), zm 14 169]))))))
 (.seq (.reg false [] [2] [zq 176 13, zq 2 176])
 .ret)))))))) }
def N259_ref09_Neighbours : NFun := { np := 1, nt := 44, res := [(2, none)], body :=
 (.seq (.reg false [] [1] [zo 1 0, zc 2 .nils])
 (.seq (.reg false [] [1, 3] [⟨some 3, .nilo 3, none⟩])
 (.seq (.seq (.reg false [] [1, 3, 4] [zc 4 (.int .i64 0)])
 (.block 0 (.loop (.seq (.seq (.reg false [] [1, 3, 4, 15] [zm 11 4, zf 12 1 1, zl 13 1 12, zn 14 13, zb 15 .lss 11 14])
 (.cond (.t 15) .skip
 (.exit 0)))
 (.seq (.block 1 (.seq (.reg false [] [1, 3, 4, 5] [zL 19 2 1, zm 20 4, zk 21 287 [(.t 19), (.t 20), (.c (.int .i64 0))], zm 18 21, zx 22 0 18, zx 23 1 18, zm 5 22, zm 6 23])
 (.seq (.reg false [] [1, 3, 4, 5, 7] [zL 25 2 1, zm 26 4, zk 27 287 [(.t 25), (.t 26), (.c (.int .i64 1))], zm 24 27, zx 28 0 24, zx 29 1 24, zm 7 28, zm 8 29])
 (.seq (.reg false [] [1, 3, 4, 5, 7, 9] [zL 31 2 1, zm 32 4, zk 33 287 [(.t 31), (.t 32), (.c (.int .i64 2))], zm 30 33, zx 34 0 30, zx 35 1 30, zm 9 34, zm 10 35])
 (.reg false [] [1, 3, 4] [zm 36 3, zm 37 5, zm 38 7, zm 39 9, ⟨some 40, .bld [.int .i64 0, .int .i64 0, .int .i64 0] [(0, 1, (.t 37)), (1, 1, (.t 38)), (2, 1, (.t 39))], none⟩, ⟨some 41, .bls 3 1 [.int .i64 0, .int .i64 0, .int .i64 0] [] [(0, (.t 40))], none⟩, ⟨some 42, .app 3 24 false (.t 36) (.t 41), none⟩, zq 3 42])))))
 (.reg false [] [1, 3, 4] [zm 16 4, zd 17 .add 16 (.int .i64 1), zm 4 17]))))))
 (.seq (.reg false [] [2] [zq 43 3, zq 2 43])
 .ret)))) }
def N260_ref10_Runs : NFun := { np := 3, nt := 71, res := [(6, none)], body :=
 (.seq (.reg false [] [1, 2, 3] [zo 3 0, zc 6 (.int .i64 0)])
 (.seq (.reg false [] [1, 2, 3, 7] [⟨some 7, .mov (.c (.int .i64 (-2))), none⟩])
 (.seq (.seq (.reg false [] [1, 2, 3, 7, 8] [zc 8 (.int .i64 0)])
 (.block 0 (.loop (.seq (.seq (.reg false [] [1, 2, 3, 7, 8, 14] [zm 13 8, zd 14 .lss 13 (.int .i64 3)])
 (.cond (.t 14) .skip
 (.exit 0)))
 (.seq (.block 1 (.seq (.reg false [] [1, 2, 3, 7, 8, 9] [zm 17 1, zm 18 2, zm 19 8, zi 20 3 17 18, ⟨some 21, .iadA 3 1 (.t 20) (.t 19), none⟩, zl 22 1 21, zm 9 22])
 (.seq (.reg false [] [1, 2, 3, 7, 8, 28] [zm 23 9, zd 24 .lss 23 (.int .i64 0), zm 25 24, zg 25 true (zm 26 7), zg 25 true (⟨some 27, .bin .eql (.t 26) (.c (.int .i64 (-2))), none⟩), ⟨some 28, .pick (.t 25) (.t 27) (.c (.bool false)), none⟩])
 (.cond (.t 28) (.reg false [] [1, 2, 3, 7, 8] [⟨some 7, .mov (.c (.int .i64 (-1))), none⟩])
 .skip))))
 (.reg false [] [1, 2, 3, 7, 8] [zm 15 8, zd 16 .add 15 (.int .i64 1), zm 8 16]))))))
 (.seq (.seq (.reg false [] [1, 2, 3, 7, 10] [zc 10 (.int .i64 0)])
 (.block 2 (.loop (.seq (.seq (.reg false [] [1, 2, 3, 7, 10, 30] [zm 29 10, zd 30 .lss 29 (.int .i64 3)])
 (.cond (.t 30) .skip
 (.exit 2)))
 (.seq (.block 3 (.seq (.reg false [] [1, 2, 3, 7, 10, 11] [zm 33 1, zm 34 2, zm 35 10, zi 36 3 33 34, ⟨some 37, .iadA 3 1 (.t 36) (.t 35), none⟩, zl 38 1 37, zm 11 38])
 (.seq (.seq (.reg true [0, 1, 3, 7, 7, 31, 7, 7, 255, 511, 1023] [1, 2, 3, 7, 10, 11, 49] [zm 39 11, zd 40 .lss 39 (.int .i64 0), zm 41 40, zg 41 false (zL 42 2 3), zg 41 false (zm 43 11), zg 41 false (zk 44 296 [(.t 42), (.t 43)]), zg 41 false (zL 45 2 3), zg 41 false (zm 46 2), zg 41 false (zk 47 296 [(.t 45), (.t 46)]), zg 41 false (zb 48 .geq 44 47), ⟨some 49, .pick (.t 41) (.c (.bool true)) (.t 48), none⟩])
 (.cond (.t 49) (.exit 3)
 .skip))
 (.seq (.seq (.reg false [] [1, 2, 3, 7, 10, 11, 51] [zm 50 7, zd 51 .lss 50 (.int .i64 0)])
 (.cond (.t 51) (.seq (.reg false [] [1, 2, 3, 7, 10] [zm 52 11, zm 7 52])
 (.exit 3))
 .skip))
 (.seq (.reg false [] [1, 2, 3, 7, 10, 11, 12] [zL 53 2 3, zm 54 2, zm 55 11, zm 56 7, zk 57 297 [(.t 53), (.t 54), (.t 55), (.t 56)], zm 12 57])
 (.seq (.reg false [] [1, 2, 3, 7, 10, 11, 68] [zm 58 12, zd 59 .gtr 58 (.int .i64 0), zm 60 59, zg 60 false (zm 61 12), zg 60 false (zd 62 .eql 61 (.int .i64 0)), zg 60 false (zm 63 62), zg 63 true (zm 64 11), zg 63 true (zm 65 7), zg 63 true (zb 66 .lss 64 65), zg 60 false (⟨some 67, .pick (.t 63) (.t 66) (.c (.bool false)), none⟩), ⟨some 68, .pick (.t 60) (.c (.bool true)) (.t 67), none⟩])
 (.cond (.t 68) (.reg false [] [1, 2, 3, 7, 10] [zm 69 11, zm 7 69])
 .skip)))))))
 (.reg false [] [1, 2, 3, 7, 10] [zm 31 10, zd 32 .add 31 (.int .i64 1), zm 10 32]))))))
 (.seq (.reg false [] [6] [zm 70 7, zm 6 70])
 .ret))))) }
def N261_mesh_neighbours : NFun := { np := 1, nt := 72, res := [(2, none)], body :=
 (.seq (.reg false [] [1] [zo 1 0, zc 2 .nils])
 (.seq (.reg false [] [1, 3] [⟨some 14, .mkm 3 2, none⟩, zm 3 14])
 (.seq (.seq (.reg false [] [1, 3, 16, 17, 18] [zf 15 1 1, zl 16 1 15, zn 17 16, zc 18 (.int .i64 0)])
 (.block 0 (.loop (.seq (.reg false [] [1, 3, 16, 17, 18, 19] [zb 19 .lss 18 17])
 (.seq (.cond (.t 19) .skip
 (.exit 0))
 (.seq (.block 1 (.seq (.reg false [] [1, 3, 4, 5, 16, 17, 18] [zm 20 18, zi 21 4 16 18, zL 22 4 21, ⟨some 5, .alc [.int .i64 0, .int .i64 0, .int .i64 0, .int .i64 0], none⟩, zm 4 20, ⟨none, .st 4 [] (.t 5) (.t 22), none⟩])
 (.seq (.reg false [] [1, 3, 4, 5, 16, 17, 18, 23] [zc 23 (.int .i64 0)])
 (.block 2 (.loop (.seq (.reg false [] [1, 3, 4, 5, 16, 17, 18, 23, 24] [zd 24 .lss 23 (.int .i64 3)])
 (.seq (.cond (.t 24) .skip
 (.exit 2))
 (.seq (.block 3 (.seq (.reg false [] [1, 3, 4, 5, 6, 16, 17, 18, 23] [zm 25 23, zm 6 25])
 (.reg false [] [1, 3, 4, 5, 16, 17, 18, 23] [zm 26 3, zL 27 4 5, zm 28 6, zk 29 298 [(.t 27), (.t 28)], zm 30 4, ⟨none, .mpu (.ints .i64 2) 3 2 (.int .i64 0) (.t 26) (.t 29) (.t 30), none⟩])))
 (.reg false [] [1, 3, 4, 5, 16, 17, 18, 23] [zd 31 .add 23 (.int .i64 1), zm 23 31])))))))))
 (.reg false [] [1, 3, 16, 17, 18] [zd 32 .add 18 (.int .i64 1), zm 18 32])))))))
 (.seq (.reg false [] [1, 3, 7] [zf 33 1 1, zl 34 1 33, zn 35 34, ⟨some 36, .mks 3 24 [.int .i64 0, .int .i64 0, .int .i64 0] (.t 35) (.t 35), none⟩, zq 7 36])
 (.seq (.seq (.reg false [] [3, 7, 38, 39, 40] [zf 37 1 1, zl 38 1 37, zn 39 38, zc 40 (.int .i64 0)])
 (.block 4 (.loop (.seq (.reg false [] [3, 7, 38, 39, 40, 41] [zb 41 .lss 40 39])
 (.seq (.cond (.t 41) .skip
 (.exit 4))
 (.seq (.block 5 (.seq (.reg false [] [3, 7, 8, 9, 38, 39, 40] [zm 42 40, zi 43 4 38 40, zL 44 4 43, ⟨some 9, .alc [.int .i64 0, .int .i64 0, .int .i64 0, .int .i64 0], none⟩, zm 8 42, ⟨none, .st 4 [] (.t 9) (.t 44), none⟩])
 (.seq (.reg false [] [3, 7, 8, 9, 38, 39, 40, 45] [zc 45 (.int .i64 0)])
 (.block 6 (.loop (.seq (.reg false [] [3, 7, 8, 9, 38, 39, 40, 45, 46] [zd 46 .lss 45 (.int .i64 3)])
 (.seq (.cond (.t 46) .skip
 (.exit 6))
 (.seq (.block 7 (.seq (.reg false [] [3, 7, 8, 9, 10, 38, 39, 40, 45] [zm 47 45, zm 10 47])
 (.seq (.reg false [] [3, 7, 8, 9, 10, 11, 38, 39, 40, 45] [zL 48 4 9, zm 49 10, zk 50 298 [(.t 48), (.t 49)], ⟨some 11, .alc [.int .i64 0, .int .i64 0], none⟩, ⟨none, .st 2 [] (.t 11) (.t 50), none⟩])
 (.seq (.reg false [] [3, 7, 8, 9, 10, 12, 13, 38, 39, 40, 45] [zm 52 3, ⟨some 53, .iadA 2 1 (.t 11) (.c (.int .i64 1)), none⟩, zl 54 1 53, ⟨some 55, .iadA 2 1 (.t 11) (.c (.int .i64 0)), none⟩, zl 56 1 55, ⟨some 57, .bld [.int .i64 0, .int .i64 0] [(0, 1, (.t 54)), (1, 1, (.t 56))], none⟩, ⟨some 58, .mpl (.ints .i64 2) 3 2 true (.int .i64 0) (.t 52) (.t 57), none⟩, zm 51 58, zx 59 0 51, zx 60 1 51, zm 12 59, zm 13 60])
 (.seq (.seq (.reg false [] [3, 7, 8, 9, 10, 12, 38, 39, 40, 45, 62] [zm 61 13, zt 62 61])
 (.cond (.t 62) (.reg false [] [3, 7, 8, 9, 10, 12, 38, 39, 40, 45] [⟨some 12, .mov (.c (.int .i64 (-1))), none⟩])
 .skip))
 (.reg false [] [3, 7, 8, 9, 38, 39, 40, 45] [zm 63 7, zm 64 8, zm 65 10, zm 66 12, zi 67 3 63 64, ⟨some 68, .iadA 3 1 (.t 67) (.t 65), none⟩, ⟨none, .st 1 [] (.t 68) (.t 66), none⟩]))))))
 (.reg false [] [3, 7, 8, 9, 38, 39, 40, 45] [zd 69 .add 45 (.int .i64 1), zm 45 69])))))))))
 (.reg false [] [3, 7, 38, 39, 40] [zd 70 .add 40 (.int .i64 1), zm 40 70])))))))
 (.seq (.reg false [] [2] [zq 71 7, zq 2 71])
 .ret)))))) }
def N262_slices_Index__int_int : NFun := { np := 2, nt := 19, res := [(4, none)], body :=
 (.seq (.reg false [] [0, 1] [zc 4 (.int .i64 0)])
 (.seq (.seq (.reg false [] [0, 1, 7, 8] [zm 6 0, zn 7 6, zc 8 (.int .i64 0)])
 (.block 0 (.loop (.seq (.reg false [] [0, 1, 7, 8, 9] [zb 9 .lss 8 7])
 (.seq (.cond (.t 9) .skip
 (.exit 0))
 (.seq (.block 1 (.seq (.reg false [] [0, 1, 5, 7, 8] [zm 10 8, zm 5 10])
 (.seq (.reg false [] [0, 1, 5, 7, 8, 16] [zm 11 1, zm 12 0, zm 13 5, zi 14 1 12 13, zl 15 1 14, zb 16 .eql 11 15])
 (.cond (.t 16) (.seq (.reg false [] [4] [zm 17 5, zm 4 17])
 .ret)
 .skip))))
 (.reg false [] [0, 1, 7, 8] [zd 18 .add 8 (.int .i64 1), zm 8 18])))))))
 (.seq (.reg false [] [4] [⟨some 4, .mov (.c (.int .i64 (-1))), none⟩])
 .ret))) }
def N263_relief_ground_beside : NFun := { np := 3, nt := 16, res := [(6, none)], body :=
 (.seq (.reg false [] [0, 1, 2] [zc 6 (.bool false)])
 (.seq (.reg false [] [6] [zm 7 0, ⟨some 8, .nck (.t 7), none⟩, zf 9 0 8, zl 10 1 9, zm 11 1, zi 12 3 10 11, ⟨some 13, .slA 3 1 (.t 12), none⟩, zm 14 2, zk 15 223 [(.t 13), (.t 14)], zm 6 15])
 .ret)) }
def N264_relief_ground_descent : NFun := { np := 3, nt := 73, res := [(6, none), (7, none)], body :=
 (.seq (.reg false [] [0, 1, 2] [zc 6 (.int .i64 0), zc 7 (.int .i64 0)])
 (.seq (.reg true [0, 1, 3, 7, 0, 31, 63, 0, 128, 384, 896, 0, 3968, 8064, 16383, 32767] [0, 1, 2, 8] [zm 11 0, ⟨some 12, .nck (.t 11), none⟩, zf 13 1 12, zl 14 1 13, zm 15 1, zi 16 1 14 15, zl 17 1 16, zm 18 0, ⟨some 19, .nck (.t 18), none⟩, zf 20 1 19, zl 21 1 20, zm 22 2, zi 23 1 21 22, zl 24 1 23, zb 25 .sub 17 24, zm 8 25])
 (.seq (.reg true [0, 1, 3, 7, 0, 31, 63, 127, 0, 256, 768, 1792, 0, 7936, 16128, 32512, 65535, 0, 131072, 393216, 917504, 0, 4063232, 8257536, 16646144, 0, 33554432, 100663296, 234881024, 0, 1040187392, 2113929216, 4261412864, 8589803520, 131071, 34359738367] [8, 9, 10] [zm 26 0, ⟨some 27, .nck (.t 26), none⟩, zf 28 2 27, zl 29 1 28, zm 30 1, zi 31 2 29 30, zf 32 0 31, zl 33 1 32, zm 34 0, ⟨some 35, .nck (.t 34), none⟩, zf 36 2 35, zl 37 1 36, zm 38 2, zi 39 2 37 38, zf 40 0 39, zl 41 1 40, zb 42 .sub 33 41, zm 43 0, ⟨some 44, .nck (.t 43), none⟩, zf 45 2 44, zl 46 1 45, zm 47 1, zi 48 2 46 47, zf 49 1 48, zl 50 1 49, zm 51 0, ⟨some 52, .nck (.t 51), none⟩, zf 53 2 52, zl 54 1 53, zm 55 2, zi 56 2 54 55, zf 57 1 56, zl 58 1 57, zb 59 .sub 50 58, zm 9 42, zm 10 59])
 (.seq (.reg false [] [6, 7] [zm 60 8, zm 61 8, zm 62 8, ⟨some 63, .un .neg (.t 62), none⟩, ⟨some 64, .mx (.t 61) (.t 63), none⟩, zb 65 .mul 60 64, zm 66 9, zm 67 9, zb 68 .mul 66 67, zm 69 10, zm 70 10, zb 71 .mul 69 70, zb 72 .add 68 71, zm 6 65, zm 7 72])
 .ret)))) }
def N266_cmp_Or_int : NFun := { np := 1, nt := 18, res := [(2, none)], body :=
 (.seq (.reg false [] [0] [zc 2 (.int .i64 0)])
 (.seq (.reg false [] [0, 3] [zc 3 (.int .i64 0)])
 (.seq (.seq (.reg false [] [3, 6, 7, 8] [zq 6 0, zn 7 6, zc 8 (.int .i64 0)])
 (.block 0 (.loop (.seq (.reg false [] [3, 6, 7, 8, 9] [zb 9 .lss 8 7])
 (.seq (.cond (.t 9) .skip
 (.exit 0))
 (.seq (.block 1 (.seq (.reg false [] [3, 5, 6, 7, 8] [zi 10 1 6 8, zl 11 1 10, zm 5 11])
 (.seq (.reg false [] [3, 5, 6, 7, 8, 14] [zm 12 5, zm 13 3, zb 14 .neq 12 13])
 (.cond (.t 14) (.seq (.reg false [] [2] [zm 15 5, zm 2 15])
 .ret)
 .skip))))
 (.reg false [] [3, 6, 7, 8] [zd 16 .add 8 (.int .i64 1), zm 8 16])))))))
 (.seq (.reg false [] [2] [zm 17 3, zm 2 17])
 .ret)))) }
def N267_cmp_Compare_int : NFun := { np := 2, nt := 20, res := [(4, none)], body :=
 (.seq (.reg false [] [0, 1] [zc 4 (.int .i64 0)])
 (.seq (.reg false [] [0, 1, 5] [zm 7 0, zk 8 299 [(.t 7)], zm 5 8])
 (.seq (.reg false [] [0, 1, 5, 6] [zm 9 1, zk 10 299 [(.t 9)], zm 6 10])
 (.seq (.seq (.reg false [] [0, 1, 6, 11] [zm 11 5])
 (.cond (.t 11) (.seq (.seq (.reg false [] [12] [zm 12 6])
 (.cond (.t 12) (.seq (.reg false [] [4] [zc 4 (.int .i64 0)])
 .ret)
 .skip))
 (.seq (.reg false [] [4] [⟨some 4, .mov (.c (.int .i64 (-1))), none⟩])
 .ret))
 .skip))
 (.seq (.seq (.reg false [] [0, 1, 13] [zm 13 6])
 (.cond (.t 13) (.seq (.reg false [] [4] [zc 4 (.int .i64 1)])
 .ret)
 .skip))
 (.seq (.seq (.reg false [] [0, 1, 16] [zm 14 0, zm 15 1, zb 16 .lss 14 15])
 (.cond (.t 16) (.seq (.reg false [] [4] [⟨some 4, .mov (.c (.int .i64 (-1))), none⟩])
 .ret)
 .skip))
 (.seq (.seq (.reg false [] [19] [zm 17 0, zm 18 1, zb 19 .gtr 17 18])
 (.cond (.t 19) (.seq (.reg false [] [4] [zc 4 (.int .i64 1)])
 .ret)
 .skip))
 (.seq (.reg false [] [4] [zc 4 (.int .i64 0)])
 .ret)))))))) }
def N268_relief_ground_compare : NFun := { np := 4, nt := 52, res := [(8, none)], body :=
 (.seq (.reg false [] [0, 1, 2, 3] [zc 8 (.int .i64 0)])
 (.seq (.reg false [] [0, 1, 3, 9, 10] [zm 20 0, zm 21 1, zm 22 2, zk 23 264 [(.t 20), (.t 21), (.t 22)], zm 19 23, zx 24 0 19, zx 25 1 19, zm 9 24, zm 10 25])
 (.seq (.reg false [] [9, 10, 11, 12] [zm 27 0, zm 28 1, zm 29 3, zk 30 264 [(.t 27), (.t 28), (.t 29)], zm 26 30, zx 31 0 26, zx 32 1 26, zm 11 31, zm 12 32])
 (.seq (.reg false [] [10, 11, 13] [zm 34 9, zm 35 12, zk 36 99 [(.t 34), (.t 35)], zm 33 36, zx 37 0 33, zx 38 1 33, ⟨some 13, .alc [.int .i64 0, .int .i64 0], none⟩, ⟨none, .st 2 [] (.t 13) (.t 37), none⟩, zm 14 38])
 (.seq (.reg false [] [13, 15] [zm 40 11, zm 41 10, zk 42 99 [(.t 40), (.t 41)], zm 39 42, zx 43 0 39, zx 44 1 39, ⟨some 15, .alc [.int .i64 0, .int .i64 0], none⟩, ⟨none, .st 2 [] (.t 15) (.t 43), none⟩, zm 16 44])
 (.seq (.reg false [] [17] [zL 46 2 13, zL 47 2 15, zk 48 225 [(.t 46), (.t 47)], zm 45 48, zx 49 0 45, zx 50 1 45, zm 17 49, zm 18 50])
 (.seq (.reg false [] [8] [zm 51 17, zm 8 51])
 .ret))))))) }
def N273_mesh_Check : NFun := { np := 1, nt := 202, res := [(2, none), (3, none)], body :=
 (.seq (.reg false [] [1] [zo 1 0, zc 2 .nils, zc 3 (.int .i64 0)])
 (.seq (.seq (.reg false [] [1, 24] [zL 22 2 1, zk 23 302 [(.t 22)], zt 24 23])
 (.cond (.t 24) (.seq (.reg false [] [2, 3] [zc 2 .nils, zc 3 (.int .i64 4)])
 .ret)
 .skip))
 (.seq (.reg false [] [1, 4] [⟨some 4, .alc [.own 1 [], .own 1 [], .own 1 [], .own 1 [], .own 1 [], .own 1 [], .own 1 []], none⟩])
 (.seq (.reg false [] [1, 4, 5] [zf 25 0 1, zl 26 1 25, zn 27 26, ⟨some 28, .mks 1 1 [.bool false] (.t 27) (.t 27), none⟩, ⟨some 5, .alc [.own 1 []], none⟩, ⟨none, .st 1 [] (.t 5) (.t 28), none⟩])
 (.seq (.reg false [] [1, 4, 5, 6] [⟨some 29, .mkm 4 1, none⟩, zm 6 29])
 (.seq (.seq (.reg false [] [1, 4, 5, 6, 31, 32, 33] [zf 30 0 1, zl 31 1 30, zn 32 31, zc 33 (.int .i64 0)])
 (.block 0 (.loop (.seq (.reg false [] [1, 4, 5, 6, 31, 32, 33, 34] [zb 34 .lss 33 32])
 (.seq (.cond (.t 34) .skip
 (.exit 0))
 (.seq (.block 1 (.seq (.reg false [] [1, 4, 5, 6, 7, 8, 31, 32, 33] [zm 35 33, zi 36 3 31 33, zL 37 3 36, ⟨some 8, .alc [.int .i64 0, .int .i64 0, .int .i64 0], none⟩, zm 7 35, ⟨none, .st 3 [] (.t 8) (.t 37), none⟩])
 (.seq (.seq (.reg true [0, 0, 0, 4, 12, 31, 63] [1, 4, 5, 6, 7, 31, 32, 33] [zl 38 1 5, zm 39 7, zL 40 3 8, zk 41 303 [(.t 40)], zt 42 41, zi 43 1 38 39, ⟨none, .st 1 [] (.t 43) (.t 42), none⟩])
 (.seq (.reg false [] [1, 4, 5, 6, 7, 31, 32, 33, 47] [zl 44 1 5, zm 45 7, zi 46 1 44 45, zl 47 1 46])
 (.cond (.t 47) (.seq (.reg false [] [1, 4, 5, 6, 31, 32, 33] [⟨some 48, .iadA 7 1 (.t 4) (.c (.int .i64 1)), none⟩, zl 49 1 48, zm 50 7, ⟨some 51, .bls 1 1 [.int .i64 0] [] [(0, (.t 50))], none⟩, ⟨some 52, .app 1 8 false (.t 49) (.t 51), none⟩, ⟨some 53, .iadA 7 1 (.t 4) (.c (.int .i64 1)), none⟩, ⟨none, .st 1 [] (.t 53) (.t 52), none⟩])
 (.exit 1))
 .skip)))
 (.seq (.reg false [] [1, 4, 5, 6, 7, 9, 31, 32, 33] [zL 54 2 1, zm 55 7, zk 56 304 [(.t 54), (.t 55)], ⟨some 9, .alc [.int .i64 0, .int .i64 0], none⟩, ⟨none, .st 2 [] (.t 9) (.t 56), none⟩])
 (.seq (.seq (.reg false [] [1, 4, 5, 6, 7, 9, 31, 32, 33, 59] [zm 57 6, zL 58 2 9, ⟨some 59, .mpl (.ints .i64 2) 4 1 false (.bool false) (.t 57) (.t 58), none⟩])
 (.cond (.t 59) (.reg false [] [1, 4, 5, 6, 9, 31, 32, 33] [⟨some 60, .iadA 7 1 (.t 4) (.c (.int .i64 2)), none⟩, zl 61 1 60, zm 62 7, ⟨some 63, .bls 1 1 [.int .i64 0] [] [(0, (.t 62))], none⟩, ⟨some 64, .app 1 8 false (.t 61) (.t 63), none⟩, ⟨some 65, .iadA 7 1 (.t 4) (.c (.int .i64 2)), none⟩, ⟨none, .st 1 [] (.t 65) (.t 64), none⟩])
 .skip))
 (.reg false [] [1, 4, 5, 6, 31, 32, 33] [zm 66 6, zL 67 2 9, ⟨none, .mpu (.ints .i64 2) 4 1 (.bool false) (.t 66) (.t 67) (.c (.bool true)), none⟩]))))))
 (.reg false [] [1, 4, 5, 6, 31, 32, 33] [zd 68 .add 33 (.int .i64 1), zm 33 68])))))))
 (.seq (.reg false [] [1, 4, 5, 10] [⟨some 69, .mkm 3 1, none⟩, zm 10 69])
 (.seq (.reg false [] [1, 4, 5, 10, 11] [⟨some 11, .nilo 6, none⟩])
 (.seq (.seq (.reg false [] [1, 4, 5, 10, 11, 71, 72, 73] [zf 70 1 1, zl 71 1 70, zn 72 71, zc 73 (.int .i64 0)])
 (.block 2 (.loop (.seq (.reg false [] [1, 4, 5, 10, 11, 71, 72, 73, 74] [zb 74 .lss 73 72])
 (.seq (.cond (.t 74) .skip
 (.exit 2))
 (.seq (.block 3 (.seq (.reg false [] [1, 4, 5, 10, 11, 12, 13, 71, 72, 73] [zm 75 73, zi 76 4 71 73, zL 77 4 76, ⟨some 13, .alc [.int .i64 0, .int .i64 0, .int .i64 0, .int .i64 0], none⟩, zm 12 75, ⟨none, .st 4 [] (.t 13) (.t 77), none⟩])
 (.seq (.reg false [] [1, 4, 5, 10, 11, 12, 13, 14, 71, 72, 73] [zL 78 4 13, zk 79 305 [(.t 78)], ⟨some 14, .alc [.int .i64 0, .int .i64 0, .int .i64 0], none⟩, ⟨none, .st 3 [] (.t 14) (.t 79), none⟩])
 (.seq (.seq (.reg false [] [1, 4, 5, 10, 11, 12, 13, 71, 72, 73, 113] [⟨some 80, .slM 3 1 (.t 14), none⟩, ⟨some 81, .mk 306 [(.t 1), (.t 5)], none⟩, zk 82 11 [(.t 80), (.t 81)], zm 83 82, zg 83 false (zf 84 0 13), zg 83 false (zl 85 1 84), zg 83 false (zf 86 1 13), zg 83 false (zl 87 1 86), zg 83 false (zb 88 .eql 85 87), ⟨some 89, .pick (.t 83) (.c (.bool true)) (.t 88), none⟩, zm 90 89, zg 90 false (zf 91 1 13), zg 90 false (zl 92 1 91), zg 90 false (zf 93 2 13), zg 90 false (zl 94 1 93), zg 90 false (zb 95 .eql 92 94), ⟨some 96, .pick (.t 90) (.c (.bool true)) (.t 95), none⟩, zm 97 96, zg 97 false (zf 98 2 13), zg 97 false (zl 99 1 98), zg 97 false (zf 100 0 13), zg 97 false (zl 101 1 100), zg 97 false (zb 102 .eql 99 101), ⟨some 103, .pick (.t 97) (.c (.bool true)) (.t 102), none⟩, zm 104 103, zg 104 false (zf 105 3 13), zg 104 false (zl 106 1 105), zg 104 false (zd 107 .lss 106 (.int .i64 0)), ⟨some 108, .pick (.t 104) (.c (.bool true)) (.t 107), none⟩, zm 109 108, zg 109 false (zf 110 3 13), zg 109 false (zl 111 1 110), zg 109 false (zd 112 .geq 111 (.int .i64 16)), ⟨some 113, .pick (.t 109) (.c (.bool true)) (.t 112), none⟩])
 (.cond (.t 113) (.seq (.reg false [] [1, 4, 5, 10, 11, 71, 72, 73] [⟨some 114, .iadA 7 1 (.t 4) (.c (.int .i64 3)), none⟩, zl 115 1 114, zm 116 12, ⟨some 117, .bls 1 1 [.int .i64 0] [] [(0, (.t 116))], none⟩, ⟨some 118, .app 1 8 false (.t 115) (.t 117), none⟩, ⟨some 119, .iadA 7 1 (.t 4) (.c (.int .i64 3)), none⟩, ⟨none, .st 1 [] (.t 119) (.t 118), none⟩])
 (.exit 3))
 .skip))
 (.seq (.reg false [] [1, 4, 5, 10, 11, 12, 13, 15, 71, 72, 73] [zL 120 2 1, zL 121 4 13, zk 122 307 [(.t 120), (.t 121)], ⟨some 15, .alc [.int .i64 0, .int .i64 0, .int .i64 0, .int .i64 0, .int .i64 0, .int .i64 0], none⟩, ⟨none, .st 6 [] (.t 15) (.t 122), none⟩])
 (.seq (.seq (.reg false [] [1, 4, 5, 10, 11, 12, 13, 15, 71, 72, 73, 130] [⟨some 123, .iadA 3 2 (.t 15) (.c (.int .i64 0)), none⟩, zL 124 2 123, ⟨some 125, .iadA 3 2 (.t 15) (.c (.int .i64 1)), none⟩, zL 126 2 125, ⟨some 127, .iadA 3 2 (.t 15) (.c (.int .i64 2)), none⟩, zL 128 2 127, zk 129 308 [(.t 124), (.t 126), (.t 128)], zd 130 .leq 129 (.int .i64 0)])
 (.cond (.t 130) (.seq (.reg false [] [1, 4, 5, 10, 11, 71, 72, 73] [⟨some 131, .iadA 7 1 (.t 4) (.c (.int .i64 4)), none⟩, zl 132 1 131, zm 133 12, ⟨some 134, .bls 1 1 [.int .i64 0] [] [(0, (.t 133))], none⟩, ⟨some 135, .app 1 8 false (.t 132) (.t 134), none⟩, ⟨some 136, .iadA 7 1 (.t 4) (.c (.int .i64 4)), none⟩, ⟨none, .st 1 [] (.t 136) (.t 135), none⟩])
 (.exit 3))
 .skip))
 (.seq (.seq (.reg false [] [1, 4, 5, 10, 11, 12, 13, 15, 71, 72, 73, 152] [zm 137 10, zL 138 4 13, zk 139 298 [(.t 138), (.c (.int .i64 0))], ⟨some 140, .mpl (.ints .i64 2) 3 1 false (.bool false) (.t 137) (.t 139), none⟩, zm 141 140, zg 141 false (zm 142 10), zg 141 false (zL 143 4 13), zg 141 false (zk 144 298 [(.t 143), (.c (.int .i64 1))]), zg 141 false (⟨some 145, .mpl (.ints .i64 2) 3 1 false (.bool false) (.t 142) (.t 144), none⟩), ⟨some 146, .pick (.t 141) (.c (.bool true)) (.t 145), none⟩, zm 147 146, zg 147 false (zm 148 10), zg 147 false (zL 149 4 13), zg 147 false (zk 150 298 [(.t 149), (.c (.int .i64 2))]), zg 147 false (⟨some 151, .mpl (.ints .i64 2) 3 1 false (.bool false) (.t 148) (.t 150), none⟩), ⟨some 152, .pick (.t 147) (.c (.bool true)) (.t 151), none⟩])
 (.cond (.t 152) (.reg false [] [1, 4, 5, 10, 11, 12, 13, 15, 71, 72, 73] [⟨some 153, .iadA 7 1 (.t 4) (.c (.int .i64 5)), none⟩, zl 154 1 153, zm 155 12, ⟨some 156, .bls 1 1 [.int .i64 0] [] [(0, (.t 155))], none⟩, ⟨some 157, .app 1 8 false (.t 154) (.t 156), none⟩, ⟨some 158, .iadA 7 1 (.t 4) (.c (.int .i64 5)), none⟩, ⟨none, .st 1 [] (.t 158) (.t 157), none⟩])
 .skip))
 (.seq (.seq (.reg false [] [1, 4, 5, 10, 11, 12, 13, 15, 71, 72, 73, 159] [zc 159 (.int .i64 0)])
 (.block 4 (.loop (.seq (.reg false [] [1, 4, 5, 10, 11, 12, 13, 15, 71, 72, 73, 159, 160] [zd 160 .lss 159 (.int .i64 3)])
 (.seq (.cond (.t 160) .skip
 (.exit 4))
 (.seq (.block 5 (.seq (.reg false [] [1, 4, 5, 10, 11, 12, 13, 15, 16, 71, 72, 73, 159] [zm 161 159, zm 16 161])
 (.reg false [] [1, 4, 5, 10, 11, 12, 13, 15, 71, 72, 73, 159] [zm 162 10, zL 163 4 13, zm 164 16, zk 165 298 [(.t 163), (.t 164)], ⟨none, .mpu (.ints .i64 2) 3 1 (.bool false) (.t 162) (.t 165) (.c (.bool true)), none⟩])))
 (.reg false [] [1, 4, 5, 10, 11, 12, 13, 15, 71, 72, 73, 159] [zd 166 .add 159 (.int .i64 1), zm 159 166])))))))
 (.seq (.seq (.reg false [] [1, 4, 5, 10, 11, 12, 15, 71, 72, 73, 169] [zm 167 11, ⟨some 168, .mk 310 [(.t 15)], none⟩, zk 169 309 [(.t 167), (.t 168)]])
 (.cond (.t 169) (.reg false [] [1, 4, 5, 10, 11, 15, 71, 72, 73] [⟨some 170, .iadA 7 1 (.t 4) (.c (.int .i64 6)), none⟩, zl 171 1 170, zm 172 12, ⟨some 173, .bls 1 1 [.int .i64 0] [] [(0, (.t 172))], none⟩, ⟨some 174, .app 1 8 false (.t 171) (.t 173), none⟩, ⟨some 175, .iadA 7 1 (.t 4) (.c (.int .i64 6)), none⟩, ⟨none, .st 1 [] (.t 175) (.t 174), none⟩])
 .skip))
 (.reg false [] [1, 4, 5, 10, 11, 71, 72, 73] [zm 176 11, zL 177 6 15, ⟨some 178, .bls 6 1 [.int .i64 0, .int .i64 0, .int .i64 0, .int .i64 0, .int .i64 0, .int .i64 0] [] [(0, (.t 177))], none⟩, ⟨some 179, .app 6 48 false (.t 176) (.t 178), none⟩, zq 11 179]))))))))))
 (.reg false [] [1, 4, 5, 10, 11, 71, 72, 73] [zd 180 .add 73 (.int .i64 1), zm 73 180])))))))
 (.seq (.reg false [] [4, 17] [⟨some 17, .nilo 2, none⟩])
 (.seq (.seq (.reg false [] [17, 181, 182] [zL 181 7 4, zc 182 (.int .i64 0)])
 (.block 6 (.loop (.seq (.reg false [] [17, 181, 182, 183] [zd 183 .lss 182 (.int .i64 7)])
 (.seq (.cond (.t 183) .skip
 (.exit 6))
 (.seq (.block 7 (.seq (.reg false [] [17, 18, 19, 181, 182] [zm 184 182, ⟨some 185, .idxA 7 1 false (.t 181) (.t 182), none⟩, zm 18 184, zq 19 185])
 (.seq (.reg false [] [17, 18, 181, 182, 186, 187, 188] [zq 186 19, zn 187 186, zc 188 (.int .i64 0)])
 (.block 8 (.loop (.seq (.reg false [] [17, 18, 181, 182, 186, 187, 188, 189] [zb 189 .lss 188 187])
 (.seq (.cond (.t 189) .skip
 (.exit 8))
 (.seq (.block 9 (.seq (.reg false [] [17, 18, 21, 181, 182, 186, 187, 188] [zi 190 1 186 188, zl 191 1 190, zm 21 191])
 (.reg false [] [17, 18, 181, 182, 186, 187, 188] [zm 192 17, zm 193 18, zm 194 21, zk 195 127 [(.t 194)], ⟨some 196, .bld [.int .i64 0, .str []] [(0, 1, (.t 193)), (1, 1, (.t 195))], none⟩, ⟨some 197, .bls 2 1 [.int .i64 0, .str []] [] [(0, (.t 196))], none⟩, ⟨some 198, .app 2 24 false (.t 192) (.t 197), none⟩, zq 17 198])))
 (.reg false [] [17, 18, 181, 182, 186, 187, 188] [zd 199 .add 188 (.int .i64 1), zm 188 199])))))))))
 (.reg false [] [17, 181, 182] [zd 200 .add 182 (.int .i64 1), zm 182 200])))))))
 (.seq (.reg false [] [2, 3] [zq 201 17, zq 2 201, zc 3 (.int .i64 0)])
 .ret)))))))))))) }
def N281_ref10_Sums : NFun := { np := 1, nt := 19, res := [(2, none)], body :=
 (.seq (.reg false [] [1] [zo 1 0, zc 2 .nils])
 (.seq (.reg false [] [1, 3] [⟨some 3, .nilo 1, none⟩])
 (.seq (.seq (.reg false [] [1, 3, 4] [zc 4 (.int .i64 0)])
 (.block 0 (.loop (.seq (.seq (.reg false [] [1, 3, 4, 9] [zm 5 4, zf 6 1 1, zl 7 1 6, zn 8 7, zb 9 .lss 5 8])
 (.cond (.t 9) .skip
 (.exit 0)))
 (.seq (.block 1 (.reg false [] [1, 3, 4] [zm 12 3, zL 13 2 1, zm 14 4, zk 15 296 [(.t 13), (.t 14)], ⟨some 16, .bls 1 1 [.int .i64 0] [] [(0, (.t 15))], none⟩, ⟨some 17, .app 1 8 false (.t 12) (.t 16), none⟩, zq 3 17]))
 (.reg false [] [1, 3, 4] [zm 10 4, zd 11 .add 10 (.int .i64 1), zm 4 11]))))))
 (.seq (.reg false [] [2] [zq 18 3, zq 2 18])
 .ret)))) }
def N285_ref09_Triangle : NFun := { np := 2, nt := 27, res := [(4, none)], body :=
 (.seq (.reg false [] [2, 3] [zo 2 0, zo 3 1, zc 4 .nils])
 (.seq (.reg true [0, 1, 0, 4, 15, 31, 63, 0, 128, 0, 512, 1920, 3968, 8191, 0, 16384, 0, 65536, 245760, 507904, 1048575, 2097151, 4194303] [4] [zf 5 0 2, zl 6 1 5, zf 7 0 3, zl 8 1 7, zi 9 3 6 8, zL 10 3 9, zk 11 291 [(.t 10)], zf 12 0 2, zl 13 1 12, zf 14 1 3, zl 15 1 14, zi 16 3 13 15, zL 17 3 16, zk 18 291 [(.t 17)], zf 19 0 2, zl 20 1 19, zf 21 2 3, zl 22 1 21, zi 23 3 20 22, zL 24 3 23, zk 25 291 [(.t 24)], ⟨some 26, .bls 2 3 [.int .i64 0, .int .i64 0] [] [(0, (.t 11)), (1, (.t 18)), (2, (.t 25))], none⟩, zq 4 26])
 .ret)) }
def N286_ref07_Turn : NFun := { np := 3, nt := 30, res := [(6, none)], body :=
 (.seq (.reg false [] [3, 4, 5] [zo 3 0, zo 4 1, zo 5 2, zc 6 (.int .i64 0)])
 (.seq (.reg false [] [6] [zf 7 0 4, zl 8 1 7, zf 9 0 3, zl 10 1 9, zb 11 .sub 8 10, zf 12 1 5, zl 13 1 12, zf 14 1 3, zl 15 1 14, zb 16 .sub 13 15, zb 17 .mul 11 16, zf 18 1 4, zl 19 1 18, zf 20 1 3, zl 21 1 20, zb 22 .sub 19 21, zf 23 0 5, zl 24 1 23, zf 25 0 3, zl 26 1 25, zb 27 .sub 24 26, zb 28 .mul 22 27, zb 29 .sub 17 28, zm 6 29])
 .ret)) }
def N287_ref09_Across : NFun := { np := 3, nt := 25, res := [(6, none), (7, none)], body :=
 (.seq (.reg false [] [1, 2, 3] [zo 3 0, zc 6 (.int .i64 0), zc 7 (.int .i64 0)])
 (.seq (.reg false [] [2, 3, 8] [zf 9 1 3, zl 10 1 9, zm 11 1, zi 12 4 10 11, zL 13 4 12, ⟨some 8, .alc [.int .i64 0, .int .i64 0, .int .i64 0, .int .i64 0], none⟩, ⟨none, .st 4 [] (.t 8) (.t 13), none⟩])
 (.seq (.reg true [0, 0, 0, 4, 14, 0, 0, 126, 255, 511, 511, 2047, 4095] [6, 7] [zL 14 2 3, zL 15 4 8, zm 16 2, zd 17 .add 16 (.int .i64 1), zk 18 323 [(.t 15), (.t 17)], zL 19 4 8, zm 20 2, zk 21 323 [(.t 19), (.t 20)], zk 22 322 [(.t 14), (.t 18), (.t 21)], zx 23 0 22, zx 24 1 22, zm 6 23, zm 7 24])
 .ret))) }
def N288_relief_ground_has_1 : NFun := { np := 2, nt := 15, res := [(3, none)], body :=
 (.seq (.reg false [] [0, 1] [zc 3 (.bool false)])
 (.seq (.reg false [] [3] [zm 4 0, zd 5 .lss 4 (.int .i64 0), zm 6 5, zg 6 false (zm 7 0), zg 6 false (zl 8 1 1), zg 6 false (⟨some 9, .nck (.t 8), none⟩), zg 6 false (zf 10 1 9), zg 6 false (zl 11 1 10), zg 6 false (zn 12 11), zg 6 false (zb 13 .geq 7 12), ⟨some 14, .pick (.t 6) (.c (.bool true)) (.t 13), none⟩, zm 3 14])
 .ret)) }
def N289_ref09_Spot : NFun := { np := 1, nt := 31, res := [(2, none)], body :=
 (.seq (.reg false [] [1] [zo 1 0, zc 2 (.bool false)])
 (.seq (.reg false [] [2] [zf 3 0 1, zl 4 1 3, ⟨some 5, .bin .geq (.t 4) (.c (.int .i64 (-16777216))), none⟩, zm 6 5, zg 6 true (zf 7 0 1), zg 6 true (zl 8 1 7), zg 6 true (zd 9 .leq 8 (.int .i64 16777216)), ⟨some 10, .pick (.t 6) (.t 9) (.c (.bool false)), none⟩, zm 11 10, zg 11 true (zf 12 1 1), zg 11 true (zl 13 1 12), zg 11 true (⟨some 14, .bin .geq (.t 13) (.c (.int .i64 (-16777216))), none⟩), ⟨some 15, .pick (.t 11) (.t 14) (.c (.bool false)), none⟩, zm 16 15, zg 16 true (zf 17 1 1), zg 16 true (zl 18 1 17), zg 16 true (zd 19 .leq 18 (.int .i64 16777216)), ⟨some 20, .pick (.t 16) (.t 19) (.c (.bool false)), none⟩, zm 21 20, zg 21 true (zf 22 2 1), zg 21 true (zl 23 1 22), zg 21 true (⟨some 24, .bin .geq (.t 23) (.c (.int .i64 (-4194304))), none⟩), ⟨some 25, .pick (.t 21) (.t 24) (.c (.bool false)), none⟩, zm 26 25, zg 26 true (zf 27 2 1), zg 26 true (zl 28 1 27), zg 26 true (zd 29 .leq 28 (.int .i64 4194304)), ⟨some 30, .pick (.t 26) (.t 29) (.c (.bool false)), none⟩, zm 2 30])
 .ret)) }
def N290_ref09_Decimal : NFun := { np := 1, nt := 21, res := [(2, none)], body :=
 (.seq (.reg false [] [0] [zc 2 (.str [])])
 (.seq (.reg false [] [0, 3] [zc 3 (.str [])])
 (.seq (.block 0 (.loop (.seq (.seq (.reg false [] [0, 3, 9] [zm 4 0, zd 5 .gtr 4 (.int .i64 0), zm 6 5, zg 6 false (zm 7 3), zg 6 false (zd 8 .eql 7 (.str [])), ⟨some 9, .pick (.t 6) (.c (.bool true)) (.t 8), none⟩])
 (.cond (.t 9) .skip
 (.exit 0)))
 (.block 1 (.seq (.reg false [] [0, 3] [zm 10 0, zd 11 .rem 10 (.int .i64 10), ⟨some 12, .bin .add (.c (.int .i64 48)) (.t 11), none⟩, ⟨some 13, .conv .u8 (.t 12), none⟩, ⟨some 14, .blsF 1 1 [.int .u8 0] [(0, (.t 13))], none⟩, ⟨some 15, .cvS (.t 14), none⟩, zm 16 3, zb 17 .add 15 16, zm 3 17])
 (.reg false [] [0, 3] [zm 18 0, zd 19 .quo 18 (.int .i64 10), zm 0 19]))))))
 (.seq (.reg false [] [2] [zm 20 3, zm 2 20])
 .ret)))) }
def N291_ref09_Point : NFun := { np := 1, nt := 8, res := [(2, some (2, true))], body :=
 (.seq (.reg false [] [1, 2] [zo 1 0, ⟨some 2, .alc [.int .i64 0, .int .i64 0], none⟩])
 (.seq (.reg false [] [2] [zf 3 0 1, zl 4 1 3, zf 5 1 1, zl 6 1 5, ⟨some 7, .bld [.int .i64 0, .int .i64 0] [(0, 1, (.t 4)), (1, 1, (.t 6))], none⟩, ⟨none, .st 2 [] (.t 2) (.t 7), none⟩])
 .ret)) }
def N292_ref09_corners : NFun := { np := 2, nt := 66, res := [(4, none)], body :=
 (.seq (.reg false [] [2, 3] [zo 2 0, zo 3 1, zc 4 (.bool false)])
 (.seq (.reg false [] [2, 3, 5] [zf 7 0 3, zl 8 1 7, zf 9 1 3, zl 10 1 9, zf 11 2 3, zl 12 1 11, ⟨some 13, .bls 1 3 [.int .i64 0] [] [(0, (.t 8)), (1, (.t 10)), (2, (.t 12))], none⟩, zq 5 13])
 (.seq (.seq (.reg false [] [2, 3, 5, 6] [zc 6 (.int .i64 0)])
 (.block 0 (.loop (.seq (.seq (.reg false [] [2, 3, 5, 6, 15] [zm 14 6, zd 15 .lss 14 (.int .i64 3)])
 (.cond (.t 15) .skip
 (.exit 0)))
 (.seq (.block 1 (.seq (.reg true [0, 0, 3, 7, 15, 31, 63, 63, 255, 511, 63, 1087, 3135, 8191, 16383, 32767, 65535, 65535, 262143, 524287, 65535, 65535, 2162687, 6356991, 15794175, 32571391, 67108863, 134217727, 268435455, 536870911, 1073741823, 536870911, 536870911, 6979321855, 15569256447, 34359738367, 68719476735, 137438953471, 274877906943, 549755813887] [2, 3, 5, 6, 57] [zm 18 5, zm 19 6, zi 20 1 18 19, zl 21 1 20, zd 22 .lss 21 (.int .i64 0), zm 23 22, zg 23 false (zm 24 5), zg 23 false (zm 25 6), zg 23 false (zi 26 1 24 25), zg 23 false (zl 27 1 26), zg 23 false (zf 28 0 2), zg 23 false (zl 29 1 28), zg 23 false (zn 30 29), zg 23 false (zb 31 .geq 27 30), ⟨some 32, .pick (.t 23) (.c (.bool true)) (.t 31), none⟩, zm 33 32, zg 33 false (zm 34 5), zg 33 false (zm 35 6), zg 33 false (zi 36 1 34 35), zg 33 false (zl 37 1 36), zg 33 false (zm 38 5), zg 33 false (zm 39 6), zg 33 false (zd 40 .add 39 (.int .i64 1)), zg 33 false (zd 41 .rem 40 (.int .i64 3)), zg 33 false (zi 42 1 38 41), zg 33 false (zl 43 1 42), zg 33 false (zb 44 .eql 37 43), ⟨some 45, .pick (.t 33) (.c (.bool true)) (.t 44), none⟩, zm 46 45, zg 46 false (zf 47 0 2), zg 46 false (zl 48 1 47), zg 46 false (zm 49 5), zg 46 false (zm 50 6), zg 46 false (zi 51 1 49 50), zg 46 false (zl 52 1 51), zg 46 false (zi 53 3 48 52), zg 46 false (zL 54 3 53), zg 46 false (zk 55 289 [(.t 54)]), zg 46 false (zt 56 55), ⟨some 57, .pick (.t 46) (.c (.bool true)) (.t 56), none⟩])
 (.cond (.t 57) (.seq (.reg false [] [4] [zc 4 (.bool false)])
 .ret)
 .skip)))
 (.reg false [] [2, 3, 5, 6] [zm 16 6, zd 17 .add 16 (.int .i64 1), zm 6 17]))))))
 (.seq (.reg false [] [4] [zf 58 3 3, zl 59 1 58, zd 60 .geq 59 (.int .i64 0), zm 61 60, zg 61 true (zf 62 3 3), zg 61 true (zl 63 1 62), zg 61 true (zd 64 .lss 63 (.int .i64 16)), ⟨some 65, .pick (.t 61) (.t 64) (.c (.bool false)), none⟩, zm 4 65])
 .ret)))) }
def N293_ref09_turn : NFun := { np := 2, nt := 19, res := [(4, none)], body :=
 (.seq (.reg false [] [2, 3] [zo 2 0, zo 3 1, zc 4 (.int .i64 0)])
 (.seq (.reg false [] [5] [zL 6 2 2, zL 7 4 3, zk 8 285 [(.t 6), (.t 7)], zq 5 8])
 (.seq (.reg true [0, 1, 3, 0, 8, 24, 0, 64, 192, 511, 1023] [4] [zm 9 5, ⟨some 10, .iadS 2 (.t 9) (.c (.int .i64 0)), none⟩, zL 11 2 10, zm 12 5, ⟨some 13, .iadS 2 (.t 12) (.c (.int .i64 1)), none⟩, zL 14 2 13, zq 15 5, ⟨some 16, .iadS 2 (.t 15) (.c (.int .i64 2)), none⟩, zL 17 2 16, zk 18 286 [(.t 11), (.t 14), (.t 17)], zm 4 18])
 .ret))) }
def N294_ref09_sameSide : NFun := { np := 2, nt := 33, res := [(4, none)], body :=
 (.seq (.reg false [] [2, 3] [zo 2 0, zo 3 1, zc 4 (.bool false)])
 (.seq (.seq (.reg false [] [2, 3, 5] [zc 5 (.int .i64 0)])
 (.block 0 (.loop (.seq (.seq (.reg false [] [2, 3, 5, 8] [zm 7 5, zd 8 .lss 7 (.int .i64 3)])
 (.cond (.t 8) .skip
 (.exit 0)))
 (.seq (.block 1 (.seq (.reg false [] [2, 3, 5, 6] [zc 6 (.int .i64 0)])
 (.block 2 (.loop (.seq (.seq (.reg false [] [2, 3, 5, 6, 12] [zm 11 6, zd 12 .lss 11 (.int .i64 3)])
 (.cond (.t 12) .skip
 (.exit 2)))
 (.seq (.block 3 (.seq (.reg true [0, 0, 3, 0, 0, 31, 63, 127, 255, 255, 767, 2047, 255, 255, 8447, 32767, 65535, 131071] [2, 3, 5, 6, 32] [zL 15 4 2, zm 16 5, zk 17 323 [(.t 15), (.t 16)], zL 18 4 3, zm 19 6, zk 20 323 [(.t 18), (.t 19)], zb 21 .eql 17 20, zm 22 21, zg 22 true (zL 23 4 2), zg 22 true (zm 24 5), zg 22 true (zd 25 .add 24 (.int .i64 1)), zg 22 true (zk 26 323 [(.t 23), (.t 25)]), zg 22 true (zL 27 4 3), zg 22 true (zm 28 6), zg 22 true (zd 29 .add 28 (.int .i64 1)), zg 22 true (zk 30 323 [(.t 27), (.t 29)]), zg 22 true (zb 31 .eql 26 30), ⟨some 32, .pick (.t 22) (.t 31) (.c (.bool false)), none⟩])
 (.cond (.t 32) (.seq (.reg false [] [4] [zc 4 (.bool true)])
 .ret)
 .skip)))
 (.reg false [] [2, 3, 5, 6] [zm 13 6, zd 14 .add 13 (.int .i64 1), zm 6 14])))))))
 (.reg false [] [2, 3, 5] [zm 9 5, zd 10 .add 9 (.int .i64 1), zm 5 10]))))))
 (.seq (.reg false [] [4] [zc 4 (.bool false)])
 .ret))) }
def N295_ref09_overlap : NFun := { np := 3, nt := 25, res := [(6, none)], body :=
 (.seq (.reg false [] [3, 4, 5] [zo 3 0, zo 4 1, zo 5 2, zc 6 (.bool false)])
 (.seq (.reg true [0, 0, 3, 0, 0, 31, 63, 127] [7, 8] [zL 9 2 3, zL 10 4 4, zk 11 285 [(.t 9), (.t 10)], zL 12 2 3, zL 13 4 5, zk 14 285 [(.t 12), (.t 13)], zq 7 11, zq 8 14])
 (.seq (.reg false [] [6] [zm 15 7, zm 16 8, zk 17 324 [(.t 15), (.t 16)], zt 18 17, zm 19 18, zg 19 true (zq 20 8), zg 19 true (zq 21 7), zg 19 true (zk 22 324 [(.t 20), (.t 21)]), zg 19 true (zt 23 22), ⟨some 24, .pick (.t 19) (.t 23) (.c (.bool false)), none⟩, zm 6 24])
 .ret))) }
def N296_ref10_Sum : NFun := { np := 2, nt := 34, res := [(4, none)], body :=
 (.seq (.reg false [] [1, 2] [zo 2 0, zc 4 (.int .i64 0)])
 (.seq (.reg false [] [2, 5] [zf 6 1 2, zl 7 1 6, zm 8 1, zi 9 4 7 8, zL 10 4 9, ⟨some 5, .alc [.int .i64 0, .int .i64 0, .int .i64 0, .int .i64 0], none⟩, ⟨none, .st 4 [] (.t 5) (.t 10), none⟩])
 (.seq (.reg true [0, 1, 0, 4, 15, 31, 63, 0, 128, 0, 512, 1920, 3968, 8064, 16383, 0, 32768, 0, 131072, 491520, 1015808, 2064384, 4194303, 8388607] [4] [zf 11 0 2, zl 12 1 11, zf 13 0 5, zl 14 1 13, zi 15 3 12 14, zf 16 2 15, zl 17 1 16, zf 18 0 2, zl 19 1 18, zf 20 1 5, zl 21 1 20, zi 22 3 19 21, zf 23 2 22, zl 24 1 23, zb 25 .add 17 24, zf 26 0 2, zl 27 1 26, zf 28 2 5, zl 29 1 28, zi 30 3 27 29, zf 31 2 30, zl 32 1 31, zb 33 .add 25 32, zm 4 33])
 .ret))) }
def N297_ref10_Steeper : NFun := { np := 4, nt := 34, res := [(8, none)], body :=
 (.seq (.reg false [] [1, 2, 3, 4] [zo 4 0, zc 8 (.int .i64 0)])
 (.seq (.reg false [] [1, 3, 4, 9, 10] [zL 14 2 4, zm 15 1, zm 16 2, zk 17 325 [(.t 14), (.t 15), (.t 16)], zm 13 17, zx 18 0 13, zx 19 1 13, zm 9 18, zm 10 19])
 (.seq (.reg false [] [9, 10, 11, 12] [zL 21 2 4, zm 22 1, zm 23 3, zk 24 325 [(.t 21), (.t 22), (.t 23)], zm 20 24, zx 25 0 20, zx 26 1 20, zm 11 25, zm 12 26])
 (.seq (.reg false [] [8] [zm 27 9, zm 28 12, zk 29 67 [(.t 27), (.t 28)], zm 30 11, zm 31 10, zk 32 67 [(.t 30), (.t 31)], zk 33 326 [(.t 29), (.t 32)], zm 8 33])
 .ret)))) }
def N298_mesh_side : NFun := { np := 2, nt := 17, res := [(4, some (2, true))], body :=
 (.seq (.reg false [] [1, 2, 4] [zo 2 0, ⟨some 4, .alc [.int .i64 0, .int .i64 0], none⟩])
 (.seq (.reg false [] [1, 4, 5] [zL 6 4 2, zk 7 305 [(.t 6)], ⟨some 5, .alc [.int .i64 0, .int .i64 0, .int .i64 0], none⟩, ⟨none, .st 3 [] (.t 5) (.t 7), none⟩])
 (.seq (.reg true [0, 1, 3, 0, 8, 24, 56, 120, 255, 511] [4] [zm 8 1, ⟨some 9, .iadA 3 1 (.t 5) (.t 8), none⟩, zl 10 1 9, zm 11 1, zd 12 .add 11 (.int .i64 1), zd 13 .rem 12 (.int .i64 3), ⟨some 14, .iadA 3 1 (.t 5) (.t 13), none⟩, zl 15 1 14, ⟨some 16, .bld [.int .i64 0, .int .i64 0] [(0, 1, (.t 10)), (1, 1, (.t 15))], none⟩, ⟨none, .st 2 [] (.t 4) (.t 16), none⟩])
 .ret))) }
def N299_cmp_isNaN_int : NFun := { np := 1, nt := 6, res := [(2, none)], body :=
 (.seq (.reg false [] [0] [zc 2 (.bool false)])
 (.seq (.reg false [] [2] [zm 3 0, zm 4 0, zb 5 .neq 3 4, zm 2 5])
 .ret)) }
def N302_mesh_small : NFun := { np := 1, nt := 13, res := [(2, none)], body :=
 (.seq (.reg false [] [1] [zo 1 0, zc 2 (.bool false)])
 (.seq (.reg false [] [2] [zf 3 0 1, zl 4 1 3, zn 5 4, zd 6 .leq 5 (.int .i64 2000), zm 7 6, zg 7 true (zf 8 1 1), zg 7 true (zl 9 1 8), zg 7 true (zn 10 9), zg 7 true (zd 11 .leq 10 (.int .i64 4000)), ⟨some 12, .pick (.t 7) (.t 11) (.c (.bool false)), none⟩, zm 2 12])
 .ret)) }
def N303_mesh_right : NFun := { np := 1, nt := 19, res := [(2, none)], body :=
 (.seq (.reg false [] [1] [zo 1 0, zc 2 (.bool false)])
 (.seq (.reg false [] [2] [zf 3 0 1, zl 4 1 3, zf 5 1 1, zl 6 1 5, ⟨some 7, .bld [.int .i64 0, .int .i64 0] [(0, 1, (.t 4)), (1, 1, (.t 6))], none⟩, zk 8 313 [(.t 7)], zm 9 8, zg 9 true (zf 10 2 1), zg 9 true (zl 11 1 10), zg 9 true (⟨some 12, .bin .geq (.t 11) (.c (.int .i64 (-4194304))), none⟩), ⟨some 13, .pick (.t 9) (.t 12) (.c (.bool false)), none⟩, zm 14 13, zg 14 true (zf 15 2 1), zg 14 true (zl 16 1 15), zg 14 true (zd 17 .leq 16 (.int .i64 4194304)), ⟨some 18, .pick (.t 14) (.t 17) (.c (.bool false)), none⟩, zm 2 18])
 .ret)) }
def N304_mesh_point : NFun := { np := 2, nt := 18, res := [(4, some (2, true))], body :=
 (.seq (.reg false [] [1, 2, 4] [zo 2 0, ⟨some 4, .alc [.int .i64 0, .int .i64 0], none⟩])
 (.seq (.reg true [0, 1, 0, 7, 15, 31, 0, 64, 0, 448, 960, 1984, 4095, 8191] [4] [zf 5 0 2, zl 6 1 5, zm 7 1, zi 8 3 6 7, zf 9 0 8, zl 10 1 9, zf 11 0 2, zl 12 1 11, zm 13 1, zi 14 3 12 13, zf 15 1 14, zl 16 1 15, ⟨some 17, .bld [.int .i64 0, .int .i64 0] [(0, 1, (.t 10)), (1, 1, (.t 16))], none⟩, ⟨none, .st 2 [] (.t 4) (.t 17), none⟩])
 .ret)) }
def N305_mesh_corners : NFun := { np := 1, nt := 10, res := [(2, some (3, true))], body :=
 (.seq (.reg false [] [1, 2] [zo 1 0, ⟨some 2, .alc [.int .i64 0, .int .i64 0, .int .i64 0], none⟩])
 (.seq (.reg false [] [2] [zf 3 0 1, zl 4 1 3, zf 5 1 1, zl 6 1 5, zf 7 2 1, zl 8 1 7, ⟨some 9, .bld [.int .i64 0, .int .i64 0, .int .i64 0] [(0, 1, (.t 4)), (1, 1, (.t 6)), (2, 1, (.t 8))], none⟩, ⟨none, .st 3 [] (.t 2) (.t 9), none⟩])
 .ret)) }
def N306_mesh_Check_1 : NFun := { np := 3, nt := 20, res := [(4, none)], body :=
 (.seq (.reg false [] [0, 1, 2] [zc 4 (.bool false)])
 (.seq (.reg false [] [4] [zm 5 0, zd 6 .lss 5 (.int .i64 0), zm 7 6, zg 7 false (zm 8 0), zg 7 false (zf 9 0 1), zg 7 false (zl 10 1 9), zg 7 false (zn 11 10), zg 7 false (zb 12 .geq 8 11), ⟨some 13, .pick (.t 7) (.c (.bool true)) (.t 12), none⟩, zm 14 13, zg 14 false (zl 15 1 2), zg 14 false (zm 16 0), zg 14 false (zi 17 1 15 16), zg 14 false (zl 18 1 17), ⟨some 19, .pick (.t 14) (.c (.bool true)) (.t 18), none⟩, zm 4 19])
 .ret)) }
def N307_mesh_triangle : NFun := { np := 2, nt := 18, res := [(4, some (6, true))], body :=
 (.seq (.reg false [] [2, 3, 4] [zo 2 0, zo 3 1, ⟨some 4, .alc [.int .i64 0, .int .i64 0, .int .i64 0, .int .i64 0, .int .i64 0, .int .i64 0], none⟩])
 (.seq (.reg true [0, 0, 2, 7, 0, 0, 32, 127, 0, 0, 512, 2047, 4095, 8191] [4] [zL 5 2 2, zf 6 0 3, zl 7 1 6, zk 8 304 [(.t 5), (.t 7)], zL 9 2 2, zf 10 1 3, zl 11 1 10, zk 12 304 [(.t 9), (.t 11)], zL 13 2 2, zf 14 2 3, zl 15 1 14, zk 16 304 [(.t 13), (.t 15)], ⟨some 17, .bld [.int .i64 0, .int .i64 0, .int .i64 0, .int .i64 0, .int .i64 0, .int .i64 0] [(0, 2, (.t 8)), (2, 2, (.t 12)), (4, 2, (.t 16))], none⟩, ⟨none, .st 6 [] (.t 4) (.t 17), none⟩])
 .ret)) }
def N308_mesh_turn : NFun := { np := 3, nt := 30, res := [(6, none)], body :=
 (.seq (.reg false [] [3, 4, 5] [zo 3 0, zo 4 1, zo 5 2, zc 6 (.int .i64 0)])
 (.seq (.reg false [] [6] [zf 7 0 4, zl 8 1 7, zf 9 0 3, zl 10 1 9, zb 11 .sub 8 10, zf 12 1 5, zl 13 1 12, zf 14 1 3, zl 15 1 14, zb 16 .sub 13 15, zb 17 .mul 11 16, zf 18 1 4, zl 19 1 18, zf 20 1 3, zl 21 1 20, zb 22 .sub 19 21, zf 23 0 5, zl 24 1 23, zf 25 0 3, zl 26 1 25, zb 27 .sub 24 26, zb 28 .mul 22 27, zb 29 .sub 17 28, zm 6 29])
 .ret)) }
def N309_slices_ContainsFunc___3api_Point__3api_Point : NFun := { np := 2, nt := 9, res := [(4, none)], body :=
 (.seq (.reg false [] [0, 1] [zc 4 (.bool false)])
 (.seq (.reg false [] [4] [zq 5 0, zm 6 1, zk 7 328 [(.t 5), (.t 6)], zd 8 .geq 7 (.int .i64 0), zm 4 8])
 .ret)) }
def N310_mesh_Check_2 : NFun := { np := 2, nt := 14, res := [(3, none)], body :=
 (.seq (.reg false [] [1, 2] [zo 2 0, zc 3 (.bool false)])
 (.seq (.reg false [] [3] [zL 4 6 1, zL 5 6 2, zk 6 311 [(.t 4), (.t 5)], zt 7 6, zm 8 7, zg 8 true (zL 9 6 2), zg 8 true (zL 10 6 1), zg 8 true (zk 11 311 [(.t 9), (.t 10)]), zg 8 true (zt 12 11), ⟨some 13, .pick (.t 8) (.t 12) (.c (.bool false)), none⟩, zm 3 13])
 .ret)) }
def N311_mesh_separates : NFun := { np := 2, nt := 42, res := [(4, none)], body :=
 (.seq (.reg false [] [2, 3] [zo 2 0, zo 3 1, zc 4 (.bool false)])
 (.seq (.seq (.reg false [] [2, 3, 8] [zc 8 (.int .i64 0)])
 (.block 0 (.loop (.seq (.reg false [] [2, 3, 8, 9] [zd 9 .lss 8 (.int .i64 3)])
 (.seq (.cond (.t 9) .skip
 (.exit 0))
 (.seq (.block 1 (.seq (.reg false [] [2, 3, 5, 8] [zm 10 8, zm 5 10])
 (.seq (.reg true [0, 1, 3, 0, 8, 24, 56, 120, 0, 0, 775, 2047] [2, 3, 6, 7, 8] [zm 11 5, ⟨some 12, .iadA 3 2 (.t 2) (.t 11), none⟩, zL 13 2 12, zm 14 5, zd 15 .add 14 (.int .i64 1), zd 16 .rem 15 (.int .i64 3), ⟨some 17, .iadA 3 2 (.t 2) (.t 16), none⟩, zL 18 2 17, ⟨some 6, .alc [.int .i64 0, .int .i64 0], none⟩, ⟨some 7, .alc [.int .i64 0, .int .i64 0], none⟩, ⟨none, .st 2 [] (.t 6) (.t 13), none⟩, ⟨none, .st 2 [] (.t 7) (.t 18), none⟩])
 (.seq (.reg false [] [2, 3, 8, 40] [zL 19 2 6, zL 20 2 7, ⟨some 21, .iadA 3 2 (.t 3) (.c (.int .i64 0)), none⟩, zL 22 2 21, zk 23 308 [(.t 19), (.t 20), (.t 22)], zd 24 .leq 23 (.int .i64 0), zm 25 24, zg 25 true (zL 26 2 6), zg 25 true (zL 27 2 7), zg 25 true (⟨some 28, .iadA 3 2 (.t 3) (.c (.int .i64 1)), none⟩), zg 25 true (zL 29 2 28), zg 25 true (zk 30 308 [(.t 26), (.t 27), (.t 29)]), zg 25 true (zd 31 .leq 30 (.int .i64 0)), ⟨some 32, .pick (.t 25) (.t 31) (.c (.bool false)), none⟩, zm 33 32, zg 33 true (zL 34 2 6), zg 33 true (zL 35 2 7), zg 33 true (⟨some 36, .iadA 3 2 (.t 3) (.c (.int .i64 2)), none⟩), zg 33 true (zL 37 2 36), zg 33 true (zk 38 308 [(.t 34), (.t 35), (.t 37)]), zg 33 true (zd 39 .leq 38 (.int .i64 0)), ⟨some 40, .pick (.t 33) (.t 39) (.c (.bool false)), none⟩])
 (.cond (.t 40) (.seq (.reg false [] [4] [zc 4 (.bool true)])
 .ret)
 .skip)))))
 (.reg false [] [2, 3, 8] [zd 41 .add 8 (.int .i64 1), zm 8 41])))))))
 (.seq (.reg false [] [4] [zc 4 (.bool false)])
 .ret))) }
def N313_plane_Valid : NFun := { np := 1, nt := 21, res := [(2, none)], body :=
 (.seq (.reg false [] [1] [zo 1 0, zc 2 (.bool false)])
 (.seq (.reg false [] [2] [zf 3 0 1, zl 4 1 3, ⟨some 5, .bin .geq (.t 4) (.c (.int .i64 (-16777216))), none⟩, zm 6 5, zg 6 true (zf 7 0 1), zg 6 true (zl 8 1 7), zg 6 true (zd 9 .leq 8 (.int .i64 16777216)), ⟨some 10, .pick (.t 6) (.t 9) (.c (.bool false)), none⟩, zm 11 10, zg 11 true (zf 12 1 1), zg 11 true (zl 13 1 12), zg 11 true (⟨some 14, .bin .geq (.t 13) (.c (.int .i64 (-16777216))), none⟩), ⟨some 15, .pick (.t 11) (.t 14) (.c (.bool false)), none⟩, zm 16 15, zg 16 true (zf 17 1 1), zg 16 true (zl 18 1 17), zg 16 true (zd 19 .leq 18 (.int .i64 16777216)), ⟨some 20, .pick (.t 16) (.t 19) (.c (.bool false)), none⟩, zm 2 20])
 .ret)) }
def N322_ref09_Side : NFun := { np := 3, nt := 44, res := [(6, none), (7, none)], body :=
 (.seq (.reg false [] [1, 2, 3] [zo 3 0, zc 6 (.int .i64 0), zc 7 (.int .i64 0)])
 (.seq (.seq (.reg false [] [1, 2, 3, 8] [zc 8 (.int .i64 0)])
 (.block 0 (.loop (.seq (.seq (.reg false [] [1, 2, 3, 8, 14] [zm 10 8, zf 11 1 3, zl 12 1 11, zn 13 12, zb 14 .lss 10 13])
 (.cond (.t 14) .skip
 (.exit 0)))
 (.seq (.block 1 (.seq (.reg false [] [1, 2, 3, 8, 9] [zc 9 (.int .i64 0)])
 (.block 2 (.loop (.seq (.seq (.reg false [] [1, 2, 3, 8, 9, 18] [zm 17 9, zd 18 .lss 17 (.int .i64 3)])
 (.cond (.t 18) .skip
 (.exit 2)))
 (.seq (.block 3 (.seq (.reg false [] [1, 2, 3, 8, 9, 41] [zf 21 1 3, zl 22 1 21, zm 23 8, zi 24 4 22 23, zL 25 4 24, zm 26 9, zk 27 323 [(.t 25), (.t 26)], zm 28 1, zb 29 .eql 27 28, zm 30 29, zg 30 true (zf 31 1 3), zg 30 true (zl 32 1 31), zg 30 true (zm 33 8), zg 30 true (zi 34 4 32 33), zg 30 true (zL 35 4 34), zg 30 true (zm 36 9), zg 30 true (zd 37 .add 36 (.int .i64 1)), zg 30 true (zk 38 323 [(.t 35), (.t 37)]), zg 30 true (zm 39 2), zg 30 true (zb 40 .eql 38 39), ⟨some 41, .pick (.t 30) (.t 40) (.c (.bool false)), none⟩])
 (.cond (.t 41) (.seq (.reg false [] [6, 7] [zm 42 8, zm 43 9, zm 6 42, zm 7 43])
 .ret)
 .skip)))
 (.reg false [] [1, 2, 3, 8, 9] [zm 19 9, zd 20 .add 19 (.int .i64 1), zm 9 20])))))))
 (.reg false [] [1, 2, 3, 8] [zm 15 8, zd 16 .add 15 (.int .i64 1), zm 8 16]))))))
 (.seq (.reg false [] [6, 7] [⟨some 6, .mov (.c (.int .i64 (-1))), none⟩, zc 7 (.int .i64 0)])
 .ret))) }
def N323_ref09_Corner : NFun := { np := 2, nt := 16, res := [(4, none)], body :=
 (.seq (.reg false [] [1, 2] [zo 2 0, zc 4 (.int .i64 0)])
 (.seq (.reg false [] [4] [zf 5 0 2, zl 6 1 5, zf 7 1 2, zl 8 1 7, zf 9 2 2, zl 10 1 9, ⟨some 11, .bls 1 3 [.int .i64 0] [] [(0, (.t 6)), (1, (.t 8)), (2, (.t 10))], none⟩, zm 12 1, zd 13 .rem 12 (.int .i64 3), zi 14 1 11 13, zl 15 1 14, zm 4 15])
 .ret)) }
def N324_ref09_apart : NFun := { np := 2, nt := 47, res := [(4, none)], body :=
 (.seq (.reg false [] [0, 1] [zc 4 (.bool false)])
 (.seq (.seq (.reg false [] [0, 1, 5] [zc 5 (.int .i64 0)])
 (.block 0 (.loop (.seq (.seq (.reg false [] [0, 1, 5, 9] [zm 8 5, zd 9 .lss 8 (.int .i64 3)])
 (.cond (.t 9) .skip
 (.exit 0)))
 (.seq (.block 1 (.seq (.reg true [0, 0, 3, 7, 0, 0, 32, 96, 240, 496, 0, 0, 3087, 8191] [0, 1, 5, 6, 7] [zm 12 0, zm 13 5, zi 14 2 12 13, zL 15 2 14, zm 16 0, zm 17 5, zd 18 .add 17 (.int .i64 1), zd 19 .rem 18 (.int .i64 3), zi 20 2 16 19, zL 21 2 20, ⟨some 6, .alc [.int .i64 0, .int .i64 0], none⟩, ⟨some 7, .alc [.int .i64 0, .int .i64 0], none⟩, ⟨none, .st 2 [] (.t 6) (.t 15), none⟩, ⟨none, .st 2 [] (.t 7) (.t 21), none⟩])
 (.seq (.reg true [0, 0, 0, 4, 12, 31, 63, 127, 255, 255, 255, 1279, 3327, 8191, 16383, 32767, 65535, 131071, 131071, 131071, 655359, 1703935, 4194303, 8388607, 16777215] [0, 1, 5, 46] [zL 22 2 6, zL 23 2 7, zm 24 1, ⟨some 25, .iadS 2 (.t 24) (.c (.int .i64 0)), none⟩, zL 26 2 25, zk 27 286 [(.t 22), (.t 23), (.t 26)], zd 28 .leq 27 (.int .i64 0), zm 29 28, zg 29 true (zL 30 2 6), zg 29 true (zL 31 2 7), zg 29 true (zm 32 1), zg 29 true (⟨some 33, .iadS 2 (.t 32) (.c (.int .i64 1)), none⟩), zg 29 true (zL 34 2 33), zg 29 true (zk 35 286 [(.t 30), (.t 31), (.t 34)]), zg 29 true (zd 36 .leq 35 (.int .i64 0)), ⟨some 37, .pick (.t 29) (.t 36) (.c (.bool false)), none⟩, zm 38 37, zg 38 true (zL 39 2 6), zg 38 true (zL 40 2 7), zg 38 true (zm 41 1), zg 38 true (⟨some 42, .iadS 2 (.t 41) (.c (.int .i64 2)), none⟩), zg 38 true (zL 43 2 42), zg 38 true (zk 44 286 [(.t 39), (.t 40), (.t 43)]), zg 38 true (zd 45 .leq 44 (.int .i64 0)), ⟨some 46, .pick (.t 38) (.t 45) (.c (.bool false)), none⟩])
 (.cond (.t 46) (.seq (.reg false [] [4] [zc 4 (.bool true)])
 .ret)
 .skip))))
 (.reg false [] [0, 1, 5] [zm 10 5, zd 11 .add 10 (.int .i64 1), zm 5 11]))))))
 (.seq (.reg false [] [4] [zc 4 (.bool false)])
 .ret))) }
def N325_ref10_Slope : NFun := { np := 3, nt := 33, res := [(6, none), (7, none)], body :=
 (.seq (.reg false [] [1, 2, 3] [zo 3 0, zc 6 (.int .i64 0), zc 7 (.int .i64 0)])
 (.seq (.reg true [0, 0, 3, 0, 0, 31, 63, 127] [1, 2, 3, 8] [zL 9 2 3, zm 10 1, zk 11 296 [(.t 9), (.t 10)], zL 12 2 3, zm 13 2, zk 14 296 [(.t 12), (.t 13)], zb 15 .sub 11 14, zm 8 15])
 (.seq (.seq (.reg false [] [1, 2, 3, 8, 17] [zm 16 8, zd 17 .lss 16 (.int .i64 0)])
 (.cond (.t 17) (.seq (.reg false [] [6, 7] [zm 18 8, zm 19 8, zb 20 .mul 18 19, ⟨some 21, .bin .sub (.c (.int .i64 0)) (.t 20), none⟩, zL 22 2 3, zm 23 1, zm 24 2, zk 25 336 [(.t 22), (.t 23), (.t 24)], zm 6 21, zm 7 25])
 .ret)
 .skip))
 (.seq (.reg false [] [6, 7] [zm 26 8, zm 27 8, zb 28 .mul 26 27, zL 29 2 3, zm 30 1, zm 31 2, zk 32 336 [(.t 29), (.t 30), (.t 31)], zm 6 28, zm 7 32])
 .ret)))) }
def N326_ref03_Order : NFun := { np := 2, nt := 16, res := [(4, none)], body :=
 (.seq (.reg false [] [2, 3] [zo 2 0, zo 3 1, zc 4 (.int .i64 0)])
 (.seq (.reg true [0, 0, 2, 7, 0, 31] [5] [zL 6 3 2, zL 7 3 3, zk 8 338 [(.t 7)], zk 9 337 [(.t 6), (.t 8)], ⟨some 5, .alc [.int .u64 0, .int .u64 0, .bool false], none⟩, ⟨none, .st 3 [] (.t 5) (.t 9), none⟩])
 (.seq (.seq (.reg false [] [5, 11] [zf 10 2 5, zl 11 1 10])
 (.cond (.t 11) (.seq (.reg false [] [4] [⟨some 4, .mov (.c (.int .i64 (-1))), none⟩])
 .ret)
 .skip))
 (.seq (.seq (.reg false [] [15] [zf 12 0 5, zL 13 2 12, ⟨some 14, .bld [.int .u64 0, .int .u64 0] [], none⟩, ⟨some 15, .beq false [0, 0] (.t 13) (.t 14), none⟩])
 (.cond (.t 15) (.seq (.reg false [] [4] [zc 4 (.int .i64 0)])
 .ret)
 .skip))
 (.seq (.reg false [] [4] [zc 4 (.int .i64 1)])
 .ret))))) }
def N328_slices_IndexFunc___3api_Point__3api_Point : NFun := { np := 2, nt := 19, res := [(4, none)], body :=
 (.seq (.reg false [] [0, 1] [zc 4 (.int .i64 0)])
 (.seq (.seq (.reg false [] [0, 1, 7, 8] [zm 6 0, zn 7 6, zc 8 (.int .i64 0)])
 (.block 0 (.loop (.seq (.reg false [] [0, 1, 7, 8, 9] [zb 9 .lss 8 7])
 (.seq (.cond (.t 9) .skip
 (.exit 0))
 (.seq (.block 1 (.seq (.reg false [] [0, 1, 5, 7, 8] [zm 10 8, zm 5 10])
 (.seq (.reg false [] [0, 1, 5, 7, 8, 16] [zm 11 1, zm 12 0, zm 13 5, zi 14 6 12 13, zL 15 6 14, ⟨some 16, .callv (.t 11) [(.t 15)], none⟩])
 (.cond (.t 16) (.seq (.reg false [] [4] [zm 17 5, zm 4 17])
 .ret)
 .skip))))
 (.reg false [] [0, 1, 7, 8] [zd 18 .add 8 (.int .i64 1), zm 8 18])))))))
 (.seq (.reg false [] [4] [⟨some 4, .mov (.c (.int .i64 (-1))), none⟩])
 .ret))) }
def N336_ref10_apart : NFun := { np := 3, nt := 122, res := [(6, none)], body :=
 (.seq (.reg false [] [1, 2, 3] [zo 3 0, zc 6 (.int .i64 0)])
 (.seq (.reg false [] [2, 3, 7] [zf 11 1 3, zl 12 1 11, zm 13 1, zi 14 4 12 13, zL 15 4 14, ⟨some 7, .alc [.int .i64 0, .int .i64 0, .int .i64 0, .int .i64 0], none⟩, ⟨none, .st 4 [] (.t 7) (.t 15), none⟩])
 (.seq (.reg false [] [3, 7, 8] [zf 16 1 3, zl 17 1 16, zm 18 2, zi 19 4 17 18, zL 20 4 19, ⟨some 8, .alc [.int .i64 0, .int .i64 0, .int .i64 0, .int .i64 0], none⟩, ⟨none, .st 4 [] (.t 8) (.t 20), none⟩])
 (.seq (.reg true [0, 1, 0, 4, 15, 31, 63, 0, 128, 0, 512, 1920, 3968, 8064, 16383, 0, 32768, 0, 131072, 491520, 1015808, 2064384, 4194303, 0, 8388608, 0, 33554432, 125829120, 260046848, 528482304, 1073741823, 0, 2147483648, 0, 8589934592, 32212254720, 66571993088, 135291469824, 274877906943, 0, 549755813888, 0, 2199023255552, 8246337208320, 17042430230528, 34634616274944, 70368744177663, 140737488355327] [3, 7, 8, 9] [zf 21 0 3, zl 22 1 21, zf 23 0 7, zl 24 1 23, zi 25 3 22 24, zf 26 0 25, zl 27 1 26, zf 28 0 3, zl 29 1 28, zf 30 1 7, zl 31 1 30, zi 32 3 29 31, zf 33 0 32, zl 34 1 33, zb 35 .add 27 34, zf 36 0 3, zl 37 1 36, zf 38 2 7, zl 39 1 38, zi 40 3 37 39, zf 41 0 40, zl 42 1 41, zb 43 .add 35 42, zf 44 0 3, zl 45 1 44, zf 46 0 8, zl 47 1 46, zi 48 3 45 47, zf 49 0 48, zl 50 1 49, zb 51 .sub 43 50, zf 52 0 3, zl 53 1 52, zf 54 1 8, zl 55 1 54, zi 56 3 53 55, zf 57 0 56, zl 58 1 57, zb 59 .sub 51 58, zf 60 0 3, zl 61 1 60, zf 62 2 8, zl 63 1 62, zi 64 3 61 63, zf 65 0 64, zl 66 1 65, zb 67 .sub 59 66, zm 9 67])
 (.seq (.reg true [0, 1, 0, 4, 15, 31, 63, 0, 128, 0, 512, 1920, 3968, 8064, 16383, 0, 32768, 0, 131072, 491520, 1015808, 2064384, 4194303, 0, 8388608, 0, 33554432, 125829120, 260046848, 528482304, 1073741823, 0, 2147483648, 0, 8589934592, 32212254720, 66571993088, 135291469824, 274877906943, 0, 549755813888, 0, 2199023255552, 8246337208320, 17042430230528, 34634616274944, 70368744177663, 140737488355327] [9, 10] [zf 68 0 3, zl 69 1 68, zf 70 0 7, zl 71 1 70, zi 72 3 69 71, zf 73 1 72, zl 74 1 73, zf 75 0 3, zl 76 1 75, zf 77 1 7, zl 78 1 77, zi 79 3 76 78, zf 80 1 79, zl 81 1 80, zb 82 .add 74 81, zf 83 0 3, zl 84 1 83, zf 85 2 7, zl 86 1 85, zi 87 3 84 86, zf 88 1 87, zl 89 1 88, zb 90 .add 82 89, zf 91 0 3, zl 92 1 91, zf 93 0 8, zl 94 1 93, zi 95 3 92 94, zf 96 1 95, zl 97 1 96, zb 98 .sub 90 97, zf 99 0 3, zl 100 1 99, zf 101 1 8, zl 102 1 101, zi 103 3 100 102, zf 104 1 103, zl 105 1 104, zb 106 .sub 98 105, zf 107 0 3, zl 108 1 107, zf 109 2 8, zl 110 1 109, zi 111 3 108 110, zf 112 1 111, zl 113 1 112, zb 114 .sub 106 113, zm 10 114])
 (.seq (.reg false [] [6] [zm 115 9, zm 116 9, zb 117 .mul 115 116, zm 118 10, zm 119 10, zb 120 .mul 118 119, zb 121 .add 117 120, zm 6 121])
 .ret)))))) }
def N337_ref03_Sum : NFun := { np := 2, nt := 39, res := [(4, some (3, true))], body :=
 (.seq (.reg false [] [2, 3, 4] [zo 2 0, zo 3 1, ⟨some 4, .alc [.int .u64 0, .int .u64 0, .bool false], none⟩])
 (.seq (.seq (.reg false [] [2, 3, 4, 9] [zf 5 2 2, zl 6 1 5, zf 7 2 3, zl 8 1 7, ⟨some 9, .beq false [] (.t 6) (.t 8), none⟩])
 (.cond (.t 9) (.seq (.reg true [0, 1, 0, 4, 15, 0, 32, 127, 255] [4] [zf 10 0 2, zL 11 2 10, zf 12 0 3, zL 13 2 12, zk 14 83 [(.t 11), (.t 13)], zf 15 2 2, zl 16 1 15, zk 17 84 [(.t 14), (.t 16)], ⟨none, .st 3 [] (.t 4) (.t 17), none⟩])
 .ret)
 .skip))
 (.seq (.seq (.reg false [] [2, 3, 4, 22] [zf 18 0 2, zL 19 2 18, zf 20 0 3, zL 21 2 20, zk 22 87 [(.t 19), (.t 21)]])
 (.cond (.t 22) (.seq (.reg true [0, 1, 0, 4, 15, 0, 32, 127, 255] [4] [zf 23 0 3, zL 24 2 23, zf 25 0 2, zL 26 2 25, zk 27 95 [(.t 24), (.t 26)], zf 28 2 3, zl 29 1 28, zk 30 84 [(.t 27), (.t 29)], ⟨none, .st 3 [] (.t 4) (.t 30), none⟩])
 .ret)
 .skip))
 (.seq (.reg true [0, 1, 0, 4, 15, 0, 32, 127, 255] [4] [zf 31 0 2, zL 32 2 31, zf 33 0 3, zL 34 2 33, zk 35 95 [(.t 32), (.t 34)], zf 36 2 2, zl 37 1 36, zk 38 84 [(.t 35), (.t 37)], ⟨none, .st 3 [] (.t 4) (.t 38), none⟩])
 .ret)))) }
def N338_ref03_Opposite : NFun := { np := 1, nt := 9, res := [(2, some (3, true))], body :=
 (.seq (.reg false [] [1, 2] [zo 1 0, ⟨some 2, .alc [.int .u64 0, .int .u64 0, .bool false], none⟩])
 (.seq (.reg false [] [2] [zf 3 0 1, zL 4 2 3, zf 5 2 1, zl 6 1 5, zt 7 6, zk 8 84 [(.t 4), (.t 7)], ⟨none, .st 3 [] (.t 2) (.t 8), none⟩])
 .ret)) }
def N350_ref09_Twice : NFun := { np := 2, nt := 12, res := [(4, none)], body :=
 (.seq (.reg false [] [1, 2] [zo 2 0, zc 4 (.int .i64 0)])
 (.seq (.reg true [0, 0, 2, 0, 14, 30, 63, 127] [4] [zL 5 2 2, zf 6 1 2, zl 7 1 6, zm 8 1, zi 9 4 7 8, zL 10 4 9, zk 11 293 [(.t 5), (.t 10)], zm 4 11])
 .ret)) }
def N371_relief_Accumulated : NFun := { np := 1, nt := 84, res := [(2, none), (3, none)], body :=
 (.seq (.reg false [] [1] [zo 1 0, zc 2 .nils, zc 3 (.int .i64 0)])
 (.seq (.reg false [] [1, 4, 5] [zL 14 2 1, zk 15 253 [(.t 14)], zm 13 15, zx 16 0 13, zx 17 1 13, ⟨some 4, .alc [.nilp], none⟩, ⟨none, .st 1 [] (.t 4) (.t 16), none⟩, zm 5 17])
 (.seq (.seq (.reg false [] [1, 4, 5, 19] [zm 18 5, zd 19 .neq 18 (.int .i64 0)])
 (.cond (.t 19) (.seq (.reg false [] [2, 3] [zm 20 5, zc 2 .nils, zm 3 20])
 .ret)
 .skip))
 (.seq (.reg false [] [1, 4, 6] [zl 21 1 4, ⟨some 22, .nck (.t 21), none⟩, zf 23 1 22, zl 24 1 23, zn 25 24, ⟨some 26, .mks 1 8 [.int .i64 0] (.t 25) (.t 25), none⟩, zq 6 26])
 (.seq (.reg false [] [1, 4, 6, 7] [zl 27 1 4, ⟨some 28, .nck (.t 27), none⟩, zf 29 1 28, zl 30 1 29, zn 31 30, ⟨some 32, .mks 1 8 [.int .i64 0] (.t 31) (.t 31), none⟩, zq 7 32])
 (.seq (.seq (.reg false [] [1, 4, 6, 7, 34, 35] [zm 33 6, zn 34 33, zc 35 (.int .i64 0)])
 (.block 0 (.loop (.seq (.reg false [] [1, 4, 6, 7, 34, 35, 36] [zb 36 .lss 35 34])
 (.seq (.cond (.t 36) .skip
 (.exit 0))
 (.seq (.block 1 (.seq (.reg false [] [1, 4, 6, 7, 8, 34, 35] [zm 37 35, zm 8 37])
 (.seq (.seq (.reg false [] [1, 4, 5, 6, 7, 8, 34, 35] [zm 39 6, zm 40 8, zL 41 2 1, zm 42 8, zk 43 373 [(.t 41), (.t 42)], zm 38 43, zx 44 0 38, zx 45 1 38, zi 46 1 39 40, ⟨none, .st 1 [] (.t 46) (.t 44), none⟩, zm 5 45])
 (.seq (.reg false [] [1, 4, 5, 6, 7, 8, 34, 35, 48] [zm 47 5, zd 48 .neq 47 (.int .i64 0)])
 (.cond (.t 48) (.seq (.reg false [] [2, 3] [zm 49 5, zc 2 .nils, zm 3 49])
 .ret)
 .skip)))
 (.reg false [] [1, 4, 6, 7, 34, 35] [zm 50 7, zm 51 8, zm 52 8, zi 53 1 50 51, ⟨none, .st 1 [] (.t 53) (.t 52), none⟩]))))
 (.reg false [] [1, 4, 6, 7, 34, 35] [zd 54 .add 35 (.int .i64 1), zm 35 54])))))))
 (.seq (.reg false [] [4, 6, 7] [zm 55 7, ⟨some 56, .mk 375 [(.t 4)], none⟩, ⟨some 57, .callS 374 (.t 55) [(.t 56)], none⟩])
 (.seq (.reg false [] [6, 7, 9] [zl 58 1 4, zk 59 254 [(.t 58)], zq 9 59])
 (.seq (.seq (.reg false [] [6, 9, 60, 61, 62] [zq 60 7, zn 61 60, zc 62 (.int .i64 0)])
 (.block 2 (.loop (.seq (.reg false [] [6, 9, 60, 61, 62, 63] [zb 63 .lss 62 61])
 (.seq (.cond (.t 63) .skip
 (.exit 2))
 (.seq (.block 3 (.seq (.reg false [] [6, 9, 11, 60, 61, 62] [zi 64 1 60 62, zl 65 1 64, zm 11 65])
 (.seq (.reg false [] [6, 9, 11, 12, 60, 61, 62] [zm 66 9, zm 67 11, zi 68 1 66 67, zl 69 1 68, zm 12 69])
 (.seq (.reg false [] [6, 9, 11, 12, 60, 61, 62, 71] [zm 70 12, zd 71 .geq 70 (.int .i64 0)])
 (.cond (.t 71) (.reg true [0, 0, 3, 7, 0, 0, 48, 112, 255, 511, 1023] [6, 9, 60, 61, 62] [zm 72 6, zm 73 12, zi 74 1 72 73, zl 75 1 74, zm 76 6, zm 77 11, zi 78 1 76 77, zl 79 1 78, zb 80 .add 75 79, zi 81 1 72 73, ⟨none, .st 1 [] (.t 81) (.t 80), none⟩])
 .skip)))))
 (.reg false [] [6, 9, 60, 61, 62] [zd 82 .add 62 (.int .i64 1), zm 62 82])))))))
 (.seq (.reg false [] [2, 3] [zq 83 6, zq 2 83, zc 3 (.int .i64 0)])
 .ret)))))))))) }
def N373_mesh_Twice : NFun := { np := 2, nt := 20, res := [(4, none), (5, none)], body :=
 (.seq (.reg false [] [1, 2] [zo 2 0, zc 4 (.int .i64 0), zc 5 (.int .i64 0)])
 (.seq (.seq (.reg false [] [1, 2, 8] [zL 6 2 2, zk 7 234 [(.t 6)], zt 8 7])
 (.cond (.t 8) (.seq (.reg false [] [4, 5] [zc 4 (.int .i64 0), zc 5 (.int .i64 1)])
 .ret)
 .skip))
 (.seq (.seq (.reg false [] [1, 2, 12] [zL 9 2 2, zm 10 1, zk 11 377 [(.t 9), (.t 10)], zt 12 11])
 (.cond (.t 12) (.seq (.reg false [] [4, 5] [zc 4 (.int .i64 0), zc 5 (.int .i64 2)])
 .ret)
 .skip))
 (.seq (.reg true [0, 0, 2, 0, 14, 30, 63, 127, 255] [4, 5] [zL 13 2 2, zf 14 1 2, zl 15 1 14, zm 16 1, zi 17 4 15 16, zL 18 4 17, zk 19 376 [(.t 13), (.t 18)], zm 4 19, zc 5 (.int .i64 0)])
 .ret)))) }
def N374_slices_SortFunc__int_int : NFun := { np := 2, nt := 14, res := [], body :=
 (.seq (.reg false [] [0, 1, 4] [zm 5 0, zn 6 5, zm 4 6])
 (.reg false [] [] [zq 7 0, zm 8 4, zm 9 4, ⟨some 10, .conv .u64 (.t 9), none⟩, zk 11 379 [(.t 10)], zm 12 1, zk 13 378 [(.t 7), (.c (.int .i64 0)), (.t 8), (.t 11), (.t 12)]])) }
def N375_relief_Accumulated_1 : NFun := { np := 3, nt := 21, res := [(5, none)], body :=
 (.seq (.reg false [] [0, 1, 2] [zc 5 (.int .i64 0)])
 (.seq (.reg true [0, 1, 3, 7, 0, 31, 63, 0, 128, 384, 896, 0, 3968, 8064, 16383, 32767] [5] [zl 6 1 2, ⟨some 7, .nck (.t 6), none⟩, zf 8 1 7, zl 9 1 8, zm 10 1, zi 11 1 9 10, zl 12 1 11, zl 13 1 2, ⟨some 14, .nck (.t 13), none⟩, zf 15 1 14, zl 16 1 15, zm 17 0, zi 18 1 16 17, zl 19 1 18, zb 20 .sub 12 19, zm 5 20])
 .ret)) }
def N376_mesh_twice : NFun := { np := 2, nt := 16, res := [(4, none)], body :=
 (.seq (.reg false [] [2, 3] [zo 2 0, zo 3 1, zc 4 (.int .i64 0)])
 (.seq (.reg false [] [5] [zL 6 2 2, zL 7 4 3, zk 8 307 [(.t 6), (.t 7)], ⟨some 5, .alc [.int .i64 0, .int .i64 0, .int .i64 0, .int .i64 0, .int .i64 0, .int .i64 0], none⟩, ⟨none, .st 6 [] (.t 5) (.t 8), none⟩])
 (.seq (.reg false [] [4] [⟨some 9, .iadA 3 2 (.t 5) (.c (.int .i64 0)), none⟩, zL 10 2 9, ⟨some 11, .iadA 3 2 (.t 5) (.c (.int .i64 1)), none⟩, zL 12 2 11, ⟨some 13, .iadA 3 2 (.t 5) (.c (.int .i64 2)), none⟩, zL 14 2 13, zk 15 308 [(.t 10), (.t 12), (.t 14)], zm 4 15])
 .ret))) }
def N377_mesh_isFace : NFun := { np := 2, nt := 14, res := [(4, none)], body :=
 (.seq (.reg false [] [1, 2] [zo 2 0, zc 4 (.bool false)])
 (.seq (.reg false [] [4] [zm 5 1, zd 6 .geq 5 (.int .i64 0), zm 7 6, zg 7 true (zm 8 1), zg 7 true (zf 9 1 2), zg 7 true (zl 10 1 9), zg 7 true (zn 11 10), zg 7 true (zb 12 .lss 8 11), ⟨some 13, .pick (.t 7) (.t 12) (.c (.bool false)), none⟩, zm 4 13])
 .ret)) }
def N378_slices_pdqsortCmpFunc_int : NFun := { np := 5, nt := 148, res := [], body :=
 (.seq (.reg false [] [0, 1, 2, 3, 4, 10] [zc 10 (.bool true)])
 (.seq (.reg false [] [0, 1, 2, 3, 4, 10, 11] [zc 11 (.bool true)])
 (.block 0 (.loop (.block 1 (.seq (.reg false [] [0, 1, 2, 3, 4, 10, 11, 12] [zm 21 2, zm 22 1, zb 23 .sub 21 22, zm 12 23])
 (.seq (.seq (.reg false [] [0, 1, 2, 3, 4, 10, 11, 12, 25] [zm 24 12, zd 25 .leq 24 (.int .i64 12)])
 (.cond (.t 25) (.seq (.reg false [] [] [zq 26 0, zm 27 1, zm 28 2, zm 29 4, zk 30 380 [(.t 26), (.t 27), (.t 28), (.t 29)]])
 .ret)
 .skip))
 (.seq (.seq (.reg false [] [0, 1, 2, 3, 4, 10, 11, 12, 32] [zm 31 3, zd 32 .eql 31 (.int .i64 0)])
 (.cond (.t 32) (.seq (.reg false [] [] [zq 33 0, zm 34 1, zm 35 2, zm 36 4, zk 37 381 [(.t 33), (.t 34), (.t 35), (.t 36)]])
 .ret)
 .skip))
 (.seq (.seq (.reg false [] [0, 1, 2, 3, 4, 10, 11, 12, 39] [zm 38 10, zt 39 38])
 (.cond (.t 39) (.seq (.reg false [] [0, 1, 2, 3, 4, 10, 11, 12] [zm 40 0, zm 41 1, zm 42 2, zm 43 4, zk 44 382 [(.t 40), (.t 41), (.t 42), (.t 43)]])
 (.reg false [] [0, 1, 2, 3, 4, 10, 11, 12] [zm 45 3, zd 46 .sub 45 (.int .i64 1), zm 3 46]))
 .skip))
 (.seq (.reg false [] [0, 1, 2, 3, 4, 10, 11, 12, 13, 14] [zm 48 0, zm 49 1, zm 50 2, zm 51 4, zk 52 383 [(.t 48), (.t 49), (.t 50), (.t 51)], zm 47 52, zx 53 0 47, zx 54 1 47, zm 13 53, zm 14 54])
 (.seq (.seq (.reg false [] [0, 1, 2, 3, 4, 10, 11, 12, 13, 14, 56] [zm 55 14, zd 56 .eql 55 (.int .i64 2)])
 (.cond (.t 56) (.seq (.reg false [] [0, 1, 2, 3, 4, 10, 11, 12, 13] [zm 57 0, zm 58 1, zm 59 2, zm 60 4, zk 61 384 [(.t 57), (.t 58), (.t 59), (.t 60)]])
 (.seq (.reg false [] [0, 1, 2, 3, 4, 10, 11, 12, 13] [zm 62 2, zd 63 .sub 62 (.int .i64 1), zm 64 13, zm 65 1, zb 66 .sub 64 65, zb 67 .sub 63 66, zm 13 67])
 (.reg false [] [0, 1, 2, 3, 4, 10, 11, 12, 13, 14] [zc 14 (.int .i64 1)])))
 .skip))
 (.seq (.seq (.reg false [] [0, 1, 2, 3, 4, 10, 11, 12, 13, 75] [zm 68 10, zm 69 68, zg 69 true (zm 70 11), ⟨some 71, .pick (.t 69) (.t 70) (.c (.bool false)), none⟩, zm 72 71, zg 72 true (zm 73 14), zg 72 true (zd 74 .eql 73 (.int .i64 1)), ⟨some 75, .pick (.t 72) (.t 74) (.c (.bool false)), none⟩])
 (.cond (.t 75) (.seq (.reg false [] [0, 1, 2, 3, 4, 10, 11, 12, 13, 80] [zm 76 0, zm 77 1, zm 78 2, zm 79 4, zk 80 385 [(.t 76), (.t 77), (.t 78), (.t 79)]])
 (.cond (.t 80) .ret
 .skip))
 .skip))
 (.seq (.seq (.reg true [0, 1, 3, 7, 7, 7, 39, 119, 247, 7, 7, 1543, 3591, 8191, 16383, 32767, 65535] [0, 1, 2, 3, 4, 10, 11, 12, 13, 97] [zm 81 1, zd 82 .gtr 81 (.int .i64 0), zm 83 82, zg 83 true (zm 84 4), zg 83 true (zm 85 0), zg 83 true (zm 86 1), zg 83 true (zd 87 .sub 86 (.int .i64 1)), zg 83 true (zi 88 1 85 87), zg 83 true (zl 89 1 88), zg 83 true (zm 90 0), zg 83 true (zm 91 13), zg 83 true (zi 92 1 90 91), zg 83 true (zl 93 1 92), zg 83 true (⟨some 94, .callv (.t 84) [(.t 89), (.t 93)], none⟩), zg 83 true (zd 95 .lss 94 (.int .i64 0)), zg 83 true (zt 96 95), ⟨some 97, .pick (.t 83) (.t 96) (.c (.bool false)), none⟩])
 (.cond (.t 97) (.seq (.reg false [] [0, 2, 3, 4, 10, 11, 15] [zm 98 0, zm 99 1, zm 100 2, zm 101 13, zm 102 4, zk 103 386 [(.t 98), (.t 99), (.t 100), (.t 101), (.t 102)], zm 15 103])
 (.seq (.reg false [] [0, 1, 2, 3, 4, 10, 11] [zm 104 15, zm 1 104])
 (.exit 1)))
 .skip))
 (.seq (.reg false [] [0, 1, 2, 3, 4, 12, 16, 17] [zm 106 0, zm 107 1, zm 108 2, zm 109 13, zm 110 4, zk 111 387 [(.t 106), (.t 107), (.t 108), (.t 109), (.t 110)], zm 105 111, zx 112 0 105, zx 113 1 105, zm 16 112, zm 17 113])
 (.seq (.reg false [] [0, 1, 2, 3, 4, 11, 12, 16] [zm 114 17, zm 11 114])
 (.seq (.reg false [] [0, 1, 2, 3, 4, 11, 12, 16, 18, 19] [zm 115 16, zm 116 1, zb 117 .sub 115 116, zm 118 2, zm 119 16, zb 120 .sub 118 119, zm 18 117, zm 19 120])
 (.seq (.reg false [] [0, 1, 2, 3, 4, 11, 16, 18, 19, 20] [zm 121 12, zd 122 .quo 121 (.int .i64 8), zm 20 122])
 (.seq (.reg false [] [0, 1, 2, 3, 4, 11, 16, 18, 19, 20, 125] [zm 123 18, zm 124 19, zb 125 .lss 123 124])
 (.cond (.t 125) (.seq (.reg false [] [0, 1, 2, 3, 4, 10, 11, 16] [zm 126 18, zm 127 20, zb 128 .geq 126 127, zm 10 128])
 (.seq (.reg false [] [0, 2, 3, 4, 10, 11, 16] [zm 129 0, zm 130 1, zm 131 16, zm 132 3, zm 133 4, zk 134 378 [(.t 129), (.t 130), (.t 131), (.t 132), (.t 133)]])
 (.reg false [] [0, 1, 2, 3, 4, 10, 11] [zm 135 16, zd 136 .add 135 (.int .i64 1), zm 1 136])))
 (.seq (.reg false [] [0, 1, 2, 3, 4, 10, 11, 16] [zm 137 19, zm 138 20, zb 139 .geq 137 138, zm 10 139])
 (.seq (.reg false [] [0, 1, 3, 4, 10, 11, 16] [zm 140 0, zm 141 16, zd 142 .add 141 (.int .i64 1), zm 143 2, zm 144 3, zm 145 4, zk 146 378 [(.t 140), (.t 142), (.t 143), (.t 144), (.t 145)]])
 (.reg false [] [0, 1, 2, 3, 4, 10, 11] [zm 147 16, zm 2 147])))))))))))))))))))))) }
def N379_math_bits_Len : NFun := { np := 1, nt := 8, res := [(2, none)], body :=
 (.seq (.reg false [] [0] [zc 2 (.int .i64 0)])
 (.seq (.cond (.c (.bool false)) (.seq (.reg false [] [2] [zm 3 0, ⟨some 4, .conv .u32 (.t 3), none⟩, zk 5 388 [(.t 4)], zm 2 5])
 .ret)
 .skip)
 (.seq (.reg false [] [2] [zm 6 0, zk 7 111 [(.t 6)], zm 2 7])
 .ret))) }
def N380_slices_insertionSortCmpFunc_int : NFun := { np := 4, nt := 53, res := [], body :=
 (.seq (.reg false [] [0, 1, 2, 3, 8] [zm 10 1, zd 11 .add 10 (.int .i64 1), zm 8 11])
 (.block 0 (.loop (.seq (.seq (.reg false [] [0, 1, 2, 3, 8, 14] [zm 12 8, zm 13 2, zb 14 .lss 12 13])
 (.cond (.t 14) .skip
 (.exit 0)))
 (.seq (.block 1 (.seq (.reg false [] [0, 1, 2, 3, 8, 9] [zm 17 8, zm 9 17])
 (.block 2 (.loop (.seq (.seq (.reg true [0, 0, 3, 7, 15, 15, 15, 111, 239, 15, 15, 1039, 3599, 7695, 16383, 32767, 65535] [0, 1, 2, 3, 8, 9, 34] [zm 18 9, zm 19 1, zb 20 .gtr 18 19, zm 21 20, zg 21 true (zm 22 3), zg 21 true (zm 23 0), zg 21 true (zm 24 9), zg 21 true (zi 25 1 23 24), zg 21 true (zl 26 1 25), zg 21 true (zm 27 0), zg 21 true (zm 28 9), zg 21 true (zd 29 .sub 28 (.int .i64 1)), zg 21 true (zi 30 1 27 29), zg 21 true (zl 31 1 30), zg 21 true (⟨some 32, .callv (.t 22) [(.t 26), (.t 31)], none⟩), zg 21 true (zd 33 .lss 32 (.int .i64 0)), ⟨some 34, .pick (.t 21) (.t 33) (.c (.bool false)), none⟩])
 (.cond (.t 34) .skip
 (.exit 2)))
 (.seq (.block 3 (.reg true [0, 0, 0, 0, 8, 0, 0, 64, 224, 480, 0, 0, 3072, 7168, 16355, 32739, 65535, 131071] [0, 1, 2, 3, 8, 9] [zm 37 0, zm 38 9, zm 39 0, zm 40 9, zd 41 .sub 40 (.int .i64 1), zm 42 0, zm 43 9, zd 44 .sub 43 (.int .i64 1), zi 45 1 42 44, zl 46 1 45, zm 47 0, zm 48 9, zi 49 1 47 48, zl 50 1 49, zi 51 1 37 38, ⟨none, .st 1 [] (.t 51) (.t 46), none⟩, zi 52 1 39 41, ⟨none, .st 1 [] (.t 52) (.t 50), none⟩]))
 (.reg false [] [0, 1, 2, 3, 8, 9] [zm 35 9, zd 36 .sub 35 (.int .i64 1), zm 9 36])))))))
 (.reg false [] [0, 1, 2, 3, 8] [zm 15 8, zd 16 .add 15 (.int .i64 1), zm 8 16])))))) }
def N395_law10_ReliefSums : NFun := { np := 1, nt := 85, res := [(2, none)], body :=
 (.seq (.reg false [] [1] [zo 1 0, zc 2 (.bool false)])
 (.seq (.seq (.reg false [] [1, 10] [zk 9 211 [], zt 10 9])
 (.cond (.t 10) (.seq (.reg false [] [2] [zc 2 (.bool false)])
 .ret)
 .skip))
 (.seq (.seq (.reg false [] [1, 12] [zL 11 2 1, zk 12 212 [(.t 11)]])
 (.cond (.t 12) (.seq (.reg false [] [2] [zc 2 (.bool true)])
 .ret)
 .skip))
 (.seq (.reg false [] [1, 3, 4] [zL 14 2 1, zk 15 220 [(.t 14)], zm 13 15, zx 16 0 13, zx 17 1 13, zq 3 16, zm 4 17])
 (.seq (.reg false [] [1, 3, 4, 5, 6] [zL 19 2 1, zk 20 222 [(.t 19)], zm 18 20, zx 21 0 18, zx 22 1 18, zq 5 21, zm 6 22])
 (.seq (.reg false [] [1, 3, 4, 5, 6, 7, 8] [zL 24 2 1, zk 25 371 [(.t 24)], zm 23 25, zx 26 0 23, zx 27 1 23, zq 7 26, zm 8 27])
 (.seq (.seq (.reg false [] [1, 3, 4, 5, 6, 7, 8, 30] [zL 28 2 1, zk 29 215 [(.t 28)], zt 30 29])
 (.cond (.t 30) (.seq (.reg false [] [2] [zq 31 3, zn 32 31, zd 33 .eql 32 (.int .i64 0), zm 34 33, zg 34 true (zm 35 4), zg 34 true (zd 36 .eql 35 (.int .i64 1)), ⟨some 37, .pick (.t 34) (.t 36) (.c (.bool false)), none⟩, zm 38 37, zg 38 true (zq 39 5), zg 38 true (zn 40 39), zg 38 true (zd 41 .eql 40 (.int .i64 0)), ⟨some 42, .pick (.t 38) (.t 41) (.c (.bool false)), none⟩, zm 43 42, zg 43 true (zm 44 6), zg 43 true (zd 45 .eql 44 (.int .i64 1)), ⟨some 46, .pick (.t 43) (.t 45) (.c (.bool false)), none⟩, zm 47 46, zg 47 true (zq 48 7), zg 47 true (zn 49 48), zg 47 true (zd 50 .eql 49 (.int .i64 0)), ⟨some 51, .pick (.t 47) (.t 50) (.c (.bool false)), none⟩, zm 52 51, zg 52 true (zm 53 8), zg 52 true (zd 54 .eql 53 (.int .i64 1)), ⟨some 55, .pick (.t 52) (.t 54) (.c (.bool false)), none⟩, zm 2 55])
 .ret)
 .skip))
 (.seq (.reg false [] [2] [zm 56 4, zd 57 .eql 56 (.int .i64 0), zm 58 57, zg 58 true (zq 59 3), zg 58 true (zL 60 2 1), zg 58 true (zk 61 281 [(.t 60)]), zg 58 true (zk 62 19 [(.t 59), (.t 61)]), ⟨some 63, .pick (.t 58) (.t 62) (.c (.bool false)), none⟩, zm 64 63, zg 64 true (zm 65 6), zg 64 true (zd 66 .eql 65 (.int .i64 0)), ⟨some 67, .pick (.t 64) (.t 66) (.c (.bool false)), none⟩, zm 68 67, zg 68 true (zq 69 5), zg 68 true (zL 70 2 1), zg 68 true (zk 71 216 [(.t 70)]), zg 68 true (zk 72 397 [(.t 71)]), zg 68 true (zk 73 19 [(.t 69), (.t 72)]), ⟨some 74, .pick (.t 68) (.t 73) (.c (.bool false)), none⟩, zm 75 74, zg 75 true (zm 76 8), zg 75 true (zd 77 .eql 76 (.int .i64 0)), ⟨some 78, .pick (.t 75) (.t 77) (.c (.bool false)), none⟩, zm 79 78, zg 79 true (zq 80 7), zg 79 true (zL 81 2 1), zg 79 true (zk 82 398 [(.t 81)]), zg 79 true (zk 83 19 [(.t 80), (.t 82)]), ⟨some 84, .pick (.t 79) (.t 83) (.c (.bool false)), none⟩, zm 2 84])
 .ret)))))))) }
def N397_ref10_Lakes : NFun := { np := 1, nt := 21, res := [(2, none)], body :=
 (.seq (.reg false [] [0] [zc 2 .nils])
 (.seq (.reg false [] [0, 3] [⟨some 3, .nilo 1, none⟩])
 (.seq (.seq (.reg false [] [0, 3, 4] [zc 4 (.int .i64 0)])
 (.block 0 (.loop (.seq (.seq (.reg false [] [0, 3, 4, 8] [zm 5 4, zm 6 0, zn 7 6, zb 8 .lss 5 7])
 (.cond (.t 8) .skip
 (.exit 0)))
 (.seq (.block 1 (.seq (.reg false [] [0, 3, 4, 15] [zm 11 0, zm 12 4, zi 13 1 11 12, zl 14 1 13, ⟨some 15, .bin .eql (.t 14) (.c (.int .i64 (-2))), none⟩])
 (.cond (.t 15) (.reg false [] [0, 3, 4] [zm 16 3, zm 17 4, ⟨some 18, .bls 1 1 [.int .i64 0] [] [(0, (.t 17))], none⟩, ⟨some 19, .app 1 8 false (.t 16) (.t 18), none⟩, zq 3 19])
 .skip)))
 (.reg false [] [0, 3, 4] [zm 9 4, zd 10 .add 9 (.int .i64 1), zm 4 10]))))))
 (.seq (.reg false [] [2] [zq 20 3, zq 2 20])
 .ret)))) }
def N398_ref10_Accumulated : NFun := { np := 1, nt := 46, res := [(2, none)], body :=
 (.seq (.reg false [] [1] [zo 1 0, zc 2 .nils])
 (.seq (.reg false [] [1, 3] [zL 8 2 1, zk 9 216 [(.t 8)], zq 3 9])
 (.seq (.reg false [] [1, 3, 4] [zm 10 3, zn 11 10, ⟨some 12, .mks 1 8 [.int .i64 0] (.t 11) (.t 11), none⟩, zq 4 12])
 (.seq (.seq (.reg false [] [1, 3, 4, 5] [zc 5 (.int .i64 0)])
 (.block 0 (.loop (.seq (.seq (.reg false [] [1, 3, 4, 5, 16] [zm 13 5, zm 14 3, zn 15 14, zb 16 .lss 13 15])
 (.cond (.t 16) .skip
 (.exit 0)))
 (.seq (.block 1 (.seq (.reg false [] [1, 3, 4, 5, 6] [zm 19 3, zm 20 5, zk 21 218 [(.t 19), (.t 20)], zq 6 21])
 (.seq (.reg false [] [1, 3, 4, 5, 6, 7] [zc 7 (.int .i64 0)])
 (.block 2 (.loop (.seq (.seq (.reg false [] [1, 3, 4, 5, 6, 7, 25] [zm 22 7, zm 23 6, zn 24 23, zb 25 .lss 22 24])
 (.cond (.t 25) .skip
 (.exit 2)))
 (.seq (.block 3 (.reg true [0, 0, 0, 6, 14, 0, 0, 0, 192, 448, 992, 2016, 0, 0, 12288, 32736, 65535, 131071] [1, 3, 4, 5, 6, 7] [zm 28 4, zm 29 6, zm 30 7, zi 31 1 29 30, zl 32 1 31, zm 33 4, zm 34 6, zm 35 7, zi 36 1 34 35, zl 37 1 36, zi 38 1 33 37, zl 39 1 38, zL 40 2 1, zm 41 5, zk 42 350 [(.t 40), (.t 41)], zb 43 .add 39 42, zi 44 1 28 32, ⟨none, .st 1 [] (.t 44) (.t 43), none⟩]))
 (.reg false [] [1, 3, 4, 5, 6, 7] [zm 26 7, zd 27 .add 26 (.int .i64 1), zm 7 27]))))))))
 (.reg false [] [1, 3, 4, 5] [zm 17 5, zd 18 .add 17 (.int .i64 1), zm 5 18]))))))
 (.seq (.reg false [] [2] [zq 45 4, zq 2 45])
 .ret))))) }
def prog : Nat → Option NFun
  | 11 => some N11_slices_ContainsFunc__int_int
  | 19 => some N19_slices_Equal__int_int
  | 35 => some N35_slices_IndexFunc__int_int
  | 67 => some N67_ref03_Times
  | 83 => some N83_ref03_Plus
  | 84 => some N84_ref03_Made
  | 85 => some N85_ref03_Mul
  | 86 => some N86_ref03_Size
  | 87 => some N87_ref03_Less
  | 91 => some N91_math_bits_Mul64
  | 95 => some N95_ref03_Minus
  | 99 => some N99_wide_Product
  | 103 => some N103_wide_times
  | 105 => some N105_wide_placed
  | 106 => some N106_wide_Valid
  | 111 => some N111_math_bits_Len64
  | 112 => some N112_wide_size
  | 113 => some N113_wide_signed
  | 211 => some N211_law10_awake
  | 212 => some N212_law10_large
  | 213 => some N213_relief_Flow
  | 214 => some N214_relief_Path
  | 215 => some N215_ref09_Valid
  | 216 => some N216_ref10_Flow
  | 218 => some N218_ref10_Path
  | 220 => some N220_relief_Sums
  | 221 => some N221_mesh_Neighbours
  | 222 => some N222_relief_Lakes
  | 223 => some N223_slices_Contains__int_int
  | 225 => some N225_wide_Cmp
  | 234 => some N234_mesh_Valid
  | 252 => some N252_law10_example
  | 253 => some N253_relief_made
  | 254 => some N254_relief_ground_flow
  | 255 => some N255_relief_ground_has
  | 256 => some N256_relief_ground_runs
  | 257 => some N257_ref09_Small
  | 258 => some N258_ref09_Check
  | 259 => some N259_ref09_Neighbours
  | 260 => some N260_ref10_Runs
  | 261 => some N261_mesh_neighbours
  | 262 => some N262_slices_Index__int_int
  | 263 => some N263_relief_ground_beside
  | 264 => some N264_relief_ground_descent
  | 266 => some N266_cmp_Or_int
  | 267 => some N267_cmp_Compare_int
  | 268 => some N268_relief_ground_compare
  | 273 => some N273_mesh_Check
  | 281 => some N281_ref10_Sums
  | 285 => some N285_ref09_Triangle
  | 286 => some N286_ref07_Turn
  | 287 => some N287_ref09_Across
  | 288 => some N288_relief_ground_has_1
  | 289 => some N289_ref09_Spot
  | 290 => some N290_ref09_Decimal
  | 291 => some N291_ref09_Point
  | 292 => some N292_ref09_corners
  | 293 => some N293_ref09_turn
  | 294 => some N294_ref09_sameSide
  | 295 => some N295_ref09_overlap
  | 296 => some N296_ref10_Sum
  | 297 => some N297_ref10_Steeper
  | 298 => some N298_mesh_side
  | 299 => some N299_cmp_isNaN_int
  | 302 => some N302_mesh_small
  | 303 => some N303_mesh_right
  | 304 => some N304_mesh_point
  | 305 => some N305_mesh_corners
  | 306 => some N306_mesh_Check_1
  | 307 => some N307_mesh_triangle
  | 308 => some N308_mesh_turn
  | 309 => some N309_slices_ContainsFunc___3api_Point__3api_Point
  | 310 => some N310_mesh_Check_2
  | 311 => some N311_mesh_separates
  | 313 => some N313_plane_Valid
  | 322 => some N322_ref09_Side
  | 323 => some N323_ref09_Corner
  | 324 => some N324_ref09_apart
  | 325 => some N325_ref10_Slope
  | 326 => some N326_ref03_Order
  | 328 => some N328_slices_IndexFunc___3api_Point__3api_Point
  | 336 => some N336_ref10_apart
  | 337 => some N337_ref03_Sum
  | 338 => some N338_ref03_Opposite
  | 350 => some N350_ref09_Twice
  | 371 => some N371_relief_Accumulated
  | 373 => some N373_mesh_Twice
  | 374 => some N374_slices_SortFunc__int_int
  | 375 => some N375_relief_Accumulated_1
  | 376 => some N376_mesh_twice
  | 377 => some N377_mesh_isFace
  | 378 => some N378_slices_pdqsortCmpFunc_int
  | 379 => some N379_math_bits_Len
  | 380 => some N380_slices_insertionSortCmpFunc_int
  | 395 => some N395_law10_ReliefSums
  | 397 => some N397_ref10_Lakes
  | 398 => some N398_ref10_Accumulated
  | _ => none
end Go.Gv
