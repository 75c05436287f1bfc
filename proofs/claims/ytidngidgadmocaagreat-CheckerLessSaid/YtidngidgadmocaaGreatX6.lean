/-
  Texts of the proof: GvP.
-/
import Derived.Test.YtidngidgadmocaaGreatX5
set_option linter.all false
set_option maxRecDepth 4000
namespace Go.Gv

@[simp] def zm (a b : Nat) : NOper := ⟨some a, .mov (.t b), none⟩
@[simp] def zc (a : Nat) (d : D) : NOper := ⟨some a, .mov (.c d), none⟩
@[simp] def zf (a i b : Nat) : NOper := ⟨some a, .fad i (.t b), none⟩
@[simp] def zl (a n b : Nat) : NOper := ⟨some a, .ld n false (.t b), none⟩
@[simp] def zL (a n b : Nat) : NOper := ⟨some a, .ld n true (.t b), none⟩
@[simp] def zx (a i b : Nat) : NOper := ⟨some a, .ext i (.t b), none⟩
@[simp] def zn (a b : Nat) : NOper := ⟨some a, .len (.t b), none⟩
@[simp] def zq (a b : Nat) : NOper := ⟨some a, .asg (.t b), none⟩
@[simp] def zi (a n b c : Nat) : NOper := ⟨some a, .iadS n (.t b) (.t c), none⟩
@[simp] def zo (a b : Nat) : NOper := ⟨some a, .boxF (.t b), none⟩
@[simp] def zt (a b : Nat) : NOper := ⟨some a, .un .not (.t b), none⟩
@[simp] def zk (a g : Nat) (xs : List Opd) : NOper := ⟨some a, .call g xs [], none⟩
@[simp] def zb (a : Nat) (op : BinOp) (b c : Nat) : NOper := ⟨some a, .bin op (.t b) (.t c), none⟩
@[simp] def zd (a : Nat) (op : BinOp) (b : Nat) (d : D) : NOper := ⟨some a, .bin op (.t b) (.c d), none⟩
@[simp] def zg (c : Nat) (b : Bool) (s : NOper) : NOper := ⟨s.dst, s.op, some (c, b)⟩

/-- slices.ContainsFunc[[]int,int] -/
def N11_slices_ContainsFunc__int_int : NFun := { np := 2, nt := 9, res := [(4, none)], body :=
 (.seq (.reg false [] [0, 1] [zc 4 (.bool false)])
 (.seq (.reg false [] [4] [zq 5 0, zm 6 1, zk 7 35 [(.t 5), (.t 6)], zd 8 .geq 7 (.int .i64 0), zm 4 8])
 .ret)) }

/-- slices.IndexFunc[[]int,int] -/
def N35_slices_IndexFunc__int_int : NFun := { np := 2, nt := 19, res := [(4, none)], body :=
 (.seq (.reg false [] [0, 1] [zc 4 (.int .i64 0)])
 (.seq (.seq (.reg false [] [0, 1, 7, 8] [zm 6 0, zn 7 6, zc 8 (.int .i64 0)])
 (.block 0 (.loop (.seq (.reg false [] [0, 1, 7, 8, 9] [zb 9 .lss 8 7])
 (.seq (.cond (.t 9) .skip
 (.exit 0))
 (.seq (.block 1 (.seq (.reg false [] [0, 1, 5, 7, 8] [zm 10 8, zm 5 10])
 (.seq (.reg false [] [0, 1, 5, 7, 8, 16] [zm 11 1, zm 12 0, zm 13 5, zi 14 1 12 13, zl 15 1 14, ⟨some 16, .callv (.t 11) [(.t 15)], none⟩])
 (.cond (.t 16) (.seq (.reg false [] [4] [zm 17 5, zm 4 17])
 .ret)
 .skip))))
 (.reg false [] [0, 1, 7, 8] [zd 18 .add 8 (.int .i64 1), zm 8 18])))))))
 (.seq (.reg false [] [4] [⟨some 4, .mov (.c (.int .i64 (-1))), none⟩])
 .ret))) }

/-- slices.Clone[[]int,int] -/
def N42_slices_Clone__int_int : NFun := { np := 1, nt := 8, res := [(2, none)], body :=
 (.seq (.reg false [] [0] [zc 2 .nils])
 (.seq (.seq (.reg false [] [0, 4] [zm 3 0, ⟨some 4, .beq false [9] (.t 3) (.c .nils), none⟩])
 (.cond (.t 4) (.seq (.reg false [] [2] [zc 2 .nils])
 .ret)
 .skip))
 (.seq (.reg false [] [2] [⟨some 5, .bls 1 0 [.int .i64 0] [] [], none⟩, zq 6 0, ⟨some 7, .app 1 8 false (.t 5) (.t 6), none⟩, zq 2 7])
 .ret))) }

/-- slices.ContainsFunc[[]sewershed/api.Section,sewershed/api.Section] -/
def N45_slices_ContainsFunc__api_Section_api_Section : NFun := { np := 2, nt := 9, res := [(4, none)], body :=
 (.seq (.reg false [] [0, 1] [zc 4 (.bool false)])
 (.seq (.reg false [] [4] [zq 5 0, zm 6 1, zk 7 52 [(.t 5), (.t 6)], zd 8 .geq 7 (.int .i64 0), zm 4 8])
 .ret)) }

/-- slices.IndexFunc[[]sewershed/api.Section,sewershed/api.Section] -/
def N52_slices_IndexFunc__api_Section_api_Section : NFun := { np := 2, nt := 19, res := [(4, none)], body :=
 (.seq (.reg false [] [0, 1] [zc 4 (.int .i64 0)])
 (.seq (.seq (.reg false [] [0, 1, 7, 8] [zm 6 0, zn 7 6, zc 8 (.int .i64 0)])
 (.block 0 (.loop (.seq (.reg false [] [0, 1, 7, 8, 9] [zb 9 .lss 8 7])
 (.seq (.cond (.t 9) .skip
 (.exit 0))
 (.seq (.block 1 (.seq (.reg false [] [0, 1, 5, 7, 8] [zm 10 8, zm 5 10])
 (.seq (.reg false [] [0, 1, 5, 7, 8, 16] [zm 11 1, zm 12 0, zm 13 5, zi 14 5 12 13, zL 15 5 14, ⟨some 16, .callv (.t 11) [(.t 15)], none⟩])
 (.cond (.t 16) (.seq (.reg false [] [4] [zm 17 5, zm 4 17])
 .ret)
 .skip))))
 (.reg false [] [0, 1, 7, 8] [zd 18 .add 8 (.int .i64 1), zm 8 18])))))))
 (.seq (.reg false [] [4] [⟨some 4, .mov (.c (.int .i64 (-1))), none⟩])
 .ret))) }

/-- sewershed/decimal.IsName -/
def N58_decimal_IsName : NFun := { np := 1, nt := 22, res := [(2, none)], body :=
 (.seq (.reg false [] [0] [zc 2 (.bool false)])
 (.seq (.reg false [] [2] [zm 3 0, zd 4 .neq 3 (.str []), zm 5 4, zg 5 true (zm 6 0), zg 5 true (⟨some 7, .lens (.t 6), none⟩), zg 5 true (zd 8 .leq 7 (.int .i64 20)), ⟨some 9, .pick (.t 5) (.t 8) (.c (.bool false)), none⟩, zm 10 9, zg 10 true (zm 11 0), zg 10 true (⟨some 12, .idxS (.t 11) (.c (.int .i64 0)), none⟩), zg 10 true (zk 13 70 [(.t 12)]), ⟨some 14, .pick (.t 10) (.t 13) (.c (.bool false)), none⟩, zm 15 14, zg 15 true (zm 16 0), zg 15 true (zk 17 71 [(.t 16)]), zg 15 true (zm 18 0), zg 15 true (⟨some 19, .lens (.t 18), none⟩), zg 15 true (zb 20 .eql 17 19), ⟨some 21, .pick (.t 15) (.t 20) (.c (.bool false)), none⟩, zm 2 21])
 .ret)) }

/-- sewershed/decimal.letter -/
def N70_decimal_letter : NFun := { np := 1, nt := 17, res := [(2, none)], body :=
 (.seq (.reg false [] [0] [zc 2 (.bool false)])
 (.seq (.reg false [] [2] [zm 3 0, zd 4 .geq 3 (.int .u8 97), zm 5 4, zg 5 true (zm 6 0), zg 5 true (zd 7 .leq 6 (.int .u8 122)), ⟨some 8, .pick (.t 5) (.t 7) (.c (.bool false)), none⟩, zm 9 8, zg 9 false (zm 10 0), zg 9 false (zd 11 .geq 10 (.int .u8 65)), zg 9 false (zm 12 11), zg 12 true (zm 13 0), zg 12 true (zd 14 .leq 13 (.int .u8 90)), zg 9 false (⟨some 15, .pick (.t 12) (.t 14) (.c (.bool false)), none⟩), ⟨some 16, .pick (.t 9) (.c (.bool true)) (.t 15), none⟩, zm 2 16])
 .ret)) }

/-- sewershed/decimal.word -/
def N71_decimal_word : NFun := { np := 1, nt := 29, res := [(2, none)], body :=
 (.seq (.reg false [] [0] [zc 2 (.int .i64 0)])
 (.seq (.reg false [] [0, 3] [zc 3 (.int .i64 0)])
 (.seq (.block 0 (.loop (.seq (.seq (.reg false [] [0, 3, 25] [zm 4 3, zm 5 0, ⟨some 6, .lens (.t 5), none⟩, zb 7 .lss 4 6, zm 8 7, zg 8 true (zm 9 0), zg 8 true (zm 10 3), zg 8 true (⟨some 11, .idxS (.t 9) (.t 10), none⟩), zg 8 true (zk 12 70 [(.t 11)]), zg 8 true (zm 13 12), zg 13 false (zm 14 0), zg 13 false (zm 15 3), zg 13 false (⟨some 16, .idxS (.t 14) (.t 15), none⟩), zg 13 false (zk 17 88 [(.t 16)]), zg 8 true (⟨some 18, .pick (.t 13) (.c (.bool true)) (.t 17), none⟩), zg 8 true (zm 19 18), zg 19 false (zm 20 0), zg 19 false (zm 21 3), zg 19 false (⟨some 22, .idxS (.t 20) (.t 21), none⟩), zg 19 false (zd 23 .eql 22 (.int .u8 95)), zg 8 true (⟨some 24, .pick (.t 19) (.c (.bool true)) (.t 23), none⟩), ⟨some 25, .pick (.t 8) (.t 24) (.c (.bool false)), none⟩])
 (.cond (.t 25) .skip
 (.exit 0)))
 (.block 1 (.reg false [] [0, 3] [zm 26 3, zd 27 .add 26 (.int .i64 1), zm 3 27])))))
 (.seq (.reg false [] [2] [zm 28 3, zm 2 28])
 .ret)))) }

/-- sewershed/table.Valid -/
def N72_table_Valid : NFun := { np := 1, nt := 57, res := [(2, none)], body :=
 (.seq (.reg false [] [0] [zc 2 (.bool false)])
 (.seq (.seq (.reg false [] [0, 12] [zm 5 0, zn 6 5, zd 7 .lss 6 (.int .i64 1), zm 8 7, zg 8 false (zm 9 0), zg 8 false (zn 10 9), zg 8 false (zd 11 .gtr 10 (.int .i64 100)), ⟨some 12, .pick (.t 8) (.c (.bool true)) (.t 11), none⟩])
 (.cond (.t 12) (.seq (.reg false [] [2] [zc 2 (.bool false)])
 .ret)
 .skip))
 (.seq (.seq (.reg false [] [0, 13, 14, 15] [zm 13 0, zn 14 13, zc 15 (.int .i64 0)])
 (.block 0 (.loop (.seq (.reg false [] [0, 13, 14, 15, 16] [zb 16 .lss 15 14])
 (.seq (.cond (.t 16) .skip
 (.exit 0))
 (.seq (.block 1 (.seq (.reg false [] [0, 3, 4, 13, 14, 15] [zm 17 15, zi 18 2 13 15, zL 19 2 18, ⟨some 4, .alc [.int .i64 0, .int .i64 0], none⟩, zm 3 17, ⟨none, .st 2 [] (.t 4) (.t 19), none⟩])
 (.seq (.reg true [0, 1, 3, 7, 15, 31, 63, 127, 255, 511, 1023, 2047, 4095, 8191, 16383, 32767, 16383, 16383, 147455, 475135, 999423, 2047999, 4194303, 8388607, 16777215, 33554431, 16777215, 16777215, 150994943, 486539263, 1023410175, 2097151999, 4294967295, 8589934591, 17179869183, 34359738367] [0, 13, 14, 15, 55] [zf 20 0 4, zl 21 1 20, zk 22 89 [(.t 21)], zt 23 22, zm 24 23, zg 24 false (zf 25 1 4), zg 24 false (zl 26 1 25), zg 24 false (zk 27 89 [(.t 26)]), zg 24 false (zt 28 27), ⟨some 29, .pick (.t 24) (.c (.bool true)) (.t 28), none⟩, zm 30 29, zg 30 false (zm 31 3), zg 30 false (zd 32 .gtr 31 (.int .i64 0)), zg 30 false (zm 33 32), zg 33 true (zf 34 0 4), zg 33 true (zl 35 1 34), zg 33 true (zm 36 0), zg 33 true (zm 37 3), zg 33 true (zd 38 .sub 37 (.int .i64 1)), zg 33 true (zi 39 2 36 38), zg 33 true (zf 40 0 39), zg 33 true (zl 41 1 40), zg 33 true (zb 42 .leq 35 41), zg 33 true (zm 43 42), zg 43 false (zf 44 1 4), zg 43 false (zl 45 1 44), zg 43 false (zm 46 0), zg 43 false (zm 47 3), zg 43 false (zd 48 .sub 47 (.int .i64 1)), zg 43 false (zi 49 2 46 48), zg 43 false (zf 50 1 49), zg 43 false (zl 51 1 50), zg 43 false (zb 52 .lss 45 51), zg 33 true (⟨some 53, .pick (.t 43) (.c (.bool true)) (.t 52), none⟩), zg 30 false (⟨some 54, .pick (.t 33) (.t 53) (.c (.bool false)), none⟩), ⟨some 55, .pick (.t 30) (.c (.bool true)) (.t 54), none⟩])
 (.cond (.t 55) (.seq (.reg false [] [2] [zc 2 (.bool false)])
 .ret)
 .skip))))
 (.reg false [] [0, 13, 14, 15] [zd 56 .add 15 (.int .i64 1), zm 15 56])))))))
 (.seq (.reg false [] [2] [zc 2 (.bool true)])
 .ret)))) }

/-- sewershed/decimal.digit -/
def N88_decimal_digit : NFun := { np := 1, nt := 9, res := [(2, none)], body :=
 (.seq (.reg false [] [0] [zc 2 (.bool false)])
 (.seq (.reg false [] [2] [zm 3 0, zd 4 .geq 3 (.int .u8 48), zm 5 4, zg 5 true (zm 6 0), zg 5 true (zd 7 .leq 6 (.int .u8 57)), ⟨some 8, .pick (.t 5) (.t 7) (.c (.bool false)), none⟩, zm 2 8])
 .ret)) }

/-- sewershed/table.fits -/
def N89_table_fits : NFun := { np := 1, nt := 9, res := [(2, none)], body :=
 (.seq (.reg false [] [0] [zc 2 (.bool false)])
 (.seq (.reg false [] [2] [zm 3 0, ⟨some 4, .bin .geq (.t 3) (.c (.int .i64 (-1125899906842624))), none⟩, zm 5 4, zg 5 true (zm 6 0), zg 5 true (zd 7 .leq 6 (.int .i64 1125899906842624)), ⟨some 8, .pick (.t 5) (.t 7) (.c (.bool false)), none⟩, zm 2 8])
 .ret)) }

/-- slices.ContainsFunc[[]sewershed/api.Finding,sewershed/api.Finding] -/
def N125_slices_ContainsFunc__api_Finding_api_Finding : NFun := { np := 2, nt := 9, res := [(4, none)], body :=
 (.seq (.reg false [] [0, 1] [zc 4 (.bool false)])
 (.seq (.reg false [] [4] [zq 5 0, zm 6 1, zk 7 129 [(.t 5), (.t 6)], zd 8 .geq 7 (.int .i64 0), zm 4 8])
 .ret)) }

/-- slices.IndexFunc[[]sewershed/api.Finding,sewershed/api.Finding] -/
def N129_slices_IndexFunc__api_Finding_api_Finding : NFun := { np := 2, nt := 19, res := [(4, none)], body :=
 (.seq (.reg false [] [0, 1] [zc 4 (.int .i64 0)])
 (.seq (.seq (.reg false [] [0, 1, 7, 8] [zm 6 0, zn 7 6, zc 8 (.int .i64 0)])
 (.block 0 (.loop (.seq (.reg false [] [0, 1, 7, 8, 9] [zb 9 .lss 8 7])
 (.seq (.cond (.t 9) .skip
 (.exit 0))
 (.seq (.block 1 (.seq (.reg false [] [0, 1, 5, 7, 8] [zm 10 8, zm 5 10])
 (.seq (.reg false [] [0, 1, 5, 7, 8, 16] [zm 11 1, zm 12 0, zm 13 5, zi 14 2 12 13, zL 15 2 14, ⟨some 16, .callv (.t 11) [(.t 15)], none⟩])
 (.cond (.t 16) (.seq (.reg false [] [4] [zm 17 5, zm 4 17])
 .ret)
 .skip))))
 (.reg false [] [0, 1, 7, 8] [zd 18 .add 8 (.int .i64 1), zm 8 18])))))))
 (.seq (.reg false [] [4] [⟨some 4, .mov (.c (.int .i64 (-1))), none⟩])
 .ret))) }

/-- slices.Equal[[]sewershed/api.Finding,sewershed/api.Finding] -/
def N147_slices_Equal__api_Finding_api_Finding : NFun := { np := 2, nt := 26, res := [(4, none)], body :=
 (.seq (.reg false [] [0, 1] [zc 4 (.bool false)])
 (.seq (.seq (.reg false [] [0, 1, 10] [zm 6 0, zn 7 6, zm 8 1, zn 9 8, zb 10 .neq 7 9])
 (.cond (.t 10) (.seq (.reg false [] [4] [zc 4 (.bool false)])
 .ret)
 .skip))
 (.seq (.seq (.reg false [] [0, 1, 12, 13] [zm 11 0, zn 12 11, zc 13 (.int .i64 0)])
 (.block 0 (.loop (.seq (.reg false [] [0, 1, 12, 13, 14] [zb 14 .lss 13 12])
 (.seq (.cond (.t 14) .skip
 (.exit 0))
 (.seq (.block 1 (.seq (.reg false [] [0, 1, 5, 12, 13] [zm 15 13, zm 5 15])
 (.seq (.reg true [0, 0, 3, 7, 0, 0, 48, 112, 255] [0, 1, 12, 13, 24] [zm 16 0, zm 17 5, zi 18 2 16 17, zL 19 2 18, zm 20 1, zm 21 5, zi 22 2 20 21, zL 23 2 22, ⟨some 24, .beq true [0, 2] (.t 19) (.t 23), none⟩])
 (.cond (.t 24) (.seq (.reg false [] [4] [zc 4 (.bool false)])
 .ret)
 .skip))))
 (.reg false [] [0, 1, 12, 13] [zd 25 .add 13 (.int .i64 1), zm 13 25])))))))
 (.seq (.reg false [] [4] [zc 4 (.bool true)])
 .ret)))) }

/-- sewershed/network.Valid -/
def N164_network_Valid : NFun := { np := 1, nt := 80, res := [(2, none)], body :=
 (.seq (.reg false [] [1] [zo 1 0, zc 2 (.bool false)])
 (.seq (.seq (.reg false [] [1, 17] [zf 8 0 1, zl 9 1 8, zn 10 9, zd 11 .gtr 10 (.int .i64 300), zm 12 11, zg 12 false (zf 13 1 1), zg 12 false (zl 14 1 13), zg 12 false (zn 15 14), zg 12 false (zd 16 .gtr 15 (.int .i64 400)), ⟨some 17, .pick (.t 12) (.c (.bool true)) (.t 16), none⟩])
 (.cond (.t 17) (.seq (.reg false [] [2] [zc 2 (.bool false)])
 .ret)
 .skip))
 (.seq (.seq (.reg false [] [1, 19, 20, 21] [zf 18 0 1, zl 19 1 18, zn 20 19, zc 21 (.int .i64 0)])
 (.block 0 (.loop (.seq (.reg false [] [1, 19, 20, 21, 22] [zb 22 .lss 21 20])
 (.seq (.cond (.t 22) .skip
 (.exit 0))
 (.seq (.block 1 (.seq (.reg false [] [1, 3, 4, 19, 20, 21] [zm 23 21, zi 24 9 19 21, zL 25 9 24, ⟨some 4, .alc [.str [], .int .i64 0, .int .i64 0, .int .i64 0, .int .i64 0, .int .i64 0, .own 2 [], .bool false, .int .i64 0], none⟩, zm 3 23, ⟨none, .st 9 [] (.t 4) (.t 25), none⟩])
 (.seq (.reg false [] [1, 19, 20, 21, 36] [zL 26 9 4, zk 27 168 [(.t 26)], zt 28 27, zm 29 28, zg 29 false (zL 30 2 1), zg 29 false (zf 31 0 4), zg 29 false (zl 32 1 31), zg 29 false (zk 33 169 [(.t 30), (.t 32)]), zg 29 false (zm 34 3), zg 29 false (zb 35 .neq 33 34), ⟨some 36, .pick (.t 29) (.c (.bool true)) (.t 35), none⟩])
 (.cond (.t 36) (.seq (.reg false [] [2] [zc 2 (.bool false)])
 .ret)
 .skip))))
 (.reg false [] [1, 19, 20, 21] [zd 37 .add 21 (.int .i64 1), zm 21 37])))))))
 (.seq (.seq (.reg false [] [1, 39, 40, 41] [zf 38 1 1, zl 39 1 38, zn 40 39, zc 41 (.int .i64 0)])
 (.block 2 (.loop (.seq (.reg false [] [1, 39, 40, 41, 42] [zb 42 .lss 41 40])
 (.seq (.cond (.t 42) .skip
 (.exit 2))
 (.seq (.block 3 (.seq (.reg false [] [1, 5, 6, 39, 40, 41] [zm 43 41, zi 44 11 39 41, zL 45 11 44, ⟨some 6, .alc [.str [], .str [], .str [], .int .i64 0, .int .i64 0, .int .i64 0, .int .i64 0, .str [], .int .i64 0, .int .i64 0, .own 2 []], none⟩, zm 5 43, ⟨none, .st 11 [] (.t 6) (.t 45), none⟩])
 (.seq (.seq (.reg false [] [1, 6, 39, 40, 41, 56] [zL 46 11 6, zk 47 170 [(.t 46)], zt 48 47, zm 49 48, zg 49 false (zL 50 2 1), zg 49 false (zf 51 0 6), zg 49 false (zl 52 1 51), zg 49 false (zk 53 171 [(.t 50), (.t 52)]), zg 49 false (zm 54 5), zg 49 false (zb 55 .neq 53 54), ⟨some 56, .pick (.t 49) (.c (.bool true)) (.t 55), none⟩])
 (.cond (.t 56) (.seq (.reg false [] [2] [zc 2 (.bool false)])
 .ret)
 .skip))
 (.seq (.reg false [] [1, 6, 7, 39, 40, 41] [zL 57 2 1, zf 58 1 6, zl 59 1 58, zk 60 169 [(.t 57), (.t 59)], zm 7 60])
 (.seq (.reg false [] [1, 39, 40, 41, 78] [zm 61 7, zd 62 .lss 61 (.int .i64 0), zm 63 62, zg 63 false (zL 64 2 1), zg 63 false (zf 65 2 6), zg 63 false (zl 66 1 65), zg 63 false (zk 67 169 [(.t 64), (.t 66)]), zg 63 false (zd 68 .lss 67 (.int .i64 0)), ⟨some 69, .pick (.t 63) (.c (.bool true)) (.t 68), none⟩, zm 70 69, zg 70 false (zf 71 0 1), zg 70 false (zl 72 1 71), zg 70 false (zm 73 7), zg 70 false (zi 74 9 72 73), zg 70 false (zf 75 1 74), zg 70 false (zl 76 1 75), zg 70 false (zd 77 .eql 76 (.int .i64 3)), ⟨some 78, .pick (.t 70) (.c (.bool true)) (.t 77), none⟩])
 (.cond (.t 78) (.seq (.reg false [] [2] [zc 2 (.bool false)])
 .ret)
 .skip))))))
 (.reg false [] [1, 39, 40, 41] [zd 79 .add 41 (.int .i64 1), zm 41 79])))))))
 (.seq (.reg false [] [2] [zc 2 (.bool true)])
 .ret))))) }

/-- sewershed/network.rightNode -/
def N168_network_rightNode : NFun := { np := 1, nt := 101, res := [(2, none)], body :=
 (.seq (.reg false [] [1] [zo 1 0, zc 2 (.bool false)])
 (.seq (.seq (.reg false [] [1, 29] [zf 3 0 1, zl 4 1 3, zk 5 58 [(.t 4)], zt 6 5, zm 7 6, zg 7 false (zf 8 2 1), zg 7 false (zf 9 0 8), zg 7 false (zl 10 1 9), zg 7 false (zk 11 172 [(.t 10), (.c (.int .i64 (-16777216))), (.c (.int .i64 16777216))]), zg 7 false (zt 12 11), ⟨some 13, .pick (.t 7) (.c (.bool true)) (.t 12), none⟩, zm 14 13, zg 14 false (zf 15 2 1), zg 14 false (zf 16 1 15), zg 14 false (zl 17 1 16), zg 14 false (zk 18 172 [(.t 17), (.c (.int .i64 (-16777216))), (.c (.int .i64 16777216))]), zg 14 false (zt 19 18), ⟨some 20, .pick (.t 14) (.c (.bool true)) (.t 19), none⟩, zm 21 20, zg 21 false (zf 22 4 1), zg 21 false (zl 23 1 22), zg 21 false (zf 24 5 1), zg 21 false (zl 25 1 24), zg 21 false (⟨some 26, .bls 1 2 [.int .i64 0] [] [(0, (.t 23)), (1, (.t 25))], none⟩), zg 21 false (zk 27 173 [(.t 26)]), zg 21 false (zt 28 27), ⟨some 29, .pick (.t 21) (.c (.bool true)) (.t 28), none⟩])
 (.cond (.t 29) (.seq (.reg false [] [2] [zc 2 (.bool false)])
 .ret)
 .skip))
 (.seq (.seq (.reg false [] [1, 31] [zf 30 1 1, zl 31 1 30])
 (.block 0 (.seq (.seq (.reg false [] [1, 31, 32] [zd 33 .eql 31 (.int .i64 1), zm 32 33])
 (.cond (.t 32) .skip
 (.reg false [] [1, 31, 32] [zd 34 .eql 31 (.int .i64 2), zm 32 34])))
 (.cond (.t 32) (.seq (.seq (.reg false [] [1, 59] [zf 35 5 1, zl 36 1 35, zf 37 4 1, zl 38 1 37, zb 39 .leq 36 38, zm 40 39, zg 40 false (zf 41 6 1), zg 40 false (zl 42 1 41), zg 40 false (zf 43 5 1), zg 40 false (zl 44 1 43), zg 40 false (zf 45 4 1), zg 40 false (zl 46 1 45), zg 40 false (zb 47 .sub 44 46), zg 40 false (zk 48 174 [(.t 42), (.t 47)]), zg 40 false (zt 49 48), ⟨some 50, .pick (.t 40) (.c (.bool true)) (.t 49), none⟩, zm 51 50, zg 51 false (zf 52 1 1), zg 51 false (zl 53 1 52), zg 51 false (zd 54 .eql 53 (.int .i64 1)), zg 51 false (zm 55 54), zg 55 true (zf 56 7 1), zg 55 true (zl 57 1 56), zg 51 false (⟨some 58, .pick (.t 55) (.t 57) (.c (.bool false)), none⟩), ⟨some 59, .pick (.t 51) (.c (.bool true)) (.t 58), none⟩])
 (.cond (.t 59) (.seq (.reg false [] [2] [zc 2 (.bool false)])
 .ret)
 .skip))
 (.seq (.seq (.reg false [] [1, 62] [zf 60 7 1, zl 61 1 60, zt 62 61])
 (.cond (.t 62) (.seq (.reg false [] [2] [zf 63 8 1, zl 64 1 63, zd 65 .eql 64 (.int .i64 0), zm 2 65])
 .ret)
 .skip))
 (.seq (.reg true [0, 1, 0, 4, 0, 16, 48, 112, 252, 508, 1020, 2047, 4095] [2] [zf 66 8 1, zl 67 1 66, zf 68 6 1, zl 69 1 68, zf 70 6 1, zl 71 1 70, zn 72 71, zd 73 .sub 72 (.int .i64 1), zi 74 2 69 73, zf 75 1 74, zl 76 1 75, zk 77 172 [(.t 67), (.c (.int .i64 0)), (.t 76)], zm 2 77])
 .ret)))
 (.seq (.reg false [] [1, 78] [zd 79 .eql 31 (.int .i64 3), zm 78 79])
 (.cond (.t 78) (.seq (.reg false [] [2] [zf 80 5 1, zl 81 1 80, zf 82 4 1, zl 83 1 82, zb 84 .geq 81 83, zm 85 84, zg 85 true (zf 86 6 1), zg 85 true (zl 87 1 86), zg 85 true (zn 88 87), zg 85 true (zd 89 .eql 88 (.int .i64 0)), ⟨some 90, .pick (.t 85) (.t 89) (.c (.bool false)), none⟩, zm 91 90, zg 91 true (zf 92 7 1), zg 91 true (zl 93 1 92), zg 91 true (zt 94 93), ⟨some 95, .pick (.t 91) (.t 94) (.c (.bool false)), none⟩, zm 96 95, zg 96 true (zf 97 8 1), zg 96 true (zl 98 1 97), zg 96 true (zd 99 .eql 98 (.int .i64 0)), ⟨some 100, .pick (.t 96) (.t 99) (.c (.bool false)), none⟩, zm 2 100])
 .ret)
 .skip))))))
 (.seq (.reg false [] [2] [zc 2 (.bool false)])
 .ret)))) }

/-- sewershed/network.node -/
def N169_network_node : NFun := { np := 2, nt := 9, res := [(4, none)], body :=
 (.seq (.reg false [] [2, 3] [zo 2 0, zo 3 1, zc 4 (.int .i64 0)])
 (.seq (.reg false [] [4] [zf 5 0 2, zl 6 1 5, ⟨some 7, .mk 176 [(.t 3)], none⟩, zk 8 175 [(.t 6), (.t 7)], zm 4 8])
 .ret)) }

/-- sewershed/network.rightLink -/
def N170_network_rightLink : NFun := { np := 1, nt := 97, res := [(2, none)], body :=
 (.seq (.reg false [] [1] [zo 1 0, zc 2 (.bool false)])
 (.seq (.seq (.reg true [0, 1, 3, 7, 15, 31, 63, 127, 255, 511, 1023, 2047, 4095, 8191, 16383, 32767, 65535, 131071, 262143, 131071, 655359, 2097151, 4194303, 8388607, 16777215, 33554431, 67108863, 134217727, 268435455, 536870911, 1073741823, 2147483647, 2147483647, 6442450943, 17179869183, 34359738367, 68719476735] [1, 39] [zf 3 0 1, zl 4 1 3, zk 5 58 [(.t 4)], zt 6 5, zm 7 6, zg 7 false (zf 8 1 1), zg 7 false (zl 9 1 8), zg 7 false (zk 10 58 [(.t 9)]), zg 7 false (zt 11 10), ⟨some 12, .pick (.t 7) (.c (.bool true)) (.t 11), none⟩, zm 13 12, zg 13 false (zf 14 2 1), zg 13 false (zl 15 1 14), zg 13 false (zk 16 58 [(.t 15)]), zg 13 false (zt 17 16), ⟨some 18, .pick (.t 13) (.c (.bool true)) (.t 17), none⟩, zm 19 18, zg 19 false (zf 20 1 1), zg 19 false (zl 21 1 20), zg 19 false (zf 22 2 1), zg 19 false (zl 23 1 22), zg 19 false (zb 24 .eql 21 23), ⟨some 25, .pick (.t 19) (.c (.bool true)) (.t 24), none⟩, zm 26 25, zg 26 false (zf 27 5 1), zg 26 false (zl 28 1 27), zg 26 false (⟨some 29, .bls 1 1 [.int .i64 0] [] [(0, (.t 28))], none⟩), zg 26 false (zk 30 173 [(.t 29)]), zg 26 false (zt 31 30), ⟨some 32, .pick (.t 26) (.c (.bool true)) (.t 31), none⟩, zm 33 32, zg 33 false (zL 34 11 1), zg 33 false (zL 35 11 1), zg 33 false (zk 36 178 [(.t 35)]), zg 33 false (zk 37 177 [(.t 34), (.t 36)]), zg 33 false (zt 38 37), ⟨some 39, .pick (.t 33) (.c (.bool true)) (.t 38), none⟩])
 (.cond (.t 39) (.seq (.reg false [] [2] [zc 2 (.bool false)])
 .ret)
 .skip))
 (.seq (.seq (.reg false [] [1, 41] [zf 40 3 1, zl 41 1 40])
 (.block 0 (.seq (.reg false [] [1, 41, 42] [zd 43 .eql 41 (.int .i64 1), zm 42 43])
 (.cond (.t 42) (.seq (.reg false [] [2] [zf 44 4 1, zl 45 1 44, zk 46 172 [(.t 45), (.c (.int .i64 1)), (.c (.int .i64 16777216))], zm 47 46, zg 47 true (zf 48 6 1), zg 47 true (zl 49 1 48), zg 47 true (⟨some 50, .bls 1 1 [.int .i64 0] [] [(0, (.t 49))], none⟩), zg 47 true (zk 51 173 [(.t 50)]), ⟨some 52, .pick (.t 47) (.t 51) (.c (.bool false)), none⟩, zm 53 52, zg 53 true (zf 54 7 1), zg 53 true (zl 55 1 54), zg 53 true (zk 56 58 [(.t 55)]), ⟨some 57, .pick (.t 53) (.t 56) (.c (.bool false)), none⟩, zm 2 57])
 .ret)
 (.seq (.reg false [] [1, 41, 58] [zd 59 .eql 41 (.int .i64 2), zm 58 59])
 (.cond (.t 58) (.seq (.reg false [] [2] [zf 60 8 1, zl 61 1 60, zk 62 172 [(.t 61), (.c (.int .i64 1)), (.c (.int .i64 1048576))], zm 2 62])
 .ret)
 (.seq (.reg false [] [1, 41, 63] [zd 64 .eql 41 (.int .i64 3), zm 63 64])
 (.cond (.t 63) (.seq (.reg false [] [2] [zf 65 8 1, zl 66 1 65, zk 67 172 [(.t 66), (.c (.int .i64 1)), (.c (.int .i64 32768))], zm 68 67, zg 68 true (zf 69 9 1), zg 68 true (zl 70 1 69), zg 68 true (zk 71 172 [(.t 70), (.c (.int .i64 1)), (.c (.int .i64 32768))]), ⟨some 72, .pick (.t 68) (.t 71) (.c (.bool false)), none⟩, zm 2 72])
 .ret)
 (.seq (.reg false [] [1, 73] [zd 74 .eql 41 (.int .i64 4), zm 73 74])
 (.cond (.t 73) (.seq (.reg false [] [2] [zf 75 6 1, zl 76 1 75, ⟨some 77, .bls 1 1 [.int .i64 0] [] [(0, (.t 76))], none⟩, zk 78 173 [(.t 77)], zm 79 78, zg 79 true (zf 80 6 1), zg 79 true (zl 81 1 80), zg 79 true (zf 82 5 1), zg 79 true (zl 83 1 82), zg 79 true (zb 84 .lss 81 83), ⟨some 85, .pick (.t 79) (.t 84) (.c (.bool false)), none⟩, zm 86 85, zg 86 true (zf 87 10 1), zg 86 true (zl 88 1 87), zg 86 true (zk 89 72 [(.t 88)]), ⟨some 90, .pick (.t 86) (.t 89) (.c (.bool false)), none⟩, zm 91 90, zg 91 true (zf 92 10 1), zg 91 true (zl 93 1 92), zg 91 true (⟨some 94, .call 179 [(.t 93), (.c (.fn 180 []))] [], none⟩), zg 91 true (zt 95 94), ⟨some 96, .pick (.t 91) (.t 95) (.c (.bool false)), none⟩, zm 2 96])
 .ret)
 .skip))))))))))
 (.seq (.reg false [] [2] [zc 2 (.bool false)])
 .ret)))) }

/-- sewershed/network.link -/
def N171_network_link : NFun := { np := 2, nt := 9, res := [(4, none)], body :=
 (.seq (.reg false [] [2, 3] [zo 2 0, zo 3 1, zc 4 (.int .i64 0)])
 (.seq (.reg false [] [4] [zf 5 1 2, zl 6 1 5, ⟨some 7, .mk 182 [(.t 3)], none⟩, zk 8 181 [(.t 6), (.t 7)], zm 4 8])
 .ret)) }

/-- sewershed/network.between -/
def N172_network_between : NFun := { np := 3, nt := 15, res := [(6, none)], body :=
 (.seq (.reg false [] [0, 1, 2] [zc 6 (.bool false)])
 (.seq (.reg false [] [6] [zm 7 0, zm 8 1, zb 9 .geq 7 8, zm 10 9, zg 10 true (zm 11 0), zg 10 true (zm 12 2), zg 10 true (zb 13 .leq 11 12), ⟨some 14, .pick (.t 10) (.t 13) (.c (.bool false)), none⟩, zm 6 14])
 .ret)) }

/-- sewershed/network.level -/
def N173_network_level : NFun := { np := 1, nt := 6, res := [(2, none)], body :=
 (.seq (.reg false [] [0] [zc 2 (.bool false)])
 (.seq (.reg false [] [2] [zq 3 0, ⟨some 4, .call 11 [(.t 3), (.c (.fn 183 []))] [], none⟩, zt 5 4, zm 2 5])
 .ret)) }

/-- sewershed/network.shaped -/
def N174_network_shaped : NFun := { np := 2, nt := 31, res := [(4, none)], body :=
 (.seq (.reg false [] [0, 1] [zc 4 (.bool false)])
 (.seq (.seq (.reg false [] [0, 1, 8] [zm 6 0, zk 7 72 [(.t 6)], zt 8 7])
 (.cond (.t 8) (.seq (.reg false [] [4] [zc 4 (.bool false)])
 .ret)
 .skip))
 (.seq (.reg false [] [0, 1, 5] [zm 9 0, zm 10 0, zn 11 10, zd 12 .sub 11 (.int .i64 1), zi 13 2 9 12, zL 14 2 13, ⟨some 5, .alc [.int .i64 0, .int .i64 0], none⟩, ⟨none, .st 2 [] (.t 5) (.t 14), none⟩])
 (.seq (.reg false [] [4] [zq 15 0, ⟨some 16, .iadS 2 (.t 15) (.c (.int .i64 0)), none⟩, zL 17 2 16, ⟨some 18, .bld [.int .i64 0, .int .i64 0] [], none⟩, ⟨some 19, .beq false [0, 0] (.t 17) (.t 18), none⟩, zm 20 19, zg 20 true (zf 21 0 5), zg 20 true (zl 22 1 21), zg 20 true (zm 23 1), zg 20 true (zb 24 .eql 22 23), ⟨some 25, .pick (.t 20) (.t 24) (.c (.bool false)), none⟩, zm 26 25, zg 26 true (zf 27 1 5), zg 26 true (zl 28 1 27), zg 26 true (zd 29 .leq 28 (.int .i64 1125899906842624)), ⟨some 30, .pick (.t 26) (.t 29) (.c (.bool false)), none⟩, zm 4 30])
 .ret)))) }

/-- slices.IndexFunc[[]sewershed/api.Node,sewershed/api.Node] -/
def N175_slices_IndexFunc__api_Node_api_Node : NFun := { np := 2, nt := 19, res := [(4, none)], body :=
 (.seq (.reg false [] [0, 1] [zc 4 (.int .i64 0)])
 (.seq (.seq (.reg false [] [0, 1, 7, 8] [zm 6 0, zn 7 6, zc 8 (.int .i64 0)])
 (.block 0 (.loop (.seq (.reg false [] [0, 1, 7, 8, 9] [zb 9 .lss 8 7])
 (.seq (.cond (.t 9) .skip
 (.exit 0))
 (.seq (.block 1 (.seq (.reg false [] [0, 1, 5, 7, 8] [zm 10 8, zm 5 10])
 (.seq (.reg false [] [0, 1, 5, 7, 8, 16] [zm 11 1, zm 12 0, zm 13 5, zi 14 9 12 13, zL 15 9 14, ⟨some 16, .callv (.t 11) [(.t 15)], none⟩])
 (.cond (.t 16) (.seq (.reg false [] [4] [zm 17 5, zm 4 17])
 .ret)
 .skip))))
 (.reg false [] [0, 1, 7, 8] [zd 18 .add 8 (.int .i64 1), zm 8 18])))))))
 (.seq (.reg false [] [4] [⟨some 4, .mov (.c (.int .i64 (-1))), none⟩])
 .ret))) }

/-- sewershed/network.node$1 -/
def N176_network_node_1 : NFun := { np := 2, nt := 8, res := [(3, none)], body :=
 (.seq (.reg false [] [1, 2] [zo 2 0, zc 3 (.bool false)])
 (.seq (.reg false [] [3] [zf 4 0 2, zl 5 1 4, zl 6 1 1, zb 7 .eql 5 6, zm 3 7])
 .ret)) }

/-- sewershed/network.sameLink -/
def N177_network_sameLink : NFun := { np := 2, nt := 80, res := [(4, none)], body :=
 (.seq (.reg false [] [2, 3] [zo 2 0, zo 3 1, zc 4 (.bool false)])
 (.seq (.reg false [] [4] [zf 5 0 2, zl 6 1 5, zf 7 0 3, zl 8 1 7, zb 9 .eql 6 8, zm 10 9, zg 10 true (zf 11 1 2), zg 10 true (zl 12 1 11), zg 10 true (zf 13 1 3), zg 10 true (zl 14 1 13), zg 10 true (zb 15 .eql 12 14), ⟨some 16, .pick (.t 10) (.t 15) (.c (.bool false)), none⟩, zm 17 16, zg 17 true (zf 18 2 2), zg 17 true (zl 19 1 18), zg 17 true (zf 20 2 3), zg 17 true (zl 21 1 20), zg 17 true (zb 22 .eql 19 21), ⟨some 23, .pick (.t 17) (.t 22) (.c (.bool false)), none⟩, zm 24 23, zg 24 true (zf 25 3 2), zg 24 true (zl 26 1 25), zg 24 true (zf 27 3 3), zg 24 true (zl 28 1 27), zg 24 true (zb 29 .eql 26 28), ⟨some 30, .pick (.t 24) (.t 29) (.c (.bool false)), none⟩, zm 31 30, zg 31 true (zf 32 4 2), zg 31 true (zl 33 1 32), zg 31 true (zf 34 4 3), zg 31 true (zl 35 1 34), zg 31 true (zb 36 .eql 33 35), ⟨some 37, .pick (.t 31) (.t 36) (.c (.bool false)), none⟩, zm 38 37, zg 38 true (zf 39 5 2), zg 38 true (zl 40 1 39), zg 38 true (zf 41 5 3), zg 38 true (zl 42 1 41), zg 38 true (zb 43 .eql 40 42), ⟨some 44, .pick (.t 38) (.t 43) (.c (.bool false)), none⟩, zm 45 44, zg 45 true (zf 46 6 2), zg 45 true (zl 47 1 46), zg 45 true (zf 48 6 3), zg 45 true (zl 49 1 48), zg 45 true (zb 50 .eql 47 49), ⟨some 51, .pick (.t 45) (.t 50) (.c (.bool false)), none⟩, zm 52 51, zg 52 true (zf 53 7 2), zg 52 true (zl 54 1 53), zg 52 true (zf 55 7 3), zg 52 true (zl 56 1 55), zg 52 true (zb 57 .eql 54 56), ⟨some 58, .pick (.t 52) (.t 57) (.c (.bool false)), none⟩, zm 59 58, zg 59 true (zf 60 8 2), zg 59 true (zl 61 1 60), zg 59 true (zf 62 8 3), zg 59 true (zl 63 1 62), zg 59 true (zb 64 .eql 61 63), ⟨some 65, .pick (.t 59) (.t 64) (.c (.bool false)), none⟩, zm 66 65, zg 66 true (zf 67 9 2), zg 66 true (zl 68 1 67), zg 66 true (zf 69 9 3), zg 66 true (zl 70 1 69), zg 66 true (zb 71 .eql 68 70), ⟨some 72, .pick (.t 66) (.t 71) (.c (.bool false)), none⟩, zm 73 72, zg 73 true (zf 74 10 2), zg 73 true (zl 75 1 74), zg 73 true (zf 76 10 3), zg 73 true (zl 77 1 76), zg 73 true (zk 78 184 [(.t 75), (.t 77)]), ⟨some 79, .pick (.t 73) (.t 78) (.c (.bool false)), none⟩, zm 4 79])
 .ret)) }

/-- sewershed/network.plain -/
def N178_network_plain : NFun := { np := 1, nt := 50, res := [(2, some (11, true))], body :=
 (.seq (.reg false [] [1, 2] [zo 1 0, ⟨some 2, .alc [.str [], .str [], .str [], .int .i64 0, .int .i64 0, .int .i64 0, .int .i64 0, .str [], .int .i64 0, .int .i64 0, .own 2 []], none⟩])
 (.seq (.reg false [] [1, 2, 3] [zf 4 0 1, zl 5 1 4, zf 6 1 1, zl 7 1 6, zf 8 2 1, zl 9 1 8, zf 10 3 1, zl 11 1 10, zf 12 5 1, zl 13 1 12, ⟨some 14, .bld [.str [], .str [], .str [], .int .i64 0, .int .i64 0, .int .i64 0, .int .i64 0, .str [], .int .i64 0, .int .i64 0, .nils] [(0, 1, (.t 5)), (1, 1, (.t 7)), (2, 1, (.t 9)), (3, 1, (.t 11)), (5, 1, (.t 13))], none⟩, ⟨some 3, .alc [.str [], .str [], .str [], .int .i64 0, .int .i64 0, .int .i64 0, .int .i64 0, .str [], .int .i64 0, .int .i64 0, .own 2 []], none⟩, ⟨none, .st 11 [] (.t 3) (.t 14), none⟩])
 (.seq (.seq (.reg false [] [1, 2, 3, 16] [zf 15 3 1, zl 16 1 15])
 (.block 0 (.seq (.reg false [] [1, 2, 3, 16, 17] [zd 18 .eql 16 (.int .i64 1), zm 17 18])
 (.cond (.t 17) (.reg true [0, 1, 0, 4, 0, 16, 3, 67, 207, 463, 1023, 2047] [2, 3] [zf 19 4 1, zl 20 1 19, zf 21 6 1, zl 22 1 21, zf 23 7 1, zl 24 1 23, zf 25 4 3, ⟨none, .st 1 [] (.t 25) (.t 20), none⟩, zf 26 6 3, ⟨none, .st 1 [] (.t 26) (.t 22), none⟩, zf 27 7 3, ⟨none, .st 1 [] (.t 27) (.t 24), none⟩])
 (.seq (.reg false [] [1, 2, 3, 16, 28] [zd 29 .eql 16 (.int .i64 2), zm 28 29])
 (.cond (.t 28) (.reg false [] [2, 3] [zf 30 8 1, zl 31 1 30, zf 32 8 3, ⟨none, .st 1 [] (.t 32) (.t 31), none⟩])
 (.seq (.reg false [] [1, 2, 3, 16, 33] [zd 34 .eql 16 (.int .i64 3), zm 33 34])
 (.cond (.t 33) (.reg true [0, 1, 0, 4, 3, 19, 63, 127] [2, 3] [zf 35 8 1, zl 36 1 35, zf 37 9 1, zl 38 1 37, zf 39 8 3, ⟨none, .st 1 [] (.t 39) (.t 36), none⟩, zf 40 9 3, ⟨none, .st 1 [] (.t 40) (.t 38), none⟩])
 (.seq (.reg false [] [1, 2, 3, 41] [zd 42 .eql 16 (.int .i64 4), zm 41 42])
 (.cond (.t 41) (.reg true [0, 1, 0, 4, 3, 19, 63, 127] [2, 3] [zf 43 6 1, zl 44 1 43, zf 45 10 1, zl 46 1 45, zf 47 6 3, ⟨none, .st 1 [] (.t 47) (.t 44), none⟩, zf 48 10 3, ⟨none, .st 1 [] (.t 48) (.t 46), none⟩])
 .skip))))))))))
 (.seq (.reg false [] [2] [zL 49 11 3, ⟨none, .st 11 [] (.t 2) (.t 49), none⟩])
 .ret)))) }

/-- slices.ContainsFunc[sewershed/api.Table,sewershed/api.Knot] -/
def N179_slices_ContainsFunc_api_Table_api_Knot : NFun := { np := 2, nt := 9, res := [(4, none)], body :=
 (.seq (.reg false [] [0, 1] [zc 4 (.bool false)])
 (.seq (.reg false [] [4] [zq 5 0, zm 6 1, zk 7 185 [(.t 5), (.t 6)], zd 8 .geq 7 (.int .i64 0), zm 4 8])
 .ret)) }

/-- sewershed/network.rightLink$1 -/
def N180_network_rightLink_1 : NFun := { np := 1, nt := 13, res := [(2, none)], body :=
 (.seq (.reg false [] [1] [zo 1 0, zc 2 (.bool false)])
 (.seq (.reg false [] [2] [zf 3 0 1, zl 4 1 3, zk 5 172 [(.t 4), (.c (.int .i64 0)), (.c (.int .i64 4194304))], zt 6 5, zm 7 6, zg 7 false (zf 8 1 1), zg 7 false (zl 9 1 8), zg 7 false (zk 10 172 [(.t 9), (.c (.int .i64 0)), (.c (.int .i64 1099511627776))]), zg 7 false (zt 11 10), ⟨some 12, .pick (.t 7) (.c (.bool true)) (.t 11), none⟩, zm 2 12])
 .ret)) }

/-- slices.IndexFunc[[]sewershed/api.Link,sewershed/api.Link] -/
def N181_slices_IndexFunc__api_Link_api_Link : NFun := { np := 2, nt := 19, res := [(4, none)], body :=
 (.seq (.reg false [] [0, 1] [zc 4 (.int .i64 0)])
 (.seq (.seq (.reg false [] [0, 1, 7, 8] [zm 6 0, zn 7 6, zc 8 (.int .i64 0)])
 (.block 0 (.loop (.seq (.reg false [] [0, 1, 7, 8, 9] [zb 9 .lss 8 7])
 (.seq (.cond (.t 9) .skip
 (.exit 0))
 (.seq (.block 1 (.seq (.reg false [] [0, 1, 5, 7, 8] [zm 10 8, zm 5 10])
 (.seq (.reg false [] [0, 1, 5, 7, 8, 16] [zm 11 1, zm 12 0, zm 13 5, zi 14 11 12 13, zL 15 11 14, ⟨some 16, .callv (.t 11) [(.t 15)], none⟩])
 (.cond (.t 16) (.seq (.reg false [] [4] [zm 17 5, zm 4 17])
 .ret)
 .skip))))
 (.reg false [] [0, 1, 7, 8] [zd 18 .add 8 (.int .i64 1), zm 8 18])))))))
 (.seq (.reg false [] [4] [⟨some 4, .mov (.c (.int .i64 (-1))), none⟩])
 .ret))) }

/-- sewershed/network.link$1 -/
def N182_network_link_1 : NFun := { np := 2, nt := 8, res := [(3, none)], body :=
 (.seq (.reg false [] [1, 2] [zo 2 0, zc 3 (.bool false)])
 (.seq (.reg false [] [3] [zf 4 0 2, zl 5 1 4, zl 6 1 1, zb 7 .eql 5 6, zm 3 7])
 .ret)) }

/-- sewershed/network.level$1 -/
def N183_network_level_1 : NFun := { np := 1, nt := 9, res := [(2, none)], body :=
 (.seq (.reg false [] [0] [zc 2 (.bool false)])
 (.seq (.reg false [] [2] [zm 3 0, ⟨some 4, .bin .lss (.t 3) (.c (.int .i64 (-4194304))), none⟩, zm 5 4, zg 5 false (zm 6 0), zg 5 false (zd 7 .gtr 6 (.int .i64 4194304)), ⟨some 8, .pick (.t 5) (.c (.bool true)) (.t 7), none⟩, zm 2 8])
 .ret)) }

/-- slices.Equal[sewershed/api.Table,sewershed/api.Knot] -/
def N184_slices_Equal_api_Table_api_Knot : NFun := { np := 2, nt := 26, res := [(4, none)], body :=
 (.seq (.reg false [] [0, 1] [zc 4 (.bool false)])
 (.seq (.seq (.reg false [] [0, 1, 10] [zm 6 0, zn 7 6, zm 8 1, zn 9 8, zb 10 .neq 7 9])
 (.cond (.t 10) (.seq (.reg false [] [4] [zc 4 (.bool false)])
 .ret)
 .skip))
 (.seq (.seq (.reg false [] [0, 1, 12, 13] [zm 11 0, zn 12 11, zc 13 (.int .i64 0)])
 (.block 0 (.loop (.seq (.reg false [] [0, 1, 12, 13, 14] [zb 14 .lss 13 12])
 (.seq (.cond (.t 14) .skip
 (.exit 0))
 (.seq (.block 1 (.seq (.reg false [] [0, 1, 5, 12, 13] [zm 15 13, zm 5 15])
 (.seq (.reg true [0, 0, 3, 7, 0, 0, 48, 112, 255] [0, 1, 12, 13, 24] [zm 16 0, zm 17 5, zi 18 2 16 17, zL 19 2 18, zm 20 1, zm 21 5, zi 22 2 20 21, zL 23 2 22, ⟨some 24, .beq true [0, 0] (.t 19) (.t 23), none⟩])
 (.cond (.t 24) (.seq (.reg false [] [4] [zc 4 (.bool false)])
 .ret)
 .skip))))
 (.reg false [] [0, 1, 12, 13] [zd 25 .add 13 (.int .i64 1), zm 13 25])))))))
 (.seq (.reg false [] [4] [zc 4 (.bool true)])
 .ret)))) }

/-- slices.IndexFunc[sewershed/api.Table,sewershed/api.Knot] -/
def N185_slices_IndexFunc_api_Table_api_Knot : NFun := { np := 2, nt := 19, res := [(4, none)], body :=
 (.seq (.reg false [] [0, 1] [zc 4 (.int .i64 0)])
 (.seq (.seq (.reg false [] [0, 1, 7, 8] [zm 6 0, zn 7 6, zc 8 (.int .i64 0)])
 (.block 0 (.loop (.seq (.reg false [] [0, 1, 7, 8, 9] [zb 9 .lss 8 7])
 (.seq (.cond (.t 9) .skip
 (.exit 0))
 (.seq (.block 1 (.seq (.reg false [] [0, 1, 5, 7, 8] [zm 10 8, zm 5 10])
 (.seq (.reg false [] [0, 1, 5, 7, 8, 16] [zm 11 1, zm 12 0, zm 13 5, zi 14 2 12 13, zL 15 2 14, ⟨some 16, .callv (.t 11) [(.t 15)], none⟩])
 (.cond (.t 16) (.seq (.reg false [] [4] [zm 17 5, zm 4 17])
 .ret)
 .skip))))
 (.reg false [] [0, 1, 7, 8] [zd 18 .add 8 (.int .i64 1), zm 8 18])))))))
 (.seq (.reg false [] [4] [⟨some 4, .mov (.c (.int .i64 (-1))), none⟩])
 .ret))) }

/-- cmp.Or[int] -/
def N266_cmp_Or_int : NFun := { np := 1, nt := 18, res := [(2, none)], body :=
 (.seq (.reg false [] [0] [zc 2 (.int .i64 0)])
 (.seq (.reg false [] [0, 3] [zc 3 (.int .i64 0)])
 (.seq (.seq (.reg false [] [3, 6, 7, 8] [zq 6 0, zn 7 6, zc 8 (.int .i64 0)])
 (.block 0 (.loop (.seq (.reg false [] [3, 6, 7, 8, 9] [zb 9 .lss 8 7])
 (.seq (.cond (.t 9) .skip
 (.exit 0))
 (.seq (.block 1 (.seq (.reg false [] [3, 5, 6, 7, 8] [zi 10 1 6 8, zl 11 1 10, zm 5 11])
 (.seq (.reg false [] [3, 5, 6, 7, 8, 14] [zm 12 5, zm 13 3, zb 14 .neq 12 13])
 (.cond (.t 14) (.seq (.reg false [] [2] [zm 15 5, zm 2 15])
 .ret)
 .skip))))
 (.reg false [] [3, 6, 7, 8] [zd 16 .add 8 (.int .i64 1), zm 8 16])))))))
 (.seq (.reg false [] [2] [zm 17 3, zm 2 17])
 .ret)))) }

/-- cmp.Compare[int] -/
def N267_cmp_Compare_int : NFun := { np := 2, nt := 20, res := [(4, none)], body :=
 (.seq (.reg false [] [0, 1] [zc 4 (.int .i64 0)])
 (.seq (.reg false [] [0, 1, 5] [zm 7 0, zk 8 299 [(.t 7)], zm 5 8])
 (.seq (.reg false [] [0, 1, 5, 6] [zm 9 1, zk 10 299 [(.t 9)], zm 6 10])
 (.seq (.seq (.reg false [] [0, 1, 6, 11] [zm 11 5])
 (.cond (.t 11) (.seq (.seq (.reg false [] [12] [zm 12 6])
 (.cond (.t 12) (.seq (.reg false [] [4] [zc 4 (.int .i64 0)])
 .ret)
 .skip))
 (.seq (.reg false [] [4] [⟨some 4, .mov (.c (.int .i64 (-1))), none⟩])
 .ret))
 .skip))
 (.seq (.seq (.reg false [] [0, 1, 13] [zm 13 6])
 (.cond (.t 13) (.seq (.reg false [] [4] [zc 4 (.int .i64 1)])
 .ret)
 .skip))
 (.seq (.seq (.reg false [] [0, 1, 16] [zm 14 0, zm 15 1, zb 16 .lss 14 15])
 (.cond (.t 16) (.seq (.reg false [] [4] [⟨some 4, .mov (.c (.int .i64 (-1))), none⟩])
 .ret)
 .skip))
 (.seq (.seq (.reg false [] [19] [zm 17 0, zm 18 1, zb 19 .gtr 17 18])
 (.cond (.t 19) (.seq (.reg false [] [4] [zc 4 (.int .i64 1)])
 .ret)
 .skip))
 (.seq (.reg false [] [4] [zc 4 (.int .i64 0)])
 .ret)))))))) }

/-- cmp.isNaN[int] -/
def N299_cmp_isNaN_int : NFun := { np := 1, nt := 6, res := [(2, none)], body :=
 (.seq (.reg false [] [0] [zc 2 (.bool false)])
 (.seq (.reg false [] [2] [zm 3 0, zm 4 0, zb 5 .neq 3 4, zm 2 5])
 .ret)) }

/-- slices.Equal[[]string,string] -/
def N435_slices_Equal__string_string : NFun := { np := 2, nt := 26, res := [(4, none)], body :=
 (.seq (.reg false [] [0, 1] [zc 4 (.bool false)])
 (.seq (.seq (.reg false [] [0, 1, 10] [zm 6 0, zn 7 6, zm 8 1, zn 9 8, zb 10 .neq 7 9])
 (.cond (.t 10) (.seq (.reg false [] [4] [zc 4 (.bool false)])
 .ret)
 .skip))
 (.seq (.seq (.reg false [] [0, 1, 12, 13] [zm 11 0, zn 12 11, zc 13 (.int .i64 0)])
 (.block 0 (.loop (.seq (.reg false [] [0, 1, 12, 13, 14] [zb 14 .lss 13 12])
 (.seq (.cond (.t 14) .skip
 (.exit 0))
 (.seq (.block 1 (.seq (.reg false [] [0, 1, 5, 12, 13] [zm 15 13, zm 5 15])
 (.seq (.reg true [0, 0, 3, 7, 0, 0, 48, 112, 255] [0, 1, 12, 13, 24] [zm 16 0, zm 17 5, zi 18 1 16 17, zl 19 1 18, zm 20 1, zm 21 5, zi 22 1 20 21, zl 23 1 22, zb 24 .neq 19 23])
 (.cond (.t 24) (.seq (.reg false [] [4] [zc 4 (.bool false)])
 .ret)
 .skip))))
 (.reg false [] [0, 1, 12, 13] [zd 25 .add 13 (.int .i64 1), zm 13 25])))))))
 (.seq (.reg false [] [4] [zc 4 (.bool true)])
 .ret)))) }

/-- slices.ContainsFunc[[]sewershed/api.Node,sewershed/api.Node] -/
def N453_slices_ContainsFunc__api_Node_api_Node : NFun := { np := 2, nt := 9, res := [(4, none)], body :=
 (.seq (.reg false [] [0, 1] [zc 4 (.bool false)])
 (.seq (.reg false [] [4] [zq 5 0, zm 6 1, zk 7 175 [(.t 5), (.t 6)], zd 8 .geq 7 (.int .i64 0), zm 4 8])
 .ret)) }

/-- slices.ContainsFunc[[]sewershed/api.Link,sewershed/api.Link] -/
def N455_slices_ContainsFunc__api_Link_api_Link : NFun := { np := 2, nt := 9, res := [(4, none)], body :=
 (.seq (.reg false [] [0, 1] [zc 4 (.bool false)])
 (.seq (.reg false [] [4] [zq 5 0, zm 6 1, zk 7 181 [(.t 5), (.t 6)], zd 8 .geq 7 (.int .i64 0), zm 4 8])
 .ret)) }

/-- sewershed/network.Link -/
def N463_network_Link : NFun := { np := 2, nt := 16, res := [(4, none), (5, none)], body :=
 (.seq (.reg false [] [1, 2] [zo 2 0, zc 4 (.int .i64 0), zc 5 (.int .i64 0)])
 (.seq (.seq (.reg false [] [1, 2, 8] [zL 6 2 2, zk 7 164 [(.t 6)], zt 8 7])
 (.cond (.t 8) (.seq (.reg false [] [4, 5] [zc 4 (.int .i64 0), zc 5 (.int .i64 1)])
 .ret)
 .skip))
 (.seq (.reg true [0, 0, 0, 6, 15, 31, 31, 127, 255] [4, 5] [zL 9 2 2, zL 10 2 2, zm 11 1, zk 12 171 [(.t 10), (.t 11)], zk 13 498 [(.t 9), (.t 12)], zx 14 0 13, zx 15 1 13, zm 4 14, zm 5 15])
 .ret))) }

/-- sewershed/network.Edges -/
def N471_network_Edges : NFun := { np := 1, nt := 9, res := [(2, none), (3, none)], body :=
 (.seq (.reg false [] [1] [zo 1 0, zc 2 .nils, zc 3 (.int .i64 0)])
 (.seq (.seq (.reg false [] [1, 6] [zL 4 2 1, zk 5 164 [(.t 4)], zt 6 5])
 (.cond (.t 6) (.seq (.reg false [] [2, 3] [zc 2 .nils, zc 3 (.int .i64 1)])
 .ret)
 .skip))
 (.seq (.reg false [] [2, 3] [zL 7 2 1, zk 8 499 [(.t 7)], zq 2 8, zc 3 (.int .i64 0)])
 .ret))) }

/-- sewershed/network.found -/
def N498_network_found : NFun := { np := 2, nt := 9, res := [(4, none), (5, none)], body :=
 (.seq (.reg false [] [1] [zo 2 0, zc 4 (.int .i64 0), zc 5 (.int .i64 0)])
 (.seq (.seq (.reg false [] [1, 7] [zm 6 1, zd 7 .lss 6 (.int .i64 0)])
 (.cond (.t 7) (.seq (.reg false [] [4, 5] [zc 4 (.int .i64 0), zc 5 (.int .i64 9)])
 .ret)
 .skip))
 (.seq (.reg false [] [4, 5] [zm 8 1, zm 4 8, zc 5 (.int .i64 0)])
 .ret))) }

/-- sewershed/network.edges -/
def N499_network_edges : NFun := { np := 1, nt := 27, res := [(2, none)], body :=
 (.seq (.reg false [] [1] [zo 1 0, zc 2 .nils])
 (.seq (.reg false [] [1, 3] [⟨some 3, .nilo 2, none⟩])
 (.seq (.seq (.reg false [] [1, 3, 7, 8, 9] [zf 6 1 1, zl 7 1 6, zn 8 7, zc 9 (.int .i64 0)])
 (.block 0 (.loop (.seq (.reg false [] [1, 3, 7, 8, 9, 10] [zb 10 .lss 9 8])
 (.seq (.cond (.t 10) .skip
 (.exit 0))
 (.seq (.block 1 (.seq (.reg false [] [1, 3, 5, 7, 8, 9] [zi 11 11 7 9, zL 12 11 11, ⟨some 5, .alc [.str [], .str [], .str [], .int .i64 0, .int .i64 0, .int .i64 0, .int .i64 0, .str [], .int .i64 0, .int .i64 0, .own 2 []], none⟩, ⟨none, .st 11 [] (.t 5) (.t 12), none⟩])
 (.reg true [0, 0, 0, 4, 14, 0, 0, 64, 254, 510, 1022, 2047, 4095] [1, 3, 7, 8, 9] [zm 13 3, zL 14 2 1, zf 15 1 5, zl 16 1 15, zk 17 169 [(.t 14), (.t 16)], zL 18 2 1, zf 19 2 5, zl 20 1 19, zk 21 169 [(.t 18), (.t 20)], ⟨some 22, .bld [.int .i64 0, .int .i64 0] [(0, 1, (.t 17)), (1, 1, (.t 21))], none⟩, ⟨some 23, .bls 2 1 [.int .i64 0, .int .i64 0] [] [(0, (.t 22))], none⟩, ⟨some 24, .app 2 16 false (.t 13) (.t 23), none⟩, zq 3 24])))
 (.reg false [] [1, 3, 7, 8, 9] [zd 25 .add 9 (.int .i64 1), zm 9 25])))))))
 (.seq (.reg false [] [2] [zq 26 3, zq 2 26])
 .ret)))) }

/-- sewershed/digraph.Valid -/
def N503_digraph_Valid : NFun := { np := 2, nt := 20, res := [(4, none)], body :=
 (.seq (.reg false [] [1, 2] [zo 2 0, zc 4 (.bool false)])
 (.seq (.seq (.reg false [] [1, 2, 15] [zl 5 1 2, zd 6 .lss 5 (.int .i64 0), zm 7 6, zg 7 false (zl 8 1 2), zg 7 false (zd 9 .gtr 8 (.int .i64 300)), ⟨some 10, .pick (.t 7) (.c (.bool true)) (.t 9), none⟩, zm 11 10, zg 11 false (zm 12 1), zg 11 false (zn 13 12), zg 11 false (zd 14 .gtr 13 (.int .i64 1000)), ⟨some 15, .pick (.t 11) (.c (.bool true)) (.t 14), none⟩])
 (.cond (.t 15) (.seq (.reg false [] [4] [zc 4 (.bool false)])
 .ret)
 .skip))
 (.seq (.reg false [] [4] [zq 16 1, ⟨some 17, .mk 515 [(.t 2)], none⟩, zk 18 514 [(.t 16), (.t 17)], zt 19 18, zm 4 19])
 .ret))) }

/-- slices.ContainsFunc[[][2]int,[2]int] -/
def N514_slices_ContainsFunc___2int__2int : NFun := { np := 2, nt := 9, res := [(4, none)], body :=
 (.seq (.reg false [] [0, 1] [zc 4 (.bool false)])
 (.seq (.reg false [] [4] [zq 5 0, zm 6 1, zk 7 522 [(.t 5), (.t 6)], zd 8 .geq 7 (.int .i64 0), zm 4 8])
 .ret)) }

/-- sewershed/digraph.Valid$1 -/
def N515_digraph_Valid_1 : NFun := { np := 2, nt := 16, res := [(3, none)], body :=
 (.seq (.reg false [] [1, 2] [zo 2 0, zc 3 (.bool false)])
 (.seq (.reg false [] [3] [zl 4 1 1, ⟨some 5, .iadA 2 1 (.t 2) (.c (.int .i64 0)), none⟩, zl 6 1 5, zk 7 516 [(.t 4), (.t 6)], zt 8 7, zm 9 8, zg 9 false (zl 10 1 1), zg 9 false (⟨some 11, .iadA 2 1 (.t 2) (.c (.int .i64 1)), none⟩), zg 9 false (zl 12 1 11), zg 9 false (zk 13 516 [(.t 10), (.t 12)]), zg 9 false (zt 14 13), ⟨some 15, .pick (.t 9) (.c (.bool true)) (.t 14), none⟩, zm 3 15])
 .ret)) }

/-- sewershed/digraph.is -/
def N516_digraph_is : NFun := { np := 2, nt := 12, res := [(4, none)], body :=
 (.seq (.reg false [] [0, 1] [zc 4 (.bool false)])
 (.seq (.reg false [] [4] [zm 5 1, zd 6 .geq 5 (.int .i64 0), zm 7 6, zg 7 true (zm 8 1), zg 7 true (zm 9 0), zg 7 true (zb 10 .lss 8 9), ⟨some 11, .pick (.t 7) (.t 10) (.c (.bool false)), none⟩, zm 4 11])
 .ret)) }

/-- sewershed/digraph.next -/
def N517_digraph_next : NFun := { np := 2, nt := 51, res := [(4, none)], body :=
 (.seq (.reg false [] [0, 1] [zc 4 .nils])
 (.seq (.reg false [] [1, 5] [zm 9 0, ⟨some 10, .mks 1 24 [.own 1 []] (.t 9) (.t 9), none⟩, zq 5 10])
 (.seq (.seq (.reg false [] [5, 11, 12, 13] [zq 11 1, zn 12 11, zc 13 (.int .i64 0)])
 (.block 0 (.loop (.seq (.reg false [] [5, 11, 12, 13, 14] [zb 14 .lss 13 12])
 (.seq (.cond (.t 14) .skip
 (.exit 0))
 (.seq (.block 1 (.seq (.reg false [] [5, 7, 11, 12, 13] [zi 15 2 11 13, zL 16 2 15, ⟨some 7, .alc [.int .i64 0, .int .i64 0], none⟩, ⟨none, .st 2 [] (.t 7) (.t 16), none⟩])
 (.reg true [0, 0, 2, 0, 0, 16, 56, 120, 0, 256, 768, 2040, 4095, 8191] [5, 11, 12, 13] [zm 17 5, ⟨some 18, .iadA 2 1 (.t 7) (.c (.int .i64 0)), none⟩, zl 19 1 18, zm 20 5, ⟨some 21, .iadA 2 1 (.t 7) (.c (.int .i64 0)), none⟩, zl 22 1 21, zi 23 1 20 22, zl 24 1 23, ⟨some 25, .iadA 2 1 (.t 7) (.c (.int .i64 1)), none⟩, zl 26 1 25, ⟨some 27, .bls 1 1 [.int .i64 0] [] [(0, (.t 26))], none⟩, ⟨some 28, .app 1 8 false (.t 24) (.t 27), none⟩, zi 29 1 17 19, ⟨none, .st 1 [] (.t 29) (.t 28), none⟩])))
 (.reg false [] [5, 11, 12, 13] [zd 30 .add 13 (.int .i64 1), zm 13 30])))))))
 (.seq (.seq (.reg false [] [5, 32, 33] [zm 31 5, zn 32 31, zc 33 (.int .i64 0)])
 (.block 2 (.loop (.seq (.reg false [] [5, 32, 33, 34] [zb 34 .lss 33 32])
 (.seq (.cond (.t 34) .skip
 (.exit 2))
 (.seq (.block 3 (.seq (.reg false [] [5, 8, 32, 33] [zm 35 33, zm 8 35])
 (.seq (.reg false [] [5, 8, 32, 33] [zm 36 5, zm 37 8, zi 38 1 36 37, zl 39 1 38, ⟨some 40, .callN 366 (.t 39) [], none⟩])
 (.reg false [] [5, 32, 33] [zm 41 5, zm 42 8, zm 43 5, zm 44 8, zi 45 1 43 44, zl 46 1 45, ⟨some 47, .callE 523 (.t 46) [], none⟩, zi 48 1 41 42, ⟨none, .st 1 [] (.t 48) (.t 47), none⟩]))))
 (.reg false [] [5, 32, 33] [zd 49 .add 33 (.int .i64 1), zm 33 49])))))))
 (.seq (.reg false [] [4] [zq 50 5, zq 4 50])
 .ret))))) }

/-- sewershed/digraph.reach -/
def N521_digraph_reach : NFun := { np := 2, nt := 42, res := [(4, none)], body :=
 (.seq (.reg false [] [0, 1] [zc 4 .nils])
 (.seq (.reg false [] [0, 1, 5] [zm 8 0, zn 9 8, ⟨some 10, .mks 1 1 [.bool false] (.t 9) (.t 9), none⟩, zq 5 10])
 (.seq (.reg false [] [0, 5, 6] [zq 11 1, ⟨some 12, .callF 42 [(.t 11)], none⟩, zq 6 12])
 (.seq (.block 0 (.loop (.seq (.seq (.reg false [] [0, 5, 6, 15] [zm 13 6, zn 14 13, zd 15 .gtr 14 (.int .i64 0)])
 (.cond (.t 15) .skip
 (.exit 0)))
 (.block 1 (.seq (.reg false [] [0, 5, 6, 7] [zm 16 6, zm 17 6, zn 18 17, zd 19 .sub 18 (.int .i64 1), zi 20 1 16 19, zl 21 1 20, zm 7 21])
 (.seq (.reg false [] [0, 5, 6, 7] [zm 22 6, zm 23 6, zn 24 23, zd 25 .sub 24 (.int .i64 1), ⟨some 26, .slc 1 (.t 22) none (some (.t 25)), none⟩, zq 6 26])
 (.seq (.reg false [] [0, 5, 6, 7, 31] [zm 27 5, zm 28 7, zi 29 1 27 28, zl 30 1 29, zt 31 30])
 (.cond (.t 31) (.seq (.reg false [] [0, 5, 6, 7] [zm 32 5, zm 33 7, zi 34 1 32 33, ⟨none, .st 1 [] (.t 34) (.c (.bool true)), none⟩])
 (.reg false [] [0, 5, 6] [zm 35 6, zm 36 0, zm 37 7, zi 38 1 36 37, zl 39 1 38, ⟨some 40, .app 1 8 false (.t 35) (.t 39), none⟩, zq 6 40]))
 .skip))))))))
 (.seq (.reg false [] [4] [zq 41 5, zq 4 41])
 .ret))))) }

/-- slices.IndexFunc[[][2]int,[2]int] -/
def N522_slices_IndexFunc___2int__2int : NFun := { np := 2, nt := 19, res := [(4, none)], body :=
 (.seq (.reg false [] [0, 1] [zc 4 (.int .i64 0)])
 (.seq (.seq (.reg false [] [0, 1, 7, 8] [zm 6 0, zn 7 6, zc 8 (.int .i64 0)])
 (.block 0 (.loop (.seq (.reg false [] [0, 1, 7, 8, 9] [zb 9 .lss 8 7])
 (.seq (.cond (.t 9) .skip
 (.exit 0))
 (.seq (.block 1 (.seq (.reg false [] [0, 1, 5, 7, 8] [zm 10 8, zm 5 10])
 (.seq (.reg false [] [0, 1, 5, 7, 8, 16] [zm 11 1, zm 12 0, zm 13 5, zi 14 2 12 13, zL 15 2 14, ⟨some 16, .callv (.t 11) [(.t 15)], none⟩])
 (.cond (.t 16) (.seq (.reg false [] [4] [zm 17 5, zm 4 17])
 .ret)
 .skip))))
 (.reg false [] [0, 1, 7, 8] [zd 18 .add 8 (.int .i64 1), zm 8 18])))))))
 (.seq (.reg false [] [4] [⟨some 4, .mov (.c (.int .i64 (-1))), none⟩])
 .ret))) }

/-- sewershed/sewershedlaw27.CheckerLess -/
def N529_law27_CheckerLess : NFun := { np := 3, nt := 162, res := [(6, none)], body :=
 (.seq (.reg false [] [1, 2, 3] [zo 3 0, zc 6 (.bool false)])
 (.seq (.seq (.reg false [] [1, 2, 3, 19] [zk 18 540 [], zt 19 18])
 (.cond (.t 19) (.seq (.reg false [] [6] [zc 6 (.bool false)])
 .ret)
 .skip))
 (.seq (.seq (.reg false [] [1, 2, 3, 25] [zL 20 2 3, zk 21 541 [(.t 20)], zm 22 21, zg 22 false (zm 23 1), zg 22 false (zk 24 542 [(.t 23)]), ⟨some 25, .pick (.t 22) (.c (.bool true)) (.t 24), none⟩])
 (.cond (.t 25) (.seq (.reg false [] [6] [zc 6 (.bool true)])
 .ret)
 .skip))
 (.seq (.reg false [] [1, 2, 3, 7, 8] [zL 27 2 3, zm 28 1, zk 29 543 [(.t 27), (.t 28)], zm 26 29, zx 30 0 26, zx 31 1 26, ⟨some 7, .alc [.own 2 []], none⟩, ⟨none, .st 1 [] (.t 7) (.t 30), none⟩, zm 8 31])
 (.seq (.seq (.reg false [] [1, 2, 3, 7, 33] [zm 32 8, zd 33 .neq 32 (.int .i64 0)])
 (.cond (.t 33) (.seq (.reg false [] [6] [zl 34 1 7, zn 35 34, zd 36 .eql 35 (.int .i64 0), zm 6 36])
 .ret)
 .skip))
 (.seq (.seq (.reg false [] [1, 2, 3, 7, 37, 38, 39] [zl 37 1 7, zn 38 37, zc 39 (.int .i64 0)])
 (.block 0 (.loop (.seq (.reg false [] [1, 2, 3, 7, 37, 38, 39, 40] [zb 40 .lss 39 38])
 (.seq (.cond (.t 40) .skip
 (.exit 0))
 (.seq (.block 1 (.seq (.reg false [] [1, 2, 3, 7, 9, 10, 37, 38, 39] [zm 41 39, zi 42 2 37 39, zL 43 2 42, ⟨some 10, .alc [.int .i64 0, .str []], none⟩, zm 9 41, ⟨none, .st 2 [] (.t 10) (.t 43), none⟩])
 (.seq (.seq (.reg true [0, 1, 3, 7, 15, 31, 63, 127, 255, 511, 1023, 2047, 4095, 8191, 4095, 4095, 36863, 118783, 249855, 511999, 1048575, 2097151, 4194303, 8388607, 4194303, 4194303, 37748735, 121634815, 255852543, 524287999, 1073741823, 2147483647, 4294967295, 8589934591, 4294967295, 4294967295, 38654705663, 124554051583, 261993005055, 536870911999, 1099511627775, 2199023255551, 4398046511103, 8796093022207, 17592186044415] [1, 2, 3, 7, 10, 37, 38, 39, 88] [zf 44 0 10, zl 45 1 44, zd 46 .lss 45 (.int .i64 1), zm 47 46, zg 47 false (zf 48 0 10), zg 47 false (zl 49 1 48), zg 47 false (zd 50 .gtr 49 (.int .i64 8)), ⟨some 51, .pick (.t 47) (.c (.bool true)) (.t 50), none⟩, zm 52 51, zg 52 false (zm 53 9), zg 52 false (zd 54 .gtr 53 (.int .i64 0)), zg 52 false (zm 55 54), zg 55 true (zf 56 0 10), zg 55 true (zl 57 1 56), zg 55 true (zl 58 1 7), zg 55 true (zm 59 9), zg 55 true (zd 60 .sub 59 (.int .i64 1)), zg 55 true (zi 61 2 58 60), zg 55 true (zf 62 0 61), zg 55 true (zl 63 1 62), zg 55 true (zb 64 .lss 57 63), zg 55 true (zm 65 64), zg 65 false (zf 66 0 10), zg 65 false (zl 67 1 66), zg 65 false (zl 68 1 7), zg 65 false (zm 69 9), zg 65 false (zd 70 .sub 69 (.int .i64 1)), zg 65 false (zi 71 2 68 70), zg 65 false (zf 72 0 71), zg 65 false (zl 73 1 72), zg 65 false (zb 74 .eql 67 73), zg 65 false (zm 75 74), zg 75 true (zf 76 1 10), zg 75 true (zl 77 1 76), zg 75 true (zl 78 1 7), zg 75 true (zm 79 9), zg 75 true (zd 80 .sub 79 (.int .i64 1)), zg 75 true (zi 81 2 78 80), zg 75 true (zf 82 1 81), zg 75 true (zl 83 1 82), zg 75 true (zb 84 .leq 77 83), zg 65 false (⟨some 85, .pick (.t 75) (.t 84) (.c (.bool false)), none⟩), zg 55 true (⟨some 86, .pick (.t 65) (.c (.bool true)) (.t 85), none⟩), zg 52 false (⟨some 87, .pick (.t 55) (.t 86) (.c (.bool false)), none⟩), ⟨some 88, .pick (.t 52) (.c (.bool true)) (.t 87), none⟩])
 (.cond (.t 88) (.seq (.reg false [] [6] [zc 6 (.bool false)])
 .ret)
 .skip))
 (.seq (.reg false [] [1, 2, 3, 7, 10, 11, 37, 38, 39] [zf 89 0 3, zl 90 1 89, ⟨some 91, .mk 550 [(.t 10)], none⟩, zk 92 453 [(.t 90), (.t 91)], zm 11 92])
 (.seq (.reg false [] [1, 2, 3, 7, 10, 11, 12, 37, 38, 39] [zf 93 1 3, zl 94 1 93, ⟨some 95, .mk 551 [(.t 10)], none⟩, zk 96 455 [(.t 94), (.t 95)], zm 12 96])
 (.seq (.reg false [] [1, 2, 3, 7, 11, 12, 13, 37, 38, 39] [zf 97 0 10, zl 98 1 97, zd 99 .eql 98 (.int .i64 1), zm 100 99, zg 100 false (zf 101 0 10), zg 100 false (zl 102 1 101), zg 100 false (zd 103 .eql 102 (.int .i64 3)), ⟨some 104, .pick (.t 100) (.c (.bool true)) (.t 103), none⟩, zm 105 104, zg 105 false (zf 106 0 10), zg 105 false (zl 107 1 106), zg 105 false (zd 108 .eql 107 (.int .i64 8)), ⟨some 109, .pick (.t 105) (.c (.bool true)) (.t 108), none⟩, zm 13 109])
 (.seq (.reg false [] [1, 2, 3, 7, 37, 38, 39, 122] [zm 110 13, zm 111 110, zg 111 true (zm 112 11), zg 111 true (zt 113 112), ⟨some 114, .pick (.t 111) (.t 113) (.c (.bool false)), none⟩, zm 115 114, zg 115 false (zm 116 13), zg 115 false (zt 117 116), zg 115 false (zm 118 117), zg 118 true (zm 119 12), zg 118 true (zt 120 119), zg 115 false (⟨some 121, .pick (.t 118) (.t 120) (.c (.bool false)), none⟩), ⟨some 122, .pick (.t 115) (.c (.bool true)) (.t 121), none⟩])
 (.cond (.t 122) (.seq (.reg false [] [6] [zc 6 (.bool false)])
 .ret)
 .skip))))))))
 (.reg false [] [1, 2, 3, 7, 37, 38, 39] [zd 123 .add 39 (.int .i64 1), zm 39 123])))))))
 (.seq (.seq (.reg false [] [1, 2, 3, 7, 127] [zf 124 1 3, zl 125 1 124, zn 126 125, zd 127 .eql 126 (.int .i64 0)])
 (.cond (.t 127) (.seq (.reg false [] [6] [zc 6 (.bool true)])
 .ret)
 .skip))
 (.seq (.reg true [0, 0, 2, 0, 8, 0, 32, 96, 248, 510, 1022, 2046, 4095, 8191, 16383, 16383, 0, 98303, 262143] [1, 7, 14, 15] [zL 129 2 3, zf 130 1 3, zl 131 1 130, zm 132 2, ⟨some 133, .conv .i64 (.t 132), none⟩, zf 134 1 3, zl 135 1 134, zn 136 135, zb 137 .rem 133 136, zi 138 11 131 137, zf 139 0 138, zl 140 1 139, zk 141 552 [(.t 129), (.t 140)], zm 128 141, zx 142 0 128, zx 143 1 128, ⟨some 14, .alc [.own 9 [], .own 11 []], none⟩, ⟨none, .st 2 [] (.t 14) (.t 142), none⟩, zm 15 143])
 (.seq (.reg false [] [7, 15, 16, 17] [zL 145 2 14, zq 146 1, zk 147 543 [(.t 145), (.t 146)], zm 144 147, zx 148 0 144, zx 149 1 144, zq 16 148, zm 17 149])
 (.seq (.reg false [] [6] [zm 150 15, zd 151 .eql 150 (.int .i64 0), zm 152 151, zg 152 true (zm 153 17), zg 152 true (zd 154 .eql 153 (.int .i64 0)), ⟨some 155, .pick (.t 152) (.t 154) (.c (.bool false)), none⟩, zm 156 155, zg 156 true (zq 157 16), zg 156 true (⟨some 158, .mk 553 [(.t 7)], none⟩), zg 156 true (zk 159 125 [(.t 157), (.t 158)]), zg 156 true (zt 160 159), ⟨some 161, .pick (.t 156) (.t 160) (.c (.bool false)), none⟩, zm 6 161])
 .ret)))))))))) }

/-- sewershed/sewershedlaw27.awake -/
def N540_law27_awake : NFun := { np := 0, nt := 33, res := [(0, none)], body :=
 (.seq (.reg false [] [] [zc 0 (.bool false)])
 (.seq (.reg false [] [1, 2] [zk 6 583 [], zk 7 543 [(.t 6), (.c .nils)], zm 5 7, zx 8 0 5, zx 9 1 5, zq 1 8, zm 2 9])
 (.seq (.reg false [] [1, 2, 3, 4] [zk 11 583 [], zk 12 556 [(.t 11)], zm 10 12, zx 13 0 10, zx 14 1 10, zq 3 13, zm 4 14])
 (.seq (.reg false [] [0] [zm 15 2, zd 16 .eql 15 (.int .i64 0), zm 17 16, zg 17 true (zq 18 1), zg 17 true (⟨some 19, .bld [.int .i64 0, .str []] [(0, 1, (.c (.int .i64 2))), (1, 1, (.c (.str [97])))], none⟩), zg 17 true (⟨some 20, .bld [.int .i64 0, .str []] [(0, 1, (.c (.int .i64 6))), (1, 1, (.c (.str [97])))], none⟩), zg 17 true (⟨some 21, .bls 2 2 [.int .i64 0, .str []] [] [(0, (.t 19)), (1, (.t 20))], none⟩), zg 17 true (zk 22 147 [(.t 18), (.t 21)]), ⟨some 23, .pick (.t 17) (.t 22) (.c (.bool false)), none⟩, zm 24 23, zg 24 true (zm 25 4), zg 24 true (zd 26 .eql 25 (.int .i64 0)), ⟨some 27, .pick (.t 24) (.t 26) (.c (.bool false)), none⟩, zm 28 27, zg 28 true (zq 29 3), zg 28 true (⟨some 30, .bls 1 1 [.str []] [] [(0, (.c (.str [97])))], none⟩), zg 28 true (zk 31 435 [(.t 29), (.t 30)]), ⟨some 32, .pick (.t 28) (.t 31) (.c (.bool false)), none⟩, zm 0 32])
 .ret)))) }

/-- sewershed/sewershedlaw27.large -/
def N541_law27_large : NFun := { np := 1, nt := 23, res := [(2, none)], body :=
 (.seq (.reg false [] [1] [zo 1 0, zc 2 (.bool false)])
 (.seq (.reg false [] [2] [zf 3 0 1, zl 4 1 3, zn 5 4, zd 6 .gtr 5 (.int .i64 14), zm 7 6, zg 7 false (zf 8 1 1), zg 7 false (zl 9 1 8), zg 7 false (zn 10 9), zg 7 false (zd 11 .gtr 10 (.int .i64 16)), ⟨some 12, .pick (.t 7) (.c (.bool true)) (.t 11), none⟩, zm 13 12, zg 13 false (zf 14 0 1), zg 13 false (zl 15 1 14), zg 13 false (⟨some 16, .call 453 [(.t 15), (.c (.fn 584 []))] [], none⟩), ⟨some 17, .pick (.t 13) (.c (.bool true)) (.t 16), none⟩, zm 18 17, zg 18 false (zf 19 1 1), zg 18 false (zl 20 1 19), zg 18 false (⟨some 21, .call 455 [(.t 20), (.c (.fn 585 []))] [], none⟩), ⟨some 22, .pick (.t 18) (.c (.bool true)) (.t 21), none⟩, zm 2 22])
 .ret)) }

/-- sewershed/sewershedlaw27.many -/
def N542_law27_many : NFun := { np := 1, nt := 10, res := [(2, none)], body :=
 (.seq (.reg false [] [0] [zc 2 (.bool false)])
 (.seq (.reg false [] [2] [zm 3 0, zn 4 3, zd 5 .gtr 4 (.int .i64 8), zm 6 5, zg 6 false (zq 7 0), zg 6 false (⟨some 8, .call 45 [(.t 7), (.c (.fn 586 []))] [], none⟩), ⟨some 9, .pick (.t 6) (.c (.bool true)) (.t 8), none⟩, zm 2 9])
 .ret)) }

/-- sewershed/checker.Check -/
def N543_checker_Check : NFun := { np := 2, nt := 18, res := [(4, none), (5, none)], body :=
 (.seq (.reg false [] [1, 2] [zo 2 0, zc 4 .nils, zc 5 (.int .i64 0)])
 (.seq (.seq (.reg false [] [1, 2, 10] [zL 7 2 2, zm 8 1, zk 9 587 [(.t 7), (.t 8)], zt 10 9])
 (.cond (.t 10) (.seq (.reg false [] [4, 5] [zc 4 .nils, zc 5 (.int .i64 1)])
 .ret)
 .skip))
 (.seq (.reg false [] [1, 2, 6] [⟨some 6, .alc [.own 2 []], none⟩])
 (.seq (.reg false [] [1, 2, 6] [zL 11 2 2, ⟨some 12, .callL 588 (.t 6) [(.t 11)], none⟩])
 (.seq (.reg false [] [6] [zL 13 2 2, zq 14 1, ⟨some 15, .callL 589 (.t 6) [(.t 13), (.t 14)], none⟩])
 (.seq (.reg false [] [4, 5] [zl 16 1 6, ⟨some 17, .callE 590 (.t 16) [], none⟩, zq 4 17, zc 5 (.int .i64 0)])
 .ret)))))) }

/-- sewershed/sewershedlaw27.CheckerLess$1 -/
def N550_law27_CheckerLess_1 : NFun := { np := 2, nt := 9, res := [(3, none)], body :=
 (.seq (.reg false [] [1, 2] [zo 2 0, zc 3 (.bool false)])
 (.seq (.reg false [] [3] [zf 4 0 2, zl 5 1 4, zf 6 1 1, zl 7 1 6, zb 8 .eql 5 7, zm 3 8])
 .ret)) }

/-- sewershed/sewershedlaw27.CheckerLess$2 -/
def N551_law27_CheckerLess_2 : NFun := { np := 2, nt := 9, res := [(3, none)], body :=
 (.seq (.reg false [] [1, 2] [zo 2 0, zc 3 (.bool false)])
 (.seq (.reg false [] [3] [zf 4 0 2, zl 5 1 4, zf 6 1 1, zl 7 1 6, zb 8 .eql 5 7, zm 3 8])
 .ret)) }

/-- sewershed/network.Remove -/
def N552_network_Remove : NFun := { np := 2, nt := 64, res := [(4, some (2, true)), (5, none)], body :=
 (.seq (.reg false [] [1, 2, 4] [zo 2 0, ⟨some 4, .alc [.own 9 [], .own 11 []], none⟩, zc 5 (.int .i64 0)])
 (.seq (.reg false [] [2, 4, 6, 7] [zL 14 2 2, zm 15 1, zk 16 463 [(.t 14), (.t 15)], zm 13 16, zx 17 0 13, zx 18 1 13, zm 6 17, zm 7 18])
 (.seq (.seq (.reg false [] [2, 4, 6, 7, 20] [zm 19 7, zd 20 .neq 19 (.int .i64 0)])
 (.cond (.t 20) (.seq (.reg false [] [4, 5] [⟨some 21, .bld [.nils, .nils] [], none⟩, zm 22 7, ⟨none, .st 2 [] (.t 4) (.t 21), none⟩, zm 5 22])
 .ret)
 .skip))
 (.seq (.reg false [] [2, 4, 6, 8] [⟨some 8, .alc [.own 9 [], .own 11 []], none⟩])
 (.seq (.seq (.reg false [] [2, 4, 6, 8, 24, 25, 26] [zf 23 0 2, zl 24 1 23, zn 25 24, zc 26 (.int .i64 0)])
 (.block 0 (.loop (.seq (.reg false [] [2, 4, 6, 8, 24, 25, 26, 27] [zb 27 .lss 26 25])
 (.seq (.cond (.t 27) .skip
 (.exit 0))
 (.seq (.block 1 (.seq (.reg false [] [2, 4, 6, 8, 10, 24, 25, 26] [zi 28 9 24 26, zL 29 9 28, ⟨some 10, .alc [.str [], .int .i64 0, .int .i64 0, .int .i64 0, .int .i64 0, .int .i64 0, .own 2 [], .bool false, .int .i64 0], none⟩, ⟨none, .st 9 [] (.t 10) (.t 29), none⟩])
 (.seq (.reg false [] [2, 4, 6, 8, 10, 24, 25, 26] [zf 30 6 10, zl 31 1 30, zk 32 598 [(.t 31)], zf 33 6 10, ⟨none, .st 1 [] (.t 33) (.t 32), none⟩])
 (.reg false [] [2, 4, 6, 8, 24, 25, 26] [zf 34 0 8, zl 35 1 34, ⟨some 36, .ldF 9 (.t 10), none⟩, ⟨some 37, .bls 9 1 [.str [], .int .i64 0, .int .i64 0, .int .i64 0, .int .i64 0, .int .i64 0, .own 2 [], .bool false, .int .i64 0] [] [(0, (.t 36))], none⟩, ⟨some 38, .app 9 96 true (.t 35) (.t 37), none⟩, zf 39 0 8, ⟨none, .st 1 [] (.t 39) (.t 38), none⟩]))))
 (.reg false [] [2, 4, 6, 8, 24, 25, 26] [zd 40 .add 26 (.int .i64 1), zm 26 40])))))))
 (.seq (.seq (.reg false [] [4, 6, 8, 42, 43, 44] [zf 41 1 2, zl 42 1 41, zn 43 42, zc 44 (.int .i64 0)])
 (.block 2 (.loop (.seq (.reg false [] [4, 6, 8, 42, 43, 44, 45] [zb 45 .lss 44 43])
 (.seq (.cond (.t 45) .skip
 (.exit 2))
 (.seq (.block 3 (.seq (.reg false [] [4, 6, 8, 11, 12, 42, 43, 44] [zm 46 44, zi 47 11 42 44, zL 48 11 47, ⟨some 12, .alc [.str [], .str [], .str [], .int .i64 0, .int .i64 0, .int .i64 0, .int .i64 0, .str [], .int .i64 0, .int .i64 0, .own 2 []], none⟩, zm 11 46, ⟨none, .st 11 [] (.t 12) (.t 48), none⟩])
 (.seq (.reg false [] [4, 6, 8, 12, 42, 43, 44, 51] [zm 49 11, zm 50 6, zb 51 .neq 49 50])
 (.cond (.t 51) (.seq (.reg false [] [4, 6, 8, 12, 42, 43, 44] [zf 52 10 12, zl 53 1 52, zk 54 598 [(.t 53)], zf 55 10 12, ⟨none, .st 1 [] (.t 55) (.t 54), none⟩])
 (.reg false [] [4, 6, 8, 42, 43, 44] [zf 56 1 8, zl 57 1 56, ⟨some 58, .ldF 11 (.t 12), none⟩, ⟨some 59, .bls 11 1 [.str [], .str [], .str [], .int .i64 0, .int .i64 0, .int .i64 0, .int .i64 0, .str [], .int .i64 0, .int .i64 0, .own 2 []] [] [(0, (.t 58))], none⟩, ⟨some 60, .app 11 136 true (.t 57) (.t 59), none⟩, zf 61 1 8, ⟨none, .st 1 [] (.t 61) (.t 60), none⟩]))
 .skip))))
 (.reg false [] [4, 6, 8, 42, 43, 44] [zd 62 .add 44 (.int .i64 1), zm 44 62])))))))
 (.seq (.reg false [] [4, 5] [⟨some 63, .ldF 2 (.t 8), none⟩, ⟨none, .st 2 [] (.t 4) (.t 63), none⟩, zc 5 (.int .i64 0)])
 .ret))))))) }

/-- sewershed/sewershedlaw27.CheckerLess$3 -/
def N553_law27_CheckerLess_3 : NFun := { np := 2, nt := 18, res := [(3, none)], body :=
 (.seq (.reg false [] [1, 2] [zo 2 0, zc 3 (.bool false)])
 (.seq (.reg false [] [3] [zf 4 0 2, zl 5 1 4, zd 6 .neq 5 (.int .i64 3), zm 7 6, zg 7 true (zf 8 0 2), zg 7 true (zl 9 1 8), zg 7 true (zd 10 .neq 9 (.int .i64 8)), ⟨some 11, .pick (.t 7) (.t 10) (.c (.bool false)), none⟩, zm 12 11, zg 12 true (zl 13 1 1), zg 12 true (zL 14 2 2), zg 12 true (zk 15 554 [(.t 13), (.t 14)]), zg 12 true (zt 16 15), ⟨some 17, .pick (.t 12) (.t 16) (.c (.bool false)), none⟩, zm 3 17])
 .ret)) }

/-- slices.Contains[[]sewershed/api.Finding,sewershed/api.Finding] -/
def N554_slices_Contains__api_Finding_api_Finding : NFun := { np := 2, nt := 9, res := [(4, none)], body :=
 (.seq (.reg false [] [0, 3] [zo 3 1, zc 4 (.bool false)])
 (.seq (.reg false [] [4] [zq 5 0, zL 6 2 3, zk 7 599 [(.t 5), (.t 6)], zd 8 .geq 7 (.int .i64 0), zm 4 8])
 .ret)) }

/-- sewershed/checker.Adverse -/
def N556_checker_Adverse : NFun := { np := 1, nt := 26, res := [(2, none), (3, none)], body :=
 (.seq (.reg false [] [1] [zo 1 0, zc 2 .nils, zc 3 (.int .i64 0)])
 (.seq (.seq (.reg false [] [1, 9] [zL 7 2 1, zk 8 164 [(.t 7)], zt 9 8])
 (.cond (.t 9) (.seq (.reg false [] [2, 3] [zc 2 .nils, zc 3 (.int .i64 1)])
 .ret)
 .skip))
 (.seq (.reg false [] [1, 4] [⟨some 4, .nilo 1, none⟩])
 (.seq (.seq (.reg false [] [4, 11, 12, 13] [zf 10 1 1, zl 11 1 10, zn 12 11, zc 13 (.int .i64 0)])
 (.block 0 (.loop (.seq (.reg false [] [4, 11, 12, 13, 14] [zb 14 .lss 13 12])
 (.seq (.cond (.t 14) .skip
 (.exit 0))
 (.seq (.block 1 (.seq (.reg false [] [4, 6, 11, 12, 13] [zi 15 11 11 13, zL 16 11 15, ⟨some 6, .alc [.str [], .str [], .str [], .int .i64 0, .int .i64 0, .int .i64 0, .int .i64 0, .str [], .int .i64 0, .int .i64 0, .own 2 []], none⟩, ⟨none, .st 11 [] (.t 6) (.t 16), none⟩])
 (.seq (.reg false [] [4, 6, 11, 12, 13, 18] [zL 17 11 6, zk 18 601 [(.t 17)]])
 (.cond (.t 18) (.reg false [] [4, 11, 12, 13] [zm 19 4, zf 20 0 6, zl 21 1 20, ⟨some 22, .bls 1 1 [.str []] [] [(0, (.t 21))], none⟩, ⟨some 23, .app 1 16 false (.t 19) (.t 22), none⟩, zq 4 23])
 .skip))))
 (.reg false [] [4, 11, 12, 13] [zd 24 .add 13 (.int .i64 1), zm 13 24])))))))
 (.seq (.reg false [] [2, 3] [zq 25 4, zq 2 25, zc 3 (.int .i64 0)])
 .ret))))) }

/-- sewershed/sewershedlaw27.example -/
def N583_law27_example : NFun := { np := 0, nt := 10, res := [(0, some (2, true))], body :=
 (.seq (.reg false [] [0] [⟨some 0, .alc [.own 9 [], .own 11 []], none⟩])
 (.seq (.reg false [] [0] [⟨some 1, .bld [.int .i64 0, .int .i64 0] [], none⟩, ⟨some 2, .bld [.int .i64 0, .int .i64 0] [(0, 1, (.c (.int .i64 1000))), (1, 1, (.c (.int .i64 900)))], none⟩, ⟨some 3, .blsF 2 2 [.int .i64 0, .int .i64 0] [(0, (.t 1)), (1, (.t 2))], none⟩, ⟨some 4, .bld [.str [], .int .i64 0, .int .i64 0, .int .i64 0, .int .i64 0, .int .i64 0, .nils, .bool false, .int .i64 0] [(0, 1, (.c (.str [109]))), (1, 1, (.c (.int .i64 1))), (5, 1, (.c (.int .i64 1000))), (6, 1, (.t 3))], none⟩, ⟨some 5, .bld [.str [], .int .i64 0, .int .i64 0, .int .i64 0, .int .i64 0, .int .i64 0, .nils, .bool false, .int .i64 0] [(0, 1, (.c (.str [111]))), (1, 1, (.c (.int .i64 3))), (5, 1, (.c (.int .i64 1000)))], none⟩, ⟨some 6, .bls 9 2 [.str [], .int .i64 0, .int .i64 0, .int .i64 0, .int .i64 0, .int .i64 0, .own 2 [], .bool false, .int .i64 0] [] [(0, (.t 4)), (1, (.t 5))], none⟩, ⟨some 7, .bld [.str [], .str [], .str [], .int .i64 0, .int .i64 0, .int .i64 0, .int .i64 0, .str [], .int .i64 0, .int .i64 0, .nils] [(0, 1, (.c (.str [97]))), (1, 1, (.c (.str [109]))), (2, 1, (.c (.str [111]))), (3, 1, (.c (.int .i64 1))), (4, 1, (.c (.int .i64 100))), (5, 1, (.c (.int .i64 10))), (6, 1, (.c (.int .i64 20))), (7, 1, (.c (.str [115])))], none⟩, ⟨some 8, .bls 11 1 [.str [], .str [], .str [], .int .i64 0, .int .i64 0, .int .i64 0, .int .i64 0, .str [], .int .i64 0, .int .i64 0, .own 2 []] [] [(0, (.t 7))], none⟩, ⟨some 9, .bld [.nils, .nils] [(0, 1, (.t 6)), (1, 1, (.t 8))], none⟩, ⟨none, .st 2 [] (.t 0) (.t 9), none⟩])
 .ret)) }

/-- sewershed/sewershedlaw27.large$1 -/
def N584_law27_large_1 : NFun := { np := 1, nt := 13, res := [(2, none)], body :=
 (.seq (.reg false [] [1] [zo 1 0, zc 2 (.bool false)])
 (.seq (.reg false [] [2] [zf 3 6 1, zl 4 1 3, zn 5 4, zd 6 .gtr 5 (.int .i64 20), zm 7 6, zg 7 false (zf 8 0 1), zg 7 false (zl 9 1 8), zg 7 false (⟨some 10, .lens (.t 9), none⟩), zg 7 false (zd 11 .gtr 10 (.int .i64 60)), ⟨some 12, .pick (.t 7) (.c (.bool true)) (.t 11), none⟩, zm 2 12])
 .ret)) }

/-- sewershed/sewershedlaw27.large$2 -/
def N585_law27_large_2 : NFun := { np := 1, nt := 31, res := [(2, none)], body :=
 (.seq (.reg false [] [1] [zo 1 0, zc 2 (.bool false)])
 (.seq (.reg false [] [2] [zf 3 10 1, zl 4 1 3, zn 5 4, zd 6 .gtr 5 (.int .i64 20), zm 7 6, zg 7 false (zf 8 0 1), zg 7 false (zl 9 1 8), zg 7 false (⟨some 10, .lens (.t 9), none⟩), zg 7 false (zd 11 .gtr 10 (.int .i64 60)), ⟨some 12, .pick (.t 7) (.c (.bool true)) (.t 11), none⟩, zm 13 12, zg 13 false (zf 14 1 1), zg 13 false (zl 15 1 14), zg 13 false (⟨some 16, .lens (.t 15), none⟩), zg 13 false (zd 17 .gtr 16 (.int .i64 60)), ⟨some 18, .pick (.t 13) (.c (.bool true)) (.t 17), none⟩, zm 19 18, zg 19 false (zf 20 2 1), zg 19 false (zl 21 1 20), zg 19 false (⟨some 22, .lens (.t 21), none⟩), zg 19 false (zd 23 .gtr 22 (.int .i64 60)), ⟨some 24, .pick (.t 19) (.c (.bool true)) (.t 23), none⟩, zm 25 24, zg 25 false (zf 26 7 1), zg 25 false (zl 27 1 26), zg 25 false (⟨some 28, .lens (.t 27), none⟩), zg 25 false (zd 29 .gtr 28 (.int .i64 60)), ⟨some 30, .pick (.t 25) (.c (.bool true)) (.t 29), none⟩, zm 2 30])
 .ret)) }

/-- sewershed/sewershedlaw27.many$1 -/
def N586_law27_many_1 : NFun := { np := 1, nt := 19, res := [(2, none)], body :=
 (.seq (.reg false [] [1] [zo 1 0, zc 2 (.bool false)])
 (.seq (.reg false [] [2] [zf 3 3 1, zl 4 1 3, zn 5 4, zd 6 .gtr 5 (.int .i64 20), zm 7 6, zg 7 false (zf 8 4 1), zg 7 false (zl 9 1 8), zg 7 false (zn 10 9), zg 7 false (zd 11 .gtr 10 (.int .i64 20)), ⟨some 12, .pick (.t 7) (.c (.bool true)) (.t 11), none⟩, zm 13 12, zg 13 false (zf 14 0 1), zg 13 false (zl 15 1 14), zg 13 false (⟨some 16, .lens (.t 15), none⟩), zg 13 false (zd 17 .gtr 16 (.int .i64 60)), ⟨some 18, .pick (.t 13) (.c (.bool true)) (.t 17), none⟩, zm 2 18])
 .ret)) }

/-- sewershed/checker.valid -/
def N587_checker_valid : NFun := { np := 2, nt := 47, res := [(4, none)], body :=
 (.seq (.reg false [] [1, 2] [zo 2 0, zc 4 (.bool false)])
 (.seq (.seq (.reg false [] [1, 15] [zL 8 2 2, zk 9 164 [(.t 8)], zt 10 9, zm 11 10, zg 11 false (zm 12 1), zg 11 false (zn 13 12), zg 11 false (zd 14 .gtr 13 (.int .i64 40)), ⟨some 15, .pick (.t 11) (.c (.bool true)) (.t 14), none⟩])
 (.cond (.t 15) (.seq (.reg false [] [4] [zc 4 (.bool false)])
 .ret)
 .skip))
 (.seq (.reg false [] [1, 5] [⟨some 16, .mkm 0 1, none⟩, zm 5 16])
 (.seq (.seq (.reg false [] [5, 17, 18, 19] [zq 17 1, zn 18 17, zc 19 (.int .i64 0)])
 (.block 0 (.loop (.seq (.reg false [] [5, 17, 18, 19, 20] [zb 20 .lss 19 18])
 (.seq (.cond (.t 20) .skip
 (.exit 0))
 (.seq (.block 1 (.seq (.reg false [] [5, 7, 17, 18, 19] [zi 21 5 17 19, zL 22 5 21, ⟨some 7, .alc [.str [], .int .i64 0, .int .i64 0, .own 2 [], .own 2 []], none⟩, ⟨none, .st 5 [] (.t 7) (.t 22), none⟩])
 (.seq (.seq (.reg false [] [5, 7, 17, 18, 19, 42] [zf 23 0 7, zl 24 1 23, zk 25 58 [(.t 24)], zt 26 25, zm 27 26, zg 27 false (zm 28 5), zg 27 false (zf 29 0 7), zg 27 false (zl 30 1 29), zg 27 false (⟨some 31, .mpl .str 0 1 false (.bool false) (.t 28) (.t 30), none⟩), ⟨some 32, .pick (.t 27) (.c (.bool true)) (.t 31), none⟩, zm 33 32, zg 33 false (zf 34 1 7), zg 33 false (zl 35 1 34), zg 33 false (zd 36 .lss 35 (.int .i64 1)), ⟨some 37, .pick (.t 33) (.c (.bool true)) (.t 36), none⟩, zm 38 37, zg 38 false (zf 39 1 7), zg 38 false (zl 40 1 39), zg 38 false (zd 41 .gtr 40 (.int .i64 32768)), ⟨some 42, .pick (.t 38) (.c (.bool true)) (.t 41), none⟩])
 (.cond (.t 42) (.seq (.reg false [] [4] [zc 4 (.bool false)])
 .ret)
 .skip))
 (.reg false [] [5, 17, 18, 19] [zm 43 5, zf 44 0 7, zl 45 1 44, ⟨none, .mpu .str 0 1 (.bool false) (.t 43) (.t 45) (.c (.bool true)), none⟩]))))
 (.reg false [] [5, 17, 18, 19] [zd 46 .add 19 (.int .i64 1), zm 19 46])))))))
 (.seq (.reg false [] [4] [zc 4 (.bool true)])
 .ret))))) }

/-- (*sewershed/checker.notes).structure -/
def N588_checker_notes_structure : NFun := { np := 2, nt := 85, res := [], body :=
 (.seq (.reg false [] [0, 3] [zo 3 1])
 (.seq (.reg false [] [0, 3, 4] [zL 12 2 3, zk 13 600 [(.t 12)], zq 4 13])
 (.seq (.reg false [] [0, 3, 4, 5] [zf 14 0 3, zl 15 1 14, zn 16 15, ⟨some 17, .mks 1 1 [.bool false] (.t 16) (.t 16), none⟩, zq 5 17])
 (.seq (.seq (.reg false [] [0, 3, 4, 5, 19, 20, 21] [zL 18 2 3, zk 19 627 [(.t 18)], zn 20 19, zc 21 (.int .i64 0)])
 (.block 0 (.loop (.seq (.reg false [] [0, 3, 4, 5, 19, 20, 21, 22] [zb 22 .lss 21 20])
 (.seq (.cond (.t 22) .skip
 (.exit 0))
 (.seq (.block 1 (.seq (.reg false [] [0, 3, 4, 5, 7, 19, 20, 21] [zi 23 2 19 21, zL 24 2 23, ⟨some 7, .alc [.int .i64 0, .int .i64 0], none⟩, ⟨none, .st 2 [] (.t 7) (.t 24), none⟩])
 (.reg true [0, 0, 2, 0, 0, 16, 7, 71, 255, 511] [0, 3, 4, 5, 19, 20, 21] [zm 25 5, ⟨some 26, .iadA 2 1 (.t 7) (.c (.int .i64 0)), none⟩, zl 27 1 26, zm 28 5, ⟨some 29, .iadA 2 1 (.t 7) (.c (.int .i64 1)), none⟩, zl 30 1 29, zi 31 1 25 27, ⟨none, .st 1 [] (.t 31) (.c (.bool true)), none⟩, zi 32 1 28 30, ⟨none, .st 1 [] (.t 32) (.c (.bool true)), none⟩])))
 (.reg false [] [0, 3, 4, 5, 19, 20, 21] [zd 33 .add 21 (.int .i64 1), zm 21 33])))))))
 (.seq (.seq (.reg false [] [0, 3, 4, 5, 35, 36, 37] [zf 34 0 3, zl 35 1 34, zn 36 35, zc 37 (.int .i64 0)])
 (.block 2 (.loop (.seq (.reg false [] [0, 3, 4, 5, 35, 36, 37, 38] [zb 38 .lss 37 36])
 (.seq (.cond (.t 38) .skip
 (.exit 2))
 (.seq (.block 3 (.seq (.reg false [] [0, 3, 4, 5, 8, 9, 35, 36, 37] [zm 39 37, zi 40 9 35 37, zL 41 9 40, ⟨some 9, .alc [.str [], .int .i64 0, .int .i64 0, .int .i64 0, .int .i64 0, .int .i64 0, .own 2 [], .bool false, .int .i64 0], none⟩, zm 8 39, ⟨none, .st 9 [] (.t 9) (.t 41), none⟩])
 (.seq (.seq (.reg false [] [0, 3, 4, 5, 8, 9, 35, 36, 37, 48] [zm 42 4, zm 43 8, zi 44 1 42 43, zl 45 1 44, zm 46 8, zi 47 1 45 46, zl 48 1 47])
 (.cond (.t 48) (.reg false [] [0, 3, 4, 5, 8, 9, 35, 36, 37] [zm 49 0, zf 50 0 9, zl 51 1 50, ⟨some 52, .callL 628 (.t 49) [(.c (.int .i64 1)), (.t 51)], none⟩])
 .skip))
 (.seq (.seq (.reg false [] [0, 3, 4, 5, 8, 9, 35, 36, 37, 56] [zL 53 2 3, zm 54 4, zm 55 8, zk 56 602 [(.t 53), (.t 54), (.t 55)]])
 (.cond (.t 56) (.reg false [] [0, 3, 4, 5, 8, 9, 35, 36, 37] [zm 57 0, zf 58 0 9, zl 59 1 58, ⟨some 60, .callL 628 (.t 57) [(.c (.int .i64 3)), (.t 59)], none⟩])
 .skip))
 (.seq (.reg false [] [0, 3, 4, 5, 9, 35, 36, 37, 65] [zm 61 5, zm 62 8, zi 63 1 61 62, zl 64 1 63, zt 65 64])
 (.cond (.t 65) (.reg false [] [0, 3, 4, 5, 35, 36, 37] [zm 66 0, zf 67 0 9, zl 68 1 67, ⟨some 69, .callL 628 (.t 66) [(.c (.int .i64 8)), (.t 68)], none⟩])
 .skip))))))
 (.reg false [] [0, 3, 4, 5, 35, 36, 37] [zd 70 .add 37 (.int .i64 1), zm 37 70])))))))
 (.seq (.reg false [] [0, 72, 73, 74] [zf 71 1 3, zl 72 1 71, zn 73 72, zc 74 (.int .i64 0)])
 (.block 4 (.loop (.seq (.reg false [] [0, 72, 73, 74, 75] [zb 75 .lss 74 73])
 (.seq (.cond (.t 75) .skip
 (.exit 4))
 (.seq (.block 5 (.seq (.reg false [] [0, 11, 72, 73, 74] [zi 76 11 72 74, zL 77 11 76, ⟨some 11, .alc [.str [], .str [], .str [], .int .i64 0, .int .i64 0, .int .i64 0, .int .i64 0, .str [], .int .i64 0, .int .i64 0, .own 2 []], none⟩, ⟨none, .st 11 [] (.t 11) (.t 77), none⟩])
 (.seq (.reg false [] [0, 11, 72, 73, 74, 79] [zL 78 11 11, zk 79 601 [(.t 78)]])
 (.cond (.t 79) (.reg false [] [0, 72, 73, 74] [zm 80 0, zf 81 0 11, zl 82 1 81, ⟨some 83, .callL 628 (.t 80) [(.c (.int .i64 2)), (.t 82)], none⟩])
 .skip))))
 (.reg false [] [0, 72, 73, 74] [zd 84 .add 74 (.int .i64 1), zm 74 84])))))))))))) }

/-- (*sewershed/checker.notes).levels -/
def N589_checker_notes_levels : NFun := { np := 3, nt := 193, res := [], body :=
 (.seq (.reg false [] [0, 2, 4] [zo 4 1])
 (.seq (.reg false [] [0, 4, 6] [zL 15 2 4, zq 16 2, zk 17 629 [(.t 15), (.t 16)], zq 6 17])
 (.seq (.reg false [] [0, 4, 6, 7] [zL 18 2 4, zk 19 627 [(.t 18)], zq 7 19])
 (.seq (.reg false [] [0, 4, 6, 7, 21, 22, 23] [zf 20 1 4, zl 21 1 20, zn 22 21, zc 23 (.int .i64 0)])
 (.block 0 (.loop (.seq (.reg false [] [0, 4, 6, 7, 21, 22, 23, 24] [zb 24 .lss 23 22])
 (.seq (.cond (.t 24) .skip
 (.exit 0))
 (.seq (.block 1 (.seq (.reg false [] [0, 4, 6, 7, 8, 9, 21, 22, 23] [zm 25 23, zi 26 11 21 23, zL 27 11 26, ⟨some 9, .alc [.str [], .str [], .str [], .int .i64 0, .int .i64 0, .int .i64 0, .int .i64 0, .str [], .int .i64 0, .int .i64 0, .own 2 []], none⟩, zm 8 25, ⟨none, .st 11 [] (.t 9) (.t 27), none⟩])
 (.seq (.reg true [0, 1, 0, 0, 12, 28, 60, 127, 255, 0, 512, 0, 0, 6144, 14336, 30720, 65024, 130560, 0, 0, 786943, 2097151] [0, 4, 6, 7, 8, 9, 10, 11, 21, 22, 23] [zf 28 0 4, zl 29 1 28, zm 30 7, zm 31 8, zi 32 2 30 31, ⟨some 33, .iadA 2 1 (.t 32) (.c (.int .i64 0)), none⟩, zl 34 1 33, zi 35 9 29 34, zL 36 9 35, zf 37 0 4, zl 38 1 37, zm 39 7, zm 40 8, zi 41 2 39 40, ⟨some 42, .iadA 2 1 (.t 41) (.c (.int .i64 1)), none⟩, zl 43 1 42, zi 44 9 38 43, zL 45 9 44, ⟨some 10, .alc [.str [], .int .i64 0, .int .i64 0, .int .i64 0, .int .i64 0, .int .i64 0, .own 2 [], .bool false, .int .i64 0], none⟩, ⟨some 11, .alc [.str [], .int .i64 0, .int .i64 0, .int .i64 0, .int .i64 0, .int .i64 0, .own 2 [], .bool false, .int .i64 0], none⟩, ⟨none, .st 9 [] (.t 10) (.t 36), none⟩, ⟨none, .st 9 [] (.t 11) (.t 45), none⟩])
 (.seq (.reg false [] [0, 4, 6, 7, 8, 9, 10, 11, 12, 13, 21, 22, 23] [zc 12 (.bool false), zc 13 (.bool false)])
 (.seq (.seq (.reg false [] [0, 4, 6, 7, 8, 9, 10, 11, 12, 13, 21, 22, 23, 47] [zf 46 3 9, zl 47 1 46])
 (.block 2 (.seq (.reg false [] [0, 4, 6, 7, 8, 9, 10, 11, 12, 13, 21, 22, 23, 47, 48] [zd 49 .eql 47 (.int .i64 1), zm 48 49])
 (.cond (.t 48) (.seq (.reg false [] [0, 4, 6, 7, 8, 9, 10, 11, 12, 21, 22, 23] [zf 50 5 9, zl 51 1 50, zf 52 4 10, zl 53 1 52, zb 54 .lss 51 53, zm 55 54, zg 55 false (zf 56 6 9), zg 55 false (zl 57 1 56), zg 55 false (zf 58 4 11), zg 55 false (zl 59 1 58), zg 55 false (zb 60 .lss 57 59), ⟨some 61, .pick (.t 55) (.c (.bool true)) (.t 60), none⟩, zm 12 61])
 (.reg true [0, 0, 3, 7, 15, 31, 63, 127, 63, 63, 831, 1855, 4095, 63, 8255, 32767, 65535, 131071, 262143, 131071, 131071, 1703935, 3801087, 8388607, 131071, 16908287, 67108863, 134217727, 268435455, 536870911] [0, 4, 6, 7, 8, 9, 12, 13, 21, 22, 23] [zm 62 6, zm 63 8, zi 64 1 62 63, zl 65 1 64, zd 66 .geq 65 (.int .i64 0), zm 67 66, zg 67 true (zf 68 5 9), zg 67 true (zl 69 1 68), zg 67 true (zm 70 6), zg 67 true (zm 71 8), zg 67 true (zi 72 1 70 71), zg 67 true (zl 73 1 72), zg 67 true (zb 74 .add 69 73), zg 67 true (zf 75 5 10), zg 67 true (zl 76 1 75), zg 67 true (zb 77 .gtr 74 76), zg 67 true (zm 78 77), zg 78 false (zf 79 6 9), zg 78 false (zl 80 1 79), zg 78 false (zm 81 6), zg 78 false (zm 82 8), zg 78 false (zi 83 1 81 82), zg 78 false (zl 84 1 83), zg 78 false (zb 85 .add 80 84), zg 78 false (zf 86 5 11), zg 78 false (zl 87 1 86), zg 78 false (zb 88 .gtr 85 87), zg 67 true (⟨some 89, .pick (.t 78) (.c (.bool true)) (.t 88), none⟩), ⟨some 90, .pick (.t 67) (.t 89) (.c (.bool false)), none⟩, zm 13 90]))
 (.seq (.reg false [] [0, 4, 6, 7, 8, 9, 10, 12, 13, 21, 22, 23, 47, 91] [zd 92 .eql 47 (.int .i64 2), zm 91 92])
 (.cond (.t 91) (.reg true [0, 1, 0, 4, 15, 0, 32, 0, 128, 480, 31, 2047] [0, 4, 6, 7, 8, 9, 12, 13, 21, 22, 23] [zf 93 5 9, zl 94 1 93, zf 95 4 10, zl 96 1 95, zb 97 .lss 94 96, zf 98 5 9, zl 99 1 98, zf 100 5 10, zl 101 1 100, zb 102 .gtr 99 101, zm 12 97, zm 13 102])
 (.seq (.reg false [] [0, 4, 6, 7, 8, 9, 10, 12, 13, 21, 22, 23, 47, 103] [zd 104 .eql 47 (.int .i64 3), zm 103 104])
 (.cond (.t 103) (.reg true [0, 1, 0, 4, 15, 0, 32, 0, 128, 480, 0, 1024, 4064, 31, 16383] [0, 4, 6, 7, 8, 9, 12, 13, 21, 22, 23] [zf 105 5 9, zl 106 1 105, zf 107 4 10, zl 108 1 107, zb 109 .lss 106 108, zf 110 5 9, zl 111 1 110, zf 112 9 9, zl 113 1 112, zb 114 .add 111 113, zf 115 5 10, zl 116 1 115, zb 117 .gtr 114 116, zm 12 109, zm 13 117])
 (.seq (.reg false [] [0, 4, 6, 7, 8, 9, 10, 12, 13, 21, 22, 23, 118] [zd 119 .eql 47 (.int .i64 4), zm 118 119])
 (.cond (.t 118) (.reg true [0, 1, 0, 4, 15, 0, 32, 0, 128, 480, 31, 2047] [0, 4, 6, 7, 8, 9, 12, 13, 21, 22, 23] [zf 120 6 9, zl 121 1 120, zf 122 4 10, zl 123 1 122, zb 124 .lss 121 123, zf 125 5 9, zl 126 1 125, zf 127 5 10, zl 128 1 127, zb 129 .gtr 126 128, zm 12 124, zm 13 129])
 .skip))))))))))
 (.seq (.seq (.reg false [] [0, 4, 6, 7, 8, 9, 13, 21, 22, 23, 130] [zm 130 12])
 (.cond (.t 130) (.reg false [] [0, 4, 6, 7, 8, 9, 13, 21, 22, 23] [zm 131 0, zf 132 0 9, zl 133 1 132, ⟨some 134, .callL 628 (.t 131) [(.c (.int .i64 4)), (.t 133)], none⟩])
 .skip))
 (.seq (.seq (.reg false [] [0, 4, 6, 7, 8, 9, 21, 22, 23, 135] [zm 135 13])
 (.cond (.t 135) (.reg false [] [0, 4, 6, 7, 8, 9, 21, 22, 23] [zm 136 0, zf 137 0 9, zl 138 1 137, ⟨some 139, .callL 628 (.t 136) [(.c (.int .i64 5)), (.t 138)], none⟩])
 .skip))
 (.seq (.seq (.reg false [] [0, 4, 6, 7, 8, 9, 21, 22, 23, 149] [zf 140 3 9, zl 141 1 140, zd 142 .eql 141 (.int .i64 1), zm 143 142, zg 143 true (zm 144 6), zg 143 true (zm 145 8), zg 143 true (zi 146 1 144 145), zg 143 true (zl 147 1 146), zg 143 true (zd 148 .lss 147 (.int .i64 0)), ⟨some 149, .pick (.t 143) (.t 148) (.c (.bool false)), none⟩])
 (.cond (.t 149) (.reg false [] [0, 4, 6, 7, 8, 9, 21, 22, 23] [zm 150 0, zf 151 0 9, zl 152 1 151, ⟨some 153, .callL 628 (.t 150) [(.c (.int .i64 6)), (.t 152)], none⟩])
 .skip))
 (.seq (.seq (.reg false [] [0, 4, 6, 7, 8, 9, 21, 22, 23, 158] [zm 154 6, zm 155 8, zi 156 1 154 155, zl 157 1 156, zd 158 .lss 157 (.int .i64 0)])
 (.cond (.t 158) (.exit 1)
 .skip))
 (.seq (.reg false [] [0, 4, 6, 7, 8, 9, 21, 22, 23, 161, 162] [zf 159 1 4, zl 160 1 159, zn 161 160, zc 162 (.int .i64 0)])
 (.block 3 (.loop (.seq (.reg false [] [0, 4, 6, 7, 8, 9, 21, 22, 23, 161, 162, 163] [zb 163 .lss 162 161])
 (.seq (.cond (.t 163) .skip
 (.exit 3))
 (.seq (.block 4 (.seq (.reg false [] [0, 4, 6, 7, 8, 9, 14, 21, 22, 23, 161, 162] [zm 164 162, zm 14 164])
 (.seq (.reg true [0, 0, 3, 7, 15, 0, 0, 96, 224, 480, 1023, 2047, 4095, 4095, 16383, 32767, 4095, 4095, 200703, 462847, 1048575, 2097151] [0, 4, 6, 7, 8, 9, 21, 22, 23, 161, 162, 186] [zm 165 7, zm 166 14, zi 167 2 165 166, ⟨some 168, .iadA 2 1 (.t 167) (.c (.int .i64 1)), none⟩, zl 169 1 168, zm 170 7, zm 171 8, zi 172 2 170 171, ⟨some 173, .iadA 2 1 (.t 172) (.c (.int .i64 0)), none⟩, zl 174 1 173, zb 175 .eql 169 174, zm 176 175, zg 176 true (zm 177 6), zg 176 true (zm 178 14), zg 176 true (zi 179 1 177 178), zg 176 true (zl 180 1 179), zg 176 true (zm 181 6), zg 176 true (zm 182 8), zg 176 true (zi 183 1 181 182), zg 176 true (zl 184 1 183), zg 176 true (zb 185 .gtr 180 184), ⟨some 186, .pick (.t 176) (.t 185) (.c (.bool false)), none⟩])
 (.cond (.t 186) (.reg false [] [0, 4, 6, 7, 8, 9, 21, 22, 23, 161, 162] [zm 187 0, zf 188 0 9, zl 189 1 188, ⟨some 190, .callL 628 (.t 187) [(.c (.int .i64 7)), (.t 189)], none⟩])
 .skip))))
 (.reg false [] [0, 4, 6, 7, 8, 9, 21, 22, 23, 161, 162] [zd 191 .add 162 (.int .i64 1), zm 162 191]))))))))))))))))
 (.reg false [] [0, 4, 6, 7, 21, 22, 23] [zd 192 .add 23 (.int .i64 1), zm 23 192])))))))))) }

/-- (sewershed/checker.notes).sorted -/
def N590_checker_notes_sorted : NFun := { np := 1, nt := 7, res := [(2, none)], body :=
 (.seq (.reg false [] [0] [zc 2 .nils])
 (.seq (.reg false [] [0] [zm 3 0, ⟨some 4, .callS 630 (.t 3) [(.c (.fn 631 []))], none⟩])
 (.seq (.reg false [] [2] [zq 5 0, ⟨some 6, .callE 633 (.t 5) [], none⟩, zq 2 6])
 .ret))) }

/-- slices.Clone[sewershed/api.Table,sewershed/api.Knot] -/
def N598_slices_Clone_api_Table_api_Knot : NFun := { np := 1, nt := 8, res := [(2, none)], body :=
 (.seq (.reg false [] [0] [zc 2 .nils])
 (.seq (.seq (.reg false [] [0, 4] [zm 3 0, ⟨some 4, .beq false [9] (.t 3) (.c .nils), none⟩])
 (.cond (.t 4) (.seq (.reg false [] [2] [zc 2 .nils])
 .ret)
 .skip))
 (.seq (.reg false [] [2] [⟨some 5, .bls 2 0 [.int .i64 0, .int .i64 0] [] [], none⟩, zq 6 0, ⟨some 7, .app 2 16 false (.t 5) (.t 6), none⟩, zq 2 7])
 .ret))) }

/-- slices.Index[[]sewershed/api.Finding,sewershed/api.Finding] -/
def N599_slices_Index__api_Finding_api_Finding : NFun := { np := 2, nt := 19, res := [(4, none)], body :=
 (.seq (.reg false [] [0, 3] [zo 3 1, zc 4 (.int .i64 0)])
 (.seq (.seq (.reg false [] [0, 3, 7, 8] [zm 6 0, zn 7 6, zc 8 (.int .i64 0)])
 (.block 0 (.loop (.seq (.reg false [] [0, 3, 7, 8, 9] [zb 9 .lss 8 7])
 (.seq (.cond (.t 9) .skip
 (.exit 0))
 (.seq (.block 1 (.seq (.reg false [] [0, 3, 5, 7, 8] [zm 10 8, zm 5 10])
 (.seq (.reg true [0, 0, 0, 6, 14, 31] [0, 3, 5, 7, 8, 16] [zL 11 2 3, zm 12 0, zm 13 5, zi 14 2 12 13, zL 15 2 14, ⟨some 16, .beq false [0, 2] (.t 11) (.t 15), none⟩])
 (.cond (.t 16) (.seq (.reg false [] [4] [zm 17 5, zm 4 17])
 .ret)
 .skip))))
 (.reg false [] [0, 3, 7, 8] [zd 18 .add 8 (.int .i64 1), zm 8 18])))))))
 (.seq (.reg false [] [4] [⟨some 4, .mov (.c (.int .i64 (-1))), none⟩])
 .ret))) }

/-- sewershed/checker.ways -/
def N600_checker_ways : NFun := { np := 1, nt := 77, res := [(2, none)], body :=
 (.seq (.reg false [] [1] [zo 1 0, zc 2 .nils])
 (.seq (.reg false [] [1, 3] [zL 12 2 1, zk 13 627 [(.t 12)], zq 3 13])
 (.seq (.reg false [] [1, 3, 4] [zf 15 0 1, zl 16 1 15, zn 17 16, zm 18 3, zk 19 635 [(.t 17), (.t 18)], zm 14 19, zx 20 0 14, zx 21 1 14, zq 4 20, zm 5 21])
 (.seq (.reg false [] [1, 3, 4, 6] [zf 22 0 1, zl 23 1 22, zn 24 23, ⟨some 25, .mks 1 24 [.own 1 []] (.t 24) (.t 24), none⟩, zq 6 25])
 (.seq (.seq (.reg false [] [1, 3, 4, 6, 27, 28] [zm 26 6, zn 27 26, zc 28 (.int .i64 0)])
 (.block 0 (.loop (.seq (.reg false [] [1, 3, 4, 6, 27, 28, 29] [zb 29 .lss 28 27])
 (.seq (.cond (.t 29) .skip
 (.exit 0))
 (.seq (.block 1 (.seq (.reg false [] [1, 3, 4, 6, 7, 27, 28] [zm 30 28, zm 7 30])
 (.reg false [] [1, 3, 4, 6, 27, 28] [zm 31 6, zm 32 7, zf 33 0 1, zl 34 1 33, zn 35 34, ⟨some 36, .mks 1 1 [.bool false] (.t 35) (.t 35), none⟩, zi 37 1 31 32, ⟨none, .st 1 [] (.t 37) (.t 36), none⟩])))
 (.reg false [] [1, 3, 4, 6, 27, 28] [zd 38 .add 28 (.int .i64 1), zm 28 38])))))))
 (.seq (.seq (.reg false [] [4, 6, 39, 40, 41] [zq 39 3, zn 40 39, zc 41 (.int .i64 0)])
 (.block 2 (.loop (.seq (.reg false [] [4, 6, 39, 40, 41, 42] [zb 42 .lss 41 40])
 (.seq (.cond (.t 42) .skip
 (.exit 2))
 (.seq (.block 3 (.seq (.reg false [] [4, 6, 9, 39, 40, 41] [zi 43 2 39 41, zL 44 2 43, ⟨some 9, .alc [.int .i64 0, .int .i64 0], none⟩, ⟨none, .st 2 [] (.t 9) (.t 44), none⟩])
 (.seq (.reg false [] [4, 6, 9, 39, 40, 41, 49, 50, 51] [zm 45 4, ⟨some 46, .iadA 2 1 (.t 9) (.c (.int .i64 1)), none⟩, zl 47 1 46, zi 48 1 45 47, zl 49 1 48, zn 50 49, zc 51 (.int .i64 0)])
 (.block 4 (.loop (.seq (.reg false [] [4, 6, 9, 39, 40, 41, 49, 50, 51, 52] [zb 52 .lss 51 50])
 (.seq (.cond (.t 52) .skip
 (.exit 4))
 (.seq (.block 5 (.seq (.reg false [] [4, 6, 9, 10, 11, 39, 40, 41, 49, 50, 51] [zm 53 51, zi 54 1 49 51, zl 55 1 54, zm 10 53, zm 11 55])
 (.reg true [0, 0, 2, 7, 15, 0, 0, 0, 128, 448, 960, 0, 4032, 8128, 16320, 32704, 65472, 131071, 262143] [4, 6, 9, 39, 40, 41, 49, 50, 51] [zm 56 6, ⟨some 57, .iadA 2 1 (.t 9) (.c (.int .i64 0)), none⟩, zl 58 1 57, zi 59 1 56 58, zl 60 1 59, zm 61 10, zm 62 6, ⟨some 63, .iadA 2 1 (.t 9) (.c (.int .i64 0)), none⟩, zl 64 1 63, zi 65 1 62 64, zl 66 1 65, zm 67 10, zi 68 1 66 67, zl 69 1 68, zm 70 69, zg 70 false (zm 71 11), ⟨some 72, .pick (.t 70) (.c (.bool true)) (.t 71), none⟩, zi 73 1 60 61, ⟨none, .st 1 [] (.t 73) (.t 72), none⟩])))
 (.reg false [] [4, 6, 9, 39, 40, 41, 49, 50, 51] [zd 74 .add 51 (.int .i64 1), zm 51 74])))))))))
 (.reg false [] [4, 6, 39, 40, 41] [zd 75 .add 41 (.int .i64 1), zm 41 75])))))))
 (.seq (.reg false [] [2] [zq 76 6, zq 2 76])
 .ret))))))) }

/-- sewershed/checker.isBackwards -/
def N601_checker_isBackwards : NFun := { np := 1, nt := 13, res := [(2, none)], body :=
 (.seq (.reg false [] [1] [zo 1 0, zc 2 (.bool false)])
 (.seq (.reg false [] [2] [zf 3 3 1, zl 4 1 3, zd 5 .eql 4 (.int .i64 1), zm 6 5, zg 6 true (zf 7 5 1), zg 6 true (zl 8 1 7), zg 6 true (zf 9 6 1), zg 6 true (zl 10 1 9), zg 6 true (zb 11 .lss 8 10), ⟨some 12, .pick (.t 6) (.t 11) (.c (.bool false)), none⟩, zm 2 12])
 .ret)) }

/-- sewershed/checker.isLost -/
def N602_checker_isLost : NFun := { np := 3, nt := 37, res := [(6, none)], body :=
 (.seq (.reg false [] [1, 2, 3] [zo 3 0, zc 6 (.bool false)])
 (.seq (.seq (.reg false [] [1, 2, 3, 15] [zf 9 0 3, zl 10 1 9, zm 11 2, zi 12 9 10 11, zf 13 1 12, zl 14 1 13, zd 15 .eql 14 (.int .i64 3)])
 (.cond (.t 15) (.seq (.reg false [] [6] [zc 6 (.bool false)])
 .ret)
 .skip))
 (.seq (.seq (.reg false [] [3, 19, 20, 21] [zq 16 1, zm 17 2, zi 18 1 16 17, zl 19 1 18, zn 20 19, zc 21 (.int .i64 0)])
 (.block 0 (.loop (.seq (.reg false [] [3, 19, 20, 21, 22] [zb 22 .lss 21 20])
 (.seq (.cond (.t 22) .skip
 (.exit 0))
 (.seq (.block 1 (.seq (.reg false [] [3, 7, 8, 19, 20, 21] [zm 23 21, zi 24 1 19 21, zl 25 1 24, zm 7 23, zm 8 25])
 (.seq (.reg false [] [3, 19, 20, 21, 35] [zm 26 8, zm 27 26, zg 27 true (zf 28 0 3), zg 27 true (zl 29 1 28), zg 27 true (zm 30 7), zg 27 true (zi 31 9 29 30), zg 27 true (zf 32 1 31), zg 27 true (zl 33 1 32), zg 27 true (zd 34 .eql 33 (.int .i64 3)), ⟨some 35, .pick (.t 27) (.t 34) (.c (.bool false)), none⟩])
 (.cond (.t 35) (.seq (.reg false [] [6] [zc 6 (.bool false)])
 .ret)
 .skip))))
 (.reg false [] [3, 19, 20, 21] [zd 36 .add 21 (.int .i64 1), zm 21 36])))))))
 (.seq (.reg false [] [6] [zc 6 (.bool true)])
 .ret)))) }

/-- sewershed/checker.ends -/
def N627_checker_ends : NFun := { np := 1, nt := 11, res := [(2, none)], body :=
 (.seq (.reg false [] [1] [zo 1 0, zc 2 .nils])
 (.seq (.reg false [] [3] [zL 6 2 1, zk 7 471 [(.t 6)], zm 5 7, zx 8 0 5, zx 9 1 5, zq 3 8, zm 4 9])
 (.seq (.reg false [] [2] [zq 10 3, zq 2 10])
 .ret))) }

/-- (*sewershed/checker.notes).add -/
def N628_checker_notes_add : NFun := { np := 3, nt := 16, res := [], body :=
 (.reg false [] [0] [zm 6 0, zm 7 0, ⟨some 8, .nck (.t 7), none⟩, zl 9 1 8, zm 10 1, zm 11 2, ⟨some 12, .bld [.int .i64 0, .str []] [(0, 1, (.t 10)), (1, 1, (.t 11))], none⟩, ⟨some 13, .bls 2 1 [.int .i64 0, .str []] [] [(0, (.t 12))], none⟩, ⟨some 14, .app 2 24 false (.t 9) (.t 13), none⟩, ⟨some 15, .nck (.t 6), none⟩, ⟨none, .st 1 [] (.t 15) (.t 14), none⟩]) }

/-- sewershed/checker.heights -/
def N629_checker_heights : NFun := { np := 2, nt := 42, res := [(4, none)], body :=
 (.seq (.reg false [] [1, 2] [zo 2 0, zc 4 .nils])
 (.seq (.reg false [] [1, 2, 5] [zf 9 1 2, zl 10 1 9, zn 11 10, ⟨some 12, .mks 1 8 [.int .i64 0] (.t 11) (.t 11), none⟩, zq 5 12])
 (.seq (.seq (.reg false [] [1, 5, 14, 15, 16] [zf 13 1 2, zl 14 1 13, zn 15 14, zc 16 (.int .i64 0)])
 (.block 0 (.loop (.seq (.reg false [] [1, 5, 14, 15, 16, 17] [zb 17 .lss 16 15])
 (.seq (.cond (.t 17) .skip
 (.exit 0))
 (.seq (.block 1 (.seq (.reg false [] [1, 5, 6, 7, 14, 15, 16] [zm 18 16, zi 19 11 14 16, zL 20 11 19, ⟨some 7, .alc [.str [], .str [], .str [], .int .i64 0, .int .i64 0, .int .i64 0, .int .i64 0, .str [], .int .i64 0, .int .i64 0, .own 2 []], none⟩, zm 6 18, ⟨none, .st 11 [] (.t 7) (.t 20), none⟩])
 (.seq (.reg false [] [1, 5, 6, 7, 14, 15, 16] [zm 21 5, zm 22 6, zi 23 1 21 22, ⟨none, .st 1 [] (.t 23) (.c (.int .i64 (-1))), none⟩])
 (.seq (.seq (.reg false [] [1, 5, 6, 7, 14, 15, 16, 26] [zf 24 3 7, zl 25 1 24, zd 26 .neq 25 (.int .i64 1)])
 (.cond (.t 26) (.exit 1)
 .skip))
 (.seq (.reg false [] [1, 5, 6, 8, 14, 15, 16] [zm 27 1, ⟨some 28, .mk 647 [(.t 7)], none⟩, zk 29 52 [(.t 27), (.t 28)], zm 8 29])
 (.seq (.reg false [] [1, 5, 6, 8, 14, 15, 16, 31] [zm 30 8, zd 31 .geq 30 (.int .i64 0)])
 (.cond (.t 31) (.reg false [] [1, 5, 14, 15, 16] [zm 32 5, zm 33 6, zm 34 1, zm 35 8, zi 36 5 34 35, zf 37 1 36, zl 38 1 37, zi 39 1 32 33, ⟨none, .st 1 [] (.t 39) (.t 38), none⟩])
 .skip)))))))
 (.reg false [] [1, 5, 14, 15, 16] [zd 40 .add 16 (.int .i64 1), zm 16 40])))))))
 (.seq (.reg false [] [4] [zq 41 5, zq 4 41])
 .ret)))) }

/-- (sewershed/checker.notes).sorted$1 -/
def N631_checker_notes_sorted_1 : NFun := { np := 2, nt := 17, res := [(4, none)], body :=
 (.seq (.reg false [] [2, 3] [zo 2 0, zo 3 1, zc 4 (.int .i64 0)])
 (.seq (.reg true [0, 1, 0, 4, 15, 0, 32, 0, 128, 511, 1023, 2047, 4095] [4] [zf 5 0 2, zl 6 1 5, zf 7 0 3, zl 8 1 7, zk 9 267 [(.t 6), (.t 8)], zf 10 1 2, zl 11 1 10, zf 12 1 3, zl 13 1 12, zk 14 632 [(.t 11), (.t 13)], ⟨some 15, .bls 1 2 [.int .i64 0] [] [(0, (.t 9)), (1, (.t 14))], none⟩, zk 16 266 [(.t 15)], zm 4 16])
 .ret)) }

/-- slices.Compact[sewershed/checker.notes,sewershed/api.Finding] -/
def N633_slices_Compact_checker_notes_api_Finding : NFun := { np := 1, nt := 61, res := [(2, none)], body :=
 (.seq (.reg false [] [0] [zc 2 .nils])
 (.seq (.seq (.reg false [] [0, 8] [zm 6 0, zn 7 6, zd 8 .lss 7 (.int .i64 2)])
 (.cond (.t 8) (.seq (.reg false [] [2] [zq 9 0, zq 2 9])
 .ret)
 .skip))
 (.seq (.seq (.reg false [] [0, 3] [zc 3 (.int .i64 1)])
 (.block 0 (.loop (.seq (.seq (.reg false [] [0, 3, 13] [zm 10 3, zm 11 0, zn 12 11, zb 13 .lss 10 12])
 (.cond (.t 13) .skip
 (.exit 0)))
 (.seq (.block 1 (.seq (.reg true [0, 0, 3, 7, 0, 0, 32, 112, 240, 511] [0, 3, 25] [zm 16 0, zm 17 3, zi 18 2 16 17, zL 19 2 18, zm 20 0, zm 21 3, zd 22 .sub 21 (.int .i64 1), zi 23 2 20 22, zL 24 2 23, ⟨some 25, .beq false [0, 2] (.t 19) (.t 24), none⟩])
 (.cond (.t 25) (.seq (.reg false [] [0, 3, 4] [zm 26 0, zm 27 3, ⟨some 28, .slc 2 (.t 26) (some (.t 27)) none, none⟩, zm 4 28])
 (.seq (.seq (.reg false [] [0, 3, 4, 5] [zc 5 (.int .i64 1)])
 (.block 2 (.loop (.seq (.seq (.reg false [] [0, 3, 4, 5, 32] [zm 29 5, zm 30 4, zn 31 30, zb 32 .lss 29 31])
 (.cond (.t 32) .skip
 (.exit 2)))
 (.seq (.block 3 (.seq (.reg true [0, 0, 3, 7, 0, 0, 32, 112, 240, 511] [0, 3, 4, 5, 44] [zm 35 4, zm 36 5, zi 37 2 35 36, zL 38 2 37, zm 39 4, zm 40 5, zd 41 .sub 40 (.int .i64 1), zi 42 2 39 41, zL 43 2 42, ⟨some 44, .beq true [0, 2] (.t 38) (.t 43), none⟩])
 (.cond (.t 44) (.seq (.reg false [] [0, 3, 4, 5] [zm 45 0, zm 46 3, zm 47 4, zm 48 5, zi 49 2 47 48, zL 50 2 49, zi 51 2 45 46, ⟨none, .st 2 [] (.t 51) (.t 50), none⟩])
 (.reg false [] [0, 3, 4, 5] [zm 52 3, zd 53 .add 52 (.int .i64 1), zm 3 53]))
 .skip)))
 (.reg false [] [0, 3, 4, 5] [zm 33 5, zd 34 .add 33 (.int .i64 1), zm 5 34]))))))
 (.seq (.reg false [] [0, 3] [zm 54 0, zm 55 3, ⟨some 56, .slc 2 (.t 54) (some (.t 55)) none, none⟩, ⟨none, .clr [.int .i64 0, .str []] (.t 56), none⟩])
 (.seq (.reg false [] [2] [zq 57 0, zm 58 3, ⟨some 59, .slc 2 (.t 57) none (some (.t 58)), none⟩, zq 2 59])
 .ret))))
 .skip)))
 (.reg false [] [0, 3] [zm 14 3, zd 15 .add 14 (.int .i64 1), zm 3 15]))))))
 (.seq (.reg false [] [2] [zq 60 0, zq 2 60])
 .ret)))) }

/-- sewershed/digraph.Closure -/
def N635_digraph_Closure : NFun := { np := 2, nt := 29, res := [(4, none), (5, none)], body :=
 (.seq (.reg false [] [0, 1] [zc 4 .nils, zc 5 (.int .i64 0)])
 (.seq (.seq (.reg false [] [0, 1, 12] [zm 9 0, zm 10 1, zk 11 503 [(.t 9), (.t 10)], zt 12 11])
 (.cond (.t 12) (.seq (.reg false [] [4, 5] [zc 4 .nils, zc 5 (.int .i64 1)])
 .ret)
 .skip))
 (.seq (.reg false [] [0, 6] [zm 13 0, zq 14 1, zk 15 517 [(.t 13), (.t 14)], zq 6 15])
 (.seq (.reg false [] [0, 6, 7] [⟨some 7, .nilo 1, none⟩])
 (.seq (.seq (.reg false [] [6, 7, 16, 17] [zm 16 0, zc 17 (.int .i64 0)])
 (.block 0 (.loop (.seq (.reg false [] [6, 7, 16, 17, 18] [zb 18 .lss 17 16])
 (.seq (.cond (.t 18) .skip
 (.exit 0))
 (.seq (.block 1 (.seq (.reg false [] [6, 7, 8, 16, 17] [zm 19 17, zm 8 19])
 (.reg false [] [6, 7, 16, 17] [zm 20 7, zm 21 6, zm 22 8, ⟨some 23, .blsF 1 1 [.int .i64 0] [(0, (.t 22))], none⟩, zk 24 521 [(.t 21), (.t 23)], ⟨some 25, .bls 1 1 [.own 1 []] [] [(0, (.t 24))], none⟩, ⟨some 26, .app 1 24 true (.t 20) (.t 25), none⟩, zq 7 26])))
 (.reg false [] [6, 7, 16, 17] [zd 27 .add 17 (.int .i64 1), zm 17 27])))))))
 (.seq (.reg false [] [4, 5] [zq 28 7, zq 4 28, zc 5 (.int .i64 0)])
 .ret)))))) }

/-- sewershed/checker.heights$1 -/
def N647_checker_heights_1 : NFun := { np := 2, nt := 9, res := [(3, none)], body :=
 (.seq (.reg false [] [1, 2] [zo 2 0, zc 3 (.bool false)])
 (.seq (.reg false [] [3] [zf 4 0 2, zl 5 1 4, zf 6 7 1, zl 7 1 6, zb 8 .eql 5 7, zm 3 8])
 .ret)) }

def prog : Nat → Option NFun
  | 11 => some N11_slices_ContainsFunc__int_int
  | 35 => some N35_slices_IndexFunc__int_int
  | 42 => some N42_slices_Clone__int_int
  | 45 => some N45_slices_ContainsFunc__api_Section_api_Section
  | 52 => some N52_slices_IndexFunc__api_Section_api_Section
  | 58 => some N58_decimal_IsName
  | 70 => some N70_decimal_letter
  | 71 => some N71_decimal_word
  | 72 => some N72_table_Valid
  | 88 => some N88_decimal_digit
  | 89 => some N89_table_fits
  | 125 => some N125_slices_ContainsFunc__api_Finding_api_Finding
  | 129 => some N129_slices_IndexFunc__api_Finding_api_Finding
  | 147 => some N147_slices_Equal__api_Finding_api_Finding
  | 164 => some N164_network_Valid
  | 168 => some N168_network_rightNode
  | 169 => some N169_network_node
  | 170 => some N170_network_rightLink
  | 171 => some N171_network_link
  | 172 => some N172_network_between
  | 173 => some N173_network_level
  | 174 => some N174_network_shaped
  | 175 => some N175_slices_IndexFunc__api_Node_api_Node
  | 176 => some N176_network_node_1
  | 177 => some N177_network_sameLink
  | 178 => some N178_network_plain
  | 179 => some N179_slices_ContainsFunc_api_Table_api_Knot
  | 180 => some N180_network_rightLink_1
  | 181 => some N181_slices_IndexFunc__api_Link_api_Link
  | 182 => some N182_network_link_1
  | 183 => some N183_network_level_1
  | 184 => some N184_slices_Equal_api_Table_api_Knot
  | 185 => some N185_slices_IndexFunc_api_Table_api_Knot
  | 266 => some N266_cmp_Or_int
  | 267 => some N267_cmp_Compare_int
  | 299 => some N299_cmp_isNaN_int
  | 435 => some N435_slices_Equal__string_string
  | 453 => some N453_slices_ContainsFunc__api_Node_api_Node
  | 455 => some N455_slices_ContainsFunc__api_Link_api_Link
  | 463 => some N463_network_Link
  | 471 => some N471_network_Edges
  | 498 => some N498_network_found
  | 499 => some N499_network_edges
  | 503 => some N503_digraph_Valid
  | 514 => some N514_slices_ContainsFunc___2int__2int
  | 515 => some N515_digraph_Valid_1
  | 516 => some N516_digraph_is
  | 517 => some N517_digraph_next
  | 521 => some N521_digraph_reach
  | 522 => some N522_slices_IndexFunc___2int__2int
  | 529 => some N529_law27_CheckerLess
  | 540 => some N540_law27_awake
  | 541 => some N541_law27_large
  | 542 => some N542_law27_many
  | 543 => some N543_checker_Check
  | 550 => some N550_law27_CheckerLess_1
  | 551 => some N551_law27_CheckerLess_2
  | 552 => some N552_network_Remove
  | 553 => some N553_law27_CheckerLess_3
  | 554 => some N554_slices_Contains__api_Finding_api_Finding
  | 556 => some N556_checker_Adverse
  | 583 => some N583_law27_example
  | 584 => some N584_law27_large_1
  | 585 => some N585_law27_large_2
  | 586 => some N586_law27_many_1
  | 587 => some N587_checker_valid
  | 588 => some N588_checker_notes_structure
  | 589 => some N589_checker_notes_levels
  | 590 => some N590_checker_notes_sorted
  | 598 => some N598_slices_Clone_api_Table_api_Knot
  | 599 => some N599_slices_Index__api_Finding_api_Finding
  | 600 => some N600_checker_ways
  | 601 => some N601_checker_isBackwards
  | 602 => some N602_checker_isLost
  | 627 => some N627_checker_ends
  | 628 => some N628_checker_notes_add
  | 629 => some N629_checker_heights
  | 631 => some N631_checker_notes_sorted_1
  | 633 => some N633_slices_Compact_checker_notes_api_Finding
  | 635 => some N635_digraph_Closure
  | 647 => some N647_checker_heights_1
  | _ => none

end Go.Gv
