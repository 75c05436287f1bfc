/-
  Texts of the proof: GvP.
-/
import Derived.Test.YteaonmajblajnaaGreatDoorX4
set_option linter.all false
set_option maxRecDepth 4000
namespace Go.Gv
@[simp] def zr (k : List Nat) (o : List ao) : dF:=.reg false [] k o
@[simp] def zI (n : Int) : D:=.int .i64 n
@[simp] def zC (t : Nat) (a b : dF) : dF:=.cond (.t t) a b
@[simp] def zs (a b : dF) : dF:=.seq a b
@[simp] def zy (t : Nat) (o : NOp) : ao:=⟨some t,o,none⟩
@[simp] def zw (o : NOp) : ao:=⟨none,o,none⟩
@[simp] def zm (a b : Nat) : ao:=⟨some a,.mov (.t b),none⟩
@[simp] def zc (a : Nat) (d : D) : ao:=⟨some a,.mov (.c d),none⟩
@[simp] def zf (a i b : Nat) : ao:=⟨some a,.fad i (.t b),none⟩
@[simp] def zl (a n b : Nat) : ao:=⟨some a,.ld n false (.t b),none⟩
@[simp] def zL (a n b : Nat) : ao:=⟨some a,.ld n true (.t b),none⟩
@[simp] def zx (a i b : Nat) : ao:=⟨some a,.ext i (.t b),none⟩
@[simp] def zn (a b : Nat) : ao:=⟨some a,.len (.t b),none⟩
@[simp] def zq (a b : Nat) : ao:=⟨some a,.asg (.t b),none⟩
@[simp] def zi (a n b c : Nat) : ao:=⟨some a,.iadS n (.t b) (.t c),none⟩
@[simp] def zo (a b : Nat) : ao:=⟨some a,.boxF (.t b),none⟩
@[simp] def zt (a b : Nat) : ao:=⟨some a,.un .not (.t b),none⟩
@[simp] def zk (a g : Nat) (xs : List Opd) : ao:=⟨some a,.call g xs [],none⟩
@[simp] def zb (a : Nat) (op : BinOp) (b c : Nat) : ao:=⟨some a,.bin op (.t b) (.t c),none⟩
@[simp] def zd (a : Nat) (op : BinOp) (b : Nat) (d : D) : ao:=⟨some a,.bin op (.t b) (.c d),none⟩
@[simp] def zg (c : Nat) (b : Bool) (s : ao) : ao:=⟨s.dst,s.op,some (c,b)⟩
def N11 : az:={ np:=2,nt:=9,res:=[(4,none)],body :=
 (zs (zr [0,1] [zc 4 (.bool false)])
 (zs (zr [4] [zq 5 0,zm 6 1,zk 7 35 [.t 5,.t 6],zd 8 .geq 7 (zI 0),zm 4 8])
 .ret)) }
def N19 : az:={ np:=2,nt:=26,res:=[(4,none)],body :=
 (zs (zr [0,1] [zc 4 (.bool false)])
 (zs (zs (zr [0,1,10] [zm 6 0,zn 7 6,zm 8 1,zn 9 8,zb 10 .neq 7 9])
 (zC 10 (zs (zr [4] [zc 4 (.bool false)])
 .ret)
 .skip))
 (zs (zs (zr [0,1,12,13] [zm 11 0,zn 12 11,zc 13 (zI 0)])
 (.block 0 (.loop (zs (zr [0,1,12,13,14] [zb 14 .lss 13 12])
 (zs (zC 14 .skip
 (.exit 0))
 (zs (.block 1 (zs (zr [0,1,5,12,13] [zm 15 13,zm 5 15])
 (zs (.reg true [0,0,3,7,0,0,48,112,255] [0,1,12,13,24] [zm 16 0,zm 17 5,zi 18 1 16 17,zl 19 1 18,zm 20 1,zm 21 5,zi 22 1 20 21,zl 23 1 22,zb 24 .neq 19 23])
 (zC 24 (zs (zr [4] [zc 4 (.bool false)])
 .ret)
 .skip))))
 (zr [0,1,12,13] [zd 25 .add 13 (zI 1),zm 13 25])))))))
 (zs (zr [4] [zc 4 (.bool true)])
 .ret)))) }
def N35 : az:={ np:=2,nt:=19,res:=[(4,none)],body :=
 (zs (zr [0,1] [zc 4 (zI 0)])
 (zs (zs (zr [0,1,7,8] [zm 6 0,zn 7 6,zc 8 (zI 0)])
 (.block 0 (.loop (zs (zr [0,1,7,8,9] [zb 9 .lss 8 7])
 (zs (zC 9 .skip
 (.exit 0))
 (zs (.block 1 (zs (zr [0,1,5,7,8] [zm 10 8,zm 5 10])
 (zs (zr [0,1,5,7,8,16] [zm 11 1,zm 12 0,zm 13 5,zi 14 1 12 13,zl 15 1 14,zy 16 (.callv (.t 11) [.t 15])])
 (zC 16 (zs (zr [4] [zm 17 5,zm 4 17])
 .ret)
 .skip))))
 (zr [0,1,7,8] [zd 18 .add 8 (zI 1),zm 8 18])))))))
 (zs (zr [4] [zy 4 (.mov (.c (zI (-1))))])
 .ret))) }
def N91 : az:={ np:=2,nt:=51,res:=[(4,none),(5,none)],body :=
 (zs (zr [0,1] [zc 4 (.int .u64 0),zc 5 (.int .u64 0)])
 (zs (zr [0,1,6] [zm 14 0,zd 15 .and 14 (.int .u64 4294967295),zm 6 15])
 (zs (zr [0,1,6,7] [zm 16 0,zd 17 .shr 16 (.int .u64 32),zm 7 17])
 (zs (zr [0,1,6,7,8] [zm 18 1,zd 19 .and 18 (.int .u64 4294967295),zm 8 19])
 (zs (zr [0,1,6,7,8,9] [zm 20 1,zd 21 .shr 20 (.int .u64 32),zm 9 21])
 (zs (zr [0,1,6,7,8,9,10] [zm 22 6,zm 23 8,zb 24 .mul 22 23,zm 10 24])
 (zs (zr [0,1,6,7,9,11] [zm 25 7,zm 26 8,zb 27 .mul 25 26,zm 28 10,zd 29 .shr 28 (.int .u64 32),zb 30 .add 27 29,zm 11 30])
 (zs (zr [0,1,6,7,9,11,12] [zm 31 11,zd 32 .and 31 (.int .u64 4294967295),zm 12 32])
 (zs (zr [0,1,6,7,9,12,13] [zm 33 11,zd 34 .shr 33 (.int .u64 32),zm 13 34])
 (zs (zr [0,1,7,9,12,13] [zm 35 12,zm 36 6,zm 37 9,zb 38 .mul 36 37,zb 39 .add 35 38,zm 12 39])
 (zs (zr [0,1,4] [zm 40 7,zm 41 9,zb 42 .mul 40 41,zm 43 13,zb 44 .add 42 43,zm 45 12,zd 46 .shr 45 (.int .u64 32),zb 47 .add 44 46,zm 4 47])
 (zs (zr [4,5] [zm 48 0,zm 49 1,zb 50 .mul 48 49,zm 5 50])
 .ret)))))))))))) }
def N92 : az:={ np:=3,nt:=135,res:=[(6,none),(7,none)],body :=
 (zs (zr [0,1,2] [zc 6 (.int .u64 0),zc 7 (.int .u64 0)])
 (zs (zs (zr [0,1,2,20] [zm 19 2,zd 20 .eql 19 (.int .u64 0)])
 (zC 20 (zr [0,1,2] [zy 21 (.dead),zw (.dead)])
 .skip))
 (zs (zs (zr [0,1,2,24] [zm 22 2,zm 23 0,zb 24 .leq 22 23])
 (zC 24 (zr [0,1,2] [zy 25 (.dead),zw (.dead)])
 .skip))
 (zs (zs (zr [0,1,2,27] [zm 26 0,zd 27 .eql 26 (.int .u64 0)])
 (zC 27 (zs (.reg true [0,0,3,0,0,24,7,127] [6,7] [zm 28 1,zm 29 2,zb 30 .quo 28 29,zm 31 1,zm 32 2,zb 33 .rem 31 32,zm 6 30,zm 7 33])
 .ret)
 .skip))
 (zs (zr [0,1,2,8] [zm 34 2,zk 35 102 [.t 34],zy 36 (.conv .u64 (.t 35)),zm 8 36])
 (zs (zr [0,1,2,8] [zm 37 2,zm 38 8,zb 39 .shl 37 38,zm 2 39])
 (zs (zr [0,1,2,8,9] [zm 40 2,zd 41 .shr 40 (.int .u64 32),zm 9 41])
 (zs (zr [0,1,2,8,9,10] [zm 42 2,zd 43 .and 42 (.int .u64 4294967295),zm 10 43])
 (zs (zr [1,2,8,9,10,11] [zm 44 0,zm 45 8,zb 46 .shl 44 45,zm 47 1,zm 48 8,zy 49 (.bin .sub (.c (.int .u64 64)) (.t 48)),zb 50 .shr 47 49,zb 51 .or 46 50,zm 11 51])
 (zs (zr [2,8,9,10,11,12] [zm 52 1,zm 53 8,zb 54 .shl 52 53,zm 12 54])
 (zs (zr [2,8,9,10,11,12,13] [zm 55 12,zd 56 .shr 55 (.int .u64 32),zm 13 56])
 (zs (zr [2,8,9,10,11,13,14] [zm 57 12,zd 58 .and 57 (.int .u64 4294967295),zm 14 58])
 (zs (zr [2,8,9,10,11,13,14,15] [zm 59 11,zm 60 9,zb 61 .quo 59 60,zm 15 61])
 (zs (zr [2,8,9,10,11,13,14,15,16] [zm 62 11,zm 63 15,zm 64 9,zb 65 .mul 63 64,zb 66 .sub 62 65,zm 16 66])
 (zs (.block 0 (.loop (zs (zs (zr [2,8,9,10,11,13,14,15,16,78] [zm 67 15,zd 68 .geq 67 (.int .u64 4294967296),zm 69 68,zg 69 false (zm 70 15),zg 69 false (zm 71 10),zg 69 false (zb 72 .mul 70 71),zg 69 false (zm 73 16),zg 69 false (zy 74 (.bin .mul (.c (.int .u64 4294967296)) (.t 73))),zg 69 false (zm 75 13),zg 69 false (zb 76 .add 74 75),zg 69 false (zb 77 .gtr 72 76),zy 78 (.pick (.t 69) (.c (.bool true)) (.t 77))])
 (zC 78 .skip
 (.exit 0)))
 (.block 1 (zs (zr [2,8,9,10,11,13,14,15,16] [zm 79 15,zd 80 .sub 79 (.int .u64 1),zm 15 80])
 (zs (zr [2,8,9,10,11,13,14,15,16] [zm 81 16,zm 82 9,zb 83 .add 81 82,zm 16 83])
 (zs (zr [2,8,9,10,11,13,14,15,16,85] [zm 84 16,zd 85 .geq 84 (.int .u64 4294967296)])
 (zC 85 (.exit 0)
 .skip))))))))
 (zs (zr [2,8,9,10,14,15,17] [zm 86 11,zd 87 .mul 86 (.int .u64 4294967296),zm 88 13,zb 89 .add 87 88,zm 90 15,zm 91 2,zb 92 .mul 90 91,zb 93 .sub 89 92,zm 17 93])
 (zs (zr [2,8,9,10,14,15,17,18] [zm 94 17,zm 95 9,zb 96 .quo 94 95,zm 18 96])
 (zs (zr [2,8,9,10,14,15,16,17,18] [zm 97 17,zm 98 18,zm 99 9,zb 100 .mul 98 99,zb 101 .sub 97 100,zm 16 101])
 (zs (.block 2 (.loop (zs (zs (zr [2,8,9,10,14,15,16,17,18,113] [zm 102 18,zd 103 .geq 102 (.int .u64 4294967296),zm 104 103,zg 104 false (zm 105 18),zg 104 false (zm 106 10),zg 104 false (zb 107 .mul 105 106),zg 104 false (zm 108 16),zg 104 false (zy 109 (.bin .mul (.c (.int .u64 4294967296)) (.t 108))),zg 104 false (zm 110 14),zg 104 false (zb 111 .add 109 110),zg 104 false (zb 112 .gtr 107 111),zy 113 (.pick (.t 104) (.c (.bool true)) (.t 112))])
 (zC 113 .skip
 (.exit 2)))
 (.block 3 (zs (zr [2,8,9,10,14,15,16,17,18] [zm 114 18,zd 115 .sub 114 (.int .u64 1),zm 18 115])
 (zs (zr [2,8,9,10,14,15,16,17,18] [zm 116 16,zm 117 9,zb 118 .add 116 117,zm 16 118])
 (zs (zr [2,8,9,10,14,15,16,17,18,120] [zm 119 16,zd 120 .geq 119 (.int .u64 4294967296)])
 (zC 120 (.exit 2)
 .skip))))))))
 (zs (zr [6,7] [zm 121 15,zd 122 .mul 121 (.int .u64 4294967296),zm 123 18,zb 124 .add 122 123,zm 125 17,zd 126 .mul 125 (.int .u64 4294967296),zm 127 14,zb 128 .add 126 127,zm 129 18,zm 130 2,zb 131 .mul 129 130,zb 132 .sub 128 131,zm 133 8,zb 134 .shr 132 133,zm 6 124,zm 7 134])
 .ret)))))))))))))))))))) }
def N99 : az:={ np:=2,nt:=12,res:=[(4,some (2,true)),(5,none)],body :=
 (zs (zr [0,1,4] [zy 4 (.alc [zI 0,zI 0]),zc 5 (zI 0)])
 (zs (zr [4,5] [zm 6 0,zm 7 1,zk 8 103 [.t 6,.t 7],zk 9 105 [.t 8],zx 10 0 9,zx 11 1 9,zw (.st 2 [] (.t 4) (.t 10)),zm 5 11])
 .ret)) }
def N102 : az:={ np:=1,nt:=6,res:=[(2,none)],body :=
 (zs (zr [0] [zc 2 (zI 0)])
 (zs (zr [2] [zm 3 0,zk 4 111 [.t 3],zy 5 (.bin .sub (.c (zI 64)) (.t 4)),zm 2 5])
 .ret)) }
def N103 : az:={ np:=2,nt:=23,res:=[(4,some (3,true))],body :=
 (zs (zr [0,1,4] [zy 4 (.alc [.int .u64 0,.int .u64 0,.bool false])])
 (zs (zr [0,1,4,5,6] [zm 8 0,zk 9 112 [.t 8],zm 10 1,zk 11 112 [.t 10],zk 12 91 [.t 9,.t 11],zm 7 12,zx 13 0 7,zx 14 1 7,zm 5 13,zm 6 14])
 (zs (zr [4] [zm 15 5,zm 16 6,zm 17 0,zd 18 .lss 17 (zI 0),zm 19 1,zd 20 .lss 19 (zI 0),zy 21 (.beq true [] (.t 18) (.t 20)),zk 22 113 [.t 15,.t 16,.t 21],zw (.st 3 [] (.t 4) (.t 22))])
 .ret))) }
def N104 : az:={ np:=3,nt:=52,res:=[(6,none),(7,none)],body :=
 (zs (zr [1,2,3] [zo 3 0,zc 6 (zI 0),zc 7 (zI 0)])
 (zs (zr [1,2,3,8] [zm 12 1,zk 13 112 [.t 12],zm 8 13])
 (zs (zs (zr [1,2,3,8,17] [zf 14 0 3,zl 15 1 14,zm 16 8,zb 17 .geq 15 16])
 (zC 17 (zs (zr [6,7] [zc 6 (zI 0),zc 7 (zI 5)])
 .ret)
 .skip))
 (zs (zr [1,2,3,9,10] [zf 19 0 3,zl 20 1 19,zf 21 1 3,zl 22 1 21,zm 23 8,zk 24 92 [.t 20,.t 22,.t 23],zm 18 24,zx 25 0 18,zx 26 1 18,zm 9 25,zm 10 26])
 (zs (zr [2,9,10,11] [zf 27 2 3,zl 28 1 27,zm 29 1,zd 30 .lss 29 (zI 0),zy 31 (.beq true [] (.t 28) (.t 30)),zm 11 31])
 (zs (zs (zr [9,11,38] [zm 32 10,zd 33 .gtr 32 (.int .u64 0),zm 34 33,zg 34 true (zm 35 11),zg 34 true (zm 36 2),zg 34 true (zy 37 (.beq true [] (.t 35) (.t 36))),zy 38 (.pick (.t 34) (.t 37) (.c (.bool false)))])
 (zC 38 (zs (zr [9,11] [zm 39 9,zd 40 .add 39 (.int .u64 1),zm 9 40])
 (zs (zr [9,11,42] [zm 41 9,zd 42 .eql 41 (.int .u64 0)])
 (zC 42 (zs (zr [6,7] [zc 6 (zI 0),zc 7 (zI 5)])
 .ret)
 .skip)))
 .skip))
 (zs (zr [6,7] [zm 43 9,zm 44 11,zm 45 44,zg 45 true (zm 46 9),zg 45 true (zd 47 .gtr 46 (.int .u64 0)),zy 48 (.pick (.t 45) (.t 47) (.c (.bool false))),zk 49 110 [.t 43,.t 48],zx 50 0 49,zx 51 1 49,zm 6 50,zm 7 51])
 .ret))))))) }
def N105 : az:={ np:=1,nt:=56,res:=[(2,some (2,true)),(3,none)],body :=
 (zs (zr [1,2] [zo 1 0,zy 2 (.alc [zI 0,zI 0]),zc 3 (zI 0)])
 (zs (zs (zr [1,2,23] [zf 6 0 1,zl 7 1 6,zd 8 .gtr 7 (.int .u64 72057594037927936),zm 9 8,zg 9 false (zf 10 0 1),zg 9 false (zl 11 1 10),zg 9 false (zd 12 .eql 11 (.int .u64 72057594037927936)),zg 9 false (zm 13 12),zg 13 true (zf 14 1 1),zg 13 true (zl 15 1 14),zg 13 true (zd 16 .gtr 15 (.int .u64 0)),zg 13 true (zm 17 16),zg 17 false (zf 18 2 1),zg 17 false (zl 19 1 18),zg 17 false (zt 20 19),zg 13 true (zy 21 (.pick (.t 17) (.c (.bool true)) (.t 20))),zg 9 false (zy 22 (.pick (.t 13) (.t 21) (.c (.bool false)))),zy 23 (.pick (.t 9) (.c (.bool true)) (.t 22))])
 (zC 23 (zs (zr [2,3] [zy 24 (.bld [zI 0,zI 0] []),zw (.st 2 [] (.t 2) (.t 24)),zc 3 (zI 5)])
 .ret)
 .skip))
 (zs (.reg true [0,1,3,0,8,24,63,127,0,256,768,1792,255,8191] [1,2,4,5] [zf 25 0 1,zl 26 1 25,zd 27 .shl 26 (.int .u64 4),zf 28 1 1,zl 29 1 28,zd 30 .shr 29 (.int .u64 60),zb 31 .or 27 30,zy 32 (.conv .i64 (.t 31)),zf 33 1 1,zl 34 1 33,zd 35 .and 34 (.int .u64 1152921504606846975),zy 36 (.conv .i64 (.t 35)),zm 4 32,zm 5 36])
 (zs (.block 0 (zs (zr [2,4,5,37] [zf 38 2 1,zl 39 1 38,zt 40 39,zm 37 40])
 (zC 37 (zs (zr [2,3] [zm 41 4,zm 42 5,zy 43 (.bld [zI 0,zI 0] [(0,1,.t 41),(1,1,.t 42)]),zw (.st 2 [] (.t 2) (.t 43)),zc 3 (zI 0)])
 .ret)
 (zs (zr [2,4,5,44] [zm 45 5,zd 46 .eql 45 (zI 0),zm 44 46])
 (zC 44 (zs (zr [2,3] [zm 47 4,zy 48 (.un .neg (.t 47)),zy 49 (.bld [zI 0,zI 0] [(0,1,.t 48)]),zw (.st 2 [] (.t 2) (.t 49)),zc 3 (zI 0)])
 .ret)
 .skip)))))
 (zs (zr [2,3] [zm 50 4,zy 51 (.un .neg (.t 50)),zd 52 .sub 51 (zI 1),zm 53 5,zy 54 (.bin .sub (.c (zI 1152921504606846976)) (.t 53)),zy 55 (.bld [zI 0,zI 0] [(0,1,.t 52),(1,1,.t 54)]),zw (.st 2 [] (.t 2) (.t 55)),zc 3 (zI 0)])
 .ret))))) }
def N106 : az:={ np:=1,nt:=21,res:=[(2,none)],body :=
 (zs (zr [1] [zo 1 0,zc 2 (.bool false)])
 (zs (zr [2] [zf 3 0 1,zl 4 1 3,zy 5 (.bin .geq (.t 4) (.c (zI (-1152921504606846976)))),zm 6 5,zg 6 true (zf 7 0 1),zg 6 true (zl 8 1 7),zg 6 true (zd 9 .lss 8 (zI 1152921504606846976)),zy 10 (.pick (.t 6) (.t 9) (.c (.bool false))),zm 11 10,zg 11 true (zf 12 1 1),zg 11 true (zl 13 1 12),zg 11 true (zd 14 .geq 13 (zI 0)),zy 15 (.pick (.t 11) (.t 14) (.c (.bool false))),zm 16 15,zg 16 true (zf 17 1 1),zg 16 true (zl 18 1 17),zg 16 true (zd 19 .lss 18 (zI 1152921504606846976)),zy 20 (.pick (.t 16) (.t 19) (.c (.bool false))),zm 2 20])
 .ret)) }
def N107 : az:={ np:=2,nt:=73,res:=[(4,some (3,true))],body :=
 (zs (zr [2,3,4] [zy 2 (.box [] (.t 0)),zy 3 (.box [] (.t 1)),zy 4 (.alc [.int .u64 0,.int .u64 0,.bool false])])
 (zs (zs (zr [2,3,4,13] [zf 9 2 2,zl 10 1 9,zf 11 2 3,zl 12 1 11,zy 13 (.beq false [] (.t 10) (.t 12))])
 (zC 13 (zs (zr [2,3,4,5,6] [zf 15 1 2,zl 16 1 15,zf 17 1 3,zl 18 1 17,zy 19 (.add64 (.t 16) (.t 18) (.c (.int .u64 0))),zm 14 19,zx 20 0 14,zx 21 1 14,zm 5 20,zm 6 21])
 (zs (zr [4] [zf 22 0 2,zl 23 1 22,zf 24 0 3,zl 25 1 24,zb 26 .add 23 25,zm 27 6,zb 28 .add 26 27,zm 29 5,zf 30 2 2,zl 31 1 30,zk 32 113 [.t 28,.t 29,.t 31],zw (.st 3 [] (.t 4) (.t 32))])
 .ret))
 .skip))
 (zs (zs (zr [2,3,4,51] [zf 33 0 2,zl 34 1 33,zf 35 0 3,zl 36 1 35,zb 37 .lss 34 36,zm 38 37,zg 38 false (zf 39 0 2),zg 38 false (zl 40 1 39),zg 38 false (zf 41 0 3),zg 38 false (zl 42 1 41),zg 38 false (zb 43 .eql 40 42),zg 38 false (zm 44 43),zg 44 true (zf 45 1 2),zg 44 true (zl 46 1 45),zg 44 true (zf 47 1 3),zg 44 true (zl 48 1 47),zg 44 true (zb 49 .lss 46 48),zg 38 false (zy 50 (.pick (.t 44) (.t 49) (.c (.bool false)))),zy 51 (.pick (.t 38) (.c (.bool true)) (.t 50))])
 (zC 51 (zr [2,3,4] [zL 52 3 3,zL 53 3 2,zw (.st 3 [] (.t 2) (.t 52)),zw (.st 3 [] (.t 3) (.t 53))])
 .skip))
 (zs (zr [2,3,4,7,8] [zf 55 1 2,zl 56 1 55,zf 57 1 3,zl 58 1 57,zy 59 (.sub64 (.t 56) (.t 58) (.c (.int .u64 0))),zm 54 59,zx 60 0 54,zx 61 1 54,zm 7 60,zm 8 61])
 (zs (zr [4] [zf 62 0 2,zl 63 1 62,zf 64 0 3,zl 65 1 64,zb 66 .sub 63 65,zm 67 8,zb 68 .sub 66 67,zm 69 7,zf 70 2 2,zl 71 1 70,zk 72 113 [.t 68,.t 69,.t 71],zw (.st 3 [] (.t 4) (.t 72))])
 .ret))))) }
def N108 : az:={ np:=1,nt:=37,res:=[(2,some (3,true))],body :=
 (zs (zr [1,2] [zo 1 0,zy 2 (.alc [.int .u64 0,.int .u64 0,.bool false])])
 (zs (zr [1,2,3] [zf 7 0 1,zl 8 1 7,zk 9 112 [.t 8],zm 3 9])
 (zs (zr [1,2,4,5] [zm 10 3,zd 11 .shr 10 (.int .u64 4),zm 12 3,zd 13 .shl 12 (.int .u64 60),zm 4 11,zm 5 13])
 (zs (zs (zr [1,2,4,5,16] [zf 14 0 1,zl 15 1 14,zd 16 .geq 15 (zI 0)])
 (zC 16 (zs (zr [2] [zm 17 4,zm 18 5,zf 19 1 1,zl 20 1 19,zy 21 (.conv .u64 (.t 20)),zb 22 .or 18 21,zy 23 (.bld [.int .u64 0,.int .u64 0,.bool false] [(0,1,.t 17),(1,1,.t 22),(2,1,(.c (.bool false)))]),zw (.st 3 [] (.t 2) (.t 23))])
 .ret)
 .skip))
 (zs (zr [2,4,5,6] [zm 25 5,zf 26 1 1,zl 27 1 26,zy 28 (.conv .u64 (.t 27)),zy 29 (.sub64 (.t 25) (.t 28) (.c (.int .u64 0))),zm 24 29,zx 30 0 24,zx 31 1 24,zm 5 30,zm 6 31])
 (zs (zr [2] [zm 32 4,zm 33 6,zb 34 .sub 32 33,zm 35 5,zy 36 (.bld [.int .u64 0,.int .u64 0,.bool false] [(0,1,.t 34),(1,1,.t 35),(2,1,(.c (.bool true)))]),zw (.st 3 [] (.t 2) (.t 36))])
 .ret)))))) }
def N110 : az:={ np:=2,nt:=24,res:=[(4,none),(5,none)],body :=
 (zs (zr [0,1] [zc 4 (zI 0),zc 5 (zI 0)])
 (zs (.block 0 (zs (zr [0,1,6] [zm 7 1,zt 8 7,zm 9 8,zg 9 true (zm 10 0),zg 9 true (zd 11 .leq 10 (.int .u64 9223372036854775807)),zy 12 (.pick (.t 9) (.t 11) (.c (.bool false))),zm 6 12])
 (zC 6 (zs (zr [4,5] [zm 13 0,zy 14 (.conv .i64 (.t 13)),zm 4 14,zc 5 (zI 0)])
 .ret)
 (zs (zr [0,15] [zm 16 1,zm 17 16,zg 17 true (zm 18 0),zg 17 true (zd 19 .leq 18 (.int .u64 9223372036854775808)),zy 20 (.pick (.t 17) (.t 19) (.c (.bool false))),zm 15 20])
 (zC 15 (zs (zr [4,5] [zm 21 0,zy 22 (.un .neg (.t 21)),zy 23 (.conv .i64 (.t 22)),zm 4 23,zc 5 (zI 0)])
 .ret)
 .skip)))))
 (zs (zr [4,5] [zc 4 (zI 0),zc 5 (zI 5)])
 .ret))) }
def S1 : List UInt8:=[0,1,2,2,3,3,3,3,4,4,4,4,4,4,4,4,5,5,5,5,5,5,5,5,5,5,5,5,5,5,5,5,6,6,6,6,6,6,6,6,6,6,6,6,6,6,6,6,6,6,6,6,6,6,6,6,6,6,6,6,6,6,6,6,7,7,7,7,7,7,7,7,7,7,7,7,7,7,7,7,7,7,7,7,7,7,7,7,7,7,7,7,7,7,7,7,7,7,7,7,7,7,7,7,7,7,7,7,7,7,7,7,7,7,7,7,7,7,7,7,7,7,7,7,7,7,7,7,8,8,8,8,8,8,8,8,8,8,8,8,8,8,8,8,8,8,8,8,8,8,8,8,8,8,8,8,8,8,8,8,8,8,8,8,8,8,8,8,8,8,8,8,8,8,8,8,8,8,8,8,8,8,8,8,8,8,8,8,8,8,8,8,8,8,8,8,8,8,8,8,8,8,8,8,8,8,8,8,8,8,8,8,8,8,8,8,8,8,8,8,8,8,8,8,8,8,8,8,8,8,8,8,8,8,8,8,8,8,8,8,8,8,8,8,8,8,8,8,8,8,8,8,8,8,8,8]
def N111 : az:={ np:=1,nt:=25,res:=[(2,none)],body :=
 (zs (zr [0,2] [zc 2 (zI 0)])
 (zs (zs (zr [0,2,4] [zm 3 0,zd 4 .geq 3 (.int .u64 4294967296)])
 (zC 4 (zs (zr [0] [zm 5 0,zd 6 .shr 5 (.int .u64 32),zm 0 6])
 (zr [0,2] [zc 2 (zI 32)]))
 .skip))
 (zs (zs (zr [0,2,8] [zm 7 0,zd 8 .geq 7 (.int .u64 65536)])
 (zC 8 (zs (zr [0,2] [zm 9 0,zd 10 .shr 9 (.int .u64 16),zm 0 10])
 (zr [0,2] [zm 11 2,zd 12 .add 11 (zI 16),zm 2 12]))
 .skip))
 (zs (zs (zr [0,2,14] [zm 13 0,zd 14 .geq 13 (.int .u64 256)])
 (zC 14 (zs (zr [0,2] [zm 15 0,zd 16 .shr 15 (.int .u64 8),zm 0 16])
 (zr [0,2] [zm 17 2,zd 18 .add 17 (zI 8),zm 2 18]))
 .skip))
 (zs (zr [2] [zm 19 2,zm 20 0,zy 21 (.conv .u8 (.t 20)),zy 22 (.idxS (.c (.str S1)) (.t 21)),zy 23 (.conv .i64 (.t 22)),zb 24 .add 19 23,zm 2 24])
 .ret))))) }
def N112 : az:={ np:=1,nt:=10,res:=[(2,none)],body :=
 (zs (zr [0] [zc 2 (.int .u64 0)])
 (zs (zs (zr [0,4] [zm 3 0,zd 4 .lss 3 (zI 0)])
 (zC 4 (zs (zr [2] [zm 5 0,zy 6 (.conv .u64 (.t 5)),zy 7 (.un .neg (.t 6)),zm 2 7])
 .ret)
 .skip))
 (zs (zr [2] [zm 8 0,zy 9 (.conv .u64 (.t 8)),zm 2 9])
 .ret))) }
def N113 : az:={ np:=3,nt:=19,res:=[(6,some (3,true))],body :=
 (zs (zr [0,1,2,6] [zy 6 (.alc [.int .u64 0,.int .u64 0,.bool false])])
 (zs (zr [6] [zm 7 0,zm 8 1,zm 9 2,zm 10 9,zg 10 true (zm 11 0),zg 10 true (zd 12 .neq 11 (.int .u64 0)),zg 10 true (zm 13 12),zg 13 false (zm 14 1),zg 13 false (zd 15 .neq 14 (.int .u64 0)),zg 10 true (zy 16 (.pick (.t 13) (.c (.bool true)) (.t 15))),zy 17 (.pick (.t 10) (.t 16) (.c (.bool false))),zy 18 (.bld [.int .u64 0,.int .u64 0,.bool false] [(0,1,.t 7),(1,1,.t 8),(2,1,.t 17)]),zw (.st 3 [] (.t 6) (.t 18))])
 .ret)) }
def N215 : az:={ np:=1,nt:=11,res:=[(2,none)],body :=
 (zs (zr [1] [zo 1 0,zc 2 (.bool false)])
 (zs (zr [2] [zL 3 2 1,zk 4 257 [.t 3],zm 5 4,zg 5 true (zL 6 2 1),zg 5 true (zk 7 258 [.t 6]),zg 5 true (zn 8 7),zg 5 true (zd 9 .eql 8 (zI 0)),zy 10 (.pick (.t 5) (.t 9) (.c (.bool false))),zm 2 10])
 .ret)) }
def N233 : az:={ np:=2,nt:=45,res:=[(4,some (2,true)),(5,none)],body :=
 (zs (zr [2,3,4] [zo 2 0,zo 3 1,zy 4 (.alc [zI 0,zI 0]),zc 5 (zI 0)])
 (zs (zr [4,6,7,8] [zL 12 2 2,zL 13 2 3,zk 14 269 [.t 12,.t 13],zm 11 14,zx 15 0 11,zx 16 1 11,zx 17 2 11,zy 6 (.alc [zI 0,zI 0]),zw (.st 2 [] (.t 6) (.t 15)),zm 7 16,zm 8 17])
 (zs (zs (zr [4,6,7,8,19] [zm 18 8,zd 19 .neq 18 (zI 0)])
 (zC 19 (zs (zr [4,5] [zy 20 (.bld [zI 0,zI 0] []),zm 21 8,zw (.st 2 [] (.t 4) (.t 20)),zm 5 21])
 .ret)
 .skip))
 (zs (zr [4,6,7,8,9] [zL 23 2 6,zm 24 7,zk 25 271 [.t 23,.t 24],zm 22 25,zx 26 0 22,zx 27 1 22,zm 9 26,zm 8 27])
 (zs (zs (zr [4,6,7,8,9,29] [zm 28 8,zd 29 .neq 28 (zI 0)])
 (zC 29 (zs (zr [4,5] [zy 30 (.bld [zI 0,zI 0] []),zm 31 8,zw (.st 2 [] (.t 4) (.t 30)),zm 5 31])
 .ret)
 .skip))
 (zs (zr [4,8,9,10] [zL 33 2 6,zm 34 7,zk 35 272 [.t 33,.t 34],zm 32 35,zx 36 0 32,zx 37 1 32,zm 10 36,zm 8 37])
 (zs (zs (zr [4,8,9,10,39] [zm 38 8,zd 39 .neq 38 (zI 0)])
 (zC 39 (zs (zr [4,5] [zy 40 (.bld [zI 0,zI 0] []),zm 41 8,zw (.st 2 [] (.t 4) (.t 40)),zm 5 41])
 .ret)
 .skip))
 (zs (zr [4,5] [zm 42 9,zm 43 10,zy 44 (.bld [zI 0,zI 0] [(0,1,.t 42),(1,1,.t 43)]),zw (.st 2 [] (.t 4) (.t 44)),zc 5 (zI 0)])
 .ret)))))))) }
def N234 : az:={ np:=1,nt:=17,res:=[(2,none)],body :=
 (zs (zr [1] [zo 1 0,zc 2 (.bool false)])
 (zs (zr [3,4] [zL 6 2 1,zk 7 273 [.t 6],zm 5 7,zx 8 0 5,zx 9 1 5,zq 3 8,zm 4 9])
 (zs (zr [2] [zm 10 4,zd 11 .eql 10 (zI 0),zm 12 11,zg 12 true (zq 13 3),zg 12 true (zn 14 13),zg 12 true (zd 15 .eql 14 (zI 0)),zy 16 (.pick (.t 12) (.t 15) (.c (.bool false))),zm 2 16])
 .ret))) }
def N237 : az:={ np:=1,nt:=21,res:=[(2,none)],body :=
 (zs (zr [1] [zo 1 0,zc 2 (.bool false)])
 (zs (zr [2] [zf 3 0 1,zl 4 1 3,zy 5 (.bin .geq (.t 4) (.c (zI (-16777216)))),zm 6 5,zg 6 true (zf 7 0 1),zg 6 true (zl 8 1 7),zg 6 true (zd 9 .leq 8 (zI 16777216)),zy 10 (.pick (.t 6) (.t 9) (.c (.bool false))),zm 11 10,zg 11 true (zf 12 1 1),zg 11 true (zl 13 1 12),zg 11 true (zy 14 (.bin .geq (.t 13) (.c (zI (-16777216))))),zy 15 (.pick (.t 11) (.t 14) (.c (.bool false))),zm 16 15,zg 16 true (zf 17 1 1),zg 16 true (zl 18 1 17),zg 16 true (zd 19 .leq 18 (zI 16777216)),zy 20 (.pick (.t 16) (.t 19) (.c (.bool false))),zm 2 20])
 .ret)) }
def N239 : az:={ np:=2,nt:=9,res:=[(4,none)],body :=
 (zs (zr [0,1] [zc 4 (.bool false)])
 (zs (zr [4] [zq 5 0,zm 6 1,zk 7 278 [.t 5,.t 6],zd 8 .geq 7 (zI 0),zm 4 8])
 .ret)) }
def N257 : az:={ np:=1,nt:=13,res:=[(2,none)],body :=
 (zs (zr [1] [zo 1 0,zc 2 (.bool false)])
 (zs (zr [2] [zf 3 0 1,zl 4 1 3,zn 5 4,zd 6 .leq 5 (zI 2000),zm 7 6,zg 7 true (zf 8 1 1),zg 7 true (zl 9 1 8),zg 7 true (zn 10 9),zg 7 true (zd 11 .leq 10 (zI 4000)),zy 12 (.pick (.t 7) (.t 11) (.c (.bool false))),zm 2 12])
 .ret)) }
def N258 : az:={ np:=1,nt:=177,res:=[(2,none)],body :=
 (zs (zr [1] [zo 1 0,zc 2 .nils])
 (zs (zr [1,3] [zy 15 (.mks 1 24 [.own 2 []] (.c (zI 7)) (.c (zI 7))),zq 3 15])
 (zs (zs (zr [1,3,4] [zc 4 (zI 0)])
 (.block 0 (.loop (zs (zs (zr [1,3,4,20] [zm 16 4,zf 17 0 1,zl 18 1 17,zn 19 18,zb 20 .lss 16 19])
 (zC 20 .skip
 (.exit 0)))
 (zs (.block 1 (zs (zr [1,3,4,5] [zf 23 0 1,zl 24 1 23,zm 25 4,zi 26 3 24 25,zL 27 3 26,zy 5 (.alc [zI 0,zI 0,zI 0]),zw (.st 3 [] (.t 5) (.t 27))])
 (zs (zs (zr [1,3,4,5,30] [zL 28 3 5,zk 29 289 [.t 28],zt 30 29])
 (zC 30 (zs (.reg true [0,0,2,6,0,16,48,112,254,511,1023] [1,3,4] [zm 31 3,zm 32 3,zy 33 (.iadS 1 (.t 32) (.c (zI 1))),zl 34 1 33,zm 35 4,zk 36 290 [.t 35],zy 37 (.bld [zI 0,.str []] [(0,1,(.c (zI 1))),(1,1,.t 36)]),zy 38 (.bls 2 1 [zI 0,.str []] [] [(0,.t 37)]),zy 39 (.app 2 24 false (.t 34) (.t 38)),zy 40 (.iadS 1 (.t 31) (.c (zI 1))),zw (.st 1 [] (.t 40) (.t 39))])
 (.exit 1))
 .skip))
 (zs (zr [1,3,4,5,6] [zc 6 (zI 0)])
 (.block 2 (.loop (zs (zs (zr [1,3,4,5,6,43] [zm 41 6,zm 42 4,zb 43 .lss 41 42])
 (zC 43 .skip
 (.exit 2)))
 (zs (.block 3 (zs (.reg true [0,1,0,7,15,31,63,127,255,127,1023,2047,4095,127,16383,32767,65535] [1,3,4,5,6,62] [zf 46 0 1,zl 47 1 46,zm 48 6,zi 49 3 47 48,zL 50 3 49,zk 51 289 [.t 50],zm 52 51,zg 52 true (zf 53 0 1),zg 52 true (zl 54 1 53),zg 52 true (zm 55 6),zg 52 true (zi 56 3 54 55),zg 52 true (zL 57 3 56),zg 52 true (zk 58 291 [.t 57]),zg 52 true (zL 59 3 5),zg 52 true (zk 60 291 [.t 59]),zg 52 true (zy 61 (.beq false [0,0] (.t 58) (.t 60))),zy 62 (.pick (.t 52) (.t 61) (.c (.bool false)))])
 (zC 62 (zs (.reg true [0,0,2,6,0,16,48,112,254,511,1023] [1,3,4] [zm 63 3,zm 64 3,zy 65 (.iadS 1 (.t 64) (.c (zI 2))),zl 66 1 65,zm 67 4,zk 68 290 [.t 67],zy 69 (.bld [zI 0,.str []] [(0,1,(.c (zI 2))),(1,1,.t 68)]),zy 70 (.bls 2 1 [zI 0,.str []] [] [(0,.t 69)]),zy 71 (.app 2 24 false (.t 66) (.t 70)),zy 72 (.iadS 1 (.t 63) (.c (zI 2))),zw (.st 1 [] (.t 72) (.t 71))])
 (.exit 2))
 .skip)))
 (zr [1,3,4,5,6] [zm 44 6,zd 45 .add 44 (zI 1),zm 6 45])))))))))
 (zr [1,3,4] [zm 21 4,zd 22 .add 21 (zI 1),zm 4 22]))))))
 (zs (zr [1,3,7] [zy 7 (.nilo 4)])
 (zs (zs (zr [1,3,7,8] [zc 8 (zI 0)])
 (.block 4 (.loop (zs (zs (zr [1,3,7,8,77] [zm 73 8,zf 74 1 1,zl 75 1 74,zn 76 75,zb 77 .lss 73 76])
 (zC 77 .skip
 (.exit 4)))
 (zs (.block 5 (zs (zr [1,3,7,8,9] [zf 80 1 1,zl 81 1 80,zm 82 8,zi 83 4 81 82,zL 84 4 83,zy 9 (.alc [zI 0,zI 0,zI 0,zI 0]),zw (.st 4 [] (.t 9) (.t 84))])
 (zs (zs (zr [1,3,7,8,9,88] [zL 85 2 1,zL 86 4 9,zk 87 292 [.t 85,.t 86],zt 88 87])
 (zC 88 (zs (.reg true [0,0,2,6,0,16,48,112,254,511,1023] [1,3,7,8] [zm 89 3,zm 90 3,zy 91 (.iadS 1 (.t 90) (.c (zI 3))),zl 92 1 91,zm 93 8,zk 94 290 [.t 93],zy 95 (.bld [zI 0,.str []] [(0,1,(.c (zI 3))),(1,1,.t 94)]),zy 96 (.bls 2 1 [zI 0,.str []] [] [(0,.t 95)]),zy 97 (.app 2 24 false (.t 92) (.t 96)),zy 98 (.iadS 1 (.t 89) (.c (zI 3))),zw (.st 1 [] (.t 98) (.t 97))])
 (.exit 5))
 .skip))
 (zs (zs (zr [1,3,7,8,9,102] [zL 99 2 1,zL 100 4 9,zk 101 293 [.t 99,.t 100],zd 102 .leq 101 (zI 0)])
 (zC 102 (zs (.reg true [0,0,2,6,0,16,48,112,254,511,1023] [1,3,7,8] [zm 103 3,zm 104 3,zy 105 (.iadS 1 (.t 104) (.c (zI 4))),zl 106 1 105,zm 107 8,zk 108 290 [.t 107],zy 109 (.bld [zI 0,.str []] [(0,1,(.c (zI 4))),(1,1,.t 108)]),zy 110 (.bls 2 1 [zI 0,.str []] [] [(0,.t 109)]),zy 111 (.app 2 24 false (.t 106) (.t 110)),zy 112 (.iadS 1 (.t 103) (.c (zI 4))),zw (.st 1 [] (.t 112) (.t 111))])
 (.exit 5))
 .skip))
 (zs (zr [1,3,7,8,9,10,11] [zc 10 (.bool false),zc 11 (.bool false)])
 (zs (zs (zr [1,3,7,8,9,10,11,12] [zc 12 (zI 0)])
 (.block 6 (.loop (zs (zs (zr [1,3,7,8,9,10,11,12,116] [zm 113 12,zm 114 7,zn 115 114,zb 116 .lss 113 115])
 (zC 116 .skip
 (.exit 6)))
 (zs (.block 7 (zs (.reg true [0,1,3,3,3,27,59,127,255,511] [1,3,7,8,9,10,11,12] [zm 119 10,zm 120 119,zg 120 false (zL 121 4 9),zg 120 false (zm 122 7),zg 120 false (zm 123 12),zg 120 false (zi 124 4 122 123),zg 120 false (zL 125 4 124),zg 120 false (zk 126 294 [.t 121,.t 125]),zy 127 (.pick (.t 120) (.c (.bool true)) (.t 126)),zm 10 127])
 (.reg true [0,1,3,3,3,3,51,115,255,511,1023] [1,3,7,8,9,10,11,12] [zm 128 11,zm 129 128,zg 129 false (zL 130 2 1),zg 129 false (zL 131 4 9),zg 129 false (zm 132 7),zg 129 false (zm 133 12),zg 129 false (zi 134 4 132 133),zg 129 false (zL 135 4 134),zg 129 false (zk 136 295 [.t 130,.t 131,.t 135]),zy 137 (.pick (.t 129) (.c (.bool true)) (.t 136)),zm 11 137])))
 (zr [1,3,7,8,9,10,11,12] [zm 117 12,zd 118 .add 117 (zI 1),zm 12 118]))))))
 (zs (zs (zr [1,3,7,8,9,11,138] [zm 138 10])
 (zC 138 (.reg true [0,0,2,6,0,16,48,112,254,511,1023] [1,3,7,8,9,11] [zm 139 3,zm 140 3,zy 141 (.iadS 1 (.t 140) (.c (zI 5))),zl 142 1 141,zm 143 8,zk 144 290 [.t 143],zy 145 (.bld [zI 0,.str []] [(0,1,(.c (zI 5))),(1,1,.t 144)]),zy 146 (.bls 2 1 [zI 0,.str []] [] [(0,.t 145)]),zy 147 (.app 2 24 false (.t 142) (.t 146)),zy 148 (.iadS 1 (.t 139) (.c (zI 5))),zw (.st 1 [] (.t 148) (.t 147))])
 .skip))
 (zs (zs (zr [1,3,7,8,9,149] [zm 149 11])
 (zC 149 (.reg true [0,0,2,6,0,16,48,112,254,511,1023] [1,3,7,8,9] [zm 150 3,zm 151 3,zy 152 (.iadS 1 (.t 151) (.c (zI 6))),zl 153 1 152,zm 154 8,zk 155 290 [.t 154],zy 156 (.bld [zI 0,.str []] [(0,1,(.c (zI 6))),(1,1,.t 155)]),zy 157 (.bls 2 1 [zI 0,.str []] [] [(0,.t 156)]),zy 158 (.app 2 24 false (.t 153) (.t 157)),zy 159 (.iadS 1 (.t 150) (.c (zI 6))),zw (.st 1 [] (.t 159) (.t 158))])
 .skip))
 (zr [1,3,7,8] [zm 160 7,zL 161 4 9,zy 162 (.bls 4 1 [zI 0,zI 0,zI 0,zI 0] [] [(0,.t 161)]),zy 163 (.app 4 32 false (.t 160) (.t 162)),zq 7 163])))))))))
 (zr [1,3,7,8] [zm 78 8,zd 79 .add 78 (zI 1),zm 8 79]))))))
 (zs (zr [3,13] [zy 13 (.nilo 2)])
 (zs (zs (zr [3,13,14] [zc 14 (zI 0)])
 (.block 8 (.loop (zs (zs (zr [3,13,14,167] [zm 164 14,zm 165 3,zn 166 165,zb 167 .lss 164 166])
 (zC 167 .skip
 (.exit 8)))
 (zs (.block 9 (zr [3,13,14] [zm 170 13,zm 171 3,zm 172 14,zi 173 1 171 172,zl 174 1 173,zy 175 (.app 2 24 false (.t 170) (.t 174)),zq 13 175]))
 (zr [3,13,14] [zm 168 14,zd 169 .add 168 (zI 1),zm 14 169]))))))
 (zs (zr [2] [zq 176 13,zq 2 176])
 .ret)))))))) }
def N267 : az:={ np:=2,nt:=20,res:=[(4,none)],body :=
 (zs (zr [0,1] [zc 4 (zI 0)])
 (zs (zr [0,1,5] [zm 7 0,zk 8 299 [.t 7],zm 5 8])
 (zs (zr [0,1,5,6] [zm 9 1,zk 10 299 [.t 9],zm 6 10])
 (zs (zs (zr [0,1,6,11] [zm 11 5])
 (zC 11 (zs (zs (zr [12] [zm 12 6])
 (zC 12 (zs (zr [4] [zc 4 (zI 0)])
 .ret)
 .skip))
 (zs (zr [4] [zy 4 (.mov (.c (zI (-1))))])
 .ret))
 .skip))
 (zs (zs (zr [0,1,13] [zm 13 6])
 (zC 13 (zs (zr [4] [zc 4 (zI 1)])
 .ret)
 .skip))
 (zs (zs (zr [0,1,16] [zm 14 0,zm 15 1,zb 16 .lss 14 15])
 (zC 16 (zs (zr [4] [zy 4 (.mov (.c (zI (-1))))])
 .ret)
 .skip))
 (zs (zs (zr [19] [zm 17 0,zm 18 1,zb 19 .gtr 17 18])
 (zC 19 (zs (zr [4] [zc 4 (zI 1)])
 .ret)
 .skip))
 (zs (zr [4] [zc 4 (zI 0)])
 .ret)))))))) }
def N269 : az:={ np:=2,nt:=25,res:=[(4,some (2,true)),(5,none),(6,none)],body :=
 (zs (zr [2,3,4] [zo 2 0,zo 3 1,zy 4 (.alc [zI 0,zI 0]),zc 5 (zI 0),zc 6 (zI 0)])
 (zs (zr [2,3,4,6,7] [zL 9 2 2,zL 10 2 3,zk 11 274 [.t 9,.t 10],zm 8 11,zx 12 0 8,zx 13 1 8,zm 7 12,zm 6 13])
 (zs (zs (zr [2,3,4,6,7,15] [zm 14 6,zd 15 .neq 14 (zI 0)])
 (zC 15 (zs (zr [4,5,6] [zy 16 (.bld [zI 0,zI 0] []),zm 17 6,zw (.st 2 [] (.t 4) (.t 16)),zc 5 (zI 0),zm 6 17])
 .ret)
 .skip))
 (zs (zr [4,5,6] [zL 18 2 2,zm 19 7,zL 20 2 3,zk 21 300 [.t 18,.t 19,.t 20],zx 22 0 21,zx 23 1 21,zx 24 2 21,zw (.st 2 [] (.t 4) (.t 22)),zm 5 23,zm 6 24])
 .ret)))) }
def N271 : az:={ np:=2,nt:=11,res:=[(4,none),(5,none)],body :=
 (zs (zr [1,2] [zo 2 0,zc 4 (zI 0),zc 5 (zI 0)])
 (zs (zr [4,5] [zL 6 2 2,zm 7 1,zk 8 301 [.t 6,.t 7,(.c (.bool false))],zx 9 0 8,zx 10 1 8,zm 4 9,zm 5 10])
 .ret)) }
def N272 : az:={ np:=2,nt:=11,res:=[(4,none),(5,none)],body :=
 (zs (zr [1,2] [zo 2 0,zc 4 (zI 0),zc 5 (zI 0)])
 (zs (zr [4,5] [zL 6 2 2,zm 7 1,zk 8 301 [.t 6,.t 7,(.c (.bool true))],zx 9 0 8,zx 10 1 8,zm 4 9,zm 5 10])
 .ret)) }
def N273 : az:={ np:=1,nt:=202,res:=[(2,none),(3,none)],body :=
 (zs (zr [1] [zo 1 0,zc 2 .nils,zc 3 (zI 0)])
 (zs (zs (zr [1,24] [zL 22 2 1,zk 23 302 [.t 22],zt 24 23])
 (zC 24 (zs (zr [2,3] [zc 2 .nils,zc 3 (zI 4)])
 .ret)
 .skip))
 (zs (zr [1,4] [zy 4 (.alc [.own 1 [],.own 1 [],.own 1 [],.own 1 [],.own 1 [],.own 1 [],.own 1 []])])
 (zs (zr [1,4,5] [zf 25 0 1,zl 26 1 25,zn 27 26,zy 28 (.mks 1 1 [.bool false] (.t 27) (.t 27)),zy 5 (.alc [.own 1 []]),zw (.st 1 [] (.t 5) (.t 28))])
 (zs (zr [1,4,5,6] [zy 29 (.mkm 4 1),zm 6 29])
 (zs (zs (zr [1,4,5,6,31,32,33] [zf 30 0 1,zl 31 1 30,zn 32 31,zc 33 (zI 0)])
 (.block 0 (.loop (zs (zr [1,4,5,6,31,32,33,34] [zb 34 .lss 33 32])
 (zs (zC 34 .skip
 (.exit 0))
 (zs (.block 1 (zs (zr [1,4,5,6,7,8,31,32,33] [zm 35 33,zi 36 3 31 33,zL 37 3 36,zy 8 (.alc [zI 0,zI 0,zI 0]),zm 7 35,zw (.st 3 [] (.t 8) (.t 37))])
 (zs (zs (.reg true [0,0,0,4,12,31,63] [1,4,5,6,7,31,32,33] [zl 38 1 5,zm 39 7,zL 40 3 8,zk 41 303 [.t 40],zt 42 41,zi 43 1 38 39,zw (.st 1 [] (.t 43) (.t 42))])
 (zs (zr [1,4,5,6,7,31,32,33,47] [zl 44 1 5,zm 45 7,zi 46 1 44 45,zl 47 1 46])
 (zC 47 (zs (zr [1,4,5,6,31,32,33] [zy 48 (.iadA 7 1 (.t 4) (.c (zI 1))),zl 49 1 48,zm 50 7,zy 51 (.bls 1 1 [zI 0] [] [(0,.t 50)]),zy 52 (.app 1 8 false (.t 49) (.t 51)),zy 53 (.iadA 7 1 (.t 4) (.c (zI 1))),zw (.st 1 [] (.t 53) (.t 52))])
 (.exit 1))
 .skip)))
 (zs (zr [1,4,5,6,7,9,31,32,33] [zL 54 2 1,zm 55 7,zk 56 304 [.t 54,.t 55],zy 9 (.alc [zI 0,zI 0]),zw (.st 2 [] (.t 9) (.t 56))])
 (zs (zs (zr [1,4,5,6,7,9,31,32,33,59] [zm 57 6,zL 58 2 9,zy 59 (.mpl (.ints .i64 2) 4 1 false (.bool false) (.t 57) (.t 58))])
 (zC 59 (zr [1,4,5,6,9,31,32,33] [zy 60 (.iadA 7 1 (.t 4) (.c (zI 2))),zl 61 1 60,zm 62 7,zy 63 (.bls 1 1 [zI 0] [] [(0,.t 62)]),zy 64 (.app 1 8 false (.t 61) (.t 63)),zy 65 (.iadA 7 1 (.t 4) (.c (zI 2))),zw (.st 1 [] (.t 65) (.t 64))])
 .skip))
 (zr [1,4,5,6,31,32,33] [zm 66 6,zL 67 2 9,zw (.mpu (.ints .i64 2) 4 1 (.bool false) (.t 66) (.t 67) (.c (.bool true)))]))))))
 (zr [1,4,5,6,31,32,33] [zd 68 .add 33 (zI 1),zm 33 68])))))))
 (zs (zr [1,4,5,10] [zy 69 (.mkm 3 1),zm 10 69])
 (zs (zr [1,4,5,10,11] [zy 11 (.nilo 6)])
 (zs (zs (zr [1,4,5,10,11,71,72,73] [zf 70 1 1,zl 71 1 70,zn 72 71,zc 73 (zI 0)])
 (.block 2 (.loop (zs (zr [1,4,5,10,11,71,72,73,74] [zb 74 .lss 73 72])
 (zs (zC 74 .skip
 (.exit 2))
 (zs (.block 3 (zs (zr [1,4,5,10,11,12,13,71,72,73] [zm 75 73,zi 76 4 71 73,zL 77 4 76,zy 13 (.alc [zI 0,zI 0,zI 0,zI 0]),zm 12 75,zw (.st 4 [] (.t 13) (.t 77))])
 (zs (zr [1,4,5,10,11,12,13,14,71,72,73] [zL 78 4 13,zk 79 305 [.t 78],zy 14 (.alc [zI 0,zI 0,zI 0]),zw (.st 3 [] (.t 14) (.t 79))])
 (zs (zs (zr [1,4,5,10,11,12,13,71,72,73,113] [zy 80 (.slM 3 1 (.t 14)),zy 81 (.mk 306 [.t 1,.t 5]),zk 82 11 [.t 80,.t 81],zm 83 82,zg 83 false (zf 84 0 13),zg 83 false (zl 85 1 84),zg 83 false (zf 86 1 13),zg 83 false (zl 87 1 86),zg 83 false (zb 88 .eql 85 87),zy 89 (.pick (.t 83) (.c (.bool true)) (.t 88)),zm 90 89,zg 90 false (zf 91 1 13),zg 90 false (zl 92 1 91),zg 90 false (zf 93 2 13),zg 90 false (zl 94 1 93),zg 90 false (zb 95 .eql 92 94),zy 96 (.pick (.t 90) (.c (.bool true)) (.t 95)),zm 97 96,zg 97 false (zf 98 2 13),zg 97 false (zl 99 1 98),zg 97 false (zf 100 0 13),zg 97 false (zl 101 1 100),zg 97 false (zb 102 .eql 99 101),zy 103 (.pick (.t 97) (.c (.bool true)) (.t 102)),zm 104 103,zg 104 false (zf 105 3 13),zg 104 false (zl 106 1 105),zg 104 false (zd 107 .lss 106 (zI 0)),zy 108 (.pick (.t 104) (.c (.bool true)) (.t 107)),zm 109 108,zg 109 false (zf 110 3 13),zg 109 false (zl 111 1 110),zg 109 false (zd 112 .geq 111 (zI 16)),zy 113 (.pick (.t 109) (.c (.bool true)) (.t 112))])
 (zC 113 (zs (zr [1,4,5,10,11,71,72,73] [zy 114 (.iadA 7 1 (.t 4) (.c (zI 3))),zl 115 1 114,zm 116 12,zy 117 (.bls 1 1 [zI 0] [] [(0,.t 116)]),zy 118 (.app 1 8 false (.t 115) (.t 117)),zy 119 (.iadA 7 1 (.t 4) (.c (zI 3))),zw (.st 1 [] (.t 119) (.t 118))])
 (.exit 3))
 .skip))
 (zs (zr [1,4,5,10,11,12,13,15,71,72,73] [zL 120 2 1,zL 121 4 13,zk 122 307 [.t 120,.t 121],zy 15 (.alc [zI 0,zI 0,zI 0,zI 0,zI 0,zI 0]),zw (.st 6 [] (.t 15) (.t 122))])
 (zs (zs (zr [1,4,5,10,11,12,13,15,71,72,73,130] [zy 123 (.iadA 3 2 (.t 15) (.c (zI 0))),zL 124 2 123,zy 125 (.iadA 3 2 (.t 15) (.c (zI 1))),zL 126 2 125,zy 127 (.iadA 3 2 (.t 15) (.c (zI 2))),zL 128 2 127,zk 129 308 [.t 124,.t 126,.t 128],zd 130 .leq 129 (zI 0)])
 (zC 130 (zs (zr [1,4,5,10,11,71,72,73] [zy 131 (.iadA 7 1 (.t 4) (.c (zI 4))),zl 132 1 131,zm 133 12,zy 134 (.bls 1 1 [zI 0] [] [(0,.t 133)]),zy 135 (.app 1 8 false (.t 132) (.t 134)),zy 136 (.iadA 7 1 (.t 4) (.c (zI 4))),zw (.st 1 [] (.t 136) (.t 135))])
 (.exit 3))
 .skip))
 (zs (zs (zr [1,4,5,10,11,12,13,15,71,72,73,152] [zm 137 10,zL 138 4 13,zk 139 298 [.t 138,(.c (zI 0))],zy 140 (.mpl (.ints .i64 2) 3 1 false (.bool false) (.t 137) (.t 139)),zm 141 140,zg 141 false (zm 142 10),zg 141 false (zL 143 4 13),zg 141 false (zk 144 298 [.t 143,(.c (zI 1))]),zg 141 false (zy 145 (.mpl (.ints .i64 2) 3 1 false (.bool false) (.t 142) (.t 144))),zy 146 (.pick (.t 141) (.c (.bool true)) (.t 145)),zm 147 146,zg 147 false (zm 148 10),zg 147 false (zL 149 4 13),zg 147 false (zk 150 298 [.t 149,(.c (zI 2))]),zg 147 false (zy 151 (.mpl (.ints .i64 2) 3 1 false (.bool false) (.t 148) (.t 150))),zy 152 (.pick (.t 147) (.c (.bool true)) (.t 151))])
 (zC 152 (zr [1,4,5,10,11,12,13,15,71,72,73] [zy 153 (.iadA 7 1 (.t 4) (.c (zI 5))),zl 154 1 153,zm 155 12,zy 156 (.bls 1 1 [zI 0] [] [(0,.t 155)]),zy 157 (.app 1 8 false (.t 154) (.t 156)),zy 158 (.iadA 7 1 (.t 4) (.c (zI 5))),zw (.st 1 [] (.t 158) (.t 157))])
 .skip))
 (zs (zs (zr [1,4,5,10,11,12,13,15,71,72,73,159] [zc 159 (zI 0)])
 (.block 4 (.loop (zs (zr [1,4,5,10,11,12,13,15,71,72,73,159,160] [zd 160 .lss 159 (zI 3)])
 (zs (zC 160 .skip
 (.exit 4))
 (zs (.block 5 (zs (zr [1,4,5,10,11,12,13,15,16,71,72,73,159] [zm 161 159,zm 16 161])
 (zr [1,4,5,10,11,12,13,15,71,72,73,159] [zm 162 10,zL 163 4 13,zm 164 16,zk 165 298 [.t 163,.t 164],zw (.mpu (.ints .i64 2) 3 1 (.bool false) (.t 162) (.t 165) (.c (.bool true)))])))
 (zr [1,4,5,10,11,12,13,15,71,72,73,159] [zd 166 .add 159 (zI 1),zm 159 166])))))))
 (zs (zs (zr [1,4,5,10,11,12,15,71,72,73,169] [zm 167 11,zy 168 (.mk 310 [.t 15]),zk 169 309 [.t 167,.t 168]])
 (zC 169 (zr [1,4,5,10,11,15,71,72,73] [zy 170 (.iadA 7 1 (.t 4) (.c (zI 6))),zl 171 1 170,zm 172 12,zy 173 (.bls 1 1 [zI 0] [] [(0,.t 172)]),zy 174 (.app 1 8 false (.t 171) (.t 173)),zy 175 (.iadA 7 1 (.t 4) (.c (zI 6))),zw (.st 1 [] (.t 175) (.t 174))])
 .skip))
 (zr [1,4,5,10,11,71,72,73] [zm 176 11,zL 177 6 15,zy 178 (.bls 6 1 [zI 0,zI 0,zI 0,zI 0,zI 0,zI 0] [] [(0,.t 177)]),zy 179 (.app 6 48 false (.t 176) (.t 178)),zq 11 179]))))))))))
 (zr [1,4,5,10,11,71,72,73] [zd 180 .add 73 (zI 1),zm 73 180])))))))
 (zs (zr [4,17] [zy 17 (.nilo 2)])
 (zs (zs (zr [17,181,182] [zL 181 7 4,zc 182 (zI 0)])
 (.block 6 (.loop (zs (zr [17,181,182,183] [zd 183 .lss 182 (zI 7)])
 (zs (zC 183 .skip
 (.exit 6))
 (zs (.block 7 (zs (zr [17,18,19,181,182] [zm 184 182,zy 185 (.idxA 7 1 false (.t 181) (.t 182)),zm 18 184,zq 19 185])
 (zs (zr [17,18,181,182,186,187,188] [zq 186 19,zn 187 186,zc 188 (zI 0)])
 (.block 8 (.loop (zs (zr [17,18,181,182,186,187,188,189] [zb 189 .lss 188 187])
 (zs (zC 189 .skip
 (.exit 8))
 (zs (.block 9 (zs (zr [17,18,21,181,182,186,187,188] [zi 190 1 186 188,zl 191 1 190,zm 21 191])
 (zr [17,18,181,182,186,187,188] [zm 192 17,zm 193 18,zm 194 21,zk 195 127 [.t 194],zy 196 (.bld [zI 0,.str []] [(0,1,.t 193),(1,1,.t 195)]),zy 197 (.bls 2 1 [zI 0,.str []] [] [(0,.t 196)]),zy 198 (.app 2 24 false (.t 192) (.t 197)),zq 17 198])))
 (zr [17,18,181,182,186,187,188] [zd 199 .add 188 (zI 1),zm 188 199])))))))))
 (zr [17,181,182] [zd 200 .add 182 (zI 1),zm 182 200])))))))
 (zs (zr [2,3] [zq 201 17,zq 2 201,zc 3 (zI 0)])
 .ret)))))))))))) }
def N274 : az:={ np:=2,nt:=18,res:=[(4,none),(5,none)],body :=
 (zs (zr [2,3] [zo 2 0,zo 3 1,zc 4 (zI 0),zc 5 (zI 0)])
 (zs (zs (zr [2,3,11] [zL 7 2 2,zL 8 2 3,zy 9 (.bls 2 1 [zI 0,zI 0] [] [(0,.t 8)]),zk 10 275 [.t 7,.t 9],zt 11 10])
 (zC 11 (zs (zr [4,5] [zc 4 (zI 0),zc 5 (zI 1)])
 .ret)
 .skip))
 (zs (zr [6] [zL 12 2 2,zL 13 2 3,zk 14 276 [.t 12,.t 13],zm 6 14])
 (zs (zs (zr [6,16] [zm 15 6,zd 16 .lss 15 (zI 0)])
 (zC 16 (zs (zr [4,5] [zc 4 (zI 0),zc 5 (zI 12)])
 .ret)
 .skip))
 (zs (zr [4,5] [zm 17 6,zm 4 17,zc 5 (zI 0)])
 .ret))))) }
def N275 : az:={ np:=2,nt:=12,res:=[(4,none)],body :=
 (zs (zr [1,2] [zo 2 0,zc 4 (.bool false)])
 (zs (zr [4] [zL 5 2 2,zk 6 234 [.t 5],zm 7 6,zg 7 true (zq 8 1),zg 7 true (zy 9 (.call 239 [.t 8,(.c (.fn 312 []))] [])),zg 7 true (zt 10 9),zy 11 (.pick (.t 7) (.t 10) (.c (.bool false))),zm 4 11])
 .ret)) }
def N276 : az:={ np:=2,nt:=19,res:=[(4,none)],body :=
 (zs (zr [2,3] [zo 2 0,zo 3 1,zc 4 (zI 0)])
 (zs (zs (zr [2,3,8,9] [zf 6 1 2,zl 7 1 6,zn 8 7,zc 9 (zI 0)])
 (.block 0 (.loop (zs (zr [2,3,8,9,10] [zb 10 .lss 9 8])
 (zs (zC 10 .skip
 (.exit 0))
 (zs (.block 1 (zs (zr [2,3,5,8,9] [zm 11 9,zm 5 11])
 (zs (zr [2,3,5,8,9,16] [zL 12 2 2,zm 13 5,zL 14 2 3,zk 15 284 [.t 12,.t 13,.t 14],zd 16 .lss 15 (zI 0)])
 (zC 16 (zs (zr [4] [zm 17 5,zm 4 17])
 .ret)
 .skip))))
 (zr [2,3,8,9] [zd 18 .add 9 (zI 1),zm 9 18])))))))
 (zs (zr [4] [zy 4 (.mov (.c (zI (-1))))])
 .ret))) }
def N278 : az:={ np:=2,nt:=19,res:=[(4,none)],body :=
 (zs (zr [0,1] [zc 4 (zI 0)])
 (zs (zs (zr [0,1,7,8] [zm 6 0,zn 7 6,zc 8 (zI 0)])
 (.block 0 (.loop (zs (zr [0,1,7,8,9] [zb 9 .lss 8 7])
 (zs (zC 9 .skip
 (.exit 0))
 (zs (.block 1 (zs (zr [0,1,5,7,8] [zm 10 8,zm 5 10])
 (zs (zr [0,1,5,7,8,16] [zm 11 1,zm 12 0,zm 13 5,zi 14 2 12 13,zL 15 2 14,zy 16 (.callv (.t 11) [.t 15])])
 (zC 16 (zs (zr [4] [zm 17 5,zm 4 17])
 .ret)
 .skip))))
 (zr [0,1,7,8] [zd 18 .add 8 (zI 1),zm 8 18])))))))
 (zs (zr [4] [zy 4 (.mov (.c (zI (-1))))])
 .ret))) }
def N284 : az:={ np:=3,nt:=30,res:=[(6,none)],body :=
 (zs (zr [1,3,5] [zo 3 0,zo 5 2,zc 6 (zI 0)])
 (zs (zr [5,7] [zL 9 2 3,zm 10 1,zk 11 319 [.t 9,.t 10],zy 7 (.alc [zI 0,zI 0,zI 0,zI 0,zI 0,zI 0,zI 0,zI 0,zI 0]),zw (.st 9 [] (.t 7) (.t 11))])
 (zs (zs (zr [5,7,12] [zc 12 (zI 0)])
 (.block 0 (.loop (zs (zr [5,7,12,13] [zd 13 .lss 12 (zI 3)])
 (zs (zC 13 .skip
 (.exit 0))
 (zs (.block 1 (zs (zr [5,7,8,12] [zm 14 12,zm 8 14])
 (zs (.reg true [0,1,3,7,0,16,48,112,240,511,0,2047,4095] [5,7,8,12,27] [zm 15 8,zy 16 (.iadA 3 3 (.t 7) (.t 15)),zL 17 3 16,zk 18 321 [.t 17],zm 19 8,zd 20 .add 19 (zI 1),zd 21 .rem 20 (zI 3),zy 22 (.iadA 3 3 (.t 7) (.t 21)),zL 23 3 22,zk 24 321 [.t 23],zL 25 2 5,zk 26 320 [.t 18,.t 24,.t 25],zd 27 .lss 26 (zI 0)])
 (zC 27 (zs (zr [6] [zm 28 8,zm 6 28])
 .ret)
 .skip))))
 (zr [5,7,12] [zd 29 .add 12 (zI 1),zm 12 29])))))))
 (zs (zr [6] [zy 6 (.mov (.c (zI (-1))))])
 .ret)))) }
def N285 : az:={ np:=2,nt:=27,res:=[(4,none)],body :=
 (zs (zr [2,3] [zo 2 0,zo 3 1,zc 4 .nils])
 (zs (.reg true [0,1,0,4,15,31,63,0,128,0,512,1920,3968,8191,0,16384,0,65536,245760,507904,1048575,2097151,4194303] [4] [zf 5 0 2,zl 6 1 5,zf 7 0 3,zl 8 1 7,zi 9 3 6 8,zL 10 3 9,zk 11 291 [.t 10],zf 12 0 2,zl 13 1 12,zf 14 1 3,zl 15 1 14,zi 16 3 13 15,zL 17 3 16,zk 18 291 [.t 17],zf 19 0 2,zl 20 1 19,zf 21 2 3,zl 22 1 21,zi 23 3 20 22,zL 24 3 23,zk 25 291 [.t 24],zy 26 (.bls 2 3 [zI 0,zI 0] [] [(0,.t 11),(1,.t 18),(2,.t 25)]),zq 4 26])
 .ret)) }
def N286 : az:={ np:=3,nt:=30,res:=[(6,none)],body :=
 (zs (zr [3,4,5] [zo 3 0,zo 4 1,zo 5 2,zc 6 (zI 0)])
 (zs (zr [6] [zf 7 0 4,zl 8 1 7,zf 9 0 3,zl 10 1 9,zb 11 .sub 8 10,zf 12 1 5,zl 13 1 12,zf 14 1 3,zl 15 1 14,zb 16 .sub 13 15,zb 17 .mul 11 16,zf 18 1 4,zl 19 1 18,zf 20 1 3,zl 21 1 20,zb 22 .sub 19 21,zf 23 0 5,zl 24 1 23,zf 25 0 3,zl 26 1 25,zb 27 .sub 24 26,zb 28 .mul 22 27,zb 29 .sub 17 28,zm 6 29])
 .ret)) }
def N289 : az:={ np:=1,nt:=31,res:=[(2,none)],body :=
 (zs (zr [1] [zo 1 0,zc 2 (.bool false)])
 (zs (zr [2] [zf 3 0 1,zl 4 1 3,zy 5 (.bin .geq (.t 4) (.c (zI (-16777216)))),zm 6 5,zg 6 true (zf 7 0 1),zg 6 true (zl 8 1 7),zg 6 true (zd 9 .leq 8 (zI 16777216)),zy 10 (.pick (.t 6) (.t 9) (.c (.bool false))),zm 11 10,zg 11 true (zf 12 1 1),zg 11 true (zl 13 1 12),zg 11 true (zy 14 (.bin .geq (.t 13) (.c (zI (-16777216))))),zy 15 (.pick (.t 11) (.t 14) (.c (.bool false))),zm 16 15,zg 16 true (zf 17 1 1),zg 16 true (zl 18 1 17),zg 16 true (zd 19 .leq 18 (zI 16777216)),zy 20 (.pick (.t 16) (.t 19) (.c (.bool false))),zm 21 20,zg 21 true (zf 22 2 1),zg 21 true (zl 23 1 22),zg 21 true (zy 24 (.bin .geq (.t 23) (.c (zI (-4194304))))),zy 25 (.pick (.t 21) (.t 24) (.c (.bool false))),zm 26 25,zg 26 true (zf 27 2 1),zg 26 true (zl 28 1 27),zg 26 true (zd 29 .leq 28 (zI 4194304)),zy 30 (.pick (.t 26) (.t 29) (.c (.bool false))),zm 2 30])
 .ret)) }
def N290 : az:={ np:=1,nt:=21,res:=[(2,none)],body :=
 (zs (zr [0] [zc 2 (.str [])])
 (zs (zr [0,3] [zc 3 (.str [])])
 (zs (.block 0 (.loop (zs (zs (zr [0,3,9] [zm 4 0,zd 5 .gtr 4 (zI 0),zm 6 5,zg 6 false (zm 7 3),zg 6 false (zd 8 .eql 7 (.str [])),zy 9 (.pick (.t 6) (.c (.bool true)) (.t 8))])
 (zC 9 .skip
 (.exit 0)))
 (.block 1 (zs (zr [0,3] [zm 10 0,zd 11 .rem 10 (zI 10),zy 12 (.bin .add (.c (zI 48)) (.t 11)),zy 13 (.conv .u8 (.t 12)),zy 14 (.blsF 1 1 [.int .u8 0] [(0,.t 13)]),zy 15 (.cvS (.t 14)),zm 16 3,zb 17 .add 15 16,zm 3 17])
 (zr [0,3] [zm 18 0,zd 19 .quo 18 (zI 10),zm 0 19]))))))
 (zs (zr [2] [zm 20 3,zm 2 20])
 .ret)))) }
def N291 : az:={ np:=1,nt:=8,res:=[(2,some (2,true))],body :=
 (zs (zr [1,2] [zo 1 0,zy 2 (.alc [zI 0,zI 0])])
 (zs (zr [2] [zf 3 0 1,zl 4 1 3,zf 5 1 1,zl 6 1 5,zy 7 (.bld [zI 0,zI 0] [(0,1,.t 4),(1,1,.t 6)]),zw (.st 2 [] (.t 2) (.t 7))])
 .ret)) }
def N292 : az:={ np:=2,nt:=66,res:=[(4,none)],body :=
 (zs (zr [2,3] [zo 2 0,zo 3 1,zc 4 (.bool false)])
 (zs (zr [2,3,5] [zf 7 0 3,zl 8 1 7,zf 9 1 3,zl 10 1 9,zf 11 2 3,zl 12 1 11,zy 13 (.bls 1 3 [zI 0] [] [(0,.t 8),(1,.t 10),(2,.t 12)]),zq 5 13])
 (zs (zs (zr [2,3,5,6] [zc 6 (zI 0)])
 (.block 0 (.loop (zs (zs (zr [2,3,5,6,15] [zm 14 6,zd 15 .lss 14 (zI 3)])
 (zC 15 .skip
 (.exit 0)))
 (zs (.block 1 (zs (.reg true [0,0,3,7,15,31,63,63,255,511,63,1087,3135,8191,16383,32767,65535,65535,262143,524287,65535,65535,2162687,6356991,15794175,32571391,67108863,134217727,268435455,536870911,1073741823,536870911,536870911,6979321855,15569256447,34359738367,68719476735,137438953471,274877906943,549755813887] [2,3,5,6,57] [zm 18 5,zm 19 6,zi 20 1 18 19,zl 21 1 20,zd 22 .lss 21 (zI 0),zm 23 22,zg 23 false (zm 24 5),zg 23 false (zm 25 6),zg 23 false (zi 26 1 24 25),zg 23 false (zl 27 1 26),zg 23 false (zf 28 0 2),zg 23 false (zl 29 1 28),zg 23 false (zn 30 29),zg 23 false (zb 31 .geq 27 30),zy 32 (.pick (.t 23) (.c (.bool true)) (.t 31)),zm 33 32,zg 33 false (zm 34 5),zg 33 false (zm 35 6),zg 33 false (zi 36 1 34 35),zg 33 false (zl 37 1 36),zg 33 false (zm 38 5),zg 33 false (zm 39 6),zg 33 false (zd 40 .add 39 (zI 1)),zg 33 false (zd 41 .rem 40 (zI 3)),zg 33 false (zi 42 1 38 41),zg 33 false (zl 43 1 42),zg 33 false (zb 44 .eql 37 43),zy 45 (.pick (.t 33) (.c (.bool true)) (.t 44)),zm 46 45,zg 46 false (zf 47 0 2),zg 46 false (zl 48 1 47),zg 46 false (zm 49 5),zg 46 false (zm 50 6),zg 46 false (zi 51 1 49 50),zg 46 false (zl 52 1 51),zg 46 false (zi 53 3 48 52),zg 46 false (zL 54 3 53),zg 46 false (zk 55 289 [.t 54]),zg 46 false (zt 56 55),zy 57 (.pick (.t 46) (.c (.bool true)) (.t 56))])
 (zC 57 (zs (zr [4] [zc 4 (.bool false)])
 .ret)
 .skip)))
 (zr [2,3,5,6] [zm 16 6,zd 17 .add 16 (zI 1),zm 6 17]))))))
 (zs (zr [4] [zf 58 3 3,zl 59 1 58,zd 60 .geq 59 (zI 0),zm 61 60,zg 61 true (zf 62 3 3),zg 61 true (zl 63 1 62),zg 61 true (zd 64 .lss 63 (zI 16)),zy 65 (.pick (.t 61) (.t 64) (.c (.bool false))),zm 4 65])
 .ret)))) }
def N293 : az:={ np:=2,nt:=19,res:=[(4,none)],body :=
 (zs (zr [2,3] [zo 2 0,zo 3 1,zc 4 (zI 0)])
 (zs (zr [5] [zL 6 2 2,zL 7 4 3,zk 8 285 [.t 6,.t 7],zq 5 8])
 (zs (.reg true [0,1,3,0,8,24,0,64,192,511,1023] [4] [zm 9 5,zy 10 (.iadS 2 (.t 9) (.c (zI 0))),zL 11 2 10,zm 12 5,zy 13 (.iadS 2 (.t 12) (.c (zI 1))),zL 14 2 13,zq 15 5,zy 16 (.iadS 2 (.t 15) (.c (zI 2))),zL 17 2 16,zk 18 286 [.t 11,.t 14,.t 17],zm 4 18])
 .ret))) }
def N294 : az:={ np:=2,nt:=33,res:=[(4,none)],body :=
 (zs (zr [2,3] [zo 2 0,zo 3 1,zc 4 (.bool false)])
 (zs (zs (zr [2,3,5] [zc 5 (zI 0)])
 (.block 0 (.loop (zs (zs (zr [2,3,5,8] [zm 7 5,zd 8 .lss 7 (zI 3)])
 (zC 8 .skip
 (.exit 0)))
 (zs (.block 1 (zs (zr [2,3,5,6] [zc 6 (zI 0)])
 (.block 2 (.loop (zs (zs (zr [2,3,5,6,12] [zm 11 6,zd 12 .lss 11 (zI 3)])
 (zC 12 .skip
 (.exit 2)))
 (zs (.block 3 (zs (.reg true [0,0,3,0,0,31,63,127,255,255,767,2047,255,255,8447,32767,65535,131071] [2,3,5,6,32] [zL 15 4 2,zm 16 5,zk 17 323 [.t 15,.t 16],zL 18 4 3,zm 19 6,zk 20 323 [.t 18,.t 19],zb 21 .eql 17 20,zm 22 21,zg 22 true (zL 23 4 2),zg 22 true (zm 24 5),zg 22 true (zd 25 .add 24 (zI 1)),zg 22 true (zk 26 323 [.t 23,.t 25]),zg 22 true (zL 27 4 3),zg 22 true (zm 28 6),zg 22 true (zd 29 .add 28 (zI 1)),zg 22 true (zk 30 323 [.t 27,.t 29]),zg 22 true (zb 31 .eql 26 30),zy 32 (.pick (.t 22) (.t 31) (.c (.bool false)))])
 (zC 32 (zs (zr [4] [zc 4 (.bool true)])
 .ret)
 .skip)))
 (zr [2,3,5,6] [zm 13 6,zd 14 .add 13 (zI 1),zm 6 14])))))))
 (zr [2,3,5] [zm 9 5,zd 10 .add 9 (zI 1),zm 5 10]))))))
 (zs (zr [4] [zc 4 (.bool false)])
 .ret))) }
def N295 : az:={ np:=3,nt:=25,res:=[(6,none)],body :=
 (zs (zr [3,4,5] [zo 3 0,zo 4 1,zo 5 2,zc 6 (.bool false)])
 (zs (.reg true [0,0,3,0,0,31,63,127] [7,8] [zL 9 2 3,zL 10 4 4,zk 11 285 [.t 9,.t 10],zL 12 2 3,zL 13 4 5,zk 14 285 [.t 12,.t 13],zq 7 11,zq 8 14])
 (zs (zr [6] [zm 15 7,zm 16 8,zk 17 324 [.t 15,.t 16],zt 18 17,zm 19 18,zg 19 true (zq 20 8),zg 19 true (zq 21 7),zg 19 true (zk 22 324 [.t 20,.t 21]),zg 19 true (zt 23 22),zy 24 (.pick (.t 19) (.t 23) (.c (.bool false))),zm 6 24])
 .ret))) }
def N298 : az:={ np:=2,nt:=17,res:=[(4,some (2,true))],body :=
 (zs (zr [1,2,4] [zo 2 0,zy 4 (.alc [zI 0,zI 0])])
 (zs (zr [1,4,5] [zL 6 4 2,zk 7 305 [.t 6],zy 5 (.alc [zI 0,zI 0,zI 0]),zw (.st 3 [] (.t 5) (.t 7))])
 (zs (.reg true [0,1,3,0,8,24,56,120,255,511] [4] [zm 8 1,zy 9 (.iadA 3 1 (.t 5) (.t 8)),zl 10 1 9,zm 11 1,zd 12 .add 11 (zI 1),zd 13 .rem 12 (zI 3),zy 14 (.iadA 3 1 (.t 5) (.t 13)),zl 15 1 14,zy 16 (.bld [zI 0,zI 0] [(0,1,.t 10),(1,1,.t 15)]),zw (.st 2 [] (.t 4) (.t 16))])
 .ret))) }
def N299 : az:={ np:=1,nt:=6,res:=[(2,none)],body :=
 (zs (zr [0] [zc 2 (.bool false)])
 (zs (zr [2] [zm 3 0,zm 4 0,zb 5 .neq 3 4,zm 2 5])
 .ret)) }
def N300 : az:={ np:=3,nt:=68,res:=[(6,some (2,true)),(7,none),(8,none)],body :=
 (zs (zr [1,3,5,6] [zo 3 0,zo 5 2,zy 6 (.alc [zI 0,zI 0]),zc 7 (zI 0),zc 8 (zI 0)])
 (zs (zr [5,6,9] [zL 14 2 3,zm 15 1,zk 16 319 [.t 14,.t 15],zy 9 (.alc [zI 0,zI 0,zI 0,zI 0,zI 0,zI 0,zI 0,zI 0,zI 0]),zw (.st 9 [] (.t 9) (.t 16))])
 (zs (zs (zr [5,6,9,17,18] [zL 17 9 9,zc 18 (zI 0)])
 (.block 0 (.loop (zs (zr [5,6,9,17,18,19] [zd 19 .lss 18 (zI 3)])
 (zs (zC 19 .skip
 (.exit 0))
 (zs (.block 1 (zs (zr [5,6,9,10,11,17,18] [zm 20 18,zy 21 (.idxA 3 3 true (.t 17) (.t 18)),zy 11 (.alc [zI 0,zI 0,zI 0]),zm 10 20,zw (.st 3 [] (.t 11) (.t 21))])
 (zs (.reg true [0,1,0,0,8,24,56,120,248,0,512,1536,3584,7680,16376,32764,65535,131071,262143,262143,0,1572863,4194303] [5,6,9,12,13,17,18] [zf 23 2 11,zl 24 1 23,zL 25 2 5,zm 26 10,zd 27 .add 26 (zI 1),zd 28 .rem 27 (zI 3),zy 29 (.iadA 3 3 (.t 9) (.t 28)),zL 30 3 29,zk 31 321 [.t 30],zm 32 10,zd 33 .add 32 (zI 2),zd 34 .rem 33 (zI 3),zy 35 (.iadA 3 3 (.t 9) (.t 34)),zL 36 3 35,zk 37 321 [.t 36],zk 38 320 [.t 25,.t 31,.t 37],zk 39 99 [.t 24,.t 38],zm 22 39,zx 40 0 22,zx 41 1 22,zy 12 (.alc [zI 0,zI 0]),zw (.st 2 [] (.t 12) (.t 40)),zm 13 41])
 (zs (zs (zr [5,6,9,12,13,17,18,43] [zm 42 13,zd 43 .neq 42 (zI 0)])
 (zC 43 (zs (zr [6,7,8] [zy 44 (.bld [zI 0,zI 0] []),zm 45 13,zw (.st 2 [] (.t 6) (.t 44)),zc 7 (zI 0),zm 8 45])
 .ret)
 .skip))
 (zs (zr [5,6,9,13,17,18] [zL 47 2 6,zL 48 2 12,zk 49 327 [.t 47,.t 48],zm 46 49,zx 50 0 46,zx 51 1 46,zw (.st 2 [] (.t 6) (.t 50)),zm 13 51])
 (zs (zr [5,6,9,13,17,18,53] [zm 52 13,zd 53 .neq 52 (zI 0)])
 (zC 53 (zs (zr [6,7,8] [zy 54 (.bld [zI 0,zI 0] []),zm 55 13,zw (.st 2 [] (.t 6) (.t 54)),zc 7 (zI 0),zm 8 55])
 .ret)
 .skip)))))))
 (zr [5,6,9,17,18] [zd 56 .add 18 (zI 1),zm 18 56])))))))
 (zs (.reg true [0,0,2,6,0,16,62,0,128,510,1022,2047,4095,8191] [6,7,8] [zL 57 2 6,zy 58 (.iadA 3 3 (.t 9) (.c (zI 0))),zL 59 3 58,zk 60 321 [.t 59],zy 61 (.iadA 3 3 (.t 9) (.c (zI 1))),zL 62 3 61,zk 63 321 [.t 62],zy 64 (.iadA 3 3 (.t 9) (.c (zI 2))),zL 65 3 64,zk 66 321 [.t 65],zk 67 320 [.t 60,.t 63,.t 66],zw (.st 2 [] (.t 6) (.t 57)),zm 7 67,zc 8 (zI 0)])
 .ret)))) }
def N301 : az:={ np:=3,nt:=20,res:=[(6,none),(7,none)],body :=
 (zs (zr [1,2,3] [zo 3 0,zc 6 (zI 0),zc 7 (zI 0)])
 (zs (zs (zr [1,2,3,10] [zL 8 2 3,zk 9 106 [.t 8],zt 10 9])
 (zC 10 (zs (zr [6,7] [zc 6 (zI 0),zc 7 (zI 1)])
 .ret)
 .skip))
 (zs (zs (zr [1,2,3,12] [zm 11 1,zd 12 .eql 11 (zI 0)])
 (zC 12 (zs (zr [6,7] [zc 6 (zI 0),zc 7 (zI 16)])
 .ret)
 .skip))
 (zs (zr [6,7] [zL 13 2 3,zk 14 108 [.t 13],zm 15 1,zm 16 2,zk 17 104 [.t 14,.t 15,.t 16],zx 18 0 17,zx 19 1 17,zm 6 18,zm 7 19])
 .ret)))) }
def N302 : az:={ np:=1,nt:=13,res:=[(2,none)],body :=
 (zs (zr [1] [zo 1 0,zc 2 (.bool false)])
 (zs (zr [2] [zf 3 0 1,zl 4 1 3,zn 5 4,zd 6 .leq 5 (zI 2000),zm 7 6,zg 7 true (zf 8 1 1),zg 7 true (zl 9 1 8),zg 7 true (zn 10 9),zg 7 true (zd 11 .leq 10 (zI 4000)),zy 12 (.pick (.t 7) (.t 11) (.c (.bool false))),zm 2 12])
 .ret)) }
def N303 : az:={ np:=1,nt:=19,res:=[(2,none)],body :=
 (zs (zr [1] [zo 1 0,zc 2 (.bool false)])
 (zs (zr [2] [zf 3 0 1,zl 4 1 3,zf 5 1 1,zl 6 1 5,zy 7 (.bld [zI 0,zI 0] [(0,1,.t 4),(1,1,.t 6)]),zk 8 313 [.t 7],zm 9 8,zg 9 true (zf 10 2 1),zg 9 true (zl 11 1 10),zg 9 true (zy 12 (.bin .geq (.t 11) (.c (zI (-4194304))))),zy 13 (.pick (.t 9) (.t 12) (.c (.bool false))),zm 14 13,zg 14 true (zf 15 2 1),zg 14 true (zl 16 1 15),zg 14 true (zd 17 .leq 16 (zI 4194304)),zy 18 (.pick (.t 14) (.t 17) (.c (.bool false))),zm 2 18])
 .ret)) }
def N304 : az:={ np:=2,nt:=18,res:=[(4,some (2,true))],body :=
 (zs (zr [1,2,4] [zo 2 0,zy 4 (.alc [zI 0,zI 0])])
 (zs (.reg true [0,1,0,7,15,31,0,64,0,448,960,1984,4095,8191] [4] [zf 5 0 2,zl 6 1 5,zm 7 1,zi 8 3 6 7,zf 9 0 8,zl 10 1 9,zf 11 0 2,zl 12 1 11,zm 13 1,zi 14 3 12 13,zf 15 1 14,zl 16 1 15,zy 17 (.bld [zI 0,zI 0] [(0,1,.t 10),(1,1,.t 16)]),zw (.st 2 [] (.t 4) (.t 17))])
 .ret)) }
def N305 : az:={ np:=1,nt:=10,res:=[(2,some (3,true))],body :=
 (zs (zr [1,2] [zo 1 0,zy 2 (.alc [zI 0,zI 0,zI 0])])
 (zs (zr [2] [zf 3 0 1,zl 4 1 3,zf 5 1 1,zl 6 1 5,zf 7 2 1,zl 8 1 7,zy 9 (.bld [zI 0,zI 0,zI 0] [(0,1,.t 4),(1,1,.t 6),(2,1,.t 8)]),zw (.st 3 [] (.t 2) (.t 9))])
 .ret)) }
def N306 : az:={ np:=3,nt:=20,res:=[(4,none)],body :=
 (zs (zr [0,1,2] [zc 4 (.bool false)])
 (zs (zr [4] [zm 5 0,zd 6 .lss 5 (zI 0),zm 7 6,zg 7 false (zm 8 0),zg 7 false (zf 9 0 1),zg 7 false (zl 10 1 9),zg 7 false (zn 11 10),zg 7 false (zb 12 .geq 8 11),zy 13 (.pick (.t 7) (.c (.bool true)) (.t 12)),zm 14 13,zg 14 false (zl 15 1 2),zg 14 false (zm 16 0),zg 14 false (zi 17 1 15 16),zg 14 false (zl 18 1 17),zy 19 (.pick (.t 14) (.c (.bool true)) (.t 18)),zm 4 19])
 .ret)) }
def N307 : az:={ np:=2,nt:=18,res:=[(4,some (6,true))],body :=
 (zs (zr [2,3,4] [zo 2 0,zo 3 1,zy 4 (.alc [zI 0,zI 0,zI 0,zI 0,zI 0,zI 0])])
 (zs (.reg true [0,0,2,7,0,0,32,127,0,0,512,2047,4095,8191] [4] [zL 5 2 2,zf 6 0 3,zl 7 1 6,zk 8 304 [.t 5,.t 7],zL 9 2 2,zf 10 1 3,zl 11 1 10,zk 12 304 [.t 9,.t 11],zL 13 2 2,zf 14 2 3,zl 15 1 14,zk 16 304 [.t 13,.t 15],zy 17 (.bld [zI 0,zI 0,zI 0,zI 0,zI 0,zI 0] [(0,2,.t 8),(2,2,.t 12),(4,2,.t 16)]),zw (.st 6 [] (.t 4) (.t 17))])
 .ret)) }
def N308 : az:={ np:=3,nt:=30,res:=[(6,none)],body :=
 (zs (zr [3,4,5] [zo 3 0,zo 4 1,zo 5 2,zc 6 (zI 0)])
 (zs (zr [6] [zf 7 0 4,zl 8 1 7,zf 9 0 3,zl 10 1 9,zb 11 .sub 8 10,zf 12 1 5,zl 13 1 12,zf 14 1 3,zl 15 1 14,zb 16 .sub 13 15,zb 17 .mul 11 16,zf 18 1 4,zl 19 1 18,zf 20 1 3,zl 21 1 20,zb 22 .sub 19 21,zf 23 0 5,zl 24 1 23,zf 25 0 3,zl 26 1 25,zb 27 .sub 24 26,zb 28 .mul 22 27,zb 29 .sub 17 28,zm 6 29])
 .ret)) }
def N309 : az:={ np:=2,nt:=9,res:=[(4,none)],body :=
 (zs (zr [0,1] [zc 4 (.bool false)])
 (zs (zr [4] [zq 5 0,zm 6 1,zk 7 328 [.t 5,.t 6],zd 8 .geq 7 (zI 0),zm 4 8])
 .ret)) }
def N310 : az:={ np:=2,nt:=14,res:=[(3,none)],body :=
 (zs (zr [1,2] [zo 2 0,zc 3 (.bool false)])
 (zs (zr [3] [zL 4 6 1,zL 5 6 2,zk 6 311 [.t 4,.t 5],zt 7 6,zm 8 7,zg 8 true (zL 9 6 2),zg 8 true (zL 10 6 1),zg 8 true (zk 11 311 [.t 9,.t 10]),zg 8 true (zt 12 11),zy 13 (.pick (.t 8) (.t 12) (.c (.bool false))),zm 3 13])
 .ret)) }
def N311 : az:={ np:=2,nt:=42,res:=[(4,none)],body :=
 (zs (zr [2,3] [zo 2 0,zo 3 1,zc 4 (.bool false)])
 (zs (zs (zr [2,3,8] [zc 8 (zI 0)])
 (.block 0 (.loop (zs (zr [2,3,8,9] [zd 9 .lss 8 (zI 3)])
 (zs (zC 9 .skip
 (.exit 0))
 (zs (.block 1 (zs (zr [2,3,5,8] [zm 10 8,zm 5 10])
 (zs (.reg true [0,1,3,0,8,24,56,120,0,0,775,2047] [2,3,6,7,8] [zm 11 5,zy 12 (.iadA 3 2 (.t 2) (.t 11)),zL 13 2 12,zm 14 5,zd 15 .add 14 (zI 1),zd 16 .rem 15 (zI 3),zy 17 (.iadA 3 2 (.t 2) (.t 16)),zL 18 2 17,zy 6 (.alc [zI 0,zI 0]),zy 7 (.alc [zI 0,zI 0]),zw (.st 2 [] (.t 6) (.t 13)),zw (.st 2 [] (.t 7) (.t 18))])
 (zs (zr [2,3,8,40] [zL 19 2 6,zL 20 2 7,zy 21 (.iadA 3 2 (.t 3) (.c (zI 0))),zL 22 2 21,zk 23 308 [.t 19,.t 20,.t 22],zd 24 .leq 23 (zI 0),zm 25 24,zg 25 true (zL 26 2 6),zg 25 true (zL 27 2 7),zg 25 true (zy 28 (.iadA 3 2 (.t 3) (.c (zI 1)))),zg 25 true (zL 29 2 28),zg 25 true (zk 30 308 [.t 26,.t 27,.t 29]),zg 25 true (zd 31 .leq 30 (zI 0)),zy 32 (.pick (.t 25) (.t 31) (.c (.bool false))),zm 33 32,zg 33 true (zL 34 2 6),zg 33 true (zL 35 2 7),zg 33 true (zy 36 (.iadA 3 2 (.t 3) (.c (zI 2)))),zg 33 true (zL 37 2 36),zg 33 true (zk 38 308 [.t 34,.t 35,.t 37]),zg 33 true (zd 39 .leq 38 (zI 0)),zy 40 (.pick (.t 33) (.t 39) (.c (.bool false)))])
 (zC 40 (zs (zr [4] [zc 4 (.bool true)])
 .ret)
 .skip)))))
 (zr [2,3,8] [zd 41 .add 8 (zI 1),zm 8 41])))))))
 (zs (zr [4] [zc 4 (.bool false)])
 .ret))) }
def N312 : az:={ np:=1,nt:=6,res:=[(2,none)],body :=
 (zs (zr [1] [zo 1 0,zc 2 (.bool false)])
 (zs (zr [2] [zL 3 2 1,zk 4 313 [.t 3],zt 5 4,zm 2 5])
 .ret)) }
def N313 : az:={ np:=1,nt:=21,res:=[(2,none)],body :=
 (zs (zr [1] [zo 1 0,zc 2 (.bool false)])
 (zs (zr [2] [zf 3 0 1,zl 4 1 3,zy 5 (.bin .geq (.t 4) (.c (zI (-16777216)))),zm 6 5,zg 6 true (zf 7 0 1),zg 6 true (zl 8 1 7),zg 6 true (zd 9 .leq 8 (zI 16777216)),zy 10 (.pick (.t 6) (.t 9) (.c (.bool false))),zm 11 10,zg 11 true (zf 12 1 1),zg 11 true (zl 13 1 12),zg 11 true (zy 14 (.bin .geq (.t 13) (.c (zI (-16777216))))),zy 15 (.pick (.t 11) (.t 14) (.c (.bool false))),zm 16 15,zg 16 true (zf 17 1 1),zg 16 true (zl 18 1 17),zg 16 true (zd 19 .leq 18 (zI 16777216)),zy 20 (.pick (.t 16) (.t 19) (.c (.bool false))),zm 2 20])
 .ret)) }
def N319 : az:={ np:=2,nt:=30,res:=[(4,some (9,true))],body :=
 (zs (zr [1,2,4] [zo 2 0,zy 4 (.alc [zI 0,zI 0,zI 0,zI 0,zI 0,zI 0,zI 0,zI 0,zI 0])])
 (zs (zr [2,4,5] [zf 6 1 2,zl 7 1 6,zm 8 1,zi 9 4 7 8,zL 10 4 9,zy 5 (.alc [zI 0,zI 0,zI 0,zI 0]),zw (.st 4 [] (.t 5) (.t 10))])
 (zs (.reg true [0,1,0,4,15,31,0,64,0,256,960,1984,0,4096,0,16384,61440,126976,262143,524287] [4] [zf 11 0 2,zl 12 1 11,zf 13 0 5,zl 14 1 13,zi 15 3 12 14,zL 16 3 15,zf 17 0 2,zl 18 1 17,zf 19 1 5,zl 20 1 19,zi 21 3 18 20,zL 22 3 21,zf 23 0 2,zl 24 1 23,zf 25 2 5,zl 26 1 25,zi 27 3 24 26,zL 28 3 27,zy 29 (.bld [zI 0,zI 0,zI 0,zI 0,zI 0,zI 0,zI 0,zI 0,zI 0] [(0,3,.t 16),(3,3,.t 22),(6,3,.t 28)]),zw (.st 9 [] (.t 4) (.t 29))])
 .ret))) }
def N320 : az:={ np:=3,nt:=30,res:=[(6,none)],body :=
 (zs (zr [3,4,5] [zo 3 0,zo 4 1,zo 5 2,zc 6 (zI 0)])
 (zs (zr [6] [zf 7 0 4,zl 8 1 7,zf 9 0 3,zl 10 1 9,zb 11 .sub 8 10,zf 12 1 5,zl 13 1 12,zf 14 1 3,zl 15 1 14,zb 16 .sub 13 15,zb 17 .mul 11 16,zf 18 1 4,zl 19 1 18,zf 20 1 3,zl 21 1 20,zb 22 .sub 19 21,zf 23 0 5,zl 24 1 23,zf 25 0 3,zl 26 1 25,zb 27 .sub 24 26,zb 28 .mul 22 27,zb 29 .sub 17 28,zm 6 29])
 .ret)) }
def N321 : az:={ np:=1,nt:=8,res:=[(2,some (2,true))],body :=
 (zs (zr [1,2] [zo 1 0,zy 2 (.alc [zI 0,zI 0])])
 (zs (zr [2] [zf 3 0 1,zl 4 1 3,zf 5 1 1,zl 6 1 5,zy 7 (.bld [zI 0,zI 0] [(0,1,.t 4),(1,1,.t 6)]),zw (.st 2 [] (.t 2) (.t 7))])
 .ret)) }
def N323 : az:={ np:=2,nt:=16,res:=[(4,none)],body :=
 (zs (zr [1,2] [zo 2 0,zc 4 (zI 0)])
 (zs (zr [4] [zf 5 0 2,zl 6 1 5,zf 7 1 2,zl 8 1 7,zf 9 2 2,zl 10 1 9,zy 11 (.bls 1 3 [zI 0] [] [(0,.t 6),(1,.t 8),(2,.t 10)]),zm 12 1,zd 13 .rem 12 (zI 3),zi 14 1 11 13,zl 15 1 14,zm 4 15])
 .ret)) }
def N324 : az:={ np:=2,nt:=47,res:=[(4,none)],body :=
 (zs (zr [0,1] [zc 4 (.bool false)])
 (zs (zs (zr [0,1,5] [zc 5 (zI 0)])
 (.block 0 (.loop (zs (zs (zr [0,1,5,9] [zm 8 5,zd 9 .lss 8 (zI 3)])
 (zC 9 .skip
 (.exit 0)))
 (zs (.block 1 (zs (.reg true [0,0,3,7,0,0,32,96,240,496,0,0,3087,8191] [0,1,5,6,7] [zm 12 0,zm 13 5,zi 14 2 12 13,zL 15 2 14,zm 16 0,zm 17 5,zd 18 .add 17 (zI 1),zd 19 .rem 18 (zI 3),zi 20 2 16 19,zL 21 2 20,zy 6 (.alc [zI 0,zI 0]),zy 7 (.alc [zI 0,zI 0]),zw (.st 2 [] (.t 6) (.t 15)),zw (.st 2 [] (.t 7) (.t 21))])
 (zs (.reg true [0,0,0,4,12,31,63,127,255,255,255,1279,3327,8191,16383,32767,65535,131071,131071,131071,655359,1703935,4194303,8388607,16777215] [0,1,5,46] [zL 22 2 6,zL 23 2 7,zm 24 1,zy 25 (.iadS 2 (.t 24) (.c (zI 0))),zL 26 2 25,zk 27 286 [.t 22,.t 23,.t 26],zd 28 .leq 27 (zI 0),zm 29 28,zg 29 true (zL 30 2 6),zg 29 true (zL 31 2 7),zg 29 true (zm 32 1),zg 29 true (zy 33 (.iadS 2 (.t 32) (.c (zI 1)))),zg 29 true (zL 34 2 33),zg 29 true (zk 35 286 [.t 30,.t 31,.t 34]),zg 29 true (zd 36 .leq 35 (zI 0)),zy 37 (.pick (.t 29) (.t 36) (.c (.bool false))),zm 38 37,zg 38 true (zL 39 2 6),zg 38 true (zL 40 2 7),zg 38 true (zm 41 1),zg 38 true (zy 42 (.iadS 2 (.t 41) (.c (zI 2)))),zg 38 true (zL 43 2 42),zg 38 true (zk 44 286 [.t 39,.t 40,.t 43]),zg 38 true (zd 45 .leq 44 (zI 0)),zy 46 (.pick (.t 38) (.t 45) (.c (.bool false)))])
 (zC 46 (zs (zr [4] [zc 4 (.bool true)])
 .ret)
 .skip))))
 (zr [0,1,5] [zm 10 5,zd 11 .add 10 (zI 1),zm 5 11]))))))
 (zs (zr [4] [zc 4 (.bool false)])
 .ret))) }
def N327 : az:={ np:=2,nt:=23,res:=[(4,some (2,true)),(5,none)],body :=
 (zs (zr [2,3,4] [zo 2 0,zo 3 1,zy 4 (.alc [zI 0,zI 0]),zc 5 (zI 0)])
 (zs (zs (zr [2,3,4,13] [zL 6 2 2,zk 7 106 [.t 6],zt 8 7,zm 9 8,zg 9 false (zL 10 2 3),zg 9 false (zk 11 106 [.t 10]),zg 9 false (zt 12 11),zy 13 (.pick (.t 9) (.c (.bool true)) (.t 12))])
 (zC 13 (zs (zr [4,5] [zy 14 (.bld [zI 0,zI 0] []),zw (.st 2 [] (.t 4) (.t 14)),zc 5 (zI 1)])
 .ret)
 .skip))
 (zs (.reg true [0,1,0,7,15,31,63,63,255,511] [4,5] [zL 15 2 2,zk 16 108 [.t 15],zL 17 2 3,zk 18 108 [.t 17],zk 19 107 [.t 16,.t 18],zk 20 105 [.t 19],zx 21 0 20,zx 22 1 20,zw (.st 2 [] (.t 4) (.t 21)),zm 5 22])
 .ret))) }
def N328 : az:={ np:=2,nt:=19,res:=[(4,none)],body :=
 (zs (zr [0,1] [zc 4 (zI 0)])
 (zs (zs (zr [0,1,7,8] [zm 6 0,zn 7 6,zc 8 (zI 0)])
 (.block 0 (.loop (zs (zr [0,1,7,8,9] [zb 9 .lss 8 7])
 (zs (zC 9 .skip
 (.exit 0))
 (zs (.block 1 (zs (zr [0,1,5,7,8] [zm 10 8,zm 5 10])
 (zs (zr [0,1,5,7,8,16] [zm 11 1,zm 12 0,zm 13 5,zi 14 6 12 13,zL 15 6 14,zy 16 (.callv (.t 11) [.t 15])])
 (zC 16 (zs (zr [4] [zm 17 5,zm 4 17])
 .ret)
 .skip))))
 (zr [0,1,7,8] [zd 18 .add 8 (zI 1),zm 8 18])))))))
 (zs (zr [4] [zy 4 (.mov (.c (zI (-1))))])
 .ret))) }
def N355 : az:={ np:=4,nt:=54,res:=[(8,none),(9,none)],body :=
 (zs (zr [4,5,6,7] [zo 4 0,zo 5 1,zo 6 2,zo 7 3,zc 8 (zI 0),zc 9 (zI 0)])
 (zs (zs (zr [4,5,6,7,20] [zL 14 2 4,zL 15 2 5,zL 16 2 6,zL 17 2 7,zy 18 (.bls 2 4 [zI 0,zI 0] [] [(0,.t 14),(1,.t 15),(2,.t 16),(3,.t 17)]),zk 19 359 [.t 18],zt 20 19])
 (zC 20 (zs (zr [8,9] [zc 8 (zI 0),zc 9 (zI 1)])
 .ret)
 .skip))
 (zs (zr [4,5,6,7,10] [zL 21 2 5,zL 22 2 6,zL 23 2 7,zk 24 360 [.t 21,.t 22,.t 23],zk 25 267 [.t 24,(.c (zI 0))],zm 10 25])
 (zs (zs (zr [4,5,6,7,10,27] [zm 26 10,zd 27 .eql 26 (zI 0)])
 (zC 27 (zs (zr [8,9] [zc 8 (zI 0),zc 9 (zI 25)])
 .ret)
 .skip))
 (zs (zr [4,5,6,7,10,11] [zc 11 (zI 1)])
 (zs (zs (zr [4,10,11,37,38] [zL 28 2 5,zL 29 2 6,zy 30 (.bld [zI 0,zI 0,zI 0,zI 0] [(0,2,.t 28),(2,2,.t 29)]),zL 31 2 6,zL 32 2 7,zy 33 (.bld [zI 0,zI 0,zI 0,zI 0] [(0,2,.t 31),(2,2,.t 32)]),zL 34 2 7,zL 35 2 5,zy 36 (.bld [zI 0,zI 0,zI 0,zI 0] [(0,2,.t 34),(2,2,.t 35)]),zy 37 (.bld [zI 0,zI 0,zI 0,zI 0,zI 0,zI 0,zI 0,zI 0,zI 0,zI 0,zI 0,zI 0] [(0,4,.t 30),(4,4,.t 33),(8,4,.t 36)]),zc 38 (zI 0)])
 (.block 0 (.loop (zs (zr [4,10,11,37,38,39] [zd 39 .lss 38 (zI 3)])
 (zs (zC 39 .skip
 (.exit 0))
 (zs (.block 1 (zs (zr [4,10,11,13,37,38] [zy 40 (.idxA 3 4 true (.t 37) (.t 38)),zy 13 (.alc [zI 0,zI 0,zI 0,zI 0]),zw (.st 4 [] (.t 13) (.t 40))])
 (zr [4,10,11,37,38] [zm 41 11,zm 42 10,zy 43 (.iadA 2 2 (.t 13) (.c (zI 0))),zL 44 2 43,zy 45 (.iadA 2 2 (.t 13) (.c (zI 1))),zL 46 2 45,zL 47 2 4,zk 48 360 [.t 44,.t 46,.t 47],zk 49 267 [.t 48,(.c (zI 0))],zb 50 .mul 42 49,zy 51 (.mn (.t 41) (.t 50)),zm 11 51])))
 (zr [4,10,11,37,38] [zd 52 .add 38 (zI 1),zm 38 52])))))))
 (zs (zr [8,9] [zm 53 11,zm 8 53,zc 9 (zI 0)])
 .ret))))))) }
def N359 : az:={ np:=1,nt:=6,res:=[(2,none)],body :=
 (zs (zr [0] [zc 2 (.bool false)])
 (zs (zr [2] [zq 3 0,zy 4 (.call 239 [.t 3,(.c (.fn 361 []))] []),zt 5 4,zm 2 5])
 .ret)) }
def N360 : az:={ np:=3,nt:=30,res:=[(6,none)],body :=
 (zs (zr [3,4,5] [zo 3 0,zo 4 1,zo 5 2,zc 6 (zI 0)])
 (zs (zr [6] [zf 7 0 4,zl 8 1 7,zf 9 0 3,zl 10 1 9,zb 11 .sub 8 10,zf 12 1 5,zl 13 1 12,zf 14 1 3,zl 15 1 14,zb 16 .sub 13 15,zb 17 .mul 11 16,zf 18 1 4,zl 19 1 18,zf 20 1 3,zl 21 1 20,zb 22 .sub 19 21,zf 23 0 5,zl 24 1 23,zf 25 0 3,zl 26 1 25,zb 27 .sub 24 26,zb 28 .mul 22 27,zb 29 .sub 17 28,zm 6 29])
 .ret)) }
def N361 : az:={ np:=1,nt:=6,res:=[(2,none)],body :=
 (zs (zr [1] [zo 1 0,zc 2 (.bool false)])
 (zs (zr [2] [zL 3 2 1,zk 4 313 [.t 3],zt 5 4,zm 2 5])
 .ret)) }
def N399 : az:={ np:=4,nt:=70,res:=[(8,some (2,true)),(9,none)],body :=
 (zs (zr [1,2,3,4,8] [zo 4 0,zy 8 (.alc [.own 3 [],.own 4 []]),zc 9 (zI 0)])
 (zs (zs (zr [1,2,3,4,8,15] [zL 13 2 4,zk 14 234 [.t 13],zt 15 14])
 (zC 15 (zs (zr [8,9] [zy 16 (.bld [.nils,.nils] []),zw (.st 2 [] (.t 8) (.t 16)),zc 9 (zI 1)])
 .ret)
 .skip))
 (zs (zs (zr [1,2,3,4,8,21] [zm 17 1,zm 18 2,zm 19 3,zy 20 (.bls 1 3 [zI 0] [] [(0,.t 17),(1,.t 18),(2,.t 19)]),zy 21 (.call 11 [.t 20,(.c (.fn 400 []))] [])])
 (zC 21 (zs (zr [8,9] [zy 22 (.bld [.nils,.nils] []),zw (.st 2 [] (.t 8) (.t 22)),zc 9 (zI 5)])
 .ret)
 .skip))
 (zs (zr [1,2,3,8,10] [zL 23 2 4,zy 24 (.callA 401 [.t 23]),zy 10 (.alc [.own 3 [],.own 4 []]),zw (.st 2 [] (.t 10) (.t 24))])
 (zs (zs (zr [1,2,3,8,10,27,28] [zf 25 0 10,zl 26 1 25,zn 27 26,zc 28 (zI 0)])
 (.block 0 (.loop (zs (zr [1,2,3,8,10,27,28,29] [zb 29 .lss 28 27])
 (zs (zC 29 .skip
 (.exit 0))
 (zs (.block 1 (zs (zr [1,2,3,8,10,11,27,28] [zm 30 28,zm 11 30])
 (zs (zr [1,2,3,8,10,12,27,28] [zf 31 0 10,zl 32 1 31,zm 33 11,zi 34 3 32 33,zm 12 34])
 (zs (.reg true [0,0,0,0,8,24,56,0,248,0,512,1536,3584,0,15872,0,32768,98304,229376,0,1015808,499705,2596857,6791161,15204347,31981563,65535995,134217727,268435455,536870911] [1,2,3,8,10,12,27,28] [zm 35 12,zm 36 12,zm 37 12,zm 38 12,zy 39 (.nck (.t 38)),zf 40 0 39,zl 41 1 40,zm 42 1,zb 43 .add 41 42,zm 44 12,zy 45 (.nck (.t 44)),zf 46 1 45,zl 47 1 46,zm 48 2,zb 49 .add 47 48,zm 50 12,zy 51 (.nck (.t 50)),zf 52 2 51,zl 53 1 52,zm 54 3,zb 55 .add 53 54,zy 56 (.nck (.t 35)),zf 57 0 56,zw (.st 1 [] (.t 57) (.t 43)),zy 58 (.nck (.t 36)),zf 59 1 58,zw (.st 1 [] (.t 59) (.t 49)),zy 60 (.nck (.t 37)),zf 61 2 60,zw (.st 1 [] (.t 61) (.t 55))])
 (zs (zr [1,2,3,8,10,27,28,66] [zm 62 12,zy 63 (.nck (.t 62)),zL 64 3 63,zk 65 303 [.t 64],zt 66 65])
 (zC 66 (zs (zr [8,9] [zy 67 (.bld [.nils,.nils] []),zw (.st 2 [] (.t 8) (.t 67)),zc 9 (zI 5)])
 .ret)
 .skip))))))
 (zr [1,2,3,8,10,27,28] [zd 68 .add 28 (zI 1),zm 28 68])))))))
 (zs (zr [8,9] [zy 69 (.ldF 2 (.t 10)),zw (.st 2 [] (.t 8) (.t 69)),zc 9 (zI 0)])
 .ret)))))) }
def N400 : az:={ np:=1,nt:=9,res:=[(2,none)],body :=
 (zs (zr [0] [zc 2 (.bool false)])
 (zs (zr [2] [zm 3 0,zy 4 (.bin .lss (.t 3) (.c (zI (-67108864)))),zm 5 4,zg 5 false (zm 6 0),zg 5 false (zd 7 .gtr 6 (zI 67108864)),zy 8 (.pick (.t 5) (.c (.bool true)) (.t 7)),zm 2 8])
 .ret)) }
def N401 : az:={ np:=1,nt:=10,res:=[(2,some (2,true))],body :=
 (zs (zr [1,2] [zo 1 0,zy 2 (.alc [.own 3 [],.own 4 []])])
 (zs (.reg true [0,1,3,0,8,31,63,127] [2] [zf 3 0 1,zl 4 1 3,zy 5 (.callF 403 [.t 4]),zf 6 1 1,zl 7 1 6,zy 8 (.callF 404 [.t 7]),zy 9 (.bld [.nils,.nils] [(0,1,.t 5),(1,1,.t 8)]),zw (.st 2 [] (.t 2) (.t 9))])
 .ret)) }
def N403 : az:={ np:=1,nt:=8,res:=[(2,none)],body :=
 (zs (zr [0] [zc 2 .nils])
 (zs (zs (zr [0,4] [zm 3 0,zy 4 (.beq false [9] (.t 3) (.c .nils))])
 (zC 4 (zs (zr [2] [zc 2 .nils])
 .ret)
 .skip))
 (zs (zr [2] [zy 5 (.bls 3 0 [zI 0,zI 0,zI 0] [] []),zq 6 0,zy 7 (.app 3 24 false (.t 5) (.t 6)),zq 2 7])
 .ret))) }
def N404 : az:={ np:=1,nt:=8,res:=[(2,none)],body :=
 (zs (zr [0] [zc 2 .nils])
 (zs (zs (zr [0,4] [zm 3 0,zy 4 (.beq false [9] (.t 3) (.c .nils))])
 (zC 4 (zs (zr [2] [zc 2 .nils])
 .ret)
 .skip))
 (zs (zr [2] [zy 5 (.bls 4 0 [zI 0,zI 0,zI 0,zI 0] [] []),zq 6 0,zy 7 (.app 4 32 false (.t 5) (.t 6)),zq 2 7])
 .ret))) }
def N676 : az:={ np:=5,nt:=187,res:=[(10,none)],body :=
 (zs (zr [3,4,5,6,7] [zo 5 0,zo 6 1,zo 7 2,zc 10 (.bool false)])
 (zs (zs (zr [3,4,5,6,7,28] [zk 27 677 [],zt 28 27])
 (zC 28 (zs (zr [10] [zc 10 (.bool false)])
 .ret)
 .skip))
 (zs (zr [4,5,6,7,11] [zm 29 3,zy 30 (.conv .i64 (.t 29)),zd 31 .rem 30 (zI 30),zy 32 (.bin .add (.c (zI 1)) (.t 31)),zm 11 32])
 (zs (zs (zr [4,5,6,7,11,37] [zL 33 2 5,zL 34 2 6,zL 35 2 7,zk 36 688 [.t 33,.t 34,.t 35],zt 37 36])
 (zC 37 (zs (zr [10] [zc 10 (.bool true)])
 .ret)
 .skip))
 (zs (zr [4,5,6,7,11,12,13] [zL 39 2 5,zL 40 2 6,zL 41 2 7,zm 42 11,zk 43 695 [.t 39,.t 40,.t 41,.t 42],zm 38 43,zx 44 0 38,zx 45 1 38,zq 12 44,zm 13 45])
 (zs (zr [4,5,6,7,11,12,13,14,15] [zL 47 2 5,zm 48 4,zy 49 (.conv .i64 (.t 48)),zk 50 399 [.t 47,(.c (zI 0)),(.c (zI 0)),.t 49],zm 46 50,zx 51 0 46,zx 52 1 46,zy 14 (.alc [.own 3 [],.own 4 []]),zw (.st 2 [] (.t 14) (.t 51)),zm 15 52])
 (zs (zs (zr [4,5,6,7,11,12,13,14,15,54] [zm 53 15,zd 54 .neq 53 (zI 0)])
 (zC 54 (zs (zr [10] [zm 55 15,zd 56 .eql 55 (zI 5),zm 10 56])
 .ret)
 .skip))
 (zs (zr [4,5,6,7,11,12,13,14,16,17] [zL 58 2 14,zL 59 2 6,zL 60 2 7,zm 61 11,zk 62 695 [.t 58,.t 59,.t 60,.t 61],zm 57 62,zx 63 0 57,zx 64 1 57,zq 16 63,zm 17 64])
 (zs (zs (zr [4,5,6,7,11,12,13,14,16,74] [zm 65 13,zm 66 17,zb 67 .neq 65 66,zm 68 67,zg 68 false (zm 69 12),zg 68 false (zn 70 69),zg 68 false (zm 71 16),zg 68 false (zn 72 71),zg 68 false (zb 73 .neq 70 72),zy 74 (.pick (.t 68) (.c (.bool true)) (.t 73))])
 (zC 74 (zs (zr [10] [zc 10 (.bool false)])
 .ret)
 .skip))
 (zs (zs (zr [4,5,6,7,11,12,13,14,16,76] [zm 75 13,zd 76 .neq 75 (zI 0)])
 (zC 76 (zs (zr [10] [zm 77 13,zd 78 .eql 77 (zI 12),zm 79 78,zg 79 true (zq 80 12),zg 79 true (zn 81 80),zg 79 true (zd 82 .eql 81 (zI 0)),zy 83 (.pick (.t 79) (.t 82) (.c (.bool false))),zm 10 83])
 .ret)
 .skip))
 (zs (zs (zr [4,5,6,7,11,12,14,16,88] [zm 84 12,zn 85 84,zm 86 11,zd 87 .add 86 (zI 1),zb 88 .neq 85 87])
 (zC 88 (zs (zr [10] [zc 10 (.bool false)])
 .ret)
 .skip))
 (zs (zr [4,5,6,7,11,12,14,16,18] [zc 18 (.fn 699 [])])
 (zs (.reg true [0,1,0,7,15,0,32,0,239,495,511,2047] [4,5,6,7,11,12,14,16,19,20] [zf 89 0 5,zl 90 1 89,zm 91 18,zk 92 700 [.t 90,.t 91],zy 93 (.fld 2 1 false (.t 92)),zf 94 0 5,zl 95 1 94,zm 96 18,zk 97 701 [.t 95,.t 96],zy 98 (.fld 2 1 false (.t 97)),zm 19 93,zm 20 98])
 (zs (zs (zr [4,5,6,7,11,14,16,19,20,99,100,101] [zq 99 12,zn 100 99,zc 101 (zI 0)])
 (.block 0 (.loop (zs (zr [4,5,6,7,11,14,16,19,20,99,100,101,102] [zb 102 .lss 101 100])
 (zs (zC 102 .skip
 (.exit 0))
 (zs (.block 1 (zs (zr [4,5,6,7,11,14,16,19,20,21,22,99,100,101] [zm 103 101,zi 104 2 99 101,zL 105 2 104,zy 22 (.alc [zI 0,zI 0]),zm 21 103,zw (.st 2 [] (.t 22) (.t 105))])
 (zs (.reg true [0,0,3,7,0,16,0,64,240,0,512,0,2048,7680,16368,32767,65535,131071,262143,131071,655359,2097151,4194303,8388607,16777215,33554431,16777215,83886079,218103807,536870911,1073741823,2147483647,4294967295,8589934591,4294967295,34359738367,68719476735,137438953471,274877906943,549755813887,274877906943,2199023255551,4398046511103] [4,5,6,7,11,14,16,19,20,99,100,101,148] [zm 106 16,zm 107 21,zi 108 2 106 107,zL 109 2 108,zf 110 0 22,zl 111 1 110,zm 112 4,zy 113 (.conv .i64 (.t 112)),zb 114 .add 111 113,zf 115 1 22,zl 116 1 115,zm 117 4,zy 118 (.conv .i64 (.t 117)),zb 119 .add 116 118,zy 120 (.bld [zI 0,zI 0] [(0,1,.t 114),(1,1,.t 119)]),zy 121 (.beq true [0,0] (.t 109) (.t 120)),zm 122 121,zg 122 false (zf 123 0 22),zg 122 false (zl 124 1 123),zg 122 false (zf 125 1 22),zg 122 false (zl 126 1 125),zg 122 false (zb 127 .gtr 124 126),zy 128 (.pick (.t 122) (.c (.bool true)) (.t 127)),zm 129 128,zg 129 false (zf 130 1 22),zg 129 false (zl 131 1 130),zg 129 false (zf 132 0 22),zg 129 false (zl 133 1 132),zg 129 false (zd 134 .add 133 (zI 1)),zg 129 false (zb 135 .gtr 131 134),zy 136 (.pick (.t 129) (.c (.bool true)) (.t 135)),zm 137 136,zg 137 false (zf 138 0 22),zg 137 false (zl 139 1 138),zg 137 false (zm 140 19),zg 137 false (zb 141 .lss 139 140),zy 142 (.pick (.t 137) (.c (.bool true)) (.t 141)),zm 143 142,zg 143 false (zf 144 1 22),zg 143 false (zl 145 1 144),zg 143 false (zm 146 20),zg 143 false (zb 147 .gtr 145 146),zy 148 (.pick (.t 143) (.c (.bool true)) (.t 147))])
 (zC 148 (zs (zr [10] [zc 10 (.bool false)])
 .ret)
 .skip))))
 (zr [4,5,6,7,11,14,16,19,20,99,100,101] [zd 149 .add 101 (zI 1),zm 101 149])))))))
 (zs (zr [4,6,7,11,14,23,24] [zL 151 2 5,zL 152 2 6,zL 153 2 7,zm 154 11,zk 155 691 [.t 151,.t 152,.t 153,.t 154,(.c (zI 0)),(.c (zI 0))],zm 150 155,zx 156 0 150,zx 157 1 150,zy 23 (.alc [zI 0,zI 0]),zw (.st 2 [] (.t 23) (.t 156)),zm 24 157])
 (zs (zr [4,23,24,25,26] [zL 159 2 14,zL 160 2 6,zL 161 2 7,zm 162 11,zk 163 691 [.t 159,.t 160,.t 161,.t 162,(.c (zI 0)),(.c (zI 0))],zm 158 163,zx 164 0 158,zx 165 1 158,zy 25 (.alc [zI 0,zI 0]),zw (.st 2 [] (.t 25) (.t 164)),zm 26 165])
 (zs (zr [10] [zm 166 24,zd 167 .eql 166 (zI 0),zm 168 167,zg 168 true (zm 169 26),zg 168 true (zd 170 .eql 169 (zI 0)),zy 171 (.pick (.t 168) (.t 170) (.c (.bool false))),zm 172 171,zg 172 true (zL 173 2 25),zg 172 true (zf 174 0 23),zg 172 true (zl 175 1 174),zg 172 true (zm 176 4),zg 172 true (zy 177 (.conv .i64 (.t 176))),zg 172 true (zb 178 .add 175 177),zg 172 true (zf 179 1 23),zg 172 true (zl 180 1 179),zg 172 true (zm 181 4),zg 172 true (zy 182 (.conv .i64 (.t 181))),zg 172 true (zb 183 .add 180 182),zg 172 true (zy 184 (.bld [zI 0,zI 0] [(0,1,.t 178),(1,1,.t 183)])),zg 172 true (zy 185 (.beq false [0,0] (.t 173) (.t 184))),zy 186 (.pick (.t 172) (.t 185) (.c (.bool false))),zm 10 186])
 .ret))))))))))))))))) }
def N677 : az:={ np:=0,nt:=78,res:=[(0,none)],body :=
 (zs (zr [] [zc 0 (.bool false)])
 (zs (zr [1,2] [zy 11 (.bld [zI 0,zI 0] [(0,1,(.c (zI 20)))]),zy 12 (.bld [zI 0,zI 0] [(1,1,(.c (zI 20)))]),zy 1 (.alc [zI 0,zI 0]),zy 2 (.alc [zI 0,zI 0]),zw (.st 2 [] (.t 1) (.t 11)),zw (.st 2 [] (.t 2) (.t 12))])
 (zs (.reg true [0,0,0,7,15,31,31,63,255] [1,2,3,4] [zk 14 702 [],zL 15 2 1,zL 16 2 2,zk 17 682 [.t 14,.t 15,.t 16],zm 13 17,zx 18 0 13,zx 19 1 13,zq 3 18,zm 4 19])
 (zs (.reg true [0,0,0,7,15,31,31,63,255] [1,2,3,4,5,6] [zk 21 702 [],zL 22 2 1,zL 23 2 2,zk 24 683 [.t 21,.t 22,.t 23],zm 20 24,zx 25 0 20,zx 26 1 20,zq 5 25,zm 6 26])
 (zs (zr [1,2,3,4,5,6,7,8] [zL 28 2 1,zL 29 2 2,zk 30 678 [.t 28,.t 29,(.c (zI 2))],zm 27 30,zx 31 0 27,zx 32 1 27,zq 7 31,zm 8 32])
 (zs (.reg true [0,0,0,7,15,31,31,0,191,511] [3,4,5,6,7,8,9,10] [zk 34 702 [],zL 35 2 1,zL 36 2 2,zk 37 691 [.t 34,.t 35,.t 36,(.c (zI 2)),(.c (zI 10)),(.c (zI 20))],zm 33 37,zx 38 0 33,zx 39 1 33,zy 9 (.alc [zI 0,zI 0]),zw (.st 2 [] (.t 9) (.t 38)),zm 10 39])
 (zs (zr [0] [zm 40 4,zd 41 .eql 40 (zI 0),zm 42 41,zg 42 true (zq 43 3),zg 42 true (zy 44 (.bls 1 2 [zI 0] [] [(0,(.c (zI 0))),(1,(.c (zI 1)))])),zg 42 true (zk 45 19 [.t 43,.t 44]),zy 46 (.pick (.t 42) (.t 45) (.c (.bool false))),zm 47 46,zg 47 true (zm 48 6),zg 47 true (zd 49 .eql 48 (zI 0)),zy 50 (.pick (.t 47) (.t 49) (.c (.bool false))),zm 51 50,zg 51 true (zq 52 5),zg 51 true (zy 53 (.bld [zI 0,zI 0] [(0,1,(.c (zI 1))),(1,1,(.c (zI 2)))])),zg 51 true (zy 54 (.bls 2 1 [zI 0,zI 0] [] [(0,.t 53)])),zg 51 true (zk 55 687 [.t 52,.t 54]),zy 56 (.pick (.t 51) (.t 55) (.c (.bool false))),zm 57 56,zg 57 true (zm 58 8),zg 57 true (zd 59 .eql 58 (zI 0)),zy 60 (.pick (.t 57) (.t 59) (.c (.bool false))),zm 61 60,zg 61 true (zq 62 7),zg 61 true (zy 63 (.bld [zI 0,zI 0] [(0,1,(.c (zI 20)))])),zg 61 true (zy 64 (.bld [zI 0,zI 0] [(0,1,(.c (zI 10))),(1,1,(.c (zI 10)))])),zg 61 true (zy 65 (.bld [zI 0,zI 0] [(1,1,(.c (zI 20)))])),zg 61 true (zy 66 (.bls 2 3 [zI 0,zI 0] [] [(0,.t 63),(1,.t 64),(2,.t 65)])),zg 61 true (zk 67 680 [.t 62,.t 66]),zy 68 (.pick (.t 61) (.t 67) (.c (.bool false))),zm 69 68,zg 69 true (zm 70 10),zg 69 true (zd 71 .eql 70 (zI 0)),zy 72 (.pick (.t 69) (.t 71) (.c (.bool false))),zm 73 72,zg 73 true (zL 74 2 9),zg 73 true (zy 75 (.bld [zI 0,zI 0] [(0,1,(.c (zI 70))),(1,1,(.c (zI 70)))])),zg 73 true (zy 76 (.beq false [0,0] (.t 74) (.t 75))),zy 77 (.pick (.t 73) (.t 76) (.c (.bool false))),zm 0 77])
 .ret))))))) }
def N678 : az:={ np:=3,nt:=20,res:=[(6,none),(7,none)],body :=
 (zs (zr [2,3,4] [zo 3 0,zo 4 1,zc 6 .nils,zc 7 (zI 0)])
 (zs (zs (zr [2,3,4,8] [zL 9 2 3,zL 10 2 4,zm 11 2,zk 12 703 [(.c .nilp),.t 9,.t 10,.t 11,(.c .nils)],zm 8 12])
 (zs (zr [2,3,4,8,14] [zm 13 8,zd 14 .neq 13 (zI 0)])
 (zC 14 (zs (zr [6,7] [zm 15 8,zc 6 .nils,zm 7 15])
 .ret)
 .skip)))
 (zs (zr [6,7] [zL 16 2 3,zL 17 2 4,zm 18 2,zk 19 704 [.t 16,.t 17,.t 18],zq 6 19,zc 7 (zI 0)])
 .ret))) }
def N680 : az:={ np:=2,nt:=26,res:=[(4,none)],body :=
 (zs (zr [0,1] [zc 4 (.bool false)])
 (zs (zs (zr [0,1,10] [zm 6 0,zn 7 6,zm 8 1,zn 9 8,zb 10 .neq 7 9])
 (zC 10 (zs (zr [4] [zc 4 (.bool false)])
 .ret)
 .skip))
 (zs (zs (zr [0,1,12,13] [zm 11 0,zn 12 11,zc 13 (zI 0)])
 (.block 0 (.loop (zs (zr [0,1,12,13,14] [zb 14 .lss 13 12])
 (zs (zC 14 .skip
 (.exit 0))
 (zs (.block 1 (zs (zr [0,1,5,12,13] [zm 15 13,zm 5 15])
 (zs (.reg true [0,0,3,7,0,0,48,112,255] [0,1,12,13,24] [zm 16 0,zm 17 5,zi 18 2 16 17,zL 19 2 18,zm 20 1,zm 21 5,zi 22 2 20 21,zL 23 2 22,zy 24 (.beq true [0,0] (.t 19) (.t 23))])
 (zC 24 (zs (zr [4] [zc 4 (.bool false)])
 .ret)
 .skip))))
 (zr [0,1,12,13] [zd 25 .add 13 (zI 1),zm 13 25])))))))
 (zs (zr [4] [zc 4 (.bool true)])
 .ret)))) }
def N682 : az:={ np:=3,nt:=38,res:=[(6,none),(7,none)],body :=
 (zs (zr [3,4,5] [zo 3 0,zo 4 1,zo 5 2,zc 6 .nils,zc 7 (zI 0)])
 (zs (zs (zr [3,4,5,8] [zL 12 2 4,zL 13 2 5,zk 14 708 [.t 3,.t 12,.t 13],zm 8 14])
 (zs (zr [3,4,5,8,16] [zm 15 8,zd 16 .neq 15 (zI 0)])
 (zC 16 (zs (zr [6,7] [zm 17 8,zc 6 .nils,zm 7 17])
 .ret)
 .skip)))
 (zs (zr [3,4,5,9] [zy 9 (.nilo 1)])
 (zs (zs (zr [3,4,5,9,19,20,21] [zf 18 1 3,zl 19 1 18,zn 20 19,zc 21 (zI 0)])
 (.block 0 (.loop (zs (zr [3,4,5,9,19,20,21,22] [zb 22 .lss 21 20])
 (zs (zC 22 .skip
 (.exit 0))
 (zs (.block 1 (zs (zr [3,4,5,9,10,11,19,20,21] [zm 23 21,zi 24 4 19 21,zL 25 4 24,zy 11 (.alc [zI 0,zI 0,zI 0,zI 0]),zm 10 23,zw (.st 4 [] (.t 11) (.t 25))])
 (zs (.reg true [0,0,3,0,0,31] [3,4,5,9,10,19,20,21,31] [zL 26 2 3,zL 27 4 11,zk 28 710 [.t 26,.t 27],zL 29 2 4,zL 30 2 5,zk 31 709 [.t 28,.t 29,.t 30]])
 (zC 31 (zr [3,4,5,9,19,20,21] [zm 32 9,zm 33 10,zy 34 (.bls 1 1 [zI 0] [] [(0,.t 33)]),zy 35 (.app 1 8 false (.t 32) (.t 34)),zq 9 35])
 .skip))))
 (zr [3,4,5,9,19,20,21] [zd 36 .add 21 (zI 1),zm 21 36])))))))
 (zs (zr [6,7] [zq 37 9,zq 6 37,zc 7 (zI 0)])
 .ret))))) }
def N683 : az:={ np:=3,nt:=82,res:=[(6,none),(7,none)],body :=
 (zs (zr [3,4,5] [zo 3 0,zo 4 1,zo 5 2,zc 6 .nils,zc 7 (zI 0)])
 (zs (zs (zr [3,4,5,8] [zL 20 2 4,zL 21 2 5,zk 22 708 [.t 3,.t 20,.t 21],zm 8 22])
 (zs (zr [3,4,5,8,24] [zm 23 8,zd 24 .neq 23 (zI 0)])
 (zC 24 (zs (zr [6,7] [zm 25 8,zc 6 .nils,zm 7 25])
 .ret)
 .skip)))
 (zs (zr [3,4,5,9] [zy 9 (.nilo 2)])
 (zs (zs (zr [3,4,5,9,27,28,29] [zf 26 1 3,zl 27 1 26,zn 28 27,zc 29 (zI 0)])
 (.block 0 (.loop (zs (zr [3,4,5,9,27,28,29,30] [zb 30 .lss 29 28])
 (zs (zC 30 .skip
 (.exit 0))
 (zs (.block 1 (zs (zr [3,4,5,9,11,27,28,29] [zi 31 4 27 29,zL 32 4 31,zy 11 (.alc [zI 0,zI 0,zI 0,zI 0]),zw (.st 4 [] (.t 11) (.t 32))])
 (zs (zr [3,4,5,9,12,27,28,29] [zL 33 2 3,zL 34 4 11,zk 35 710 [.t 33,.t 34],zy 12 (.alc [zI 0,zI 0,zI 0,zI 0,zI 0,zI 0]),zw (.st 6 [] (.t 12) (.t 35))])
 (zs (zr [3,4,5,9,12,27,28,29,36] [zc 36 (zI 0)])
 (.block 2 (.loop (zs (zr [3,4,5,9,12,27,28,29,36,37] [zd 37 .lss 36 (zI 3)])
 (zs (zC 37 .skip
 (.exit 2))
 (zs (.block 3 (zs (zr [3,4,5,9,12,13,27,28,29,36] [zm 38 36,zm 13 38])
 (zs (.reg true [0,1,3,0,8,24,56,120,0,0,775,2047] [3,4,5,9,12,14,15,27,28,29,36] [zm 39 13,zy 40 (.iadA 3 2 (.t 12) (.t 39)),zL 41 2 40,zm 42 13,zd 43 .add 42 (zI 1),zd 44 .rem 43 (zI 3),zy 45 (.iadA 3 2 (.t 12) (.t 44)),zL 46 2 45,zy 14 (.alc [zI 0,zI 0]),zy 15 (.alc [zI 0,zI 0]),zw (.st 2 [] (.t 14) (.t 41)),zw (.st 2 [] (.t 15) (.t 46))])
 (zs (zs (zr [3,4,5,9,12,14,15,16,17,27,28,29,36] [zL 48 2 4,zL 49 2 5,zL 50 2 14,zL 51 2 15,zk 52 711 [.t 48,.t 49,.t 50,.t 51],zm 47 52,zx 53 0 47,zx 54 1 47,zm 16 53,zm 17 54])
 (zs (zr [3,4,5,9,12,14,15,27,28,29,36,60] [zm 55 17,zd 56 .neq 55 (zI 0),zm 57 56,zg 57 false (zm 58 16),zg 57 false (zd 59 .neq 58 (zI 2)),zy 60 (.pick (.t 57) (.c (.bool true)) (.t 59))])
 (zC 60 (.exit 3)
 .skip)))
 (zs (zr [3,4,5,9,12,18,19,27,28,29,36] [zL 62 2 4,zL 63 2 5,zL 64 2 14,zL 65 2 15,zk 66 712 [.t 62,.t 63,.t 64,.t 65],zm 61 66,zx 67 0 61,zx 68 1 61,zy 18 (.alc [zI 0,zI 0]),zw (.st 2 [] (.t 18) (.t 67)),zm 19 68])
 (zs (zs (zr [3,4,5,9,12,18,19,27,28,29,36,70] [zm 69 19,zd 70 .neq 69 (zI 0)])
 (zC 70 (zs (zr [6,7] [zm 71 19,zc 6 .nils,zm 7 71])
 .ret)
 .skip))
 (zr [3,4,5,9,12,27,28,29,36] [zm 72 9,zL 73 2 18,zy 74 (.bls 2 1 [zI 0,zI 0] [] [(0,.t 73)]),zy 75 (.app 2 16 false (.t 72) (.t 74)),zq 9 75])))))))
 (zr [3,4,5,9,12,27,28,29,36] [zd 76 .add 36 (zI 1),zm 36 76]))))))))))
 (zr [3,4,5,9,27,28,29] [zd 77 .add 29 (zI 1),zm 29 77])))))))
 (zs (zr [9] [zm 78 9,zy 79 (.callS 713 (.t 78) [(.c (.fn 714 []))])])
 (zs (zr [6,7] [zq 80 9,zy 81 (.callE 715 (.t 80) []),zq 6 81,zc 7 (zI 0)])
 .ret)))))) }
def N684 : az:={ np:=3,nt:=13,res:=[(6,none)],body :=
 (zs (zr [3,4,5] [zo 3 0,zo 4 1,zo 5 2,zc 6 (zI 0)])
 (zs (zs (zr [4,5,9] [zL 7 2 3,zk 8 215 [.t 7],zt 9 8])
 (zC 9 (zs (zr [6] [zc 6 (zI 1)])
 .ret)
 .skip))
 (zs (zr [6] [zL 10 2 4,zL 11 2 5,zk 12 705 [.t 10,.t 11],zm 6 12])
 .ret))) }
def N687 : az:={ np:=2,nt:=26,res:=[(4,none)],body :=
 (zs (zr [0,1] [zc 4 (.bool false)])
 (zs (zs (zr [0,1,10] [zm 6 0,zn 7 6,zm 8 1,zn 9 8,zb 10 .neq 7 9])
 (zC 10 (zs (zr [4] [zc 4 (.bool false)])
 .ret)
 .skip))
 (zs (zs (zr [0,1,12,13] [zm 11 0,zn 12 11,zc 13 (zI 0)])
 (.block 0 (.loop (zs (zr [0,1,12,13,14] [zb 14 .lss 13 12])
 (zs (zC 14 .skip
 (.exit 0))
 (zs (.block 1 (zs (zr [0,1,5,12,13] [zm 15 13,zm 5 15])
 (zs (.reg true [0,0,3,7,0,0,48,112,255] [0,1,12,13,24] [zm 16 0,zm 17 5,zi 18 2 16 17,zL 19 2 18,zm 20 1,zm 21 5,zi 22 2 20 21,zL 23 2 22,zy 24 (.beq true [0,0] (.t 19) (.t 23))])
 (zC 24 (zs (zr [4] [zc 4 (.bool false)])
 .ret)
 .skip))))
 (zr [0,1,12,13] [zd 25 .add 13 (zI 1),zm 13 25])))))))
 (zs (zr [4] [zc 4 (.bool true)])
 .ret)))) }
def N688 : az:={ np:=3,nt:=24,res:=[(6,none)],body :=
 (zs (zr [3,4,5] [zo 3 0,zo 4 1,zo 5 2,zc 6 (.bool false)])
 (zs (zr [6] [zf 7 0 3,zl 8 1 7,zn 9 8,zd 10 .leq 9 (zI 60),zm 11 10,zg 11 true (zf 12 1 3),zg 11 true (zl 13 1 12),zg 11 true (zn 14 13),zg 11 true (zd 15 .leq 14 (zI 60)),zy 16 (.pick (.t 11) (.t 15) (.c (.bool false))),zm 17 16,zg 17 true (zL 18 2 3),zg 17 true (zL 19 2 4),zg 17 true (zL 20 2 5),zg 17 true (zk 21 684 [.t 18,.t 19,.t 20]),zg 17 true (zd 22 .eql 21 (zI 0)),zy 23 (.pick (.t 17) (.t 22) (.c (.bool false))),zm 6 23])
 .ret)) }
def N690 : az:={ np:=2,nt:=32,res:=[(4,none),(5,none)],body :=
 (zs (zr [2,3] [zo 2 0,zo 3 1,zc 4 (zI 0),zc 5 (zI 0)])
 (zs (zs (zr [2,3,14] [zL 7 2 2,zk 8 722 [.t 7],zt 9 8,zm 10 9,zg 10 false (zL 11 2 3),zg 10 false (zk 12 722 [.t 11]),zg 10 false (zt 13 12),zy 14 (.pick (.t 10) (.c (.bool true)) (.t 13))])
 (zC 14 (zs (zr [4,5] [zc 4 (zI 0),zc 5 (zI 1)])
 .ret)
 .skip))
 (zs (zs (zr [6] [zf 15 0 2,zl 16 1 15,zf 17 1 3,zl 18 1 17,zb 19 .mul 16 18,zf 20 0 3,zl 21 1 20,zf 22 1 2,zl 23 1 22,zb 24 .mul 21 23,zb 25 .sub 19 24,zm 6 25])
 (.block 0 (zs (zr [6,26] [zm 27 6,zd 28 .lss 27 (zI 0),zm 26 28])
 (zC 26 (zs (zr [4,5] [zy 4 (.mov (.c (zI (-1)))),zc 5 (zI 0)])
 .ret)
 (zs (zr [29] [zm 30 6,zd 31 .gtr 30 (zI 0),zm 29 31])
 (zC 29 (zs (zr [4,5] [zc 4 (zI 1),zc 5 (zI 0)])
 .ret)
 .skip))))))
 (zs (zr [4,5] [zc 4 (zI 0),zc 5 (zI 0)])
 .ret)))) }
def N691 : az:={ np:=6,nt:=35,res:=[(12,some (2,true)),(13,none)],body :=
 (zs (zr [3,4,5,6,7,8,12] [zo 6 0,zo 7 1,zo 8 2,zy 12 (.alc [zI 0,zI 0]),zc 13 (zI 0)])
 (zs (zs (zr [3,4,5,6,7,8,12,14] [zL 15 2 7,zL 16 2 8,zm 17 3,zm 18 4,zm 19 5,zy 20 (.bls 1 2 [zI 0] [] [(0,.t 18),(1,.t 19)]),zk 21 703 [.t 6,.t 15,.t 16,.t 17,.t 20],zm 14 21])
 (zs (zr [3,4,5,6,7,8,12,14,23] [zm 22 14,zd 23 .neq 22 (zI 0)])
 (zC 23 (zs (zr [12,13] [zy 24 (.bld [zI 0,zI 0] []),zm 25 14,zw (.st 2 [] (.t 12) (.t 24)),zm 13 25])
 .ret)
 .skip)))
 (zs (zr [12,13] [zL 26 2 6,zL 27 2 7,zL 28 2 8,zm 29 3,zm 30 4,zm 31 5,zk 32 723 [.t 26,.t 27,.t 28,.t 29,.t 30,.t 31],zx 33 0 32,zx 34 1 32,zw (.st 2 [] (.t 12) (.t 33)),zm 13 34])
 .ret))) }
def N695 : az:={ np:=4,nt:=25,res:=[(8,none),(9,none)],body :=
 (zs (zr [3,4,5,6] [zo 4 0,zo 5 1,zo 6 2,zc 8 .nils,zc 9 (zI 0)])
 (zs (zs (zr [3,4,5,6,10] [zL 11 2 5,zL 12 2 6,zm 13 3,zk 14 703 [.t 4,.t 11,.t 12,.t 13,(.c .nils)],zm 10 14])
 (zs (zr [3,4,5,6,10,16] [zm 15 10,zd 16 .neq 15 (zI 0)])
 (zC 16 (zs (zr [8,9] [zm 17 10,zc 8 .nils,zm 9 17])
 .ret)
 .skip)))
 (zs (zr [8,9] [zL 18 2 4,zL 19 2 5,zL 20 2 6,zm 21 3,zk 22 726 [.t 18,.t 19,.t 20,.t 21],zx 23 0 22,zx 24 1 22,zq 8 23,zm 9 24])
 .ret))) }
def N699 : az:={ np:=2,nt:=10,res:=[(4,none)],body :=
 (zs (zr [2,3] [zo 2 0,zo 3 1,zc 4 (zI 0)])
 (zs (zr [4] [zf 5 2 2,zl 6 1 5,zf 7 2 3,zl 8 1 7,zb 9 .sub 6 8,zm 4 9])
 .ret)) }
def N700 : az:={ np:=2,nt:=33,res:=[(4,some (3,true))],body :=
 (zs (zr [0,1,4] [zy 4 (.alc [zI 0,zI 0,zI 0])])
 (zs (zs (zr [0,1,4,9] [zm 7 0,zn 8 7,zd 9 .lss 8 (zI 1)])
 (zC 9 (zr [0,1,4] [zy 10 (.dead),zw (.dead)])
 .skip))
 (zs (zr [0,1,4,5] [zm 11 0,zy 12 (.iadS 3 (.t 11) (.c (zI 0))),zL 13 3 12,zy 5 (.alc [zI 0,zI 0,zI 0]),zw (.st 3 [] (.t 5) (.t 13))])
 (zs (zs (zr [0,1,4,5,6] [zc 6 (zI 1)])
 (.block 0 (.loop (zs (zs (zr [0,1,4,5,6,17] [zm 14 6,zm 15 0,zn 16 15,zb 17 .lss 14 16])
 (zC 17 .skip
 (.exit 0)))
 (zs (.block 1 (zs (.reg true [0,0,0,6,14,0,63,127] [0,1,4,5,6,27] [zm 20 1,zm 21 0,zm 22 6,zi 23 3 21 22,zL 24 3 23,zL 25 3 5,zy 26 (.callv (.t 20) [.t 24,.t 25]),zd 27 .lss 26 (zI 0)])
 (zC 27 (zr [0,1,4,5,6] [zm 28 0,zm 29 6,zi 30 3 28 29,zL 31 3 30,zw (.st 3 [] (.t 5) (.t 31))])
 .skip)))
 (zr [0,1,4,5,6] [zm 18 6,zd 19 .add 18 (zI 1),zm 6 19]))))))
 (zs (zr [4] [zL 32 3 5,zw (.st 3 [] (.t 4) (.t 32))])
 .ret))))) }
def N701 : az:={ np:=2,nt:=33,res:=[(4,some (3,true))],body :=
 (zs (zr [0,1,4] [zy 4 (.alc [zI 0,zI 0,zI 0])])
 (zs (zs (zr [0,1,4,9] [zm 7 0,zn 8 7,zd 9 .lss 8 (zI 1)])
 (zC 9 (zr [0,1,4] [zy 10 (.dead),zw (.dead)])
 .skip))
 (zs (zr [0,1,4,5] [zm 11 0,zy 12 (.iadS 3 (.t 11) (.c (zI 0))),zL 13 3 12,zy 5 (.alc [zI 0,zI 0,zI 0]),zw (.st 3 [] (.t 5) (.t 13))])
 (zs (zs (zr [0,1,4,5,6] [zc 6 (zI 1)])
 (.block 0 (.loop (zs (zs (zr [0,1,4,5,6,17] [zm 14 6,zm 15 0,zn 16 15,zb 17 .lss 14 16])
 (zC 17 .skip
 (.exit 0)))
 (zs (.block 1 (zs (.reg true [0,0,0,6,14,0,63,127] [0,1,4,5,6,27] [zm 20 1,zm 21 0,zm 22 6,zi 23 3 21 22,zL 24 3 23,zL 25 3 5,zy 26 (.callv (.t 20) [.t 24,.t 25]),zd 27 .gtr 26 (zI 0)])
 (zC 27 (zr [0,1,4,5,6] [zm 28 0,zm 29 6,zi 30 3 28 29,zL 31 3 30,zw (.st 3 [] (.t 5) (.t 31))])
 .skip)))
 (zr [0,1,4,5,6] [zm 18 6,zd 19 .add 18 (zI 1),zm 6 19]))))))
 (zs (zr [4] [zL 32 3 5,zw (.st 3 [] (.t 4) (.t 32))])
 .ret))))) }
def N702 : az:={ np:=0,nt:=10,res:=[(0,some (2,true))],body :=
 (zs (zr [0] [zy 0 (.alc [.own 3 [],.own 4 []])])
 (zs (zr [0] [zy 1 (.bld [zI 0,zI 0,zI 0] [(2,1,(.c (zI 90)))]),zy 2 (.bld [zI 0,zI 0,zI 0] [(0,1,(.c (zI 30))),(2,1,(.c (zI 90)))]),zy 3 (.bld [zI 0,zI 0,zI 0] [(0,1,(.c (zI 30))),(1,1,(.c (zI 30))),(2,1,(.c (zI 90)))]),zy 4 (.bld [zI 0,zI 0,zI 0] [(1,1,(.c (zI 30))),(2,1,(.c (zI 90)))]),zy 5 (.bls 3 4 [zI 0,zI 0,zI 0] [] [(0,.t 1),(1,.t 2),(2,.t 3),(3,.t 4)]),zy 6 (.bld [zI 0,zI 0,zI 0,zI 0] [(0,1,(.c (zI 0))),(1,1,(.c (zI 1))),(2,1,(.c (zI 2)))]),zy 7 (.bld [zI 0,zI 0,zI 0,zI 0] [(0,1,(.c (zI 0))),(1,1,(.c (zI 2))),(2,1,(.c (zI 3)))]),zy 8 (.bls 4 2 [zI 0,zI 0,zI 0,zI 0] [] [(0,.t 6),(1,.t 7)]),zy 9 (.bld [.nils,.nils] [(0,1,.t 5),(1,1,.t 8)]),zw (.st 2 [] (.t 0) (.t 9))])
 .ret)) }
def N703 : az:={ np:=5,nt:=30,res:=[(10,none)],body :=
 (zs (zr [0,3,4,6,7] [zo 6 1,zo 7 2,zc 10 (zI 0)])
 (zs (zs (zr [3,4,11] [zm 12 0,zL 13 2 6,zL 14 2 7,zk 15 708 [.t 12,.t 13,.t 14],zm 11 15])
 (zs (zr [3,4,11,17] [zm 16 11,zd 17 .neq 16 (zI 0)])
 (zC 17 (zs (zr [10] [zm 18 11,zm 10 18])
 .ret)
 .skip)))
 (zs (zs (zr [29] [zm 19 3,zd 20 .lss 19 (zI 1),zm 21 20,zg 21 false (zm 22 3),zg 21 false (zd 23 .gtr 22 (zI 999)),zy 24 (.pick (.t 21) (.c (.bool true)) (.t 23)),zm 25 24,zg 25 false (zq 26 4),zg 25 false (zk 27 729 [.t 26]),zg 25 false (zt 28 27),zy 29 (.pick (.t 25) (.c (.bool true)) (.t 28))])
 (zC 29 (zs (zr [10] [zc 10 (zI 2)])
 .ret)
 .skip))
 (zs (zr [10] [zc 10 (zI 0)])
 .ret)))) }
def N704 : az:={ np:=3,nt:=47,res:=[(6,none)],body :=
 (zs (zr [2,3,4] [zo 3 0,zo 4 1,zc 6 .nils])
 (zs (zr [2,3,4,7] [zm 9 2,zd 10 .add 9 (zI 1),zy 11 (.mks 2 16 [zI 0,zI 0] (.c (zI 0)) (.t 10)),zq 7 11])
 (zs (zs (zr [2,3,4,7,13,14] [zm 12 2,zd 13 .add 12 (zI 1),zc 14 (zI 0)])
 (.block 0 (.loop (zs (zr [2,3,4,7,13,14,15] [zb 15 .lss 14 13])
 (zs (zC 15 .skip
 (.exit 0))
 (zs (.block 1 (zs (zr [2,3,4,7,8,13,14] [zm 16 14,zm 8 16])
 (.reg true [0,0,2,0,8,0,32,120,0,504,0,2040,4094,0,8192,0,32768,0,131072,491520,0,2064384,0,8359928,16773112,33554430,67108862,134217727,268435455] [2,3,4,7,13,14] [zm 17 7,zf 18 0 3,zl 19 1 18,zf 20 0 4,zl 21 1 20,zf 22 0 3,zl 23 1 22,zb 24 .sub 21 23,zm 25 8,zb 26 .mul 24 25,zm 27 2,zk 28 730 [.t 26,.t 27],zb 29 .add 19 28,zf 30 1 3,zl 31 1 30,zf 32 1 4,zl 33 1 32,zf 34 1 3,zl 35 1 34,zb 36 .sub 33 35,zm 37 8,zb 38 .mul 36 37,zm 39 2,zk 40 730 [.t 38,.t 39],zb 41 .add 31 40,zy 42 (.bld [zI 0,zI 0] [(0,1,.t 29),(1,1,.t 41)]),zy 43 (.bls 2 1 [zI 0,zI 0] [] [(0,.t 42)]),zy 44 (.app 2 16 false (.t 17) (.t 43)),zq 7 44])))
 (zr [2,3,4,7,13,14] [zd 45 .add 14 (zI 1),zm 14 45])))))))
 (zs (zr [6] [zq 46 7,zq 6 46])
 .ret)))) }
def N705 : az:={ np:=2,nt:=16,res:=[(4,none)],body :=
 (zs (zr [2,3] [zo 2 0,zo 3 1,zc 4 (zI 0)])
 (zs (zs (zr [2,3,12] [zL 5 2 2,zk 6 237 [.t 5],zt 7 6,zm 8 7,zg 8 false (zL 9 2 3),zg 8 false (zk 10 237 [.t 9]),zg 8 false (zt 11 10),zy 12 (.pick (.t 8) (.c (.bool true)) (.t 11))])
 (zC 12 (zs (zr [4] [zc 4 (zI 1)])
 .ret)
 .skip))
 (zs (zs (zr [15] [zL 13 2 2,zL 14 2 3,zy 15 (.beq false [0,0] (.t 13) (.t 14))])
 (zC 15 (zs (zr [4] [zc 4 (zI 25)])
 .ret)
 .skip))
 (zs (zr [4] [zc 4 (zI 0)])
 .ret)))) }
def N708 : az:={ np:=3,nt:=31,res:=[(6,none)],body :=
 (zs (zr [0,4,5] [zo 4 1,zo 5 2,zc 6 (zI 0)])
 (zs (.block 0 (zs (zr [4,5,7] [zm 8 0,zy 9 (.beq true [8] (.t 8) (.c .nilp)),zm 10 9,zg 10 true (zm 11 0),zg 10 true (zy 12 (.nck (.t 11))),zg 10 true (zL 13 2 12),zg 10 true (zk 14 234 [.t 13]),zg 10 true (zt 15 14),zy 16 (.pick (.t 10) (.t 15) (.c (.bool false))),zm 17 16,zg 17 false (zL 18 2 4),zg 17 false (zk 19 313 [.t 18]),zg 17 false (zt 20 19),zy 21 (.pick (.t 17) (.c (.bool true)) (.t 20)),zm 22 21,zg 22 false (zL 23 2 5),zg 22 false (zk 24 313 [.t 23]),zg 22 false (zt 25 24),zy 26 (.pick (.t 22) (.c (.bool true)) (.t 25)),zm 7 26])
 (zC 7 (zs (zr [6] [zc 6 (zI 1)])
 .ret)
 (zs (zr [27] [zL 28 2 4,zL 29 2 5,zy 30 (.beq false [0,0] (.t 28) (.t 29)),zm 27 30])
 (zC 27 (zs (zr [6] [zc 6 (zI 25)])
 .ret)
 .skip)))))
 (zs (zr [6] [zc 6 (zI 0)])
 .ret))) }
def N709 : az:={ np:=3,nt:=64,res:=[(6,none)],body :=
 (zs (zr [3,4,5] [zo 3 0,zo 4 1,zo 5 2,zc 6 (.bool false)])
 (zs (zs (zr [3,4,5,16,17,18] [zL 14 2 4,zL 15 2 5,zy 16 (.bls 2 2 [zI 0,zI 0] [] [(0,.t 14),(1,.t 15)]),zn 17 16,zc 18 (zI 0)])
 (.block 0 (.loop (zs (zr [3,4,5,16,17,18,19] [zb 19 .lss 18 17])
 (zs (zC 19 .skip
 (.exit 0))
 (zs (.block 1 (zs (zr [3,4,5,8,16,17,18] [zi 20 2 16 18,zL 21 2 20,zy 8 (.alc [zI 0,zI 0]),zw (.st 2 [] (.t 8) (.t 21))])
 (zs (zr [3,4,5,9,10,16,17,18] [zL 23 2 8,zy 24 (.iadA 3 2 (.t 3) (.c (zI 0))),zL 25 2 24,zy 26 (.iadA 3 2 (.t 3) (.c (zI 1))),zL 27 2 26,zy 28 (.iadA 3 2 (.t 3) (.c (zI 2))),zL 29 2 28,zk 30 355 [.t 23,.t 25,.t 27,.t 29],zm 22 30,zx 31 0 22,zx 32 1 22,zm 9 31,zm 10 32])
 (zs (zr [3,4,5,16,17,18,38] [zm 33 10,zd 34 .eql 33 (zI 0),zm 35 34,zg 35 true (zm 36 9),zg 35 true (zd 37 .geq 36 (zI 0)),zy 38 (.pick (.t 35) (.t 37) (.c (.bool false)))])
 (zC 38 (zs (zr [6] [zc 6 (.bool true)])
 .ret)
 .skip)))))
 (zr [3,4,5,16,17,18] [zd 39 .add 18 (zI 1),zm 18 39])))))))
 (zs (zs (zr [3,4,5,40] [zc 40 (zI 0)])
 (.block 2 (.loop (zs (zr [3,4,5,40,41] [zd 41 .lss 40 (zI 3)])
 (zs (zC 41 .skip
 (.exit 2))
 (zs (.block 3 (zs (zr [3,4,5,11,40] [zm 42 40,zm 11 42])
 (zs (.reg true [0,0,0,4,12,0,32,96,224,480,1023,2047,4095,4095,8191,32767] [3,4,5,12,13,40] [zL 44 2 4,zL 45 2 5,zm 46 11,zy 47 (.iadA 3 2 (.t 3) (.t 46)),zL 48 2 47,zm 49 11,zd 50 .add 49 (zI 1),zd 51 .rem 50 (zI 3),zy 52 (.iadA 3 2 (.t 3) (.t 51)),zL 53 2 52,zk 54 711 [.t 44,.t 45,.t 48,.t 53],zm 43 54,zx 55 0 43,zx 56 1 43,zm 12 55,zm 13 56])
 (zs (zr [3,4,5,40,62] [zm 57 13,zd 58 .eql 57 (zI 0),zm 59 58,zg 59 true (zm 60 12),zg 59 true (zd 61 .gtr 60 (zI 0)),zy 62 (.pick (.t 59) (.t 61) (.c (.bool false)))])
 (zC 62 (zs (zr [6] [zc 6 (.bool true)])
 .ret)
 .skip)))))
 (zr [3,4,5,40] [zd 63 .add 40 (zI 1),zm 40 63])))))))
 (zs (zr [6] [zc 6 (.bool false)])
 .ret)))) }
def N710 : az:={ np:=2,nt:=38,res:=[(4,some (6,true))],body :=
 (zs (zr [2,3,4] [zo 2 0,zo 3 1,zy 4 (.alc [zI 0,zI 0,zI 0,zI 0,zI 0,zI 0])])
 (zs (zr [2,3,4,5] [zy 5 (.alc [zI 0,zI 0,zI 0,zI 0,zI 0,zI 0])])
 (zs (zs (zr [2,4,5,14,15,16] [zf 8 0 3,zl 9 1 8,zf 10 1 3,zl 11 1 10,zf 12 2 3,zl 13 1 12,zy 14 (.bls 1 3 [zI 0] [] [(0,.t 9),(1,.t 11),(2,.t 13)]),zn 15 14,zc 16 (zI 0)])
 (.block 0 (.loop (zs (zr [2,4,5,14,15,16,17] [zb 17 .lss 16 15])
 (zs (zC 17 .skip
 (.exit 0))
 (zs (.block 1 (zs (zr [2,4,5,6,7,14,15,16] [zm 18 16,zi 19 1 14 16,zl 20 1 19,zm 6 18,zm 7 20])
 (.reg true [0,0,2,0,14,30,62,0,128,0,896,1920,3968,8190,16383,32767] [2,4,5,14,15,16] [zm 21 6,zf 22 0 2,zl 23 1 22,zm 24 7,zi 25 3 23 24,zf 26 0 25,zl 27 1 26,zf 28 0 2,zl 29 1 28,zm 30 7,zi 31 3 29 30,zf 32 1 31,zl 33 1 32,zy 34 (.bld [zI 0,zI 0] [(0,1,.t 27),(1,1,.t 33)]),zy 35 (.iadA 3 2 (.t 5) (.t 21)),zw (.st 2 [] (.t 35) (.t 34))])))
 (zr [2,4,5,14,15,16] [zd 36 .add 16 (zI 1),zm 16 36])))))))
 (zs (zr [4] [zL 37 6 5,zw (.st 6 [] (.t 4) (.t 37))])
 .ret)))) }
def N711 : az:={ np:=4,nt:=63,res:=[(8,none),(9,none)],body :=
 (zs (zr [4,5,6,7] [zo 4 0,zo 5 1,zo 6 2,zo 7 3,zc 8 (zI 0),zc 9 (zI 0)])
 (zs (.block 0 (zs (zr [4,5,6,7,10] [zL 11 2 4,zL 12 2 5,zL 13 2 6,zL 14 2 7,zy 15 (.bls 2 4 [zI 0,zI 0] [] [(0,.t 11),(1,.t 12),(2,.t 13),(3,.t 14)]),zk 16 359 [.t 15],zt 17 16,zm 10 17])
 (zC 10 (zs (zr [8,9] [zc 8 (zI 0),zc 9 (zI 1)])
 .ret)
 (zs (zr [4,5,6,7,18] [zL 19 2 4,zL 20 2 5,zy 21 (.beq false [0,0] (.t 19) (.t 20)),zm 22 21,zg 22 false (zL 23 2 6),zg 22 false (zL 24 2 7),zg 22 false (zy 25 (.beq false [0,0] (.t 23) (.t 24))),zy 26 (.pick (.t 22) (.c (.bool true)) (.t 25)),zm 18 26])
 (zC 18 (zs (zr [8,9] [zc 8 (zI 0),zc 9 (zI 25)])
 .ret)
 (zs (zr [4,5,6,7,27] [zL 28 2 4,zL 29 2 5,zL 30 2 6,zL 31 2 7,zk 32 731 [.t 28,.t 29,.t 30,.t 31],zm 33 32,zg 33 true (zL 34 2 6),zg 33 true (zL 35 2 7),zg 33 true (zL 36 2 4),zg 33 true (zL 37 2 5),zg 33 true (zk 38 731 [.t 34,.t 35,.t 36,.t 37]),zy 39 (.pick (.t 33) (.t 38) (.c (.bool false))),zm 27 39])
 (zC 27 (zs (zr [8,9] [zc 8 (zI 2),zc 9 (zI 0)])
 .ret)
 (zs (zr [40] [zL 41 2 4,zL 42 2 5,zL 43 2 6,zk 44 732 [.t 41,.t 42,.t 43],zm 45 44,zg 45 false (zL 46 2 4),zg 45 false (zL 47 2 5),zg 45 false (zL 48 2 7),zg 45 false (zk 49 732 [.t 46,.t 47,.t 48]),zy 50 (.pick (.t 45) (.c (.bool true)) (.t 49)),zm 51 50,zg 51 false (zL 52 2 6),zg 51 false (zL 53 2 7),zg 51 false (zL 54 2 4),zg 51 false (zk 55 732 [.t 52,.t 53,.t 54]),zy 56 (.pick (.t 51) (.c (.bool true)) (.t 55)),zm 57 56,zg 57 false (zL 58 2 6),zg 57 false (zL 59 2 7),zg 57 false (zL 60 2 5),zg 57 false (zk 61 732 [.t 58,.t 59,.t 60]),zy 62 (.pick (.t 57) (.c (.bool true)) (.t 61)),zm 40 62])
 (zC 40 (zs (zr [8,9] [zc 8 (zI 1),zc 9 (zI 0)])
 .ret)
 .skip)))))))))
 (zs (zr [8,9] [zc 8 (zI 0),zc 9 (zI 0)])
 .ret))) }
def N712 : az:={ np:=4,nt:=61,res:=[(8,some (2,true)),(9,none)],body :=
 (zs (zr [4,5,6,7,8] [zo 4 0,zo 5 1,zo 6 2,zo 7 3,zy 8 (.alc [zI 0,zI 0]),zc 9 (zI 0)])
 (zs (zs (zr [4,5,6,7,8,18] [zL 12 2 4,zL 13 2 5,zL 14 2 6,zL 15 2 7,zy 16 (.bls 2 4 [zI 0,zI 0] [] [(0,.t 12),(1,.t 13),(2,.t 14),(3,.t 15)]),zk 17 359 [.t 16],zt 18 17])
 (zC 18 (zs (zr [8,9] [zy 19 (.bld [zI 0,zI 0] []),zw (.st 2 [] (.t 8) (.t 19)),zc 9 (zI 1)])
 .ret)
 .skip))
 (zs (zs (zr [4,5,6,7,8,27] [zL 20 2 4,zL 21 2 5,zy 22 (.beq false [0,0] (.t 20) (.t 21)),zm 23 22,zg 23 false (zL 24 2 6),zg 23 false (zL 25 2 7),zg 23 false (zy 26 (.beq false [0,0] (.t 24) (.t 25))),zy 27 (.pick (.t 23) (.c (.bool true)) (.t 26))])
 (zC 27 (zs (zr [8,9] [zy 28 (.bld [zI 0,zI 0] []),zw (.st 2 [] (.t 8) (.t 28)),zc 9 (zI 25)])
 .ret)
 .skip))
 (zs (zr [5,6,7,8,10] [zL 29 2 6,zL 30 2 7,zL 31 2 4,zk 32 360 [.t 29,.t 30,.t 31],zm 10 32])
 (zs (zr [8,10,11] [zm 33 10,zL 34 2 6,zL 35 2 7,zL 36 2 5,zk 37 360 [.t 34,.t 35,.t 36],zb 38 .sub 33 37,zm 11 38])
 (zs (zs (zr [8,10,11,40] [zm 39 11,zd 40 .eql 39 (zI 0)])
 (zC 40 (zs (zr [8,9] [zy 41 (.bld [zI 0,zI 0] []),zw (.st 2 [] (.t 8) (.t 41)),zc 9 (zI 16)])
 .ret)
 .skip))
 (zs (zs (zr [8,10,11,43] [zm 42 11,zd 43 .lss 42 (zI 0)])
 (zC 43 (zr [8,10,11] [zm 44 10,zy 45 (.un .neg (.t 44)),zm 46 11,zy 47 (.un .neg (.t 46)),zm 10 45,zm 11 47])
 .skip))
 (zs (zs (zr [8,10,11,54] [zm 48 10,zd 49 .lss 48 (zI 0),zm 50 49,zg 50 false (zm 51 10),zg 50 false (zm 52 11),zg 50 false (zb 53 .gtr 51 52),zy 54 (.pick (.t 50) (.c (.bool true)) (.t 53))])
 (zC 54 (zs (zr [8,9] [zy 55 (.bld [zI 0,zI 0] []),zw (.st 2 [] (.t 8) (.t 55)),zc 9 (zI 2)])
 .ret)
 .skip))
 (zs (zr [8,9] [zm 56 10,zm 57 11,zk 58 733 [.t 56,.t 57],zx 59 0 58,zx 60 1 58,zw (.st 2 [] (.t 8) (.t 59)),zm 9 60])
 .ret))))))))) }
def N714 : az:={ np:=2,nt:=14,res:=[(4,none)],body :=
 (zs (zr [2,3] [zo 2 0,zo 3 1,zc 4 (zI 0)])
 (zs (zr [5] [zL 8 2 2,zL 9 2 3,zk 10 690 [.t 8,.t 9],zm 7 10,zx 11 0 7,zx 12 1 7,zm 5 11,zm 6 12])
 (zs (zr [4] [zm 13 5,zm 4 13])
 .ret))) }
def N715 : az:={ np:=1,nt:=61,res:=[(2,none)],body :=
 (zs (zr [0] [zc 2 .nils])
 (zs (zs (zr [0,8] [zm 6 0,zn 7 6,zd 8 .lss 7 (zI 2)])
 (zC 8 (zs (zr [2] [zq 9 0,zq 2 9])
 .ret)
 .skip))
 (zs (zs (zr [0,3] [zc 3 (zI 1)])
 (.block 0 (.loop (zs (zs (zr [0,3,13] [zm 10 3,zm 11 0,zn 12 11,zb 13 .lss 10 12])
 (zC 13 .skip
 (.exit 0)))
 (zs (.block 1 (zs (.reg true [0,0,3,7,0,0,32,112,240,511] [0,3,25] [zm 16 0,zm 17 3,zi 18 2 16 17,zL 19 2 18,zm 20 0,zm 21 3,zd 22 .sub 21 (zI 1),zi 23 2 20 22,zL 24 2 23,zy 25 (.beq false [0,0] (.t 19) (.t 24))])
 (zC 25 (zs (zr [0,3,4] [zm 26 0,zm 27 3,zy 28 (.slc 2 (.t 26) (some (.t 27)) none),zm 4 28])
 (zs (zs (zr [0,3,4,5] [zc 5 (zI 1)])
 (.block 2 (.loop (zs (zs (zr [0,3,4,5,32] [zm 29 5,zm 30 4,zn 31 30,zb 32 .lss 29 31])
 (zC 32 .skip
 (.exit 2)))
 (zs (.block 3 (zs (.reg true [0,0,3,7,0,0,32,112,240,511] [0,3,4,5,44] [zm 35 4,zm 36 5,zi 37 2 35 36,zL 38 2 37,zm 39 4,zm 40 5,zd 41 .sub 40 (zI 1),zi 42 2 39 41,zL 43 2 42,zy 44 (.beq true [0,0] (.t 38) (.t 43))])
 (zC 44 (zs (zr [0,3,4,5] [zm 45 0,zm 46 3,zm 47 4,zm 48 5,zi 49 2 47 48,zL 50 2 49,zi 51 2 45 46,zw (.st 2 [] (.t 51) (.t 50))])
 (zr [0,3,4,5] [zm 52 3,zd 53 .add 52 (zI 1),zm 3 53]))
 .skip)))
 (zr [0,3,4,5] [zm 33 5,zd 34 .add 33 (zI 1),zm 5 34]))))))
 (zs (zr [0,3] [zm 54 0,zm 55 3,zy 56 (.slc 2 (.t 54) (some (.t 55)) none),zw (.clr [zI 0,zI 0] (.t 56))])
 (zs (zr [2] [zq 57 0,zm 58 3,zy 59 (.slc 2 (.t 57) none (some (.t 58))),zq 2 59])
 .ret))))
 .skip)))
 (zr [0,3] [zm 14 3,zd 15 .add 14 (zI 1),zm 3 15]))))))
 (zs (zr [2] [zq 60 0,zq 2 60])
 .ret)))) }
def N722 : az:={ np:=1,nt:=31,res:=[(2,none)],body :=
 (zs (zr [1] [zo 1 0,zc 2 (.bool false)])
 (zs (.reg true [0,1,3,7,15,31,63,127,255,511,1023,2047,4095,8191,16383,32767,65535,131071,262143,524287,1048575,2097151,524287,4718591,13107199,33554431,67108863,134217727,268435455] [2] [zf 3 1 1,zl 4 1 3,zd 5 .geq 4 (zI 1),zm 6 5,zg 6 true (zf 7 1 1),zg 6 true (zl 8 1 7),zg 6 true (zd 9 .leq 8 (zI 1073741824)),zy 10 (.pick (.t 6) (.t 9) (.c (.bool false))),zm 11 10,zg 11 true (zf 12 0 1),zg 11 true (zl 13 1 12),zg 11 true (zy 14 (.bin .geq (.t 13) (.c (zI (-1073741824))))),zy 15 (.pick (.t 11) (.t 14) (.c (.bool false))),zm 16 15,zg 16 true (zf 17 0 1),zg 16 true (zl 18 1 17),zg 16 true (zd 19 .leq 18 (zI 1073741824)),zy 20 (.pick (.t 16) (.t 19) (.c (.bool false))),zm 21 20,zg 21 true (zf 22 0 1),zg 21 true (zl 23 1 22),zg 21 true (zk 24 739 [.t 23]),zg 21 true (zf 25 1 1),zg 21 true (zl 26 1 25),zg 21 true (zy 27 (.conv .u64 (.t 26))),zg 21 true (zk 28 738 [.t 24,.t 27]),zg 21 true (zd 29 .eql 28 (.int .u64 1)),zy 30 (.pick (.t 21) (.t 29) (.c (.bool false))),zm 2 30])
 .ret)) }
def N723 : az:={ np:=6,nt:=74,res:=[(12,some (2,true)),(13,none)],body :=
 (zs (zr [3,4,5,6,7,8,12] [zo 6 0,zo 7 1,zo 8 2,zy 12 (.alc [zI 0,zI 0]),zc 13 (zI 0)])
 (zs (zr [3,4,5,12,14,15] [zL 21 2 6,zL 22 2 7,zL 23 2 8,zm 24 3,zy 25 (.callA 726 [.t 21,.t 22,.t 23,.t 24]),zm 20 25,zx 26 0 20,zx 27 1 20,zq 14 26,zm 15 27])
 (zs (zs (zr [3,4,5,12,14,15,29] [zm 28 15,zd 29 .neq 28 (zI 0)])
 (zC 29 (zs (zr [12,13] [zy 30 (.bld [zI 0,zI 0] []),zm 31 15,zw (.st 2 [] (.t 12) (.t 30)),zm 13 31])
 .ret)
 .skip))
 (zs (zs (zr [3,4,5,12,14,33,34] [zm 32 14,zn 33 32,zc 34 (zI 0)])
 (.block 0 (.loop (zs (zr [3,4,5,12,14,33,34,35] [zb 35 .lss 34 33])
 (zs (zC 35 .skip
 (.exit 0))
 (zs (.block 1 (zs (zr [3,4,5,12,14,16,33,34] [zm 36 34,zm 16 36])
 (zs (zr [3,4,5,12,14,16,17,33,34] [zm 37 5,zm 38 4,zb 39 .sub 37 38,zm 40 16,zb 41 .mul 39 40,zm 17 41])
 (zs (zr [3,4,5,12,14,16,18,19,33,34] [zm 42 4,zm 43 17,zm 44 3,zk 45 730 [.t 43,.t 44],zb 46 .add 42 45,zm 47 4,zm 48 17,zy 49 (.un .neg (.t 48)),zm 50 3,zk 51 730 [.t 49,.t 50],zb 52 .sub 47 51,zm 18 46,zm 19 52])
 (.reg true [0,0,0,0,12,28,60,0,252,0,0,1536,3584,7680,0,32256,65532,131071,262143] [3,4,5,12,14,33,34] [zm 53 14,zm 54 16,zm 55 14,zm 56 16,zi 57 2 55 56,zf 58 0 57,zl 59 1 58,zm 60 19,zb 61 .sub 59 60,zm 62 14,zm 63 16,zi 64 2 62 63,zf 65 1 64,zl 66 1 65,zm 67 18,zb 68 .sub 66 67,zy 69 (.bld [zI 0,zI 0] [(0,1,.t 61),(1,1,.t 68)]),zi 70 2 53 54,zw (.st 2 [] (.t 70) (.t 69))])))))
 (zr [3,4,5,12,14,33,34] [zd 71 .add 34 (zI 1),zm 34 71])))))))
 (zs (zr [12,13] [zq 72 14,zk 73 727 [.t 72],zw (.st 2 [] (.t 12) (.t 73)),zc 13 (zI 0)])
 .ret))))) }
def N726 : az:={ np:=4,nt:=39,res:=[(8,none),(9,none)],body :=
 (zs (zr [3,4,5,6] [zo 4 0,zo 5 1,zo 6 2,zc 8 .nils,zc 9 (zI 0)])
 (zs (zr [3,4,5,6,10] [zy 10 (.nilo 2)])
 (zs (zs (zr [4,10,18,19,20] [zL 15 2 5,zL 16 2 6,zm 17 3,zk 18 704 [.t 15,.t 16,.t 17],zn 19 18,zc 20 (zI 0)])
 (.block 0 (.loop (zs (zr [4,10,18,19,20,21] [zb 21 .lss 20 19])
 (zs (zC 21 .skip
 (.exit 0))
 (zs (.block 1 (zs (zr [4,10,12,18,19,20] [zi 22 2 18 20,zL 23 2 22,zy 12 (.alc [zI 0,zI 0]),zw (.st 2 [] (.t 12) (.t 23))])
 (zs (zr [4,10,13,14,18,19,20] [zL 25 2 4,zL 26 2 12,zk 27 233 [.t 25,.t 26],zm 24 27,zx 28 0 24,zx 29 1 24,zy 13 (.alc [zI 0,zI 0]),zw (.st 2 [] (.t 13) (.t 28)),zm 14 29])
 (zs (zs (zr [4,10,13,14,18,19,20,31] [zm 30 14,zd 31 .neq 30 (zI 0)])
 (zC 31 (zs (zr [8,9] [zm 32 14,zc 8 .nils,zm 9 32])
 .ret)
 .skip))
 (zr [4,10,18,19,20] [zm 33 10,zL 34 2 13,zy 35 (.bls 2 1 [zI 0,zI 0] [] [(0,.t 34)]),zy 36 (.app 2 16 false (.t 33) (.t 35)),zq 10 36])))))
 (zr [4,10,18,19,20] [zd 37 .add 20 (zI 1),zm 20 37])))))))
 (zs (zr [8,9] [zq 38 10,zq 8 38,zc 9 (zI 0)])
 .ret)))) }
def N727 : az:={ np:=1,nt:=29,res:=[(2,some (2,true))],body :=
 (zs (zr [0,2] [zy 2 (.alc [zI 0,zI 0])])
 (zs (zr [0,2,3] [zm 6 0,zy 7 (.iadS 2 (.t 6) (.c (zI 0))),zL 8 2 7,zy 3 (.alc [zI 0,zI 0]),zw (.st 2 [] (.t 3) (.t 8))])
 (zs (zs (zr [2,3,9,10,11] [zq 9 0,zn 10 9,zc 11 (zI 0)])
 (.block 0 (.loop (zs (zr [2,3,9,10,11,12] [zb 12 .lss 11 10])
 (zs (zC 12 .skip
 (.exit 0))
 (zs (.block 1 (zs (zr [2,3,5,9,10,11] [zi 13 2 9 11,zL 14 2 13,zy 5 (.alc [zI 0,zI 0]),zw (.st 2 [] (.t 5) (.t 14))])
 (.reg true [0,1,0,4,15,0,32,0,128,480,127,1151,4095,8191] [2,3,9,10,11] [zf 15 0 3,zl 16 1 15,zf 17 0 5,zl 18 1 17,zy 19 (.mn (.t 16) (.t 18)),zf 20 1 3,zl 21 1 20,zf 22 1 5,zl 23 1 22,zy 24 (.mn (.t 21) (.t 23)),zf 25 0 3,zw (.st 1 [] (.t 25) (.t 19)),zf 26 1 3,zw (.st 1 [] (.t 26) (.t 24))])))
 (zr [2,3,9,10,11] [zd 27 .add 11 (zI 1),zm 11 27])))))))
 (zs (zr [2] [zL 28 2 3,zw (.st 2 [] (.t 2) (.t 28))])
 .ret)))) }
def N729 : az:={ np:=1,nt:=6,res:=[(2,none)],body :=
 (zs (zr [0] [zc 2 (.bool false)])
 (zs (zr [2] [zq 3 0,zy 4 (.call 11 [.t 3,(.c (.fn 740 []))] []),zt 5 4,zm 2 5])
 .ret)) }
def N730 : az:={ np:=2,nt:=16,res:=[(4,none)],body :=
 (zs (zr [0,1] [zc 4 (zI 0)])
 (zs (zr [0,1,5] [zm 6 0,zm 7 1,zb 8 .quo 6 7,zm 5 8])
 (zs (zs (zr [5,12] [zm 9 0,zm 10 1,zb 11 .rem 9 10,zd 12 .lss 11 (zI 0)])
 (zC 12 (zr [5] [zm 13 5,zd 14 .sub 13 (zI 1),zm 5 14])
 .skip))
 (zs (zr [4] [zm 15 5,zm 4 15])
 .ret)))) }
def N731 : az:={ np:=4,nt:=33,res:=[(8,none)],body :=
 (zs (zr [4,5,6,7] [zo 4 0,zo 5 1,zo 6 2,zo 7 3,zc 8 (.bool false)])
 (zs (.reg true [0,0,0,7,0,0,0,127,255,511] [9,10] [zL 11 2 4,zL 12 2 5,zL 13 2 6,zk 14 360 [.t 11,.t 12,.t 13],zL 15 2 4,zL 16 2 5,zL 17 2 7,zk 18 360 [.t 15,.t 16,.t 17],zm 9 14,zm 10 18])
 (zs (zr [8] [zm 19 9,zd 20 .lss 19 (zI 0),zm 21 20,zg 21 true (zm 22 10),zg 21 true (zd 23 .gtr 22 (zI 0)),zy 24 (.pick (.t 21) (.t 23) (.c (.bool false))),zm 25 24,zg 25 false (zm 26 9),zg 25 false (zd 27 .gtr 26 (zI 0)),zg 25 false (zm 28 27),zg 28 true (zm 29 10),zg 28 true (zd 30 .lss 29 (zI 0)),zg 25 false (zy 31 (.pick (.t 28) (.t 30) (.c (.bool false)))),zy 32 (.pick (.t 25) (.c (.bool true)) (.t 31)),zm 8 32])
 .ret))) }
def N732 : az:={ np:=3,nt:=52,res:=[(6,none)],body :=
 (zs (zr [3,4,5] [zo 3 0,zo 4 1,zo 5 2,zc 6 (.bool false)])
 (zs (zr [6] [zL 7 2 3,zL 8 2 4,zL 9 2 5,zk 10 360 [.t 7,.t 8,.t 9],zd 11 .eql 10 (zI 0),zm 12 11,zg 12 true (zf 13 0 5),zg 12 true (zl 14 1 13),zg 12 true (zf 15 0 3),zg 12 true (zl 16 1 15),zg 12 true (zf 17 0 4),zg 12 true (zl 18 1 17),zg 12 true (zy 19 (.mn (.t 16) (.t 18))),zg 12 true (zb 20 .geq 14 19),zy 21 (.pick (.t 12) (.t 20) (.c (.bool false))),zm 22 21,zg 22 true (zf 23 0 5),zg 22 true (zl 24 1 23),zg 22 true (zf 25 0 3),zg 22 true (zl 26 1 25),zg 22 true (zf 27 0 4),zg 22 true (zl 28 1 27),zg 22 true (zy 29 (.mx (.t 26) (.t 28))),zg 22 true (zb 30 .leq 24 29),zy 31 (.pick (.t 22) (.t 30) (.c (.bool false))),zm 32 31,zg 32 true (zf 33 1 5),zg 32 true (zl 34 1 33),zg 32 true (zf 35 1 3),zg 32 true (zl 36 1 35),zg 32 true (zf 37 1 4),zg 32 true (zl 38 1 37),zg 32 true (zy 39 (.mn (.t 36) (.t 38))),zg 32 true (zb 40 .geq 34 39),zy 41 (.pick (.t 32) (.t 40) (.c (.bool false))),zm 42 41,zg 42 true (zf 43 1 5),zg 42 true (zl 44 1 43),zg 42 true (zf 45 1 3),zg 42 true (zl 46 1 45),zg 42 true (zf 47 1 4),zg 42 true (zl 48 1 47),zg 42 true (zy 49 (.mx (.t 46) (.t 48))),zg 42 true (zb 50 .leq 44 49),zy 51 (.pick (.t 42) (.t 50) (.c (.bool false))),zm 6 51])
 .ret)) }
def N733 : az:={ np:=2,nt:=48,res:=[(4,some (2,true)),(5,none)],body :=
 (zs (zr [0,1,4] [zy 4 (.alc [zI 0,zI 0]),zc 5 (zI 0)])
 (zs (zs (zr [0,1,4,11] [zm 10 1,zd 11 .eql 10 (zI 0)])
 (zC 11 (zs (zr [4,5] [zy 12 (.bld [zI 0,zI 0] []),zw (.st 2 [] (.t 4) (.t 12)),zc 5 (zI 16)])
 .ret)
 .skip))
 (zs (zr [0,1,4,6,7] [zm 13 0,zk 14 739 [.t 13],zm 15 1,zk 16 739 [.t 15],zm 6 14,zm 7 16])
 (zs (zr [0,1,4,6,7,8] [zm 17 6,zm 18 7,zk 19 738 [.t 17,.t 18],zm 8 19])
 (zs (zs (.reg true [0,0,3,0,0,24,7,127] [0,1,4,6,7] [zm 20 6,zm 21 8,zb 22 .quo 20 21,zm 23 7,zm 24 8,zb 25 .quo 23 24,zm 6 22,zm 7 25])
 (zs (zr [0,1,4,6,7,31] [zm 26 6,zd 27 .gtr 26 (.int .u64 1073741824),zm 28 27,zg 28 false (zm 29 7),zg 28 false (zd 30 .gtr 29 (.int .u64 1073741824)),zy 31 (.pick (.t 28) (.c (.bool true)) (.t 30))])
 (zC 31 (zs (zr [4,5] [zy 32 (.bld [zI 0,zI 0] []),zw (.st 2 [] (.t 4) (.t 32)),zc 5 (zI 5)])
 .ret)
 .skip)))
 (zs (zr [0,1,4,9] [zm 33 6,zy 34 (.conv .i64 (.t 33)),zm 35 7,zy 36 (.conv .i64 (.t 35)),zy 37 (.bld [zI 0,zI 0] [(0,1,.t 34),(1,1,.t 36)]),zy 9 (.alc [zI 0,zI 0]),zw (.st 2 [] (.t 9) (.t 37))])
 (zs (zs (zr [4,9,42] [zm 38 0,zd 39 .lss 38 (zI 0),zm 40 1,zd 41 .lss 40 (zI 0),zy 42 (.beq true [] (.t 39) (.t 41))])
 (zC 42 (zr [4,9] [zf 43 0 9,zl 44 1 43,zy 45 (.un .neg (.t 44)),zf 46 0 9,zw (.st 1 [] (.t 46) (.t 45))])
 .skip))
 (zs (zr [4,5] [zL 47 2 9,zw (.st 2 [] (.t 4) (.t 47)),zc 5 (zI 0)])
 .ret)))))))) }
def N738 : az:={ np:=2,nt:=12,res:=[(4,none)],body :=
 (zs (zr [0,1] [zc 4 (.int .u64 0)])
 (zs (.block 0 (.loop (zs (zs (zr [0,1,6] [zm 5 1,zd 6 .neq 5 (.int .u64 0)])
 (zC 6 .skip
 (.exit 0)))
 (.block 1 (.reg true [0,0,0,6,3,31] [0,1] [zm 7 1,zm 8 0,zm 9 1,zb 10 .rem 8 9,zm 0 7,zm 1 10])))))
 (zs (zr [4] [zm 11 0,zm 4 11])
 .ret))) }
def N739 : az:={ np:=1,nt:=10,res:=[(2,none)],body :=
 (zs (zr [0] [zc 2 (.int .u64 0)])
 (zs (zs (zr [0,4] [zm 3 0,zd 4 .lss 3 (zI 0)])
 (zC 4 (zs (zr [2] [zm 5 0,zy 6 (.conv .u64 (.t 5)),zy 7 (.un .neg (.t 6)),zm 2 7])
 .ret)
 .skip))
 (zs (zr [2] [zm 8 0,zy 9 (.conv .u64 (.t 8)),zm 2 9])
 .ret))) }
def N740 : az:={ np:=1,nt:=9,res:=[(2,none)],body :=
 (zs (zr [0] [zc 2 (.bool false)])
 (zs (zr [2] [zm 3 0,zy 4 (.bin .lss (.t 3) (.c (zI (-4194304)))),zm 5 4,zg 5 false (zm 6 0),zg 5 false (zd 7 .gtr 6 (zI 4194304)),zy 8 (.pick (.t 5) (.c (.bool true)) (.t 7)),zm 2 8])
 .ret)) }
def prog : Nat -> Option az
 | 11=>some N11
 | 19=>some N19
 | 35=>some N35
 | 91=>some N91
 | 92=>some N92
 | 99=>some N99
 | 102=>some N102
 | 103=>some N103
 | 104=>some N104
 | 105=>some N105
 | 106=>some N106
 | 107=>some N107
 | 108=>some N108
 | 110=>some N110
 | 111=>some N111
 | 112=>some N112
 | 113=>some N113
 | 215=>some N215
 | 233=>some N233
 | 234=>some N234
 | 237=>some N237
 | 239=>some N239
 | 257=>some N257
 | 258=>some N258
 | 267=>some N267
 | 269=>some N269
 | 271=>some N271
 | 272=>some N272
 | 273=>some N273
 | 274=>some N274
 | 275=>some N275
 | 276=>some N276
 | 278=>some N278
 | 284=>some N284
 | 285=>some N285
 | 286=>some N286
 | 289=>some N289
 | 290=>some N290
 | 291=>some N291
 | 292=>some N292
 | 293=>some N293
 | 294=>some N294
 | 295=>some N295
 | 298=>some N298
 | 299=>some N299
 | 300=>some N300
 | 301=>some N301
 | 302=>some N302
 | 303=>some N303
 | 304=>some N304
 | 305=>some N305
 | 306=>some N306
 | 307=>some N307
 | 308=>some N308
 | 309=>some N309
 | 310=>some N310
 | 311=>some N311
 | 312=>some N312
 | 313=>some N313
 | 319=>some N319
 | 320=>some N320
 | 321=>some N321
 | 323=>some N323
 | 324=>some N324
 | 327=>some N327
 | 328=>some N328
 | 355=>some N355
 | 359=>some N359
 | 360=>some N360
 | 361=>some N361
 | 399=>some N399
 | 400=>some N400
 | 401=>some N401
 | 403=>some N403
 | 404=>some N404
 | 676=>some N676
 | 677=>some N677
 | 678=>some N678
 | 680=>some N680
 | 682=>some N682
 | 683=>some N683
 | 684=>some N684
 | 687=>some N687
 | 688=>some N688
 | 690=>some N690
 | 691=>some N691
 | 695=>some N695
 | 699=>some N699
 | 700=>some N700
 | 701=>some N701
 | 702=>some N702
 | 703=>some N703
 | 704=>some N704
 | 705=>some N705
 | 708=>some N708
 | 709=>some N709
 | 710=>some N710
 | 711=>some N711
 | 712=>some N712
 | 714=>some N714
 | 715=>some N715
 | 722=>some N722
 | 723=>some N723
 | 726=>some N726
 | 727=>some N727
 | 729=>some N729
 | 730=>some N730
 | 731=>some N731
 | 732=>some N732
 | 733=>some N733
 | 738=>some N738
 | 739=>some N739
 | 740=>some N740
 | _=>none
end Go.Gv
