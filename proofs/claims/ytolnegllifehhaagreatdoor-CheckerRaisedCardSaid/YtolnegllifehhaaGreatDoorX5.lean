/-
  Texts of the proof: GvP.
-/
import Derived.Test.YtolnegllifehhaaGreatDoorX4
set_option linter.all false
set_option maxRecDepth 4000
namespace Go.Gv
@[simp] def zr (k : List Nat) (o : List aq) : cy:=.reg false [] k o
@[simp] def zI (n : Int) : D:=.int .i64 n
@[simp] def zC (t : Nat) (a b : cy) : cy:=.cond (.t t) a b
@[simp] def zs (a b : cy) : cy:=.seq a b
@[simp] def zm (a b : Nat) : aq:=⟨some a,.mov (.t b),none⟩
@[simp] def zc (a : Nat) (d : D) : aq:=⟨some a,.mov (.c d),none⟩
@[simp] def zf (a i b : Nat) : aq:=⟨some a,.fad i (.t b),none⟩
@[simp] def zl (a n b : Nat) : aq:=⟨some a,.ld n false (.t b),none⟩
@[simp] def zL (a n b : Nat) : aq:=⟨some a,.ld n true (.t b),none⟩
@[simp] def zx (a i b : Nat) : aq:=⟨some a,.ext i (.t b),none⟩
@[simp] def zn (a b : Nat) : aq:=⟨some a,.len (.t b),none⟩
@[simp] def zq (a b : Nat) : aq:=⟨some a,.asg (.t b),none⟩
@[simp] def zi (a n b c : Nat) : aq:=⟨some a,.iadS n (.t b) (.t c),none⟩
@[simp] def zo (a b : Nat) : aq:=⟨some a,.boxF (.t b),none⟩
@[simp] def zt (a b : Nat) : aq:=⟨some a,.un .not (.t b),none⟩
@[simp] def zk (a g : Nat) (xs : List Opd) : aq:=⟨some a,.call g xs [],none⟩
@[simp] def zb (a : Nat) (op : BinOp) (b c : Nat) : aq:=⟨some a,.bin op (.t b) (.t c),none⟩
@[simp] def zd (a : Nat) (op : BinOp) (b : Nat) (d : D) : aq:=⟨some a,.bin op (.t b) (.c d),none⟩
@[simp] def zg (c : Nat) (b : Bool) (s : aq) : aq:=⟨s.dst,s.op,some (c,b)⟩
def N11 : aw:={ np:=2,nt:=9,res:=[(4,none)],body :=
 (zs (zr [0,1] [zc 4 (.bool false)])
 (zs (zr [4] [zq 5 0,zm 6 1,zk 7 35 [(.t 5),(.t 6)],zd 8 .geq 7 (zI 0),zm 4 8])
 .ret)) }
def N35 : aw:={ np:=2,nt:=19,res:=[(4,none)],body :=
 (zs (zr [0,1] [zc 4 (zI 0)])
 (zs (zs (zr [0,1,7,8] [zm 6 0,zn 7 6,zc 8 (zI 0)])
 (.block 0 (.loop (zs (zr [0,1,7,8,9] [zb 9 .lss 8 7])
 (zs (zC 9 .skip
 (.exit 0))
 (zs (.block 1 (zs (zr [0,1,5,7,8] [zm 10 8,zm 5 10])
 (zs (zr [0,1,5,7,8,16] [zm 11 1,zm 12 0,zm 13 5,zi 14 1 12 13,zl 15 1 14,⟨some 16,.callv (.t 11) [(.t 15)],none⟩])
 (zC 16 (zs (zr [4] [zm 17 5,zm 4 17])
 .ret)
 .skip))))
 (zr [0,1,7,8] [zd 18 .add 8 (zI 1),zm 8 18])))))))
 (zs (zr [4] [⟨some 4,.mov (.c (zI (-1))),none⟩])
 .ret))) }
def N42 : aw:={ np:=1,nt:=8,res:=[(2,none)],body :=
 (zs (zr [0] [zc 2 .nils])
 (zs (zs (zr [0,4] [zm 3 0,⟨some 4,.beq false [9] (.t 3) (.c .nils),none⟩])
 (zC 4 (zs (zr [2] [zc 2 .nils])
 .ret)
 .skip))
 (zs (zr [2] [⟨some 5,.bls 1 0 [zI 0] [] [],none⟩,zq 6 0,⟨some 7,.app 1 8 false (.t 5) (.t 6),none⟩,zq 2 7])
 .ret))) }
def N45 : aw:={ np:=2,nt:=9,res:=[(4,none)],body :=
 (zs (zr [0,1] [zc 4 (.bool false)])
 (zs (zr [4] [zq 5 0,zm 6 1,zk 7 52 [(.t 5),(.t 6)],zd 8 .geq 7 (zI 0),zm 4 8])
 .ret)) }
def N52 : aw:={ np:=2,nt:=19,res:=[(4,none)],body :=
 (zs (zr [0,1] [zc 4 (zI 0)])
 (zs (zs (zr [0,1,7,8] [zm 6 0,zn 7 6,zc 8 (zI 0)])
 (.block 0 (.loop (zs (zr [0,1,7,8,9] [zb 9 .lss 8 7])
 (zs (zC 9 .skip
 (.exit 0))
 (zs (.block 1 (zs (zr [0,1,5,7,8] [zm 10 8,zm 5 10])
 (zs (zr [0,1,5,7,8,16] [zm 11 1,zm 12 0,zm 13 5,zi 14 5 12 13,zL 15 5 14,⟨some 16,.callv (.t 11) [(.t 15)],none⟩])
 (zC 16 (zs (zr [4] [zm 17 5,zm 4 17])
 .ret)
 .skip))))
 (zr [0,1,7,8] [zd 18 .add 8 (zI 1),zm 8 18])))))))
 (zs (zr [4] [⟨some 4,.mov (.c (zI (-1))),none⟩])
 .ret))) }
def N58 : aw:={ np:=1,nt:=22,res:=[(2,none)],body :=
 (zs (zr [0] [zc 2 (.bool false)])
 (zs (zr [2] [zm 3 0,zd 4 .neq 3 (.str []),zm 5 4,zg 5 true (zm 6 0),zg 5 true (⟨some 7,.lens (.t 6),none⟩),zg 5 true (zd 8 .leq 7 (zI 20)),⟨some 9,.pick (.t 5) (.t 8) (.c (.bool false)),none⟩,zm 10 9,zg 10 true (zm 11 0),zg 10 true (⟨some 12,.idxS (.t 11) (.c (zI 0)),none⟩),zg 10 true (zk 13 70 [(.t 12)]),⟨some 14,.pick (.t 10) (.t 13) (.c (.bool false)),none⟩,zm 15 14,zg 15 true (zm 16 0),zg 15 true (zk 17 71 [(.t 16)]),zg 15 true (zm 18 0),zg 15 true (⟨some 19,.lens (.t 18),none⟩),zg 15 true (zb 20 .eql 17 19),⟨some 21,.pick (.t 15) (.t 20) (.c (.bool false)),none⟩,zm 2 21])
 .ret)) }
def N70 : aw:={ np:=1,nt:=17,res:=[(2,none)],body :=
 (zs (zr [0] [zc 2 (.bool false)])
 (zs (zr [2] [zm 3 0,zd 4 .geq 3 (.int .u8 97),zm 5 4,zg 5 true (zm 6 0),zg 5 true (zd 7 .leq 6 (.int .u8 122)),⟨some 8,.pick (.t 5) (.t 7) (.c (.bool false)),none⟩,zm 9 8,zg 9 false (zm 10 0),zg 9 false (zd 11 .geq 10 (.int .u8 65)),zg 9 false (zm 12 11),zg 12 true (zm 13 0),zg 12 true (zd 14 .leq 13 (.int .u8 90)),zg 9 false (⟨some 15,.pick (.t 12) (.t 14) (.c (.bool false)),none⟩),⟨some 16,.pick (.t 9) (.c (.bool true)) (.t 15),none⟩,zm 2 16])
 .ret)) }
def N71 : aw:={ np:=1,nt:=29,res:=[(2,none)],body :=
 (zs (zr [0] [zc 2 (zI 0)])
 (zs (zr [0,3] [zc 3 (zI 0)])
 (zs (.block 0 (.loop (zs (zs (zr [0,3,25] [zm 4 3,zm 5 0,⟨some 6,.lens (.t 5),none⟩,zb 7 .lss 4 6,zm 8 7,zg 8 true (zm 9 0),zg 8 true (zm 10 3),zg 8 true (⟨some 11,.idxS (.t 9) (.t 10),none⟩),zg 8 true (zk 12 70 [(.t 11)]),zg 8 true (zm 13 12),zg 13 false (zm 14 0),zg 13 false (zm 15 3),zg 13 false (⟨some 16,.idxS (.t 14) (.t 15),none⟩),zg 13 false (zk 17 88 [(.t 16)]),zg 8 true (⟨some 18,.pick (.t 13) (.c (.bool true)) (.t 17),none⟩),zg 8 true (zm 19 18),zg 19 false (zm 20 0),zg 19 false (zm 21 3),zg 19 false (⟨some 22,.idxS (.t 20) (.t 21),none⟩),zg 19 false (zd 23 .eql 22 (.int .u8 95)),zg 8 true (⟨some 24,.pick (.t 19) (.c (.bool true)) (.t 23),none⟩),⟨some 25,.pick (.t 8) (.t 24) (.c (.bool false)),none⟩])
 (zC 25 .skip
 (.exit 0)))
 (.block 1 (zr [0,3] [zm 26 3,zd 27 .add 26 (zI 1),zm 3 27])))))
 (zs (zr [2] [zm 28 3,zm 2 28])
 .ret)))) }
def N72 : aw:={ np:=1,nt:=57,res:=[(2,none)],body :=
 (zs (zr [0] [zc 2 (.bool false)])
 (zs (zs (zr [0,12] [zm 5 0,zn 6 5,zd 7 .lss 6 (zI 1),zm 8 7,zg 8 false (zm 9 0),zg 8 false (zn 10 9),zg 8 false (zd 11 .gtr 10 (zI 100)),⟨some 12,.pick (.t 8) (.c (.bool true)) (.t 11),none⟩])
 (zC 12 (zs (zr [2] [zc 2 (.bool false)])
 .ret)
 .skip))
 (zs (zs (zr [0,13,14,15] [zm 13 0,zn 14 13,zc 15 (zI 0)])
 (.block 0 (.loop (zs (zr [0,13,14,15,16] [zb 16 .lss 15 14])
 (zs (zC 16 .skip
 (.exit 0))
 (zs (.block 1 (zs (zr [0,3,4,13,14,15] [zm 17 15,zi 18 2 13 15,zL 19 2 18,⟨some 4,.alc [zI 0,zI 0],none⟩,zm 3 17,⟨none,.st 2 [] (.t 4) (.t 19),none⟩])
 (zs (.reg true [0,1,3,7,15,31,63,127,255,511,1023,2047,4095,8191,16383,32767,16383,16383,147455,475135,999423,2047999,4194303,8388607,16777215,33554431,16777215,16777215,150994943,486539263,1023410175,2097151999,4294967295,8589934591,17179869183,34359738367] [0,13,14,15,55] [zf 20 0 4,zl 21 1 20,zk 22 89 [(.t 21)],zt 23 22,zm 24 23,zg 24 false (zf 25 1 4),zg 24 false (zl 26 1 25),zg 24 false (zk 27 89 [(.t 26)]),zg 24 false (zt 28 27),⟨some 29,.pick (.t 24) (.c (.bool true)) (.t 28),none⟩,zm 30 29,zg 30 false (zm 31 3),zg 30 false (zd 32 .gtr 31 (zI 0)),zg 30 false (zm 33 32),zg 33 true (zf 34 0 4),zg 33 true (zl 35 1 34),zg 33 true (zm 36 0),zg 33 true (zm 37 3),zg 33 true (zd 38 .sub 37 (zI 1)),zg 33 true (zi 39 2 36 38),zg 33 true (zf 40 0 39),zg 33 true (zl 41 1 40),zg 33 true (zb 42 .leq 35 41),zg 33 true (zm 43 42),zg 43 false (zf 44 1 4),zg 43 false (zl 45 1 44),zg 43 false (zm 46 0),zg 43 false (zm 47 3),zg 43 false (zd 48 .sub 47 (zI 1)),zg 43 false (zi 49 2 46 48),zg 43 false (zf 50 1 49),zg 43 false (zl 51 1 50),zg 43 false (zb 52 .lss 45 51),zg 33 true (⟨some 53,.pick (.t 43) (.c (.bool true)) (.t 52),none⟩),zg 30 false (⟨some 54,.pick (.t 33) (.t 53) (.c (.bool false)),none⟩),⟨some 55,.pick (.t 30) (.c (.bool true)) (.t 54),none⟩])
 (zC 55 (zs (zr [2] [zc 2 (.bool false)])
 .ret)
 .skip))))
 (zr [0,13,14,15] [zd 56 .add 15 (zI 1),zm 15 56])))))))
 (zs (zr [2] [zc 2 (.bool true)])
 .ret)))) }
def N88 : aw:={ np:=1,nt:=9,res:=[(2,none)],body :=
 (zs (zr [0] [zc 2 (.bool false)])
 (zs (zr [2] [zm 3 0,zd 4 .geq 3 (.int .u8 48),zm 5 4,zg 5 true (zm 6 0),zg 5 true (zd 7 .leq 6 (.int .u8 57)),⟨some 8,.pick (.t 5) (.t 7) (.c (.bool false)),none⟩,zm 2 8])
 .ret)) }
def N89 : aw:={ np:=1,nt:=9,res:=[(2,none)],body :=
 (zs (zr [0] [zc 2 (.bool false)])
 (zs (zr [2] [zm 3 0,⟨some 4,.bin .geq (.t 3) (.c (zI (-1125899906842624))),none⟩,zm 5 4,zg 5 true (zm 6 0),zg 5 true (zd 7 .leq 6 (zI 1125899906842624)),⟨some 8,.pick (.t 5) (.t 7) (.c (.bool false)),none⟩,zm 2 8])
 .ret)) }
def N91 : aw:={ np:=2,nt:=51,res:=[(4,none),(5,none)],body :=
 (zs (zr [0,1] [zc 4 (.int .u64 0),zc 5 (.int .u64 0)])
 (zs (zr [0,1,6] [zm 14 0,zd 15 .and 14 (.int .u64 4294967295),zm 6 15])
 (zs (zr [0,1,6,7] [zm 16 0,zd 17 .shr 16 (.int .u64 32),zm 7 17])
 (zs (zr [0,1,6,7,8] [zm 18 1,zd 19 .and 18 (.int .u64 4294967295),zm 8 19])
 (zs (zr [0,1,6,7,8,9] [zm 20 1,zd 21 .shr 20 (.int .u64 32),zm 9 21])
 (zs (zr [0,1,6,7,8,9,10] [zm 22 6,zm 23 8,zb 24 .mul 22 23,zm 10 24])
 (zs (zr [0,1,6,7,9,11] [zm 25 7,zm 26 8,zb 27 .mul 25 26,zm 28 10,zd 29 .shr 28 (.int .u64 32),zb 30 .add 27 29,zm 11 30])
 (zs (zr [0,1,6,7,9,11,12] [zm 31 11,zd 32 .and 31 (.int .u64 4294967295),zm 12 32])
 (zs (zr [0,1,6,7,9,12,13] [zm 33 11,zd 34 .shr 33 (.int .u64 32),zm 13 34])
 (zs (zr [0,1,7,9,12,13] [zm 35 12,zm 36 6,zm 37 9,zb 38 .mul 36 37,zb 39 .add 35 38,zm 12 39])
 (zs (zr [0,1,4] [zm 40 7,zm 41 9,zb 42 .mul 40 41,zm 43 13,zb 44 .add 42 43,zm 45 12,zd 46 .shr 45 (.int .u64 32),zb 47 .add 44 46,zm 4 47])
 (zs (zr [4,5] [zm 48 0,zm 49 1,zb 50 .mul 48 49,zm 5 50])
 .ret)))))))))))) }
def N92 : aw:={ np:=3,nt:=135,res:=[(6,none),(7,none)],body :=
 (zs (zr [0,1,2] [zc 6 (.int .u64 0),zc 7 (.int .u64 0)])
 (zs (zs (zr [0,1,2,20] [zm 19 2,zd 20 .eql 19 (.int .u64 0)])
 (zC 20 (zr [0,1,2] [⟨some 21,.dead,none⟩,⟨none,.dead,none⟩])
 .skip))
 (zs (zs (zr [0,1,2,24] [zm 22 2,zm 23 0,zb 24 .leq 22 23])
 (zC 24 (zr [0,1,2] [⟨some 25,.dead,none⟩,⟨none,.dead,none⟩])
 .skip))
 (zs (zs (zr [0,1,2,27] [zm 26 0,zd 27 .eql 26 (.int .u64 0)])
 (zC 27 (zs (.reg true [0,0,3,0,0,24,7,127] [6,7] [zm 28 1,zm 29 2,zb 30 .quo 28 29,zm 31 1,zm 32 2,zb 33 .rem 31 32,zm 6 30,zm 7 33])
 .ret)
 .skip))
 (zs (zr [0,1,2,8] [zm 34 2,zk 35 102 [(.t 34)],⟨some 36,.conv .u64 (.t 35),none⟩,zm 8 36])
 (zs (zr [0,1,2,8] [zm 37 2,zm 38 8,zb 39 .shl 37 38,zm 2 39])
 (zs (zr [0,1,2,8,9] [zm 40 2,zd 41 .shr 40 (.int .u64 32),zm 9 41])
 (zs (zr [0,1,2,8,9,10] [zm 42 2,zd 43 .and 42 (.int .u64 4294967295),zm 10 43])
 (zs (zr [1,2,8,9,10,11] [zm 44 0,zm 45 8,zb 46 .shl 44 45,zm 47 1,zm 48 8,⟨some 49,.bin .sub (.c (.int .u64 64)) (.t 48),none⟩,zb 50 .shr 47 49,zb 51 .or 46 50,zm 11 51])
 (zs (zr [2,8,9,10,11,12] [zm 52 1,zm 53 8,zb 54 .shl 52 53,zm 12 54])
 (zs (zr [2,8,9,10,11,12,13] [zm 55 12,zd 56 .shr 55 (.int .u64 32),zm 13 56])
 (zs (zr [2,8,9,10,11,13,14] [zm 57 12,zd 58 .and 57 (.int .u64 4294967295),zm 14 58])
 (zs (zr [2,8,9,10,11,13,14,15] [zm 59 11,zm 60 9,zb 61 .quo 59 60,zm 15 61])
 (zs (zr [2,8,9,10,11,13,14,15,16] [zm 62 11,zm 63 15,zm 64 9,zb 65 .mul 63 64,zb 66 .sub 62 65,zm 16 66])
 (zs (.block 0 (.loop (zs (zs (zr [2,8,9,10,11,13,14,15,16,78] [zm 67 15,zd 68 .geq 67 (.int .u64 4294967296),zm 69 68,zg 69 false (zm 70 15),zg 69 false (zm 71 10),zg 69 false (zb 72 .mul 70 71),zg 69 false (zm 73 16),zg 69 false (⟨some 74,.bin .mul (.c (.int .u64 4294967296)) (.t 73),none⟩),zg 69 false (zm 75 13),zg 69 false (zb 76 .add 74 75),zg 69 false (zb 77 .gtr 72 76),⟨some 78,.pick (.t 69) (.c (.bool true)) (.t 77),none⟩])
 (zC 78 .skip
 (.exit 0)))
 (.block 1 (zs (zr [2,8,9,10,11,13,14,15,16] [zm 79 15,zd 80 .sub 79 (.int .u64 1),zm 15 80])
 (zs (zr [2,8,9,10,11,13,14,15,16] [zm 81 16,zm 82 9,zb 83 .add 81 82,zm 16 83])
 (zs (zr [2,8,9,10,11,13,14,15,16,85] [zm 84 16,zd 85 .geq 84 (.int .u64 4294967296)])
 (zC 85 (.exit 0)
 .skip))))))))
 (zs (zr [2,8,9,10,14,15,17] [zm 86 11,zd 87 .mul 86 (.int .u64 4294967296),zm 88 13,zb 89 .add 87 88,zm 90 15,zm 91 2,zb 92 .mul 90 91,zb 93 .sub 89 92,zm 17 93])
 (zs (zr [2,8,9,10,14,15,17,18] [zm 94 17,zm 95 9,zb 96 .quo 94 95,zm 18 96])
 (zs (zr [2,8,9,10,14,15,16,17,18] [zm 97 17,zm 98 18,zm 99 9,zb 100 .mul 98 99,zb 101 .sub 97 100,zm 16 101])
 (zs (.block 2 (.loop (zs (zs (zr [2,8,9,10,14,15,16,17,18,113] [zm 102 18,zd 103 .geq 102 (.int .u64 4294967296),zm 104 103,zg 104 false (zm 105 18),zg 104 false (zm 106 10),zg 104 false (zb 107 .mul 105 106),zg 104 false (zm 108 16),zg 104 false (⟨some 109,.bin .mul (.c (.int .u64 4294967296)) (.t 108),none⟩),zg 104 false (zm 110 14),zg 104 false (zb 111 .add 109 110),zg 104 false (zb 112 .gtr 107 111),⟨some 113,.pick (.t 104) (.c (.bool true)) (.t 112),none⟩])
 (zC 113 .skip
 (.exit 2)))
 (.block 3 (zs (zr [2,8,9,10,14,15,16,17,18] [zm 114 18,zd 115 .sub 114 (.int .u64 1),zm 18 115])
 (zs (zr [2,8,9,10,14,15,16,17,18] [zm 116 16,zm 117 9,zb 118 .add 116 117,zm 16 118])
 (zs (zr [2,8,9,10,14,15,16,17,18,120] [zm 119 16,zd 120 .geq 119 (.int .u64 4294967296)])
 (zC 120 (.exit 2)
 .skip))))))))
 (zs (zr [6,7] [zm 121 15,zd 122 .mul 121 (.int .u64 4294967296),zm 123 18,zb 124 .add 122 123,zm 125 17,zd 126 .mul 125 (.int .u64 4294967296),zm 127 14,zb 128 .add 126 127,zm 129 18,zm 130 2,zb 131 .mul 129 130,zb 132 .sub 128 131,zm 133 8,zb 134 .shr 132 133,zm 6 124,zm 7 134])
 .ret)))))))))))))))))))) }
def N99 : aw:={ np:=2,nt:=12,res:=[(4,some (2,true)),(5,none)],body :=
 (zs (zr [0,1,4] [⟨some 4,.alc [zI 0,zI 0],none⟩,zc 5 (zI 0)])
 (zs (zr [4,5] [zm 6 0,zm 7 1,zk 8 103 [(.t 6),(.t 7)],zk 9 105 [(.t 8)],zx 10 0 9,zx 11 1 9,⟨none,.st 2 [] (.t 4) (.t 10),none⟩,zm 5 11])
 .ret)) }
def N102 : aw:={ np:=1,nt:=6,res:=[(2,none)],body :=
 (zs (zr [0] [zc 2 (zI 0)])
 (zs (zr [2] [zm 3 0,zk 4 111 [(.t 3)],⟨some 5,.bin .sub (.c (zI 64)) (.t 4),none⟩,zm 2 5])
 .ret)) }
def N103 : aw:={ np:=2,nt:=23,res:=[(4,some (3,true))],body :=
 (zs (zr [0,1,4] [⟨some 4,.alc [.int .u64 0,.int .u64 0,.bool false],none⟩])
 (zs (zr [0,1,4,5,6] [zm 8 0,zk 9 112 [(.t 8)],zm 10 1,zk 11 112 [(.t 10)],zk 12 91 [(.t 9),(.t 11)],zm 7 12,zx 13 0 7,zx 14 1 7,zm 5 13,zm 6 14])
 (zs (zr [4] [zm 15 5,zm 16 6,zm 17 0,zd 18 .lss 17 (zI 0),zm 19 1,zd 20 .lss 19 (zI 0),⟨some 21,.beq true [] (.t 18) (.t 20),none⟩,zk 22 113 [(.t 15),(.t 16),(.t 21)],⟨none,.st 3 [] (.t 4) (.t 22),none⟩])
 .ret))) }
def N104 : aw:={ np:=3,nt:=52,res:=[(6,none),(7,none)],body :=
 (zs (zr [1,2,3] [zo 3 0,zc 6 (zI 0),zc 7 (zI 0)])
 (zs (zr [1,2,3,8] [zm 12 1,zk 13 112 [(.t 12)],zm 8 13])
 (zs (zs (zr [1,2,3,8,17] [zf 14 0 3,zl 15 1 14,zm 16 8,zb 17 .geq 15 16])
 (zC 17 (zs (zr [6,7] [zc 6 (zI 0),zc 7 (zI 5)])
 .ret)
 .skip))
 (zs (zr [1,2,3,9,10] [zf 19 0 3,zl 20 1 19,zf 21 1 3,zl 22 1 21,zm 23 8,zk 24 92 [(.t 20),(.t 22),(.t 23)],zm 18 24,zx 25 0 18,zx 26 1 18,zm 9 25,zm 10 26])
 (zs (zr [2,9,10,11] [zf 27 2 3,zl 28 1 27,zm 29 1,zd 30 .lss 29 (zI 0),⟨some 31,.beq true [] (.t 28) (.t 30),none⟩,zm 11 31])
 (zs (zs (zr [9,11,38] [zm 32 10,zd 33 .gtr 32 (.int .u64 0),zm 34 33,zg 34 true (zm 35 11),zg 34 true (zm 36 2),zg 34 true (⟨some 37,.beq true [] (.t 35) (.t 36),none⟩),⟨some 38,.pick (.t 34) (.t 37) (.c (.bool false)),none⟩])
 (zC 38 (zs (zr [9,11] [zm 39 9,zd 40 .add 39 (.int .u64 1),zm 9 40])
 (zs (zr [9,11,42] [zm 41 9,zd 42 .eql 41 (.int .u64 0)])
 (zC 42 (zs (zr [6,7] [zc 6 (zI 0),zc 7 (zI 5)])
 .ret)
 .skip)))
 .skip))
 (zs (zr [6,7] [zm 43 9,zm 44 11,zm 45 44,zg 45 true (zm 46 9),zg 45 true (zd 47 .gtr 46 (.int .u64 0)),⟨some 48,.pick (.t 45) (.t 47) (.c (.bool false)),none⟩,zk 49 110 [(.t 43),(.t 48)],zx 50 0 49,zx 51 1 49,zm 6 50,zm 7 51])
 .ret))))))) }
def N105 : aw:={ np:=1,nt:=56,res:=[(2,some (2,true)),(3,none)],body :=
 (zs (zr [1,2] [zo 1 0,⟨some 2,.alc [zI 0,zI 0],none⟩,zc 3 (zI 0)])
 (zs (zs (zr [1,2,23] [zf 6 0 1,zl 7 1 6,zd 8 .gtr 7 (.int .u64 72057594037927936),zm 9 8,zg 9 false (zf 10 0 1),zg 9 false (zl 11 1 10),zg 9 false (zd 12 .eql 11 (.int .u64 72057594037927936)),zg 9 false (zm 13 12),zg 13 true (zf 14 1 1),zg 13 true (zl 15 1 14),zg 13 true (zd 16 .gtr 15 (.int .u64 0)),zg 13 true (zm 17 16),zg 17 false (zf 18 2 1),zg 17 false (zl 19 1 18),zg 17 false (zt 20 19),zg 13 true (⟨some 21,.pick (.t 17) (.c (.bool true)) (.t 20),none⟩),zg 9 false (⟨some 22,.pick (.t 13) (.t 21) (.c (.bool false)),none⟩),⟨some 23,.pick (.t 9) (.c (.bool true)) (.t 22),none⟩])
 (zC 23 (zs (zr [2,3] [⟨some 24,.bld [zI 0,zI 0] [],none⟩,⟨none,.st 2 [] (.t 2) (.t 24),none⟩,zc 3 (zI 5)])
 .ret)
 .skip))
 (zs (.reg true [0,1,3,0,8,24,63,127,0,256,768,1792,255,8191] [1,2,4,5] [zf 25 0 1,zl 26 1 25,zd 27 .shl 26 (.int .u64 4),zf 28 1 1,zl 29 1 28,zd 30 .shr 29 (.int .u64 60),zb 31 .or 27 30,⟨some 32,.conv .i64 (.t 31),none⟩,zf 33 1 1,zl 34 1 33,zd 35 .and 34 (.int .u64 1152921504606846975),⟨some 36,.conv .i64 (.t 35),none⟩,zm 4 32,zm 5 36])
 (zs (.block 0 (zs (zr [2,4,5,37] [zf 38 2 1,zl 39 1 38,zt 40 39,zm 37 40])
 (zC 37 (zs (zr [2,3] [zm 41 4,zm 42 5,⟨some 43,.bld [zI 0,zI 0] [(0,1,(.t 41)),(1,1,(.t 42))],none⟩,⟨none,.st 2 [] (.t 2) (.t 43),none⟩,zc 3 (zI 0)])
 .ret)
 (zs (zr [2,4,5,44] [zm 45 5,zd 46 .eql 45 (zI 0),zm 44 46])
 (zC 44 (zs (zr [2,3] [zm 47 4,⟨some 48,.un .neg (.t 47),none⟩,⟨some 49,.bld [zI 0,zI 0] [(0,1,(.t 48))],none⟩,⟨none,.st 2 [] (.t 2) (.t 49),none⟩,zc 3 (zI 0)])
 .ret)
 .skip)))))
 (zs (zr [2,3] [zm 50 4,⟨some 51,.un .neg (.t 50),none⟩,zd 52 .sub 51 (zI 1),zm 53 5,⟨some 54,.bin .sub (.c (zI 1152921504606846976)) (.t 53),none⟩,⟨some 55,.bld [zI 0,zI 0] [(0,1,(.t 52)),(1,1,(.t 54))],none⟩,⟨none,.st 2 [] (.t 2) (.t 55),none⟩,zc 3 (zI 0)])
 .ret))))) }
def N106 : aw:={ np:=1,nt:=21,res:=[(2,none)],body :=
 (zs (zr [1] [zo 1 0,zc 2 (.bool false)])
 (zs (zr [2] [zf 3 0 1,zl 4 1 3,⟨some 5,.bin .geq (.t 4) (.c (zI (-1152921504606846976))),none⟩,zm 6 5,zg 6 true (zf 7 0 1),zg 6 true (zl 8 1 7),zg 6 true (zd 9 .lss 8 (zI 1152921504606846976)),⟨some 10,.pick (.t 6) (.t 9) (.c (.bool false)),none⟩,zm 11 10,zg 11 true (zf 12 1 1),zg 11 true (zl 13 1 12),zg 11 true (zd 14 .geq 13 (zI 0)),⟨some 15,.pick (.t 11) (.t 14) (.c (.bool false)),none⟩,zm 16 15,zg 16 true (zf 17 1 1),zg 16 true (zl 18 1 17),zg 16 true (zd 19 .lss 18 (zI 1152921504606846976)),⟨some 20,.pick (.t 16) (.t 19) (.c (.bool false)),none⟩,zm 2 20])
 .ret)) }
def N107 : aw:={ np:=2,nt:=73,res:=[(4,some (3,true))],body :=
 (zs (zr [2,3,4] [⟨some 2,.box [] (.t 0),none⟩,⟨some 3,.box [] (.t 1),none⟩,⟨some 4,.alc [.int .u64 0,.int .u64 0,.bool false],none⟩])
 (zs (zs (zr [2,3,4,13] [zf 9 2 2,zl 10 1 9,zf 11 2 3,zl 12 1 11,⟨some 13,.beq false [] (.t 10) (.t 12),none⟩])
 (zC 13 (zs (zr [2,3,4,5,6] [zf 15 1 2,zl 16 1 15,zf 17 1 3,zl 18 1 17,⟨some 19,.add64 (.t 16) (.t 18) (.c (.int .u64 0)),none⟩,zm 14 19,zx 20 0 14,zx 21 1 14,zm 5 20,zm 6 21])
 (zs (zr [4] [zf 22 0 2,zl 23 1 22,zf 24 0 3,zl 25 1 24,zb 26 .add 23 25,zm 27 6,zb 28 .add 26 27,zm 29 5,zf 30 2 2,zl 31 1 30,zk 32 113 [(.t 28),(.t 29),(.t 31)],⟨none,.st 3 [] (.t 4) (.t 32),none⟩])
 .ret))
 .skip))
 (zs (zs (zr [2,3,4,51] [zf 33 0 2,zl 34 1 33,zf 35 0 3,zl 36 1 35,zb 37 .lss 34 36,zm 38 37,zg 38 false (zf 39 0 2),zg 38 false (zl 40 1 39),zg 38 false (zf 41 0 3),zg 38 false (zl 42 1 41),zg 38 false (zb 43 .eql 40 42),zg 38 false (zm 44 43),zg 44 true (zf 45 1 2),zg 44 true (zl 46 1 45),zg 44 true (zf 47 1 3),zg 44 true (zl 48 1 47),zg 44 true (zb 49 .lss 46 48),zg 38 false (⟨some 50,.pick (.t 44) (.t 49) (.c (.bool false)),none⟩),⟨some 51,.pick (.t 38) (.c (.bool true)) (.t 50),none⟩])
 (zC 51 (zr [2,3,4] [zL 52 3 3,zL 53 3 2,⟨none,.st 3 [] (.t 2) (.t 52),none⟩,⟨none,.st 3 [] (.t 3) (.t 53),none⟩])
 .skip))
 (zs (zr [2,3,4,7,8] [zf 55 1 2,zl 56 1 55,zf 57 1 3,zl 58 1 57,⟨some 59,.sub64 (.t 56) (.t 58) (.c (.int .u64 0)),none⟩,zm 54 59,zx 60 0 54,zx 61 1 54,zm 7 60,zm 8 61])
 (zs (zr [4] [zf 62 0 2,zl 63 1 62,zf 64 0 3,zl 65 1 64,zb 66 .sub 63 65,zm 67 8,zb 68 .sub 66 67,zm 69 7,zf 70 2 2,zl 71 1 70,zk 72 113 [(.t 68),(.t 69),(.t 71)],⟨none,.st 3 [] (.t 4) (.t 72),none⟩])
 .ret))))) }
def N108 : aw:={ np:=1,nt:=37,res:=[(2,some (3,true))],body :=
 (zs (zr [1,2] [zo 1 0,⟨some 2,.alc [.int .u64 0,.int .u64 0,.bool false],none⟩])
 (zs (zr [1,2,3] [zf 7 0 1,zl 8 1 7,zk 9 112 [(.t 8)],zm 3 9])
 (zs (zr [1,2,4,5] [zm 10 3,zd 11 .shr 10 (.int .u64 4),zm 12 3,zd 13 .shl 12 (.int .u64 60),zm 4 11,zm 5 13])
 (zs (zs (zr [1,2,4,5,16] [zf 14 0 1,zl 15 1 14,zd 16 .geq 15 (zI 0)])
 (zC 16 (zs (zr [2] [zm 17 4,zm 18 5,zf 19 1 1,zl 20 1 19,⟨some 21,.conv .u64 (.t 20),none⟩,zb 22 .or 18 21,⟨some 23,.bld [.int .u64 0,.int .u64 0,.bool false] [(0,1,(.t 17)),(1,1,(.t 22)),(2,1,(.c (.bool false)))],none⟩,⟨none,.st 3 [] (.t 2) (.t 23),none⟩])
 .ret)
 .skip))
 (zs (zr [2,4,5,6] [zm 25 5,zf 26 1 1,zl 27 1 26,⟨some 28,.conv .u64 (.t 27),none⟩,⟨some 29,.sub64 (.t 25) (.t 28) (.c (.int .u64 0)),none⟩,zm 24 29,zx 30 0 24,zx 31 1 24,zm 5 30,zm 6 31])
 (zs (zr [2] [zm 32 4,zm 33 6,zb 34 .sub 32 33,zm 35 5,⟨some 36,.bld [.int .u64 0,.int .u64 0,.bool false] [(0,1,(.t 34)),(1,1,(.t 35)),(2,1,(.c (.bool true)))],none⟩,⟨none,.st 3 [] (.t 2) (.t 36),none⟩])
 .ret)))))) }
def N110 : aw:={ np:=2,nt:=24,res:=[(4,none),(5,none)],body :=
 (zs (zr [0,1] [zc 4 (zI 0),zc 5 (zI 0)])
 (zs (.block 0 (zs (zr [0,1,6] [zm 7 1,zt 8 7,zm 9 8,zg 9 true (zm 10 0),zg 9 true (zd 11 .leq 10 (.int .u64 9223372036854775807)),⟨some 12,.pick (.t 9) (.t 11) (.c (.bool false)),none⟩,zm 6 12])
 (zC 6 (zs (zr [4,5] [zm 13 0,⟨some 14,.conv .i64 (.t 13),none⟩,zm 4 14,zc 5 (zI 0)])
 .ret)
 (zs (zr [0,15] [zm 16 1,zm 17 16,zg 17 true (zm 18 0),zg 17 true (zd 19 .leq 18 (.int .u64 9223372036854775808)),⟨some 20,.pick (.t 17) (.t 19) (.c (.bool false)),none⟩,zm 15 20])
 (zC 15 (zs (zr [4,5] [zm 21 0,⟨some 22,.un .neg (.t 21),none⟩,⟨some 23,.conv .i64 (.t 22),none⟩,zm 4 23,zc 5 (zI 0)])
 .ret)
 .skip)))))
 (zs (zr [4,5] [zc 4 (zI 0),zc 5 (zI 5)])
 .ret))) }
def S1 : List UInt8:=[0,1,2,2,3,3,3,3,4,4,4,4,4,4,4,4,5,5,5,5,5,5,5,5,5,5,5,5,5,5,5,5,6,6,6,6,6,6,6,6,6,6,6,6,6,6,6,6,6,6,6,6,6,6,6,6,6,6,6,6,6,6,6,6,7,7,7,7,7,7,7,7,7,7,7,7,7,7,7,7,7,7,7,7,7,7,7,7,7,7,7,7,7,7,7,7,7,7,7,7,7,7,7,7,7,7,7,7,7,7,7,7,7,7,7,7,7,7,7,7,7,7,7,7,7,7,7,7,8,8,8,8,8,8,8,8,8,8,8,8,8,8,8,8,8,8,8,8,8,8,8,8,8,8,8,8,8,8,8,8,8,8,8,8,8,8,8,8,8,8,8,8,8,8,8,8,8,8,8,8,8,8,8,8,8,8,8,8,8,8,8,8,8,8,8,8,8,8,8,8,8,8,8,8,8,8,8,8,8,8,8,8,8,8,8,8,8,8,8,8,8,8,8,8,8,8,8,8,8,8,8,8,8,8,8,8,8,8,8,8,8,8,8,8,8,8,8,8,8,8,8,8,8,8,8,8]
def N111 : aw:={ np:=1,nt:=25,res:=[(2,none)],body :=
 (zs (zr [0,2] [zc 2 (zI 0)])
 (zs (zs (zr [0,2,4] [zm 3 0,zd 4 .geq 3 (.int .u64 4294967296)])
 (zC 4 (zs (zr [0] [zm 5 0,zd 6 .shr 5 (.int .u64 32),zm 0 6])
 (zr [0,2] [zc 2 (zI 32)]))
 .skip))
 (zs (zs (zr [0,2,8] [zm 7 0,zd 8 .geq 7 (.int .u64 65536)])
 (zC 8 (zs (zr [0,2] [zm 9 0,zd 10 .shr 9 (.int .u64 16),zm 0 10])
 (zr [0,2] [zm 11 2,zd 12 .add 11 (zI 16),zm 2 12]))
 .skip))
 (zs (zs (zr [0,2,14] [zm 13 0,zd 14 .geq 13 (.int .u64 256)])
 (zC 14 (zs (zr [0,2] [zm 15 0,zd 16 .shr 15 (.int .u64 8),zm 0 16])
 (zr [0,2] [zm 17 2,zd 18 .add 17 (zI 8),zm 2 18]))
 .skip))
 (zs (zr [2] [zm 19 2,zm 20 0,⟨some 21,.conv .u8 (.t 20),none⟩,⟨some 22,.idxS (.c (.str S1)) (.t 21),none⟩,⟨some 23,.conv .i64 (.t 22),none⟩,zb 24 .add 19 23,zm 2 24])
 .ret))))) }
def N112 : aw:={ np:=1,nt:=10,res:=[(2,none)],body :=
 (zs (zr [0] [zc 2 (.int .u64 0)])
 (zs (zs (zr [0,4] [zm 3 0,zd 4 .lss 3 (zI 0)])
 (zC 4 (zs (zr [2] [zm 5 0,⟨some 6,.conv .u64 (.t 5),none⟩,⟨some 7,.un .neg (.t 6),none⟩,zm 2 7])
 .ret)
 .skip))
 (zs (zr [2] [zm 8 0,⟨some 9,.conv .u64 (.t 8),none⟩,zm 2 9])
 .ret))) }
def N113 : aw:={ np:=3,nt:=19,res:=[(6,some (3,true))],body :=
 (zs (zr [0,1,2,6] [⟨some 6,.alc [.int .u64 0,.int .u64 0,.bool false],none⟩])
 (zs (zr [6] [zm 7 0,zm 8 1,zm 9 2,zm 10 9,zg 10 true (zm 11 0),zg 10 true (zd 12 .neq 11 (.int .u64 0)),zg 10 true (zm 13 12),zg 13 false (zm 14 1),zg 13 false (zd 15 .neq 14 (.int .u64 0)),zg 10 true (⟨some 16,.pick (.t 13) (.c (.bool true)) (.t 15),none⟩),⟨some 17,.pick (.t 10) (.t 16) (.c (.bool false)),none⟩,⟨some 18,.bld [.int .u64 0,.int .u64 0,.bool false] [(0,1,(.t 7)),(1,1,(.t 8)),(2,1,(.t 17))],none⟩,⟨none,.st 3 [] (.t 6) (.t 18),none⟩])
 .ret)) }
def N125 : aw:={ np:=2,nt:=9,res:=[(4,none)],body :=
 (zs (zr [0,1] [zc 4 (.bool false)])
 (zs (zr [4] [zq 5 0,zm 6 1,zk 7 129 [(.t 5),(.t 6)],zd 8 .geq 7 (zI 0),zm 4 8])
 .ret)) }
def N129 : aw:={ np:=2,nt:=19,res:=[(4,none)],body :=
 (zs (zr [0,1] [zc 4 (zI 0)])
 (zs (zs (zr [0,1,7,8] [zm 6 0,zn 7 6,zc 8 (zI 0)])
 (.block 0 (.loop (zs (zr [0,1,7,8,9] [zb 9 .lss 8 7])
 (zs (zC 9 .skip
 (.exit 0))
 (zs (.block 1 (zs (zr [0,1,5,7,8] [zm 10 8,zm 5 10])
 (zs (zr [0,1,5,7,8,16] [zm 11 1,zm 12 0,zm 13 5,zi 14 2 12 13,zL 15 2 14,⟨some 16,.callv (.t 11) [(.t 15)],none⟩])
 (zC 16 (zs (zr [4] [zm 17 5,zm 4 17])
 .ret)
 .skip))))
 (zr [0,1,7,8] [zd 18 .add 8 (zI 1),zm 8 18])))))))
 (zs (zr [4] [⟨some 4,.mov (.c (zI (-1))),none⟩])
 .ret))) }
def N147 : aw:={ np:=2,nt:=26,res:=[(4,none)],body :=
 (zs (zr [0,1] [zc 4 (.bool false)])
 (zs (zs (zr [0,1,10] [zm 6 0,zn 7 6,zm 8 1,zn 9 8,zb 10 .neq 7 9])
 (zC 10 (zs (zr [4] [zc 4 (.bool false)])
 .ret)
 .skip))
 (zs (zs (zr [0,1,12,13] [zm 11 0,zn 12 11,zc 13 (zI 0)])
 (.block 0 (.loop (zs (zr [0,1,12,13,14] [zb 14 .lss 13 12])
 (zs (zC 14 .skip
 (.exit 0))
 (zs (.block 1 (zs (zr [0,1,5,12,13] [zm 15 13,zm 5 15])
 (zs (.reg true [0,0,3,7,0,0,48,112,255] [0,1,12,13,24] [zm 16 0,zm 17 5,zi 18 2 16 17,zL 19 2 18,zm 20 1,zm 21 5,zi 22 2 20 21,zL 23 2 22,⟨some 24,.beq true [0,2] (.t 19) (.t 23),none⟩])
 (zC 24 (zs (zr [4] [zc 4 (.bool false)])
 .ret)
 .skip))))
 (zr [0,1,12,13] [zd 25 .add 13 (zI 1),zm 13 25])))))))
 (zs (zr [4] [zc 4 (.bool true)])
 .ret)))) }
def N164 : aw:={ np:=1,nt:=80,res:=[(2,none)],body :=
 (zs (zr [1] [zo 1 0,zc 2 (.bool false)])
 (zs (zs (zr [1,17] [zf 8 0 1,zl 9 1 8,zn 10 9,zd 11 .gtr 10 (zI 300),zm 12 11,zg 12 false (zf 13 1 1),zg 12 false (zl 14 1 13),zg 12 false (zn 15 14),zg 12 false (zd 16 .gtr 15 (zI 400)),⟨some 17,.pick (.t 12) (.c (.bool true)) (.t 16),none⟩])
 (zC 17 (zs (zr [2] [zc 2 (.bool false)])
 .ret)
 .skip))
 (zs (zs (zr [1,19,20,21] [zf 18 0 1,zl 19 1 18,zn 20 19,zc 21 (zI 0)])
 (.block 0 (.loop (zs (zr [1,19,20,21,22] [zb 22 .lss 21 20])
 (zs (zC 22 .skip
 (.exit 0))
 (zs (.block 1 (zs (zr [1,3,4,19,20,21] [zm 23 21,zi 24 9 19 21,zL 25 9 24,⟨some 4,.alc [.str [],zI 0,zI 0,zI 0,zI 0,zI 0,.own 2 [],.bool false,zI 0],none⟩,zm 3 23,⟨none,.st 9 [] (.t 4) (.t 25),none⟩])
 (zs (zr [1,19,20,21,36] [zL 26 9 4,zk 27 168 [(.t 26)],zt 28 27,zm 29 28,zg 29 false (zL 30 2 1),zg 29 false (zf 31 0 4),zg 29 false (zl 32 1 31),zg 29 false (zk 33 169 [(.t 30),(.t 32)]),zg 29 false (zm 34 3),zg 29 false (zb 35 .neq 33 34),⟨some 36,.pick (.t 29) (.c (.bool true)) (.t 35),none⟩])
 (zC 36 (zs (zr [2] [zc 2 (.bool false)])
 .ret)
 .skip))))
 (zr [1,19,20,21] [zd 37 .add 21 (zI 1),zm 21 37])))))))
 (zs (zs (zr [1,39,40,41] [zf 38 1 1,zl 39 1 38,zn 40 39,zc 41 (zI 0)])
 (.block 2 (.loop (zs (zr [1,39,40,41,42] [zb 42 .lss 41 40])
 (zs (zC 42 .skip
 (.exit 2))
 (zs (.block 3 (zs (zr [1,5,6,39,40,41] [zm 43 41,zi 44 11 39 41,zL 45 11 44,⟨some 6,.alc [.str [],.str [],.str [],zI 0,zI 0,zI 0,zI 0,.str [],zI 0,zI 0,.own 2 []],none⟩,zm 5 43,⟨none,.st 11 [] (.t 6) (.t 45),none⟩])
 (zs (zs (zr [1,6,39,40,41,56] [zL 46 11 6,zk 47 170 [(.t 46)],zt 48 47,zm 49 48,zg 49 false (zL 50 2 1),zg 49 false (zf 51 0 6),zg 49 false (zl 52 1 51),zg 49 false (zk 53 171 [(.t 50),(.t 52)]),zg 49 false (zm 54 5),zg 49 false (zb 55 .neq 53 54),⟨some 56,.pick (.t 49) (.c (.bool true)) (.t 55),none⟩])
 (zC 56 (zs (zr [2] [zc 2 (.bool false)])
 .ret)
 .skip))
 (zs (zr [1,6,7,39,40,41] [zL 57 2 1,zf 58 1 6,zl 59 1 58,zk 60 169 [(.t 57),(.t 59)],zm 7 60])
 (zs (zr [1,39,40,41,78] [zm 61 7,zd 62 .lss 61 (zI 0),zm 63 62,zg 63 false (zL 64 2 1),zg 63 false (zf 65 2 6),zg 63 false (zl 66 1 65),zg 63 false (zk 67 169 [(.t 64),(.t 66)]),zg 63 false (zd 68 .lss 67 (zI 0)),⟨some 69,.pick (.t 63) (.c (.bool true)) (.t 68),none⟩,zm 70 69,zg 70 false (zf 71 0 1),zg 70 false (zl 72 1 71),zg 70 false (zm 73 7),zg 70 false (zi 74 9 72 73),zg 70 false (zf 75 1 74),zg 70 false (zl 76 1 75),zg 70 false (zd 77 .eql 76 (zI 3)),⟨some 78,.pick (.t 70) (.c (.bool true)) (.t 77),none⟩])
 (zC 78 (zs (zr [2] [zc 2 (.bool false)])
 .ret)
 .skip))))))
 (zr [1,39,40,41] [zd 79 .add 41 (zI 1),zm 41 79])))))))
 (zs (zr [2] [zc 2 (.bool true)])
 .ret))))) }
def N168 : aw:={ np:=1,nt:=101,res:=[(2,none)],body :=
 (zs (zr [1] [zo 1 0,zc 2 (.bool false)])
 (zs (zs (zr [1,29] [zf 3 0 1,zl 4 1 3,zk 5 58 [(.t 4)],zt 6 5,zm 7 6,zg 7 false (zf 8 2 1),zg 7 false (zf 9 0 8),zg 7 false (zl 10 1 9),zg 7 false (zk 11 172 [(.t 10),(.c (zI (-16777216))),(.c (zI 16777216))]),zg 7 false (zt 12 11),⟨some 13,.pick (.t 7) (.c (.bool true)) (.t 12),none⟩,zm 14 13,zg 14 false (zf 15 2 1),zg 14 false (zf 16 1 15),zg 14 false (zl 17 1 16),zg 14 false (zk 18 172 [(.t 17),(.c (zI (-16777216))),(.c (zI 16777216))]),zg 14 false (zt 19 18),⟨some 20,.pick (.t 14) (.c (.bool true)) (.t 19),none⟩,zm 21 20,zg 21 false (zf 22 4 1),zg 21 false (zl 23 1 22),zg 21 false (zf 24 5 1),zg 21 false (zl 25 1 24),zg 21 false (⟨some 26,.bls 1 2 [zI 0] [] [(0,(.t 23)),(1,(.t 25))],none⟩),zg 21 false (zk 27 173 [(.t 26)]),zg 21 false (zt 28 27),⟨some 29,.pick (.t 21) (.c (.bool true)) (.t 28),none⟩])
 (zC 29 (zs (zr [2] [zc 2 (.bool false)])
 .ret)
 .skip))
 (zs (zs (zr [1,31] [zf 30 1 1,zl 31 1 30])
 (.block 0 (zs (zs (zr [1,31,32] [zd 33 .eql 31 (zI 1),zm 32 33])
 (zC 32 .skip
 (zr [1,31,32] [zd 34 .eql 31 (zI 2),zm 32 34])))
 (zC 32 (zs (zs (zr [1,59] [zf 35 5 1,zl 36 1 35,zf 37 4 1,zl 38 1 37,zb 39 .leq 36 38,zm 40 39,zg 40 false (zf 41 6 1),zg 40 false (zl 42 1 41),zg 40 false (zf 43 5 1),zg 40 false (zl 44 1 43),zg 40 false (zf 45 4 1),zg 40 false (zl 46 1 45),zg 40 false (zb 47 .sub 44 46),zg 40 false (zk 48 174 [(.t 42),(.t 47)]),zg 40 false (zt 49 48),⟨some 50,.pick (.t 40) (.c (.bool true)) (.t 49),none⟩,zm 51 50,zg 51 false (zf 52 1 1),zg 51 false (zl 53 1 52),zg 51 false (zd 54 .eql 53 (zI 1)),zg 51 false (zm 55 54),zg 55 true (zf 56 7 1),zg 55 true (zl 57 1 56),zg 51 false (⟨some 58,.pick (.t 55) (.t 57) (.c (.bool false)),none⟩),⟨some 59,.pick (.t 51) (.c (.bool true)) (.t 58),none⟩])
 (zC 59 (zs (zr [2] [zc 2 (.bool false)])
 .ret)
 .skip))
 (zs (zs (zr [1,62] [zf 60 7 1,zl 61 1 60,zt 62 61])
 (zC 62 (zs (zr [2] [zf 63 8 1,zl 64 1 63,zd 65 .eql 64 (zI 0),zm 2 65])
 .ret)
 .skip))
 (zs (.reg true [0,1,0,4,0,16,48,112,252,508,1020,2047,4095] [2] [zf 66 8 1,zl 67 1 66,zf 68 6 1,zl 69 1 68,zf 70 6 1,zl 71 1 70,zn 72 71,zd 73 .sub 72 (zI 1),zi 74 2 69 73,zf 75 1 74,zl 76 1 75,zk 77 172 [(.t 67),(.c (zI 0)),(.t 76)],zm 2 77])
 .ret)))
 (zs (zr [1,78] [zd 79 .eql 31 (zI 3),zm 78 79])
 (zC 78 (zs (zr [2] [zf 80 5 1,zl 81 1 80,zf 82 4 1,zl 83 1 82,zb 84 .geq 81 83,zm 85 84,zg 85 true (zf 86 6 1),zg 85 true (zl 87 1 86),zg 85 true (zn 88 87),zg 85 true (zd 89 .eql 88 (zI 0)),⟨some 90,.pick (.t 85) (.t 89) (.c (.bool false)),none⟩,zm 91 90,zg 91 true (zf 92 7 1),zg 91 true (zl 93 1 92),zg 91 true (zt 94 93),⟨some 95,.pick (.t 91) (.t 94) (.c (.bool false)),none⟩,zm 96 95,zg 96 true (zf 97 8 1),zg 96 true (zl 98 1 97),zg 96 true (zd 99 .eql 98 (zI 0)),⟨some 100,.pick (.t 96) (.t 99) (.c (.bool false)),none⟩,zm 2 100])
 .ret)
 .skip))))))
 (zs (zr [2] [zc 2 (.bool false)])
 .ret)))) }
def N169 : aw:={ np:=2,nt:=9,res:=[(4,none)],body :=
 (zs (zr [2,3] [zo 2 0,zo 3 1,zc 4 (zI 0)])
 (zs (zr [4] [zf 5 0 2,zl 6 1 5,⟨some 7,.mk 176 [(.t 3)],none⟩,zk 8 175 [(.t 6),(.t 7)],zm 4 8])
 .ret)) }
def N170 : aw:={ np:=1,nt:=97,res:=[(2,none)],body :=
 (zs (zr [1] [zo 1 0,zc 2 (.bool false)])
 (zs (zs (.reg true [0,1,3,7,15,31,63,127,255,511,1023,2047,4095,8191,16383,32767,65535,131071,262143,131071,655359,2097151,4194303,8388607,16777215,33554431,67108863,134217727,268435455,536870911,1073741823,2147483647,2147483647,6442450943,17179869183,34359738367,68719476735] [1,39] [zf 3 0 1,zl 4 1 3,zk 5 58 [(.t 4)],zt 6 5,zm 7 6,zg 7 false (zf 8 1 1),zg 7 false (zl 9 1 8),zg 7 false (zk 10 58 [(.t 9)]),zg 7 false (zt 11 10),⟨some 12,.pick (.t 7) (.c (.bool true)) (.t 11),none⟩,zm 13 12,zg 13 false (zf 14 2 1),zg 13 false (zl 15 1 14),zg 13 false (zk 16 58 [(.t 15)]),zg 13 false (zt 17 16),⟨some 18,.pick (.t 13) (.c (.bool true)) (.t 17),none⟩,zm 19 18,zg 19 false (zf 20 1 1),zg 19 false (zl 21 1 20),zg 19 false (zf 22 2 1),zg 19 false (zl 23 1 22),zg 19 false (zb 24 .eql 21 23),⟨some 25,.pick (.t 19) (.c (.bool true)) (.t 24),none⟩,zm 26 25,zg 26 false (zf 27 5 1),zg 26 false (zl 28 1 27),zg 26 false (⟨some 29,.bls 1 1 [zI 0] [] [(0,(.t 28))],none⟩),zg 26 false (zk 30 173 [(.t 29)]),zg 26 false (zt 31 30),⟨some 32,.pick (.t 26) (.c (.bool true)) (.t 31),none⟩,zm 33 32,zg 33 false (zL 34 11 1),zg 33 false (zL 35 11 1),zg 33 false (zk 36 178 [(.t 35)]),zg 33 false (zk 37 177 [(.t 34),(.t 36)]),zg 33 false (zt 38 37),⟨some 39,.pick (.t 33) (.c (.bool true)) (.t 38),none⟩])
 (zC 39 (zs (zr [2] [zc 2 (.bool false)])
 .ret)
 .skip))
 (zs (zs (zr [1,41] [zf 40 3 1,zl 41 1 40])
 (.block 0 (zs (zr [1,41,42] [zd 43 .eql 41 (zI 1),zm 42 43])
 (zC 42 (zs (zr [2] [zf 44 4 1,zl 45 1 44,zk 46 172 [(.t 45),(.c (zI 1)),(.c (zI 16777216))],zm 47 46,zg 47 true (zf 48 6 1),zg 47 true (zl 49 1 48),zg 47 true (⟨some 50,.bls 1 1 [zI 0] [] [(0,(.t 49))],none⟩),zg 47 true (zk 51 173 [(.t 50)]),⟨some 52,.pick (.t 47) (.t 51) (.c (.bool false)),none⟩,zm 53 52,zg 53 true (zf 54 7 1),zg 53 true (zl 55 1 54),zg 53 true (zk 56 58 [(.t 55)]),⟨some 57,.pick (.t 53) (.t 56) (.c (.bool false)),none⟩,zm 2 57])
 .ret)
 (zs (zr [1,41,58] [zd 59 .eql 41 (zI 2),zm 58 59])
 (zC 58 (zs (zr [2] [zf 60 8 1,zl 61 1 60,zk 62 172 [(.t 61),(.c (zI 1)),(.c (zI 1048576))],zm 2 62])
 .ret)
 (zs (zr [1,41,63] [zd 64 .eql 41 (zI 3),zm 63 64])
 (zC 63 (zs (zr [2] [zf 65 8 1,zl 66 1 65,zk 67 172 [(.t 66),(.c (zI 1)),(.c (zI 32768))],zm 68 67,zg 68 true (zf 69 9 1),zg 68 true (zl 70 1 69),zg 68 true (zk 71 172 [(.t 70),(.c (zI 1)),(.c (zI 32768))]),⟨some 72,.pick (.t 68) (.t 71) (.c (.bool false)),none⟩,zm 2 72])
 .ret)
 (zs (zr [1,73] [zd 74 .eql 41 (zI 4),zm 73 74])
 (zC 73 (zs (zr [2] [zf 75 6 1,zl 76 1 75,⟨some 77,.bls 1 1 [zI 0] [] [(0,(.t 76))],none⟩,zk 78 173 [(.t 77)],zm 79 78,zg 79 true (zf 80 6 1),zg 79 true (zl 81 1 80),zg 79 true (zf 82 5 1),zg 79 true (zl 83 1 82),zg 79 true (zb 84 .lss 81 83),⟨some 85,.pick (.t 79) (.t 84) (.c (.bool false)),none⟩,zm 86 85,zg 86 true (zf 87 10 1),zg 86 true (zl 88 1 87),zg 86 true (zk 89 72 [(.t 88)]),⟨some 90,.pick (.t 86) (.t 89) (.c (.bool false)),none⟩,zm 91 90,zg 91 true (zf 92 10 1),zg 91 true (zl 93 1 92),zg 91 true (⟨some 94,.call 179 [(.t 93),(.c (.fn 180 []))] [],none⟩),zg 91 true (zt 95 94),⟨some 96,.pick (.t 91) (.t 95) (.c (.bool false)),none⟩,zm 2 96])
 .ret)
 .skip))))))))))
 (zs (zr [2] [zc 2 (.bool false)])
 .ret)))) }
def N171 : aw:={ np:=2,nt:=9,res:=[(4,none)],body :=
 (zs (zr [2,3] [zo 2 0,zo 3 1,zc 4 (zI 0)])
 (zs (zr [4] [zf 5 1 2,zl 6 1 5,⟨some 7,.mk 182 [(.t 3)],none⟩,zk 8 181 [(.t 6),(.t 7)],zm 4 8])
 .ret)) }
def N172 : aw:={ np:=3,nt:=15,res:=[(6,none)],body :=
 (zs (zr [0,1,2] [zc 6 (.bool false)])
 (zs (zr [6] [zm 7 0,zm 8 1,zb 9 .geq 7 8,zm 10 9,zg 10 true (zm 11 0),zg 10 true (zm 12 2),zg 10 true (zb 13 .leq 11 12),⟨some 14,.pick (.t 10) (.t 13) (.c (.bool false)),none⟩,zm 6 14])
 .ret)) }
def N173 : aw:={ np:=1,nt:=6,res:=[(2,none)],body :=
 (zs (zr [0] [zc 2 (.bool false)])
 (zs (zr [2] [zq 3 0,⟨some 4,.call 11 [(.t 3),(.c (.fn 183 []))] [],none⟩,zt 5 4,zm 2 5])
 .ret)) }
def N174 : aw:={ np:=2,nt:=31,res:=[(4,none)],body :=
 (zs (zr [0,1] [zc 4 (.bool false)])
 (zs (zs (zr [0,1,8] [zm 6 0,zk 7 72 [(.t 6)],zt 8 7])
 (zC 8 (zs (zr [4] [zc 4 (.bool false)])
 .ret)
 .skip))
 (zs (zr [0,1,5] [zm 9 0,zm 10 0,zn 11 10,zd 12 .sub 11 (zI 1),zi 13 2 9 12,zL 14 2 13,⟨some 5,.alc [zI 0,zI 0],none⟩,⟨none,.st 2 [] (.t 5) (.t 14),none⟩])
 (zs (zr [4] [zq 15 0,⟨some 16,.iadS 2 (.t 15) (.c (zI 0)),none⟩,zL 17 2 16,⟨some 18,.bld [zI 0,zI 0] [],none⟩,⟨some 19,.beq false [0,0] (.t 17) (.t 18),none⟩,zm 20 19,zg 20 true (zf 21 0 5),zg 20 true (zl 22 1 21),zg 20 true (zm 23 1),zg 20 true (zb 24 .eql 22 23),⟨some 25,.pick (.t 20) (.t 24) (.c (.bool false)),none⟩,zm 26 25,zg 26 true (zf 27 1 5),zg 26 true (zl 28 1 27),zg 26 true (zd 29 .leq 28 (zI 1125899906842624)),⟨some 30,.pick (.t 26) (.t 29) (.c (.bool false)),none⟩,zm 4 30])
 .ret)))) }
def N175 : aw:={ np:=2,nt:=19,res:=[(4,none)],body :=
 (zs (zr [0,1] [zc 4 (zI 0)])
 (zs (zs (zr [0,1,7,8] [zm 6 0,zn 7 6,zc 8 (zI 0)])
 (.block 0 (.loop (zs (zr [0,1,7,8,9] [zb 9 .lss 8 7])
 (zs (zC 9 .skip
 (.exit 0))
 (zs (.block 1 (zs (zr [0,1,5,7,8] [zm 10 8,zm 5 10])
 (zs (zr [0,1,5,7,8,16] [zm 11 1,zm 12 0,zm 13 5,zi 14 9 12 13,zL 15 9 14,⟨some 16,.callv (.t 11) [(.t 15)],none⟩])
 (zC 16 (zs (zr [4] [zm 17 5,zm 4 17])
 .ret)
 .skip))))
 (zr [0,1,7,8] [zd 18 .add 8 (zI 1),zm 8 18])))))))
 (zs (zr [4] [⟨some 4,.mov (.c (zI (-1))),none⟩])
 .ret))) }
def N176 : aw:={ np:=2,nt:=8,res:=[(3,none)],body :=
 (zs (zr [1,2] [zo 2 0,zc 3 (.bool false)])
 (zs (zr [3] [zf 4 0 2,zl 5 1 4,zl 6 1 1,zb 7 .eql 5 6,zm 3 7])
 .ret)) }
def N177 : aw:={ np:=2,nt:=80,res:=[(4,none)],body :=
 (zs (zr [2,3] [zo 2 0,zo 3 1,zc 4 (.bool false)])
 (zs (zr [4] [zf 5 0 2,zl 6 1 5,zf 7 0 3,zl 8 1 7,zb 9 .eql 6 8,zm 10 9,zg 10 true (zf 11 1 2),zg 10 true (zl 12 1 11),zg 10 true (zf 13 1 3),zg 10 true (zl 14 1 13),zg 10 true (zb 15 .eql 12 14),⟨some 16,.pick (.t 10) (.t 15) (.c (.bool false)),none⟩,zm 17 16,zg 17 true (zf 18 2 2),zg 17 true (zl 19 1 18),zg 17 true (zf 20 2 3),zg 17 true (zl 21 1 20),zg 17 true (zb 22 .eql 19 21),⟨some 23,.pick (.t 17) (.t 22) (.c (.bool false)),none⟩,zm 24 23,zg 24 true (zf 25 3 2),zg 24 true (zl 26 1 25),zg 24 true (zf 27 3 3),zg 24 true (zl 28 1 27),zg 24 true (zb 29 .eql 26 28),⟨some 30,.pick (.t 24) (.t 29) (.c (.bool false)),none⟩,zm 31 30,zg 31 true (zf 32 4 2),zg 31 true (zl 33 1 32),zg 31 true (zf 34 4 3),zg 31 true (zl 35 1 34),zg 31 true (zb 36 .eql 33 35),⟨some 37,.pick (.t 31) (.t 36) (.c (.bool false)),none⟩,zm 38 37,zg 38 true (zf 39 5 2),zg 38 true (zl 40 1 39),zg 38 true (zf 41 5 3),zg 38 true (zl 42 1 41),zg 38 true (zb 43 .eql 40 42),⟨some 44,.pick (.t 38) (.t 43) (.c (.bool false)),none⟩,zm 45 44,zg 45 true (zf 46 6 2),zg 45 true (zl 47 1 46),zg 45 true (zf 48 6 3),zg 45 true (zl 49 1 48),zg 45 true (zb 50 .eql 47 49),⟨some 51,.pick (.t 45) (.t 50) (.c (.bool false)),none⟩,zm 52 51,zg 52 true (zf 53 7 2),zg 52 true (zl 54 1 53),zg 52 true (zf 55 7 3),zg 52 true (zl 56 1 55),zg 52 true (zb 57 .eql 54 56),⟨some 58,.pick (.t 52) (.t 57) (.c (.bool false)),none⟩,zm 59 58,zg 59 true (zf 60 8 2),zg 59 true (zl 61 1 60),zg 59 true (zf 62 8 3),zg 59 true (zl 63 1 62),zg 59 true (zb 64 .eql 61 63),⟨some 65,.pick (.t 59) (.t 64) (.c (.bool false)),none⟩,zm 66 65,zg 66 true (zf 67 9 2),zg 66 true (zl 68 1 67),zg 66 true (zf 69 9 3),zg 66 true (zl 70 1 69),zg 66 true (zb 71 .eql 68 70),⟨some 72,.pick (.t 66) (.t 71) (.c (.bool false)),none⟩,zm 73 72,zg 73 true (zf 74 10 2),zg 73 true (zl 75 1 74),zg 73 true (zf 76 10 3),zg 73 true (zl 77 1 76),zg 73 true (zk 78 184 [(.t 75),(.t 77)]),⟨some 79,.pick (.t 73) (.t 78) (.c (.bool false)),none⟩,zm 4 79])
 .ret)) }
def N178 : aw:={ np:=1,nt:=50,res:=[(2,some (11,true))],body :=
 (zs (zr [1,2] [zo 1 0,⟨some 2,.alc [.str [],.str [],.str [],zI 0,zI 0,zI 0,zI 0,.str [],zI 0,zI 0,.own 2 []],none⟩])
 (zs (zr [1,2,3] [zf 4 0 1,zl 5 1 4,zf 6 1 1,zl 7 1 6,zf 8 2 1,zl 9 1 8,zf 10 3 1,zl 11 1 10,zf 12 5 1,zl 13 1 12,⟨some 14,.bld [.str [],.str [],.str [],zI 0,zI 0,zI 0,zI 0,.str [],zI 0,zI 0,.nils] [(0,1,(.t 5)),(1,1,(.t 7)),(2,1,(.t 9)),(3,1,(.t 11)),(5,1,(.t 13))],none⟩,⟨some 3,.alc [.str [],.str [],.str [],zI 0,zI 0,zI 0,zI 0,.str [],zI 0,zI 0,.own 2 []],none⟩,⟨none,.st 11 [] (.t 3) (.t 14),none⟩])
 (zs (zs (zr [1,2,3,16] [zf 15 3 1,zl 16 1 15])
 (.block 0 (zs (zr [1,2,3,16,17] [zd 18 .eql 16 (zI 1),zm 17 18])
 (zC 17 (.reg true [0,1,0,4,0,16,3,67,207,463,1023,2047] [2,3] [zf 19 4 1,zl 20 1 19,zf 21 6 1,zl 22 1 21,zf 23 7 1,zl 24 1 23,zf 25 4 3,⟨none,.st 1 [] (.t 25) (.t 20),none⟩,zf 26 6 3,⟨none,.st 1 [] (.t 26) (.t 22),none⟩,zf 27 7 3,⟨none,.st 1 [] (.t 27) (.t 24),none⟩])
 (zs (zr [1,2,3,16,28] [zd 29 .eql 16 (zI 2),zm 28 29])
 (zC 28 (zr [2,3] [zf 30 8 1,zl 31 1 30,zf 32 8 3,⟨none,.st 1 [] (.t 32) (.t 31),none⟩])
 (zs (zr [1,2,3,16,33] [zd 34 .eql 16 (zI 3),zm 33 34])
 (zC 33 (.reg true [0,1,0,4,3,19,63,127] [2,3] [zf 35 8 1,zl 36 1 35,zf 37 9 1,zl 38 1 37,zf 39 8 3,⟨none,.st 1 [] (.t 39) (.t 36),none⟩,zf 40 9 3,⟨none,.st 1 [] (.t 40) (.t 38),none⟩])
 (zs (zr [1,2,3,41] [zd 42 .eql 16 (zI 4),zm 41 42])
 (zC 41 (.reg true [0,1,0,4,3,19,63,127] [2,3] [zf 43 6 1,zl 44 1 43,zf 45 10 1,zl 46 1 45,zf 47 6 3,⟨none,.st 1 [] (.t 47) (.t 44),none⟩,zf 48 10 3,⟨none,.st 1 [] (.t 48) (.t 46),none⟩])
 .skip))))))))))
 (zs (zr [2] [zL 49 11 3,⟨none,.st 11 [] (.t 2) (.t 49),none⟩])
 .ret)))) }
def N179 : aw:={ np:=2,nt:=9,res:=[(4,none)],body :=
 (zs (zr [0,1] [zc 4 (.bool false)])
 (zs (zr [4] [zq 5 0,zm 6 1,zk 7 185 [(.t 5),(.t 6)],zd 8 .geq 7 (zI 0),zm 4 8])
 .ret)) }
def N180 : aw:={ np:=1,nt:=13,res:=[(2,none)],body :=
 (zs (zr [1] [zo 1 0,zc 2 (.bool false)])
 (zs (zr [2] [zf 3 0 1,zl 4 1 3,zk 5 172 [(.t 4),(.c (zI 0)),(.c (zI 4194304))],zt 6 5,zm 7 6,zg 7 false (zf 8 1 1),zg 7 false (zl 9 1 8),zg 7 false (zk 10 172 [(.t 9),(.c (zI 0)),(.c (zI 1099511627776))]),zg 7 false (zt 11 10),⟨some 12,.pick (.t 7) (.c (.bool true)) (.t 11),none⟩,zm 2 12])
 .ret)) }
def N181 : aw:={ np:=2,nt:=19,res:=[(4,none)],body :=
 (zs (zr [0,1] [zc 4 (zI 0)])
 (zs (zs (zr [0,1,7,8] [zm 6 0,zn 7 6,zc 8 (zI 0)])
 (.block 0 (.loop (zs (zr [0,1,7,8,9] [zb 9 .lss 8 7])
 (zs (zC 9 .skip
 (.exit 0))
 (zs (.block 1 (zs (zr [0,1,5,7,8] [zm 10 8,zm 5 10])
 (zs (zr [0,1,5,7,8,16] [zm 11 1,zm 12 0,zm 13 5,zi 14 11 12 13,zL 15 11 14,⟨some 16,.callv (.t 11) [(.t 15)],none⟩])
 (zC 16 (zs (zr [4] [zm 17 5,zm 4 17])
 .ret)
 .skip))))
 (zr [0,1,7,8] [zd 18 .add 8 (zI 1),zm 8 18])))))))
 (zs (zr [4] [⟨some 4,.mov (.c (zI (-1))),none⟩])
 .ret))) }
def N182 : aw:={ np:=2,nt:=8,res:=[(3,none)],body :=
 (zs (zr [1,2] [zo 2 0,zc 3 (.bool false)])
 (zs (zr [3] [zf 4 0 2,zl 5 1 4,zl 6 1 1,zb 7 .eql 5 6,zm 3 7])
 .ret)) }
def N183 : aw:={ np:=1,nt:=9,res:=[(2,none)],body :=
 (zs (zr [0] [zc 2 (.bool false)])
 (zs (zr [2] [zm 3 0,⟨some 4,.bin .lss (.t 3) (.c (zI (-4194304))),none⟩,zm 5 4,zg 5 false (zm 6 0),zg 5 false (zd 7 .gtr 6 (zI 4194304)),⟨some 8,.pick (.t 5) (.c (.bool true)) (.t 7),none⟩,zm 2 8])
 .ret)) }
def N184 : aw:={ np:=2,nt:=26,res:=[(4,none)],body :=
 (zs (zr [0,1] [zc 4 (.bool false)])
 (zs (zs (zr [0,1,10] [zm 6 0,zn 7 6,zm 8 1,zn 9 8,zb 10 .neq 7 9])
 (zC 10 (zs (zr [4] [zc 4 (.bool false)])
 .ret)
 .skip))
 (zs (zs (zr [0,1,12,13] [zm 11 0,zn 12 11,zc 13 (zI 0)])
 (.block 0 (.loop (zs (zr [0,1,12,13,14] [zb 14 .lss 13 12])
 (zs (zC 14 .skip
 (.exit 0))
 (zs (.block 1 (zs (zr [0,1,5,12,13] [zm 15 13,zm 5 15])
 (zs (.reg true [0,0,3,7,0,0,48,112,255] [0,1,12,13,24] [zm 16 0,zm 17 5,zi 18 2 16 17,zL 19 2 18,zm 20 1,zm 21 5,zi 22 2 20 21,zL 23 2 22,⟨some 24,.beq true [0,0] (.t 19) (.t 23),none⟩])
 (zC 24 (zs (zr [4] [zc 4 (.bool false)])
 .ret)
 .skip))))
 (zr [0,1,12,13] [zd 25 .add 13 (zI 1),zm 13 25])))))))
 (zs (zr [4] [zc 4 (.bool true)])
 .ret)))) }
def N185 : aw:={ np:=2,nt:=19,res:=[(4,none)],body :=
 (zs (zr [0,1] [zc 4 (zI 0)])
 (zs (zs (zr [0,1,7,8] [zm 6 0,zn 7 6,zc 8 (zI 0)])
 (.block 0 (.loop (zs (zr [0,1,7,8,9] [zb 9 .lss 8 7])
 (zs (zC 9 .skip
 (.exit 0))
 (zs (.block 1 (zs (zr [0,1,5,7,8] [zm 10 8,zm 5 10])
 (zs (zr [0,1,5,7,8,16] [zm 11 1,zm 12 0,zm 13 5,zi 14 2 12 13,zL 15 2 14,⟨some 16,.callv (.t 11) [(.t 15)],none⟩])
 (zC 16 (zs (zr [4] [zm 17 5,zm 4 17])
 .ret)
 .skip))))
 (zr [0,1,7,8] [zd 18 .add 8 (zI 1),zm 8 18])))))))
 (zs (zr [4] [⟨some 4,.mov (.c (zI (-1))),none⟩])
 .ret))) }
def N233 : aw:={ np:=2,nt:=45,res:=[(4,some (2,true)),(5,none)],body :=
 (zs (zr [2,3,4] [zo 2 0,zo 3 1,⟨some 4,.alc [zI 0,zI 0],none⟩,zc 5 (zI 0)])
 (zs (zr [4,6,7,8] [zL 12 2 2,zL 13 2 3,zk 14 269 [(.t 12),(.t 13)],zm 11 14,zx 15 0 11,zx 16 1 11,zx 17 2 11,⟨some 6,.alc [zI 0,zI 0],none⟩,⟨none,.st 2 [] (.t 6) (.t 15),none⟩,zm 7 16,zm 8 17])
 (zs (zs (zr [4,6,7,8,19] [zm 18 8,zd 19 .neq 18 (zI 0)])
 (zC 19 (zs (zr [4,5] [⟨some 20,.bld [zI 0,zI 0] [],none⟩,zm 21 8,⟨none,.st 2 [] (.t 4) (.t 20),none⟩,zm 5 21])
 .ret)
 .skip))
 (zs (zr [4,6,7,8,9] [zL 23 2 6,zm 24 7,zk 25 271 [(.t 23),(.t 24)],zm 22 25,zx 26 0 22,zx 27 1 22,zm 9 26,zm 8 27])
 (zs (zs (zr [4,6,7,8,9,29] [zm 28 8,zd 29 .neq 28 (zI 0)])
 (zC 29 (zs (zr [4,5] [⟨some 30,.bld [zI 0,zI 0] [],none⟩,zm 31 8,⟨none,.st 2 [] (.t 4) (.t 30),none⟩,zm 5 31])
 .ret)
 .skip))
 (zs (zr [4,8,9,10] [zL 33 2 6,zm 34 7,zk 35 272 [(.t 33),(.t 34)],zm 32 35,zx 36 0 32,zx 37 1 32,zm 10 36,zm 8 37])
 (zs (zs (zr [4,8,9,10,39] [zm 38 8,zd 39 .neq 38 (zI 0)])
 (zC 39 (zs (zr [4,5] [⟨some 40,.bld [zI 0,zI 0] [],none⟩,zm 41 8,⟨none,.st 2 [] (.t 4) (.t 40),none⟩,zm 5 41])
 .ret)
 .skip))
 (zs (zr [4,5] [zm 42 9,zm 43 10,⟨some 44,.bld [zI 0,zI 0] [(0,1,(.t 42)),(1,1,(.t 43))],none⟩,⟨none,.st 2 [] (.t 4) (.t 44),none⟩,zc 5 (zI 0)])
 .ret)))))))) }
def N234 : aw:={ np:=1,nt:=17,res:=[(2,none)],body :=
 (zs (zr [1] [zo 1 0,zc 2 (.bool false)])
 (zs (zr [3,4] [zL 6 2 1,zk 7 273 [(.t 6)],zm 5 7,zx 8 0 5,zx 9 1 5,zq 3 8,zm 4 9])
 (zs (zr [2] [zm 10 4,zd 11 .eql 10 (zI 0),zm 12 11,zg 12 true (zq 13 3),zg 12 true (zn 14 13),zg 12 true (zd 15 .eql 14 (zI 0)),⟨some 16,.pick (.t 12) (.t 15) (.c (.bool false)),none⟩,zm 2 16])
 .ret))) }
def N239 : aw:={ np:=2,nt:=9,res:=[(4,none)],body :=
 (zs (zr [0,1] [zc 4 (.bool false)])
 (zs (zr [4] [zq 5 0,zm 6 1,zk 7 278 [(.t 5),(.t 6)],zd 8 .geq 7 (zI 0),zm 4 8])
 .ret)) }
def N266 : aw:={ np:=1,nt:=18,res:=[(2,none)],body :=
 (zs (zr [0] [zc 2 (zI 0)])
 (zs (zr [0,3] [zc 3 (zI 0)])
 (zs (zs (zr [3,6,7,8] [zq 6 0,zn 7 6,zc 8 (zI 0)])
 (.block 0 (.loop (zs (zr [3,6,7,8,9] [zb 9 .lss 8 7])
 (zs (zC 9 .skip
 (.exit 0))
 (zs (.block 1 (zs (zr [3,5,6,7,8] [zi 10 1 6 8,zl 11 1 10,zm 5 11])
 (zs (zr [3,5,6,7,8,14] [zm 12 5,zm 13 3,zb 14 .neq 12 13])
 (zC 14 (zs (zr [2] [zm 15 5,zm 2 15])
 .ret)
 .skip))))
 (zr [3,6,7,8] [zd 16 .add 8 (zI 1),zm 8 16])))))))
 (zs (zr [2] [zm 17 3,zm 2 17])
 .ret)))) }
def N267 : aw:={ np:=2,nt:=20,res:=[(4,none)],body :=
 (zs (zr [0,1] [zc 4 (zI 0)])
 (zs (zr [0,1,5] [zm 7 0,zk 8 299 [(.t 7)],zm 5 8])
 (zs (zr [0,1,5,6] [zm 9 1,zk 10 299 [(.t 9)],zm 6 10])
 (zs (zs (zr [0,1,6,11] [zm 11 5])
 (zC 11 (zs (zs (zr [12] [zm 12 6])
 (zC 12 (zs (zr [4] [zc 4 (zI 0)])
 .ret)
 .skip))
 (zs (zr [4] [⟨some 4,.mov (.c (zI (-1))),none⟩])
 .ret))
 .skip))
 (zs (zs (zr [0,1,13] [zm 13 6])
 (zC 13 (zs (zr [4] [zc 4 (zI 1)])
 .ret)
 .skip))
 (zs (zs (zr [0,1,16] [zm 14 0,zm 15 1,zb 16 .lss 14 15])
 (zC 16 (zs (zr [4] [⟨some 4,.mov (.c (zI (-1))),none⟩])
 .ret)
 .skip))
 (zs (zs (zr [19] [zm 17 0,zm 18 1,zb 19 .gtr 17 18])
 (zC 19 (zs (zr [4] [zc 4 (zI 1)])
 .ret)
 .skip))
 (zs (zr [4] [zc 4 (zI 0)])
 .ret)))))))) }
def N269 : aw:={ np:=2,nt:=25,res:=[(4,some (2,true)),(5,none),(6,none)],body :=
 (zs (zr [2,3,4] [zo 2 0,zo 3 1,⟨some 4,.alc [zI 0,zI 0],none⟩,zc 5 (zI 0),zc 6 (zI 0)])
 (zs (zr [2,3,4,6,7] [zL 9 2 2,zL 10 2 3,zk 11 274 [(.t 9),(.t 10)],zm 8 11,zx 12 0 8,zx 13 1 8,zm 7 12,zm 6 13])
 (zs (zs (zr [2,3,4,6,7,15] [zm 14 6,zd 15 .neq 14 (zI 0)])
 (zC 15 (zs (zr [4,5,6] [⟨some 16,.bld [zI 0,zI 0] [],none⟩,zm 17 6,⟨none,.st 2 [] (.t 4) (.t 16),none⟩,zc 5 (zI 0),zm 6 17])
 .ret)
 .skip))
 (zs (zr [4,5,6] [zL 18 2 2,zm 19 7,zL 20 2 3,zk 21 300 [(.t 18),(.t 19),(.t 20)],zx 22 0 21,zx 23 1 21,zx 24 2 21,⟨none,.st 2 [] (.t 4) (.t 22),none⟩,zm 5 23,zm 6 24])
 .ret)))) }
def N271 : aw:={ np:=2,nt:=11,res:=[(4,none),(5,none)],body :=
 (zs (zr [1,2] [zo 2 0,zc 4 (zI 0),zc 5 (zI 0)])
 (zs (zr [4,5] [zL 6 2 2,zm 7 1,zk 8 301 [(.t 6),(.t 7),(.c (.bool false))],zx 9 0 8,zx 10 1 8,zm 4 9,zm 5 10])
 .ret)) }
def N272 : aw:={ np:=2,nt:=11,res:=[(4,none),(5,none)],body :=
 (zs (zr [1,2] [zo 2 0,zc 4 (zI 0),zc 5 (zI 0)])
 (zs (zr [4,5] [zL 6 2 2,zm 7 1,zk 8 301 [(.t 6),(.t 7),(.c (.bool true))],zx 9 0 8,zx 10 1 8,zm 4 9,zm 5 10])
 .ret)) }
def N273 : aw:={ np:=1,nt:=202,res:=[(2,none),(3,none)],body :=
 (zs (zr [1] [zo 1 0,zc 2 .nils,zc 3 (zI 0)])
 (zs (zs (zr [1,24] [zL 22 2 1,zk 23 302 [(.t 22)],zt 24 23])
 (zC 24 (zs (zr [2,3] [zc 2 .nils,zc 3 (zI 4)])
 .ret)
 .skip))
 (zs (zr [1,4] [⟨some 4,.alc [.own 1 [],.own 1 [],.own 1 [],.own 1 [],.own 1 [],.own 1 [],.own 1 []],none⟩])
 (zs (zr [1,4,5] [zf 25 0 1,zl 26 1 25,zn 27 26,⟨some 28,.mks 1 1 [.bool false] (.t 27) (.t 27),none⟩,⟨some 5,.alc [.own 1 []],none⟩,⟨none,.st 1 [] (.t 5) (.t 28),none⟩])
 (zs (zr [1,4,5,6] [⟨some 29,.mkm 4 1,none⟩,zm 6 29])
 (zs (zs (zr [1,4,5,6,31,32,33] [zf 30 0 1,zl 31 1 30,zn 32 31,zc 33 (zI 0)])
 (.block 0 (.loop (zs (zr [1,4,5,6,31,32,33,34] [zb 34 .lss 33 32])
 (zs (zC 34 .skip
 (.exit 0))
 (zs (.block 1 (zs (zr [1,4,5,6,7,8,31,32,33] [zm 35 33,zi 36 3 31 33,zL 37 3 36,⟨some 8,.alc [zI 0,zI 0,zI 0],none⟩,zm 7 35,⟨none,.st 3 [] (.t 8) (.t 37),none⟩])
 (zs (zs (.reg true [0,0,0,4,12,31,63] [1,4,5,6,7,31,32,33] [zl 38 1 5,zm 39 7,zL 40 3 8,zk 41 303 [(.t 40)],zt 42 41,zi 43 1 38 39,⟨none,.st 1 [] (.t 43) (.t 42),none⟩])
 (zs (zr [1,4,5,6,7,31,32,33,47] [zl 44 1 5,zm 45 7,zi 46 1 44 45,zl 47 1 46])
 (zC 47 (zs (zr [1,4,5,6,31,32,33] [⟨some 48,.iadA 7 1 (.t 4) (.c (zI 1)),none⟩,zl 49 1 48,zm 50 7,⟨some 51,.bls 1 1 [zI 0] [] [(0,(.t 50))],none⟩,⟨some 52,.app 1 8 false (.t 49) (.t 51),none⟩,⟨some 53,.iadA 7 1 (.t 4) (.c (zI 1)),none⟩,⟨none,.st 1 [] (.t 53) (.t 52),none⟩])
 (.exit 1))
 .skip)))
 (zs (zr [1,4,5,6,7,9,31,32,33] [zL 54 2 1,zm 55 7,zk 56 304 [(.t 54),(.t 55)],⟨some 9,.alc [zI 0,zI 0],none⟩,⟨none,.st 2 [] (.t 9) (.t 56),none⟩])
 (zs (zs (zr [1,4,5,6,7,9,31,32,33,59] [zm 57 6,zL 58 2 9,⟨some 59,.mpl (.ints .i64 2) 4 1 false (.bool false) (.t 57) (.t 58),none⟩])
 (zC 59 (zr [1,4,5,6,9,31,32,33] [⟨some 60,.iadA 7 1 (.t 4) (.c (zI 2)),none⟩,zl 61 1 60,zm 62 7,⟨some 63,.bls 1 1 [zI 0] [] [(0,(.t 62))],none⟩,⟨some 64,.app 1 8 false (.t 61) (.t 63),none⟩,⟨some 65,.iadA 7 1 (.t 4) (.c (zI 2)),none⟩,⟨none,.st 1 [] (.t 65) (.t 64),none⟩])
 .skip))
 (zr [1,4,5,6,31,32,33] [zm 66 6,zL 67 2 9,⟨none,.mpu (.ints .i64 2) 4 1 (.bool false) (.t 66) (.t 67) (.c (.bool true)),none⟩]))))))
 (zr [1,4,5,6,31,32,33] [zd 68 .add 33 (zI 1),zm 33 68])))))))
 (zs (zr [1,4,5,10] [⟨some 69,.mkm 3 1,none⟩,zm 10 69])
 (zs (zr [1,4,5,10,11] [⟨some 11,.nilo 6,none⟩])
 (zs (zs (zr [1,4,5,10,11,71,72,73] [zf 70 1 1,zl 71 1 70,zn 72 71,zc 73 (zI 0)])
 (.block 2 (.loop (zs (zr [1,4,5,10,11,71,72,73,74] [zb 74 .lss 73 72])
 (zs (zC 74 .skip
 (.exit 2))
 (zs (.block 3 (zs (zr [1,4,5,10,11,12,13,71,72,73] [zm 75 73,zi 76 4 71 73,zL 77 4 76,⟨some 13,.alc [zI 0,zI 0,zI 0,zI 0],none⟩,zm 12 75,⟨none,.st 4 [] (.t 13) (.t 77),none⟩])
 (zs (zr [1,4,5,10,11,12,13,14,71,72,73] [zL 78 4 13,zk 79 305 [(.t 78)],⟨some 14,.alc [zI 0,zI 0,zI 0],none⟩,⟨none,.st 3 [] (.t 14) (.t 79),none⟩])
 (zs (zs (zr [1,4,5,10,11,12,13,71,72,73,113] [⟨some 80,.slM 3 1 (.t 14),none⟩,⟨some 81,.mk 306 [(.t 1),(.t 5)],none⟩,zk 82 11 [(.t 80),(.t 81)],zm 83 82,zg 83 false (zf 84 0 13),zg 83 false (zl 85 1 84),zg 83 false (zf 86 1 13),zg 83 false (zl 87 1 86),zg 83 false (zb 88 .eql 85 87),⟨some 89,.pick (.t 83) (.c (.bool true)) (.t 88),none⟩,zm 90 89,zg 90 false (zf 91 1 13),zg 90 false (zl 92 1 91),zg 90 false (zf 93 2 13),zg 90 false (zl 94 1 93),zg 90 false (zb 95 .eql 92 94),⟨some 96,.pick (.t 90) (.c (.bool true)) (.t 95),none⟩,zm 97 96,zg 97 false (zf 98 2 13),zg 97 false (zl 99 1 98),zg 97 false (zf 100 0 13),zg 97 false (zl 101 1 100),zg 97 false (zb 102 .eql 99 101),⟨some 103,.pick (.t 97) (.c (.bool true)) (.t 102),none⟩,zm 104 103,zg 104 false (zf 105 3 13),zg 104 false (zl 106 1 105),zg 104 false (zd 107 .lss 106 (zI 0)),⟨some 108,.pick (.t 104) (.c (.bool true)) (.t 107),none⟩,zm 109 108,zg 109 false (zf 110 3 13),zg 109 false (zl 111 1 110),zg 109 false (zd 112 .geq 111 (zI 16)),⟨some 113,.pick (.t 109) (.c (.bool true)) (.t 112),none⟩])
 (zC 113 (zs (zr [1,4,5,10,11,71,72,73] [⟨some 114,.iadA 7 1 (.t 4) (.c (zI 3)),none⟩,zl 115 1 114,zm 116 12,⟨some 117,.bls 1 1 [zI 0] [] [(0,(.t 116))],none⟩,⟨some 118,.app 1 8 false (.t 115) (.t 117),none⟩,⟨some 119,.iadA 7 1 (.t 4) (.c (zI 3)),none⟩,⟨none,.st 1 [] (.t 119) (.t 118),none⟩])
 (.exit 3))
 .skip))
 (zs (zr [1,4,5,10,11,12,13,15,71,72,73] [zL 120 2 1,zL 121 4 13,zk 122 307 [(.t 120),(.t 121)],⟨some 15,.alc [zI 0,zI 0,zI 0,zI 0,zI 0,zI 0],none⟩,⟨none,.st 6 [] (.t 15) (.t 122),none⟩])
 (zs (zs (zr [1,4,5,10,11,12,13,15,71,72,73,130] [⟨some 123,.iadA 3 2 (.t 15) (.c (zI 0)),none⟩,zL 124 2 123,⟨some 125,.iadA 3 2 (.t 15) (.c (zI 1)),none⟩,zL 126 2 125,⟨some 127,.iadA 3 2 (.t 15) (.c (zI 2)),none⟩,zL 128 2 127,zk 129 308 [(.t 124),(.t 126),(.t 128)],zd 130 .leq 129 (zI 0)])
 (zC 130 (zs (zr [1,4,5,10,11,71,72,73] [⟨some 131,.iadA 7 1 (.t 4) (.c (zI 4)),none⟩,zl 132 1 131,zm 133 12,⟨some 134,.bls 1 1 [zI 0] [] [(0,(.t 133))],none⟩,⟨some 135,.app 1 8 false (.t 132) (.t 134),none⟩,⟨some 136,.iadA 7 1 (.t 4) (.c (zI 4)),none⟩,⟨none,.st 1 [] (.t 136) (.t 135),none⟩])
 (.exit 3))
 .skip))
 (zs (zs (zr [1,4,5,10,11,12,13,15,71,72,73,152] [zm 137 10,zL 138 4 13,zk 139 298 [(.t 138),(.c (zI 0))],⟨some 140,.mpl (.ints .i64 2) 3 1 false (.bool false) (.t 137) (.t 139),none⟩,zm 141 140,zg 141 false (zm 142 10),zg 141 false (zL 143 4 13),zg 141 false (zk 144 298 [(.t 143),(.c (zI 1))]),zg 141 false (⟨some 145,.mpl (.ints .i64 2) 3 1 false (.bool false) (.t 142) (.t 144),none⟩),⟨some 146,.pick (.t 141) (.c (.bool true)) (.t 145),none⟩,zm 147 146,zg 147 false (zm 148 10),zg 147 false (zL 149 4 13),zg 147 false (zk 150 298 [(.t 149),(.c (zI 2))]),zg 147 false (⟨some 151,.mpl (.ints .i64 2) 3 1 false (.bool false) (.t 148) (.t 150),none⟩),⟨some 152,.pick (.t 147) (.c (.bool true)) (.t 151),none⟩])
 (zC 152 (zr [1,4,5,10,11,12,13,15,71,72,73] [⟨some 153,.iadA 7 1 (.t 4) (.c (zI 5)),none⟩,zl 154 1 153,zm 155 12,⟨some 156,.bls 1 1 [zI 0] [] [(0,(.t 155))],none⟩,⟨some 157,.app 1 8 false (.t 154) (.t 156),none⟩,⟨some 158,.iadA 7 1 (.t 4) (.c (zI 5)),none⟩,⟨none,.st 1 [] (.t 158) (.t 157),none⟩])
 .skip))
 (zs (zs (zr [1,4,5,10,11,12,13,15,71,72,73,159] [zc 159 (zI 0)])
 (.block 4 (.loop (zs (zr [1,4,5,10,11,12,13,15,71,72,73,159,160] [zd 160 .lss 159 (zI 3)])
 (zs (zC 160 .skip
 (.exit 4))
 (zs (.block 5 (zs (zr [1,4,5,10,11,12,13,15,16,71,72,73,159] [zm 161 159,zm 16 161])
 (zr [1,4,5,10,11,12,13,15,71,72,73,159] [zm 162 10,zL 163 4 13,zm 164 16,zk 165 298 [(.t 163),(.t 164)],⟨none,.mpu (.ints .i64 2) 3 1 (.bool false) (.t 162) (.t 165) (.c (.bool true)),none⟩])))
 (zr [1,4,5,10,11,12,13,15,71,72,73,159] [zd 166 .add 159 (zI 1),zm 159 166])))))))
 (zs (zs (zr [1,4,5,10,11,12,15,71,72,73,169] [zm 167 11,⟨some 168,.mk 310 [(.t 15)],none⟩,zk 169 309 [(.t 167),(.t 168)]])
 (zC 169 (zr [1,4,5,10,11,15,71,72,73] [⟨some 170,.iadA 7 1 (.t 4) (.c (zI 6)),none⟩,zl 171 1 170,zm 172 12,⟨some 173,.bls 1 1 [zI 0] [] [(0,(.t 172))],none⟩,⟨some 174,.app 1 8 false (.t 171) (.t 173),none⟩,⟨some 175,.iadA 7 1 (.t 4) (.c (zI 6)),none⟩,⟨none,.st 1 [] (.t 175) (.t 174),none⟩])
 .skip))
 (zr [1,4,5,10,11,71,72,73] [zm 176 11,zL 177 6 15,⟨some 178,.bls 6 1 [zI 0,zI 0,zI 0,zI 0,zI 0,zI 0] [] [(0,(.t 177))],none⟩,⟨some 179,.app 6 48 false (.t 176) (.t 178),none⟩,zq 11 179]))))))))))
 (zr [1,4,5,10,11,71,72,73] [zd 180 .add 73 (zI 1),zm 73 180])))))))
 (zs (zr [4,17] [⟨some 17,.nilo 2,none⟩])
 (zs (zs (zr [17,181,182] [zL 181 7 4,zc 182 (zI 0)])
 (.block 6 (.loop (zs (zr [17,181,182,183] [zd 183 .lss 182 (zI 7)])
 (zs (zC 183 .skip
 (.exit 6))
 (zs (.block 7 (zs (zr [17,18,19,181,182] [zm 184 182,⟨some 185,.idxA 7 1 false (.t 181) (.t 182),none⟩,zm 18 184,zq 19 185])
 (zs (zr [17,18,181,182,186,187,188] [zq 186 19,zn 187 186,zc 188 (zI 0)])
 (.block 8 (.loop (zs (zr [17,18,181,182,186,187,188,189] [zb 189 .lss 188 187])
 (zs (zC 189 .skip
 (.exit 8))
 (zs (.block 9 (zs (zr [17,18,21,181,182,186,187,188] [zi 190 1 186 188,zl 191 1 190,zm 21 191])
 (zr [17,18,181,182,186,187,188] [zm 192 17,zm 193 18,zm 194 21,zk 195 127 [(.t 194)],⟨some 196,.bld [zI 0,.str []] [(0,1,(.t 193)),(1,1,(.t 195))],none⟩,⟨some 197,.bls 2 1 [zI 0,.str []] [] [(0,(.t 196))],none⟩,⟨some 198,.app 2 24 false (.t 192) (.t 197),none⟩,zq 17 198])))
 (zr [17,18,181,182,186,187,188] [zd 199 .add 188 (zI 1),zm 188 199])))))))))
 (zr [17,181,182] [zd 200 .add 182 (zI 1),zm 182 200])))))))
 (zs (zr [2,3] [zq 201 17,zq 2 201,zc 3 (zI 0)])
 .ret)))))))))))) }
def N274 : aw:={ np:=2,nt:=18,res:=[(4,none),(5,none)],body :=
 (zs (zr [2,3] [zo 2 0,zo 3 1,zc 4 (zI 0),zc 5 (zI 0)])
 (zs (zs (zr [2,3,11] [zL 7 2 2,zL 8 2 3,⟨some 9,.bls 2 1 [zI 0,zI 0] [] [(0,(.t 8))],none⟩,zk 10 275 [(.t 7),(.t 9)],zt 11 10])
 (zC 11 (zs (zr [4,5] [zc 4 (zI 0),zc 5 (zI 1)])
 .ret)
 .skip))
 (zs (zr [6] [zL 12 2 2,zL 13 2 3,zk 14 276 [(.t 12),(.t 13)],zm 6 14])
 (zs (zs (zr [6,16] [zm 15 6,zd 16 .lss 15 (zI 0)])
 (zC 16 (zs (zr [4,5] [zc 4 (zI 0),zc 5 (zI 12)])
 .ret)
 .skip))
 (zs (zr [4,5] [zm 17 6,zm 4 17,zc 5 (zI 0)])
 .ret))))) }
def N275 : aw:={ np:=2,nt:=12,res:=[(4,none)],body :=
 (zs (zr [1,2] [zo 2 0,zc 4 (.bool false)])
 (zs (zr [4] [zL 5 2 2,zk 6 234 [(.t 5)],zm 7 6,zg 7 true (zq 8 1),zg 7 true (⟨some 9,.call 239 [(.t 8),(.c (.fn 312 []))] [],none⟩),zg 7 true (zt 10 9),⟨some 11,.pick (.t 7) (.t 10) (.c (.bool false)),none⟩,zm 4 11])
 .ret)) }
def N276 : aw:={ np:=2,nt:=19,res:=[(4,none)],body :=
 (zs (zr [2,3] [zo 2 0,zo 3 1,zc 4 (zI 0)])
 (zs (zs (zr [2,3,8,9] [zf 6 1 2,zl 7 1 6,zn 8 7,zc 9 (zI 0)])
 (.block 0 (.loop (zs (zr [2,3,8,9,10] [zb 10 .lss 9 8])
 (zs (zC 10 .skip
 (.exit 0))
 (zs (.block 1 (zs (zr [2,3,5,8,9] [zm 11 9,zm 5 11])
 (zs (zr [2,3,5,8,9,16] [zL 12 2 2,zm 13 5,zL 14 2 3,zk 15 284 [(.t 12),(.t 13),(.t 14)],zd 16 .lss 15 (zI 0)])
 (zC 16 (zs (zr [4] [zm 17 5,zm 4 17])
 .ret)
 .skip))))
 (zr [2,3,8,9] [zd 18 .add 9 (zI 1),zm 9 18])))))))
 (zs (zr [4] [⟨some 4,.mov (.c (zI (-1))),none⟩])
 .ret))) }
def N278 : aw:={ np:=2,nt:=19,res:=[(4,none)],body :=
 (zs (zr [0,1] [zc 4 (zI 0)])
 (zs (zs (zr [0,1,7,8] [zm 6 0,zn 7 6,zc 8 (zI 0)])
 (.block 0 (.loop (zs (zr [0,1,7,8,9] [zb 9 .lss 8 7])
 (zs (zC 9 .skip
 (.exit 0))
 (zs (.block 1 (zs (zr [0,1,5,7,8] [zm 10 8,zm 5 10])
 (zs (zr [0,1,5,7,8,16] [zm 11 1,zm 12 0,zm 13 5,zi 14 2 12 13,zL 15 2 14,⟨some 16,.callv (.t 11) [(.t 15)],none⟩])
 (zC 16 (zs (zr [4] [zm 17 5,zm 4 17])
 .ret)
 .skip))))
 (zr [0,1,7,8] [zd 18 .add 8 (zI 1),zm 8 18])))))))
 (zs (zr [4] [⟨some 4,.mov (.c (zI (-1))),none⟩])
 .ret))) }
def N284 : aw:={ np:=3,nt:=30,res:=[(6,none)],body :=
 (zs (zr [1,3,5] [zo 3 0,zo 5 2,zc 6 (zI 0)])
 (zs (zr [5,7] [zL 9 2 3,zm 10 1,zk 11 319 [(.t 9),(.t 10)],⟨some 7,.alc [zI 0,zI 0,zI 0,zI 0,zI 0,zI 0,zI 0,zI 0,zI 0],none⟩,⟨none,.st 9 [] (.t 7) (.t 11),none⟩])
 (zs (zs (zr [5,7,12] [zc 12 (zI 0)])
 (.block 0 (.loop (zs (zr [5,7,12,13] [zd 13 .lss 12 (zI 3)])
 (zs (zC 13 .skip
 (.exit 0))
 (zs (.block 1 (zs (zr [5,7,8,12] [zm 14 12,zm 8 14])
 (zs (.reg true [0,1,3,7,0,16,48,112,240,511,0,2047,4095] [5,7,8,12,27] [zm 15 8,⟨some 16,.iadA 3 3 (.t 7) (.t 15),none⟩,zL 17 3 16,zk 18 321 [(.t 17)],zm 19 8,zd 20 .add 19 (zI 1),zd 21 .rem 20 (zI 3),⟨some 22,.iadA 3 3 (.t 7) (.t 21),none⟩,zL 23 3 22,zk 24 321 [(.t 23)],zL 25 2 5,zk 26 320 [(.t 18),(.t 24),(.t 25)],zd 27 .lss 26 (zI 0)])
 (zC 27 (zs (zr [6] [zm 28 8,zm 6 28])
 .ret)
 .skip))))
 (zr [5,7,12] [zd 29 .add 12 (zI 1),zm 12 29])))))))
 (zs (zr [6] [⟨some 6,.mov (.c (zI (-1))),none⟩])
 .ret)))) }
def N298 : aw:={ np:=2,nt:=17,res:=[(4,some (2,true))],body :=
 (zs (zr [1,2,4] [zo 2 0,⟨some 4,.alc [zI 0,zI 0],none⟩])
 (zs (zr [1,4,5] [zL 6 4 2,zk 7 305 [(.t 6)],⟨some 5,.alc [zI 0,zI 0,zI 0],none⟩,⟨none,.st 3 [] (.t 5) (.t 7),none⟩])
 (zs (.reg true [0,1,3,0,8,24,56,120,255,511] [4] [zm 8 1,⟨some 9,.iadA 3 1 (.t 5) (.t 8),none⟩,zl 10 1 9,zm 11 1,zd 12 .add 11 (zI 1),zd 13 .rem 12 (zI 3),⟨some 14,.iadA 3 1 (.t 5) (.t 13),none⟩,zl 15 1 14,⟨some 16,.bld [zI 0,zI 0] [(0,1,(.t 10)),(1,1,(.t 15))],none⟩,⟨none,.st 2 [] (.t 4) (.t 16),none⟩])
 .ret))) }
def N299 : aw:={ np:=1,nt:=6,res:=[(2,none)],body :=
 (zs (zr [0] [zc 2 (.bool false)])
 (zs (zr [2] [zm 3 0,zm 4 0,zb 5 .neq 3 4,zm 2 5])
 .ret)) }
def N300 : aw:={ np:=3,nt:=68,res:=[(6,some (2,true)),(7,none),(8,none)],body :=
 (zs (zr [1,3,5,6] [zo 3 0,zo 5 2,⟨some 6,.alc [zI 0,zI 0],none⟩,zc 7 (zI 0),zc 8 (zI 0)])
 (zs (zr [5,6,9] [zL 14 2 3,zm 15 1,zk 16 319 [(.t 14),(.t 15)],⟨some 9,.alc [zI 0,zI 0,zI 0,zI 0,zI 0,zI 0,zI 0,zI 0,zI 0],none⟩,⟨none,.st 9 [] (.t 9) (.t 16),none⟩])
 (zs (zs (zr [5,6,9,17,18] [zL 17 9 9,zc 18 (zI 0)])
 (.block 0 (.loop (zs (zr [5,6,9,17,18,19] [zd 19 .lss 18 (zI 3)])
 (zs (zC 19 .skip
 (.exit 0))
 (zs (.block 1 (zs (zr [5,6,9,10,11,17,18] [zm 20 18,⟨some 21,.idxA 3 3 true (.t 17) (.t 18),none⟩,⟨some 11,.alc [zI 0,zI 0,zI 0],none⟩,zm 10 20,⟨none,.st 3 [] (.t 11) (.t 21),none⟩])
 (zs (.reg true [0,1,0,0,8,24,56,120,248,0,512,1536,3584,7680,16376,32764,65535,131071,262143,262143,0,1572863,4194303] [5,6,9,12,13,17,18] [zf 23 2 11,zl 24 1 23,zL 25 2 5,zm 26 10,zd 27 .add 26 (zI 1),zd 28 .rem 27 (zI 3),⟨some 29,.iadA 3 3 (.t 9) (.t 28),none⟩,zL 30 3 29,zk 31 321 [(.t 30)],zm 32 10,zd 33 .add 32 (zI 2),zd 34 .rem 33 (zI 3),⟨some 35,.iadA 3 3 (.t 9) (.t 34),none⟩,zL 36 3 35,zk 37 321 [(.t 36)],zk 38 320 [(.t 25),(.t 31),(.t 37)],zk 39 99 [(.t 24),(.t 38)],zm 22 39,zx 40 0 22,zx 41 1 22,⟨some 12,.alc [zI 0,zI 0],none⟩,⟨none,.st 2 [] (.t 12) (.t 40),none⟩,zm 13 41])
 (zs (zs (zr [5,6,9,12,13,17,18,43] [zm 42 13,zd 43 .neq 42 (zI 0)])
 (zC 43 (zs (zr [6,7,8] [⟨some 44,.bld [zI 0,zI 0] [],none⟩,zm 45 13,⟨none,.st 2 [] (.t 6) (.t 44),none⟩,zc 7 (zI 0),zm 8 45])
 .ret)
 .skip))
 (zs (zr [5,6,9,13,17,18] [zL 47 2 6,zL 48 2 12,zk 49 327 [(.t 47),(.t 48)],zm 46 49,zx 50 0 46,zx 51 1 46,⟨none,.st 2 [] (.t 6) (.t 50),none⟩,zm 13 51])
 (zs (zr [5,6,9,13,17,18,53] [zm 52 13,zd 53 .neq 52 (zI 0)])
 (zC 53 (zs (zr [6,7,8] [⟨some 54,.bld [zI 0,zI 0] [],none⟩,zm 55 13,⟨none,.st 2 [] (.t 6) (.t 54),none⟩,zc 7 (zI 0),zm 8 55])
 .ret)
 .skip)))))))
 (zr [5,6,9,17,18] [zd 56 .add 18 (zI 1),zm 18 56])))))))
 (zs (.reg true [0,0,2,6,0,16,62,0,128,510,1022,2047,4095,8191] [6,7,8] [zL 57 2 6,⟨some 58,.iadA 3 3 (.t 9) (.c (zI 0)),none⟩,zL 59 3 58,zk 60 321 [(.t 59)],⟨some 61,.iadA 3 3 (.t 9) (.c (zI 1)),none⟩,zL 62 3 61,zk 63 321 [(.t 62)],⟨some 64,.iadA 3 3 (.t 9) (.c (zI 2)),none⟩,zL 65 3 64,zk 66 321 [(.t 65)],zk 67 320 [(.t 60),(.t 63),(.t 66)],⟨none,.st 2 [] (.t 6) (.t 57),none⟩,zm 7 67,zc 8 (zI 0)])
 .ret)))) }
def N301 : aw:={ np:=3,nt:=20,res:=[(6,none),(7,none)],body :=
 (zs (zr [1,2,3] [zo 3 0,zc 6 (zI 0),zc 7 (zI 0)])
 (zs (zs (zr [1,2,3,10] [zL 8 2 3,zk 9 106 [(.t 8)],zt 10 9])
 (zC 10 (zs (zr [6,7] [zc 6 (zI 0),zc 7 (zI 1)])
 .ret)
 .skip))
 (zs (zs (zr [1,2,3,12] [zm 11 1,zd 12 .eql 11 (zI 0)])
 (zC 12 (zs (zr [6,7] [zc 6 (zI 0),zc 7 (zI 16)])
 .ret)
 .skip))
 (zs (zr [6,7] [zL 13 2 3,zk 14 108 [(.t 13)],zm 15 1,zm 16 2,zk 17 104 [(.t 14),(.t 15),(.t 16)],zx 18 0 17,zx 19 1 17,zm 6 18,zm 7 19])
 .ret)))) }
def N302 : aw:={ np:=1,nt:=13,res:=[(2,none)],body :=
 (zs (zr [1] [zo 1 0,zc 2 (.bool false)])
 (zs (zr [2] [zf 3 0 1,zl 4 1 3,zn 5 4,zd 6 .leq 5 (zI 2000),zm 7 6,zg 7 true (zf 8 1 1),zg 7 true (zl 9 1 8),zg 7 true (zn 10 9),zg 7 true (zd 11 .leq 10 (zI 4000)),⟨some 12,.pick (.t 7) (.t 11) (.c (.bool false)),none⟩,zm 2 12])
 .ret)) }
def N303 : aw:={ np:=1,nt:=19,res:=[(2,none)],body :=
 (zs (zr [1] [zo 1 0,zc 2 (.bool false)])
 (zs (zr [2] [zf 3 0 1,zl 4 1 3,zf 5 1 1,zl 6 1 5,⟨some 7,.bld [zI 0,zI 0] [(0,1,(.t 4)),(1,1,(.t 6))],none⟩,zk 8 313 [(.t 7)],zm 9 8,zg 9 true (zf 10 2 1),zg 9 true (zl 11 1 10),zg 9 true (⟨some 12,.bin .geq (.t 11) (.c (zI (-4194304))),none⟩),⟨some 13,.pick (.t 9) (.t 12) (.c (.bool false)),none⟩,zm 14 13,zg 14 true (zf 15 2 1),zg 14 true (zl 16 1 15),zg 14 true (zd 17 .leq 16 (zI 4194304)),⟨some 18,.pick (.t 14) (.t 17) (.c (.bool false)),none⟩,zm 2 18])
 .ret)) }
def N304 : aw:={ np:=2,nt:=18,res:=[(4,some (2,true))],body :=
 (zs (zr [1,2,4] [zo 2 0,⟨some 4,.alc [zI 0,zI 0],none⟩])
 (zs (.reg true [0,1,0,7,15,31,0,64,0,448,960,1984,4095,8191] [4] [zf 5 0 2,zl 6 1 5,zm 7 1,zi 8 3 6 7,zf 9 0 8,zl 10 1 9,zf 11 0 2,zl 12 1 11,zm 13 1,zi 14 3 12 13,zf 15 1 14,zl 16 1 15,⟨some 17,.bld [zI 0,zI 0] [(0,1,(.t 10)),(1,1,(.t 16))],none⟩,⟨none,.st 2 [] (.t 4) (.t 17),none⟩])
 .ret)) }
def N305 : aw:={ np:=1,nt:=10,res:=[(2,some (3,true))],body :=
 (zs (zr [1,2] [zo 1 0,⟨some 2,.alc [zI 0,zI 0,zI 0],none⟩])
 (zs (zr [2] [zf 3 0 1,zl 4 1 3,zf 5 1 1,zl 6 1 5,zf 7 2 1,zl 8 1 7,⟨some 9,.bld [zI 0,zI 0,zI 0] [(0,1,(.t 4)),(1,1,(.t 6)),(2,1,(.t 8))],none⟩,⟨none,.st 3 [] (.t 2) (.t 9),none⟩])
 .ret)) }
def N306 : aw:={ np:=3,nt:=20,res:=[(4,none)],body :=
 (zs (zr [0,1,2] [zc 4 (.bool false)])
 (zs (zr [4] [zm 5 0,zd 6 .lss 5 (zI 0),zm 7 6,zg 7 false (zm 8 0),zg 7 false (zf 9 0 1),zg 7 false (zl 10 1 9),zg 7 false (zn 11 10),zg 7 false (zb 12 .geq 8 11),⟨some 13,.pick (.t 7) (.c (.bool true)) (.t 12),none⟩,zm 14 13,zg 14 false (zl 15 1 2),zg 14 false (zm 16 0),zg 14 false (zi 17 1 15 16),zg 14 false (zl 18 1 17),⟨some 19,.pick (.t 14) (.c (.bool true)) (.t 18),none⟩,zm 4 19])
 .ret)) }
def N307 : aw:={ np:=2,nt:=18,res:=[(4,some (6,true))],body :=
 (zs (zr [2,3,4] [zo 2 0,zo 3 1,⟨some 4,.alc [zI 0,zI 0,zI 0,zI 0,zI 0,zI 0],none⟩])
 (zs (.reg true [0,0,2,7,0,0,32,127,0,0,512,2047,4095,8191] [4] [zL 5 2 2,zf 6 0 3,zl 7 1 6,zk 8 304 [(.t 5),(.t 7)],zL 9 2 2,zf 10 1 3,zl 11 1 10,zk 12 304 [(.t 9),(.t 11)],zL 13 2 2,zf 14 2 3,zl 15 1 14,zk 16 304 [(.t 13),(.t 15)],⟨some 17,.bld [zI 0,zI 0,zI 0,zI 0,zI 0,zI 0] [(0,2,(.t 8)),(2,2,(.t 12)),(4,2,(.t 16))],none⟩,⟨none,.st 6 [] (.t 4) (.t 17),none⟩])
 .ret)) }
def N308 : aw:={ np:=3,nt:=30,res:=[(6,none)],body :=
 (zs (zr [3,4,5] [zo 3 0,zo 4 1,zo 5 2,zc 6 (zI 0)])
 (zs (zr [6] [zf 7 0 4,zl 8 1 7,zf 9 0 3,zl 10 1 9,zb 11 .sub 8 10,zf 12 1 5,zl 13 1 12,zf 14 1 3,zl 15 1 14,zb 16 .sub 13 15,zb 17 .mul 11 16,zf 18 1 4,zl 19 1 18,zf 20 1 3,zl 21 1 20,zb 22 .sub 19 21,zf 23 0 5,zl 24 1 23,zf 25 0 3,zl 26 1 25,zb 27 .sub 24 26,zb 28 .mul 22 27,zb 29 .sub 17 28,zm 6 29])
 .ret)) }
def N309 : aw:={ np:=2,nt:=9,res:=[(4,none)],body :=
 (zs (zr [0,1] [zc 4 (.bool false)])
 (zs (zr [4] [zq 5 0,zm 6 1,zk 7 328 [(.t 5),(.t 6)],zd 8 .geq 7 (zI 0),zm 4 8])
 .ret)) }
def N310 : aw:={ np:=2,nt:=14,res:=[(3,none)],body :=
 (zs (zr [1,2] [zo 2 0,zc 3 (.bool false)])
 (zs (zr [3] [zL 4 6 1,zL 5 6 2,zk 6 311 [(.t 4),(.t 5)],zt 7 6,zm 8 7,zg 8 true (zL 9 6 2),zg 8 true (zL 10 6 1),zg 8 true (zk 11 311 [(.t 9),(.t 10)]),zg 8 true (zt 12 11),⟨some 13,.pick (.t 8) (.t 12) (.c (.bool false)),none⟩,zm 3 13])
 .ret)) }
def N311 : aw:={ np:=2,nt:=42,res:=[(4,none)],body :=
 (zs (zr [2,3] [zo 2 0,zo 3 1,zc 4 (.bool false)])
 (zs (zs (zr [2,3,8] [zc 8 (zI 0)])
 (.block 0 (.loop (zs (zr [2,3,8,9] [zd 9 .lss 8 (zI 3)])
 (zs (zC 9 .skip
 (.exit 0))
 (zs (.block 1 (zs (zr [2,3,5,8] [zm 10 8,zm 5 10])
 (zs (.reg true [0,1,3,0,8,24,56,120,0,0,775,2047] [2,3,6,7,8] [zm 11 5,⟨some 12,.iadA 3 2 (.t 2) (.t 11),none⟩,zL 13 2 12,zm 14 5,zd 15 .add 14 (zI 1),zd 16 .rem 15 (zI 3),⟨some 17,.iadA 3 2 (.t 2) (.t 16),none⟩,zL 18 2 17,⟨some 6,.alc [zI 0,zI 0],none⟩,⟨some 7,.alc [zI 0,zI 0],none⟩,⟨none,.st 2 [] (.t 6) (.t 13),none⟩,⟨none,.st 2 [] (.t 7) (.t 18),none⟩])
 (zs (zr [2,3,8,40] [zL 19 2 6,zL 20 2 7,⟨some 21,.iadA 3 2 (.t 3) (.c (zI 0)),none⟩,zL 22 2 21,zk 23 308 [(.t 19),(.t 20),(.t 22)],zd 24 .leq 23 (zI 0),zm 25 24,zg 25 true (zL 26 2 6),zg 25 true (zL 27 2 7),zg 25 true (⟨some 28,.iadA 3 2 (.t 3) (.c (zI 1)),none⟩),zg 25 true (zL 29 2 28),zg 25 true (zk 30 308 [(.t 26),(.t 27),(.t 29)]),zg 25 true (zd 31 .leq 30 (zI 0)),⟨some 32,.pick (.t 25) (.t 31) (.c (.bool false)),none⟩,zm 33 32,zg 33 true (zL 34 2 6),zg 33 true (zL 35 2 7),zg 33 true (⟨some 36,.iadA 3 2 (.t 3) (.c (zI 2)),none⟩),zg 33 true (zL 37 2 36),zg 33 true (zk 38 308 [(.t 34),(.t 35),(.t 37)]),zg 33 true (zd 39 .leq 38 (zI 0)),⟨some 40,.pick (.t 33) (.t 39) (.c (.bool false)),none⟩])
 (zC 40 (zs (zr [4] [zc 4 (.bool true)])
 .ret)
 .skip)))))
 (zr [2,3,8] [zd 41 .add 8 (zI 1),zm 8 41])))))))
 (zs (zr [4] [zc 4 (.bool false)])
 .ret))) }
def N312 : aw:={ np:=1,nt:=6,res:=[(2,none)],body :=
 (zs (zr [1] [zo 1 0,zc 2 (.bool false)])
 (zs (zr [2] [zL 3 2 1,zk 4 313 [(.t 3)],zt 5 4,zm 2 5])
 .ret)) }
def N313 : aw:={ np:=1,nt:=21,res:=[(2,none)],body :=
 (zs (zr [1] [zo 1 0,zc 2 (.bool false)])
 (zs (zr [2] [zf 3 0 1,zl 4 1 3,⟨some 5,.bin .geq (.t 4) (.c (zI (-16777216))),none⟩,zm 6 5,zg 6 true (zf 7 0 1),zg 6 true (zl 8 1 7),zg 6 true (zd 9 .leq 8 (zI 16777216)),⟨some 10,.pick (.t 6) (.t 9) (.c (.bool false)),none⟩,zm 11 10,zg 11 true (zf 12 1 1),zg 11 true (zl 13 1 12),zg 11 true (⟨some 14,.bin .geq (.t 13) (.c (zI (-16777216))),none⟩),⟨some 15,.pick (.t 11) (.t 14) (.c (.bool false)),none⟩,zm 16 15,zg 16 true (zf 17 1 1),zg 16 true (zl 18 1 17),zg 16 true (zd 19 .leq 18 (zI 16777216)),⟨some 20,.pick (.t 16) (.t 19) (.c (.bool false)),none⟩,zm 2 20])
 .ret)) }
def N319 : aw:={ np:=2,nt:=30,res:=[(4,some (9,true))],body :=
 (zs (zr [1,2,4] [zo 2 0,⟨some 4,.alc [zI 0,zI 0,zI 0,zI 0,zI 0,zI 0,zI 0,zI 0,zI 0],none⟩])
 (zs (zr [2,4,5] [zf 6 1 2,zl 7 1 6,zm 8 1,zi 9 4 7 8,zL 10 4 9,⟨some 5,.alc [zI 0,zI 0,zI 0,zI 0],none⟩,⟨none,.st 4 [] (.t 5) (.t 10),none⟩])
 (zs (.reg true [0,1,0,4,15,31,0,64,0,256,960,1984,0,4096,0,16384,61440,126976,262143,524287] [4] [zf 11 0 2,zl 12 1 11,zf 13 0 5,zl 14 1 13,zi 15 3 12 14,zL 16 3 15,zf 17 0 2,zl 18 1 17,zf 19 1 5,zl 20 1 19,zi 21 3 18 20,zL 22 3 21,zf 23 0 2,zl 24 1 23,zf 25 2 5,zl 26 1 25,zi 27 3 24 26,zL 28 3 27,⟨some 29,.bld [zI 0,zI 0,zI 0,zI 0,zI 0,zI 0,zI 0,zI 0,zI 0] [(0,3,(.t 16)),(3,3,(.t 22)),(6,3,(.t 28))],none⟩,⟨none,.st 9 [] (.t 4) (.t 29),none⟩])
 .ret))) }
def N320 : aw:={ np:=3,nt:=30,res:=[(6,none)],body :=
 (zs (zr [3,4,5] [zo 3 0,zo 4 1,zo 5 2,zc 6 (zI 0)])
 (zs (zr [6] [zf 7 0 4,zl 8 1 7,zf 9 0 3,zl 10 1 9,zb 11 .sub 8 10,zf 12 1 5,zl 13 1 12,zf 14 1 3,zl 15 1 14,zb 16 .sub 13 15,zb 17 .mul 11 16,zf 18 1 4,zl 19 1 18,zf 20 1 3,zl 21 1 20,zb 22 .sub 19 21,zf 23 0 5,zl 24 1 23,zf 25 0 3,zl 26 1 25,zb 27 .sub 24 26,zb 28 .mul 22 27,zb 29 .sub 17 28,zm 6 29])
 .ret)) }
def N321 : aw:={ np:=1,nt:=8,res:=[(2,some (2,true))],body :=
 (zs (zr [1,2] [zo 1 0,⟨some 2,.alc [zI 0,zI 0],none⟩])
 (zs (zr [2] [zf 3 0 1,zl 4 1 3,zf 5 1 1,zl 6 1 5,⟨some 7,.bld [zI 0,zI 0] [(0,1,(.t 4)),(1,1,(.t 6))],none⟩,⟨none,.st 2 [] (.t 2) (.t 7),none⟩])
 .ret)) }
def N327 : aw:={ np:=2,nt:=23,res:=[(4,some (2,true)),(5,none)],body :=
 (zs (zr [2,3,4] [zo 2 0,zo 3 1,⟨some 4,.alc [zI 0,zI 0],none⟩,zc 5 (zI 0)])
 (zs (zs (zr [2,3,4,13] [zL 6 2 2,zk 7 106 [(.t 6)],zt 8 7,zm 9 8,zg 9 false (zL 10 2 3),zg 9 false (zk 11 106 [(.t 10)]),zg 9 false (zt 12 11),⟨some 13,.pick (.t 9) (.c (.bool true)) (.t 12),none⟩])
 (zC 13 (zs (zr [4,5] [⟨some 14,.bld [zI 0,zI 0] [],none⟩,⟨none,.st 2 [] (.t 4) (.t 14),none⟩,zc 5 (zI 1)])
 .ret)
 .skip))
 (zs (.reg true [0,1,0,7,15,31,63,63,255,511] [4,5] [zL 15 2 2,zk 16 108 [(.t 15)],zL 17 2 3,zk 18 108 [(.t 17)],zk 19 107 [(.t 16),(.t 18)],zk 20 105 [(.t 19)],zx 21 0 20,zx 22 1 20,⟨none,.st 2 [] (.t 4) (.t 21),none⟩,zm 5 22])
 .ret))) }
def N328 : aw:={ np:=2,nt:=19,res:=[(4,none)],body :=
 (zs (zr [0,1] [zc 4 (zI 0)])
 (zs (zs (zr [0,1,7,8] [zm 6 0,zn 7 6,zc 8 (zI 0)])
 (.block 0 (.loop (zs (zr [0,1,7,8,9] [zb 9 .lss 8 7])
 (zs (zC 9 .skip
 (.exit 0))
 (zs (.block 1 (zs (zr [0,1,5,7,8] [zm 10 8,zm 5 10])
 (zs (zr [0,1,5,7,8,16] [zm 11 1,zm 12 0,zm 13 5,zi 14 6 12 13,zL 15 6 14,⟨some 16,.callv (.t 11) [(.t 15)],none⟩])
 (zC 16 (zs (zr [4] [zm 17 5,zm 4 17])
 .ret)
 .skip))))
 (zr [0,1,7,8] [zd 18 .add 8 (zI 1),zm 8 18])))))))
 (zs (zr [4] [⟨some 4,.mov (.c (zI (-1))),none⟩])
 .ret))) }
def N435 : aw:={ np:=2,nt:=26,res:=[(4,none)],body :=
 (zs (zr [0,1] [zc 4 (.bool false)])
 (zs (zs (zr [0,1,10] [zm 6 0,zn 7 6,zm 8 1,zn 9 8,zb 10 .neq 7 9])
 (zC 10 (zs (zr [4] [zc 4 (.bool false)])
 .ret)
 .skip))
 (zs (zs (zr [0,1,12,13] [zm 11 0,zn 12 11,zc 13 (zI 0)])
 (.block 0 (.loop (zs (zr [0,1,12,13,14] [zb 14 .lss 13 12])
 (zs (zC 14 .skip
 (.exit 0))
 (zs (.block 1 (zs (zr [0,1,5,12,13] [zm 15 13,zm 5 15])
 (zs (.reg true [0,0,3,7,0,0,48,112,255] [0,1,12,13,24] [zm 16 0,zm 17 5,zi 18 1 16 17,zl 19 1 18,zm 20 1,zm 21 5,zi 22 1 20 21,zl 23 1 22,zb 24 .neq 19 23])
 (zC 24 (zs (zr [4] [zc 4 (.bool false)])
 .ret)
 .skip))))
 (zr [0,1,12,13] [zd 25 .add 13 (zI 1),zm 13 25])))))))
 (zs (zr [4] [zc 4 (.bool true)])
 .ret)))) }
def N453 : aw:={ np:=2,nt:=9,res:=[(4,none)],body :=
 (zs (zr [0,1] [zc 4 (.bool false)])
 (zs (zr [4] [zq 5 0,zm 6 1,zk 7 175 [(.t 5),(.t 6)],zd 8 .geq 7 (zI 0),zm 4 8])
 .ret)) }
def N455 : aw:={ np:=2,nt:=9,res:=[(4,none)],body :=
 (zs (zr [0,1] [zc 4 (.bool false)])
 (zs (zr [4] [zq 5 0,zm 6 1,zk 7 181 [(.t 5),(.t 6)],zd 8 .geq 7 (zI 0),zm 4 8])
 .ret)) }
def N471 : aw:={ np:=1,nt:=9,res:=[(2,none),(3,none)],body :=
 (zs (zr [1] [zo 1 0,zc 2 .nils,zc 3 (zI 0)])
 (zs (zs (zr [1,6] [zL 4 2 1,zk 5 164 [(.t 4)],zt 6 5])
 (zC 6 (zs (zr [2,3] [zc 2 .nils,zc 3 (zI 1)])
 .ret)
 .skip))
 (zs (zr [2,3] [zL 7 2 1,zk 8 499 [(.t 7)],zq 2 8,zc 3 (zI 0)])
 .ret))) }
def N499 : aw:={ np:=1,nt:=27,res:=[(2,none)],body :=
 (zs (zr [1] [zo 1 0,zc 2 .nils])
 (zs (zr [1,3] [⟨some 3,.nilo 2,none⟩])
 (zs (zs (zr [1,3,7,8,9] [zf 6 1 1,zl 7 1 6,zn 8 7,zc 9 (zI 0)])
 (.block 0 (.loop (zs (zr [1,3,7,8,9,10] [zb 10 .lss 9 8])
 (zs (zC 10 .skip
 (.exit 0))
 (zs (.block 1 (zs (zr [1,3,5,7,8,9] [zi 11 11 7 9,zL 12 11 11,⟨some 5,.alc [.str [],.str [],.str [],zI 0,zI 0,zI 0,zI 0,.str [],zI 0,zI 0,.own 2 []],none⟩,⟨none,.st 11 [] (.t 5) (.t 12),none⟩])
 (.reg true [0,0,0,4,14,0,0,64,254,510,1022,2047,4095] [1,3,7,8,9] [zm 13 3,zL 14 2 1,zf 15 1 5,zl 16 1 15,zk 17 169 [(.t 14),(.t 16)],zL 18 2 1,zf 19 2 5,zl 20 1 19,zk 21 169 [(.t 18),(.t 20)],⟨some 22,.bld [zI 0,zI 0] [(0,1,(.t 17)),(1,1,(.t 21))],none⟩,⟨some 23,.bls 2 1 [zI 0,zI 0] [] [(0,(.t 22))],none⟩,⟨some 24,.app 2 16 false (.t 13) (.t 23),none⟩,zq 3 24])))
 (zr [1,3,7,8,9] [zd 25 .add 9 (zI 1),zm 9 25])))))))
 (zs (zr [2] [zq 26 3,zq 2 26])
 .ret)))) }
def N503 : aw:={ np:=2,nt:=20,res:=[(4,none)],body :=
 (zs (zr [1,2] [zo 2 0,zc 4 (.bool false)])
 (zs (zs (zr [1,2,15] [zl 5 1 2,zd 6 .lss 5 (zI 0),zm 7 6,zg 7 false (zl 8 1 2),zg 7 false (zd 9 .gtr 8 (zI 300)),⟨some 10,.pick (.t 7) (.c (.bool true)) (.t 9),none⟩,zm 11 10,zg 11 false (zm 12 1),zg 11 false (zn 13 12),zg 11 false (zd 14 .gtr 13 (zI 1000)),⟨some 15,.pick (.t 11) (.c (.bool true)) (.t 14),none⟩])
 (zC 15 (zs (zr [4] [zc 4 (.bool false)])
 .ret)
 .skip))
 (zs (zr [4] [zq 16 1,⟨some 17,.mk 515 [(.t 2)],none⟩,zk 18 514 [(.t 16),(.t 17)],zt 19 18,zm 4 19])
 .ret))) }
def N514 : aw:={ np:=2,nt:=9,res:=[(4,none)],body :=
 (zs (zr [0,1] [zc 4 (.bool false)])
 (zs (zr [4] [zq 5 0,zm 6 1,zk 7 522 [(.t 5),(.t 6)],zd 8 .geq 7 (zI 0),zm 4 8])
 .ret)) }
def N515 : aw:={ np:=2,nt:=16,res:=[(3,none)],body :=
 (zs (zr [1,2] [zo 2 0,zc 3 (.bool false)])
 (zs (zr [3] [zl 4 1 1,⟨some 5,.iadA 2 1 (.t 2) (.c (zI 0)),none⟩,zl 6 1 5,zk 7 516 [(.t 4),(.t 6)],zt 8 7,zm 9 8,zg 9 false (zl 10 1 1),zg 9 false (⟨some 11,.iadA 2 1 (.t 2) (.c (zI 1)),none⟩),zg 9 false (zl 12 1 11),zg 9 false (zk 13 516 [(.t 10),(.t 12)]),zg 9 false (zt 14 13),⟨some 15,.pick (.t 9) (.c (.bool true)) (.t 14),none⟩,zm 3 15])
 .ret)) }
def N516 : aw:={ np:=2,nt:=12,res:=[(4,none)],body :=
 (zs (zr [0,1] [zc 4 (.bool false)])
 (zs (zr [4] [zm 5 1,zd 6 .geq 5 (zI 0),zm 7 6,zg 7 true (zm 8 1),zg 7 true (zm 9 0),zg 7 true (zb 10 .lss 8 9),⟨some 11,.pick (.t 7) (.t 10) (.c (.bool false)),none⟩,zm 4 11])
 .ret)) }
def N517 : aw:={ np:=2,nt:=51,res:=[(4,none)],body :=
 (zs (zr [0,1] [zc 4 .nils])
 (zs (zr [1,5] [zm 9 0,⟨some 10,.mks 1 24 [.own 1 []] (.t 9) (.t 9),none⟩,zq 5 10])
 (zs (zs (zr [5,11,12,13] [zq 11 1,zn 12 11,zc 13 (zI 0)])
 (.block 0 (.loop (zs (zr [5,11,12,13,14] [zb 14 .lss 13 12])
 (zs (zC 14 .skip
 (.exit 0))
 (zs (.block 1 (zs (zr [5,7,11,12,13] [zi 15 2 11 13,zL 16 2 15,⟨some 7,.alc [zI 0,zI 0],none⟩,⟨none,.st 2 [] (.t 7) (.t 16),none⟩])
 (.reg true [0,0,2,0,0,16,56,120,0,256,768,2040,4095,8191] [5,11,12,13] [zm 17 5,⟨some 18,.iadA 2 1 (.t 7) (.c (zI 0)),none⟩,zl 19 1 18,zm 20 5,⟨some 21,.iadA 2 1 (.t 7) (.c (zI 0)),none⟩,zl 22 1 21,zi 23 1 20 22,zl 24 1 23,⟨some 25,.iadA 2 1 (.t 7) (.c (zI 1)),none⟩,zl 26 1 25,⟨some 27,.bls 1 1 [zI 0] [] [(0,(.t 26))],none⟩,⟨some 28,.app 1 8 false (.t 24) (.t 27),none⟩,zi 29 1 17 19,⟨none,.st 1 [] (.t 29) (.t 28),none⟩])))
 (zr [5,11,12,13] [zd 30 .add 13 (zI 1),zm 13 30])))))))
 (zs (zs (zr [5,32,33] [zm 31 5,zn 32 31,zc 33 (zI 0)])
 (.block 2 (.loop (zs (zr [5,32,33,34] [zb 34 .lss 33 32])
 (zs (zC 34 .skip
 (.exit 2))
 (zs (.block 3 (zs (zr [5,8,32,33] [zm 35 33,zm 8 35])
 (zs (zr [5,8,32,33] [zm 36 5,zm 37 8,zi 38 1 36 37,zl 39 1 38,⟨some 40,.callN 366 (.t 39) [],none⟩])
 (zr [5,32,33] [zm 41 5,zm 42 8,zm 43 5,zm 44 8,zi 45 1 43 44,zl 46 1 45,⟨some 47,.callE 523 (.t 46) [],none⟩,zi 48 1 41 42,⟨none,.st 1 [] (.t 48) (.t 47),none⟩]))))
 (zr [5,32,33] [zd 49 .add 33 (zI 1),zm 33 49])))))))
 (zs (zr [4] [zq 50 5,zq 4 50])
 .ret))))) }
def N521 : aw:={ np:=2,nt:=42,res:=[(4,none)],body :=
 (zs (zr [0,1] [zc 4 .nils])
 (zs (zr [0,1,5] [zm 8 0,zn 9 8,⟨some 10,.mks 1 1 [.bool false] (.t 9) (.t 9),none⟩,zq 5 10])
 (zs (zr [0,5,6] [zq 11 1,⟨some 12,.callF 42 [(.t 11)],none⟩,zq 6 12])
 (zs (.block 0 (.loop (zs (zs (zr [0,5,6,15] [zm 13 6,zn 14 13,zd 15 .gtr 14 (zI 0)])
 (zC 15 .skip
 (.exit 0)))
 (.block 1 (zs (zr [0,5,6,7] [zm 16 6,zm 17 6,zn 18 17,zd 19 .sub 18 (zI 1),zi 20 1 16 19,zl 21 1 20,zm 7 21])
 (zs (zr [0,5,6,7] [zm 22 6,zm 23 6,zn 24 23,zd 25 .sub 24 (zI 1),⟨some 26,.slc 1 (.t 22) none (some (.t 25)),none⟩,zq 6 26])
 (zs (zr [0,5,6,7,31] [zm 27 5,zm 28 7,zi 29 1 27 28,zl 30 1 29,zt 31 30])
 (zC 31 (zs (zr [0,5,6,7] [zm 32 5,zm 33 7,zi 34 1 32 33,⟨none,.st 1 [] (.t 34) (.c (.bool true)),none⟩])
 (zr [0,5,6] [zm 35 6,zm 36 0,zm 37 7,zi 38 1 36 37,zl 39 1 38,⟨some 40,.app 1 8 false (.t 35) (.t 39),none⟩,zq 6 40]))
 .skip))))))))
 (zs (zr [4] [zq 41 5,zq 4 41])
 .ret))))) }
def N522 : aw:={ np:=2,nt:=19,res:=[(4,none)],body :=
 (zs (zr [0,1] [zc 4 (zI 0)])
 (zs (zs (zr [0,1,7,8] [zm 6 0,zn 7 6,zc 8 (zI 0)])
 (.block 0 (.loop (zs (zr [0,1,7,8,9] [zb 9 .lss 8 7])
 (zs (zC 9 .skip
 (.exit 0))
 (zs (.block 1 (zs (zr [0,1,5,7,8] [zm 10 8,zm 5 10])
 (zs (zr [0,1,5,7,8,16] [zm 11 1,zm 12 0,zm 13 5,zi 14 2 12 13,zL 15 2 14,⟨some 16,.callv (.t 11) [(.t 15)],none⟩])
 (zC 16 (zs (zr [4] [zm 17 5,zm 4 17])
 .ret)
 .skip))))
 (zr [0,1,7,8] [zd 18 .add 8 (zI 1),zm 8 18])))))))
 (zs (zr [4] [⟨some 4,.mov (.c (zI (-1))),none⟩])
 .ret))) }
def N540 : aw:={ np:=0,nt:=33,res:=[(0,none)],body :=
 (zs (zr [] [zc 0 (.bool false)])
 (zs (zr [1,2] [zk 6 583 [],zk 7 543 [(.t 6),(.c .nils)],zm 5 7,zx 8 0 5,zx 9 1 5,zq 1 8,zm 2 9])
 (zs (zr [1,2,3,4] [zk 11 583 [],zk 12 556 [(.t 11)],zm 10 12,zx 13 0 10,zx 14 1 10,zq 3 13,zm 4 14])
 (zs (zr [0] [zm 15 2,zd 16 .eql 15 (zI 0),zm 17 16,zg 17 true (zq 18 1),zg 17 true (⟨some 19,.bld [zI 0,.str []] [(0,1,(.c (zI 2))),(1,1,(.c (.str [97])))],none⟩),zg 17 true (⟨some 20,.bld [zI 0,.str []] [(0,1,(.c (zI 6))),(1,1,(.c (.str [97])))],none⟩),zg 17 true (⟨some 21,.bls 2 2 [zI 0,.str []] [] [(0,(.t 19)),(1,(.t 20))],none⟩),zg 17 true (zk 22 147 [(.t 18),(.t 21)]),⟨some 23,.pick (.t 17) (.t 22) (.c (.bool false)),none⟩,zm 24 23,zg 24 true (zm 25 4),zg 24 true (zd 26 .eql 25 (zI 0)),⟨some 27,.pick (.t 24) (.t 26) (.c (.bool false)),none⟩,zm 28 27,zg 28 true (zq 29 3),zg 28 true (⟨some 30,.bls 1 1 [.str []] [] [(0,(.c (.str [97])))],none⟩),zg 28 true (zk 31 435 [(.t 29),(.t 30)]),⟨some 32,.pick (.t 28) (.t 31) (.c (.bool false)),none⟩,zm 0 32])
 .ret)))) }
def N541 : aw:={ np:=1,nt:=23,res:=[(2,none)],body :=
 (zs (zr [1] [zo 1 0,zc 2 (.bool false)])
 (zs (zr [2] [zf 3 0 1,zl 4 1 3,zn 5 4,zd 6 .gtr 5 (zI 14),zm 7 6,zg 7 false (zf 8 1 1),zg 7 false (zl 9 1 8),zg 7 false (zn 10 9),zg 7 false (zd 11 .gtr 10 (zI 16)),⟨some 12,.pick (.t 7) (.c (.bool true)) (.t 11),none⟩,zm 13 12,zg 13 false (zf 14 0 1),zg 13 false (zl 15 1 14),zg 13 false (⟨some 16,.call 453 [(.t 15),(.c (.fn 584 []))] [],none⟩),⟨some 17,.pick (.t 13) (.c (.bool true)) (.t 16),none⟩,zm 18 17,zg 18 false (zf 19 1 1),zg 18 false (zl 20 1 19),zg 18 false (⟨some 21,.call 455 [(.t 20),(.c (.fn 585 []))] [],none⟩),⟨some 22,.pick (.t 18) (.c (.bool true)) (.t 21),none⟩,zm 2 22])
 .ret)) }
def N542 : aw:={ np:=1,nt:=10,res:=[(2,none)],body :=
 (zs (zr [0] [zc 2 (.bool false)])
 (zs (zr [2] [zm 3 0,zn 4 3,zd 5 .gtr 4 (zI 8),zm 6 5,zg 6 false (zq 7 0),zg 6 false (⟨some 8,.call 45 [(.t 7),(.c (.fn 586 []))] [],none⟩),⟨some 9,.pick (.t 6) (.c (.bool true)) (.t 8),none⟩,zm 2 9])
 .ret)) }
def N543 : aw:={ np:=2,nt:=18,res:=[(4,none),(5,none)],body :=
 (zs (zr [1,2] [zo 2 0,zc 4 .nils,zc 5 (zI 0)])
 (zs (zs (zr [1,2,10] [zL 7 2 2,zm 8 1,zk 9 587 [(.t 7),(.t 8)],zt 10 9])
 (zC 10 (zs (zr [4,5] [zc 4 .nils,zc 5 (zI 1)])
 .ret)
 .skip))
 (zs (zr [1,2,6] [⟨some 6,.alc [.own 2 []],none⟩])
 (zs (zr [1,2,6] [zL 11 2 2,⟨some 12,.callL 588 (.t 6) [(.t 11)],none⟩])
 (zs (zr [6] [zL 13 2 2,zq 14 1,⟨some 15,.callL 589 (.t 6) [(.t 13),(.t 14)],none⟩])
 (zs (zr [4,5] [zl 16 1 6,⟨some 17,.callE 590 (.t 16) [],none⟩,zq 4 17,zc 5 (zI 0)])
 .ret)))))) }
def N554 : aw:={ np:=2,nt:=9,res:=[(4,none)],body :=
 (zs (zr [0,3] [zo 3 1,zc 4 (.bool false)])
 (zs (zr [4] [zq 5 0,zL 6 2 3,zk 7 599 [(.t 5),(.t 6)],zd 8 .geq 7 (zI 0),zm 4 8])
 .ret)) }
def N556 : aw:={ np:=1,nt:=26,res:=[(2,none),(3,none)],body :=
 (zs (zr [1] [zo 1 0,zc 2 .nils,zc 3 (zI 0)])
 (zs (zs (zr [1,9] [zL 7 2 1,zk 8 164 [(.t 7)],zt 9 8])
 (zC 9 (zs (zr [2,3] [zc 2 .nils,zc 3 (zI 1)])
 .ret)
 .skip))
 (zs (zr [1,4] [⟨some 4,.nilo 1,none⟩])
 (zs (zs (zr [4,11,12,13] [zf 10 1 1,zl 11 1 10,zn 12 11,zc 13 (zI 0)])
 (.block 0 (.loop (zs (zr [4,11,12,13,14] [zb 14 .lss 13 12])
 (zs (zC 14 .skip
 (.exit 0))
 (zs (.block 1 (zs (zr [4,6,11,12,13] [zi 15 11 11 13,zL 16 11 15,⟨some 6,.alc [.str [],.str [],.str [],zI 0,zI 0,zI 0,zI 0,.str [],zI 0,zI 0,.own 2 []],none⟩,⟨none,.st 11 [] (.t 6) (.t 16),none⟩])
 (zs (zr [4,6,11,12,13,18] [zL 17 11 6,zk 18 601 [(.t 17)]])
 (zC 18 (zr [4,11,12,13] [zm 19 4,zf 20 0 6,zl 21 1 20,⟨some 22,.bls 1 1 [.str []] [] [(0,(.t 21))],none⟩,⟨some 23,.app 1 16 false (.t 19) (.t 22),none⟩,zq 4 23])
 .skip))))
 (zr [4,11,12,13] [zd 24 .add 13 (zI 1),zm 13 24])))))))
 (zs (zr [2,3] [zq 25 4,zq 2 25,zc 3 (zI 0)])
 .ret))))) }
def N583 : aw:={ np:=0,nt:=10,res:=[(0,some (2,true))],body :=
 (zs (zr [0] [⟨some 0,.alc [.own 9 [],.own 11 []],none⟩])
 (zs (zr [0] [⟨some 1,.bld [zI 0,zI 0] [],none⟩,⟨some 2,.bld [zI 0,zI 0] [(0,1,(.c (zI 1000))),(1,1,(.c (zI 900)))],none⟩,⟨some 3,.blsF 2 2 [zI 0,zI 0] [(0,(.t 1)),(1,(.t 2))],none⟩,⟨some 4,.bld [.str [],zI 0,zI 0,zI 0,zI 0,zI 0,.nils,.bool false,zI 0] [(0,1,(.c (.str [109]))),(1,1,(.c (zI 1))),(5,1,(.c (zI 1000))),(6,1,(.t 3))],none⟩,⟨some 5,.bld [.str [],zI 0,zI 0,zI 0,zI 0,zI 0,.nils,.bool false,zI 0] [(0,1,(.c (.str [111]))),(1,1,(.c (zI 3))),(5,1,(.c (zI 1000)))],none⟩,⟨some 6,.bls 9 2 [.str [],zI 0,zI 0,zI 0,zI 0,zI 0,.own 2 [],.bool false,zI 0] [] [(0,(.t 4)),(1,(.t 5))],none⟩,⟨some 7,.bld [.str [],.str [],.str [],zI 0,zI 0,zI 0,zI 0,.str [],zI 0,zI 0,.nils] [(0,1,(.c (.str [97]))),(1,1,(.c (.str [109]))),(2,1,(.c (.str [111]))),(3,1,(.c (zI 1))),(4,1,(.c (zI 100))),(5,1,(.c (zI 10))),(6,1,(.c (zI 20))),(7,1,(.c (.str [115])))],none⟩,⟨some 8,.bls 11 1 [.str [],.str [],.str [],zI 0,zI 0,zI 0,zI 0,.str [],zI 0,zI 0,.own 2 []] [] [(0,(.t 7))],none⟩,⟨some 9,.bld [.nils,.nils] [(0,1,(.t 6)),(1,1,(.t 8))],none⟩,⟨none,.st 2 [] (.t 0) (.t 9),none⟩])
 .ret)) }
def N584 : aw:={ np:=1,nt:=13,res:=[(2,none)],body :=
 (zs (zr [1] [zo 1 0,zc 2 (.bool false)])
 (zs (zr [2] [zf 3 6 1,zl 4 1 3,zn 5 4,zd 6 .gtr 5 (zI 20),zm 7 6,zg 7 false (zf 8 0 1),zg 7 false (zl 9 1 8),zg 7 false (⟨some 10,.lens (.t 9),none⟩),zg 7 false (zd 11 .gtr 10 (zI 60)),⟨some 12,.pick (.t 7) (.c (.bool true)) (.t 11),none⟩,zm 2 12])
 .ret)) }
def N585 : aw:={ np:=1,nt:=31,res:=[(2,none)],body :=
 (zs (zr [1] [zo 1 0,zc 2 (.bool false)])
 (zs (zr [2] [zf 3 10 1,zl 4 1 3,zn 5 4,zd 6 .gtr 5 (zI 20),zm 7 6,zg 7 false (zf 8 0 1),zg 7 false (zl 9 1 8),zg 7 false (⟨some 10,.lens (.t 9),none⟩),zg 7 false (zd 11 .gtr 10 (zI 60)),⟨some 12,.pick (.t 7) (.c (.bool true)) (.t 11),none⟩,zm 13 12,zg 13 false (zf 14 1 1),zg 13 false (zl 15 1 14),zg 13 false (⟨some 16,.lens (.t 15),none⟩),zg 13 false (zd 17 .gtr 16 (zI 60)),⟨some 18,.pick (.t 13) (.c (.bool true)) (.t 17),none⟩,zm 19 18,zg 19 false (zf 20 2 1),zg 19 false (zl 21 1 20),zg 19 false (⟨some 22,.lens (.t 21),none⟩),zg 19 false (zd 23 .gtr 22 (zI 60)),⟨some 24,.pick (.t 19) (.c (.bool true)) (.t 23),none⟩,zm 25 24,zg 25 false (zf 26 7 1),zg 25 false (zl 27 1 26),zg 25 false (⟨some 28,.lens (.t 27),none⟩),zg 25 false (zd 29 .gtr 28 (zI 60)),⟨some 30,.pick (.t 25) (.c (.bool true)) (.t 29),none⟩,zm 2 30])
 .ret)) }
def N586 : aw:={ np:=1,nt:=19,res:=[(2,none)],body :=
 (zs (zr [1] [zo 1 0,zc 2 (.bool false)])
 (zs (zr [2] [zf 3 3 1,zl 4 1 3,zn 5 4,zd 6 .gtr 5 (zI 20),zm 7 6,zg 7 false (zf 8 4 1),zg 7 false (zl 9 1 8),zg 7 false (zn 10 9),zg 7 false (zd 11 .gtr 10 (zI 20)),⟨some 12,.pick (.t 7) (.c (.bool true)) (.t 11),none⟩,zm 13 12,zg 13 false (zf 14 0 1),zg 13 false (zl 15 1 14),zg 13 false (⟨some 16,.lens (.t 15),none⟩),zg 13 false (zd 17 .gtr 16 (zI 60)),⟨some 18,.pick (.t 13) (.c (.bool true)) (.t 17),none⟩,zm 2 18])
 .ret)) }
def N587 : aw:={ np:=2,nt:=47,res:=[(4,none)],body :=
 (zs (zr [1,2] [zo 2 0,zc 4 (.bool false)])
 (zs (zs (zr [1,15] [zL 8 2 2,zk 9 164 [(.t 8)],zt 10 9,zm 11 10,zg 11 false (zm 12 1),zg 11 false (zn 13 12),zg 11 false (zd 14 .gtr 13 (zI 40)),⟨some 15,.pick (.t 11) (.c (.bool true)) (.t 14),none⟩])
 (zC 15 (zs (zr [4] [zc 4 (.bool false)])
 .ret)
 .skip))
 (zs (zr [1,5] [⟨some 16,.mkm 0 1,none⟩,zm 5 16])
 (zs (zs (zr [5,17,18,19] [zq 17 1,zn 18 17,zc 19 (zI 0)])
 (.block 0 (.loop (zs (zr [5,17,18,19,20] [zb 20 .lss 19 18])
 (zs (zC 20 .skip
 (.exit 0))
 (zs (.block 1 (zs (zr [5,7,17,18,19] [zi 21 5 17 19,zL 22 5 21,⟨some 7,.alc [.str [],zI 0,zI 0,.own 2 [],.own 2 []],none⟩,⟨none,.st 5 [] (.t 7) (.t 22),none⟩])
 (zs (zs (zr [5,7,17,18,19,42] [zf 23 0 7,zl 24 1 23,zk 25 58 [(.t 24)],zt 26 25,zm 27 26,zg 27 false (zm 28 5),zg 27 false (zf 29 0 7),zg 27 false (zl 30 1 29),zg 27 false (⟨some 31,.mpl .str 0 1 false (.bool false) (.t 28) (.t 30),none⟩),⟨some 32,.pick (.t 27) (.c (.bool true)) (.t 31),none⟩,zm 33 32,zg 33 false (zf 34 1 7),zg 33 false (zl 35 1 34),zg 33 false (zd 36 .lss 35 (zI 1)),⟨some 37,.pick (.t 33) (.c (.bool true)) (.t 36),none⟩,zm 38 37,zg 38 false (zf 39 1 7),zg 38 false (zl 40 1 39),zg 38 false (zd 41 .gtr 40 (zI 32768)),⟨some 42,.pick (.t 38) (.c (.bool true)) (.t 41),none⟩])
 (zC 42 (zs (zr [4] [zc 4 (.bool false)])
 .ret)
 .skip))
 (zr [5,17,18,19] [zm 43 5,zf 44 0 7,zl 45 1 44,⟨none,.mpu .str 0 1 (.bool false) (.t 43) (.t 45) (.c (.bool true)),none⟩]))))
 (zr [5,17,18,19] [zd 46 .add 19 (zI 1),zm 19 46])))))))
 (zs (zr [4] [zc 4 (.bool true)])
 .ret))))) }
def N588 : aw:={ np:=2,nt:=85,res:=[],body :=
 (zs (zr [0,3] [zo 3 1])
 (zs (zr [0,3,4] [zL 12 2 3,zk 13 600 [(.t 12)],zq 4 13])
 (zs (zr [0,3,4,5] [zf 14 0 3,zl 15 1 14,zn 16 15,⟨some 17,.mks 1 1 [.bool false] (.t 16) (.t 16),none⟩,zq 5 17])
 (zs (zs (zr [0,3,4,5,19,20,21] [zL 18 2 3,zk 19 627 [(.t 18)],zn 20 19,zc 21 (zI 0)])
 (.block 0 (.loop (zs (zr [0,3,4,5,19,20,21,22] [zb 22 .lss 21 20])
 (zs (zC 22 .skip
 (.exit 0))
 (zs (.block 1 (zs (zr [0,3,4,5,7,19,20,21] [zi 23 2 19 21,zL 24 2 23,⟨some 7,.alc [zI 0,zI 0],none⟩,⟨none,.st 2 [] (.t 7) (.t 24),none⟩])
 (.reg true [0,0,2,0,0,16,7,71,255,511] [0,3,4,5,19,20,21] [zm 25 5,⟨some 26,.iadA 2 1 (.t 7) (.c (zI 0)),none⟩,zl 27 1 26,zm 28 5,⟨some 29,.iadA 2 1 (.t 7) (.c (zI 1)),none⟩,zl 30 1 29,zi 31 1 25 27,⟨none,.st 1 [] (.t 31) (.c (.bool true)),none⟩,zi 32 1 28 30,⟨none,.st 1 [] (.t 32) (.c (.bool true)),none⟩])))
 (zr [0,3,4,5,19,20,21] [zd 33 .add 21 (zI 1),zm 21 33])))))))
 (zs (zs (zr [0,3,4,5,35,36,37] [zf 34 0 3,zl 35 1 34,zn 36 35,zc 37 (zI 0)])
 (.block 2 (.loop (zs (zr [0,3,4,5,35,36,37,38] [zb 38 .lss 37 36])
 (zs (zC 38 .skip
 (.exit 2))
 (zs (.block 3 (zs (zr [0,3,4,5,8,9,35,36,37] [zm 39 37,zi 40 9 35 37,zL 41 9 40,⟨some 9,.alc [.str [],zI 0,zI 0,zI 0,zI 0,zI 0,.own 2 [],.bool false,zI 0],none⟩,zm 8 39,⟨none,.st 9 [] (.t 9) (.t 41),none⟩])
 (zs (zs (zr [0,3,4,5,8,9,35,36,37,48] [zm 42 4,zm 43 8,zi 44 1 42 43,zl 45 1 44,zm 46 8,zi 47 1 45 46,zl 48 1 47])
 (zC 48 (zr [0,3,4,5,8,9,35,36,37] [zm 49 0,zf 50 0 9,zl 51 1 50,⟨some 52,.callL 628 (.t 49) [(.c (zI 1)),(.t 51)],none⟩])
 .skip))
 (zs (zs (zr [0,3,4,5,8,9,35,36,37,56] [zL 53 2 3,zm 54 4,zm 55 8,zk 56 602 [(.t 53),(.t 54),(.t 55)]])
 (zC 56 (zr [0,3,4,5,8,9,35,36,37] [zm 57 0,zf 58 0 9,zl 59 1 58,⟨some 60,.callL 628 (.t 57) [(.c (zI 3)),(.t 59)],none⟩])
 .skip))
 (zs (zr [0,3,4,5,9,35,36,37,65] [zm 61 5,zm 62 8,zi 63 1 61 62,zl 64 1 63,zt 65 64])
 (zC 65 (zr [0,3,4,5,35,36,37] [zm 66 0,zf 67 0 9,zl 68 1 67,⟨some 69,.callL 628 (.t 66) [(.c (zI 8)),(.t 68)],none⟩])
 .skip))))))
 (zr [0,3,4,5,35,36,37] [zd 70 .add 37 (zI 1),zm 37 70])))))))
 (zs (zr [0,72,73,74] [zf 71 1 3,zl 72 1 71,zn 73 72,zc 74 (zI 0)])
 (.block 4 (.loop (zs (zr [0,72,73,74,75] [zb 75 .lss 74 73])
 (zs (zC 75 .skip
 (.exit 4))
 (zs (.block 5 (zs (zr [0,11,72,73,74] [zi 76 11 72 74,zL 77 11 76,⟨some 11,.alc [.str [],.str [],.str [],zI 0,zI 0,zI 0,zI 0,.str [],zI 0,zI 0,.own 2 []],none⟩,⟨none,.st 11 [] (.t 11) (.t 77),none⟩])
 (zs (zr [0,11,72,73,74,79] [zL 78 11 11,zk 79 601 [(.t 78)]])
 (zC 79 (zr [0,72,73,74] [zm 80 0,zf 81 0 11,zl 82 1 81,⟨some 83,.callL 628 (.t 80) [(.c (zI 2)),(.t 82)],none⟩])
 .skip))))
 (zr [0,72,73,74] [zd 84 .add 74 (zI 1),zm 74 84])))))))))))) }
def N589 : aw:={ np:=3,nt:=193,res:=[],body :=
 (zs (zr [0,2,4] [zo 4 1])
 (zs (zr [0,4,6] [zL 15 2 4,zq 16 2,zk 17 629 [(.t 15),(.t 16)],zq 6 17])
 (zs (zr [0,4,6,7] [zL 18 2 4,zk 19 627 [(.t 18)],zq 7 19])
 (zs (zr [0,4,6,7,21,22,23] [zf 20 1 4,zl 21 1 20,zn 22 21,zc 23 (zI 0)])
 (.block 0 (.loop (zs (zr [0,4,6,7,21,22,23,24] [zb 24 .lss 23 22])
 (zs (zC 24 .skip
 (.exit 0))
 (zs (.block 1 (zs (zr [0,4,6,7,8,9,21,22,23] [zm 25 23,zi 26 11 21 23,zL 27 11 26,⟨some 9,.alc [.str [],.str [],.str [],zI 0,zI 0,zI 0,zI 0,.str [],zI 0,zI 0,.own 2 []],none⟩,zm 8 25,⟨none,.st 11 [] (.t 9) (.t 27),none⟩])
 (zs (.reg true [0,1,0,0,12,28,60,127,255,0,512,0,0,6144,14336,30720,65024,130560,0,0,786943,2097151] [0,4,6,7,8,9,10,11,21,22,23] [zf 28 0 4,zl 29 1 28,zm 30 7,zm 31 8,zi 32 2 30 31,⟨some 33,.iadA 2 1 (.t 32) (.c (zI 0)),none⟩,zl 34 1 33,zi 35 9 29 34,zL 36 9 35,zf 37 0 4,zl 38 1 37,zm 39 7,zm 40 8,zi 41 2 39 40,⟨some 42,.iadA 2 1 (.t 41) (.c (zI 1)),none⟩,zl 43 1 42,zi 44 9 38 43,zL 45 9 44,⟨some 10,.alc [.str [],zI 0,zI 0,zI 0,zI 0,zI 0,.own 2 [],.bool false,zI 0],none⟩,⟨some 11,.alc [.str [],zI 0,zI 0,zI 0,zI 0,zI 0,.own 2 [],.bool false,zI 0],none⟩,⟨none,.st 9 [] (.t 10) (.t 36),none⟩,⟨none,.st 9 [] (.t 11) (.t 45),none⟩])
 (zs (zr [0,4,6,7,8,9,10,11,12,13,21,22,23] [zc 12 (.bool false),zc 13 (.bool false)])
 (zs (zs (zr [0,4,6,7,8,9,10,11,12,13,21,22,23,47] [zf 46 3 9,zl 47 1 46])
 (.block 2 (zs (zr [0,4,6,7,8,9,10,11,12,13,21,22,23,47,48] [zd 49 .eql 47 (zI 1),zm 48 49])
 (zC 48 (zs (zr [0,4,6,7,8,9,10,11,12,21,22,23] [zf 50 5 9,zl 51 1 50,zf 52 4 10,zl 53 1 52,zb 54 .lss 51 53,zm 55 54,zg 55 false (zf 56 6 9),zg 55 false (zl 57 1 56),zg 55 false (zf 58 4 11),zg 55 false (zl 59 1 58),zg 55 false (zb 60 .lss 57 59),⟨some 61,.pick (.t 55) (.c (.bool true)) (.t 60),none⟩,zm 12 61])
 (.reg true [0,0,3,7,15,31,63,127,63,63,831,1855,4095,63,8255,32767,65535,131071,262143,131071,131071,1703935,3801087,8388607,131071,16908287,67108863,134217727,268435455,536870911] [0,4,6,7,8,9,12,13,21,22,23] [zm 62 6,zm 63 8,zi 64 1 62 63,zl 65 1 64,zd 66 .geq 65 (zI 0),zm 67 66,zg 67 true (zf 68 5 9),zg 67 true (zl 69 1 68),zg 67 true (zm 70 6),zg 67 true (zm 71 8),zg 67 true (zi 72 1 70 71),zg 67 true (zl 73 1 72),zg 67 true (zb 74 .add 69 73),zg 67 true (zf 75 5 10),zg 67 true (zl 76 1 75),zg 67 true (zb 77 .gtr 74 76),zg 67 true (zm 78 77),zg 78 false (zf 79 6 9),zg 78 false (zl 80 1 79),zg 78 false (zm 81 6),zg 78 false (zm 82 8),zg 78 false (zi 83 1 81 82),zg 78 false (zl 84 1 83),zg 78 false (zb 85 .add 80 84),zg 78 false (zf 86 5 11),zg 78 false (zl 87 1 86),zg 78 false (zb 88 .gtr 85 87),zg 67 true (⟨some 89,.pick (.t 78) (.c (.bool true)) (.t 88),none⟩),⟨some 90,.pick (.t 67) (.t 89) (.c (.bool false)),none⟩,zm 13 90]))
 (zs (zr [0,4,6,7,8,9,10,12,13,21,22,23,47,91] [zd 92 .eql 47 (zI 2),zm 91 92])
 (zC 91 (.reg true [0,1,0,4,15,0,32,0,128,480,31,2047] [0,4,6,7,8,9,12,13,21,22,23] [zf 93 5 9,zl 94 1 93,zf 95 4 10,zl 96 1 95,zb 97 .lss 94 96,zf 98 5 9,zl 99 1 98,zf 100 5 10,zl 101 1 100,zb 102 .gtr 99 101,zm 12 97,zm 13 102])
 (zs (zr [0,4,6,7,8,9,10,12,13,21,22,23,47,103] [zd 104 .eql 47 (zI 3),zm 103 104])
 (zC 103 (.reg true [0,1,0,4,15,0,32,0,128,480,0,1024,4064,31,16383] [0,4,6,7,8,9,12,13,21,22,23] [zf 105 5 9,zl 106 1 105,zf 107 4 10,zl 108 1 107,zb 109 .lss 106 108,zf 110 5 9,zl 111 1 110,zf 112 9 9,zl 113 1 112,zb 114 .add 111 113,zf 115 5 10,zl 116 1 115,zb 117 .gtr 114 116,zm 12 109,zm 13 117])
 (zs (zr [0,4,6,7,8,9,10,12,13,21,22,23,118] [zd 119 .eql 47 (zI 4),zm 118 119])
 (zC 118 (.reg true [0,1,0,4,15,0,32,0,128,480,31,2047] [0,4,6,7,8,9,12,13,21,22,23] [zf 120 6 9,zl 121 1 120,zf 122 4 10,zl 123 1 122,zb 124 .lss 121 123,zf 125 5 9,zl 126 1 125,zf 127 5 10,zl 128 1 127,zb 129 .gtr 126 128,zm 12 124,zm 13 129])
 .skip))))))))))
 (zs (zs (zr [0,4,6,7,8,9,13,21,22,23,130] [zm 130 12])
 (zC 130 (zr [0,4,6,7,8,9,13,21,22,23] [zm 131 0,zf 132 0 9,zl 133 1 132,⟨some 134,.callL 628 (.t 131) [(.c (zI 4)),(.t 133)],none⟩])
 .skip))
 (zs (zs (zr [0,4,6,7,8,9,21,22,23,135] [zm 135 13])
 (zC 135 (zr [0,4,6,7,8,9,21,22,23] [zm 136 0,zf 137 0 9,zl 138 1 137,⟨some 139,.callL 628 (.t 136) [(.c (zI 5)),(.t 138)],none⟩])
 .skip))
 (zs (zs (zr [0,4,6,7,8,9,21,22,23,149] [zf 140 3 9,zl 141 1 140,zd 142 .eql 141 (zI 1),zm 143 142,zg 143 true (zm 144 6),zg 143 true (zm 145 8),zg 143 true (zi 146 1 144 145),zg 143 true (zl 147 1 146),zg 143 true (zd 148 .lss 147 (zI 0)),⟨some 149,.pick (.t 143) (.t 148) (.c (.bool false)),none⟩])
 (zC 149 (zr [0,4,6,7,8,9,21,22,23] [zm 150 0,zf 151 0 9,zl 152 1 151,⟨some 153,.callL 628 (.t 150) [(.c (zI 6)),(.t 152)],none⟩])
 .skip))
 (zs (zs (zr [0,4,6,7,8,9,21,22,23,158] [zm 154 6,zm 155 8,zi 156 1 154 155,zl 157 1 156,zd 158 .lss 157 (zI 0)])
 (zC 158 (.exit 1)
 .skip))
 (zs (zr [0,4,6,7,8,9,21,22,23,161,162] [zf 159 1 4,zl 160 1 159,zn 161 160,zc 162 (zI 0)])
 (.block 3 (.loop (zs (zr [0,4,6,7,8,9,21,22,23,161,162,163] [zb 163 .lss 162 161])
 (zs (zC 163 .skip
 (.exit 3))
 (zs (.block 4 (zs (zr [0,4,6,7,8,9,14,21,22,23,161,162] [zm 164 162,zm 14 164])
 (zs (.reg true [0,0,3,7,15,0,0,96,224,480,1023,2047,4095,4095,16383,32767,4095,4095,200703,462847,1048575,2097151] [0,4,6,7,8,9,21,22,23,161,162,186] [zm 165 7,zm 166 14,zi 167 2 165 166,⟨some 168,.iadA 2 1 (.t 167) (.c (zI 1)),none⟩,zl 169 1 168,zm 170 7,zm 171 8,zi 172 2 170 171,⟨some 173,.iadA 2 1 (.t 172) (.c (zI 0)),none⟩,zl 174 1 173,zb 175 .eql 169 174,zm 176 175,zg 176 true (zm 177 6),zg 176 true (zm 178 14),zg 176 true (zi 179 1 177 178),zg 176 true (zl 180 1 179),zg 176 true (zm 181 6),zg 176 true (zm 182 8),zg 176 true (zi 183 1 181 182),zg 176 true (zl 184 1 183),zg 176 true (zb 185 .gtr 180 184),⟨some 186,.pick (.t 176) (.t 185) (.c (.bool false)),none⟩])
 (zC 186 (zr [0,4,6,7,8,9,21,22,23,161,162] [zm 187 0,zf 188 0 9,zl 189 1 188,⟨some 190,.callL 628 (.t 187) [(.c (zI 7)),(.t 189)],none⟩])
 .skip))))
 (zr [0,4,6,7,8,9,21,22,23,161,162] [zd 191 .add 162 (zI 1),zm 162 191]))))))))))))))))
 (zr [0,4,6,7,21,22,23] [zd 192 .add 23 (zI 1),zm 23 192])))))))))) }
def N590 : aw:={ np:=1,nt:=7,res:=[(2,none)],body :=
 (zs (zr [0] [zc 2 .nils])
 (zs (zr [0] [zm 3 0,⟨some 4,.callS 630 (.t 3) [(.c (.fn 631 []))],none⟩])
 (zs (zr [2] [zq 5 0,⟨some 6,.callE 633 (.t 5) [],none⟩,zq 2 6])
 .ret))) }
def N599 : aw:={ np:=2,nt:=19,res:=[(4,none)],body :=
 (zs (zr [0,3] [zo 3 1,zc 4 (zI 0)])
 (zs (zs (zr [0,3,7,8] [zm 6 0,zn 7 6,zc 8 (zI 0)])
 (.block 0 (.loop (zs (zr [0,3,7,8,9] [zb 9 .lss 8 7])
 (zs (zC 9 .skip
 (.exit 0))
 (zs (.block 1 (zs (zr [0,3,5,7,8] [zm 10 8,zm 5 10])
 (zs (.reg true [0,0,0,6,14,31] [0,3,5,7,8,16] [zL 11 2 3,zm 12 0,zm 13 5,zi 14 2 12 13,zL 15 2 14,⟨some 16,.beq false [0,2] (.t 11) (.t 15),none⟩])
 (zC 16 (zs (zr [4] [zm 17 5,zm 4 17])
 .ret)
 .skip))))
 (zr [0,3,7,8] [zd 18 .add 8 (zI 1),zm 8 18])))))))
 (zs (zr [4] [⟨some 4,.mov (.c (zI (-1))),none⟩])
 .ret))) }
def N600 : aw:={ np:=1,nt:=77,res:=[(2,none)],body :=
 (zs (zr [1] [zo 1 0,zc 2 .nils])
 (zs (zr [1,3] [zL 12 2 1,zk 13 627 [(.t 12)],zq 3 13])
 (zs (zr [1,3,4] [zf 15 0 1,zl 16 1 15,zn 17 16,zm 18 3,zk 19 635 [(.t 17),(.t 18)],zm 14 19,zx 20 0 14,zx 21 1 14,zq 4 20,zm 5 21])
 (zs (zr [1,3,4,6] [zf 22 0 1,zl 23 1 22,zn 24 23,⟨some 25,.mks 1 24 [.own 1 []] (.t 24) (.t 24),none⟩,zq 6 25])
 (zs (zs (zr [1,3,4,6,27,28] [zm 26 6,zn 27 26,zc 28 (zI 0)])
 (.block 0 (.loop (zs (zr [1,3,4,6,27,28,29] [zb 29 .lss 28 27])
 (zs (zC 29 .skip
 (.exit 0))
 (zs (.block 1 (zs (zr [1,3,4,6,7,27,28] [zm 30 28,zm 7 30])
 (zr [1,3,4,6,27,28] [zm 31 6,zm 32 7,zf 33 0 1,zl 34 1 33,zn 35 34,⟨some 36,.mks 1 1 [.bool false] (.t 35) (.t 35),none⟩,zi 37 1 31 32,⟨none,.st 1 [] (.t 37) (.t 36),none⟩])))
 (zr [1,3,4,6,27,28] [zd 38 .add 28 (zI 1),zm 28 38])))))))
 (zs (zs (zr [4,6,39,40,41] [zq 39 3,zn 40 39,zc 41 (zI 0)])
 (.block 2 (.loop (zs (zr [4,6,39,40,41,42] [zb 42 .lss 41 40])
 (zs (zC 42 .skip
 (.exit 2))
 (zs (.block 3 (zs (zr [4,6,9,39,40,41] [zi 43 2 39 41,zL 44 2 43,⟨some 9,.alc [zI 0,zI 0],none⟩,⟨none,.st 2 [] (.t 9) (.t 44),none⟩])
 (zs (zr [4,6,9,39,40,41,49,50,51] [zm 45 4,⟨some 46,.iadA 2 1 (.t 9) (.c (zI 1)),none⟩,zl 47 1 46,zi 48 1 45 47,zl 49 1 48,zn 50 49,zc 51 (zI 0)])
 (.block 4 (.loop (zs (zr [4,6,9,39,40,41,49,50,51,52] [zb 52 .lss 51 50])
 (zs (zC 52 .skip
 (.exit 4))
 (zs (.block 5 (zs (zr [4,6,9,10,11,39,40,41,49,50,51] [zm 53 51,zi 54 1 49 51,zl 55 1 54,zm 10 53,zm 11 55])
 (.reg true [0,0,2,7,15,0,0,0,128,448,960,0,4032,8128,16320,32704,65472,131071,262143] [4,6,9,39,40,41,49,50,51] [zm 56 6,⟨some 57,.iadA 2 1 (.t 9) (.c (zI 0)),none⟩,zl 58 1 57,zi 59 1 56 58,zl 60 1 59,zm 61 10,zm 62 6,⟨some 63,.iadA 2 1 (.t 9) (.c (zI 0)),none⟩,zl 64 1 63,zi 65 1 62 64,zl 66 1 65,zm 67 10,zi 68 1 66 67,zl 69 1 68,zm 70 69,zg 70 false (zm 71 11),⟨some 72,.pick (.t 70) (.c (.bool true)) (.t 71),none⟩,zi 73 1 60 61,⟨none,.st 1 [] (.t 73) (.t 72),none⟩])))
 (zr [4,6,9,39,40,41,49,50,51] [zd 74 .add 51 (zI 1),zm 51 74])))))))))
 (zr [4,6,39,40,41] [zd 75 .add 41 (zI 1),zm 41 75])))))))
 (zs (zr [2] [zq 76 6,zq 2 76])
 .ret))))))) }
def N601 : aw:={ np:=1,nt:=13,res:=[(2,none)],body :=
 (zs (zr [1] [zo 1 0,zc 2 (.bool false)])
 (zs (zr [2] [zf 3 3 1,zl 4 1 3,zd 5 .eql 4 (zI 1),zm 6 5,zg 6 true (zf 7 5 1),zg 6 true (zl 8 1 7),zg 6 true (zf 9 6 1),zg 6 true (zl 10 1 9),zg 6 true (zb 11 .lss 8 10),⟨some 12,.pick (.t 6) (.t 11) (.c (.bool false)),none⟩,zm 2 12])
 .ret)) }
def N602 : aw:={ np:=3,nt:=37,res:=[(6,none)],body :=
 (zs (zr [1,2,3] [zo 3 0,zc 6 (.bool false)])
 (zs (zs (zr [1,2,3,15] [zf 9 0 3,zl 10 1 9,zm 11 2,zi 12 9 10 11,zf 13 1 12,zl 14 1 13,zd 15 .eql 14 (zI 3)])
 (zC 15 (zs (zr [6] [zc 6 (.bool false)])
 .ret)
 .skip))
 (zs (zs (zr [3,19,20,21] [zq 16 1,zm 17 2,zi 18 1 16 17,zl 19 1 18,zn 20 19,zc 21 (zI 0)])
 (.block 0 (.loop (zs (zr [3,19,20,21,22] [zb 22 .lss 21 20])
 (zs (zC 22 .skip
 (.exit 0))
 (zs (.block 1 (zs (zr [3,7,8,19,20,21] [zm 23 21,zi 24 1 19 21,zl 25 1 24,zm 7 23,zm 8 25])
 (zs (zr [3,19,20,21,35] [zm 26 8,zm 27 26,zg 27 true (zf 28 0 3),zg 27 true (zl 29 1 28),zg 27 true (zm 30 7),zg 27 true (zi 31 9 29 30),zg 27 true (zf 32 1 31),zg 27 true (zl 33 1 32),zg 27 true (zd 34 .eql 33 (zI 3)),⟨some 35,.pick (.t 27) (.t 34) (.c (.bool false)),none⟩])
 (zC 35 (zs (zr [6] [zc 6 (.bool false)])
 .ret)
 .skip))))
 (zr [3,19,20,21] [zd 36 .add 21 (zI 1),zm 21 36])))))))
 (zs (zr [6] [zc 6 (.bool true)])
 .ret)))) }
def N609 : aw:={ np:=1,nt:=8,res:=[(2,none)],body :=
 (zs (zr [0] [zc 2 .nils])
 (zs (zs (zr [0,4] [zm 3 0,⟨some 4,.beq false [9] (.t 3) (.c .nils),none⟩])
 (zC 4 (zs (zr [2] [zc 2 .nils])
 .ret)
 .skip))
 (zs (zr [2] [⟨some 5,.bls 11 0 [.str [],.str [],.str [],zI 0,zI 0,zI 0,zI 0,.str [],zI 0,zI 0,.own 2 []] [] [],none⟩,zq 6 0,⟨some 7,.app 11 136 false (.t 5) (.t 6),none⟩,zq 2 7])
 .ret))) }
def N627 : aw:={ np:=1,nt:=11,res:=[(2,none)],body :=
 (zs (zr [1] [zo 1 0,zc 2 .nils])
 (zs (zr [3] [zL 6 2 1,zk 7 471 [(.t 6)],zm 5 7,zx 8 0 5,zx 9 1 5,zq 3 8,zm 4 9])
 (zs (zr [2] [zq 10 3,zq 2 10])
 .ret))) }
def N628 : aw:={ np:=3,nt:=16,res:=[],body :=
 (zr [0] [zm 6 0,zm 7 0,⟨some 8,.nck (.t 7),none⟩,zl 9 1 8,zm 10 1,zm 11 2,⟨some 12,.bld [zI 0,.str []] [(0,1,(.t 10)),(1,1,(.t 11))],none⟩,⟨some 13,.bls 2 1 [zI 0,.str []] [] [(0,(.t 12))],none⟩,⟨some 14,.app 2 24 false (.t 9) (.t 13),none⟩,⟨some 15,.nck (.t 6),none⟩,⟨none,.st 1 [] (.t 15) (.t 14),none⟩]) }
def N629 : aw:={ np:=2,nt:=42,res:=[(4,none)],body :=
 (zs (zr [1,2] [zo 2 0,zc 4 .nils])
 (zs (zr [1,2,5] [zf 9 1 2,zl 10 1 9,zn 11 10,⟨some 12,.mks 1 8 [zI 0] (.t 11) (.t 11),none⟩,zq 5 12])
 (zs (zs (zr [1,5,14,15,16] [zf 13 1 2,zl 14 1 13,zn 15 14,zc 16 (zI 0)])
 (.block 0 (.loop (zs (zr [1,5,14,15,16,17] [zb 17 .lss 16 15])
 (zs (zC 17 .skip
 (.exit 0))
 (zs (.block 1 (zs (zr [1,5,6,7,14,15,16] [zm 18 16,zi 19 11 14 16,zL 20 11 19,⟨some 7,.alc [.str [],.str [],.str [],zI 0,zI 0,zI 0,zI 0,.str [],zI 0,zI 0,.own 2 []],none⟩,zm 6 18,⟨none,.st 11 [] (.t 7) (.t 20),none⟩])
 (zs (zr [1,5,6,7,14,15,16] [zm 21 5,zm 22 6,zi 23 1 21 22,⟨none,.st 1 [] (.t 23) (.c (zI (-1))),none⟩])
 (zs (zs (zr [1,5,6,7,14,15,16,26] [zf 24 3 7,zl 25 1 24,zd 26 .neq 25 (zI 1)])
 (zC 26 (.exit 1)
 .skip))
 (zs (zr [1,5,6,8,14,15,16] [zm 27 1,⟨some 28,.mk 647 [(.t 7)],none⟩,zk 29 52 [(.t 27),(.t 28)],zm 8 29])
 (zs (zr [1,5,6,8,14,15,16,31] [zm 30 8,zd 31 .geq 30 (zI 0)])
 (zC 31 (zr [1,5,14,15,16] [zm 32 5,zm 33 6,zm 34 1,zm 35 8,zi 36 5 34 35,zf 37 1 36,zl 38 1 37,zi 39 1 32 33,⟨none,.st 1 [] (.t 39) (.t 38),none⟩])
 .skip)))))))
 (zr [1,5,14,15,16] [zd 40 .add 16 (zI 1),zm 16 40])))))))
 (zs (zr [4] [zq 41 5,zq 4 41])
 .ret)))) }
def N631 : aw:={ np:=2,nt:=17,res:=[(4,none)],body :=
 (zs (zr [2,3] [zo 2 0,zo 3 1,zc 4 (zI 0)])
 (zs (.reg true [0,1,0,4,15,0,32,0,128,511,1023,2047,4095] [4] [zf 5 0 2,zl 6 1 5,zf 7 0 3,zl 8 1 7,zk 9 267 [(.t 6),(.t 8)],zf 10 1 2,zl 11 1 10,zf 12 1 3,zl 13 1 12,zk 14 632 [(.t 11),(.t 13)],⟨some 15,.bls 1 2 [zI 0] [] [(0,(.t 9)),(1,(.t 14))],none⟩,zk 16 266 [(.t 15)],zm 4 16])
 .ret)) }
def N633 : aw:={ np:=1,nt:=61,res:=[(2,none)],body :=
 (zs (zr [0] [zc 2 .nils])
 (zs (zs (zr [0,8] [zm 6 0,zn 7 6,zd 8 .lss 7 (zI 2)])
 (zC 8 (zs (zr [2] [zq 9 0,zq 2 9])
 .ret)
 .skip))
 (zs (zs (zr [0,3] [zc 3 (zI 1)])
 (.block 0 (.loop (zs (zs (zr [0,3,13] [zm 10 3,zm 11 0,zn 12 11,zb 13 .lss 10 12])
 (zC 13 .skip
 (.exit 0)))
 (zs (.block 1 (zs (.reg true [0,0,3,7,0,0,32,112,240,511] [0,3,25] [zm 16 0,zm 17 3,zi 18 2 16 17,zL 19 2 18,zm 20 0,zm 21 3,zd 22 .sub 21 (zI 1),zi 23 2 20 22,zL 24 2 23,⟨some 25,.beq false [0,2] (.t 19) (.t 24),none⟩])
 (zC 25 (zs (zr [0,3,4] [zm 26 0,zm 27 3,⟨some 28,.slc 2 (.t 26) (some (.t 27)) none,none⟩,zm 4 28])
 (zs (zs (zr [0,3,4,5] [zc 5 (zI 1)])
 (.block 2 (.loop (zs (zs (zr [0,3,4,5,32] [zm 29 5,zm 30 4,zn 31 30,zb 32 .lss 29 31])
 (zC 32 .skip
 (.exit 2)))
 (zs (.block 3 (zs (.reg true [0,0,3,7,0,0,32,112,240,511] [0,3,4,5,44] [zm 35 4,zm 36 5,zi 37 2 35 36,zL 38 2 37,zm 39 4,zm 40 5,zd 41 .sub 40 (zI 1),zi 42 2 39 41,zL 43 2 42,⟨some 44,.beq true [0,2] (.t 38) (.t 43),none⟩])
 (zC 44 (zs (zr [0,3,4,5] [zm 45 0,zm 46 3,zm 47 4,zm 48 5,zi 49 2 47 48,zL 50 2 49,zi 51 2 45 46,⟨none,.st 2 [] (.t 51) (.t 50),none⟩])
 (zr [0,3,4,5] [zm 52 3,zd 53 .add 52 (zI 1),zm 3 53]))
 .skip)))
 (zr [0,3,4,5] [zm 33 5,zd 34 .add 33 (zI 1),zm 5 34]))))))
 (zs (zr [0,3] [zm 54 0,zm 55 3,⟨some 56,.slc 2 (.t 54) (some (.t 55)) none,none⟩,⟨none,.clr [zI 0,.str []] (.t 56),none⟩])
 (zs (zr [2] [zq 57 0,zm 58 3,⟨some 59,.slc 2 (.t 57) none (some (.t 58)),none⟩,zq 2 59])
 .ret))))
 .skip)))
 (zr [0,3] [zm 14 3,zd 15 .add 14 (zI 1),zm 3 15]))))))
 (zs (zr [2] [zq 60 0,zq 2 60])
 .ret)))) }
def N635 : aw:={ np:=2,nt:=29,res:=[(4,none),(5,none)],body :=
 (zs (zr [0,1] [zc 4 .nils,zc 5 (zI 0)])
 (zs (zs (zr [0,1,12] [zm 9 0,zm 10 1,zk 11 503 [(.t 9),(.t 10)],zt 12 11])
 (zC 12 (zs (zr [4,5] [zc 4 .nils,zc 5 (zI 1)])
 .ret)
 .skip))
 (zs (zr [0,6] [zm 13 0,zq 14 1,zk 15 517 [(.t 13),(.t 14)],zq 6 15])
 (zs (zr [0,6,7] [⟨some 7,.nilo 1,none⟩])
 (zs (zs (zr [6,7,16,17] [zm 16 0,zc 17 (zI 0)])
 (.block 0 (.loop (zs (zr [6,7,16,17,18] [zb 18 .lss 17 16])
 (zs (zC 18 .skip
 (.exit 0))
 (zs (.block 1 (zs (zr [6,7,8,16,17] [zm 19 17,zm 8 19])
 (zr [6,7,16,17] [zm 20 7,zm 21 6,zm 22 8,⟨some 23,.blsF 1 1 [zI 0] [(0,(.t 22))],none⟩,zk 24 521 [(.t 21),(.t 23)],⟨some 25,.bls 1 1 [.own 1 []] [] [(0,(.t 24))],none⟩,⟨some 26,.app 1 24 true (.t 20) (.t 25),none⟩,zq 7 26])))
 (zr [6,7,16,17] [zd 27 .add 17 (zI 1),zm 17 27])))))))
 (zs (zr [4,5] [zq 28 7,zq 4 28,zc 5 (zI 0)])
 .ret)))))) }
def N647 : aw:={ np:=2,nt:=9,res:=[(3,none)],body :=
 (zs (zr [1,2] [zo 2 0,zc 3 (.bool false)])
 (zs (zr [3] [zf 4 0 2,zl 5 1 4,zf 6 7 1,zl 7 1 6,zb 8 .eql 5 7,zm 3 8])
 .ret)) }
def N663 : aw:={ np:=6,nt:=195,res:=[(12,none)],body :=
 (zs (zr [1,2,4,5,6,9] [zo 6 0,zo 9 3,zc 12 (.bool false)])
 (zs (zs (zr [1,2,4,5,6,9,26] [zk 25 540 [],zt 26 25])
 (zC 26 (zs (zr [12] [zc 12 (.bool false)])
 .ret)
 .skip))
 (zs (zs (zr [1,2,4,5,6,9,36] [zL 27 2 6,zk 28 541 [(.t 27)],zm 29 28,zg 29 false (zm 30 1),zg 29 false (zk 31 542 [(.t 30)]),⟨some 32,.pick (.t 29) (.c (.bool true)) (.t 31),none⟩,zm 33 32,zg 33 false (zL 34 2 9),zg 33 false (zk 35 664 [(.t 34)]),⟨some 36,.pick (.t 33) (.c (.bool true)) (.t 35),none⟩])
 (zC 36 (zs (zr [12] [zc 12 (.bool true)])
 .ret)
 .skip))
 (zs (zr [1,2,4,5,6,9,13,14] [zL 38 2 6,zm 39 1,zk 40 543 [(.t 38),(.t 39)],zm 37 40,zx 41 0 37,zx 42 1 37,zq 13 41,zm 14 42])
 (zs (.reg true [0,1,3,0,8,31,63,0,255] [1,2,4,5,6,9,13,14,15] [zf 43 0 6,zl 44 1 43,⟨some 45,.callA 667 [(.t 44)],none⟩,zf 46 1 6,zl 47 1 46,⟨some 48,.callA 609 [(.t 47)],none⟩,⟨some 49,.bld [.nils,.nils] [(0,1,(.t 45)),(1,1,(.t 48))],none⟩,⟨some 15,.alc [.own 9 [],.own 11 []],none⟩,⟨none,.st 2 [9,11] (.t 15) (.t 49),none⟩])
 (zs (zs (zr [1,2,4,5,6,9,13,14,15,52,53] [zf 50 0 15,zl 51 1 50,zn 52 51,zc 53 (zI 0)])
 (.block 0 (.loop (zs (zr [1,2,4,5,6,9,13,14,15,52,53,54] [zb 54 .lss 53 52])
 (zs (zC 54 .skip
 (.exit 0))
 (zs (.block 1 (zs (zr [1,2,4,5,6,9,13,14,15,16,52,53] [zm 55 53,zm 16 55])
 (zs (zr [1,2,4,5,6,9,13,14,15,16,52,53] [zf 56 0 15,zl 57 1 56,zm 58 16,zi 59 9 57 58,zf 60 4 59,zl 61 1 60,zm 62 2,⟨some 63,.conv .i64 (.t 62),none⟩,zb 64 .add 61 63,zi 65 9 57 58,zf 66 4 65,⟨none,.st 1 [] (.t 66) (.t 64),none⟩])
 (zr [1,2,4,5,6,9,13,14,15,52,53] [zf 67 0 15,zl 68 1 67,zm 69 16,zi 70 9 68 69,zf 71 5 70,zl 72 1 71,zm 73 2,⟨some 74,.conv .i64 (.t 73),none⟩,zb 75 .add 72 74,zi 76 9 68 69,zf 77 5 76,⟨none,.st 1 [] (.t 77) (.t 75),none⟩]))))
 (zr [1,2,4,5,6,9,13,14,15,52,53] [zd 78 .add 53 (zI 1),zm 53 78])))))))
 (zs (zs (zr [1,2,4,5,6,9,13,14,15,81,82] [zf 79 1 15,zl 80 1 79,zn 81 80,zc 82 (zI 0)])
 (.block 2 (.loop (zs (zr [1,2,4,5,6,9,13,14,15,81,82,83] [zb 83 .lss 82 81])
 (zs (zC 83 .skip
 (.exit 2))
 (zs (.block 3 (zs (zr [1,2,4,5,6,9,13,14,15,17,81,82] [zm 84 82,zm 17 84])
 (zs (zr [1,2,4,5,6,9,13,14,15,17,81,82] [zf 85 1 15,zl 86 1 85,zm 87 17,zi 88 11 86 87,zf 89 5 88,zl 90 1 89,zm 91 2,⟨some 92,.conv .i64 (.t 91),none⟩,zb 93 .add 90 92,zi 94 11 86 87,zf 95 5 94,⟨none,.st 1 [] (.t 95) (.t 93),none⟩])
 (zs (zr [1,2,4,5,6,9,13,14,15,17,18,81,82] [zf 96 1 15,zl 97 1 96,zm 98 17,zi 99 11 97 98,zf 100 3 99,zl 101 1 100,zm 18 101])
 (zs (zr [1,2,4,5,6,9,13,14,15,17,81,82,107] [zm 102 18,zd 103 .eql 102 (zI 1),zm 104 103,zg 104 false (zm 105 18),zg 104 false (zd 106 .eql 105 (zI 4)),⟨some 107,.pick (.t 104) (.c (.bool true)) (.t 106),none⟩])
 (zC 107 (zr [1,2,4,5,6,9,13,14,15,81,82] [zf 108 1 15,zl 109 1 108,zm 110 17,zi 111 11 109 110,zf 112 6 111,zl 113 1 112,zm 114 2,⟨some 115,.conv .i64 (.t 114),none⟩,zb 116 .add 113 115,zi 117 11 109 110,zf 118 6 117,⟨none,.st 1 [] (.t 118) (.t 116),none⟩])
 .skip))))))
 (zr [1,2,4,5,6,9,13,14,15,81,82] [zd 119 .add 82 (zI 1),zm 82 119])))))))
 (zs (zs (zr [1,4,5,6,9,13,14,15,125] [zL 120 2 6,zk 121 164 [(.t 120)],zm 122 121,zg 122 true (zL 123 2 15),zg 122 true (zk 124 164 [(.t 123)]),⟨some 125,.pick (.t 122) (.t 124) (.c (.bool false)),none⟩])
 (zC 125 (zs (zr [4,5,6,9,13,14,19,20] [⟨some 127,.ldF 2 (.t 15),none⟩,zq 128 1,zk 129 543 [(.t 127),(.t 128)],zm 126 129,zx 130 0 126,zx 131 1 126,zq 19 130,zm 20 131])
 (zs (zr [4,5,6,9,140] [zm 132 14,zm 133 20,zb 134 .neq 132 133,zm 135 134,zg 135 false (zq 136 13),zg 135 false (zq 137 19),zg 135 false (zk 138 147 [(.t 136),(.t 137)]),zg 135 false (zt 139 138),⟨some 140,.pick (.t 135) (.c (.bool true)) (.t 139),none⟩])
 (zC 140 (zs (zr [12] [zc 12 (.bool false)])
 .ret)
 .skip)))
 .skip))
 (zs (zs (zr [4,5,6,9,154] [zm 141 5,zd 142 .lss 141 (zI 0),zm 143 142,zg 143 false (zm 144 5),zg 143 false (zd 145 .gtr 144 (zI 4194304)),⟨some 146,.pick (.t 143) (.c (.bool true)) (.t 145),none⟩,zm 147 146,zg 147 false (zm 148 4),zg 147 false (zd 149 .lss 148 (zI 0)),⟨some 150,.pick (.t 147) (.c (.bool true)) (.t 149),none⟩,zm 151 150,zg 151 false (zm 152 4),zg 151 false (zd 153 .gtr 152 (zI 4194304)),⟨some 154,.pick (.t 151) (.c (.bool true)) (.t 153),none⟩])
 (zC 154 (zs (zr [12] [zc 12 (.bool true)])
 .ret)
 .skip))
 (zs (zr [4,5,6,9,21,22] [zL 156 2 6,zL 157 2 9,zm 158 4,zk 159 665 [(.t 156),(.t 157),(.t 158)],zm 155 159,zx 160 0 155,zx 161 1 155,⟨some 21,.alc [.own 2 []],none⟩,⟨none,.st 1 [] (.t 21) (.t 160),none⟩,zm 22 161])
 (zs (zr [21,22,23,24] [zL 163 2 6,zL 164 2 9,zm 165 4,zm 166 5,zb 167 .add 165 166,zk 168 665 [(.t 163),(.t 164),(.t 167)],zm 162 168,zx 169 0 162,zx 170 1 162,zq 23 169,zm 24 170])
 (zs (zs (zr [21,22,23,176] [zm 171 22,zd 172 .neq 171 (zI 0),zm 173 172,zg 173 false (zm 174 24),zg 173 false (zd 175 .neq 174 (zI 0)),⟨some 176,.pick (.t 173) (.c (.bool true)) (.t 175),none⟩])
 (zC 176 (zs (zr [12] [zm 177 22,zd 178 .eql 177 (zI 0),zm 179 178,zg 179 false (zl 180 1 21),zg 179 false (zn 181 180),zg 179 false (zd 182 .eql 181 (zI 0)),⟨some 183,.pick (.t 179) (.c (.bool true)) (.t 182),none⟩,zm 12 183])
 .ret)
 .skip))
 (zs (zr [12] [zm 184 23,zn 185 184,zl 186 1 21,zn 187 186,zb 188 .leq 185 187,zm 189 188,zg 189 true (zq 190 23),zg 189 true (⟨some 191,.mk 668 [(.t 21)],none⟩),zg 189 true (zk 192 125 [(.t 190),(.t 191)]),zg 189 true (zt 193 192),⟨some 194,.pick (.t 189) (.t 193) (.c (.bool false)),none⟩,zm 12 194])
 .ret))))))))))))) }
def N664 : aw:={ np:=1,nt:=13,res:=[(2,none)],body :=
 (zs (zr [1] [zo 1 0,zc 2 (.bool false)])
 (zs (zr [2] [zf 3 0 1,zl 4 1 3,zn 5 4,zd 6 .gtr 5 (zI 40),zm 7 6,zg 7 false (zf 8 1 1),zg 7 false (zl 9 1 8),zg 7 false (zn 10 9),zg 7 false (zd 11 .gtr 10 (zI 60)),⟨some 12,.pick (.t 7) (.c (.bool true)) (.t 11),none⟩,zm 2 12])
 .ret)) }
def N665 : aw:={ np:=3,nt:=70,res:=[(6,none),(7,none)],body :=
 (zs (zr [2,3,4] [zo 3 0,zo 4 1,zc 6 .nils,zc 7 (zI 0)])
 (zs (zs (zr [2,3,4,20] [zL 13 2 3,zk 14 164 [(.t 13)],zt 15 14,zm 16 15,zg 16 false (zL 17 2 4),zg 16 false (zk 18 234 [(.t 17)]),zg 16 false (zt 19 18),⟨some 20,.pick (.t 16) (.c (.bool true)) (.t 19),none⟩])
 (zC 20 (zs (zr [6,7] [zc 6 .nils,zc 7 (zI 1)])
 .ret)
 .skip))
 (zs (zs (zr [2,3,4,26] [zm 21 2,zd 22 .lss 21 (zI 0),zm 23 22,zg 23 false (zm 24 2),zg 23 false (zd 25 .gtr 24 (zI 4194304)),⟨some 26,.pick (.t 23) (.c (.bool true)) (.t 25),none⟩])
 (zC 26 (zs (zr [6,7] [zc 6 .nils,zc 7 (zI 2)])
 .ret)
 .skip))
 (zs (zr [2,3,4,8] [⟨some 8,.alc [.own 2 []],none⟩])
 (zs (zs (zr [2,4,8,28,29,30] [zf 27 0 3,zl 28 1 27,zn 29 28,zc 30 (zI 0)])
 (.block 0 (.loop (zs (zr [2,4,8,28,29,30,31] [zb 31 .lss 30 29])
 (zs (zC 31 .skip
 (.exit 0))
 (zs (.block 1 (zs (zr [2,4,8,10,28,29,30] [zi 32 9 28 30,zL 33 9 32,⟨some 10,.alc [.str [],zI 0,zI 0,zI 0,zI 0,zI 0,.own 2 [],.bool false,zI 0],none⟩,⟨none,.st 9 [] (.t 10) (.t 33),none⟩])
 (zs (zr [2,4,8,10,11,12,28,29,30] [zL 35 2 4,zf 36 2 10,zL 37 2 36,zk 38 233 [(.t 35),(.t 37)],zm 34 38,zx 39 0 34,zx 40 1 34,⟨some 11,.alc [zI 0,zI 0],none⟩,⟨none,.st 2 [] (.t 11) (.t 39),none⟩,zm 12 40])
 (.block 2 (zs (zr [2,4,8,10,11,28,29,30,41] [zm 42 12,zd 43 .neq 42 (zI 0),zm 41 43])
 (zC 41 (zr [2,4,8,28,29,30] [zf 44 0 10,zl 45 1 44,⟨some 46,.callL 628 (.t 8) [(.c (zI 10)),(.t 45)],none⟩])
 (zs (zr [2,4,8,10,28,29,30,47] [zf 48 5 10,zl 49 1 48,zf 50 0 11,zl 51 1 50,zm 52 2,zb 53 .sub 51 52,zb 54 .lss 49 53,zm 55 54,zg 55 false (zf 56 5 10),zg 55 false (zl 57 1 56),zg 55 false (zf 58 1 11),zg 55 false (zl 59 1 58),zg 55 false (zm 60 2),zg 55 false (zb 61 .add 59 60),zg 55 false (zb 62 .gtr 57 61),⟨some 63,.pick (.t 55) (.c (.bool true)) (.t 62),none⟩,zm 47 63])
 (zC 47 (zr [2,4,8,28,29,30] [zf 64 0 10,zl 65 1 64,⟨some 66,.callL 628 (.t 8) [(.c (zI 9)),(.t 65)],none⟩])
 .skip))))))))
 (zr [2,4,8,28,29,30] [zd 67 .add 30 (zI 1),zm 30 67])))))))
 (zs (zr [6,7] [zl 68 1 8,⟨some 69,.callE 590 (.t 68) [],none⟩,zq 6 69,zc 7 (zI 0)])
 .ret)))))) }
def N667 : aw:={ np:=1,nt:=8,res:=[(2,none)],body :=
 (zs (zr [0] [zc 2 .nils])
 (zs (zs (zr [0,4] [zm 3 0,⟨some 4,.beq false [9] (.t 3) (.c .nils),none⟩])
 (zC 4 (zs (zr [2] [zc 2 .nils])
 .ret)
 .skip))
 (zs (zr [2] [⟨some 5,.bls 9 0 [.str [],zI 0,zI 0,zI 0,zI 0,zI 0,.own 2 [],.bool false,zI 0] [] [],none⟩,zq 6 0,⟨some 7,.app 9 96 false (.t 5) (.t 6),none⟩,zq 2 7])
 .ret))) }
def N668 : aw:={ np:=2,nt:=8,res:=[(3,none)],body :=
 (zs (zr [1,2] [zo 2 0,zc 3 (.bool false)])
 (zs (zr [3] [zl 4 1 1,zL 5 2 2,zk 6 554 [(.t 4),(.t 5)],zt 7 6,zm 3 7])
 .ret)) }
def prog : Nat -> Option aw
 | 11=>some N11
 | 35=>some N35
 | 42=>some N42
 | 45=>some N45
 | 52=>some N52
 | 58=>some N58
 | 70=>some N70
 | 71=>some N71
 | 72=>some N72
 | 88=>some N88
 | 89=>some N89
 | 91=>some N91
 | 92=>some N92
 | 99=>some N99
 | 102=>some N102
 | 103=>some N103
 | 104=>some N104
 | 105=>some N105
 | 106=>some N106
 | 107=>some N107
 | 108=>some N108
 | 110=>some N110
 | 111=>some N111
 | 112=>some N112
 | 113=>some N113
 | 125=>some N125
 | 129=>some N129
 | 147=>some N147
 | 164=>some N164
 | 168=>some N168
 | 169=>some N169
 | 170=>some N170
 | 171=>some N171
 | 172=>some N172
 | 173=>some N173
 | 174=>some N174
 | 175=>some N175
 | 176=>some N176
 | 177=>some N177
 | 178=>some N178
 | 179=>some N179
 | 180=>some N180
 | 181=>some N181
 | 182=>some N182
 | 183=>some N183
 | 184=>some N184
 | 185=>some N185
 | 233=>some N233
 | 234=>some N234
 | 239=>some N239
 | 266=>some N266
 | 267=>some N267
 | 269=>some N269
 | 271=>some N271
 | 272=>some N272
 | 273=>some N273
 | 274=>some N274
 | 275=>some N275
 | 276=>some N276
 | 278=>some N278
 | 284=>some N284
 | 298=>some N298
 | 299=>some N299
 | 300=>some N300
 | 301=>some N301
 | 302=>some N302
 | 303=>some N303
 | 304=>some N304
 | 305=>some N305
 | 306=>some N306
 | 307=>some N307
 | 308=>some N308
 | 309=>some N309
 | 310=>some N310
 | 311=>some N311
 | 312=>some N312
 | 313=>some N313
 | 319=>some N319
 | 320=>some N320
 | 321=>some N321
 | 327=>some N327
 | 328=>some N328
 | 435=>some N435
 | 453=>some N453
 | 455=>some N455
 | 471=>some N471
 | 499=>some N499
 | 503=>some N503
 | 514=>some N514
 | 515=>some N515
 | 516=>some N516
 | 517=>some N517
 | 521=>some N521
 | 522=>some N522
 | 540=>some N540
 | 541=>some N541
 | 542=>some N542
 | 543=>some N543
 | 554=>some N554
 | 556=>some N556
 | 583=>some N583
 | 584=>some N584
 | 585=>some N585
 | 586=>some N586
 | 587=>some N587
 | 588=>some N588
 | 589=>some N589
 | 590=>some N590
 | 599=>some N599
 | 600=>some N600
 | 601=>some N601
 | 602=>some N602
 | 609=>some N609
 | 627=>some N627
 | 628=>some N628
 | 629=>some N629
 | 631=>some N631
 | 633=>some N633
 | 635=>some N635
 | 647=>some N647
 | 663=>some N663
 | 664=>some N664
 | 665=>some N665
 | 667=>some N667
 | 668=>some N668
 | _=>none
end Go.Gv
