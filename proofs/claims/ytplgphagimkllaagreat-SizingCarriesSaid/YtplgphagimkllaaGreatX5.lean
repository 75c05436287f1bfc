/-
  Texts of the proof: GvP.
-/
import Derived.Test.YtplgphagimkllaaGreatX4
set_option linter.all false
set_option maxRecDepth 4000
namespace Go.Gv
@[simp] def zr (k : List Nat) (o : List ap) : dw:=.reg false [] k o
@[simp] def zI (n : Int) : D:=.int .i64 n
@[simp] def zC (t : Nat) (a b : dw) : dw:=.cond (.t t) a b
@[simp] def zs (a b : dw) : dw:=.seq a b
@[simp] def zm (a b : Nat) : ap:=⟨some a,.mov (.t b),none⟩
@[simp] def zc (a : Nat) (d : D) : ap:=⟨some a,.mov (.c d),none⟩
@[simp] def zf (a i b : Nat) : ap:=⟨some a,.fad i (.t b),none⟩
@[simp] def zl (a n b : Nat) : ap:=⟨some a,.ld n false (.t b),none⟩
@[simp] def zL (a n b : Nat) : ap:=⟨some a,.ld n true (.t b),none⟩
@[simp] def zx (a i b : Nat) : ap:=⟨some a,.ext i (.t b),none⟩
@[simp] def zn (a b : Nat) : ap:=⟨some a,.len (.t b),none⟩
@[simp] def zq (a b : Nat) : ap:=⟨some a,.asg (.t b),none⟩
@[simp] def zi (a n b c : Nat) : ap:=⟨some a,.iadS n (.t b) (.t c),none⟩
@[simp] def zo (a b : Nat) : ap:=⟨some a,.boxF (.t b),none⟩
@[simp] def zt (a b : Nat) : ap:=⟨some a,.un .not (.t b),none⟩
@[simp] def zk (a g : Nat) (xs : List Opd) : ap:=⟨some a,.call g xs [],none⟩
@[simp] def zb (a : Nat) (op : BinOp) (b c : Nat) : ap:=⟨some a,.bin op (.t b) (.t c),none⟩
@[simp] def zd (a : Nat) (op : BinOp) (b : Nat) (d : D) : ap:=⟨some a,.bin op (.t b) (.c d),none⟩
@[simp] def zg (c : Nat) (b : Bool) (s : ap) : ap:=⟨s.dst,s.op,some (c,b)⟩
def N3 : aw:={ np:=0,nt:=47,res:=[(0,none)],body :=
 (zs (zr [] [zc 0 (.bool false)])
 (zs (zr [1,2,3] [zk 8 23 [(.c (zI 400))],zk 9 15 [(.t 8)],zm 7 9,zx 10 0 7,zx 11 1 7,zx 12 2 7,zm 1 10,zq 2 11,zm 3 12])
 (zs (zr [1,2,3,4,5,6] [zk 14 23 [(.c (zI 250))],zk 15 15 [(.t 14)],zm 13 15,zx 16 0 13,zx 17 1 13,zx 18 2 13,zm 4 16,zq 5 17,zm 6 18])
 (zs (zr [0] [zm 19 3,zd 20 .eql 19 (zI 0),zm 21 20,zg 21 true (zm 22 1),zg 21 true (zd 23 .eql 22 (zI 8000)),⟨some 24,.pick (.t 21) (.t 23) (.c (.bool false)),none⟩,zm 25 24,zg 25 true (zq 26 2),zg 25 true (⟨some 27,.bls 1 2 [zI 0] [] [(0,(.c (zI 1))),(1,(.c (zI 1)))],none⟩),zg 25 true (zk 28 19 [(.t 26),(.t 27)]),⟨some 29,.pick (.t 25) (.t 28) (.c (.bool false)),none⟩,zm 30 29,zg 30 true (zm 31 6),zg 30 true (zd 32 .eql 31 (zI 0)),⟨some 33,.pick (.t 30) (.t 32) (.c (.bool false)),none⟩,zm 34 33,zg 34 true (zm 35 4),zg 34 true (zd 36 .eql 35 (zI 9000)),⟨some 37,.pick (.t 34) (.t 36) (.c (.bool false)),none⟩,zm 38 37,zg 38 true (zq 39 5),zg 38 true (⟨some 40,.bls 1 2 [zI 0] [] [(0,(.c (zI 0))),(1,(.c (zI 1)))],none⟩),zg 38 true (zk 41 19 [(.t 39),(.t 40)]),⟨some 42,.pick (.t 38) (.t 41) (.c (.bool false)),none⟩,zm 43 42,zg 43 true (zk 44 23 [(.c (zI 1))]),zg 43 true (zk 45 24 [(.t 44)]),⟨some 46,.pick (.t 43) (.t 45) (.c (.bool false)),none⟩,zm 0 46])
 .ret)))) }
def N11 : aw:={ np:=2,nt:=9,res:=[(4,none)],body :=
 (zs (zr [0,1] [zc 4 (.bool false)])
 (zs (zr [4] [zq 5 0,zm 6 1,zk 7 35 [(.t 5),(.t 6)],zd 8 .geq 7 (zI 0),zm 4 8])
 .ret)) }
def N15 : aw:={ np:=1,nt:=67,res:=[(2,none),(3,none),(4,none)],body :=
 (zs (zr [1] [zo 1 0,zc 2 (zI 0),zc 3 .nils,zc 4 (zI 0)])
 (zs (zs (zr [1,14] [zL 12 6 1,zk 13 24 [(.t 12)],zt 14 13])
 (zC 14 (zs (zr [2,3,4] [zc 2 (zI 0),zc 3 .nils,zc 4 (zI 1)])
 .ret)
 .skip))
 (zs (zr [1,5] [zL 15 6 1,zk 16 30 [(.t 15)],zm 5 16])
 (zs (zr [1,5,6] [zm 17 5,zk 18 39 [(.t 17)],zq 6 18])
 (zs (zr [1,5,6,7] [zm 19 5,zm 20 6,zk 21 32 [(.t 19),(.t 20)],zm 7 21])
 (zs (zs (zr [1,5,6,7,23] [zm 22 7,⟨some 23,.bin .eql (.t 22) (.c (zI (-1))),none⟩])
 (zC 23 (zs (zr [2,3,4] [zc 2 (zI 0),zc 3 .nils,zc 4 (zI 28)])
 .ret)
 .skip))
 (zs (zr [1,5,6,7,8] [zf 24 0 1,zl 25 1 24,zn 26 25,⟨some 27,.mks 1 8 [zI 0] (.t 26) (.t 26),none⟩,zq 8 27])
 (zs (zs (zr [1,5,6,7,8,9] [zm 28 8,zn 29 28,zd 30 .sub 29 (zI 1),zm 9 30])
 (.block 0 (.loop (zs (zs (zr [1,5,6,7,8,9,32] [zm 31 9,zd 32 .geq 31 (zI 0)])
 (zC 32 .skip
 (.exit 0)))
 (zs (.block 1 (zs (zr [1,5,6,7,8,9,10] [zc 10 (zI 4194304)])
 (zs (zs (zr [1,5,6,7,8,9,10,11] [zf 35 0 1,zl 36 1 35,zm 37 9,zi 38 1 36 37,zl 39 1 38,zm 11 39])
 (zs (zr [1,5,6,7,8,9,10,11,41] [zm 40 11,⟨some 41,.bin .neq (.t 40) (.c (zI (-1))),none⟩])
 (zC 41 (.reg true [0,1,0,0,12,28,63,127,255,511] [1,5,6,7,8,9,10] [zf 42 5 1,zl 43 1 42,zm 44 8,zm 45 11,zi 46 1 44 45,zl 47 1 46,zi 48 5 43 47,zf 49 1 48,zl 50 1 49,zm 10 50])
 .skip)))
 (zr [1,5,6,7,8,9] [zm 52 8,zm 53 9,zm 54 5,zm 55 6,zm 56 9,zi 57 1 55 56,zl 58 1 57,zm 59 9,zm 60 10,zk 61 40 [(.t 54),(.t 58),(.t 59),(.t 60)],zm 51 61,zx 62 0 51,zx 63 1 51,zi 64 1 52 53,⟨none,.st 1 [] (.t 64) (.t 63),none⟩]))))
 (zr [1,5,6,7,8,9] [zm 33 9,zd 34 .sub 33 (zI 1),zm 9 34]))))))
 (zs (zr [2,3,4] [zm 65 7,zq 66 8,zm 2 65,zq 3 66,zc 4 (zI 0)])
 .ret))))))))) }
def N19 : aw:={ np:=2,nt:=26,res:=[(4,none)],body :=
 (zs (zr [0,1] [zc 4 (.bool false)])
 (zs (zs (zr [0,1,10] [zm 6 0,zn 7 6,zm 8 1,zn 9 8,zb 10 .neq 7 9])
 (zC 10 (zs (zr [4] [zc 4 (.bool false)])
 .ret)
 .skip))
 (zs (zs (zr [0,1,12,13] [zm 11 0,zn 12 11,zc 13 (zI 0)])
 (.block 0 (.loop (zs (zr [0,1,12,13,14] [zb 14 .lss 13 12])
 (zs (zC 14 .skip
 (.exit 0))
 (zs (.block 1 (zs (zr [0,1,5,12,13] [zm 15 13,zm 5 15])
 (zs (.reg true [0,0,3,7,0,0,48,112,255] [0,1,12,13,24] [zm 16 0,zm 17 5,zi 18 1 16 17,zl 19 1 18,zm 20 1,zm 21 5,zi 22 1 20 21,zl 23 1 22,zb 24 .neq 19 23])
 (zC 24 (zs (zr [4] [zc 4 (.bool false)])
 .ret)
 .skip))))
 (zr [0,1,12,13] [zd 25 .add 13 (zI 1),zm 13 25])))))))
 (zs (zr [4] [zc 4 (.bool true)])
 .ret)))) }
def N23 : aw:={ np:=1,nt:=13,res:=[(2,some (6,true))],body :=
 (zs (zr [0,2] [⟨some 2,.alc [.own 1 [],.own 1 [],.own 1 [],.own 1 [],.own 1 [],.own 5 []],none⟩])
 (zs (zr [2] [⟨some 3,.bls 1 2 [zI 0] [] [(0,(.c (zI 1))),(1,(.c (zI (-1))))],none⟩,⟨some 4,.bls 1 2 [zI 0] [] [(0,(.c (zI 1000))),(1,(.c (zI 1000)))],none⟩,⟨some 5,.bls 1 2 [zI 0] [] [(0,(.c (zI 1))),(1,(.c (zI 1)))],none⟩,⟨some 6,.bls 1 2 [zI 0] [] [(0,(.c (zI 10))),(1,(.c (zI 10)))],none⟩,zm 7 0,⟨some 8,.bls 1 2 [zI 0] [] [(0,(.t 7)),(1,(.c (zI 2000)))],none⟩,⟨some 9,.call 43 [(.c (.str [97])),(.c (zI 200)),(.c (zI 5))] [],none⟩,⟨some 10,.call 43 [(.c (.str [98])),(.c (zI 300)),(.c (zI 4))] [],none⟩,⟨some 11,.bls 5 2 [.str [],zI 0,zI 0,.own 2 [],.own 2 []] [] [(0,(.t 9)),(1,(.t 10))],none⟩,⟨some 12,.bld [.nils,.nils,.nils,.nils,.nils,.nils] [(0,1,(.t 3)),(1,1,(.t 4)),(2,1,(.t 5)),(3,1,(.t 6)),(4,1,(.t 8)),(5,1,(.t 11))],none⟩,⟨none,.st 6 [] (.t 2) (.t 12),none⟩])
 .ret)) }
def N24 : aw:={ np:=1,nt:=109,res:=[(2,none)],body :=
 (zs (zr [1] [zo 1 0,zc 2 (.bool false)])
 (zs (zr [1,3] [zf 6 0 1,zl 7 1 6,zn 8 7,zm 3 8])
 (zs (zs (zr [1,3,50] [zm 9 3,zd 10 .gtr 9 (zI 400),zm 11 10,zg 11 false (zf 12 1 1),zg 11 false (zl 13 1 12),zg 11 false (zn 14 13),zg 11 false (zm 15 3),zg 11 false (zb 16 .neq 14 15),⟨some 17,.pick (.t 11) (.c (.bool true)) (.t 16),none⟩,zm 18 17,zg 18 false (zf 19 2 1),zg 18 false (zl 20 1 19),zg 18 false (zn 21 20),zg 18 false (zm 22 3),zg 18 false (zb 23 .neq 21 22),⟨some 24,.pick (.t 18) (.c (.bool true)) (.t 23),none⟩,zm 25 24,zg 25 false (zf 26 3 1),zg 25 false (zl 27 1 26),zg 25 false (zn 28 27),zg 25 false (zm 29 3),zg 25 false (zb 30 .neq 28 29),⟨some 31,.pick (.t 25) (.c (.bool true)) (.t 30),none⟩,zm 32 31,zg 32 false (zf 33 4 1),zg 32 false (zl 34 1 33),zg 32 false (zn 35 34),zg 32 false (zm 36 3),zg 32 false (zb 37 .neq 35 36),⟨some 38,.pick (.t 32) (.c (.bool true)) (.t 37),none⟩,zm 39 38,zg 39 false (zf 40 5 1),zg 39 false (zl 41 1 40),zg 39 false (zn 42 41),zg 39 false (zd 43 .eql 42 (zI 0)),⟨some 44,.pick (.t 39) (.c (.bool true)) (.t 43),none⟩,zm 45 44,zg 45 false (zf 46 5 1),zg 45 false (zl 47 1 46),zg 45 false (zk 48 44 [(.t 47)]),zg 45 false (zt 49 48),⟨some 50,.pick (.t 45) (.c (.bool true)) (.t 49),none⟩])
 (zC 50 (zs (zr [2] [zc 2 (.bool false)])
 .ret)
 .skip))
 (zs (zs (zr [1,3,51,52] [zm 51 3,zc 52 (zI 0)])
 (.block 0 (.loop (zs (zr [1,3,51,52,53] [zb 53 .lss 52 51])
 (zs (zC 53 .skip
 (.exit 0))
 (zs (.block 1 (zs (zr [1,3,4,51,52] [zm 54 52,zm 4 54])
 (zs (zr [1,3,4,5,51,52] [zf 55 0 1,zl 56 1 55,zm 57 4,zi 58 1 56 57,zl 59 1 58,zm 5 59])
 (zs (zr [1,3,51,52,107] [zm 60 5,⟨some 61,.bin .neq (.t 60) (.c (zI (-1))),none⟩,zm 62 61,zg 62 true (zm 63 5),zg 62 true (zm 64 4),zg 62 true (zb 65 .leq 63 64),zg 62 true (zm 66 65),zg 66 false (zm 67 5),zg 66 false (zm 68 3),zg 66 false (zb 69 .geq 67 68),zg 62 true (⟨some 70,.pick (.t 66) (.c (.bool true)) (.t 69),none⟩),⟨some 71,.pick (.t 62) (.t 70) (.c (.bool false)),none⟩,zm 72 71,zg 72 false (zf 73 1 1),zg 72 false (zl 74 1 73),zg 72 false (zm 75 4),zg 72 false (zi 76 1 74 75),zg 72 false (zl 77 1 76),zg 72 false (zk 78 29 [(.t 77),(.c (zI 1)),(.c (zI 16777216))]),zg 72 false (zt 79 78),⟨some 80,.pick (.t 72) (.c (.bool true)) (.t 79),none⟩,zm 81 80,zg 81 false (zf 82 2 1),zg 81 false (zl 83 1 82),zg 81 false (zm 84 4),zg 81 false (zi 85 1 83 84),zg 81 false (zl 86 1 85),zg 81 false (zk 87 29 [(.t 86),(.c (zI 0)),(.c (zI 1099511627776))]),zg 81 false (zt 88 87),⟨some 89,.pick (.t 81) (.c (.bool true)) (.t 88),none⟩,zm 90 89,zg 90 false (zf 91 3 1),zg 90 false (zl 92 1 91),zg 90 false (zm 93 4),zg 90 false (zi 94 1 92 93),zg 90 false (zl 95 1 94),zg 90 false (zk 96 29 [(.t 95),(.c (zI 0)),(.c (zI 4194304))]),zg 90 false (zt 97 96),⟨some 98,.pick (.t 90) (.c (.bool true)) (.t 97),none⟩,zm 99 98,zg 99 false (zf 100 4 1),zg 99 false (zl 101 1 100),zg 99 false (zm 102 4),zg 99 false (zi 103 1 101 102),zg 99 false (zl 104 1 103),zg 99 false (zk 105 29 [(.t 104),(.c (zI 0)),(.c (zI 4194304))]),zg 99 false (zt 106 105),⟨some 107,.pick (.t 99) (.c (.bool true)) (.t 106),none⟩])
 (zC 107 (zs (zr [2] [zc 2 (.bool false)])
 .ret)
 .skip)))))
 (zr [1,3,51,52] [zd 108 .add 52 (zI 1),zm 52 108])))))))
 (zs (zr [2] [zc 2 (.bool true)])
 .ret))))) }
def N25 : aw:={ np:=1,nt:=10,res:=[(2,none)],body :=
 (zs (zr [0] [zc 2 (.bool false)])
 (zs (zr [2] [zm 3 0,zn 4 3,zd 5 .gtr 4 (zI 8),zm 6 5,zg 6 false (zq 7 0),zg 6 false (⟨some 8,.call 45 [(.t 7),(.c (.fn 46 []))] [],none⟩),⟨some 9,.pick (.t 6) (.c (.bool true)) (.t 8),none⟩,zm 2 9])
 .ret)) }
def N29 : aw:={ np:=3,nt:=15,res:=[(6,none)],body :=
 (zs (zr [0,1,2] [zc 6 (.bool false)])
 (zs (zr [6] [zm 7 0,zm 8 1,zb 9 .geq 7 8,zm 10 9,zg 10 true (zm 11 0),zg 10 true (zm 12 2),zg 10 true (zb 13 .leq 11 12),⟨some 14,.pick (.t 10) (.t 13) (.c (.bool false)),none⟩,zm 6 14])
 .ret)) }
def N30 : aw:={ np:=1,nt:=112,res:=[(2,none)],body :=
 (zs (zr [1] [zo 1 0,zc 2 .nilp])
 (zs (.reg true [0,0,2,6,14,0,32,96,224,511,1023,2047] [1,3] [zL 10 6 1,zf 11 0 1,zl 12 1 11,zn 13 12,⟨some 14,.mks 1 24 [.own 1 []] (.t 13) (.t 13),none⟩,zf 15 0 1,zl 16 1 15,zn 17 16,⟨some 18,.mks 1 24 [.own 1 []] (.t 17) (.t 17),none⟩,⟨some 19,.bld [.nils,.nils,.nils,.nils,.nils,.nils,.nils,.nils] [(0,6,(.t 10)),(6,1,(.t 14)),(7,1,(.t 18))],none⟩,zo 20 19,zm 3 20])
 (zs (zs (zr [1,3,22,23,24] [zf 21 0 1,zl 22 1 21,zn 23 22,zc 24 (zI 0)])
 (.block 0 (.loop (zs (zr [1,3,22,23,24,25] [zb 25 .lss 24 23])
 (zs (zC 25 .skip
 (.exit 0))
 (zs (.block 1 (zs (zr [1,3,4,5,22,23,24] [zm 26 24,zi 27 1 22 24,zl 28 1 27,zm 4 26,zm 5 28])
 (zs (zs (zr [1,3,4,5,22,23,24,30] [zm 29 5,⟨some 30,.bin .neq (.t 29) (.c (zI (-1))),none⟩])
 (zC 30 (.reg true [0,1,3,7,0,0,32,96,224,0,992,2016,0,4096,16352,32767,65535] [1,3,4,22,23,24] [zm 31 3,⟨some 32,.nck (.t 31),none⟩,zf 33 7 32,zl 34 1 33,zm 35 5,zm 36 3,⟨some 37,.nck (.t 36),none⟩,zf 38 7 37,zl 39 1 38,zm 40 5,zi 41 1 39 40,zl 42 1 41,zm 43 4,⟨some 44,.bls 1 1 [zI 0] [] [(0,(.t 43))],none⟩,⟨some 45,.app 1 8 false (.t 42) (.t 44),none⟩,zi 46 1 34 35,⟨none,.st 1 [] (.t 46) (.t 45),none⟩])
 .skip))
 (zs (zr [1,3,4,22,23,24,48,49,50] [zf 47 5 1,zl 48 1 47,zn 49 48,zc 50 (zI 0)])
 (.block 2 (.loop (zs (zr [1,3,4,22,23,24,48,49,50,51] [zb 51 .lss 50 49])
 (zs (zC 51 .skip
 (.exit 2))
 (zs (.block 3 (zs (zr [1,3,4,7,22,23,24,48,49,50] [zi 52 5 48 50,zL 53 5 52,⟨some 7,.alc [.str [],zI 0,zI 0,.own 2 [],.own 2 []],none⟩,⟨none,.st 5 [] (.t 7) (.t 53),none⟩])
 (zs (.reg true [0,0,2,0,14,30,0,64,0,448,960,2047,4095,8191,8191,16383,65535] [1,3,4,7,8,9,22,23,24,48,49,50] [zL 55 5 7,zf 56 3 1,zl 57 1 56,zm 58 4,zi 59 1 57 58,zl 60 1 59,zf 61 1 1,zl 62 1 61,zm 63 4,zi 64 1 62 63,zl 65 1 64,zk 66 47 [(.t 55),(.t 60),(.t 65)],zm 54 66,zx 67 0 54,zx 68 1 54,zm 8 67,zm 9 68])
 (.reg true [0,1,3,7,0,0,32,96,224,0,992,2016,0,4096,12288,28672,61440,126976,258048,258048,782336,258048,3928064,8122368,16773120,33550336,67104768,134213632,268431360,536866816,268431360,1342173184,268431360,7784624128,16374558720,34359734272,68719472640,137438949376,274877906912,549755813887,1099511627775] [1,3,4,22,23,24,48,49,50] [zm 69 3,⟨some 70,.nck (.t 69),none⟩,zf 71 6 70,zl 72 1 71,zm 73 4,zm 74 3,⟨some 75,.nck (.t 74),none⟩,zf 76 6 75,zl 77 1 76,zm 78 4,zi 79 1 77 78,zl 80 1 79,zm 81 9,zd 82 .eql 81 (zI 5),zm 83 82,zg 83 false (zm 84 9),zg 83 false (zd 85 .eql 84 (zI 0)),zg 83 false (zm 86 85),zg 86 true (zm 87 8),zg 86 true (zf 88 2 1),zg 86 true (zl 89 1 88),zg 86 true (zm 90 4),zg 86 true (zi 91 1 89 90),zg 86 true (zl 92 1 91),zg 86 true (zb 93 .geq 87 92),zg 83 false (⟨some 94,.pick (.t 86) (.t 93) (.c (.bool false)),none⟩),⟨some 95,.pick (.t 83) (.c (.bool true)) (.t 94),none⟩,zm 96 95,zg 96 true (zf 97 1 7),zg 96 true (zl 98 1 97),zg 96 true (zf 99 4 1),zg 96 true (zl 100 1 99),zg 96 true (zm 101 4),zg 96 true (zi 102 1 100 101),zg 96 true (zl 103 1 102),zg 96 true (zb 104 .leq 98 103),⟨some 105,.pick (.t 96) (.t 104) (.c (.bool false)),none⟩,⟨some 106,.bls 1 1 [.bool false] [] [(0,(.t 105))],none⟩,⟨some 107,.app 1 1 false (.t 80) (.t 106),none⟩,zi 108 1 72 73,⟨none,.st 1 [] (.t 108) (.t 107),none⟩]))))
 (zr [1,3,4,22,23,24,48,49,50] [zd 109 .add 50 (zI 1),zm 50 109]))))))))))
 (zr [1,3,22,23,24] [zd 110 .add 24 (zI 1),zm 24 110])))))))
 (zs (zr [2] [zm 111 3,zm 2 111])
 .ret)))) }
def N31 : aw:={ np:=4,nt:=70,res:=[(8,none)],body :=
 (zs (zr [0,1,2,3] [zc 8 (zI 0)])
 (zs (.reg true [0,1,3,7,15,0,63,127,0,256,768,1792,3840,0,16128,32512,65280,131071,262143] [0,1,2,3,9] [zm 14 0,⟨some 15,.nck (.t 14),none⟩,zf 16 0 15,zf 17 1 16,zl 18 1 17,zm 19 2,zi 20 1 18 19,zl 21 1 20,zm 22 0,⟨some 23,.nck (.t 22),none⟩,zf 24 0 23,zf 25 5 24,zl 26 1 25,zm 27 3,zi 28 5 26 27,zf 29 2 28,zl 30 1 29,zb 31 .mul 21 30,zm 9 31])
 (zs (zs (zr [0,1,3,9,38,39,40] [zm 32 0,⟨some 33,.nck (.t 32),none⟩,zf 34 7 33,zl 35 1 34,zm 36 2,zi 37 1 35 36,zl 38 1 37,zn 39 38,zc 40 (zI 0)])
 (.block 0 (.loop (zs (zr [0,1,3,9,38,39,40,41] [zb 41 .lss 40 39])
 (zs (zC 41 .skip
 (.exit 0))
 (zs (.block 1 (zs (zr [0,1,3,9,11,38,39,40] [zi 42 1 38 40,zl 43 1 42,zm 11 43])
 (zs (.reg true [0,0,0,6,14,0,0,64,192,448,960,0,4032,8128,16320,32767,65535,131071,131071,262143,1048575] [0,1,3,9,12,38,39,40] [zm 45 0,zm 46 1,zm 47 11,zi 48 1 46 47,zl 49 1 48,zm 50 11,zm 51 0,⟨some 52,.nck (.t 51),none⟩,zf 53 0 52,zf 54 5 53,zl 55 1 54,zm 56 3,zi 57 5 55 56,zf 58 1 57,zl 59 1 58,zk 60 40 [(.t 45),(.t 49),(.t 50),(.t 59)],zm 44 60,zx 61 0 44,zx 62 1 44,zm 12 61,zm 13 62])
 (zs (zs (zr [0,1,3,9,12,38,39,40,64] [zm 63 12,⟨some 64,.bin .eql (.t 63) (.c (zI (-1))),none⟩])
 (zC 64 (zs (zr [8] [⟨some 8,.mov (.c (zI (-1))),none⟩])
 .ret)
 .skip))
 (zr [0,1,3,9,38,39,40] [zm 65 9,zm 66 12,zb 67 .add 65 66,zm 9 67])))))
 (zr [0,1,3,9,38,39,40] [zd 68 .add 40 (zI 1),zm 40 68])))))))
 (zs (zr [8] [zm 69 9,zm 8 69])
 .ret)))) }
def N32 : aw:={ np:=2,nt:=40,res:=[(4,none)],body :=
 (zs (zr [0,1] [zc 4 (zI 0)])
 (zs (zr [0,1,5] [zc 5 (zI 0)])
 (zs (zs (zr [0,1,5,14,15,16] [zm 10 0,⟨some 11,.nck (.t 10),none⟩,zf 12 0 11,zf 13 0 12,zl 14 1 13,zn 15 14,zc 16 (zI 0)])
 (.block 0 (.loop (zs (zr [0,1,5,14,15,16,17] [zb 17 .lss 16 15])
 (zs (zC 17 .skip
 (.exit 0))
 (zs (.block 1 (zs (zr [0,1,5,6,7,14,15,16] [zm 18 16,zi 19 1 14 16,zl 20 1 19,zm 6 18,zm 7 20])
 (zs (zs (zr [0,1,5,6,14,15,16,22] [zm 21 7,⟨some 22,.bin .neq (.t 21) (.c (zI (-1))),none⟩])
 (zC 22 (.exit 1)
 .skip))
 (zs (zr [0,1,5,8,14,15,16] [zm 24 0,zm 25 1,zm 26 6,zi 27 1 25 26,zl 28 1 27,zm 29 6,zk 30 40 [(.t 24),(.t 28),(.t 29),(.c (zI 4194304))],zm 23 30,zx 31 0 23,zx 32 1 23,zm 8 31,zm 9 32])
 (zs (zs (zr [0,1,5,8,14,15,16,34] [zm 33 8,⟨some 34,.bin .eql (.t 33) (.c (zI (-1))),none⟩])
 (zC 34 (zs (zr [4] [⟨some 4,.mov (.c (zI (-1))),none⟩])
 .ret)
 .skip))
 (zr [0,1,5,14,15,16] [zm 35 5,zm 36 8,zb 37 .add 35 36,zm 5 37]))))))
 (zr [0,1,5,14,15,16] [zd 38 .add 16 (zI 1),zm 16 38])))))))
 (zs (zr [4] [zm 39 5,zm 4 39])
 .ret)))) }
def N35 : aw:={ np:=2,nt:=19,res:=[(4,none)],body :=
 (zs (zr [0,1] [zc 4 (zI 0)])
 (zs (zs (zr [0,1,7,8] [zm 6 0,zn 7 6,zc 8 (zI 0)])
 (.block 0 (.loop (zs (zr [0,1,7,8,9] [zb 9 .lss 8 7])
 (zs (zC 9 .skip
 (.exit 0))
 (zs (.block 1 (zs (zr [0,1,5,7,8] [zm 10 8,zm 5 10])
 (zs (zr [0,1,5,7,8,16] [zm 11 1,zm 12 0,zm 13 5,zi 14 1 12 13,zl 15 1 14,⟨some 16,.callv (.t 11) [(.t 15)],none⟩])
 (zC 16 (zs (zr [4] [zm 17 5,zm 4 17])
 .ret)
 .skip))))
 (zr [0,1,7,8] [zd 18 .add 8 (zI 1),zm 8 18])))))))
 (zs (zr [4] [⟨some 4,.mov (.c (zI (-1))),none⟩])
 .ret))) }
def N39 : aw:={ np:=1,nt:=56,res:=[(2,none)],body :=
 (zs (zr [0] [zc 2 .nils])
 (zs (zr [0,3] [zm 7 0,⟨some 8,.nck (.t 7),none⟩,zf 9 0 8,zf 10 0 9,zl 11 1 10,zn 12 11,⟨some 13,.mks 1 24 [.own 1 []] (.t 12) (.t 12),none⟩,zq 3 13])
 (zs (zs (zr [0,3,15,16] [zm 14 3,zn 15 14,zc 16 (zI 0)])
 (.block 0 (.loop (zs (zr [0,3,15,16,17] [zb 17 .lss 16 15])
 (zs (zC 17 .skip
 (.exit 0))
 (zs (.block 1 (zs (zr [0,3,4,15,16] [zm 18 16,zm 4 18])
 (zs (zr [0,3,4,15,16,24,25] [zm 19 0,⟨some 20,.nck (.t 19),none⟩,zf 21 0 20,zf 22 5 21,zl 23 1 22,zn 24 23,zc 25 (zI 0)])
 (.block 2 (.loop (zs (zr [0,3,4,15,16,24,25,26] [zb 26 .lss 25 24])
 (zs (zC 26 .skip
 (.exit 2))
 (zs (.block 3 (zs (zr [0,3,4,5,15,16,24,25] [zm 27 25,zm 5 27])
 (zs (zr [0,3,4,5,6,15,16,24,25] [⟨some 6,.mov (.c (zI (-1))),none⟩])
 (zs (zs (zr [0,3,4,5,6,15,16,24,25,37] [zm 28 0,⟨some 29,.nck (.t 28),none⟩,zf 30 6 29,zl 31 1 30,zm 32 4,zi 33 1 31 32,zl 34 1 33,zm 35 5,zi 36 1 34 35,zl 37 1 36])
 (zC 37 (zr [0,3,4,6,15,16,24,25] [zm 38 0,zm 39 3,zm 40 4,zm 41 5,zk 42 31 [(.t 38),(.t 39),(.t 40),(.t 41)],zm 6 42])
 .skip))
 (zr [0,3,4,15,16,24,25] [zm 43 3,zm 44 4,zm 45 3,zm 46 4,zi 47 1 45 46,zl 48 1 47,zm 49 6,⟨some 50,.bls 1 1 [zI 0] [] [(0,(.t 49))],none⟩,⟨some 51,.app 1 8 false (.t 48) (.t 50),none⟩,zi 52 1 43 44,⟨none,.st 1 [] (.t 52) (.t 51),none⟩])))))
 (zr [0,3,4,15,16,24,25] [zd 53 .add 25 (zI 1),zm 25 53])))))))))
 (zr [0,3,15,16] [zd 54 .add 16 (zI 1),zm 16 54])))))))
 (zs (zr [2] [zq 55 3,zq 2 55])
 .ret)))) }
def N40 : aw:={ np:=4,nt:=62,res:=[(8,none),(9,none)],body :=
 (zs (zr [0,1,2,3] [zc 8 (zI 0),zc 9 (zI 0)])
 (zs (zr [0,1,2,3,10,11] [⟨some 10,.mov (.c (zI (-1))),none⟩,⟨some 11,.mov (.c (zI (-1))),none⟩])
 (zs (zs (zr [0,2,3,10,11,14,15,16] [zq 14 1,zn 15 14,zc 16 (zI 0)])
 (.block 0 (.loop (zs (zr [0,2,3,10,11,14,15,16,17] [zb 17 .lss 16 15])
 (zs (zC 17 .skip
 (.exit 0))
 (zs (.block 1 (zs (zr [0,2,3,10,11,12,13,14,15,16] [zm 18 16,zi 19 1 14 16,zl 20 1 19,zm 12 18,zm 13 20])
 (zs (zr [0,2,3,10,11,12,13,14,15,16,56] [zm 21 13,⟨some 22,.bin .neq (.t 21) (.c (zI (-1))),none⟩,zm 23 22,zg 23 true (zm 24 0),zg 23 true (⟨some 25,.nck (.t 24),none⟩),zg 23 true (zf 26 6 25),zg 23 true (zl 27 1 26),zg 23 true (zm 28 2),zg 23 true (zi 29 1 27 28),zg 23 true (zl 30 1 29),zg 23 true (zm 31 12),zg 23 true (zi 32 1 30 31),zg 23 true (zl 33 1 32),⟨some 34,.pick (.t 23) (.t 33) (.c (.bool false)),none⟩,zm 35 34,zg 35 true (zm 36 0),zg 35 true (⟨some 37,.nck (.t 36),none⟩),zg 35 true (zf 38 0 37),zg 35 true (zf 39 5 38),zg 35 true (zl 40 1 39),zg 35 true (zm 41 12),zg 35 true (zi 42 5 40 41),zg 35 true (zf 43 1 42),zg 35 true (zl 44 1 43),zg 35 true (zm 45 3),zg 35 true (zb 46 .leq 44 45),⟨some 47,.pick (.t 35) (.t 46) (.c (.bool false)),none⟩,zm 48 47,zg 48 true (zm 49 10),zg 48 true (⟨some 50,.bin .eql (.t 49) (.c (zI (-1))),none⟩),zg 48 true (zm 51 50),zg 51 false (zm 52 13),zg 51 false (zm 53 10),zg 51 false (zb 54 .lss 52 53),zg 48 true (⟨some 55,.pick (.t 51) (.c (.bool true)) (.t 54),none⟩),⟨some 56,.pick (.t 48) (.t 55) (.c (.bool false)),none⟩])
 (zC 56 (zr [0,2,3,10,11,14,15,16] [zm 57 13,zm 58 12,zm 10 57,zm 11 58])
 .skip))))
 (zr [0,2,3,10,11,14,15,16] [zd 59 .add 16 (zI 1),zm 16 59])))))))
 (zs (zr [8,9] [zm 60 10,zm 61 11,zm 8 60,zm 9 61])
 .ret)))) }
def N43 : aw:={ np:=3,nt:=24,res:=[(6,some (5,true))],body :=
 (zs (zr [0,1,2,6] [⟨some 6,.alc [.str [],zI 0,zI 0,.own 2 [],.own 2 []],none⟩])
 (zs (zr [6] [zm 7 0,zm 8 1,zm 9 2,⟨some 10,.bld [zI 0,zI 0] [],none⟩,zm 11 1,zm 12 1,zm 13 1,zb 14 .mul 12 13,⟨some 15,.bld [zI 0,zI 0] [(0,1,(.t 11)),(1,1,(.t 14))],none⟩,⟨some 16,.bls 2 2 [zI 0,zI 0] [] [(0,(.t 10)),(1,(.t 15))],none⟩,⟨some 17,.bld [zI 0,zI 0] [],none⟩,zm 18 1,zm 19 1,⟨some 20,.bin .mul (.c (zI 1000)) (.t 19),none⟩,⟨some 21,.bld [zI 0,zI 0] [(0,1,(.t 18)),(1,1,(.t 20))],none⟩,⟨some 22,.bls 2 2 [zI 0,zI 0] [] [(0,(.t 17)),(1,(.t 21))],none⟩,⟨some 23,.bld [.str [],zI 0,zI 0,.nils,.nils] [(0,1,(.t 7)),(1,1,(.t 8)),(2,1,(.t 9)),(3,1,(.t 16)),(4,1,(.t 22))],none⟩,⟨none,.st 5 [] (.t 6) (.t 23),none⟩])
 .ret)) }
def N44 : aw:={ np:=1,nt:=29,res:=[(2,none)],body :=
 (zs (zr [0] [zc 2 (.bool false)])
 (zs (zs (zr [0,8] [zm 6 0,zn 7 6,zd 8 .gtr 7 (zI 40)])
 (zC 8 (zs (zr [2] [zc 2 (.bool false)])
 .ret)
 .skip))
 (zs (zr [0,3] [⟨some 9,.mkm 0 1,none⟩,zm 3 9])
 (zs (zs (zr [3,10,11,12] [zq 10 0,zn 11 10,zc 12 (zI 0)])
 (.block 0 (.loop (zs (zr [3,10,11,12,13] [zb 13 .lss 12 11])
 (zs (zC 13 .skip
 (.exit 0))
 (zs (.block 1 (zs (zr [3,5,10,11,12] [zi 14 5 10 12,zL 15 5 14,⟨some 5,.alc [.str [],zI 0,zI 0,.own 2 [],.own 2 []],none⟩,⟨none,.st 5 [] (.t 5) (.t 15),none⟩])
 (zs (zs (zr [3,5,10,11,12,24] [zL 16 5 5,zk 17 51 [(.t 16)],zt 18 17,zm 19 18,zg 19 false (zm 20 3),zg 19 false (zf 21 0 5),zg 19 false (zl 22 1 21),zg 19 false (⟨some 23,.mpl .str 0 1 false (.bool false) (.t 20) (.t 22),none⟩),⟨some 24,.pick (.t 19) (.c (.bool true)) (.t 23),none⟩])
 (zC 24 (zs (zr [2] [zc 2 (.bool false)])
 .ret)
 .skip))
 (zr [3,10,11,12] [zm 25 3,zf 26 0 5,zl 27 1 26,⟨none,.mpu .str 0 1 (.bool false) (.t 25) (.t 27) (.c (.bool true)),none⟩]))))
 (zr [3,10,11,12] [zd 28 .add 12 (zI 1),zm 12 28])))))))
 (zs (zr [2] [zc 2 (.bool true)])
 .ret))))) }
def N45 : aw:={ np:=2,nt:=9,res:=[(4,none)],body :=
 (zs (zr [0,1] [zc 4 (.bool false)])
 (zs (zr [4] [zq 5 0,zm 6 1,zk 7 52 [(.t 5),(.t 6)],zd 8 .geq 7 (zI 0),zm 4 8])
 .ret)) }
def N46 : aw:={ np:=1,nt:=19,res:=[(2,none)],body :=
 (zs (zr [1] [zo 1 0,zc 2 (.bool false)])
 (zs (zr [2] [zf 3 3 1,zl 4 1 3,zn 5 4,zd 6 .gtr 5 (zI 20),zm 7 6,zg 7 false (zf 8 4 1),zg 7 false (zl 9 1 8),zg 7 false (zn 10 9),zg 7 false (zd 11 .gtr 10 (zI 20)),⟨some 12,.pick (.t 7) (.c (.bool true)) (.t 11),none⟩,zm 13 12,zg 13 false (zf 14 0 1),zg 13 false (zl 15 1 14),zg 13 false (⟨some 16,.lens (.t 15),none⟩),zg 13 false (zd 17 .gtr 16 (zI 60)),⟨some 18,.pick (.t 13) (.c (.bool true)) (.t 17),none⟩,zm 2 18])
 .ret)) }
def N47 : aw:={ np:=3,nt:=16,res:=[(6,none),(7,none)],body :=
 (zs (zr [1,2,3] [zo 3 0,zc 6 (zI 0),zc 7 (zI 0)])
 (zs (zr [6,7] [zL 8 5 3,zf 9 1 3,zl 10 1 9,zm 11 1,zm 12 2,zk 13 53 [(.t 8),(.t 10),(.t 11),(.t 12)],zx 14 0 13,zx 15 1 13,zm 6 14,zm 7 15])
 .ret)) }
def N51 : aw:={ np:=1,nt:=40,res:=[(2,none)],body :=
 (zs (zr [1] [zo 1 0,zc 2 (.bool false)])
 (zs (zr [2] [zf 3 0 1,zl 4 1 3,zk 5 58 [(.t 4)],zm 6 5,zg 6 true (zf 7 1 1),zg 6 true (zl 8 1 7),zg 6 true (zd 9 .geq 8 (zI 1)),⟨some 10,.pick (.t 6) (.t 9) (.c (.bool false)),none⟩,zm 11 10,zg 11 true (zf 12 1 1),zg 11 true (zl 13 1 12),zg 11 true (zd 14 .leq 13 (zI 32768)),⟨some 15,.pick (.t 11) (.t 14) (.c (.bool false)),none⟩,zm 16 15,zg 16 true (zf 17 2 1),zg 16 true (zl 18 1 17),zg 16 true (zd 19 .geq 18 (zI 0)),⟨some 20,.pick (.t 16) (.t 19) (.c (.bool false)),none⟩,zm 21 20,zg 21 true (zf 22 2 1),zg 21 true (zl 23 1 22),zg 21 true (zd 24 .leq 23 (zI 1073741824)),⟨some 25,.pick (.t 21) (.t 24) (.c (.bool false)),none⟩,zm 26 25,zg 26 true (zf 27 3 1),zg 26 true (zl 28 1 27),zg 26 true (zf 29 1 1),zg 26 true (zl 30 1 29),zg 26 true (zk 31 59 [(.t 28),(.t 30),(.c (zI 1073741824))]),⟨some 32,.pick (.t 26) (.t 31) (.c (.bool false)),none⟩,zm 33 32,zg 33 true (zf 34 4 1),zg 33 true (zl 35 1 34),zg 33 true (zf 36 1 1),zg 33 true (zl 37 1 36),zg 33 true (zk 38 59 [(.t 35),(.t 37),(.c (zI 1099511627776))]),⟨some 39,.pick (.t 33) (.t 38) (.c (.bool false)),none⟩,zm 2 39])
 .ret)) }
def N52 : aw:={ np:=2,nt:=19,res:=[(4,none)],body :=
 (zs (zr [0,1] [zc 4 (zI 0)])
 (zs (zs (zr [0,1,7,8] [zm 6 0,zn 7 6,zc 8 (zI 0)])
 (.block 0 (.loop (zs (zr [0,1,7,8,9] [zb 9 .lss 8 7])
 (zs (zC 9 .skip
 (.exit 0))
 (zs (.block 1 (zs (zr [0,1,5,7,8] [zm 10 8,zm 5 10])
 (zs (zr [0,1,5,7,8,16] [zm 11 1,zm 12 0,zm 13 5,zi 14 5 12 13,zL 15 5 14,⟨some 16,.callv (.t 11) [(.t 15)],none⟩])
 (zC 16 (zs (zr [4] [zm 17 5,zm 4 17])
 .ret)
 .skip))))
 (zr [0,1,7,8] [zd 18 .add 8 (zI 1),zm 8 18])))))))
 (zs (zr [4] [⟨some 4,.mov (.c (zI (-1))),none⟩])
 .ret))) }
def N53 : aw:={ np:=4,nt:=47,res:=[(8,none),(9,none)],body :=
 (zs (zr [1,2,3,4] [zo 4 0,zc 8 (zI 0),zc 9 (zI 0)])
 (zs (.block 0 (zs (zr [1,2,3,4,12] [zL 13 5 4,zk 14 51 [(.t 13)],zt 15 14,zm 12 15])
 (zC 12 (zs (zr [8,9] [zc 8 (zI 0),zc 9 (zI 1)])
 .ret)
 (zs (zr [1,2,3,4,16] [zm 17 1,zd 18 .lss 17 (zI 0),zm 19 18,zg 19 false (zm 20 1),zg 19 false (zf 21 1 4),zg 19 false (zl 22 1 21),zg 19 false (zb 23 .gtr 20 22),⟨some 24,.pick (.t 19) (.c (.bool true)) (.t 23),none⟩,zm 25 24,zg 25 false (zm 26 2),zg 25 false (zm 27 3),zg 25 false (zk 28 60 [(.t 26),(.t 27)]),zg 25 false (zt 29 28),⟨some 30,.pick (.t 25) (.c (.bool true)) (.t 29),none⟩,zm 16 30])
 (zC 16 (zs (zr [8,9] [zc 8 (zI 0),zc 9 (zI 2)])
 .ret)
 .skip)))))
 (zs (zr [10,11] [zL 32 5 4,zm 33 1,zm 34 2,zm 35 3,zk 36 61 [(.t 32),(.t 33),(.t 34),(.t 35)],zm 31 36,zx 37 0 31,zx 38 1 31,zm 10 37,zm 11 38])
 (zs (.block 1 (zs (zr [10,11,39] [zm 40 11,zd 41 .neq 40 (zI 0),zm 39 41])
 (zC 39 (zs (zr [8,9] [zm 42 11,zc 8 (zI 0),zm 9 42])
 .ret)
 (zs (zr [10,43] [zm 44 10,zd 45 .gtr 44 (zI 1099511627776),zm 43 45])
 (zC 43 (zs (zr [8,9] [zc 8 (zI 0),zc 9 (zI 5)])
 .ret)
 .skip)))))
 (zs (zr [8,9] [zm 46 10,zm 8 46,zc 9 (zI 0)])
 .ret))))) }
def N58 : aw:={ np:=1,nt:=22,res:=[(2,none)],body :=
 (zs (zr [0] [zc 2 (.bool false)])
 (zs (zr [2] [zm 3 0,zd 4 .neq 3 (.str []),zm 5 4,zg 5 true (zm 6 0),zg 5 true (⟨some 7,.lens (.t 6),none⟩),zg 5 true (zd 8 .leq 7 (zI 20)),⟨some 9,.pick (.t 5) (.t 8) (.c (.bool false)),none⟩,zm 10 9,zg 10 true (zm 11 0),zg 10 true (⟨some 12,.idxS (.t 11) (.c (zI 0)),none⟩),zg 10 true (zk 13 70 [(.t 12)]),⟨some 14,.pick (.t 10) (.t 13) (.c (.bool false)),none⟩,zm 15 14,zg 15 true (zm 16 0),zg 15 true (zk 17 71 [(.t 16)]),zg 15 true (zm 18 0),zg 15 true (⟨some 19,.lens (.t 18),none⟩),zg 15 true (zb 20 .eql 17 19),⟨some 21,.pick (.t 15) (.t 20) (.c (.bool false)),none⟩,zm 2 21])
 .ret)) }
def N59 : aw:={ np:=3,nt:=34,res:=[(6,none)],body :=
 (zs (zr [0,1,2] [zc 6 (.bool false)])
 (zs (zs (zr [0,1,2,10] [zm 8 0,zk 9 72 [(.t 8)],zt 10 9])
 (zC 10 (zs (zr [6] [zc 6 (.bool false)])
 .ret)
 .skip))
 (zs (zr [0,1,2,7] [zm 11 0,zm 12 0,zn 13 12,zd 14 .sub 13 (zI 1),zi 15 2 11 14,zL 16 2 15,⟨some 7,.alc [zI 0,zI 0],none⟩,⟨none,.st 2 [] (.t 7) (.t 16),none⟩])
 (zs (zr [6] [zq 17 0,⟨some 18,.iadS 2 (.t 17) (.c (zI 0)),none⟩,zL 19 2 18,⟨some 20,.bld [zI 0,zI 0] [],none⟩,⟨some 21,.beq false [0,0] (.t 19) (.t 20),none⟩,zm 22 21,zg 22 true (zf 23 0 7),zg 22 true (zl 24 1 23),zg 22 true (zm 25 1),zg 22 true (zb 26 .eql 24 25),⟨some 27,.pick (.t 22) (.t 26) (.c (.bool false)),none⟩,zm 28 27,zg 28 true (zf 29 1 7),zg 28 true (zl 30 1 29),zg 28 true (zm 31 2),zg 28 true (zb 32 .leq 30 31),⟨some 33,.pick (.t 28) (.t 32) (.c (.bool false)),none⟩,zm 6 33])
 .ret)))) }
def N60 : aw:={ np:=2,nt:=19,res:=[(4,none)],body :=
 (zs (zr [0,1] [zc 4 (.bool false)])
 (zs (zr [4] [zm 5 0,zd 6 .geq 5 (zI 0),zm 7 6,zg 7 true (zm 8 0),zg 7 true (zd 9 .leq 8 (zI 4194304)),⟨some 10,.pick (.t 7) (.t 9) (.c (.bool false)),none⟩,zm 11 10,zg 11 true (zm 12 1),zg 11 true (zd 13 .geq 12 (zI 1)),⟨some 14,.pick (.t 11) (.t 13) (.c (.bool false)),none⟩,zm 15 14,zg 15 true (zm 16 1),zg 15 true (zd 17 .leq 16 (zI 16777216)),⟨some 18,.pick (.t 15) (.t 17) (.c (.bool false)),none⟩,zm 4 18])
 .ret)) }
def N61 : aw:={ np:=4,nt:=30,res:=[(8,none),(9,none)],body :=
 (zs (zr [1,2,3,4] [zo 4 0,zc 8 (zI 0),zc 9 (zI 0)])
 (zs (zr [2,3,10,11] [zf 13 4 4,zl 14 1 13,zm 15 1,zk 16 73 [(.t 14),(.t 15)],zm 12 16,zx 17 0 12,zx 18 1 12,zm 10 17,zm 11 18])
 (zs (zs (zr [2,3,10,11,20] [zm 19 11,zd 20 .neq 19 (zI 0)])
 (zC 20 (zs (zr [8,9] [zm 21 11,zc 8 (zI 0),zm 9 21])
 .ret)
 .skip))
 (zs (zr [8,9] [zm 22 10,zm 23 10,zk 24 74 [(.t 22),(.t 23)],zm 25 2,zk 26 75 [(.t 24),(.t 25)],zm 27 3,zk 28 76 [(.t 26),(.t 27)],zk 29 77 [(.t 28)],zm 8 29,zc 9 (zI 0)])
 .ret)))) }
def N70 : aw:={ np:=1,nt:=17,res:=[(2,none)],body :=
 (zs (zr [0] [zc 2 (.bool false)])
 (zs (zr [2] [zm 3 0,zd 4 .geq 3 (.int .u8 97),zm 5 4,zg 5 true (zm 6 0),zg 5 true (zd 7 .leq 6 (.int .u8 122)),⟨some 8,.pick (.t 5) (.t 7) (.c (.bool false)),none⟩,zm 9 8,zg 9 false (zm 10 0),zg 9 false (zd 11 .geq 10 (.int .u8 65)),zg 9 false (zm 12 11),zg 12 true (zm 13 0),zg 12 true (zd 14 .leq 13 (.int .u8 90)),zg 9 false (⟨some 15,.pick (.t 12) (.t 14) (.c (.bool false)),none⟩),⟨some 16,.pick (.t 9) (.c (.bool true)) (.t 15),none⟩,zm 2 16])
 .ret)) }
def N71 : aw:={ np:=1,nt:=29,res:=[(2,none)],body :=
 (zs (zr [0] [zc 2 (zI 0)])
 (zs (zr [0,3] [zc 3 (zI 0)])
 (zs (.block 0 (.loop (zs (zs (zr [0,3,25] [zm 4 3,zm 5 0,⟨some 6,.lens (.t 5),none⟩,zb 7 .lss 4 6,zm 8 7,zg 8 true (zm 9 0),zg 8 true (zm 10 3),zg 8 true (⟨some 11,.idxS (.t 9) (.t 10),none⟩),zg 8 true (zk 12 70 [(.t 11)]),zg 8 true (zm 13 12),zg 13 false (zm 14 0),zg 13 false (zm 15 3),zg 13 false (⟨some 16,.idxS (.t 14) (.t 15),none⟩),zg 13 false (zk 17 88 [(.t 16)]),zg 8 true (⟨some 18,.pick (.t 13) (.c (.bool true)) (.t 17),none⟩),zg 8 true (zm 19 18),zg 19 false (zm 20 0),zg 19 false (zm 21 3),zg 19 false (⟨some 22,.idxS (.t 20) (.t 21),none⟩),zg 19 false (zd 23 .eql 22 (.int .u8 95)),zg 8 true (⟨some 24,.pick (.t 19) (.c (.bool true)) (.t 23),none⟩),⟨some 25,.pick (.t 8) (.t 24) (.c (.bool false)),none⟩])
 (zC 25 .skip
 (.exit 0)))
 (.block 1 (zr [0,3] [zm 26 3,zd 27 .add 26 (zI 1),zm 3 27])))))
 (zs (zr [2] [zm 28 3,zm 2 28])
 .ret)))) }
def N72 : aw:={ np:=1,nt:=57,res:=[(2,none)],body :=
 (zs (zr [0] [zc 2 (.bool false)])
 (zs (zs (zr [0,12] [zm 5 0,zn 6 5,zd 7 .lss 6 (zI 1),zm 8 7,zg 8 false (zm 9 0),zg 8 false (zn 10 9),zg 8 false (zd 11 .gtr 10 (zI 100)),⟨some 12,.pick (.t 8) (.c (.bool true)) (.t 11),none⟩])
 (zC 12 (zs (zr [2] [zc 2 (.bool false)])
 .ret)
 .skip))
 (zs (zs (zr [0,13,14,15] [zm 13 0,zn 14 13,zc 15 (zI 0)])
 (.block 0 (.loop (zs (zr [0,13,14,15,16] [zb 16 .lss 15 14])
 (zs (zC 16 .skip
 (.exit 0))
 (zs (.block 1 (zs (zr [0,3,4,13,14,15] [zm 17 15,zi 18 2 13 15,zL 19 2 18,⟨some 4,.alc [zI 0,zI 0],none⟩,zm 3 17,⟨none,.st 2 [] (.t 4) (.t 19),none⟩])
 (zs (.reg true [0,1,3,7,15,31,63,127,255,511,1023,2047,4095,8191,16383,32767,16383,16383,147455,475135,999423,2047999,4194303,8388607,16777215,33554431,16777215,16777215,150994943,486539263,1023410175,2097151999,4294967295,8589934591,17179869183,34359738367] [0,13,14,15,55] [zf 20 0 4,zl 21 1 20,zk 22 89 [(.t 21)],zt 23 22,zm 24 23,zg 24 false (zf 25 1 4),zg 24 false (zl 26 1 25),zg 24 false (zk 27 89 [(.t 26)]),zg 24 false (zt 28 27),⟨some 29,.pick (.t 24) (.c (.bool true)) (.t 28),none⟩,zm 30 29,zg 30 false (zm 31 3),zg 30 false (zd 32 .gtr 31 (zI 0)),zg 30 false (zm 33 32),zg 33 true (zf 34 0 4),zg 33 true (zl 35 1 34),zg 33 true (zm 36 0),zg 33 true (zm 37 3),zg 33 true (zd 38 .sub 37 (zI 1)),zg 33 true (zi 39 2 36 38),zg 33 true (zf 40 0 39),zg 33 true (zl 41 1 40),zg 33 true (zb 42 .leq 35 41),zg 33 true (zm 43 42),zg 43 false (zf 44 1 4),zg 43 false (zl 45 1 44),zg 43 false (zm 46 0),zg 43 false (zm 47 3),zg 43 false (zd 48 .sub 47 (zI 1)),zg 43 false (zi 49 2 46 48),zg 43 false (zf 50 1 49),zg 43 false (zl 51 1 50),zg 43 false (zb 52 .lss 45 51),zg 33 true (⟨some 53,.pick (.t 43) (.c (.bool true)) (.t 52),none⟩),zg 30 false (⟨some 54,.pick (.t 33) (.t 53) (.c (.bool false)),none⟩),⟨some 55,.pick (.t 30) (.c (.bool true)) (.t 54),none⟩])
 (zC 55 (zs (zr [2] [zc 2 (.bool false)])
 .ret)
 .skip))))
 (zr [0,13,14,15] [zd 56 .add 15 (zI 1),zm 15 56])))))))
 (zs (zr [2] [zc 2 (.bool true)])
 .ret)))) }
def N73 : aw:={ np:=2,nt:=20,res:=[(4,none),(5,none)],body :=
 (zs (zr [0,1] [zc 4 (zI 0),zc 5 (zI 0)])
 (zs (zs (zr [0,1,11] [zm 9 0,zk 10 72 [(.t 9)],zt 11 10])
 (zC 11 (zs (zr [4,5] [zc 4 (zI 0),zc 5 (zI 1)])
 .ret)
 .skip))
 (zs (zr [6] [zq 13 0,zm 14 1,zk 15 90 [(.t 13),(.t 14)],zm 12 15,zx 16 0 12,zx 17 1 12,zx 18 2 12,zm 6 16,zm 7 17,zm 8 18])
 (zs (zr [4,5] [zm 19 6,zm 4 19,zc 5 (zI 0)])
 .ret)))) }
def N74 : aw:={ np:=2,nt:=18,res:=[(4,some (2,true))],body :=
 (zs (zr [0,1,4] [⟨some 4,.alc [.int .u64 0,.int .u64 0],none⟩])
 (zs (zr [4,5,6] [zm 8 0,⟨some 9,.conv .u64 (.t 8),none⟩,zm 10 1,⟨some 11,.conv .u64 (.t 10),none⟩,zk 12 91 [(.t 9),(.t 11)],zm 7 12,zx 13 0 7,zx 14 1 7,zm 5 13,zm 6 14])
 (zs (zr [4] [zm 15 5,zm 16 6,⟨some 17,.bld [.int .u64 0,.int .u64 0] [(0,1,(.t 15)),(1,1,(.t 16))],none⟩,⟨none,.st 2 [] (.t 4) (.t 17),none⟩])
 .ret))) }
def N75 : aw:={ np:=2,nt:=24,res:=[(4,some (2,true))],body :=
 (zs (zr [1,2,4] [zo 2 0,⟨some 4,.alc [.int .u64 0,.int .u64 0],none⟩])
 (zs (zr [1,2,4,5,6] [zf 8 1 2,zl 9 1 8,zm 10 1,⟨some 11,.conv .u64 (.t 10),none⟩,zk 12 91 [(.t 9),(.t 11)],zm 7 12,zx 13 0 7,zx 14 1 7,zm 5 13,zm 6 14])
 (zs (zr [4] [zm 15 5,zf 16 0 2,zl 17 1 16,zm 18 1,⟨some 19,.conv .u64 (.t 18),none⟩,zb 20 .mul 17 19,zb 21 .add 15 20,zm 22 6,⟨some 23,.bld [.int .u64 0,.int .u64 0] [(0,1,(.t 21)),(1,1,(.t 22))],none⟩,⟨none,.st 2 [] (.t 4) (.t 23),none⟩])
 .ret))) }
def N76 : aw:={ np:=2,nt:=31,res:=[(4,some (2,true))],body :=
 (zs (zr [1,2,4] [zo 2 0,⟨some 4,.alc [.int .u64 0,.int .u64 0],none⟩])
 (zs (.reg true [0,1,0,4,15,0,32,0,128,480,31,2047] [1,2,4,5,6] [zf 9 0 2,zl 10 1 9,zm 11 1,⟨some 12,.conv .u64 (.t 11),none⟩,zb 13 .quo 10 12,zf 14 0 2,zl 15 1 14,zm 16 1,⟨some 17,.conv .u64 (.t 16),none⟩,zb 18 .rem 15 17,zm 5 13,zm 6 18])
 (zs (zr [4,5,7] [zm 20 6,zf 21 1 2,zl 22 1 21,zm 23 1,⟨some 24,.conv .u64 (.t 23),none⟩,zk 25 92 [(.t 20),(.t 22),(.t 24)],zm 19 25,zx 26 0 19,zx 27 1 19,zm 7 26,zm 8 27])
 (zs (zr [4] [zm 28 5,zm 29 7,⟨some 30,.bld [.int .u64 0,.int .u64 0] [(0,1,(.t 28)),(1,1,(.t 29))],none⟩,⟨none,.st 2 [] (.t 4) (.t 30),none⟩])
 .ret)))) }
def N77 : aw:={ np:=1,nt:=42,res:=[(2,none)],body :=
 (zs (zr [1] [zo 1 0,zc 2 (zI 0)])
 (zs (zr [1,3] [zc 3 (.int .u64 0)])
 (zs (zs (zr [1,3,4] [zc 4 (.int .u64 4611686018427387904)])
 (.block 0 (.loop (zs (zs (zr [1,3,4,8] [zm 7 4,zd 8 .gtr 7 (.int .u64 0)])
 (zC 8 .skip
 (.exit 0)))
 (zs (.block 1 (zs (zr [1,3,4,5,6] [zm 12 3,zm 13 4,zb 14 .or 12 13,zm 15 3,zm 16 4,zb 17 .or 15 16,zk 18 91 [(.t 14),(.t 17)],zm 11 18,zx 19 0 11,zx 20 1 11,zm 5 19,zm 6 20])
 (zs (zr [1,3,4,36] [zm 21 5,zf 22 0 1,zl 23 1 22,zb 24 .lss 21 23,zm 25 24,zg 25 false (zm 26 5),zg 25 false (zf 27 0 1),zg 25 false (zl 28 1 27),zg 25 false (zb 29 .eql 26 28),zg 25 false (zm 30 29),zg 30 true (zm 31 6),zg 30 true (zf 32 1 1),zg 30 true (zl 33 1 32),zg 30 true (zb 34 .leq 31 33),zg 25 false (⟨some 35,.pick (.t 30) (.t 34) (.c (.bool false)),none⟩),⟨some 36,.pick (.t 25) (.c (.bool true)) (.t 35),none⟩])
 (zC 36 (zr [1,3,4] [zm 37 3,zm 38 4,zb 39 .or 37 38,zm 3 39])
 .skip))))
 (zr [1,3,4] [zm 9 4,zd 10 .shr 9 (.int .u64 1),zm 4 10]))))))
 (zs (zr [2] [zm 40 3,⟨some 41,.conv .i64 (.t 40),none⟩,zm 2 41])
 .ret)))) }
def N88 : aw:={ np:=1,nt:=9,res:=[(2,none)],body :=
 (zs (zr [0] [zc 2 (.bool false)])
 (zs (zr [2] [zm 3 0,zd 4 .geq 3 (.int .u8 48),zm 5 4,zg 5 true (zm 6 0),zg 5 true (zd 7 .leq 6 (.int .u8 57)),⟨some 8,.pick (.t 5) (.t 7) (.c (.bool false)),none⟩,zm 2 8])
 .ret)) }
def N89 : aw:={ np:=1,nt:=9,res:=[(2,none)],body :=
 (zs (zr [0] [zc 2 (.bool false)])
 (zs (zr [2] [zm 3 0,⟨some 4,.bin .geq (.t 3) (.c (zI (-1125899906842624))),none⟩,zm 5 4,zg 5 true (zm 6 0),zg 5 true (zd 7 .leq 6 (zI 1125899906842624)),⟨some 8,.pick (.t 5) (.t 7) (.c (.bool false)),none⟩,zm 2 8])
 .ret)) }
def N90 : aw:={ np:=2,nt:=110,res:=[(4,none),(5,none),(6,none)],body :=
 (zs (zr [0,1] [zc 4 (zI 0),zc 5 (zI 0),zc 6 (zI 0)])
 (zs (zr [0,1,7,8] [zm 23 0,zm 24 1,⟨some 25,.call 96 [(.t 23),(.t 24),(.c (.fn 97 []))] [],none⟩,zm 22 25,zx 26 0 22,zx 27 1 22,zm 7 26,zm 8 27])
 (zs (.block 0 (zs (zr [0,1,7,28] [zm 29 8,zm 30 29,zg 30 false (zm 31 7),zg 30 false (zd 32 .eql 31 (zI 0)),⟨some 33,.pick (.t 30) (.c (.bool true)) (.t 32),none⟩,zm 28 33])
 (zC 28 (zs (zr [4,5,6] [zq 34 0,zm 35 7,zi 36 2 34 35,zf 37 1 36,zl 38 1 37,zm 4 38,zc 5 (zI 0),zc 6 (zI 1)])
 .ret)
 (zs (zr [0,1,7,39] [zm 40 7,zm 41 0,zn 42 41,zb 43 .eql 40 42,zm 39 43])
 (zC 39 (zs (zr [4,5,6] [zq 44 0,zm 45 7,zd 46 .sub 45 (zI 1),zi 47 2 44 46,zf 48 1 47,zl 49 1 48,zm 4 49,zc 5 (zI 0),zc 6 (zI 1)])
 .ret)
 .skip)))))
 (zs (.reg true [0,0,2,7,15,0,0,96,224,0,0,1567,4095] [1,9,10] [zm 50 0,zm 51 7,zd 52 .sub 51 (zI 1),zi 53 2 50 52,zL 54 2 53,zq 55 0,zm 56 7,zi 57 2 55 56,zL 58 2 57,⟨some 9,.alc [zI 0,zI 0],none⟩,⟨some 10,.alc [zI 0,zI 0],none⟩,⟨none,.st 2 [] (.t 9) (.t 54),none⟩,⟨none,.st 2 [] (.t 10) (.t 58),none⟩])
 (zs (.reg true [0,1,0,4,15,0,0,64,224,0,512,0,2048,7680,31,16895,65535] [6,9,11,12] [zf 59 1 10,zl 60 1 59,zf 61 1 9,zl 62 1 61,zb 63 .sub 60 62,zm 64 1,zf 65 0 9,zl 66 1 65,zb 67 .sub 64 66,zf 68 0 10,zl 69 1 68,zf 70 0 9,zl 71 1 70,zb 72 .sub 69 71,zm 11 63,zm 12 67,zm 6 72])
 (zs (zr [6,9,11,12,13] [zm 74 11,zm 75 12,zm 76 6,zk 77 98 [(.t 74),(.t 75),(.t 76)],zm 73 77,zx 78 0 73,zx 79 1 73,zx 80 2 73,zm 13 78,zm 14 79,zm 15 80])
 (zs (zr [6,9,13,16] [zm 82 11,zm 83 12,zk 84 99 [(.t 82),(.t 83)],zm 81 84,zx 85 0 81,zx 86 1 81,⟨some 16,.alc [zI 0,zI 0],none⟩,⟨none,.st 2 [] (.t 16) (.t 85),none⟩,zm 17 86])
 (zs (zr [6,9,13,16,18] [zm 88 13,zm 89 6,zk 90 99 [(.t 88),(.t 89)],zm 87 90,zx 91 0 87,zx 92 1 87,⟨some 18,.alc [zI 0,zI 0],none⟩,⟨none,.st 2 [] (.t 18) (.t 91),none⟩,zm 19 92])
 (zs (zr [6,9,13,20] [zL 94 2 16,zL 95 2 18,zk 96 100 [(.t 94),(.t 95)],zm 93 96,zx 97 0 93,zx 98 1 93,⟨some 20,.alc [zI 0,zI 0],none⟩,⟨none,.st 2 [] (.t 20) (.t 97),none⟩,zm 21 98])
 (zs (zr [5,6,9,13] [zL 100 2 20,zk 101 101 [(.t 100)],zm 99 101,zx 102 0 99,zx 103 1 99,zm 5 102])
 (zs (zr [4,5,6] [zf 104 1 9,zl 105 1 104,zm 106 13,zb 107 .add 105 106,zm 108 5,zm 109 6,zm 4 107,zm 5 108,zm 6 109])
 .ret))))))))))) }
def N91 : aw:={ np:=2,nt:=51,res:=[(4,none),(5,none)],body :=
 (zs (zr [0,1] [zc 4 (.int .u64 0),zc 5 (.int .u64 0)])
 (zs (zr [0,1,6] [zm 14 0,zd 15 .and 14 (.int .u64 4294967295),zm 6 15])
 (zs (zr [0,1,6,7] [zm 16 0,zd 17 .shr 16 (.int .u64 32),zm 7 17])
 (zs (zr [0,1,6,7,8] [zm 18 1,zd 19 .and 18 (.int .u64 4294967295),zm 8 19])
 (zs (zr [0,1,6,7,8,9] [zm 20 1,zd 21 .shr 20 (.int .u64 32),zm 9 21])
 (zs (zr [0,1,6,7,8,9,10] [zm 22 6,zm 23 8,zb 24 .mul 22 23,zm 10 24])
 (zs (zr [0,1,6,7,9,11] [zm 25 7,zm 26 8,zb 27 .mul 25 26,zm 28 10,zd 29 .shr 28 (.int .u64 32),zb 30 .add 27 29,zm 11 30])
 (zs (zr [0,1,6,7,9,11,12] [zm 31 11,zd 32 .and 31 (.int .u64 4294967295),zm 12 32])
 (zs (zr [0,1,6,7,9,12,13] [zm 33 11,zd 34 .shr 33 (.int .u64 32),zm 13 34])
 (zs (zr [0,1,7,9,12,13] [zm 35 12,zm 36 6,zm 37 9,zb 38 .mul 36 37,zb 39 .add 35 38,zm 12 39])
 (zs (zr [0,1,4] [zm 40 7,zm 41 9,zb 42 .mul 40 41,zm 43 13,zb 44 .add 42 43,zm 45 12,zd 46 .shr 45 (.int .u64 32),zb 47 .add 44 46,zm 4 47])
 (zs (zr [4,5] [zm 48 0,zm 49 1,zb 50 .mul 48 49,zm 5 50])
 .ret)))))))))))) }
def N92 : aw:={ np:=3,nt:=135,res:=[(6,none),(7,none)],body :=
 (zs (zr [0,1,2] [zc 6 (.int .u64 0),zc 7 (.int .u64 0)])
 (zs (zs (zr [0,1,2,20] [zm 19 2,zd 20 .eql 19 (.int .u64 0)])
 (zC 20 (zr [0,1,2] [⟨some 21,.dead,none⟩,⟨none,.dead,none⟩])
 .skip))
 (zs (zs (zr [0,1,2,24] [zm 22 2,zm 23 0,zb 24 .leq 22 23])
 (zC 24 (zr [0,1,2] [⟨some 25,.dead,none⟩,⟨none,.dead,none⟩])
 .skip))
 (zs (zs (zr [0,1,2,27] [zm 26 0,zd 27 .eql 26 (.int .u64 0)])
 (zC 27 (zs (.reg true [0,0,3,0,0,24,7,127] [6,7] [zm 28 1,zm 29 2,zb 30 .quo 28 29,zm 31 1,zm 32 2,zb 33 .rem 31 32,zm 6 30,zm 7 33])
 .ret)
 .skip))
 (zs (zr [0,1,2,8] [zm 34 2,zk 35 102 [(.t 34)],⟨some 36,.conv .u64 (.t 35),none⟩,zm 8 36])
 (zs (zr [0,1,2,8] [zm 37 2,zm 38 8,zb 39 .shl 37 38,zm 2 39])
 (zs (zr [0,1,2,8,9] [zm 40 2,zd 41 .shr 40 (.int .u64 32),zm 9 41])
 (zs (zr [0,1,2,8,9,10] [zm 42 2,zd 43 .and 42 (.int .u64 4294967295),zm 10 43])
 (zs (zr [1,2,8,9,10,11] [zm 44 0,zm 45 8,zb 46 .shl 44 45,zm 47 1,zm 48 8,⟨some 49,.bin .sub (.c (.int .u64 64)) (.t 48),none⟩,zb 50 .shr 47 49,zb 51 .or 46 50,zm 11 51])
 (zs (zr [2,8,9,10,11,12] [zm 52 1,zm 53 8,zb 54 .shl 52 53,zm 12 54])
 (zs (zr [2,8,9,10,11,12,13] [zm 55 12,zd 56 .shr 55 (.int .u64 32),zm 13 56])
 (zs (zr [2,8,9,10,11,13,14] [zm 57 12,zd 58 .and 57 (.int .u64 4294967295),zm 14 58])
 (zs (zr [2,8,9,10,11,13,14,15] [zm 59 11,zm 60 9,zb 61 .quo 59 60,zm 15 61])
 (zs (zr [2,8,9,10,11,13,14,15,16] [zm 62 11,zm 63 15,zm 64 9,zb 65 .mul 63 64,zb 66 .sub 62 65,zm 16 66])
 (zs (.block 0 (.loop (zs (zs (zr [2,8,9,10,11,13,14,15,16,78] [zm 67 15,zd 68 .geq 67 (.int .u64 4294967296),zm 69 68,zg 69 false (zm 70 15),zg 69 false (zm 71 10),zg 69 false (zb 72 .mul 70 71),zg 69 false (zm 73 16),zg 69 false (⟨some 74,.bin .mul (.c (.int .u64 4294967296)) (.t 73),none⟩),zg 69 false (zm 75 13),zg 69 false (zb 76 .add 74 75),zg 69 false (zb 77 .gtr 72 76),⟨some 78,.pick (.t 69) (.c (.bool true)) (.t 77),none⟩])
 (zC 78 .skip
 (.exit 0)))
 (.block 1 (zs (zr [2,8,9,10,11,13,14,15,16] [zm 79 15,zd 80 .sub 79 (.int .u64 1),zm 15 80])
 (zs (zr [2,8,9,10,11,13,14,15,16] [zm 81 16,zm 82 9,zb 83 .add 81 82,zm 16 83])
 (zs (zr [2,8,9,10,11,13,14,15,16,85] [zm 84 16,zd 85 .geq 84 (.int .u64 4294967296)])
 (zC 85 (.exit 0)
 .skip))))))))
 (zs (zr [2,8,9,10,14,15,17] [zm 86 11,zd 87 .mul 86 (.int .u64 4294967296),zm 88 13,zb 89 .add 87 88,zm 90 15,zm 91 2,zb 92 .mul 90 91,zb 93 .sub 89 92,zm 17 93])
 (zs (zr [2,8,9,10,14,15,17,18] [zm 94 17,zm 95 9,zb 96 .quo 94 95,zm 18 96])
 (zs (zr [2,8,9,10,14,15,16,17,18] [zm 97 17,zm 98 18,zm 99 9,zb 100 .mul 98 99,zb 101 .sub 97 100,zm 16 101])
 (zs (.block 2 (.loop (zs (zs (zr [2,8,9,10,14,15,16,17,18,113] [zm 102 18,zd 103 .geq 102 (.int .u64 4294967296),zm 104 103,zg 104 false (zm 105 18),zg 104 false (zm 106 10),zg 104 false (zb 107 .mul 105 106),zg 104 false (zm 108 16),zg 104 false (⟨some 109,.bin .mul (.c (.int .u64 4294967296)) (.t 108),none⟩),zg 104 false (zm 110 14),zg 104 false (zb 111 .add 109 110),zg 104 false (zb 112 .gtr 107 111),⟨some 113,.pick (.t 104) (.c (.bool true)) (.t 112),none⟩])
 (zC 113 .skip
 (.exit 2)))
 (.block 3 (zs (zr [2,8,9,10,14,15,16,17,18] [zm 114 18,zd 115 .sub 114 (.int .u64 1),zm 18 115])
 (zs (zr [2,8,9,10,14,15,16,17,18] [zm 116 16,zm 117 9,zb 118 .add 116 117,zm 16 118])
 (zs (zr [2,8,9,10,14,15,16,17,18,120] [zm 119 16,zd 120 .geq 119 (.int .u64 4294967296)])
 (zC 120 (.exit 2)
 .skip))))))))
 (zs (zr [6,7] [zm 121 15,zd 122 .mul 121 (.int .u64 4294967296),zm 123 18,zb 124 .add 122 123,zm 125 17,zd 126 .mul 125 (.int .u64 4294967296),zm 127 14,zb 128 .add 126 127,zm 129 18,zm 130 2,zb 131 .mul 129 130,zb 132 .sub 128 131,zm 133 8,zb 134 .shr 132 133,zm 6 124,zm 7 134])
 .ret)))))))))))))))))))) }
def N96 : aw:={ np:=3,nt:=49,res:=[(6,none),(7,none)],body :=
 (zs (zr [0,1,2] [zc 6 (zI 0),zc 7 (.bool false)])
 (zs (zr [0,1,2,8] [zm 12 0,zn 13 12,zm 8 13])
 (zs (zr [0,1,2,8,9,10] [zm 14 8,zc 9 (zI 0),zm 10 14])
 (zs (.block 0 (.loop (zs (zs (zr [0,1,2,8,9,10,17] [zm 15 9,zm 16 10,zb 17 .lss 15 16])
 (zC 17 .skip
 (.exit 0)))
 (.block 1 (zs (zr [0,1,2,8,9,10,11] [zm 18 9,zm 19 10,zb 20 .add 18 19,⟨some 21,.conv .u64 (.t 20),none⟩,zd 22 .shr 21 (.int .u64 1),⟨some 23,.conv .i64 (.t 22),none⟩,zm 11 23])
 (zs (zr [0,1,2,8,9,10,11,31] [zm 24 2,zm 25 0,zm 26 11,zi 27 2 25 26,zL 28 2 27,zm 29 1,⟨some 30,.callv (.t 24) [(.t 28),(.t 29)],none⟩,zd 31 .lss 30 (zI 0)])
 (zC 31 (zr [0,1,2,8,9,10] [zm 32 11,zd 33 .add 32 (zI 1),zm 9 33])
 (zr [0,1,2,8,9,10] [zm 34 11,zm 10 34]))))))))
 (zs (zr [6,7] [zm 35 9,zm 36 9,zm 37 8,zb 38 .lss 36 37,zm 39 38,zg 39 true (zm 40 2),zg 39 true (zq 41 0),zg 39 true (zm 42 9),zg 39 true (zi 43 2 41 42),zg 39 true (zL 44 2 43),zg 39 true (zm 45 1),zg 39 true (⟨some 46,.callv (.t 40) [(.t 44),(.t 45)],none⟩),zg 39 true (zd 47 .eql 46 (zI 0)),⟨some 48,.pick (.t 39) (.t 47) (.c (.bool false)),none⟩,zm 6 35,zm 7 48])
 .ret))))) }
def N97 : aw:={ np:=2,nt:=15,res:=[(4,none)],body :=
 (zs (zr [1,2] [zo 2 0,zc 4 (zI 0)])
 (zs (.block 0 (zs (zr [1,2,5] [zf 6 0 2,zl 7 1 6,zm 8 1,zb 9 .lss 7 8,zm 5 9])
 (zC 5 (zs (zr [4] [⟨some 4,.mov (.c (zI (-1))),none⟩])
 .ret)
 (zs (zr [10] [zf 11 0 2,zl 12 1 11,zm 13 1,zb 14 .gtr 12 13,zm 10 14])
 (zC 10 (zs (zr [4] [zc 4 (zI 1)])
 .ret)
 .skip)))))
 (zs (zr [4] [zc 4 (zI 0)])
 .ret))) }
def N98 : aw:={ np:=3,nt:=35,res:=[(6,none),(7,none),(8,none)],body :=
 (zs (zr [0,1,2] [zc 6 (zI 0),zc 7 (zI 0),zc 8 (zI 0)])
 (zs (zs (zr [0,1,2,11] [zm 10 2,zd 11 .eql 10 (zI 0)])
 (zC 11 (zs (zr [6,7,8] [zc 6 (zI 0),zc 7 (zI 0),zc 8 (zI 16)])
 .ret)
 .skip))
 (zs (zr [2,9] [zm 12 0,zm 13 1,zk 14 103 [(.t 12),(.t 13)],⟨some 9,.alc [.int .u64 0,.int .u64 0,.bool false],none⟩,⟨none,.st 3 [] (.t 9) (.t 14),none⟩])
 (zs (zs (zr [2,6,8,9] [zL 16 3 9,zm 17 2,zk 18 104 [(.t 16),(.t 17),(.c (.bool false))],zm 15 18,zx 19 0 15,zx 20 1 15,zm 6 19,zm 8 20])
 (zs (zr [2,6,8,9,22] [zm 21 8,zd 22 .neq 21 (zI 0)])
 (zC 22 (zs (zr [6,7,8] [zm 23 8,zc 6 (zI 0),zc 7 (zI 0),zm 8 23])
 .ret)
 .skip)))
 (zs (zs (zr [6,7,8] [zL 25 3 9,zm 26 2,zk 27 104 [(.t 25),(.t 26),(.c (.bool true))],zm 24 27,zx 28 0 24,zx 29 1 24,zm 7 28,zm 8 29])
 (zs (zr [6,7,8,31] [zm 30 8,zd 31 .neq 30 (zI 0)])
 (zC 31 (zs (zr [6,7,8] [zm 32 8,zc 6 (zI 0),zc 7 (zI 0),zm 8 32])
 .ret)
 .skip)))
 (zs (zr [6,7,8] [zm 33 6,zm 34 7,zm 6 33,zm 7 34,zc 8 (zI 0)])
 .ret)))))) }
def N99 : aw:={ np:=2,nt:=12,res:=[(4,some (2,true)),(5,none)],body :=
 (zs (zr [0,1,4] [⟨some 4,.alc [zI 0,zI 0],none⟩,zc 5 (zI 0)])
 (zs (zr [4,5] [zm 6 0,zm 7 1,zk 8 103 [(.t 6),(.t 7)],zk 9 105 [(.t 8)],zx 10 0 9,zx 11 1 9,⟨none,.st 2 [] (.t 4) (.t 10),none⟩,zm 5 11])
 .ret)) }
def N100 : aw:={ np:=2,nt:=24,res:=[(4,some (2,true)),(5,none)],body :=
 (zs (zr [2,3,4] [zo 2 0,zo 3 1,⟨some 4,.alc [zI 0,zI 0],none⟩,zc 5 (zI 0)])
 (zs (zs (zr [2,3,4,13] [zL 6 2 2,zk 7 106 [(.t 6)],zt 8 7,zm 9 8,zg 9 false (zL 10 2 3),zg 9 false (zk 11 106 [(.t 10)]),zg 9 false (zt 12 11),⟨some 13,.pick (.t 9) (.c (.bool true)) (.t 12),none⟩])
 (zC 13 (zs (zr [4,5] [⟨some 14,.bld [zI 0,zI 0] [],none⟩,⟨none,.st 2 [] (.t 4) (.t 14),none⟩,zc 5 (zI 1)])
 .ret)
 .skip))
 (zs (.reg true [0,1,0,7,15,31,63,127,127,511,1023] [4,5] [zL 15 2 2,zk 16 108 [(.t 15)],zL 17 2 3,zk 18 108 [(.t 17)],zk 19 109 [(.t 18)],zk 20 107 [(.t 16),(.t 19)],zk 21 105 [(.t 20)],zx 22 0 21,zx 23 1 21,⟨none,.st 2 [] (.t 4) (.t 22),none⟩,zm 5 23])
 .ret))) }
def N101 : aw:={ np:=1,nt:=20,res:=[(2,none),(3,none)],body :=
 (zs (zr [1] [zo 1 0,zc 2 (zI 0),zc 3 (zI 0)])
 (zs (zs (zr [1,7] [zL 5 2 1,zk 6 106 [(.t 5)],zt 7 6])
 (zC 7 (zs (zr [2,3] [zc 2 (zI 0),zc 3 (zI 1)])
 .ret)
 .skip))
 (zs (zr [4] [zL 8 2 1,zk 9 108 [(.t 8)],⟨some 4,.alc [.int .u64 0,.int .u64 0,.bool false],none⟩,⟨none,.st 3 [] (.t 4) (.t 9),none⟩])
 (zs (zs (zr [4,12] [zf 10 0 4,zl 11 1 10,zd 12 .gtr 11 (.int .u64 0)])
 (zC 12 (zs (zr [2,3] [zc 2 (zI 0),zc 3 (zI 5)])
 .ret)
 .skip))
 (zs (zr [2,3] [zf 13 1 4,zl 14 1 13,zf 15 2 4,zl 16 1 15,zk 17 110 [(.t 14),(.t 16)],zx 18 0 17,zx 19 1 17,zm 2 18,zm 3 19])
 .ret))))) }
def N102 : aw:={ np:=1,nt:=6,res:=[(2,none)],body :=
 (zs (zr [0] [zc 2 (zI 0)])
 (zs (zr [2] [zm 3 0,zk 4 111 [(.t 3)],⟨some 5,.bin .sub (.c (zI 64)) (.t 4),none⟩,zm 2 5])
 .ret)) }
def N103 : aw:={ np:=2,nt:=23,res:=[(4,some (3,true))],body :=
 (zs (zr [0,1,4] [⟨some 4,.alc [.int .u64 0,.int .u64 0,.bool false],none⟩])
 (zs (zr [0,1,4,5,6] [zm 8 0,zk 9 112 [(.t 8)],zm 10 1,zk 11 112 [(.t 10)],zk 12 91 [(.t 9),(.t 11)],zm 7 12,zx 13 0 7,zx 14 1 7,zm 5 13,zm 6 14])
 (zs (zr [4] [zm 15 5,zm 16 6,zm 17 0,zd 18 .lss 17 (zI 0),zm 19 1,zd 20 .lss 19 (zI 0),⟨some 21,.beq true [] (.t 18) (.t 20),none⟩,zk 22 113 [(.t 15),(.t 16),(.t 21)],⟨none,.st 3 [] (.t 4) (.t 22),none⟩])
 .ret))) }
def N104 : aw:={ np:=3,nt:=52,res:=[(6,none),(7,none)],body :=
 (zs (zr [1,2,3] [zo 3 0,zc 6 (zI 0),zc 7 (zI 0)])
 (zs (zr [1,2,3,8] [zm 12 1,zk 13 112 [(.t 12)],zm 8 13])
 (zs (zs (zr [1,2,3,8,17] [zf 14 0 3,zl 15 1 14,zm 16 8,zb 17 .geq 15 16])
 (zC 17 (zs (zr [6,7] [zc 6 (zI 0),zc 7 (zI 5)])
 .ret)
 .skip))
 (zs (zr [1,2,3,9,10] [zf 19 0 3,zl 20 1 19,zf 21 1 3,zl 22 1 21,zm 23 8,zk 24 92 [(.t 20),(.t 22),(.t 23)],zm 18 24,zx 25 0 18,zx 26 1 18,zm 9 25,zm 10 26])
 (zs (zr [2,9,10,11] [zf 27 2 3,zl 28 1 27,zm 29 1,zd 30 .lss 29 (zI 0),⟨some 31,.beq true [] (.t 28) (.t 30),none⟩,zm 11 31])
 (zs (zs (zr [9,11,38] [zm 32 10,zd 33 .gtr 32 (.int .u64 0),zm 34 33,zg 34 true (zm 35 11),zg 34 true (zm 36 2),zg 34 true (⟨some 37,.beq true [] (.t 35) (.t 36),none⟩),⟨some 38,.pick (.t 34) (.t 37) (.c (.bool false)),none⟩])
 (zC 38 (zs (zr [9,11] [zm 39 9,zd 40 .add 39 (.int .u64 1),zm 9 40])
 (zs (zr [9,11,42] [zm 41 9,zd 42 .eql 41 (.int .u64 0)])
 (zC 42 (zs (zr [6,7] [zc 6 (zI 0),zc 7 (zI 5)])
 .ret)
 .skip)))
 .skip))
 (zs (zr [6,7] [zm 43 9,zm 44 11,zm 45 44,zg 45 true (zm 46 9),zg 45 true (zd 47 .gtr 46 (.int .u64 0)),⟨some 48,.pick (.t 45) (.t 47) (.c (.bool false)),none⟩,zk 49 110 [(.t 43),(.t 48)],zx 50 0 49,zx 51 1 49,zm 6 50,zm 7 51])
 .ret))))))) }
def N105 : aw:={ np:=1,nt:=56,res:=[(2,some (2,true)),(3,none)],body :=
 (zs (zr [1,2] [zo 1 0,⟨some 2,.alc [zI 0,zI 0],none⟩,zc 3 (zI 0)])
 (zs (zs (zr [1,2,23] [zf 6 0 1,zl 7 1 6,zd 8 .gtr 7 (.int .u64 72057594037927936),zm 9 8,zg 9 false (zf 10 0 1),zg 9 false (zl 11 1 10),zg 9 false (zd 12 .eql 11 (.int .u64 72057594037927936)),zg 9 false (zm 13 12),zg 13 true (zf 14 1 1),zg 13 true (zl 15 1 14),zg 13 true (zd 16 .gtr 15 (.int .u64 0)),zg 13 true (zm 17 16),zg 17 false (zf 18 2 1),zg 17 false (zl 19 1 18),zg 17 false (zt 20 19),zg 13 true (⟨some 21,.pick (.t 17) (.c (.bool true)) (.t 20),none⟩),zg 9 false (⟨some 22,.pick (.t 13) (.t 21) (.c (.bool false)),none⟩),⟨some 23,.pick (.t 9) (.c (.bool true)) (.t 22),none⟩])
 (zC 23 (zs (zr [2,3] [⟨some 24,.bld [zI 0,zI 0] [],none⟩,⟨none,.st 2 [] (.t 2) (.t 24),none⟩,zc 3 (zI 5)])
 .ret)
 .skip))
 (zs (.reg true [0,1,3,0,8,24,63,127,0,256,768,1792,255,8191] [1,2,4,5] [zf 25 0 1,zl 26 1 25,zd 27 .shl 26 (.int .u64 4),zf 28 1 1,zl 29 1 28,zd 30 .shr 29 (.int .u64 60),zb 31 .or 27 30,⟨some 32,.conv .i64 (.t 31),none⟩,zf 33 1 1,zl 34 1 33,zd 35 .and 34 (.int .u64 1152921504606846975),⟨some 36,.conv .i64 (.t 35),none⟩,zm 4 32,zm 5 36])
 (zs (.block 0 (zs (zr [2,4,5,37] [zf 38 2 1,zl 39 1 38,zt 40 39,zm 37 40])
 (zC 37 (zs (zr [2,3] [zm 41 4,zm 42 5,⟨some 43,.bld [zI 0,zI 0] [(0,1,(.t 41)),(1,1,(.t 42))],none⟩,⟨none,.st 2 [] (.t 2) (.t 43),none⟩,zc 3 (zI 0)])
 .ret)
 (zs (zr [2,4,5,44] [zm 45 5,zd 46 .eql 45 (zI 0),zm 44 46])
 (zC 44 (zs (zr [2,3] [zm 47 4,⟨some 48,.un .neg (.t 47),none⟩,⟨some 49,.bld [zI 0,zI 0] [(0,1,(.t 48))],none⟩,⟨none,.st 2 [] (.t 2) (.t 49),none⟩,zc 3 (zI 0)])
 .ret)
 .skip)))))
 (zs (zr [2,3] [zm 50 4,⟨some 51,.un .neg (.t 50),none⟩,zd 52 .sub 51 (zI 1),zm 53 5,⟨some 54,.bin .sub (.c (zI 1152921504606846976)) (.t 53),none⟩,⟨some 55,.bld [zI 0,zI 0] [(0,1,(.t 52)),(1,1,(.t 54))],none⟩,⟨none,.st 2 [] (.t 2) (.t 55),none⟩,zc 3 (zI 0)])
 .ret))))) }
def N106 : aw:={ np:=1,nt:=21,res:=[(2,none)],body :=
 (zs (zr [1] [zo 1 0,zc 2 (.bool false)])
 (zs (zr [2] [zf 3 0 1,zl 4 1 3,⟨some 5,.bin .geq (.t 4) (.c (zI (-1152921504606846976))),none⟩,zm 6 5,zg 6 true (zf 7 0 1),zg 6 true (zl 8 1 7),zg 6 true (zd 9 .lss 8 (zI 1152921504606846976)),⟨some 10,.pick (.t 6) (.t 9) (.c (.bool false)),none⟩,zm 11 10,zg 11 true (zf 12 1 1),zg 11 true (zl 13 1 12),zg 11 true (zd 14 .geq 13 (zI 0)),⟨some 15,.pick (.t 11) (.t 14) (.c (.bool false)),none⟩,zm 16 15,zg 16 true (zf 17 1 1),zg 16 true (zl 18 1 17),zg 16 true (zd 19 .lss 18 (zI 1152921504606846976)),⟨some 20,.pick (.t 16) (.t 19) (.c (.bool false)),none⟩,zm 2 20])
 .ret)) }
def N107 : aw:={ np:=2,nt:=73,res:=[(4,some (3,true))],body :=
 (zs (zr [2,3,4] [⟨some 2,.box [] (.t 0),none⟩,⟨some 3,.box [] (.t 1),none⟩,⟨some 4,.alc [.int .u64 0,.int .u64 0,.bool false],none⟩])
 (zs (zs (zr [2,3,4,13] [zf 9 2 2,zl 10 1 9,zf 11 2 3,zl 12 1 11,⟨some 13,.beq false [] (.t 10) (.t 12),none⟩])
 (zC 13 (zs (zr [2,3,4,5,6] [zf 15 1 2,zl 16 1 15,zf 17 1 3,zl 18 1 17,⟨some 19,.add64 (.t 16) (.t 18) (.c (.int .u64 0)),none⟩,zm 14 19,zx 20 0 14,zx 21 1 14,zm 5 20,zm 6 21])
 (zs (zr [4] [zf 22 0 2,zl 23 1 22,zf 24 0 3,zl 25 1 24,zb 26 .add 23 25,zm 27 6,zb 28 .add 26 27,zm 29 5,zf 30 2 2,zl 31 1 30,zk 32 113 [(.t 28),(.t 29),(.t 31)],⟨none,.st 3 [] (.t 4) (.t 32),none⟩])
 .ret))
 .skip))
 (zs (zs (zr [2,3,4,51] [zf 33 0 2,zl 34 1 33,zf 35 0 3,zl 36 1 35,zb 37 .lss 34 36,zm 38 37,zg 38 false (zf 39 0 2),zg 38 false (zl 40 1 39),zg 38 false (zf 41 0 3),zg 38 false (zl 42 1 41),zg 38 false (zb 43 .eql 40 42),zg 38 false (zm 44 43),zg 44 true (zf 45 1 2),zg 44 true (zl 46 1 45),zg 44 true (zf 47 1 3),zg 44 true (zl 48 1 47),zg 44 true (zb 49 .lss 46 48),zg 38 false (⟨some 50,.pick (.t 44) (.t 49) (.c (.bool false)),none⟩),⟨some 51,.pick (.t 38) (.c (.bool true)) (.t 50),none⟩])
 (zC 51 (zr [2,3,4] [zL 52 3 3,zL 53 3 2,⟨none,.st 3 [] (.t 2) (.t 52),none⟩,⟨none,.st 3 [] (.t 3) (.t 53),none⟩])
 .skip))
 (zs (zr [2,3,4,7,8] [zf 55 1 2,zl 56 1 55,zf 57 1 3,zl 58 1 57,⟨some 59,.sub64 (.t 56) (.t 58) (.c (.int .u64 0)),none⟩,zm 54 59,zx 60 0 54,zx 61 1 54,zm 7 60,zm 8 61])
 (zs (zr [4] [zf 62 0 2,zl 63 1 62,zf 64 0 3,zl 65 1 64,zb 66 .sub 63 65,zm 67 8,zb 68 .sub 66 67,zm 69 7,zf 70 2 2,zl 71 1 70,zk 72 113 [(.t 68),(.t 69),(.t 71)],⟨none,.st 3 [] (.t 4) (.t 72),none⟩])
 .ret))))) }
def N108 : aw:={ np:=1,nt:=37,res:=[(2,some (3,true))],body :=
 (zs (zr [1,2] [zo 1 0,⟨some 2,.alc [.int .u64 0,.int .u64 0,.bool false],none⟩])
 (zs (zr [1,2,3] [zf 7 0 1,zl 8 1 7,zk 9 112 [(.t 8)],zm 3 9])
 (zs (zr [1,2,4,5] [zm 10 3,zd 11 .shr 10 (.int .u64 4),zm 12 3,zd 13 .shl 12 (.int .u64 60),zm 4 11,zm 5 13])
 (zs (zs (zr [1,2,4,5,16] [zf 14 0 1,zl 15 1 14,zd 16 .geq 15 (zI 0)])
 (zC 16 (zs (zr [2] [zm 17 4,zm 18 5,zf 19 1 1,zl 20 1 19,⟨some 21,.conv .u64 (.t 20),none⟩,zb 22 .or 18 21,⟨some 23,.bld [.int .u64 0,.int .u64 0,.bool false] [(0,1,(.t 17)),(1,1,(.t 22)),(2,1,(.c (.bool false)))],none⟩,⟨none,.st 3 [] (.t 2) (.t 23),none⟩])
 .ret)
 .skip))
 (zs (zr [2,4,5,6] [zm 25 5,zf 26 1 1,zl 27 1 26,⟨some 28,.conv .u64 (.t 27),none⟩,⟨some 29,.sub64 (.t 25) (.t 28) (.c (.int .u64 0)),none⟩,zm 24 29,zx 30 0 24,zx 31 1 24,zm 5 30,zm 6 31])
 (zs (zr [2] [zm 32 4,zm 33 6,zb 34 .sub 32 33,zm 35 5,⟨some 36,.bld [.int .u64 0,.int .u64 0,.bool false] [(0,1,(.t 34)),(1,1,(.t 35)),(2,1,(.c (.bool true)))],none⟩,⟨none,.st 3 [] (.t 2) (.t 36),none⟩])
 .ret)))))) }
def N109 : aw:={ np:=1,nt:=11,res:=[(2,some (3,true))],body :=
 (zs (zr [1,2] [zo 1 0,⟨some 2,.alc [.int .u64 0,.int .u64 0,.bool false],none⟩])
 (zs (zr [2] [zf 3 0 1,zl 4 1 3,zf 5 1 1,zl 6 1 5,zf 7 2 1,zl 8 1 7,zt 9 8,zk 10 113 [(.t 4),(.t 6),(.t 9)],⟨none,.st 3 [] (.t 2) (.t 10),none⟩])
 .ret)) }
def N110 : aw:={ np:=2,nt:=24,res:=[(4,none),(5,none)],body :=
 (zs (zr [0,1] [zc 4 (zI 0),zc 5 (zI 0)])
 (zs (.block 0 (zs (zr [0,1,6] [zm 7 1,zt 8 7,zm 9 8,zg 9 true (zm 10 0),zg 9 true (zd 11 .leq 10 (.int .u64 9223372036854775807)),⟨some 12,.pick (.t 9) (.t 11) (.c (.bool false)),none⟩,zm 6 12])
 (zC 6 (zs (zr [4,5] [zm 13 0,⟨some 14,.conv .i64 (.t 13),none⟩,zm 4 14,zc 5 (zI 0)])
 .ret)
 (zs (zr [0,15] [zm 16 1,zm 17 16,zg 17 true (zm 18 0),zg 17 true (zd 19 .leq 18 (.int .u64 9223372036854775808)),⟨some 20,.pick (.t 17) (.t 19) (.c (.bool false)),none⟩,zm 15 20])
 (zC 15 (zs (zr [4,5] [zm 21 0,⟨some 22,.un .neg (.t 21),none⟩,⟨some 23,.conv .i64 (.t 22),none⟩,zm 4 23,zc 5 (zI 0)])
 .ret)
 .skip)))))
 (zs (zr [4,5] [zc 4 (zI 0),zc 5 (zI 5)])
 .ret))) }
def S1 : List UInt8:=[0,1,2,2,3,3,3,3,4,4,4,4,4,4,4,4,5,5,5,5,5,5,5,5,5,5,5,5,5,5,5,5,6,6,6,6,6,6,6,6,6,6,6,6,6,6,6,6,6,6,6,6,6,6,6,6,6,6,6,6,6,6,6,6,7,7,7,7,7,7,7,7,7,7,7,7,7,7,7,7,7,7,7,7,7,7,7,7,7,7,7,7,7,7,7,7,7,7,7,7,7,7,7,7,7,7,7,7,7,7,7,7,7,7,7,7,7,7,7,7,7,7,7,7,7,7,7,7,8,8,8,8,8,8,8,8,8,8,8,8,8,8,8,8,8,8,8,8,8,8,8,8,8,8,8,8,8,8,8,8,8,8,8,8,8,8,8,8,8,8,8,8,8,8,8,8,8,8,8,8,8,8,8,8,8,8,8,8,8,8,8,8,8,8,8,8,8,8,8,8,8,8,8,8,8,8,8,8,8,8,8,8,8,8,8,8,8,8,8,8,8,8,8,8,8,8,8,8,8,8,8,8,8,8,8,8,8,8,8,8,8,8,8,8,8,8,8,8,8,8,8,8,8,8,8,8]
def N111 : aw:={ np:=1,nt:=25,res:=[(2,none)],body :=
 (zs (zr [0,2] [zc 2 (zI 0)])
 (zs (zs (zr [0,2,4] [zm 3 0,zd 4 .geq 3 (.int .u64 4294967296)])
 (zC 4 (zs (zr [0] [zm 5 0,zd 6 .shr 5 (.int .u64 32),zm 0 6])
 (zr [0,2] [zc 2 (zI 32)]))
 .skip))
 (zs (zs (zr [0,2,8] [zm 7 0,zd 8 .geq 7 (.int .u64 65536)])
 (zC 8 (zs (zr [0,2] [zm 9 0,zd 10 .shr 9 (.int .u64 16),zm 0 10])
 (zr [0,2] [zm 11 2,zd 12 .add 11 (zI 16),zm 2 12]))
 .skip))
 (zs (zs (zr [0,2,14] [zm 13 0,zd 14 .geq 13 (.int .u64 256)])
 (zC 14 (zs (zr [0,2] [zm 15 0,zd 16 .shr 15 (.int .u64 8),zm 0 16])
 (zr [0,2] [zm 17 2,zd 18 .add 17 (zI 8),zm 2 18]))
 .skip))
 (zs (zr [2] [zm 19 2,zm 20 0,⟨some 21,.conv .u8 (.t 20),none⟩,⟨some 22,.idxS (.c (.str S1)) (.t 21),none⟩,⟨some 23,.conv .i64 (.t 22),none⟩,zb 24 .add 19 23,zm 2 24])
 .ret))))) }
def N112 : aw:={ np:=1,nt:=10,res:=[(2,none)],body :=
 (zs (zr [0] [zc 2 (.int .u64 0)])
 (zs (zs (zr [0,4] [zm 3 0,zd 4 .lss 3 (zI 0)])
 (zC 4 (zs (zr [2] [zm 5 0,⟨some 6,.conv .u64 (.t 5),none⟩,⟨some 7,.un .neg (.t 6),none⟩,zm 2 7])
 .ret)
 .skip))
 (zs (zr [2] [zm 8 0,⟨some 9,.conv .u64 (.t 8),none⟩,zm 2 9])
 .ret))) }
def N113 : aw:={ np:=3,nt:=19,res:=[(6,some (3,true))],body :=
 (zs (zr [0,1,2,6] [⟨some 6,.alc [.int .u64 0,.int .u64 0,.bool false],none⟩])
 (zs (zr [6] [zm 7 0,zm 8 1,zm 9 2,zm 10 9,zg 10 true (zm 11 0),zg 10 true (zd 12 .neq 11 (.int .u64 0)),zg 10 true (zm 13 12),zg 13 false (zm 14 1),zg 13 false (zd 15 .neq 14 (.int .u64 0)),zg 10 true (⟨some 16,.pick (.t 13) (.c (.bool true)) (.t 15),none⟩),⟨some 17,.pick (.t 10) (.t 16) (.c (.bool false)),none⟩,⟨some 18,.bld [.int .u64 0,.int .u64 0,.bool false] [(0,1,(.t 7)),(1,1,(.t 8)),(2,1,(.t 17))],none⟩,⟨none,.st 3 [] (.t 6) (.t 18),none⟩])
 .ret)) }
def N120 : aw:={ np:=2,nt:=20,res:=[(4,none)],body :=
 (zs (zr [1,2] [zo 2 0,zc 4 (zI 0)])
 (zs (.block 0 (zs (zr [1,2,5] [zL 6 6 2,zk 7 24 [(.t 6)],zt 8 7,zm 5 8])
 (zC 5 (zs (zr [4] [zc 4 (zI 1)])
 .ret)
 (zs (zr [1,2,9] [zm 10 1,zn 11 10,zf 12 0 2,zl 13 1 12,zn 14 13,zb 15 .neq 11 14,zm 9 15])
 (zC 9 (zs (zr [4] [zc 4 (zI 3)])
 .ret)
 (zs (zr [16] [zq 17 1,⟨some 18,.mk 122 [(.t 2)],none⟩,zk 19 11 [(.t 17),(.t 18)],zm 16 19])
 (zC 16 (zs (zr [4] [zc 4 (zI 2)])
 .ret)
 .skip)))))))
 (zs (zr [4] [zc 4 (zI 0)])
 .ret))) }
def N122 : aw:={ np:=2,nt:=13,res:=[(3,none)],body :=
 (zs (zr [0,1] [zc 3 (.bool false)])
 (zs (zr [3] [zm 4 0,zd 5 .lss 4 (zI 0),zm 6 5,zg 6 false (zm 7 0),zg 6 false (zf 8 5 1),zg 6 false (zl 9 1 8),zg 6 false (zn 10 9),zg 6 false (zb 11 .geq 7 10),⟨some 12,.pick (.t 6) (.c (.bool true)) (.t 11),none⟩,zm 3 12])
 .ret)) }
def N164 : aw:={ np:=1,nt:=80,res:=[(2,none)],body :=
 (zs (zr [1] [zo 1 0,zc 2 (.bool false)])
 (zs (zs (zr [1,17] [zf 8 0 1,zl 9 1 8,zn 10 9,zd 11 .gtr 10 (zI 300),zm 12 11,zg 12 false (zf 13 1 1),zg 12 false (zl 14 1 13),zg 12 false (zn 15 14),zg 12 false (zd 16 .gtr 15 (zI 400)),⟨some 17,.pick (.t 12) (.c (.bool true)) (.t 16),none⟩])
 (zC 17 (zs (zr [2] [zc 2 (.bool false)])
 .ret)
 .skip))
 (zs (zs (zr [1,19,20,21] [zf 18 0 1,zl 19 1 18,zn 20 19,zc 21 (zI 0)])
 (.block 0 (.loop (zs (zr [1,19,20,21,22] [zb 22 .lss 21 20])
 (zs (zC 22 .skip
 (.exit 0))
 (zs (.block 1 (zs (zr [1,3,4,19,20,21] [zm 23 21,zi 24 9 19 21,zL 25 9 24,⟨some 4,.alc [.str [],zI 0,zI 0,zI 0,zI 0,zI 0,.own 2 [],.bool false,zI 0],none⟩,zm 3 23,⟨none,.st 9 [] (.t 4) (.t 25),none⟩])
 (zs (zr [1,19,20,21,36] [zL 26 9 4,zk 27 168 [(.t 26)],zt 28 27,zm 29 28,zg 29 false (zL 30 2 1),zg 29 false (zf 31 0 4),zg 29 false (zl 32 1 31),zg 29 false (zk 33 169 [(.t 30),(.t 32)]),zg 29 false (zm 34 3),zg 29 false (zb 35 .neq 33 34),⟨some 36,.pick (.t 29) (.c (.bool true)) (.t 35),none⟩])
 (zC 36 (zs (zr [2] [zc 2 (.bool false)])
 .ret)
 .skip))))
 (zr [1,19,20,21] [zd 37 .add 21 (zI 1),zm 21 37])))))))
 (zs (zs (zr [1,39,40,41] [zf 38 1 1,zl 39 1 38,zn 40 39,zc 41 (zI 0)])
 (.block 2 (.loop (zs (zr [1,39,40,41,42] [zb 42 .lss 41 40])
 (zs (zC 42 .skip
 (.exit 2))
 (zs (.block 3 (zs (zr [1,5,6,39,40,41] [zm 43 41,zi 44 11 39 41,zL 45 11 44,⟨some 6,.alc [.str [],.str [],.str [],zI 0,zI 0,zI 0,zI 0,.str [],zI 0,zI 0,.own 2 []],none⟩,zm 5 43,⟨none,.st 11 [] (.t 6) (.t 45),none⟩])
 (zs (zs (zr [1,6,39,40,41,56] [zL 46 11 6,zk 47 170 [(.t 46)],zt 48 47,zm 49 48,zg 49 false (zL 50 2 1),zg 49 false (zf 51 0 6),zg 49 false (zl 52 1 51),zg 49 false (zk 53 171 [(.t 50),(.t 52)]),zg 49 false (zm 54 5),zg 49 false (zb 55 .neq 53 54),⟨some 56,.pick (.t 49) (.c (.bool true)) (.t 55),none⟩])
 (zC 56 (zs (zr [2] [zc 2 (.bool false)])
 .ret)
 .skip))
 (zs (zr [1,6,7,39,40,41] [zL 57 2 1,zf 58 1 6,zl 59 1 58,zk 60 169 [(.t 57),(.t 59)],zm 7 60])
 (zs (zr [1,39,40,41,78] [zm 61 7,zd 62 .lss 61 (zI 0),zm 63 62,zg 63 false (zL 64 2 1),zg 63 false (zf 65 2 6),zg 63 false (zl 66 1 65),zg 63 false (zk 67 169 [(.t 64),(.t 66)]),zg 63 false (zd 68 .lss 67 (zI 0)),⟨some 69,.pick (.t 63) (.c (.bool true)) (.t 68),none⟩,zm 70 69,zg 70 false (zf 71 0 1),zg 70 false (zl 72 1 71),zg 70 false (zm 73 7),zg 70 false (zi 74 9 72 73),zg 70 false (zf 75 1 74),zg 70 false (zl 76 1 75),zg 70 false (zd 77 .eql 76 (zI 3)),⟨some 78,.pick (.t 70) (.c (.bool true)) (.t 77),none⟩])
 (zC 78 (zs (zr [2] [zc 2 (.bool false)])
 .ret)
 .skip))))))
 (zr [1,39,40,41] [zd 79 .add 41 (zI 1),zm 41 79])))))))
 (zs (zr [2] [zc 2 (.bool true)])
 .ret))))) }
def N168 : aw:={ np:=1,nt:=101,res:=[(2,none)],body :=
 (zs (zr [1] [zo 1 0,zc 2 (.bool false)])
 (zs (zs (zr [1,29] [zf 3 0 1,zl 4 1 3,zk 5 58 [(.t 4)],zt 6 5,zm 7 6,zg 7 false (zf 8 2 1),zg 7 false (zf 9 0 8),zg 7 false (zl 10 1 9),zg 7 false (zk 11 172 [(.t 10),(.c (zI (-16777216))),(.c (zI 16777216))]),zg 7 false (zt 12 11),⟨some 13,.pick (.t 7) (.c (.bool true)) (.t 12),none⟩,zm 14 13,zg 14 false (zf 15 2 1),zg 14 false (zf 16 1 15),zg 14 false (zl 17 1 16),zg 14 false (zk 18 172 [(.t 17),(.c (zI (-16777216))),(.c (zI 16777216))]),zg 14 false (zt 19 18),⟨some 20,.pick (.t 14) (.c (.bool true)) (.t 19),none⟩,zm 21 20,zg 21 false (zf 22 4 1),zg 21 false (zl 23 1 22),zg 21 false (zf 24 5 1),zg 21 false (zl 25 1 24),zg 21 false (⟨some 26,.bls 1 2 [zI 0] [] [(0,(.t 23)),(1,(.t 25))],none⟩),zg 21 false (zk 27 173 [(.t 26)]),zg 21 false (zt 28 27),⟨some 29,.pick (.t 21) (.c (.bool true)) (.t 28),none⟩])
 (zC 29 (zs (zr [2] [zc 2 (.bool false)])
 .ret)
 .skip))
 (zs (zs (zr [1,31] [zf 30 1 1,zl 31 1 30])
 (.block 0 (zs (zs (zr [1,31,32] [zd 33 .eql 31 (zI 1),zm 32 33])
 (zC 32 .skip
 (zr [1,31,32] [zd 34 .eql 31 (zI 2),zm 32 34])))
 (zC 32 (zs (zs (zr [1,59] [zf 35 5 1,zl 36 1 35,zf 37 4 1,zl 38 1 37,zb 39 .leq 36 38,zm 40 39,zg 40 false (zf 41 6 1),zg 40 false (zl 42 1 41),zg 40 false (zf 43 5 1),zg 40 false (zl 44 1 43),zg 40 false (zf 45 4 1),zg 40 false (zl 46 1 45),zg 40 false (zb 47 .sub 44 46),zg 40 false (zk 48 174 [(.t 42),(.t 47)]),zg 40 false (zt 49 48),⟨some 50,.pick (.t 40) (.c (.bool true)) (.t 49),none⟩,zm 51 50,zg 51 false (zf 52 1 1),zg 51 false (zl 53 1 52),zg 51 false (zd 54 .eql 53 (zI 1)),zg 51 false (zm 55 54),zg 55 true (zf 56 7 1),zg 55 true (zl 57 1 56),zg 51 false (⟨some 58,.pick (.t 55) (.t 57) (.c (.bool false)),none⟩),⟨some 59,.pick (.t 51) (.c (.bool true)) (.t 58),none⟩])
 (zC 59 (zs (zr [2] [zc 2 (.bool false)])
 .ret)
 .skip))
 (zs (zs (zr [1,62] [zf 60 7 1,zl 61 1 60,zt 62 61])
 (zC 62 (zs (zr [2] [zf 63 8 1,zl 64 1 63,zd 65 .eql 64 (zI 0),zm 2 65])
 .ret)
 .skip))
 (zs (.reg true [0,1,0,4,0,16,48,112,252,508,1020,2047,4095] [2] [zf 66 8 1,zl 67 1 66,zf 68 6 1,zl 69 1 68,zf 70 6 1,zl 71 1 70,zn 72 71,zd 73 .sub 72 (zI 1),zi 74 2 69 73,zf 75 1 74,zl 76 1 75,zk 77 172 [(.t 67),(.c (zI 0)),(.t 76)],zm 2 77])
 .ret)))
 (zs (zr [1,78] [zd 79 .eql 31 (zI 3),zm 78 79])
 (zC 78 (zs (zr [2] [zf 80 5 1,zl 81 1 80,zf 82 4 1,zl 83 1 82,zb 84 .geq 81 83,zm 85 84,zg 85 true (zf 86 6 1),zg 85 true (zl 87 1 86),zg 85 true (zn 88 87),zg 85 true (zd 89 .eql 88 (zI 0)),⟨some 90,.pick (.t 85) (.t 89) (.c (.bool false)),none⟩,zm 91 90,zg 91 true (zf 92 7 1),zg 91 true (zl 93 1 92),zg 91 true (zt 94 93),⟨some 95,.pick (.t 91) (.t 94) (.c (.bool false)),none⟩,zm 96 95,zg 96 true (zf 97 8 1),zg 96 true (zl 98 1 97),zg 96 true (zd 99 .eql 98 (zI 0)),⟨some 100,.pick (.t 96) (.t 99) (.c (.bool false)),none⟩,zm 2 100])
 .ret)
 .skip))))))
 (zs (zr [2] [zc 2 (.bool false)])
 .ret)))) }
def N169 : aw:={ np:=2,nt:=9,res:=[(4,none)],body :=
 (zs (zr [2,3] [zo 2 0,zo 3 1,zc 4 (zI 0)])
 (zs (zr [4] [zf 5 0 2,zl 6 1 5,⟨some 7,.mk 176 [(.t 3)],none⟩,zk 8 175 [(.t 6),(.t 7)],zm 4 8])
 .ret)) }
def N170 : aw:={ np:=1,nt:=97,res:=[(2,none)],body :=
 (zs (zr [1] [zo 1 0,zc 2 (.bool false)])
 (zs (zs (.reg true [0,1,3,7,15,31,63,127,255,511,1023,2047,4095,8191,16383,32767,65535,131071,262143,131071,655359,2097151,4194303,8388607,16777215,33554431,67108863,134217727,268435455,536870911,1073741823,2147483647,2147483647,6442450943,17179869183,34359738367,68719476735] [1,39] [zf 3 0 1,zl 4 1 3,zk 5 58 [(.t 4)],zt 6 5,zm 7 6,zg 7 false (zf 8 1 1),zg 7 false (zl 9 1 8),zg 7 false (zk 10 58 [(.t 9)]),zg 7 false (zt 11 10),⟨some 12,.pick (.t 7) (.c (.bool true)) (.t 11),none⟩,zm 13 12,zg 13 false (zf 14 2 1),zg 13 false (zl 15 1 14),zg 13 false (zk 16 58 [(.t 15)]),zg 13 false (zt 17 16),⟨some 18,.pick (.t 13) (.c (.bool true)) (.t 17),none⟩,zm 19 18,zg 19 false (zf 20 1 1),zg 19 false (zl 21 1 20),zg 19 false (zf 22 2 1),zg 19 false (zl 23 1 22),zg 19 false (zb 24 .eql 21 23),⟨some 25,.pick (.t 19) (.c (.bool true)) (.t 24),none⟩,zm 26 25,zg 26 false (zf 27 5 1),zg 26 false (zl 28 1 27),zg 26 false (⟨some 29,.bls 1 1 [zI 0] [] [(0,(.t 28))],none⟩),zg 26 false (zk 30 173 [(.t 29)]),zg 26 false (zt 31 30),⟨some 32,.pick (.t 26) (.c (.bool true)) (.t 31),none⟩,zm 33 32,zg 33 false (zL 34 11 1),zg 33 false (zL 35 11 1),zg 33 false (zk 36 178 [(.t 35)]),zg 33 false (zk 37 177 [(.t 34),(.t 36)]),zg 33 false (zt 38 37),⟨some 39,.pick (.t 33) (.c (.bool true)) (.t 38),none⟩])
 (zC 39 (zs (zr [2] [zc 2 (.bool false)])
 .ret)
 .skip))
 (zs (zs (zr [1,41] [zf 40 3 1,zl 41 1 40])
 (.block 0 (zs (zr [1,41,42] [zd 43 .eql 41 (zI 1),zm 42 43])
 (zC 42 (zs (zr [2] [zf 44 4 1,zl 45 1 44,zk 46 172 [(.t 45),(.c (zI 1)),(.c (zI 16777216))],zm 47 46,zg 47 true (zf 48 6 1),zg 47 true (zl 49 1 48),zg 47 true (⟨some 50,.bls 1 1 [zI 0] [] [(0,(.t 49))],none⟩),zg 47 true (zk 51 173 [(.t 50)]),⟨some 52,.pick (.t 47) (.t 51) (.c (.bool false)),none⟩,zm 53 52,zg 53 true (zf 54 7 1),zg 53 true (zl 55 1 54),zg 53 true (zk 56 58 [(.t 55)]),⟨some 57,.pick (.t 53) (.t 56) (.c (.bool false)),none⟩,zm 2 57])
 .ret)
 (zs (zr [1,41,58] [zd 59 .eql 41 (zI 2),zm 58 59])
 (zC 58 (zs (zr [2] [zf 60 8 1,zl 61 1 60,zk 62 172 [(.t 61),(.c (zI 1)),(.c (zI 1048576))],zm 2 62])
 .ret)
 (zs (zr [1,41,63] [zd 64 .eql 41 (zI 3),zm 63 64])
 (zC 63 (zs (zr [2] [zf 65 8 1,zl 66 1 65,zk 67 172 [(.t 66),(.c (zI 1)),(.c (zI 32768))],zm 68 67,zg 68 true (zf 69 9 1),zg 68 true (zl 70 1 69),zg 68 true (zk 71 172 [(.t 70),(.c (zI 1)),(.c (zI 32768))]),⟨some 72,.pick (.t 68) (.t 71) (.c (.bool false)),none⟩,zm 2 72])
 .ret)
 (zs (zr [1,73] [zd 74 .eql 41 (zI 4),zm 73 74])
 (zC 73 (zs (zr [2] [zf 75 6 1,zl 76 1 75,⟨some 77,.bls 1 1 [zI 0] [] [(0,(.t 76))],none⟩,zk 78 173 [(.t 77)],zm 79 78,zg 79 true (zf 80 6 1),zg 79 true (zl 81 1 80),zg 79 true (zf 82 5 1),zg 79 true (zl 83 1 82),zg 79 true (zb 84 .lss 81 83),⟨some 85,.pick (.t 79) (.t 84) (.c (.bool false)),none⟩,zm 86 85,zg 86 true (zf 87 10 1),zg 86 true (zl 88 1 87),zg 86 true (zk 89 72 [(.t 88)]),⟨some 90,.pick (.t 86) (.t 89) (.c (.bool false)),none⟩,zm 91 90,zg 91 true (zf 92 10 1),zg 91 true (zl 93 1 92),zg 91 true (⟨some 94,.call 179 [(.t 93),(.c (.fn 180 []))] [],none⟩),zg 91 true (zt 95 94),⟨some 96,.pick (.t 91) (.t 95) (.c (.bool false)),none⟩,zm 2 96])
 .ret)
 .skip))))))))))
 (zs (zr [2] [zc 2 (.bool false)])
 .ret)))) }
def N171 : aw:={ np:=2,nt:=9,res:=[(4,none)],body :=
 (zs (zr [2,3] [zo 2 0,zo 3 1,zc 4 (zI 0)])
 (zs (zr [4] [zf 5 1 2,zl 6 1 5,⟨some 7,.mk 182 [(.t 3)],none⟩,zk 8 181 [(.t 6),(.t 7)],zm 4 8])
 .ret)) }
def N172 : aw:={ np:=3,nt:=15,res:=[(6,none)],body :=
 (zs (zr [0,1,2] [zc 6 (.bool false)])
 (zs (zr [6] [zm 7 0,zm 8 1,zb 9 .geq 7 8,zm 10 9,zg 10 true (zm 11 0),zg 10 true (zm 12 2),zg 10 true (zb 13 .leq 11 12),⟨some 14,.pick (.t 10) (.t 13) (.c (.bool false)),none⟩,zm 6 14])
 .ret)) }
def N173 : aw:={ np:=1,nt:=6,res:=[(2,none)],body :=
 (zs (zr [0] [zc 2 (.bool false)])
 (zs (zr [2] [zq 3 0,⟨some 4,.call 11 [(.t 3),(.c (.fn 183 []))] [],none⟩,zt 5 4,zm 2 5])
 .ret)) }
def N174 : aw:={ np:=2,nt:=31,res:=[(4,none)],body :=
 (zs (zr [0,1] [zc 4 (.bool false)])
 (zs (zs (zr [0,1,8] [zm 6 0,zk 7 72 [(.t 6)],zt 8 7])
 (zC 8 (zs (zr [4] [zc 4 (.bool false)])
 .ret)
 .skip))
 (zs (zr [0,1,5] [zm 9 0,zm 10 0,zn 11 10,zd 12 .sub 11 (zI 1),zi 13 2 9 12,zL 14 2 13,⟨some 5,.alc [zI 0,zI 0],none⟩,⟨none,.st 2 [] (.t 5) (.t 14),none⟩])
 (zs (zr [4] [zq 15 0,⟨some 16,.iadS 2 (.t 15) (.c (zI 0)),none⟩,zL 17 2 16,⟨some 18,.bld [zI 0,zI 0] [],none⟩,⟨some 19,.beq false [0,0] (.t 17) (.t 18),none⟩,zm 20 19,zg 20 true (zf 21 0 5),zg 20 true (zl 22 1 21),zg 20 true (zm 23 1),zg 20 true (zb 24 .eql 22 23),⟨some 25,.pick (.t 20) (.t 24) (.c (.bool false)),none⟩,zm 26 25,zg 26 true (zf 27 1 5),zg 26 true (zl 28 1 27),zg 26 true (zd 29 .leq 28 (zI 1125899906842624)),⟨some 30,.pick (.t 26) (.t 29) (.c (.bool false)),none⟩,zm 4 30])
 .ret)))) }
def N175 : aw:={ np:=2,nt:=19,res:=[(4,none)],body :=
 (zs (zr [0,1] [zc 4 (zI 0)])
 (zs (zs (zr [0,1,7,8] [zm 6 0,zn 7 6,zc 8 (zI 0)])
 (.block 0 (.loop (zs (zr [0,1,7,8,9] [zb 9 .lss 8 7])
 (zs (zC 9 .skip
 (.exit 0))
 (zs (.block 1 (zs (zr [0,1,5,7,8] [zm 10 8,zm 5 10])
 (zs (zr [0,1,5,7,8,16] [zm 11 1,zm 12 0,zm 13 5,zi 14 9 12 13,zL 15 9 14,⟨some 16,.callv (.t 11) [(.t 15)],none⟩])
 (zC 16 (zs (zr [4] [zm 17 5,zm 4 17])
 .ret)
 .skip))))
 (zr [0,1,7,8] [zd 18 .add 8 (zI 1),zm 8 18])))))))
 (zs (zr [4] [⟨some 4,.mov (.c (zI (-1))),none⟩])
 .ret))) }
def N176 : aw:={ np:=2,nt:=8,res:=[(3,none)],body :=
 (zs (zr [1,2] [zo 2 0,zc 3 (.bool false)])
 (zs (zr [3] [zf 4 0 2,zl 5 1 4,zl 6 1 1,zb 7 .eql 5 6,zm 3 7])
 .ret)) }
def N177 : aw:={ np:=2,nt:=80,res:=[(4,none)],body :=
 (zs (zr [2,3] [zo 2 0,zo 3 1,zc 4 (.bool false)])
 (zs (zr [4] [zf 5 0 2,zl 6 1 5,zf 7 0 3,zl 8 1 7,zb 9 .eql 6 8,zm 10 9,zg 10 true (zf 11 1 2),zg 10 true (zl 12 1 11),zg 10 true (zf 13 1 3),zg 10 true (zl 14 1 13),zg 10 true (zb 15 .eql 12 14),⟨some 16,.pick (.t 10) (.t 15) (.c (.bool false)),none⟩,zm 17 16,zg 17 true (zf 18 2 2),zg 17 true (zl 19 1 18),zg 17 true (zf 20 2 3),zg 17 true (zl 21 1 20),zg 17 true (zb 22 .eql 19 21),⟨some 23,.pick (.t 17) (.t 22) (.c (.bool false)),none⟩,zm 24 23,zg 24 true (zf 25 3 2),zg 24 true (zl 26 1 25),zg 24 true (zf 27 3 3),zg 24 true (zl 28 1 27),zg 24 true (zb 29 .eql 26 28),⟨some 30,.pick (.t 24) (.t 29) (.c (.bool false)),none⟩,zm 31 30,zg 31 true (zf 32 4 2),zg 31 true (zl 33 1 32),zg 31 true (zf 34 4 3),zg 31 true (zl 35 1 34),zg 31 true (zb 36 .eql 33 35),⟨some 37,.pick (.t 31) (.t 36) (.c (.bool false)),none⟩,zm 38 37,zg 38 true (zf 39 5 2),zg 38 true (zl 40 1 39),zg 38 true (zf 41 5 3),zg 38 true (zl 42 1 41),zg 38 true (zb 43 .eql 40 42),⟨some 44,.pick (.t 38) (.t 43) (.c (.bool false)),none⟩,zm 45 44,zg 45 true (zf 46 6 2),zg 45 true (zl 47 1 46),zg 45 true (zf 48 6 3),zg 45 true (zl 49 1 48),zg 45 true (zb 50 .eql 47 49),⟨some 51,.pick (.t 45) (.t 50) (.c (.bool false)),none⟩,zm 52 51,zg 52 true (zf 53 7 2),zg 52 true (zl 54 1 53),zg 52 true (zf 55 7 3),zg 52 true (zl 56 1 55),zg 52 true (zb 57 .eql 54 56),⟨some 58,.pick (.t 52) (.t 57) (.c (.bool false)),none⟩,zm 59 58,zg 59 true (zf 60 8 2),zg 59 true (zl 61 1 60),zg 59 true (zf 62 8 3),zg 59 true (zl 63 1 62),zg 59 true (zb 64 .eql 61 63),⟨some 65,.pick (.t 59) (.t 64) (.c (.bool false)),none⟩,zm 66 65,zg 66 true (zf 67 9 2),zg 66 true (zl 68 1 67),zg 66 true (zf 69 9 3),zg 66 true (zl 70 1 69),zg 66 true (zb 71 .eql 68 70),⟨some 72,.pick (.t 66) (.t 71) (.c (.bool false)),none⟩,zm 73 72,zg 73 true (zf 74 10 2),zg 73 true (zl 75 1 74),zg 73 true (zf 76 10 3),zg 73 true (zl 77 1 76),zg 73 true (zk 78 184 [(.t 75),(.t 77)]),⟨some 79,.pick (.t 73) (.t 78) (.c (.bool false)),none⟩,zm 4 79])
 .ret)) }
def N178 : aw:={ np:=1,nt:=50,res:=[(2,some (11,true))],body :=
 (zs (zr [1,2] [zo 1 0,⟨some 2,.alc [.str [],.str [],.str [],zI 0,zI 0,zI 0,zI 0,.str [],zI 0,zI 0,.own 2 []],none⟩])
 (zs (zr [1,2,3] [zf 4 0 1,zl 5 1 4,zf 6 1 1,zl 7 1 6,zf 8 2 1,zl 9 1 8,zf 10 3 1,zl 11 1 10,zf 12 5 1,zl 13 1 12,⟨some 14,.bld [.str [],.str [],.str [],zI 0,zI 0,zI 0,zI 0,.str [],zI 0,zI 0,.nils] [(0,1,(.t 5)),(1,1,(.t 7)),(2,1,(.t 9)),(3,1,(.t 11)),(5,1,(.t 13))],none⟩,⟨some 3,.alc [.str [],.str [],.str [],zI 0,zI 0,zI 0,zI 0,.str [],zI 0,zI 0,.own 2 []],none⟩,⟨none,.st 11 [] (.t 3) (.t 14),none⟩])
 (zs (zs (zr [1,2,3,16] [zf 15 3 1,zl 16 1 15])
 (.block 0 (zs (zr [1,2,3,16,17] [zd 18 .eql 16 (zI 1),zm 17 18])
 (zC 17 (.reg true [0,1,0,4,0,16,3,67,207,463,1023,2047] [2,3] [zf 19 4 1,zl 20 1 19,zf 21 6 1,zl 22 1 21,zf 23 7 1,zl 24 1 23,zf 25 4 3,⟨none,.st 1 [] (.t 25) (.t 20),none⟩,zf 26 6 3,⟨none,.st 1 [] (.t 26) (.t 22),none⟩,zf 27 7 3,⟨none,.st 1 [] (.t 27) (.t 24),none⟩])
 (zs (zr [1,2,3,16,28] [zd 29 .eql 16 (zI 2),zm 28 29])
 (zC 28 (zr [2,3] [zf 30 8 1,zl 31 1 30,zf 32 8 3,⟨none,.st 1 [] (.t 32) (.t 31),none⟩])
 (zs (zr [1,2,3,16,33] [zd 34 .eql 16 (zI 3),zm 33 34])
 (zC 33 (.reg true [0,1,0,4,3,19,63,127] [2,3] [zf 35 8 1,zl 36 1 35,zf 37 9 1,zl 38 1 37,zf 39 8 3,⟨none,.st 1 [] (.t 39) (.t 36),none⟩,zf 40 9 3,⟨none,.st 1 [] (.t 40) (.t 38),none⟩])
 (zs (zr [1,2,3,41] [zd 42 .eql 16 (zI 4),zm 41 42])
 (zC 41 (.reg true [0,1,0,4,3,19,63,127] [2,3] [zf 43 6 1,zl 44 1 43,zf 45 10 1,zl 46 1 45,zf 47 6 3,⟨none,.st 1 [] (.t 47) (.t 44),none⟩,zf 48 10 3,⟨none,.st 1 [] (.t 48) (.t 46),none⟩])
 .skip))))))))))
 (zs (zr [2] [zL 49 11 3,⟨none,.st 11 [] (.t 2) (.t 49),none⟩])
 .ret)))) }
def N179 : aw:={ np:=2,nt:=9,res:=[(4,none)],body :=
 (zs (zr [0,1] [zc 4 (.bool false)])
 (zs (zr [4] [zq 5 0,zm 6 1,zk 7 185 [(.t 5),(.t 6)],zd 8 .geq 7 (zI 0),zm 4 8])
 .ret)) }
def N180 : aw:={ np:=1,nt:=13,res:=[(2,none)],body :=
 (zs (zr [1] [zo 1 0,zc 2 (.bool false)])
 (zs (zr [2] [zf 3 0 1,zl 4 1 3,zk 5 172 [(.t 4),(.c (zI 0)),(.c (zI 4194304))],zt 6 5,zm 7 6,zg 7 false (zf 8 1 1),zg 7 false (zl 9 1 8),zg 7 false (zk 10 172 [(.t 9),(.c (zI 0)),(.c (zI 1099511627776))]),zg 7 false (zt 11 10),⟨some 12,.pick (.t 7) (.c (.bool true)) (.t 11),none⟩,zm 2 12])
 .ret)) }
def N181 : aw:={ np:=2,nt:=19,res:=[(4,none)],body :=
 (zs (zr [0,1] [zc 4 (zI 0)])
 (zs (zs (zr [0,1,7,8] [zm 6 0,zn 7 6,zc 8 (zI 0)])
 (.block 0 (.loop (zs (zr [0,1,7,8,9] [zb 9 .lss 8 7])
 (zs (zC 9 .skip
 (.exit 0))
 (zs (.block 1 (zs (zr [0,1,5,7,8] [zm 10 8,zm 5 10])
 (zs (zr [0,1,5,7,8,16] [zm 11 1,zm 12 0,zm 13 5,zi 14 11 12 13,zL 15 11 14,⟨some 16,.callv (.t 11) [(.t 15)],none⟩])
 (zC 16 (zs (zr [4] [zm 17 5,zm 4 17])
 .ret)
 .skip))))
 (zr [0,1,7,8] [zd 18 .add 8 (zI 1),zm 8 18])))))))
 (zs (zr [4] [⟨some 4,.mov (.c (zI (-1))),none⟩])
 .ret))) }
def N182 : aw:={ np:=2,nt:=8,res:=[(3,none)],body :=
 (zs (zr [1,2] [zo 2 0,zc 3 (.bool false)])
 (zs (zr [3] [zf 4 0 2,zl 5 1 4,zl 6 1 1,zb 7 .eql 5 6,zm 3 7])
 .ret)) }
def N183 : aw:={ np:=1,nt:=9,res:=[(2,none)],body :=
 (zs (zr [0] [zc 2 (.bool false)])
 (zs (zr [2] [zm 3 0,⟨some 4,.bin .lss (.t 3) (.c (zI (-4194304))),none⟩,zm 5 4,zg 5 false (zm 6 0),zg 5 false (zd 7 .gtr 6 (zI 4194304)),⟨some 8,.pick (.t 5) (.c (.bool true)) (.t 7),none⟩,zm 2 8])
 .ret)) }
def N184 : aw:={ np:=2,nt:=26,res:=[(4,none)],body :=
 (zs (zr [0,1] [zc 4 (.bool false)])
 (zs (zs (zr [0,1,10] [zm 6 0,zn 7 6,zm 8 1,zn 9 8,zb 10 .neq 7 9])
 (zC 10 (zs (zr [4] [zc 4 (.bool false)])
 .ret)
 .skip))
 (zs (zs (zr [0,1,12,13] [zm 11 0,zn 12 11,zc 13 (zI 0)])
 (.block 0 (.loop (zs (zr [0,1,12,13,14] [zb 14 .lss 13 12])
 (zs (zC 14 .skip
 (.exit 0))
 (zs (.block 1 (zs (zr [0,1,5,12,13] [zm 15 13,zm 5 15])
 (zs (.reg true [0,0,3,7,0,0,48,112,255] [0,1,12,13,24] [zm 16 0,zm 17 5,zi 18 2 16 17,zL 19 2 18,zm 20 1,zm 21 5,zi 22 2 20 21,zL 23 2 22,⟨some 24,.beq true [0,0] (.t 19) (.t 23),none⟩])
 (zC 24 (zs (zr [4] [zc 4 (.bool false)])
 .ret)
 .skip))))
 (zr [0,1,12,13] [zd 25 .add 13 (zI 1),zm 13 25])))))))
 (zs (zr [4] [zc 4 (.bool true)])
 .ret)))) }
def N185 : aw:={ np:=2,nt:=19,res:=[(4,none)],body :=
 (zs (zr [0,1] [zc 4 (zI 0)])
 (zs (zs (zr [0,1,7,8] [zm 6 0,zn 7 6,zc 8 (zI 0)])
 (.block 0 (.loop (zs (zr [0,1,7,8,9] [zb 9 .lss 8 7])
 (zs (zC 9 .skip
 (.exit 0))
 (zs (.block 1 (zs (zr [0,1,5,7,8] [zm 10 8,zm 5 10])
 (zs (zr [0,1,5,7,8,16] [zm 11 1,zm 12 0,zm 13 5,zi 14 2 12 13,zL 15 2 14,⟨some 16,.callv (.t 11) [(.t 15)],none⟩])
 (zC 16 (zs (zr [4] [zm 17 5,zm 4 17])
 .ret)
 .skip))))
 (zr [0,1,7,8] [zd 18 .add 8 (zI 1),zm 8 18])))))))
 (zs (zr [4] [⟨some 4,.mov (.c (zI (-1))),none⟩])
 .ret))) }
def N299 : aw:={ np:=1,nt:=6,res:=[(2,none)],body :=
 (zs (zr [0] [zc 2 (.bool false)])
 (zs (zr [2] [zm 3 0,zm 4 0,zb 5 .neq 3 4,zm 2 5])
 .ret)) }
def N315 : aw:={ np:=2,nt:=48,res:=[(4,none)],body :=
 (zs (zr [0,1] [zc 4 .nils])
 (zs (zs (zr [0,1,10] [zm 9 1,zd 10 .lss 9 (zI 0)])
 (zC 10 (zr [0,1] [⟨some 11,.dead,none⟩,⟨none,.dead,none⟩])
 .skip))
 (zs (zr [0,5,6] [zm 13 0,zn 14 13,⟨some 15,.conv .u64 (.t 14),none⟩,zm 16 1,⟨some 17,.conv .u64 (.t 16),none⟩,zk 18 333 [(.t 15),(.t 17)],zm 12 18,zx 19 0 12,zx 20 1 12,zm 5 19,zm 6 20])
 (zs (zs (zr [0,6,26] [zm 21 5,zd 22 .gtr 21 (.int .u64 0),zm 23 22,zg 23 false (zm 24 6),zg 23 false (zd 25 .gtr 24 (.int .u64 9223372036854775807)),⟨some 26,.pick (.t 23) (.c (.bool true)) (.t 25),none⟩])
 (zC 26 (zr [0,6] [⟨some 27,.dead,none⟩,⟨none,.dead,none⟩])
 .skip))
 (zs (zr [0,7] [zm 28 6,⟨some 29,.conv .i64 (.t 28),none⟩,⟨some 30,.mks 1 8 [zI 0] (.t 29) (.t 29),none⟩,zq 7 30])
 (zs (zr [7,8] [zm 31 7,zq 32 0,⟨some 33,.cpy 1 (.t 31) (.t 32),none⟩,zm 8 33])
 (zs (.block 0 (.loop (zs (zs (zr [7,8,37] [zm 34 8,zm 35 7,zn 36 35,zb 37 .lss 34 36])
 (zC 37 .skip
 (.exit 0)))
 (.block 1 (.reg true [0,0,0,6,0,0,48,126,255,511] [7,8] [zm 38 8,zm 39 7,zm 40 8,⟨some 41,.slc 1 (.t 39) (some (.t 40)) none,none⟩,zm 42 7,zm 43 8,⟨some 44,.slc 1 (.t 42) none (some (.t 43)),none⟩,⟨some 45,.cpy 1 (.t 41) (.t 44),none⟩,zb 46 .add 38 45,zm 8 46])))))
 (zs (zr [4] [zq 47 7,zq 4 47])
 .ret)))))))) }
def N333 : aw:={ np:=2,nt:=30,res:=[(4,none),(5,none)],body :=
 (zs (zr [0,1] [zc 4 (.int .u64 0),zc 5 (.int .u64 0)])
 (zs (.cond (.c (.bool false)) (zs (zr [6,7] [zm 11 0,⟨some 12,.conv .u32 (.t 11),none⟩,zm 13 1,⟨some 14,.conv .u32 (.t 13),none⟩,zk 15 339 [(.t 12),(.t 14)],zm 10 15,zx 16 0 10,zx 17 1 10,zm 6 16,zm 7 17])
 (zs (zr [4,5] [zm 18 6,⟨some 19,.conv .u64 (.t 18),none⟩,zm 20 7,⟨some 21,.conv .u64 (.t 20),none⟩,zm 4 19,zm 5 21])
 .ret))
 .skip)
 (zs (zr [8,9] [zm 23 0,zm 24 1,zk 25 91 [(.t 23),(.t 24)],zm 22 25,zx 26 0 22,zx 27 1 22,zm 8 26,zm 9 27])
 (zs (zr [4,5] [zm 28 8,zm 29 9,zm 4 28,zm 5 29])
 .ret)))) }
def N339 : aw:={ np:=2,nt:=17,res:=[(4,none),(5,none)],body :=
 (zs (zr [0,1] [zc 4 (.int .u32 0),zc 5 (.int .u32 0)])
 (zs (zr [6] [zm 7 0,⟨some 8,.conv .u64 (.t 7),none⟩,zm 9 1,⟨some 10,.conv .u64 (.t 9),none⟩,zb 11 .mul 8 10,zm 6 11])
 (zs (zr [4,5] [zm 12 6,zd 13 .shr 12 (.int .u64 32),⟨some 14,.conv .u32 (.t 13),none⟩,zm 15 6,⟨some 16,.conv .u32 (.t 15),none⟩,zm 4 14,zm 5 16])
 .ret))) }
def N411 : aw:={ np:=2,nt:=17,res:=[(4,none)],body :=
 (zs (zr [0,1] [zc 4 (.bool false)])
 (zs (zr [4] [zm 5 0,zk 6 299 [(.t 5)],zm 7 6,zg 7 true (zm 8 1),zg 7 true (zk 9 299 [(.t 8)]),zg 7 true (zt 10 9),⟨some 11,.pick (.t 7) (.t 10) (.c (.bool false)),none⟩,zm 12 11,zg 12 false (zm 13 0),zg 12 false (zm 14 1),zg 12 false (zb 15 .lss 13 14),⟨some 16,.pick (.t 12) (.c (.bool true)) (.t 15),none⟩,zm 4 16])
 .ret)) }
def N441 : aw:={ np:=2,nt:=16,res:=[(4,none),(5,none)],body :=
 (zs (zr [0,3] [zo 3 1,zc 4 (zI 0),zc 5 (zI 0)])
 (zs (zs (zr [0,3,9] [zm 7 0,zk 8 44 [(.t 7)],zt 9 8])
 (zC 9 (zs (zr [4,5] [zc 4 (zI 0),zc 5 (zI 1)])
 .ret)
 .skip))
 (zs (zs (zr [6] [zq 10 0,⟨some 11,.mk 480 [(.t 3)],none⟩,zk 12 52 [(.t 10),(.t 11)],zm 6 12])
 (zs (zr [6,14] [zm 13 6,zd 14 .geq 13 (zI 0)])
 (zC 14 (zs (zr [4,5] [zm 15 6,zm 4 15,zc 5 (zI 0)])
 .ret)
 .skip)))
 (zs (zr [4,5] [zc 4 (zI 0),zc 5 (zI 9)])
 .ret)))) }
def N453 : aw:={ np:=2,nt:=9,res:=[(4,none)],body :=
 (zs (zr [0,1] [zc 4 (.bool false)])
 (zs (zr [4] [zq 5 0,zm 6 1,zk 7 175 [(.t 5),(.t 6)],zd 8 .geq 7 (zI 0),zm 4 8])
 .ret)) }
def N455 : aw:={ np:=2,nt:=9,res:=[(4,none)],body :=
 (zs (zr [0,1] [zc 4 (.bool false)])
 (zs (zr [4] [zq 5 0,zm 6 1,zk 7 181 [(.t 5),(.t 6)],zd 8 .geq 7 (zI 0),zm 4 8])
 .ret)) }
def N471 : aw:={ np:=1,nt:=9,res:=[(2,none),(3,none)],body :=
 (zs (zr [1] [zo 1 0,zc 2 .nils,zc 3 (zI 0)])
 (zs (zs (zr [1,6] [zL 4 2 1,zk 5 164 [(.t 4)],zt 6 5])
 (zC 6 (zs (zr [2,3] [zc 2 .nils,zc 3 (zI 1)])
 .ret)
 .skip))
 (zs (zr [2,3] [zL 7 2 1,zk 8 499 [(.t 7)],zq 2 8,zc 3 (zI 0)])
 .ret))) }
def N480 : aw:={ np:=2,nt:=8,res:=[(3,none)],body :=
 (zs (zr [1,2] [zo 2 0,zc 3 (.bool false)])
 (zs (zr [3] [zf 4 0 2,zl 5 1 4,zl 6 1 1,zb 7 .eql 5 6,zm 3 7])
 .ret)) }
def N495 : aw:={ np:=1,nt:=15,res:=[(2,none),(3,none)],body :=
 (zs (zr [1] [zo 1 0,zc 2 .nils,zc 3 (zI 0)])
 (zs (zs (zr [1,6] [zL 4 2 1,zk 5 164 [(.t 4)],zt 6 5])
 (zC 6 (zs (zr [2,3] [zc 2 .nils,zc 3 (zI 1)])
 .ret)
 .skip))
 (zs (.reg true [0,1,3,0,8,31,63,63,255,511] [2,3] [zf 7 0 1,zl 8 1 7,zn 9 8,zL 10 2 1,zk 11 499 [(.t 10)],zk 12 511 [(.t 9),(.t 11)],zx 13 0 12,zx 14 1 12,zq 2 13,zm 3 14])
 .ret))) }
def N499 : aw:={ np:=1,nt:=27,res:=[(2,none)],body :=
 (zs (zr [1] [zo 1 0,zc 2 .nils])
 (zs (zr [1,3] [⟨some 3,.nilo 2,none⟩])
 (zs (zs (zr [1,3,7,8,9] [zf 6 1 1,zl 7 1 6,zn 8 7,zc 9 (zI 0)])
 (.block 0 (.loop (zs (zr [1,3,7,8,9,10] [zb 10 .lss 9 8])
 (zs (zC 10 .skip
 (.exit 0))
 (zs (.block 1 (zs (zr [1,3,5,7,8,9] [zi 11 11 7 9,zL 12 11 11,⟨some 5,.alc [.str [],.str [],.str [],zI 0,zI 0,zI 0,zI 0,.str [],zI 0,zI 0,.own 2 []],none⟩,⟨none,.st 11 [] (.t 5) (.t 12),none⟩])
 (.reg true [0,0,0,4,14,0,0,64,254,510,1022,2047,4095] [1,3,7,8,9] [zm 13 3,zL 14 2 1,zf 15 1 5,zl 16 1 15,zk 17 169 [(.t 14),(.t 16)],zL 18 2 1,zf 19 2 5,zl 20 1 19,zk 21 169 [(.t 18),(.t 20)],⟨some 22,.bld [zI 0,zI 0] [(0,1,(.t 17)),(1,1,(.t 21))],none⟩,⟨some 23,.bls 2 1 [zI 0,zI 0] [] [(0,(.t 22))],none⟩,⟨some 24,.app 2 16 false (.t 13) (.t 23),none⟩,zq 3 24])))
 (zr [1,3,7,8,9] [zd 25 .add 9 (zI 1),zm 9 25])))))))
 (zs (zr [2] [zq 26 3,zq 2 26])
 .ret)))) }
def N503 : aw:={ np:=2,nt:=20,res:=[(4,none)],body :=
 (zs (zr [1,2] [zo 2 0,zc 4 (.bool false)])
 (zs (zs (zr [1,2,15] [zl 5 1 2,zd 6 .lss 5 (zI 0),zm 7 6,zg 7 false (zl 8 1 2),zg 7 false (zd 9 .gtr 8 (zI 300)),⟨some 10,.pick (.t 7) (.c (.bool true)) (.t 9),none⟩,zm 11 10,zg 11 false (zm 12 1),zg 11 false (zn 13 12),zg 11 false (zd 14 .gtr 13 (zI 1000)),⟨some 15,.pick (.t 11) (.c (.bool true)) (.t 14),none⟩])
 (zC 15 (zs (zr [4] [zc 4 (.bool false)])
 .ret)
 .skip))
 (zs (zr [4] [zq 16 1,⟨some 17,.mk 515 [(.t 2)],none⟩,zk 18 514 [(.t 16),(.t 17)],zt 19 18,zm 4 19])
 .ret))) }
def N504 : aw:={ np:=2,nt:=104,res:=[(4,none)],body :=
 (zs (zr [0,1] [zc 4 .nils])
 (zs (zr [0,5] [zm 20 0,zq 21 1,zk 22 517 [(.t 20),(.t 21)],zq 5 22])
 (zs (zr [5,6] [zm 23 0,⟨some 24,.mks 1 8 [zI 0] (.t 23) (.t 23),none⟩,zq 6 24])
 (zs (zs (zr [5,6,25,26,27] [zm 25 5,zn 26 25,zc 27 (zI 0)])
 (.block 0 (.loop (zs (zr [5,6,25,26,27,28] [zb 28 .lss 27 26])
 (zs (zC 28 .skip
 (.exit 0))
 (zs (.block 1 (zs (zr [5,6,8,25,26,27] [zi 29 1 25 27,zl 30 1 29,zq 8 30])
 (zs (zr [5,6,25,26,27,31,32,33] [zq 31 8,zn 32 31,zc 33 (zI 0)])
 (.block 2 (.loop (zs (zr [5,6,25,26,27,31,32,33,34] [zb 34 .lss 33 32])
 (zs (zC 34 .skip
 (.exit 2))
 (zs (.block 3 (zs (zr [5,6,10,25,26,27,31,32,33] [zi 35 1 31 33,zl 36 1 35,zm 10 36])
 (zr [5,6,25,26,27,31,32,33] [zm 37 6,zm 38 10,zi 39 1 37 38,zl 40 1 39,zd 41 .add 40 (zI 1),zi 42 1 37 38,⟨none,.st 1 [] (.t 42) (.t 41),none⟩])))
 (zr [5,6,25,26,27,31,32,33] [zd 43 .add 33 (zI 1),zm 33 43])))))))))
 (zr [5,6,25,26,27] [zd 44 .add 27 (zI 1),zm 27 44])))))))
 (zs (zr [5,6,11,12] [⟨some 11,.nilo 1,none⟩,⟨some 12,.nilo 1,none⟩])
 (zs (zs (zr [5,6,11,12,45,46,47] [zm 45 6,zn 46 45,zc 47 (zI 0)])
 (.block 4 (.loop (zs (zr [5,6,11,12,45,46,47,48] [zb 48 .lss 47 46])
 (zs (zC 48 .skip
 (.exit 4))
 (zs (.block 5 (zs (zr [5,6,11,12,13,14,45,46,47] [zm 49 47,zi 50 1 45 47,zl 51 1 50,zm 13 49,zm 14 51])
 (zs (zr [5,6,11,12,13,45,46,47,53] [zm 52 14,zd 53 .eql 52 (zI 0)])
 (zC 53 (zr [5,6,11,12,45,46,47] [zm 54 11,zm 55 13,⟨some 56,.bls 1 1 [zI 0] [] [(0,(.t 55))],none⟩,⟨some 57,.app 1 8 false (.t 54) (.t 56),none⟩,zq 11 57])
 .skip))))
 (zr [5,6,11,12,45,46,47] [zd 58 .add 47 (zI 1),zm 47 58])))))))
 (zs (.block 6 (.loop (zs (zs (zr [5,6,11,12,61] [zm 59 11,zn 60 59,zd 61 .gtr 60 (zI 0)])
 (zC 61 .skip
 (.exit 6)))
 (.block 7 (zs (zr [5,6,11,12,15] [zm 62 11,⟨some 63,.iadS 1 (.t 62) (.c (zI 0)),none⟩,zl 64 1 63,zm 15 64])
 (zs (zr [5,6,11,12,15] [zm 65 11,⟨some 66,.slc 1 (.t 65) (some (.c (zI 1))) none,none⟩,zq 11 66])
 (zs (zr [5,6,11,12,15] [zm 67 12,zm 68 15,⟨some 69,.bls 1 1 [zI 0] [] [(0,(.t 68))],none⟩,⟨some 70,.app 1 8 false (.t 67) (.t 69),none⟩,zq 12 70])
 (zs (zr [5,6,11,12,74,75,76] [zm 71 5,zm 72 15,zi 73 1 71 72,zl 74 1 73,zn 75 74,zc 76 (zI 0)])
 (.block 8 (.loop (zs (zr [5,6,11,12,74,75,76,77] [zb 77 .lss 76 75])
 (zs (zC 77 .skip
 (.exit 8))
 (zs (.block 9 (zs (zr [5,6,11,12,17,74,75,76] [zi 78 1 74 76,zl 79 1 78,zm 17 79])
 (zs (zr [5,6,11,12,17,74,75,76] [zm 80 6,zm 81 17,zi 82 1 80 81,zl 83 1 82,zd 84 .sub 83 (zI 1),zi 85 1 80 81,⟨none,.st 1 [] (.t 85) (.t 84),none⟩])
 (zs (zr [5,6,11,12,17,74,75,76,90] [zm 86 6,zm 87 17,zi 88 1 86 87,zl 89 1 88,zd 90 .eql 89 (zI 0)])
 (zC 90 (zs (zr [5,6,11,12,17,18,74,75,76] [zm 92 11,zm 93 17,zk 94 518 [(.t 92),(.t 93)],zm 91 94,zx 95 0 91,zx 96 1 91,zm 18 95,zm 19 96])
 (zr [5,6,11,12,74,75,76] [zm 97 11,zm 98 18,zm 99 17,⟨some 100,.bls 1 1 [zI 0] [] [(0,(.t 99))],none⟩,⟨some 101,.callE 519 (.t 97) [(.t 98),(.t 100)],none⟩,zq 11 101]))
 .skip)))))
 (zr [5,6,11,12,74,75,76] [zd 102 .add 76 (zI 1),zm 76 102]))))))))))))))
 (zs (zr [4] [zq 103 12,zq 4 103])
 .ret)))))))) }
def N511 : aw:={ np:=2,nt:=19,res:=[(4,none),(5,none)],body :=
 (zs (zr [0,1] [zc 4 .nils,zc 5 (zI 0)])
 (zs (zs (zr [0,1,10] [zm 7 0,zm 8 1,zk 9 503 [(.t 7),(.t 8)],zt 10 9])
 (zC 10 (zs (zr [4,5] [zc 4 .nils,zc 5 (zI 1)])
 .ret)
 .skip))
 (zs (zr [0,6] [zm 11 0,zq 12 1,zk 13 504 [(.t 11),(.t 12)],zq 6 13])
 (zs (zs (zr [6,17] [zm 14 6,zn 15 14,zm 16 0,zb 17 .lss 15 16])
 (zC 17 (zs (zr [4,5] [zc 4 .nils,zc 5 (zI 22)])
 .ret)
 .skip))
 (zs (zr [4,5] [zq 18 6,zq 4 18,zc 5 (zI 0)])
 .ret))))) }
def N514 : aw:={ np:=2,nt:=9,res:=[(4,none)],body :=
 (zs (zr [0,1] [zc 4 (.bool false)])
 (zs (zr [4] [zq 5 0,zm 6 1,zk 7 522 [(.t 5),(.t 6)],zd 8 .geq 7 (zI 0),zm 4 8])
 .ret)) }
def N515 : aw:={ np:=2,nt:=16,res:=[(3,none)],body :=
 (zs (zr [1,2] [zo 2 0,zc 3 (.bool false)])
 (zs (zr [3] [zl 4 1 1,⟨some 5,.iadA 2 1 (.t 2) (.c (zI 0)),none⟩,zl 6 1 5,zk 7 516 [(.t 4),(.t 6)],zt 8 7,zm 9 8,zg 9 false (zl 10 1 1),zg 9 false (⟨some 11,.iadA 2 1 (.t 2) (.c (zI 1)),none⟩),zg 9 false (zl 12 1 11),zg 9 false (zk 13 516 [(.t 10),(.t 12)]),zg 9 false (zt 14 13),⟨some 15,.pick (.t 9) (.c (.bool true)) (.t 14),none⟩,zm 3 15])
 .ret)) }
def N516 : aw:={ np:=2,nt:=12,res:=[(4,none)],body :=
 (zs (zr [0,1] [zc 4 (.bool false)])
 (zs (zr [4] [zm 5 1,zd 6 .geq 5 (zI 0),zm 7 6,zg 7 true (zm 8 1),zg 7 true (zm 9 0),zg 7 true (zb 10 .lss 8 9),⟨some 11,.pick (.t 7) (.t 10) (.c (.bool false)),none⟩,zm 4 11])
 .ret)) }
def N517 : aw:={ np:=2,nt:=51,res:=[(4,none)],body :=
 (zs (zr [0,1] [zc 4 .nils])
 (zs (zr [1,5] [zm 9 0,⟨some 10,.mks 1 24 [.own 1 []] (.t 9) (.t 9),none⟩,zq 5 10])
 (zs (zs (zr [5,11,12,13] [zq 11 1,zn 12 11,zc 13 (zI 0)])
 (.block 0 (.loop (zs (zr [5,11,12,13,14] [zb 14 .lss 13 12])
 (zs (zC 14 .skip
 (.exit 0))
 (zs (.block 1 (zs (zr [5,7,11,12,13] [zi 15 2 11 13,zL 16 2 15,⟨some 7,.alc [zI 0,zI 0],none⟩,⟨none,.st 2 [] (.t 7) (.t 16),none⟩])
 (.reg true [0,0,2,0,0,16,56,120,0,256,768,2040,4095,8191] [5,11,12,13] [zm 17 5,⟨some 18,.iadA 2 1 (.t 7) (.c (zI 0)),none⟩,zl 19 1 18,zm 20 5,⟨some 21,.iadA 2 1 (.t 7) (.c (zI 0)),none⟩,zl 22 1 21,zi 23 1 20 22,zl 24 1 23,⟨some 25,.iadA 2 1 (.t 7) (.c (zI 1)),none⟩,zl 26 1 25,⟨some 27,.bls 1 1 [zI 0] [] [(0,(.t 26))],none⟩,⟨some 28,.app 1 8 false (.t 24) (.t 27),none⟩,zi 29 1 17 19,⟨none,.st 1 [] (.t 29) (.t 28),none⟩])))
 (zr [5,11,12,13] [zd 30 .add 13 (zI 1),zm 13 30])))))))
 (zs (zs (zr [5,32,33] [zm 31 5,zn 32 31,zc 33 (zI 0)])
 (.block 2 (.loop (zs (zr [5,32,33,34] [zb 34 .lss 33 32])
 (zs (zC 34 .skip
 (.exit 2))
 (zs (.block 3 (zs (zr [5,8,32,33] [zm 35 33,zm 8 35])
 (zs (zr [5,8,32,33] [zm 36 5,zm 37 8,zi 38 1 36 37,zl 39 1 38,⟨some 40,.callN 366 (.t 39) [],none⟩])
 (zr [5,32,33] [zm 41 5,zm 42 8,zm 43 5,zm 44 8,zi 45 1 43 44,zl 46 1 45,⟨some 47,.callE 523 (.t 46) [],none⟩,zi 48 1 41 42,⟨none,.st 1 [] (.t 48) (.t 47),none⟩]))))
 (zr [5,32,33] [zd 49 .add 33 (zI 1),zm 33 49])))))))
 (zs (zr [4] [zq 50 5,zq 4 50])
 .ret))))) }
def N518 : aw:={ np:=2,nt:=54,res:=[(4,none),(5,none)],body :=
 (zs (zr [0,1] [zc 4 (zI 0),zc 5 (.bool false)])
 (zs (zr [0,1,6] [zm 10 0,zn 11 10,zm 6 11])
 (zs (zr [0,1,6,7,8] [zm 12 6,zc 7 (zI 0),zm 8 12])
 (zs (.block 0 (.loop (zs (zs (zr [0,1,6,7,8,15] [zm 13 7,zm 14 8,zb 15 .lss 13 14])
 (zC 15 .skip
 (.exit 0)))
 (.block 1 (zs (zr [0,1,6,7,8,9] [zm 16 7,zm 17 8,zb 18 .add 16 17,⟨some 19,.conv .u64 (.t 18),none⟩,zd 20 .shr 19 (.int .u64 1),⟨some 21,.conv .i64 (.t 20),none⟩,zm 9 21])
 (zs (zr [0,1,6,7,8,9,27] [zm 22 0,zm 23 9,zi 24 1 22 23,zl 25 1 24,zm 26 1,zk 27 411 [(.t 25),(.t 26)]])
 (zC 27 (zr [0,1,6,7,8] [zm 28 9,zd 29 .add 28 (zI 1),zm 7 29])
 (zr [0,1,6,7,8] [zm 30 9,zm 8 30]))))))))
 (zs (zr [4,5] [zm 31 7,zm 32 7,zm 33 6,zb 34 .lss 32 33,zm 35 34,zg 35 true (zm 36 0),zg 35 true (zm 37 7),zg 35 true (zi 38 1 36 37),zg 35 true (zl 39 1 38),zg 35 true (zm 40 1),zg 35 true (zb 41 .eql 39 40),zg 35 true (zm 42 41),zg 42 false (zq 43 0),zg 42 false (zm 44 7),zg 42 false (zi 45 1 43 44),zg 42 false (zl 46 1 45),zg 42 false (zk 47 524 [(.t 46)]),zg 42 false (zm 48 47),zg 48 true (zm 49 1),zg 48 true (zk 50 524 [(.t 49)]),zg 42 false (⟨some 51,.pick (.t 48) (.t 50) (.c (.bool false)),none⟩),zg 35 true (⟨some 52,.pick (.t 42) (.c (.bool true)) (.t 51),none⟩),⟨some 53,.pick (.t 35) (.t 52) (.c (.bool false)),none⟩,zm 4 31,zm 5 53])
 .ret))))) }
def N522 : aw:={ np:=2,nt:=19,res:=[(4,none)],body :=
 (zs (zr [0,1] [zc 4 (zI 0)])
 (zs (zs (zr [0,1,7,8] [zm 6 0,zn 7 6,zc 8 (zI 0)])
 (.block 0 (.loop (zs (zr [0,1,7,8,9] [zb 9 .lss 8 7])
 (zs (zC 9 .skip
 (.exit 0))
 (zs (.block 1 (zs (zr [0,1,5,7,8] [zm 10 8,zm 5 10])
 (zs (zr [0,1,5,7,8,16] [zm 11 1,zm 12 0,zm 13 5,zi 14 2 12 13,zL 15 2 14,⟨some 16,.callv (.t 11) [(.t 15)],none⟩])
 (zC 16 (zs (zr [4] [zm 17 5,zm 4 17])
 .ret)
 .skip))))
 (zr [0,1,7,8] [zd 18 .add 8 (zI 1),zm 8 18])))))))
 (zs (zr [4] [⟨some 4,.mov (.c (zI (-1))),none⟩])
 .ret))) }
def N524 : aw:={ np:=1,nt:=6,res:=[(2,none)],body :=
 (zs (zr [0] [zc 2 (.bool false)])
 (zs (zr [2] [zm 3 0,zm 4 0,zb 5 .neq 3 4,zm 2 5])
 .ret)) }
def N534 : aw:={ np:=4,nt:=155,res:=[(8,none)],body :=
 (zs (zr [1,2,3,4] [zo 4 0,zc 8 (.bool false)])
 (zs (zs (zr [1,2,3,4,24] [zk 23 3 [],zt 24 23])
 (zC 24 (zs (zr [8] [zc 8 (.bool false)])
 .ret)
 .skip))
 (zs (zs (zr [1,2,3,4,35] [zL 25 2 4,zk 26 564 [(.t 25)],zm 27 26,zg 27 false (zm 28 1),zg 27 false (zk 29 25 [(.t 28)]),⟨some 30,.pick (.t 27) (.c (.bool true)) (.t 29),none⟩,zm 31 30,zg 31 false (zm 32 2),zg 31 false (zn 33 32),zg 31 false (zd 34 .gtr 33 (zI 20)),⟨some 35,.pick (.t 31) (.c (.bool true)) (.t 34),none⟩])
 (zC 35 (zs (zr [8] [zc 8 (.bool true)])
 .ret)
 .skip))
 (zs (zr [1,2,4,9,10] [zL 37 2 4,zm 38 1,zm 39 2,zm 40 3,zk 41 565 [(.t 37),(.t 38),(.t 39),(.t 40)],zm 36 41,zx 42 0 36,zx 43 1 36,⟨some 9,.alc [.own 1 [],.own 1 [],.own 1 [],.own 1 [],.own 1 [],.own 5 []],none⟩,⟨none,.st 6 [] (.t 9) (.t 42),none⟩,zm 10 43])
 (zs (zs (zr [1,2,4,9,45] [zm 44 10,zd 45 .neq 44 (zI 0)])
 (zC 45 (zs (zr [8] [zL 46 6 9,zk 47 567 [(.t 46)],zm 8 47])
 .ret)
 .skip))
 (zs (zr [1,2,4,9,11,12,13] [zL 49 6 9,zk 50 15 [(.t 49)],zm 48 50,zx 51 0 48,zx 52 1 48,zx 53 2 48,zm 11 51,zq 12 52,zm 13 53])
 (zs (zs (zr [1,2,4,9,11,12,13,55] [zm 54 13,zd 55 .neq 54 (zI 0)])
 (zC 55 (zs (zr [8] [zm 56 13,zd 57 .eql 56 (zI 28),zm 58 57,zg 58 true (zm 59 11),zg 58 true (zd 60 .eql 59 (zI 0)),⟨some 61,.pick (.t 58) (.t 60) (.c (.bool false)),none⟩,zm 8 61])
 .ret)
 .skip))
 (zs (zr [1,2,11,14,15] [zL 63 2 4,zm 64 1,zL 65 6 9,zq 66 12,zk 67 566 [(.t 63),(.t 64),(.t 65),(.t 66)],zm 62 67,zx 68 0 62,zx 69 1 62,⟨some 14,.alc [.own 9 [],.own 11 []],none⟩,⟨none,.st 2 [] (.t 14) (.t 68),none⟩,zm 15 69])
 (zs (zs (zr [1,2,11,14,84] [zm 70 15,zd 71 .neq 70 (zI 0),zm 72 71,zg 72 false (zL 73 2 14),zg 72 false (zk 74 164 [(.t 73)]),zg 72 false (zt 75 74),⟨some 76,.pick (.t 72) (.c (.bool true)) (.t 75),none⟩,zm 77 76,zg 77 false (zf 78 1 14),zg 77 false (zl 79 1 78),zg 77 false (zn 80 79),zg 77 false (zm 81 2),zg 77 false (zn 82 81),zg 77 false (zb 83 .neq 80 82),⟨some 84,.pick (.t 77) (.c (.bool true)) (.t 83),none⟩])
 (zC 84 (zs (zr [8] [zc 8 (.bool false)])
 .ret)
 .skip))
 (zs (zr [1,2,11,14,16] [zc 16 (zI 0)])
 (zs (zs (zr [1,2,11,16,86,87,88] [zf 85 1 14,zl 86 1 85,zn 87 86,zc 88 (zI 0)])
 (.block 0 (.loop (zs (zr [1,2,11,16,86,87,88,89] [zb 89 .lss 88 87])
 (zs (zC 89 .skip
 (.exit 0))
 (zs (.block 1 (zs (zr [1,2,11,16,17,18,86,87,88] [zm 90 88,zi 91 11 86 88,zL 92 11 91,⟨some 18,.alc [.str [],.str [],.str [],zI 0,zI 0,zI 0,zI 0,.str [],zI 0,zI 0,.own 2 []],none⟩,zm 17 90,⟨none,.st 11 [] (.t 18) (.t 92),none⟩])
 (zs (zr [1,2,11,16,17,18,19,20,86,87,88] [zm 94 1,zf 95 7 18,zl 96 1 95,zk 97 441 [(.t 94),(.t 96)],zm 93 97,zx 98 0 93,zx 99 1 93,zm 19 98,zm 20 99])
 (zs (zs (zr [1,2,11,16,17,18,19,86,87,88,111] [zm 100 20,zd 101 .neq 100 (zI 0),zm 102 101,zg 102 false (zm 103 19),zg 102 false (zd 104 .lss 103 (zI 0)),⟨some 105,.pick (.t 102) (.c (.bool true)) (.t 104),none⟩,zm 106 105,zg 106 false (zm 107 19),zg 106 false (zm 108 1),zg 106 false (zn 109 108),zg 106 false (zb 110 .geq 107 109),⟨some 111,.pick (.t 106) (.c (.bool true)) (.t 110),none⟩])
 (zC 111 (zs (zr [8] [zc 8 (.bool false)])
 .ret)
 .skip))
 (zs (.reg true [0,0,3,7,0,16,0,64,240,0,512,2047,4095,8191,8191,16383,65535] [1,2,11,16,17,18,19,21,22,86,87,88] [zm 113 1,zm 114 19,zi 115 5 113 114,zL 116 5 115,zf 117 5 18,zl 118 1 117,zf 119 6 18,zl 120 1 119,zb 121 .sub 118 120,zf 122 4 18,zl 123 1 122,zk 124 47 [(.t 116),(.t 121),(.t 123)],zm 112 124,zx 125 0 112,zx 126 1 112,zm 21 125,zm 22 126])
 (zs (zs (zr [1,2,11,16,18,19,86,87,88,140] [zm 127 22,zd 128 .neq 127 (zI 5),zm 129 128,zg 129 true (zm 130 22),zg 129 true (zd 131 .neq 130 (zI 0)),zg 129 true (zm 132 131),zg 132 false (zm 133 21),zg 132 false (zm 134 2),zg 132 false (zm 135 17),zg 132 false (zi 136 1 134 135),zg 132 false (zl 137 1 136),zg 132 false (zb 138 .lss 133 137),zg 129 true (⟨some 139,.pick (.t 132) (.c (.bool true)) (.t 138),none⟩),⟨some 140,.pick (.t 129) (.t 139) (.c (.bool false)),none⟩])
 (zC 140 (zs (zr [8] [zc 8 (.bool false)])
 .ret)
 .skip))
 (.reg true [0,0,2,0,0,24,56,120,254,511,1023] [1,2,11,16,86,87,88] [zm 141 16,zf 142 4 18,zl 143 1 142,zm 144 1,zm 145 19,zi 146 5 144 145,zf 147 2 146,zl 148 1 147,zb 149 .mul 143 148,zb 150 .add 141 149,zm 16 150])))))))
 (zr [1,2,11,16,86,87,88] [zd 151 .add 88 (zI 1),zm 88 151])))))))
 (zs (zr [8] [zm 152 16,zm 153 11,zb 154 .eql 152 153,zm 8 154])
 .ret)))))))))))) }
def N564 : aw:={ np:=1,nt:=23,res:=[(2,none)],body :=
 (zs (zr [1] [zo 1 0,zc 2 (.bool false)])
 (zs (zr [2] [zf 3 0 1,zl 4 1 3,zn 5 4,zd 6 .gtr 5 (zI 12),zm 7 6,zg 7 false (zf 8 1 1),zg 7 false (zl 9 1 8),zg 7 false (zn 10 9),zg 7 false (zd 11 .gtr 10 (zI 12)),⟨some 12,.pick (.t 7) (.c (.bool true)) (.t 11),none⟩,zm 13 12,zg 13 false (zf 14 0 1),zg 13 false (zl 15 1 14),zg 13 false (⟨some 16,.call 453 [(.t 15),(.c (.fn 603 []))] [],none⟩),⟨some 17,.pick (.t 13) (.c (.bool true)) (.t 16),none⟩,zm 18 17,zg 18 false (zf 19 1 1),zg 18 false (zl 20 1 19),zg 18 false (⟨some 21,.call 455 [(.t 20),(.c (.fn 604 []))] [],none⟩),⟨some 22,.pick (.t 18) (.c (.bool true)) (.t 21),none⟩,zm 2 22])
 .ret)) }
def N565 : aw:={ np:=4,nt:=182,res:=[(8,some (6,true)),(9,none)],body :=
 (zs (zr [1,2,3,4,8] [zo 4 0,⟨some 8,.alc [.own 1 [],.own 1 [],.own 1 [],.own 1 [],.own 1 [],.own 5 []],none⟩,zc 9 (zI 0)])
 (zs (.block 0 (zs (zr [1,2,3,4,8,25] [zL 26 2 4,zk 27 164 [(.t 26)],zt 28 27,zm 29 28,zg 29 false (zm 30 1),zg 29 false (zk 31 44 [(.t 30)]),zg 29 false (zt 32 31),⟨some 33,.pick (.t 29) (.c (.bool true)) (.t 32),none⟩,zm 25 33])
 (zC 25 (zs (zr [8,9] [⟨some 34,.bld [.nils,.nils,.nils,.nils,.nils,.nils] [],none⟩,⟨none,.st 6 [] (.t 8) (.t 34),none⟩,zc 9 (zI 1)])
 .ret)
 (zs (zr [1,2,3,4,8,35] [zm 36 1,zn 37 36,zd 38 .eql 37 (zI 0),zm 35 38])
 (zC 35 (zs (zr [8,9] [⟨some 39,.bld [.nils,.nils,.nils,.nils,.nils,.nils] [],none⟩,⟨none,.st 6 [] (.t 8) (.t 39),none⟩,zc 9 (zI 14)])
 .ret)
 .skip)))))
 (zs (zr [1,2,3,4,8,10,11,12] [zL 41 2 4,zk 42 605 [(.t 41)],zm 40 42,zx 43 0 40,zx 44 1 40,zx 45 2 40,zq 10 43,zq 11 44,zm 12 45])
 (zs (.block 1 (zs (zr [1,2,3,4,8,10,11,12,46] [zm 47 12,zd 48 .neq 47 (zI 0),zm 46 48])
 (zC 46 (zs (zr [8,9] [⟨some 49,.bld [.nils,.nils,.nils,.nils,.nils,.nils] [],none⟩,zm 50 12,⟨none,.st 6 [] (.t 8) (.t 49),none⟩,zm 9 50])
 .ret)
 (zs (zr [1,2,3,4,8,10,11,51] [zm 52 2,zn 53 52,zf 54 1 4,zl 55 1 54,zn 56 55,zb 57 .neq 53 56,zm 51 57])
 (zC 51 (zs (zr [8,9] [⟨some 58,.bld [.nils,.nils,.nils,.nils,.nils,.nils] [],none⟩,⟨none,.st 6 [] (.t 8) (.t 58),none⟩,zc 9 (zI 3)])
 .ret)
 (zs (zr [1,2,3,4,8,10,11,59] [zm 60 3,zk 61 29 [(.t 60),(.c (zI 0)),(.c (zI 4194304))],zt 62 61,zm 63 62,zg 63 false (zm 64 2),zg 63 false (⟨some 65,.call 11 [(.t 64),(.c (.fn 606 []))] [],none⟩),⟨some 66,.pick (.t 63) (.c (.bool true)) (.t 65),none⟩,zm 59 66])
 (zC 59 (zs (zr [8,9] [⟨some 67,.bld [.nils,.nils,.nils,.nils,.nils,.nils] [],none⟩,⟨none,.st 6 [] (.t 8) (.t 67),none⟩,zc 9 (zI 2)])
 .ret)
 .skip)))))))
 (zs (zr [1,2,3,4,8,10,11,13] [zL 69 2 4,zk 70 471 [(.t 69)],zm 68 70,zx 71 0 68,zx 72 1 68,zq 13 71,zm 14 72])
 (zs (zr [1,2,3,4,8,10,13,15] [zq 73 11,⟨some 74,.bld [.nils,.nils,.nils,.nils,.nils,.nils] [(0,1,(.t 73))],none⟩,⟨some 15,.alc [.own 1 [],.own 1 [],.own 1 [],.own 1 [],.own 1 [],.own 5 []],none⟩,⟨none,.st 6 [1,1,1,1,1,5] (.t 15) (.t 74),none⟩])
 (zs (zs (zr [2,3,4,8,10,13,15,75,76,77] [zq 75 1,zn 76 75,zc 77 (zI 0)])
 (.block 2 (.loop (zs (zr [2,3,4,8,10,13,15,75,76,77,78] [zb 78 .lss 77 76])
 (zs (zC 78 .skip
 (.exit 2))
 (zs (.block 3 (zs (zr [2,3,4,8,10,13,15,17,75,76,77] [zi 79 5 75 77,zL 80 5 79,⟨some 17,.alc [.str [],zI 0,zI 0,.own 2 [],.own 2 []],none⟩,⟨none,.st 5 [] (.t 17) (.t 80),none⟩])
 (zs (.reg true [0,1,3,0,8,31,31,127,255,511] [2,3,4,8,10,13,15,17,75,76,77] [zf 81 3 17,zl 82 1 81,zk 83 598 [(.t 82)],zf 84 4 17,zl 85 1 84,zk 86 598 [(.t 85)],zf 87 3 17,⟨none,.st 1 [] (.t 87) (.t 83),none⟩,zf 88 4 17,⟨none,.st 1 [] (.t 88) (.t 86),none⟩])
 (zr [2,3,4,8,10,13,15,75,76,77] [zf 89 5 15,zl 90 1 89,⟨some 91,.ldF 5 (.t 17),none⟩,⟨some 92,.bls 5 1 [.str [],zI 0,zI 0,.own 2 [],.own 2 []] [] [(0,(.t 91))],none⟩,⟨some 93,.app 5 80 true (.t 90) (.t 92),none⟩,zf 94 5 15,⟨none,.st 1 [] (.t 94) (.t 93),none⟩]))))
 (zr [2,3,4,8,10,13,15,75,76,77] [zd 95 .add 77 (zI 1),zm 77 95])))))))
 (zs (zs (zr [2,3,4,8,13,15,96,97,98] [zq 96 10,zn 97 96,zc 98 (zI 0)])
 (.block 4 (.loop (zs (zr [2,3,4,8,13,15,96,97,98,99] [zb 99 .lss 98 97])
 (zs (zC 99 .skip
 (.exit 4))
 (zs (.block 5 (zs (zr [2,3,4,8,13,15,19,96,97,98] [zi 100 1 96 98,zl 101 1 100,zm 19 101])
 (zs (zr [2,3,4,8,13,15,19,20,96,97,98] [zf 102 1 4,zl 103 1 102,zm 104 19,zi 105 11 103 104,zL 106 11 105,⟨some 20,.alc [.str [],.str [],.str [],zI 0,zI 0,zI 0,zI 0,.str [],zI 0,zI 0,.own 2 []],none⟩,⟨none,.st 11 [] (.t 20) (.t 106),none⟩])
 (zs (.reg true [0,1,0,0,12,28,60,127,255,0,512,0,0,6144,14336,30720,65024,130560,0,0,786943,2097151] [2,3,4,8,13,15,19,20,21,22,96,97,98] [zf 107 0 4,zl 108 1 107,zm 109 13,zm 110 19,zi 111 2 109 110,⟨some 112,.iadA 2 1 (.t 111) (.c (zI 0)),none⟩,zl 113 1 112,zi 114 9 108 113,zL 115 9 114,zf 116 0 4,zl 117 1 116,zm 118 13,zm 119 19,zi 120 2 118 119,⟨some 121,.iadA 2 1 (.t 120) (.c (zI 1)),none⟩,zl 122 1 121,zi 123 9 117 122,zL 124 9 123,⟨some 21,.alc [.str [],zI 0,zI 0,zI 0,zI 0,zI 0,.own 2 [],.bool false,zI 0],none⟩,⟨some 22,.alc [.str [],zI 0,zI 0,zI 0,zI 0,zI 0,.own 2 [],.bool false,zI 0],none⟩,⟨none,.st 9 [] (.t 21) (.t 115),none⟩,⟨none,.st 9 [] (.t 22) (.t 124),none⟩])
 (zs (.reg true [0,1,0,4,15,0,32,0,128,480,0,1024,0,4096,15360,32736,0,131040,262112,31,1048575] [2,3,4,8,13,15,19,20,23,24,96,97,98] [zf 125 5 20,zl 126 1 125,zf 127 6 20,zl 128 1 127,zb 129 .sub 126 128,zf 130 5 21,zl 131 1 130,zf 132 5 20,zl 133 1 132,zb 134 .sub 131 133,zf 135 5 22,zl 136 1 135,zf 137 6 20,zl 138 1 137,zb 139 .sub 136 138,⟨some 140,.mn (.t 134) (.t 139),none⟩,zm 141 3,zb 142 .sub 140 141,⟨some 143,.mx (.c (zI 0)) (.t 142),none⟩,zm 23 129,zm 24 143])
 (zs (zs (zr [2,3,4,8,13,15,19,20,23,24,96,97,98,150] [zm 144 23,zk 145 29 [(.t 144),(.c (zI 0)),(.c (zI 4194304))],zt 146 145,zm 147 146,zg 147 false (zm 148 24),zg 147 false (zd 149 .gtr 148 (zI 4194304)),⟨some 150,.pick (.t 147) (.c (.bool true)) (.t 149),none⟩])
 (zC 150 (zs (zr [8,9] [⟨some 151,.bld [.nils,.nils,.nils,.nils,.nils,.nils] [],none⟩,⟨none,.st 6 [] (.t 8) (.t 151),none⟩,zc 9 (zI 23)])
 .ret)
 .skip))
 (zs (.reg true [0,1,0,4,12,31,0,64,0,0,768,1792,3840,8191,255,32767,65535,131071] [2,3,4,8,13,15,23,24,96,97,98] [zf 152 1 15,⟨some 153,.ldQ 1 (.t 152),none⟩,zf 154 4 20,zl 155 1 154,⟨some 156,.bls 1 1 [zI 0] [] [(0,(.t 155))],none⟩,⟨some 157,.appQ 1 1 8 (.t 153) (.t 156),none⟩,zf 158 2 15,⟨some 159,.ldQ 2 (.t 158),none⟩,zm 160 2,zm 161 19,zi 162 1 160 161,zl 163 1 162,⟨some 164,.bls 1 1 [zI 0] [] [(0,(.t 163))],none⟩,⟨some 165,.appQ 2 1 8 (.t 159) (.t 164),none⟩,zf 166 1 15,⟨none,.st 1 [] (.t 166) (.t 157),none⟩,zf 167 2 15,⟨none,.st 1 [] (.t 167) (.t 165),none⟩])
 (.reg true [0,1,0,4,15,0,32,0,128,511,127,2047,4095,8191] [2,3,4,8,13,15,96,97,98] [zf 168 3 15,⟨some 169,.ldQ 3 (.t 168),none⟩,zm 170 23,⟨some 171,.bls 1 1 [zI 0] [] [(0,(.t 170))],none⟩,⟨some 172,.appQ 3 1 8 (.t 169) (.t 171),none⟩,zf 173 4 15,⟨some 174,.ldQ 4 (.t 173),none⟩,zm 175 24,⟨some 176,.bls 1 1 [zI 0] [] [(0,(.t 175))],none⟩,⟨some 177,.appQ 4 1 8 (.t 174) (.t 176),none⟩,zf 178 3 15,⟨none,.st 1 [] (.t 178) (.t 172),none⟩,zf 179 4 15,⟨none,.st 1 [] (.t 179) (.t 177),none⟩]))))))))
 (zr [2,3,4,8,13,15,96,97,98] [zd 180 .add 98 (zI 1),zm 98 180])))))))
 (zs (zr [8,9] [⟨some 181,.ldF 6 (.t 15),none⟩,⟨none,.st 6 [] (.t 8) (.t 181),none⟩,zc 9 (zI 0)])
 .ret))))))))) }
def N566 : aw:={ np:=4,nt:=115,res:=[(8,some (2,true)),(9,none)],body :=
 (zs (zr [1,3,4,6,8] [zo 4 0,zo 6 2,⟨some 8,.alc [.own 9 [],.own 11 []],none⟩,zc 9 (zI 0)])
 (zs (zs (zr [1,3,4,6,8,31] [zL 19 2 4,zk 20 164 [(.t 19)],zt 21 20,zm 22 21,zg 22 false (zm 23 1),zg 22 false (zk 24 44 [(.t 23)]),zg 22 false (zt 25 24),⟨some 26,.pick (.t 22) (.c (.bool true)) (.t 25),none⟩,zm 27 26,zg 27 false (zL 28 6 6),zg 27 false (zk 29 24 [(.t 28)]),zg 27 false (zt 30 29),⟨some 31,.pick (.t 27) (.c (.bool true)) (.t 30),none⟩])
 (zC 31 (zs (zr [8,9] [⟨some 32,.bld [.nils,.nils] [],none⟩,⟨none,.st 2 [] (.t 8) (.t 32),none⟩,zc 9 (zI 1)])
 .ret)
 .skip))
 (zs (zr [1,3,4,6,8,10,11,12] [zL 34 2 4,zk 35 605 [(.t 34)],zm 33 35,zx 36 0 33,zx 37 1 33,zx 38 2 33,zq 10 36,zq 11 37,zm 12 38])
 (zs (zs (zr [1,3,4,6,8,10,11,12,40] [zm 39 12,zd 40 .neq 39 (zI 0)])
 (zC 40 (zs (zr [8,9] [⟨some 41,.bld [.nils,.nils] [],none⟩,zm 42 12,⟨none,.st 2 [] (.t 8) (.t 41),none⟩,zm 9 42])
 .ret)
 .skip))
 (zs (zs (zr [1,3,4,6,8,10,62] [zm 43 10,zn 44 43,zf 45 0 6,zl 46 1 45,zn 47 46,zb 48 .neq 44 47,zm 49 48,zg 49 false (zq 50 11),zg 49 false (zf 51 0 6),zg 49 false (zl 52 1 51),zg 49 false (zk 53 19 [(.t 50),(.t 52)]),zg 49 false (zt 54 53),⟨some 55,.pick (.t 49) (.c (.bool true)) (.t 54),none⟩,zm 56 55,zg 56 false (zm 57 1),zg 56 false (zf 58 5 6),zg 56 false (zl 59 1 58),zg 56 false (⟨some 60,.call 607 [(.t 57),(.t 59),(.c (.fn 608 []))] [],none⟩),zg 56 false (zt 61 60),⟨some 62,.pick (.t 56) (.c (.bool true)) (.t 61),none⟩])
 (zC 62 (zs (zr [8,9] [⟨some 63,.bld [.nils,.nils] [],none⟩,⟨none,.st 2 [] (.t 8) (.t 63),none⟩,zc 9 (zI 25)])
 .ret)
 .skip))
 (zs (zs (zr [1,3,4,8,10,13] [zL 64 6 6,zm 65 3,zk 66 120 [(.t 64),(.t 65)],zm 13 66])
 (zs (zr [1,3,4,8,10,13,68] [zm 67 13,zd 68 .neq 67 (zI 0)])
 (zC 68 (zs (zr [8,9] [⟨some 69,.bld [.nils,.nils] [],none⟩,zm 70 13,⟨none,.st 2 [] (.t 8) (.t 69),none⟩,zm 9 70])
 .ret)
 .skip)))
 (zs (zr [1,3,4,8,10,14] [zf 71 1 4,zl 72 1 71,⟨some 73,.callA 609 [(.t 72)],none⟩,⟨some 74,.bld [.nils,.nils] [(1,1,(.t 73))],none⟩,⟨some 14,.alc [.own 9 [],.own 11 []],none⟩,⟨none,.st 2 [9,11] (.t 14) (.t 74),none⟩])
 (zs (zs (zr [1,3,8,10,14,76,77,78] [zf 75 0 4,zl 76 1 75,zn 77 76,zc 78 (zI 0)])
 (.block 0 (.loop (zs (zr [1,3,8,10,14,76,77,78,79] [zb 79 .lss 78 77])
 (zs (zC 79 .skip
 (.exit 0))
 (zs (.block 1 (zs (zr [1,3,8,10,14,16,76,77,78] [zi 80 9 76 78,zL 81 9 80,⟨some 16,.alc [.str [],zI 0,zI 0,zI 0,zI 0,zI 0,.own 2 [],.bool false,zI 0],none⟩,⟨none,.st 9 [] (.t 16) (.t 81),none⟩])
 (zs (zr [1,3,8,10,14,16,76,77,78] [zf 82 6 16,zl 83 1 82,zk 84 598 [(.t 83)],zf 85 6 16,⟨none,.st 1 [] (.t 85) (.t 84),none⟩])
 (zr [1,3,8,10,14,76,77,78] [zf 86 0 14,zl 87 1 86,⟨some 88,.ldF 9 (.t 16),none⟩,⟨some 89,.bls 9 1 [.str [],zI 0,zI 0,zI 0,zI 0,zI 0,.own 2 [],.bool false,zI 0] [] [(0,(.t 88))],none⟩,⟨some 90,.app 9 96 true (.t 87) (.t 89),none⟩,zf 91 0 14,⟨none,.st 1 [] (.t 91) (.t 90),none⟩]))))
 (zr [1,3,8,10,14,76,77,78] [zd 92 .add 78 (zI 1),zm 78 92])))))))
 (zs (zs (zr [1,3,8,14,93,94,95] [zq 93 10,zn 94 93,zc 95 (zI 0)])
 (.block 2 (.loop (zs (zr [1,3,8,14,93,94,95,96] [zb 96 .lss 95 94])
 (zs (zC 96 .skip
 (.exit 2))
 (zs (.block 3 (zs (zr [1,3,8,14,17,18,93,94,95] [zm 97 95,zi 98 1 93 95,zl 99 1 98,zm 17 97,zm 18 99])
 (.reg true [0,1,0,0,0,0,48,112,248,504,1016,2047,4095,8191] [1,3,8,14,93,94,95] [zf 100 1 14,zl 101 1 100,zm 102 18,zm 103 1,zm 104 3,zm 105 17,zi 106 1 104 105,zl 107 1 106,zi 108 5 103 107,zf 109 0 108,zl 110 1 109,zi 111 11 101 102,zf 112 7 111,⟨none,.st 1 [] (.t 112) (.t 110),none⟩])))
 (zr [1,3,8,14,93,94,95] [zd 113 .add 95 (zI 1),zm 95 113])))))))
 (zs (zr [8,9] [⟨some 114,.ldF 2 (.t 14),none⟩,⟨none,.st 2 [] (.t 8) (.t 114),none⟩,zc 9 (zI 0)])
 .ret)))))))))) }
def N567 : aw:={ np:=1,nt:=6,res:=[(2,none)],body :=
 (zs (zr [1] [zo 1 0,zc 2 (.bool false)])
 (zs (zr [2] [zL 3 6 1,⟨some 4,.bld [.nils,.nils,.nils,.nils,.nils,.nils] [],none⟩,zk 5 570 [(.t 3),(.t 4)],zm 2 5])
 .ret)) }
def N570 : aw:={ np:=2,nt:=45,res:=[(4,none)],body :=
 (zs (zr [2,3] [zo 2 0,zo 3 1,zc 4 (.bool false)])
 (zs (zr [4] [zf 5 0 2,zl 6 1 5,zf 7 0 3,zl 8 1 7,zk 9 614 [(.t 6),(.t 8)],zm 10 9,zg 10 true (zf 11 1 2),zg 10 true (zl 12 1 11),zg 10 true (zf 13 1 3),zg 10 true (zl 14 1 13),zg 10 true (zk 15 614 [(.t 12),(.t 14)]),⟨some 16,.pick (.t 10) (.t 15) (.c (.bool false)),none⟩,zm 17 16,zg 17 true (zf 18 2 2),zg 17 true (zl 19 1 18),zg 17 true (zf 20 2 3),zg 17 true (zl 21 1 20),zg 17 true (zk 22 614 [(.t 19),(.t 21)]),⟨some 23,.pick (.t 17) (.t 22) (.c (.bool false)),none⟩,zm 24 23,zg 24 true (zf 25 3 2),zg 24 true (zl 26 1 25),zg 24 true (zf 27 3 3),zg 24 true (zl 28 1 27),zg 24 true (zk 29 614 [(.t 26),(.t 28)]),⟨some 30,.pick (.t 24) (.t 29) (.c (.bool false)),none⟩,zm 31 30,zg 31 true (zf 32 4 2),zg 31 true (zl 33 1 32),zg 31 true (zf 34 4 3),zg 31 true (zl 35 1 34),zg 31 true (zk 36 614 [(.t 33),(.t 35)]),⟨some 37,.pick (.t 31) (.t 36) (.c (.bool false)),none⟩,zm 38 37,zg 38 true (zf 39 5 2),zg 38 true (zl 40 1 39),zg 38 true (zf 41 5 3),zg 38 true (zl 42 1 41),zg 38 true (zk 43 615 [(.t 40),(.t 42)]),⟨some 44,.pick (.t 38) (.t 43) (.c (.bool false)),none⟩,zm 4 44])
 .ret)) }
def N598 : aw:={ np:=1,nt:=8,res:=[(2,none)],body :=
 (zs (zr [0] [zc 2 .nils])
 (zs (zs (zr [0,4] [zm 3 0,⟨some 4,.beq false [9] (.t 3) (.c .nils),none⟩])
 (zC 4 (zs (zr [2] [zc 2 .nils])
 .ret)
 .skip))
 (zs (zr [2] [⟨some 5,.bls 2 0 [zI 0,zI 0] [] [],none⟩,zq 6 0,⟨some 7,.app 2 16 false (.t 5) (.t 6),none⟩,zq 2 7])
 .ret))) }
def N603 : aw:={ np:=1,nt:=13,res:=[(2,none)],body :=
 (zs (zr [1] [zo 1 0,zc 2 (.bool false)])
 (zs (zr [2] [zf 3 6 1,zl 4 1 3,zn 5 4,zd 6 .gtr 5 (zI 20),zm 7 6,zg 7 false (zf 8 0 1),zg 7 false (zl 9 1 8),zg 7 false (⟨some 10,.lens (.t 9),none⟩),zg 7 false (zd 11 .gtr 10 (zI 60)),⟨some 12,.pick (.t 7) (.c (.bool true)) (.t 11),none⟩,zm 2 12])
 .ret)) }
def N604 : aw:={ np:=1,nt:=31,res:=[(2,none)],body :=
 (zs (zr [1] [zo 1 0,zc 2 (.bool false)])
 (zs (zr [2] [zf 3 10 1,zl 4 1 3,zn 5 4,zd 6 .gtr 5 (zI 20),zm 7 6,zg 7 false (zf 8 0 1),zg 7 false (zl 9 1 8),zg 7 false (⟨some 10,.lens (.t 9),none⟩),zg 7 false (zd 11 .gtr 10 (zI 60)),⟨some 12,.pick (.t 7) (.c (.bool true)) (.t 11),none⟩,zm 13 12,zg 13 false (zf 14 1 1),zg 13 false (zl 15 1 14),zg 13 false (⟨some 16,.lens (.t 15),none⟩),zg 13 false (zd 17 .gtr 16 (zI 60)),⟨some 18,.pick (.t 13) (.c (.bool true)) (.t 17),none⟩,zm 19 18,zg 19 false (zf 20 2 1),zg 19 false (zl 21 1 20),zg 19 false (⟨some 22,.lens (.t 21),none⟩),zg 19 false (zd 23 .gtr 22 (zI 60)),⟨some 24,.pick (.t 19) (.c (.bool true)) (.t 23),none⟩,zm 25 24,zg 25 false (zf 26 7 1),zg 25 false (zl 27 1 26),zg 25 false (⟨some 28,.lens (.t 27),none⟩),zg 25 false (zd 29 .gtr 28 (zI 60)),⟨some 30,.pick (.t 25) (.c (.bool true)) (.t 29),none⟩,zm 2 30])
 .ret)) }
def N605 : aw:={ np:=1,nt:=114,res:=[(2,none),(3,none),(4,none)],body :=
 (zs (zr [1,2,3] [zo 1 0,⟨some 2,.nilo 1,none⟩,⟨some 3,.nilo 1,none⟩,zc 4 (zI 0)])
 (zs (zs (zr [1,2,3,20] [zf 18 1 1,zl 19 1 18,⟨some 20,.call 455 [(.t 19),(.c (.fn 636 []))] [],none⟩])
 (zC 20 (zs (zr [2,3,4] [⟨some 2,.nilo 1,none⟩,⟨some 3,.nilo 1,none⟩,zc 4 (zI 11)])
 .ret)
 .skip))
 (zs (zr [1,2,3,4,5] [zL 22 2 1,zk 23 471 [(.t 22)],zm 21 23,zx 24 0 21,zx 25 1 21,zq 5 24,zm 4 25])
 (zs (zs (zr [1,2,3,4,5,27] [zm 26 4,zd 27 .neq 26 (zI 0)])
 (zC 27 (zs (zr [2,3,4] [zm 28 4,⟨some 2,.nilo 1,none⟩,⟨some 3,.nilo 1,none⟩,zm 4 28])
 .ret)
 .skip))
 (zs (zr [1,2,3,5,6] [⟨some 29,.blsF 1 1 [zI 0] [(0,(.c (zI (-1))))],none⟩,zf 30 0 1,zl 31 1 30,zn 32 31,⟨some 33,.callF 315 [(.t 29),(.t 32)],none⟩,zq 6 33])
 (zs (zs (zr [1,2,3,5,6,34,35,36] [zm 34 5,zn 35 34,zc 36 (zI 0)])
 (.block 0 (.loop (zs (zr [1,2,3,5,6,34,35,36,37] [zb 37 .lss 36 35])
 (zs (zC 37 .skip
 (.exit 0))
 (zs (.block 1 (zs (zr [1,2,3,5,6,7,8,34,35,36] [zm 38 36,zi 39 2 34 36,zL 40 2 39,⟨some 8,.alc [zI 0,zI 0],none⟩,zm 7 38,⟨none,.st 2 [] (.t 8) (.t 40),none⟩])
 (zs (zs (zr [1,2,3,5,6,7,8,34,35,36,46] [zm 41 6,⟨some 42,.iadA 2 1 (.t 8) (.c (zI 0)),none⟩,zl 43 1 42,zi 44 1 41 43,zl 45 1 44,⟨some 46,.bin .neq (.t 45) (.c (zI (-1))),none⟩])
 (zC 46 (zs (zr [2,3,4] [⟨some 2,.nilo 1,none⟩,⟨some 3,.nilo 1,none⟩,zc 4 (zI 25)])
 .ret)
 .skip))
 (zr [1,2,3,5,6,34,35,36] [zm 47 6,⟨some 48,.iadA 2 1 (.t 8) (.c (zI 0)),none⟩,zl 49 1 48,zm 50 7,zi 51 1 47 49,⟨none,.st 1 [] (.t 51) (.t 50),none⟩]))))
 (zr [1,2,3,5,6,34,35,36] [zd 52 .add 36 (zI 1),zm 36 52])))))))
 (zs (zr [1,2,3,4,5,6,9] [zL 54 2 1,zk 55 495 [(.t 54)],zm 53 55,zx 56 0 53,zx 57 1 53,zq 9 56,zm 4 57])
 (zs (zs (zr [1,2,3,4,5,6,9,59] [zm 58 4,zd 59 .neq 58 (zI 0)])
 (zC 59 (zs (zr [2,3,4] [zm 60 4,⟨some 2,.nilo 1,none⟩,⟨some 3,.nilo 1,none⟩,zm 4 60])
 .ret)
 .skip))
 (zs (zr [2,3,5,6,9,10] [zf 61 1 1,zl 62 1 61,zn 63 62,⟨some 64,.mks 1 8 [zI 0] (.t 63) (.t 63),none⟩,zq 10 64])
 (zs (zs (zr [2,3,5,6,10,65,66,67] [zq 65 9,zn 66 65,zc 67 (zI 0)])
 (.block 2 (.loop (zs (zr [2,3,5,6,10,65,66,67,68] [zb 68 .lss 67 66])
 (zs (zC 68 .skip
 (.exit 2))
 (zs (.block 3 (zs (zr [2,3,5,6,10,12,65,66,67] [zi 69 1 65 67,zl 70 1 69,zm 12 70])
 (zs (zr [2,3,5,6,10,13,65,66,67] [zm 71 6,zm 72 12,zi 73 1 71 72,zl 74 1 73,zm 13 74])
 (zs (zr [2,3,5,6,10,13,65,66,67,76] [zm 75 13,⟨some 76,.bin .neq (.t 75) (.c (zI (-1))),none⟩])
 (zC 76 (zs (zr [2,3,5,6,10,13,65,66,67] [zm 77 10,zm 78 13,zm 79 2,zn 80 79,zi 81 1 77 78,⟨none,.st 1 [] (.t 81) (.t 80),none⟩])
 (zr [2,3,5,6,10,65,66,67] [zm 82 2,zm 83 13,⟨some 84,.bls 1 1 [zI 0] [] [(0,(.t 83))],none⟩,⟨some 85,.app 1 8 false (.t 82) (.t 84),none⟩,zq 2 85]))
 .skip)))))
 (zr [2,3,5,6,10,65,66,67] [zd 86 .add 67 (zI 1),zm 67 86])))))))
 (zs (zs (zr [2,3,5,6,10,87,88,89] [zm 87 2,zn 88 87,zc 89 (zI 0)])
 (.block 4 (.loop (zs (zr [2,3,5,6,10,87,88,89,90] [zb 90 .lss 89 88])
 (zs (zC 90 .skip
 (.exit 4))
 (zs (.block 5 (zs (zr [2,3,5,6,10,15,87,88,89] [zi 91 1 87 89,zl 92 1 91,zm 15 92])
 (zs (zr [2,3,5,6,10,15,16,87,88,89] [⟨some 16,.mov (.c (zI (-1))),none⟩])
 (zs (zs (zr [2,3,5,6,10,16,17,87,88,89] [zm 93 6,zm 94 5,zm 95 15,zi 96 2 94 95,⟨some 97,.iadA 2 1 (.t 96) (.c (zI 1)),none⟩,zl 98 1 97,zi 99 1 93 98,zl 100 1 99,zm 17 100])
 (zs (zr [2,3,5,6,10,16,17,87,88,89,102] [zm 101 17,⟨some 102,.bin .neq (.t 101) (.c (zI (-1))),none⟩])
 (zC 102 (zr [2,3,5,6,10,16,87,88,89] [zm 103 10,zm 104 17,zi 105 1 103 104,zl 106 1 105,zm 16 106])
 .skip)))
 (zr [2,3,5,6,10,87,88,89] [zm 107 3,zm 108 16,⟨some 109,.bls 1 1 [zI 0] [] [(0,(.t 108))],none⟩,⟨some 110,.app 1 8 false (.t 107) (.t 109),none⟩,zq 3 110])))))
 (zr [2,3,5,6,10,87,88,89] [zd 111 .add 89 (zI 1),zm 89 111])))))))
 (zs (zr [2,3,4] [zm 112 2,zm 113 3,zq 2 112,zq 3 113,zc 4 (zI 0)])
 .ret)))))))))))) }
def N606 : aw:={ np:=1,nt:=6,res:=[(2,none)],body :=
 (zs (zr [0] [zc 2 (.bool false)])
 (zs (zr [2] [zm 3 0,zk 4 29 [(.t 3),(.c (zI 0)),(.c (zI 1099511627776))],zt 5 4,zm 2 5])
 .ret)) }
def N607 : aw:={ np:=3,nt:=32,res:=[(6,none)],body :=
 (zs (zr [0,1,2] [zc 6 (.bool false)])
 (zs (zs (zr [0,1,2,14] [zm 10 0,zn 11 10,zm 12 1,zn 13 12,zb 14 .neq 11 13])
 (zC 14 (zs (zr [6] [zc 6 (.bool false)])
 .ret)
 .skip))
 (zs (zs (zr [1,2,15,16,17] [zq 15 0,zn 16 15,zc 17 (zI 0)])
 (.block 0 (.loop (zs (zr [1,2,15,16,17,18] [zb 18 .lss 17 16])
 (zs (zC 18 .skip
 (.exit 0))
 (zs (.block 1 (zs (zr [1,2,7,8,15,16,17] [zm 19 17,zi 20 5 15 17,zL 21 5 20,⟨some 8,.alc [.str [],zI 0,zI 0,.own 2 [],.own 2 []],none⟩,zm 7 19,⟨none,.st 5 [] (.t 8) (.t 21),none⟩])
 (zs (zr [1,2,8,9,15,16,17] [zm 22 1,zm 23 7,zi 24 5 22 23,zL 25 5 24,⟨some 9,.alc [.str [],zI 0,zI 0,.own 2 [],.own 2 []],none⟩,⟨none,.st 5 [] (.t 9) (.t 25),none⟩])
 (zs (zr [1,2,15,16,17,30] [zm 26 2,zL 27 5 8,zL 28 5 9,⟨some 29,.callv (.t 26) [(.t 27),(.t 28)],none⟩,zt 30 29])
 (zC 30 (zs (zr [6] [zc 6 (.bool false)])
 .ret)
 .skip)))))
 (zr [1,2,15,16,17] [zd 31 .add 17 (zI 1),zm 17 31])))))))
 (zs (zr [6] [zc 6 (.bool true)])
 .ret)))) }
def N608 : aw:={ np:=2,nt:=38,res:=[(4,none)],body :=
 (zs (zr [2,3] [zo 2 0,zo 3 1,zc 4 (.bool false)])
 (zs (zr [4] [zf 5 0 2,zl 6 1 5,zf 7 0 3,zl 8 1 7,zb 9 .eql 6 8,zm 10 9,zg 10 true (zf 11 1 2),zg 10 true (zl 12 1 11),zg 10 true (zf 13 1 3),zg 10 true (zl 14 1 13),zg 10 true (zb 15 .eql 12 14),⟨some 16,.pick (.t 10) (.t 15) (.c (.bool false)),none⟩,zm 17 16,zg 17 true (zf 18 2 2),zg 17 true (zl 19 1 18),zg 17 true (zf 20 2 3),zg 17 true (zl 21 1 20),zg 17 true (zb 22 .eql 19 21),⟨some 23,.pick (.t 17) (.t 22) (.c (.bool false)),none⟩,zm 24 23,zg 24 true (zf 25 3 2),zg 24 true (zl 26 1 25),zg 24 true (zf 27 3 3),zg 24 true (zl 28 1 27),zg 24 true (zk 29 184 [(.t 26),(.t 28)]),⟨some 30,.pick (.t 24) (.t 29) (.c (.bool false)),none⟩,zm 31 30,zg 31 true (zf 32 4 2),zg 31 true (zl 33 1 32),zg 31 true (zf 34 4 3),zg 31 true (zl 35 1 34),zg 31 true (zk 36 184 [(.t 33),(.t 35)]),⟨some 37,.pick (.t 31) (.t 36) (.c (.bool false)),none⟩,zm 4 37])
 .ret)) }
def N609 : aw:={ np:=1,nt:=8,res:=[(2,none)],body :=
 (zs (zr [0] [zc 2 .nils])
 (zs (zs (zr [0,4] [zm 3 0,⟨some 4,.beq false [9] (.t 3) (.c .nils),none⟩])
 (zC 4 (zs (zr [2] [zc 2 .nils])
 .ret)
 .skip))
 (zs (zr [2] [⟨some 5,.bls 11 0 [.str [],.str [],.str [],zI 0,zI 0,zI 0,zI 0,.str [],zI 0,zI 0,.own 2 []] [] [],none⟩,zq 6 0,⟨some 7,.app 11 136 false (.t 5) (.t 6),none⟩,zq 2 7])
 .ret))) }
def N614 : aw:={ np:=2,nt:=26,res:=[(4,none)],body :=
 (zs (zr [0,1] [zc 4 (.bool false)])
 (zs (zs (zr [0,1,10] [zm 6 0,zn 7 6,zm 8 1,zn 9 8,zb 10 .neq 7 9])
 (zC 10 (zs (zr [4] [zc 4 (.bool false)])
 .ret)
 .skip))
 (zs (zs (zr [0,1,5] [zc 5 (zI 0)])
 (.block 0 (.loop (zs (zs (zr [0,1,5,14] [zm 11 5,zm 12 0,zn 13 12,zb 14 .lss 11 13])
 (zC 14 .skip
 (.exit 0)))
 (zs (.block 1 (zs (.reg true [0,0,3,7,0,0,48,112,255] [0,1,5,25] [zm 17 0,zm 18 5,zi 19 1 17 18,zl 20 1 19,zm 21 1,zm 22 5,zi 23 1 21 22,zl 24 1 23,zb 25 .neq 20 24])
 (zC 25 (zs (zr [4] [zc 4 (.bool false)])
 .ret)
 .skip)))
 (zr [0,1,5] [zm 15 5,zd 16 .add 15 (zI 1),zm 5 16]))))))
 (zs (zr [4] [zc 4 (.bool true)])
 .ret)))) }
def N615 : aw:={ np:=2,nt:=27,res:=[(4,none)],body :=
 (zs (zr [0,1] [zc 4 (.bool false)])
 (zs (zs (zr [0,1,10] [zm 6 0,zn 7 6,zm 8 1,zn 9 8,zb 10 .neq 7 9])
 (zC 10 (zs (zr [4] [zc 4 (.bool false)])
 .ret)
 .skip))
 (zs (zs (zr [0,1,5] [zc 5 (zI 0)])
 (.block 0 (.loop (zs (zs (zr [0,1,5,14] [zm 11 5,zm 12 0,zn 13 12,zb 14 .lss 11 13])
 (zC 14 .skip
 (.exit 0)))
 (zs (.block 1 (zs (.reg true [0,0,3,7,0,0,48,112,255,511] [0,1,5,26] [zm 17 0,zm 18 5,zi 19 5 17 18,zL 20 5 19,zm 21 1,zm 22 5,zi 23 5 21 22,zL 24 5 23,zk 25 640 [(.t 20),(.t 24)],zt 26 25])
 (zC 26 (zs (zr [4] [zc 4 (.bool false)])
 .ret)
 .skip)))
 (zr [0,1,5] [zm 15 5,zd 16 .add 15 (zI 1),zm 5 16]))))))
 (zs (zr [4] [zc 4 (.bool true)])
 .ret)))) }
def N636 : aw:={ np:=1,nt:=6,res:=[(2,none)],body :=
 (zs (zr [1] [zo 1 0,zc 2 (.bool false)])
 (zs (zr [2] [zf 3 3 1,zl 4 1 3,zd 5 .neq 4 (zI 1),zm 2 5])
 .ret)) }
def N637 : aw:={ np:=2,nt:=26,res:=[(4,none)],body :=
 (zs (zr [0,1] [zc 4 (.bool false)])
 (zs (zs (zr [0,1,10] [zm 6 0,zn 7 6,zm 8 1,zn 9 8,zb 10 .neq 7 9])
 (zC 10 (zs (zr [4] [zc 4 (.bool false)])
 .ret)
 .skip))
 (zs (zs (zr [0,1,5] [zc 5 (zI 0)])
 (.block 0 (.loop (zs (zs (zr [0,1,5,14] [zm 11 5,zm 12 0,zn 13 12,zb 14 .lss 11 13])
 (zC 14 .skip
 (.exit 0)))
 (zs (.block 1 (zs (.reg true [0,0,3,7,0,0,48,112,255] [0,1,5,25] [zm 17 0,zm 18 5,zi 19 2 17 18,zL 20 2 19,zm 21 1,zm 22 5,zi 23 2 21 22,zL 24 2 23,⟨some 25,.beq true [0,0] (.t 20) (.t 24),none⟩])
 (zC 25 (zs (zr [4] [zc 4 (.bool false)])
 .ret)
 .skip)))
 (zr [0,1,5] [zm 15 5,zd 16 .add 15 (zI 1),zm 5 16]))))))
 (zs (zr [4] [zc 4 (.bool true)])
 .ret)))) }
def N640 : aw:={ np:=2,nt:=38,res:=[(4,none)],body :=
 (zs (zr [2,3] [zo 2 0,zo 3 1,zc 4 (.bool false)])
 (zs (zr [4] [zf 5 0 2,zl 6 1 5,zf 7 0 3,zl 8 1 7,zb 9 .eql 6 8,zm 10 9,zg 10 true (zf 11 1 2),zg 10 true (zl 12 1 11),zg 10 true (zf 13 1 3),zg 10 true (zl 14 1 13),zg 10 true (zb 15 .eql 12 14),⟨some 16,.pick (.t 10) (.t 15) (.c (.bool false)),none⟩,zm 17 16,zg 17 true (zf 18 2 2),zg 17 true (zl 19 1 18),zg 17 true (zf 20 2 3),zg 17 true (zl 21 1 20),zg 17 true (zb 22 .eql 19 21),⟨some 23,.pick (.t 17) (.t 22) (.c (.bool false)),none⟩,zm 24 23,zg 24 true (zf 25 3 2),zg 24 true (zl 26 1 25),zg 24 true (zf 27 3 3),zg 24 true (zl 28 1 27),zg 24 true (zk 29 637 [(.t 26),(.t 28)]),⟨some 30,.pick (.t 24) (.t 29) (.c (.bool false)),none⟩,zm 31 30,zg 31 true (zf 32 4 2),zg 31 true (zl 33 1 32),zg 31 true (zf 34 4 3),zg 31 true (zl 35 1 34),zg 31 true (zk 36 637 [(.t 33),(.t 35)]),⟨some 37,.pick (.t 31) (.t 36) (.c (.bool false)),none⟩,zm 4 37])
 .ret)) }
def prog : Nat -> Option aw
 | 3=>some N3
 | 11=>some N11
 | 15=>some N15
 | 19=>some N19
 | 23=>some N23
 | 24=>some N24
 | 25=>some N25
 | 29=>some N29
 | 30=>some N30
 | 31=>some N31
 | 32=>some N32
 | 35=>some N35
 | 39=>some N39
 | 40=>some N40
 | 43=>some N43
 | 44=>some N44
 | 45=>some N45
 | 46=>some N46
 | 47=>some N47
 | 51=>some N51
 | 52=>some N52
 | 53=>some N53
 | 58=>some N58
 | 59=>some N59
 | 60=>some N60
 | 61=>some N61
 | 70=>some N70
 | 71=>some N71
 | 72=>some N72
 | 73=>some N73
 | 74=>some N74
 | 75=>some N75
 | 76=>some N76
 | 77=>some N77
 | 88=>some N88
 | 89=>some N89
 | 90=>some N90
 | 91=>some N91
 | 92=>some N92
 | 96=>some N96
 | 97=>some N97
 | 98=>some N98
 | 99=>some N99
 | 100=>some N100
 | 101=>some N101
 | 102=>some N102
 | 103=>some N103
 | 104=>some N104
 | 105=>some N105
 | 106=>some N106
 | 107=>some N107
 | 108=>some N108
 | 109=>some N109
 | 110=>some N110
 | 111=>some N111
 | 112=>some N112
 | 113=>some N113
 | 120=>some N120
 | 122=>some N122
 | 164=>some N164
 | 168=>some N168
 | 169=>some N169
 | 170=>some N170
 | 171=>some N171
 | 172=>some N172
 | 173=>some N173
 | 174=>some N174
 | 175=>some N175
 | 176=>some N176
 | 177=>some N177
 | 178=>some N178
 | 179=>some N179
 | 180=>some N180
 | 181=>some N181
 | 182=>some N182
 | 183=>some N183
 | 184=>some N184
 | 185=>some N185
 | 299=>some N299
 | 315=>some N315
 | 333=>some N333
 | 339=>some N339
 | 411=>some N411
 | 441=>some N441
 | 453=>some N453
 | 455=>some N455
 | 471=>some N471
 | 480=>some N480
 | 495=>some N495
 | 499=>some N499
 | 503=>some N503
 | 504=>some N504
 | 511=>some N511
 | 514=>some N514
 | 515=>some N515
 | 516=>some N516
 | 517=>some N517
 | 518=>some N518
 | 522=>some N522
 | 524=>some N524
 | 534=>some N534
 | 564=>some N564
 | 565=>some N565
 | 566=>some N566
 | 567=>some N567
 | 570=>some N570
 | 598=>some N598
 | 603=>some N603
 | 604=>some N604
 | 605=>some N605
 | 606=>some N606
 | 607=>some N607
 | 608=>some N608
 | 609=>some N609
 | 614=>some N614
 | 615=>some N615
 | 636=>some N636
 | 637=>some N637
 | 640=>some N640
 | _=>none
end Go.Gv
