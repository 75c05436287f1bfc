/-
  Texts of the proof: GvP.
-/
import Derived.Test.YtakhehpeefjcnaaGreatX4
set_option linter.all false
set_option maxRecDepth 4000
namespace Go.Gv
@[simp] def zr(k:List Nat)(o:List ao):cW:=.reg false [] k o
@[simp] def zI(n:Int):D:=.int .i64 n
@[simp] def zC(t:Nat)(a b:cW):cW:=.cond (.t t) a b
@[simp] def zs(a b:cW):cW:=.seq a b
@[simp] def zy(t:Nat)(o:NOp):ao:=⟨some t,o,none⟩
@[simp] def zw(o:NOp):ao:=⟨none,o,none⟩
@[simp] def zp(a c x:Nat):ao:=⟨some a,.pick (.t c) (.c (.bool true)) (.t x),none⟩
@[simp] def zP(a c x:Nat):ao:=⟨some a,.pick (.t c) (.t x) (.c (.bool false)),none⟩
@[simp] def zA1:List D:=[zI 0,zI 0]
@[simp] def zA2:List D:=[.str [],.str [],.str [],zI 0,zI 0,zI 0,zI 0,.str [],zI 0,zI 0,.own 2 []]
@[simp] def zA3:List D:=[.int .u64 0,.int .u64 0,.bool false]
@[simp] def zA4:List D:=[.str [],zI 0,zI 0,zI 0,zI 0,zI 0,.own 2 [],.bool false,zI 0]
@[simp] def zA5:List D:=[.str [],zI 0,zI 0,.own 2 [],.own 2 []]
@[simp] def zA6:List D:=[.int .u64 0,.int .u64 0]
@[simp] def zm(a b:Nat):ao:=⟨some a,.mov (.t b),none⟩
@[simp] def zc(a:Nat)(d:D):ao:=⟨some a,.mov (.c d),none⟩
@[simp] def zf(a i b:Nat):ao:=⟨some a,.fad i (.t b),none⟩
@[simp] def zl(a n b:Nat):ao:=⟨some a,.ld n false (.t b),none⟩
@[simp] def zL(a n b:Nat):ao:=⟨some a,.ld n true (.t b),none⟩
@[simp] def zx(a i b:Nat):ao:=⟨some a,.ext i (.t b),none⟩
@[simp] def zn(a b:Nat):ao:=⟨some a,.len (.t b),none⟩
@[simp] def zq(a b:Nat):ao:=⟨some a,.asg (.t b),none⟩
@[simp] def zi(a n b c:Nat):ao:=⟨some a,.iadS n (.t b) (.t c),none⟩
@[simp] def zo(a b:Nat):ao:=⟨some a,.boxF (.t b),none⟩
@[simp] def zt(a b:Nat):ao:=⟨some a,.un .not (.t b),none⟩
@[simp] def zk(a g:Nat)(xs:List Opd):ao:=⟨some a,.call g xs [],none⟩
@[simp] def zb(a:Nat)(op:BinOp)(b c:Nat):ao:=⟨some a,.bin op (.t b) (.t c),none⟩
@[simp] def zd(a:Nat)(op:BinOp)(b:Nat)(d:D):ao:=⟨some a,.bin op (.t b) (.c d),none⟩
@[simp] def zg(c:Nat)(b:Bool)(s:ao):ao:=⟨s.dst,s.op,some (c,b)⟩
def N11:ar:={ np:=2,nt:=9,res:=[(4,none)],body :=
 (zs (zr [0,1] [zc 4 (.bool false)])
 (zs (zr [4] [zq 5 0,zm 6 1,zk 7 35 [.t 5,.t 6],zd 8 .geq 7 (zI 0),zm 4 8])
 .ret)) }
def N35:ar:={ np:=2,nt:=19,res:=[(4,none)],body :=
 (zs (zr [0,1] [zc 4 (zI 0)])
 (zs (zs (zr [0,1,7,8] [zm 6 0,zn 7 6,zc 8 (zI 0)])
 (.block 0 (.loop (zs (zr [0,1,7,8,9] [zb 9 .lss 8 7])
 (zs (zC 9 .skip
 (.exit 0))
 (zs (.block 1 (zs (zr [0,1,5,7,8] [zm 10 8,zm 5 10])
 (zs (zr [0,1,5,7,8,16] [zm 11 1,zm 12 0,zm 13 5,zi 14 1 12 13,zl 15 1 14,zy 16 (.callv (.t 11) [.t 15])])
 (zC 16 (zs (zr [4] [zm 17 5,zm 4 17])
 .ret)
 .skip))))
 (zr [0,1,7,8] [zd 18 .add 8 (zI 1),zm 8 18])))))))
 (zs (zr [4] [zy 4 (.mov (.c (zI (-1))))])
 .ret))) }
def N44:ar:={ np:=1,nt:=29,res:=[(2,none)],body :=
 (zs (zr [0] [zc 2 (.bool false)])
 (zs (zs (zr [0,8] [zm 6 0,zn 7 6,zd 8 .gtr 7 (zI 40)])
 (zC 8 (zs (zr [2] [zc 2 (.bool false)])
 .ret)
 .skip))
 (zs (zr [0,3] [zy 9 (.mkm 0 1),zm 3 9])
 (zs (zs (zr [3,10,11,12] [zq 10 0,zn 11 10,zc 12 (zI 0)])
 (.block 0 (.loop (zs (zr [3,10,11,12,13] [zb 13 .lss 12 11])
 (zs (zC 13 .skip
 (.exit 0))
 (zs (.block 1 (zs (zr [3,5,10,11,12] [zi 14 5 10 12,zL 15 5 14,zy 5 (.alc zA5),zw (.st 5 [] (.t 5) (.t 15))])
 (zs (zs (zr [3,5,10,11,12,24] [zL 16 5 5,zk 17 51 [.t 16],zt 18 17,zm 19 18,zg 19 false (zm 20 3),zg 19 false (zf 21 0 5),zg 19 false (zl 22 1 21),zg 19 false (zy 23 (.mpl .str 0 1 false (.bool false) (.t 20) (.t 22))),zp 24 19 23])
 (zC 24 (zs (zr [2] [zc 2 (.bool false)])
 .ret)
 .skip))
 (zr [3,10,11,12] [zm 25 3,zf 26 0 5,zl 27 1 26,zw (.mpu .str 0 1 (.bool false) (.t 25) (.t 27) (.c (.bool true)))]))))
 (zr [3,10,11,12] [zd 28 .add 12 (zI 1),zm 12 28])))))))
 (zs (zr [2] [zc 2 (.bool true)])
 .ret))))) }
def N45:ar:={ np:=2,nt:=9,res:=[(4,none)],body :=
 (zs (zr [0,1] [zc 4 (.bool false)])
 (zs (zr [4] [zq 5 0,zm 6 1,zk 7 52 [.t 5,.t 6],zd 8 .geq 7 (zI 0),zm 4 8])
 .ret)) }
def N47:ar:={ np:=3,nt:=16,res:=[(6,none),(7,none)],body :=
 (zs (zr [1,2,3] [zo 3 0,zc 6 (zI 0),zc 7 (zI 0)])
 (zs (zr [6,7] [zL 8 5 3,zf 9 1 3,zl 10 1 9,zm 11 1,zm 12 2,zk 13 53 [.t 8,.t 10,.t 11,.t 12],zx 14 0 13,zx 15 1 13,zm 6 14,zm 7 15])
 .ret)) }
def N51:ar:={ np:=1,nt:=40,res:=[(2,none)],body :=
 (zs (zr [1] [zo 1 0,zc 2 (.bool false)])
 (zs (zr [2] [zf 3 0 1,zl 4 1 3,zk 5 58 [.t 4],zm 6 5,zg 6 true (zf 7 1 1),zg 6 true (zl 8 1 7),zg 6 true (zd 9 .geq 8 (zI 1)),zP 10 6 9,zm 11 10,zg 11 true (zf 12 1 1),zg 11 true (zl 13 1 12),zg 11 true (zd 14 .leq 13 (zI 32768)),zP 15 11 14,zm 16 15,zg 16 true (zf 17 2 1),zg 16 true (zl 18 1 17),zg 16 true (zd 19 .geq 18 (zI 0)),zP 20 16 19,zm 21 20,zg 21 true (zf 22 2 1),zg 21 true (zl 23 1 22),zg 21 true (zd 24 .leq 23 (zI 1073741824)),zP 25 21 24,zm 26 25,zg 26 true (zf 27 3 1),zg 26 true (zl 28 1 27),zg 26 true (zf 29 1 1),zg 26 true (zl 30 1 29),zg 26 true (zk 31 59 [.t 28,.t 30,(.c (zI 1073741824))]),zP 32 26 31,zm 33 32,zg 33 true (zf 34 4 1),zg 33 true (zl 35 1 34),zg 33 true (zf 36 1 1),zg 33 true (zl 37 1 36),zg 33 true (zk 38 59 [.t 35,.t 37,(.c (zI 1099511627776))]),zP 39 33 38,zm 2 39])
 .ret)) }
def N52:ar:={ np:=2,nt:=19,res:=[(4,none)],body :=
 (zs (zr [0,1] [zc 4 (zI 0)])
 (zs (zs (zr [0,1,7,8] [zm 6 0,zn 7 6,zc 8 (zI 0)])
 (.block 0 (.loop (zs (zr [0,1,7,8,9] [zb 9 .lss 8 7])
 (zs (zC 9 .skip
 (.exit 0))
 (zs (.block 1 (zs (zr [0,1,5,7,8] [zm 10 8,zm 5 10])
 (zs (zr [0,1,5,7,8,16] [zm 11 1,zm 12 0,zm 13 5,zi 14 5 12 13,zL 15 5 14,zy 16 (.callv (.t 11) [.t 15])])
 (zC 16 (zs (zr [4] [zm 17 5,zm 4 17])
 .ret)
 .skip))))
 (zr [0,1,7,8] [zd 18 .add 8 (zI 1),zm 8 18])))))))
 (zs (zr [4] [zy 4 (.mov (.c (zI (-1))))])
 .ret))) }
def N53:ar:={ np:=4,nt:=47,res:=[(8,none),(9,none)],body :=
 (zs (zr [1,2,3,4] [zo 4 0,zc 8 (zI 0),zc 9 (zI 0)])
 (zs (.block 0 (zs (zr [1,2,3,4,12] [zL 13 5 4,zk 14 51 [.t 13],zt 15 14,zm 12 15])
 (zC 12 (zs (zr [8,9] [zc 8 (zI 0),zc 9 (zI 1)])
 .ret)
 (zs (zr [1,2,3,4,16] [zm 17 1,zd 18 .lss 17 (zI 0),zm 19 18,zg 19 false (zm 20 1),zg 19 false (zf 21 1 4),zg 19 false (zl 22 1 21),zg 19 false (zb 23 .gtr 20 22),zp 24 19 23,zm 25 24,zg 25 false (zm 26 2),zg 25 false (zm 27 3),zg 25 false (zk 28 60 [.t 26,.t 27]),zg 25 false (zt 29 28),zp 30 25 29,zm 16 30])
 (zC 16 (zs (zr [8,9] [zc 8 (zI 0),zc 9 (zI 2)])
 .ret)
 .skip)))))
 (zs (zr [10,11] [zL 32 5 4,zm 33 1,zm 34 2,zm 35 3,zk 36 61 [.t 32,.t 33,.t 34,.t 35],zm 31 36,zx 37 0 31,zx 38 1 31,zm 10 37,zm 11 38])
 (zs (.block 1 (zs (zr [10,11,39] [zm 40 11,zd 41 .neq 40 (zI 0),zm 39 41])
 (zC 39 (zs (zr [8,9] [zm 42 11,zc 8 (zI 0),zm 9 42])
 .ret)
 (zs (zr [10,43] [zm 44 10,zd 45 .gtr 44 (zI 1099511627776),zm 43 45])
 (zC 43 (zs (zr [8,9] [zc 8 (zI 0),zc 9 (zI 5)])
 .ret)
 .skip)))))
 (zs (zr [8,9] [zm 46 10,zm 8 46,zc 9 (zI 0)])
 .ret))))) }
def N58:ar:={ np:=1,nt:=22,res:=[(2,none)],body :=
 (zs (zr [0] [zc 2 (.bool false)])
 (zs (zr [2] [zm 3 0,zd 4 .neq 3 (.str []),zm 5 4,zg 5 true (zm 6 0),zg 5 true (zy 7 (.lens (.t 6))),zg 5 true (zd 8 .leq 7 (zI 20)),zP 9 5 8,zm 10 9,zg 10 true (zm 11 0),zg 10 true (zy 12 (.idxS (.t 11) (.c (zI 0)))),zg 10 true (zk 13 70 [.t 12]),zP 14 10 13,zm 15 14,zg 15 true (zm 16 0),zg 15 true (zk 17 71 [.t 16]),zg 15 true (zm 18 0),zg 15 true (zy 19 (.lens (.t 18))),zg 15 true (zb 20 .eql 17 19),zP 21 15 20,zm 2 21])
 .ret)) }
def N59:ar:={ np:=3,nt:=34,res:=[(6,none)],body :=
 (zs (zr [0,1,2] [zc 6 (.bool false)])
 (zs (zs (zr [0,1,2,10] [zm 8 0,zk 9 72 [.t 8],zt 10 9])
 (zC 10 (zs (zr [6] [zc 6 (.bool false)])
 .ret)
 .skip))
 (zs (zr [0,1,2,7] [zm 11 0,zm 12 0,zn 13 12,zd 14 .sub 13 (zI 1),zi 15 2 11 14,zL 16 2 15,zy 7 (.alc zA1),zw (.st 2 [] (.t 7) (.t 16))])
 (zs (zr [6] [zq 17 0,zy 18 (.iadS 2 (.t 17) (.c (zI 0))),zL 19 2 18,zy 20 (.bld [zI 0,zI 0] []),zy 21 (.beq false [0,0] (.t 19) (.t 20)),zm 22 21,zg 22 true (zf 23 0 7),zg 22 true (zl 24 1 23),zg 22 true (zm 25 1),zg 22 true (zb 26 .eql 24 25),zP 27 22 26,zm 28 27,zg 28 true (zf 29 1 7),zg 28 true (zl 30 1 29),zg 28 true (zm 31 2),zg 28 true (zb 32 .leq 30 31),zP 33 28 32,zm 6 33])
 .ret)))) }
def N60:ar:={ np:=2,nt:=19,res:=[(4,none)],body :=
 (zs (zr [0,1] [zc 4 (.bool false)])
 (zs (zr [4] [zm 5 0,zd 6 .geq 5 (zI 0),zm 7 6,zg 7 true (zm 8 0),zg 7 true (zd 9 .leq 8 (zI 4194304)),zP 10 7 9,zm 11 10,zg 11 true (zm 12 1),zg 11 true (zd 13 .geq 12 (zI 1)),zP 14 11 13,zm 15 14,zg 15 true (zm 16 1),zg 15 true (zd 17 .leq 16 (zI 16777216)),zP 18 15 17,zm 4 18])
 .ret)) }
def N61:ar:={ np:=4,nt:=30,res:=[(8,none),(9,none)],body :=
 (zs (zr [1,2,3,4] [zo 4 0,zc 8 (zI 0),zc 9 (zI 0)])
 (zs (zr [2,3,10,11] [zf 13 4 4,zl 14 1 13,zm 15 1,zk 16 73 [.t 14,.t 15],zm 12 16,zx 17 0 12,zx 18 1 12,zm 10 17,zm 11 18])
 (zs (zs (zr [2,3,10,11,20] [zm 19 11,zd 20 .neq 19 (zI 0)])
 (zC 20 (zs (zr [8,9] [zm 21 11,zc 8 (zI 0),zm 9 21])
 .ret)
 .skip))
 (zs (zr [8,9] [zm 22 10,zm 23 10,zk 24 74 [.t 22,.t 23],zm 25 2,zk 26 75 [.t 24,.t 25],zm 27 3,zk 28 76 [.t 26,.t 27],zk 29 77 [.t 28],zm 8 29,zc 9 (zI 0)])
 .ret)))) }
def N70:ar:={ np:=1,nt:=17,res:=[(2,none)],body :=
 (zs (zr [0] [zc 2 (.bool false)])
 (zs (zr [2] [zm 3 0,zd 4 .geq 3 (.int .u8 97),zm 5 4,zg 5 true (zm 6 0),zg 5 true (zd 7 .leq 6 (.int .u8 122)),zP 8 5 7,zm 9 8,zg 9 false (zm 10 0),zg 9 false (zd 11 .geq 10 (.int .u8 65)),zg 9 false (zm 12 11),zg 12 true (zm 13 0),zg 12 true (zd 14 .leq 13 (.int .u8 90)),zg 9 false (zP 15 12 14),zp 16 9 15,zm 2 16])
 .ret)) }
def N71:ar:={ np:=1,nt:=29,res:=[(2,none)],body :=
 (zs (zr [0] [zc 2 (zI 0)])
 (zs (zr [0,3] [zc 3 (zI 0)])
 (zs (.block 0 (.loop (zs (zs (zr [0,3,25] [zm 4 3,zm 5 0,zy 6 (.lens (.t 5)),zb 7 .lss 4 6,zm 8 7,zg 8 true (zm 9 0),zg 8 true (zm 10 3),zg 8 true (zy 11 (.idxS (.t 9) (.t 10))),zg 8 true (zk 12 70 [.t 11]),zg 8 true (zm 13 12),zg 13 false (zm 14 0),zg 13 false (zm 15 3),zg 13 false (zy 16 (.idxS (.t 14) (.t 15))),zg 13 false (zk 17 88 [.t 16]),zg 8 true (zp 18 13 17),zg 8 true (zm 19 18),zg 19 false (zm 20 0),zg 19 false (zm 21 3),zg 19 false (zy 22 (.idxS (.t 20) (.t 21))),zg 19 false (zd 23 .eql 22 (.int .u8 95)),zg 8 true (zp 24 19 23),zP 25 8 24])
 (zC 25 .skip
 (.exit 0)))
 (.block 1 (zr [0,3] [zm 26 3,zd 27 .add 26 (zI 1),zm 3 27])))))
 (zs (zr [2] [zm 28 3,zm 2 28])
 .ret)))) }
def N72:ar:={ np:=1,nt:=57,res:=[(2,none)],body :=
 (zs (zr [0] [zc 2 (.bool false)])
 (zs (zs (zr [0,12] [zm 5 0,zn 6 5,zd 7 .lss 6 (zI 1),zm 8 7,zg 8 false (zm 9 0),zg 8 false (zn 10 9),zg 8 false (zd 11 .gtr 10 (zI 100)),zp 12 8 11])
 (zC 12 (zs (zr [2] [zc 2 (.bool false)])
 .ret)
 .skip))
 (zs (zs (zr [0,13,14,15] [zm 13 0,zn 14 13,zc 15 (zI 0)])
 (.block 0 (.loop (zs (zr [0,13,14,15,16] [zb 16 .lss 15 14])
 (zs (zC 16 .skip
 (.exit 0))
 (zs (.block 1 (zs (zr [0,3,4,13,14,15] [zm 17 15,zi 18 2 13 15,zL 19 2 18,zy 4 (.alc zA1),zm 3 17,zw (.st 2 [] (.t 4) (.t 19))])
 (zs (.reg true [0,1,3,7,15,31,63,127,255,511,1023,2047,4095,8191,16383,32767,16383,16383,147455,475135,999423,2047999,4194303,8388607,16777215,33554431,16777215,16777215,150994943,486539263,1023410175,2097151999,4294967295,8589934591,17179869183,34359738367] [0,13,14,15,55] [zf 20 0 4,zl 21 1 20,zk 22 89 [.t 21],zt 23 22,zm 24 23,zg 24 false (zf 25 1 4),zg 24 false (zl 26 1 25),zg 24 false (zk 27 89 [.t 26]),zg 24 false (zt 28 27),zp 29 24 28,zm 30 29,zg 30 false (zm 31 3),zg 30 false (zd 32 .gtr 31 (zI 0)),zg 30 false (zm 33 32),zg 33 true (zf 34 0 4),zg 33 true (zl 35 1 34),zg 33 true (zm 36 0),zg 33 true (zm 37 3),zg 33 true (zd 38 .sub 37 (zI 1)),zg 33 true (zi 39 2 36 38),zg 33 true (zf 40 0 39),zg 33 true (zl 41 1 40),zg 33 true (zb 42 .leq 35 41),zg 33 true (zm 43 42),zg 43 false (zf 44 1 4),zg 43 false (zl 45 1 44),zg 43 false (zm 46 0),zg 43 false (zm 47 3),zg 43 false (zd 48 .sub 47 (zI 1)),zg 43 false (zi 49 2 46 48),zg 43 false (zf 50 1 49),zg 43 false (zl 51 1 50),zg 43 false (zb 52 .lss 45 51),zg 33 true (zp 53 43 52),zg 30 false (zP 54 33 53),zp 55 30 54])
 (zC 55 (zs (zr [2] [zc 2 (.bool false)])
 .ret)
 .skip))))
 (zr [0,13,14,15] [zd 56 .add 15 (zI 1),zm 15 56])))))))
 (zs (zr [2] [zc 2 (.bool true)])
 .ret)))) }
def N73:ar:={ np:=2,nt:=20,res:=[(4,none),(5,none)],body :=
 (zs (zr [0,1] [zc 4 (zI 0),zc 5 (zI 0)])
 (zs (zs (zr [0,1,11] [zm 9 0,zk 10 72 [.t 9],zt 11 10])
 (zC 11 (zs (zr [4,5] [zc 4 (zI 0),zc 5 (zI 1)])
 .ret)
 .skip))
 (zs (zr [6] [zq 13 0,zm 14 1,zk 15 90 [.t 13,.t 14],zm 12 15,zx 16 0 12,zx 17 1 12,zx 18 2 12,zm 6 16,zm 7 17,zm 8 18])
 (zs (zr [4,5] [zm 19 6,zm 4 19,zc 5 (zI 0)])
 .ret)))) }
def N74:ar:={ np:=2,nt:=18,res:=[(4,some (2,true))],body :=
 (zs (zr [0,1,4] [zy 4 (.alc zA6)])
 (zs (zr [4,5,6] [zm 8 0,zy 9 (.conv .u64 (.t 8)),zm 10 1,zy 11 (.conv .u64 (.t 10)),zk 12 91 [.t 9,.t 11],zm 7 12,zx 13 0 7,zx 14 1 7,zm 5 13,zm 6 14])
 (zs (zr [4] [zm 15 5,zm 16 6,zy 17 (.bld [.int .u64 0,.int .u64 0] [(0,1,.t 15),(1,1,.t 16)]),zw (.st 2 [] (.t 4) (.t 17))])
 .ret))) }
def N75:ar:={ np:=2,nt:=24,res:=[(4,some (2,true))],body :=
 (zs (zr [1,2,4] [zo 2 0,zy 4 (.alc zA6)])
 (zs (zr [1,2,4,5,6] [zf 8 1 2,zl 9 1 8,zm 10 1,zy 11 (.conv .u64 (.t 10)),zk 12 91 [.t 9,.t 11],zm 7 12,zx 13 0 7,zx 14 1 7,zm 5 13,zm 6 14])
 (zs (zr [4] [zm 15 5,zf 16 0 2,zl 17 1 16,zm 18 1,zy 19 (.conv .u64 (.t 18)),zb 20 .mul 17 19,zb 21 .add 15 20,zm 22 6,zy 23 (.bld [.int .u64 0,.int .u64 0] [(0,1,.t 21),(1,1,.t 22)]),zw (.st 2 [] (.t 4) (.t 23))])
 .ret))) }
def N76:ar:={ np:=2,nt:=31,res:=[(4,some (2,true))],body :=
 (zs (zr [1,2,4] [zo 2 0,zy 4 (.alc zA6)])
 (zs (.reg true [0,1,0,4,15,0,32,0,128,480,31,2047] [1,2,4,5,6] [zf 9 0 2,zl 10 1 9,zm 11 1,zy 12 (.conv .u64 (.t 11)),zb 13 .quo 10 12,zf 14 0 2,zl 15 1 14,zm 16 1,zy 17 (.conv .u64 (.t 16)),zb 18 .rem 15 17,zm 5 13,zm 6 18])
 (zs (zr [4,5,7] [zm 20 6,zf 21 1 2,zl 22 1 21,zm 23 1,zy 24 (.conv .u64 (.t 23)),zk 25 92 [.t 20,.t 22,.t 24],zm 19 25,zx 26 0 19,zx 27 1 19,zm 7 26,zm 8 27])
 (zs (zr [4] [zm 28 5,zm 29 7,zy 30 (.bld [.int .u64 0,.int .u64 0] [(0,1,.t 28),(1,1,.t 29)]),zw (.st 2 [] (.t 4) (.t 30))])
 .ret)))) }
def N77:ar:={ np:=1,nt:=42,res:=[(2,none)],body :=
 (zs (zr [1] [zo 1 0,zc 2 (zI 0)])
 (zs (zr [1,3] [zc 3 (.int .u64 0)])
 (zs (zs (zr [1,3,4] [zc 4 (.int .u64 4611686018427387904)])
 (.block 0 (.loop (zs (zs (zr [1,3,4,8] [zm 7 4,zd 8 .gtr 7 (.int .u64 0)])
 (zC 8 .skip
 (.exit 0)))
 (zs (.block 1 (zs (zr [1,3,4,5,6] [zm 12 3,zm 13 4,zb 14 .or 12 13,zm 15 3,zm 16 4,zb 17 .or 15 16,zk 18 91 [.t 14,.t 17],zm 11 18,zx 19 0 11,zx 20 1 11,zm 5 19,zm 6 20])
 (zs (zr [1,3,4,36] [zm 21 5,zf 22 0 1,zl 23 1 22,zb 24 .lss 21 23,zm 25 24,zg 25 false (zm 26 5),zg 25 false (zf 27 0 1),zg 25 false (zl 28 1 27),zg 25 false (zb 29 .eql 26 28),zg 25 false (zm 30 29),zg 30 true (zm 31 6),zg 30 true (zf 32 1 1),zg 30 true (zl 33 1 32),zg 30 true (zb 34 .leq 31 33),zg 25 false (zP 35 30 34),zp 36 25 35])
 (zC 36 (zr [1,3,4] [zm 37 3,zm 38 4,zb 39 .or 37 38,zm 3 39])
 .skip))))
 (zr [1,3,4] [zm 9 4,zd 10 .shr 9 (.int .u64 1),zm 4 10]))))))
 (zs (zr [2] [zm 40 3,zy 41 (.conv .i64 (.t 40)),zm 2 41])
 .ret)))) }
def N88:ar:={ np:=1,nt:=9,res:=[(2,none)],body :=
 (zs (zr [0] [zc 2 (.bool false)])
 (zs (zr [2] [zm 3 0,zd 4 .geq 3 (.int .u8 48),zm 5 4,zg 5 true (zm 6 0),zg 5 true (zd 7 .leq 6 (.int .u8 57)),zP 8 5 7,zm 2 8])
 .ret)) }
def N89:ar:={ np:=1,nt:=9,res:=[(2,none)],body :=
 (zs (zr [0] [zc 2 (.bool false)])
 (zs (zr [2] [zm 3 0,zy 4 (.bin .geq (.t 3) (.c (zI (-1125899906842624)))),zm 5 4,zg 5 true (zm 6 0),zg 5 true (zd 7 .leq 6 (zI 1125899906842624)),zP 8 5 7,zm 2 8])
 .ret)) }
def N90:ar:={ np:=2,nt:=110,res:=[(4,none),(5,none),(6,none)],body :=
 (zs (zr [0,1] [zc 4 (zI 0),zc 5 (zI 0),zc 6 (zI 0)])
 (zs (zr [0,1,7,8] [zm 23 0,zm 24 1,zy 25 (.call 96 [.t 23,.t 24,(.c (.fn 97 []))] []),zm 22 25,zx 26 0 22,zx 27 1 22,zm 7 26,zm 8 27])
 (zs (.block 0 (zs (zr [0,1,7,28] [zm 29 8,zm 30 29,zg 30 false (zm 31 7),zg 30 false (zd 32 .eql 31 (zI 0)),zp 33 30 32,zm 28 33])
 (zC 28 (zs (zr [4,5,6] [zq 34 0,zm 35 7,zi 36 2 34 35,zf 37 1 36,zl 38 1 37,zm 4 38,zc 5 (zI 0),zc 6 (zI 1)])
 .ret)
 (zs (zr [0,1,7,39] [zm 40 7,zm 41 0,zn 42 41,zb 43 .eql 40 42,zm 39 43])
 (zC 39 (zs (zr [4,5,6] [zq 44 0,zm 45 7,zd 46 .sub 45 (zI 1),zi 47 2 44 46,zf 48 1 47,zl 49 1 48,zm 4 49,zc 5 (zI 0),zc 6 (zI 1)])
 .ret)
 .skip)))))
 (zs (.reg true [0,0,2,7,15,0,0,96,224,0,0,1567,4095] [1,9,10] [zm 50 0,zm 51 7,zd 52 .sub 51 (zI 1),zi 53 2 50 52,zL 54 2 53,zq 55 0,zm 56 7,zi 57 2 55 56,zL 58 2 57,zy 9 (.alc zA1),zy 10 (.alc zA1),zw (.st 2 [] (.t 9) (.t 54)),zw (.st 2 [] (.t 10) (.t 58))])
 (zs (.reg true [0,1,0,4,15,0,0,64,224,0,512,0,2048,7680,31,16895,65535] [6,9,11,12] [zf 59 1 10,zl 60 1 59,zf 61 1 9,zl 62 1 61,zb 63 .sub 60 62,zm 64 1,zf 65 0 9,zl 66 1 65,zb 67 .sub 64 66,zf 68 0 10,zl 69 1 68,zf 70 0 9,zl 71 1 70,zb 72 .sub 69 71,zm 11 63,zm 12 67,zm 6 72])
 (zs (zr [6,9,11,12,13] [zm 74 11,zm 75 12,zm 76 6,zk 77 98 [.t 74,.t 75,.t 76],zm 73 77,zx 78 0 73,zx 79 1 73,zx 80 2 73,zm 13 78,zm 14 79,zm 15 80])
 (zs (zr [6,9,13,16] [zm 82 11,zm 83 12,zk 84 99 [.t 82,.t 83],zm 81 84,zx 85 0 81,zx 86 1 81,zy 16 (.alc zA1),zw (.st 2 [] (.t 16) (.t 85)),zm 17 86])
 (zs (zr [6,9,13,16,18] [zm 88 13,zm 89 6,zk 90 99 [.t 88,.t 89],zm 87 90,zx 91 0 87,zx 92 1 87,zy 18 (.alc zA1),zw (.st 2 [] (.t 18) (.t 91)),zm 19 92])
 (zs (zr [6,9,13,20] [zL 94 2 16,zL 95 2 18,zk 96 100 [.t 94,.t 95],zm 93 96,zx 97 0 93,zx 98 1 93,zy 20 (.alc zA1),zw (.st 2 [] (.t 20) (.t 97)),zm 21 98])
 (zs (zr [5,6,9,13] [zL 100 2 20,zk 101 101 [.t 100],zm 99 101,zx 102 0 99,zx 103 1 99,zm 5 102])
 (zs (zr [4,5,6] [zf 104 1 9,zl 105 1 104,zm 106 13,zb 107 .add 105 106,zm 108 5,zm 109 6,zm 4 107,zm 5 108,zm 6 109])
 .ret))))))))))) }
def N91:ar:={ np:=2,nt:=51,res:=[(4,none),(5,none)],body :=
 (zs (zr [0,1] [zc 4 (.int .u64 0),zc 5 (.int .u64 0)])
 (zs (zr [0,1,6] [zm 14 0,zd 15 .and 14 (.int .u64 4294967295),zm 6 15])
 (zs (zr [0,1,6,7] [zm 16 0,zd 17 .shr 16 (.int .u64 32),zm 7 17])
 (zs (zr [0,1,6,7,8] [zm 18 1,zd 19 .and 18 (.int .u64 4294967295),zm 8 19])
 (zs (zr [0,1,6,7,8,9] [zm 20 1,zd 21 .shr 20 (.int .u64 32),zm 9 21])
 (zs (zr [0,1,6,7,8,9,10] [zm 22 6,zm 23 8,zb 24 .mul 22 23,zm 10 24])
 (zs (zr [0,1,6,7,9,11] [zm 25 7,zm 26 8,zb 27 .mul 25 26,zm 28 10,zd 29 .shr 28 (.int .u64 32),zb 30 .add 27 29,zm 11 30])
 (zs (zr [0,1,6,7,9,11,12] [zm 31 11,zd 32 .and 31 (.int .u64 4294967295),zm 12 32])
 (zs (zr [0,1,6,7,9,12,13] [zm 33 11,zd 34 .shr 33 (.int .u64 32),zm 13 34])
 (zs (zr [0,1,7,9,12,13] [zm 35 12,zm 36 6,zm 37 9,zb 38 .mul 36 37,zb 39 .add 35 38,zm 12 39])
 (zs (zr [0,1,4] [zm 40 7,zm 41 9,zb 42 .mul 40 41,zm 43 13,zb 44 .add 42 43,zm 45 12,zd 46 .shr 45 (.int .u64 32),zb 47 .add 44 46,zm 4 47])
 (zs (zr [4,5] [zm 48 0,zm 49 1,zb 50 .mul 48 49,zm 5 50])
 .ret)))))))))))) }
def N92:ar:={ np:=3,nt:=135,res:=[(6,none),(7,none)],body :=
 (zs (zr [0,1,2] [zc 6 (.int .u64 0),zc 7 (.int .u64 0)])
 (zs (zs (zr [0,1,2,20] [zm 19 2,zd 20 .eql 19 (.int .u64 0)])
 (zC 20 (zr [0,1,2] [zy 21 (.dead),zw (.dead)])
 .skip))
 (zs (zs (zr [0,1,2,24] [zm 22 2,zm 23 0,zb 24 .leq 22 23])
 (zC 24 (zr [0,1,2] [zy 25 (.dead),zw (.dead)])
 .skip))
 (zs (zs (zr [0,1,2,27] [zm 26 0,zd 27 .eql 26 (.int .u64 0)])
 (zC 27 (zs (.reg true [0,0,3,0,0,24,7,127] [6,7] [zm 28 1,zm 29 2,zb 30 .quo 28 29,zm 31 1,zm 32 2,zb 33 .rem 31 32,zm 6 30,zm 7 33])
 .ret)
 .skip))
 (zs (zr [0,1,2,8] [zm 34 2,zk 35 102 [.t 34],zy 36 (.conv .u64 (.t 35)),zm 8 36])
 (zs (zr [0,1,2,8] [zm 37 2,zm 38 8,zb 39 .shl 37 38,zm 2 39])
 (zs (zr [0,1,2,8,9] [zm 40 2,zd 41 .shr 40 (.int .u64 32),zm 9 41])
 (zs (zr [0,1,2,8,9,10] [zm 42 2,zd 43 .and 42 (.int .u64 4294967295),zm 10 43])
 (zs (zr [1,2,8,9,10,11] [zm 44 0,zm 45 8,zb 46 .shl 44 45,zm 47 1,zm 48 8,zy 49 (.bin .sub (.c (.int .u64 64)) (.t 48)),zb 50 .shr 47 49,zb 51 .or 46 50,zm 11 51])
 (zs (zr [2,8,9,10,11,12] [zm 52 1,zm 53 8,zb 54 .shl 52 53,zm 12 54])
 (zs (zr [2,8,9,10,11,12,13] [zm 55 12,zd 56 .shr 55 (.int .u64 32),zm 13 56])
 (zs (zr [2,8,9,10,11,13,14] [zm 57 12,zd 58 .and 57 (.int .u64 4294967295),zm 14 58])
 (zs (zr [2,8,9,10,11,13,14,15] [zm 59 11,zm 60 9,zb 61 .quo 59 60,zm 15 61])
 (zs (zr [2,8,9,10,11,13,14,15,16] [zm 62 11,zm 63 15,zm 64 9,zb 65 .mul 63 64,zb 66 .sub 62 65,zm 16 66])
 (zs (.block 0 (.loop (zs (zs (zr [2,8,9,10,11,13,14,15,16,78] [zm 67 15,zd 68 .geq 67 (.int .u64 4294967296),zm 69 68,zg 69 false (zm 70 15),zg 69 false (zm 71 10),zg 69 false (zb 72 .mul 70 71),zg 69 false (zm 73 16),zg 69 false (zy 74 (.bin .mul (.c (.int .u64 4294967296)) (.t 73))),zg 69 false (zm 75 13),zg 69 false (zb 76 .add 74 75),zg 69 false (zb 77 .gtr 72 76),zp 78 69 77])
 (zC 78 .skip
 (.exit 0)))
 (.block 1 (zs (zr [2,8,9,10,11,13,14,15,16] [zm 79 15,zd 80 .sub 79 (.int .u64 1),zm 15 80])
 (zs (zr [2,8,9,10,11,13,14,15,16] [zm 81 16,zm 82 9,zb 83 .add 81 82,zm 16 83])
 (zs (zr [2,8,9,10,11,13,14,15,16,85] [zm 84 16,zd 85 .geq 84 (.int .u64 4294967296)])
 (zC 85 (.exit 0)
 .skip))))))))
 (zs (zr [2,8,9,10,14,15,17] [zm 86 11,zd 87 .mul 86 (.int .u64 4294967296),zm 88 13,zb 89 .add 87 88,zm 90 15,zm 91 2,zb 92 .mul 90 91,zb 93 .sub 89 92,zm 17 93])
 (zs (zr [2,8,9,10,14,15,17,18] [zm 94 17,zm 95 9,zb 96 .quo 94 95,zm 18 96])
 (zs (zr [2,8,9,10,14,15,16,17,18] [zm 97 17,zm 98 18,zm 99 9,zb 100 .mul 98 99,zb 101 .sub 97 100,zm 16 101])
 (zs (.block 2 (.loop (zs (zs (zr [2,8,9,10,14,15,16,17,18,113] [zm 102 18,zd 103 .geq 102 (.int .u64 4294967296),zm 104 103,zg 104 false (zm 105 18),zg 104 false (zm 106 10),zg 104 false (zb 107 .mul 105 106),zg 104 false (zm 108 16),zg 104 false (zy 109 (.bin .mul (.c (.int .u64 4294967296)) (.t 108))),zg 104 false (zm 110 14),zg 104 false (zb 111 .add 109 110),zg 104 false (zb 112 .gtr 107 111),zp 113 104 112])
 (zC 113 .skip
 (.exit 2)))
 (.block 3 (zs (zr [2,8,9,10,14,15,16,17,18] [zm 114 18,zd 115 .sub 114 (.int .u64 1),zm 18 115])
 (zs (zr [2,8,9,10,14,15,16,17,18] [zm 116 16,zm 117 9,zb 118 .add 116 117,zm 16 118])
 (zs (zr [2,8,9,10,14,15,16,17,18,120] [zm 119 16,zd 120 .geq 119 (.int .u64 4294967296)])
 (zC 120 (.exit 2)
 .skip))))))))
 (zs (zr [6,7] [zm 121 15,zd 122 .mul 121 (.int .u64 4294967296),zm 123 18,zb 124 .add 122 123,zm 125 17,zd 126 .mul 125 (.int .u64 4294967296),zm 127 14,zb 128 .add 126 127,zm 129 18,zm 130 2,zb 131 .mul 129 130,zb 132 .sub 128 131,zm 133 8,zb 134 .shr 132 133,zm 6 124,zm 7 134])
 .ret)))))))))))))))))))) }
def N96:ar:={ np:=3,nt:=49,res:=[(6,none),(7,none)],body :=
 (zs (zr [0,1,2] [zc 6 (zI 0),zc 7 (.bool false)])
 (zs (zr [0,1,2,8] [zm 12 0,zn 13 12,zm 8 13])
 (zs (zr [0,1,2,8,9,10] [zm 14 8,zc 9 (zI 0),zm 10 14])
 (zs (.block 0 (.loop (zs (zs (zr [0,1,2,8,9,10,17] [zm 15 9,zm 16 10,zb 17 .lss 15 16])
 (zC 17 .skip
 (.exit 0)))
 (.block 1 (zs (zr [0,1,2,8,9,10,11] [zm 18 9,zm 19 10,zb 20 .add 18 19,zy 21 (.conv .u64 (.t 20)),zd 22 .shr 21 (.int .u64 1),zy 23 (.conv .i64 (.t 22)),zm 11 23])
 (zs (zr [0,1,2,8,9,10,11,31] [zm 24 2,zm 25 0,zm 26 11,zi 27 2 25 26,zL 28 2 27,zm 29 1,zy 30 (.callv (.t 24) [.t 28,.t 29]),zd 31 .lss 30 (zI 0)])
 (zC 31 (zr [0,1,2,8,9,10] [zm 32 11,zd 33 .add 32 (zI 1),zm 9 33])
 (zr [0,1,2,8,9,10] [zm 34 11,zm 10 34]))))))))
 (zs (zr [6,7] [zm 35 9,zm 36 9,zm 37 8,zb 38 .lss 36 37,zm 39 38,zg 39 true (zm 40 2),zg 39 true (zq 41 0),zg 39 true (zm 42 9),zg 39 true (zi 43 2 41 42),zg 39 true (zL 44 2 43),zg 39 true (zm 45 1),zg 39 true (zy 46 (.callv (.t 40) [.t 44,.t 45])),zg 39 true (zd 47 .eql 46 (zI 0)),zP 48 39 47,zm 6 35,zm 7 48])
 .ret))))) }
def N97:ar:={ np:=2,nt:=15,res:=[(4,none)],body :=
 (zs (zr [1,2] [zo 2 0,zc 4 (zI 0)])
 (zs (.block 0 (zs (zr [1,2,5] [zf 6 0 2,zl 7 1 6,zm 8 1,zb 9 .lss 7 8,zm 5 9])
 (zC 5 (zs (zr [4] [zy 4 (.mov (.c (zI (-1))))])
 .ret)
 (zs (zr [10] [zf 11 0 2,zl 12 1 11,zm 13 1,zb 14 .gtr 12 13,zm 10 14])
 (zC 10 (zs (zr [4] [zc 4 (zI 1)])
 .ret)
 .skip)))))
 (zs (zr [4] [zc 4 (zI 0)])
 .ret))) }
def N98:ar:={ np:=3,nt:=35,res:=[(6,none),(7,none),(8,none)],body :=
 (zs (zr [0,1,2] [zc 6 (zI 0),zc 7 (zI 0),zc 8 (zI 0)])
 (zs (zs (zr [0,1,2,11] [zm 10 2,zd 11 .eql 10 (zI 0)])
 (zC 11 (zs (zr [6,7,8] [zc 6 (zI 0),zc 7 (zI 0),zc 8 (zI 16)])
 .ret)
 .skip))
 (zs (zr [2,9] [zm 12 0,zm 13 1,zk 14 103 [.t 12,.t 13],zy 9 (.alc zA3),zw (.st 3 [] (.t 9) (.t 14))])
 (zs (zs (zr [2,6,8,9] [zL 16 3 9,zm 17 2,zk 18 104 [.t 16,.t 17,(.c (.bool false))],zm 15 18,zx 19 0 15,zx 20 1 15,zm 6 19,zm 8 20])
 (zs (zr [2,6,8,9,22] [zm 21 8,zd 22 .neq 21 (zI 0)])
 (zC 22 (zs (zr [6,7,8] [zm 23 8,zc 6 (zI 0),zc 7 (zI 0),zm 8 23])
 .ret)
 .skip)))
 (zs (zs (zr [6,7,8] [zL 25 3 9,zm 26 2,zk 27 104 [.t 25,.t 26,(.c (.bool true))],zm 24 27,zx 28 0 24,zx 29 1 24,zm 7 28,zm 8 29])
 (zs (zr [6,7,8,31] [zm 30 8,zd 31 .neq 30 (zI 0)])
 (zC 31 (zs (zr [6,7,8] [zm 32 8,zc 6 (zI 0),zc 7 (zI 0),zm 8 32])
 .ret)
 .skip)))
 (zs (zr [6,7,8] [zm 33 6,zm 34 7,zm 6 33,zm 7 34,zc 8 (zI 0)])
 .ret)))))) }
def N99:ar:={ np:=2,nt:=12,res:=[(4,some (2,true)),(5,none)],body :=
 (zs (zr [0,1,4] [zy 4 (.alc zA1),zc 5 (zI 0)])
 (zs (zr [4,5] [zm 6 0,zm 7 1,zk 8 103 [.t 6,.t 7],zk 9 105 [.t 8],zx 10 0 9,zx 11 1 9,zw (.st 2 [] (.t 4) (.t 10)),zm 5 11])
 .ret)) }
def N100:ar:={ np:=2,nt:=24,res:=[(4,some (2,true)),(5,none)],body :=
 (zs (zr [2,3,4] [zo 2 0,zo 3 1,zy 4 (.alc zA1),zc 5 (zI 0)])
 (zs (zs (zr [2,3,4,13] [zL 6 2 2,zk 7 106 [.t 6],zt 8 7,zm 9 8,zg 9 false (zL 10 2 3),zg 9 false (zk 11 106 [.t 10]),zg 9 false (zt 12 11),zp 13 9 12])
 (zC 13 (zs (zr [4,5] [zy 14 (.bld [zI 0,zI 0] []),zw (.st 2 [] (.t 4) (.t 14)),zc 5 (zI 1)])
 .ret)
 .skip))
 (zs (.reg true [0,1,0,7,15,31,63,127,127,511,1023] [4,5] [zL 15 2 2,zk 16 108 [.t 15],zL 17 2 3,zk 18 108 [.t 17],zk 19 109 [.t 18],zk 20 107 [.t 16,.t 19],zk 21 105 [.t 20],zx 22 0 21,zx 23 1 21,zw (.st 2 [] (.t 4) (.t 22)),zm 5 23])
 .ret))) }
def N101:ar:={ np:=1,nt:=20,res:=[(2,none),(3,none)],body :=
 (zs (zr [1] [zo 1 0,zc 2 (zI 0),zc 3 (zI 0)])
 (zs (zs (zr [1,7] [zL 5 2 1,zk 6 106 [.t 5],zt 7 6])
 (zC 7 (zs (zr [2,3] [zc 2 (zI 0),zc 3 (zI 1)])
 .ret)
 .skip))
 (zs (zr [4] [zL 8 2 1,zk 9 108 [.t 8],zy 4 (.alc zA3),zw (.st 3 [] (.t 4) (.t 9))])
 (zs (zs (zr [4,12] [zf 10 0 4,zl 11 1 10,zd 12 .gtr 11 (.int .u64 0)])
 (zC 12 (zs (zr [2,3] [zc 2 (zI 0),zc 3 (zI 5)])
 .ret)
 .skip))
 (zs (zr [2,3] [zf 13 1 4,zl 14 1 13,zf 15 2 4,zl 16 1 15,zk 17 110 [.t 14,.t 16],zx 18 0 17,zx 19 1 17,zm 2 18,zm 3 19])
 .ret))))) }
def N102:ar:={ np:=1,nt:=6,res:=[(2,none)],body :=
 (zs (zr [0] [zc 2 (zI 0)])
 (zs (zr [2] [zm 3 0,zk 4 111 [.t 3],zy 5 (.bin .sub (.c (zI 64)) (.t 4)),zm 2 5])
 .ret)) }
def N103:ar:={ np:=2,nt:=23,res:=[(4,some (3,true))],body :=
 (zs (zr [0,1,4] [zy 4 (.alc zA3)])
 (zs (zr [0,1,4,5,6] [zm 8 0,zk 9 112 [.t 8],zm 10 1,zk 11 112 [.t 10],zk 12 91 [.t 9,.t 11],zm 7 12,zx 13 0 7,zx 14 1 7,zm 5 13,zm 6 14])
 (zs (zr [4] [zm 15 5,zm 16 6,zm 17 0,zd 18 .lss 17 (zI 0),zm 19 1,zd 20 .lss 19 (zI 0),zy 21 (.beq true [] (.t 18) (.t 20)),zk 22 113 [.t 15,.t 16,.t 21],zw (.st 3 [] (.t 4) (.t 22))])
 .ret))) }
def N104:ar:={ np:=3,nt:=52,res:=[(6,none),(7,none)],body :=
 (zs (zr [1,2,3] [zo 3 0,zc 6 (zI 0),zc 7 (zI 0)])
 (zs (zr [1,2,3,8] [zm 12 1,zk 13 112 [.t 12],zm 8 13])
 (zs (zs (zr [1,2,3,8,17] [zf 14 0 3,zl 15 1 14,zm 16 8,zb 17 .geq 15 16])
 (zC 17 (zs (zr [6,7] [zc 6 (zI 0),zc 7 (zI 5)])
 .ret)
 .skip))
 (zs (zr [1,2,3,9,10] [zf 19 0 3,zl 20 1 19,zf 21 1 3,zl 22 1 21,zm 23 8,zk 24 92 [.t 20,.t 22,.t 23],zm 18 24,zx 25 0 18,zx 26 1 18,zm 9 25,zm 10 26])
 (zs (zr [2,9,10,11] [zf 27 2 3,zl 28 1 27,zm 29 1,zd 30 .lss 29 (zI 0),zy 31 (.beq true [] (.t 28) (.t 30)),zm 11 31])
 (zs (zs (zr [9,11,38] [zm 32 10,zd 33 .gtr 32 (.int .u64 0),zm 34 33,zg 34 true (zm 35 11),zg 34 true (zm 36 2),zg 34 true (zy 37 (.beq true [] (.t 35) (.t 36))),zP 38 34 37])
 (zC 38 (zs (zr [9,11] [zm 39 9,zd 40 .add 39 (.int .u64 1),zm 9 40])
 (zs (zr [9,11,42] [zm 41 9,zd 42 .eql 41 (.int .u64 0)])
 (zC 42 (zs (zr [6,7] [zc 6 (zI 0),zc 7 (zI 5)])
 .ret)
 .skip)))
 .skip))
 (zs (zr [6,7] [zm 43 9,zm 44 11,zm 45 44,zg 45 true (zm 46 9),zg 45 true (zd 47 .gtr 46 (.int .u64 0)),zP 48 45 47,zk 49 110 [.t 43,.t 48],zx 50 0 49,zx 51 1 49,zm 6 50,zm 7 51])
 .ret))))))) }
def N105:ar:={ np:=1,nt:=56,res:=[(2,some (2,true)),(3,none)],body :=
 (zs (zr [1,2] [zo 1 0,zy 2 (.alc zA1),zc 3 (zI 0)])
 (zs (zs (zr [1,2,23] [zf 6 0 1,zl 7 1 6,zd 8 .gtr 7 (.int .u64 72057594037927936),zm 9 8,zg 9 false (zf 10 0 1),zg 9 false (zl 11 1 10),zg 9 false (zd 12 .eql 11 (.int .u64 72057594037927936)),zg 9 false (zm 13 12),zg 13 true (zf 14 1 1),zg 13 true (zl 15 1 14),zg 13 true (zd 16 .gtr 15 (.int .u64 0)),zg 13 true (zm 17 16),zg 17 false (zf 18 2 1),zg 17 false (zl 19 1 18),zg 17 false (zt 20 19),zg 13 true (zp 21 17 20),zg 9 false (zP 22 13 21),zp 23 9 22])
 (zC 23 (zs (zr [2,3] [zy 24 (.bld [zI 0,zI 0] []),zw (.st 2 [] (.t 2) (.t 24)),zc 3 (zI 5)])
 .ret)
 .skip))
 (zs (.reg true [0,1,3,0,8,24,63,127,0,256,768,1792,255,8191] [1,2,4,5] [zf 25 0 1,zl 26 1 25,zd 27 .shl 26 (.int .u64 4),zf 28 1 1,zl 29 1 28,zd 30 .shr 29 (.int .u64 60),zb 31 .or 27 30,zy 32 (.conv .i64 (.t 31)),zf 33 1 1,zl 34 1 33,zd 35 .and 34 (.int .u64 1152921504606846975),zy 36 (.conv .i64 (.t 35)),zm 4 32,zm 5 36])
 (zs (.block 0 (zs (zr [2,4,5,37] [zf 38 2 1,zl 39 1 38,zt 40 39,zm 37 40])
 (zC 37 (zs (zr [2,3] [zm 41 4,zm 42 5,zy 43 (.bld [zI 0,zI 0] [(0,1,.t 41),(1,1,.t 42)]),zw (.st 2 [] (.t 2) (.t 43)),zc 3 (zI 0)])
 .ret)
 (zs (zr [2,4,5,44] [zm 45 5,zd 46 .eql 45 (zI 0),zm 44 46])
 (zC 44 (zs (zr [2,3] [zm 47 4,zy 48 (.un .neg (.t 47)),zy 49 (.bld [zI 0,zI 0] [(0,1,.t 48)]),zw (.st 2 [] (.t 2) (.t 49)),zc 3 (zI 0)])
 .ret)
 .skip)))))
 (zs (zr [2,3] [zm 50 4,zy 51 (.un .neg (.t 50)),zd 52 .sub 51 (zI 1),zm 53 5,zy 54 (.bin .sub (.c (zI 1152921504606846976)) (.t 53)),zy 55 (.bld [zI 0,zI 0] [(0,1,.t 52),(1,1,.t 54)]),zw (.st 2 [] (.t 2) (.t 55)),zc 3 (zI 0)])
 .ret))))) }
def N106:ar:={ np:=1,nt:=21,res:=[(2,none)],body :=
 (zs (zr [1] [zo 1 0,zc 2 (.bool false)])
 (zs (zr [2] [zf 3 0 1,zl 4 1 3,zy 5 (.bin .geq (.t 4) (.c (zI (-1152921504606846976)))),zm 6 5,zg 6 true (zf 7 0 1),zg 6 true (zl 8 1 7),zg 6 true (zd 9 .lss 8 (zI 1152921504606846976)),zP 10 6 9,zm 11 10,zg 11 true (zf 12 1 1),zg 11 true (zl 13 1 12),zg 11 true (zd 14 .geq 13 (zI 0)),zP 15 11 14,zm 16 15,zg 16 true (zf 17 1 1),zg 16 true (zl 18 1 17),zg 16 true (zd 19 .lss 18 (zI 1152921504606846976)),zP 20 16 19,zm 2 20])
 .ret)) }
def N107:ar:={ np:=2,nt:=73,res:=[(4,some (3,true))],body :=
 (zs (zr [2,3,4] [zy 2 (.box [] (.t 0)),zy 3 (.box [] (.t 1)),zy 4 (.alc zA3)])
 (zs (zs (zr [2,3,4,13] [zf 9 2 2,zl 10 1 9,zf 11 2 3,zl 12 1 11,zy 13 (.beq false [] (.t 10) (.t 12))])
 (zC 13 (zs (zr [2,3,4,5,6] [zf 15 1 2,zl 16 1 15,zf 17 1 3,zl 18 1 17,zy 19 (.add64 (.t 16) (.t 18) (.c (.int .u64 0))),zm 14 19,zx 20 0 14,zx 21 1 14,zm 5 20,zm 6 21])
 (zs (zr [4] [zf 22 0 2,zl 23 1 22,zf 24 0 3,zl 25 1 24,zb 26 .add 23 25,zm 27 6,zb 28 .add 26 27,zm 29 5,zf 30 2 2,zl 31 1 30,zk 32 113 [.t 28,.t 29,.t 31],zw (.st 3 [] (.t 4) (.t 32))])
 .ret))
 .skip))
 (zs (zs (zr [2,3,4,51] [zf 33 0 2,zl 34 1 33,zf 35 0 3,zl 36 1 35,zb 37 .lss 34 36,zm 38 37,zg 38 false (zf 39 0 2),zg 38 false (zl 40 1 39),zg 38 false (zf 41 0 3),zg 38 false (zl 42 1 41),zg 38 false (zb 43 .eql 40 42),zg 38 false (zm 44 43),zg 44 true (zf 45 1 2),zg 44 true (zl 46 1 45),zg 44 true (zf 47 1 3),zg 44 true (zl 48 1 47),zg 44 true (zb 49 .lss 46 48),zg 38 false (zP 50 44 49),zp 51 38 50])
 (zC 51 (zr [2,3,4] [zL 52 3 3,zL 53 3 2,zw (.st 3 [] (.t 2) (.t 52)),zw (.st 3 [] (.t 3) (.t 53))])
 .skip))
 (zs (zr [2,3,4,7,8] [zf 55 1 2,zl 56 1 55,zf 57 1 3,zl 58 1 57,zy 59 (.sub64 (.t 56) (.t 58) (.c (.int .u64 0))),zm 54 59,zx 60 0 54,zx 61 1 54,zm 7 60,zm 8 61])
 (zs (zr [4] [zf 62 0 2,zl 63 1 62,zf 64 0 3,zl 65 1 64,zb 66 .sub 63 65,zm 67 8,zb 68 .sub 66 67,zm 69 7,zf 70 2 2,zl 71 1 70,zk 72 113 [.t 68,.t 69,.t 71],zw (.st 3 [] (.t 4) (.t 72))])
 .ret))))) }
def N108:ar:={ np:=1,nt:=37,res:=[(2,some (3,true))],body :=
 (zs (zr [1,2] [zo 1 0,zy 2 (.alc zA3)])
 (zs (zr [1,2,3] [zf 7 0 1,zl 8 1 7,zk 9 112 [.t 8],zm 3 9])
 (zs (zr [1,2,4,5] [zm 10 3,zd 11 .shr 10 (.int .u64 4),zm 12 3,zd 13 .shl 12 (.int .u64 60),zm 4 11,zm 5 13])
 (zs (zs (zr [1,2,4,5,16] [zf 14 0 1,zl 15 1 14,zd 16 .geq 15 (zI 0)])
 (zC 16 (zs (zr [2] [zm 17 4,zm 18 5,zf 19 1 1,zl 20 1 19,zy 21 (.conv .u64 (.t 20)),zb 22 .or 18 21,zy 23 (.bld [.int .u64 0,.int .u64 0,.bool false] [(0,1,.t 17),(1,1,.t 22),(2,1,(.c (.bool false)))]),zw (.st 3 [] (.t 2) (.t 23))])
 .ret)
 .skip))
 (zs (zr [2,4,5,6] [zm 25 5,zf 26 1 1,zl 27 1 26,zy 28 (.conv .u64 (.t 27)),zy 29 (.sub64 (.t 25) (.t 28) (.c (.int .u64 0))),zm 24 29,zx 30 0 24,zx 31 1 24,zm 5 30,zm 6 31])
 (zs (zr [2] [zm 32 4,zm 33 6,zb 34 .sub 32 33,zm 35 5,zy 36 (.bld [.int .u64 0,.int .u64 0,.bool false] [(0,1,.t 34),(1,1,.t 35),(2,1,(.c (.bool true)))]),zw (.st 3 [] (.t 2) (.t 36))])
 .ret)))))) }
def N109:ar:={ np:=1,nt:=11,res:=[(2,some (3,true))],body :=
 (zs (zr [1,2] [zo 1 0,zy 2 (.alc zA3)])
 (zs (zr [2] [zf 3 0 1,zl 4 1 3,zf 5 1 1,zl 6 1 5,zf 7 2 1,zl 8 1 7,zt 9 8,zk 10 113 [.t 4,.t 6,.t 9],zw (.st 3 [] (.t 2) (.t 10))])
 .ret)) }
def N110:ar:={ np:=2,nt:=24,res:=[(4,none),(5,none)],body :=
 (zs (zr [0,1] [zc 4 (zI 0),zc 5 (zI 0)])
 (zs (.block 0 (zs (zr [0,1,6] [zm 7 1,zt 8 7,zm 9 8,zg 9 true (zm 10 0),zg 9 true (zd 11 .leq 10 (.int .u64 9223372036854775807)),zP 12 9 11,zm 6 12])
 (zC 6 (zs (zr [4,5] [zm 13 0,zy 14 (.conv .i64 (.t 13)),zm 4 14,zc 5 (zI 0)])
 .ret)
 (zs (zr [0,15] [zm 16 1,zm 17 16,zg 17 true (zm 18 0),zg 17 true (zd 19 .leq 18 (.int .u64 9223372036854775808)),zP 20 17 19,zm 15 20])
 (zC 15 (zs (zr [4,5] [zm 21 0,zy 22 (.un .neg (.t 21)),zy 23 (.conv .i64 (.t 22)),zm 4 23,zc 5 (zI 0)])
 .ret)
 .skip)))))
 (zs (zr [4,5] [zc 4 (zI 0),zc 5 (zI 5)])
 .ret))) }
def S1:List UInt8:=[0,1,2,2,3,3,3,3,4,4,4,4,4,4,4,4,5,5,5,5,5,5,5,5,5,5,5,5,5,5,5,5,6,6,6,6,6,6,6,6,6,6,6,6,6,6,6,6,6,6,6,6,6,6,6,6,6,6,6,6,6,6,6,6,7,7,7,7,7,7,7,7,7,7,7,7,7,7,7,7,7,7,7,7,7,7,7,7,7,7,7,7,7,7,7,7,7,7,7,7,7,7,7,7,7,7,7,7,7,7,7,7,7,7,7,7,7,7,7,7,7,7,7,7,7,7,7,7,8,8,8,8,8,8,8,8,8,8,8,8,8,8,8,8,8,8,8,8,8,8,8,8,8,8,8,8,8,8,8,8,8,8,8,8,8,8,8,8,8,8,8,8,8,8,8,8,8,8,8,8,8,8,8,8,8,8,8,8,8,8,8,8,8,8,8,8,8,8,8,8,8,8,8,8,8,8,8,8,8,8,8,8,8,8,8,8,8,8,8,8,8,8,8,8,8,8,8,8,8,8,8,8,8,8,8,8,8,8,8,8,8,8,8,8,8,8,8,8,8,8,8,8,8,8,8,8]
def N111:ar:={ np:=1,nt:=25,res:=[(2,none)],body :=
 (zs (zr [0,2] [zc 2 (zI 0)])
 (zs (zs (zr [0,2,4] [zm 3 0,zd 4 .geq 3 (.int .u64 4294967296)])
 (zC 4 (zs (zr [0] [zm 5 0,zd 6 .shr 5 (.int .u64 32),zm 0 6])
 (zr [0,2] [zc 2 (zI 32)]))
 .skip))
 (zs (zs (zr [0,2,8] [zm 7 0,zd 8 .geq 7 (.int .u64 65536)])
 (zC 8 (zs (zr [0,2] [zm 9 0,zd 10 .shr 9 (.int .u64 16),zm 0 10])
 (zr [0,2] [zm 11 2,zd 12 .add 11 (zI 16),zm 2 12]))
 .skip))
 (zs (zs (zr [0,2,14] [zm 13 0,zd 14 .geq 13 (.int .u64 256)])
 (zC 14 (zs (zr [0,2] [zm 15 0,zd 16 .shr 15 (.int .u64 8),zm 0 16])
 (zr [0,2] [zm 17 2,zd 18 .add 17 (zI 8),zm 2 18]))
 .skip))
 (zs (zr [2] [zm 19 2,zm 20 0,zy 21 (.conv .u8 (.t 20)),zy 22 (.idxS (.c (.str S1)) (.t 21)),zy 23 (.conv .i64 (.t 22)),zb 24 .add 19 23,zm 2 24])
 .ret))))) }
def N112:ar:={ np:=1,nt:=10,res:=[(2,none)],body :=
 (zs (zr [0] [zc 2 (.int .u64 0)])
 (zs (zs (zr [0,4] [zm 3 0,zd 4 .lss 3 (zI 0)])
 (zC 4 (zs (zr [2] [zm 5 0,zy 6 (.conv .u64 (.t 5)),zy 7 (.un .neg (.t 6)),zm 2 7])
 .ret)
 .skip))
 (zs (zr [2] [zm 8 0,zy 9 (.conv .u64 (.t 8)),zm 2 9])
 .ret))) }
def N113:ar:={ np:=3,nt:=19,res:=[(6,some (3,true))],body :=
 (zs (zr [0,1,2,6] [zy 6 (.alc zA3)])
 (zs (zr [6] [zm 7 0,zm 8 1,zm 9 2,zm 10 9,zg 10 true (zm 11 0),zg 10 true (zd 12 .neq 11 (.int .u64 0)),zg 10 true (zm 13 12),zg 13 false (zm 14 1),zg 13 false (zd 15 .neq 14 (.int .u64 0)),zg 10 true (zp 16 13 15),zP 17 10 16,zy 18 (.bld [.int .u64 0,.int .u64 0,.bool false] [(0,1,.t 7),(1,1,.t 8),(2,1,.t 17)]),zw (.st 3 [] (.t 6) (.t 18))])
 .ret)) }
def N153:ar:={ np:=0,nt:=37,res:=[(0,none)],body :=
 (zs (zr [] [zc 0 (.bool false)])
 (zs (zr [1,2] [zk 8 158 [],zm 7 8,zx 9 0 7,zx 10 1 7,zy 1 (.alc zA2),zy 2 (.alc zA5),zw (.st 11 [] (.t 1) (.t 9)),zw (.st 5 [] (.t 2) (.t 10))])
 (zs (zr [1,2,3,4] [zL 12 11 1,zL 13 5 2,zk 14 157 [.t 12,.t 13,(.c (zI 10000))],zm 11 14,zx 15 0 11,zx 16 1 11,zm 3 15,zm 4 16])
 (zs (zr [3,4,5,6] [zL 18 11 1,zL 19 5 2,zk 20 156 [.t 18,.t 19,(.c (zI 10000)),(.c (zI 1250))],zm 17 20,zx 21 0 17,zx 22 1 17,zm 5 21,zm 6 22])
 (zs (zr [0] [zm 23 4,zd 24 .eql 23 (zI 0),zm 25 24,zg 25 true (zm 26 3),zg 25 true (zd 27 .eql 26 (zI 25)),zP 28 25 27,zm 29 28,zg 29 true (zm 30 6),zg 29 true (zd 31 .eql 30 (zI 0)),zP 32 29 31,zm 33 32,zg 33 true (zm 34 5),zg 33 true (zd 35 .eql 34 (zI 1300)),zP 36 33 35,zm 0 36])
 .ret))))) }
def N154:ar:={ np:=1,nt:=31,res:=[(2,none)],body :=
 (zs (zr [1] [zo 1 0,zc 2 (.bool false)])
 (zs (zr [2] [zf 3 10 1,zl 4 1 3,zn 5 4,zd 6 .gtr 5 (zI 20),zm 7 6,zg 7 false (zf 8 0 1),zg 7 false (zl 9 1 8),zg 7 false (zy 10 (.lens (.t 9))),zg 7 false (zd 11 .gtr 10 (zI 60)),zp 12 7 11,zm 13 12,zg 13 false (zf 14 1 1),zg 13 false (zl 15 1 14),zg 13 false (zy 16 (.lens (.t 15))),zg 13 false (zd 17 .gtr 16 (zI 60)),zp 18 13 17,zm 19 18,zg 19 false (zf 20 2 1),zg 19 false (zl 21 1 20),zg 19 false (zy 22 (.lens (.t 21))),zg 19 false (zd 23 .gtr 22 (zI 60)),zp 24 19 23,zm 25 24,zg 25 false (zf 26 7 1),zg 25 false (zl 27 1 26),zg 25 false (zy 28 (.lens (.t 27))),zg 25 false (zd 29 .gtr 28 (zI 60)),zp 30 25 29,zm 2 30])
 .ret)) }
def N155:ar:={ np:=1,nt:=10,res:=[(2,none)],body :=
 (zs (zr [0] [zc 2 (.bool false)])
 (zs (zr [2] [zm 3 0,zn 4 3,zd 5 .gtr 4 (zI 8),zm 6 5,zg 6 false (zq 7 0),zg 6 false (zy 8 (.call 45 [.t 7,(.c (.fn 159 []))] [])),zp 9 6 8,zm 2 9])
 .ret)) }
def N156:ar:={ np:=4,nt:=39,res:=[(8,none),(9,none)],body :=
 (zs (zr [2,3,4,5] [zo 4 0,zo 5 1,zc 8 (zI 0),zc 9 (zI 0)])
 (zs (zs (zr [2,3,4,5,10] [zL 11 11 4,zL 12 5 5,zk 13 160 [.t 11,.t 12],zm 10 13])
 (zs (zr [2,3,4,5,10,15] [zm 14 10,zd 15 .neq 14 (zI 0)])
 (zC 15 (zs (zr [8,9] [zm 16 10,zc 8 (zI 0),zm 9 16])
 .ret)
 .skip)))
 (zs (.block 0 (zs (zr [2,3,4,5,17] [zf 18 5 4,zl 19 1 18,zf 20 6 4,zl 21 1 20,zb 22 .lss 19 21,zm 17 22])
 (zC 17 (zs (zr [8,9] [zc 8 (zI 0),zc 9 (zI 23)])
 .ret)
 (zs (zr [2,3,4,5,23] [zm 24 2,zk 25 161 [.t 24,(.c (zI 0)),(.c (zI 1099511627776))],zt 26 25,zm 27 26,zg 27 false (zm 28 3),zg 27 false (zk 29 161 [.t 28,(.c (zI (-4194304))),(.c (zI 1099511627776))]),zg 27 false (zt 30 29),zp 31 27 30,zm 23 31])
 (zC 23 (zs (zr [8,9] [zc 8 (zI 0),zc 9 (zI 2)])
 .ret)
 .skip)))))
 (zs (zr [8,9] [zL 32 11 4,zL 33 5 5,zm 34 2,zm 35 3,zk 36 162 [.t 32,.t 33,.t 34,.t 35],zx 37 0 36,zx 38 1 36,zm 8 37,zm 9 38])
 .ret)))) }
def N157:ar:={ np:=3,nt:=24,res:=[(6,none),(7,none)],body :=
 (zs (zr [2,3,4] [zo 3 0,zo 4 1,zc 6 (zI 0),zc 7 (zI 0)])
 (zs (zs (zr [2,3,4,8] [zL 9 11 3,zL 10 5 4,zk 11 160 [.t 9,.t 10],zm 8 11])
 (zs (zr [2,3,4,8,13] [zm 12 8,zd 13 .neq 12 (zI 0)])
 (zC 13 (zs (zr [6,7] [zm 14 8,zc 6 (zI 0),zm 7 14])
 .ret)
 .skip)))
 (zs (zs (zr [2,3,4,17] [zm 15 2,zk 16 161 [.t 15,(.c (zI 0)),(.c (zI 1099511627776))],zt 17 16])
 (zC 17 (zs (zr [6,7] [zc 6 (zI 0),zc 7 (zI 2)])
 .ret)
 .skip))
 (zs (zr [6,7] [zL 18 11 3,zL 19 5 4,zm 20 2,zk 21 163 [.t 18,.t 19,.t 20],zx 22 0 21,zx 23 1 21,zm 6 22,zm 7 23])
 .ret)))) }
def N158:ar:={ np:=0,nt:=10,res:=[(0,some (11,true)),(1,some (5,true))],body :=
 (zs (zr [0,1] [zy 0 (.alc zA2),zy 1 (.alc zA5)])
 (zs (zr [0,1] [zy 2 (.bld [.str [],.str [],.str [],zI 0,zI 0,zI 0,zI 0,.str [],zI 0,zI 0,.nils] [(0,1,(.c (.str [112]))),(1,1,(.c (.str [97]))),(2,1,(.c (.str [98]))),(3,1,(.c (zI 1))),(4,1,(.c (zI 10000))),(5,1,(.c (zI 1000))),(6,1,(.c (zI 900))),(7,1,(.c (.str [115])))]),zy 3 (.bld [zI 0,zI 0] []),zy 4 (.bld [zI 0,zI 0] [(0,1,(.c (zI 300))),(1,1,(.c (zI 70000)))]),zy 5 (.bls 2 2 [zI 0,zI 0] [] [(0,.t 3),(1,.t 4)]),zy 6 (.bld [zI 0,zI 0] []),zy 7 (.bld [zI 0,zI 0] [(0,1,(.c (zI 300))),(1,1,(.c (zI 200000)))]),zy 8 (.bls 2 2 [zI 0,zI 0] [] [(0,.t 6),(1,.t 7)]),zy 9 (.bld [.str [],zI 0,zI 0,.nils,.nils] [(0,1,(.c (.str [115]))),(1,1,(.c (zI 300))),(3,1,.t 5),(4,1,.t 8)]),zw (.st 11 [] (.t 0) (.t 2)),zw (.st 5 [] (.t 1) (.t 9))])
 .ret)) }
def N159:ar:={ np:=1,nt:=19,res:=[(2,none)],body :=
 (zs (zr [1] [zo 1 0,zc 2 (.bool false)])
 (zs (zr [2] [zf 3 3 1,zl 4 1 3,zn 5 4,zd 6 .gtr 5 (zI 20),zm 7 6,zg 7 false (zf 8 4 1),zg 7 false (zl 9 1 8),zg 7 false (zn 10 9),zg 7 false (zd 11 .gtr 10 (zI 20)),zp 12 7 11,zm 13 12,zg 13 false (zf 14 0 1),zg 13 false (zl 15 1 14),zg 13 false (zy 16 (.lens (.t 15))),zg 13 false (zd 17 .gtr 16 (zI 60)),zp 18 13 17,zm 2 18])
 .ret)) }
def N160:ar:={ np:=2,nt:=39,res:=[(4,none)],body :=
 (zs (zr [2,3] [zo 2 0,zo 3 1,zc 4 (zI 0)])
 (zs (zr [2,3,5] [zf 6 1 2,zl 7 1 6,zy 8 (.bld [zI 0,zI 0] []),zy 9 (.bld [zI 0,zI 0] [(0,1,(.c (zI 1))),(1,1,(.c (zI 1)))]),zy 10 (.blsF 2 2 [zI 0,zI 0] [(0,.t 8),(1,.t 9)]),zy 11 (.bld [.str [],zI 0,zI 0,zI 0,zI 0,zI 0,.nils,.bool false,zI 0] [(0,1,.t 7),(1,1,(.c (zI 1))),(5,1,(.c (zI 1))),(6,1,.t 10)]),zf 12 2 2,zl 13 1 12,zy 14 (.bld [.str [],zI 0,zI 0,zI 0,zI 0,zI 0,.nils,.bool false,zI 0] [(0,1,.t 13),(1,1,(.c (zI 3)))]),zy 15 (.bls 9 2 [.str [],zI 0,zI 0,zI 0,zI 0,zI 0,.own 2 [],.bool false,zI 0] [] [(0,.t 11),(1,.t 14)]),zL 16 11 2,zy 17 (.bls 11 1 [.str [],.str [],.str [],zI 0,zI 0,zI 0,zI 0,.str [],zI 0,zI 0,.own 2 []] [] [(0,.t 16)]),zy 18 (.bld [.nils,.nils] [(0,1,.t 15),(1,1,.t 17)]),zy 5 (.alc [.own 9 [],.own 11 []]),zw (.st 2 [] (.t 5) (.t 18))])
 (zs (.block 0 (zs (zr [2,3,19] [zL 20 2 5,zk 21 164 [.t 20],zt 22 21,zm 23 22,zg 23 false (zL 24 5 3),zg 23 false (zy 25 (.bls 5 1 [.str [],zI 0,zI 0,.own 2 [],.own 2 []] [] [(0,.t 24)])),zg 23 false (zk 26 44 [.t 25]),zg 23 false (zt 27 26),zp 28 23 27,zm 19 28])
 (zC 19 (zs (zr [4] [zc 4 (zI 1)])
 .ret)
 (zs (zr [2,3,29] [zf 30 3 2,zl 31 1 30,zd 32 .neq 31 (zI 1),zm 29 32])
 (zC 29 (zs (zr [4] [zc 4 (zI 11)])
 .ret)
 (zs (zr [33] [zf 34 7 2,zl 35 1 34,zf 36 0 3,zl 37 1 36,zb 38 .neq 35 37,zm 33 38])
 (zC 33 (zs (zr [4] [zc 4 (zI 25)])
 .ret)
 .skip)))))))
 (zs (zr [4] [zc 4 (zI 0)])
 .ret)))) }
def N161:ar:={ np:=3,nt:=15,res:=[(6,none)],body :=
 (zs (zr [0,1,2] [zc 6 (.bool false)])
 (zs (zr [6] [zm 7 0,zm 8 1,zb 9 .geq 7 8,zm 10 9,zg 10 true (zm 11 0),zg 10 true (zm 12 2),zg 10 true (zb 13 .leq 11 12),zP 14 10 13,zm 6 14])
 .ret)) }
def N162:ar:={ np:=4,nt:=91,res:=[(8,none),(9,none)],body :=
 (zs (zr [2,3,4,5] [zo 4 0,zo 5 1,zc 8 (zI 0),zc 9 (zI 0)])
 (zs (zr [2,3,4,5,10] [zf 17 5 4,zl 18 1 17,zf 19 6 4,zl 20 1 19,zb 21 .sub 18 20,zy 22 (.mn (.t 21) (.c (zI 4194304))),zm 10 22])
 (zs (zr [2,3,4,5,10,11,12] [zL 24 5 5,zm 25 10,zf 26 4 4,zl 27 1 26,zk 28 47 [.t 24,.t 25,.t 27],zm 23 28,zx 29 0 23,zx 30 1 23,zm 11 29,zm 12 30])
 (zs (zs (zr [2,3,4,5,10,50] [zm 31 3,zf 32 6 4,zl 33 1 32,zf 34 1 5,zl 35 1 34,zb 36 .add 33 35,zb 37 .lss 31 36,zm 38 37,zg 38 true (zm 39 12),zg 38 true (zd 40 .eql 39 (zI 5)),zg 38 true (zm 41 40),zg 41 false (zm 42 12),zg 41 false (zd 43 .eql 42 (zI 0)),zg 41 false (zm 44 43),zg 44 true (zm 45 11),zg 44 true (zm 46 2),zg 44 true (zb 47 .geq 45 46),zg 41 false (zP 48 44 47),zg 38 true (zp 49 41 48),zP 50 38 49])
 (zC 50 (zs (zr [3,4,13,14] [zL 52 5 5,zm 53 2,zm 54 10,zf 55 4 4,zl 56 1 55,zk 57 165 [.t 52,.t 53,.t 54,.t 56],zm 51 57,zx 58 0 51,zx 59 1 51,zm 13 58,zm 14 59])
 (zs (zs (zr [3,4,13,14,61] [zm 60 14,zd 61 .neq 60 (zI 0)])
 (zC 61 (zs (zr [8,9] [zm 62 14,zc 8 (zI 0),zm 9 62])
 .ret)
 .skip))
 (zs (zr [8,9] [zf 63 5 4,zl 64 1 63,zm 65 13,zb 66 .add 64 65,zm 67 3,zy 68 (.mx (.t 66) (.t 67)),zm 8 68,zc 9 (zI 0)])
 .ret)))
 .skip))
 (zs (zr [3,4,5,12,15] [zL 70 11 4,zL 71 5 5,zm 72 2,zk 73 163 [.t 70,.t 71,.t 72],zm 69 73,zx 74 0 69,zx 75 1 69,zm 15 74,zm 12 75])
 (zs (zs (zr [3,4,5,12,15,77] [zm 76 12,zd 77 .neq 76 (zI 0)])
 (zC 77 (zs (zr [8,9] [zm 78 12,zc 8 (zI 0),zm 9 78])
 .ret)
 .skip))
 (zs (zr [16] [zf 79 5 4,zl 80 1 79,zf 81 1 5,zl 82 1 81,zb 83 .add 80 82,zm 84 3,zm 85 15,zb 86 .add 84 85,zy 87 (.mx (.t 83) (.t 86)),zm 16 87])
 (zs (zs (zr [16,89] [zm 88 16,zd 89 .gtr 88 (zI 1099511627776)])
 (zC 89 (zs (zr [8,9] [zc 8 (zI 0),zc 9 (zI 5)])
 .ret)
 .skip))
 (zs (zr [8,9] [zm 90 16,zm 8 90,zc 9 (zI 0)])
 .ret))))))))) }
def N163:ar:={ np:=3,nt:=53,res:=[(6,none),(7,none)],body :=
 (zs (zr [2,3,4] [zo 3 0,zo 4 1,zc 6 (zI 0),zc 7 (zI 0)])
 (zs (zs (zr [2,3,4,16] [zm 15 2,zd 16 .eql 15 (zI 0)])
 (zC 16 (zs (zr [6,7] [zc 6 (zI 0),zc 7 (zI 0)])
 .ret)
 .skip))
 (zs (zr [2,3,8] [zf 17 4 4,zl 18 1 17,zf 19 4 4,zl 20 1 19,zn 21 20,zd 22 .sub 21 (zI 1),zi 23 2 18 22,zf 24 1 23,zl 25 1 24,zy 8 (.alc [zI 0]),zw (.st 1 [] (.t 8) (.t 25))])
 (zs (zs (zr [2,3,8,27] [zl 26 1 8,zd 27 .eql 26 (zI 0)])
 (zC 27 (zs (zr [6,7] [zc 6 (zI 0),zc 7 (zI 16)])
 .ret)
 .skip))
 (zs (zr [8,9,10] [zm 29 2,zf 30 4 3,zl 31 1 30,zk 32 166 [.t 29,.t 31],zm 28 32,zx 33 0 28,zx 34 1 28,zy 9 (.alc [.int .u64 0]),zy 10 (.alc [.int .u64 0]),zw (.st 1 [] (.t 9) (.t 33)),zw (.st 1 [] (.t 10) (.t 34))])
 (zs (zr [11] [zy 35 (.mk 167 [.t 8,.t 9,.t 10]),zm 11 35])
 (zs (zs (zr [11,38] [zm 36 11,zy 37 (.callv (.t 36) [(.c (zI 1073741824))]),zt 38 37])
 (zC 38 (zs (zr [6,7] [zc 6 (zI 0),zc 7 (zI 5)])
 .ret)
 .skip))
 (zs (zr [11,12,13] [zc 12 (zI 0),zc 13 (zI 1073741824)])
 (zs (.block 0 (.loop (zs (zs (zr [11,12,13,41] [zm 39 12,zm 40 13,zb 41 .lss 39 40])
 (zC 41 .skip
 (.exit 0)))
 (.block 1 (zs (zr [11,12,13,14] [zm 42 12,zm 43 13,zb 44 .add 42 43,zd 45 .quo 44 (zI 2),zm 14 45])
 (zs (zr [11,12,13,14,48] [zm 46 11,zm 47 14,zy 48 (.callv (.t 46) [.t 47])])
 (zC 48 (zr [11,12,13] [zm 49 14,zm 13 49])
 (zr [11,12,13] [zm 50 14,zd 51 .add 50 (zI 1),zm 12 51]))))))))
 (zs (zr [6,7] [zm 52 12,zm 6 52,zc 7 (zI 0)])
 .ret)))))))))) }
def N164:ar:={ np:=1,nt:=80,res:=[(2,none)],body :=
 (zs (zr [1] [zo 1 0,zc 2 (.bool false)])
 (zs (zs (zr [1,17] [zf 8 0 1,zl 9 1 8,zn 10 9,zd 11 .gtr 10 (zI 300),zm 12 11,zg 12 false (zf 13 1 1),zg 12 false (zl 14 1 13),zg 12 false (zn 15 14),zg 12 false (zd 16 .gtr 15 (zI 400)),zp 17 12 16])
 (zC 17 (zs (zr [2] [zc 2 (.bool false)])
 .ret)
 .skip))
 (zs (zs (zr [1,19,20,21] [zf 18 0 1,zl 19 1 18,zn 20 19,zc 21 (zI 0)])
 (.block 0 (.loop (zs (zr [1,19,20,21,22] [zb 22 .lss 21 20])
 (zs (zC 22 .skip
 (.exit 0))
 (zs (.block 1 (zs (zr [1,3,4,19,20,21] [zm 23 21,zi 24 9 19 21,zL 25 9 24,zy 4 (.alc zA4),zm 3 23,zw (.st 9 [] (.t 4) (.t 25))])
 (zs (zr [1,19,20,21,36] [zL 26 9 4,zk 27 168 [.t 26],zt 28 27,zm 29 28,zg 29 false (zL 30 2 1),zg 29 false (zf 31 0 4),zg 29 false (zl 32 1 31),zg 29 false (zk 33 169 [.t 30,.t 32]),zg 29 false (zm 34 3),zg 29 false (zb 35 .neq 33 34),zp 36 29 35])
 (zC 36 (zs (zr [2] [zc 2 (.bool false)])
 .ret)
 .skip))))
 (zr [1,19,20,21] [zd 37 .add 21 (zI 1),zm 21 37])))))))
 (zs (zs (zr [1,39,40,41] [zf 38 1 1,zl 39 1 38,zn 40 39,zc 41 (zI 0)])
 (.block 2 (.loop (zs (zr [1,39,40,41,42] [zb 42 .lss 41 40])
 (zs (zC 42 .skip
 (.exit 2))
 (zs (.block 3 (zs (zr [1,5,6,39,40,41] [zm 43 41,zi 44 11 39 41,zL 45 11 44,zy 6 (.alc zA2),zm 5 43,zw (.st 11 [] (.t 6) (.t 45))])
 (zs (zs (zr [1,6,39,40,41,56] [zL 46 11 6,zk 47 170 [.t 46],zt 48 47,zm 49 48,zg 49 false (zL 50 2 1),zg 49 false (zf 51 0 6),zg 49 false (zl 52 1 51),zg 49 false (zk 53 171 [.t 50,.t 52]),zg 49 false (zm 54 5),zg 49 false (zb 55 .neq 53 54),zp 56 49 55])
 (zC 56 (zs (zr [2] [zc 2 (.bool false)])
 .ret)
 .skip))
 (zs (zr [1,6,7,39,40,41] [zL 57 2 1,zf 58 1 6,zl 59 1 58,zk 60 169 [.t 57,.t 59],zm 7 60])
 (zs (zr [1,39,40,41,78] [zm 61 7,zd 62 .lss 61 (zI 0),zm 63 62,zg 63 false (zL 64 2 1),zg 63 false (zf 65 2 6),zg 63 false (zl 66 1 65),zg 63 false (zk 67 169 [.t 64,.t 66]),zg 63 false (zd 68 .lss 67 (zI 0)),zp 69 63 68,zm 70 69,zg 70 false (zf 71 0 1),zg 70 false (zl 72 1 71),zg 70 false (zm 73 7),zg 70 false (zi 74 9 72 73),zg 70 false (zf 75 1 74),zg 70 false (zl 76 1 75),zg 70 false (zd 77 .eql 76 (zI 3)),zp 78 70 77])
 (zC 78 (zs (zr [2] [zc 2 (.bool false)])
 .ret)
 .skip))))))
 (zr [1,39,40,41] [zd 79 .add 41 (zI 1),zm 41 79])))))))
 (zs (zr [2] [zc 2 (.bool true)])
 .ret))))) }
def N165:ar:={ np:=4,nt:=64,res:=[(8,none),(9,none)],body :=
 (zs (zr [1,2,3,4] [zo 4 0,zc 8 (zI 0),zc 9 (zI 0)])
 (zs (.block 0 (zs (zr [1,2,3,4,15] [zL 16 5 4,zk 17 51 [.t 16],zt 18 17,zm 15 18])
 (zC 15 (zs (zr [8,9] [zc 8 (zI 0),zc 9 (zI 1)])
 .ret)
 (zs (zr [1,2,3,4,19] [zm 20 1,zd 21 .lss 20 (zI 0),zm 22 21,zg 22 false (zm 23 1),zg 22 false (zd 24 .gtr 23 (zI 1099511627776)),zp 25 22 24,zm 26 25,zg 26 false (zm 27 2),zg 26 false (zm 28 3),zg 26 false (zk 29 60 [.t 27,.t 28]),zg 26 false (zt 30 29),zp 31 26 30,zm 19 31])
 (zC 19 (zs (zr [8,9] [zc 8 (zI 0),zc 9 (zI 2)])
 .ret)
 .skip)))))
 (zs (.reg true [0,1,3,0,15] [1,2,3,4,10,11] [zf 32 1 4,zl 33 1 32,zd 34 .add 33 (zI 1),zc 10 (zI 0),zm 11 34])
 (zs (.block 1 (.loop (zs (zs (zr [1,2,3,4,10,11,37] [zm 35 10,zm 36 11,zb 37 .lss 35 36])
 (zC 37 .skip
 (.exit 1)))
 (.block 2 (zs (zr [1,2,3,4,10,11,12] [zm 38 10,zm 39 11,zb 40 .add 38 39,zd 41 .quo 40 (zI 2),zm 12 41])
 (zs (zr [1,2,3,4,10,11,12,13,14] [zL 43 5 4,zm 44 12,zm 45 2,zm 46 3,zk 47 61 [.t 43,.t 44,.t 45,.t 46],zm 42 47,zx 48 0 42,zx 49 1 42,zm 13 48,zm 14 49])
 (zs (zs (zr [1,2,3,4,10,11,12,13,14,51] [zm 50 14,zd 51 .neq 50 (zI 0)])
 (zC 51 (zs (zr [8,9] [zm 52 14,zc 8 (zI 0),zm 9 52])
 .ret)
 .skip))
 (zs (zr [1,2,3,4,10,11,12,55] [zm 53 13,zm 54 1,zb 55 .geq 53 54])
 (zC 55 (zr [1,2,3,4,10,11] [zm 56 12,zm 11 56])
 (zr [1,2,3,4,10,11] [zm 57 12,zd 58 .add 57 (zI 1),zm 10 58]))))))))))
 (zs (zs (zr [10,62] [zm 59 10,zf 60 1 4,zl 61 1 60,zb 62 .gtr 59 61])
 (zC 62 (zs (zr [8,9] [zc 8 (zI 0),zc 9 (zI 28)])
 .ret)
 .skip))
 (zs (zr [8,9] [zm 63 10,zm 8 63,zc 9 (zI 0)])
 .ret)))))) }
def N166:ar:={ np:=2,nt:=30,res:=[(4,none),(5,none)],body :=
 (zs (zr [0,1] [zc 4 (.int .u64 0),zc 5 (.int .u64 0)])
 (zs (zr [1,6,7] [zm 9 0,zy 10 (.conv .u64 (.t 9)),zm 11 0,zy 12 (.conv .u64 (.t 11)),zk 13 91 [.t 10,.t 12],zm 8 13,zx 14 0 8,zx 15 1 8,zm 6 14,zm 7 15])
 (zs (zr [1,4,5,6] [zm 17 7,zm 18 1,zy 19 (.conv .u64 (.t 18)),zk 20 91 [.t 17,.t 19],zm 16 20,zx 21 0 16,zx 22 1 16,zm 4 21,zm 5 22])
 (zs (zr [4,5] [zm 23 4,zm 24 6,zm 25 1,zy 26 (.conv .u64 (.t 25)),zb 27 .mul 24 26,zb 28 .add 23 27,zm 29 5,zm 4 28,zm 5 29])
 .ret)))) }
def N167:ar:={ np:=4,nt:=27,res:=[(5,none)],body :=
 (zs (zr [0,1,2,3] [zc 5 (.bool false)])
 (zs (zr [2,3,6,7] [zl 9 1 1,zm 10 0,zk 11 166 [.t 9,.t 10],zm 8 11,zx 12 0 8,zx 13 1 8,zm 6 12,zm 7 13])
 (zs (zr [5] [zm 14 6,zl 15 1 2,zb 16 .gtr 14 15,zm 17 16,zg 17 false (zm 18 6),zg 17 false (zl 19 1 2),zg 17 false (zb 20 .eql 18 19),zg 17 false (zm 21 20),zg 21 true (zm 22 7),zg 21 true (zl 23 1 3),zg 21 true (zb 24 .geq 22 23),zg 17 false (zP 25 21 24),zp 26 17 25,zm 5 26])
 .ret))) }
def N168:ar:={ np:=1,nt:=101,res:=[(2,none)],body :=
 (zs (zr [1] [zo 1 0,zc 2 (.bool false)])
 (zs (zs (zr [1,29] [zf 3 0 1,zl 4 1 3,zk 5 58 [.t 4],zt 6 5,zm 7 6,zg 7 false (zf 8 2 1),zg 7 false (zf 9 0 8),zg 7 false (zl 10 1 9),zg 7 false (zk 11 172 [.t 10,(.c (zI (-16777216))),(.c (zI 16777216))]),zg 7 false (zt 12 11),zp 13 7 12,zm 14 13,zg 14 false (zf 15 2 1),zg 14 false (zf 16 1 15),zg 14 false (zl 17 1 16),zg 14 false (zk 18 172 [.t 17,(.c (zI (-16777216))),(.c (zI 16777216))]),zg 14 false (zt 19 18),zp 20 14 19,zm 21 20,zg 21 false (zf 22 4 1),zg 21 false (zl 23 1 22),zg 21 false (zf 24 5 1),zg 21 false (zl 25 1 24),zg 21 false (zy 26 (.bls 1 2 [zI 0] [] [(0,.t 23),(1,.t 25)])),zg 21 false (zk 27 173 [.t 26]),zg 21 false (zt 28 27),zp 29 21 28])
 (zC 29 (zs (zr [2] [zc 2 (.bool false)])
 .ret)
 .skip))
 (zs (zs (zr [1,31] [zf 30 1 1,zl 31 1 30])
 (.block 0 (zs (zs (zr [1,31,32] [zd 33 .eql 31 (zI 1),zm 32 33])
 (zC 32 .skip
 (zr [1,31,32] [zd 34 .eql 31 (zI 2),zm 32 34])))
 (zC 32 (zs (zs (zr [1,59] [zf 35 5 1,zl 36 1 35,zf 37 4 1,zl 38 1 37,zb 39 .leq 36 38,zm 40 39,zg 40 false (zf 41 6 1),zg 40 false (zl 42 1 41),zg 40 false (zf 43 5 1),zg 40 false (zl 44 1 43),zg 40 false (zf 45 4 1),zg 40 false (zl 46 1 45),zg 40 false (zb 47 .sub 44 46),zg 40 false (zk 48 174 [.t 42,.t 47]),zg 40 false (zt 49 48),zp 50 40 49,zm 51 50,zg 51 false (zf 52 1 1),zg 51 false (zl 53 1 52),zg 51 false (zd 54 .eql 53 (zI 1)),zg 51 false (zm 55 54),zg 55 true (zf 56 7 1),zg 55 true (zl 57 1 56),zg 51 false (zP 58 55 57),zp 59 51 58])
 (zC 59 (zs (zr [2] [zc 2 (.bool false)])
 .ret)
 .skip))
 (zs (zs (zr [1,62] [zf 60 7 1,zl 61 1 60,zt 62 61])
 (zC 62 (zs (zr [2] [zf 63 8 1,zl 64 1 63,zd 65 .eql 64 (zI 0),zm 2 65])
 .ret)
 .skip))
 (zs (.reg true [0,1,0,4,0,16,48,112,252,508,1020,2047,4095] [2] [zf 66 8 1,zl 67 1 66,zf 68 6 1,zl 69 1 68,zf 70 6 1,zl 71 1 70,zn 72 71,zd 73 .sub 72 (zI 1),zi 74 2 69 73,zf 75 1 74,zl 76 1 75,zk 77 172 [.t 67,(.c (zI 0)),.t 76],zm 2 77])
 .ret)))
 (zs (zr [1,78] [zd 79 .eql 31 (zI 3),zm 78 79])
 (zC 78 (zs (zr [2] [zf 80 5 1,zl 81 1 80,zf 82 4 1,zl 83 1 82,zb 84 .geq 81 83,zm 85 84,zg 85 true (zf 86 6 1),zg 85 true (zl 87 1 86),zg 85 true (zn 88 87),zg 85 true (zd 89 .eql 88 (zI 0)),zP 90 85 89,zm 91 90,zg 91 true (zf 92 7 1),zg 91 true (zl 93 1 92),zg 91 true (zt 94 93),zP 95 91 94,zm 96 95,zg 96 true (zf 97 8 1),zg 96 true (zl 98 1 97),zg 96 true (zd 99 .eql 98 (zI 0)),zP 100 96 99,zm 2 100])
 .ret)
 .skip))))))
 (zs (zr [2] [zc 2 (.bool false)])
 .ret)))) }
def N169:ar:={ np:=2,nt:=9,res:=[(4,none)],body :=
 (zs (zr [2,3] [zo 2 0,zo 3 1,zc 4 (zI 0)])
 (zs (zr [4] [zf 5 0 2,zl 6 1 5,zy 7 (.mk 176 [.t 3]),zk 8 175 [.t 6,.t 7],zm 4 8])
 .ret)) }
def N170:ar:={ np:=1,nt:=97,res:=[(2,none)],body :=
 (zs (zr [1] [zo 1 0,zc 2 (.bool false)])
 (zs (zs (.reg true [0,1,3,7,15,31,63,127,255,511,1023,2047,4095,8191,16383,32767,65535,131071,262143,131071,655359,2097151,4194303,8388607,16777215,33554431,67108863,134217727,268435455,536870911,1073741823,2147483647,2147483647,6442450943,17179869183,34359738367,68719476735] [1,39] [zf 3 0 1,zl 4 1 3,zk 5 58 [.t 4],zt 6 5,zm 7 6,zg 7 false (zf 8 1 1),zg 7 false (zl 9 1 8),zg 7 false (zk 10 58 [.t 9]),zg 7 false (zt 11 10),zp 12 7 11,zm 13 12,zg 13 false (zf 14 2 1),zg 13 false (zl 15 1 14),zg 13 false (zk 16 58 [.t 15]),zg 13 false (zt 17 16),zp 18 13 17,zm 19 18,zg 19 false (zf 20 1 1),zg 19 false (zl 21 1 20),zg 19 false (zf 22 2 1),zg 19 false (zl 23 1 22),zg 19 false (zb 24 .eql 21 23),zp 25 19 24,zm 26 25,zg 26 false (zf 27 5 1),zg 26 false (zl 28 1 27),zg 26 false (zy 29 (.bls 1 1 [zI 0] [] [(0,.t 28)])),zg 26 false (zk 30 173 [.t 29]),zg 26 false (zt 31 30),zp 32 26 31,zm 33 32,zg 33 false (zL 34 11 1),zg 33 false (zL 35 11 1),zg 33 false (zk 36 178 [.t 35]),zg 33 false (zk 37 177 [.t 34,.t 36]),zg 33 false (zt 38 37),zp 39 33 38])
 (zC 39 (zs (zr [2] [zc 2 (.bool false)])
 .ret)
 .skip))
 (zs (zs (zr [1,41] [zf 40 3 1,zl 41 1 40])
 (.block 0 (zs (zr [1,41,42] [zd 43 .eql 41 (zI 1),zm 42 43])
 (zC 42 (zs (zr [2] [zf 44 4 1,zl 45 1 44,zk 46 172 [.t 45,(.c (zI 1)),(.c (zI 16777216))],zm 47 46,zg 47 true (zf 48 6 1),zg 47 true (zl 49 1 48),zg 47 true (zy 50 (.bls 1 1 [zI 0] [] [(0,.t 49)])),zg 47 true (zk 51 173 [.t 50]),zP 52 47 51,zm 53 52,zg 53 true (zf 54 7 1),zg 53 true (zl 55 1 54),zg 53 true (zk 56 58 [.t 55]),zP 57 53 56,zm 2 57])
 .ret)
 (zs (zr [1,41,58] [zd 59 .eql 41 (zI 2),zm 58 59])
 (zC 58 (zs (zr [2] [zf 60 8 1,zl 61 1 60,zk 62 172 [.t 61,(.c (zI 1)),(.c (zI 1048576))],zm 2 62])
 .ret)
 (zs (zr [1,41,63] [zd 64 .eql 41 (zI 3),zm 63 64])
 (zC 63 (zs (zr [2] [zf 65 8 1,zl 66 1 65,zk 67 172 [.t 66,(.c (zI 1)),(.c (zI 32768))],zm 68 67,zg 68 true (zf 69 9 1),zg 68 true (zl 70 1 69),zg 68 true (zk 71 172 [.t 70,(.c (zI 1)),(.c (zI 32768))]),zP 72 68 71,zm 2 72])
 .ret)
 (zs (zr [1,73] [zd 74 .eql 41 (zI 4),zm 73 74])
 (zC 73 (zs (zr [2] [zf 75 6 1,zl 76 1 75,zy 77 (.bls 1 1 [zI 0] [] [(0,.t 76)]),zk 78 173 [.t 77],zm 79 78,zg 79 true (zf 80 6 1),zg 79 true (zl 81 1 80),zg 79 true (zf 82 5 1),zg 79 true (zl 83 1 82),zg 79 true (zb 84 .lss 81 83),zP 85 79 84,zm 86 85,zg 86 true (zf 87 10 1),zg 86 true (zl 88 1 87),zg 86 true (zk 89 72 [.t 88]),zP 90 86 89,zm 91 90,zg 91 true (zf 92 10 1),zg 91 true (zl 93 1 92),zg 91 true (zy 94 (.call 179 [.t 93,(.c (.fn 180 []))] [])),zg 91 true (zt 95 94),zP 96 91 95,zm 2 96])
 .ret)
 .skip))))))))))
 (zs (zr [2] [zc 2 (.bool false)])
 .ret)))) }
def N171:ar:={ np:=2,nt:=9,res:=[(4,none)],body :=
 (zs (zr [2,3] [zo 2 0,zo 3 1,zc 4 (zI 0)])
 (zs (zr [4] [zf 5 1 2,zl 6 1 5,zy 7 (.mk 182 [.t 3]),zk 8 181 [.t 6,.t 7],zm 4 8])
 .ret)) }
def N172:ar:={ np:=3,nt:=15,res:=[(6,none)],body :=
 (zs (zr [0,1,2] [zc 6 (.bool false)])
 (zs (zr [6] [zm 7 0,zm 8 1,zb 9 .geq 7 8,zm 10 9,zg 10 true (zm 11 0),zg 10 true (zm 12 2),zg 10 true (zb 13 .leq 11 12),zP 14 10 13,zm 6 14])
 .ret)) }
def N173:ar:={ np:=1,nt:=6,res:=[(2,none)],body :=
 (zs (zr [0] [zc 2 (.bool false)])
 (zs (zr [2] [zq 3 0,zy 4 (.call 11 [.t 3,(.c (.fn 183 []))] []),zt 5 4,zm 2 5])
 .ret)) }
def N174:ar:={ np:=2,nt:=31,res:=[(4,none)],body :=
 (zs (zr [0,1] [zc 4 (.bool false)])
 (zs (zs (zr [0,1,8] [zm 6 0,zk 7 72 [.t 6],zt 8 7])
 (zC 8 (zs (zr [4] [zc 4 (.bool false)])
 .ret)
 .skip))
 (zs (zr [0,1,5] [zm 9 0,zm 10 0,zn 11 10,zd 12 .sub 11 (zI 1),zi 13 2 9 12,zL 14 2 13,zy 5 (.alc zA1),zw (.st 2 [] (.t 5) (.t 14))])
 (zs (zr [4] [zq 15 0,zy 16 (.iadS 2 (.t 15) (.c (zI 0))),zL 17 2 16,zy 18 (.bld [zI 0,zI 0] []),zy 19 (.beq false [0,0] (.t 17) (.t 18)),zm 20 19,zg 20 true (zf 21 0 5),zg 20 true (zl 22 1 21),zg 20 true (zm 23 1),zg 20 true (zb 24 .eql 22 23),zP 25 20 24,zm 26 25,zg 26 true (zf 27 1 5),zg 26 true (zl 28 1 27),zg 26 true (zd 29 .leq 28 (zI 1125899906842624)),zP 30 26 29,zm 4 30])
 .ret)))) }
def N175:ar:={ np:=2,nt:=19,res:=[(4,none)],body :=
 (zs (zr [0,1] [zc 4 (zI 0)])
 (zs (zs (zr [0,1,7,8] [zm 6 0,zn 7 6,zc 8 (zI 0)])
 (.block 0 (.loop (zs (zr [0,1,7,8,9] [zb 9 .lss 8 7])
 (zs (zC 9 .skip
 (.exit 0))
 (zs (.block 1 (zs (zr [0,1,5,7,8] [zm 10 8,zm 5 10])
 (zs (zr [0,1,5,7,8,16] [zm 11 1,zm 12 0,zm 13 5,zi 14 9 12 13,zL 15 9 14,zy 16 (.callv (.t 11) [.t 15])])
 (zC 16 (zs (zr [4] [zm 17 5,zm 4 17])
 .ret)
 .skip))))
 (zr [0,1,7,8] [zd 18 .add 8 (zI 1),zm 8 18])))))))
 (zs (zr [4] [zy 4 (.mov (.c (zI (-1))))])
 .ret))) }
def N176:ar:={ np:=2,nt:=8,res:=[(3,none)],body :=
 (zs (zr [1,2] [zo 2 0,zc 3 (.bool false)])
 (zs (zr [3] [zf 4 0 2,zl 5 1 4,zl 6 1 1,zb 7 .eql 5 6,zm 3 7])
 .ret)) }
def N177:ar:={ np:=2,nt:=80,res:=[(4,none)],body :=
 (zs (zr [2,3] [zo 2 0,zo 3 1,zc 4 (.bool false)])
 (zs (zr [4] [zf 5 0 2,zl 6 1 5,zf 7 0 3,zl 8 1 7,zb 9 .eql 6 8,zm 10 9,zg 10 true (zf 11 1 2),zg 10 true (zl 12 1 11),zg 10 true (zf 13 1 3),zg 10 true (zl 14 1 13),zg 10 true (zb 15 .eql 12 14),zP 16 10 15,zm 17 16,zg 17 true (zf 18 2 2),zg 17 true (zl 19 1 18),zg 17 true (zf 20 2 3),zg 17 true (zl 21 1 20),zg 17 true (zb 22 .eql 19 21),zP 23 17 22,zm 24 23,zg 24 true (zf 25 3 2),zg 24 true (zl 26 1 25),zg 24 true (zf 27 3 3),zg 24 true (zl 28 1 27),zg 24 true (zb 29 .eql 26 28),zP 30 24 29,zm 31 30,zg 31 true (zf 32 4 2),zg 31 true (zl 33 1 32),zg 31 true (zf 34 4 3),zg 31 true (zl 35 1 34),zg 31 true (zb 36 .eql 33 35),zP 37 31 36,zm 38 37,zg 38 true (zf 39 5 2),zg 38 true (zl 40 1 39),zg 38 true (zf 41 5 3),zg 38 true (zl 42 1 41),zg 38 true (zb 43 .eql 40 42),zP 44 38 43,zm 45 44,zg 45 true (zf 46 6 2),zg 45 true (zl 47 1 46),zg 45 true (zf 48 6 3),zg 45 true (zl 49 1 48),zg 45 true (zb 50 .eql 47 49),zP 51 45 50,zm 52 51,zg 52 true (zf 53 7 2),zg 52 true (zl 54 1 53),zg 52 true (zf 55 7 3),zg 52 true (zl 56 1 55),zg 52 true (zb 57 .eql 54 56),zP 58 52 57,zm 59 58,zg 59 true (zf 60 8 2),zg 59 true (zl 61 1 60),zg 59 true (zf 62 8 3),zg 59 true (zl 63 1 62),zg 59 true (zb 64 .eql 61 63),zP 65 59 64,zm 66 65,zg 66 true (zf 67 9 2),zg 66 true (zl 68 1 67),zg 66 true (zf 69 9 3),zg 66 true (zl 70 1 69),zg 66 true (zb 71 .eql 68 70),zP 72 66 71,zm 73 72,zg 73 true (zf 74 10 2),zg 73 true (zl 75 1 74),zg 73 true (zf 76 10 3),zg 73 true (zl 77 1 76),zg 73 true (zk 78 184 [.t 75,.t 77]),zP 79 73 78,zm 4 79])
 .ret)) }
def N178:ar:={ np:=1,nt:=50,res:=[(2,some (11,true))],body :=
 (zs (zr [1,2] [zo 1 0,zy 2 (.alc zA2)])
 (zs (zr [1,2,3] [zf 4 0 1,zl 5 1 4,zf 6 1 1,zl 7 1 6,zf 8 2 1,zl 9 1 8,zf 10 3 1,zl 11 1 10,zf 12 5 1,zl 13 1 12,zy 14 (.bld [.str [],.str [],.str [],zI 0,zI 0,zI 0,zI 0,.str [],zI 0,zI 0,.nils] [(0,1,.t 5),(1,1,.t 7),(2,1,.t 9),(3,1,.t 11),(5,1,.t 13)]),zy 3 (.alc zA2),zw (.st 11 [] (.t 3) (.t 14))])
 (zs (zs (zr [1,2,3,16] [zf 15 3 1,zl 16 1 15])
 (.block 0 (zs (zr [1,2,3,16,17] [zd 18 .eql 16 (zI 1),zm 17 18])
 (zC 17 (.reg true [0,1,0,4,0,16,3,67,207,463,1023,2047] [2,3] [zf 19 4 1,zl 20 1 19,zf 21 6 1,zl 22 1 21,zf 23 7 1,zl 24 1 23,zf 25 4 3,zw (.st 1 [] (.t 25) (.t 20)),zf 26 6 3,zw (.st 1 [] (.t 26) (.t 22)),zf 27 7 3,zw (.st 1 [] (.t 27) (.t 24))])
 (zs (zr [1,2,3,16,28] [zd 29 .eql 16 (zI 2),zm 28 29])
 (zC 28 (zr [2,3] [zf 30 8 1,zl 31 1 30,zf 32 8 3,zw (.st 1 [] (.t 32) (.t 31))])
 (zs (zr [1,2,3,16,33] [zd 34 .eql 16 (zI 3),zm 33 34])
 (zC 33 (.reg true [0,1,0,4,3,19,63,127] [2,3] [zf 35 8 1,zl 36 1 35,zf 37 9 1,zl 38 1 37,zf 39 8 3,zw (.st 1 [] (.t 39) (.t 36)),zf 40 9 3,zw (.st 1 [] (.t 40) (.t 38))])
 (zs (zr [1,2,3,41] [zd 42 .eql 16 (zI 4),zm 41 42])
 (zC 41 (.reg true [0,1,0,4,3,19,63,127] [2,3] [zf 43 6 1,zl 44 1 43,zf 45 10 1,zl 46 1 45,zf 47 6 3,zw (.st 1 [] (.t 47) (.t 44)),zf 48 10 3,zw (.st 1 [] (.t 48) (.t 46))])
 .skip))))))))))
 (zs (zr [2] [zL 49 11 3,zw (.st 11 [] (.t 2) (.t 49))])
 .ret)))) }
def N179:ar:={ np:=2,nt:=9,res:=[(4,none)],body :=
 (zs (zr [0,1] [zc 4 (.bool false)])
 (zs (zr [4] [zq 5 0,zm 6 1,zk 7 185 [.t 5,.t 6],zd 8 .geq 7 (zI 0),zm 4 8])
 .ret)) }
def N180:ar:={ np:=1,nt:=13,res:=[(2,none)],body :=
 (zs (zr [1] [zo 1 0,zc 2 (.bool false)])
 (zs (zr [2] [zf 3 0 1,zl 4 1 3,zk 5 172 [.t 4,(.c (zI 0)),(.c (zI 4194304))],zt 6 5,zm 7 6,zg 7 false (zf 8 1 1),zg 7 false (zl 9 1 8),zg 7 false (zk 10 172 [.t 9,(.c (zI 0)),(.c (zI 1099511627776))]),zg 7 false (zt 11 10),zp 12 7 11,zm 2 12])
 .ret)) }
def N181:ar:={ np:=2,nt:=19,res:=[(4,none)],body :=
 (zs (zr [0,1] [zc 4 (zI 0)])
 (zs (zs (zr [0,1,7,8] [zm 6 0,zn 7 6,zc 8 (zI 0)])
 (.block 0 (.loop (zs (zr [0,1,7,8,9] [zb 9 .lss 8 7])
 (zs (zC 9 .skip
 (.exit 0))
 (zs (.block 1 (zs (zr [0,1,5,7,8] [zm 10 8,zm 5 10])
 (zs (zr [0,1,5,7,8,16] [zm 11 1,zm 12 0,zm 13 5,zi 14 11 12 13,zL 15 11 14,zy 16 (.callv (.t 11) [.t 15])])
 (zC 16 (zs (zr [4] [zm 17 5,zm 4 17])
 .ret)
 .skip))))
 (zr [0,1,7,8] [zd 18 .add 8 (zI 1),zm 8 18])))))))
 (zs (zr [4] [zy 4 (.mov (.c (zI (-1))))])
 .ret))) }
def N182:ar:={ np:=2,nt:=8,res:=[(3,none)],body :=
 (zs (zr [1,2] [zo 2 0,zc 3 (.bool false)])
 (zs (zr [3] [zf 4 0 2,zl 5 1 4,zl 6 1 1,zb 7 .eql 5 6,zm 3 7])
 .ret)) }
def N183:ar:={ np:=1,nt:=9,res:=[(2,none)],body :=
 (zs (zr [0] [zc 2 (.bool false)])
 (zs (zr [2] [zm 3 0,zy 4 (.bin .lss (.t 3) (.c (zI (-4194304)))),zm 5 4,zg 5 false (zm 6 0),zg 5 false (zd 7 .gtr 6 (zI 4194304)),zp 8 5 7,zm 2 8])
 .ret)) }
def N184:ar:={ np:=2,nt:=26,res:=[(4,none)],body :=
 (zs (zr [0,1] [zc 4 (.bool false)])
 (zs (zs (zr [0,1,10] [zm 6 0,zn 7 6,zm 8 1,zn 9 8,zb 10 .neq 7 9])
 (zC 10 (zs (zr [4] [zc 4 (.bool false)])
 .ret)
 .skip))
 (zs (zs (zr [0,1,12,13] [zm 11 0,zn 12 11,zc 13 (zI 0)])
 (.block 0 (.loop (zs (zr [0,1,12,13,14] [zb 14 .lss 13 12])
 (zs (zC 14 .skip
 (.exit 0))
 (zs (.block 1 (zs (zr [0,1,5,12,13] [zm 15 13,zm 5 15])
 (zs (.reg true [0,0,3,7,0,0,48,112,255] [0,1,12,13,24] [zm 16 0,zm 17 5,zi 18 2 16 17,zL 19 2 18,zm 20 1,zm 21 5,zi 22 2 20 21,zL 23 2 22,zy 24 (.beq true [0,0] (.t 19) (.t 23))])
 (zC 24 (zs (zr [4] [zc 4 (.bool false)])
 .ret)
 .skip))))
 (zr [0,1,12,13] [zd 25 .add 13 (zI 1),zm 13 25])))))))
 (zs (zr [4] [zc 4 (.bool true)])
 .ret)))) }
def N185:ar:={ np:=2,nt:=19,res:=[(4,none)],body :=
 (zs (zr [0,1] [zc 4 (zI 0)])
 (zs (zs (zr [0,1,7,8] [zm 6 0,zn 7 6,zc 8 (zI 0)])
 (.block 0 (.loop (zs (zr [0,1,7,8,9] [zb 9 .lss 8 7])
 (zs (zC 9 .skip
 (.exit 0))
 (zs (.block 1 (zs (zr [0,1,5,7,8] [zm 10 8,zm 5 10])
 (zs (zr [0,1,5,7,8,16] [zm 11 1,zm 12 0,zm 13 5,zi 14 2 12 13,zL 15 2 14,zy 16 (.callv (.t 11) [.t 15])])
 (zC 16 (zs (zr [4] [zm 17 5,zm 4 17])
 .ret)
 .skip))))
 (zr [0,1,7,8] [zd 18 .add 8 (zI 1),zm 8 18])))))))
 (zs (zr [4] [zy 4 (.mov (.c (zI (-1))))])
 .ret))) }
def N299:ar:={ np:=1,nt:=6,res:=[(2,none)],body :=
 (zs (zr [0] [zc 2 (.bool false)])
 (zs (zr [2] [zm 3 0,zm 4 0,zb 5 .neq 3 4,zm 2 5])
 .ret)) }
def N315:ar:={ np:=2,nt:=48,res:=[(4,none)],body :=
 (zs (zr [0,1] [zc 4 .nils])
 (zs (zs (zr [0,1,10] [zm 9 1,zd 10 .lss 9 (zI 0)])
 (zC 10 (zr [0,1] [zy 11 (.dead),zw (.dead)])
 .skip))
 (zs (zr [0,5,6] [zm 13 0,zn 14 13,zy 15 (.conv .u64 (.t 14)),zm 16 1,zy 17 (.conv .u64 (.t 16)),zk 18 333 [.t 15,.t 17],zm 12 18,zx 19 0 12,zx 20 1 12,zm 5 19,zm 6 20])
 (zs (zs (zr [0,6,26] [zm 21 5,zd 22 .gtr 21 (.int .u64 0),zm 23 22,zg 23 false (zm 24 6),zg 23 false (zd 25 .gtr 24 (.int .u64 9223372036854775807)),zp 26 23 25])
 (zC 26 (zr [0,6] [zy 27 (.dead),zw (.dead)])
 .skip))
 (zs (zr [0,7] [zm 28 6,zy 29 (.conv .i64 (.t 28)),zy 30 (.mks 1 8 [zI 0] (.t 29) (.t 29)),zq 7 30])
 (zs (zr [7,8] [zm 31 7,zq 32 0,zy 33 (.cpy 1 (.t 31) (.t 32)),zm 8 33])
 (zs (.block 0 (.loop (zs (zs (zr [7,8,37] [zm 34 8,zm 35 7,zn 36 35,zb 37 .lss 34 36])
 (zC 37 .skip
 (.exit 0)))
 (.block 1 (.reg true [0,0,0,6,0,0,48,126,255,511] [7,8] [zm 38 8,zm 39 7,zm 40 8,zy 41 (.slc 1 (.t 39) (some (.t 40)) none),zm 42 7,zm 43 8,zy 44 (.slc 1 (.t 42) none (some (.t 43))),zy 45 (.cpy 1 (.t 41) (.t 44)),zb 46 .add 38 45,zm 8 46])))))
 (zs (zr [4] [zq 47 7,zq 4 47])
 .ret)))))))) }
def N333:ar:={ np:=2,nt:=30,res:=[(4,none),(5,none)],body :=
 (zs (zr [0,1] [zc 4 (.int .u64 0),zc 5 (.int .u64 0)])
 (zs (.cond (.c (.bool false)) (zs (zr [6,7] [zm 11 0,zy 12 (.conv .u32 (.t 11)),zm 13 1,zy 14 (.conv .u32 (.t 13)),zk 15 339 [.t 12,.t 14],zm 10 15,zx 16 0 10,zx 17 1 10,zm 6 16,zm 7 17])
 (zs (zr [4,5] [zm 18 6,zy 19 (.conv .u64 (.t 18)),zm 20 7,zy 21 (.conv .u64 (.t 20)),zm 4 19,zm 5 21])
 .ret))
 .skip)
 (zs (zr [8,9] [zm 23 0,zm 24 1,zk 25 91 [.t 23,.t 24],zm 22 25,zx 26 0 22,zx 27 1 22,zm 8 26,zm 9 27])
 (zs (zr [4,5] [zm 28 8,zm 29 9,zm 4 28,zm 5 29])
 .ret)))) }
def N339:ar:={ np:=2,nt:=17,res:=[(4,none),(5,none)],body :=
 (zs (zr [0,1] [zc 4 (.int .u32 0),zc 5 (.int .u32 0)])
 (zs (zr [6] [zm 7 0,zy 8 (.conv .u64 (.t 7)),zm 9 1,zy 10 (.conv .u64 (.t 9)),zb 11 .mul 8 10,zm 6 11])
 (zs (zr [4,5] [zm 12 6,zd 13 .shr 12 (.int .u64 32),zy 14 (.conv .u32 (.t 13)),zm 15 6,zy 16 (.conv .u32 (.t 15)),zm 4 14,zm 5 16])
 .ret))) }
def N411:ar:={ np:=2,nt:=17,res:=[(4,none)],body :=
 (zs (zr [0,1] [zc 4 (.bool false)])
 (zs (zr [4] [zm 5 0,zk 6 299 [.t 5],zm 7 6,zg 7 true (zm 8 1),zg 7 true (zk 9 299 [.t 8]),zg 7 true (zt 10 9),zP 11 7 10,zm 12 11,zg 12 false (zm 13 0),zg 12 false (zm 14 1),zg 12 false (zb 15 .lss 13 14),zp 16 12 15,zm 4 16])
 .ret)) }
def N428:ar:={ np:=2,nt:=23,res:=[(4,none),(5,none)],body :=
 (zs (zr [1,2] [zo 2 0,zc 4 .nils,zc 5 (zI 0)])
 (zs (zs (zr [1,2,9] [zL 7 2 2,zk 8 433 [.t 7],zt 9 8])
 (zC 9 (zs (zr [4,5] [zc 4 .nils,zc 5 (zI 1)])
 .ret)
 .skip))
 (zs (zs (zr [1,2,6] [zm 10 1,zf 11 0 2,zl 12 1 11,zn 13 12,zk 14 460 [.t 10,.t 13],zm 6 14])
 (zs (zr [1,2,6,16] [zm 15 6,zd 16 .neq 15 (zI 0)])
 (zC 16 (zs (zr [4,5] [zm 17 6,zc 4 .nils,zm 5 17])
 .ret)
 .skip)))
 (zs (zr [4,5] [zL 18 2 2,zq 19 1,zk 20 461 [.t 18,.t 19],zx 21 0 20,zx 22 1 20,zq 4 21,zm 5 22])
 .ret)))) }
def N433:ar:={ np:=1,nt:=22,res:=[(2,none)],body :=
 (zs (zr [1] [zo 1 0,zc 2 (.bool false)])
 (zs (zs (zr [1,7] [zf 5 1 1,zl 6 1 5,zy 7 (.call 455 [.t 6,(.c (.fn 470 []))] [])])
 (zC 7 (zs (zr [2] [zc 2 (.bool false)])
 .ret)
 .skip))
 (zs (zr [1,3,4] [zL 9 2 1,zk 10 471 [.t 9],zm 8 10,zx 11 0 8,zx 12 1 8,zq 3 11,zm 4 12])
 (zs (zr [2] [zm 13 4,zd 14 .eql 13 (zI 0),zm 15 14,zg 15 true (zf 16 0 1),zg 15 true (zl 17 1 16),zg 15 true (zn 18 17),zg 15 true (zq 19 3),zg 15 true (zk 20 472 [.t 18,.t 19]),zP 21 15 20,zm 2 21])
 .ret)))) }
def N450:ar:={ np:=2,nt:=9,res:=[(4,none)],body :=
 (zs (zr [0,1] [zc 4 (.bool false)])
 (zs (zr [4] [zq 5 0,zm 6 1,zk 7 485 [.t 5,.t 6],zd 8 .geq 7 (zI 0),zm 4 8])
 .ret)) }
def N453:ar:={ np:=2,nt:=9,res:=[(4,none)],body :=
 (zs (zr [0,1] [zc 4 (.bool false)])
 (zs (zr [4] [zq 5 0,zm 6 1,zk 7 175 [.t 5,.t 6],zd 8 .geq 7 (zI 0),zm 4 8])
 .ret)) }
def N455:ar:={ np:=2,nt:=9,res:=[(4,none)],body :=
 (zs (zr [0,1] [zc 4 (.bool false)])
 (zs (zr [4] [zq 5 0,zm 6 1,zk 7 181 [.t 5,.t 6],zd 8 .geq 7 (zI 0),zm 4 8])
 .ret)) }
def N460:ar:={ np:=2,nt:=16,res:=[(4,none)],body :=
 (zs (zr [0,1] [zc 4 (zI 0)])
 (zs (.block 0 (zs (zr [0,1,5] [zm 6 0,zy 7 (.call 491 [.t 6,(.c (.fn 492 []))] []),zm 5 7])
 (zC 5 (zs (zr [4] [zc 4 (zI 1)])
 .ret)
 (zs (zr [0,8] [zm 9 0,zn 10 9,zm 11 1,zb 12 .neq 10 11,zm 8 12])
 (zC 8 (zs (zr [4] [zc 4 (zI 3)])
 .ret)
 (zs (zr [13] [zq 14 0,zy 15 (.call 491 [.t 14,(.c (.fn 494 []))] []),zm 13 15])
 (zC 13 (zs (zr [4] [zc 4 (zI 2)])
 .ret)
 .skip)))))))
 (zs (zr [4] [zc 4 (zI 0)])
 .ret))) }
def N461:ar:={ np:=2,nt:=97,res:=[(4,none),(5,none)],body :=
 (zs (zr [1,2] [zo 2 0,zc 4 .nils,zc 5 (zI 0)])
 (zs (zr [1,2,6,7] [zL 17 2 2,zk 18 495 [.t 17],zm 16 18,zx 19 0 16,zx 20 1 16,zq 6 19,zm 7 20])
 (zs (zs (zr [1,2,6,7,22] [zm 21 7,zd 22 .neq 21 (zI 0)])
 (zC 22 (zs (zr [4,5] [zm 23 7,zc 4 .nils,zm 5 23])
 .ret)
 .skip))
 (zs (zr [1,2,6,7,8] [zL 25 2 2,zk 26 471 [.t 25],zm 24 26,zx 27 0 24,zx 28 1 24,zq 8 27,zm 7 28])
 (zs (zs (zr [1,2,6,7,8,30] [zm 29 7,zd 30 .neq 29 (zI 0)])
 (zC 30 (zs (zr [4,5] [zm 31 7,zc 4 .nils,zm 5 31])
 .ret)
 .skip))
 (zs (zr [1,6,8,9] [zf 32 1 2,zl 33 1 32,zn 34 33,zy 35 (.mks 2 16 [zI 0,zI 0] (.t 34) (.t 34)),zq 9 35])
 (zs (zr [6,8,9,10] [zq 36 1,zy 37 (.callF 496 [.t 36]),zq 10 37])
 (zs (zs (zr [8,9,10,38,39,40] [zq 38 6,zn 39 38,zc 40 (zI 0)])
 (.block 0 (.loop (zs (zr [8,9,10,38,39,40,41] [zb 41 .lss 40 39])
 (zs (zC 41 .skip
 (.exit 0))
 (zs (.block 1 (zs (zr [8,9,10,12,38,39,40] [zi 42 1 38 40,zl 43 1 42,zm 12 43])
 (zs (zr [8,9,10,12,38,39,40,44,45,46] [zm 44 8,zn 45 44,zc 46 (zI 0)])
 (.block 2 (.loop (zs (zr [8,9,10,12,38,39,40,44,45,46,47] [zb 47 .lss 46 45])
 (zs (zC 47 .skip
 (.exit 2))
 (zs (.block 3 (zs (zr [8,9,10,12,13,14,38,39,40,44,45,46] [zm 48 46,zi 49 2 44 46,zL 50 2 49,zy 14 (.alc zA1),zm 13 48,zw (.st 2 [] (.t 14) (.t 50))])
 (zs (zs (zr [8,9,10,12,13,14,38,39,40,44,45,46,54] [zy 51 (.iadA 2 1 (.t 14) (.c (zI 0))),zl 52 1 51,zm 53 12,zb 54 .neq 52 53])
 (zC 54 (.exit 3)
 .skip))
 (zs (zr [8,9,10,12,14,38,39,40,44,45,46] [zm 55 9,zm 56 13,zm 57 10,zm 58 12,zi 59 2 57 58,zL 60 2 59,zi 61 2 55 56,zw (.st 2 [] (.t 61) (.t 60))])
 (zs (zr [8,9,10,12,15,38,39,40,44,45,46] [zm 62 10,zy 63 (.iadA 2 1 (.t 14) (.c (zI 1))),zl 64 1 63,zi 65 2 62 64,zm 15 65])
 (.reg true [0,0,0,4,12,28,0,0,192,448,960,2044,0,4096,12288,28672,0,0,196608,458752,983040,2093056,2097149,6291453,14680061,33554431,67108863,134217727] [8,9,10,12,38,39,40,44,45,46] [zm 66 15,zm 67 15,zm 68 15,zy 69 (.nck (.t 68)),zf 70 0 69,zl 71 1 70,zm 72 10,zm 73 12,zi 74 2 72 73,zf 75 0 74,zl 76 1 75,zb 77 .add 71 76,zm 78 15,zy 79 (.nck (.t 78)),zf 80 1 79,zl 81 1 80,zm 82 10,zm 83 12,zi 84 2 82 83,zf 85 1 84,zl 86 1 85,zb 87 .add 81 86,zy 88 (.nck (.t 66)),zf 89 0 88,zw (.st 1 [] (.t 89) (.t 77)),zy 90 (.nck (.t 67)),zf 91 1 90,zw (.st 1 [] (.t 91) (.t 87))]))))))
 (zr [8,9,10,12,38,39,40,44,45,46] [zd 92 .add 46 (zI 1),zm 46 92])))))))))
 (zr [8,9,10,38,39,40] [zd 93 .add 40 (zI 1),zm 40 93])))))))
 (zs (zs (zr [9,95] [zm 94 9,zy 95 (.call 491 [.t 94,(.c (.fn 497 []))] [])])
 (zC 95 (zs (zr [4,5] [zc 4 .nils,zc 5 (zI 5)])
 .ret)
 .skip))
 (zs (zr [4,5] [zq 96 9,zq 4 96,zc 5 (zI 0)])
 .ret)))))))))) }
def N470:ar:={ np:=1,nt:=6,res:=[(2,none)],body :=
 (zs (zr [1] [zo 1 0,zc 2 (.bool false)])
 (zs (zr [2] [zf 3 3 1,zl 4 1 3,zd 5 .neq 4 (zI 1),zm 2 5])
 .ret)) }
def N471:ar:={ np:=1,nt:=9,res:=[(2,none),(3,none)],body :=
 (zs (zr [1] [zo 1 0,zc 2 .nils,zc 3 (zI 0)])
 (zs (zs (zr [1,6] [zL 4 2 1,zk 5 164 [.t 4],zt 6 5])
 (zC 6 (zs (zr [2,3] [zc 2 .nils,zc 3 (zI 1)])
 .ret)
 .skip))
 (zs (zr [2,3] [zL 7 2 1,zk 8 499 [.t 7],zq 2 8,zc 3 (zI 0)])
 .ret))) }
def N472:ar:={ np:=2,nt:=36,res:=[(4,none)],body :=
 (zs (zr [0,1] [zc 4 (.bool false)])
 (zs (zs (zr [0,1,11] [zm 8 0,zm 9 1,zk 10 503 [.t 8,.t 9],zt 11 10])
 (zC 11 (zs (zr [4] [zc 4 (.bool false)])
 .ret)
 .skip))
 (zs (zr [0,1,5] [zm 12 0,zy 13 (.mks 1 1 [.bool false] (.t 12) (.t 12)),zq 5 13])
 (zs (zs (zr [0,1,5,14,15,16] [zm 14 1,zn 15 14,zc 16 (zI 0)])
 (.block 0 (.loop (zs (zr [0,1,5,14,15,16,17] [zb 17 .lss 16 15])
 (zs (zC 17 .skip
 (.exit 0))
 (zs (.block 1 (zs (zr [0,1,5,7,14,15,16] [zi 18 2 14 16,zL 19 2 18,zy 7 (.alc zA1),zw (.st 2 [] (.t 7) (.t 19))])
 (zs (zs (zr [0,1,5,7,14,15,16,24] [zm 20 5,zy 21 (.iadA 2 1 (.t 7) (.c (zI 0))),zl 22 1 21,zi 23 1 20 22,zl 24 1 23])
 (zC 24 (zs (zr [4] [zc 4 (.bool false)])
 .ret)
 .skip))
 (zr [0,1,5,14,15,16] [zm 25 5,zy 26 (.iadA 2 1 (.t 7) (.c (zI 0))),zl 27 1 26,zi 28 1 25 27,zw (.st 1 [] (.t 28) (.c (.bool true)))]))))
 (zr [0,1,5,14,15,16] [zd 29 .add 16 (zI 1),zm 16 29])))))))
 (zs (zr [4] [zm 30 0,zq 31 1,zk 32 504 [.t 30,.t 31],zn 33 32,zm 34 0,zb 35 .eql 33 34,zm 4 35])
 .ret))))) }
def N482:ar:={ np:=2,nt:=16,res:=[(4,none),(5,none)],body :=
 (zs (zr [1,2] [zo 2 0,zc 4 (zI 0),zc 5 (zI 0)])
 (zs (zs (zr [1,2,8] [zL 6 2 2,zk 7 164 [.t 6],zt 8 7])
 (zC 8 (zs (zr [4,5] [zc 4 (zI 0),zc 5 (zI 1)])
 .ret)
 .skip))
 (zs (.reg true [0,0,0,6,15,31,31,127,255] [4,5] [zL 9 2 2,zL 10 2 2,zm 11 1,zk 12 169 [.t 10,.t 11],zk 13 498 [.t 9,.t 12],zx 14 0 13,zx 15 1 13,zm 4 14,zm 5 15])
 .ret))) }
def N485:ar:={ np:=2,nt:=19,res:=[(4,none)],body :=
 (zs (zr [0,1] [zc 4 (zI 0)])
 (zs (zs (zr [0,1,7,8] [zm 6 0,zn 7 6,zc 8 (zI 0)])
 (.block 0 (.loop (zs (zr [0,1,7,8,9] [zb 9 .lss 8 7])
 (zs (zC 9 .skip
 (.exit 0))
 (zs (.block 1 (zs (zr [0,1,5,7,8] [zm 10 8,zm 5 10])
 (zs (zr [0,1,5,7,8,16] [zm 11 1,zm 12 0,zm 13 5,zi 14 1 12 13,zl 15 1 14,zb 16 .eql 11 15])
 (zC 16 (zs (zr [4] [zm 17 5,zm 4 17])
 .ret)
 .skip))))
 (zr [0,1,7,8] [zd 18 .add 8 (zI 1),zm 8 18])))))))
 (zs (zr [4] [zy 4 (.mov (.c (zI (-1))))])
 .ret))) }
def N491:ar:={ np:=2,nt:=9,res:=[(4,none)],body :=
 (zs (zr [0,1] [zc 4 (.bool false)])
 (zs (zr [4] [zq 5 0,zm 6 1,zk 7 509 [.t 5,.t 6],zd 8 .geq 7 (zI 0),zm 4 8])
 .ret)) }
def N492:ar:={ np:=1,nt:=6,res:=[(2,none)],body :=
 (zs (zr [1] [zo 1 0,zc 2 (.bool false)])
 (zs (zr [2] [zL 3 2 1,zk 4 493 [.t 3],zt 5 4,zm 2 5])
 .ret)) }
def N493:ar:={ np:=1,nt:=18,res:=[(2,none)],body :=
 (zs (zr [1] [zo 1 0,zc 2 (.bool false)])
 (zs (zr [2] [zf 3 0 1,zl 4 1 3,zf 5 1 1,zl 6 1 5,zb 7 .leq 4 6,zm 8 7,zg 8 true (zf 9 0 1),zg 8 true (zl 10 1 9),zg 8 true (zk 11 510 [.t 10]),zP 12 8 11,zm 13 12,zg 13 true (zf 14 1 1),zg 13 true (zl 15 1 14),zg 13 true (zk 16 510 [.t 15]),zP 17 13 16,zm 2 17])
 .ret)) }
def N494:ar:={ np:=1,nt:=11,res:=[(2,none)],body :=
 (zs (zr [1] [zo 1 0,zc 2 (.bool false)])
 (zs (zr [2] [zf 3 0 1,zl 4 1 3,zd 5 .lss 4 (zI 0),zm 6 5,zg 6 false (zf 7 1 1),zg 6 false (zl 8 1 7),zg 6 false (zd 9 .gtr 8 (zI 1099511627776)),zp 10 6 9,zm 2 10])
 .ret)) }
def N495:ar:={ np:=1,nt:=15,res:=[(2,none),(3,none)],body :=
 (zs (zr [1] [zo 1 0,zc 2 .nils,zc 3 (zI 0)])
 (zs (zs (zr [1,6] [zL 4 2 1,zk 5 164 [.t 4],zt 6 5])
 (zC 6 (zs (zr [2,3] [zc 2 .nils,zc 3 (zI 1)])
 .ret)
 .skip))
 (zs (.reg true [0,1,3,0,8,31,63,63,255,511] [2,3] [zf 7 0 1,zl 8 1 7,zn 9 8,zL 10 2 1,zk 11 499 [.t 10],zk 12 511 [.t 9,.t 11],zx 13 0 12,zx 14 1 12,zq 2 13,zm 3 14])
 .ret))) }
def N496:ar:={ np:=1,nt:=8,res:=[(2,none)],body :=
 (zs (zr [0] [zc 2 .nils])
 (zs (zs (zr [0,4] [zm 3 0,zy 4 (.beq false [9] (.t 3) (.c .nils))])
 (zC 4 (zs (zr [2] [zc 2 .nils])
 .ret)
 .skip))
 (zs (zr [2] [zy 5 (.bls 2 0 [zI 0,zI 0] [] []),zq 6 0,zy 7 (.app 2 16 false (.t 5) (.t 6)),zq 2 7])
 .ret))) }
def N497:ar:={ np:=1,nt:=6,res:=[(2,none)],body :=
 (zs (zr [1] [zo 1 0,zc 2 (.bool false)])
 (zs (zr [2] [zf 3 1 1,zl 4 1 3,zd 5 .gtr 4 (zI 1099511627776),zm 2 5])
 .ret)) }
def N498:ar:={ np:=2,nt:=9,res:=[(4,none),(5,none)],body :=
 (zs (zr [1] [zo 2 0,zc 4 (zI 0),zc 5 (zI 0)])
 (zs (zs (zr [1,7] [zm 6 1,zd 7 .lss 6 (zI 0)])
 (zC 7 (zs (zr [4,5] [zc 4 (zI 0),zc 5 (zI 9)])
 .ret)
 .skip))
 (zs (zr [4,5] [zm 8 1,zm 4 8,zc 5 (zI 0)])
 .ret))) }
def N499:ar:={ np:=1,nt:=27,res:=[(2,none)],body :=
 (zs (zr [1] [zo 1 0,zc 2 .nils])
 (zs (zr [1,3] [zy 3 (.nilo 2)])
 (zs (zs (zr [1,3,7,8,9] [zf 6 1 1,zl 7 1 6,zn 8 7,zc 9 (zI 0)])
 (.block 0 (.loop (zs (zr [1,3,7,8,9,10] [zb 10 .lss 9 8])
 (zs (zC 10 .skip
 (.exit 0))
 (zs (.block 1 (zs (zr [1,3,5,7,8,9] [zi 11 11 7 9,zL 12 11 11,zy 5 (.alc zA2),zw (.st 11 [] (.t 5) (.t 12))])
 (.reg true [0,0,0,4,14,0,0,64,254,510,1022,2047,4095] [1,3,7,8,9] [zm 13 3,zL 14 2 1,zf 15 1 5,zl 16 1 15,zk 17 169 [.t 14,.t 16],zL 18 2 1,zf 19 2 5,zl 20 1 19,zk 21 169 [.t 18,.t 20],zy 22 (.bld [zI 0,zI 0] [(0,1,.t 17),(1,1,.t 21)]),zy 23 (.bls 2 1 [zI 0,zI 0] [] [(0,.t 22)]),zy 24 (.app 2 16 false (.t 13) (.t 23)),zq 3 24])))
 (zr [1,3,7,8,9] [zd 25 .add 9 (zI 1),zm 9 25])))))))
 (zs (zr [2] [zq 26 3,zq 2 26])
 .ret)))) }
def N503:ar:={ np:=2,nt:=20,res:=[(4,none)],body :=
 (zs (zr [1,2] [zo 2 0,zc 4 (.bool false)])
 (zs (zs (zr [1,2,15] [zl 5 1 2,zd 6 .lss 5 (zI 0),zm 7 6,zg 7 false (zl 8 1 2),zg 7 false (zd 9 .gtr 8 (zI 300)),zp 10 7 9,zm 11 10,zg 11 false (zm 12 1),zg 11 false (zn 13 12),zg 11 false (zd 14 .gtr 13 (zI 1000)),zp 15 11 14])
 (zC 15 (zs (zr [4] [zc 4 (.bool false)])
 .ret)
 .skip))
 (zs (zr [4] [zq 16 1,zy 17 (.mk 515 [.t 2]),zk 18 514 [.t 16,.t 17],zt 19 18,zm 4 19])
 .ret))) }
def N504:ar:={ np:=2,nt:=104,res:=[(4,none)],body :=
 (zs (zr [0,1] [zc 4 .nils])
 (zs (zr [0,5] [zm 20 0,zq 21 1,zk 22 517 [.t 20,.t 21],zq 5 22])
 (zs (zr [5,6] [zm 23 0,zy 24 (.mks 1 8 [zI 0] (.t 23) (.t 23)),zq 6 24])
 (zs (zs (zr [5,6,25,26,27] [zm 25 5,zn 26 25,zc 27 (zI 0)])
 (.block 0 (.loop (zs (zr [5,6,25,26,27,28] [zb 28 .lss 27 26])
 (zs (zC 28 .skip
 (.exit 0))
 (zs (.block 1 (zs (zr [5,6,8,25,26,27] [zi 29 1 25 27,zl 30 1 29,zq 8 30])
 (zs (zr [5,6,25,26,27,31,32,33] [zq 31 8,zn 32 31,zc 33 (zI 0)])
 (.block 2 (.loop (zs (zr [5,6,25,26,27,31,32,33,34] [zb 34 .lss 33 32])
 (zs (zC 34 .skip
 (.exit 2))
 (zs (.block 3 (zs (zr [5,6,10,25,26,27,31,32,33] [zi 35 1 31 33,zl 36 1 35,zm 10 36])
 (zr [5,6,25,26,27,31,32,33] [zm 37 6,zm 38 10,zi 39 1 37 38,zl 40 1 39,zd 41 .add 40 (zI 1),zi 42 1 37 38,zw (.st 1 [] (.t 42) (.t 41))])))
 (zr [5,6,25,26,27,31,32,33] [zd 43 .add 33 (zI 1),zm 33 43])))))))))
 (zr [5,6,25,26,27] [zd 44 .add 27 (zI 1),zm 27 44])))))))
 (zs (zr [5,6,11,12] [zy 11 (.nilo 1),zy 12 (.nilo 1)])
 (zs (zs (zr [5,6,11,12,45,46,47] [zm 45 6,zn 46 45,zc 47 (zI 0)])
 (.block 4 (.loop (zs (zr [5,6,11,12,45,46,47,48] [zb 48 .lss 47 46])
 (zs (zC 48 .skip
 (.exit 4))
 (zs (.block 5 (zs (zr [5,6,11,12,13,14,45,46,47] [zm 49 47,zi 50 1 45 47,zl 51 1 50,zm 13 49,zm 14 51])
 (zs (zr [5,6,11,12,13,45,46,47,53] [zm 52 14,zd 53 .eql 52 (zI 0)])
 (zC 53 (zr [5,6,11,12,45,46,47] [zm 54 11,zm 55 13,zy 56 (.bls 1 1 [zI 0] [] [(0,.t 55)]),zy 57 (.app 1 8 false (.t 54) (.t 56)),zq 11 57])
 .skip))))
 (zr [5,6,11,12,45,46,47] [zd 58 .add 47 (zI 1),zm 47 58])))))))
 (zs (.block 6 (.loop (zs (zs (zr [5,6,11,12,61] [zm 59 11,zn 60 59,zd 61 .gtr 60 (zI 0)])
 (zC 61 .skip
 (.exit 6)))
 (.block 7 (zs (zr [5,6,11,12,15] [zm 62 11,zy 63 (.iadS 1 (.t 62) (.c (zI 0))),zl 64 1 63,zm 15 64])
 (zs (zr [5,6,11,12,15] [zm 65 11,zy 66 (.slc 1 (.t 65) (some (.c (zI 1))) none),zq 11 66])
 (zs (zr [5,6,11,12,15] [zm 67 12,zm 68 15,zy 69 (.bls 1 1 [zI 0] [] [(0,.t 68)]),zy 70 (.app 1 8 false (.t 67) (.t 69)),zq 12 70])
 (zs (zr [5,6,11,12,74,75,76] [zm 71 5,zm 72 15,zi 73 1 71 72,zl 74 1 73,zn 75 74,zc 76 (zI 0)])
 (.block 8 (.loop (zs (zr [5,6,11,12,74,75,76,77] [zb 77 .lss 76 75])
 (zs (zC 77 .skip
 (.exit 8))
 (zs (.block 9 (zs (zr [5,6,11,12,17,74,75,76] [zi 78 1 74 76,zl 79 1 78,zm 17 79])
 (zs (zr [5,6,11,12,17,74,75,76] [zm 80 6,zm 81 17,zi 82 1 80 81,zl 83 1 82,zd 84 .sub 83 (zI 1),zi 85 1 80 81,zw (.st 1 [] (.t 85) (.t 84))])
 (zs (zr [5,6,11,12,17,74,75,76,90] [zm 86 6,zm 87 17,zi 88 1 86 87,zl 89 1 88,zd 90 .eql 89 (zI 0)])
 (zC 90 (zs (zr [5,6,11,12,17,18,74,75,76] [zm 92 11,zm 93 17,zk 94 518 [.t 92,.t 93],zm 91 94,zx 95 0 91,zx 96 1 91,zm 18 95,zm 19 96])
 (zr [5,6,11,12,74,75,76] [zm 97 11,zm 98 18,zm 99 17,zy 100 (.bls 1 1 [zI 0] [] [(0,.t 99)]),zy 101 (.callE 519 (.t 97) [.t 98,.t 100]),zq 11 101]))
 .skip)))))
 (zr [5,6,11,12,74,75,76] [zd 102 .add 76 (zI 1),zm 76 102]))))))))))))))
 (zs (zr [4] [zq 103 12,zq 4 103])
 .ret)))))))) }
def N509:ar:={ np:=2,nt:=19,res:=[(4,none)],body :=
 (zs (zr [0,1] [zc 4 (zI 0)])
 (zs (zs (zr [0,1,7,8] [zm 6 0,zn 7 6,zc 8 (zI 0)])
 (.block 0 (.loop (zs (zr [0,1,7,8,9] [zb 9 .lss 8 7])
 (zs (zC 9 .skip
 (.exit 0))
 (zs (.block 1 (zs (zr [0,1,5,7,8] [zm 10 8,zm 5 10])
 (zs (zr [0,1,5,7,8,16] [zm 11 1,zm 12 0,zm 13 5,zi 14 2 12 13,zL 15 2 14,zy 16 (.callv (.t 11) [.t 15])])
 (zC 16 (zs (zr [4] [zm 17 5,zm 4 17])
 .ret)
 .skip))))
 (zr [0,1,7,8] [zd 18 .add 8 (zI 1),zm 8 18])))))))
 (zs (zr [4] [zy 4 (.mov (.c (zI (-1))))])
 .ret))) }
def N510:ar:={ np:=1,nt:=9,res:=[(2,none)],body :=
 (zs (zr [0] [zc 2 (.bool false)])
 (zs (zr [2] [zm 3 0,zy 4 (.bin .geq (.t 3) (.c (zI (-72057594037927936)))),zm 5 4,zg 5 true (zm 6 0),zg 5 true (zd 7 .leq 6 (zI 72057594037927936)),zP 8 5 7,zm 2 8])
 .ret)) }
def N511:ar:={ np:=2,nt:=19,res:=[(4,none),(5,none)],body :=
 (zs (zr [0,1] [zc 4 .nils,zc 5 (zI 0)])
 (zs (zs (zr [0,1,10] [zm 7 0,zm 8 1,zk 9 503 [.t 7,.t 8],zt 10 9])
 (zC 10 (zs (zr [4,5] [zc 4 .nils,zc 5 (zI 1)])
 .ret)
 .skip))
 (zs (zr [0,6] [zm 11 0,zq 12 1,zk 13 504 [.t 11,.t 12],zq 6 13])
 (zs (zs (zr [6,17] [zm 14 6,zn 15 14,zm 16 0,zb 17 .lss 15 16])
 (zC 17 (zs (zr [4,5] [zc 4 .nils,zc 5 (zI 22)])
 .ret)
 .skip))
 (zs (zr [4,5] [zq 18 6,zq 4 18,zc 5 (zI 0)])
 .ret))))) }
def N514:ar:={ np:=2,nt:=9,res:=[(4,none)],body :=
 (zs (zr [0,1] [zc 4 (.bool false)])
 (zs (zr [4] [zq 5 0,zm 6 1,zk 7 522 [.t 5,.t 6],zd 8 .geq 7 (zI 0),zm 4 8])
 .ret)) }
def N515:ar:={ np:=2,nt:=16,res:=[(3,none)],body :=
 (zs (zr [1,2] [zo 2 0,zc 3 (.bool false)])
 (zs (zr [3] [zl 4 1 1,zy 5 (.iadA 2 1 (.t 2) (.c (zI 0))),zl 6 1 5,zk 7 516 [.t 4,.t 6],zt 8 7,zm 9 8,zg 9 false (zl 10 1 1),zg 9 false (zy 11 (.iadA 2 1 (.t 2) (.c (zI 1)))),zg 9 false (zl 12 1 11),zg 9 false (zk 13 516 [.t 10,.t 12]),zg 9 false (zt 14 13),zp 15 9 14,zm 3 15])
 .ret)) }
def N516:ar:={ np:=2,nt:=12,res:=[(4,none)],body :=
 (zs (zr [0,1] [zc 4 (.bool false)])
 (zs (zr [4] [zm 5 1,zd 6 .geq 5 (zI 0),zm 7 6,zg 7 true (zm 8 1),zg 7 true (zm 9 0),zg 7 true (zb 10 .lss 8 9),zP 11 7 10,zm 4 11])
 .ret)) }
def N517:ar:={ np:=2,nt:=51,res:=[(4,none)],body :=
 (zs (zr [0,1] [zc 4 .nils])
 (zs (zr [1,5] [zm 9 0,zy 10 (.mks 1 24 [.own 1 []] (.t 9) (.t 9)),zq 5 10])
 (zs (zs (zr [5,11,12,13] [zq 11 1,zn 12 11,zc 13 (zI 0)])
 (.block 0 (.loop (zs (zr [5,11,12,13,14] [zb 14 .lss 13 12])
 (zs (zC 14 .skip
 (.exit 0))
 (zs (.block 1 (zs (zr [5,7,11,12,13] [zi 15 2 11 13,zL 16 2 15,zy 7 (.alc zA1),zw (.st 2 [] (.t 7) (.t 16))])
 (.reg true [0,0,2,0,0,16,56,120,0,256,768,2040,4095,8191] [5,11,12,13] [zm 17 5,zy 18 (.iadA 2 1 (.t 7) (.c (zI 0))),zl 19 1 18,zm 20 5,zy 21 (.iadA 2 1 (.t 7) (.c (zI 0))),zl 22 1 21,zi 23 1 20 22,zl 24 1 23,zy 25 (.iadA 2 1 (.t 7) (.c (zI 1))),zl 26 1 25,zy 27 (.bls 1 1 [zI 0] [] [(0,.t 26)]),zy 28 (.app 1 8 false (.t 24) (.t 27)),zi 29 1 17 19,zw (.st 1 [] (.t 29) (.t 28))])))
 (zr [5,11,12,13] [zd 30 .add 13 (zI 1),zm 13 30])))))))
 (zs (zs (zr [5,32,33] [zm 31 5,zn 32 31,zc 33 (zI 0)])
 (.block 2 (.loop (zs (zr [5,32,33,34] [zb 34 .lss 33 32])
 (zs (zC 34 .skip
 (.exit 2))
 (zs (.block 3 (zs (zr [5,8,32,33] [zm 35 33,zm 8 35])
 (zs (zr [5,8,32,33] [zm 36 5,zm 37 8,zi 38 1 36 37,zl 39 1 38,zy 40 (.callN 366 (.t 39) [])])
 (zr [5,32,33] [zm 41 5,zm 42 8,zm 43 5,zm 44 8,zi 45 1 43 44,zl 46 1 45,zy 47 (.callE 523 (.t 46) []),zi 48 1 41 42,zw (.st 1 [] (.t 48) (.t 47))]))))
 (zr [5,32,33] [zd 49 .add 33 (zI 1),zm 33 49])))))))
 (zs (zr [4] [zq 50 5,zq 4 50])
 .ret))))) }
def N518:ar:={ np:=2,nt:=54,res:=[(4,none),(5,none)],body :=
 (zs (zr [0,1] [zc 4 (zI 0),zc 5 (.bool false)])
 (zs (zr [0,1,6] [zm 10 0,zn 11 10,zm 6 11])
 (zs (zr [0,1,6,7,8] [zm 12 6,zc 7 (zI 0),zm 8 12])
 (zs (.block 0 (.loop (zs (zs (zr [0,1,6,7,8,15] [zm 13 7,zm 14 8,zb 15 .lss 13 14])
 (zC 15 .skip
 (.exit 0)))
 (.block 1 (zs (zr [0,1,6,7,8,9] [zm 16 7,zm 17 8,zb 18 .add 16 17,zy 19 (.conv .u64 (.t 18)),zd 20 .shr 19 (.int .u64 1),zy 21 (.conv .i64 (.t 20)),zm 9 21])
 (zs (zr [0,1,6,7,8,9,27] [zm 22 0,zm 23 9,zi 24 1 22 23,zl 25 1 24,zm 26 1,zk 27 411 [.t 25,.t 26]])
 (zC 27 (zr [0,1,6,7,8] [zm 28 9,zd 29 .add 28 (zI 1),zm 7 29])
 (zr [0,1,6,7,8] [zm 30 9,zm 8 30]))))))))
 (zs (zr [4,5] [zm 31 7,zm 32 7,zm 33 6,zb 34 .lss 32 33,zm 35 34,zg 35 true (zm 36 0),zg 35 true (zm 37 7),zg 35 true (zi 38 1 36 37),zg 35 true (zl 39 1 38),zg 35 true (zm 40 1),zg 35 true (zb 41 .eql 39 40),zg 35 true (zm 42 41),zg 42 false (zq 43 0),zg 42 false (zm 44 7),zg 42 false (zi 45 1 43 44),zg 42 false (zl 46 1 45),zg 42 false (zk 47 524 [.t 46]),zg 42 false (zm 48 47),zg 48 true (zm 49 1),zg 48 true (zk 50 524 [.t 49]),zg 42 false (zP 51 48 50),zg 35 true (zp 52 42 51),zP 53 35 52,zm 4 31,zm 5 53])
 .ret))))) }
def N522:ar:={ np:=2,nt:=19,res:=[(4,none)],body :=
 (zs (zr [0,1] [zc 4 (zI 0)])
 (zs (zs (zr [0,1,7,8] [zm 6 0,zn 7 6,zc 8 (zI 0)])
 (.block 0 (.loop (zs (zr [0,1,7,8,9] [zb 9 .lss 8 7])
 (zs (zC 9 .skip
 (.exit 0))
 (zs (.block 1 (zs (zr [0,1,5,7,8] [zm 10 8,zm 5 10])
 (zs (zr [0,1,5,7,8,16] [zm 11 1,zm 12 0,zm 13 5,zi 14 2 12 13,zL 15 2 14,zy 16 (.callv (.t 11) [.t 15])])
 (zC 16 (zs (zr [4] [zm 17 5,zm 4 17])
 .ret)
 .skip))))
 (zr [0,1,7,8] [zd 18 .add 8 (zI 1),zm 8 18])))))))
 (zs (zr [4] [zy 4 (.mov (.c (zI (-1))))])
 .ret))) }
def N524:ar:={ np:=1,nt:=6,res:=[(2,none)],body :=
 (zs (zr [0] [zc 2 (.bool false)])
 (zs (zr [2] [zm 3 0,zm 4 0,zb 5 .neq 3 4,zm 2 5])
 .ret)) }
def N539:ar:={ np:=4,nt:=199,res:=[(8,none)],body :=
 (zs (zr [1,2,3,4] [zo 4 0,zc 8 (.bool false)])
 (zs (zs (zr [1,2,3,4,25] [zk 24 153 [],zt 25 24])
 (zC 25 (zs (zr [8] [zc 8 (.bool false)])
 .ret)
 .skip))
 (zs (zs (zr [1,2,3,4,41] [zL 26 2 4,zk 27 572 [.t 26],zm 28 27,zg 28 false (zm 29 1),zg 28 false (zk 30 155 [.t 29]),zp 31 28 30,zm 32 31,zg 32 false (zm 33 2),zg 32 false (zn 34 33),zg 32 false (zd 35 .gtr 34 (zI 20)),zp 36 32 35,zm 37 36,zg 37 false (zm 38 3),zg 37 false (zy 39 (.lens (.t 38))),zg 37 false (zd 40 .gtr 39 (zI 60)),zp 41 37 40])
 (zC 41 (zs (zr [8] [zc 8 (.bool true)])
 .ret)
 .skip))
 (zs (zr [1,2,3,4,9,10] [zL 43 2 4,zm 44 1,zm 45 2,zm 46 3,zk 47 579 [.t 43,.t 44,.t 45,.t 46],zm 42 47,zx 48 0 42,zx 49 1 42,zm 9 48,zm 10 49])
 (zs (zs (zr [1,2,3,4,9,10,55] [zm 50 10,zd 51 .neq 50 (zI 0),zm 52 51,zg 52 true (zm 53 10),zg 52 true (zd 54 .neq 53 (zI 12)),zP 55 52 54])
 (zC 55 (zs (zr [8] [zm 56 9,zd 57 .eql 56 (zI 0),zm 8 57])
 .ret)
 .skip))
 (zs (zr [1,2,3,4,9,10,11,12] [zL 59 2 4,zm 60 3,zk 61 482 [.t 59,.t 60],zm 58 61,zx 62 0 58,zx 63 1 58,zm 11 62,zm 12 63])
 (zs (zs (zr [1,2,3,4,9,10,11,73] [zm 64 12,zd 65 .neq 64 (zI 0),zm 66 65,zg 66 false (zm 67 9),zg 66 false (zy 68 (.bin .lss (.t 67) (.c (zI (-4194304))))),zp 69 66 68,zm 70 69,zg 70 false (zm 71 9),zg 70 false (zd 72 .gtr 71 (zI 4194304)),zp 73 70 72])
 (zC 73 (zs (zr [8] [zc 8 (.bool false)])
 .ret)
 .skip))
 (zs (zr [1,2,3,4,9,10,11,13] [zm 74 9,zm 75 9,zd 76 .add 75 (zI 1),zy 77 (.bls 1 2 [zI 0] [] [(0,.t 74),(1,.t 76)]),zq 13 77])
 (zs (zs (zr [1,2,3,4,9,10,11,13,79] [zm 78 10,zd 79 .eql 78 (zI 12)])
 (zC 79 (zr [1,2,3,4,9,10,11,13] [zy 80 (.bls 1 1 [zI 0] [] [(0,(.c (zI (-4194304))))]),zq 13 80])
 .skip))
 (zs (zs (zr [1,2,3,4,9,10,11,81,82,83] [zq 81 13,zn 82 81,zc 83 (zI 0)])
 (.block 0 (.loop (zs (zr [1,2,3,4,9,10,11,81,82,83,84] [zb 84 .lss 83 82])
 (zs (zC 84 .skip
 (.exit 0))
 (zs (.block 1 (zs (zr [1,2,3,4,9,10,11,15,81,82,83] [zi 85 1 81 83,zl 86 1 85,zm 15 86])
 (zs (zs (zr [1,2,3,4,9,10,11,15,81,82,83,88] [zm 87 15,zd 88 .gtr 87 (zI 4194304)])
 (zC 88 (.exit 1)
 .skip))
 (zs (zr [1,2,3,4,9,10,11,15,16,17,81,82,83] [zL 90 2 4,zm 91 1,zm 92 2,zm 93 15,zm 94 15,zy 95 (.bld [zI 0,zI 0] [(0,1,.t 93),(1,1,.t 94)]),zk 96 573 [.t 90,.t 91,.t 92,.t 95],zm 89 96,zx 97 0 89,zx 98 1 89,zq 16 97,zm 17 98])
 (zs (zr [1,2,3,4,9,10,11,15,16,17,18,19,81,82,83] [zL 100 2 4,zm 101 16,zk 102 578 [.t 100,.t 101],zm 99 102,zx 103 0 99,zx 104 1 99,zq 18 103,zm 19 104])
 (zs (zr [1,2,3,4,9,10,11,15,16,17,18,19,21,22,81,82,83] [zL 106 2 4,zm 107 1,zm 108 2,zm 109 15,zm 110 15,zy 111 (.bld [zI 0,zI 0] [(0,1,.t 109),(1,1,.t 110)]),zk 112 574 [.t 106,.t 107,.t 108,.t 111],zm 105 112,zx 113 0 105,zx 114 1 105,zx 115 2 105,zq 20 113,zq 21 114,zm 22 115])
 (zs (zr [1,2,3,4,9,10,11,16,17,18,19,21,22,23,81,82,83] [zm 116 10,zd 117 .eql 116 (zI 12),zm 118 117,zg 118 false (zm 119 15),zg 118 false (zm 120 9),zg 118 false (zb 121 .gtr 119 120),zp 122 118 121,zm 23 122])
 (zs (.reg true [0,1,3,7,15,31,63,127,255,511,1023,2047,4095,2047,10239,26623,65535,131071,262143,524287,524287,2097151,524287,8388607,16777215,33554431,67108863,67108863,268435455,536870911,1073741823,2147483647,67108863,8589934591,17179869183,34359738367,68719476735,68719476735,274877906943,549755813887,1099511627775,68719476735,2267742732287,68719476735,15461882265599,33054068310015,68238440398847,68719476735,68719476735,422281184542719,985231137964031,2111131044806655,4501469323591679,9007199254740991,18014398509481983,36028797018963967,72057594037927935,72057594037927935,288230376151711743,576460752303423487,1152921504606846975,72057594037927935,2377900603251621887,72057594037927935,16212958658533785599,34659702732243337215,71553190879662440447,72057594037927935,72057594037927935,442793915363067166719,1033089725721772818431,2213681346439184121855,4720132697454469447679,9444732965739290427391,18889465931478580854783] [1,2,3,4,9,10,11,81,82,83,197] [zm 123 17,zd 124 .neq 123 (zI 0),zm 125 124,zg 125 false (zm 126 19),zg 125 false (zd 127 .neq 126 (zI 0)),zp 128 125 127,zm 129 128,zg 129 false (zm 130 22),zg 129 false (zd 131 .neq 130 (zI 0)),zp 132 129 131,zm 133 132,zg 133 false (zm 134 18),zg 133 false (zn 135 134),zg 133 false (zf 136 0 4),zg 133 false (zl 137 1 136),zg 133 false (zn 138 137),zg 133 false (zb 139 .neq 135 138),zp 140 133 139,zm 141 140,zg 141 false (zq 142 21),zg 141 false (zm 143 3),zg 141 false (zk 144 450 [.t 142,.t 143]),zg 141 false (zm 145 23),zg 141 false (zy 146 (.beq true [] (.t 144) (.t 145))),zp 147 141 146,zm 148 147,zg 148 false (zm 149 18),zg 148 false (zm 150 11),zg 148 false (zi 151 2 149 150),zg 148 false (zf 152 0 151),zg 148 false (zl 153 1 152),zg 148 false (zd 154 .lss 153 (zI 0)),zg 148 false (zm 155 23),zg 148 false (zy 156 (.beq true [] (.t 154) (.t 155))),zp 157 148 156,zm 158 157,zg 158 false (zm 159 18),zg 158 false (zm 160 11),zg 158 false (zi 161 2 159 160),zg 158 false (zf 162 0 161),zg 158 false (zl 163 1 162),zg 158 false (zf 164 0 4),zg 158 false (zl 165 1 164),zg 158 false (zm 166 11),zg 158 false (zi 167 9 165 166),zg 158 false (zf 168 5 167),zg 158 false (zl 169 1 168),zg 158 false (zm 170 16),zg 158 false (zm 171 11),zg 158 false (zi 172 2 170 171),zg 158 false (zf 173 1 172),zg 158 false (zl 174 1 173),zg 158 false (zb 175 .sub 169 174),zg 158 false (zb 176 .neq 163 175),zp 177 158 176,zm 178 177,zg 178 false (zq 179 18),zg 178 false (zm 180 11),zg 178 false (zi 181 2 179 180),zg 178 false (zf 182 1 181),zg 178 false (zl 183 1 182),zg 178 false (zf 184 0 4),zg 178 false (zl 185 1 184),zg 178 false (zm 186 11),zg 178 false (zi 187 9 185 186),zg 178 false (zf 188 5 187),zg 178 false (zl 189 1 188),zg 178 false (zq 190 16),zg 178 false (zm 191 11),zg 178 false (zi 192 2 190 191),zg 178 false (zf 193 0 192),zg 178 false (zl 194 1 193),zg 178 false (zb 195 .sub 189 194),zg 178 false (zb 196 .neq 183 195),zp 197 178 196])
 (zC 197 (zs (zr [8] [zc 8 (.bool false)])
 .ret)
 .skip)))))))))
 (zr [1,2,3,4,9,10,11,81,82,83] [zd 198 .add 83 (zI 1),zm 83 198])))))))
 (zs (zr [8] [zc 8 (.bool true)])
 .ret))))))))))) }
def N572:ar:={ np:=1,nt:=23,res:=[(2,none)],body :=
 (zs (zr [1] [zo 1 0,zc 2 (.bool false)])
 (zs (zr [2] [zf 3 0 1,zl 4 1 3,zn 5 4,zd 6 .gtr 5 (zI 14),zm 7 6,zg 7 false (zf 8 1 1),zg 7 false (zl 9 1 8),zg 7 false (zn 10 9),zg 7 false (zd 11 .gtr 10 (zI 16)),zp 12 7 11,zm 13 12,zg 13 false (zf 14 0 1),zg 13 false (zl 15 1 14),zg 13 false (zy 16 (.call 453 [.t 15,(.c (.fn 617 []))] [])),zp 17 13 16,zm 18 17,zg 18 false (zf 19 1 1),zg 18 false (zl 20 1 19),zg 18 false (zy 21 (.call 455 [.t 20,(.c (.fn 154 []))] [])),zp 22 18 21,zm 2 22])
 .ret)) }
def N573:ar:={ np:=4,nt:=48,res:=[(8,none),(9,none)],body :=
 (zs (zr [1,2,4,7] [zo 4 0,zo 7 3,zc 8 .nils,zc 9 (zI 0)])
 (zs (zr [4,10,11] [zL 17 2 4,zq 18 1,zq 19 2,zL 20 2 7,zy 21 (.callA 618 [.t 17,.t 18,.t 19,.t 20]),zm 16 21,zx 22 0 16,zx 23 1 16,zm 10 22,zm 11 23])
 (zs (zs (zr [4,10,11,25] [zm 24 11,zd 25 .neq 24 (zI 0)])
 (zC 25 (zs (zr [8,9] [zm 26 11,zc 8 .nils,zm 9 26])
 .ret)
 .skip))
 (zs (zr [4,10,12] [zy 12 (.nilo 2)])
 (zs (zs (zr [10,12,29,30] [zf 27 0 4,zl 28 1 27,zn 29 28,zc 30 (zI 0)])
 (.block 0 (.loop (zs (zr [10,12,29,30,31] [zb 31 .lss 30 29])
 (zs (zC 31 .skip
 (.exit 0))
 (zs (.block 1 (zs (zr [10,12,13,29,30] [zm 32 30,zm 13 32])
 (zs (zr [10,12,14,15,29,30] [zm 34 10,zm 35 13,zy 36 (.callL 619 (.t 34) [.t 35]),zm 33 36,zx 37 0 33,zx 38 1 33,zy 14 (.alc zA1),zw (.st 2 [] (.t 14) (.t 37)),zm 15 38])
 (zs (zs (zr [10,12,14,15,29,30,40] [zm 39 15,zd 40 .neq 39 (zI 0)])
 (zC 40 (zs (zr [8,9] [zm 41 15,zc 8 .nils,zm 9 41])
 .ret)
 .skip))
 (zr [10,12,29,30] [zm 42 12,zL 43 2 14,zy 44 (.bls 2 1 [zI 0,zI 0] [] [(0,.t 43)]),zy 45 (.app 2 16 false (.t 42) (.t 44)),zq 12 45])))))
 (zr [10,12,29,30] [zd 46 .add 30 (zI 1),zm 30 46])))))))
 (zs (zr [8,9] [zq 47 12,zq 8 47,zc 9 (zI 0)])
 .ret)))))) }
def N574:ar:={ np:=4,nt:=68,res:=[(8,none),(9,none),(10,none)],body :=
 (zs (zr [1,2,4,7] [zo 4 0,zo 7 3,zc 8 .nils,zc 9 .nils,zc 10 (zI 0)])
 (zs (zr [4,11,12] [zL 18 2 4,zq 19 1,zq 20 2,zL 21 2 7,zk 22 573 [.t 18,.t 19,.t 20,.t 21],zm 17 22,zx 23 0 17,zx 24 1 17,zq 11 23,zm 12 24])
 (zs (zs (zr [4,11,12,26] [zm 25 12,zd 26 .neq 25 (zI 0)])
 (zC 26 (zs (zr [8,9,10] [zm 27 12,zc 8 .nils,zc 9 .nils,zm 10 27])
 .ret)
 .skip))
 (zs (zr [4,11,13,14] [zy 13 (.nilo 1),zy 14 (.nilo 1)])
 (zs (zs (zr [11,13,14,29,30,31] [zf 28 0 4,zl 29 1 28,zn 30 29,zc 31 (zI 0)])
 (.block 0 (.loop (zs (zr [11,13,14,29,30,31,32] [zb 32 .lss 31 30])
 (zs (zC 32 .skip
 (.exit 0))
 (zs (.block 1 (zs (zr [11,13,14,15,16,29,30,31] [zm 33 31,zi 34 9 29 31,zL 35 9 34,zy 16 (.alc zA4),zm 15 33,zw (.st 9 [] (.t 16) (.t 35))])
 (zs (zs (zr [11,13,14,15,16,29,30,31,38] [zf 36 1 16,zl 37 1 36,zd 38 .eql 37 (zI 3)])
 (zC 38 (.exit 1)
 .skip))
 (zs (zs (.reg true [0,0,3,7,15,0,32,127] [11,13,14,15,16,29,30,31,46] [zm 39 11,zm 40 15,zi 41 2 39 40,zf 42 0 41,zl 43 1 42,zf 44 5 16,zl 45 1 44,zb 46 .gtr 43 45])
 (zC 46 (zr [11,13,14,15,16,29,30,31] [zm 47 13,zf 48 0 16,zl 49 1 48,zy 50 (.bls 1 1 [.str []] [] [(0,.t 49)]),zy 51 (.app 1 16 false (.t 47) (.t 50)),zq 13 51])
 .skip))
 (zs (.reg true [0,0,3,7,15,0,32,127] [11,13,14,16,29,30,31,59] [zm 52 11,zm 53 15,zi 54 2 52 53,zf 55 1 54,zl 56 1 55,zf 57 5 16,zl 58 1 57,zb 59 .gtr 56 58])
 (zC 59 (zr [11,13,14,29,30,31] [zm 60 14,zf 61 0 16,zl 62 1 61,zy 63 (.bls 1 1 [.str []] [] [(0,.t 62)]),zy 64 (.app 1 16 false (.t 60) (.t 63)),zq 14 64])
 .skip))))))
 (zr [11,13,14,29,30,31] [zd 65 .add 31 (zI 1),zm 31 65])))))))
 (zs (zr [8,9,10] [zq 66 13,zq 67 14,zq 8 66,zq 9 67,zc 10 (zI 0)])
 .ret)))))) }
def N578:ar:={ np:=2,nt:=57,res:=[(4,none),(5,none)],body :=
 (zs (zr [1,2] [zo 2 0,zc 4 .nils,zc 5 (zI 0)])
 (zs (.block 0 (zs (zr [1,2,9] [zL 10 2 2,zk 11 164 [.t 10],zt 12 11,zm 13 12,zg 13 false (zm 14 1),zg 13 false (zy 15 (.call 491 [.t 14,(.c (.fn 622 []))] [])),zp 16 13 15,zm 9 16])
 (zC 9 (zs (zr [4,5] [zc 4 .nils,zc 5 (zI 1)])
 .ret)
 (zs (zr [1,2,17] [zm 18 1,zn 19 18,zf 20 0 2,zl 21 1 20,zn 22 21,zb 23 .neq 19 22,zm 17 23])
 (zC 17 (zs (zr [4,5] [zc 4 .nils,zc 5 (zI 3)])
 .ret)
 (zs (zr [1,2,24] [zm 25 1,zy 26 (.call 491 [.t 25,(.c (.fn 623 []))] []),zm 24 26])
 (zC 24 (zs (zr [4,5] [zc 4 .nils,zc 5 (zI 2)])
 .ret)
 .skip)))))))
 (zs (zr [1,2,6] [zy 6 (.nilo 2)])
 (zs (zs (zr [1,6,28,29,30] [zf 27 0 2,zl 28 1 27,zn 29 28,zc 30 (zI 0)])
 (.block 1 (.loop (zs (zr [1,6,28,29,30,31] [zb 31 .lss 30 29])
 (zs (zC 31 .skip
 (.exit 1))
 (zs (.block 2 (zs (zr [1,6,7,8,28,29,30] [zm 32 30,zi 33 9 28 30,zL 34 9 33,zy 8 (.alc zA4),zm 7 32,zw (.st 9 [] (.t 8) (.t 34))])
 (.reg true [0,0,2,0,0,24,56,120,254,0,512,0,0,6144,14336,30720,65024,131070,262142,524287,1048575] [1,6,28,29,30] [zm 35 6,zf 36 5 8,zl 37 1 36,zm 38 1,zm 39 7,zi 40 2 38 39,zf 41 1 40,zl 42 1 41,zb 43 .sub 37 42,zf 44 5 8,zl 45 1 44,zm 46 1,zm 47 7,zi 48 2 46 47,zf 49 0 48,zl 50 1 49,zb 51 .sub 45 50,zy 52 (.bld [zI 0,zI 0] [(0,1,.t 43),(1,1,.t 51)]),zy 53 (.bls 2 1 [zI 0,zI 0] [] [(0,.t 52)]),zy 54 (.app 2 16 false (.t 35) (.t 53)),zq 6 54])))
 (zr [1,6,28,29,30] [zd 55 .add 30 (zI 1),zm 30 55])))))))
 (zs (zr [4,5] [zq 56 6,zq 4 56,zc 5 (zI 0)])
 .ret))))) }
def N579:ar:={ np:=4,nt:=64,res:=[(8,none),(9,none)],body :=
 (zs (zr [1,2,4,7] [zo 4 0,zo 7 3,zc 8 (zI 0),zc 9 (zI 0)])
 (zs (.reg true [0,0,0,0,15,31,63,63,0,383,1023] [4,7,10,11] [zL 18 2 4,zq 19 1,zq 20 2,zk 21 624 [(.c (zI (-4194304)))],zy 22 (.callA 618 [.t 18,.t 19,.t 20,.t 21]),zm 17 22,zx 23 0 17,zx 24 1 17,zy 10 (.alc [.nilp]),zw (.stF 1 (.t 10) (.t 23)),zm 11 24])
 (zs (zs (zr [4,7,10,11,26] [zm 25 11,zd 26 .neq 25 (zI 0)])
 (zC 26 (zs (zr [8,9] [zm 27 11,zc 8 (zI 0),zm 9 27])
 .ret)
 .skip))
 (zs (zr [4,10,12] [zf 28 0 4,zl 29 1 28,zy 30 (.mk 625 [.t 7]),zk 31 175 [.t 29,.t 30],zy 12 (.alc [zI 0]),zw (.stF 1 (.t 12) (.t 31))])
 (zs (.block 0 (zs (zr [4,10,12,32] [zl 33 1 12,zd 34 .lss 33 (zI 0),zm 32 34])
 (zC 32 (zs (zr [8,9] [zc 8 (zI 0),zc 9 (zI 9)])
 .ret)
 (zs (zr [4,10,12,35] [zf 36 0 4,zl 37 1 36,zl 38 1 12,zi 39 9 37 38,zf 40 1 39,zl 41 1 40,zd 42 .eql 41 (zI 3),zm 35 42])
 (zC 35 (zs (zr [8,9] [zc 8 (zI 0),zc 9 (zI 11)])
 .ret)
 .skip)))))
 (zs (zr [13] [zy 43 (.mkY 626 (.t 10) [.t 12,.t 4]),zm 13 43])
 (zs (zs (zr [13,46] [zm 44 13,zy 45 (.callY 626 (.t 44) [(.c (zI (-4194304)))]),zt 46 45])
 (zC 46 (zs (zr [8,9] [zc 8 (zI 0),zc 9 (zI 12)])
 .ret)
 .skip))
 (zs (zr [13,14,15] [zy 14 (.mov (.c (zI (-4194304)))),zc 15 (zI 4194304)])
 (zs (.block 1 (.loop (zs (zs (zr [13,14,15,49] [zm 47 14,zm 48 15,zb 49 .lss 47 48])
 (zC 49 .skip
 (.exit 1)))
 (.block 2 (zs (zr [13,14,15,16] [zm 50 14,zm 51 15,zm 52 14,zb 53 .sub 51 52,zd 54 .add 53 (zI 1),zd 55 .quo 54 (zI 2),zb 56 .add 50 55,zm 16 56])
 (zs (zr [13,14,15,16,59] [zm 57 13,zm 58 16,zy 59 (.callY 626 (.t 57) [.t 58])])
 (zC 59 (zr [13,14,15] [zm 60 16,zm 14 60])
 (zr [13,14,15] [zm 61 16,zd 62 .sub 61 (zI 1),zm 15 62]))))))))
 (zs (zr [8,9] [zm 63 14,zm 8 63,zc 9 (zI 0)])
 .ret)))))))))) }
def N617:ar:={ np:=1,nt:=13,res:=[(2,none)],body :=
 (zs (zr [1] [zo 1 0,zc 2 (.bool false)])
 (zs (zr [2] [zf 3 6 1,zl 4 1 3,zn 5 4,zd 6 .gtr 5 (zI 20),zm 7 6,zg 7 false (zf 8 0 1),zg 7 false (zl 9 1 8),zg 7 false (zy 10 (.lens (.t 9))),zg 7 false (zd 11 .gtr 10 (zI 60)),zp 12 7 11,zm 2 12])
 .ret)) }
def N618:ar:={ np:=4,nt:=212,res:=[(8,none),(9,none)],body :=
 (zs (zr [1,2,4,7] [zo 4 0,zo 7 3,zc 8 .nilp,zc 9 (zI 0)])
 (zs (.block 0 (zs (zr [1,2,4,7,25] [zL 26 2 4,zk 27 433 [.t 26],zt 28 27,zm 29 28,zg 29 false (zm 30 1),zg 29 false (zk 31 44 [.t 30]),zg 29 false (zt 32 31),zp 33 29 32,zm 34 33,zg 34 false (zL 35 2 7),zg 34 false (zk 36 493 [.t 35]),zg 34 false (zt 37 36),zp 38 34 37,zm 39 38,zg 39 false (zm 40 2),zg 39 false (zy 41 (.call 491 [.t 40,(.c (.fn 641 []))] [])),zp 42 39 41,zm 25 42])
 (zC 25 (zs (zr [8,9] [zc 8 .nilp,zc 9 (zI 1)])
 .ret)
 (zs (zr [1,2,4,7,43] [zm 44 2,zn 45 44,zf 46 0 4,zl 47 1 46,zn 48 47,zb 49 .neq 45 48,zm 43 49])
 (zC 43 (zs (zr [8,9] [zc 8 .nilp,zc 9 (zI 3)])
 .ret)
 (zs (zr [1,2,4,7,50] [zm 51 2,zy 52 (.call 491 [.t 51,(.c (.fn 642 []))] []),zm 53 52,zg 53 false (zf 54 0 7),zg 53 false (zl 55 1 54),zg 53 false (zy 56 (.bin .lss (.t 55) (.c (zI (-4194304))))),zp 57 53 56,zm 58 57,zg 58 false (zf 59 1 7),zg 58 false (zl 60 1 59),zg 58 false (zd 61 .gtr 60 (zI 4194304)),zp 62 58 61,zm 50 62])
 (zC 50 (zs (zr [8,9] [zc 8 .nilp,zc 9 (zI 2)])
 .ret)
 .skip)))))))
 (zs (.reg true [0,0,0,0,8,24,60,0,128,384,896,2047,4095,8191] [1,2,4,10] [zL 63 2 4,zL 64 2 7,zy 65 (.blsF 1 1 [zI 0] [(0,(.c (zI (-1))))]),zf 66 0 4,zl 67 1 66,zn 68 67,zy 69 (.callF 315 [.t 65,.t 68]),zf 70 0 4,zl 71 1 70,zn 72 71,zy 73 (.mks 1 8 [.nilp] (.t 72) (.t 72)),zy 74 (.bld [.nils,.nils,.nils,.nils,.nils,.nils,zI 0,zI 0,.nils] [(0,2,.t 63),(6,2,.t 64),(4,1,.t 69),(8,1,.t 73)]),zy 75 (.box [0,0,0,5,0,1,0,0,0] (.t 74)),zm 10 75])
 (zs (zs (zr [1,2,4,10,77,78,79] [zf 76 1 4,zl 77 1 76,zn 78 77,zc 79 (zI 0)])
 (.block 1 (.loop (zs (zr [1,2,4,10,77,78,79,80] [zb 80 .lss 79 78])
 (zs (zC 80 .skip
 (.exit 1))
 (zs (.block 2 (zs (zr [1,2,4,10,12,77,78,79] [zi 81 11 77 79,zL 82 11 81,zy 12 (.alc zA2),zw (.st 11 [] (.t 12) (.t 82))])
 (zs (zr [1,2,4,10,13,77,78,79] [zm 83 1,zy 84 (.mk 643 [.t 12]),zk 85 52 [.t 83,.t 84],zm 13 85])
 (zs (zs (zr [1,2,4,10,13,77,78,79,87] [zm 86 13,zd 87 .lss 86 (zI 0)])
 (zC 87 (zs (zr [8,9] [zc 8 .nilp,zc 9 (zI 9)])
 .ret)
 .skip))
 (.reg true [0,0,2,6,14,0,0,96,224,480,1022,2047,4095,8191] [1,2,4,10,77,78,79] [zm 88 10,zm 89 10,zy 90 (.nck (.t 89)),zf 91 3 90,zl 92 1 91,zm 93 1,zm 94 13,zi 95 5 93 94,zL 96 5 95,zy 97 (.bls 5 1 [.str [],zI 0,zI 0,.own 2 [],.own 2 []] [] [(0,.t 96)]),zy 98 (.app 5 80 true (.t 92) (.t 97)),zy 99 (.nck (.t 88)),zf 100 3 99,zw (.st 1 [] (.t 100) (.t 98))])))))
 (zr [1,2,4,10,77,78,79] [zd 101 .add 79 (zI 1),zm 79 101])))))))
 (zs (zs (zr [2,4,10,104] [zf 102 1 4,zl 103 1 102,zy 104 (.call 455 [.t 103,(.c (.fn 644 []))] [])])
 (zC 104 (zs (zr [8,9] [zc 8 .nilp,zc 9 (zI 23)])
 .ret)
 .skip))
 (zs (zr [2,4,10,14,15] [zL 106 2 4,zk 107 471 [.t 106],zm 105 107,zx 108 0 105,zx 109 1 105,zq 14 108,zm 15 109])
 (zs (zs (zr [2,4,10,14,15,111] [zm 110 15,zd 111 .neq 110 (zI 0)])
 (zC 111 (zs (zr [8,9] [zm 112 15,zc 8 .nilp,zm 9 112])
 .ret)
 .skip))
 (zs (zs (zr [2,4,10,113,114,115] [zq 113 14,zn 114 113,zc 115 (zI 0)])
 (.block 3 (.loop (zs (zr [2,4,10,113,114,115,116] [zb 116 .lss 115 114])
 (zs (zC 116 .skip
 (.exit 3))
 (zs (.block 4 (zs (zr [2,4,10,16,17,113,114,115] [zm 117 115,zi 118 2 113 115,zL 119 2 118,zy 17 (.alc zA1),zm 16 117,zw (.st 2 [] (.t 17) (.t 119))])
 (zs (.reg true [0,1,3,7,0,16,0,127,255] [2,4,10,17,113,114,115] [zm 120 10,zy 121 (.nck (.t 120)),zf 122 4 121,zl 123 1 122,zy 124 (.iadA 2 1 (.t 17) (.c (zI 0))),zl 125 1 124,zm 126 16,zi 127 1 123 125,zw (.st 1 [] (.t 127) (.t 126))])
 (.reg true [0,0,2,6,14,0,32,96,254,511,1023,2047] [2,4,10,113,114,115] [zm 128 10,zm 129 10,zy 130 (.nck (.t 129)),zf 131 5 130,zl 132 1 131,zy 133 (.iadA 2 1 (.t 17) (.c (zI 1))),zl 134 1 133,zy 135 (.bls 1 1 [zI 0] [] [(0,.t 134)]),zy 136 (.app 1 8 false (.t 132) (.t 135)),zy 137 (.nck (.t 128)),zf 138 5 137,zw (.st 1 [] (.t 138) (.t 136))]))))
 (zr [2,4,10,113,114,115] [zd 139 .add 115 (zI 1),zm 115 139])))))))
 (zs (zs (zr [2,4,10,141,142,143] [zf 140 0 4,zl 141 1 140,zn 142 141,zc 143 (zI 0)])
 (.block 5 (.loop (zs (zr [2,4,10,141,142,143,144] [zb 144 .lss 143 142])
 (zs (zC 144 .skip
 (.exit 5))
 (zs (.block 6 (zs (zr [2,4,10,18,19,141,142,143] [zm 145 143,zi 146 9 141 143,zL 147 9 146,zy 19 (.alc zA4),zm 18 145,zw (.st 9 [] (.t 19) (.t 147))])
 (zs (zr [2,4,10,141,142,143,160] [zf 148 1 19,zl 149 1 148,zd 150 .neq 149 (zI 3),zm 151 150,zg 151 true (zm 152 10),zg 151 true (zy 153 (.nck (.t 152))),zg 151 true (zf 154 4 153),zg 151 true (zl 155 1 154),zg 151 true (zm 156 18),zg 151 true (zi 157 1 155 156),zg 151 true (zl 158 1 157),zg 151 true (zd 159 .lss 158 (zI 0)),zP 160 151 159])
 (zC 160 (zs (zr [8,9] [zc 8 .nilp,zc 9 (zI 24)])
 .ret)
 .skip))))
 (zr [2,4,10,141,142,143] [zd 161 .add 143 (zI 1),zm 143 161])))))))
 (zs (zs (zr [4,10,15] [zm 163 10,zL 164 2 4,zq 165 2,zk 166 428 [.t 164,.t 165],zm 162 166,zx 167 0 162,zx 168 1 162,zy 169 (.nck (.t 163)),zf 170 2 169,zw (.st 1 [] (.t 170) (.t 167)),zm 15 168])
 (zs (zr [4,10,15,172] [zm 171 15,zd 172 .neq 171 (zI 0)])
 (zC 172 (zs (zr [8,9] [zm 173 15,zc 8 .nilp,zm 9 173])
 .ret)
 .skip)))
 (zs (zr [4,10,20] [zc 20 (zI 0)])
 (zs (zs (zr [10,20,175,176,177] [zf 174 1 4,zl 175 1 174,zn 176 175,zc 177 (zI 0)])
 (.block 7 (.loop (zs (zr [10,20,175,176,177,178] [zb 178 .lss 177 176])
 (zs (zC 178 .skip
 (.exit 7))
 (zs (.block 8 (zs (zr [10,20,21,22,175,176,177] [zm 179 177,zi 180 11 175 177,zL 181 11 180,zy 22 (.alc zA2),zm 21 179,zw (.st 11 [] (.t 22) (.t 181))])
 (zs (.reg true [0,0,2,6,14,0,62,126,0,256,768,1792,0,7936,16128,32512,65535,131071,262143,262143,524287,2097151] [10,20,24,175,176,177] [zL 183 11 22,zm 184 10,zy 185 (.nck (.t 184)),zf 186 3 185,zl 187 1 186,zm 188 21,zi 189 5 187 188,zL 190 5 189,zm 191 10,zy 192 (.nck (.t 191)),zf 193 2 192,zl 194 1 193,zm 195 21,zi 196 2 194 195,zf 197 1 196,zl 198 1 197,zk 199 163 [.t 183,.t 190,.t 198],zm 182 199,zx 200 0 182,zx 201 1 182,zm 23 200,zm 24 201])
 (zs (zr [10,20,24,175,176,177,202] [zm 202 24])
 (.block 9 (zs (zr [10,20,24,175,176,177,202,203] [zd 204 .eql 202 (zI 16),zm 203 204])
 (zC 203 (zs (zr [8,9] [zm 205 24,zc 8 .nilp,zm 9 205])
 .ret)
 (zs (zr [10,20,24,175,176,177,206] [zd 207 .eql 202 (zI 5),zm 206 207])
 (zC 206 (zr [10,20,175,176,177] [zm 208 24,zm 20 208])
 .skip)))))))))
 (zr [10,20,175,176,177] [zd 209 .add 177 (zI 1),zm 177 209])))))))
 (zs (zr [8,9] [zm 210 10,zm 211 20,zm 8 210,zm 9 211])
 .ret))))))))))))) }
def N619:ar:={ np:=2,nt:=149,res:=[(4,some (2,true)),(5,none)],body :=
 (zs (zr [0,1,4] [zy 4 (.alc zA1),zc 5 (zI 0)])
 (zs (zs (zr [0,1,4,20] [zm 13 0,zy 14 (.nck (.t 13)),zf 15 8 14,zl 16 1 15,zm 17 1,zi 18 1 16 17,zl 19 1 18,zy 20 (.beq true [8] (.t 19) (.c .nilp))])
 (zC 20 (zs (zr [0,4,5] [zm 21 0,zy 22 (.nck (.t 21)),zf 23 8 22,zl 24 1 23,zm 25 1,zi 26 1 24 25,zl 27 1 26,zy 28 (.nck (.t 27)),zL 29 2 28,zw (.st 2 [] (.t 4) (.t 29)),zc 5 (zI 0)])
 .ret)
 .skip))
 (zs (zr [0,1,4,6] [zy 6 (.alc zA1)])
 (zs (zs (zr [0,1,4,6,7] [zm 30 0,zy 31 (.nck (.t 30)),zf 32 0 31,zf 33 0 32,zl 34 1 33,zm 35 1,zi 36 9 34 35,zL 37 9 36,zy 7 (.alc zA4),zw (.st 9 [] (.t 7) (.t 37))])
 (zs (zr [0,1,4,6,7,40] [zf 38 1 7,zl 39 1 38,zd 40 .eql 39 (zI 3)])
 (zC 40 (.reg true [0,1,0,4,12,28,60,127,0,256,0,1024,3072,7168,15360,32512,65535,131071] [0,1,4,6] [zf 41 4 7,zl 42 1 41,zm 43 0,zy 44 (.nck (.t 43)),zf 45 6 44,zf 46 0 45,zl 47 1 46,zy 48 (.mx (.t 42) (.t 47)),zf 49 4 7,zl 50 1 49,zm 51 0,zy 52 (.nck (.t 51)),zf 53 6 52,zf 54 1 53,zl 55 1 54,zy 56 (.mx (.t 50) (.t 55)),zy 57 (.bld [zI 0,zI 0] [(0,1,.t 48),(1,1,.t 56)]),zw (.st 2 [] (.t 6) (.t 57))])
 (zs (zr [0,1,4,6,8] [zm 58 0,zy 59 (.nck (.t 58)),zf 60 4 59,zl 61 1 60,zm 62 1,zi 63 1 61 62,zl 64 1 63,zm 8 64])
 (zs (zr [0,1,4,6,8,9,10] [zm 66 0,zm 67 0,zy 68 (.nck (.t 67)),zf 69 5 68,zl 70 1 69,zm 71 8,zi 72 1 70 71,zl 73 1 72,zy 74 (.callL 619 (.t 66) [.t 73]),zm 65 74,zx 75 0 65,zx 76 1 65,zy 9 (.alc zA1),zw (.st 2 [] (.t 9) (.t 75)),zm 10 76])
 (zs (zs (zr [0,1,4,6,8,9,10,78] [zm 77 10,zd 78 .neq 77 (zI 0)])
 (zC 78 (zs (zr [0,4,5] [zy 79 (.bld [zI 0,zI 0] []),zm 80 10,zw (.st 2 [] (.t 4) (.t 79)),zm 5 80])
 .ret)
 .skip))
 (zs (.reg true [0,1,3,7,0,31,63,127,0,256,0,2047,0,4096,12288,28672,0,126976,258048,520192,0,1048576,0,8384512,16777215,33554431,0] [0,1,4,6,8,105,106,107] [zm 81 0,zy 82 (.nck (.t 81)),zf 83 2 82,zl 84 1 83,zm 85 8,zi 86 2 84 85,zf 87 0 86,zl 88 1 87,zf 89 0 9,zl 90 1 89,zf 91 0 6,zy 92 (.bld [zI 0,zI 0,.nilp] [(0,1,.t 88),(1,1,.t 90),(2,1,.t 91)]),zm 93 0,zy 94 (.nck (.t 93)),zf 95 2 94,zl 96 1 95,zm 97 8,zi 98 2 96 97,zf 99 1 98,zl 100 1 99,zf 101 1 9,zl 102 1 101,zf 103 1 6,zy 104 (.bld [zI 0,zI 0,.nilp] [(0,1,.t 100),(1,1,.t 102),(2,1,.t 103)]),zy 105 (.blsX 3 2 [zI 0,zI 0,.nilp] [(0,.t 92),(1,.t 104)]),zn 106 105,zc 107 (zI 0)])
 (.block 0 (.loop (zs (zr [0,1,4,6,8,105,106,107,108] [zb 108 .lss 107 106])
 (zs (zC 108 .skip
 (.exit 0))
 (zs (.block 1 (zs (zr [0,1,4,6,8,12,105,106,107] [zi 109 3 105 107,zL 110 3 109,zy 12 (.alc [zI 0,zI 0,.nilp]),zw (.stF 3 (.t 12) (.t 110))])
 (zs (.reg true [0,1,0,4,12,28,60,0,252,508,0,1024,3072,7168,0,31744,64512,0,131072,0,524288,2097148,4194300,8388604,8388604,16777215,50331647,134217727] [0,1,4,6,8,10,105,106,107] [zf 112 2 12,zl 113 1 112,zm 114 0,zy 115 (.nck (.t 114)),zf 116 0 115,zf 117 1 116,zl 118 1 117,zm 119 8,zi 120 11 118 119,zL 121 11 120,zm 122 0,zy 123 (.nck (.t 122)),zf 124 3 123,zl 125 1 124,zm 126 8,zi 127 5 125 126,zL 128 5 127,zf 129 0 12,zl 130 1 129,zf 131 1 12,zl 132 1 131,zk 133 162 [.t 121,.t 128,.t 130,.t 132],zm 111 133,zx 134 0 111,zx 135 1 111,zy 136 (.nck (.t 113)),zw (.st 1 [] (.t 136) (.t 134)),zm 10 135])
 (zs (zr [0,1,4,6,8,10,105,106,107,138] [zm 137 10,zd 138 .neq 137 (zI 0)])
 (zC 138 (zs (zr [0,4,5] [zy 139 (.bld [zI 0,zI 0] []),zm 140 10,zw (.st 2 [] (.t 4) (.t 139)),zm 5 140])
 .ret)
 .skip)))))
 (zr [0,1,4,6,8,105,106,107] [zd 141 .add 107 (zI 1),zm 107 141])))))))))))))
 (zs (zr [0,4,6] [zm 142 0,zy 143 (.nck (.t 142)),zf 144 8 143,zl 145 1 144,zm 146 1,zi 147 1 145 146,zw (.stP (.t 147) (.t 6))])
 (zs (zr [0,4,5] [zL 148 2 6,zw (.st 2 [] (.t 4) (.t 148)),zc 5 (zI 0)])
 .ret)))))) }
def N622:ar:={ np:=1,nt:=6,res:=[(2,none)],body :=
 (zs (zr [1] [zo 1 0,zc 2 (.bool false)])
 (zs (zr [2] [zL 3 2 1,zk 4 493 [.t 3],zt 5 4,zm 2 5])
 .ret)) }
def N623:ar:={ np:=1,nt:=11,res:=[(2,none)],body :=
 (zs (zr [1] [zo 1 0,zc 2 (.bool false)])
 (zs (zr [2] [zf 3 0 1,zl 4 1 3,zy 5 (.bin .lss (.t 4) (.c (zI (-4194304)))),zm 6 5,zg 6 false (zf 7 1 1),zg 6 false (zl 8 1 7),zg 6 false (zd 9 .gtr 8 (zI 1099511627776)),zp 10 6 9,zm 2 10])
 .ret)) }
def N624:ar:={ np:=1,nt:=6,res:=[(2,some (2,true))],body :=
 (zs (zr [0,2] [zy 2 (.alc zA1)])
 (zs (zr [2] [zm 3 0,zm 4 0,zy 5 (.bld [zI 0,zI 0] [(0,1,.t 3),(1,1,.t 4)]),zw (.st 2 [] (.t 2) (.t 5))])
 .ret)) }
def N625:ar:={ np:=2,nt:=8,res:=[(3,none)],body :=
 (zs (zr [1,2] [zo 2 0,zc 3 (.bool false)])
 (zs (zr [3] [zf 4 0 2,zl 5 1 4,zl 6 1 1,zb 7 .eql 5 6,zm 3 7])
 .ret)) }
def N626:ar:={ np:=4,nt:=36,res:=[(5,none)],body :=
 (zs (zr [0,1,2,3] [zc 5 (.bool false)])
 (zs (.reg true [0,0,2,7,15,31] [1,2,3] [zl 8 1 1,zm 9 0,zk 10 624 [.t 9],zy 11 (.nck (.t 8)),zf 12 6 11,zw (.st 2 [] (.t 12) (.t 10))])
 (zs (zr [1,2,3] [zl 13 1 1,zy 14 (.nck (.t 13)),zf 15 8 14,zl 16 1 15,zw (.clr [.nilp] (.t 16))])
 (zs (zr [1,2,3,6,7] [zl 18 1 1,zl 19 1 2,zy 20 (.callL 619 (.t 18) [.t 19]),zm 17 20,zx 21 0 17,zx 22 1 17,zy 6 (.alc zA1),zw (.st 2 [] (.t 6) (.t 21)),zm 7 22])
 (zs (.reg true [0,1,3,7,15,7,39,7,231,487,999,2047,4095,8191] [1,5] [zm 23 7,zd 24 .eql 23 (zI 0),zm 25 24,zg 25 true (zf 26 1 6),zg 25 true (zl 27 1 26),zg 25 true (zf 28 0 3),zg 25 true (zl 29 1 28),zg 25 true (zl 30 1 2),zg 25 true (zi 31 9 29 30),zg 25 true (zf 32 5 31),zg 25 true (zl 33 1 32),zg 25 true (zb 34 .leq 27 33),zP 35 25 34,zm 5 35])
 .ret))))) }
def N641:ar:={ np:=1,nt:=6,res:=[(2,none)],body :=
 (zs (zr [1] [zo 1 0,zc 2 (.bool false)])
 (zs (zr [2] [zL 3 2 1,zk 4 493 [.t 3],zt 5 4,zm 2 5])
 .ret)) }
def N642:ar:={ np:=1,nt:=11,res:=[(2,none)],body :=
 (zs (zr [1] [zo 1 0,zc 2 (.bool false)])
 (zs (zr [2] [zf 3 0 1,zl 4 1 3,zd 5 .lss 4 (zI 0),zm 6 5,zg 6 false (zf 7 1 1),zg 6 false (zl 8 1 7),zg 6 false (zd 9 .gtr 8 (zI 1099511627776)),zp 10 6 9,zm 2 10])
 .ret)) }
def N643:ar:={ np:=2,nt:=9,res:=[(3,none)],body :=
 (zs (zr [1,2] [zo 2 0,zc 3 (.bool false)])
 (zs (zr [3] [zf 4 0 2,zl 5 1 4,zf 6 7 1,zl 7 1 6,zb 8 .eql 5 7,zm 3 8])
 .ret)) }
def N644:ar:={ np:=1,nt:=8,res:=[(2,none)],body :=
 (zs (zr [1] [zo 1 0,zc 2 (.bool false)])
 (zs (zr [2] [zf 3 5 1,zl 4 1 3,zf 5 6 1,zl 6 1 5,zb 7 .lss 4 6,zm 2 7])
 .ret)) }
def prog:Nat->Option ar
 | 11=>some N11
 | 35=>some N35
 | 44=>some N44
 | 45=>some N45
 | 47=>some N47
 | 51=>some N51
 | 52=>some N52
 | 53=>some N53
 | 58=>some N58
 | 59=>some N59
 | 60=>some N60
 | 61=>some N61
 | 70=>some N70
 | 71=>some N71
 | 72=>some N72
 | 73=>some N73
 | 74=>some N74
 | 75=>some N75
 | 76=>some N76
 | 77=>some N77
 | 88=>some N88
 | 89=>some N89
 | 90=>some N90
 | 91=>some N91
 | 92=>some N92
 | 96=>some N96
 | 97=>some N97
 | 98=>some N98
 | 99=>some N99
 | 100=>some N100
 | 101=>some N101
 | 102=>some N102
 | 103=>some N103
 | 104=>some N104
 | 105=>some N105
 | 106=>some N106
 | 107=>some N107
 | 108=>some N108
 | 109=>some N109
 | 110=>some N110
 | 111=>some N111
 | 112=>some N112
 | 113=>some N113
 | 153=>some N153
 | 154=>some N154
 | 155=>some N155
 | 156=>some N156
 | 157=>some N157
 | 158=>some N158
 | 159=>some N159
 | 160=>some N160
 | 161=>some N161
 | 162=>some N162
 | 163=>some N163
 | 164=>some N164
 | 165=>some N165
 | 166=>some N166
 | 167=>some N167
 | 168=>some N168
 | 169=>some N169
 | 170=>some N170
 | 171=>some N171
 | 172=>some N172
 | 173=>some N173
 | 174=>some N174
 | 175=>some N175
 | 176=>some N176
 | 177=>some N177
 | 178=>some N178
 | 179=>some N179
 | 180=>some N180
 | 181=>some N181
 | 182=>some N182
 | 183=>some N183
 | 184=>some N184
 | 185=>some N185
 | 299=>some N299
 | 315=>some N315
 | 333=>some N333
 | 339=>some N339
 | 411=>some N411
 | 428=>some N428
 | 433=>some N433
 | 450=>some N450
 | 453=>some N453
 | 455=>some N455
 | 460=>some N460
 | 461=>some N461
 | 470=>some N470
 | 471=>some N471
 | 472=>some N472
 | 482=>some N482
 | 485=>some N485
 | 491=>some N491
 | 492=>some N492
 | 493=>some N493
 | 494=>some N494
 | 495=>some N495
 | 496=>some N496
 | 497=>some N497
 | 498=>some N498
 | 499=>some N499
 | 503=>some N503
 | 504=>some N504
 | 509=>some N509
 | 510=>some N510
 | 511=>some N511
 | 514=>some N514
 | 515=>some N515
 | 516=>some N516
 | 517=>some N517
 | 518=>some N518
 | 522=>some N522
 | 524=>some N524
 | 539=>some N539
 | 572=>some N572
 | 573=>some N573
 | 574=>some N574
 | 578=>some N578
 | 579=>some N579
 | 617=>some N617
 | 618=>some N618
 | 619=>some N619
 | 622=>some N622
 | 623=>some N623
 | 624=>some N624
 | 625=>some N625
 | 626=>some N626
 | 641=>some N641
 | 642=>some N642
 | 643=>some N643
 | 644=>some N644
 | _=>none
end Go.Gv
