/-
  Texts of the proof: GvP.
-/
import Derived.Test.YtjlibcgkjgglkaaGreatDoorX4
set_option linter.all false
set_option maxRecDepth 4000
namespace Go.Gv
@[simp] def zr(k:List Nat)(o:List ay):cv:=.reg false [] k o
@[simp] def zI(n:Int):D:=.int .i64 n
@[simp] def zC(t:Nat)(a b:cv):cv:=.cond (.t t) a b
@[simp] def zs(a b:cv):cv:=.seq a b
@[simp] def zy(t:Nat)(o:NOp):ay:=⟨some t,o,none⟩
@[simp] def zw(o:NOp):ay:=⟨none,o,none⟩
@[simp] def zp(a c x:Nat):ay:=⟨some a,.pick (.t c) (.c (.bool true)) (.t x),none⟩
@[simp] def ze(c:Nat)(s:ay):ay:=⟨s.dst,s.op,some (c,false)⟩
@[simp] def zh(c:Nat)(s:ay):ay:=⟨s.dst,s.op,some (c,true)⟩
@[simp] def zF(a:Nat):ay:=⟨some a,.mov (.c (.bool false)),none⟩
@[simp] def z0(a:Nat):ay:=⟨some a,.mov (.c (.int .i64 0)),none⟩
@[simp] def zS(k:List Nat)(o:List ay)(b:cv):cv:=.seq (.reg false [] k o) b
@[simp] def zP(a c x:Nat):ay:=⟨some a,.pick (.t c) (.t x) (.c (.bool false)),none⟩
@[simp] def zA1:List D:=[zI 0,zI 0]
@[simp] def zA2:List D:=[zI 0,zI 0,.own 1 []]
@[simp] def zA3:List D:=[zI 0,zI 0,zI 0]
@[simp] def zA4:List D:=[.own 1 [],.own 1 [],.own 1 [],.own 1 []]
@[simp] def zA5:List D:=[.str [],zI 0,zI 0,zI 0,zI 0,zI 0,.own 2 [],.bool false,zI 0]
@[simp] def zA6:List D:=[.str [],.str [],.str [],zI 0,zI 0,zI 0,zI 0,.str [],zI 0,zI 0,.own 2 []]
@[simp] def zA7:List D:=[.int .u64 0,.int .u64 0,.bool false]
@[simp] def zA8:List D:=[.int .u64 0,.int .u64 0]
@[simp] def zA9:List D:=[zI 0,zI 0,zI 0,zI 0]
@[simp] def EX:List D:=[zI 0,zI 0,zI 0,zI 0,zI 0,zI 0]
@[simp] def MO:List D:=[.own 1 [],.own 1 [],.own 1 [],.own 1 [],.own 1 [],.own 1 [],.own 1 []]
@[simp] def zm(a b:Nat):ay:=⟨some a,.mov (.t b),none⟩
@[simp] def zc(a:Nat)(d:D):ay:=⟨some a,.mov (.c d),none⟩
@[simp] def zf(a i b:Nat):ay:=⟨some a,.fad i (.t b),none⟩
@[simp] def zl(a n b:Nat):ay:=⟨some a,.ld n false (.t b),none⟩
@[simp] def zL(a n b:Nat):ay:=⟨some a,.ld n true (.t b),none⟩
@[simp] def zx(a i b:Nat):ay:=⟨some a,.ext i (.t b),none⟩
@[simp] def zn(a b:Nat):ay:=⟨some a,.len (.t b),none⟩
@[simp] def zq(a b:Nat):ay:=⟨some a,.asg (.t b),none⟩
@[simp] def zi(a n b c:Nat):ay:=⟨some a,.iadS n (.t b) (.t c),none⟩
@[simp] def zo(a b:Nat):ay:=⟨some a,.boxF (.t b),none⟩
@[simp] def zt(a b:Nat):ay:=⟨some a,.un .not (.t b),none⟩
@[simp] def zk(a g:Nat)(xs:List Opd):ay:=⟨some a,.call g xs [],none⟩
@[simp] def zb(a:Nat)(op:BinOp)(b c:Nat):ay:=⟨some a,.bin op (.t b) (.t c),none⟩
@[simp] def zd(a:Nat)(op:BinOp)(b:Nat)(d:D):ay:=⟨some a,.bin op (.t b) (.c d),none⟩
@[simp] def zg(c:Nat)(b:Bool)(s:ay):ay:=⟨s.dst,s.op,some (c,b)⟩
def N11:al:={ np:=2,nt:=9,res:=[(4,none)],body :=
 (zS [0,1] [zF 4]
 (zS [4] [zq 5 0,zm 6 1,zk 7 35 [.t 5,.t 6],zd 8 .geq 7 (zI 0),zm 4 8]
 .ret)) }
def N19:al:={ np:=2,nt:=26,res:=[(4,none)],body :=
 (zS [0,1] [zF 4]
 (zs (zS [0,1,10] [zm 6 0,zn 7 6,zm 8 1,zn 9 8,zb 10 .neq 7 9]
 (zC 10 (zS [4] [zF 4]
 .ret)
 .skip))
 (zs (zS [0,1,12,13] [zm 11 0,zn 12 11,z0 13]
 (.block 0 (.loop (zS [0,1,12,13,14] [zb 14 .lss 13 12]
 (zs (zC 14 .skip
 (.exit 0))
 (zs (.block 1 (zS [0,1,5,12,13] [zm 15 13,zm 5 15]
 (zs (.reg true [0,0,3,7,0,0,48,112,255] [0,1,12,13,24] [zm 16 0,zm 17 5,zi 18 1 16 17,zl 19 1 18,zm 20 1,zm 21 5,zi 22 1 20 21,zl 23 1 22,zb 24 .neq 19 23])
 (zC 24 (zS [4] [zF 4]
 .ret)
 .skip))))
 (zr [0,1,12,13] [zd 25 .add 13 (zI 1),zm 13 25])))))))
 (zS [4] [zc 4 (.bool true)]
 .ret)))) }
def N35:al:={ np:=2,nt:=19,res:=[(4,none)],body :=
 (zS [0,1] [z0 4]
 (zs (zS [0,1,7,8] [zm 6 0,zn 7 6,z0 8]
 (.block 0 (.loop (zS [0,1,7,8,9] [zb 9 .lss 8 7]
 (zs (zC 9 .skip
 (.exit 0))
 (zs (.block 1 (zS [0,1,5,7,8] [zm 10 8,zm 5 10]
 (zS [0,1,5,7,8,16] [zm 11 1,zm 12 0,zm 13 5,zi 14 1 12 13,zl 15 1 14,zy 16 (.callv (.t 11) [.t 15])]
 (zC 16 (zS [4] [zm 17 5,zm 4 17]
 .ret)
 .skip))))
 (zr [0,1,7,8] [zd 18 .add 8 (zI 1),zm 8 18])))))))
 (zS [4] [zy 4 (.mov (.c (zI (-1))))]
 .ret))) }
def N42:al:={ np:=1,nt:=8,res:=[(2,none)],body :=
 (zS [0] [zc 2 .nils]
 (zs (zS [0,4] [zm 3 0,zy 4 (.beq false [9] (.t 3) (.c .nils))]
 (zC 4 (zS [2] [zc 2 .nils]
 .ret)
 .skip))
 (zS [2] [zy 5 (.bls 1 0 [zI 0] [] []),zq 6 0,zy 7 (.app 1 8 false (.t 5) (.t 6)),zq 2 7]
 .ret))) }
def N44:al:={ np:=1,nt:=29,res:=[(2,none)],body :=
 (zS [0] [zF 2]
 (zs (zS [0,8] [zm 6 0,zn 7 6,zd 8 .gtr 7 (zI 40)]
 (zC 8 (zS [2] [zF 2]
 .ret)
 .skip))
 (zS [0,3] [zy 9 (.mkm 0 1),zm 3 9]
 (zs (zS [3,10,11,12] [zq 10 0,zn 11 10,z0 12]
 (.block 0 (.loop (zS [3,10,11,12,13] [zb 13 .lss 12 11]
 (zs (zC 13 .skip
 (.exit 0))
 (zs (.block 1 (zS [3,5,10,11,12] [zi 14 5 10 12,zL 15 5 14,zy 5 (.alc [.str [],zI 0,zI 0,.own 2 [],.own 2 []]),zw (.st 5 [] (.t 5) (.t 15))]
 (zs (zS [3,5,10,11,12,24] [zL 16 5 5,zk 17 51 [.t 16],zt 18 17,zm 19 18,ze 19 (zm 20 3),ze 19 (zf 21 0 5),ze 19 (zl 22 1 21),ze 19 (zy 23 (.mpl .str 0 1 false (.bool false) (.t 20) (.t 22))),zp 24 19 23]
 (zC 24 (zS [2] [zF 2]
 .ret)
 .skip))
 (zr [3,10,11,12] [zm 25 3,zf 26 0 5,zl 27 1 26,zw (.mpu .str 0 1 (.bool false) (.t 25) (.t 27) (.c (.bool true)))]))))
 (zr [3,10,11,12] [zd 28 .add 12 (zI 1),zm 12 28])))))))
 (zS [2] [zc 2 (.bool true)]
 .ret))))) }
def N45:al:={ np:=2,nt:=9,res:=[(4,none)],body :=
 (zS [0,1] [zF 4]
 (zS [4] [zq 5 0,zm 6 1,zk 7 52 [.t 5,.t 6],zd 8 .geq 7 (zI 0),zm 4 8]
 .ret)) }
def N51:al:={ np:=1,nt:=40,res:=[(2,none)],body :=
 (zS [1] [zo 1 0,zF 2]
 (zS [2] [zf 3 0 1,zl 4 1 3,zk 5 58 [.t 4],zm 6 5,zh 6 (zf 7 1 1),zh 6 (zl 8 1 7),zh 6 (zd 9 .geq 8 (zI 1)),zP 10 6 9,zm 11 10,zh 11 (zf 12 1 1),zh 11 (zl 13 1 12),zh 11 (zd 14 .leq 13 (zI 32768)),zP 15 11 14,zm 16 15,zh 16 (zf 17 2 1),zh 16 (zl 18 1 17),zh 16 (zd 19 .geq 18 (zI 0)),zP 20 16 19,zm 21 20,zh 21 (zf 22 2 1),zh 21 (zl 23 1 22),zh 21 (zd 24 .leq 23 (zI 1073741824)),zP 25 21 24,zm 26 25,zh 26 (zf 27 3 1),zh 26 (zl 28 1 27),zh 26 (zf 29 1 1),zh 26 (zl 30 1 29),zh 26 (zk 31 59 [.t 28,.t 30,(.c (zI 1073741824))]),zP 32 26 31,zm 33 32,zh 33 (zf 34 4 1),zh 33 (zl 35 1 34),zh 33 (zf 36 1 1),zh 33 (zl 37 1 36),zh 33 (zk 38 59 [.t 35,.t 37,(.c (zI 1099511627776))]),zP 39 33 38,zm 2 39]
 .ret)) }
def N52:al:={ np:=2,nt:=19,res:=[(4,none)],body :=
 (zS [0,1] [z0 4]
 (zs (zS [0,1,7,8] [zm 6 0,zn 7 6,z0 8]
 (.block 0 (.loop (zS [0,1,7,8,9] [zb 9 .lss 8 7]
 (zs (zC 9 .skip
 (.exit 0))
 (zs (.block 1 (zS [0,1,5,7,8] [zm 10 8,zm 5 10]
 (zS [0,1,5,7,8,16] [zm 11 1,zm 12 0,zm 13 5,zi 14 5 12 13,zL 15 5 14,zy 16 (.callv (.t 11) [.t 15])]
 (zC 16 (zS [4] [zm 17 5,zm 4 17]
 .ret)
 .skip))))
 (zr [0,1,7,8] [zd 18 .add 8 (zI 1),zm 8 18])))))))
 (zS [4] [zy 4 (.mov (.c (zI (-1))))]
 .ret))) }
def N53:al:={ np:=4,nt:=47,res:=[(8,none),(9,none)],body :=
 (zS [1,2,3,4] [zo 4 0,z0 8,z0 9]
 (zs (.block 0 (zS [1,2,3,4,12] [zL 13 5 4,zk 14 51 [.t 13],zt 15 14,zm 12 15]
 (zC 12 (zS [8,9] [z0 8,zc 9 (zI 1)]
 .ret)
 (zS [1,2,3,4,16] [zm 17 1,zd 18 .lss 17 (zI 0),zm 19 18,ze 19 (zm 20 1),ze 19 (zf 21 1 4),ze 19 (zl 22 1 21),ze 19 (zb 23 .gtr 20 22),zp 24 19 23,zm 25 24,ze 25 (zm 26 2),ze 25 (zm 27 3),ze 25 (zk 28 60 [.t 26,.t 27]),ze 25 (zt 29 28),zp 30 25 29,zm 16 30]
 (zC 16 (zS [8,9] [z0 8,zc 9 (zI 2)]
 .ret)
 .skip)))))
 (zS [10,11] [zL 32 5 4,zm 33 1,zm 34 2,zm 35 3,zk 36 61 [.t 32,.t 33,.t 34,.t 35],zm 31 36,zx 37 0 31,zx 38 1 31,zm 10 37,zm 11 38]
 (zs (.block 1 (zS [10,11,39] [zm 40 11,zd 41 .neq 40 (zI 0),zm 39 41]
 (zC 39 (zS [8,9] [zm 42 11,z0 8,zm 9 42]
 .ret)
 (zS [10,43] [zm 44 10,zd 45 .gtr 44 (zI 1099511627776),zm 43 45]
 (zC 43 (zS [8,9] [z0 8,zc 9 (zI 5)]
 .ret)
 .skip)))))
 (zS [8,9] [zm 46 10,zm 8 46,z0 9]
 .ret))))) }
def N58:al:={ np:=1,nt:=22,res:=[(2,none)],body :=
 (zS [0] [zF 2]
 (zS [2] [zm 3 0,zd 4 .neq 3 (.str []),zm 5 4,zh 5 (zm 6 0),zh 5 (zy 7 (.lens (.t 6))),zh 5 (zd 8 .leq 7 (zI 20)),zP 9 5 8,zm 10 9,zh 10 (zm 11 0),zh 10 (zy 12 (.idxS (.t 11) (.c (zI 0)))),zh 10 (zk 13 70 [.t 12]),zP 14 10 13,zm 15 14,zh 15 (zm 16 0),zh 15 (zk 17 71 [.t 16]),zh 15 (zm 18 0),zh 15 (zy 19 (.lens (.t 18))),zh 15 (zb 20 .eql 17 19),zP 21 15 20,zm 2 21]
 .ret)) }
def N59:al:={ np:=3,nt:=34,res:=[(6,none)],body :=
 (zS [0,1,2] [zF 6]
 (zs (zS [0,1,2,10] [zm 8 0,zk 9 72 [.t 8],zt 10 9]
 (zC 10 (zS [6] [zF 6]
 .ret)
 .skip))
 (zS [0,1,2,7] [zm 11 0,zm 12 0,zn 13 12,zd 14 .sub 13 (zI 1),zi 15 2 11 14,zL 16 2 15,zy 7 (.alc zA1),zw (.st 2 [] (.t 7) (.t 16))]
 (zS [6] [zq 17 0,zy 18 (.iadS 2 (.t 17) (.c (zI 0))),zL 19 2 18,zy 20 (.bld [zI 0,zI 0] []),zy 21 (.beq false [0,0] (.t 19) (.t 20)),zm 22 21,zh 22 (zf 23 0 7),zh 22 (zl 24 1 23),zh 22 (zm 25 1),zh 22 (zb 26 .eql 24 25),zP 27 22 26,zm 28 27,zh 28 (zf 29 1 7),zh 28 (zl 30 1 29),zh 28 (zm 31 2),zh 28 (zb 32 .leq 30 31),zP 33 28 32,zm 6 33]
 .ret)))) }
def N60:al:={ np:=2,nt:=19,res:=[(4,none)],body :=
 (zS [0,1] [zF 4]
 (zS [4] [zm 5 0,zd 6 .geq 5 (zI 0),zm 7 6,zh 7 (zm 8 0),zh 7 (zd 9 .leq 8 (zI 4194304)),zP 10 7 9,zm 11 10,zh 11 (zm 12 1),zh 11 (zd 13 .geq 12 (zI 1)),zP 14 11 13,zm 15 14,zh 15 (zm 16 1),zh 15 (zd 17 .leq 16 (zI 16777216)),zP 18 15 17,zm 4 18]
 .ret)) }
def N61:al:={ np:=4,nt:=30,res:=[(8,none),(9,none)],body :=
 (zS [1,2,3,4] [zo 4 0,z0 8,z0 9]
 (zS [2,3,10,11] [zf 13 4 4,zl 14 1 13,zm 15 1,zk 16 73 [.t 14,.t 15],zm 12 16,zx 17 0 12,zx 18 1 12,zm 10 17,zm 11 18]
 (zs (zS [2,3,10,11,20] [zm 19 11,zd 20 .neq 19 (zI 0)]
 (zC 20 (zS [8,9] [zm 21 11,z0 8,zm 9 21]
 .ret)
 .skip))
 (zS [8,9] [zm 22 10,zm 23 10,zk 24 74 [.t 22,.t 23],zm 25 2,zk 26 75 [.t 24,.t 25],zm 27 3,zk 28 76 [.t 26,.t 27],zk 29 77 [.t 28],zm 8 29,z0 9]
 .ret)))) }
def N70:al:={ np:=1,nt:=17,res:=[(2,none)],body :=
 (zS [0] [zF 2]
 (zS [2] [zm 3 0,zd 4 .geq 3 (.int .u8 97),zm 5 4,zh 5 (zm 6 0),zh 5 (zd 7 .leq 6 (.int .u8 122)),zP 8 5 7,zm 9 8,ze 9 (zm 10 0),ze 9 (zd 11 .geq 10 (.int .u8 65)),ze 9 (zm 12 11),zh 12 (zm 13 0),zh 12 (zd 14 .leq 13 (.int .u8 90)),ze 9 (zP 15 12 14),zp 16 9 15,zm 2 16]
 .ret)) }
def N71:al:={ np:=1,nt:=29,res:=[(2,none)],body :=
 (zS [0] [z0 2]
 (zS [0,3] [z0 3]
 (zs (.block 0 (.loop (zs (zS [0,3,25] [zm 4 3,zm 5 0,zy 6 (.lens (.t 5)),zb 7 .lss 4 6,zm 8 7,zh 8 (zm 9 0),zh 8 (zm 10 3),zh 8 (zy 11 (.idxS (.t 9) (.t 10))),zh 8 (zk 12 70 [.t 11]),zh 8 (zm 13 12),ze 13 (zm 14 0),ze 13 (zm 15 3),ze 13 (zy 16 (.idxS (.t 14) (.t 15))),ze 13 (zk 17 88 [.t 16]),zh 8 (zp 18 13 17),zh 8 (zm 19 18),ze 19 (zm 20 0),ze 19 (zm 21 3),ze 19 (zy 22 (.idxS (.t 20) (.t 21))),ze 19 (zd 23 .eql 22 (.int .u8 95)),zh 8 (zp 24 19 23),zP 25 8 24]
 (zC 25 .skip
 (.exit 0)))
 (.block 1 (zr [0,3] [zm 26 3,zd 27 .add 26 (zI 1),zm 3 27])))))
 (zS [2] [zm 28 3,zm 2 28]
 .ret)))) }
def N72:al:={ np:=1,nt:=57,res:=[(2,none)],body :=
 (zS [0] [zF 2]
 (zs (zS [0,12] [zm 5 0,zn 6 5,zd 7 .lss 6 (zI 1),zm 8 7,ze 8 (zm 9 0),ze 8 (zn 10 9),ze 8 (zd 11 .gtr 10 (zI 100)),zp 12 8 11]
 (zC 12 (zS [2] [zF 2]
 .ret)
 .skip))
 (zs (zS [0,13,14,15] [zm 13 0,zn 14 13,z0 15]
 (.block 0 (.loop (zS [0,13,14,15,16] [zb 16 .lss 15 14]
 (zs (zC 16 .skip
 (.exit 0))
 (zs (.block 1 (zS [0,3,4,13,14,15] [zm 17 15,zi 18 2 13 15,zL 19 2 18,zy 4 (.alc zA1),zm 3 17,zw (.st 2 [] (.t 4) (.t 19))]
 (zs (.reg true [0,1,3,7,15,31,63,127,255,511,1023,2047,4095,8191,16383,32767,16383,16383,147455,475135,999423,2047999,4194303,8388607,16777215,33554431,16777215,16777215,150994943,486539263,1023410175,2097151999,4294967295,8589934591,17179869183,34359738367] [0,13,14,15,55] [zf 20 0 4,zl 21 1 20,zk 22 89 [.t 21],zt 23 22,zm 24 23,ze 24 (zf 25 1 4),ze 24 (zl 26 1 25),ze 24 (zk 27 89 [.t 26]),ze 24 (zt 28 27),zp 29 24 28,zm 30 29,ze 30 (zm 31 3),ze 30 (zd 32 .gtr 31 (zI 0)),ze 30 (zm 33 32),zh 33 (zf 34 0 4),zh 33 (zl 35 1 34),zh 33 (zm 36 0),zh 33 (zm 37 3),zh 33 (zd 38 .sub 37 (zI 1)),zh 33 (zi 39 2 36 38),zh 33 (zf 40 0 39),zh 33 (zl 41 1 40),zh 33 (zb 42 .leq 35 41),zh 33 (zm 43 42),ze 43 (zf 44 1 4),ze 43 (zl 45 1 44),ze 43 (zm 46 0),ze 43 (zm 47 3),ze 43 (zd 48 .sub 47 (zI 1)),ze 43 (zi 49 2 46 48),ze 43 (zf 50 1 49),ze 43 (zl 51 1 50),ze 43 (zb 52 .lss 45 51),zh 33 (zp 53 43 52),ze 30 (zP 54 33 53),zp 55 30 54])
 (zC 55 (zS [2] [zF 2]
 .ret)
 .skip))))
 (zr [0,13,14,15] [zd 56 .add 15 (zI 1),zm 15 56])))))))
 (zS [2] [zc 2 (.bool true)]
 .ret)))) }
def N73:al:={ np:=2,nt:=20,res:=[(4,none),(5,none)],body :=
 (zS [0,1] [z0 4,z0 5]
 (zs (zS [0,1,11] [zm 9 0,zk 10 72 [.t 9],zt 11 10]
 (zC 11 (zS [4,5] [z0 4,zc 5 (zI 1)]
 .ret)
 .skip))
 (zS [6] [zq 13 0,zm 14 1,zk 15 90 [.t 13,.t 14],zm 12 15,zx 16 0 12,zx 17 1 12,zx 18 2 12,zm 6 16,zm 7 17,zm 8 18]
 (zS [4,5] [zm 19 6,zm 4 19,z0 5]
 .ret)))) }
def N74:al:={ np:=2,nt:=18,res:=[(4,some (2,true))],body :=
 (zS [0,1,4] [zy 4 (.alc zA8)]
 (zS [4,5,6] [zm 8 0,zy 9 (.conv .u64 (.t 8)),zm 10 1,zy 11 (.conv .u64 (.t 10)),zk 12 91 [.t 9,.t 11],zm 7 12,zx 13 0 7,zx 14 1 7,zm 5 13,zm 6 14]
 (zS [4] [zm 15 5,zm 16 6,zy 17 (.bld [.int .u64 0,.int .u64 0] [(0,1,.t 15),(1,1,.t 16)]),zw (.st 2 [] (.t 4) (.t 17))]
 .ret))) }
def N75:al:={ np:=2,nt:=24,res:=[(4,some (2,true))],body :=
 (zS [1,2,4] [zo 2 0,zy 4 (.alc zA8)]
 (zS [1,2,4,5,6] [zf 8 1 2,zl 9 1 8,zm 10 1,zy 11 (.conv .u64 (.t 10)),zk 12 91 [.t 9,.t 11],zm 7 12,zx 13 0 7,zx 14 1 7,zm 5 13,zm 6 14]
 (zS [4] [zm 15 5,zf 16 0 2,zl 17 1 16,zm 18 1,zy 19 (.conv .u64 (.t 18)),zb 20 .mul 17 19,zb 21 .add 15 20,zm 22 6,zy 23 (.bld [.int .u64 0,.int .u64 0] [(0,1,.t 21),(1,1,.t 22)]),zw (.st 2 [] (.t 4) (.t 23))]
 .ret))) }
def N76:al:={ np:=2,nt:=31,res:=[(4,some (2,true))],body :=
 (zS [1,2,4] [zo 2 0,zy 4 (.alc zA8)]
 (zs (.reg true [0,1,0,4,15,0,32,0,128,480,31,2047] [1,2,4,5,6] [zf 9 0 2,zl 10 1 9,zm 11 1,zy 12 (.conv .u64 (.t 11)),zb 13 .quo 10 12,zf 14 0 2,zl 15 1 14,zm 16 1,zy 17 (.conv .u64 (.t 16)),zb 18 .rem 15 17,zm 5 13,zm 6 18])
 (zS [4,5,7] [zm 20 6,zf 21 1 2,zl 22 1 21,zm 23 1,zy 24 (.conv .u64 (.t 23)),zk 25 92 [.t 20,.t 22,.t 24],zm 19 25,zx 26 0 19,zx 27 1 19,zm 7 26,zm 8 27]
 (zS [4] [zm 28 5,zm 29 7,zy 30 (.bld [.int .u64 0,.int .u64 0] [(0,1,.t 28),(1,1,.t 29)]),zw (.st 2 [] (.t 4) (.t 30))]
 .ret)))) }
def N77:al:={ np:=1,nt:=42,res:=[(2,none)],body :=
 (zS [1] [zo 1 0,z0 2]
 (zS [1,3] [zc 3 (.int .u64 0)]
 (zs (zS [1,3,4] [zc 4 (.int .u64 4611686018427387904)]
 (.block 0 (.loop (zs (zS [1,3,4,8] [zm 7 4,zd 8 .gtr 7 (.int .u64 0)]
 (zC 8 .skip
 (.exit 0)))
 (zs (.block 1 (zS [1,3,4,5,6] [zm 12 3,zm 13 4,zb 14 .or 12 13,zm 15 3,zm 16 4,zb 17 .or 15 16,zk 18 91 [.t 14,.t 17],zm 11 18,zx 19 0 11,zx 20 1 11,zm 5 19,zm 6 20]
 (zS [1,3,4,36] [zm 21 5,zf 22 0 1,zl 23 1 22,zb 24 .lss 21 23,zm 25 24,ze 25 (zm 26 5),ze 25 (zf 27 0 1),ze 25 (zl 28 1 27),ze 25 (zb 29 .eql 26 28),ze 25 (zm 30 29),zh 30 (zm 31 6),zh 30 (zf 32 1 1),zh 30 (zl 33 1 32),zh 30 (zb 34 .leq 31 33),ze 25 (zP 35 30 34),zp 36 25 35]
 (zC 36 (zr [1,3,4] [zm 37 3,zm 38 4,zb 39 .or 37 38,zm 3 39])
 .skip))))
 (zr [1,3,4] [zm 9 4,zd 10 .shr 9 (.int .u64 1),zm 4 10]))))))
 (zS [2] [zm 40 3,zy 41 (.conv .i64 (.t 40)),zm 2 41]
 .ret)))) }
def N88:al:={ np:=1,nt:=9,res:=[(2,none)],body :=
 (zS [0] [zF 2]
 (zS [2] [zm 3 0,zd 4 .geq 3 (.int .u8 48),zm 5 4,zh 5 (zm 6 0),zh 5 (zd 7 .leq 6 (.int .u8 57)),zP 8 5 7,zm 2 8]
 .ret)) }
def N89:al:={ np:=1,nt:=9,res:=[(2,none)],body :=
 (zS [0] [zF 2]
 (zS [2] [zm 3 0,zy 4 (.bin .geq (.t 3) (.c (zI (-1125899906842624)))),zm 5 4,zh 5 (zm 6 0),zh 5 (zd 7 .leq 6 (zI 1125899906842624)),zP 8 5 7,zm 2 8]
 .ret)) }
def N90:al:={ np:=2,nt:=110,res:=[(4,none),(5,none),(6,none)],body :=
 (zS [0,1] [z0 4,z0 5,z0 6]
 (zS [0,1,7,8] [zm 23 0,zm 24 1,zy 25 (.call 96 [.t 23,.t 24,(.c (.fn 97 []))] []),zm 22 25,zx 26 0 22,zx 27 1 22,zm 7 26,zm 8 27]
 (zs (.block 0 (zS [0,1,7,28] [zm 29 8,zm 30 29,ze 30 (zm 31 7),ze 30 (zd 32 .eql 31 (zI 0)),zp 33 30 32,zm 28 33]
 (zC 28 (zS [4,5,6] [zq 34 0,zm 35 7,zi 36 2 34 35,zf 37 1 36,zl 38 1 37,zm 4 38,z0 5,zc 6 (zI 1)]
 .ret)
 (zS [0,1,7,39] [zm 40 7,zm 41 0,zn 42 41,zb 43 .eql 40 42,zm 39 43]
 (zC 39 (zS [4,5,6] [zq 44 0,zm 45 7,zd 46 .sub 45 (zI 1),zi 47 2 44 46,zf 48 1 47,zl 49 1 48,zm 4 49,z0 5,zc 6 (zI 1)]
 .ret)
 .skip)))))
 (zs (.reg true [0,0,2,7,15,0,0,96,224,0,0,1567,4095] [1,9,10] [zm 50 0,zm 51 7,zd 52 .sub 51 (zI 1),zi 53 2 50 52,zL 54 2 53,zq 55 0,zm 56 7,zi 57 2 55 56,zL 58 2 57,zy 9 (.alc zA1),zy 10 (.alc zA1),zw (.st 2 [] (.t 9) (.t 54)),zw (.st 2 [] (.t 10) (.t 58))])
 (zs (.reg true [0,1,0,4,15,0,0,64,224,0,512,0,2048,7680,31,16895,65535] [6,9,11,12] [zf 59 1 10,zl 60 1 59,zf 61 1 9,zl 62 1 61,zb 63 .sub 60 62,zm 64 1,zf 65 0 9,zl 66 1 65,zb 67 .sub 64 66,zf 68 0 10,zl 69 1 68,zf 70 0 9,zl 71 1 70,zb 72 .sub 69 71,zm 11 63,zm 12 67,zm 6 72])
 (zS [6,9,11,12,13] [zm 74 11,zm 75 12,zm 76 6,zk 77 98 [.t 74,.t 75,.t 76],zm 73 77,zx 78 0 73,zx 79 1 73,zx 80 2 73,zm 13 78,zm 14 79,zm 15 80]
 (zS [6,9,13,16] [zm 82 11,zm 83 12,zk 84 99 [.t 82,.t 83],zm 81 84,zx 85 0 81,zx 86 1 81,zy 16 (.alc zA1),zw (.st 2 [] (.t 16) (.t 85)),zm 17 86]
 (zS [6,9,13,16,18] [zm 88 13,zm 89 6,zk 90 99 [.t 88,.t 89],zm 87 90,zx 91 0 87,zx 92 1 87,zy 18 (.alc zA1),zw (.st 2 [] (.t 18) (.t 91)),zm 19 92]
 (zS [6,9,13,20] [zL 94 2 16,zL 95 2 18,zk 96 100 [.t 94,.t 95],zm 93 96,zx 97 0 93,zx 98 1 93,zy 20 (.alc zA1),zw (.st 2 [] (.t 20) (.t 97)),zm 21 98]
 (zS [5,6,9,13] [zL 100 2 20,zk 101 101 [.t 100],zm 99 101,zx 102 0 99,zx 103 1 99,zm 5 102]
 (zS [4,5,6] [zf 104 1 9,zl 105 1 104,zm 106 13,zb 107 .add 105 106,zm 108 5,zm 109 6,zm 4 107,zm 5 108,zm 6 109]
 .ret))))))))))) }
def N91:al:={ np:=2,nt:=51,res:=[(4,none),(5,none)],body :=
 (zS [0,1] [zc 4 (.int .u64 0),zc 5 (.int .u64 0)]
 (zS [0,1,6] [zm 14 0,zd 15 .and 14 (.int .u64 4294967295),zm 6 15]
 (zS [0,1,6,7] [zm 16 0,zd 17 .shr 16 (.int .u64 32),zm 7 17]
 (zS [0,1,6,7,8] [zm 18 1,zd 19 .and 18 (.int .u64 4294967295),zm 8 19]
 (zS [0,1,6,7,8,9] [zm 20 1,zd 21 .shr 20 (.int .u64 32),zm 9 21]
 (zS [0,1,6,7,8,9,10] [zm 22 6,zm 23 8,zb 24 .mul 22 23,zm 10 24]
 (zS [0,1,6,7,9,11] [zm 25 7,zm 26 8,zb 27 .mul 25 26,zm 28 10,zd 29 .shr 28 (.int .u64 32),zb 30 .add 27 29,zm 11 30]
 (zS [0,1,6,7,9,11,12] [zm 31 11,zd 32 .and 31 (.int .u64 4294967295),zm 12 32]
 (zS [0,1,6,7,9,12,13] [zm 33 11,zd 34 .shr 33 (.int .u64 32),zm 13 34]
 (zS [0,1,7,9,12,13] [zm 35 12,zm 36 6,zm 37 9,zb 38 .mul 36 37,zb 39 .add 35 38,zm 12 39]
 (zS [0,1,4] [zm 40 7,zm 41 9,zb 42 .mul 40 41,zm 43 13,zb 44 .add 42 43,zm 45 12,zd 46 .shr 45 (.int .u64 32),zb 47 .add 44 46,zm 4 47]
 (zS [4,5] [zm 48 0,zm 49 1,zb 50 .mul 48 49,zm 5 50]
 .ret)))))))))))) }
def N92:al:={ np:=3,nt:=135,res:=[(6,none),(7,none)],body :=
 (zS [0,1,2] [zc 6 (.int .u64 0),zc 7 (.int .u64 0)]
 (zs (zS [0,1,2,20] [zm 19 2,zd 20 .eql 19 (.int .u64 0)]
 (zC 20 (zr [0,1,2] [zy 21 (.dead),zw (.dead)])
 .skip))
 (zs (zS [0,1,2,24] [zm 22 2,zm 23 0,zb 24 .leq 22 23]
 (zC 24 (zr [0,1,2] [zy 25 (.dead),zw (.dead)])
 .skip))
 (zs (zS [0,1,2,27] [zm 26 0,zd 27 .eql 26 (.int .u64 0)]
 (zC 27 (zs (.reg true [0,0,3,0,0,24,7,127] [6,7] [zm 28 1,zm 29 2,zb 30 .quo 28 29,zm 31 1,zm 32 2,zb 33 .rem 31 32,zm 6 30,zm 7 33])
 .ret)
 .skip))
 (zS [0,1,2,8] [zm 34 2,zk 35 102 [.t 34],zy 36 (.conv .u64 (.t 35)),zm 8 36]
 (zS [0,1,2,8] [zm 37 2,zm 38 8,zb 39 .shl 37 38,zm 2 39]
 (zS [0,1,2,8,9] [zm 40 2,zd 41 .shr 40 (.int .u64 32),zm 9 41]
 (zS [0,1,2,8,9,10] [zm 42 2,zd 43 .and 42 (.int .u64 4294967295),zm 10 43]
 (zS [1,2,8,9,10,11] [zm 44 0,zm 45 8,zb 46 .shl 44 45,zm 47 1,zm 48 8,zy 49 (.bin .sub (.c (.int .u64 64)) (.t 48)),zb 50 .shr 47 49,zb 51 .or 46 50,zm 11 51]
 (zS [2,8,9,10,11,12] [zm 52 1,zm 53 8,zb 54 .shl 52 53,zm 12 54]
 (zS [2,8,9,10,11,12,13] [zm 55 12,zd 56 .shr 55 (.int .u64 32),zm 13 56]
 (zS [2,8,9,10,11,13,14] [zm 57 12,zd 58 .and 57 (.int .u64 4294967295),zm 14 58]
 (zS [2,8,9,10,11,13,14,15] [zm 59 11,zm 60 9,zb 61 .quo 59 60,zm 15 61]
 (zS [2,8,9,10,11,13,14,15,16] [zm 62 11,zm 63 15,zm 64 9,zb 65 .mul 63 64,zb 66 .sub 62 65,zm 16 66]
 (zs (.block 0 (.loop (zs (zS [2,8,9,10,11,13,14,15,16,78] [zm 67 15,zd 68 .geq 67 (.int .u64 4294967296),zm 69 68,ze 69 (zm 70 15),ze 69 (zm 71 10),ze 69 (zb 72 .mul 70 71),ze 69 (zm 73 16),ze 69 (zy 74 (.bin .mul (.c (.int .u64 4294967296)) (.t 73))),ze 69 (zm 75 13),ze 69 (zb 76 .add 74 75),ze 69 (zb 77 .gtr 72 76),zp 78 69 77]
 (zC 78 .skip
 (.exit 0)))
 (.block 1 (zS [2,8,9,10,11,13,14,15,16] [zm 79 15,zd 80 .sub 79 (.int .u64 1),zm 15 80]
 (zS [2,8,9,10,11,13,14,15,16] [zm 81 16,zm 82 9,zb 83 .add 81 82,zm 16 83]
 (zS [2,8,9,10,11,13,14,15,16,85] [zm 84 16,zd 85 .geq 84 (.int .u64 4294967296)]
 (zC 85 (.exit 0)
 .skip))))))))
 (zS [2,8,9,10,14,15,17] [zm 86 11,zd 87 .mul 86 (.int .u64 4294967296),zm 88 13,zb 89 .add 87 88,zm 90 15,zm 91 2,zb 92 .mul 90 91,zb 93 .sub 89 92,zm 17 93]
 (zS [2,8,9,10,14,15,17,18] [zm 94 17,zm 95 9,zb 96 .quo 94 95,zm 18 96]
 (zS [2,8,9,10,14,15,16,17,18] [zm 97 17,zm 98 18,zm 99 9,zb 100 .mul 98 99,zb 101 .sub 97 100,zm 16 101]
 (zs (.block 2 (.loop (zs (zS [2,8,9,10,14,15,16,17,18,113] [zm 102 18,zd 103 .geq 102 (.int .u64 4294967296),zm 104 103,ze 104 (zm 105 18),ze 104 (zm 106 10),ze 104 (zb 107 .mul 105 106),ze 104 (zm 108 16),ze 104 (zy 109 (.bin .mul (.c (.int .u64 4294967296)) (.t 108))),ze 104 (zm 110 14),ze 104 (zb 111 .add 109 110),ze 104 (zb 112 .gtr 107 111),zp 113 104 112]
 (zC 113 .skip
 (.exit 2)))
 (.block 3 (zS [2,8,9,10,14,15,16,17,18] [zm 114 18,zd 115 .sub 114 (.int .u64 1),zm 18 115]
 (zS [2,8,9,10,14,15,16,17,18] [zm 116 16,zm 117 9,zb 118 .add 116 117,zm 16 118]
 (zS [2,8,9,10,14,15,16,17,18,120] [zm 119 16,zd 120 .geq 119 (.int .u64 4294967296)]
 (zC 120 (.exit 2)
 .skip))))))))
 (zS [6,7] [zm 121 15,zd 122 .mul 121 (.int .u64 4294967296),zm 123 18,zb 124 .add 122 123,zm 125 17,zd 126 .mul 125 (.int .u64 4294967296),zm 127 14,zb 128 .add 126 127,zm 129 18,zm 130 2,zb 131 .mul 129 130,zb 132 .sub 128 131,zm 133 8,zb 134 .shr 132 133,zm 6 124,zm 7 134]
 .ret)))))))))))))))))))) }
def N96:al:={ np:=3,nt:=49,res:=[(6,none),(7,none)],body :=
 (zS [0,1,2] [z0 6,zF 7]
 (zS [0,1,2,8] [zm 12 0,zn 13 12,zm 8 13]
 (zS [0,1,2,8,9,10] [zm 14 8,z0 9,zm 10 14]
 (zs (.block 0 (.loop (zs (zS [0,1,2,8,9,10,17] [zm 15 9,zm 16 10,zb 17 .lss 15 16]
 (zC 17 .skip
 (.exit 0)))
 (.block 1 (zS [0,1,2,8,9,10,11] [zm 18 9,zm 19 10,zb 20 .add 18 19,zy 21 (.conv .u64 (.t 20)),zd 22 .shr 21 (.int .u64 1),zy 23 (.conv .i64 (.t 22)),zm 11 23]
 (zS [0,1,2,8,9,10,11,31] [zm 24 2,zm 25 0,zm 26 11,zi 27 2 25 26,zL 28 2 27,zm 29 1,zy 30 (.callv (.t 24) [.t 28,.t 29]),zd 31 .lss 30 (zI 0)]
 (zC 31 (zr [0,1,2,8,9,10] [zm 32 11,zd 33 .add 32 (zI 1),zm 9 33])
 (zr [0,1,2,8,9,10] [zm 34 11,zm 10 34]))))))))
 (zS [6,7] [zm 35 9,zm 36 9,zm 37 8,zb 38 .lss 36 37,zm 39 38,zh 39 (zm 40 2),zh 39 (zq 41 0),zh 39 (zm 42 9),zh 39 (zi 43 2 41 42),zh 39 (zL 44 2 43),zh 39 (zm 45 1),zh 39 (zy 46 (.callv (.t 40) [.t 44,.t 45])),zh 39 (zd 47 .eql 46 (zI 0)),zP 48 39 47,zm 6 35,zm 7 48]
 .ret))))) }
def N97:al:={ np:=2,nt:=15,res:=[(4,none)],body :=
 (zS [1,2] [zo 2 0,z0 4]
 (zs (.block 0 (zS [1,2,5] [zf 6 0 2,zl 7 1 6,zm 8 1,zb 9 .lss 7 8,zm 5 9]
 (zC 5 (zS [4] [zy 4 (.mov (.c (zI (-1))))]
 .ret)
 (zS [10] [zf 11 0 2,zl 12 1 11,zm 13 1,zb 14 .gtr 12 13,zm 10 14]
 (zC 10 (zS [4] [zc 4 (zI 1)]
 .ret)
 .skip)))))
 (zS [4] [z0 4]
 .ret))) }
def N98:al:={ np:=3,nt:=35,res:=[(6,none),(7,none),(8,none)],body :=
 (zS [0,1,2] [z0 6,z0 7,z0 8]
 (zs (zS [0,1,2,11] [zm 10 2,zd 11 .eql 10 (zI 0)]
 (zC 11 (zS [6,7,8] [z0 6,z0 7,zc 8 (zI 16)]
 .ret)
 .skip))
 (zS [2,9] [zm 12 0,zm 13 1,zk 14 103 [.t 12,.t 13],zy 9 (.alc zA7),zw (.st 3 [] (.t 9) (.t 14))]
 (zs (zS [2,6,8,9] [zL 16 3 9,zm 17 2,zk 18 104 [.t 16,.t 17,(.c (.bool false))],zm 15 18,zx 19 0 15,zx 20 1 15,zm 6 19,zm 8 20]
 (zS [2,6,8,9,22] [zm 21 8,zd 22 .neq 21 (zI 0)]
 (zC 22 (zS [6,7,8] [zm 23 8,z0 6,z0 7,zm 8 23]
 .ret)
 .skip)))
 (zs (zS [6,7,8] [zL 25 3 9,zm 26 2,zk 27 104 [.t 25,.t 26,(.c (.bool true))],zm 24 27,zx 28 0 24,zx 29 1 24,zm 7 28,zm 8 29]
 (zS [6,7,8,31] [zm 30 8,zd 31 .neq 30 (zI 0)]
 (zC 31 (zS [6,7,8] [zm 32 8,z0 6,z0 7,zm 8 32]
 .ret)
 .skip)))
 (zS [6,7,8] [zm 33 6,zm 34 7,zm 6 33,zm 7 34,z0 8]
 .ret)))))) }
def N99:al:={ np:=2,nt:=12,res:=[(4,some (2,true)),(5,none)],body :=
 (zS [0,1,4] [zy 4 (.alc zA1),z0 5]
 (zS [4,5] [zm 6 0,zm 7 1,zk 8 103 [.t 6,.t 7],zk 9 105 [.t 8],zx 10 0 9,zx 11 1 9,zw (.st 2 [] (.t 4) (.t 10)),zm 5 11]
 .ret)) }
def N100:al:={ np:=2,nt:=24,res:=[(4,some (2,true)),(5,none)],body :=
 (zS [2,3,4] [zo 2 0,zo 3 1,zy 4 (.alc zA1),z0 5]
 (zs (zS [2,3,4,13] [zL 6 2 2,zk 7 106 [.t 6],zt 8 7,zm 9 8,ze 9 (zL 10 2 3),ze 9 (zk 11 106 [.t 10]),ze 9 (zt 12 11),zp 13 9 12]
 (zC 13 (zS [4,5] [zy 14 (.bld [zI 0,zI 0] []),zw (.st 2 [] (.t 4) (.t 14)),zc 5 (zI 1)]
 .ret)
 .skip))
 (zs (.reg true [0,1,0,7,15,31,63,127,127,511,1023] [4,5] [zL 15 2 2,zk 16 108 [.t 15],zL 17 2 3,zk 18 108 [.t 17],zk 19 109 [.t 18],zk 20 107 [.t 16,.t 19],zk 21 105 [.t 20],zx 22 0 21,zx 23 1 21,zw (.st 2 [] (.t 4) (.t 22)),zm 5 23])
 .ret))) }
def N101:al:={ np:=1,nt:=20,res:=[(2,none),(3,none)],body :=
 (zS [1] [zo 1 0,z0 2,z0 3]
 (zs (zS [1,7] [zL 5 2 1,zk 6 106 [.t 5],zt 7 6]
 (zC 7 (zS [2,3] [z0 2,zc 3 (zI 1)]
 .ret)
 .skip))
 (zS [4] [zL 8 2 1,zk 9 108 [.t 8],zy 4 (.alc zA7),zw (.st 3 [] (.t 4) (.t 9))]
 (zs (zS [4,12] [zf 10 0 4,zl 11 1 10,zd 12 .gtr 11 (.int .u64 0)]
 (zC 12 (zS [2,3] [z0 2,zc 3 (zI 5)]
 .ret)
 .skip))
 (zS [2,3] [zf 13 1 4,zl 14 1 13,zf 15 2 4,zl 16 1 15,zk 17 110 [.t 14,.t 16],zx 18 0 17,zx 19 1 17,zm 2 18,zm 3 19]
 .ret))))) }
def N102:al:={ np:=1,nt:=6,res:=[(2,none)],body :=
 (zS [0] [z0 2]
 (zS [2] [zm 3 0,zk 4 111 [.t 3],zy 5 (.bin .sub (.c (zI 64)) (.t 4)),zm 2 5]
 .ret)) }
def N103:al:={ np:=2,nt:=23,res:=[(4,some (3,true))],body :=
 (zS [0,1,4] [zy 4 (.alc zA7)]
 (zS [0,1,4,5,6] [zm 8 0,zk 9 112 [.t 8],zm 10 1,zk 11 112 [.t 10],zk 12 91 [.t 9,.t 11],zm 7 12,zx 13 0 7,zx 14 1 7,zm 5 13,zm 6 14]
 (zS [4] [zm 15 5,zm 16 6,zm 17 0,zd 18 .lss 17 (zI 0),zm 19 1,zd 20 .lss 19 (zI 0),zy 21 (.beq true [] (.t 18) (.t 20)),zk 22 113 [.t 15,.t 16,.t 21],zw (.st 3 [] (.t 4) (.t 22))]
 .ret))) }
def N104:al:={ np:=3,nt:=52,res:=[(6,none),(7,none)],body :=
 (zS [1,2,3] [zo 3 0,z0 6,z0 7]
 (zS [1,2,3,8] [zm 12 1,zk 13 112 [.t 12],zm 8 13]
 (zs (zS [1,2,3,8,17] [zf 14 0 3,zl 15 1 14,zm 16 8,zb 17 .geq 15 16]
 (zC 17 (zS [6,7] [z0 6,zc 7 (zI 5)]
 .ret)
 .skip))
 (zS [1,2,3,9,10] [zf 19 0 3,zl 20 1 19,zf 21 1 3,zl 22 1 21,zm 23 8,zk 24 92 [.t 20,.t 22,.t 23],zm 18 24,zx 25 0 18,zx 26 1 18,zm 9 25,zm 10 26]
 (zS [2,9,10,11] [zf 27 2 3,zl 28 1 27,zm 29 1,zd 30 .lss 29 (zI 0),zy 31 (.beq true [] (.t 28) (.t 30)),zm 11 31]
 (zs (zS [9,11,38] [zm 32 10,zd 33 .gtr 32 (.int .u64 0),zm 34 33,zh 34 (zm 35 11),zh 34 (zm 36 2),zh 34 (zy 37 (.beq true [] (.t 35) (.t 36))),zP 38 34 37]
 (zC 38 (zS [9,11] [zm 39 9,zd 40 .add 39 (.int .u64 1),zm 9 40]
 (zS [9,11,42] [zm 41 9,zd 42 .eql 41 (.int .u64 0)]
 (zC 42 (zS [6,7] [z0 6,zc 7 (zI 5)]
 .ret)
 .skip)))
 .skip))
 (zS [6,7] [zm 43 9,zm 44 11,zm 45 44,zh 45 (zm 46 9),zh 45 (zd 47 .gtr 46 (.int .u64 0)),zP 48 45 47,zk 49 110 [.t 43,.t 48],zx 50 0 49,zx 51 1 49,zm 6 50,zm 7 51]
 .ret))))))) }
def N105:al:={ np:=1,nt:=56,res:=[(2,some (2,true)),(3,none)],body :=
 (zS [1,2] [zo 1 0,zy 2 (.alc zA1),z0 3]
 (zs (zS [1,2,23] [zf 6 0 1,zl 7 1 6,zd 8 .gtr 7 (.int .u64 72057594037927936),zm 9 8,ze 9 (zf 10 0 1),ze 9 (zl 11 1 10),ze 9 (zd 12 .eql 11 (.int .u64 72057594037927936)),ze 9 (zm 13 12),zh 13 (zf 14 1 1),zh 13 (zl 15 1 14),zh 13 (zd 16 .gtr 15 (.int .u64 0)),zh 13 (zm 17 16),ze 17 (zf 18 2 1),ze 17 (zl 19 1 18),ze 17 (zt 20 19),zh 13 (zp 21 17 20),ze 9 (zP 22 13 21),zp 23 9 22]
 (zC 23 (zS [2,3] [zy 24 (.bld [zI 0,zI 0] []),zw (.st 2 [] (.t 2) (.t 24)),zc 3 (zI 5)]
 .ret)
 .skip))
 (zs (.reg true [0,1,3,0,8,24,63,127,0,256,768,1792,255,8191] [1,2,4,5] [zf 25 0 1,zl 26 1 25,zd 27 .shl 26 (.int .u64 4),zf 28 1 1,zl 29 1 28,zd 30 .shr 29 (.int .u64 60),zb 31 .or 27 30,zy 32 (.conv .i64 (.t 31)),zf 33 1 1,zl 34 1 33,zd 35 .and 34 (.int .u64 1152921504606846975),zy 36 (.conv .i64 (.t 35)),zm 4 32,zm 5 36])
 (zs (.block 0 (zS [2,4,5,37] [zf 38 2 1,zl 39 1 38,zt 40 39,zm 37 40]
 (zC 37 (zS [2,3] [zm 41 4,zm 42 5,zy 43 (.bld [zI 0,zI 0] [(0,1,.t 41),(1,1,.t 42)]),zw (.st 2 [] (.t 2) (.t 43)),z0 3]
 .ret)
 (zS [2,4,5,44] [zm 45 5,zd 46 .eql 45 (zI 0),zm 44 46]
 (zC 44 (zS [2,3] [zm 47 4,zy 48 (.un .neg (.t 47)),zy 49 (.bld [zI 0,zI 0] [(0,1,.t 48)]),zw (.st 2 [] (.t 2) (.t 49)),z0 3]
 .ret)
 .skip)))))
 (zS [2,3] [zm 50 4,zy 51 (.un .neg (.t 50)),zd 52 .sub 51 (zI 1),zm 53 5,zy 54 (.bin .sub (.c (zI 1152921504606846976)) (.t 53)),zy 55 (.bld [zI 0,zI 0] [(0,1,.t 52),(1,1,.t 54)]),zw (.st 2 [] (.t 2) (.t 55)),z0 3]
 .ret))))) }
def N106:al:={ np:=1,nt:=21,res:=[(2,none)],body :=
 (zS [1] [zo 1 0,zF 2]
 (zS [2] [zf 3 0 1,zl 4 1 3,zy 5 (.bin .geq (.t 4) (.c (zI (-1152921504606846976)))),zm 6 5,zh 6 (zf 7 0 1),zh 6 (zl 8 1 7),zh 6 (zd 9 .lss 8 (zI 1152921504606846976)),zP 10 6 9,zm 11 10,zh 11 (zf 12 1 1),zh 11 (zl 13 1 12),zh 11 (zd 14 .geq 13 (zI 0)),zP 15 11 14,zm 16 15,zh 16 (zf 17 1 1),zh 16 (zl 18 1 17),zh 16 (zd 19 .lss 18 (zI 1152921504606846976)),zP 20 16 19,zm 2 20]
 .ret)) }
def N107:al:={ np:=2,nt:=73,res:=[(4,some (3,true))],body :=
 (zS [2,3,4] [zy 2 (.box [] (.t 0)),zy 3 (.box [] (.t 1)),zy 4 (.alc zA7)]
 (zs (zS [2,3,4,13] [zf 9 2 2,zl 10 1 9,zf 11 2 3,zl 12 1 11,zy 13 (.beq false [] (.t 10) (.t 12))]
 (zC 13 (zS [2,3,4,5,6] [zf 15 1 2,zl 16 1 15,zf 17 1 3,zl 18 1 17,zy 19 (.add64 (.t 16) (.t 18) (.c (.int .u64 0))),zm 14 19,zx 20 0 14,zx 21 1 14,zm 5 20,zm 6 21]
 (zS [4] [zf 22 0 2,zl 23 1 22,zf 24 0 3,zl 25 1 24,zb 26 .add 23 25,zm 27 6,zb 28 .add 26 27,zm 29 5,zf 30 2 2,zl 31 1 30,zk 32 113 [.t 28,.t 29,.t 31],zw (.st 3 [] (.t 4) (.t 32))]
 .ret))
 .skip))
 (zs (zS [2,3,4,51] [zf 33 0 2,zl 34 1 33,zf 35 0 3,zl 36 1 35,zb 37 .lss 34 36,zm 38 37,ze 38 (zf 39 0 2),ze 38 (zl 40 1 39),ze 38 (zf 41 0 3),ze 38 (zl 42 1 41),ze 38 (zb 43 .eql 40 42),ze 38 (zm 44 43),zh 44 (zf 45 1 2),zh 44 (zl 46 1 45),zh 44 (zf 47 1 3),zh 44 (zl 48 1 47),zh 44 (zb 49 .lss 46 48),ze 38 (zP 50 44 49),zp 51 38 50]
 (zC 51 (zr [2,3,4] [zL 52 3 3,zL 53 3 2,zw (.st 3 [] (.t 2) (.t 52)),zw (.st 3 [] (.t 3) (.t 53))])
 .skip))
 (zS [2,3,4,7,8] [zf 55 1 2,zl 56 1 55,zf 57 1 3,zl 58 1 57,zy 59 (.sub64 (.t 56) (.t 58) (.c (.int .u64 0))),zm 54 59,zx 60 0 54,zx 61 1 54,zm 7 60,zm 8 61]
 (zS [4] [zf 62 0 2,zl 63 1 62,zf 64 0 3,zl 65 1 64,zb 66 .sub 63 65,zm 67 8,zb 68 .sub 66 67,zm 69 7,zf 70 2 2,zl 71 1 70,zk 72 113 [.t 68,.t 69,.t 71],zw (.st 3 [] (.t 4) (.t 72))]
 .ret))))) }
def N108:al:={ np:=1,nt:=37,res:=[(2,some (3,true))],body :=
 (zS [1,2] [zo 1 0,zy 2 (.alc zA7)]
 (zS [1,2,3] [zf 7 0 1,zl 8 1 7,zk 9 112 [.t 8],zm 3 9]
 (zS [1,2,4,5] [zm 10 3,zd 11 .shr 10 (.int .u64 4),zm 12 3,zd 13 .shl 12 (.int .u64 60),zm 4 11,zm 5 13]
 (zs (zS [1,2,4,5,16] [zf 14 0 1,zl 15 1 14,zd 16 .geq 15 (zI 0)]
 (zC 16 (zS [2] [zm 17 4,zm 18 5,zf 19 1 1,zl 20 1 19,zy 21 (.conv .u64 (.t 20)),zb 22 .or 18 21,zy 23 (.bld [.int .u64 0,.int .u64 0,.bool false] [(0,1,.t 17),(1,1,.t 22),(2,1,(.c (.bool false)))]),zw (.st 3 [] (.t 2) (.t 23))]
 .ret)
 .skip))
 (zS [2,4,5,6] [zm 25 5,zf 26 1 1,zl 27 1 26,zy 28 (.conv .u64 (.t 27)),zy 29 (.sub64 (.t 25) (.t 28) (.c (.int .u64 0))),zm 24 29,zx 30 0 24,zx 31 1 24,zm 5 30,zm 6 31]
 (zS [2] [zm 32 4,zm 33 6,zb 34 .sub 32 33,zm 35 5,zy 36 (.bld [.int .u64 0,.int .u64 0,.bool false] [(0,1,.t 34),(1,1,.t 35),(2,1,(.c (.bool true)))]),zw (.st 3 [] (.t 2) (.t 36))]
 .ret)))))) }
def N109:al:={ np:=1,nt:=11,res:=[(2,some (3,true))],body :=
 (zS [1,2] [zo 1 0,zy 2 (.alc zA7)]
 (zS [2] [zf 3 0 1,zl 4 1 3,zf 5 1 1,zl 6 1 5,zf 7 2 1,zl 8 1 7,zt 9 8,zk 10 113 [.t 4,.t 6,.t 9],zw (.st 3 [] (.t 2) (.t 10))]
 .ret)) }
def N110:al:={ np:=2,nt:=24,res:=[(4,none),(5,none)],body :=
 (zS [0,1] [z0 4,z0 5]
 (zs (.block 0 (zS [0,1,6] [zm 7 1,zt 8 7,zm 9 8,zh 9 (zm 10 0),zh 9 (zd 11 .leq 10 (.int .u64 9223372036854775807)),zP 12 9 11,zm 6 12]
 (zC 6 (zS [4,5] [zm 13 0,zy 14 (.conv .i64 (.t 13)),zm 4 14,z0 5]
 .ret)
 (zS [0,15] [zm 16 1,zm 17 16,zh 17 (zm 18 0),zh 17 (zd 19 .leq 18 (.int .u64 9223372036854775808)),zP 20 17 19,zm 15 20]
 (zC 15 (zS [4,5] [zm 21 0,zy 22 (.un .neg (.t 21)),zy 23 (.conv .i64 (.t 22)),zm 4 23,z0 5]
 .ret)
 .skip)))))
 (zS [4,5] [z0 4,zc 5 (zI 5)]
 .ret))) }
def S1:List UInt8:=[0,1,2,2,3,3,3,3,4,4,4,4,4,4,4,4,5,5,5,5,5,5,5,5,5,5,5,5,5,5,5,5,6,6,6,6,6,6,6,6,6,6,6,6,6,6,6,6,6,6,6,6,6,6,6,6,6,6,6,6,6,6,6,6,7,7,7,7,7,7,7,7,7,7,7,7,7,7,7,7,7,7,7,7,7,7,7,7,7,7,7,7,7,7,7,7,7,7,7,7,7,7,7,7,7,7,7,7,7,7,7,7,7,7,7,7,7,7,7,7,7,7,7,7,7,7,7,7,8,8,8,8,8,8,8,8,8,8,8,8,8,8,8,8,8,8,8,8,8,8,8,8,8,8,8,8,8,8,8,8,8,8,8,8,8,8,8,8,8,8,8,8,8,8,8,8,8,8,8,8,8,8,8,8,8,8,8,8,8,8,8,8,8,8,8,8,8,8,8,8,8,8,8,8,8,8,8,8,8,8,8,8,8,8,8,8,8,8,8,8,8,8,8,8,8,8,8,8,8,8,8,8,8,8,8,8,8,8,8,8,8,8,8,8,8,8,8,8,8,8,8,8,8,8,8,8]
def N111:al:={ np:=1,nt:=25,res:=[(2,none)],body :=
 (zS [0,2] [z0 2]
 (zs (zS [0,2,4] [zm 3 0,zd 4 .geq 3 (.int .u64 4294967296)]
 (zC 4 (zS [0] [zm 5 0,zd 6 .shr 5 (.int .u64 32),zm 0 6]
 (zr [0,2] [zc 2 (zI 32)]))
 .skip))
 (zs (zS [0,2,8] [zm 7 0,zd 8 .geq 7 (.int .u64 65536)]
 (zC 8 (zS [0,2] [zm 9 0,zd 10 .shr 9 (.int .u64 16),zm 0 10]
 (zr [0,2] [zm 11 2,zd 12 .add 11 (zI 16),zm 2 12]))
 .skip))
 (zs (zS [0,2,14] [zm 13 0,zd 14 .geq 13 (.int .u64 256)]
 (zC 14 (zS [0,2] [zm 15 0,zd 16 .shr 15 (.int .u64 8),zm 0 16]
 (zr [0,2] [zm 17 2,zd 18 .add 17 (zI 8),zm 2 18]))
 .skip))
 (zS [2] [zm 19 2,zm 20 0,zy 21 (.conv .u8 (.t 20)),zy 22 (.idxS (.c (.str S1)) (.t 21)),zy 23 (.conv .i64 (.t 22)),zb 24 .add 19 23,zm 2 24]
 .ret))))) }
def N112:al:={ np:=1,nt:=10,res:=[(2,none)],body :=
 (zS [0] [zc 2 (.int .u64 0)]
 (zs (zS [0,4] [zm 3 0,zd 4 .lss 3 (zI 0)]
 (zC 4 (zS [2] [zm 5 0,zy 6 (.conv .u64 (.t 5)),zy 7 (.un .neg (.t 6)),zm 2 7]
 .ret)
 .skip))
 (zS [2] [zm 8 0,zy 9 (.conv .u64 (.t 8)),zm 2 9]
 .ret))) }
def N113:al:={ np:=3,nt:=19,res:=[(6,some (3,true))],body :=
 (zS [0,1,2,6] [zy 6 (.alc zA7)]
 (zS [6] [zm 7 0,zm 8 1,zm 9 2,zm 10 9,zh 10 (zm 11 0),zh 10 (zd 12 .neq 11 (.int .u64 0)),zh 10 (zm 13 12),ze 13 (zm 14 1),ze 13 (zd 15 .neq 14 (.int .u64 0)),zh 10 (zp 16 13 15),zP 17 10 16,zy 18 (.bld [.int .u64 0,.int .u64 0,.bool false] [(0,1,.t 7),(1,1,.t 8),(2,1,.t 17)]),zw (.st 3 [] (.t 6) (.t 18))]
 .ret)) }
def N164:al:={ np:=1,nt:=80,res:=[(2,none)],body :=
 (zS [1] [zo 1 0,zF 2]
 (zs (zS [1,17] [zf 8 0 1,zl 9 1 8,zn 10 9,zd 11 .gtr 10 (zI 300),zm 12 11,ze 12 (zf 13 1 1),ze 12 (zl 14 1 13),ze 12 (zn 15 14),ze 12 (zd 16 .gtr 15 (zI 400)),zp 17 12 16]
 (zC 17 (zS [2] [zF 2]
 .ret)
 .skip))
 (zs (zS [1,19,20,21] [zf 18 0 1,zl 19 1 18,zn 20 19,z0 21]
 (.block 0 (.loop (zS [1,19,20,21,22] [zb 22 .lss 21 20]
 (zs (zC 22 .skip
 (.exit 0))
 (zs (.block 1 (zS [1,3,4,19,20,21] [zm 23 21,zi 24 9 19 21,zL 25 9 24,zy 4 (.alc zA5),zm 3 23,zw (.st 9 [] (.t 4) (.t 25))]
 (zS [1,19,20,21,36] [zL 26 9 4,zk 27 168 [.t 26],zt 28 27,zm 29 28,ze 29 (zL 30 2 1),ze 29 (zf 31 0 4),ze 29 (zl 32 1 31),ze 29 (zk 33 169 [.t 30,.t 32]),ze 29 (zm 34 3),ze 29 (zb 35 .neq 33 34),zp 36 29 35]
 (zC 36 (zS [2] [zF 2]
 .ret)
 .skip))))
 (zr [1,19,20,21] [zd 37 .add 21 (zI 1),zm 21 37])))))))
 (zs (zS [1,39,40,41] [zf 38 1 1,zl 39 1 38,zn 40 39,z0 41]
 (.block 2 (.loop (zS [1,39,40,41,42] [zb 42 .lss 41 40]
 (zs (zC 42 .skip
 (.exit 2))
 (zs (.block 3 (zS [1,5,6,39,40,41] [zm 43 41,zi 44 11 39 41,zL 45 11 44,zy 6 (.alc zA6),zm 5 43,zw (.st 11 [] (.t 6) (.t 45))]
 (zs (zS [1,6,39,40,41,56] [zL 46 11 6,zk 47 170 [.t 46],zt 48 47,zm 49 48,ze 49 (zL 50 2 1),ze 49 (zf 51 0 6),ze 49 (zl 52 1 51),ze 49 (zk 53 171 [.t 50,.t 52]),ze 49 (zm 54 5),ze 49 (zb 55 .neq 53 54),zp 56 49 55]
 (zC 56 (zS [2] [zF 2]
 .ret)
 .skip))
 (zS [1,6,7,39,40,41] [zL 57 2 1,zf 58 1 6,zl 59 1 58,zk 60 169 [.t 57,.t 59],zm 7 60]
 (zS [1,39,40,41,78] [zm 61 7,zd 62 .lss 61 (zI 0),zm 63 62,ze 63 (zL 64 2 1),ze 63 (zf 65 2 6),ze 63 (zl 66 1 65),ze 63 (zk 67 169 [.t 64,.t 66]),ze 63 (zd 68 .lss 67 (zI 0)),zp 69 63 68,zm 70 69,ze 70 (zf 71 0 1),ze 70 (zl 72 1 71),ze 70 (zm 73 7),ze 70 (zi 74 9 72 73),ze 70 (zf 75 1 74),ze 70 (zl 76 1 75),ze 70 (zd 77 .eql 76 (zI 3)),zp 78 70 77]
 (zC 78 (zS [2] [zF 2]
 .ret)
 .skip))))))
 (zr [1,39,40,41] [zd 79 .add 41 (zI 1),zm 41 79])))))))
 (zS [2] [zc 2 (.bool true)]
 .ret))))) }
def N168:al:={ np:=1,nt:=101,res:=[(2,none)],body :=
 (zS [1] [zo 1 0,zF 2]
 (zs (zS [1,29] [zf 3 0 1,zl 4 1 3,zk 5 58 [.t 4],zt 6 5,zm 7 6,ze 7 (zf 8 2 1),ze 7 (zf 9 0 8),ze 7 (zl 10 1 9),ze 7 (zk 11 172 [.t 10,(.c (zI (-16777216))),(.c (zI 16777216))]),ze 7 (zt 12 11),zp 13 7 12,zm 14 13,ze 14 (zf 15 2 1),ze 14 (zf 16 1 15),ze 14 (zl 17 1 16),ze 14 (zk 18 172 [.t 17,(.c (zI (-16777216))),(.c (zI 16777216))]),ze 14 (zt 19 18),zp 20 14 19,zm 21 20,ze 21 (zf 22 4 1),ze 21 (zl 23 1 22),ze 21 (zf 24 5 1),ze 21 (zl 25 1 24),ze 21 (zy 26 (.bls 1 2 [zI 0] [] [(0,.t 23),(1,.t 25)])),ze 21 (zk 27 173 [.t 26]),ze 21 (zt 28 27),zp 29 21 28]
 (zC 29 (zS [2] [zF 2]
 .ret)
 .skip))
 (zs (zS [1,31] [zf 30 1 1,zl 31 1 30]
 (.block 0 (zs (zS [1,31,32] [zd 33 .eql 31 (zI 1),zm 32 33]
 (zC 32 .skip
 (zr [1,31,32] [zd 34 .eql 31 (zI 2),zm 32 34])))
 (zC 32 (zs (zS [1,59] [zf 35 5 1,zl 36 1 35,zf 37 4 1,zl 38 1 37,zb 39 .leq 36 38,zm 40 39,ze 40 (zf 41 6 1),ze 40 (zl 42 1 41),ze 40 (zf 43 5 1),ze 40 (zl 44 1 43),ze 40 (zf 45 4 1),ze 40 (zl 46 1 45),ze 40 (zb 47 .sub 44 46),ze 40 (zk 48 174 [.t 42,.t 47]),ze 40 (zt 49 48),zp 50 40 49,zm 51 50,ze 51 (zf 52 1 1),ze 51 (zl 53 1 52),ze 51 (zd 54 .eql 53 (zI 1)),ze 51 (zm 55 54),zh 55 (zf 56 7 1),zh 55 (zl 57 1 56),ze 51 (zP 58 55 57),zp 59 51 58]
 (zC 59 (zS [2] [zF 2]
 .ret)
 .skip))
 (zs (zS [1,62] [zf 60 7 1,zl 61 1 60,zt 62 61]
 (zC 62 (zS [2] [zf 63 8 1,zl 64 1 63,zd 65 .eql 64 (zI 0),zm 2 65]
 .ret)
 .skip))
 (zs (.reg true [0,1,0,4,0,16,48,112,252,508,1020,2047,4095] [2] [zf 66 8 1,zl 67 1 66,zf 68 6 1,zl 69 1 68,zf 70 6 1,zl 71 1 70,zn 72 71,zd 73 .sub 72 (zI 1),zi 74 2 69 73,zf 75 1 74,zl 76 1 75,zk 77 172 [.t 67,(.c (zI 0)),.t 76],zm 2 77])
 .ret)))
 (zS [1,78] [zd 79 .eql 31 (zI 3),zm 78 79]
 (zC 78 (zS [2] [zf 80 5 1,zl 81 1 80,zf 82 4 1,zl 83 1 82,zb 84 .geq 81 83,zm 85 84,zh 85 (zf 86 6 1),zh 85 (zl 87 1 86),zh 85 (zn 88 87),zh 85 (zd 89 .eql 88 (zI 0)),zP 90 85 89,zm 91 90,zh 91 (zf 92 7 1),zh 91 (zl 93 1 92),zh 91 (zt 94 93),zP 95 91 94,zm 96 95,zh 96 (zf 97 8 1),zh 96 (zl 98 1 97),zh 96 (zd 99 .eql 98 (zI 0)),zP 100 96 99,zm 2 100]
 .ret)
 .skip))))))
 (zS [2] [zF 2]
 .ret)))) }
def N169:al:={ np:=2,nt:=9,res:=[(4,none)],body :=
 (zS [2,3] [zo 2 0,zo 3 1,z0 4]
 (zS [4] [zf 5 0 2,zl 6 1 5,zy 7 (.mk 176 [.t 3]),zk 8 175 [.t 6,.t 7],zm 4 8]
 .ret)) }
def N170:al:={ np:=1,nt:=97,res:=[(2,none)],body :=
 (zS [1] [zo 1 0,zF 2]
 (zs (zs (.reg true [0,1,3,7,15,31,63,127,255,511,1023,2047,4095,8191,16383,32767,65535,131071,262143,131071,655359,2097151,4194303,8388607,16777215,33554431,67108863,134217727,268435455,536870911,1073741823,2147483647,2147483647,6442450943,17179869183,34359738367,68719476735] [1,39] [zf 3 0 1,zl 4 1 3,zk 5 58 [.t 4],zt 6 5,zm 7 6,ze 7 (zf 8 1 1),ze 7 (zl 9 1 8),ze 7 (zk 10 58 [.t 9]),ze 7 (zt 11 10),zp 12 7 11,zm 13 12,ze 13 (zf 14 2 1),ze 13 (zl 15 1 14),ze 13 (zk 16 58 [.t 15]),ze 13 (zt 17 16),zp 18 13 17,zm 19 18,ze 19 (zf 20 1 1),ze 19 (zl 21 1 20),ze 19 (zf 22 2 1),ze 19 (zl 23 1 22),ze 19 (zb 24 .eql 21 23),zp 25 19 24,zm 26 25,ze 26 (zf 27 5 1),ze 26 (zl 28 1 27),ze 26 (zy 29 (.bls 1 1 [zI 0] [] [(0,.t 28)])),ze 26 (zk 30 173 [.t 29]),ze 26 (zt 31 30),zp 32 26 31,zm 33 32,ze 33 (zL 34 11 1),ze 33 (zL 35 11 1),ze 33 (zk 36 178 [.t 35]),ze 33 (zk 37 177 [.t 34,.t 36]),ze 33 (zt 38 37),zp 39 33 38])
 (zC 39 (zS [2] [zF 2]
 .ret)
 .skip))
 (zs (zS [1,41] [zf 40 3 1,zl 41 1 40]
 (.block 0 (zS [1,41,42] [zd 43 .eql 41 (zI 1),zm 42 43]
 (zC 42 (zS [2] [zf 44 4 1,zl 45 1 44,zk 46 172 [.t 45,(.c (zI 1)),(.c (zI 16777216))],zm 47 46,zh 47 (zf 48 6 1),zh 47 (zl 49 1 48),zh 47 (zy 50 (.bls 1 1 [zI 0] [] [(0,.t 49)])),zh 47 (zk 51 173 [.t 50]),zP 52 47 51,zm 53 52,zh 53 (zf 54 7 1),zh 53 (zl 55 1 54),zh 53 (zk 56 58 [.t 55]),zP 57 53 56,zm 2 57]
 .ret)
 (zS [1,41,58] [zd 59 .eql 41 (zI 2),zm 58 59]
 (zC 58 (zS [2] [zf 60 8 1,zl 61 1 60,zk 62 172 [.t 61,(.c (zI 1)),(.c (zI 1048576))],zm 2 62]
 .ret)
 (zS [1,41,63] [zd 64 .eql 41 (zI 3),zm 63 64]
 (zC 63 (zS [2] [zf 65 8 1,zl 66 1 65,zk 67 172 [.t 66,(.c (zI 1)),(.c (zI 32768))],zm 68 67,zh 68 (zf 69 9 1),zh 68 (zl 70 1 69),zh 68 (zk 71 172 [.t 70,(.c (zI 1)),(.c (zI 32768))]),zP 72 68 71,zm 2 72]
 .ret)
 (zS [1,73] [zd 74 .eql 41 (zI 4),zm 73 74]
 (zC 73 (zS [2] [zf 75 6 1,zl 76 1 75,zy 77 (.bls 1 1 [zI 0] [] [(0,.t 76)]),zk 78 173 [.t 77],zm 79 78,zh 79 (zf 80 6 1),zh 79 (zl 81 1 80),zh 79 (zf 82 5 1),zh 79 (zl 83 1 82),zh 79 (zb 84 .lss 81 83),zP 85 79 84,zm 86 85,zh 86 (zf 87 10 1),zh 86 (zl 88 1 87),zh 86 (zk 89 72 [.t 88]),zP 90 86 89,zm 91 90,zh 91 (zf 92 10 1),zh 91 (zl 93 1 92),zh 91 (zy 94 (.call 179 [.t 93,(.c (.fn 180 []))] [])),zh 91 (zt 95 94),zP 96 91 95,zm 2 96]
 .ret)
 .skip))))))))))
 (zS [2] [zF 2]
 .ret)))) }
def N171:al:={ np:=2,nt:=9,res:=[(4,none)],body :=
 (zS [2,3] [zo 2 0,zo 3 1,z0 4]
 (zS [4] [zf 5 1 2,zl 6 1 5,zy 7 (.mk 182 [.t 3]),zk 8 181 [.t 6,.t 7],zm 4 8]
 .ret)) }
def N172:al:={ np:=3,nt:=15,res:=[(6,none)],body :=
 (zS [0,1,2] [zF 6]
 (zS [6] [zm 7 0,zm 8 1,zb 9 .geq 7 8,zm 10 9,zh 10 (zm 11 0),zh 10 (zm 12 2),zh 10 (zb 13 .leq 11 12),zP 14 10 13,zm 6 14]
 .ret)) }
def N173:al:={ np:=1,nt:=6,res:=[(2,none)],body :=
 (zS [0] [zF 2]
 (zS [2] [zq 3 0,zy 4 (.call 11 [.t 3,(.c (.fn 183 []))] []),zt 5 4,zm 2 5]
 .ret)) }
def N174:al:={ np:=2,nt:=31,res:=[(4,none)],body :=
 (zS [0,1] [zF 4]
 (zs (zS [0,1,8] [zm 6 0,zk 7 72 [.t 6],zt 8 7]
 (zC 8 (zS [4] [zF 4]
 .ret)
 .skip))
 (zS [0,1,5] [zm 9 0,zm 10 0,zn 11 10,zd 12 .sub 11 (zI 1),zi 13 2 9 12,zL 14 2 13,zy 5 (.alc zA1),zw (.st 2 [] (.t 5) (.t 14))]
 (zS [4] [zq 15 0,zy 16 (.iadS 2 (.t 15) (.c (zI 0))),zL 17 2 16,zy 18 (.bld [zI 0,zI 0] []),zy 19 (.beq false [0,0] (.t 17) (.t 18)),zm 20 19,zh 20 (zf 21 0 5),zh 20 (zl 22 1 21),zh 20 (zm 23 1),zh 20 (zb 24 .eql 22 23),zP 25 20 24,zm 26 25,zh 26 (zf 27 1 5),zh 26 (zl 28 1 27),zh 26 (zd 29 .leq 28 (zI 1125899906842624)),zP 30 26 29,zm 4 30]
 .ret)))) }
def N175:al:={ np:=2,nt:=19,res:=[(4,none)],body :=
 (zS [0,1] [z0 4]
 (zs (zS [0,1,7,8] [zm 6 0,zn 7 6,z0 8]
 (.block 0 (.loop (zS [0,1,7,8,9] [zb 9 .lss 8 7]
 (zs (zC 9 .skip
 (.exit 0))
 (zs (.block 1 (zS [0,1,5,7,8] [zm 10 8,zm 5 10]
 (zS [0,1,5,7,8,16] [zm 11 1,zm 12 0,zm 13 5,zi 14 9 12 13,zL 15 9 14,zy 16 (.callv (.t 11) [.t 15])]
 (zC 16 (zS [4] [zm 17 5,zm 4 17]
 .ret)
 .skip))))
 (zr [0,1,7,8] [zd 18 .add 8 (zI 1),zm 8 18])))))))
 (zS [4] [zy 4 (.mov (.c (zI (-1))))]
 .ret))) }
def N176:al:={ np:=2,nt:=8,res:=[(3,none)],body :=
 (zS [1,2] [zo 2 0,zF 3]
 (zS [3] [zf 4 0 2,zl 5 1 4,zl 6 1 1,zb 7 .eql 5 6,zm 3 7]
 .ret)) }
def N177:al:={ np:=2,nt:=80,res:=[(4,none)],body :=
 (zS [2,3] [zo 2 0,zo 3 1,zF 4]
 (zS [4] [zf 5 0 2,zl 6 1 5,zf 7 0 3,zl 8 1 7,zb 9 .eql 6 8,zm 10 9,zh 10 (zf 11 1 2),zh 10 (zl 12 1 11),zh 10 (zf 13 1 3),zh 10 (zl 14 1 13),zh 10 (zb 15 .eql 12 14),zP 16 10 15,zm 17 16,zh 17 (zf 18 2 2),zh 17 (zl 19 1 18),zh 17 (zf 20 2 3),zh 17 (zl 21 1 20),zh 17 (zb 22 .eql 19 21),zP 23 17 22,zm 24 23,zh 24 (zf 25 3 2),zh 24 (zl 26 1 25),zh 24 (zf 27 3 3),zh 24 (zl 28 1 27),zh 24 (zb 29 .eql 26 28),zP 30 24 29,zm 31 30,zh 31 (zf 32 4 2),zh 31 (zl 33 1 32),zh 31 (zf 34 4 3),zh 31 (zl 35 1 34),zh 31 (zb 36 .eql 33 35),zP 37 31 36,zm 38 37,zh 38 (zf 39 5 2),zh 38 (zl 40 1 39),zh 38 (zf 41 5 3),zh 38 (zl 42 1 41),zh 38 (zb 43 .eql 40 42),zP 44 38 43,zm 45 44,zh 45 (zf 46 6 2),zh 45 (zl 47 1 46),zh 45 (zf 48 6 3),zh 45 (zl 49 1 48),zh 45 (zb 50 .eql 47 49),zP 51 45 50,zm 52 51,zh 52 (zf 53 7 2),zh 52 (zl 54 1 53),zh 52 (zf 55 7 3),zh 52 (zl 56 1 55),zh 52 (zb 57 .eql 54 56),zP 58 52 57,zm 59 58,zh 59 (zf 60 8 2),zh 59 (zl 61 1 60),zh 59 (zf 62 8 3),zh 59 (zl 63 1 62),zh 59 (zb 64 .eql 61 63),zP 65 59 64,zm 66 65,zh 66 (zf 67 9 2),zh 66 (zl 68 1 67),zh 66 (zf 69 9 3),zh 66 (zl 70 1 69),zh 66 (zb 71 .eql 68 70),zP 72 66 71,zm 73 72,zh 73 (zf 74 10 2),zh 73 (zl 75 1 74),zh 73 (zf 76 10 3),zh 73 (zl 77 1 76),zh 73 (zk 78 184 [.t 75,.t 77]),zP 79 73 78,zm 4 79]
 .ret)) }
def N178:al:={ np:=1,nt:=50,res:=[(2,some (11,true))],body :=
 (zS [1,2] [zo 1 0,zy 2 (.alc zA6)]
 (zS [1,2,3] [zf 4 0 1,zl 5 1 4,zf 6 1 1,zl 7 1 6,zf 8 2 1,zl 9 1 8,zf 10 3 1,zl 11 1 10,zf 12 5 1,zl 13 1 12,zy 14 (.bld [.str [],.str [],.str [],zI 0,zI 0,zI 0,zI 0,.str [],zI 0,zI 0,.nils] [(0,1,.t 5),(1,1,.t 7),(2,1,.t 9),(3,1,.t 11),(5,1,.t 13)]),zy 3 (.alc zA6),zw (.st 11 [] (.t 3) (.t 14))]
 (zs (zS [1,2,3,16] [zf 15 3 1,zl 16 1 15]
 (.block 0 (zS [1,2,3,16,17] [zd 18 .eql 16 (zI 1),zm 17 18]
 (zC 17 (.reg true [0,1,0,4,0,16,3,67,207,463,1023,2047] [2,3] [zf 19 4 1,zl 20 1 19,zf 21 6 1,zl 22 1 21,zf 23 7 1,zl 24 1 23,zf 25 4 3,zw (.st 1 [] (.t 25) (.t 20)),zf 26 6 3,zw (.st 1 [] (.t 26) (.t 22)),zf 27 7 3,zw (.st 1 [] (.t 27) (.t 24))])
 (zS [1,2,3,16,28] [zd 29 .eql 16 (zI 2),zm 28 29]
 (zC 28 (zr [2,3] [zf 30 8 1,zl 31 1 30,zf 32 8 3,zw (.st 1 [] (.t 32) (.t 31))])
 (zS [1,2,3,16,33] [zd 34 .eql 16 (zI 3),zm 33 34]
 (zC 33 (.reg true [0,1,0,4,3,19,63,127] [2,3] [zf 35 8 1,zl 36 1 35,zf 37 9 1,zl 38 1 37,zf 39 8 3,zw (.st 1 [] (.t 39) (.t 36)),zf 40 9 3,zw (.st 1 [] (.t 40) (.t 38))])
 (zS [1,2,3,41] [zd 42 .eql 16 (zI 4),zm 41 42]
 (zC 41 (.reg true [0,1,0,4,3,19,63,127] [2,3] [zf 43 6 1,zl 44 1 43,zf 45 10 1,zl 46 1 45,zf 47 6 3,zw (.st 1 [] (.t 47) (.t 44)),zf 48 10 3,zw (.st 1 [] (.t 48) (.t 46))])
 .skip))))))))))
 (zS [2] [zL 49 11 3,zw (.st 11 [] (.t 2) (.t 49))]
 .ret)))) }
def N179:al:={ np:=2,nt:=9,res:=[(4,none)],body :=
 (zS [0,1] [zF 4]
 (zS [4] [zq 5 0,zm 6 1,zk 7 185 [.t 5,.t 6],zd 8 .geq 7 (zI 0),zm 4 8]
 .ret)) }
def N180:al:={ np:=1,nt:=13,res:=[(2,none)],body :=
 (zS [1] [zo 1 0,zF 2]
 (zS [2] [zf 3 0 1,zl 4 1 3,zk 5 172 [.t 4,(.c (zI 0)),(.c (zI 4194304))],zt 6 5,zm 7 6,ze 7 (zf 8 1 1),ze 7 (zl 9 1 8),ze 7 (zk 10 172 [.t 9,(.c (zI 0)),(.c (zI 1099511627776))]),ze 7 (zt 11 10),zp 12 7 11,zm 2 12]
 .ret)) }
def N181:al:={ np:=2,nt:=19,res:=[(4,none)],body :=
 (zS [0,1] [z0 4]
 (zs (zS [0,1,7,8] [zm 6 0,zn 7 6,z0 8]
 (.block 0 (.loop (zS [0,1,7,8,9] [zb 9 .lss 8 7]
 (zs (zC 9 .skip
 (.exit 0))
 (zs (.block 1 (zS [0,1,5,7,8] [zm 10 8,zm 5 10]
 (zS [0,1,5,7,8,16] [zm 11 1,zm 12 0,zm 13 5,zi 14 11 12 13,zL 15 11 14,zy 16 (.callv (.t 11) [.t 15])]
 (zC 16 (zS [4] [zm 17 5,zm 4 17]
 .ret)
 .skip))))
 (zr [0,1,7,8] [zd 18 .add 8 (zI 1),zm 8 18])))))))
 (zS [4] [zy 4 (.mov (.c (zI (-1))))]
 .ret))) }
def N182:al:={ np:=2,nt:=8,res:=[(3,none)],body :=
 (zS [1,2] [zo 2 0,zF 3]
 (zS [3] [zf 4 0 2,zl 5 1 4,zl 6 1 1,zb 7 .eql 5 6,zm 3 7]
 .ret)) }
def N183:al:={ np:=1,nt:=9,res:=[(2,none)],body :=
 (zS [0] [zF 2]
 (zS [2] [zm 3 0,zy 4 (.bin .lss (.t 3) (.c (zI (-4194304)))),zm 5 4,ze 5 (zm 6 0),ze 5 (zd 7 .gtr 6 (zI 4194304)),zp 8 5 7,zm 2 8]
 .ret)) }
def N184:al:={ np:=2,nt:=26,res:=[(4,none)],body :=
 (zS [0,1] [zF 4]
 (zs (zS [0,1,10] [zm 6 0,zn 7 6,zm 8 1,zn 9 8,zb 10 .neq 7 9]
 (zC 10 (zS [4] [zF 4]
 .ret)
 .skip))
 (zs (zS [0,1,12,13] [zm 11 0,zn 12 11,z0 13]
 (.block 0 (.loop (zS [0,1,12,13,14] [zb 14 .lss 13 12]
 (zs (zC 14 .skip
 (.exit 0))
 (zs (.block 1 (zS [0,1,5,12,13] [zm 15 13,zm 5 15]
 (zs (.reg true [0,0,3,7,0,0,48,112,255] [0,1,12,13,24] [zm 16 0,zm 17 5,zi 18 2 16 17,zL 19 2 18,zm 20 1,zm 21 5,zi 22 2 20 21,zL 23 2 22,zy 24 (.beq true [0,0] (.t 19) (.t 23))])
 (zC 24 (zS [4] [zF 4]
 .ret)
 .skip))))
 (zr [0,1,12,13] [zd 25 .add 13 (zI 1),zm 13 25])))))))
 (zS [4] [zc 4 (.bool true)]
 .ret)))) }
def N185:al:={ np:=2,nt:=19,res:=[(4,none)],body :=
 (zS [0,1] [z0 4]
 (zs (zS [0,1,7,8] [zm 6 0,zn 7 6,z0 8]
 (.block 0 (.loop (zS [0,1,7,8,9] [zb 9 .lss 8 7]
 (zs (zC 9 .skip
 (.exit 0))
 (zs (.block 1 (zS [0,1,5,7,8] [zm 10 8,zm 5 10]
 (zS [0,1,5,7,8,16] [zm 11 1,zm 12 0,zm 13 5,zi 14 2 12 13,zL 15 2 14,zy 16 (.callv (.t 11) [.t 15])]
 (zC 16 (zS [4] [zm 17 5,zm 4 17]
 .ret)
 .skip))))
 (zr [0,1,7,8] [zd 18 .add 8 (zI 1),zm 8 18])))))))
 (zS [4] [zy 4 (.mov (.c (zI (-1))))]
 .ret))) }
def N213:al:={ np:=1,nt:=16,res:=[(2,none),(3,none)],body :=
 (zS [1] [zo 1 0,zc 2 .nils,z0 3]
 (zS [4,5] [zL 7 2 1,zk 8 253 [.t 7],zm 6 8,zx 9 0 6,zx 10 1 6,zm 4 9,zm 5 10]
 (zs (zS [4,5,12] [zm 11 5,zd 12 .neq 11 (zI 0)]
 (zC 12 (zS [2,3] [zm 13 5,zc 2 .nils,zm 3 13]
 .ret)
 .skip))
 (zS [2,3] [zm 14 4,zk 15 254 [.t 14],zq 2 15,z0 3]
 .ret)))) }
def N220:al:={ np:=1,nt:=18,res:=[(2,none),(3,none)],body :=
 (zS [1] [zo 1 0,zc 2 .nils,z0 3]
 (zS [4,5] [zL 7 2 1,zk 8 253 [.t 7],zm 6 8,zx 9 0 6,zx 10 1 6,zm 4 9,zm 5 10]
 (zs (zS [4,5,12] [zm 11 5,zd 12 .neq 11 (zI 0)]
 (zC 12 (zS [2,3] [zm 13 5,zc 2 .nils,zm 3 13]
 .ret)
 .skip))
 (zS [2,3] [zm 14 4,zy 15 (.nck (.t 14)),zf 16 1 15,zl 17 1 16,zq 2 17,z0 3]
 .ret)))) }
def N221:al:={ np:=1,nt:=9,res:=[(2,none),(3,none)],body :=
 (zS [1] [zo 1 0,zc 2 .nils,z0 3]
 (zs (zS [1,6] [zL 4 2 1,zk 5 234 [.t 4],zt 6 5]
 (zC 6 (zS [2,3] [zc 2 .nils,zc 3 (zI 1)]
 .ret)
 .skip))
 (zS [2,3] [zL 7 2 1,zk 8 261 [.t 7],zq 2 8,z0 3]
 .ret))) }
def N223:al:={ np:=2,nt:=9,res:=[(4,none)],body :=
 (zS [0,1] [zF 4]
 (zS [4] [zq 5 0,zm 6 1,zk 7 262 [.t 5,.t 6],zd 8 .geq 7 (zI 0),zm 4 8]
 .ret)) }
def N225:al:={ np:=2,nt:=26,res:=[(4,none),(5,none)],body :=
 (zS [2,3] [zo 2 0,zo 3 1,z0 4,z0 5]
 (zs (zS [2,3,13] [zL 6 2 2,zk 7 106 [.t 6],zt 8 7,zm 9 8,ze 9 (zL 10 2 3),ze 9 (zk 11 106 [.t 10]),ze 9 (zt 12 11),zp 13 9 12]
 (zC 13 (zS [4,5] [z0 4,zc 5 (zI 1)]
 .ret)
 .skip))
 (zs (.reg true [0,1,0,4,15,0,32,0,128,511,1023,2047,4095,8191] [4,5] [zf 14 0 2,zl 15 1 14,zf 16 0 3,zl 17 1 16,zk 18 267 [.t 15,.t 17],zf 19 1 2,zl 20 1 19,zf 21 1 3,zl 22 1 21,zk 23 267 [.t 20,.t 22],zy 24 (.bls 1 2 [zI 0] [] [(0,.t 18),(1,.t 23)]),zk 25 266 [.t 24],zm 4 25,z0 5])
 .ret))) }
def N234:al:={ np:=1,nt:=17,res:=[(2,none)],body :=
 (zS [1] [zo 1 0,zF 2]
 (zS [3,4] [zL 6 2 1,zk 7 273 [.t 6],zm 5 7,zx 8 0 5,zx 9 1 5,zq 3 8,zm 4 9]
 (zS [2] [zm 10 4,zd 11 .eql 10 (zI 0),zm 12 11,zh 12 (zq 13 3),zh 12 (zn 14 13),zh 12 (zd 15 .eql 14 (zI 0)),zP 16 12 15,zm 2 16]
 .ret))) }
def N243:al:={ np:=1,nt:=18,res:=[(2,none),(3,none)],body :=
 (zS [1] [zo 1 0,zc 2 .nils,z0 3]
 (zS [4,5] [zL 7 2 1,zk 8 280 [.t 7],zm 6 8,zx 9 0 6,zx 10 1 6,zm 4 9,zm 5 10]
 (zs (zS [4,5,12] [zm 11 5,zd 12 .neq 11 (zI 0)]
 (zC 12 (zS [2,3] [zm 13 5,zc 2 .nils,zm 3 13]
 .ret)
 .skip))
 (zS [2,3] [zm 14 4,zy 15 (.nck (.t 14)),zf 16 2 15,zl 17 1 16,zq 2 17,z0 3]
 .ret)))) }
def N244:al:={ np:=1,nt:=18,res:=[(2,none),(3,none)],body :=
 (zS [1] [zo 1 0,zc 2 .nils,z0 3]
 (zS [4,5] [zL 7 2 1,zk 8 280 [.t 7],zm 6 8,zx 9 0 6,zx 10 1 6,zm 4 9,zm 5 10]
 (zs (zS [4,5,12] [zm 11 5,zd 12 .neq 11 (zI 0)]
 (zC 12 (zS [2,3] [zm 13 5,zc 2 .nils,zm 3 13]
 .ret)
 .skip))
 (zS [2,3] [zm 14 4,zy 15 (.nck (.t 14)),zf 16 3 15,zl 17 1 16,zq 2 17,z0 3]
 .ret)))) }
def N253:al:={ np:=1,nt:=93,res:=[(2,none),(3,none)],body :=
 (zS [1] [zo 1 0,zc 2 .nilp,z0 3]
 (zS [1,4,5] [zL 13 2 1,zk 14 221 [.t 13],zm 12 14,zx 15 0 12,zx 16 1 12,zq 4 15,zm 5 16]
 (zs (zS [1,4,5,18] [zm 17 5,zd 18 .neq 17 (zI 0)]
 (zC 18 (zS [2,3] [zm 19 5,zc 2 .nilp,zm 3 19]
 .ret)
 .skip))
 (zS [1,6] [zq 20 4,zy 21 (.bld [.nils,.nils,.nils] [(0,1,.t 20)]),zy 22 (.box [] (.t 21)),zm 6 22]
 (zs (zS [1,6,24,25,26] [zf 23 1 1,zl 24 1 23,zn 25 24,z0 26]
 (.block 0 (.loop (zS [1,6,24,25,26,27] [zb 27 .lss 26 25]
 (zs (zC 27 .skip
 (.exit 0))
 (zs (.block 1 (zS [1,6,8,24,25,26] [zi 28 4 24 26,zL 29 4 28,zy 8 (.alc zA9),zw (.st 4 [] (.t 8) (.t 29))]
 (zs (.reg true [0,1,0,4,15,31,0,64,0,256,960,1984,0,4096,0,16384,61440,126976,0,0,0,1835071,3936255,8388607] [1,6,9,10,11,24,25,26] [zf 30 0 1,zl 31 1 30,zf 32 0 8,zl 33 1 32,zi 34 3 31 33,zL 35 3 34,zf 36 0 1,zl 37 1 36,zf 38 1 8,zl 39 1 38,zi 40 3 37 39,zL 41 3 40,zf 42 0 1,zl 43 1 42,zf 44 2 8,zl 45 1 44,zi 46 3 43 45,zL 47 3 46,zy 9 (.alc zA3),zy 10 (.alc zA3),zy 11 (.alc zA3),zw (.st 3 [] (.t 9) (.t 35)),zw (.st 3 [] (.t 10) (.t 41)),zw (.st 3 [] (.t 11) (.t 47))])
 (zs (.reg true [0,0,2,6,14,0,32,0,128,480,0,1024,4064,8160,16382,32767,65535,131071] [1,6,9,10,11,24,25,26] [zm 48 6,zm 49 6,zy 50 (.nck (.t 49)),zf 51 1 50,zl 52 1 51,zf 53 2 9,zl 54 1 53,zf 55 2 10,zl 56 1 55,zb 57 .add 54 56,zf 58 2 11,zl 59 1 58,zb 60 .add 57 59,zy 61 (.bls 1 1 [zI 0] [] [(0,.t 60)]),zy 62 (.app 1 8 false (.t 52) (.t 61)),zy 63 (.nck (.t 48)),zf 64 1 63,zw (.st 1 [] (.t 64) (.t 62))])
 (.reg true [0,0,2,6,14,0,32,0,128,480,0,1024,4064,0,8192,0,32768,122880,0,262144,1040384,2097120,4194272,8388606,16777215,33554431,67108863] [1,6,24,25,26] [zm 65 6,zm 66 6,zy 67 (.nck (.t 66)),zf 68 2 67,zl 69 1 68,zf 70 0 9,zl 71 1 70,zf 72 0 10,zl 73 1 72,zb 74 .add 71 73,zf 75 0 11,zl 76 1 75,zb 77 .add 74 76,zf 78 1 9,zl 79 1 78,zf 80 1 10,zl 81 1 80,zb 82 .add 79 81,zf 83 1 11,zl 84 1 83,zb 85 .add 82 84,zy 86 (.bld [zI 0,zI 0] [(0,1,.t 77),(1,1,.t 85)]),zy 87 (.bls 2 1 [zI 0,zI 0] [] [(0,.t 86)]),zy 88 (.app 2 16 false (.t 69) (.t 87)),zy 89 (.nck (.t 65)),zf 90 2 89,zw (.st 1 [] (.t 90) (.t 88))])))))
 (zr [1,6,24,25,26] [zd 91 .add 26 (zI 1),zm 26 91])))))))
 (zS [2,3] [zm 92 6,zm 2 92,z0 3]
 .ret)))))) }
def N254:al:={ np:=1,nt:=27,res:=[(2,none)],body :=
 (zS [0] [zc 2 .nils]
 (zS [0,3] [zm 5 0,zy 6 (.nck (.t 5)),zf 7 1 6,zl 8 1 7,zn 9 8,zy 10 (.mks 1 8 [zI 0] (.c (zI 0)) (.t 9)),zq 3 10]
 (zs (zS [0,3,15,16] [zm 11 0,zy 12 (.nck (.t 11)),zf 13 1 12,zl 14 1 13,zn 15 14,z0 16]
 (.block 0 (.loop (zS [0,3,15,16,17] [zb 17 .lss 16 15]
 (zs (zC 17 .skip
 (.exit 0))
 (zs (.block 1 (zS [0,3,4,15,16] [zm 18 16,zm 4 18]
 (zr [0,3,15,16] [zm 19 3,zm 20 0,zm 21 4,zk 22 256 [.t 20,.t 21],zy 23 (.bls 1 1 [zI 0] [] [(0,.t 22)]),zy 24 (.app 1 8 false (.t 19) (.t 23)),zq 3 24])))
 (zr [0,3,15,16] [zd 25 .add 16 (zI 1),zm 16 25])))))))
 (zS [2] [zq 26 3,zq 2 26]
 .ret)))) }
def N256:al:={ np:=2,nt:=67,res:=[(4,none)],body :=
 (zS [0,1] [z0 4]
 (zS [0,1,5] [zy 5 (.mov (.c (zI (-2))))]
 (zs (zS [0,1,5,15,16] [zm 9 0,zy 10 (.nck (.t 9)),zf 11 0 10,zl 12 1 11,zm 13 1,zi 14 3 12 13,zL 15 3 14,z0 16]
 (.block 0 (.loop (zS [0,1,5,15,16,17] [zd 17 .lss 16 (zI 3)]
 (zs (zC 17 .skip
 (.exit 0))
 (zs (.block 1 (zS [0,1,5,7,15,16] [zy 18 (.idxA 3 1 false (.t 15) (.t 16)),zm 7 18]
 (zs (zs (.reg true [0,1,3,7,15,31,63,7,255,511,7,1031,3079,7175,7,31751,64519,131071,262143] [0,1,5,7,15,16,37] [zm 19 7,zd 20 .lss 19 (zI 0),zm 21 20,ze 21 (zm 22 0),ze 21 (zy 23 (.nck (.t 22))),ze 21 (zf 24 1 23),ze 21 (zl 25 1 24),ze 21 (zm 26 7),ze 21 (zi 27 1 25 26),ze 21 (zl 28 1 27),ze 21 (zm 29 0),ze 21 (zy 30 (.nck (.t 29))),ze 21 (zf 31 1 30),ze 21 (zl 32 1 31),ze 21 (zm 33 1),ze 21 (zi 34 1 32 33),ze 21 (zl 35 1 34),ze 21 (zb 36 .geq 28 35),zp 37 21 36])
 (zC 37 (.exit 1)
 .skip))
 (zs (zS [0,1,5,7,15,16,39] [zm 38 5,zd 39 .lss 38 (zI 0)]
 (zC 39 (zS [0,1,5,15,16] [zm 40 7,zm 5 40]
 (.exit 1))
 .skip))
 (zS [0,1,5,7,8,15,16] [zm 41 0,zm 42 1,zm 43 7,zm 44 5,zk 45 268 [.t 41,.t 42,.t 43,.t 44],zm 8 45]
 (zS [0,1,5,7,15,16,56] [zm 46 8,zd 47 .gtr 46 (zI 0),zm 48 47,ze 48 (zm 49 8),ze 48 (zd 50 .eql 49 (zI 0)),ze 48 (zm 51 50),zh 51 (zm 52 7),zh 51 (zm 53 5),zh 51 (zb 54 .lss 52 53),ze 48 (zP 55 51 54),zp 56 48 55]
 (zC 56 (zr [0,1,5,15,16] [zm 57 7,zm 5 57])
 .skip)))))))
 (zr [0,1,5,15,16] [zd 58 .add 16 (zI 1),zm 16 58])))))))
 (zs (zS [5,65] [zm 59 5,zy 60 (.bin .eql (.t 59) (.c (zI (-2)))),zm 61 60,zh 61 (zm 62 0),zh 61 (zm 63 1),zh 61 (zk 64 263 [.t 62,.t 63,(.c (zI (-1)))]),zP 65 61 64]
 (zC 65 (zS [4] [zy 4 (.mov (.c (zI (-1))))]
 .ret)
 .skip))
 (zS [4] [zm 66 5,zm 4 66]
 .ret))))) }
def N261:al:={ np:=1,nt:=72,res:=[(2,none)],body :=
 (zS [1] [zo 1 0,zc 2 .nils]
 (zS [1,3] [zy 14 (.mkm 3 2),zm 3 14]
 (zs (zS [1,3,16,17,18] [zf 15 1 1,zl 16 1 15,zn 17 16,z0 18]
 (.block 0 (.loop (zS [1,3,16,17,18,19] [zb 19 .lss 18 17]
 (zs (zC 19 .skip
 (.exit 0))
 (zs (.block 1 (zS [1,3,4,5,16,17,18] [zm 20 18,zi 21 4 16 18,zL 22 4 21,zy 5 (.alc zA9),zm 4 20,zw (.st 4 [] (.t 5) (.t 22))]
 (zS [1,3,4,5,16,17,18,23] [z0 23]
 (.block 2 (.loop (zS [1,3,4,5,16,17,18,23,24] [zd 24 .lss 23 (zI 3)]
 (zs (zC 24 .skip
 (.exit 2))
 (zs (.block 3 (zS [1,3,4,5,6,16,17,18,23] [zm 25 23,zm 6 25]
 (zr [1,3,4,5,16,17,18,23] [zm 26 3,zL 27 4 5,zm 28 6,zk 29 298 [.t 27,.t 28],zm 30 4,zw (.mpu (.ints .i64 2) 3 2 (zI 0) (.t 26) (.t 29) (.t 30))])))
 (zr [1,3,4,5,16,17,18,23] [zd 31 .add 23 (zI 1),zm 23 31])))))))))
 (zr [1,3,16,17,18] [zd 32 .add 18 (zI 1),zm 18 32])))))))
 (zS [1,3,7] [zf 33 1 1,zl 34 1 33,zn 35 34,zy 36 (.mks 3 24 [zI 0,zI 0,zI 0] (.t 35) (.t 35)),zq 7 36]
 (zs (zS [3,7,38,39,40] [zf 37 1 1,zl 38 1 37,zn 39 38,z0 40]
 (.block 4 (.loop (zS [3,7,38,39,40,41] [zb 41 .lss 40 39]
 (zs (zC 41 .skip
 (.exit 4))
 (zs (.block 5 (zS [3,7,8,9,38,39,40] [zm 42 40,zi 43 4 38 40,zL 44 4 43,zy 9 (.alc zA9),zm 8 42,zw (.st 4 [] (.t 9) (.t 44))]
 (zS [3,7,8,9,38,39,40,45] [z0 45]
 (.block 6 (.loop (zS [3,7,8,9,38,39,40,45,46] [zd 46 .lss 45 (zI 3)]
 (zs (zC 46 .skip
 (.exit 6))
 (zs (.block 7 (zS [3,7,8,9,10,38,39,40,45] [zm 47 45,zm 10 47]
 (zS [3,7,8,9,10,11,38,39,40,45] [zL 48 4 9,zm 49 10,zk 50 298 [.t 48,.t 49],zy 11 (.alc zA1),zw (.st 2 [] (.t 11) (.t 50))]
 (zS [3,7,8,9,10,12,13,38,39,40,45] [zm 52 3,zy 53 (.iadA 2 1 (.t 11) (.c (zI 1))),zl 54 1 53,zy 55 (.iadA 2 1 (.t 11) (.c (zI 0))),zl 56 1 55,zy 57 (.bld [zI 0,zI 0] [(0,1,.t 54),(1,1,.t 56)]),zy 58 (.mpl (.ints .i64 2) 3 2 true (zI 0) (.t 52) (.t 57)),zm 51 58,zx 59 0 51,zx 60 1 51,zm 12 59,zm 13 60]
 (zs (zS [3,7,8,9,10,12,38,39,40,45,62] [zm 61 13,zt 62 61]
 (zC 62 (zr [3,7,8,9,10,12,38,39,40,45] [zy 12 (.mov (.c (zI (-1))))])
 .skip))
 (zr [3,7,8,9,38,39,40,45] [zm 63 7,zm 64 8,zm 65 10,zm 66 12,zi 67 3 63 64,zy 68 (.iadA 3 1 (.t 67) (.t 65)),zw (.st 1 [] (.t 68) (.t 66))]))))))
 (zr [3,7,8,9,38,39,40,45] [zd 69 .add 45 (zI 1),zm 45 69])))))))))
 (zr [3,7,38,39,40] [zd 70 .add 40 (zI 1),zm 40 70])))))))
 (zS [2] [zq 71 7,zq 2 71]
 .ret)))))) }
def N262:al:={ np:=2,nt:=19,res:=[(4,none)],body :=
 (zS [0,1] [z0 4]
 (zs (zS [0,1,7,8] [zm 6 0,zn 7 6,z0 8]
 (.block 0 (.loop (zS [0,1,7,8,9] [zb 9 .lss 8 7]
 (zs (zC 9 .skip
 (.exit 0))
 (zs (.block 1 (zS [0,1,5,7,8] [zm 10 8,zm 5 10]
 (zS [0,1,5,7,8,16] [zm 11 1,zm 12 0,zm 13 5,zi 14 1 12 13,zl 15 1 14,zb 16 .eql 11 15]
 (zC 16 (zS [4] [zm 17 5,zm 4 17]
 .ret)
 .skip))))
 (zr [0,1,7,8] [zd 18 .add 8 (zI 1),zm 8 18])))))))
 (zS [4] [zy 4 (.mov (.c (zI (-1))))]
 .ret))) }
def N263:al:={ np:=3,nt:=16,res:=[(6,none)],body :=
 (zS [0,1,2] [zF 6]
 (zS [6] [zm 7 0,zy 8 (.nck (.t 7)),zf 9 0 8,zl 10 1 9,zm 11 1,zi 12 3 10 11,zy 13 (.slA 3 1 (.t 12)),zm 14 2,zk 15 223 [.t 13,.t 14],zm 6 15]
 .ret)) }
def N264:al:={ np:=3,nt:=73,res:=[(6,none),(7,none)],body :=
 (zS [0,1,2] [z0 6,z0 7]
 (zs (.reg true [0,1,3,7,0,31,63,0,128,384,896,0,3968,8064,16383,32767] [0,1,2,8] [zm 11 0,zy 12 (.nck (.t 11)),zf 13 1 12,zl 14 1 13,zm 15 1,zi 16 1 14 15,zl 17 1 16,zm 18 0,zy 19 (.nck (.t 18)),zf 20 1 19,zl 21 1 20,zm 22 2,zi 23 1 21 22,zl 24 1 23,zb 25 .sub 17 24,zm 8 25])
 (zs (.reg true [0,1,3,7,0,31,63,127,0,256,768,1792,0,7936,16128,32512,65535,0,131072,393216,917504,0,4063232,8257536,16646144,0,33554432,100663296,234881024,0,1040187392,2113929216,4261412864,8589803520,131071,34359738367] [8,9,10] [zm 26 0,zy 27 (.nck (.t 26)),zf 28 2 27,zl 29 1 28,zm 30 1,zi 31 2 29 30,zf 32 0 31,zl 33 1 32,zm 34 0,zy 35 (.nck (.t 34)),zf 36 2 35,zl 37 1 36,zm 38 2,zi 39 2 37 38,zf 40 0 39,zl 41 1 40,zb 42 .sub 33 41,zm 43 0,zy 44 (.nck (.t 43)),zf 45 2 44,zl 46 1 45,zm 47 1,zi 48 2 46 47,zf 49 1 48,zl 50 1 49,zm 51 0,zy 52 (.nck (.t 51)),zf 53 2 52,zl 54 1 53,zm 55 2,zi 56 2 54 55,zf 57 1 56,zl 58 1 57,zb 59 .sub 50 58,zm 9 42,zm 10 59])
 (zS [6,7] [zm 60 8,zm 61 8,zm 62 8,zy 63 (.un .neg (.t 62)),zy 64 (.mx (.t 61) (.t 63)),zb 65 .mul 60 64,zm 66 9,zm 67 9,zb 68 .mul 66 67,zm 69 10,zm 70 10,zb 71 .mul 69 70,zb 72 .add 68 71,zm 6 65,zm 7 72]
 .ret)))) }
def N265:al:={ np:=1,nt:=15,res:=[(2,some (2,true))],body :=
 (zS [0,2] [zy 2 (.alc zA1)]
 (zS [2,3] [zm 6 0,zk 7 112 [.t 6],zm 8 0,zd 9 .lss 8 (zI 0),zk 10 113 [(.c (.int .u64 0)),.t 7,.t 9],zk 11 105 [.t 10],zm 5 11,zx 12 0 5,zx 13 1 5,zy 3 (.alc zA1),zw (.st 2 [] (.t 3) (.t 12)),zm 4 13]
 (zS [2] [zL 14 2 3,zw (.st 2 [] (.t 2) (.t 14))]
 .ret))) }
def N266:al:={ np:=1,nt:=18,res:=[(2,none)],body :=
 (zS [0] [z0 2]
 (zS [0,3] [z0 3]
 (zs (zS [3,6,7,8] [zq 6 0,zn 7 6,z0 8]
 (.block 0 (.loop (zS [3,6,7,8,9] [zb 9 .lss 8 7]
 (zs (zC 9 .skip
 (.exit 0))
 (zs (.block 1 (zS [3,5,6,7,8] [zi 10 1 6 8,zl 11 1 10,zm 5 11]
 (zS [3,5,6,7,8,14] [zm 12 5,zm 13 3,zb 14 .neq 12 13]
 (zC 14 (zS [2] [zm 15 5,zm 2 15]
 .ret)
 .skip))))
 (zr [3,6,7,8] [zd 16 .add 8 (zI 1),zm 8 16])))))))
 (zS [2] [zm 17 3,zm 2 17]
 .ret)))) }
def N267:al:={ np:=2,nt:=20,res:=[(4,none)],body :=
 (zS [0,1] [z0 4]
 (zS [0,1,5] [zm 7 0,zk 8 299 [.t 7],zm 5 8]
 (zS [0,1,5,6] [zm 9 1,zk 10 299 [.t 9],zm 6 10]
 (zs (zS [0,1,6,11] [zm 11 5]
 (zC 11 (zs (zS [12] [zm 12 6]
 (zC 12 (zS [4] [z0 4]
 .ret)
 .skip))
 (zS [4] [zy 4 (.mov (.c (zI (-1))))]
 .ret))
 .skip))
 (zs (zS [0,1,13] [zm 13 6]
 (zC 13 (zS [4] [zc 4 (zI 1)]
 .ret)
 .skip))
 (zs (zS [0,1,16] [zm 14 0,zm 15 1,zb 16 .lss 14 15]
 (zC 16 (zS [4] [zy 4 (.mov (.c (zI (-1))))]
 .ret)
 .skip))
 (zs (zS [19] [zm 17 0,zm 18 1,zb 19 .gtr 17 18]
 (zC 19 (zS [4] [zc 4 (zI 1)]
 .ret)
 .skip))
 (zS [4] [z0 4]
 .ret)))))))) }
def N268:al:={ np:=4,nt:=52,res:=[(8,none)],body :=
 (zS [0,1,2,3] [z0 8]
 (zS [0,1,3,9,10] [zm 20 0,zm 21 1,zm 22 2,zk 23 264 [.t 20,.t 21,.t 22],zm 19 23,zx 24 0 19,zx 25 1 19,zm 9 24,zm 10 25]
 (zS [9,10,11,12] [zm 27 0,zm 28 1,zm 29 3,zk 30 264 [.t 27,.t 28,.t 29],zm 26 30,zx 31 0 26,zx 32 1 26,zm 11 31,zm 12 32]
 (zS [10,11,13] [zm 34 9,zm 35 12,zk 36 99 [.t 34,.t 35],zm 33 36,zx 37 0 33,zx 38 1 33,zy 13 (.alc zA1),zw (.st 2 [] (.t 13) (.t 37)),zm 14 38]
 (zS [13,15] [zm 40 11,zm 41 10,zk 42 99 [.t 40,.t 41],zm 39 42,zx 43 0 39,zx 44 1 39,zy 15 (.alc zA1),zw (.st 2 [] (.t 15) (.t 43)),zm 16 44]
 (zS [17] [zL 46 2 13,zL 47 2 15,zk 48 225 [.t 46,.t 47],zm 45 48,zx 49 0 45,zx 50 1 45,zm 17 49,zm 18 50]
 (zS [8] [zm 51 17,zm 8 51]
 .ret))))))) }
def N271:al:={ np:=2,nt:=11,res:=[(4,none),(5,none)],body :=
 (zS [1,2] [zo 2 0,z0 4,z0 5]
 (zS [4,5] [zL 6 2 2,zm 7 1,zk 8 301 [.t 6,.t 7,(.c (.bool false))],zx 9 0 8,zx 10 1 8,zm 4 9,zm 5 10]
 .ret)) }
def N273:al:={ np:=1,nt:=202,res:=[(2,none),(3,none)],body :=
 (zS [1] [zo 1 0,zc 2 .nils,z0 3]
 (zs (zS [1,24] [zL 22 2 1,zk 23 302 [.t 22],zt 24 23]
 (zC 24 (zS [2,3] [zc 2 .nils,zc 3 (zI 4)]
 .ret)
 .skip))
 (zS [1,4] [zy 4 (.alc MO)]
 (zS [1,4,5] [zf 25 0 1,zl 26 1 25,zn 27 26,zy 28 (.mks 1 1 [.bool false] (.t 27) (.t 27)),zy 5 (.alc [.own 1 []]),zw (.st 1 [] (.t 5) (.t 28))]
 (zS [1,4,5,6] [zy 29 (.mkm 4 1),zm 6 29]
 (zs (zS [1,4,5,6,31,32,33] [zf 30 0 1,zl 31 1 30,zn 32 31,z0 33]
 (.block 0 (.loop (zS [1,4,5,6,31,32,33,34] [zb 34 .lss 33 32]
 (zs (zC 34 .skip
 (.exit 0))
 (zs (.block 1 (zS [1,4,5,6,7,8,31,32,33] [zm 35 33,zi 36 3 31 33,zL 37 3 36,zy 8 (.alc zA3),zm 7 35,zw (.st 3 [] (.t 8) (.t 37))]
 (zs (zs (.reg true [0,0,0,4,12,31,63] [1,4,5,6,7,31,32,33] [zl 38 1 5,zm 39 7,zL 40 3 8,zk 41 303 [.t 40],zt 42 41,zi 43 1 38 39,zw (.st 1 [] (.t 43) (.t 42))])
 (zS [1,4,5,6,7,31,32,33,47] [zl 44 1 5,zm 45 7,zi 46 1 44 45,zl 47 1 46]
 (zC 47 (zS [1,4,5,6,31,32,33] [zy 48 (.iadA 7 1 (.t 4) (.c (zI 1))),zl 49 1 48,zm 50 7,zy 51 (.bls 1 1 [zI 0] [] [(0,.t 50)]),zy 52 (.app 1 8 false (.t 49) (.t 51)),zy 53 (.iadA 7 1 (.t 4) (.c (zI 1))),zw (.st 1 [] (.t 53) (.t 52))]
 (.exit 1))
 .skip)))
 (zS [1,4,5,6,7,9,31,32,33] [zL 54 2 1,zm 55 7,zk 56 304 [.t 54,.t 55],zy 9 (.alc zA1),zw (.st 2 [] (.t 9) (.t 56))]
 (zs (zS [1,4,5,6,7,9,31,32,33,59] [zm 57 6,zL 58 2 9,zy 59 (.mpl (.ints .i64 2) 4 1 false (.bool false) (.t 57) (.t 58))]
 (zC 59 (zr [1,4,5,6,9,31,32,33] [zy 60 (.iadA 7 1 (.t 4) (.c (zI 2))),zl 61 1 60,zm 62 7,zy 63 (.bls 1 1 [zI 0] [] [(0,.t 62)]),zy 64 (.app 1 8 false (.t 61) (.t 63)),zy 65 (.iadA 7 1 (.t 4) (.c (zI 2))),zw (.st 1 [] (.t 65) (.t 64))])
 .skip))
 (zr [1,4,5,6,31,32,33] [zm 66 6,zL 67 2 9,zw (.mpu (.ints .i64 2) 4 1 (.bool false) (.t 66) (.t 67) (.c (.bool true)))]))))))
 (zr [1,4,5,6,31,32,33] [zd 68 .add 33 (zI 1),zm 33 68])))))))
 (zS [1,4,5,10] [zy 69 (.mkm 3 1),zm 10 69]
 (zS [1,4,5,10,11] [zy 11 (.nilo 6)]
 (zs (zS [1,4,5,10,11,71,72,73] [zf 70 1 1,zl 71 1 70,zn 72 71,z0 73]
 (.block 2 (.loop (zS [1,4,5,10,11,71,72,73,74] [zb 74 .lss 73 72]
 (zs (zC 74 .skip
 (.exit 2))
 (zs (.block 3 (zS [1,4,5,10,11,12,13,71,72,73] [zm 75 73,zi 76 4 71 73,zL 77 4 76,zy 13 (.alc zA9),zm 12 75,zw (.st 4 [] (.t 13) (.t 77))]
 (zS [1,4,5,10,11,12,13,14,71,72,73] [zL 78 4 13,zk 79 305 [.t 78],zy 14 (.alc zA3),zw (.st 3 [] (.t 14) (.t 79))]
 (zs (zS [1,4,5,10,11,12,13,71,72,73,113] [zy 80 (.slM 3 1 (.t 14)),zy 81 (.mk 306 [.t 1,.t 5]),zk 82 11 [.t 80,.t 81],zm 83 82,ze 83 (zf 84 0 13),ze 83 (zl 85 1 84),ze 83 (zf 86 1 13),ze 83 (zl 87 1 86),ze 83 (zb 88 .eql 85 87),zp 89 83 88,zm 90 89,ze 90 (zf 91 1 13),ze 90 (zl 92 1 91),ze 90 (zf 93 2 13),ze 90 (zl 94 1 93),ze 90 (zb 95 .eql 92 94),zp 96 90 95,zm 97 96,ze 97 (zf 98 2 13),ze 97 (zl 99 1 98),ze 97 (zf 100 0 13),ze 97 (zl 101 1 100),ze 97 (zb 102 .eql 99 101),zp 103 97 102,zm 104 103,ze 104 (zf 105 3 13),ze 104 (zl 106 1 105),ze 104 (zd 107 .lss 106 (zI 0)),zp 108 104 107,zm 109 108,ze 109 (zf 110 3 13),ze 109 (zl 111 1 110),ze 109 (zd 112 .geq 111 (zI 16)),zp 113 109 112]
 (zC 113 (zS [1,4,5,10,11,71,72,73] [zy 114 (.iadA 7 1 (.t 4) (.c (zI 3))),zl 115 1 114,zm 116 12,zy 117 (.bls 1 1 [zI 0] [] [(0,.t 116)]),zy 118 (.app 1 8 false (.t 115) (.t 117)),zy 119 (.iadA 7 1 (.t 4) (.c (zI 3))),zw (.st 1 [] (.t 119) (.t 118))]
 (.exit 3))
 .skip))
 (zS [1,4,5,10,11,12,13,15,71,72,73] [zL 120 2 1,zL 121 4 13,zk 122 307 [.t 120,.t 121],zy 15 (.alc EX),zw (.st 6 [] (.t 15) (.t 122))]
 (zs (zS [1,4,5,10,11,12,13,15,71,72,73,130] [zy 123 (.iadA 3 2 (.t 15) (.c (zI 0))),zL 124 2 123,zy 125 (.iadA 3 2 (.t 15) (.c (zI 1))),zL 126 2 125,zy 127 (.iadA 3 2 (.t 15) (.c (zI 2))),zL 128 2 127,zk 129 308 [.t 124,.t 126,.t 128],zd 130 .leq 129 (zI 0)]
 (zC 130 (zS [1,4,5,10,11,71,72,73] [zy 131 (.iadA 7 1 (.t 4) (.c (zI 4))),zl 132 1 131,zm 133 12,zy 134 (.bls 1 1 [zI 0] [] [(0,.t 133)]),zy 135 (.app 1 8 false (.t 132) (.t 134)),zy 136 (.iadA 7 1 (.t 4) (.c (zI 4))),zw (.st 1 [] (.t 136) (.t 135))]
 (.exit 3))
 .skip))
 (zs (zS [1,4,5,10,11,12,13,15,71,72,73,152] [zm 137 10,zL 138 4 13,zk 139 298 [.t 138,(.c (zI 0))],zy 140 (.mpl (.ints .i64 2) 3 1 false (.bool false) (.t 137) (.t 139)),zm 141 140,ze 141 (zm 142 10),ze 141 (zL 143 4 13),ze 141 (zk 144 298 [.t 143,(.c (zI 1))]),ze 141 (zy 145 (.mpl (.ints .i64 2) 3 1 false (.bool false) (.t 142) (.t 144))),zp 146 141 145,zm 147 146,ze 147 (zm 148 10),ze 147 (zL 149 4 13),ze 147 (zk 150 298 [.t 149,(.c (zI 2))]),ze 147 (zy 151 (.mpl (.ints .i64 2) 3 1 false (.bool false) (.t 148) (.t 150))),zp 152 147 151]
 (zC 152 (zr [1,4,5,10,11,12,13,15,71,72,73] [zy 153 (.iadA 7 1 (.t 4) (.c (zI 5))),zl 154 1 153,zm 155 12,zy 156 (.bls 1 1 [zI 0] [] [(0,.t 155)]),zy 157 (.app 1 8 false (.t 154) (.t 156)),zy 158 (.iadA 7 1 (.t 4) (.c (zI 5))),zw (.st 1 [] (.t 158) (.t 157))])
 .skip))
 (zs (zS [1,4,5,10,11,12,13,15,71,72,73,159] [z0 159]
 (.block 4 (.loop (zS [1,4,5,10,11,12,13,15,71,72,73,159,160] [zd 160 .lss 159 (zI 3)]
 (zs (zC 160 .skip
 (.exit 4))
 (zs (.block 5 (zS [1,4,5,10,11,12,13,15,16,71,72,73,159] [zm 161 159,zm 16 161]
 (zr [1,4,5,10,11,12,13,15,71,72,73,159] [zm 162 10,zL 163 4 13,zm 164 16,zk 165 298 [.t 163,.t 164],zw (.mpu (.ints .i64 2) 3 1 (.bool false) (.t 162) (.t 165) (.c (.bool true)))])))
 (zr [1,4,5,10,11,12,13,15,71,72,73,159] [zd 166 .add 159 (zI 1),zm 159 166])))))))
 (zs (zS [1,4,5,10,11,12,15,71,72,73,169] [zm 167 11,zy 168 (.mk 310 [.t 15]),zk 169 309 [.t 167,.t 168]]
 (zC 169 (zr [1,4,5,10,11,15,71,72,73] [zy 170 (.iadA 7 1 (.t 4) (.c (zI 6))),zl 171 1 170,zm 172 12,zy 173 (.bls 1 1 [zI 0] [] [(0,.t 172)]),zy 174 (.app 1 8 false (.t 171) (.t 173)),zy 175 (.iadA 7 1 (.t 4) (.c (zI 6))),zw (.st 1 [] (.t 175) (.t 174))])
 .skip))
 (zr [1,4,5,10,11,71,72,73] [zm 176 11,zL 177 6 15,zy 178 (.bls 6 1 [zI 0,zI 0,zI 0,zI 0,zI 0,zI 0] [] [(0,.t 177)]),zy 179 (.app 6 48 false (.t 176) (.t 178)),zq 11 179]))))))))))
 (zr [1,4,5,10,11,71,72,73] [zd 180 .add 73 (zI 1),zm 73 180])))))))
 (zS [4,17] [zy 17 (.nilo 2)]
 (zs (zS [17,181,182] [zL 181 7 4,z0 182]
 (.block 6 (.loop (zS [17,181,182,183] [zd 183 .lss 182 (zI 7)]
 (zs (zC 183 .skip
 (.exit 6))
 (zs (.block 7 (zS [17,18,19,181,182] [zm 184 182,zy 185 (.idxA 7 1 false (.t 181) (.t 182)),zm 18 184,zq 19 185]
 (zS [17,18,181,182,186,187,188] [zq 186 19,zn 187 186,z0 188]
 (.block 8 (.loop (zS [17,18,181,182,186,187,188,189] [zb 189 .lss 188 187]
 (zs (zC 189 .skip
 (.exit 8))
 (zs (.block 9 (zS [17,18,21,181,182,186,187,188] [zi 190 1 186 188,zl 191 1 190,zm 21 191]
 (zr [17,18,181,182,186,187,188] [zm 192 17,zm 193 18,zm 194 21,zk 195 127 [.t 194],zy 196 (.bld [zI 0,.str []] [(0,1,.t 193),(1,1,.t 195)]),zy 197 (.bls 2 1 [zI 0,.str []] [] [(0,.t 196)]),zy 198 (.app 2 24 false (.t 192) (.t 197)),zq 17 198])))
 (zr [17,18,181,182,186,187,188] [zd 199 .add 188 (zI 1),zm 188 199])))))))))
 (zr [17,181,182] [zd 200 .add 182 (zI 1),zm 182 200])))))))
 (zS [2,3] [zq 201 17,zq 2 201,z0 3]
 .ret)))))))))))) }
def N280:al:={ np:=1,nt:=128,res:=[(2,none),(3,none)],body :=
 (zS [1] [zo 1 0,zc 2 .nilp,z0 3]
 (zS [1,4,5] [zL 16 2 1,zk 17 221 [.t 16],zm 15 17,zx 18 0 15,zx 19 1 15,zq 4 18,zm 5 19]
 (zs (zS [1,4,5,21] [zm 20 5,zd 21 .neq 20 (zI 0)]
 (zC 21 (zS [2,3] [zm 22 5,zc 2 .nilp,zm 3 22]
 .ret)
 .skip))
 (zS [4,5,6] [zL 24 2 1,zk 25 220 [.t 24],zm 23 25,zx 26 0 23,zx 27 1 23,zq 6 26,zm 5 27]
 (zs (zS [4,5,6,29] [zm 28 5,zd 29 .neq 28 (zI 0)]
 (zC 29 (zS [2,3] [zm 30 5,zc 2 .nilp,zm 3 30]
 .ret)
 .skip))
 (zS [4,6,7] [zm 31 4,zm 32 6,zm 33 6,zy 34 (.callF 42 [.t 33]),zy 35 (.blsF 1 1 [zI 0] [(0,(.c (zI (-1))))]),zm 36 6,zn 37 36,zy 38 (.callF 315 [.t 35,.t 37]),zy 39 (.bld [.nils,.nils,.nils,.nils] [(0,1,.t 31),(1,1,.t 32),(2,1,.t 34),(3,1,.t 38)]),zo 40 39,zm 7 40]
 (zS [4,6,7,8] [zm 41 7,zy 42 (.nck (.t 41)),zf 43 2 42,zl 44 1 43,zy 45 (.bld [.nils,.nils] [(1,1,.t 44)]),zy 46 (.boxK 7 (.t 45)),zm 8 46]
 (zS [4,7,8,9] [zq 47 6,zn 48 47,zy 49 (.mks 1 1 [.bool false] (.t 48) (.t 48)),zq 9 49]
 (zs (zS [4,7,8,9,50,51,52] [zm 50 4,zn 51 50,z0 52]
 (.block 0 (.loop (zS [4,7,8,9,50,51,52,53] [zb 53 .lss 52 51]
 (zs (zC 53 .skip
 (.exit 0))
 (zs (.block 1 (zS [4,7,8,9,10,11,50,51,52] [zm 54 52,zi 55 3 50 52,zL 56 3 55,zy 11 (.alc zA3),zm 10 54,zw (.st 3 [] (.t 11) (.t 56))]
 (zS [4,7,8,9,10,50,51,52,58] [zy 57 (.slM 3 1 (.t 11)),zk 58 223 [.t 57,(.c (zI (-1)))]]
 (zC 58 (zS [4,7,8,9,10,50,51,52] [zm 59 9,zm 60 10,zi 61 1 59 60,zw (.st 1 [] (.t 61) (.c (.bool true)))]
 (zr [4,7,8,9,50,51,52] [zm 62 8,zy 63 (.mkI 20 (.t 62)),zm 64 10,zy 65 (.mkI 2 (.t 64)),zy 66 (.callQ 316 7 (.t 63) [.t 65])]))
 .skip))))
 (zr [4,7,8,9,50,51,52] [zd 67 .add 52 (zI 1),zm 52 67])))))))
 (zs (.block 2 (.loop (zs (zS [4,7,8,9,70] [zm 68 8,zk 69 317 [.t 68],zd 70 .gtr 69 (zI 0)]
 (zC 70 .skip
 (.exit 2)))
 (.block 3 (zS [4,7,8,9,12] [zm 71 8,zy 72 (.mkI 20 (.t 71)),zy 73 (.callQ 318 7 (.t 72) []),zy 74 (.tya 2 (.t 73)),zm 12 74]
 (zS [4,7,8,9,12,78,79] [zm 75 4,zm 76 12,zi 77 3 75 76,zL 78 3 77,z0 79]
 (.block 4 (.loop (zS [4,7,8,9,12,78,79,80] [zd 80 .lss 79 (zI 3)]
 (zs (zC 80 .skip
 (.exit 4))
 (zs (.block 5 (zS [4,7,8,9,12,14,78,79] [zy 81 (.idxA 3 1 false (.t 78) (.t 79)),zm 14 81]
 (zs (zS [4,7,8,9,12,14,78,79,89] [zm 82 14,zy 83 (.bin .eql (.t 82) (.c (zI (-1)))),zm 84 83,ze 84 (zm 85 9),ze 84 (zm 86 14),ze 84 (zi 87 1 85 86),ze 84 (zl 88 1 87),zp 89 84 88]
 (zC 89 (.exit 5)
 .skip))
 (zS [4,7,8,9,12,14,78,79] [zm 90 9,zm 91 14,zi 92 1 90 91,zw (.st 1 [] (.t 92) (.c (.bool true)))]
 (zs (.reg true [0,1,3,7,0,0,32,96,224,0,0,0,2048,6144,14336,0,63488,129024,0,262144,786432,1835008,0,8126464,16515072,33552384,33553919,100662783,268435455,536870911] [4,7,8,9,12,14,78,79] [zm 93 7,zy 94 (.nck (.t 93)),zf 95 3 94,zl 96 1 95,zm 97 14,zm 98 7,zy 99 (.nck (.t 98)),zf 100 2 99,zl 101 1 100,zm 102 14,zm 103 12,zm 104 7,zy 105 (.nck (.t 104)),zf 106 2 105,zl 107 1 106,zm 108 12,zi 109 1 107 108,zl 110 1 109,zm 111 7,zy 112 (.nck (.t 111)),zf 113 1 112,zl 114 1 113,zm 115 14,zi 116 1 114 115,zl 117 1 116,zy 118 (.mx (.t 110) (.t 117)),zi 119 1 96 97,zw (.st 1 [] (.t 119) (.t 103)),zi 120 1 101 102,zw (.st 1 [] (.t 120) (.t 118))])
 (zr [4,7,8,9,12,78,79] [zm 121 8,zy 122 (.mkI 20 (.t 121)),zm 123 14,zy 124 (.mkI 2 (.t 123)),zy 125 (.callQ 316 7 (.t 122) [.t 124])]))))))
 (zr [4,7,8,9,12,78,79] [zd 126 .add 79 (zI 1),zm 79 126]))))))))))))
 (zS [2,3] [zm 127 7,zm 2 127,z0 3]
 .ret))))))))))) }
def N298:al:={ np:=2,nt:=17,res:=[(4,some (2,true))],body :=
 (zS [1,2,4] [zo 2 0,zy 4 (.alc zA1)]
 (zS [1,4,5] [zL 6 4 2,zk 7 305 [.t 6],zy 5 (.alc zA3),zw (.st 3 [] (.t 5) (.t 7))]
 (zs (.reg true [0,1,3,0,8,24,56,120,255,511] [4] [zm 8 1,zy 9 (.iadA 3 1 (.t 5) (.t 8)),zl 10 1 9,zm 11 1,zd 12 .add 11 (zI 1),zd 13 .rem 12 (zI 3),zy 14 (.iadA 3 1 (.t 5) (.t 13)),zl 15 1 14,zy 16 (.bld [zI 0,zI 0] [(0,1,.t 10),(1,1,.t 15)]),zw (.st 2 [] (.t 4) (.t 16))])
 .ret))) }
def N299:al:={ np:=1,nt:=6,res:=[(2,none)],body :=
 (zS [0] [zF 2]
 (zS [2] [zm 3 0,zm 4 0,zb 5 .neq 3 4,zm 2 5]
 .ret)) }
def N301:al:={ np:=3,nt:=20,res:=[(6,none),(7,none)],body :=
 (zS [1,2,3] [zo 3 0,z0 6,z0 7]
 (zs (zS [1,2,3,10] [zL 8 2 3,zk 9 106 [.t 8],zt 10 9]
 (zC 10 (zS [6,7] [z0 6,zc 7 (zI 1)]
 .ret)
 .skip))
 (zs (zS [1,2,3,12] [zm 11 1,zd 12 .eql 11 (zI 0)]
 (zC 12 (zS [6,7] [z0 6,zc 7 (zI 16)]
 .ret)
 .skip))
 (zS [6,7] [zL 13 2 3,zk 14 108 [.t 13],zm 15 1,zm 16 2,zk 17 104 [.t 14,.t 15,.t 16],zx 18 0 17,zx 19 1 17,zm 6 18,zm 7 19]
 .ret)))) }
def N302:al:={ np:=1,nt:=13,res:=[(2,none)],body :=
 (zS [1] [zo 1 0,zF 2]
 (zS [2] [zf 3 0 1,zl 4 1 3,zn 5 4,zd 6 .leq 5 (zI 2000),zm 7 6,zh 7 (zf 8 1 1),zh 7 (zl 9 1 8),zh 7 (zn 10 9),zh 7 (zd 11 .leq 10 (zI 4000)),zP 12 7 11,zm 2 12]
 .ret)) }
def N303:al:={ np:=1,nt:=19,res:=[(2,none)],body :=
 (zS [1] [zo 1 0,zF 2]
 (zS [2] [zf 3 0 1,zl 4 1 3,zf 5 1 1,zl 6 1 5,zy 7 (.bld [zI 0,zI 0] [(0,1,.t 4),(1,1,.t 6)]),zk 8 313 [.t 7],zm 9 8,zh 9 (zf 10 2 1),zh 9 (zl 11 1 10),zh 9 (zy 12 (.bin .geq (.t 11) (.c (zI (-4194304))))),zP 13 9 12,zm 14 13,zh 14 (zf 15 2 1),zh 14 (zl 16 1 15),zh 14 (zd 17 .leq 16 (zI 4194304)),zP 18 14 17,zm 2 18]
 .ret)) }
def N304:al:={ np:=2,nt:=18,res:=[(4,some (2,true))],body :=
 (zS [1,2,4] [zo 2 0,zy 4 (.alc zA1)]
 (zs (.reg true [0,1,0,7,15,31,0,64,0,448,960,1984,4095,8191] [4] [zf 5 0 2,zl 6 1 5,zm 7 1,zi 8 3 6 7,zf 9 0 8,zl 10 1 9,zf 11 0 2,zl 12 1 11,zm 13 1,zi 14 3 12 13,zf 15 1 14,zl 16 1 15,zy 17 (.bld [zI 0,zI 0] [(0,1,.t 10),(1,1,.t 16)]),zw (.st 2 [] (.t 4) (.t 17))])
 .ret)) }
def N305:al:={ np:=1,nt:=10,res:=[(2,some (3,true))],body :=
 (zS [1,2] [zo 1 0,zy 2 (.alc zA3)]
 (zS [2] [zf 3 0 1,zl 4 1 3,zf 5 1 1,zl 6 1 5,zf 7 2 1,zl 8 1 7,zy 9 (.bld [zI 0,zI 0,zI 0] [(0,1,.t 4),(1,1,.t 6),(2,1,.t 8)]),zw (.st 3 [] (.t 2) (.t 9))]
 .ret)) }
def N306:al:={ np:=3,nt:=20,res:=[(4,none)],body :=
 (zS [0,1,2] [zF 4]
 (zS [4] [zm 5 0,zd 6 .lss 5 (zI 0),zm 7 6,ze 7 (zm 8 0),ze 7 (zf 9 0 1),ze 7 (zl 10 1 9),ze 7 (zn 11 10),ze 7 (zb 12 .geq 8 11),zp 13 7 12,zm 14 13,ze 14 (zl 15 1 2),ze 14 (zm 16 0),ze 14 (zi 17 1 15 16),ze 14 (zl 18 1 17),zp 19 14 18,zm 4 19]
 .ret)) }
def N307:al:={ np:=2,nt:=18,res:=[(4,some (6,true))],body :=
 (zS [2,3,4] [zo 2 0,zo 3 1,zy 4 (.alc EX)]
 (zs (.reg true [0,0,2,7,0,0,32,127,0,0,512,2047,4095,8191] [4] [zL 5 2 2,zf 6 0 3,zl 7 1 6,zk 8 304 [.t 5,.t 7],zL 9 2 2,zf 10 1 3,zl 11 1 10,zk 12 304 [.t 9,.t 11],zL 13 2 2,zf 14 2 3,zl 15 1 14,zk 16 304 [.t 13,.t 15],zy 17 (.bld [zI 0,zI 0,zI 0,zI 0,zI 0,zI 0] [(0,2,.t 8),(2,2,.t 12),(4,2,.t 16)]),zw (.st 6 [] (.t 4) (.t 17))])
 .ret)) }
def N308:al:={ np:=3,nt:=30,res:=[(6,none)],body :=
 (zS [3,4,5] [zo 3 0,zo 4 1,zo 5 2,z0 6]
 (zS [6] [zf 7 0 4,zl 8 1 7,zf 9 0 3,zl 10 1 9,zb 11 .sub 8 10,zf 12 1 5,zl 13 1 12,zf 14 1 3,zl 15 1 14,zb 16 .sub 13 15,zb 17 .mul 11 16,zf 18 1 4,zl 19 1 18,zf 20 1 3,zl 21 1 20,zb 22 .sub 19 21,zf 23 0 5,zl 24 1 23,zf 25 0 3,zl 26 1 25,zb 27 .sub 24 26,zb 28 .mul 22 27,zb 29 .sub 17 28,zm 6 29]
 .ret)) }
def N309:al:={ np:=2,nt:=9,res:=[(4,none)],body :=
 (zS [0,1] [zF 4]
 (zS [4] [zq 5 0,zm 6 1,zk 7 328 [.t 5,.t 6],zd 8 .geq 7 (zI 0),zm 4 8]
 .ret)) }
def N310:al:={ np:=2,nt:=14,res:=[(3,none)],body :=
 (zS [1,2] [zo 2 0,zF 3]
 (zS [3] [zL 4 6 1,zL 5 6 2,zk 6 311 [.t 4,.t 5],zt 7 6,zm 8 7,zh 8 (zL 9 6 2),zh 8 (zL 10 6 1),zh 8 (zk 11 311 [.t 9,.t 10]),zh 8 (zt 12 11),zP 13 8 12,zm 3 13]
 .ret)) }
def N311:al:={ np:=2,nt:=42,res:=[(4,none)],body :=
 (zS [2,3] [zo 2 0,zo 3 1,zF 4]
 (zs (zS [2,3,8] [z0 8]
 (.block 0 (.loop (zS [2,3,8,9] [zd 9 .lss 8 (zI 3)]
 (zs (zC 9 .skip
 (.exit 0))
 (zs (.block 1 (zS [2,3,5,8] [zm 10 8,zm 5 10]
 (zs (.reg true [0,1,3,0,8,24,56,120,0,0,775,2047] [2,3,6,7,8] [zm 11 5,zy 12 (.iadA 3 2 (.t 2) (.t 11)),zL 13 2 12,zm 14 5,zd 15 .add 14 (zI 1),zd 16 .rem 15 (zI 3),zy 17 (.iadA 3 2 (.t 2) (.t 16)),zL 18 2 17,zy 6 (.alc zA1),zy 7 (.alc zA1),zw (.st 2 [] (.t 6) (.t 13)),zw (.st 2 [] (.t 7) (.t 18))])
 (zS [2,3,8,40] [zL 19 2 6,zL 20 2 7,zy 21 (.iadA 3 2 (.t 3) (.c (zI 0))),zL 22 2 21,zk 23 308 [.t 19,.t 20,.t 22],zd 24 .leq 23 (zI 0),zm 25 24,zh 25 (zL 26 2 6),zh 25 (zL 27 2 7),zh 25 (zy 28 (.iadA 3 2 (.t 3) (.c (zI 1)))),zh 25 (zL 29 2 28),zh 25 (zk 30 308 [.t 26,.t 27,.t 29]),zh 25 (zd 31 .leq 30 (zI 0)),zP 32 25 31,zm 33 32,zh 33 (zL 34 2 6),zh 33 (zL 35 2 7),zh 33 (zy 36 (.iadA 3 2 (.t 3) (.c (zI 2)))),zh 33 (zL 37 2 36),zh 33 (zk 38 308 [.t 34,.t 35,.t 37]),zh 33 (zd 39 .leq 38 (zI 0)),zP 40 33 39]
 (zC 40 (zS [4] [zc 4 (.bool true)]
 .ret)
 .skip)))))
 (zr [2,3,8] [zd 41 .add 8 (zI 1),zm 8 41])))))))
 (zS [4] [zF 4]
 .ret))) }
def N313:al:={ np:=1,nt:=21,res:=[(2,none)],body :=
 (zS [1] [zo 1 0,zF 2]
 (zS [2] [zf 3 0 1,zl 4 1 3,zy 5 (.bin .geq (.t 4) (.c (zI (-16777216)))),zm 6 5,zh 6 (zf 7 0 1),zh 6 (zl 8 1 7),zh 6 (zd 9 .leq 8 (zI 16777216)),zP 10 6 9,zm 11 10,zh 11 (zf 12 1 1),zh 11 (zl 13 1 12),zh 11 (zy 14 (.bin .geq (.t 13) (.c (zI (-16777216))))),zP 15 11 14,zm 16 15,zh 16 (zf 17 1 1),zh 16 (zl 18 1 17),zh 16 (zd 19 .leq 18 (zI 16777216)),zP 20 16 19,zm 2 20]
 .ret)) }
def N315:al:={ np:=2,nt:=48,res:=[(4,none)],body :=
 (zS [0,1] [zc 4 .nils]
 (zs (zS [0,1,10] [zm 9 1,zd 10 .lss 9 (zI 0)]
 (zC 10 (zr [0,1] [zy 11 (.dead),zw (.dead)])
 .skip))
 (zS [0,5,6] [zm 13 0,zn 14 13,zy 15 (.conv .u64 (.t 14)),zm 16 1,zy 17 (.conv .u64 (.t 16)),zk 18 333 [.t 15,.t 17],zm 12 18,zx 19 0 12,zx 20 1 12,zm 5 19,zm 6 20]
 (zs (zS [0,6,26] [zm 21 5,zd 22 .gtr 21 (.int .u64 0),zm 23 22,ze 23 (zm 24 6),ze 23 (zd 25 .gtr 24 (.int .u64 9223372036854775807)),zp 26 23 25]
 (zC 26 (zr [0,6] [zy 27 (.dead),zw (.dead)])
 .skip))
 (zS [0,7] [zm 28 6,zy 29 (.conv .i64 (.t 28)),zy 30 (.mks 1 8 [zI 0] (.t 29) (.t 29)),zq 7 30]
 (zS [7,8] [zm 31 7,zq 32 0,zy 33 (.cpy 1 (.t 31) (.t 32)),zm 8 33]
 (zs (.block 0 (.loop (zs (zS [7,8,37] [zm 34 8,zm 35 7,zn 36 35,zb 37 .lss 34 36]
 (zC 37 .skip
 (.exit 0)))
 (.block 1 (.reg true [0,0,0,6,0,0,48,126,255,511] [7,8] [zm 38 8,zm 39 7,zm 40 8,zy 41 (.slc 1 (.t 39) (some (.t 40)) none),zm 42 7,zm 43 8,zy 44 (.slc 1 (.t 42) none (some (.t 43))),zy 45 (.cpy 1 (.t 41) (.t 44)),zb 46 .add 38 45,zm 8 46])))))
 (zS [4] [zq 47 7,zq 4 47]
 .ret)))))))) }
def N316:al:={ np:=2,nt:=12,res:=[],body :=
 (zS [0] [zm 4 0,zm 5 1,zy 6 (.callI 342 "Push" 20 (.t 4) [.t 5])]
 (zr [0] [zm 7 0,zm 8 0,zy 9 (.callI 317 "Len" 20 (.t 8) []),zd 10 .sub 9 (zI 1),zy 11 (.callM 334 (.t 7) [.t 10])])) }
def N317:al:={ np:=1,nt:=8,res:=[(2,none)],body :=
 (zS [0] [z0 2]
 (zS [0,2] [zm 3 0,zy 4 (.nck (.t 3)),zf 5 0 4,zl 6 1 5,zn 7 6,zm 2 7]
 .ret)) }
def N318:al:={ np:=1,nt:=15,res:=[(2,none)],body :=
 (zS [0] [zy 2 (.mov (.c .any))]
 (zS [0,3] [zm 4 0,zy 5 (.callI 317 "Len" 20 (.t 4) []),zd 6 .sub 5 (zI 1),zm 3 6]
 (zS [0,3] [zm 7 0,zm 8 3,zy 9 (.callI 343 "Swap" 20 (.t 7) [(.c (zI 0)),.t 8])]
 (zS [0] [zm 10 0,zm 11 3,zy 12 (.callM 335 (.t 10) [(.c (zI 0)),.t 11])]
 (zS [0,2] [zm 13 0,zy 14 (.callI 341 "Pop" 20 (.t 13) []),zm 2 14]
 .ret))))) }
def N327:al:={ np:=2,nt:=23,res:=[(4,some (2,true)),(5,none)],body :=
 (zS [2,3,4] [zo 2 0,zo 3 1,zy 4 (.alc zA1),z0 5]
 (zs (zS [2,3,4,13] [zL 6 2 2,zk 7 106 [.t 6],zt 8 7,zm 9 8,ze 9 (zL 10 2 3),ze 9 (zk 11 106 [.t 10]),ze 9 (zt 12 11),zp 13 9 12]
 (zC 13 (zS [4,5] [zy 14 (.bld [zI 0,zI 0] []),zw (.st 2 [] (.t 4) (.t 14)),zc 5 (zI 1)]
 .ret)
 .skip))
 (zs (.reg true [0,1,0,7,15,31,63,63,255,511] [4,5] [zL 15 2 2,zk 16 108 [.t 15],zL 17 2 3,zk 18 108 [.t 17],zk 19 107 [.t 16,.t 18],zk 20 105 [.t 19],zx 21 0 20,zx 22 1 20,zw (.st 2 [] (.t 4) (.t 21)),zm 5 22])
 .ret))) }
def N328:al:={ np:=2,nt:=19,res:=[(4,none)],body :=
 (zS [0,1] [z0 4]
 (zs (zS [0,1,7,8] [zm 6 0,zn 7 6,z0 8]
 (.block 0 (.loop (zS [0,1,7,8,9] [zb 9 .lss 8 7]
 (zs (zC 9 .skip
 (.exit 0))
 (zs (.block 1 (zS [0,1,5,7,8] [zm 10 8,zm 5 10]
 (zS [0,1,5,7,8,16] [zm 11 1,zm 12 0,zm 13 5,zi 14 6 12 13,zL 15 6 14,zy 16 (.callv (.t 11) [.t 15])]
 (zC 16 (zS [4] [zm 17 5,zm 4 17]
 .ret)
 .skip))))
 (zr [0,1,7,8] [zd 18 .add 8 (zI 1),zm 8 18])))))))
 (zS [4] [zy 4 (.mov (.c (zI (-1))))]
 .ret))) }
def N333:al:={ np:=2,nt:=30,res:=[(4,none),(5,none)],body :=
 (zS [0,1] [zc 4 (.int .u64 0),zc 5 (.int .u64 0)]
 (zs (.cond (.c (.bool false)) (zS [6,7] [zm 11 0,zy 12 (.conv .u32 (.t 11)),zm 13 1,zy 14 (.conv .u32 (.t 13)),zk 15 339 [.t 12,.t 14],zm 10 15,zx 16 0 10,zx 17 1 10,zm 6 16,zm 7 17]
 (zS [4,5] [zm 18 6,zy 19 (.conv .u64 (.t 18)),zm 20 7,zy 21 (.conv .u64 (.t 20)),zm 4 19,zm 5 21]
 .ret))
 .skip)
 (zS [8,9] [zm 23 0,zm 24 1,zk 25 91 [.t 23,.t 24],zm 22 25,zx 26 0 22,zx 27 1 22,zm 8 26,zm 9 27]
 (zS [4,5] [zm 28 8,zm 29 9,zm 4 28,zm 5 29]
 .ret)))) }
def N334:al:={ np:=2,nt:=23,res:=[],body :=
 (.block 0 (.loop (.block 1 (zS [0,1,4] [zm 5 1,zd 6 .sub 5 (zI 1),zd 7 .quo 6 (zI 2),zm 4 7]
 (zs (zS [0,1,4,17] [zm 8 4,zm 9 1,zb 10 .eql 8 9,zm 11 10,ze 11 (zm 12 0),ze 11 (zm 13 1),ze 11 (zm 14 4),ze 11 (zy 15 (.callI 340 "Less" 20 (.t 12) [.t 13,.t 14])),ze 11 (zt 16 15),zp 17 11 16]
 (zC 17 (.exit 0)
 .skip))
 (zS [0,4] [zm 18 0,zm 19 4,zm 20 1,zy 21 (.callI 343 "Swap" 20 (.t 18) [.t 19,.t 20])]
 (zr [0,1] [zm 22 4,zm 1 22]))))))) }
def N335:al:={ np:=3,nt:=48,res:=[(6,none)],body :=
 (zS [0,1,2] [zF 6]
 (zS [0,1,2,7] [zm 11 1,zm 7 11]
 (zs (.block 0 (.loop (.block 1 (zS [0,1,2,7,8] [zm 12 7,zy 13 (.bin .mul (.c (zI 2)) (.t 12)),zd 14 .add 13 (zI 1),zm 8 14]
 (zs (zS [0,1,2,7,8,21] [zm 15 8,zm 16 2,zb 17 .geq 15 16,zm 18 17,ze 18 (zm 19 8),ze 18 (zd 20 .lss 19 (zI 0)),zp 21 18 20]
 (zC 21 (.exit 0)
 .skip))
 (zS [0,1,2,7,8,9] [zm 22 8,zm 9 22]
 (zs (zS [0,1,2,7,8,9,10] [zm 23 8,zd 24 .add 23 (zI 1),zm 10 24]
 (zS [0,1,2,7,9,10,33] [zm 25 10,zm 26 2,zb 27 .lss 25 26,zm 28 27,zh 28 (zm 29 0),zh 28 (zm 30 10),zh 28 (zm 31 8),zh 28 (zy 32 (.callI 340 "Less" 20 (.t 29) [.t 30,.t 31])),zP 33 28 32]
 (zC 33 (zr [0,1,2,7,9] [zm 34 10,zm 9 34])
 .skip)))
 (zs (zS [0,1,2,7,9,39] [zm 35 0,zm 36 9,zm 37 7,zy 38 (.callI 340 "Less" 20 (.t 35) [.t 36,.t 37]),zt 39 38]
 (zC 39 (.exit 0)
 .skip))
 (zS [0,1,2,9] [zm 40 0,zm 41 7,zm 42 9,zy 43 (.callI 343 "Swap" 20 (.t 40) [.t 41,.t 42])]
 (zr [0,1,2,7] [zm 44 9,zm 7 44]))))))))))
 (zS [0,6] [zm 45 7,zm 46 1,zb 47 .gtr 45 46,zm 6 47]
 .ret)))) }
def N339:al:={ np:=2,nt:=17,res:=[(4,none),(5,none)],body :=
 (zS [0,1] [zc 4 (.int .u32 0),zc 5 (.int .u32 0)]
 (zS [6] [zm 7 0,zy 8 (.conv .u64 (.t 7)),zm 9 1,zy 10 (.conv .u64 (.t 9)),zb 11 .mul 8 10,zm 6 11]
 (zS [4,5] [zm 12 6,zd 13 .shr 12 (.int .u64 32),zy 14 (.conv .u32 (.t 13)),zm 15 6,zy 16 (.conv .u32 (.t 15)),zm 4 14,zm 5 16]
 .ret))) }
def N340:al:={ np:=3,nt:=60,res:=[(6,none)],body :=
 (zS [0,1,2] [zF 6]
 (zs (.reg true [0,1,3,7,0,31,63,0,128,384,896,0,3968,8064,127,32767] [0,7,8] [zm 9 0,zy 10 (.nck (.t 9)),zf 11 0 10,zl 12 1 11,zm 13 1,zi 14 1 12 13,zl 15 1 14,zm 16 0,zy 17 (.nck (.t 16)),zf 18 0 17,zl 19 1 18,zm 20 2,zi 21 1 19 20,zl 22 1 21,zm 7 15,zm 8 22])
 (zs (.reg true [0,1,3,7,0,31,63,0,128,384,896,0,3968,8064,16383,32767,65535,131071,262143,524287,65535,2097151,4194303,65535,8454143,25231359,58785791,65535,260112383,528547839,1073741823,2147483647,4294967295,4294967295,17179869183,34359738367,68719476735,137438953471] [0,6] [zm 23 0,zy 24 (.nck (.t 23)),zf 25 1 24,zl 26 1 25,zm 27 7,zi 28 1 26 27,zl 29 1 28,zm 30 0,zy 31 (.nck (.t 30)),zf 32 1 31,zl 33 1 32,zm 34 8,zi 35 1 33 34,zl 36 1 35,zb 37 .lss 29 36,zm 38 37,ze 38 (zm 39 0),ze 38 (zy 40 (.nck (.t 39))),ze 38 (zf 41 1 40),ze 38 (zl 42 1 41),ze 38 (zm 43 7),ze 38 (zi 44 1 42 43),ze 38 (zl 45 1 44),ze 38 (zm 46 0),ze 38 (zy 47 (.nck (.t 46))),ze 38 (zf 48 1 47),ze 38 (zl 49 1 48),ze 38 (zm 50 8),ze 38 (zi 51 1 49 50),ze 38 (zl 52 1 51),ze 38 (zb 53 .eql 45 52),ze 38 (zm 54 53),zh 54 (zm 55 7),zh 54 (zm 56 8),zh 54 (zb 57 .lss 55 56),ze 38 (zP 58 54 57),zp 59 38 58,zm 6 59])
 .ret))) }
def N341:al:={ np:=1,nt:=32,res:=[(2,none)],body :=
 (zS [0] [zy 2 (.mov (.c .any))]
 (zs (.reg true [0,1,3,7,0,16,48,112,240,496,1023,2047,4095] [0,3] [zm 4 0,zy 5 (.nck (.t 4)),zf 6 0 5,zl 7 1 6,zm 8 0,zy 9 (.nck (.t 8)),zf 10 0 9,zl 11 1 10,zn 12 11,zd 13 .sub 12 (zI 1),zi 14 1 7 13,zl 15 1 14,zm 3 15])
 (zs (.reg true [0,0,2,6,14,0,32,96,224,480,992,2046,4095,8191,16383] [0,3] [zm 16 0,zm 17 0,zy 18 (.nck (.t 17)),zf 19 0 18,zl 20 1 19,zm 21 0,zy 22 (.nck (.t 21)),zf 23 0 22,zl 24 1 23,zn 25 24,zd 26 .sub 25 (zI 1),zy 27 (.slc 1 (.t 20) none (some (.t 26))),zy 28 (.nck (.t 16)),zf 29 0 28,zw (.stL (.t 29) (.t 27))])
 (zS [0,2] [zm 30 3,zy 31 (.mkI 2 (.t 30)),zm 2 31]
 .ret)))) }
def N342:al:={ np:=2,nt:=15,res:=[],body :=
 (.reg true [0,0,2,6,14,0,32,96,254,511,1023,2047] [0] [zm 4 0,zm 5 0,zy 6 (.nck (.t 5)),zf 7 0 6,zl 8 1 7,zm 9 1,zy 10 (.tya 2 (.t 9)),zy 11 (.bls 1 1 [zI 0] [] [(0,.t 10)]),zy 12 (.app 1 8 false (.t 8) (.t 11)),zy 13 (.nck (.t 4)),zf 14 0 13,zw (.st 1 [] (.t 14) (.t 12))]) }
def N343:al:={ np:=3,nt:=32,res:=[],body :=
 (.reg true [0,1,3,7,0,0,32,96,224,0,0,1024,3072,7168,0,31744,64512,0,131072,393216,917504,0,4063232,8257536,16776703,33553919,67108863,134217727] [0] [zm 6 0,zy 7 (.nck (.t 6)),zf 8 0 7,zl 9 1 8,zm 10 1,zm 11 0,zy 12 (.nck (.t 11)),zf 13 0 12,zl 14 1 13,zm 15 2,zm 16 0,zy 17 (.nck (.t 16)),zf 18 0 17,zl 19 1 18,zm 20 2,zi 21 1 19 20,zl 22 1 21,zm 23 0,zy 24 (.nck (.t 23)),zf 25 0 24,zl 26 1 25,zm 27 1,zi 28 1 26 27,zl 29 1 28,zi 30 1 9 10,zw (.st 1 [] (.t 30) (.t 22)),zi 31 1 14 15,zw (.st 1 [] (.t 31) (.t 29))]) }
def N372:al:={ np:=1,nt:=24,res:=[(2,none),(3,none)],body :=
 (zS [1] [zo 1 0,z0 2,z0 3]
 (zs (zS [1,9] [zL 7 2 1,zk 8 234 [.t 7],zt 9 8]
 (zC 9 (zS [2,3] [z0 2,zc 3 (zI 1)]
 .ret)
 .skip))
 (zS [1,4] [z0 4]
 (zs (zS [1,4,11,12,13] [zf 10 1 1,zl 11 1 10,zn 12 11,z0 13]
 (.block 0 (.loop (zS [1,4,11,12,13,14] [zb 14 .lss 13 12]
 (zs (zC 14 .skip
 (.exit 0))
 (zs (.block 1 (zS [1,4,6,11,12,13] [zi 15 4 11 13,zL 16 4 15,zy 6 (.alc zA9),zw (.st 4 [] (.t 6) (.t 16))]
 (zr [1,4,11,12,13] [zm 17 4,zL 18 2 1,zL 19 4 6,zk 20 376 [.t 18,.t 19],zb 21 .add 17 20,zm 4 21])))
 (zr [1,4,11,12,13] [zd 22 .add 13 (zI 1),zm 13 22])))))))
 (zS [2,3] [zm 23 4,zm 2 23,z0 3]
 .ret))))) }
def N373:al:={ np:=2,nt:=20,res:=[(4,none),(5,none)],body :=
 (zS [1,2] [zo 2 0,z0 4,z0 5]
 (zs (zS [1,2,8] [zL 6 2 2,zk 7 234 [.t 6],zt 8 7]
 (zC 8 (zS [4,5] [z0 4,zc 5 (zI 1)]
 .ret)
 .skip))
 (zs (zS [1,2,12] [zL 9 2 2,zm 10 1,zk 11 377 [.t 9,.t 10],zt 12 11]
 (zC 12 (zS [4,5] [z0 4,zc 5 (zI 2)]
 .ret)
 .skip))
 (zs (.reg true [0,0,2,0,14,30,63,127,255] [4,5] [zL 13 2 2,zf 14 1 2,zl 15 1 14,zm 16 1,zi 17 4 15 16,zL 18 4 17,zk 19 376 [.t 13,.t 18],zm 4 19,z0 5])
 .ret)))) }
def N376:al:={ np:=2,nt:=16,res:=[(4,none)],body :=
 (zS [2,3] [zo 2 0,zo 3 1,z0 4]
 (zS [5] [zL 6 2 2,zL 7 4 3,zk 8 307 [.t 6,.t 7],zy 5 (.alc EX),zw (.st 6 [] (.t 5) (.t 8))]
 (zS [4] [zy 9 (.iadA 3 2 (.t 5) (.c (zI 0))),zL 10 2 9,zy 11 (.iadA 3 2 (.t 5) (.c (zI 1))),zL 12 2 11,zy 13 (.iadA 3 2 (.t 5) (.c (zI 2))),zL 14 2 13,zk 15 308 [.t 10,.t 12,.t 14],zm 4 15]
 .ret))) }
def N377:al:={ np:=2,nt:=14,res:=[(4,none)],body :=
 (zS [1,2] [zo 2 0,zF 4]
 (zS [4] [zm 5 1,zd 6 .geq 5 (zI 0),zm 7 6,zh 7 (zm 8 1),zh 7 (zf 9 1 2),zh 7 (zl 10 1 9),zh 7 (zn 11 10),zh 7 (zb 12 .lss 8 11),zP 13 7 12,zm 4 13]
 .ret)) }
def N441:al:={ np:=2,nt:=16,res:=[(4,none),(5,none)],body :=
 (zS [0,3] [zo 3 1,z0 4,z0 5]
 (zs (zS [0,3,9] [zm 7 0,zk 8 44 [.t 7],zt 9 8]
 (zC 9 (zS [4,5] [z0 4,zc 5 (zI 1)]
 .ret)
 .skip))
 (zs (zS [6] [zq 10 0,zy 11 (.mk 480 [.t 3]),zk 12 52 [.t 10,.t 11],zm 6 12]
 (zS [6,14] [zm 13 6,zd 14 .geq 13 (zI 0)]
 (zC 14 (zS [4,5] [zm 15 6,zm 4 15,z0 5]
 .ret)
 .skip)))
 (zS [4,5] [z0 4,zc 5 (zI 9)]
 .ret)))) }
def N455:al:={ np:=2,nt:=9,res:=[(4,none)],body :=
 (zS [0,1] [zF 4]
 (zS [4] [zq 5 0,zm 6 1,zk 7 181 [.t 5,.t 6],zd 8 .geq 7 (zI 0),zm 4 8]
 .ret)) }
def N471:al:={ np:=1,nt:=9,res:=[(2,none),(3,none)],body :=
 (zS [1] [zo 1 0,zc 2 .nils,z0 3]
 (zs (zS [1,6] [zL 4 2 1,zk 5 164 [.t 4],zt 6 5]
 (zC 6 (zS [2,3] [zc 2 .nils,zc 3 (zI 1)]
 .ret)
 .skip))
 (zS [2,3] [zL 7 2 1,zk 8 499 [.t 7],zq 2 8,z0 3]
 .ret))) }
def N480:al:={ np:=2,nt:=8,res:=[(3,none)],body :=
 (zS [1,2] [zo 2 0,zF 3]
 (zS [3] [zf 4 0 2,zl 5 1 4,zl 6 1 1,zb 7 .eql 5 6,zm 3 7]
 .ret)) }
def N499:al:={ np:=1,nt:=27,res:=[(2,none)],body :=
 (zS [1] [zo 1 0,zc 2 .nils]
 (zS [1,3] [zy 3 (.nilo 2)]
 (zs (zS [1,3,7,8,9] [zf 6 1 1,zl 7 1 6,zn 8 7,z0 9]
 (.block 0 (.loop (zS [1,3,7,8,9,10] [zb 10 .lss 9 8]
 (zs (zC 10 .skip
 (.exit 0))
 (zs (.block 1 (zS [1,3,5,7,8,9] [zi 11 11 7 9,zL 12 11 11,zy 5 (.alc zA6),zw (.st 11 [] (.t 5) (.t 12))]
 (.reg true [0,0,0,4,14,0,0,64,254,510,1022,2047,4095] [1,3,7,8,9] [zm 13 3,zL 14 2 1,zf 15 1 5,zl 16 1 15,zk 17 169 [.t 14,.t 16],zL 18 2 1,zf 19 2 5,zl 20 1 19,zk 21 169 [.t 18,.t 20],zy 22 (.bld [zI 0,zI 0] [(0,1,.t 17),(1,1,.t 21)]),zy 23 (.bls 2 1 [zI 0,zI 0] [] [(0,.t 22)]),zy 24 (.app 2 16 false (.t 13) (.t 23)),zq 3 24])))
 (zr [1,3,7,8,9] [zd 25 .add 9 (zI 1),zm 9 25])))))))
 (zS [2] [zq 26 3,zq 2 26]
 .ret)))) }
def N856:al:={ np:=2,nt:=26,res:=[(4,none),(5,none)],body :=
 (zS [1,2] [zo 2 0,zc 4 .nils,z0 5]
 (zs (zS [1,2,6] [zL 9 2 2,zm 10 1,zk 11 874 [.t 9,.t 10,(.c .nils)],zm 6 11]
 (zS [1,2,6,13] [zm 12 6,zd 13 .neq 12 (zI 0)]
 (zC 13 (zS [4,5] [zm 14 6,zc 4 .nils,zm 5 14]
 .ret)
 .skip)))
 (zS [7,8] [zL 16 2 2,zq 17 1,zk 18 875 [.t 16,.t 17,(.c (zI (-1)))],zm 15 18,zx 19 0 15,zx 20 1 15,zm 7 19,zm 8 20]
 (zs (zS [7,8,22] [zm 21 8,zd 22 .neq 21 (zI 0)]
 (zC 22 (zS [4,5] [zm 23 8,zc 4 .nils,zm 5 23]
 .ret)
 .skip))
 (zS [4,5] [zm 24 7,zk 25 876 [.t 24],zq 4 25,z0 5]
 .ret))))) }
def N862:al:={ np:=2,nt:=18,res:=[(4,none),(5,none)],body :=
 (zS [1,2] [zo 2 0,zc 4 .nils,z0 5]
 (zS [6,8] [zL 10 2 2,zq 11 1,zk 12 880 [.t 10,.t 11],zm 9 12,zx 13 0 9,zx 14 1 9,zx 15 2 9,zq 6 13,zm 7 14,zm 8 15]
 (zS [4,5] [zq 16 6,zm 17 8,zq 4 16,zm 5 17]
 .ret))) }
def N863:al:={ np:=2,nt:=18,res:=[(4,none),(5,none)],body :=
 (zS [1,2] [zo 2 0,z0 4,z0 5]
 (zS [7,8] [zL 10 2 2,zq 11 1,zk 12 880 [.t 10,.t 11],zm 9 12,zx 13 0 9,zx 14 1 9,zx 15 2 9,zq 6 13,zm 7 14,zm 8 15]
 (zS [4,5] [zm 16 7,zm 17 8,zm 4 16,zm 5 17]
 .ret))) }
def N874:al:={ np:=3,nt:=34,res:=[(6,none)],body :=
 (zS [2,3,4] [zo 3 0,zo 4 1,z0 6]
 (zs (.block 0 (zS [2,3,4,8] [zL 9 2 3,zk 10 234 [.t 9],zt 11 10,zm 8 11]
 (zC 8 (zS [6] [zc 6 (zI 1)]
 .ret)
 (zS [2,3,4,12] [zl 13 1 4,zn 14 13,zd 15 .gtr 14 (zI 300),zm 12 15]
 (zC 12 (zS [6] [zc 6 (zI 4)]
 .ret)
 (zS [2,4,16] [zl 17 1 4,zy 18 (.mk 882 [.t 3]),zk 19 11 [.t 17,.t 18],zm 16 19]
 (zC 16 (zS [6] [zc 6 (zI 2)]
 .ret)
 (zS [4,20] [zq 21 2,zy 22 (.mk 883 [.t 4]),zk 23 11 [.t 21,.t 22],zm 20 23]
 (zC 20 (zS [6] [zc 6 (zI 2)]
 .ret)
 .skip)))))))))
 (zS [4,7] [zl 24 1 4,zy 25 (.callF 42 [.t 24]),zq 7 25]
 (zS [4,7] [zm 26 7,zy 27 (.callS 366 (.t 26) [])]
 (zs (zs (.reg true [0,1,3,0,8,31] [33] [zq 28 7,zy 29 (.callE 523 (.t 28) []),zn 30 29,zl 31 1 4,zn 32 31,zb 33 .lss 30 32])
 (zC 33 (zS [6] [zc 6 (zI 10)]
 .ret)
 .skip))
 (zS [6] [z0 6]
 .ret)))))) }
def N875:al:={ np:=3,nt:=104,res:=[(6,none),(7,none)],body :=
 (zS [1,2,3] [zo 3 0,zc 6 .nilp,z0 7]
 (zS [1,2,3,8] [zy 15 (.bld [.nils,.nils,.nils,.nils,.nils] []),zy 16 (.box [] (.t 15)),zm 8 16]
 (zS [1,2,3,8] [z0 9]
 (zs (zS [1,2,3,8,9] [zm 18 8,zL 19 2 3,zk 20 213 [.t 19],zm 17 20,zx 21 0 17,zx 22 1 17,zy 23 (.nck (.t 18)),zf 24 0 23,zw (.st 1 [] (.t 24) (.t 21)),zm 9 22]
 (zS [1,2,3,8,9,26] [zm 25 9,zd 26 .neq 25 (zI 0)]
 (zC 26 (zS [6,7] [zm 27 9,zc 6 .nilp,zm 7 27]
 .ret)
 .skip)))
 (zs (zS [1,2,3,8,9] [zm 29 8,zL 30 2 3,zk 31 243 [.t 30],zm 28 31,zx 32 0 28,zx 33 1 28,zy 34 (.nck (.t 29)),zf 35 1 34,zw (.st 1 [] (.t 35) (.t 32)),zm 9 33]
 (zS [1,2,3,8,9,37] [zm 36 9,zd 37 .neq 36 (zI 0)]
 (zC 37 (zS [6,7] [zm 38 9,zc 6 .nilp,zm 7 38]
 .ret)
 .skip)))
 (zs (zS [1,2,3,8,9] [zm 40 8,zL 41 2 3,zk 42 244 [.t 41],zm 39 42,zx 43 0 39,zx 44 1 39,zy 45 (.nck (.t 40)),zf 46 2 45,zw (.st 1 [] (.t 46) (.t 43)),zm 9 44]
 (zS [1,2,3,8,9,48] [zm 47 9,zd 48 .neq 47 (zI 0)]
 (zC 48 (zS [6,7] [zm 49 9,zc 6 .nilp,zm 7 49]
 .ret)
 .skip)))
 (zs (zS [1,2,3,8,52,53] [zf 50 1 3,zl 51 1 50,zn 52 51,z0 53]
 (.block 0 (.loop (zS [1,2,3,8,52,53,54] [zb 54 .lss 53 52]
 (zs (zC 54 .skip
 (.exit 0))
 (zs (.block 1 (zS [1,2,3,8,10,52,53] [zm 55 53,zm 10 55]
 (zS [1,2,3,8,11,12,52,53] [zL 57 2 3,zm 58 10,zk 59 373 [.t 57,.t 58],zm 56 59,zx 60 0 56,zx 61 1 56,zm 11 60,zm 12 61]
 (zs (zS [1,2,3,8,11,12,52,53,63] [zm 62 12,zd 63 .neq 62 (zI 0)]
 (zC 63 (zS [6,7] [zm 64 12,zc 6 .nilp,zm 7 64]
 .ret)
 .skip))
 (zS [1,2,3,8,52,53] [zm 65 8,zm 66 8,zy 67 (.nck (.t 66)),zf 68 4 67,zl 69 1 68,zm 70 11,zy 71 (.bls 1 1 [zI 0] [] [(0,.t 70)]),zy 72 (.app 1 8 false (.t 69) (.t 71)),zy 73 (.nck (.t 65)),zf 74 4 73,zw (.st 1 [] (.t 74) (.t 72))]
 (zr [1,2,3,8,52,53] [zm 75 8,zm 76 8,zy 77 (.nck (.t 76)),zf 78 3 77,zl 79 1 78,zy 80 (.bls 1 1 [zI 0] [] [(0,(.c (zI (-1))))]),zy 81 (.app 1 8 false (.t 79) (.t 80)),zy 82 (.nck (.t 75)),zf 83 3 82,zw (.st 1 [] (.t 83) (.t 81))]))))))
 (zr [1,2,3,8,52,53] [zd 84 .add 53 (zI 1),zm 53 84])))))))
 (zs (zS [2,8,85,86,87] [zq 85 1,zn 86 85,z0 87]
 (.block 2 (.loop (zS [2,8,85,86,87,88] [zb 88 .lss 87 86]
 (zs (zC 88 .skip
 (.exit 2))
 (zs (.block 3 (zS [2,8,13,14,85,86,87] [zm 89 87,zi 90 1 85 87,zl 91 1 90,zm 13 89,zm 14 91]
 (zS [2,8,13,14,85,86,87,94] [zm 92 13,zm 93 2,zb 94 .neq 92 93]
 (zC 94 (zr [2,8,85,86,87] [zm 95 8,zy 96 (.nck (.t 95)),zf 97 3 96,zl 98 1 97,zm 99 14,zm 100 13,zi 101 1 98 99,zw (.st 1 [] (.t 101) (.t 100))])
 .skip))))
 (zr [2,8,85,86,87] [zd 102 .add 87 (zI 1),zm 87 102])))))))
 (zS [6,7] [zm 103 8,zm 6 103,z0 7]
 .ret))))))))) }
def N876:al:={ np:=1,nt:=40,res:=[(2,none)],body :=
 (zS [0] [zc 2 .nils]
 (zS [0,3] [zm 6 0,zy 7 (.nck (.t 6)),zf 8 0 7,zl 9 1 8,zn 10 9,zy 11 (.mks 1 8 [zI 0] (.c (zI 0)) (.t 10)),zq 3 11]
 (zs (zS [0,3,16,17] [zm 12 0,zy 13 (.nck (.t 12)),zf 14 0 13,zl 15 1 14,zn 16 15,z0 17]
 (.block 0 (.loop (zS [0,3,16,17,18] [zb 18 .lss 17 16]
 (zs (zC 18 .skip
 (.exit 0))
 (zs (.block 1 (zS [0,3,4,16,17] [zm 19 17,zm 4 19]
 (zS [0,3,5,16,17] [zm 20 0,zm 21 4,zk 22 881 [.t 20,.t 21],zq 5 22]
 (.reg true [0,0,2,6,14,0,0,64,192,480,992,2046,4094,8190,16383,32767] [0,3,16,17] [zm 23 3,zm 24 0,zy 25 (.nck (.t 24)),zf 26 3 25,zl 27 1 26,zm 28 5,zq 29 5,zn 30 29,zd 31 .sub 30 (zI 1),zi 32 1 28 31,zl 33 1 32,zi 34 1 27 33,zl 35 1 34,zy 36 (.bls 1 1 [zI 0] [] [(0,.t 35)]),zy 37 (.app 1 8 false (.t 23) (.t 36)),zq 3 37]))))
 (zr [0,3,16,17] [zd 38 .add 17 (zI 1),zm 17 38])))))))
 (zS [2] [zq 39 3,zq 2 39]
 .ret)))) }
def N880:al:={ np:=2,nt:=64,res:=[(4,none),(5,none),(6,none)],body :=
 (zS [1,2,5] [zo 2 0,zc 4 .nils,z0 5,z0 6]
 (zs (zS [1,2,5,7] [zL 11 2 2,zm 12 1,zk 13 874 [.t 11,.t 12,(.c .nils)],zm 7 13]
 (zS [1,2,5,7,15] [zm 14 7,zd 15 .neq 14 (zI 0)]
 (zC 15 (zS [4,5,6] [zm 16 7,zc 4 .nils,z0 5,zm 6 16]
 .ret)
 .skip)))
 (zS [1,5,6,8] [zL 18 2 2,zm 19 1,zk 20 875 [.t 18,.t 19,(.c (zI (-1)))],zm 17 20,zx 21 0 17,zx 22 1 17,zm 8 21,zm 6 22]
 (zs (zS [1,5,6,8,24] [zm 23 6,zd 24 .neq 23 (zI 0)]
 (zC 24 (zS [4,5,6] [zm 25 6,zc 4 .nils,z0 5,zm 6 25]
 .ret)
 .skip))
 (zS [4,5,8] [zq 26 1,zn 27 26,zy 28 (.mks 1 8 [zI 0] (.t 27) (.t 27)),zq 4 28]
 (zs (zS [4,5,8,30,31,32] [zm 29 8,zk 30 876 [.t 29],zn 31 30,z0 32]
 (.block 0 (.loop (zS [4,5,8,30,31,32,33] [zb 33 .lss 32 31]
 (zs (zC 33 .skip
 (.exit 0))
 (zs (.block 1 (zS [4,5,8,9,10,30,31,32] [zm 34 32,zi 35 1 30 32,zl 36 1 35,zm 9 34,zm 10 36]
 (zS [4,5,8,9,10,30,31,32,38] [zm 37 10,zy 38 (.bin .eql (.t 37) (.c (zI (-1))))]
 (zC 38 (zr [4,5,8,30,31,32] [zm 39 5,zm 40 8,zy 41 (.nck (.t 40)),zf 42 4 41,zl 43 1 42,zm 44 9,zi 45 1 43 44,zl 46 1 45,zb 47 .add 39 46,zm 5 47])
 (.reg true [0,0,3,7,0,16,48,112,0,496,1008,2047,4095,8191] [4,5,8,30,31,32] [zm 48 4,zm 49 10,zi 50 1 48 49,zl 51 1 50,zm 52 8,zy 53 (.nck (.t 52)),zf 54 4 53,zl 55 1 54,zm 56 9,zi 57 1 55 56,zl 58 1 57,zb 59 .add 51 58,zi 60 1 48 49,zw (.st 1 [] (.t 60) (.t 59))])))))
 (zr [4,5,8,30,31,32] [zd 61 .add 32 (zI 1),zm 32 61])))))))
 (zS [4,5,6] [zm 62 4,zm 63 5,zq 4 62,zm 5 63,z0 6]
 .ret))))))) }
def N881:al:={ np:=2,nt:=86,res:=[(4,none)],body :=
 (zS [0,1] [zc 4 .nils]
 (zS [0,1,5] [zm 7 1,zy 8 (.bls 1 1 [zI 0] [] [(0,.t 7)]),zq 5 8]
 (zs (.block 0 (.loop (zs (zS [0,1,5,16] [zm 9 0,zy 10 (.nck (.t 9)),zf 11 3 10,zl 12 1 11,zm 13 1,zi 14 1 12 13,zl 15 1 14,zy 16 (.bin .eql (.t 15) (.c (zI (-1))))]
 (zC 16 .skip
 (.exit 0)))
 (.block 1 (zS [0,1,5,23] [zm 17 0,zy 18 (.nck (.t 17)),zf 19 0 18,zl 20 1 19,zm 21 1,zi 22 1 20 21,zl 23 1 22]
 (.block 2 (zS [0,1,5,23,35] [zy 36 (.bin .eql (.t 23) (.c (zI (-1)))),zm 35 36]
 (zC 35 (zS [4] [zq 37 5,zq 4 37]
 .ret)
 (zS [0,1,5,38] [zy 39 (.bin .eql (.t 23) (.c (zI (-2)))),zm 38 39]
 (zC 38 (zS [0,1,5,6] [zm 40 0,zy 41 (.nck (.t 40)),zf 42 1 41,zl 43 1 42,zm 44 1,zi 45 1 43 44,zl 46 1 45,zm 6 46]
 (.block 3 (.loop (zs (zS [0,1,5,6,55] [zm 47 0,zy 48 (.nck (.t 47)),zf 49 1 48,zl 50 1 49,zm 51 1,zi 52 1 50 51,zl 53 1 52,zm 54 6,zb 55 .geq 53 54]
 (zC 55 .skip
 (.exit 3)))
 (.block 4 (zs (zS [0,1,5,6,63] [zm 56 0,zy 57 (.nck (.t 56)),zf 58 2 57,zl 59 1 58,zm 60 1,zi 61 1 59 60,zl 62 1 61,zy 63 (.bin .eql (.t 62) (.c (zI (-1))))]
 (zC 63 (zS [4] [zq 64 5,zq 4 64]
 .ret)
 .skip))
 (zS [0,1,5,6] [zm 65 0,zy 66 (.nck (.t 65)),zf 67 2 66,zl 68 1 67,zm 69 1,zi 70 1 68 69,zl 71 1 70,zm 1 71]
 (zS [0,1,5,6] [zm 72 5,zm 73 1,zy 74 (.bls 1 1 [zI 0] [] [(0,.t 73)]),zy 75 (.app 1 8 false (.t 72) (.t 74)),zq 5 75]
 (zS [0,1,5,6,83] [zm 76 0,zy 77 (.nck (.t 76)),zf 78 3 77,zl 79 1 78,zm 80 1,zi 81 1 79 80,zl 82 1 81,zy 83 (.bin .neq (.t 82) (.c (zI (-1))))]
 (zC 83 (zS [4] [zq 84 5,zq 4 84]
 .ret)
 .skip))))))))))
 (zS [0,1,5] [zm 24 0,zy 25 (.nck (.t 24)),zf 26 0 25,zl 27 1 26,zm 28 1,zi 29 1 27 28,zl 30 1 29,zm 1 30]
 (zr [0,1,5] [zm 31 5,zm 32 1,zy 33 (.bls 1 1 [zI 0] [] [(0,.t 32)]),zy 34 (.app 1 8 false (.t 31) (.t 33)),zq 5 34]))))))))))))
 (zS [4] [zq 85 5,zq 4 85]
 .ret)))) }
def N882:al:={ np:=2,nt:=13,res:=[(3,none)],body :=
 (zS [0,1] [zF 3]
 (zS [3] [zm 4 0,zd 5 .lss 4 (zI 0),zm 6 5,ze 6 (zm 7 0),ze 6 (zf 8 1 1),ze 6 (zl 9 1 8),ze 6 (zn 10 9),ze 6 (zb 11 .geq 7 10),zp 12 6 11,zm 3 12]
 .ret)) }
def N883:al:={ np:=2,nt:=12,res:=[(3,none)],body :=
 (zS [0,1] [zF 3]
 (zS [3] [zm 4 0,zd 5 .lss 4 (zI 0),zm 6 5,ze 6 (zm 7 0),ze 6 (zl 8 1 1),ze 6 (zn 9 8),ze 6 (zb 10 .geq 7 9),zp 11 6 10,zm 3 11]
 .ret)) }
def N884:al:={ np:=4,nt:=207,res:=[(8,none)],body :=
 (zS [1,2,4,7] [zo 4 0,zo 7 3,zF 8]
 (zs (zS [1,2,4,7,28] [zk 27 885 [],zt 28 27]
 (zC 28 (zS [8] [zF 8]
 .ret)
 .skip))
 (zs (zS [1,2,4,7,51] [zL 29 2 4,zk 30 886 [.t 29],zt 31 30,zm 32 31,ze 32 (zm 33 1),ze 32 (zn 34 33),ze 32 (zd 35 .gtr 34 (zI 6)),zp 36 32 35,zm 37 36,ze 37 (zm 38 2),ze 37 (zn 39 38),ze 37 (zd 40 .gtr 39 (zI 6)),zp 41 37 40,zm 42 41,ze 42 (zf 43 2 7),ze 42 (zl 44 1 43),ze 42 (zn 45 44),ze 42 (zd 46 .gtr 45 (zI 30)),zp 47 42 46,zm 48 47,ze 48 (zm 49 2),ze 48 (zy 50 (.call 887 [.t 49,(.c (.fn 888 []))] [])),zp 51 48 50]
 (zC 51 (zS [8] [zc 8 (.bool true)]
 .ret)
 .skip))
 (zS [1,2,4,7,9,10] [zL 53 2 4,zm 54 1,zk 55 856 [.t 53,.t 54],zm 52 55,zx 56 0 52,zx 57 1 52,zq 9 56,zm 10 57]
 (zs (zS [1,2,4,7,9,59] [zm 58 10,zd 59 .neq 58 (zI 0)]
 (zC 59 (zS [8] [zq 60 9,zn 61 60,zd 62 .eql 61 (zI 0),zm 8 62]
 .ret)
 .skip))
 (zS [1,2,4,7,9,11,12] [zL 64 2 4,zm 65 1,zk 66 862 [.t 64,.t 65],zm 63 66,zx 67 0 63,zx 68 1 63,zq 11 67,zm 12 68]
 (zS [1,2,4,7,9,11,12,13,14] [zL 70 2 4,zm 71 1,zk 72 863 [.t 70,.t 71],zm 69 72,zx 73 0 69,zx 74 1 69,zm 13 73,zm 14 74]
 (zS [1,2,4,7,9,11,12,13,14,15,16] [zL 76 2 4,zk 77 372 [.t 76],zm 75 77,zx 78 0 75,zx 79 1 75,zm 15 78,zm 16 79]
 (zS [1,2,4,7,9,11,12,13,14,15,16,17,18] [zL 81 2 4,zm 82 9,zk 83 889 [.t 81,.t 82,(.c (zI 16))],zm 80 83,zx 84 0 80,zx 85 1 80,zq 17 84,zm 18 85]
 (zs (zS [2,4,7,9,11,17,122] [zm 86 12,zd 87 .neq 86 (zI 0),zm 88 87,ze 88 (zm 89 14),ze 88 (zd 90 .neq 89 (zI 0)),zp 91 88 90,zm 92 91,ze 92 (zm 93 16),ze 92 (zd 94 .neq 93 (zI 0)),zp 95 92 94,zm 96 95,ze 96 (zm 97 18),ze 96 (zd 98 .neq 97 (zI 0)),zp 99 96 98,zm 100 99,ze 100 (zm 101 9),ze 100 (zn 102 101),ze 100 (zf 103 1 4),ze 100 (zl 104 1 103),ze 100 (zn 105 104),ze 100 (zb 106 .neq 102 105),zp 107 100 106,zm 108 107,ze 108 (zm 109 11),ze 108 (zn 110 109),ze 108 (zq 111 1),ze 108 (zn 112 111),ze 108 (zb 113 .neq 110 112),zp 114 108 113,zm 115 114,ze 115 (zm 116 11),ze 115 (zk 117 890 [.t 116]),ze 115 (zm 118 13),ze 115 (zb 119 .add 117 118),ze 115 (zm 120 15),ze 115 (zb 121 .neq 119 120),zp 122 115 121]
 (zC 122 (zS [8] [zF 8]
 .ret)
 .skip))
 (zs (zS [2,4,7,9,17,123,124,125] [zq 123 11,zn 124 123,z0 125]
 (.block 0 (.loop (zS [2,4,7,9,17,123,124,125,126] [zb 126 .lss 125 124]
 (zs (zC 126 .skip
 (.exit 0))
 (zs (.block 1 (zS [2,4,7,9,17,19,20,123,124,125] [zm 127 125,zi 128 1 123 125,zl 129 1 128,zm 19 127,zm 20 129]
 (zS [2,4,7,9,17,19,20,21,123,124,125] [z0 21]
 (zs (zS [2,4,7,9,17,19,20,21,123,124,125,133] [zm 130 19,zm 131 17,zn 132 131,zb 133 .lss 130 132]
 (zC 133 (zr [2,4,7,9,17,19,20,21,123,124,125] [zm 134 17,zm 135 19,zi 136 1 134 135,zl 137 1 136,zk 138 890 [.t 137],zm 21 138])
 .skip))
 (zs (zS [2,4,7,9,17,19,20,123,124,125,151] [zm 139 21,zm 140 20,zb 141 .neq 139 140,zm 142 141,ze 142 (zm 143 20),ze 142 (zd 144 .gtr 143 (zI 0)),ze 142 (zm 145 144),zh 145 (zm 146 19),zh 145 (zm 147 17),zh 145 (zn 148 147),zh 145 (zb 149 .geq 146 148),ze 142 (zP 150 145 149),zp 151 142 150]
 (zC 151 (zS [8] [zF 8]
 .ret)
 .skip))
 (zS [2,4,7,9,17,20,22,23,123,124,125] [zL 153 2 4,zm 154 9,zm 155 2,zm 156 19,zk 157 891 [.t 153,.t 154,.t 155,.t 156],zm 152 157,zx 158 0 152,zx 159 1 152,zq 22 158,zm 23 159]
 (zs (zS [2,4,7,9,17,20,22,123,124,125,161] [zm 160 23,zd 161 .neq 160 (zI 0)]
 (zC 161 (zs (zS [2,4,7,9,17,123,124,125,163] [zm 162 2,zk 163 892 [.t 162]]
 (zC 163 (zS [8] [zF 8]
 .ret)
 .skip))
 (.exit 1))
 .skip))
 (zs (zS [2,4,7,9,17,20,22,123,124,125,174] [zm 164 22,zn 165 164,zm 166 2,zn 167 166,zb 168 .neq 165 167,zm 169 168,ze 169 (zm 170 22),ze 169 (zk 171 890 [.t 170]),ze 169 (zm 172 20),ze 169 (zb 173 .neq 171 172),zp 174 169 173]
 (zC 174 (zS [8] [zF 8]
 .ret)
 .skip))
 (zS [2,4,7,9,17,20,22,24,123,124,125] [zm 175 2,zn 176 175,zy 177 (.mks 3 40 [zI 0,zI 0,.own 1 []] (.t 176) (.t 176)),zq 24 177]
 (zs (zS [2,4,7,9,17,20,22,24,123,124,125,179,180] [zm 178 24,zn 179 178,z0 180]
 (.block 2 (.loop (zS [2,4,7,9,17,20,22,24,123,124,125,179,180,181] [zb 181 .lss 180 179]
 (zs (zC 181 .skip
 (.exit 2))
 (zs (.block 3 (zS [2,4,7,9,17,20,22,24,25,123,124,125,179,180] [zm 182 180,zm 25 182]
 (zr [2,4,7,9,17,20,22,24,123,124,125,179,180] [zm 183 24,zm 184 25,zL 185 3 7,zi 186 3 183 184,zw (.st 3 [] (.t 186) (.t 185))])))
 (zr [2,4,7,9,17,20,22,24,123,124,125,179,180] [zd 187 .add 180 (zI 1),zm 180 187])))))))
 (zS [2,4,7,9,17,20,23,26,123,124,125] [zy 189 (.frz (.t 24)),zq 190 22,zk 191 893 [.t 189,.t 190],zm 188 191,zx 192 0 188,zx 193 1 188,zy 26 (.alc zA2),zw (.st 3 [] (.t 26) (.t 192)),zm 23 193]
 (zs (zS [2,4,7,9,17,20,26,123,124,125,195] [zm 194 23,zd 195 .neq 194 (zI 0)]
 (zC 195 (zs (zS [2,4,7,9,17,123,124,125,197] [zL 196 3 7,zk 197 894 [.t 196]]
 (zC 197 (zS [8] [zF 8]
 .ret)
 .skip))
 (.exit 1))
 .skip))
 (zS [2,4,7,9,17,123,124,125,205] [zm 198 20,zd 199 .gtr 198 (zI 0),zm 200 199,zh 200 (zL 201 3 26),zh 200 (zL 202 3 7),zh 200 (zk 203 895 [.t 201,.t 202]),zh 200 (zt 204 203),zP 205 200 204]
 (zC 205 (zS [8] [zF 8]
 .ret)
 .skip))))))))))))))
 (zr [2,4,7,9,17,123,124,125] [zd 206 .add 125 (zI 1),zm 125 206])))))))
 (zS [8] [zc 8 (.bool true)]
 .ret)))))))))))) }
def N885:al:={ np:=0,nt:=75,res:=[(0,none)],body :=
 (zS [] [zF 0]
 (zS [1] [zy 9 (.bld [zI 0,zI 0,zI 0] []),zy 10 (.bld [zI 0,zI 0,zI 0] [(0,1,(.c (zI 1000)))]),zy 11 (.bld [zI 0,zI 0,zI 0] [(0,1,(.c (zI 1000))),(1,1,(.c (zI 1000))),(2,1,(.c (zI 9)))]),zy 12 (.bld [zI 0,zI 0,zI 0] [(1,1,(.c (zI 1000))),(2,1,(.c (zI 3)))]),zy 13 (.blsF 3 4 [zI 0,zI 0,zI 0] [(0,.t 9),(1,.t 10),(2,.t 11),(3,.t 12)]),zy 14 (.bld [zI 0,zI 0,zI 0,zI 0] [(0,1,(.c (zI 0))),(1,1,(.c (zI 1))),(2,1,(.c (zI 2)))]),zy 15 (.bld [zI 0,zI 0,zI 0,zI 0] [(0,1,(.c (zI 0))),(1,1,(.c (zI 2))),(2,1,(.c (zI 3)))]),zy 16 (.blsF 4 2 [zI 0,zI 0,zI 0,zI 0] [(0,.t 14),(1,.t 15)]),zy 17 (.bld [.nils,.nils] [(0,1,.t 13),(1,1,.t 16)]),zy 1 (.alc [.own 3 [],.own 4 []]),zw (.st 2 [] (.t 1) (.t 17))]
 (zS [2,3] [zL 19 2 1,zk 20 213 [.t 19],zm 18 20,zx 21 0 18,zx 22 1 18,zq 2 21,zm 3 22]
 (zS [2,3,4] [zy 23 (.bld [zI 0,zI 0] []),zy 24 (.bld [zI 0,zI 0] [(0,1,(.c (zI 2000))),(1,1,(.c (zI 2000000)))]),zy 25 (.blsF 2 2 [zI 0,zI 0] [(0,.t 23),(1,.t 24)]),zy 26 (.bld [.str [],zI 0,zI 0,zI 0,zI 0,zI 0,.nils,.bool false,zI 0] [(0,1,(.c (.str [109]))),(1,1,(.c (zI 1))),(5,1,(.c (zI 2000))),(6,1,.t 25)]),zy 27 (.bld [.str [],zI 0,zI 0,zI 0,zI 0,zI 0,.nils,.bool false,zI 0] [(0,1,(.c (.str [111]))),(1,1,(.c (zI 3)))]),zy 28 (.blsF 9 2 [.str [],zI 0,zI 0,zI 0,zI 0,zI 0,.own 2 [],.bool false,zI 0] [(0,.t 26),(1,.t 27)]),zy 29 (.bld [zI 0,zI 0] [(1,1,(.c (zI 1000)))]),zy 30 (.blsF 2 1 [zI 0,zI 0] [(0,.t 29)]),zy 31 (.bld [.str [],.str [],.str [],zI 0,zI 0,zI 0,zI 0,.str [],zI 0,zI 0,.nils] [(0,1,(.c (.str [112]))),(1,1,(.c (.str [109]))),(2,1,(.c (.str [111]))),(3,1,(.c (zI 4))),(5,1,(.c (zI 500))),(6,1,(.c (zI 200))),(10,1,.t 30)]),zy 32 (.blsF 11 1 [.str [],.str [],.str [],zI 0,zI 0,zI 0,zI 0,.str [],zI 0,zI 0,.own 2 []] [(0,.t 31)]),zy 33 (.bld [.nils,.nils] [(0,1,.t 28),(1,1,.t 32)]),zy 4 (.alc [.own 9 [],.own 11 []]),zw (.st 2 [] (.t 4) (.t 33))]
 (zS [2,3,4,5] [zy 34 (.blsF 1 2 [zI 0] [(0,(.c (zI 600000))),(1,(.c (zI 0)))]),zy 35 (.blsF 1 2 [zI 0] [(0,(.c (zI 0))),(1,(.c (zI 0)))]),zy 36 (.blsF 1 1 [zI 0] [(0,(.c (zI 1000)))]),zy 37 (.blsF 1 1 [.bool false] [(0,(.c (.bool false)))]),zy 38 (.bld [.nils,.nils,.nils,.nils] [(0,1,.t 34),(1,1,.t 35),(2,1,.t 36),(3,1,.t 37)]),zy 5 (.alc zA4),zw (.st 4 [] (.t 5) (.t 38))]
 (zS [2,3,6,7,8] [zL 40 2 4,zL 41 4 5,zk 42 896 [.t 40,(.c .nils),.t 41,(.c .nils),(.c (zI 100)),(.c (zI 2))],zm 39 42,zx 43 0 39,zx 44 1 39,zx 45 2 39,zy 6 (.alc zA4),zy 7 (.alc zA2),zw (.st 4 [] (.t 6) (.t 43)),zw (.st 3 [] (.t 7) (.t 44)),zm 8 45]
 (zS [0] [zm 46 3,zd 47 .eql 46 (zI 0),zm 48 47,zh 48 (zq 49 2),zh 48 (zy 50 (.blsF 1 2 [zI 0] [(0,(.c (zI (-1)))),(1,(.c (zI 0)))])),zh 48 (zk 51 19 [.t 49,.t 50]),zP 52 48 51,zm 53 52,zh 53 (zm 54 8),zh 53 (zd 55 .eql 54 (zI 0)),zP 56 53 55,zm 57 56,zh 57 (zf 58 0 6),zh 57 (zl 59 1 58),zh 57 (zn 60 59),zh 57 (zd 61 .eql 60 (zI 2)),zP 62 57 61,zm 63 62,zh 63 (zf 64 0 6),zh 63 (zl 65 1 64),zh 63 (zy 66 (.iadS 1 (.t 65) (.c (zI 0)))),zh 63 (zl 67 1 66),zh 63 (zd 68 .eql 67 (zI 400000)),zP 69 63 68,zm 70 69,zh 70 (zf 71 1 7),zh 70 (zl 72 1 71),zh 70 (zd 73 .eql 72 (zI 200000)),zP 74 70 73,zm 0 74]
 .ret))))))) }
def N886:al:={ np:=1,nt:=13,res:=[(2,none)],body :=
 (zS [1] [zo 1 0,zF 2]
 (zS [2] [zf 3 0 1,zl 4 1 3,zn 5 4,zd 6 .leq 5 (zI 40),zm 7 6,zh 7 (zf 8 1 1),zh 7 (zl 9 1 8),zh 7 (zn 10 9),zh 7 (zd 11 .leq 10 (zI 40)),zP 12 7 11,zm 2 12]
 .ret)) }
def N887:al:={ np:=2,nt:=9,res:=[(4,none)],body :=
 (zS [0,1] [zF 4]
 (zS [4] [zq 5 0,zm 6 1,zk 7 897 [.t 5,.t 6],zd 8 .geq 7 (zI 0),zm 4 8]
 .ret)) }
def N888:al:={ np:=1,nt:=7,res:=[(2,none)],body :=
 (zS [1] [zo 1 0,zF 2]
 (zS [2] [zf 3 0 1,zl 4 1 3,zy 5 (.lens (.t 4)),zd 6 .gtr 5 (zI 50),zm 2 6]
 .ret)) }
def N889:al:={ np:=3,nt:=79,res:=[(6,none),(7,none)],body :=
 (zS [1,3,5] [zo 3 0,zo 5 2,zc 6 .nils,z0 7]
 (zs (.block 0 (zS [1,3,5,11] [zL 12 2 3,zk 13 234 [.t 12],zt 14 13,zm 11 14]
 (zC 11 (zS [6,7] [zc 6 .nils,zc 7 (zI 1)]
 .ret)
 (zS [1,3,5,15] [zm 16 1,zn 17 16,zf 18 1 3,zl 19 1 18,zn 20 19,zb 21 .neq 17 20,zm 15 21]
 (zC 15 (zS [6,7] [zc 6 .nils,zc 7 (zI 3)]
 .ret)
 (zS [1,3,5,22] [zl 23 1 5,zd 24 .lss 23 (zI 1),zm 25 24,ze 25 (zl 26 1 5),ze 25 (zd 27 .gtr 26 (zI 16)),zp 28 25 27,zm 29 28,ze 29 (zm 30 1),ze 29 (zy 31 (.call 11 [.t 30,(.c (.fn 898 []))] [])),zp 32 29 31,zm 22 32]
 (zC 22 (zS [6,7] [zc 6 .nils,zc 7 (zI 2)]
 .ret)
 (zS [1,3,5,33] [zf 34 1 3,zl 35 1 34,zy 36 (.mk 900 [.t 5]),zk 37 899 [.t 35,.t 36],zm 33 37]
 (zC 33 (zS [6,7] [zc 6 .nils,zc 7 (zI 11)]
 .ret)
 .skip)))))))))
 (zS [1,3,5,8] [zy 8 (.nilo 1)]
 (zs (zS [3,5,8,38,39,40] [zq 38 1,zn 39 38,z0 40]
 (.block 1 (.loop (zS [3,5,8,38,39,40,41] [zb 41 .lss 40 39]
 (zs (zC 41 .skip
 (.exit 1))
 (zs (.block 2 (zS [3,5,8,9,10,38,39,40] [zm 42 40,zi 43 1 38 40,zl 44 1 43,zm 9 42,zm 10 44]
 (zs (.block 3 (.loop (zs (zS [3,5,8,9,10,38,39,40,48] [zm 45 8,zn 46 45,zm 47 10,zb 48 .leq 46 47]
 (zC 48 .skip
 (.exit 3)))
 (.block 4 (zr [3,5,8,9,10,38,39,40] [zm 49 8,zl 50 1 5,zy 51 (.mks 1 8 [zI 0] (.t 50) (.t 50)),zy 52 (.bls 1 1 [.own 1 []] [] [(0,.t 51)]),zy 53 (.app 1 24 true (.t 49) (.t 52)),zq 8 53])))))
 (zS [3,5,8,9,10,38,39,40,55] [zm 54 10,zd 55 .geq 54 (zI 0)]
 (zC 55 (.reg true [0,0,3,7,0,16,0,112,240,496,1023,2047,0,0,8192,0,57344,122880,258048,524287,1048575,2097151] [3,5,8,38,39,40] [zm 56 8,zm 57 10,zi 58 1 56 57,zl 59 1 58,zf 60 1 3,zl 61 1 60,zm 62 9,zi 63 4 61 62,zf 64 3 63,zl 65 1 64,zi 66 1 59 65,zl 67 1 66,zL 68 2 3,zf 69 1 3,zl 70 1 69,zm 71 9,zi 72 4 70 71,zL 73 4 72,zk 74 901 [.t 68,.t 73],zb 75 .add 67 74,zi 76 1 59 65,zw (.st 1 [] (.t 76) (.t 75))])
 .skip)))))
 (zr [3,5,8,38,39,40] [zd 77 .add 40 (zI 1),zm 40 77])))))))
 (zS [6,7] [zq 78 8,zq 6 78,z0 7]
 .ret))))) }
def N890:al:={ np:=1,nt:=17,res:=[(2,none)],body :=
 (zS [0] [z0 2]
 (zS [0,3] [z0 3]
 (zs (zS [3,6,7,8] [zq 6 0,zn 7 6,z0 8]
 (.block 0 (.loop (zS [3,6,7,8,9] [zb 9 .lss 8 7]
 (zs (zC 9 .skip
 (.exit 0))
 (zs (.block 1 (zS [3,5,6,7,8] [zi 10 1 6 8,zl 11 1 10,zm 5 11]
 (zr [3,6,7,8] [zm 12 3,zm 13 5,zb 14 .add 12 13,zm 3 14])))
 (zr [3,6,7,8] [zd 15 .add 8 (zI 1),zm 8 15])))))))
 (zS [2] [zm 16 3,zm 2 16]
 .ret)))) }
def N891:al:={ np:=4,nt:=115,res:=[(8,none),(9,none)],body :=
 (zS [1,2,3,4] [zo 4 0,zc 8 .nils,z0 9]
 (zs (.block 0 (zS [1,2,3,4,18] [zL 19 2 4,zk 20 234 [.t 19],zt 21 20,zm 22 21,ze 22 (zm 23 2),ze 22 (zk 24 892 [.t 23]),ze 22 (zt 25 24),zp 26 22 25,zm 18 26]
 (zC 18 (zS [8,9] [zc 8 .nils,zc 9 (zI 1)]
 .ret)
 (zS [1,2,3,4,27] [zm 28 1,zn 29 28,zf 30 1 4,zl 31 1 30,zn 32 31,zb 33 .neq 29 32,zm 27 33]
 (zC 27 (zS [8,9] [zc 8 .nils,zc 9 (zI 3)]
 .ret)
 (zS [1,2,3,4,34] [zm 35 3,zd 36 .lss 35 (zI 0),zm 37 36,ze 37 (zm 38 3),ze 37 (zd 39 .geq 38 (zI 300)),zp 40 37 39,zm 41 40,ze 41 (zm 42 1),ze 41 (zy 43 (.call 11 [.t 42,(.c (.fn 902 []))] [])),zp 44 41 43,zm 34 44]
 (zC 34 (zS [8,9] [zc 8 .nils,zc 9 (zI 2)]
 .ret)
 .skip)))))))
 (zS [1,2,3,4,10] [zm 45 2,zn 46 45,zy 47 (.mks 1 8 [zI 0] (.t 46) (.t 46)),zq 10 47]
 (zs (zS [1,2,3,4,10,49,50,51] [zf 48 1 4,zl 49 1 48,zn 50 49,z0 51]
 (.block 1 (.loop (zS [1,2,3,4,10,49,50,51,52] [zb 52 .lss 51 50]
 (zs (zC 52 .skip
 (.exit 1))
 (zs (.block 2 (zS [1,2,3,4,10,11,12,49,50,51] [zm 53 51,zi 54 4 49 51,zL 55 4 54,zy 12 (.alc zA9),zm 11 53,zw (.st 4 [] (.t 12) (.t 55))]
 (zs (zS [1,2,3,4,10,11,12,49,50,51,61] [zm 56 1,zm 57 11,zi 58 1 56 57,zl 59 1 58,zm 60 3,zb 61 .neq 59 60]
 (zC 61 (.exit 2)
 .skip))
 (zS [1,2,3,4,10,12,13,14,49,50,51] [zL 63 2 4,zm 64 11,zk 65 373 [.t 63,.t 64],zm 62 65,zx 66 0 62,zx 67 1 62,zm 13 66,zm 14 67]
 (zs (zS [1,2,3,4,10,12,13,14,49,50,51,69] [zm 68 14,zd 69 .neq 68 (zI 0)]
 (zC 69 (zS [8,9] [zm 70 14,zc 8 .nils,zm 9 70]
 .ret)
 .skip))
 (zS [1,2,3,4,10,12,13,15,49,50,51] [zy 15 (.alc zA1)]
 (zs (zS [1,2,3,4,10,13,15,49,50,51,77,78,79] [zf 71 0 12,zl 72 1 71,zf 73 1 12,zl 74 1 73,zf 75 2 12,zl 76 1 75,zy 77 (.bls 1 3 [zI 0] [] [(0,.t 72),(1,.t 74),(2,.t 76)]),zn 78 77,z0 79]
 (.block 3 (.loop (zS [1,2,3,4,10,13,15,49,50,51,77,78,79,80] [zb 80 .lss 79 78]
 (zs (zC 80 .skip
 (.exit 3))
 (zs (.block 4 (zS [1,2,3,4,10,13,15,17,49,50,51,77,78,79] [zi 81 1 77 79,zl 82 1 81,zm 17 82]
 (.reg true [0,1,0,4,0,28,60,124,255,0,512,0,2048,0,14336,30720,63488,130560,2047,264191,1048575,2097151] [1,2,3,4,10,13,15,49,50,51,77,78,79] [zf 83 0 15,zl 84 1 83,zf 85 0 4,zl 86 1 85,zm 87 17,zi 88 3 86 87,zf 89 0 88,zl 90 1 89,zb 91 .add 84 90,zf 92 1 15,zl 93 1 92,zf 94 0 4,zl 95 1 94,zm 96 17,zi 97 3 95 96,zf 98 1 97,zl 99 1 98,zb 100 .add 93 99,zf 101 0 15,zw (.st 1 [] (.t 101) (.t 91)),zf 102 1 15,zw (.st 1 [] (.t 102) (.t 100))])))
 (zr [1,2,3,4,10,13,15,49,50,51,77,78,79] [zd 103 .add 79 (zI 1),zm 79 103])))))))
 (zr [1,2,3,4,10,49,50,51] [zm 104 10,zm 105 2,zL 106 2 15,zk 107 903 [.t 105,.t 106,(.c (zI 3))],zi 108 1 104 107,zl 109 1 108,zm 110 13,zb 111 .add 109 110,zi 112 1 104 107,zw (.st 1 [] (.t 112) (.t 111))]))))))))
 (zr [1,2,3,4,10,49,50,51] [zd 113 .add 51 (zI 1),zm 51 113])))))))
 (zS [8,9] [zq 114 10,zq 8 114,z0 9]
 .ret))))) }
def N892:al:={ np:=1,nt:=38,res:=[(2,none)],body :=
 (zS [0] [zF 2]
 (zs (zS [0,12] [zm 5 0,zn 6 5,zd 7 .lss 6 (zI 1),zm 8 7,ze 8 (zm 9 0),ze 8 (zn 10 9),ze 8 (zd 11 .gtr 10 (zI 100)),zp 12 8 11]
 (zC 12 (zS [2] [zF 2]
 .ret)
 .skip))
 (zs (zS [0,13,14,15] [zm 13 0,zn 14 13,z0 15]
 (.block 0 (.loop (zS [0,13,14,15,16] [zb 16 .lss 15 14]
 (zs (zC 16 .skip
 (.exit 0))
 (zs (.block 1 (zS [0,3,4,13,14,15] [zm 17 15,zi 18 3 13 15,zL 19 3 18,zy 4 (.alc [.str [],zI 0,zI 0]),zm 3 17,zw (.st 3 [] (.t 4) (.t 19))]
 (zS [0,13,14,15,36] [zf 20 0 4,zl 21 1 20,zk 22 58 [.t 21],zt 23 22,zm 24 23,ze 24 (zf 25 1 4),ze 24 (zL 26 2 25),ze 24 (zk 27 313 [.t 26]),ze 24 (zt 28 27),zp 29 24 28,zm 30 29,ze 30 (zm 31 0),ze 30 (zm 32 3),ze 30 (zy 33 (.slc 3 (.t 31) none (some (.t 32)))),ze 30 (zy 34 (.mk 904 [.t 4])),ze 30 (zk 35 887 [.t 33,.t 34]),zp 36 30 35]
 (zC 36 (zS [2] [zF 2]
 .ret)
 .skip))))
 (zr [0,13,14,15] [zd 37 .add 15 (zI 1),zm 15 37])))))))
 (zS [2] [zc 2 (.bool true)]
 .ret)))) }
def N893:al:={ np:=2,nt:=75,res:=[(4,some (3,true)),(5,none)],body :=
 (zS [0,1,4] [zy 4 (.alc zA2),z0 5]
 (zS [0,1,4,6] [zm 14 0,zk 15 905 [.t 14],zm 6 15]
 (zs (.block 0 (zS [0,1,4,6,16] [zm 17 6,zd 18 .neq 17 (zI 0),zm 16 18]
 (zC 16 (zS [4,5] [zy 19 (.bld [zI 0,zI 0,.nils] []),zm 20 6,zw (.st 3 [] (.t 4) (.t 19)),zm 5 20]
 .ret)
 (zS [0,1,4,21] [zm 22 1,zn 23 22,zm 24 0,zn 25 24,zb 26 .neq 23 25,zm 21 26]
 (zC 21 (zS [4,5] [zy 27 (.bld [zI 0,zI 0,.nils] []),zw (.st 3 [] (.t 4) (.t 27)),zc 5 (zI 3)]
 .ret)
 (zS [0,1,4,28] [zm 29 1,zy 30 (.call 11 [.t 29,(.c (.fn 906 []))] []),zm 28 30]
 (zC 28 (zS [4,5] [zy 31 (.bld [zI 0,zI 0,.nils] []),zw (.st 3 [] (.t 4) (.t 31)),zc 5 (zI 2)]
 .ret)
 .skip)))))))
 (zS [0,1,4,7,8,9] [zm 33 0,zk 34 907 [.t 33],zm 32 34,zx 35 0 32,zx 36 1 32,zx 37 2 32,zm 7 35,zm 8 36,zm 9 37]
 (zs (zS [0,1,4,7,8,39] [zm 38 9,zt 39 38]
 (zC 39 (zS [4,5] [zy 40 (.bld [zI 0,zI 0,.nils] []),zw (.st 3 [] (.t 4) (.t 40)),zc 5 (zI 25)]
 .ret)
 .skip))
 (zS [0,1,4,7,8,10] [zm 41 7,zm 42 0,zy 43 (.iadS 3 (.t 42) (.c (zI 0))),zf 44 1 43,zl 45 1 44,zy 46 (.bld [zI 0,zI 0,.nils] [(0,1,.t 41),(1,1,.t 45)]),zy 10 (.alc zA2),zw (.st 3 [] (.t 10) (.t 46))]
 (zs (zS [0,1,4,7,10,47,48] [zm 47 8,z0 48]
 (.block 1 (.loop (zS [0,1,4,7,10,47,48,49] [zb 49 .lss 48 47]
 (zs (zC 49 .skip
 (.exit 1))
 (zs (.block 2 (zS [0,1,4,7,10,11,47,48] [zm 50 48,zm 11 50]
 (zS [0,1,4,7,10,12,13,47,48] [zm 52 0,zm 53 1,zm 54 7,zm 55 11,zf 56 1 10,zl 57 1 56,zb 58 .mul 55 57,zb 59 .add 54 58,zk 60 908 [.t 52,.t 53,.t 59],zm 51 60,zx 61 0 51,zx 62 1 51,zm 12 61,zm 13 62]
 (zs (zS [0,1,4,7,10,12,13,47,48,64] [zm 63 13,zd 64 .neq 63 (zI 0)]
 (zC 64 (zS [4,5] [zy 65 (.bld [zI 0,zI 0,.nils] []),zm 66 13,zw (.st 3 [] (.t 4) (.t 65)),zm 5 66]
 .ret)
 .skip))
 (zr [0,1,4,7,10,47,48] [zf 67 2 10,zl 68 1 67,zm 69 12,zy 70 (.bls 1 1 [zI 0] [] [(0,.t 69)]),zy 71 (.app 1 8 false (.t 68) (.t 70)),zf 72 2 10,zw (.st 1 [] (.t 72) (.t 71))])))))
 (zr [0,1,4,7,10,47,48] [zd 73 .add 48 (zI 1),zm 48 73])))))))
 (zS [4,5] [zy 74 (.ldF 3 (.t 10)),zw (.st 3 [] (.t 4) (.t 74)),z0 5]
 .ret)))))))) }
def N894:al:={ np:=1,nt:=40,res:=[(2,none)],body :=
 (zS [1] [zo 1 0,zF 2]
 (zs (zS [1,35] [zf 3 0 1,zl 4 1 3,zk 5 909 [.t 4],zt 6 5,zm 7 6,ze 7 (zf 8 1 1),ze 7 (zl 9 1 8),ze 7 (zd 10 .lss 9 (zI 1)),zp 11 7 10,zm 12 11,ze 12 (zf 13 1 1),ze 12 (zl 14 1 13),ze 12 (zd 15 .gtr 14 (zI 86400)),zp 16 12 15,zm 17 16,ze 17 (zf 18 2 1),ze 17 (zl 19 1 18),ze 17 (zn 20 19),ze 17 (zd 21 .gtr 20 (zI 10000)),zp 22 17 21,zm 23 22,ze 23 (zf 24 0 1),ze 23 (zl 25 1 24),ze 23 (zf 26 1 1),ze 23 (zl 27 1 26),ze 23 (zf 28 2 1),ze 23 (zl 29 1 28),ze 23 (zn 30 29),ze 23 (zb 31 .mul 27 30),ze 23 (zb 32 .add 25 31),ze 23 (zk 33 909 [.t 32]),ze 23 (zt 34 33),zp 35 23 34]
 (zC 35 (zS [2] [zF 2]
 .ret)
 .skip))
 (zS [2] [zf 36 2 1,zl 37 1 36,zy 38 (.call 11 [.t 37,(.c (.fn 910 []))] []),zt 39 38,zm 2 39]
 .ret))) }
def N895:al:={ np:=2,nt:=45,res:=[(4,none)],body :=
 (zS [2,3] [zo 2 0,zo 3 1,zF 4]
 (zs (zS [2,3,26] [zf 6 0 2,zl 7 1 6,zf 8 0 3,zl 9 1 8,zb 10 .neq 7 9,zm 11 10,ze 11 (zf 12 1 2),ze 11 (zl 13 1 12),ze 11 (zf 14 1 3),ze 11 (zl 15 1 14),ze 11 (zb 16 .neq 13 15),zp 17 11 16,zm 18 17,ze 18 (zf 19 2 2),ze 18 (zl 20 1 19),ze 18 (zn 21 20),ze 18 (zf 22 2 3),ze 18 (zl 23 1 22),ze 18 (zn 24 23),ze 18 (zb 25 .neq 21 24),zp 26 18 25]
 (zC 26 (zS [4] [zF 4]
 .ret)
 .skip))
 (zs (zS [2,3,5] [z0 5]
 (.block 0 (.loop (zs (zS [2,3,5,31] [zm 27 5,zf 28 2 2,zl 29 1 28,zn 30 29,zb 31 .lss 27 30]
 (zC 31 .skip
 (.exit 0)))
 (zs (.block 1 (zs (.reg true [0,1,0,7,15,0,32,0,224,480,1023] [2,3,5,44] [zf 34 2 2,zl 35 1 34,zm 36 5,zi 37 1 35 36,zl 38 1 37,zf 39 2 3,zl 40 1 39,zm 41 5,zi 42 1 40 41,zl 43 1 42,zb 44 .neq 38 43])
 (zC 44 (zS [4] [zF 4]
 .ret)
 .skip)))
 (zr [2,3,5] [zm 32 5,zd 33 .add 32 (zI 1),zm 5 33]))))))
 (zS [4] [zc 4 (.bool true)]
 .ret)))) }
def N896:al:={ np:=6,nt:=59,res:=[(12,some (4,true)),(13,some (3,true)),(14,none)],body :=
 (zS [1,3,4,5,6,8,12,13] [zo 6 0,zo 8 2,zy 12 (.alc zA4),zy 13 (.alc zA2),z0 14]
 (zS [6,8,12,13,15,16,17] [zL 20 2 6,zq 21 1,zL 22 4 8,zq 23 3,zm 24 4,zm 25 5,zk 26 911 [.t 20,.t 21,.t 22,.t 23,.t 24,.t 25],zm 19 26,zx 27 0 19,zx 28 1 19,zx 29 2 19,zq 15 27,zq 16 28,zm 17 29]
 (zs (zS [6,8,12,13,15,16,17,31] [zm 30 17,zd 31 .neq 30 (zI 0)]
 (zC 31 (zS [12,13,14] [zy 32 (.bld [.nils,.nils,.nils,.nils] []),zy 33 (.bld [zI 0,zI 0,.nils] []),zm 34 17,zw (.st 4 [] (.t 12) (.t 32)),zw (.st 3 [] (.t 13) (.t 33)),zm 14 34]
 .ret)
 .skip))
 (zS [8,12,13,15,17,18] [zL 36 2 6,zq 37 16,zk 38 912 [.t 36,.t 37],zm 35 38,zx 39 0 35,zx 40 1 35,zy 18 (.alc zA2),zw (.st 3 [] (.t 18) (.t 39)),zm 17 40]
 (zs (zS [8,12,13,15,17,18,42] [zm 41 17,zd 42 .neq 41 (zI 0)]
 (zC 42 (zS [12,13,14] [zy 43 (.bld [.nils,.nils,.nils,.nils] []),zy 44 (.bld [zI 0,zI 0,.nils] []),zm 45 17,zw (.st 4 [] (.t 12) (.t 43)),zw (.st 3 [] (.t 13) (.t 44)),zm 14 45]
 .ret)
 .skip))
 (zs (zS [8,12,13,15,18,48] [zm 46 15,zn 47 46,zd 48 .eql 47 (zI 0)]
 (zC 48 (zs (.reg true [0,1,0,3,15,31] [12,13,14] [zL 49 4 8,zk 50 913 [.t 49],zL 51 3 18,zw (.st 4 [] (.t 12) (.t 50)),zw (.st 3 [] (.t 13) (.t 51)),z0 14])
 .ret)
 .skip))
 (zs (.reg true [0,0,2,6,15,31,0,63,255,511] [12,13,14] [zm 52 15,zq 53 15,zn 54 53,zd 55 .sub 54 (zI 1),zi 56 4 52 55,zL 57 4 56,zL 58 3 18,zw (.st 4 [] (.t 12) (.t 57)),zw (.st 3 [] (.t 13) (.t 58)),z0 14])
 .ret))))))) }
def N897:al:={ np:=2,nt:=19,res:=[(4,none)],body :=
 (zS [0,1] [z0 4]
 (zs (zS [0,1,7,8] [zm 6 0,zn 7 6,z0 8]
 (.block 0 (.loop (zS [0,1,7,8,9] [zb 9 .lss 8 7]
 (zs (zC 9 .skip
 (.exit 0))
 (zs (.block 1 (zS [0,1,5,7,8] [zm 10 8,zm 5 10]
 (zS [0,1,5,7,8,16] [zm 11 1,zm 12 0,zm 13 5,zi 14 3 12 13,zL 15 3 14,zy 16 (.callv (.t 11) [.t 15])]
 (zC 16 (zS [4] [zm 17 5,zm 4 17]
 .ret)
 .skip))))
 (zr [0,1,7,8] [zd 18 .add 8 (zI 1),zm 8 18])))))))
 (zS [4] [zy 4 (.mov (.c (zI (-1))))]
 .ret))) }
def N898:al:={ np:=1,nt:=9,res:=[(2,none)],body :=
 (zS [0] [zF 2]
 (zS [2] [zm 3 0,zy 4 (.bin .lss (.t 3) (.c (zI (-1)))),zm 5 4,ze 5 (zm 6 0),ze 5 (zd 7 .geq 6 (zI 300)),zp 8 5 7,zm 2 8]
 .ret)) }
def N899:al:={ np:=2,nt:=9,res:=[(4,none)],body :=
 (zS [0,1] [zF 4]
 (zS [4] [zq 5 0,zm 6 1,zk 7 914 [.t 5,.t 6],zd 8 .geq 7 (zI 0),zm 4 8]
 .ret)) }
def N900:al:={ np:=2,nt:=8,res:=[(3,none)],body :=
 (zS [1,2] [zo 2 0,zF 3]
 (zS [3] [zf 4 3 2,zl 5 1 4,zl 6 1 1,zb 7 .geq 5 6,zm 3 7]
 .ret)) }
def N901:al:={ np:=2,nt:=49,res:=[(4,none)],body :=
 (zS [2,3] [zo 2 0,zo 3 1,z0 4]
 (zs (.reg true [0,1,0,4,15,31,0,64,0,256,960,1984,0,4096,0,16384,61440,126976,0,0,0,1835071,3936255,8388607] [5,6,7] [zf 8 0 2,zl 9 1 8,zf 10 0 3,zl 11 1 10,zi 12 3 9 11,zL 13 3 12,zf 14 0 2,zl 15 1 14,zf 16 1 3,zl 17 1 16,zi 18 3 15 17,zL 19 3 18,zf 20 0 2,zl 21 1 20,zf 22 2 3,zl 23 1 22,zi 24 3 21 23,zL 25 3 24,zy 5 (.alc zA3),zy 6 (.alc zA3),zy 7 (.alc zA3),zw (.st 3 [] (.t 5) (.t 13)),zw (.st 3 [] (.t 6) (.t 19)),zw (.st 3 [] (.t 7) (.t 25))])
 (zS [4] [zf 26 0 6,zl 27 1 26,zf 28 0 5,zl 29 1 28,zb 30 .sub 27 29,zf 31 1 7,zl 32 1 31,zf 33 1 5,zl 34 1 33,zb 35 .sub 32 34,zb 36 .mul 30 35,zf 37 1 6,zl 38 1 37,zf 39 1 5,zl 40 1 39,zb 41 .sub 38 40,zf 42 0 7,zl 43 1 42,zf 44 0 5,zl 45 1 44,zb 46 .sub 43 45,zb 47 .mul 41 46,zb 48 .sub 36 47,zm 4 48]
 .ret))) }
def N902:al:={ np:=1,nt:=9,res:=[(2,none)],body :=
 (zS [0] [zF 2]
 (zS [2] [zm 3 0,zy 4 (.bin .lss (.t 3) (.c (zI (-1)))),zm 5 4,ze 5 (zm 6 0),ze 5 (zd 7 .geq 6 (zI 300)),zp 8 5 7,zm 2 8]
 .ret)) }
def N903:al:={ np:=3,nt:=32,res:=[(6,none)],body :=
 (zS [0,2,4] [zo 4 1,z0 6]
 (zS [0,2,4,7] [z0 7]
 (zs (zS [0,2,4,7,10,11,12] [zm 10 0,zn 11 10,z0 12]
 (.block 0 (.loop (zS [0,2,4,7,10,11,12,13] [zb 13 .lss 12 11]
 (zs (zC 13 .skip
 (.exit 0))
 (zs (.block 1 (zS [0,2,4,7,8,9,10,11,12] [zm 14 12,zi 15 3 10 12,zL 16 3 15,zy 9 (.alc [.str [],zI 0,zI 0]),zm 8 14,zw (.st 3 [] (.t 9) (.t 16))]
 (zs (.reg true [0,0,0,7,0,0,48,112,0,0,1023,2047] [0,2,4,7,8,10,11,12,28] [zL 17 3 9,zL 18 2 4,zm 19 2,zk 20 915 [.t 17,.t 18,.t 19],zm 21 0,zm 22 7,zi 23 3 21 22,zL 24 3 23,zL 25 2 4,zm 26 2,zk 27 915 [.t 24,.t 25,.t 26],zb 28 .lss 20 27])
 (zC 28 (zr [0,2,4,7,10,11,12] [zm 29 8,zm 7 29])
 .skip))))
 (zr [0,2,4,7,10,11,12] [zd 30 .add 12 (zI 1),zm 12 30])))))))
 (zS [6] [zm 31 7,zm 6 31]
 .ret)))) }
def N904:al:={ np:=2,nt:=9,res:=[(3,none)],body :=
 (zS [1,2] [zo 2 0,zF 3]
 (zS [3] [zf 4 0 2,zl 5 1 4,zf 6 0 1,zl 7 1 6,zb 8 .eql 5 7,zm 3 8]
 .ret)) }
def N905:al:={ np:=1,nt:=14,res:=[(2,none)],body :=
 (zS [0] [z0 2]
 (zs (.block 0 (zS [0,3] [zm 4 0,zy 5 (.call 916 [.t 4,(.c (.fn 917 []))] []),zm 3 5]
 (zC 3 (zS [2] [zc 2 (zI 1)]
 .ret)
 (zS [0,6] [zm 7 0,zn 8 7,zd 9 .gtr 8 (zI 100),zm 6 9]
 (zC 6 (zS [2] [zc 2 (zI 4)]
 .ret)
 (zS [10] [zq 11 0,zn 12 11,zd 13 .eql 12 (zI 0),zm 10 13]
 (zC 10 (zS [2] [zc 2 (zI 14)]
 .ret)
 .skip)))))))
 (zS [2] [z0 2]
 .ret))) }
def N906:al:={ np:=1,nt:=9,res:=[(2,none)],body :=
 (zS [0] [zF 2]
 (zS [2] [zm 3 0,zd 4 .lss 3 (zI 0),zm 5 4,ze 5 (zm 6 0),ze 5 (zd 7 .gtr 6 (zI 9007199254740992)),zp 8 5 7,zm 2 8]
 .ret)) }
def N907:al:={ np:=1,nt:=70,res:=[(2,none),(3,none),(4,none)],body :=
 (zS [0] [z0 2,z0 3,zF 4]
 (zS [0,5] [zm 9 0,zy 10 (.iadS 3 (.t 9) (.c (zI 0))),zf 11 1 10,zl 12 1 11,zm 5 12]
 (zS [0,2,5] [zm 13 0,zy 14 (.iadS 3 (.t 13) (.c (zI 0))),zf 15 0 14,zl 16 1 15,zm 2 16]
 (zS [0,2,5,6] [zm 17 2,zm 18 5,zm 19 0,zy 20 (.iadS 3 (.t 19) (.c (zI 0))),zf 21 2 20,zl 22 1 21,zn 23 22,zb 24 .mul 18 23,zb 25 .add 17 24,zm 6 25]
 (zs (zS [0,2,5,6,26,27,28] [zm 26 0,zn 27 26,z0 28]
 (.block 0 (.loop (zS [0,2,5,6,26,27,28,29] [zb 29 .lss 28 27]
 (zs (zC 29 .skip
 (.exit 0))
 (zs (.block 1 (zS [0,2,5,6,8,26,27,28] [zi 30 3 26 28,zL 31 3 30,zy 8 (.alc zA2),zw (.st 3 [] (.t 8) (.t 31))]
 (zs (zs (.reg true [0,1,0,7,15,31,63,31,159,415,927,2047,31,8191,16383,32767] [0,2,5,6,8,26,27,28,47] [zf 32 1 8,zl 33 1 32,zm 34 5,zb 35 .neq 33 34,zm 36 35,ze 36 (zf 37 0 8),ze 36 (zl 38 1 37),ze 36 (zm 39 0),ze 36 (zy 40 (.iadS 3 (.t 39) (.c (zI 0)))),ze 36 (zf 41 0 40),ze 36 (zl 42 1 41),ze 36 (zb 43 .sub 38 42),ze 36 (zm 44 5),ze 36 (zb 45 .rem 43 44),ze 36 (zd 46 .neq 45 (zI 0)),zp 47 36 46])
 (zC 47 (zS [2,3,4] [z0 2,z0 3,zF 4]
 .ret)
 .skip))
 (.reg true [0,0,2,7,0,0,32,0,0,256,768,1920,4064,8176,15,32767] [0,2,5,6,26,27,28] [zm 48 2,zf 49 0 8,zl 50 1 49,zy 51 (.mx (.t 48) (.t 50)),zm 52 6,zf 53 0 8,zl 54 1 53,zm 55 5,zf 56 2 8,zl 57 1 56,zn 58 57,zb 59 .mul 55 58,zb 60 .add 54 59,zy 61 (.mn (.t 52) (.t 60)),zm 2 51,zm 6 61]))))
 (zr [0,2,5,6,26,27,28] [zd 62 .add 28 (zI 1),zm 28 62])))))))
 (zs (.reg true [0,0,0,6,14,0,62,5,255,511] [2,3,4] [zm 63 2,zm 64 6,zm 65 2,zb 66 .sub 64 65,zy 67 (.mx (.c (zI 0)) (.t 66)),zm 68 5,zb 69 .quo 67 68,zm 2 63,zm 3 69,zc 4 (.bool true)])
 .ret)))))) }
def N908:al:={ np:=3,nt:=71,res:=[(6,none),(7,none)],body :=
 (zS [0,1,2] [z0 6,z0 7]
 (zS [0,1,2,8,9] [zk 15 265 [(.c (zI 0))],zy 8 (.alc zA1),zw (.st 2 [] (.t 8) (.t 15)),z0 9]
 (zs (zS [1,2,8,9,16,17,18] [zq 16 0,zn 17 16,z0 18]
 (.block 0 (.loop (zS [1,2,8,9,16,17,18,19] [zb 19 .lss 18 17]
 (zs (zC 19 .skip
 (.exit 0))
 (zs (.block 1 (zS [1,2,8,9,10,11,16,17,18] [zm 20 18,zi 21 3 16 18,zL 22 3 21,zy 11 (.alc zA2),zm 10 20,zw (.st 3 [] (.t 11) (.t 22))]
 (zs (.reg true [0,1,0,0,8,28,0,64,252,511,1023,2047] [1,2,8,9,10,12,16,17,18] [zf 23 2 11,zl 24 1 23,zm 25 2,zf 26 0 11,zl 27 1 26,zb 28 .sub 25 27,zf 29 1 11,zl 30 1 29,zb 31 .quo 28 30,zi 32 1 24 31,zl 33 1 32,zm 12 33])
 (zs (zS [1,2,8,9,10,12,16,17,18,35] [zm 34 12,zd 35 .lss 34 (zI 0)]
 (zC 35 (.exit 1)
 .skip))
 (zS [1,2,8,9,10,13,14,16,17,18] [zm 37 1,zm 38 10,zi 39 1 37 38,zl 40 1 39,zm 41 12,zk 42 99 [.t 40,.t 41],zm 36 42,zx 43 0 36,zx 44 1 36,zy 13 (.alc zA1),zw (.st 2 [] (.t 13) (.t 43)),zm 14 44]
 (zs (zS [1,2,8,9,10,13,14,16,17,18,46] [zm 45 14,zd 46 .neq 45 (zI 0)]
 (zC 46 (zS [6,7] [zm 47 14,z0 6,zm 7 47]
 .ret)
 .skip))
 (zs (zS [1,2,8,9,10,14,16,17,18] [zL 49 2 8,zL 50 2 13,zk 51 327 [.t 49,.t 50],zm 48 51,zx 52 0 48,zx 53 1 48,zw (.st 2 [] (.t 8) (.t 52)),zm 14 53]
 (zS [1,2,8,9,10,14,16,17,18,55] [zm 54 14,zd 55 .neq 54 (zI 0)]
 (zC 55 (zS [6,7] [zm 56 14,z0 6,zm 7 56]
 .ret)
 .skip)))
 (zr [1,2,8,9,16,17,18] [zm 57 9,zm 58 1,zm 59 10,zi 60 1 58 59,zl 61 1 60,zb 62 .add 57 61,zm 9 62]))))))))
 (zr [1,2,8,9,16,17,18] [zd 63 .add 18 (zI 1),zm 18 63])))))))
 (zs (zS [8,9,65] [zm 64 9,zd 65 .eql 64 (zI 0)]
 (zC 65 (zS [6,7] [zy 6 (.mov (.c (zI (-1)))),z0 7]
 .ret)
 .skip))
 (zS [6,7] [zL 66 2 8,zm 67 9,zk 68 271 [.t 66,.t 67],zx 69 0 68,zx 70 1 68,zm 6 69,zm 7 70]
 .ret))))) }
def N909:al:={ np:=1,nt:=9,res:=[(2,none)],body :=
 (zS [0] [zF 2]
 (zS [2] [zm 3 0,zy 4 (.bin .geq (.t 3) (.c (zI (-68719476736)))),zm 5 4,zh 5 (zm 6 0),zh 5 (zd 7 .leq 6 (zI 68719476736)),zP 8 5 7,zm 2 8]
 .ret)) }
def N910:al:={ np:=1,nt:=9,res:=[(2,none)],body :=
 (zS [0] [zF 2]
 (zS [2] [zm 3 0,zy 4 (.bin .lss (.t 3) (.c (zI (-1)))),zm 5 4,ze 5 (zm 6 0),ze 5 (zd 7 .gtr 6 (zI 4194304)),zp 8 5 7,zm 2 8]
 .ret)) }
def N911:al:={ np:=6,nt:=104,res:=[(12,none),(13,none),(14,none)],body :=
 (zS [1,3,4,5,6,8] [zo 6 0,zo 8 2,zc 12 .nils,zc 13 .nils,z0 14]
 (zs (zS [1,3,4,5,6,8,31] [zL 27 2 6,zm 28 1,zL 29 4 8,zk 30 918 [.t 27,.t 28,.t 29],zt 31 30]
 (zC 31 (zS [12,13,14] [zc 12 .nils,zc 13 .nils,zc 14 (zI 1)]
 .ret)
 .skip))
 (zS [1,3,4,5,6,8,15] [zy 15 (.nilo 1)]
 (zs (zS [1,3,4,5,6,8,15,33,34,35] [zf 32 0 6,zl 33 1 32,zn 34 33,z0 35]
 (.block 0 (.loop (zS [1,3,4,5,6,8,15,33,34,35,36] [zb 36 .lss 35 34]
 (zs (zC 36 .skip
 (.exit 0))
 (zs (.block 1 (zS [1,3,4,5,6,8,15,17,33,34,35] [zi 37 9 33 35,zL 38 9 37,zy 17 (.alc zA5),zw (.st 9 [] (.t 17) (.t 38))]
 (zr [1,3,4,5,6,8,15,33,34,35] [zm 39 15,zf 40 0 17,zl 41 1 40,zy 42 (.bls 1 1 [.str []] [] [(0,.t 41)]),zy 43 (.app 1 16 false (.t 39) (.t 42)),zq 15 43])))
 (zr [1,3,4,5,6,8,15,33,34,35] [zd 44 .add 35 (zI 1),zm 35 44])))))))
 (zs (zS [1,3,4,5,6,8,15,18] [zm 45 3,zm 46 15,zk 47 919 [.t 45,.t 46],zm 18 47]
 (zS [1,3,4,5,6,8,15,18,49] [zm 48 18,zd 49 .neq 48 (zI 0)]
 (zC 49 (zS [12,13,14] [zm 50 18,zc 12 .nils,zc 13 .nils,zm 14 50]
 .ret)
 .skip)))
 (zs (zS [1,3,4,5,6,8,15,61] [zm 51 5,zk 52 920 [.t 51],zt 53 52,zm 54 53,ze 54 (zm 55 4),ze 54 (zd 56 .lss 55 (zI 1)),zp 57 54 56,zm 58 57,ze 58 (zm 59 4),ze 58 (zd 60 .gtr 59 (zI 86400)),zp 61 58 60]
 (zC 61 (zS [12,13,14] [zc 12 .nils,zc 13 .nils,zc 14 (zI 2)]
 .ret)
 .skip))
 (zS [1,3,4,5,6,8,15,19] [zy 19 (.nilo 4)]
 (zS [1,3,4,5,6,8,15,19,20] [zy 20 (.nilo 3)]
 (zS [1,3,4,5,6,15,19,20,21] [zL 62 4 8,zk 63 913 [.t 62],zy 21 (.alc zA4),zw (.st 4 [] (.t 21) (.t 63))]
 (zs (zS [1,3,4,6,15,19,20,21,64,65] [zm 64 5,z0 65]
 (.block 2 (.loop (zS [1,3,4,6,15,19,20,21,64,65,66] [zb 66 .lss 65 64]
 (zs (zC 66 .skip
 (.exit 2))
 (zs (.block 3 (zS [1,3,4,6,15,19,20,21,22,64,65] [zm 67 65,zm 22 67]
 (zS [1,3,4,6,15,19,20,21,23,24,64,65] [zm 69 3,zm 70 15,zm 71 22,zy 72 (.callG 921 [.t 69,.t 70,.t 71]),zm 68 72,zx 73 0 68,zx 74 1 68,zq 23 73,zm 24 74]
 (zs (zS [1,3,4,6,15,19,20,21,23,24,64,65,76] [zm 75 24,zd 76 .neq 75 (zI 0)]
 (zC 76 (zS [12,13,14] [zm 77 24,zc 12 .nils,zc 13 .nils,zm 14 77]
 .ret)
 .skip))
 (zS [1,3,4,6,15,19,20,21,24,25,26,64,65] [zL 79 2 6,zm 80 1,zL 81 4 21,zq 82 23,zm 83 4,zk 84 922 [.t 79,.t 80,.t 81,.t 82,.t 83],zm 78 84,zx 85 0 78,zx 86 1 78,zx 87 2 78,zy 25 (.alc zA4),zy 26 (.alc zA2),zw (.st 4 [] (.t 25) (.t 85)),zw (.st 3 [] (.t 26) (.t 86)),zm 24 87]
 (zs (zS [1,3,4,6,15,19,20,21,24,25,26,64,65,89] [zm 88 24,zd 89 .neq 88 (zI 0)]
 (zC 89 (zS [12,13,14] [zm 90 24,zc 12 .nils,zc 13 .nils,zm 14 90]
 .ret)
 .skip))
 (zS [1,3,4,6,15,19,20,21,25,26,64,65] [zL 91 4 25,zw (.st 4 [] (.t 21) (.t 91))]
 (.reg true [0,0,2,6,15,0,0,64,255,511,1023] [1,3,4,6,15,19,20,21,64,65] [zm 92 19,zL 93 4 25,zk 94 913 [.t 93],zy 95 (.bls 4 1 [.own 1 [],.own 1 [],.own 1 [],.own 1 []] [] [(0,.t 94)]),zy 96 (.app 4 96 true (.t 92) (.t 95)),zm 97 20,zL 98 3 26,zy 99 (.bls 3 1 [zI 0,zI 0,.own 1 []] [] [(0,.t 98)]),zy 100 (.app 3 40 true (.t 97) (.t 99)),zq 19 96,zq 20 100]))))))))
 (zr [1,3,4,6,15,19,20,21,64,65] [zd 101 .add 65 (zI 1),zm 65 101])))))))
 (zS [12,13,14] [zq 102 19,zq 103 20,zq 12 102,zq 13 103,z0 14]
 .ret))))))))))) }
def N912:al:={ np:=2,nt:=66,res:=[(4,some (3,true)),(5,none)],body :=
 (zS [1,2,4] [zo 2 0,zy 4 (.alc zA2),z0 5]
 (zs (zS [1,2,4,6] [zL 12 2 2,zm 13 1,zk 14 923 [.t 12,.t 13],zm 6 14]
 (zS [1,2,4,6,16] [zm 15 6,zd 16 .neq 15 (zI 0)]
 (zC 16 (zS [4,5] [zy 17 (.bld [zI 0,zI 0,.nils] []),zm 18 6,zw (.st 3 [] (.t 4) (.t 17)),zm 5 18]
 .ret)
 .skip)))
 (zS [1,2,4,7] [zf 19 1 2,zl 20 1 19,zn 21 20,zy 22 (.mks 1 8 [zI 0] (.t 21) (.t 21)),zy 23 (.bld [zI 0,zI 0,.nils] [(2,1,.t 22)]),zy 7 (.alc zA2),zw (.st 3 [] (.t 7) (.t 23))]
 (zs (zS [2,4,7,24,25,26] [zq 24 1,zn 25 24,z0 26]
 (.block 0 (.loop (zS [2,4,7,24,25,26,27] [zb 27 .lss 26 25]
 (zs (zC 27 .skip
 (.exit 0))
 (zs (.block 1 (zS [2,4,7,9,24,25,26] [zi 28 3 24 26,zL 29 3 28,zy 9 (.alc zA2),zw (.st 3 [] (.t 9) (.t 29))]
 (zS [2,4,7,9,24,25,26] [zf 30 0 7,zl 31 1 30,zf 32 0 9,zl 33 1 32,zb 34 .add 31 33,zf 35 0 7,zw (.st 1 [] (.t 35) (.t 34))]
 (zS [2,4,7,9,24,25,26] [zf 36 1 7,zl 37 1 36,zf 38 1 9,zl 39 1 38,zb 40 .add 37 39,zf 41 1 7,zw (.st 1 [] (.t 41) (.t 40))]
 (zs (zS [2,4,7,24,25,26,43,44,45] [zf 42 2 9,zl 43 1 42,zn 44 43,z0 45]
 (.block 2 (.loop (zS [2,4,7,24,25,26,43,44,45,46] [zb 46 .lss 45 44]
 (zs (zC 46 .skip
 (.exit 2))
 (zs (.block 3 (zS [2,4,7,10,11,24,25,26,43,44,45] [zm 47 45,zi 48 1 43 45,zl 49 1 48,zm 10 47,zm 11 49]
 (zr [2,4,7,24,25,26,43,44,45] [zf 50 2 7,zl 51 1 50,zm 52 10,zi 53 1 51 52,zl 54 1 53,zm 55 11,zb 56 .add 54 55,zi 57 1 51 52,zw (.st 1 [] (.t 57) (.t 56))])))
 (zr [2,4,7,24,25,26,43,44,45] [zd 58 .add 45 (zI 1),zm 45 58])))))))
 (zS [2,4,7,24,25,26,62] [zL 59 2 2,zL 60 3 7,zk 61 924 [.t 59,.t 60],zt 62 61]
 (zC 62 (zS [4,5] [zy 63 (.bld [zI 0,zI 0,.nils] []),zw (.st 3 [] (.t 4) (.t 63)),zc 5 (zI 5)]
 .ret)
 .skip)))))))
 (zr [2,4,7,24,25,26] [zd 64 .add 26 (zI 1),zm 26 64])))))))
 (zS [4,5] [zy 65 (.ldF 3 (.t 7)),zw (.st 3 [] (.t 4) (.t 65)),z0 5]
 .ret))))) }
def N913:al:={ np:=1,nt:=16,res:=[(2,some (4,true))],body :=
 (zS [1,2] [zo 1 0,zy 2 (.alc zA4)]
 (zs (.reg true [0,1,3,0,8,31,0,64,255,0,512,2047,4095,8191] [2] [zf 3 0 1,zl 4 1 3,zy 5 (.callF 42 [.t 4]),zf 6 1 1,zl 7 1 6,zy 8 (.callF 42 [.t 7]),zf 9 2 1,zl 10 1 9,zy 11 (.callF 42 [.t 10]),zf 12 3 1,zl 13 1 12,zy 14 (.callF 925 [.t 13]),zy 15 (.bld [.nils,.nils,.nils,.nils] [(0,1,.t 5),(1,1,.t 8),(2,1,.t 11),(3,1,.t 14)]),zw (.st 4 [] (.t 2) (.t 15))])
 .ret)) }
def N914:al:={ np:=2,nt:=19,res:=[(4,none)],body :=
 (zS [0,1] [z0 4]
 (zs (zS [0,1,7,8] [zm 6 0,zn 7 6,z0 8]
 (.block 0 (.loop (zS [0,1,7,8,9] [zb 9 .lss 8 7]
 (zs (zC 9 .skip
 (.exit 0))
 (zs (.block 1 (zS [0,1,5,7,8] [zm 10 8,zm 5 10]
 (zS [0,1,5,7,8,16] [zm 11 1,zm 12 0,zm 13 5,zi 14 4 12 13,zL 15 4 14,zy 16 (.callv (.t 11) [.t 15])]
 (zC 16 (zS [4] [zm 17 5,zm 4 17]
 .ret)
 .skip))))
 (zr [0,1,7,8] [zd 18 .add 8 (zI 1),zm 8 18])))))))
 (zS [4] [zy 4 (.mov (.c (zI (-1))))]
 .ret))) }
def N915:al:={ np:=3,nt:=32,res:=[(6,none)],body :=
 (zS [2,3,4] [zo 3 0,zo 4 1,z0 6]
 (zs (.reg true [0,0,2,6,15,0,32,127,0,0,512,1536,3840,0,8192,32512,255,131071] [7,8] [zm 9 2,zf 10 1 3,zf 11 0 10,zl 12 1 11,zb 13 .mul 9 12,zf 14 0 4,zl 15 1 14,zb 16 .sub 13 15,zm 17 2,zf 18 1 3,zf 19 1 18,zl 20 1 19,zb 21 .mul 17 20,zf 22 1 4,zl 23 1 22,zb 24 .sub 21 23,zm 7 16,zm 8 24])
 (zS [6] [zm 25 7,zm 26 7,zb 27 .mul 25 26,zm 28 8,zm 29 8,zb 30 .mul 28 29,zb 31 .add 27 30,zm 6 31]
 .ret))) }
def N916:al:={ np:=2,nt:=9,res:=[(4,none)],body :=
 (zS [0,1] [zF 4]
 (zS [4] [zq 5 0,zm 6 1,zk 7 926 [.t 5,.t 6],zd 8 .geq 7 (zI 0),zm 4 8]
 .ret)) }
def N917:al:={ np:=1,nt:=6,res:=[(2,none)],body :=
 (zS [1] [zo 1 0,zF 2]
 (zS [2] [zL 3 3 1,zk 4 894 [.t 3],zt 5 4,zm 2 5]
 .ret)) }
def N918:al:={ np:=3,nt:=14,res:=[(6,none)],body :=
 (zS [1,3,5] [zo 3 0,zo 5 2,zF 6]
 (zS [6] [zL 7 2 3,zL 8 4 5,zk 9 927 [.t 7,.t 8],zm 10 9,zh 10 (zq 11 1),zh 10 (zk 12 44 [.t 11]),zP 13 10 12,zm 6 13]
 .ret)) }
def N919:al:={ np:=2,nt:=34,res:=[(4,none)],body :=
 (zS [0,1] [z0 4]
 (zs (zS [0,1,15] [zm 8 0,zn 9 8,zd 10 .gtr 9 (zI 1000),zm 11 10,ze 11 (zm 12 1),ze 11 (zn 13 12),ze 11 (zd 14 .gtr 13 (zI 1000)),zp 15 11 14]
 (zC 15 (zS [4] [zc 4 (zI 4)]
 .ret)
 .skip))
 (zs (zS [0,1,17] [zm 16 0,zy 17 (.call 928 [.t 16,(.c (.fn 929 []))] [])]
 (zC 17 (zS [4] [zc 4 (zI 1)]
 .ret)
 .skip))
 (zS [0,1,5] [zy 18 (.mkm 0 1),zy 5 (.alc [.any]),zw (.stF 1 (.t 5) (.t 18))]
 (zs (zS [0,5,19,20,21] [zq 19 1,zn 20 19,z0 21]
 (.block 0 (.loop (zS [0,5,19,20,21,22] [zb 22 .lss 21 20]
 (zs (zC 22 .skip
 (.exit 0))
 (zs (.block 1 (zS [0,5,7,19,20,21] [zi 23 1 19 21,zl 24 1 23,zm 7 24]
 (zs (zS [0,5,7,19,20,21,27] [zl 25 1 5,zm 26 7,zy 27 (.mpl .str 0 1 false (.bool false) (.t 25) (.t 26))]
 (zC 27 (zS [4] [zc 4 (zI 10)]
 .ret)
 .skip))
 (zr [0,5,19,20,21] [zl 28 1 5,zm 29 7,zw (.mpu .str 0 1 (.bool false) (.t 28) (.t 29) (.c (.bool true)))]))))
 (zr [0,5,19,20,21] [zd 30 .add 21 (zI 1),zm 21 30])))))))
 (zs (zS [33] [zq 31 0,zy 32 (.unk),zk 33 928 [.t 31,.t 32]]
 (zC 33 (zS [4] [zc 4 (zI 9)]
 .ret)
 .skip))
 (zS [4] [z0 4]
 .ret))))))) }
def N920:al:={ np:=1,nt:=9,res:=[(2,none)],body :=
 (zS [0] [zF 2]
 (zS [2] [zm 3 0,zd 4 .geq 3 (zI 0),zm 5 4,zh 5 (zm 6 0),zh 5 (zd 7 .leq 6 (zI 10000)),zP 8 5 7,zm 2 8]
 .ret)) }
def N921:al:={ np:=3,nt:=63,res:=[(6,none),(7,none)],body :=
 (zS [0,1,2] [zc 6 .nils,z0 7]
 (zS [0,1,2,8] [zy 15 (.mkm 0 2),zm 8 15]
 (zs (zS [0,1,2,8,16,17,18] [zm 16 1,zn 17 16,z0 18]
 (.block 0 (.loop (zS [0,1,2,8,16,17,18,19] [zb 19 .lss 18 17]
 (zs (zC 19 .skip
 (.exit 0))
 (zs (.block 1 (zS [0,1,2,8,9,10,16,17,18] [zm 20 18,zi 21 1 16 18,zl 22 1 21,zm 9 20,zm 10 22]
 (zr [0,1,2,8,16,17,18] [zm 23 8,zm 24 10,zm 25 9,zw (.mpu .str 0 2 (zI 0) (.t 23) (.t 24) (.t 25))])))
 (zr [0,1,2,8,16,17,18] [zd 26 .add 18 (zI 1),zm 18 26])))))))
 (zS [0,2,8,11] [zq 27 1,zn 28 27,zy 29 (.mks 1 8 [zI 0] (.t 28) (.t 28)),zq 11 29]
 (zs (zS [2,8,11,30,31,32] [zq 30 0,zn 31 30,z0 32]
 (.block 2 (.loop (zS [2,8,11,30,31,32,33] [zb 33 .lss 32 31]
 (zs (zC 33 .skip
 (.exit 2))
 (zs (.block 3 (zS [2,8,11,13,30,31,32] [zi 34 2 30 32,zL 35 2 34,zy 13 (.alc [.str [],.own 1 []]),zw (.st 2 [] (.t 13) (.t 35))]
 (zs (zS [2,8,11,13,30,31,32,40] [zm 36 2,zf 37 1 13,zl 38 1 37,zn 39 38,zb 40 .geq 36 39]
 (zC 40 (.exit 3)
 .skip))
 (zS [2,8,11,13,14,30,31,32] [zm 41 8,zf 42 0 13,zl 43 1 42,zy 44 (.mpl .str 0 2 false (zI 0) (.t 41) (.t 43)),zm 14 44]
 (zs (.reg true [0,0,3,7,0,16,0,112,240,511,1023,2047] [2,8,11,14,30,31,32] [zm 45 11,zm 46 14,zi 47 1 45 46,zl 48 1 47,zf 49 1 13,zl 50 1 49,zm 51 2,zi 52 1 50 51,zl 53 1 52,zb 54 .add 48 53,zi 55 1 45 46,zw (.st 1 [] (.t 55) (.t 54))])
 (zS [2,8,11,30,31,32,60] [zm 56 11,zm 57 14,zi 58 1 56 57,zl 59 1 58,zd 60 .gtr 59 (zI 1125899906842624)]
 (zC 60 (zS [6,7] [zc 6 .nils,zc 7 (zI 5)]
 .ret)
 .skip)))))))
 (zr [2,8,11,30,31,32] [zd 61 .add 32 (zI 1),zm 32 61])))))))
 (zS [6,7] [zq 62 11,zq 6 62,z0 7]
 .ret)))))) }
def N922:al:={ np:=5,nt:=205,res:=[(10,some (4,true)),(11,some (3,true)),(12,none)],body :=
 (zS [1,3,4,5,7,10,11] [zo 5 0,zo 7 2,zy 10 (.alc zA4),zy 11 (.alc zA2),z0 12]
 (zS [1,3,4,5,7,10,11,13] [zc 13 (.fn 932 [])]
 (zs (.block 0 (zS [1,3,4,5,7,10,11,13,27] [zL 28 2 5,zm 29 1,zL 30 4 7,zk 31 933 [.t 28,.t 29,.t 30],zt 32 31,zm 27 32]
 (zC 27 (zS [10,11,12] [zm 33 13,zy 34 (.callv (.t 33) [(.c (zI 1))]),zx 35 0 34,zx 36 1 34,zx 37 2 34,zw (.st 4 [] (.t 10) (.t 35)),zw (.st 3 [] (.t 11) (.t 36)),zm 12 37]
 .ret)
 (zS [1,3,4,5,7,10,11,13,38] [zm 39 3,zn 40 39,zf 41 0 5,zl 42 1 41,zn 43 42,zb 44 .neq 40 43,zm 38 44]
 (zC 38 (zS [10,11,12] [zm 45 13,zy 46 (.callv (.t 45) [(.c (zI 3))]),zx 47 0 46,zx 48 1 46,zx 49 2 46,zw (.st 4 [] (.t 10) (.t 47)),zw (.st 3 [] (.t 11) (.t 48)),zm 12 49]
 .ret)
 (zS [1,3,4,5,7,10,11,13,50] [zm 51 3,zy 52 (.call 11 [.t 51,(.c (.fn 934 []))] []),zm 53 52,ze 53 (zm 54 4),ze 53 (zd 55 .lss 54 (zI 1)),zp 56 53 55,zm 57 56,ze 57 (zm 58 4),ze 57 (zd 59 .gtr 58 (zI 86400)),zp 60 57 59,zm 50 60]
 (zC 50 (zS [10,11,12] [zm 61 13,zy 62 (.callv (.t 61) [(.c (zI 2))]),zx 63 0 62,zx 64 1 62,zx 65 2 62,zw (.st 4 [] (.t 10) (.t 63)),zw (.st 3 [] (.t 11) (.t 64)),zm 12 65]
 .ret)
 (zS [1,3,4,5,7,10,11,13,66] [zL 67 2 5,zm 68 1,zk 69 936 [.t 67,.t 68],zt 70 69,zm 66 70]
 (zC 66 (zS [10,11,12] [zm 71 13,zy 72 (.callv (.t 71) [(.c (zI 9))]),zx 73 0 72,zx 74 1 72,zx 75 2 72,zw (.st 4 [] (.t 10) (.t 73)),zw (.st 3 [] (.t 11) (.t 74)),zm 12 75]
 .ret)
 .skip)))))))))
 (zS [1,3,4,5,7,10,11,13,14] [zL 76 4 7,zy 77 (.callA 937 [.t 76]),zy 14 (.alc zA4),zw (.st 4 [] (.t 14) (.t 77))]
 (zS [1,3,4,5,10,11,13,14,15] [zL 78 4 7,zy 79 (.callF 938 [.t 78]),zq 15 79]
 (zS [1,3,4,5,10,11,13,14,15,16] [zy 16 (.alc zA2)]
 (zs (zS [1,4,5,10,11,13,14,15,16,80,81,82] [zq 80 3,zn 81 80,z0 82]
 (.block 1 (.loop (zS [1,4,5,10,11,13,14,15,16,80,81,82,83] [zb 83 .lss 82 81]
 (zs (zC 83 .skip
 (.exit 1))
 (zs (.block 2 (zS [1,4,5,10,11,13,14,15,16,17,18,80,81,82] [zm 84 82,zi 85 1 80 82,zl 86 1 85,zm 17 84,zm 18 86]
 (zS [1,4,5,10,11,13,14,15,16,17,18,80,81,82] [zf 87 0 16,zl 88 1 87,zm 89 18,zb 90 .add 88 89,zf 91 0 16,zw (.st 1 [] (.t 91) (.t 90))]
 (zS [1,4,5,10,11,13,14,15,16,17,18,80,81,82,98] [zf 92 0 5,zl 93 1 92,zm 94 17,zi 95 9 93 94,zf 96 1 95,zl 97 1 96,zd 98 .eql 97 (zI 3)]
 (zC 98 (zr [1,4,5,10,11,13,14,15,16,80,81,82] [zf 99 1 16,zl 100 1 99,zm 101 18,zb 102 .add 100 101,zf 103 1 16,zw (.st 1 [] (.t 103) (.t 102))])
 (zr [1,4,5,10,11,13,14,15,16,80,81,82] [zm 104 15,zm 105 17,zi 106 1 104 105,zl 107 1 106,zm 108 18,zb 109 .add 107 108,zi 110 1 104 105,zw (.st 1 [] (.t 110) (.t 109))]))))))
 (zr [1,4,5,10,11,13,14,15,16,80,81,82] [zd 111 .add 82 (zI 1),zm 82 111])))))))
 (zs (zS [1,4,5,10,11,13,14,15,16,115] [zL 112 2 5,zm 113 15,zy 114 (.callX 939 [.t 112] (.t 14) (.t 113)),zt 115 114]
 (zC 115 (zS [10,11,12] [zm 116 13,zy 117 (.callv (.t 116) [(.c (zI 5))]),zx 118 0 117,zx 119 1 117,zx 120 2 117,zw (.st 4 [] (.t 10) (.t 118)),zw (.st 3 [] (.t 11) (.t 119)),zm 12 120]
 .ret)
 .skip))
 (zS [5,10,11,13,14,15,16,19,20,21] [zL 122 2 5,zq 123 1,zL 124 4 14,zm 125 4,zy 126 (.callG 940 [.t 122,.t 123,.t 124,.t 125]),zm 121 126,zx 127 0 121,zx 128 1 121,zx 129 2 121,zq 19 127,zq 20 128,zm 21 129]
 (zs (zS [5,10,11,13,14,15,16,19,20,21,131] [zm 130 21,zd 131 .neq 130 (zI 0)]
 (zC 131 (zS [10,11,12] [zm 132 13,zm 133 21,zy 134 (.callv (.t 132) [.t 133]),zx 135 0 134,zx 136 1 134,zx 137 2 134,zw (.st 4 [] (.t 10) (.t 135)),zw (.st 3 [] (.t 11) (.t 136)),zm 12 137]
 .ret)
 .skip))
 (zS [5,10,11,13,14,15,16,19] [zq 138 20,zf 139 3 14,zw (.st 1 [] (.t 139) (.t 138))]
 (zS [5,10,11,13,14,15,16] [zL 140 2 5,zm 141 15,zq 142 19,zy 143 (.callG 941 [.t 140,.t 141,.t 142]),zf 144 2 16,zw (.st 1 [] (.t 144) (.t 143))]
 (zS [5,10,11,13,14,15,16,23] [zL 146 2 5,zk 147 942 [.t 146],zm 145 147,zx 148 0 145,zx 149 1 145,zq 22 148,zq 23 149]
 (zs (zS [5,10,11,13,14,15,16,23,151,152,153] [zf 150 2 16,zl 151 1 150,zn 152 151,z0 153]
 (.block 3 (.loop (zS [5,10,11,13,14,15,16,23,151,152,153,154] [zb 154 .lss 153 152]
 (zs (zC 154 .skip
 (.exit 3))
 (zs (.block 4 (zS [5,10,11,13,14,15,16,23,24,25,151,152,153] [zm 155 153,zi 156 1 151 153,zl 157 1 156,zm 24 155,zm 25 157]
 (zS [5,10,11,13,14,15,16,23,24,25,151,152,153] [zm 158 15,zm 159 23,zm 160 24,zi 161 2 159 160,zy 162 (.iadA 2 1 (.t 161) (.c (zI 0))),zl 163 1 162,zi 164 1 158 163,zl 165 1 164,zm 166 25,zb 167 .sub 165 166,zi 168 1 158 163,zw (.st 1 [] (.t 168) (.t 167))]
 (zS [5,10,11,13,14,15,16,23,25,26,151,152,153] [zm 169 23,zm 170 24,zi 171 2 169 170,zy 172 (.iadA 2 1 (.t 171) (.c (zI 1))),zl 173 1 172,zm 26 173]
 (zS [5,10,11,13,14,15,16,23,25,26,151,152,153,180] [zf 174 0 5,zl 175 1 174,zm 176 26,zi 177 9 175 176,zf 178 1 177,zl 179 1 178,zd 180 .eql 179 (zI 3)]
 (zC 180 (zr [5,10,11,13,14,15,16,23,151,152,153] [zf 181 1 16,zl 182 1 181,zm 183 25,zb 184 .add 182 183,zf 185 1 16,zw (.st 1 [] (.t 185) (.t 184))])
 (zr [5,10,11,13,14,15,16,23,151,152,153] [zm 186 15,zm 187 26,zi 188 1 186 187,zl 189 1 188,zm 190 25,zb 191 .add 189 190,zi 192 1 186 187,zw (.st 1 [] (.t 192) (.t 191))])))))))
 (zr [5,10,11,13,14,15,16,23,151,152,153] [zd 193 .add 153 (zI 1),zm 153 193])))))))
 (zs (zS [10,11,13,14,16,197] [zL 194 2 5,zq 195 15,zy 196 (.callX 939 [.t 194] (.t 14) (.t 195)),zt 197 196]
 (zC 197 (zS [10,11,12] [zm 198 13,zy 199 (.callv (.t 198) [(.c (zI 5))]),zx 200 0 199,zx 201 1 199,zx 202 2 199,zw (.st 4 [] (.t 10) (.t 200)),zw (.st 3 [] (.t 11) (.t 201)),zm 12 202]
 .ret)
 .skip))
 (zs (.reg true [0,0,1,7,15] [10,11,12] [zy 203 (.ldF 4 (.t 14)),zy 204 (.ldF 3 (.t 16)),zw (.st 4 [] (.t 10) (.t 203)),zw (.st 3 [] (.t 11) (.t 204)),z0 12])
 .ret)))))))))))))))) }
def N923:al:={ np:=2,nt:=18,res:=[(4,none)],body :=
 (zS [1,2] [zo 2 0,z0 4]
 (zs (.block 0 (zS [1,5] [zL 6 2 2,zk 7 164 [.t 6],zt 8 7,zm 9 8,ze 9 (zm 10 1),ze 9 (zy 11 (.mk 944 [.t 2])),ze 9 (zk 12 943 [.t 10,.t 11]),zp 13 9 12,zm 5 13]
 (zC 5 (zS [4] [zc 4 (zI 1)]
 .ret)
 (zS [14] [zq 15 1,zn 16 15,zd 17 .gtr 16 (zI 10000),zm 14 17]
 (zC 14 (zS [4] [zc 4 (zI 4)]
 .ret)
 .skip)))))
 (zS [4] [z0 4]
 .ret))) }
def N924:al:={ np:=2,nt:=25,res:=[(4,none)],body :=
 (zS [2,3] [zo 2 0,zo 3 1,zF 4]
 (zS [4] [zf 5 0 3,zl 6 1 5,zf 7 1 3,zl 8 1 7,zy 9 (.bls 1 2 [zI 0] [] [(0,.t 6),(1,.t 8)]),zk 10 945 [.t 9,(.c (zI 1152921504606846976))],zm 11 10,zh 11 (zf 12 2 3),zh 11 (zl 13 1 12),zh 11 (zn 14 13),zh 11 (zf 15 1 2),zh 11 (zl 16 1 15),zh 11 (zn 17 16),zh 11 (zb 18 .eql 14 17),zP 19 11 18,zm 20 19,zh 20 (zf 21 2 3),zh 20 (zl 22 1 21),zh 20 (zk 23 945 [.t 22,(.c (zI 9007199254740992))]),zP 24 20 23,zm 4 24]
 .ret)) }
def N925:al:={ np:=1,nt:=8,res:=[(2,none)],body :=
 (zS [0] [zc 2 .nils]
 (zs (zS [0,4] [zm 3 0,zy 4 (.beq false [9] (.t 3) (.c .nils))]
 (zC 4 (zS [2] [zc 2 .nils]
 .ret)
 .skip))
 (zS [2] [zy 5 (.bls 1 0 [.bool false] [] []),zq 6 0,zy 7 (.app 1 1 false (.t 5) (.t 6)),zq 2 7]
 .ret))) }
def N926:al:={ np:=2,nt:=19,res:=[(4,none)],body :=
 (zS [0,1] [z0 4]
 (zs (zS [0,1,7,8] [zm 6 0,zn 7 6,z0 8]
 (.block 0 (.loop (zS [0,1,7,8,9] [zb 9 .lss 8 7]
 (zs (zC 9 .skip
 (.exit 0))
 (zs (.block 1 (zS [0,1,5,7,8] [zm 10 8,zm 5 10]
 (zS [0,1,5,7,8,16] [zm 11 1,zm 12 0,zm 13 5,zi 14 3 12 13,zL 15 3 14,zy 16 (.callv (.t 11) [.t 15])]
 (zC 16 (zS [4] [zm 17 5,zm 4 17]
 .ret)
 .skip))))
 (zr [0,1,7,8] [zd 18 .add 8 (zI 1),zm 8 18])))))))
 (zS [4] [zy 4 (.mov (.c (zI (-1))))]
 .ret))) }
def N927:al:={ np:=2,nt:=116,res:=[(4,none)],body :=
 (zS [2,3] [zo 2 0,zo 3 1,zF 4]
 (zs (zS [2,3,47] [zL 9 2 2,zk 10 164 [.t 9],zt 11 10,zm 12 11,ze 12 (zf 13 0 3),ze 12 (zl 14 1 13),ze 12 (zn 15 14),ze 12 (zf 16 0 2),ze 12 (zl 17 1 16),ze 12 (zn 18 17),ze 12 (zb 19 .neq 15 18),zp 20 12 19,zm 21 20,ze 21 (zf 22 1 3),ze 21 (zl 23 1 22),ze 21 (zn 24 23),ze 21 (zf 25 0 2),ze 21 (zl 26 1 25),ze 21 (zn 27 26),ze 21 (zb 28 .neq 24 27),zp 29 21 28,zm 30 29,ze 30 (zf 31 2 3),ze 30 (zl 32 1 31),ze 30 (zn 33 32),ze 30 (zf 34 1 2),ze 30 (zl 35 1 34),ze 30 (zn 36 35),ze 30 (zb 37 .neq 33 36),zp 38 30 37,zm 39 38,ze 39 (zf 40 3 3),ze 39 (zl 41 1 40),ze 39 (zn 42 41),ze 39 (zf 43 1 2),ze 39 (zl 44 1 43),ze 39 (zn 45 44),ze 39 (zb 46 .neq 42 45),zp 47 39 46]
 (zC 47 (zS [4] [zF 4]
 .ret)
 .skip))
 (zs (zS [2,3,49,50,51] [zf 48 0 2,zl 49 1 48,zn 50 49,z0 51]
 (.block 0 (.loop (zS [2,3,49,50,51,52] [zb 52 .lss 51 50]
 (zs (zC 52 .skip
 (.exit 0))
 (zs (.block 1 (zS [2,3,5,6,49,50,51] [zm 53 51,zi 54 9 49 51,zL 55 9 54,zy 6 (.alc zA5),zm 5 53,zw (.st 9 [] (.t 6) (.t 55))]
 (zs (.reg true [0,1,0,7,15,0,32,127,255,511,1023,2047,1023,8191,16383,32767,65535,131071,262143,524287,1048575,2097151,4194303,8388607,16777215,8388607,67108863,134217727,268435455,536870911,1073741823] [2,3,49,50,51,86] [zf 56 0 3,zl 57 1 56,zm 58 5,zi 59 1 57 58,zl 60 1 59,zL 61 9 6,zk 62 947 [.t 61],zk 63 946 [.t 60,(.c (zI 0)),.t 62],zt 64 63,zm 65 64,ze 65 (zf 66 1 3),ze 65 (zl 67 1 66),ze 65 (zm 68 5),ze 65 (zi 69 1 67 68),ze 65 (zl 70 1 69),ze 65 (zk 71 948 [.t 70]),ze 65 (zt 72 71),zp 73 65 72,zm 74 73,ze 74 (zf 75 1 6),ze 74 (zl 76 1 75),ze 74 (zd 77 .eql 76 (zI 3)),ze 74 (zm 78 77),zh 78 (zf 79 1 3),zh 78 (zl 80 1 79),zh 78 (zm 81 5),zh 78 (zi 82 1 80 81),zh 78 (zl 83 1 82),zh 78 (zd 84 .neq 83 (zI 0)),ze 74 (zP 85 78 84),zp 86 74 85])
 (zC 86 (zS [4] [zF 4]
 .ret)
 .skip))))
 (zr [2,3,49,50,51] [zd 87 .add 51 (zI 1),zm 51 87])))))))
 (zs (zS [3,89,90,91] [zf 88 1 2,zl 89 1 88,zn 90 89,z0 91]
 (.block 2 (.loop (zS [3,89,90,91,92] [zb 92 .lss 91 90]
 (zs (zC 92 .skip
 (.exit 2))
 (zs (.block 3 (zS [3,7,8,89,90,91] [zm 93 91,zi 94 11 89 91,zL 95 11 94,zy 8 (.alc zA6),zm 7 93,zw (.st 11 [] (.t 8) (.t 95))]
 (zS [3,89,90,91,114] [zf 96 2 3,zl 97 1 96,zm 98 7,zi 99 1 97 98,zl 100 1 99,zk 101 946 [.t 100,(.c (zI 0)),(.c (zI 1000))],zt 102 101,zm 103 102,ze 103 (zf 104 3 3),ze 103 (zl 105 1 104),ze 103 (zm 106 7),ze 103 (zi 107 1 105 106),ze 103 (zl 108 1 107),ze 103 (zm 109 108),zh 109 (zf 110 3 8),zh 109 (zl 111 1 110),zh 109 (zd 112 .neq 111 (zI 4)),ze 103 (zP 113 109 112),zp 114 103 113]
 (zC 114 (zS [4] [zF 4]
 .ret)
 .skip))))
 (zr [3,89,90,91] [zd 115 .add 91 (zI 1),zm 91 115])))))))
 (zS [4] [zc 4 (.bool true)]
 .ret))))) }
def N928:al:={ np:=2,nt:=9,res:=[(4,none)],body :=
 (zS [0,1] [zF 4]
 (zS [4] [zq 5 0,zm 6 1,zk 7 949 [.t 5,.t 6],zd 8 .geq 7 (zI 0),zm 4 8]
 .ret)) }
def N929:al:={ np:=1,nt:=6,res:=[(2,none)],body :=
 (zS [1] [zo 1 0,zF 2]
 (zS [2] [zL 3 2 1,zk 4 930 [.t 3],zt 5 4,zm 2 5]
 .ret)) }
def N930:al:={ np:=1,nt:=18,res:=[(2,none)],body :=
 (zS [1] [zo 1 0,zF 2]
 (zS [2] [zf 3 0 1,zl 4 1 3,zk 5 58 [.t 4],zm 6 5,zh 6 (zf 7 1 1),zh 6 (zl 8 1 7),zh 6 (zn 9 8),zh 6 (zd 10 .leq 9 (zI 10000)),zP 11 6 10,zm 12 11,zh 12 (zf 13 1 1),zh 12 (zl 14 1 13),zh 12 (zy 15 (.call 11 [.t 14,(.c (.fn 950 []))] [])),zh 12 (zt 16 15),zP 17 12 16,zm 2 17]
 .ret)) }
def N932:al:={ np:=1,nt:=8,res:=[(2,some (4,true)),(3,some (3,true)),(4,none)],body :=
 (zS [0,2,3] [zy 2 (.alc zA4),zy 3 (.alc zA2),z0 4]
 (zS [2,3,4] [zy 5 (.bld [.nils,.nils,.nils,.nils] []),zy 6 (.bld [zI 0,zI 0,.nils] []),zm 7 0,zw (.st 4 [] (.t 2) (.t 5)),zw (.st 3 [] (.t 3) (.t 6)),zm 4 7]
 .ret)) }
def N933:al:={ np:=3,nt:=14,res:=[(6,none)],body :=
 (zS [1,3,5] [zo 3 0,zo 5 2,zF 6]
 (zS [6] [zL 7 2 3,zL 8 4 5,zk 9 927 [.t 7,.t 8],zm 10 9,zh 10 (zq 11 1),zh 10 (zk 12 44 [.t 11]),zP 13 10 12,zm 6 13]
 .ret)) }
def N934:al:={ np:=1,nt:=6,res:=[(2,none)],body :=
 (zS [0] [zF 2]
 (zS [2] [zm 3 0,zk 4 935 [.t 3,(.c (zI 1125899906842624))],zt 5 4,zm 2 5]
 .ret)) }
def N935:al:={ np:=2,nt:=12,res:=[(4,none)],body :=
 (zS [0,1] [zF 4]
 (zS [4] [zm 5 0,zd 6 .geq 5 (zI 0),zm 7 6,zh 7 (zm 8 0),zh 7 (zm 9 1),zh 7 (zb 10 .leq 8 9),zP 11 7 10,zm 4 11]
 .ret)) }
def N936:al:={ np:=2,nt:=29,res:=[(4,none)],body :=
 (zS [1,2] [zo 2 0,zF 4]
 (zs (zS [1,10,11,12] [zf 9 1 2,zl 10 1 9,zn 11 10,z0 12]
 (.block 0 (.loop (zS [1,10,11,12,13] [zb 13 .lss 12 11]
 (zs (zC 13 .skip
 (.exit 0))
 (zs (.block 1 (zS [1,6,10,11,12] [zi 14 11 10 12,zL 15 11 14,zy 6 (.alc zA6),zw (.st 11 [] (.t 6) (.t 15))]
 (zs (zS [1,6,10,11,12,18] [zf 16 3 6,zl 17 1 16,zd 18 .neq 17 (zI 1)]
 (zC 18 (.exit 1)
 .skip))
 (zS [1,8,10,11,12] [zm 20 1,zf 21 7 6,zl 22 1 21,zk 23 441 [.t 20,.t 22],zm 19 23,zx 24 0 19,zx 25 1 19,zm 7 24,zm 8 25]
 (zS [1,10,11,12,27] [zm 26 8,zd 27 .neq 26 (zI 0)]
 (zC 27 (zS [4] [zF 4]
 .ret)
 .skip))))))
 (zr [1,10,11,12] [zd 28 .add 12 (zI 1),zm 12 28])))))))
 (zS [4] [zc 4 (.bool true)]
 .ret))) }
def N937:al:={ np:=1,nt:=16,res:=[(2,some (4,true))],body :=
 (zS [1,2] [zo 1 0,zy 2 (.alc zA4)]
 (zs (.reg true [0,1,3,0,8,31,0,64,255,0,512,2047,4095,8191] [2] [zf 3 0 1,zl 4 1 3,zy 5 (.callF 42 [.t 4]),zf 6 1 1,zl 7 1 6,zy 8 (.callF 42 [.t 7]),zf 9 2 1,zl 10 1 9,zy 11 (.callF 42 [.t 10]),zf 12 3 1,zl 13 1 12,zy 14 (.callF 925 [.t 13]),zy 15 (.bld [.nils,.nils,.nils,.nils] [(0,1,.t 5),(1,1,.t 8),(2,1,.t 11),(3,1,.t 14)]),zw (.st 4 [] (.t 2) (.t 15))])
 .ret)) }
def N938:al:={ np:=1,nt:=26,res:=[(2,none)],body :=
 (zS [1] [zo 1 0,zc 2 .nils]
 (zS [1,3] [zf 6 0 1,zl 7 1 6,zy 8 (.callF 42 [.t 7]),zq 3 8]
 (zs (zS [3,10,11,12] [zf 9 1 1,zl 10 1 9,zn 11 10,z0 12]
 (.block 0 (.loop (zS [3,10,11,12,13] [zb 13 .lss 12 11]
 (zs (zC 13 .skip
 (.exit 0))
 (zs (.block 1 (zS [3,4,5,10,11,12] [zm 14 12,zi 15 1 10 12,zl 16 1 15,zm 4 14,zm 5 16]
 (zr [3,10,11,12] [zm 17 3,zm 18 4,zi 19 1 17 18,zl 20 1 19,zm 21 5,zb 22 .add 20 21,zi 23 1 17 18,zw (.st 1 [] (.t 23) (.t 22))])))
 (zr [3,10,11,12] [zd 24 .add 12 (zI 1),zm 12 24])))))))
 (zS [2] [zq 25 3,zq 2 25]
 .ret)))) }
def N939:al:={ np:=3,nt:=74,res:=[(6,none)],body :=
 (zS [1,2,3] [zo 3 0,zF 6]
 (zS [1,2,3,7] [zc 7 (.bool true)]
 (zs (zS [1,2,7,13,14,15] [zf 12 0 3,zl 13 1 12,zn 14 13,z0 15]
 (.block 0 (.loop (zS [1,2,7,13,14,15,16] [zb 16 .lss 15 14]
 (zs (zC 16 .skip
 (.exit 0))
 (zs (.block 1 (zS [1,2,7,8,9,13,14,15] [zm 17 15,zi 18 9 13 15,zL 19 9 18,zy 9 (.alc zA5),zm 8 17,zw (.st 9 [] (.t 9) (.t 19))]
 (zS [1,2,7,8,9,10,13,14,15] [zL 21 9 9,zk 22 951 [.t 21],zm 20 22,zx 23 0 20,zx 24 1 20,zm 10 23,zm 11 24]
 (zs (zS [1,2,7,8,10,13,14,15,27] [zf 25 1 9,zl 26 1 25,zd 27 .eql 26 (zI 3)]
 (zC 27 (zr [1,2,7,8,10,13,14,15] [zm 28 2,zm 29 8,zi 30 1 28 29,zw (.st 1 [] (.t 30) (.c (zI 0)))])
 .skip))
 (zs (.reg true [0,1,3,7,0,0,0,96,224,0,992,2047,4095] [1,2,7,8,13,14,15] [zm 31 1,zy 32 (.nck (.t 31)),zf 33 0 32,zl 34 1 33,zm 35 8,zm 36 2,zm 37 8,zi 38 1 36 37,zl 39 1 38,zm 40 10,zy 41 (.mn (.t 39) (.t 40)),zi 42 1 34 35,zw (.st 1 [] (.t 42) (.t 41))])
 (zs (.reg true [0,1,3,7,0,0,0,96,224,0,512,1536,3584,0,15872,32256,65504,131071,262143] [1,2,7,8,13,14,15] [zm 43 1,zy 44 (.nck (.t 43)),zf 45 1 44,zl 46 1 45,zm 47 8,zm 48 2,zm 49 8,zi 50 1 48 49,zl 51 1 50,zm 52 1,zy 53 (.nck (.t 52)),zf 54 0 53,zl 55 1 54,zm 56 8,zi 57 1 55 56,zl 58 1 57,zb 59 .sub 51 58,zi 60 1 46 47,zw (.st 1 [] (.t 60) (.t 59))])
 (zr [1,2,7,13,14,15] [zm 61 7,zm 62 61,zh 62 (zm 63 1),zh 62 (zy 64 (.nck (.t 63))),zh 62 (zf 65 1 64),zh 62 (zl 66 1 65),zh 62 (zm 67 8),zh 62 (zi 68 1 66 67),zh 62 (zl 69 1 68),zh 62 (zd 70 .leq 69 (zI 1125899906842624)),zP 71 62 70,zm 7 71])))))))
 (zr [1,2,7,13,14,15] [zd 72 .add 15 (zI 1),zm 15 72])))))))
 (zS [1,2,6] [zm 73 7,zm 6 73]
 .ret)))) }
def N940:eL:={ np:=4,nt:=64,res:=[(8,some (1,false)),(9,some (1,false)),(10,some (1,false))],s:=16,e:=10,g:=952,nc:=2,pre :=
 (zr [1,3,4,6,8,9,10] [zo 4 0,zy 6 (.box [] (.t 2)),zy 8 (.alc [.own 1 []]),zy 9 (.alc [.own 1 []]),zy 10 (.alc [zI 0])]),post :=
 (zS [1,3,4,6,8,9,10,11] [zL 18 2 4,zf 19 0 6,zl 20 1 19,zk 21 953 [.t 18,.t 20],zm 17 21,zx 22 0 17,zx 23 1 17,zq 11 22,zw (.st 1 [] (.t 10) (.t 23))]
 (zs (zS [1,3,4,6,8,9,10,11,25] [zl 24 1 10,zd 25 .neq 24 (zI 0)]
 (zC 25 .ret
 .skip))
 (zs (zS [1,3,4,6,8,9,10,11] [zL 27 2 4,zL 28 4 6,zm 29 11,zy 30 (.callA 954 [.t 27,.t 28,.t 29]),zm 26 30,zx 31 0 26,zx 32 1 26,zw (.st 1 [] (.t 9) (.t 31)),zw (.st 1 [] (.t 10) (.t 32))]
 (zS [1,3,4,6,8,9,10,11,34] [zl 33 1 10,zd 34 .neq 33 (zI 0)]
 (zC 34 .ret
 .skip)))
 (zS [1,3,4,6,8,9,10,11] [zl 35 1 9,zf 36 3 6,zw (.stG 6 (.t 36) (.t 35))]
 (zS [3,8,9,10,12] [zL 38 2 4,zq 39 1,zq 40 11,zL 41 4 6,zy 42 (.callG 955 [.t 38,.t 39,.t 40,.t 41]),zm 37 42,zx 43 0 37,zx 44 1 37,zq 12 43,zw (.st 1 [] (.t 10) (.t 44))]
 (zs (zS [3,8,9,10,45,46,47] [zq 45 12,zn 46 45,z0 47]
 (.block 0 (.loop (zS [3,8,9,10,45,46,47,48] [zb 48 .lss 47 46]
 (zs (zC 48 .skip
 (.exit 0))
 (zs (.block 1 (zS [3,8,9,10,14,45,46,47] [zi 49 1 45 47,zl 50 1 49,zm 14 50]
 (zS [3,8,9,10,14,45,46,47] [z0 15]
 (zs (zS [3,8,9,10,15,45,46,47] [zm 52 14,zm 53 3,zk 54 956 [.t 52,.t 53],zm 51 54,zx 55 0 51,zx 56 1 51,zm 15 55,zw (.st 1 [] (.t 10) (.t 56))]
 (zS [3,8,9,10,15,45,46,47,58] [zl 57 1 10,zd 58 .neq 57 (zI 0)]
 (zC 58 .ret
 .skip)))
 (zr [3,8,9,10,45,46,47] [zl 59 1 8,zm 60 15,zy 61 (.bls 1 1 [zI 0] [] [(0,.t 60)]),zy 62 (.app 1 8 false (.t 59) (.t 61)),zw (.st 1 [] (.t 8) (.t 62))])))))
 (zr [3,8,9,10,45,46,47] [zd 63 .add 47 (zI 1),zm 47 63])))))))
 .ret)))))) }
def N941:al:={ np:=3,nt:=82,res:=[(6,none)],body :=
 (zS [1,2,3] [zo 3 0,zc 6 .nils]
 (zS [1,2,3,7] [zm 20 2,zy 21 (.callF 42 [.t 20]),zq 7 21]
 (zS [1,2,7,8] [zL 23 2 3,zk 24 942 [.t 23],zm 22 24,zx 25 0 22,zx 26 1 22,zq 8 25,zq 9 26]
 (zs (zS [1,2,7,27,28,29] [zq 27 8,zn 28 27,z0 29]
 (.block 0 (.loop (zS [1,2,7,27,28,29,30] [zb 30 .lss 29 28]
 (zs (zC 30 .skip
 (.exit 0))
 (zs (.block 1 (zS [1,2,7,10,11,27,28,29] [zm 31 29,zi 32 1 27 29,zl 33 1 32,zm 10 31,zq 11 33]
 (zS [1,2,7,10,11,12,27,28,29] [z0 12]
 (zs (zS [1,2,7,10,11,12,27,28,29,34,35,36] [zm 34 11,zn 35 34,z0 36]
 (.block 2 (.loop (zS [1,2,7,10,11,12,27,28,29,34,35,36,37] [zb 37 .lss 36 35]
 (zs (zC 37 .skip
 (.exit 2))
 (zs (.block 3 (zS [1,2,7,10,11,12,14,27,28,29,34,35,36] [zi 38 1 34 36,zl 39 1 38,zm 14 39]
 (zr [1,2,7,10,11,12,27,28,29,34,35,36] [zm 40 12,zm 41 2,zm 42 14,zi 43 1 41 42,zl 44 1 43,zb 45 .add 40 44,zm 12 45])))
 (zr [1,2,7,10,11,12,27,28,29,34,35,36] [zd 46 .add 36 (zI 1),zm 36 46])))))))
 (zs (zS [1,2,7,10,11,12,27,28,29,52] [zm 47 12,zm 48 1,zm 49 10,zi 50 1 48 49,zl 51 1 50,zb 52 .leq 47 51]
 (zC 52 (.exit 1)
 .skip))
 (zS [1,2,7,10,11,12,15,16,27,28,29] [z0 15,z0 16]
 (zS [1,2,7,10,12,15,16,27,28,29,53,54,55] [zq 53 11,zn 54 53,z0 55]
 (.block 4 (.loop (zS [1,2,7,10,12,15,16,27,28,29,53,54,55,56] [zb 56 .lss 55 54]
 (zs (zC 56 .skip
 (.exit 4))
 (zs (.block 5 (zS [1,2,7,10,12,15,16,18,27,28,29,53,54,55] [zi 57 1 53 55,zl 58 1 57,zm 18 58]
 (zS [1,2,7,10,12,15,16,18,27,28,29,53,54,55] [zm 59 15,zm 60 2,zm 61 18,zi 62 1 60 61,zl 63 1 62,zb 64 .add 59 63,zm 15 64]
 (zS [1,2,7,10,12,15,16,18,19,27,28,29,53,54,55] [zm 65 1,zm 66 10,zi 67 1 65 66,zl 68 1 67,zm 69 15,zm 70 12,zk 71 957 [.t 68,.t 69,.t 70],zm 19 71]
 (zr [1,2,7,10,12,15,16,27,28,29,53,54,55] [zm 72 7,zm 73 18,zm 74 19,zm 75 16,zb 76 .sub 74 75,zm 77 19,zi 78 1 72 73,zw (.st 1 [] (.t 78) (.t 76)),zm 16 77])))))
 (zr [1,2,7,10,12,15,16,27,28,29,53,54,55] [zd 79 .add 55 (zI 1),zm 55 79])))))))))))))
 (zr [1,2,7,27,28,29] [zd 80 .add 29 (zI 1),zm 29 80])))))))
 (zS [6] [zq 81 7,zq 6 81]
 .ret))))) }
def N942:al:={ np:=1,nt:=40,res:=[(2,none),(3,none)],body :=
 (zS [1] [zo 1 0,zc 2 .nils,zc 3 .nils]
 (zS [1,4] [zf 9 0 1,zl 10 1 9,zn 11 10,zy 12 (.mks 1 24 [.own 1 []] (.t 11) (.t 11)),zq 4 12]
 (zS [4,5] [zL 14 2 1,zk 15 471 [.t 14],zm 13 15,zx 16 0 13,zx 17 1 13,zq 5 16,zm 6 17]
 (zs (zS [4,5,18,19,20] [zm 18 5,zn 19 18,z0 20]
 (.block 0 (.loop (zS [4,5,18,19,20,21] [zb 21 .lss 20 19]
 (zs (zC 21 .skip
 (.exit 0))
 (zs (.block 1 (zS [4,5,7,8,18,19,20] [zm 22 20,zi 23 2 18 20,zL 24 2 23,zy 8 (.alc zA1),zm 7 22,zw (.st 2 [] (.t 8) (.t 24))]
 (.reg true [0,0,2,0,0,16,56,120,0,256,1016,2047,4095] [4,5,18,19,20] [zm 25 4,zy 26 (.iadA 2 1 (.t 8) (.c (zI 0))),zl 27 1 26,zm 28 4,zy 29 (.iadA 2 1 (.t 8) (.c (zI 0))),zl 30 1 29,zi 31 1 28 30,zl 32 1 31,zm 33 7,zy 34 (.bls 1 1 [zI 0] [] [(0,.t 33)]),zy 35 (.app 1 8 false (.t 32) (.t 34)),zi 36 1 25 27,zw (.st 1 [] (.t 36) (.t 35))])))
 (zr [4,5,18,19,20] [zd 37 .add 20 (zI 1),zm 20 37])))))))
 (zS [2,3] [zq 38 4,zq 39 5,zq 2 38,zq 3 39]
 .ret))))) }
def N943:al:={ np:=2,nt:=9,res:=[(4,none)],body :=
 (zS [0,1] [zF 4]
 (zS [4] [zq 5 0,zm 6 1,zk 7 958 [.t 5,.t 6],zd 8 .geq 7 (zI 0),zm 4 8]
 .ret)) }
def N944:al:={ np:=2,nt:=8,res:=[(3,none)],body :=
 (zS [1,2] [zo 2 0,zF 3]
 (zS [3] [zL 4 2 1,zL 5 3 2,zk 6 924 [.t 4,.t 5],zt 7 6,zm 3 7]
 .ret)) }
def N945:al:={ np:=2,nt:=9,res:=[(4,none)],body :=
 (zS [0,3] [zo 3 1,zF 4]
 (zS [4] [zq 5 0,zy 6 (.mk 959 [.t 3]),zk 7 11 [.t 5,.t 6],zt 8 7,zm 4 8]
 .ret)) }
def N946:al:={ np:=3,nt:=15,res:=[(6,none)],body :=
 (zS [0,1,2] [zF 6]
 (zS [6] [zm 7 0,zm 8 1,zb 9 .geq 7 8,zm 10 9,zh 10 (zm 11 0),zh 10 (zm 12 2),zh 10 (zb 13 .leq 11 12),zP 14 10 13,zm 6 14]
 .ret)) }
def N947:al:={ np:=1,nt:=10,res:=[(2,none)],body :=
 (zS [1] [zo 1 0,z0 2]
 (zs (zS [1,5] [zf 3 1 1,zl 4 1 3,zd 5 .eql 4 (zI 3)]
 (zC 5 (zS [2] [z0 2]
 .ret)
 .skip))
 (zS [2] [zf 6 6 1,zl 7 1 6,zk 8 960 [.t 7],zy 9 (.fld 1 1 false (.t 8)),zm 2 9]
 .ret))) }
def N948:al:={ np:=1,nt:=5,res:=[(2,none)],body :=
 (zS [0] [zF 2]
 (zS [2] [zm 3 0,zk 4 946 [.t 3,(.c (zI 0)),(.c (zI 1125899906842624))],zm 2 4]
 .ret)) }
def N949:al:={ np:=2,nt:=19,res:=[(4,none)],body :=
 (zS [0,1] [z0 4]
 (zs (zS [0,1,7,8] [zm 6 0,zn 7 6,z0 8]
 (.block 0 (.loop (zS [0,1,7,8,9] [zb 9 .lss 8 7]
 (zs (zC 9 .skip
 (.exit 0))
 (zs (.block 1 (zS [0,1,5,7,8] [zm 10 8,zm 5 10]
 (zS [0,1,5,7,8,16] [zm 11 1,zm 12 0,zm 13 5,zi 14 2 12 13,zL 15 2 14,zy 16 (.callv (.t 11) [.t 15])]
 (zC 16 (zS [4] [zm 17 5,zm 4 17]
 .ret)
 .skip))))
 (zr [0,1,7,8] [zd 18 .add 8 (zI 1),zm 8 18])))))))
 (zS [4] [zy 4 (.mov (.c (zI (-1))))]
 .ret))) }
def N950:al:={ np:=1,nt:=9,res:=[(2,none)],body :=
 (zS [0] [zF 2]
 (zS [2] [zm 3 0,zd 4 .lss 3 (zI 0),zm 5 4,ze 5 (zm 6 0),ze 5 (zd 7 .gtr 6 (zI 1125899906842624)),zp 8 5 7,zm 2 8]
 .ret)) }
def N951:al:={ np:=1,nt:=9,res:=[(2,none),(3,none)],body :=
 (zS [1] [zo 1 0,z0 2,z0 3]
 (zs (zS [1,6] [zL 4 9 1,zk 5 961 [.t 4],zt 6 5]
 (zC 6 (zS [2,3] [z0 2,zc 3 (zI 1)]
 .ret)
 .skip))
 (zS [2,3] [zL 7 9 1,zk 8 947 [.t 7],zm 2 8,z0 3]
 .ret))) }
def N952:al:={ np:=3,nt:=5,res:=[],body :=
 (zS [1,2,4] [zl 3 1 0,zd 4 .neq 3 (zI 0)]
 (zC 4 (zr [] [zw (.st 1 [] (.t 1) (.c .nils)),zw (.st 1 [] (.t 2) (.c .nils))])
 .skip)) }
def N953:al:={ np:=2,nt:=11,res:=[(4,none),(5,none)],body :=
 (zS [1,2] [zo 2 0,zc 4 .nils,z0 5]
 (zS [4,5] [zL 6 2 2,zq 7 1,zy 8 (.call 962 [.t 6,.t 7,(.c (.fn 963 [])),(.c (.fn 964 []))] []),zx 9 0 8,zx 10 1 8,zq 4 9,zm 5 10]
 .ret)) }
def N954:al:={ np:=3,nt:=66,res:=[(6,none),(7,none)],body :=
 (zS [2,3,4] [zo 3 0,zo 4 1,zc 6 .nils,z0 7]
 (zs (zS [2,3,4,19] [zL 16 2 3,zL 17 4 4,zk 18 927 [.t 16,.t 17],zt 19 18]
 (zC 19 (zS [6,7] [zc 6 .nils,zc 7 (zI 1)]
 .ret)
 .skip))
 (zs (zS [2,3,4,8] [zL 20 2 3,zm 21 2,zk 22 965 [.t 20,.t 21],zm 8 22]
 (zS [2,3,4,8,24] [zm 23 8,zd 24 .neq 23 (zI 0)]
 (zC 24 (zS [6,7] [zm 25 8,zc 6 .nils,zm 7 25]
 .ret)
 .skip)))
 (zS [2,3,4,9] [zy 9 (.nilo 1)]
 (zs (zS [2,3,4,9,27,28,29] [zf 26 1 3,zl 27 1 26,zn 28 27,z0 29]
 (.block 0 (.loop (zS [2,3,4,9,27,28,29,30] [zb 30 .lss 29 28]
 (zs (zC 30 .skip
 (.exit 0))
 (zs (.block 1 (zS [2,3,4,9,10,11,27,28,29] [zm 31 29,zi 32 11 27 29,zL 33 11 32,zy 11 (.alc zA6),zm 10 31,zw (.st 11 [] (.t 11) (.t 33))]
 (zS [2,3,4,9,10,11,12,27,28,29] [zF 12]
 (zs (zS [2,3,4,9,10,11,12,27,28,29,36] [zf 34 3 11,zl 35 1 34,zd 36 .eql 35 (zI 4)]
 (zC 36 (zS [2,3,4,9,10,11,13,27,28,29] [zL 38 2 3,zL 39 11 11,zk 40 966 [.t 38,.t 39],zm 37 40,zx 41 0 37,zx 42 1 37,zm 13 41,zm 14 42]
 (zS [2,3,4,9,10,11,13,27,28,29] [z0 15]
 (zs (.reg true [0,0,2,0,14,30,0,0,192,448,1023,2047,4095,4095,8191,32767] [2,3,4,9,12,15,27,28,29] [zL 44 11 11,zf 45 3 4,zl 46 1 45,zm 47 10,zi 48 1 46 47,zl 49 1 48,zm 50 2,zm 51 13,zi 52 1 50 51,zl 53 1 52,zk 54 967 [.t 44,.t 49,.t 53],zm 43 54,zx 55 0 43,zx 56 1 43,zm 12 55,zm 15 56])
 (zS [2,3,4,9,12,15,27,28,29,58] [zm 57 15,zd 58 .neq 57 (zI 0)]
 (zC 58 (zS [6,7] [zm 59 15,zc 6 .nils,zm 7 59]
 .ret)
 .skip)))))
 .skip))
 (zr [2,3,4,9,27,28,29] [zm 60 9,zm 61 12,zy 62 (.bls 1 1 [.bool false] [] [(0,.t 61)]),zy 63 (.app 1 1 false (.t 60) (.t 62)),zq 9 63])))))
 (zr [2,3,4,9,27,28,29] [zd 64 .add 29 (zI 1),zm 29 64])))))))
 (zS [6,7] [zq 65 9,zq 6 65,z0 7]
 .ret)))))) }
def N955:al:={ np:=4,nt:=70,res:=[(8,none),(9,none)],body :=
 (zS [2,4,5,7] [zo 4 0,zo 5 1,zo 7 3,zc 8 .nils,z0 9]
 (zs (zS [2,4,5,7,24] [zl 16 1 5,zk 17 44 [.t 16],zt 18 17,zm 19 18,ze 19 (zL 20 2 4),ze 19 (zL 21 4 7),ze 19 (zk 22 927 [.t 20,.t 21]),ze 19 (zt 23 22),zp 24 19 23]
 (zC 24 (zS [8,9] [zc 8 .nils,zc 9 (zI 1)]
 .ret)
 .skip))
 (zs (zS [2,4,5,7,10] [zL 25 2 4,zm 26 2,zk 27 965 [.t 25,.t 26],zm 10 27]
 (zS [2,4,5,7,10,29] [zm 28 10,zd 29 .neq 28 (zI 0)]
 (zC 29 (zS [8,9] [zm 30 10,zc 8 .nils,zm 9 30]
 .ret)
 .skip)))
 (zs (zS [2,4,5,7,34] [zf 31 1 4,zl 32 1 31,zy 33 (.mk 968 [.t 5]),zk 34 455 [.t 32,.t 33]]
 (zC 34 (zS [8,9] [zc 8 .nils,zc 9 (zI 9)]
 .ret)
 .skip))
 (zS [2,4,5,7,11] [zy 11 (.nilo 1)]
 (zs (zS [2,4,5,7,11,36,37,38] [zf 35 1 4,zl 36 1 35,zn 37 36,z0 38]
 (.block 0 (.loop (zS [2,4,5,7,11,36,37,38,39] [zb 39 .lss 38 37]
 (zs (zC 39 .skip
 (.exit 0))
 (zs (.block 1 (zS [2,4,5,7,11,12,13,36,37,38] [zm 40 38,zi 41 11 36 38,zL 42 11 41,zy 13 (.alc zA6),zm 12 40,zw (.st 11 [] (.t 13) (.t 42))]
 (zs (.reg true [0,0,0,0,0,16,0,112,240,0,512,0,3584,7680,16383,32767,65535,65535,131071,524287] [2,4,5,7,11,14,15,36,37,38] [zL 44 2 4,zl 45 1 5,zL 46 11 13,zm 47 2,zf 48 2 7,zl 49 1 48,zm 50 12,zi 51 1 49 50,zl 52 1 51,zf 53 3 7,zl 54 1 53,zm 55 12,zi 56 1 54 55,zl 57 1 56,zk 58 970 [.t 44,.t 45,.t 46,.t 47,.t 52,.t 57],zm 43 58,zx 59 0 43,zx 60 1 43,zm 14 59,zm 15 60])
 (zs (zS [2,4,5,7,11,14,15,36,37,38,62] [zm 61 15,zd 62 .neq 61 (zI 0)]
 (zC 62 (zS [8,9] [zm 63 15,zc 8 .nils,zm 9 63]
 .ret)
 .skip))
 (zr [2,4,5,7,11,36,37,38] [zm 64 11,zm 65 14,zy 66 (.bls 1 1 [zI 0] [] [(0,.t 65)]),zy 67 (.app 1 8 false (.t 64) (.t 66)),zq 11 67])))))
 (zr [2,4,5,7,11,36,37,38] [zd 68 .add 38 (zI 1),zm 38 68])))))))
 (zS [8,9] [zq 69 11,zq 8 69,z0 9]
 .ret))))))) }
def N956:al:={ np:=2,nt:=24,res:=[(4,none),(5,none)],body :=
 (zS [0,1] [z0 4,z0 5]
 (zs (zS [0,1,19] [zm 6 0,zd 7 .lss 6 (zI 0),zm 8 7,ze 8 (zm 9 0),ze 8 (zd 10 .gtr 9 (zI 1099511627776)),zp 11 8 10,zm 12 11,ze 12 (zm 13 1),ze 12 (zd 14 .lss 13 (zI 1)),zp 15 12 14,zm 16 15,ze 16 (zm 17 1),ze 16 (zd 18 .gtr 17 (zI 86400)),zp 19 16 18]
 (zC 19 (zS [4,5] [z0 4,zc 5 (zI 2)]
 .ret)
 .skip))
 (zS [4,5] [zm 20 0,zm 21 1,zb 22 .mul 20 21,zy 23 (.mn (.t 22) (.c (zI 1125899906842624))),zm 4 23,z0 5]
 .ret))) }
def N957:al:={ np:=3,nt:=29,res:=[(6,none)],body :=
 (zS [0,1,2] [z0 6]
 (zS [2,7,8] [zm 12 0,zy 13 (.conv .u64 (.t 12)),zm 14 1,zy 15 (.conv .u64 (.t 14)),zk 16 91 [.t 13,.t 15],zm 11 16,zx 17 0 11,zx 18 1 11,zm 7 17,zm 8 18]
 (zS [9] [zm 20 7,zm 21 8,zm 22 2,zy 23 (.conv .u64 (.t 22)),zk 24 92 [.t 20,.t 21,.t 23],zm 19 24,zx 25 0 19,zx 26 1 19,zm 9 25,zm 10 26]
 (zS [6] [zm 27 9,zy 28 (.conv .i64 (.t 27)),zm 6 28]
 .ret)))) }
def N958:al:={ np:=2,nt:=19,res:=[(4,none)],body :=
 (zS [0,1] [z0 4]
 (zs (zS [0,1,7,8] [zm 6 0,zn 7 6,z0 8]
 (.block 0 (.loop (zS [0,1,7,8,9] [zb 9 .lss 8 7]
 (zs (zC 9 .skip
 (.exit 0))
 (zs (.block 1 (zS [0,1,5,7,8] [zm 10 8,zm 5 10]
 (zS [0,1,5,7,8,16] [zm 11 1,zm 12 0,zm 13 5,zi 14 3 12 13,zL 15 3 14,zy 16 (.callv (.t 11) [.t 15])]
 (zC 16 (zS [4] [zm 17 5,zm 4 17]
 .ret)
 .skip))))
 (zr [0,1,7,8] [zd 18 .add 8 (zI 1),zm 8 18])))))))
 (zS [4] [zy 4 (.mov (.c (zI (-1))))]
 .ret))) }
def N959:al:={ np:=2,nt:=11,res:=[(3,none)],body :=
 (zS [0,1] [zF 3]
 (zS [3] [zm 4 0,zd 5 .lss 4 (zI 0),zm 6 5,ze 6 (zm 7 0),ze 6 (zl 8 1 1),ze 6 (zb 9 .gtr 7 8),zp 10 6 9,zm 3 10]
 .ret)) }
def N960:al:={ np:=1,nt:=9,res:=[(2,some (2,true))],body :=
 (zS [0,2] [zy 2 (.alc zA1)]
 (zS [2] [zm 3 0,zq 4 0,zn 5 4,zd 6 .sub 5 (zI 1),zi 7 2 3 6,zL 8 2 7,zw (.st 2 [] (.t 2) (.t 8))]
 .ret)) }
def N961:al:={ np:=1,nt:=7,res:=[(2,none)],body :=
 (zS [1] [zo 1 0,zF 2]
 (zS [2] [zL 3 9 1,zy 4 (.bls 9 1 [.str [],zI 0,zI 0,zI 0,zI 0,zI 0,.own 2 [],.bool false,zI 0] [] [(0,.t 3)]),zy 5 (.bld [.nils,.nils] [(0,1,.t 4)]),zk 6 164 [.t 5],zm 2 6]
 .ret)) }
def N962:al:={ np:=4,nt:=72,res:=[(8,none),(9,none)],body :=
 (zS [1,2,3,4] [zo 4 0,zc 8 .nils,z0 9]
 (zs (.block 0 (zS [1,2,3,4,17] [zL 18 2 4,zk 19 164 [.t 18],zt 20 19,zm 17 20]
 (zC 17 (zS [8,9] [zc 8 .nils,zc 9 (zI 1)]
 .ret)
 (zS [1,2,3,4,21] [zm 22 1,zn 23 22,zf 24 0 4,zl 25 1 24,zn 26 25,zb 27 .neq 23 26,zm 21 27]
 (zC 21 (zS [8,9] [zc 8 .nils,zc 9 (zI 3)]
 .ret)
 .skip)))))
 (zs (zS [1,2,3,4,29,30,31] [zf 28 0 4,zl 29 1 28,zn 30 29,z0 31]
 (.block 1 (.loop (zS [1,2,3,4,29,30,31,32] [zb 32 .lss 31 30]
 (zs (zC 32 .skip
 (.exit 1))
 (zs (.block 2 (zS [1,2,3,4,10,11,29,30,31] [zm 33 31,zi 34 9 29 31,zL 35 9 34,zy 11 (.alc zA5),zm 10 33,zw (.st 9 [] (.t 11) (.t 35))]
 (zs (.reg true [0,0,0,0,12,28,63,127] [1,2,3,4,29,30,31,43] [zm 36 2,zL 37 9 11,zm 38 1,zm 39 10,zi 40 1 38 39,zl 41 1 40,zy 42 (.callv (.t 36) [.t 37,.t 41]),zt 43 42])
 (zC 43 (zS [8,9] [zc 8 .nils,zc 9 (zI 2)]
 .ret)
 .skip))))
 (zr [1,2,3,4,29,30,31] [zd 44 .add 31 (zI 1),zm 31 44])))))))
 (zS [1,3,4,12] [zy 12 (.nilo 1)]
 (zs (zS [1,3,12,46,47,48] [zf 45 0 4,zl 46 1 45,zn 47 46,z0 48]
 (.block 3 (.loop (zS [1,3,12,46,47,48,49] [zb 49 .lss 48 47]
 (zs (zC 49 .skip
 (.exit 3))
 (zs (.block 4 (zS [1,3,12,13,14,46,47,48] [zm 50 48,zi 51 9 46 48,zL 52 9 51,zy 14 (.alc zA5),zm 13 50,zw (.st 9 [] (.t 14) (.t 52))]
 (zs (.reg true [0,0,0,0,12,28,63,127,255,255,511,2047] [1,3,12,15,16,46,47,48] [zm 54 3,zL 55 9 14,zm 56 1,zm 57 13,zi 58 1 56 57,zl 59 1 58,zy 60 (.callv (.t 54) [.t 55,.t 59]),zm 53 60,zx 61 0 53,zx 62 1 53,zm 15 61,zm 16 62])
 (zs (zS [1,3,12,15,16,46,47,48,64] [zm 63 16,zd 64 .neq 63 (zI 0)]
 (zC 64 (zS [8,9] [zm 65 16,zc 8 .nils,zm 9 65]
 .ret)
 .skip))
 (zr [1,3,12,46,47,48] [zm 66 12,zm 67 15,zy 68 (.bls 1 1 [zI 0] [] [(0,.t 67)]),zy 69 (.app 1 8 false (.t 66) (.t 68)),zq 12 69])))))
 (zr [1,3,12,46,47,48] [zd 70 .add 48 (zI 1),zm 48 70])))))))
 (zS [8,9] [zq 71 12,zq 8 71,z0 9]
 .ret)))))) }
def N963:al:={ np:=2,nt:=7,res:=[(4,none)],body :=
 (zS [1] [zo 2 0,zF 4]
 (zS [4] [zm 5 1,zk 6 948 [.t 5],zm 4 6]
 .ret)) }
def N964:al:={ np:=2,nt:=25,res:=[(4,none),(5,none)],body :=
 (zS [1,2] [zo 2 0,z0 4,z0 5]
 (zs (zS [1,2,10] [zf 8 1 2,zl 9 1 8,zd 10 .eql 9 (zI 3)]
 (zC 10 (zS [4,5] [zf 11 4 2,zl 12 1 11,zm 4 12,z0 5]
 .ret)
 .skip))
 (zS [2,6,7] [zf 14 6 2,zl 15 1 14,zm 16 1,zk 17 971 [.t 15,.t 16],zm 13 17,zx 18 0 13,zx 19 1 13,zm 6 18,zm 7 19]
 (zS [4,5] [zf 20 4 2,zl 21 1 20,zm 22 6,zb 23 .add 21 22,zm 24 7,zm 4 23,zm 5 24]
 .ret)))) }
def N965:al:={ np:=2,nt:=29,res:=[(4,none)],body :=
 (zS [1,2] [zo 2 0,z0 4]
 (zs (zS [1,2,12] [zm 7 1,zn 8 7,zf 9 0 2,zl 10 1 9,zn 11 10,zb 12 .neq 8 11]
 (zC 12 (zS [4] [zc 4 (zI 3)]
 .ret)
 .skip))
 (zs (zS [1,14,15,16] [zf 13 0 2,zl 14 1 13,zn 15 14,z0 16]
 (.block 0 (.loop (zS [1,14,15,16,17] [zb 17 .lss 16 15]
 (zs (zC 17 .skip
 (.exit 0))
 (zs (.block 1 (zS [1,5,6,14,15,16] [zm 18 16,zi 19 9 14 16,zL 20 9 19,zy 6 (.alc zA5),zm 5 18,zw (.st 9 [] (.t 6) (.t 20))]
 (zs (.reg true [0,0,0,6,14,31,63] [1,14,15,16,27] [zL 21 9 6,zm 22 1,zm 23 5,zi 24 1 22 23,zl 25 1 24,zk 26 972 [.t 21,.t 25],zt 27 26])
 (zC 27 (zS [4] [zc 4 (zI 2)]
 .ret)
 .skip))))
 (zr [1,14,15,16] [zd 28 .add 16 (zI 1),zm 16 28])))))))
 (zS [4] [z0 4]
 .ret)))) }
def N966:al:={ np:=2,nt:=16,res:=[(4,none),(5,none)],body :=
 (zS [2,3] [zo 2 0,zo 3 1,z0 4,z0 5]
 (zS [2,3,4] [zf 6 0 2,zl 7 1 6,zy 8 (.mk 973 [.t 3]),zk 9 175 [.t 7,.t 8],zm 4 9]
 (zS [4,5] [zf 10 0 2,zl 11 1 10,zy 12 (.mk 974 [.t 3]),zk 13 175 [.t 11,.t 12],zm 5 13]
 (zS [4,5] [zm 14 4,zm 15 5,zm 4 14,zm 5 15]
 .ret)))) }
def N967:al:={ np:=3,nt:=20,res:=[(6,none),(7,none)],body :=
 (zS [1,2,3] [zo 3 0,zF 6,z0 7]
 (zs (.block 0 (zS [1,2,3,8] [zL 9 11 3,zk 10 975 [.t 9],zt 11 10,zm 8 11]
 (zC 8 (zS [6,7] [zF 6,zc 7 (zI 1)]
 .ret)
 (zS [1,2,3,12] [zm 13 2,zk 14 976 [.t 13],zt 15 14,zm 12 15]
 (zC 12 (zS [6,7] [zF 6,zc 7 (zI 2)]
 .ret)
 .skip)))))
 (zS [6,7] [zL 16 11 3,zm 17 1,zm 18 2,zk 19 977 [.t 16,.t 17,.t 18],zm 6 19,z0 7]
 .ret))) }
def N968:al:={ np:=2,nt:=8,res:=[(3,none)],body :=
 (zS [1,2] [zo 2 0,zF 3]
 (zS [3] [zl 4 1 1,zL 5 11 2,zk 6 969 [.t 4,.t 5],zt 7 6,zm 3 7]
 .ret)) }
def N969:al:={ np:=2,nt:=13,res:=[(4,none)],body :=
 (zS [0,3] [zo 3 1,zF 4]
 (zS [4] [zf 5 3 3,zl 6 1 5,zd 7 .neq 6 (zI 1),zm 8 7,ze 8 (zq 9 0),ze 8 (zy 10 (.mk 978 [.t 3])),ze 8 (zk 11 45 [.t 9,.t 10]),zp 12 8 11,zm 4 12]
 .ret)) }
def N970:al:={ np:=6,nt:=38,res:=[(12,none),(13,none)],body :=
 (zS [1,3,4,5,6,8] [zo 6 0,zo 8 2,z0 12,z0 13]
 (zS [1,3,4,5,6,8,14,15] [zL 17 2 6,zL 18 11 8,zk 19 966 [.t 17,.t 18],zm 16 19,zx 20 0 16,zx 21 1 16,zm 14 20,zm 15 21]
 (zs (.reg true [0,0,0,0,0,24,56,0,0,384,896,0,0,8191,16383,16383,65535,131071] [12,13] [zL 22 2 6,zq 23 1,zL 24 11 8,zm 25 3,zm 26 14,zi 27 1 25 26,zl 28 1 27,zq 29 3,zm 30 15,zi 31 1 29 30,zl 32 1 31,zm 33 4,zm 34 5,zk 35 979 [.t 22,.t 23,.t 24,.t 28,.t 32,.t 33,.t 34],zx 36 0 35,zx 37 1 35,zm 12 36,zm 13 37])
 .ret))) }
def N971:al:={ np:=2,nt:=63,res:=[(4,none),(5,none)],body :=
 (zS [0,3] [zo 3 1,z0 4,z0 5]
 (zs (zS [0,3,14] [zm 12 0,zk 13 72 [.t 12],zt 14 13]
 (zC 14 (zS [4,5] [z0 4,zc 5 (zI 1)]
 .ret)
 .skip))
 (zS [0,3,6] [zm 15 0,zy 16 (.mk 980 [.t 3]),zk 17 185 [.t 15,.t 16],zm 6 17]
 (zs (zS [0,3,6,18] [zm 18 6]
 (.block 0 (zS [0,3,6,18,19] [zy 20 (.bin .eql (.t 18) (.c (zI (-1)))),zm 19 20]
 (zC 19 (zS [4,5] [zm 21 0,zq 22 0,zn 23 22,zd 24 .sub 23 (zI 1),zi 25 2 21 24,zf 26 0 25,zl 27 1 26,zm 4 27,z0 5]
 .ret)
 (zS [0,3,6,28] [zd 29 .eql 18 (zI 0),zm 28 29]
 (zC 28 (zS [4,5] [z0 4,zc 5 (zI 12)]
 .ret)
 .skip))))))
 (zs (.reg true [0,0,2,7,15,0,0,96,224,0,0,1567,4095] [3,7,8] [zm 30 0,zm 31 6,zd 32 .sub 31 (zI 1),zi 33 2 30 32,zL 34 2 33,zq 35 0,zm 36 6,zi 37 2 35 36,zL 38 2 37,zy 7 (.alc zA1),zy 8 (.alc zA1),zw (.st 2 [] (.t 7) (.t 34)),zw (.st 2 [] (.t 8) (.t 38))])
 (zS [7,9,11] [zl 40 1 3,zf 41 1 7,zl 42 1 41,zb 43 .sub 40 42,zf 44 0 8,zl 45 1 44,zf 46 0 7,zl 47 1 46,zb 48 .sub 45 47,zf 49 1 8,zl 50 1 49,zf 51 1 7,zl 52 1 51,zb 53 .sub 50 52,zk 54 98 [.t 43,.t 48,.t 53],zm 39 54,zx 55 0 39,zx 56 1 39,zx 57 2 39,zm 9 55,zm 10 56,zm 11 57]
 (zS [4,5] [zf 58 0 7,zl 59 1 58,zm 60 9,zb 61 .add 59 60,zm 62 11,zm 4 61,zm 5 62]
 .ret))))))) }
def N972:al:={ np:=2,nt:=15,res:=[(4,none)],body :=
 (zS [1,2] [zo 2 0,zF 4]
 (zS [4] [zm 5 1,zf 6 4 2,zl 7 1 6,zb 8 .geq 5 7,zm 9 8,zh 9 (zm 10 1),zh 9 (zf 11 5 2),zh 9 (zl 12 1 11),zh 9 (zb 13 .leq 10 12),zP 14 9 13,zm 4 14]
 .ret)) }
def N973:al:={ np:=2,nt:=9,res:=[(3,none)],body :=
 (zS [1,2] [zo 2 0,zF 3]
 (zS [3] [zf 4 0 2,zl 5 1 4,zf 6 1 1,zl 7 1 6,zb 8 .eql 5 7,zm 3 8]
 .ret)) }
def N974:al:={ np:=2,nt:=9,res:=[(3,none)],body :=
 (zS [1,2] [zo 2 0,zF 3]
 (zS [3] [zf 4 0 2,zl 5 1 4,zf 6 2 1,zl 7 1 6,zb 8 .eql 5 7,zm 3 8]
 .ret)) }
def N975:al:={ np:=1,nt:=24,res:=[(2,none)],body :=
 (zS [1] [zo 1 0,zF 2]
 (zs (zS [1,7] [zf 5 3 1,zl 6 1 5,zd 7 .neq 6 (zI 4)]
 (zC 7 (zS [2] [zF 2]
 .ret)
 .skip))
 (zS [1,3] [zf 8 1 1,zl 9 1 8,zy 10 (.bld [zI 0,zI 0] []),zy 11 (.bld [zI 0,zI 0] [(0,1,(.c (zI 1)))]),zy 12 (.blsF 2 2 [zI 0,zI 0] [(0,.t 10),(1,.t 11)]),zy 13 (.bld [.str [],zI 0,zI 0,zI 0,zI 0,zI 0,.nils,.bool false,zI 0] [(0,1,.t 9),(1,1,(.c (zI 1))),(5,1,(.c (zI 1))),(6,1,.t 12)]),zy 3 (.alc zA5),zw (.st 9 [] (.t 3) (.t 13))]
 (zS [1,3,4] [zf 14 2 1,zl 15 1 14,zy 16 (.bld [.str [],zI 0,zI 0,zI 0,zI 0,zI 0,.nils,.bool false,zI 0] [(0,1,.t 15),(1,1,(.c (zI 3)))]),zy 4 (.alc zA5),zw (.st 9 [] (.t 4) (.t 16))]
 (zS [2] [zL 17 9 3,zL 18 9 4,zy 19 (.blsF 9 2 [.str [],zI 0,zI 0,zI 0,zI 0,zI 0,.own 2 [],.bool false,zI 0] [(0,.t 17),(1,.t 18)]),zL 20 11 1,zy 21 (.blsF 11 1 [.str [],.str [],.str [],zI 0,zI 0,zI 0,zI 0,.str [],zI 0,zI 0,.own 2 []] [(0,.t 20)]),zy 22 (.bld [.nils,.nils] [(0,1,.t 19),(1,1,.t 21)]),zk 23 164 [.t 22],zm 2 23]
 .ret))))) }
def N976:al:={ np:=1,nt:=5,res:=[(2,none)],body :=
 (zS [0] [zF 2]
 (zS [2] [zm 3 0,zk 4 981 [.t 3,(.c (zI (-4194304))),(.c (zI 4194304))],zm 2 4]
 .ret)) }
def N977:al:={ np:=3,nt:=20,res:=[(6,none)],body :=
 (zS [1,2,3] [zo 3 0,zF 6]
 (zS [6] [zm 7 2,zf 8 5 3,zl 9 1 8,zb 10 .geq 7 9,zm 11 10,ze 11 (zm 12 1),ze 11 (zm 13 12),zh 13 (zm 14 2),zh 13 (zf 15 6 3),zh 13 (zl 16 1 15),zh 13 (zb 17 .geq 14 16),ze 11 (zP 18 13 17),zp 19 11 18,zm 6 19]
 .ret)) }
def N978:al:={ np:=2,nt:=9,res:=[(3,none)],body :=
 (zS [1,2] [zo 2 0,zF 3]
 (zS [3] [zf 4 0 2,zl 5 1 4,zf 6 7 1,zl 7 1 6,zb 8 .eql 5 7,zm 3 8]
 .ret)) }
def N979:al:={ np:=7,nt:=81,res:=[(14,none),(15,none)],body :=
 (zS [1,3,4,5,6,7,9] [zo 7 0,zo 9 2,z0 14,z0 15]
 (zs (zS [1,3,4,5,6,7,9,20] [zf 19 3 9,zl 20 1 19]
 (.block 0 (zS [1,3,4,5,6,7,9,20,21] [zd 22 .eql 20 (zI 1),zm 21 22]
 (zC 21 (zS [1,3,4,9,16] [zm 23 1,zy 24 (.mk 982 [.t 9]),zk 25 52 [.t 23,.t 24],zm 16 25]
 (zs (.reg true [0,0,0,6,14,0,0,127,255,255,1023,2047] [14,15] [zL 26 11 9,zq 27 1,zm 28 16,zi 29 5 27 28,zL 30 5 29,zm 31 3,zm 32 4,zk 33 983 [.t 26,.t 30,.t 31,.t 32],zx 34 0 33,zx 35 1 33,zm 14 34,zm 15 35])
 .ret))
 (zS [3,4,5,6,7,9,20,36] [zd 37 .eql 20 (zI 2),zm 36 37]
 (zC 36 (zS [14,15] [zL 38 11 9,zm 39 3,zm 40 4,zk 41 985 [.t 38,.t 39,.t 40],zx 42 0 41,zx 43 1 41,zk 44 984 [.t 42,.t 43],zx 45 0 44,zx 46 1 44,zm 14 45,zm 15 46]
 .ret)
 (zS [3,4,5,6,7,9,47] [zd 48 .eql 20 (zI 3),zm 47 48]
 (zC 47 (zS [14,15] [zL 49 11 9,zm 50 5,zm 51 3,zm 52 4,zk 53 986 [.t 49,.t 50,.t 51,.t 52],zx 54 0 53,zx 55 1 53,zk 56 984 [.t 54,.t 55],zx 57 0 56,zx 58 1 56,zm 14 57,zm 15 58]
 .ret)
 .skip))))))))
 (zs (zS [3,5,7,9,60] [zm 59 6,zt 60 59]
 (zC 60 (zS [14,15] [z0 14,z0 15]
 .ret)
 .skip))
 (zS [3,5,7,9,17] [zL 62 2 7,zL 63 11 9,zk 64 966 [.t 62,.t 63],zm 61 64,zx 65 0 61,zx 66 1 61,zm 17 65,zm 18 66]
 (zs (.reg true [0,0,0,0,8,0,56,120,248,508,1020,2047,4095,4095,16383,32767] [14,15] [zL 67 11 9,zm 68 5,zm 69 3,zf 70 0 7,zl 71 1 70,zm 72 17,zi 73 9 71 72,zf 74 4 73,zl 75 1 74,zb 76 .sub 69 75,zy 77 (.mn (.t 76) (.c (zI 4194304))),zk 78 987 [.t 67,.t 68,.t 77],zx 79 0 78,zx 80 1 78,zm 14 79,zm 15 80])
 .ret))))) }
def N980:al:={ np:=2,nt:=8,res:=[(3,none)],body :=
 (zS [1,2] [zo 2 0,zF 3]
 (zS [3] [zf 4 1 2,zl 5 1 4,zl 6 1 1,zb 7 .gtr 5 6,zm 3 7]
 .ret)) }
def N981:al:={ np:=3,nt:=15,res:=[(6,none)],body :=
 (zS [0,1,2] [zF 6]
 (zS [6] [zm 7 0,zm 8 1,zb 9 .geq 7 8,zm 10 9,zh 10 (zm 11 0),zh 10 (zm 12 2),zh 10 (zb 13 .leq 11 12),zP 14 10 13,zm 6 14]
 .ret)) }
def N982:al:={ np:=2,nt:=9,res:=[(3,none)],body :=
 (zS [1,2] [zo 2 0,zF 3]
 (zS [3] [zf 4 0 2,zl 5 1 4,zf 6 7 1,zl 7 1 6,zb 8 .eql 5 7,zm 3 8]
 .ret)) }
def N983:al:={ np:=4,nt:=41,res:=[(8,none),(9,none)],body :=
 (zS [2,3,4,5] [zo 4 0,zo 5 1,z0 8,z0 9]
 (zS [2,3,4,5,10] [zm 12 2,zf 13 5 4,zl 14 1 13,zb 15 .sub 12 14,zf 16 1 5,zl 17 1 16,zy 18 (.mn (.t 15) (.t 17)),zy 19 (.mx (.c (zI 0)) (.t 18)),zm 10 19]
 (zS [4,5,10,11] [zm 20 2,zm 21 3,zf 22 6 4,zl 23 1 22,zm 24 10,zb 25 .add 23 24,zy 26 (.mx (.t 21) (.t 25)),zb 27 .sub 20 26,zy 28 (.mn (.t 27) (.c (zI 4194304))),zy 29 (.mx (.c (zI 0)) (.t 28)),zm 11 29]
 (zS [8,9] [zL 30 5 5,zm 31 10,zm 32 11,zf 33 4 4,zl 34 1 33,zk 35 53 [.t 30,.t 31,.t 32,.t 34],zx 36 0 35,zx 37 1 35,zk 38 984 [.t 36,.t 37],zx 39 0 38,zx 40 1 38,zm 8 39,zm 9 40]
 .ret)))) }
def N984:al:={ np:=2,nt:=10,res:=[(4,none),(5,none)],body :=
 (zS [0,1] [z0 4,z0 5]
 (zs (zS [0,1,7] [zm 6 1,zd 7 .eql 6 (zI 5)]
 (zC 7 (zS [4,5] [zc 4 (zI 1099511627776),z0 5]
 .ret)
 .skip))
 (zS [4,5] [zm 8 0,zm 9 1,zm 4 8,zm 5 9]
 .ret))) }
def N985:al:={ np:=3,nt:=35,res:=[(6,none),(7,none)],body :=
 (zS [1,2,3] [zo 3 0,z0 6,z0 7]
 (zs (.block 0 (zS [1,2,3,9] [zL 10 11 3,zk 11 988 [.t 10],zt 12 11,zm 9 12]
 (zC 9 (zS [6,7] [z0 6,zc 7 (zI 1)]
 .ret)
 (zS [1,2,3,13] [zm 14 1,zk 15 989 [.t 14],zt 16 15,zm 17 16,ze 17 (zm 18 2),ze 17 (zk 19 989 [.t 18]),ze 17 (zt 20 19),zp 21 17 20,zm 13 21]
 (zC 13 (zS [6,7] [z0 6,zc 7 (zI 2)]
 .ret)
 .skip)))))
 (zS [3,8] [zL 22 11 3,zm 23 1,zm 24 2,zk 25 990 [.t 22,.t 23,.t 24],zm 8 25]
 (zs (zS [3,8,27] [zm 26 8,zd 27 .gtr 26 (zI 1048576)]
 (zC 27 (zS [6,7] [z0 6,zc 7 (zI 5)]
 .ret)
 .skip))
 (zS [6,7] [zf 28 8 3,zl 29 1 28,zm 30 8,zk 31 992 [.t 29,.t 30],zk 32 991 [.t 31],zx 33 0 32,zx 34 1 32,zm 6 33,zm 7 34]
 .ret))))) }
def N986:al:={ np:=4,nt:=42,res:=[(8,none),(9,none)],body :=
 (zS [1,2,3,4] [zo 4 0,z0 8,z0 9]
 (zs (.block 0 (zS [1,2,3,4,11] [zL 12 11 4,zk 13 993 [.t 12],zt 14 13,zm 11 14]
 (zC 11 (zS [8,9] [z0 8,zc 9 (zI 1)]
 .ret)
 (zS [1,2,3,4,15] [zm 16 1,zk 17 994 [.t 16,(.c (zI 0)),(.c (zI 1000))],zt 18 17,zm 19 18,ze 19 (zm 20 2),ze 19 (zk 21 989 [.t 20]),ze 19 (zt 22 21),zp 23 19 22,zm 24 23,ze 24 (zm 25 3),ze 24 (zk 26 989 [.t 25]),ze 24 (zt 27 26),zp 28 24 27,zm 15 28]
 (zC 15 (zS [8,9] [z0 8,zc 9 (zI 2)]
 .ret)
 .skip)))))
 (zS [1,4,10] [zL 29 11 4,zm 30 2,zm 31 3,zk 32 990 [.t 29,.t 30,.t 31],zm 10 32]
 (zs (zS [1,4,10,34] [zm 33 10,zd 34 .gtr 33 (zI 1048576)]
 (zC 34 (zS [8,9] [z0 8,zc 9 (zI 5)]
 .ret)
 .skip))
 (zS [8,9] [zL 35 11 4,zm 36 1,zm 37 10,zk 38 995 [.t 35,.t 36,.t 37],zk 39 991 [.t 38],zx 40 0 39,zx 41 1 39,zm 8 40,zm 9 41]
 .ret))))) }
def N987:al:={ np:=3,nt:=27,res:=[(6,none),(7,none)],body :=
 (zS [1,2,3] [zo 3 0,z0 6,z0 7]
 (zs (.block 0 (zS [1,2,3,8] [zL 9 11 3,zk 10 975 [.t 9],zt 11 10,zm 8 11]
 (zC 8 (zS [6,7] [z0 6,zc 7 (zI 1)]
 .ret)
 (zS [1,2,3,12] [zm 13 1,zk 14 981 [.t 13,(.c (zI 0)),(.c (zI 1000))],zt 15 14,zm 16 15,ze 16 (zm 17 2),ze 16 (zk 18 981 [.t 17,(.c (zI 0)),(.c (zI 4194304))]),ze 16 (zt 19 18),zp 20 16 19,zm 12 20]
 (zC 12 (zS [6,7] [z0 6,zc 7 (zI 2)]
 .ret)
 .skip)))))
 (zS [6,7] [zL 21 11 3,zm 22 1,zm 23 2,zk 24 996 [.t 21,.t 22,.t 23],zx 25 0 24,zx 26 1 24,zm 6 25,zm 7 26]
 .ret))) }
def N988:al:={ np:=1,nt:=16,res:=[(2,none)],body :=
 (zS [1] [zo 1 0,zF 2]
 (zS [2] [zf 3 3 1,zl 4 1 3,zd 5 .eql 4 (zI 2),zm 6 5,zh 6 (zf 7 5 1),zh 6 (zl 8 1 7),zh 6 (zk 9 989 [.t 8]),zP 10 6 9,zm 11 10,zh 11 (zf 12 8 1),zh 11 (zl 13 1 12),zh 11 (zk 14 994 [.t 13,(.c (zI 1)),(.c (zI 1048576))]),zP 15 11 14,zm 2 15]
 .ret)) }
def N989:al:={ np:=1,nt:=5,res:=[(2,none)],body :=
 (zS [0] [zF 2]
 (zS [2] [zm 3 0,zk 4 994 [.t 3,(.c (zI (-4194304))),(.c (zI 4194304))],zm 2 4]
 .ret)) }
def N990:al:={ np:=3,nt:=14,res:=[(6,none)],body :=
 (zS [1,2,3] [zo 3 0,z0 6]
 (zS [6] [zm 7 1,zm 8 2,zf 9 5 3,zl 10 1 9,zy 11 (.mx (.t 8) (.t 10)),zb 12 .sub 7 11,zy 13 (.mx (.c (zI 0)) (.t 12)),zm 6 13]
 .ret)) }
def N991:al:={ np:=1,nt:=7,res:=[(2,none),(3,none)],body :=
 (zS [0] [z0 2,z0 3]
 (zs (zS [0,5] [zm 4 0,zd 5 .gtr 4 (zI 1099511627776)]
 (zC 5 (zS [2,3] [z0 2,zc 3 (zI 5)]
 .ret)
 .skip))
 (zS [2,3] [zm 6 0,zm 2 6,z0 3]
 .ret))) }
def N992:al:={ np:=2,nt:=17,res:=[(4,none)],body :=
 (zS [0,1] [z0 4]
 (zS [4] [zm 5 0,zm 6 0,zb 7 .mul 5 6,zm 8 1,zm 9 1,zb 10 .mul 8 9,zk 11 997 [.t 7,.t 10],zm 12 1,zk 13 998 [.t 11,.t 12],zk 14 998 [.t 13,(.c (zI 289))],zk 15 999 [.t 14,(.c (zI 100000))],zk 16 1000 [.t 15],zm 4 16]
 .ret)) }
def N993:al:={ np:=1,nt:=21,res:=[(2,none)],body :=
 (zS [1] [zo 1 0,zF 2]
 (zS [2] [zf 3 3 1,zl 4 1 3,zd 5 .eql 4 (zI 3),zm 6 5,zh 6 (zf 7 5 1),zh 6 (zl 8 1 7),zh 6 (zk 9 989 [.t 8]),zP 10 6 9,zm 11 10,zh 11 (zf 12 8 1),zh 11 (zl 13 1 12),zh 11 (zk 14 994 [.t 13,(.c (zI 1)),(.c (zI 32768))]),zP 15 11 14,zm 16 15,zh 16 (zf 17 9 1),zh 16 (zl 18 1 17),zh 16 (zk 19 994 [.t 18,(.c (zI 1)),(.c (zI 32768))]),zP 20 16 19,zm 2 20]
 .ret)) }
def N994:al:={ np:=3,nt:=15,res:=[(6,none)],body :=
 (zS [0,1,2] [zF 6]
 (zS [6] [zm 7 0,zm 8 1,zb 9 .geq 7 8,zm 10 9,zh 10 (zm 11 0),zh 10 (zm 12 2),zh 10 (zb 13 .leq 11 12),zP 14 10 13,zm 6 14]
 .ret)) }
def N995:al:={ np:=3,nt:=19,res:=[(6,none)],body :=
 (zS [1,2,3] [zo 3 0,z0 6]
 (zS [6] [zf 7 8 3,zl 8 1 7,zf 9 9 3,zl 10 1 9,zm 11 1,zb 12 .mul 10 11,zd 13 .quo 12 (zI 1000),zm 14 2,zy 15 (.mn (.t 13) (.t 14)),zb 16 .mul 8 15,zm 17 2,zk 18 1001 [.t 16,.t 17],zm 6 18]
 .ret)) }
def N996:al:={ np:=3,nt:=22,res:=[(6,none),(7,none)],body :=
 (zS [1,2,3] [zo 3 0,z0 6,z0 7]
 (zS [1,8,9] [zf 11 10 3,zl 12 1 11,zm 13 2,zk 14 73 [.t 12,.t 13],zm 10 14,zx 15 0 10,zx 16 1 10,zm 8 15,zm 9 16]
 (zS [6,7] [zm 17 8,zm 18 1,zb 19 .mul 17 18,zd 20 .quo 19 (zI 1000),zm 21 9,zm 6 20,zm 7 21]
 .ret))) }
def N997:al:={ np:=2,nt:=18,res:=[(4,some (2,true))],body :=
 (zS [0,1,4] [zy 4 (.alc zA8)]
 (zS [4,5,6] [zm 8 0,zy 9 (.conv .u64 (.t 8)),zm 10 1,zy 11 (.conv .u64 (.t 10)),zk 12 91 [.t 9,.t 11],zm 7 12,zx 13 0 7,zx 14 1 7,zm 5 13,zm 6 14]
 (zS [4] [zm 15 5,zm 16 6,zy 17 (.bld [.int .u64 0,.int .u64 0] [(0,1,.t 15),(1,1,.t 16)]),zw (.st 2 [] (.t 4) (.t 17))]
 .ret))) }
def N998:al:={ np:=2,nt:=24,res:=[(4,some (2,true))],body :=
 (zS [1,2,4] [zo 2 0,zy 4 (.alc zA8)]
 (zS [1,2,4,5,6] [zf 8 1 2,zl 9 1 8,zm 10 1,zy 11 (.conv .u64 (.t 10)),zk 12 91 [.t 9,.t 11],zm 7 12,zx 13 0 7,zx 14 1 7,zm 5 13,zm 6 14]
 (zS [4] [zm 15 5,zf 16 0 2,zl 17 1 16,zm 18 1,zy 19 (.conv .u64 (.t 18)),zb 20 .mul 17 19,zb 21 .add 15 20,zm 22 6,zy 23 (.bld [.int .u64 0,.int .u64 0] [(0,1,.t 21),(1,1,.t 22)]),zw (.st 2 [] (.t 4) (.t 23))]
 .ret))) }
def N999:al:={ np:=2,nt:=31,res:=[(4,some (2,true))],body :=
 (zS [1,2,4] [zo 2 0,zy 4 (.alc zA8)]
 (zs (.reg true [0,1,0,4,15,0,32,0,128,480,31,2047] [1,2,4,5,6] [zf 9 0 2,zl 10 1 9,zm 11 1,zy 12 (.conv .u64 (.t 11)),zb 13 .quo 10 12,zf 14 0 2,zl 15 1 14,zm 16 1,zy 17 (.conv .u64 (.t 16)),zb 18 .rem 15 17,zm 5 13,zm 6 18])
 (zS [4,5,7] [zm 20 6,zf 21 1 2,zl 22 1 21,zm 23 1,zy 24 (.conv .u64 (.t 23)),zk 25 92 [.t 20,.t 22,.t 24],zm 19 25,zx 26 0 19,zx 27 1 19,zm 7 26,zm 8 27]
 (zS [4] [zm 28 5,zm 29 7,zy 30 (.bld [.int .u64 0,.int .u64 0] [(0,1,.t 28),(1,1,.t 29)]),zw (.st 2 [] (.t 4) (.t 30))]
 .ret)))) }
def N1000:al:={ np:=1,nt:=42,res:=[(2,none)],body :=
 (zS [1] [zo 1 0,z0 2]
 (zS [1,3] [zc 3 (.int .u64 0)]
 (zs (zS [1,3,4] [zc 4 (.int .u64 4611686018427387904)]
 (.block 0 (.loop (zs (zS [1,3,4,8] [zm 7 4,zd 8 .gtr 7 (.int .u64 0)]
 (zC 8 .skip
 (.exit 0)))
 (zs (.block 1 (zS [1,3,4,5,6] [zm 12 3,zm 13 4,zb 14 .or 12 13,zm 15 3,zm 16 4,zb 17 .or 15 16,zk 18 91 [.t 14,.t 17],zm 11 18,zx 19 0 11,zx 20 1 11,zm 5 19,zm 6 20]
 (zS [1,3,4,36] [zm 21 5,zf 22 0 1,zl 23 1 22,zb 24 .lss 21 23,zm 25 24,ze 25 (zm 26 5),ze 25 (zf 27 0 1),ze 25 (zl 28 1 27),ze 25 (zb 29 .eql 26 28),ze 25 (zm 30 29),zh 30 (zm 31 6),zh 30 (zf 32 1 1),zh 30 (zl 33 1 32),zh 30 (zb 34 .leq 31 33),ze 25 (zP 35 30 34),zp 36 25 35]
 (zC 36 (zr [1,3,4] [zm 37 3,zm 38 4,zb 39 .or 37 38,zm 3 39])
 .skip))))
 (zr [1,3,4] [zm 9 4,zd 10 .shr 9 (.int .u64 1),zm 4 10]))))))
 (zS [2] [zm 40 3,zy 41 (.conv .i64 (.t 40)),zm 2 41]
 .ret)))) }
def N1001:al:={ np:=2,nt:=13,res:=[(4,none)],body :=
 (zS [0,1] [z0 4]
 (zS [4] [zm 5 0,zm 6 0,zk 7 997 [.t 5,.t 6],zm 8 1,zk 9 998 [.t 7,.t 8],zk 10 998 [.t 9,(.c (zI 8829))],zk 11 999 [.t 10,(.c (zI 1250000))],zk 12 1000 [.t 11],zm 4 12]
 .ret)) }
def prog:Nat->Option al
 | 11=>some N11
 | 19=>some N19
 | 35=>some N35
 | 42=>some N42
 | 44=>some N44
 | 45=>some N45
 | 51=>some N51
 | 52=>some N52
 | 53=>some N53
 | 58=>some N58
 | 59=>some N59
 | 60=>some N60
 | 61=>some N61
 | 70=>some N70
 | 71=>some N71
 | 72=>some N72
 | 73=>some N73
 | 74=>some N74
 | 75=>some N75
 | 76=>some N76
 | 77=>some N77
 | 88=>some N88
 | 89=>some N89
 | 90=>some N90
 | 91=>some N91
 | 92=>some N92
 | 96=>some N96
 | 97=>some N97
 | 98=>some N98
 | 99=>some N99
 | 100=>some N100
 | 101=>some N101
 | 102=>some N102
 | 103=>some N103
 | 104=>some N104
 | 105=>some N105
 | 106=>some N106
 | 107=>some N107
 | 108=>some N108
 | 109=>some N109
 | 110=>some N110
 | 111=>some N111
 | 112=>some N112
 | 113=>some N113
 | 164=>some N164
 | 168=>some N168
 | 169=>some N169
 | 170=>some N170
 | 171=>some N171
 | 172=>some N172
 | 173=>some N173
 | 174=>some N174
 | 175=>some N175
 | 176=>some N176
 | 177=>some N177
 | 178=>some N178
 | 179=>some N179
 | 180=>some N180
 | 181=>some N181
 | 182=>some N182
 | 183=>some N183
 | 184=>some N184
 | 185=>some N185
 | 213=>some N213
 | 220=>some N220
 | 221=>some N221
 | 223=>some N223
 | 225=>some N225
 | 234=>some N234
 | 243=>some N243
 | 244=>some N244
 | 253=>some N253
 | 254=>some N254
 | 256=>some N256
 | 261=>some N261
 | 262=>some N262
 | 263=>some N263
 | 264=>some N264
 | 265=>some N265
 | 266=>some N266
 | 267=>some N267
 | 268=>some N268
 | 271=>some N271
 | 273=>some N273
 | 280=>some N280
 | 298=>some N298
 | 299=>some N299
 | 301=>some N301
 | 302=>some N302
 | 303=>some N303
 | 304=>some N304
 | 305=>some N305
 | 306=>some N306
 | 307=>some N307
 | 308=>some N308
 | 309=>some N309
 | 310=>some N310
 | 311=>some N311
 | 313=>some N313
 | 315=>some N315
 | 316=>some N316
 | 317=>some N317
 | 318=>some N318
 | 327=>some N327
 | 328=>some N328
 | 333=>some N333
 | 334=>some N334
 | 335=>some N335
 | 339=>some N339
 | 340=>some N340
 | 341=>some N341
 | 342=>some N342
 | 343=>some N343
 | 372=>some N372
 | 373=>some N373
 | 376=>some N376
 | 377=>some N377
 | 441=>some N441
 | 455=>some N455
 | 471=>some N471
 | 480=>some N480
 | 499=>some N499
 | 856=>some N856
 | 862=>some N862
 | 863=>some N863
 | 874=>some N874
 | 875=>some N875
 | 876=>some N876
 | 880=>some N880
 | 881=>some N881
 | 882=>some N882
 | 883=>some N883
 | 884=>some N884
 | 885=>some N885
 | 886=>some N886
 | 887=>some N887
 | 888=>some N888
 | 889=>some N889
 | 890=>some N890
 | 891=>some N891
 | 892=>some N892
 | 893=>some N893
 | 894=>some N894
 | 895=>some N895
 | 896=>some N896
 | 897=>some N897
 | 898=>some N898
 | 899=>some N899
 | 900=>some N900
 | 901=>some N901
 | 902=>some N902
 | 903=>some N903
 | 904=>some N904
 | 905=>some N905
 | 906=>some N906
 | 907=>some N907
 | 908=>some N908
 | 909=>some N909
 | 910=>some N910
 | 911=>some N911
 | 912=>some N912
 | 913=>some N913
 | 914=>some N914
 | 915=>some N915
 | 916=>some N916
 | 917=>some N917
 | 918=>some N918
 | 919=>some N919
 | 920=>some N920
 | 921=>some N921
 | 922=>some N922
 | 923=>some N923
 | 924=>some N924
 | 925=>some N925
 | 926=>some N926
 | 927=>some N927
 | 928=>some N928
 | 929=>some N929
 | 930=>some N930
 | 932=>some N932
 | 933=>some N933
 | 934=>some N934
 | 935=>some N935
 | 936=>some N936
 | 937=>some N937
 | 938=>some N938
 | 939=>some N939
 | 941=>some N941
 | 942=>some N942
 | 943=>some N943
 | 944=>some N944
 | 945=>some N945
 | 946=>some N946
 | 947=>some N947
 | 948=>some N948
 | 949=>some N949
 | 950=>some N950
 | 951=>some N951
 | 952=>some N952
 | 953=>some N953
 | 954=>some N954
 | 955=>some N955
 | 956=>some N956
 | 957=>some N957
 | 958=>some N958
 | 959=>some N959
 | 960=>some N960
 | 961=>some N961
 | 962=>some N962
 | 963=>some N963
 | 964=>some N964
 | 965=>some N965
 | 966=>some N966
 | 967=>some N967
 | 968=>some N968
 | 969=>some N969
 | 970=>some N970
 | 971=>some N971
 | 972=>some N972
 | 973=>some N973
 | 974=>some N974
 | 975=>some N975
 | 976=>some N976
 | 977=>some N977
 | 978=>some N978
 | 979=>some N979
 | 980=>some N980
 | 981=>some N981
 | 982=>some N982
 | 983=>some N983
 | 984=>some N984
 | 985=>some N985
 | 986=>some N986
 | 987=>some N987
 | 988=>some N988
 | 989=>some N989
 | 990=>some N990
 | 991=>some N991
 | 992=>some N992
 | 993=>some N993
 | 994=>some N994
 | 995=>some N995
 | 996=>some N996
 | 997=>some N997
 | 998=>some N998
 | 999=>some N999
 | 1000=>some N1000
 | 1001=>some N1001
 | _=>none
def bH:Nat->Option eL
 | 940=>some N940
 | _=>none
end Go.Gv
