/-
  Texts of the proof: GvP.
-/
import Derived.Test.YtlipihhhgpnjmaaGreatX4
set_option linter.all false
set_option maxRecDepth 4000
namespace Go.Gv
@[simp] def zr(k:List Nat)(o:List au):cL:=.reg false [] k o
@[simp] def zI(n:Int):D:=.int .i64 n
@[simp] def zC(t:Nat)(a b:cL):cL:=.cond (.t t) a b
@[simp] def zs(a b:cL):cL:=.seq a b
@[simp] def zy(t:Nat)(o:NOp):au:=⟨some t,o,none⟩
@[simp] def zw(o:NOp):au:=⟨none,o,none⟩
@[simp] def zp(a c x:Nat):au:=⟨some a,.pick (.t c) (.c (.bool true)) (.t x),none⟩
@[simp] def ze(c:Nat)(s:au):au:=⟨s.dst,s.op,some (c,false)⟩
@[simp] def zh(c:Nat)(s:au):au:=⟨s.dst,s.op,some (c,true)⟩
@[simp] def zF(a:Nat):au:=⟨some a,.mov (.c (.bool false)),none⟩
@[simp] def z0(a:Nat):au:=⟨some a,.mov (.c (.int .i64 0)),none⟩
@[simp] def zS(k:List Nat)(o:List au)(b:cL):cL:=.seq (.reg false [] k o) b
@[simp] def zP(a c x:Nat):au:=⟨some a,.pick (.t c) (.t x) (.c (.bool false)),none⟩
@[simp] def zA1:List D:=[zI 0,zI 0]
@[simp] def zA2:List D:=[.str [],.str [],.str [],zI 0,zI 0,zI 0,zI 0,.str [],zI 0,zI 0,.own 2 []]
@[simp] def zA3:List D:=[.str [],zI 0,zI 0,.own 2 [],.own 2 []]
@[simp] def zA4:List D:=[.int .u64 0,.int .u64 0,.bool false]
@[simp] def zA5:List D:=[.str [],zI 0,zI 0,zI 0,zI 0,zI 0,.own 2 [],.bool false,zI 0]
@[simp] def zA6:List D:=[.own 1 [],.own 1 [],.own 1 [],.own 1 [],.own 1 [],.own 5 []]
@[simp] def zA7:List D:=[.int .u64 0,.int .u64 0]
@[simp] def zm(a b:Nat):au:=⟨some a,.mov (.t b),none⟩
@[simp] def zc(a:Nat)(d:D):au:=⟨some a,.mov (.c d),none⟩
@[simp] def zf(a i b:Nat):au:=⟨some a,.fad i (.t b),none⟩
@[simp] def zl(a n b:Nat):au:=⟨some a,.ld n false (.t b),none⟩
@[simp] def zL(a n b:Nat):au:=⟨some a,.ld n true (.t b),none⟩
@[simp] def zx(a i b:Nat):au:=⟨some a,.ext i (.t b),none⟩
@[simp] def zn(a b:Nat):au:=⟨some a,.len (.t b),none⟩
@[simp] def zq(a b:Nat):au:=⟨some a,.asg (.t b),none⟩
@[simp] def zi(a n b c:Nat):au:=⟨some a,.iadS n (.t b) (.t c),none⟩
@[simp] def zo(a b:Nat):au:=⟨some a,.boxF (.t b),none⟩
@[simp] def zt(a b:Nat):au:=⟨some a,.un .not (.t b),none⟩
@[simp] def zk(a g:Nat)(xs:List Opd):au:=⟨some a,.call g xs [],none⟩
@[simp] def zb(a:Nat)(op:BinOp)(b c:Nat):au:=⟨some a,.bin op (.t b) (.t c),none⟩
@[simp] def zd(a:Nat)(op:BinOp)(b:Nat)(d:D):au:=⟨some a,.bin op (.t b) (.c d),none⟩
@[simp] def zg(c:Nat)(b:Bool)(s:au):au:=⟨s.dst,s.op,some (c,b)⟩
def N11:ar:={ np:=2,nt:=9,res:=[(4,none)],body :=
 (zS [0,1] [zF 4]
 (zS [4] [zq 5 0,zm 6 1,zk 7 35 [.t 5,.t 6],zd 8 .geq 7 (zI 0),zm 4 8]
 .ret)) }
def N15:ar:={ np:=1,nt:=67,res:=[(2,none),(3,none),(4,none)],body :=
 (zS [1] [zo 1 0,z0 2,zc 3 .nils,z0 4]
 (zs (zS [1,14] [zL 12 6 1,zk 13 24 [.t 12],zt 14 13]
 (zC 14 (zS [2,3,4] [z0 2,zc 3 .nils,zc 4 (zI 1)]
 .ret)
 .skip))
 (zS [1,5] [zL 15 6 1,zk 16 30 [.t 15],zm 5 16]
 (zS [1,5,6] [zm 17 5,zk 18 39 [.t 17],zq 6 18]
 (zS [1,5,6,7] [zm 19 5,zm 20 6,zk 21 32 [.t 19,.t 20],zm 7 21]
 (zs (zS [1,5,6,7,23] [zm 22 7,zy 23 (.bin .eql (.t 22) (.c (zI (-1))))]
 (zC 23 (zS [2,3,4] [z0 2,zc 3 .nils,zc 4 (zI 28)]
 .ret)
 .skip))
 (zS [1,5,6,7,8] [zf 24 0 1,zl 25 1 24,zn 26 25,zy 27 (.mks 1 8 [zI 0] (.t 26) (.t 26)),zq 8 27]
 (zs (zS [1,5,6,7,8,9] [zm 28 8,zn 29 28,zd 30 .sub 29 (zI 1),zm 9 30]
 (.block 0 (.loop (zs (zS [1,5,6,7,8,9,32] [zm 31 9,zd 32 .geq 31 (zI 0)]
 (zC 32 .skip
 (.exit 0)))
 (zs (.block 1 (zS [1,5,6,7,8,9,10] [zc 10 (zI 4194304)]
 (zs (zS [1,5,6,7,8,9,10,11] [zf 35 0 1,zl 36 1 35,zm 37 9,zi 38 1 36 37,zl 39 1 38,zm 11 39]
 (zS [1,5,6,7,8,9,10,11,41] [zm 40 11,zy 41 (.bin .neq (.t 40) (.c (zI (-1))))]
 (zC 41 (.reg true [0,1,0,0,12,28,63,127,255,511] [1,5,6,7,8,9,10] [zf 42 5 1,zl 43 1 42,zm 44 8,zm 45 11,zi 46 1 44 45,zl 47 1 46,zi 48 5 43 47,zf 49 1 48,zl 50 1 49,zm 10 50])
 .skip)))
 (zr [1,5,6,7,8,9] [zm 52 8,zm 53 9,zm 54 5,zm 55 6,zm 56 9,zi 57 1 55 56,zl 58 1 57,zm 59 9,zm 60 10,zk 61 40 [.t 54,.t 58,.t 59,.t 60],zm 51 61,zx 62 0 51,zx 63 1 51,zi 64 1 52 53,zw (.st 1 [] (.t 64) (.t 63))]))))
 (zr [1,5,6,7,8,9] [zm 33 9,zd 34 .sub 33 (zI 1),zm 9 34]))))))
 (zS [2,3,4] [zm 65 7,zq 66 8,zm 2 65,zq 3 66,z0 4]
 .ret))))))))) }
def N19:ar:={ np:=2,nt:=26,res:=[(4,none)],body :=
 (zS [0,1] [zF 4]
 (zs (zS [0,1,10] [zm 6 0,zn 7 6,zm 8 1,zn 9 8,zb 10 .neq 7 9]
 (zC 10 (zS [4] [zF 4]
 .ret)
 .skip))
 (zs (zS [0,1,12,13] [zm 11 0,zn 12 11,z0 13]
 (.block 0 (.loop (zS [0,1,12,13,14] [zb 14 .lss 13 12]
 (zs (zC 14 .skip
 (.exit 0))
 (zs (.block 1 (zS [0,1,5,12,13] [zm 15 13,zm 5 15]
 (zs (.reg true [0,0,3,7,0,0,48,112,255] [0,1,12,13,24] [zm 16 0,zm 17 5,zi 18 1 16 17,zl 19 1 18,zm 20 1,zm 21 5,zi 22 1 20 21,zl 23 1 22,zb 24 .neq 19 23])
 (zC 24 (zS [4] [zF 4]
 .ret)
 .skip))))
 (zr [0,1,12,13] [zd 25 .add 13 (zI 1),zm 13 25])))))))
 (zS [4] [zc 4 (.bool true)]
 .ret)))) }
def N24:ar:={ np:=1,nt:=109,res:=[(2,none)],body :=
 (zS [1] [zo 1 0,zF 2]
 (zS [1,3] [zf 6 0 1,zl 7 1 6,zn 8 7,zm 3 8]
 (zs (zS [1,3,50] [zm 9 3,zd 10 .gtr 9 (zI 400),zm 11 10,ze 11 (zf 12 1 1),ze 11 (zl 13 1 12),ze 11 (zn 14 13),ze 11 (zm 15 3),ze 11 (zb 16 .neq 14 15),zp 17 11 16,zm 18 17,ze 18 (zf 19 2 1),ze 18 (zl 20 1 19),ze 18 (zn 21 20),ze 18 (zm 22 3),ze 18 (zb 23 .neq 21 22),zp 24 18 23,zm 25 24,ze 25 (zf 26 3 1),ze 25 (zl 27 1 26),ze 25 (zn 28 27),ze 25 (zm 29 3),ze 25 (zb 30 .neq 28 29),zp 31 25 30,zm 32 31,ze 32 (zf 33 4 1),ze 32 (zl 34 1 33),ze 32 (zn 35 34),ze 32 (zm 36 3),ze 32 (zb 37 .neq 35 36),zp 38 32 37,zm 39 38,ze 39 (zf 40 5 1),ze 39 (zl 41 1 40),ze 39 (zn 42 41),ze 39 (zd 43 .eql 42 (zI 0)),zp 44 39 43,zm 45 44,ze 45 (zf 46 5 1),ze 45 (zl 47 1 46),ze 45 (zk 48 44 [.t 47]),ze 45 (zt 49 48),zp 50 45 49]
 (zC 50 (zS [2] [zF 2]
 .ret)
 .skip))
 (zs (zS [1,3,51,52] [zm 51 3,z0 52]
 (.block 0 (.loop (zS [1,3,51,52,53] [zb 53 .lss 52 51]
 (zs (zC 53 .skip
 (.exit 0))
 (zs (.block 1 (zS [1,3,4,51,52] [zm 54 52,zm 4 54]
 (zS [1,3,4,5,51,52] [zf 55 0 1,zl 56 1 55,zm 57 4,zi 58 1 56 57,zl 59 1 58,zm 5 59]
 (zS [1,3,51,52,107] [zm 60 5,zy 61 (.bin .neq (.t 60) (.c (zI (-1)))),zm 62 61,zh 62 (zm 63 5),zh 62 (zm 64 4),zh 62 (zb 65 .leq 63 64),zh 62 (zm 66 65),ze 66 (zm 67 5),ze 66 (zm 68 3),ze 66 (zb 69 .geq 67 68),zh 62 (zp 70 66 69),zP 71 62 70,zm 72 71,ze 72 (zf 73 1 1),ze 72 (zl 74 1 73),ze 72 (zm 75 4),ze 72 (zi 76 1 74 75),ze 72 (zl 77 1 76),ze 72 (zk 78 29 [.t 77,(.c (zI 1)),(.c (zI 16777216))]),ze 72 (zt 79 78),zp 80 72 79,zm 81 80,ze 81 (zf 82 2 1),ze 81 (zl 83 1 82),ze 81 (zm 84 4),ze 81 (zi 85 1 83 84),ze 81 (zl 86 1 85),ze 81 (zk 87 29 [.t 86,(.c (zI 0)),(.c (zI 1099511627776))]),ze 81 (zt 88 87),zp 89 81 88,zm 90 89,ze 90 (zf 91 3 1),ze 90 (zl 92 1 91),ze 90 (zm 93 4),ze 90 (zi 94 1 92 93),ze 90 (zl 95 1 94),ze 90 (zk 96 29 [.t 95,(.c (zI 0)),(.c (zI 4194304))]),ze 90 (zt 97 96),zp 98 90 97,zm 99 98,ze 99 (zf 100 4 1),ze 99 (zl 101 1 100),ze 99 (zm 102 4),ze 99 (zi 103 1 101 102),ze 99 (zl 104 1 103),ze 99 (zk 105 29 [.t 104,(.c (zI 0)),(.c (zI 4194304))]),ze 99 (zt 106 105),zp 107 99 106]
 (zC 107 (zS [2] [zF 2]
 .ret)
 .skip)))))
 (zr [1,3,51,52] [zd 108 .add 52 (zI 1),zm 52 108])))))))
 (zS [2] [zc 2 (.bool true)]
 .ret))))) }
def N29:ar:={ np:=3,nt:=15,res:=[(6,none)],body :=
 (zS [0,1,2] [zF 6]
 (zS [6] [zm 7 0,zm 8 1,zb 9 .geq 7 8,zm 10 9,zh 10 (zm 11 0),zh 10 (zm 12 2),zh 10 (zb 13 .leq 11 12),zP 14 10 13,zm 6 14]
 .ret)) }
def N30:ar:={ np:=1,nt:=112,res:=[(2,none)],body :=
 (zS [1] [zo 1 0,zc 2 .nilp]
 (zs (.reg true [0,0,2,6,14,0,32,96,224,511,1023,2047] [1,3] [zL 10 6 1,zf 11 0 1,zl 12 1 11,zn 13 12,zy 14 (.mks 1 24 [.own 1 []] (.t 13) (.t 13)),zf 15 0 1,zl 16 1 15,zn 17 16,zy 18 (.mks 1 24 [.own 1 []] (.t 17) (.t 17)),zy 19 (.bld [.nils,.nils,.nils,.nils,.nils,.nils,.nils,.nils] [(0,6,.t 10),(6,1,.t 14),(7,1,.t 18)]),zo 20 19,zm 3 20])
 (zs (zS [1,3,22,23,24] [zf 21 0 1,zl 22 1 21,zn 23 22,z0 24]
 (.block 0 (.loop (zS [1,3,22,23,24,25] [zb 25 .lss 24 23]
 (zs (zC 25 .skip
 (.exit 0))
 (zs (.block 1 (zS [1,3,4,5,22,23,24] [zm 26 24,zi 27 1 22 24,zl 28 1 27,zm 4 26,zm 5 28]
 (zs (zS [1,3,4,5,22,23,24,30] [zm 29 5,zy 30 (.bin .neq (.t 29) (.c (zI (-1))))]
 (zC 30 (.reg true [0,1,3,7,0,0,32,96,224,0,992,2016,0,4096,16352,32767,65535] [1,3,4,22,23,24] [zm 31 3,zy 32 (.nck (.t 31)),zf 33 7 32,zl 34 1 33,zm 35 5,zm 36 3,zy 37 (.nck (.t 36)),zf 38 7 37,zl 39 1 38,zm 40 5,zi 41 1 39 40,zl 42 1 41,zm 43 4,zy 44 (.bls 1 1 [zI 0] [] [(0,.t 43)]),zy 45 (.app 1 8 false (.t 42) (.t 44)),zi 46 1 34 35,zw (.st 1 [] (.t 46) (.t 45))])
 .skip))
 (zS [1,3,4,22,23,24,48,49,50] [zf 47 5 1,zl 48 1 47,zn 49 48,z0 50]
 (.block 2 (.loop (zS [1,3,4,22,23,24,48,49,50,51] [zb 51 .lss 50 49]
 (zs (zC 51 .skip
 (.exit 2))
 (zs (.block 3 (zS [1,3,4,7,22,23,24,48,49,50] [zi 52 5 48 50,zL 53 5 52,zy 7 (.alc zA3),zw (.st 5 [] (.t 7) (.t 53))]
 (zs (.reg true [0,0,2,0,14,30,0,64,0,448,960,2047,4095,8191,8191,16383,65535] [1,3,4,7,8,9,22,23,24,48,49,50] [zL 55 5 7,zf 56 3 1,zl 57 1 56,zm 58 4,zi 59 1 57 58,zl 60 1 59,zf 61 1 1,zl 62 1 61,zm 63 4,zi 64 1 62 63,zl 65 1 64,zk 66 47 [.t 55,.t 60,.t 65],zm 54 66,zx 67 0 54,zx 68 1 54,zm 8 67,zm 9 68])
 (.reg true [0,1,3,7,0,0,32,96,224,0,992,2016,0,4096,12288,28672,61440,126976,258048,258048,782336,258048,3928064,8122368,16773120,33550336,67104768,134213632,268431360,536866816,268431360,1342173184,268431360,7784624128,16374558720,34359734272,68719472640,137438949376,274877906912,549755813887,1099511627775] [1,3,4,22,23,24,48,49,50] [zm 69 3,zy 70 (.nck (.t 69)),zf 71 6 70,zl 72 1 71,zm 73 4,zm 74 3,zy 75 (.nck (.t 74)),zf 76 6 75,zl 77 1 76,zm 78 4,zi 79 1 77 78,zl 80 1 79,zm 81 9,zd 82 .eql 81 (zI 5),zm 83 82,ze 83 (zm 84 9),ze 83 (zd 85 .eql 84 (zI 0)),ze 83 (zm 86 85),zh 86 (zm 87 8),zh 86 (zf 88 2 1),zh 86 (zl 89 1 88),zh 86 (zm 90 4),zh 86 (zi 91 1 89 90),zh 86 (zl 92 1 91),zh 86 (zb 93 .geq 87 92),ze 83 (zP 94 86 93),zp 95 83 94,zm 96 95,zh 96 (zf 97 1 7),zh 96 (zl 98 1 97),zh 96 (zf 99 4 1),zh 96 (zl 100 1 99),zh 96 (zm 101 4),zh 96 (zi 102 1 100 101),zh 96 (zl 103 1 102),zh 96 (zb 104 .leq 98 103),zP 105 96 104,zy 106 (.bls 1 1 [.bool false] [] [(0,.t 105)]),zy 107 (.app 1 1 false (.t 80) (.t 106)),zi 108 1 72 73,zw (.st 1 [] (.t 108) (.t 107))]))))
 (zr [1,3,4,22,23,24,48,49,50] [zd 109 .add 50 (zI 1),zm 50 109]))))))))))
 (zr [1,3,22,23,24] [zd 110 .add 24 (zI 1),zm 24 110])))))))
 (zS [2] [zm 111 3,zm 2 111]
 .ret)))) }
def N31:ar:={ np:=4,nt:=70,res:=[(8,none)],body :=
 (zS [0,1,2,3] [z0 8]
 (zs (.reg true [0,1,3,7,15,0,63,127,0,256,768,1792,3840,0,16128,32512,65280,131071,262143] [0,1,2,3,9] [zm 14 0,zy 15 (.nck (.t 14)),zf 16 0 15,zf 17 1 16,zl 18 1 17,zm 19 2,zi 20 1 18 19,zl 21 1 20,zm 22 0,zy 23 (.nck (.t 22)),zf 24 0 23,zf 25 5 24,zl 26 1 25,zm 27 3,zi 28 5 26 27,zf 29 2 28,zl 30 1 29,zb 31 .mul 21 30,zm 9 31])
 (zs (zS [0,1,3,9,38,39,40] [zm 32 0,zy 33 (.nck (.t 32)),zf 34 7 33,zl 35 1 34,zm 36 2,zi 37 1 35 36,zl 38 1 37,zn 39 38,z0 40]
 (.block 0 (.loop (zS [0,1,3,9,38,39,40,41] [zb 41 .lss 40 39]
 (zs (zC 41 .skip
 (.exit 0))
 (zs (.block 1 (zS [0,1,3,9,11,38,39,40] [zi 42 1 38 40,zl 43 1 42,zm 11 43]
 (zs (.reg true [0,0,0,6,14,0,0,64,192,448,960,0,4032,8128,16320,32767,65535,131071,131071,262143,1048575] [0,1,3,9,12,38,39,40] [zm 45 0,zm 46 1,zm 47 11,zi 48 1 46 47,zl 49 1 48,zm 50 11,zm 51 0,zy 52 (.nck (.t 51)),zf 53 0 52,zf 54 5 53,zl 55 1 54,zm 56 3,zi 57 5 55 56,zf 58 1 57,zl 59 1 58,zk 60 40 [.t 45,.t 49,.t 50,.t 59],zm 44 60,zx 61 0 44,zx 62 1 44,zm 12 61,zm 13 62])
 (zs (zS [0,1,3,9,12,38,39,40,64] [zm 63 12,zy 64 (.bin .eql (.t 63) (.c (zI (-1))))]
 (zC 64 (zS [8] [zy 8 (.mov (.c (zI (-1))))]
 .ret)
 .skip))
 (zr [0,1,3,9,38,39,40] [zm 65 9,zm 66 12,zb 67 .add 65 66,zm 9 67])))))
 (zr [0,1,3,9,38,39,40] [zd 68 .add 40 (zI 1),zm 40 68])))))))
 (zS [8] [zm 69 9,zm 8 69]
 .ret)))) }
def N32:ar:={ np:=2,nt:=40,res:=[(4,none)],body :=
 (zS [0,1] [z0 4]
 (zS [0,1,5] [z0 5]
 (zs (zS [0,1,5,14,15,16] [zm 10 0,zy 11 (.nck (.t 10)),zf 12 0 11,zf 13 0 12,zl 14 1 13,zn 15 14,z0 16]
 (.block 0 (.loop (zS [0,1,5,14,15,16,17] [zb 17 .lss 16 15]
 (zs (zC 17 .skip
 (.exit 0))
 (zs (.block 1 (zS [0,1,5,6,7,14,15,16] [zm 18 16,zi 19 1 14 16,zl 20 1 19,zm 6 18,zm 7 20]
 (zs (zS [0,1,5,6,14,15,16,22] [zm 21 7,zy 22 (.bin .neq (.t 21) (.c (zI (-1))))]
 (zC 22 (.exit 1)
 .skip))
 (zS [0,1,5,8,14,15,16] [zm 24 0,zm 25 1,zm 26 6,zi 27 1 25 26,zl 28 1 27,zm 29 6,zk 30 40 [.t 24,.t 28,.t 29,(.c (zI 4194304))],zm 23 30,zx 31 0 23,zx 32 1 23,zm 8 31,zm 9 32]
 (zs (zS [0,1,5,8,14,15,16,34] [zm 33 8,zy 34 (.bin .eql (.t 33) (.c (zI (-1))))]
 (zC 34 (zS [4] [zy 4 (.mov (.c (zI (-1))))]
 .ret)
 .skip))
 (zr [0,1,5,14,15,16] [zm 35 5,zm 36 8,zb 37 .add 35 36,zm 5 37]))))))
 (zr [0,1,5,14,15,16] [zd 38 .add 16 (zI 1),zm 16 38])))))))
 (zS [4] [zm 39 5,zm 4 39]
 .ret)))) }
def N35:ar:={ np:=2,nt:=19,res:=[(4,none)],body :=
 (zS [0,1] [z0 4]
 (zs (zS [0,1,7,8] [zm 6 0,zn 7 6,z0 8]
 (.block 0 (.loop (zS [0,1,7,8,9] [zb 9 .lss 8 7]
 (zs (zC 9 .skip
 (.exit 0))
 (zs (.block 1 (zS [0,1,5,7,8] [zm 10 8,zm 5 10]
 (zS [0,1,5,7,8,16] [zm 11 1,zm 12 0,zm 13 5,zi 14 1 12 13,zl 15 1 14,zy 16 (.callv (.t 11) [.t 15])]
 (zC 16 (zS [4] [zm 17 5,zm 4 17]
 .ret)
 .skip))))
 (zr [0,1,7,8] [zd 18 .add 8 (zI 1),zm 8 18])))))))
 (zS [4] [zy 4 (.mov (.c (zI (-1))))]
 .ret))) }
def N39:ar:={ np:=1,nt:=56,res:=[(2,none)],body :=
 (zS [0] [zc 2 .nils]
 (zS [0,3] [zm 7 0,zy 8 (.nck (.t 7)),zf 9 0 8,zf 10 0 9,zl 11 1 10,zn 12 11,zy 13 (.mks 1 24 [.own 1 []] (.t 12) (.t 12)),zq 3 13]
 (zs (zS [0,3,15,16] [zm 14 3,zn 15 14,z0 16]
 (.block 0 (.loop (zS [0,3,15,16,17] [zb 17 .lss 16 15]
 (zs (zC 17 .skip
 (.exit 0))
 (zs (.block 1 (zS [0,3,4,15,16] [zm 18 16,zm 4 18]
 (zS [0,3,4,15,16,24,25] [zm 19 0,zy 20 (.nck (.t 19)),zf 21 0 20,zf 22 5 21,zl 23 1 22,zn 24 23,z0 25]
 (.block 2 (.loop (zS [0,3,4,15,16,24,25,26] [zb 26 .lss 25 24]
 (zs (zC 26 .skip
 (.exit 2))
 (zs (.block 3 (zS [0,3,4,5,15,16,24,25] [zm 27 25,zm 5 27]
 (zS [0,3,4,5,6,15,16,24,25] [zy 6 (.mov (.c (zI (-1))))]
 (zs (zS [0,3,4,5,6,15,16,24,25,37] [zm 28 0,zy 29 (.nck (.t 28)),zf 30 6 29,zl 31 1 30,zm 32 4,zi 33 1 31 32,zl 34 1 33,zm 35 5,zi 36 1 34 35,zl 37 1 36]
 (zC 37 (zr [0,3,4,6,15,16,24,25] [zm 38 0,zm 39 3,zm 40 4,zm 41 5,zk 42 31 [.t 38,.t 39,.t 40,.t 41],zm 6 42])
 .skip))
 (zr [0,3,4,15,16,24,25] [zm 43 3,zm 44 4,zm 45 3,zm 46 4,zi 47 1 45 46,zl 48 1 47,zm 49 6,zy 50 (.bls 1 1 [zI 0] [] [(0,.t 49)]),zy 51 (.app 1 8 false (.t 48) (.t 50)),zi 52 1 43 44,zw (.st 1 [] (.t 52) (.t 51))])))))
 (zr [0,3,4,15,16,24,25] [zd 53 .add 25 (zI 1),zm 25 53])))))))))
 (zr [0,3,15,16] [zd 54 .add 16 (zI 1),zm 16 54])))))))
 (zS [2] [zq 55 3,zq 2 55]
 .ret)))) }
def N40:ar:={ np:=4,nt:=62,res:=[(8,none),(9,none)],body :=
 (zS [0,1,2,3] [z0 8,z0 9]
 (zS [0,1,2,3,10,11] [zy 10 (.mov (.c (zI (-1)))),zy 11 (.mov (.c (zI (-1))))]
 (zs (zS [0,2,3,10,11,14,15,16] [zq 14 1,zn 15 14,z0 16]
 (.block 0 (.loop (zS [0,2,3,10,11,14,15,16,17] [zb 17 .lss 16 15]
 (zs (zC 17 .skip
 (.exit 0))
 (zs (.block 1 (zS [0,2,3,10,11,12,13,14,15,16] [zm 18 16,zi 19 1 14 16,zl 20 1 19,zm 12 18,zm 13 20]
 (zS [0,2,3,10,11,12,13,14,15,16,56] [zm 21 13,zy 22 (.bin .neq (.t 21) (.c (zI (-1)))),zm 23 22,zh 23 (zm 24 0),zh 23 (zy 25 (.nck (.t 24))),zh 23 (zf 26 6 25),zh 23 (zl 27 1 26),zh 23 (zm 28 2),zh 23 (zi 29 1 27 28),zh 23 (zl 30 1 29),zh 23 (zm 31 12),zh 23 (zi 32 1 30 31),zh 23 (zl 33 1 32),zP 34 23 33,zm 35 34,zh 35 (zm 36 0),zh 35 (zy 37 (.nck (.t 36))),zh 35 (zf 38 0 37),zh 35 (zf 39 5 38),zh 35 (zl 40 1 39),zh 35 (zm 41 12),zh 35 (zi 42 5 40 41),zh 35 (zf 43 1 42),zh 35 (zl 44 1 43),zh 35 (zm 45 3),zh 35 (zb 46 .leq 44 45),zP 47 35 46,zm 48 47,zh 48 (zm 49 10),zh 48 (zy 50 (.bin .eql (.t 49) (.c (zI (-1))))),zh 48 (zm 51 50),ze 51 (zm 52 13),ze 51 (zm 53 10),ze 51 (zb 54 .lss 52 53),zh 48 (zp 55 51 54),zP 56 48 55]
 (zC 56 (zr [0,2,3,10,11,14,15,16] [zm 57 13,zm 58 12,zm 10 57,zm 11 58])
 .skip))))
 (zr [0,2,3,10,11,14,15,16] [zd 59 .add 16 (zI 1),zm 16 59])))))))
 (zS [8,9] [zm 60 10,zm 61 11,zm 8 60,zm 9 61]
 .ret)))) }
def N42:ar:={ np:=1,nt:=8,res:=[(2,none)],body :=
 (zS [0] [zc 2 .nils]
 (zs (zS [0,4] [zm 3 0,zy 4 (.beq false [9] (.t 3) (.c .nils))]
 (zC 4 (zS [2] [zc 2 .nils]
 .ret)
 .skip))
 (zS [2] [zy 5 (.bls 1 0 [zI 0] [] []),zq 6 0,zy 7 (.app 1 8 false (.t 5) (.t 6)),zq 2 7]
 .ret))) }
def N44:ar:={ np:=1,nt:=29,res:=[(2,none)],body :=
 (zS [0] [zF 2]
 (zs (zS [0,8] [zm 6 0,zn 7 6,zd 8 .gtr 7 (zI 40)]
 (zC 8 (zS [2] [zF 2]
 .ret)
 .skip))
 (zS [0,3] [zy 9 (.mkm 0 1),zm 3 9]
 (zs (zS [3,10,11,12] [zq 10 0,zn 11 10,z0 12]
 (.block 0 (.loop (zS [3,10,11,12,13] [zb 13 .lss 12 11]
 (zs (zC 13 .skip
 (.exit 0))
 (zs (.block 1 (zS [3,5,10,11,12] [zi 14 5 10 12,zL 15 5 14,zy 5 (.alc zA3),zw (.st 5 [] (.t 5) (.t 15))]
 (zs (zS [3,5,10,11,12,24] [zL 16 5 5,zk 17 51 [.t 16],zt 18 17,zm 19 18,ze 19 (zm 20 3),ze 19 (zf 21 0 5),ze 19 (zl 22 1 21),ze 19 (zy 23 (.mpl .str 0 1 false (.bool false) (.t 20) (.t 22))),zp 24 19 23]
 (zC 24 (zS [2] [zF 2]
 .ret)
 .skip))
 (zr [3,10,11,12] [zm 25 3,zf 26 0 5,zl 27 1 26,zw (.mpu .str 0 1 (.bool false) (.t 25) (.t 27) (.c (.bool true)))]))))
 (zr [3,10,11,12] [zd 28 .add 12 (zI 1),zm 12 28])))))))
 (zS [2] [zc 2 (.bool true)]
 .ret))))) }
def N45:ar:={ np:=2,nt:=9,res:=[(4,none)],body :=
 (zS [0,1] [zF 4]
 (zS [4] [zq 5 0,zm 6 1,zk 7 52 [.t 5,.t 6],zd 8 .geq 7 (zI 0),zm 4 8]
 .ret)) }
def N47:ar:={ np:=3,nt:=16,res:=[(6,none),(7,none)],body :=
 (zS [1,2,3] [zo 3 0,z0 6,z0 7]
 (zS [6,7] [zL 8 5 3,zf 9 1 3,zl 10 1 9,zm 11 1,zm 12 2,zk 13 53 [.t 8,.t 10,.t 11,.t 12],zx 14 0 13,zx 15 1 13,zm 6 14,zm 7 15]
 .ret)) }
def N51:ar:={ np:=1,nt:=40,res:=[(2,none)],body :=
 (zS [1] [zo 1 0,zF 2]
 (zS [2] [zf 3 0 1,zl 4 1 3,zk 5 58 [.t 4],zm 6 5,zh 6 (zf 7 1 1),zh 6 (zl 8 1 7),zh 6 (zd 9 .geq 8 (zI 1)),zP 10 6 9,zm 11 10,zh 11 (zf 12 1 1),zh 11 (zl 13 1 12),zh 11 (zd 14 .leq 13 (zI 32768)),zP 15 11 14,zm 16 15,zh 16 (zf 17 2 1),zh 16 (zl 18 1 17),zh 16 (zd 19 .geq 18 (zI 0)),zP 20 16 19,zm 21 20,zh 21 (zf 22 2 1),zh 21 (zl 23 1 22),zh 21 (zd 24 .leq 23 (zI 1073741824)),zP 25 21 24,zm 26 25,zh 26 (zf 27 3 1),zh 26 (zl 28 1 27),zh 26 (zf 29 1 1),zh 26 (zl 30 1 29),zh 26 (zk 31 59 [.t 28,.t 30,(.c (zI 1073741824))]),zP 32 26 31,zm 33 32,zh 33 (zf 34 4 1),zh 33 (zl 35 1 34),zh 33 (zf 36 1 1),zh 33 (zl 37 1 36),zh 33 (zk 38 59 [.t 35,.t 37,(.c (zI 1099511627776))]),zP 39 33 38,zm 2 39]
 .ret)) }
def N52:ar:={ np:=2,nt:=19,res:=[(4,none)],body :=
 (zS [0,1] [z0 4]
 (zs (zS [0,1,7,8] [zm 6 0,zn 7 6,z0 8]
 (.block 0 (.loop (zS [0,1,7,8,9] [zb 9 .lss 8 7]
 (zs (zC 9 .skip
 (.exit 0))
 (zs (.block 1 (zS [0,1,5,7,8] [zm 10 8,zm 5 10]
 (zS [0,1,5,7,8,16] [zm 11 1,zm 12 0,zm 13 5,zi 14 5 12 13,zL 15 5 14,zy 16 (.callv (.t 11) [.t 15])]
 (zC 16 (zS [4] [zm 17 5,zm 4 17]
 .ret)
 .skip))))
 (zr [0,1,7,8] [zd 18 .add 8 (zI 1),zm 8 18])))))))
 (zS [4] [zy 4 (.mov (.c (zI (-1))))]
 .ret))) }
def N53:ar:={ np:=4,nt:=47,res:=[(8,none),(9,none)],body :=
 (zS [1,2,3,4] [zo 4 0,z0 8,z0 9]
 (zs (.block 0 (zS [1,2,3,4,12] [zL 13 5 4,zk 14 51 [.t 13],zt 15 14,zm 12 15]
 (zC 12 (zS [8,9] [z0 8,zc 9 (zI 1)]
 .ret)
 (zS [1,2,3,4,16] [zm 17 1,zd 18 .lss 17 (zI 0),zm 19 18,ze 19 (zm 20 1),ze 19 (zf 21 1 4),ze 19 (zl 22 1 21),ze 19 (zb 23 .gtr 20 22),zp 24 19 23,zm 25 24,ze 25 (zm 26 2),ze 25 (zm 27 3),ze 25 (zk 28 60 [.t 26,.t 27]),ze 25 (zt 29 28),zp 30 25 29,zm 16 30]
 (zC 16 (zS [8,9] [z0 8,zc 9 (zI 2)]
 .ret)
 .skip)))))
 (zS [10,11] [zL 32 5 4,zm 33 1,zm 34 2,zm 35 3,zk 36 61 [.t 32,.t 33,.t 34,.t 35],zm 31 36,zx 37 0 31,zx 38 1 31,zm 10 37,zm 11 38]
 (zs (.block 1 (zS [10,11,39] [zm 40 11,zd 41 .neq 40 (zI 0),zm 39 41]
 (zC 39 (zS [8,9] [zm 42 11,z0 8,zm 9 42]
 .ret)
 (zS [10,43] [zm 44 10,zd 45 .gtr 44 (zI 1099511627776),zm 43 45]
 (zC 43 (zS [8,9] [z0 8,zc 9 (zI 5)]
 .ret)
 .skip)))))
 (zS [8,9] [zm 46 10,zm 8 46,z0 9]
 .ret))))) }
def N58:ar:={ np:=1,nt:=22,res:=[(2,none)],body :=
 (zS [0] [zF 2]
 (zS [2] [zm 3 0,zd 4 .neq 3 (.str []),zm 5 4,zh 5 (zm 6 0),zh 5 (zy 7 (.lens (.t 6))),zh 5 (zd 8 .leq 7 (zI 20)),zP 9 5 8,zm 10 9,zh 10 (zm 11 0),zh 10 (zy 12 (.idxS (.t 11) (.c (zI 0)))),zh 10 (zk 13 70 [.t 12]),zP 14 10 13,zm 15 14,zh 15 (zm 16 0),zh 15 (zk 17 71 [.t 16]),zh 15 (zm 18 0),zh 15 (zy 19 (.lens (.t 18))),zh 15 (zb 20 .eql 17 19),zP 21 15 20,zm 2 21]
 .ret)) }
def N59:ar:={ np:=3,nt:=34,res:=[(6,none)],body :=
 (zS [0,1,2] [zF 6]
 (zs (zS [0,1,2,10] [zm 8 0,zk 9 72 [.t 8],zt 10 9]
 (zC 10 (zS [6] [zF 6]
 .ret)
 .skip))
 (zS [0,1,2,7] [zm 11 0,zm 12 0,zn 13 12,zd 14 .sub 13 (zI 1),zi 15 2 11 14,zL 16 2 15,zy 7 (.alc zA1),zw (.st 2 [] (.t 7) (.t 16))]
 (zS [6] [zq 17 0,zy 18 (.iadS 2 (.t 17) (.c (zI 0))),zL 19 2 18,zy 20 (.bld [zI 0,zI 0] []),zy 21 (.beq false [0,0] (.t 19) (.t 20)),zm 22 21,zh 22 (zf 23 0 7),zh 22 (zl 24 1 23),zh 22 (zm 25 1),zh 22 (zb 26 .eql 24 25),zP 27 22 26,zm 28 27,zh 28 (zf 29 1 7),zh 28 (zl 30 1 29),zh 28 (zm 31 2),zh 28 (zb 32 .leq 30 31),zP 33 28 32,zm 6 33]
 .ret)))) }
def N60:ar:={ np:=2,nt:=19,res:=[(4,none)],body :=
 (zS [0,1] [zF 4]
 (zS [4] [zm 5 0,zd 6 .geq 5 (zI 0),zm 7 6,zh 7 (zm 8 0),zh 7 (zd 9 .leq 8 (zI 4194304)),zP 10 7 9,zm 11 10,zh 11 (zm 12 1),zh 11 (zd 13 .geq 12 (zI 1)),zP 14 11 13,zm 15 14,zh 15 (zm 16 1),zh 15 (zd 17 .leq 16 (zI 16777216)),zP 18 15 17,zm 4 18]
 .ret)) }
def N61:ar:={ np:=4,nt:=30,res:=[(8,none),(9,none)],body :=
 (zS [1,2,3,4] [zo 4 0,z0 8,z0 9]
 (zS [2,3,10,11] [zf 13 4 4,zl 14 1 13,zm 15 1,zk 16 73 [.t 14,.t 15],zm 12 16,zx 17 0 12,zx 18 1 12,zm 10 17,zm 11 18]
 (zs (zS [2,3,10,11,20] [zm 19 11,zd 20 .neq 19 (zI 0)]
 (zC 20 (zS [8,9] [zm 21 11,z0 8,zm 9 21]
 .ret)
 .skip))
 (zS [8,9] [zm 22 10,zm 23 10,zk 24 74 [.t 22,.t 23],zm 25 2,zk 26 75 [.t 24,.t 25],zm 27 3,zk 28 76 [.t 26,.t 27],zk 29 77 [.t 28],zm 8 29,z0 9]
 .ret)))) }
def N70:ar:={ np:=1,nt:=17,res:=[(2,none)],body :=
 (zS [0] [zF 2]
 (zS [2] [zm 3 0,zd 4 .geq 3 (.int .u8 97),zm 5 4,zh 5 (zm 6 0),zh 5 (zd 7 .leq 6 (.int .u8 122)),zP 8 5 7,zm 9 8,ze 9 (zm 10 0),ze 9 (zd 11 .geq 10 (.int .u8 65)),ze 9 (zm 12 11),zh 12 (zm 13 0),zh 12 (zd 14 .leq 13 (.int .u8 90)),ze 9 (zP 15 12 14),zp 16 9 15,zm 2 16]
 .ret)) }
def N71:ar:={ np:=1,nt:=29,res:=[(2,none)],body :=
 (zS [0] [z0 2]
 (zS [0,3] [z0 3]
 (zs (.block 0 (.loop (zs (zS [0,3,25] [zm 4 3,zm 5 0,zy 6 (.lens (.t 5)),zb 7 .lss 4 6,zm 8 7,zh 8 (zm 9 0),zh 8 (zm 10 3),zh 8 (zy 11 (.idxS (.t 9) (.t 10))),zh 8 (zk 12 70 [.t 11]),zh 8 (zm 13 12),ze 13 (zm 14 0),ze 13 (zm 15 3),ze 13 (zy 16 (.idxS (.t 14) (.t 15))),ze 13 (zk 17 88 [.t 16]),zh 8 (zp 18 13 17),zh 8 (zm 19 18),ze 19 (zm 20 0),ze 19 (zm 21 3),ze 19 (zy 22 (.idxS (.t 20) (.t 21))),ze 19 (zd 23 .eql 22 (.int .u8 95)),zh 8 (zp 24 19 23),zP 25 8 24]
 (zC 25 .skip
 (.exit 0)))
 (.block 1 (zr [0,3] [zm 26 3,zd 27 .add 26 (zI 1),zm 3 27])))))
 (zS [2] [zm 28 3,zm 2 28]
 .ret)))) }
def N72:ar:={ np:=1,nt:=57,res:=[(2,none)],body :=
 (zS [0] [zF 2]
 (zs (zS [0,12] [zm 5 0,zn 6 5,zd 7 .lss 6 (zI 1),zm 8 7,ze 8 (zm 9 0),ze 8 (zn 10 9),ze 8 (zd 11 .gtr 10 (zI 100)),zp 12 8 11]
 (zC 12 (zS [2] [zF 2]
 .ret)
 .skip))
 (zs (zS [0,13,14,15] [zm 13 0,zn 14 13,z0 15]
 (.block 0 (.loop (zS [0,13,14,15,16] [zb 16 .lss 15 14]
 (zs (zC 16 .skip
 (.exit 0))
 (zs (.block 1 (zS [0,3,4,13,14,15] [zm 17 15,zi 18 2 13 15,zL 19 2 18,zy 4 (.alc zA1),zm 3 17,zw (.st 2 [] (.t 4) (.t 19))]
 (zs (.reg true [0,1,3,7,15,31,63,127,255,511,1023,2047,4095,8191,16383,32767,16383,16383,147455,475135,999423,2047999,4194303,8388607,16777215,33554431,16777215,16777215,150994943,486539263,1023410175,2097151999,4294967295,8589934591,17179869183,34359738367] [0,13,14,15,55] [zf 20 0 4,zl 21 1 20,zk 22 89 [.t 21],zt 23 22,zm 24 23,ze 24 (zf 25 1 4),ze 24 (zl 26 1 25),ze 24 (zk 27 89 [.t 26]),ze 24 (zt 28 27),zp 29 24 28,zm 30 29,ze 30 (zm 31 3),ze 30 (zd 32 .gtr 31 (zI 0)),ze 30 (zm 33 32),zh 33 (zf 34 0 4),zh 33 (zl 35 1 34),zh 33 (zm 36 0),zh 33 (zm 37 3),zh 33 (zd 38 .sub 37 (zI 1)),zh 33 (zi 39 2 36 38),zh 33 (zf 40 0 39),zh 33 (zl 41 1 40),zh 33 (zb 42 .leq 35 41),zh 33 (zm 43 42),ze 43 (zf 44 1 4),ze 43 (zl 45 1 44),ze 43 (zm 46 0),ze 43 (zm 47 3),ze 43 (zd 48 .sub 47 (zI 1)),ze 43 (zi 49 2 46 48),ze 43 (zf 50 1 49),ze 43 (zl 51 1 50),ze 43 (zb 52 .lss 45 51),zh 33 (zp 53 43 52),ze 30 (zP 54 33 53),zp 55 30 54])
 (zC 55 (zS [2] [zF 2]
 .ret)
 .skip))))
 (zr [0,13,14,15] [zd 56 .add 15 (zI 1),zm 15 56])))))))
 (zS [2] [zc 2 (.bool true)]
 .ret)))) }
def N73:ar:={ np:=2,nt:=20,res:=[(4,none),(5,none)],body :=
 (zS [0,1] [z0 4,z0 5]
 (zs (zS [0,1,11] [zm 9 0,zk 10 72 [.t 9],zt 11 10]
 (zC 11 (zS [4,5] [z0 4,zc 5 (zI 1)]
 .ret)
 .skip))
 (zS [6] [zq 13 0,zm 14 1,zk 15 90 [.t 13,.t 14],zm 12 15,zx 16 0 12,zx 17 1 12,zx 18 2 12,zm 6 16,zm 7 17,zm 8 18]
 (zS [4,5] [zm 19 6,zm 4 19,z0 5]
 .ret)))) }
def N74:ar:={ np:=2,nt:=18,res:=[(4,some (2,true))],body :=
 (zS [0,1,4] [zy 4 (.alc zA7)]
 (zS [4,5,6] [zm 8 0,zy 9 (.conv .u64 (.t 8)),zm 10 1,zy 11 (.conv .u64 (.t 10)),zk 12 91 [.t 9,.t 11],zm 7 12,zx 13 0 7,zx 14 1 7,zm 5 13,zm 6 14]
 (zS [4] [zm 15 5,zm 16 6,zy 17 (.bld [.int .u64 0,.int .u64 0] [(0,1,.t 15),(1,1,.t 16)]),zw (.st 2 [] (.t 4) (.t 17))]
 .ret))) }
def N75:ar:={ np:=2,nt:=24,res:=[(4,some (2,true))],body :=
 (zS [1,2,4] [zo 2 0,zy 4 (.alc zA7)]
 (zS [1,2,4,5,6] [zf 8 1 2,zl 9 1 8,zm 10 1,zy 11 (.conv .u64 (.t 10)),zk 12 91 [.t 9,.t 11],zm 7 12,zx 13 0 7,zx 14 1 7,zm 5 13,zm 6 14]
 (zS [4] [zm 15 5,zf 16 0 2,zl 17 1 16,zm 18 1,zy 19 (.conv .u64 (.t 18)),zb 20 .mul 17 19,zb 21 .add 15 20,zm 22 6,zy 23 (.bld [.int .u64 0,.int .u64 0] [(0,1,.t 21),(1,1,.t 22)]),zw (.st 2 [] (.t 4) (.t 23))]
 .ret))) }
def N76:ar:={ np:=2,nt:=31,res:=[(4,some (2,true))],body :=
 (zS [1,2,4] [zo 2 0,zy 4 (.alc zA7)]
 (zs (.reg true [0,1,0,4,15,0,32,0,128,480,31,2047] [1,2,4,5,6] [zf 9 0 2,zl 10 1 9,zm 11 1,zy 12 (.conv .u64 (.t 11)),zb 13 .quo 10 12,zf 14 0 2,zl 15 1 14,zm 16 1,zy 17 (.conv .u64 (.t 16)),zb 18 .rem 15 17,zm 5 13,zm 6 18])
 (zS [4,5,7] [zm 20 6,zf 21 1 2,zl 22 1 21,zm 23 1,zy 24 (.conv .u64 (.t 23)),zk 25 92 [.t 20,.t 22,.t 24],zm 19 25,zx 26 0 19,zx 27 1 19,zm 7 26,zm 8 27]
 (zS [4] [zm 28 5,zm 29 7,zy 30 (.bld [.int .u64 0,.int .u64 0] [(0,1,.t 28),(1,1,.t 29)]),zw (.st 2 [] (.t 4) (.t 30))]
 .ret)))) }
def N77:ar:={ np:=1,nt:=42,res:=[(2,none)],body :=
 (zS [1] [zo 1 0,z0 2]
 (zS [1,3] [zc 3 (.int .u64 0)]
 (zs (zS [1,3,4] [zc 4 (.int .u64 4611686018427387904)]
 (.block 0 (.loop (zs (zS [1,3,4,8] [zm 7 4,zd 8 .gtr 7 (.int .u64 0)]
 (zC 8 .skip
 (.exit 0)))
 (zs (.block 1 (zS [1,3,4,5,6] [zm 12 3,zm 13 4,zb 14 .or 12 13,zm 15 3,zm 16 4,zb 17 .or 15 16,zk 18 91 [.t 14,.t 17],zm 11 18,zx 19 0 11,zx 20 1 11,zm 5 19,zm 6 20]
 (zS [1,3,4,36] [zm 21 5,zf 22 0 1,zl 23 1 22,zb 24 .lss 21 23,zm 25 24,ze 25 (zm 26 5),ze 25 (zf 27 0 1),ze 25 (zl 28 1 27),ze 25 (zb 29 .eql 26 28),ze 25 (zm 30 29),zh 30 (zm 31 6),zh 30 (zf 32 1 1),zh 30 (zl 33 1 32),zh 30 (zb 34 .leq 31 33),ze 25 (zP 35 30 34),zp 36 25 35]
 (zC 36 (zr [1,3,4] [zm 37 3,zm 38 4,zb 39 .or 37 38,zm 3 39])
 .skip))))
 (zr [1,3,4] [zm 9 4,zd 10 .shr 9 (.int .u64 1),zm 4 10]))))))
 (zS [2] [zm 40 3,zy 41 (.conv .i64 (.t 40)),zm 2 41]
 .ret)))) }
def N88:ar:={ np:=1,nt:=9,res:=[(2,none)],body :=
 (zS [0] [zF 2]
 (zS [2] [zm 3 0,zd 4 .geq 3 (.int .u8 48),zm 5 4,zh 5 (zm 6 0),zh 5 (zd 7 .leq 6 (.int .u8 57)),zP 8 5 7,zm 2 8]
 .ret)) }
def N89:ar:={ np:=1,nt:=9,res:=[(2,none)],body :=
 (zS [0] [zF 2]
 (zS [2] [zm 3 0,zy 4 (.bin .geq (.t 3) (.c (zI (-1125899906842624)))),zm 5 4,zh 5 (zm 6 0),zh 5 (zd 7 .leq 6 (zI 1125899906842624)),zP 8 5 7,zm 2 8]
 .ret)) }
def N90:ar:={ np:=2,nt:=110,res:=[(4,none),(5,none),(6,none)],body :=
 (zS [0,1] [z0 4,z0 5,z0 6]
 (zS [0,1,7,8] [zm 23 0,zm 24 1,zy 25 (.call 96 [.t 23,.t 24,(.c (.fn 97 []))] []),zm 22 25,zx 26 0 22,zx 27 1 22,zm 7 26,zm 8 27]
 (zs (.block 0 (zS [0,1,7,28] [zm 29 8,zm 30 29,ze 30 (zm 31 7),ze 30 (zd 32 .eql 31 (zI 0)),zp 33 30 32,zm 28 33]
 (zC 28 (zS [4,5,6] [zq 34 0,zm 35 7,zi 36 2 34 35,zf 37 1 36,zl 38 1 37,zm 4 38,z0 5,zc 6 (zI 1)]
 .ret)
 (zS [0,1,7,39] [zm 40 7,zm 41 0,zn 42 41,zb 43 .eql 40 42,zm 39 43]
 (zC 39 (zS [4,5,6] [zq 44 0,zm 45 7,zd 46 .sub 45 (zI 1),zi 47 2 44 46,zf 48 1 47,zl 49 1 48,zm 4 49,z0 5,zc 6 (zI 1)]
 .ret)
 .skip)))))
 (zs (.reg true [0,0,2,7,15,0,0,96,224,0,0,1567,4095] [1,9,10] [zm 50 0,zm 51 7,zd 52 .sub 51 (zI 1),zi 53 2 50 52,zL 54 2 53,zq 55 0,zm 56 7,zi 57 2 55 56,zL 58 2 57,zy 9 (.alc zA1),zy 10 (.alc zA1),zw (.st 2 [] (.t 9) (.t 54)),zw (.st 2 [] (.t 10) (.t 58))])
 (zs (.reg true [0,1,0,4,15,0,0,64,224,0,512,0,2048,7680,31,16895,65535] [6,9,11,12] [zf 59 1 10,zl 60 1 59,zf 61 1 9,zl 62 1 61,zb 63 .sub 60 62,zm 64 1,zf 65 0 9,zl 66 1 65,zb 67 .sub 64 66,zf 68 0 10,zl 69 1 68,zf 70 0 9,zl 71 1 70,zb 72 .sub 69 71,zm 11 63,zm 12 67,zm 6 72])
 (zS [6,9,11,12,13] [zm 74 11,zm 75 12,zm 76 6,zk 77 98 [.t 74,.t 75,.t 76],zm 73 77,zx 78 0 73,zx 79 1 73,zx 80 2 73,zm 13 78,zm 14 79,zm 15 80]
 (zS [6,9,13,16] [zm 82 11,zm 83 12,zk 84 99 [.t 82,.t 83],zm 81 84,zx 85 0 81,zx 86 1 81,zy 16 (.alc zA1),zw (.st 2 [] (.t 16) (.t 85)),zm 17 86]
 (zS [6,9,13,16,18] [zm 88 13,zm 89 6,zk 90 99 [.t 88,.t 89],zm 87 90,zx 91 0 87,zx 92 1 87,zy 18 (.alc zA1),zw (.st 2 [] (.t 18) (.t 91)),zm 19 92]
 (zS [6,9,13,20] [zL 94 2 16,zL 95 2 18,zk 96 100 [.t 94,.t 95],zm 93 96,zx 97 0 93,zx 98 1 93,zy 20 (.alc zA1),zw (.st 2 [] (.t 20) (.t 97)),zm 21 98]
 (zS [5,6,9,13] [zL 100 2 20,zk 101 101 [.t 100],zm 99 101,zx 102 0 99,zx 103 1 99,zm 5 102]
 (zS [4,5,6] [zf 104 1 9,zl 105 1 104,zm 106 13,zb 107 .add 105 106,zm 108 5,zm 109 6,zm 4 107,zm 5 108,zm 6 109]
 .ret))))))))))) }
def N91:ar:={ np:=2,nt:=51,res:=[(4,none),(5,none)],body :=
 (zS [0,1] [zc 4 (.int .u64 0),zc 5 (.int .u64 0)]
 (zS [0,1,6] [zm 14 0,zd 15 .and 14 (.int .u64 4294967295),zm 6 15]
 (zS [0,1,6,7] [zm 16 0,zd 17 .shr 16 (.int .u64 32),zm 7 17]
 (zS [0,1,6,7,8] [zm 18 1,zd 19 .and 18 (.int .u64 4294967295),zm 8 19]
 (zS [0,1,6,7,8,9] [zm 20 1,zd 21 .shr 20 (.int .u64 32),zm 9 21]
 (zS [0,1,6,7,8,9,10] [zm 22 6,zm 23 8,zb 24 .mul 22 23,zm 10 24]
 (zS [0,1,6,7,9,11] [zm 25 7,zm 26 8,zb 27 .mul 25 26,zm 28 10,zd 29 .shr 28 (.int .u64 32),zb 30 .add 27 29,zm 11 30]
 (zS [0,1,6,7,9,11,12] [zm 31 11,zd 32 .and 31 (.int .u64 4294967295),zm 12 32]
 (zS [0,1,6,7,9,12,13] [zm 33 11,zd 34 .shr 33 (.int .u64 32),zm 13 34]
 (zS [0,1,7,9,12,13] [zm 35 12,zm 36 6,zm 37 9,zb 38 .mul 36 37,zb 39 .add 35 38,zm 12 39]
 (zS [0,1,4] [zm 40 7,zm 41 9,zb 42 .mul 40 41,zm 43 13,zb 44 .add 42 43,zm 45 12,zd 46 .shr 45 (.int .u64 32),zb 47 .add 44 46,zm 4 47]
 (zS [4,5] [zm 48 0,zm 49 1,zb 50 .mul 48 49,zm 5 50]
 .ret)))))))))))) }
def N92:ar:={ np:=3,nt:=135,res:=[(6,none),(7,none)],body :=
 (zS [0,1,2] [zc 6 (.int .u64 0),zc 7 (.int .u64 0)]
 (zs (zS [0,1,2,20] [zm 19 2,zd 20 .eql 19 (.int .u64 0)]
 (zC 20 (zr [0,1,2] [zy 21 (.dead),zw (.dead)])
 .skip))
 (zs (zS [0,1,2,24] [zm 22 2,zm 23 0,zb 24 .leq 22 23]
 (zC 24 (zr [0,1,2] [zy 25 (.dead),zw (.dead)])
 .skip))
 (zs (zS [0,1,2,27] [zm 26 0,zd 27 .eql 26 (.int .u64 0)]
 (zC 27 (zs (.reg true [0,0,3,0,0,24,7,127] [6,7] [zm 28 1,zm 29 2,zb 30 .quo 28 29,zm 31 1,zm 32 2,zb 33 .rem 31 32,zm 6 30,zm 7 33])
 .ret)
 .skip))
 (zS [0,1,2,8] [zm 34 2,zk 35 102 [.t 34],zy 36 (.conv .u64 (.t 35)),zm 8 36]
 (zS [0,1,2,8] [zm 37 2,zm 38 8,zb 39 .shl 37 38,zm 2 39]
 (zS [0,1,2,8,9] [zm 40 2,zd 41 .shr 40 (.int .u64 32),zm 9 41]
 (zS [0,1,2,8,9,10] [zm 42 2,zd 43 .and 42 (.int .u64 4294967295),zm 10 43]
 (zS [1,2,8,9,10,11] [zm 44 0,zm 45 8,zb 46 .shl 44 45,zm 47 1,zm 48 8,zy 49 (.bin .sub (.c (.int .u64 64)) (.t 48)),zb 50 .shr 47 49,zb 51 .or 46 50,zm 11 51]
 (zS [2,8,9,10,11,12] [zm 52 1,zm 53 8,zb 54 .shl 52 53,zm 12 54]
 (zS [2,8,9,10,11,12,13] [zm 55 12,zd 56 .shr 55 (.int .u64 32),zm 13 56]
 (zS [2,8,9,10,11,13,14] [zm 57 12,zd 58 .and 57 (.int .u64 4294967295),zm 14 58]
 (zS [2,8,9,10,11,13,14,15] [zm 59 11,zm 60 9,zb 61 .quo 59 60,zm 15 61]
 (zS [2,8,9,10,11,13,14,15,16] [zm 62 11,zm 63 15,zm 64 9,zb 65 .mul 63 64,zb 66 .sub 62 65,zm 16 66]
 (zs (.block 0 (.loop (zs (zS [2,8,9,10,11,13,14,15,16,78] [zm 67 15,zd 68 .geq 67 (.int .u64 4294967296),zm 69 68,ze 69 (zm 70 15),ze 69 (zm 71 10),ze 69 (zb 72 .mul 70 71),ze 69 (zm 73 16),ze 69 (zy 74 (.bin .mul (.c (.int .u64 4294967296)) (.t 73))),ze 69 (zm 75 13),ze 69 (zb 76 .add 74 75),ze 69 (zb 77 .gtr 72 76),zp 78 69 77]
 (zC 78 .skip
 (.exit 0)))
 (.block 1 (zS [2,8,9,10,11,13,14,15,16] [zm 79 15,zd 80 .sub 79 (.int .u64 1),zm 15 80]
 (zS [2,8,9,10,11,13,14,15,16] [zm 81 16,zm 82 9,zb 83 .add 81 82,zm 16 83]
 (zS [2,8,9,10,11,13,14,15,16,85] [zm 84 16,zd 85 .geq 84 (.int .u64 4294967296)]
 (zC 85 (.exit 0)
 .skip))))))))
 (zS [2,8,9,10,14,15,17] [zm 86 11,zd 87 .mul 86 (.int .u64 4294967296),zm 88 13,zb 89 .add 87 88,zm 90 15,zm 91 2,zb 92 .mul 90 91,zb 93 .sub 89 92,zm 17 93]
 (zS [2,8,9,10,14,15,17,18] [zm 94 17,zm 95 9,zb 96 .quo 94 95,zm 18 96]
 (zS [2,8,9,10,14,15,16,17,18] [zm 97 17,zm 98 18,zm 99 9,zb 100 .mul 98 99,zb 101 .sub 97 100,zm 16 101]
 (zs (.block 2 (.loop (zs (zS [2,8,9,10,14,15,16,17,18,113] [zm 102 18,zd 103 .geq 102 (.int .u64 4294967296),zm 104 103,ze 104 (zm 105 18),ze 104 (zm 106 10),ze 104 (zb 107 .mul 105 106),ze 104 (zm 108 16),ze 104 (zy 109 (.bin .mul (.c (.int .u64 4294967296)) (.t 108))),ze 104 (zm 110 14),ze 104 (zb 111 .add 109 110),ze 104 (zb 112 .gtr 107 111),zp 113 104 112]
 (zC 113 .skip
 (.exit 2)))
 (.block 3 (zS [2,8,9,10,14,15,16,17,18] [zm 114 18,zd 115 .sub 114 (.int .u64 1),zm 18 115]
 (zS [2,8,9,10,14,15,16,17,18] [zm 116 16,zm 117 9,zb 118 .add 116 117,zm 16 118]
 (zS [2,8,9,10,14,15,16,17,18,120] [zm 119 16,zd 120 .geq 119 (.int .u64 4294967296)]
 (zC 120 (.exit 2)
 .skip))))))))
 (zS [6,7] [zm 121 15,zd 122 .mul 121 (.int .u64 4294967296),zm 123 18,zb 124 .add 122 123,zm 125 17,zd 126 .mul 125 (.int .u64 4294967296),zm 127 14,zb 128 .add 126 127,zm 129 18,zm 130 2,zb 131 .mul 129 130,zb 132 .sub 128 131,zm 133 8,zb 134 .shr 132 133,zm 6 124,zm 7 134]
 .ret)))))))))))))))))))) }
def N96:ar:={ np:=3,nt:=49,res:=[(6,none),(7,none)],body :=
 (zS [0,1,2] [z0 6,zF 7]
 (zS [0,1,2,8] [zm 12 0,zn 13 12,zm 8 13]
 (zS [0,1,2,8,9,10] [zm 14 8,z0 9,zm 10 14]
 (zs (.block 0 (.loop (zs (zS [0,1,2,8,9,10,17] [zm 15 9,zm 16 10,zb 17 .lss 15 16]
 (zC 17 .skip
 (.exit 0)))
 (.block 1 (zS [0,1,2,8,9,10,11] [zm 18 9,zm 19 10,zb 20 .add 18 19,zy 21 (.conv .u64 (.t 20)),zd 22 .shr 21 (.int .u64 1),zy 23 (.conv .i64 (.t 22)),zm 11 23]
 (zS [0,1,2,8,9,10,11,31] [zm 24 2,zm 25 0,zm 26 11,zi 27 2 25 26,zL 28 2 27,zm 29 1,zy 30 (.callv (.t 24) [.t 28,.t 29]),zd 31 .lss 30 (zI 0)]
 (zC 31 (zr [0,1,2,8,9,10] [zm 32 11,zd 33 .add 32 (zI 1),zm 9 33])
 (zr [0,1,2,8,9,10] [zm 34 11,zm 10 34]))))))))
 (zS [6,7] [zm 35 9,zm 36 9,zm 37 8,zb 38 .lss 36 37,zm 39 38,zh 39 (zm 40 2),zh 39 (zq 41 0),zh 39 (zm 42 9),zh 39 (zi 43 2 41 42),zh 39 (zL 44 2 43),zh 39 (zm 45 1),zh 39 (zy 46 (.callv (.t 40) [.t 44,.t 45])),zh 39 (zd 47 .eql 46 (zI 0)),zP 48 39 47,zm 6 35,zm 7 48]
 .ret))))) }
def N97:ar:={ np:=2,nt:=15,res:=[(4,none)],body :=
 (zS [1,2] [zo 2 0,z0 4]
 (zs (.block 0 (zS [1,2,5] [zf 6 0 2,zl 7 1 6,zm 8 1,zb 9 .lss 7 8,zm 5 9]
 (zC 5 (zS [4] [zy 4 (.mov (.c (zI (-1))))]
 .ret)
 (zS [10] [zf 11 0 2,zl 12 1 11,zm 13 1,zb 14 .gtr 12 13,zm 10 14]
 (zC 10 (zS [4] [zc 4 (zI 1)]
 .ret)
 .skip)))))
 (zS [4] [z0 4]
 .ret))) }
def N98:ar:={ np:=3,nt:=35,res:=[(6,none),(7,none),(8,none)],body :=
 (zS [0,1,2] [z0 6,z0 7,z0 8]
 (zs (zS [0,1,2,11] [zm 10 2,zd 11 .eql 10 (zI 0)]
 (zC 11 (zS [6,7,8] [z0 6,z0 7,zc 8 (zI 16)]
 .ret)
 .skip))
 (zS [2,9] [zm 12 0,zm 13 1,zk 14 103 [.t 12,.t 13],zy 9 (.alc zA4),zw (.st 3 [] (.t 9) (.t 14))]
 (zs (zS [2,6,8,9] [zL 16 3 9,zm 17 2,zk 18 104 [.t 16,.t 17,(.c (.bool false))],zm 15 18,zx 19 0 15,zx 20 1 15,zm 6 19,zm 8 20]
 (zS [2,6,8,9,22] [zm 21 8,zd 22 .neq 21 (zI 0)]
 (zC 22 (zS [6,7,8] [zm 23 8,z0 6,z0 7,zm 8 23]
 .ret)
 .skip)))
 (zs (zS [6,7,8] [zL 25 3 9,zm 26 2,zk 27 104 [.t 25,.t 26,(.c (.bool true))],zm 24 27,zx 28 0 24,zx 29 1 24,zm 7 28,zm 8 29]
 (zS [6,7,8,31] [zm 30 8,zd 31 .neq 30 (zI 0)]
 (zC 31 (zS [6,7,8] [zm 32 8,z0 6,z0 7,zm 8 32]
 .ret)
 .skip)))
 (zS [6,7,8] [zm 33 6,zm 34 7,zm 6 33,zm 7 34,z0 8]
 .ret)))))) }
def N99:ar:={ np:=2,nt:=12,res:=[(4,some (2,true)),(5,none)],body :=
 (zS [0,1,4] [zy 4 (.alc zA1),z0 5]
 (zS [4,5] [zm 6 0,zm 7 1,zk 8 103 [.t 6,.t 7],zk 9 105 [.t 8],zx 10 0 9,zx 11 1 9,zw (.st 2 [] (.t 4) (.t 10)),zm 5 11]
 .ret)) }
def N100:ar:={ np:=2,nt:=24,res:=[(4,some (2,true)),(5,none)],body :=
 (zS [2,3,4] [zo 2 0,zo 3 1,zy 4 (.alc zA1),z0 5]
 (zs (zS [2,3,4,13] [zL 6 2 2,zk 7 106 [.t 6],zt 8 7,zm 9 8,ze 9 (zL 10 2 3),ze 9 (zk 11 106 [.t 10]),ze 9 (zt 12 11),zp 13 9 12]
 (zC 13 (zS [4,5] [zy 14 (.bld [zI 0,zI 0] []),zw (.st 2 [] (.t 4) (.t 14)),zc 5 (zI 1)]
 .ret)
 .skip))
 (zs (.reg true [0,1,0,7,15,31,63,127,127,511,1023] [4,5] [zL 15 2 2,zk 16 108 [.t 15],zL 17 2 3,zk 18 108 [.t 17],zk 19 109 [.t 18],zk 20 107 [.t 16,.t 19],zk 21 105 [.t 20],zx 22 0 21,zx 23 1 21,zw (.st 2 [] (.t 4) (.t 22)),zm 5 23])
 .ret))) }
def N101:ar:={ np:=1,nt:=20,res:=[(2,none),(3,none)],body :=
 (zS [1] [zo 1 0,z0 2,z0 3]
 (zs (zS [1,7] [zL 5 2 1,zk 6 106 [.t 5],zt 7 6]
 (zC 7 (zS [2,3] [z0 2,zc 3 (zI 1)]
 .ret)
 .skip))
 (zS [4] [zL 8 2 1,zk 9 108 [.t 8],zy 4 (.alc zA4),zw (.st 3 [] (.t 4) (.t 9))]
 (zs (zS [4,12] [zf 10 0 4,zl 11 1 10,zd 12 .gtr 11 (.int .u64 0)]
 (zC 12 (zS [2,3] [z0 2,zc 3 (zI 5)]
 .ret)
 .skip))
 (zS [2,3] [zf 13 1 4,zl 14 1 13,zf 15 2 4,zl 16 1 15,zk 17 110 [.t 14,.t 16],zx 18 0 17,zx 19 1 17,zm 2 18,zm 3 19]
 .ret))))) }
def N102:ar:={ np:=1,nt:=6,res:=[(2,none)],body :=
 (zS [0] [z0 2]
 (zS [2] [zm 3 0,zk 4 111 [.t 3],zy 5 (.bin .sub (.c (zI 64)) (.t 4)),zm 2 5]
 .ret)) }
def N103:ar:={ np:=2,nt:=23,res:=[(4,some (3,true))],body :=
 (zS [0,1,4] [zy 4 (.alc zA4)]
 (zS [0,1,4,5,6] [zm 8 0,zk 9 112 [.t 8],zm 10 1,zk 11 112 [.t 10],zk 12 91 [.t 9,.t 11],zm 7 12,zx 13 0 7,zx 14 1 7,zm 5 13,zm 6 14]
 (zS [4] [zm 15 5,zm 16 6,zm 17 0,zd 18 .lss 17 (zI 0),zm 19 1,zd 20 .lss 19 (zI 0),zy 21 (.beq true [] (.t 18) (.t 20)),zk 22 113 [.t 15,.t 16,.t 21],zw (.st 3 [] (.t 4) (.t 22))]
 .ret))) }
def N104:ar:={ np:=3,nt:=52,res:=[(6,none),(7,none)],body :=
 (zS [1,2,3] [zo 3 0,z0 6,z0 7]
 (zS [1,2,3,8] [zm 12 1,zk 13 112 [.t 12],zm 8 13]
 (zs (zS [1,2,3,8,17] [zf 14 0 3,zl 15 1 14,zm 16 8,zb 17 .geq 15 16]
 (zC 17 (zS [6,7] [z0 6,zc 7 (zI 5)]
 .ret)
 .skip))
 (zS [1,2,3,9,10] [zf 19 0 3,zl 20 1 19,zf 21 1 3,zl 22 1 21,zm 23 8,zk 24 92 [.t 20,.t 22,.t 23],zm 18 24,zx 25 0 18,zx 26 1 18,zm 9 25,zm 10 26]
 (zS [2,9,10,11] [zf 27 2 3,zl 28 1 27,zm 29 1,zd 30 .lss 29 (zI 0),zy 31 (.beq true [] (.t 28) (.t 30)),zm 11 31]
 (zs (zS [9,11,38] [zm 32 10,zd 33 .gtr 32 (.int .u64 0),zm 34 33,zh 34 (zm 35 11),zh 34 (zm 36 2),zh 34 (zy 37 (.beq true [] (.t 35) (.t 36))),zP 38 34 37]
 (zC 38 (zS [9,11] [zm 39 9,zd 40 .add 39 (.int .u64 1),zm 9 40]
 (zS [9,11,42] [zm 41 9,zd 42 .eql 41 (.int .u64 0)]
 (zC 42 (zS [6,7] [z0 6,zc 7 (zI 5)]
 .ret)
 .skip)))
 .skip))
 (zS [6,7] [zm 43 9,zm 44 11,zm 45 44,zh 45 (zm 46 9),zh 45 (zd 47 .gtr 46 (.int .u64 0)),zP 48 45 47,zk 49 110 [.t 43,.t 48],zx 50 0 49,zx 51 1 49,zm 6 50,zm 7 51]
 .ret))))))) }
def N105:ar:={ np:=1,nt:=56,res:=[(2,some (2,true)),(3,none)],body :=
 (zS [1,2] [zo 1 0,zy 2 (.alc zA1),z0 3]
 (zs (zS [1,2,23] [zf 6 0 1,zl 7 1 6,zd 8 .gtr 7 (.int .u64 72057594037927936),zm 9 8,ze 9 (zf 10 0 1),ze 9 (zl 11 1 10),ze 9 (zd 12 .eql 11 (.int .u64 72057594037927936)),ze 9 (zm 13 12),zh 13 (zf 14 1 1),zh 13 (zl 15 1 14),zh 13 (zd 16 .gtr 15 (.int .u64 0)),zh 13 (zm 17 16),ze 17 (zf 18 2 1),ze 17 (zl 19 1 18),ze 17 (zt 20 19),zh 13 (zp 21 17 20),ze 9 (zP 22 13 21),zp 23 9 22]
 (zC 23 (zS [2,3] [zy 24 (.bld [zI 0,zI 0] []),zw (.st 2 [] (.t 2) (.t 24)),zc 3 (zI 5)]
 .ret)
 .skip))
 (zs (.reg true [0,1,3,0,8,24,63,127,0,256,768,1792,255,8191] [1,2,4,5] [zf 25 0 1,zl 26 1 25,zd 27 .shl 26 (.int .u64 4),zf 28 1 1,zl 29 1 28,zd 30 .shr 29 (.int .u64 60),zb 31 .or 27 30,zy 32 (.conv .i64 (.t 31)),zf 33 1 1,zl 34 1 33,zd 35 .and 34 (.int .u64 1152921504606846975),zy 36 (.conv .i64 (.t 35)),zm 4 32,zm 5 36])
 (zs (.block 0 (zS [2,4,5,37] [zf 38 2 1,zl 39 1 38,zt 40 39,zm 37 40]
 (zC 37 (zS [2,3] [zm 41 4,zm 42 5,zy 43 (.bld [zI 0,zI 0] [(0,1,.t 41),(1,1,.t 42)]),zw (.st 2 [] (.t 2) (.t 43)),z0 3]
 .ret)
 (zS [2,4,5,44] [zm 45 5,zd 46 .eql 45 (zI 0),zm 44 46]
 (zC 44 (zS [2,3] [zm 47 4,zy 48 (.un .neg (.t 47)),zy 49 (.bld [zI 0,zI 0] [(0,1,.t 48)]),zw (.st 2 [] (.t 2) (.t 49)),z0 3]
 .ret)
 .skip)))))
 (zS [2,3] [zm 50 4,zy 51 (.un .neg (.t 50)),zd 52 .sub 51 (zI 1),zm 53 5,zy 54 (.bin .sub (.c (zI 1152921504606846976)) (.t 53)),zy 55 (.bld [zI 0,zI 0] [(0,1,.t 52),(1,1,.t 54)]),zw (.st 2 [] (.t 2) (.t 55)),z0 3]
 .ret))))) }
def N106:ar:={ np:=1,nt:=21,res:=[(2,none)],body :=
 (zS [1] [zo 1 0,zF 2]
 (zS [2] [zf 3 0 1,zl 4 1 3,zy 5 (.bin .geq (.t 4) (.c (zI (-1152921504606846976)))),zm 6 5,zh 6 (zf 7 0 1),zh 6 (zl 8 1 7),zh 6 (zd 9 .lss 8 (zI 1152921504606846976)),zP 10 6 9,zm 11 10,zh 11 (zf 12 1 1),zh 11 (zl 13 1 12),zh 11 (zd 14 .geq 13 (zI 0)),zP 15 11 14,zm 16 15,zh 16 (zf 17 1 1),zh 16 (zl 18 1 17),zh 16 (zd 19 .lss 18 (zI 1152921504606846976)),zP 20 16 19,zm 2 20]
 .ret)) }
def N107:ar:={ np:=2,nt:=73,res:=[(4,some (3,true))],body :=
 (zS [2,3,4] [zy 2 (.box [] (.t 0)),zy 3 (.box [] (.t 1)),zy 4 (.alc zA4)]
 (zs (zS [2,3,4,13] [zf 9 2 2,zl 10 1 9,zf 11 2 3,zl 12 1 11,zy 13 (.beq false [] (.t 10) (.t 12))]
 (zC 13 (zS [2,3,4,5,6] [zf 15 1 2,zl 16 1 15,zf 17 1 3,zl 18 1 17,zy 19 (.add64 (.t 16) (.t 18) (.c (.int .u64 0))),zm 14 19,zx 20 0 14,zx 21 1 14,zm 5 20,zm 6 21]
 (zS [4] [zf 22 0 2,zl 23 1 22,zf 24 0 3,zl 25 1 24,zb 26 .add 23 25,zm 27 6,zb 28 .add 26 27,zm 29 5,zf 30 2 2,zl 31 1 30,zk 32 113 [.t 28,.t 29,.t 31],zw (.st 3 [] (.t 4) (.t 32))]
 .ret))
 .skip))
 (zs (zS [2,3,4,51] [zf 33 0 2,zl 34 1 33,zf 35 0 3,zl 36 1 35,zb 37 .lss 34 36,zm 38 37,ze 38 (zf 39 0 2),ze 38 (zl 40 1 39),ze 38 (zf 41 0 3),ze 38 (zl 42 1 41),ze 38 (zb 43 .eql 40 42),ze 38 (zm 44 43),zh 44 (zf 45 1 2),zh 44 (zl 46 1 45),zh 44 (zf 47 1 3),zh 44 (zl 48 1 47),zh 44 (zb 49 .lss 46 48),ze 38 (zP 50 44 49),zp 51 38 50]
 (zC 51 (zr [2,3,4] [zL 52 3 3,zL 53 3 2,zw (.st 3 [] (.t 2) (.t 52)),zw (.st 3 [] (.t 3) (.t 53))])
 .skip))
 (zS [2,3,4,7,8] [zf 55 1 2,zl 56 1 55,zf 57 1 3,zl 58 1 57,zy 59 (.sub64 (.t 56) (.t 58) (.c (.int .u64 0))),zm 54 59,zx 60 0 54,zx 61 1 54,zm 7 60,zm 8 61]
 (zS [4] [zf 62 0 2,zl 63 1 62,zf 64 0 3,zl 65 1 64,zb 66 .sub 63 65,zm 67 8,zb 68 .sub 66 67,zm 69 7,zf 70 2 2,zl 71 1 70,zk 72 113 [.t 68,.t 69,.t 71],zw (.st 3 [] (.t 4) (.t 72))]
 .ret))))) }
def N108:ar:={ np:=1,nt:=37,res:=[(2,some (3,true))],body :=
 (zS [1,2] [zo 1 0,zy 2 (.alc zA4)]
 (zS [1,2,3] [zf 7 0 1,zl 8 1 7,zk 9 112 [.t 8],zm 3 9]
 (zS [1,2,4,5] [zm 10 3,zd 11 .shr 10 (.int .u64 4),zm 12 3,zd 13 .shl 12 (.int .u64 60),zm 4 11,zm 5 13]
 (zs (zS [1,2,4,5,16] [zf 14 0 1,zl 15 1 14,zd 16 .geq 15 (zI 0)]
 (zC 16 (zS [2] [zm 17 4,zm 18 5,zf 19 1 1,zl 20 1 19,zy 21 (.conv .u64 (.t 20)),zb 22 .or 18 21,zy 23 (.bld [.int .u64 0,.int .u64 0,.bool false] [(0,1,.t 17),(1,1,.t 22),(2,1,(.c (.bool false)))]),zw (.st 3 [] (.t 2) (.t 23))]
 .ret)
 .skip))
 (zS [2,4,5,6] [zm 25 5,zf 26 1 1,zl 27 1 26,zy 28 (.conv .u64 (.t 27)),zy 29 (.sub64 (.t 25) (.t 28) (.c (.int .u64 0))),zm 24 29,zx 30 0 24,zx 31 1 24,zm 5 30,zm 6 31]
 (zS [2] [zm 32 4,zm 33 6,zb 34 .sub 32 33,zm 35 5,zy 36 (.bld [.int .u64 0,.int .u64 0,.bool false] [(0,1,.t 34),(1,1,.t 35),(2,1,(.c (.bool true)))]),zw (.st 3 [] (.t 2) (.t 36))]
 .ret)))))) }
def N109:ar:={ np:=1,nt:=11,res:=[(2,some (3,true))],body :=
 (zS [1,2] [zo 1 0,zy 2 (.alc zA4)]
 (zS [2] [zf 3 0 1,zl 4 1 3,zf 5 1 1,zl 6 1 5,zf 7 2 1,zl 8 1 7,zt 9 8,zk 10 113 [.t 4,.t 6,.t 9],zw (.st 3 [] (.t 2) (.t 10))]
 .ret)) }
def N110:ar:={ np:=2,nt:=24,res:=[(4,none),(5,none)],body :=
 (zS [0,1] [z0 4,z0 5]
 (zs (.block 0 (zS [0,1,6] [zm 7 1,zt 8 7,zm 9 8,zh 9 (zm 10 0),zh 9 (zd 11 .leq 10 (.int .u64 9223372036854775807)),zP 12 9 11,zm 6 12]
 (zC 6 (zS [4,5] [zm 13 0,zy 14 (.conv .i64 (.t 13)),zm 4 14,z0 5]
 .ret)
 (zS [0,15] [zm 16 1,zm 17 16,zh 17 (zm 18 0),zh 17 (zd 19 .leq 18 (.int .u64 9223372036854775808)),zP 20 17 19,zm 15 20]
 (zC 15 (zS [4,5] [zm 21 0,zy 22 (.un .neg (.t 21)),zy 23 (.conv .i64 (.t 22)),zm 4 23,z0 5]
 .ret)
 .skip)))))
 (zS [4,5] [z0 4,zc 5 (zI 5)]
 .ret))) }
def S1:List UInt8:=[0,1,2,2,3,3,3,3,4,4,4,4,4,4,4,4,5,5,5,5,5,5,5,5,5,5,5,5,5,5,5,5,6,6,6,6,6,6,6,6,6,6,6,6,6,6,6,6,6,6,6,6,6,6,6,6,6,6,6,6,6,6,6,6,7,7,7,7,7,7,7,7,7,7,7,7,7,7,7,7,7,7,7,7,7,7,7,7,7,7,7,7,7,7,7,7,7,7,7,7,7,7,7,7,7,7,7,7,7,7,7,7,7,7,7,7,7,7,7,7,7,7,7,7,7,7,7,7,8,8,8,8,8,8,8,8,8,8,8,8,8,8,8,8,8,8,8,8,8,8,8,8,8,8,8,8,8,8,8,8,8,8,8,8,8,8,8,8,8,8,8,8,8,8,8,8,8,8,8,8,8,8,8,8,8,8,8,8,8,8,8,8,8,8,8,8,8,8,8,8,8,8,8,8,8,8,8,8,8,8,8,8,8,8,8,8,8,8,8,8,8,8,8,8,8,8,8,8,8,8,8,8,8,8,8,8,8,8,8,8,8,8,8,8,8,8,8,8,8,8,8,8,8,8,8,8]
def N111:ar:={ np:=1,nt:=25,res:=[(2,none)],body :=
 (zS [0,2] [z0 2]
 (zs (zS [0,2,4] [zm 3 0,zd 4 .geq 3 (.int .u64 4294967296)]
 (zC 4 (zS [0] [zm 5 0,zd 6 .shr 5 (.int .u64 32),zm 0 6]
 (zr [0,2] [zc 2 (zI 32)]))
 .skip))
 (zs (zS [0,2,8] [zm 7 0,zd 8 .geq 7 (.int .u64 65536)]
 (zC 8 (zS [0,2] [zm 9 0,zd 10 .shr 9 (.int .u64 16),zm 0 10]
 (zr [0,2] [zm 11 2,zd 12 .add 11 (zI 16),zm 2 12]))
 .skip))
 (zs (zS [0,2,14] [zm 13 0,zd 14 .geq 13 (.int .u64 256)]
 (zC 14 (zS [0,2] [zm 15 0,zd 16 .shr 15 (.int .u64 8),zm 0 16]
 (zr [0,2] [zm 17 2,zd 18 .add 17 (zI 8),zm 2 18]))
 .skip))
 (zS [2] [zm 19 2,zm 20 0,zy 21 (.conv .u8 (.t 20)),zy 22 (.idxS (.c (.str S1)) (.t 21)),zy 23 (.conv .i64 (.t 22)),zb 24 .add 19 23,zm 2 24]
 .ret))))) }
def N112:ar:={ np:=1,nt:=10,res:=[(2,none)],body :=
 (zS [0] [zc 2 (.int .u64 0)]
 (zs (zS [0,4] [zm 3 0,zd 4 .lss 3 (zI 0)]
 (zC 4 (zS [2] [zm 5 0,zy 6 (.conv .u64 (.t 5)),zy 7 (.un .neg (.t 6)),zm 2 7]
 .ret)
 .skip))
 (zS [2] [zm 8 0,zy 9 (.conv .u64 (.t 8)),zm 2 9]
 .ret))) }
def N113:ar:={ np:=3,nt:=19,res:=[(6,some (3,true))],body :=
 (zS [0,1,2,6] [zy 6 (.alc zA4)]
 (zS [6] [zm 7 0,zm 8 1,zm 9 2,zm 10 9,zh 10 (zm 11 0),zh 10 (zd 12 .neq 11 (.int .u64 0)),zh 10 (zm 13 12),ze 13 (zm 14 1),ze 13 (zd 15 .neq 14 (.int .u64 0)),zh 10 (zp 16 13 15),zP 17 10 16,zy 18 (.bld [.int .u64 0,.int .u64 0,.bool false] [(0,1,.t 7),(1,1,.t 8),(2,1,.t 17)]),zw (.st 3 [] (.t 6) (.t 18))]
 .ret)) }
def N118:ar:={ np:=2,nt:=52,res:=[(4,none),(5,none),(6,none)],body :=
 (zS [2,3] [zo 2 0,zo 3 1,zF 4,z0 5,z0 6]
 (zs (zS [2,3,7] [zL 12 6 2,zl 13 1 3,zk 14 120 [.t 12,.t 13],zm 7 14]
 (zS [2,3,7,16] [zm 15 7,zd 16 .neq 15 (zI 0)]
 (zC 16 (zS [4,5,6] [zm 17 7,zF 4,z0 5,zm 6 17]
 .ret)
 .skip)))
 (zS [2,3,8] [zL 18 6 2,zk 19 30 [.t 18],zm 8 19]
 (zs (zS [2,3,8,20,21,22] [zl 20 1 3,zn 21 20,z0 22]
 (.block 0 (.loop (zS [2,3,8,20,21,22,23] [zb 23 .lss 22 21]
 (zs (zC 23 .skip
 (.exit 0))
 (zs (.block 1 (zS [2,3,8,9,10,20,21,22] [zm 24 22,zi 25 1 20 22,zl 26 1 25,zy 10 (.alc [zI 0]),zm 9 24,zw (.st 1 [] (.t 10) (.t 26))]
 (zS [2,3,8,9,10,11,20,21,22] [zm 27 8,zy 28 (.nck (.t 27)),zf 29 7 28,zl 30 1 29,zm 31 9,zi 32 1 30 31,zl 33 1 32,zy 34 (.mk 121 [.t 2,.t 3,.t 10]),zk 35 11 [.t 33,.t 34],zm 11 35]
 (zs (.reg true [0,1,3,7,0,31,63,0,255,511,1023,2047,4095,8191] [2,3,8,9,20,21,22,49] [zm 36 8,zy 37 (.nck (.t 36)),zf 38 6 37,zl 39 1 38,zm 40 9,zi 41 1 39 40,zl 42 1 41,zl 43 1 10,zi 44 1 42 43,zl 45 1 44,zt 46 45,zm 47 46,ze 47 (zm 48 11),zp 49 47 48])
 (zC 49 (zS [4,5,6] [zm 50 9,zF 4,zm 5 50,z0 6]
 .ret)
 .skip)))))
 (zr [2,3,8,20,21,22] [zd 51 .add 22 (zI 1),zm 22 51])))))))
 (zS [4,5,6] [zc 4 (.bool true),zy 5 (.mov (.c (zI (-1)))),z0 6]
 .ret))))) }
def N120:ar:={ np:=2,nt:=20,res:=[(4,none)],body :=
 (zS [1,2] [zo 2 0,z0 4]
 (zs (.block 0 (zS [1,2,5] [zL 6 6 2,zk 7 24 [.t 6],zt 8 7,zm 5 8]
 (zC 5 (zS [4] [zc 4 (zI 1)]
 .ret)
 (zS [1,2,9] [zm 10 1,zn 11 10,zf 12 0 2,zl 13 1 12,zn 14 13,zb 15 .neq 11 14,zm 9 15]
 (zC 9 (zS [4] [zc 4 (zI 3)]
 .ret)
 (zS [16] [zq 17 1,zy 18 (.mk 122 [.t 2]),zk 19 11 [.t 17,.t 18],zm 16 19]
 (zC 16 (zS [4] [zc 4 (zI 2)]
 .ret)
 .skip)))))))
 (zS [4] [z0 4]
 .ret))) }
def N121:ar:={ np:=4,nt:=22,res:=[(5,none)],body :=
 (zS [0,1,2,3] [zF 5]
 (zs (.reg true [0,1,0,0,12,28,63,127,255,0,512,0,3584,7680,15872,32767,65535] [5] [zf 6 5 1,zl 7 1 6,zl 8 1 2,zm 9 0,zi 10 1 8 9,zl 11 1 10,zi 12 5 7 11,zf 13 1 12,zl 14 1 13,zf 15 5 1,zl 16 1 15,zl 17 1 3,zi 18 5 16 17,zf 19 1 18,zl 20 1 19,zb 21 .gtr 14 20,zm 5 21])
 .ret)) }
def N122:ar:={ np:=2,nt:=13,res:=[(3,none)],body :=
 (zS [0,1] [zF 3]
 (zS [3] [zm 4 0,zd 5 .lss 4 (zI 0),zm 6 5,ze 6 (zm 7 0),ze 6 (zf 8 5 1),ze 6 (zl 9 1 8),ze 6 (zn 10 9),ze 6 (zb 11 .geq 7 10),zp 12 6 11,zm 3 12]
 .ret)) }
def N125:ar:={ np:=2,nt:=9,res:=[(4,none)],body :=
 (zS [0,1] [zF 4]
 (zS [4] [zq 5 0,zm 6 1,zk 7 129 [.t 5,.t 6],zd 8 .geq 7 (zI 0),zm 4 8]
 .ret)) }
def N129:ar:={ np:=2,nt:=19,res:=[(4,none)],body :=
 (zS [0,1] [z0 4]
 (zs (zS [0,1,7,8] [zm 6 0,zn 7 6,z0 8]
 (.block 0 (.loop (zS [0,1,7,8,9] [zb 9 .lss 8 7]
 (zs (zC 9 .skip
 (.exit 0))
 (zs (.block 1 (zS [0,1,5,7,8] [zm 10 8,zm 5 10]
 (zS [0,1,5,7,8,16] [zm 11 1,zm 12 0,zm 13 5,zi 14 2 12 13,zL 15 2 14,zy 16 (.callv (.t 11) [.t 15])]
 (zC 16 (zS [4] [zm 17 5,zm 4 17]
 .ret)
 .skip))))
 (zr [0,1,7,8] [zd 18 .add 8 (zI 1),zm 8 18])))))))
 (zS [4] [zy 4 (.mov (.c (zI (-1))))]
 .ret))) }
def N164:ar:={ np:=1,nt:=80,res:=[(2,none)],body :=
 (zS [1] [zo 1 0,zF 2]
 (zs (zS [1,17] [zf 8 0 1,zl 9 1 8,zn 10 9,zd 11 .gtr 10 (zI 300),zm 12 11,ze 12 (zf 13 1 1),ze 12 (zl 14 1 13),ze 12 (zn 15 14),ze 12 (zd 16 .gtr 15 (zI 400)),zp 17 12 16]
 (zC 17 (zS [2] [zF 2]
 .ret)
 .skip))
 (zs (zS [1,19,20,21] [zf 18 0 1,zl 19 1 18,zn 20 19,z0 21]
 (.block 0 (.loop (zS [1,19,20,21,22] [zb 22 .lss 21 20]
 (zs (zC 22 .skip
 (.exit 0))
 (zs (.block 1 (zS [1,3,4,19,20,21] [zm 23 21,zi 24 9 19 21,zL 25 9 24,zy 4 (.alc zA5),zm 3 23,zw (.st 9 [] (.t 4) (.t 25))]
 (zS [1,19,20,21,36] [zL 26 9 4,zk 27 168 [.t 26],zt 28 27,zm 29 28,ze 29 (zL 30 2 1),ze 29 (zf 31 0 4),ze 29 (zl 32 1 31),ze 29 (zk 33 169 [.t 30,.t 32]),ze 29 (zm 34 3),ze 29 (zb 35 .neq 33 34),zp 36 29 35]
 (zC 36 (zS [2] [zF 2]
 .ret)
 .skip))))
 (zr [1,19,20,21] [zd 37 .add 21 (zI 1),zm 21 37])))))))
 (zs (zS [1,39,40,41] [zf 38 1 1,zl 39 1 38,zn 40 39,z0 41]
 (.block 2 (.loop (zS [1,39,40,41,42] [zb 42 .lss 41 40]
 (zs (zC 42 .skip
 (.exit 2))
 (zs (.block 3 (zS [1,5,6,39,40,41] [zm 43 41,zi 44 11 39 41,zL 45 11 44,zy 6 (.alc zA2),zm 5 43,zw (.st 11 [] (.t 6) (.t 45))]
 (zs (zS [1,6,39,40,41,56] [zL 46 11 6,zk 47 170 [.t 46],zt 48 47,zm 49 48,ze 49 (zL 50 2 1),ze 49 (zf 51 0 6),ze 49 (zl 52 1 51),ze 49 (zk 53 171 [.t 50,.t 52]),ze 49 (zm 54 5),ze 49 (zb 55 .neq 53 54),zp 56 49 55]
 (zC 56 (zS [2] [zF 2]
 .ret)
 .skip))
 (zS [1,6,7,39,40,41] [zL 57 2 1,zf 58 1 6,zl 59 1 58,zk 60 169 [.t 57,.t 59],zm 7 60]
 (zS [1,39,40,41,78] [zm 61 7,zd 62 .lss 61 (zI 0),zm 63 62,ze 63 (zL 64 2 1),ze 63 (zf 65 2 6),ze 63 (zl 66 1 65),ze 63 (zk 67 169 [.t 64,.t 66]),ze 63 (zd 68 .lss 67 (zI 0)),zp 69 63 68,zm 70 69,ze 70 (zf 71 0 1),ze 70 (zl 72 1 71),ze 70 (zm 73 7),ze 70 (zi 74 9 72 73),ze 70 (zf 75 1 74),ze 70 (zl 76 1 75),ze 70 (zd 77 .eql 76 (zI 3)),zp 78 70 77]
 (zC 78 (zS [2] [zF 2]
 .ret)
 .skip))))))
 (zr [1,39,40,41] [zd 79 .add 41 (zI 1),zm 41 79])))))))
 (zS [2] [zc 2 (.bool true)]
 .ret))))) }
def N168:ar:={ np:=1,nt:=101,res:=[(2,none)],body :=
 (zS [1] [zo 1 0,zF 2]
 (zs (zS [1,29] [zf 3 0 1,zl 4 1 3,zk 5 58 [.t 4],zt 6 5,zm 7 6,ze 7 (zf 8 2 1),ze 7 (zf 9 0 8),ze 7 (zl 10 1 9),ze 7 (zk 11 172 [.t 10,(.c (zI (-16777216))),(.c (zI 16777216))]),ze 7 (zt 12 11),zp 13 7 12,zm 14 13,ze 14 (zf 15 2 1),ze 14 (zf 16 1 15),ze 14 (zl 17 1 16),ze 14 (zk 18 172 [.t 17,(.c (zI (-16777216))),(.c (zI 16777216))]),ze 14 (zt 19 18),zp 20 14 19,zm 21 20,ze 21 (zf 22 4 1),ze 21 (zl 23 1 22),ze 21 (zf 24 5 1),ze 21 (zl 25 1 24),ze 21 (zy 26 (.bls 1 2 [zI 0] [] [(0,.t 23),(1,.t 25)])),ze 21 (zk 27 173 [.t 26]),ze 21 (zt 28 27),zp 29 21 28]
 (zC 29 (zS [2] [zF 2]
 .ret)
 .skip))
 (zs (zS [1,31] [zf 30 1 1,zl 31 1 30]
 (.block 0 (zs (zS [1,31,32] [zd 33 .eql 31 (zI 1),zm 32 33]
 (zC 32 .skip
 (zr [1,31,32] [zd 34 .eql 31 (zI 2),zm 32 34])))
 (zC 32 (zs (zS [1,59] [zf 35 5 1,zl 36 1 35,zf 37 4 1,zl 38 1 37,zb 39 .leq 36 38,zm 40 39,ze 40 (zf 41 6 1),ze 40 (zl 42 1 41),ze 40 (zf 43 5 1),ze 40 (zl 44 1 43),ze 40 (zf 45 4 1),ze 40 (zl 46 1 45),ze 40 (zb 47 .sub 44 46),ze 40 (zk 48 174 [.t 42,.t 47]),ze 40 (zt 49 48),zp 50 40 49,zm 51 50,ze 51 (zf 52 1 1),ze 51 (zl 53 1 52),ze 51 (zd 54 .eql 53 (zI 1)),ze 51 (zm 55 54),zh 55 (zf 56 7 1),zh 55 (zl 57 1 56),ze 51 (zP 58 55 57),zp 59 51 58]
 (zC 59 (zS [2] [zF 2]
 .ret)
 .skip))
 (zs (zS [1,62] [zf 60 7 1,zl 61 1 60,zt 62 61]
 (zC 62 (zS [2] [zf 63 8 1,zl 64 1 63,zd 65 .eql 64 (zI 0),zm 2 65]
 .ret)
 .skip))
 (zs (.reg true [0,1,0,4,0,16,48,112,252,508,1020,2047,4095] [2] [zf 66 8 1,zl 67 1 66,zf 68 6 1,zl 69 1 68,zf 70 6 1,zl 71 1 70,zn 72 71,zd 73 .sub 72 (zI 1),zi 74 2 69 73,zf 75 1 74,zl 76 1 75,zk 77 172 [.t 67,(.c (zI 0)),.t 76],zm 2 77])
 .ret)))
 (zS [1,78] [zd 79 .eql 31 (zI 3),zm 78 79]
 (zC 78 (zS [2] [zf 80 5 1,zl 81 1 80,zf 82 4 1,zl 83 1 82,zb 84 .geq 81 83,zm 85 84,zh 85 (zf 86 6 1),zh 85 (zl 87 1 86),zh 85 (zn 88 87),zh 85 (zd 89 .eql 88 (zI 0)),zP 90 85 89,zm 91 90,zh 91 (zf 92 7 1),zh 91 (zl 93 1 92),zh 91 (zt 94 93),zP 95 91 94,zm 96 95,zh 96 (zf 97 8 1),zh 96 (zl 98 1 97),zh 96 (zd 99 .eql 98 (zI 0)),zP 100 96 99,zm 2 100]
 .ret)
 .skip))))))
 (zS [2] [zF 2]
 .ret)))) }
def N169:ar:={ np:=2,nt:=9,res:=[(4,none)],body :=
 (zS [2,3] [zo 2 0,zo 3 1,z0 4]
 (zS [4] [zf 5 0 2,zl 6 1 5,zy 7 (.mk 176 [.t 3]),zk 8 175 [.t 6,.t 7],zm 4 8]
 .ret)) }
def N170:ar:={ np:=1,nt:=97,res:=[(2,none)],body :=
 (zS [1] [zo 1 0,zF 2]
 (zs (zs (.reg true [0,1,3,7,15,31,63,127,255,511,1023,2047,4095,8191,16383,32767,65535,131071,262143,131071,655359,2097151,4194303,8388607,16777215,33554431,67108863,134217727,268435455,536870911,1073741823,2147483647,2147483647,6442450943,17179869183,34359738367,68719476735] [1,39] [zf 3 0 1,zl 4 1 3,zk 5 58 [.t 4],zt 6 5,zm 7 6,ze 7 (zf 8 1 1),ze 7 (zl 9 1 8),ze 7 (zk 10 58 [.t 9]),ze 7 (zt 11 10),zp 12 7 11,zm 13 12,ze 13 (zf 14 2 1),ze 13 (zl 15 1 14),ze 13 (zk 16 58 [.t 15]),ze 13 (zt 17 16),zp 18 13 17,zm 19 18,ze 19 (zf 20 1 1),ze 19 (zl 21 1 20),ze 19 (zf 22 2 1),ze 19 (zl 23 1 22),ze 19 (zb 24 .eql 21 23),zp 25 19 24,zm 26 25,ze 26 (zf 27 5 1),ze 26 (zl 28 1 27),ze 26 (zy 29 (.bls 1 1 [zI 0] [] [(0,.t 28)])),ze 26 (zk 30 173 [.t 29]),ze 26 (zt 31 30),zp 32 26 31,zm 33 32,ze 33 (zL 34 11 1),ze 33 (zL 35 11 1),ze 33 (zk 36 178 [.t 35]),ze 33 (zk 37 177 [.t 34,.t 36]),ze 33 (zt 38 37),zp 39 33 38])
 (zC 39 (zS [2] [zF 2]
 .ret)
 .skip))
 (zs (zS [1,41] [zf 40 3 1,zl 41 1 40]
 (.block 0 (zS [1,41,42] [zd 43 .eql 41 (zI 1),zm 42 43]
 (zC 42 (zS [2] [zf 44 4 1,zl 45 1 44,zk 46 172 [.t 45,(.c (zI 1)),(.c (zI 16777216))],zm 47 46,zh 47 (zf 48 6 1),zh 47 (zl 49 1 48),zh 47 (zy 50 (.bls 1 1 [zI 0] [] [(0,.t 49)])),zh 47 (zk 51 173 [.t 50]),zP 52 47 51,zm 53 52,zh 53 (zf 54 7 1),zh 53 (zl 55 1 54),zh 53 (zk 56 58 [.t 55]),zP 57 53 56,zm 2 57]
 .ret)
 (zS [1,41,58] [zd 59 .eql 41 (zI 2),zm 58 59]
 (zC 58 (zS [2] [zf 60 8 1,zl 61 1 60,zk 62 172 [.t 61,(.c (zI 1)),(.c (zI 1048576))],zm 2 62]
 .ret)
 (zS [1,41,63] [zd 64 .eql 41 (zI 3),zm 63 64]
 (zC 63 (zS [2] [zf 65 8 1,zl 66 1 65,zk 67 172 [.t 66,(.c (zI 1)),(.c (zI 32768))],zm 68 67,zh 68 (zf 69 9 1),zh 68 (zl 70 1 69),zh 68 (zk 71 172 [.t 70,(.c (zI 1)),(.c (zI 32768))]),zP 72 68 71,zm 2 72]
 .ret)
 (zS [1,73] [zd 74 .eql 41 (zI 4),zm 73 74]
 (zC 73 (zS [2] [zf 75 6 1,zl 76 1 75,zy 77 (.bls 1 1 [zI 0] [] [(0,.t 76)]),zk 78 173 [.t 77],zm 79 78,zh 79 (zf 80 6 1),zh 79 (zl 81 1 80),zh 79 (zf 82 5 1),zh 79 (zl 83 1 82),zh 79 (zb 84 .lss 81 83),zP 85 79 84,zm 86 85,zh 86 (zf 87 10 1),zh 86 (zl 88 1 87),zh 86 (zk 89 72 [.t 88]),zP 90 86 89,zm 91 90,zh 91 (zf 92 10 1),zh 91 (zl 93 1 92),zh 91 (zy 94 (.call 179 [.t 93,(.c (.fn 180 []))] [])),zh 91 (zt 95 94),zP 96 91 95,zm 2 96]
 .ret)
 .skip))))))))))
 (zS [2] [zF 2]
 .ret)))) }
def N171:ar:={ np:=2,nt:=9,res:=[(4,none)],body :=
 (zS [2,3] [zo 2 0,zo 3 1,z0 4]
 (zS [4] [zf 5 1 2,zl 6 1 5,zy 7 (.mk 182 [.t 3]),zk 8 181 [.t 6,.t 7],zm 4 8]
 .ret)) }
def N172:ar:={ np:=3,nt:=15,res:=[(6,none)],body :=
 (zS [0,1,2] [zF 6]
 (zS [6] [zm 7 0,zm 8 1,zb 9 .geq 7 8,zm 10 9,zh 10 (zm 11 0),zh 10 (zm 12 2),zh 10 (zb 13 .leq 11 12),zP 14 10 13,zm 6 14]
 .ret)) }
def N173:ar:={ np:=1,nt:=6,res:=[(2,none)],body :=
 (zS [0] [zF 2]
 (zS [2] [zq 3 0,zy 4 (.call 11 [.t 3,(.c (.fn 183 []))] []),zt 5 4,zm 2 5]
 .ret)) }
def N174:ar:={ np:=2,nt:=31,res:=[(4,none)],body :=
 (zS [0,1] [zF 4]
 (zs (zS [0,1,8] [zm 6 0,zk 7 72 [.t 6],zt 8 7]
 (zC 8 (zS [4] [zF 4]
 .ret)
 .skip))
 (zS [0,1,5] [zm 9 0,zm 10 0,zn 11 10,zd 12 .sub 11 (zI 1),zi 13 2 9 12,zL 14 2 13,zy 5 (.alc zA1),zw (.st 2 [] (.t 5) (.t 14))]
 (zS [4] [zq 15 0,zy 16 (.iadS 2 (.t 15) (.c (zI 0))),zL 17 2 16,zy 18 (.bld [zI 0,zI 0] []),zy 19 (.beq false [0,0] (.t 17) (.t 18)),zm 20 19,zh 20 (zf 21 0 5),zh 20 (zl 22 1 21),zh 20 (zm 23 1),zh 20 (zb 24 .eql 22 23),zP 25 20 24,zm 26 25,zh 26 (zf 27 1 5),zh 26 (zl 28 1 27),zh 26 (zd 29 .leq 28 (zI 1125899906842624)),zP 30 26 29,zm 4 30]
 .ret)))) }
def N175:ar:={ np:=2,nt:=19,res:=[(4,none)],body :=
 (zS [0,1] [z0 4]
 (zs (zS [0,1,7,8] [zm 6 0,zn 7 6,z0 8]
 (.block 0 (.loop (zS [0,1,7,8,9] [zb 9 .lss 8 7]
 (zs (zC 9 .skip
 (.exit 0))
 (zs (.block 1 (zS [0,1,5,7,8] [zm 10 8,zm 5 10]
 (zS [0,1,5,7,8,16] [zm 11 1,zm 12 0,zm 13 5,zi 14 9 12 13,zL 15 9 14,zy 16 (.callv (.t 11) [.t 15])]
 (zC 16 (zS [4] [zm 17 5,zm 4 17]
 .ret)
 .skip))))
 (zr [0,1,7,8] [zd 18 .add 8 (zI 1),zm 8 18])))))))
 (zS [4] [zy 4 (.mov (.c (zI (-1))))]
 .ret))) }
def N176:ar:={ np:=2,nt:=8,res:=[(3,none)],body :=
 (zS [1,2] [zo 2 0,zF 3]
 (zS [3] [zf 4 0 2,zl 5 1 4,zl 6 1 1,zb 7 .eql 5 6,zm 3 7]
 .ret)) }
def N177:ar:={ np:=2,nt:=80,res:=[(4,none)],body :=
 (zS [2,3] [zo 2 0,zo 3 1,zF 4]
 (zS [4] [zf 5 0 2,zl 6 1 5,zf 7 0 3,zl 8 1 7,zb 9 .eql 6 8,zm 10 9,zh 10 (zf 11 1 2),zh 10 (zl 12 1 11),zh 10 (zf 13 1 3),zh 10 (zl 14 1 13),zh 10 (zb 15 .eql 12 14),zP 16 10 15,zm 17 16,zh 17 (zf 18 2 2),zh 17 (zl 19 1 18),zh 17 (zf 20 2 3),zh 17 (zl 21 1 20),zh 17 (zb 22 .eql 19 21),zP 23 17 22,zm 24 23,zh 24 (zf 25 3 2),zh 24 (zl 26 1 25),zh 24 (zf 27 3 3),zh 24 (zl 28 1 27),zh 24 (zb 29 .eql 26 28),zP 30 24 29,zm 31 30,zh 31 (zf 32 4 2),zh 31 (zl 33 1 32),zh 31 (zf 34 4 3),zh 31 (zl 35 1 34),zh 31 (zb 36 .eql 33 35),zP 37 31 36,zm 38 37,zh 38 (zf 39 5 2),zh 38 (zl 40 1 39),zh 38 (zf 41 5 3),zh 38 (zl 42 1 41),zh 38 (zb 43 .eql 40 42),zP 44 38 43,zm 45 44,zh 45 (zf 46 6 2),zh 45 (zl 47 1 46),zh 45 (zf 48 6 3),zh 45 (zl 49 1 48),zh 45 (zb 50 .eql 47 49),zP 51 45 50,zm 52 51,zh 52 (zf 53 7 2),zh 52 (zl 54 1 53),zh 52 (zf 55 7 3),zh 52 (zl 56 1 55),zh 52 (zb 57 .eql 54 56),zP 58 52 57,zm 59 58,zh 59 (zf 60 8 2),zh 59 (zl 61 1 60),zh 59 (zf 62 8 3),zh 59 (zl 63 1 62),zh 59 (zb 64 .eql 61 63),zP 65 59 64,zm 66 65,zh 66 (zf 67 9 2),zh 66 (zl 68 1 67),zh 66 (zf 69 9 3),zh 66 (zl 70 1 69),zh 66 (zb 71 .eql 68 70),zP 72 66 71,zm 73 72,zh 73 (zf 74 10 2),zh 73 (zl 75 1 74),zh 73 (zf 76 10 3),zh 73 (zl 77 1 76),zh 73 (zk 78 184 [.t 75,.t 77]),zP 79 73 78,zm 4 79]
 .ret)) }
def N178:ar:={ np:=1,nt:=50,res:=[(2,some (11,true))],body :=
 (zS [1,2] [zo 1 0,zy 2 (.alc zA2)]
 (zS [1,2,3] [zf 4 0 1,zl 5 1 4,zf 6 1 1,zl 7 1 6,zf 8 2 1,zl 9 1 8,zf 10 3 1,zl 11 1 10,zf 12 5 1,zl 13 1 12,zy 14 (.bld [.str [],.str [],.str [],zI 0,zI 0,zI 0,zI 0,.str [],zI 0,zI 0,.nils] [(0,1,.t 5),(1,1,.t 7),(2,1,.t 9),(3,1,.t 11),(5,1,.t 13)]),zy 3 (.alc zA2),zw (.st 11 [] (.t 3) (.t 14))]
 (zs (zS [1,2,3,16] [zf 15 3 1,zl 16 1 15]
 (.block 0 (zS [1,2,3,16,17] [zd 18 .eql 16 (zI 1),zm 17 18]
 (zC 17 (.reg true [0,1,0,4,0,16,3,67,207,463,1023,2047] [2,3] [zf 19 4 1,zl 20 1 19,zf 21 6 1,zl 22 1 21,zf 23 7 1,zl 24 1 23,zf 25 4 3,zw (.st 1 [] (.t 25) (.t 20)),zf 26 6 3,zw (.st 1 [] (.t 26) (.t 22)),zf 27 7 3,zw (.st 1 [] (.t 27) (.t 24))])
 (zS [1,2,3,16,28] [zd 29 .eql 16 (zI 2),zm 28 29]
 (zC 28 (zr [2,3] [zf 30 8 1,zl 31 1 30,zf 32 8 3,zw (.st 1 [] (.t 32) (.t 31))])
 (zS [1,2,3,16,33] [zd 34 .eql 16 (zI 3),zm 33 34]
 (zC 33 (.reg true [0,1,0,4,3,19,63,127] [2,3] [zf 35 8 1,zl 36 1 35,zf 37 9 1,zl 38 1 37,zf 39 8 3,zw (.st 1 [] (.t 39) (.t 36)),zf 40 9 3,zw (.st 1 [] (.t 40) (.t 38))])
 (zS [1,2,3,41] [zd 42 .eql 16 (zI 4),zm 41 42]
 (zC 41 (.reg true [0,1,0,4,3,19,63,127] [2,3] [zf 43 6 1,zl 44 1 43,zf 45 10 1,zl 46 1 45,zf 47 6 3,zw (.st 1 [] (.t 47) (.t 44)),zf 48 10 3,zw (.st 1 [] (.t 48) (.t 46))])
 .skip))))))))))
 (zS [2] [zL 49 11 3,zw (.st 11 [] (.t 2) (.t 49))]
 .ret)))) }
def N179:ar:={ np:=2,nt:=9,res:=[(4,none)],body :=
 (zS [0,1] [zF 4]
 (zS [4] [zq 5 0,zm 6 1,zk 7 185 [.t 5,.t 6],zd 8 .geq 7 (zI 0),zm 4 8]
 .ret)) }
def N180:ar:={ np:=1,nt:=13,res:=[(2,none)],body :=
 (zS [1] [zo 1 0,zF 2]
 (zS [2] [zf 3 0 1,zl 4 1 3,zk 5 172 [.t 4,(.c (zI 0)),(.c (zI 4194304))],zt 6 5,zm 7 6,ze 7 (zf 8 1 1),ze 7 (zl 9 1 8),ze 7 (zk 10 172 [.t 9,(.c (zI 0)),(.c (zI 1099511627776))]),ze 7 (zt 11 10),zp 12 7 11,zm 2 12]
 .ret)) }
def N181:ar:={ np:=2,nt:=19,res:=[(4,none)],body :=
 (zS [0,1] [z0 4]
 (zs (zS [0,1,7,8] [zm 6 0,zn 7 6,z0 8]
 (.block 0 (.loop (zS [0,1,7,8,9] [zb 9 .lss 8 7]
 (zs (zC 9 .skip
 (.exit 0))
 (zs (.block 1 (zS [0,1,5,7,8] [zm 10 8,zm 5 10]
 (zS [0,1,5,7,8,16] [zm 11 1,zm 12 0,zm 13 5,zi 14 11 12 13,zL 15 11 14,zy 16 (.callv (.t 11) [.t 15])]
 (zC 16 (zS [4] [zm 17 5,zm 4 17]
 .ret)
 .skip))))
 (zr [0,1,7,8] [zd 18 .add 8 (zI 1),zm 8 18])))))))
 (zS [4] [zy 4 (.mov (.c (zI (-1))))]
 .ret))) }
def N182:ar:={ np:=2,nt:=8,res:=[(3,none)],body :=
 (zS [1,2] [zo 2 0,zF 3]
 (zS [3] [zf 4 0 2,zl 5 1 4,zl 6 1 1,zb 7 .eql 5 6,zm 3 7]
 .ret)) }
def N183:ar:={ np:=1,nt:=9,res:=[(2,none)],body :=
 (zS [0] [zF 2]
 (zS [2] [zm 3 0,zy 4 (.bin .lss (.t 3) (.c (zI (-4194304)))),zm 5 4,ze 5 (zm 6 0),ze 5 (zd 7 .gtr 6 (zI 4194304)),zp 8 5 7,zm 2 8]
 .ret)) }
def N184:ar:={ np:=2,nt:=26,res:=[(4,none)],body :=
 (zS [0,1] [zF 4]
 (zs (zS [0,1,10] [zm 6 0,zn 7 6,zm 8 1,zn 9 8,zb 10 .neq 7 9]
 (zC 10 (zS [4] [zF 4]
 .ret)
 .skip))
 (zs (zS [0,1,12,13] [zm 11 0,zn 12 11,z0 13]
 (.block 0 (.loop (zS [0,1,12,13,14] [zb 14 .lss 13 12]
 (zs (zC 14 .skip
 (.exit 0))
 (zs (.block 1 (zS [0,1,5,12,13] [zm 15 13,zm 5 15]
 (zs (.reg true [0,0,3,7,0,0,48,112,255] [0,1,12,13,24] [zm 16 0,zm 17 5,zi 18 2 16 17,zL 19 2 18,zm 20 1,zm 21 5,zi 22 2 20 21,zL 23 2 22,zy 24 (.beq true [0,0] (.t 19) (.t 23))])
 (zC 24 (zS [4] [zF 4]
 .ret)
 .skip))))
 (zr [0,1,12,13] [zd 25 .add 13 (zI 1),zm 13 25])))))))
 (zS [4] [zc 4 (.bool true)]
 .ret)))) }
def N185:ar:={ np:=2,nt:=19,res:=[(4,none)],body :=
 (zS [0,1] [z0 4]
 (zs (zS [0,1,7,8] [zm 6 0,zn 7 6,z0 8]
 (.block 0 (.loop (zS [0,1,7,8,9] [zb 9 .lss 8 7]
 (zs (zC 9 .skip
 (.exit 0))
 (zs (.block 1 (zS [0,1,5,7,8] [zm 10 8,zm 5 10]
 (zS [0,1,5,7,8,16] [zm 11 1,zm 12 0,zm 13 5,zi 14 2 12 13,zL 15 2 14,zy 16 (.callv (.t 11) [.t 15])]
 (zC 16 (zS [4] [zm 17 5,zm 4 17]
 .ret)
 .skip))))
 (zr [0,1,7,8] [zd 18 .add 8 (zI 1),zm 8 18])))))))
 (zS [4] [zy 4 (.mov (.c (zI (-1))))]
 .ret))) }
def N266:ar:={ np:=1,nt:=18,res:=[(2,none)],body :=
 (zS [0] [z0 2]
 (zS [0,3] [z0 3]
 (zs (zS [3,6,7,8] [zq 6 0,zn 7 6,z0 8]
 (.block 0 (.loop (zS [3,6,7,8,9] [zb 9 .lss 8 7]
 (zs (zC 9 .skip
 (.exit 0))
 (zs (.block 1 (zS [3,5,6,7,8] [zi 10 1 6 8,zl 11 1 10,zm 5 11]
 (zS [3,5,6,7,8,14] [zm 12 5,zm 13 3,zb 14 .neq 12 13]
 (zC 14 (zS [2] [zm 15 5,zm 2 15]
 .ret)
 .skip))))
 (zr [3,6,7,8] [zd 16 .add 8 (zI 1),zm 8 16])))))))
 (zS [2] [zm 17 3,zm 2 17]
 .ret)))) }
def N267:ar:={ np:=2,nt:=20,res:=[(4,none)],body :=
 (zS [0,1] [z0 4]
 (zS [0,1,5] [zm 7 0,zk 8 299 [.t 7],zm 5 8]
 (zS [0,1,5,6] [zm 9 1,zk 10 299 [.t 9],zm 6 10]
 (zs (zS [0,1,6,11] [zm 11 5]
 (zC 11 (zs (zS [12] [zm 12 6]
 (zC 12 (zS [4] [z0 4]
 .ret)
 .skip))
 (zS [4] [zy 4 (.mov (.c (zI (-1))))]
 .ret))
 .skip))
 (zs (zS [0,1,13] [zm 13 6]
 (zC 13 (zS [4] [zc 4 (zI 1)]
 .ret)
 .skip))
 (zs (zS [0,1,16] [zm 14 0,zm 15 1,zb 16 .lss 14 15]
 (zC 16 (zS [4] [zy 4 (.mov (.c (zI (-1))))]
 .ret)
 .skip))
 (zs (zS [19] [zm 17 0,zm 18 1,zb 19 .gtr 17 18]
 (zC 19 (zS [4] [zc 4 (zI 1)]
 .ret)
 .skip))
 (zS [4] [z0 4]
 .ret)))))))) }
def N299:ar:={ np:=1,nt:=6,res:=[(2,none)],body :=
 (zS [0] [zF 2]
 (zS [2] [zm 3 0,zm 4 0,zb 5 .neq 3 4,zm 2 5]
 .ret)) }
def N315:ar:={ np:=2,nt:=48,res:=[(4,none)],body :=
 (zS [0,1] [zc 4 .nils]
 (zs (zS [0,1,10] [zm 9 1,zd 10 .lss 9 (zI 0)]
 (zC 10 (zr [0,1] [zy 11 (.dead),zw (.dead)])
 .skip))
 (zS [0,5,6] [zm 13 0,zn 14 13,zy 15 (.conv .u64 (.t 14)),zm 16 1,zy 17 (.conv .u64 (.t 16)),zk 18 333 [.t 15,.t 17],zm 12 18,zx 19 0 12,zx 20 1 12,zm 5 19,zm 6 20]
 (zs (zS [0,6,26] [zm 21 5,zd 22 .gtr 21 (.int .u64 0),zm 23 22,ze 23 (zm 24 6),ze 23 (zd 25 .gtr 24 (.int .u64 9223372036854775807)),zp 26 23 25]
 (zC 26 (zr [0,6] [zy 27 (.dead),zw (.dead)])
 .skip))
 (zS [0,7] [zm 28 6,zy 29 (.conv .i64 (.t 28)),zy 30 (.mks 1 8 [zI 0] (.t 29) (.t 29)),zq 7 30]
 (zS [7,8] [zm 31 7,zq 32 0,zy 33 (.cpy 1 (.t 31) (.t 32)),zm 8 33]
 (zs (.block 0 (.loop (zs (zS [7,8,37] [zm 34 8,zm 35 7,zn 36 35,zb 37 .lss 34 36]
 (zC 37 .skip
 (.exit 0)))
 (.block 1 (.reg true [0,0,0,6,0,0,48,126,255,511] [7,8] [zm 38 8,zm 39 7,zm 40 8,zy 41 (.slc 1 (.t 39) (some (.t 40)) none),zm 42 7,zm 43 8,zy 44 (.slc 1 (.t 42) none (some (.t 43))),zy 45 (.cpy 1 (.t 41) (.t 44)),zb 46 .add 38 45,zm 8 46])))))
 (zS [4] [zq 47 7,zq 4 47]
 .ret)))))))) }
def N333:ar:={ np:=2,nt:=30,res:=[(4,none),(5,none)],body :=
 (zS [0,1] [zc 4 (.int .u64 0),zc 5 (.int .u64 0)]
 (zs (.cond (.c (.bool false)) (zS [6,7] [zm 11 0,zy 12 (.conv .u32 (.t 11)),zm 13 1,zy 14 (.conv .u32 (.t 13)),zk 15 339 [.t 12,.t 14],zm 10 15,zx 16 0 10,zx 17 1 10,zm 6 16,zm 7 17]
 (zS [4,5] [zm 18 6,zy 19 (.conv .u64 (.t 18)),zm 20 7,zy 21 (.conv .u64 (.t 20)),zm 4 19,zm 5 21]
 .ret))
 .skip)
 (zS [8,9] [zm 23 0,zm 24 1,zk 25 91 [.t 23,.t 24],zm 22 25,zx 26 0 22,zx 27 1 22,zm 8 26,zm 9 27]
 (zS [4,5] [zm 28 8,zm 29 9,zm 4 28,zm 5 29]
 .ret)))) }
def N339:ar:={ np:=2,nt:=17,res:=[(4,none),(5,none)],body :=
 (zS [0,1] [zc 4 (.int .u32 0),zc 5 (.int .u32 0)]
 (zS [6] [zm 7 0,zy 8 (.conv .u64 (.t 7)),zm 9 1,zy 10 (.conv .u64 (.t 9)),zb 11 .mul 8 10,zm 6 11]
 (zS [4,5] [zm 12 6,zd 13 .shr 12 (.int .u64 32),zy 14 (.conv .u32 (.t 13)),zm 15 6,zy 16 (.conv .u32 (.t 15)),zm 4 14,zm 5 16]
 .ret))) }
def N411:ar:={ np:=2,nt:=17,res:=[(4,none)],body :=
 (zS [0,1] [zF 4]
 (zS [4] [zm 5 0,zk 6 299 [.t 5],zm 7 6,zh 7 (zm 8 1),zh 7 (zk 9 299 [.t 8]),zh 7 (zt 10 9),zP 11 7 10,zm 12 11,ze 12 (zm 13 0),ze 12 (zm 14 1),ze 12 (zb 15 .lss 13 14),zp 16 12 15,zm 4 16]
 .ret)) }
def N428:ar:={ np:=2,nt:=23,res:=[(4,none),(5,none)],body :=
 (zS [1,2] [zo 2 0,zc 4 .nils,z0 5]
 (zs (zS [1,2,9] [zL 7 2 2,zk 8 433 [.t 7],zt 9 8]
 (zC 9 (zS [4,5] [zc 4 .nils,zc 5 (zI 1)]
 .ret)
 .skip))
 (zs (zS [1,2,6] [zm 10 1,zf 11 0 2,zl 12 1 11,zn 13 12,zk 14 460 [.t 10,.t 13],zm 6 14]
 (zS [1,2,6,16] [zm 15 6,zd 16 .neq 15 (zI 0)]
 (zC 16 (zS [4,5] [zm 17 6,zc 4 .nils,zm 5 17]
 .ret)
 .skip)))
 (zS [4,5] [zL 18 2 2,zq 19 1,zk 20 461 [.t 18,.t 19],zx 21 0 20,zx 22 1 20,zq 4 21,zm 5 22]
 .ret)))) }
def N433:ar:={ np:=1,nt:=22,res:=[(2,none)],body :=
 (zS [1] [zo 1 0,zF 2]
 (zs (zS [1,7] [zf 5 1 1,zl 6 1 5,zy 7 (.call 455 [.t 6,(.c (.fn 470 []))] [])]
 (zC 7 (zS [2] [zF 2]
 .ret)
 .skip))
 (zS [1,3,4] [zL 9 2 1,zk 10 471 [.t 9],zm 8 10,zx 11 0 8,zx 12 1 8,zq 3 11,zm 4 12]
 (zS [2] [zm 13 4,zd 14 .eql 13 (zI 0),zm 15 14,zh 15 (zf 16 0 1),zh 15 (zl 17 1 16),zh 15 (zn 18 17),zh 15 (zq 19 3),zh 15 (zk 20 472 [.t 18,.t 19]),zP 21 15 20,zm 2 21]
 .ret)))) }
def N435:ar:={ np:=2,nt:=26,res:=[(4,none)],body :=
 (zS [0,1] [zF 4]
 (zs (zS [0,1,10] [zm 6 0,zn 7 6,zm 8 1,zn 9 8,zb 10 .neq 7 9]
 (zC 10 (zS [4] [zF 4]
 .ret)
 .skip))
 (zs (zS [0,1,12,13] [zm 11 0,zn 12 11,z0 13]
 (.block 0 (.loop (zS [0,1,12,13,14] [zb 14 .lss 13 12]
 (zs (zC 14 .skip
 (.exit 0))
 (zs (.block 1 (zS [0,1,5,12,13] [zm 15 13,zm 5 15]
 (zs (.reg true [0,0,3,7,0,0,48,112,255] [0,1,12,13,24] [zm 16 0,zm 17 5,zi 18 1 16 17,zl 19 1 18,zm 20 1,zm 21 5,zi 22 1 20 21,zl 23 1 22,zb 24 .neq 19 23])
 (zC 24 (zS [4] [zF 4]
 .ret)
 .skip))))
 (zr [0,1,12,13] [zd 25 .add 13 (zI 1),zm 13 25])))))))
 (zS [4] [zc 4 (.bool true)]
 .ret)))) }
def N441:ar:={ np:=2,nt:=16,res:=[(4,none),(5,none)],body :=
 (zS [0,3] [zo 3 1,z0 4,z0 5]
 (zs (zS [0,3,9] [zm 7 0,zk 8 44 [.t 7],zt 9 8]
 (zC 9 (zS [4,5] [z0 4,zc 5 (zI 1)]
 .ret)
 .skip))
 (zs (zS [6] [zq 10 0,zy 11 (.mk 480 [.t 3]),zk 12 52 [.t 10,.t 11],zm 6 12]
 (zS [6,14] [zm 13 6,zd 14 .geq 13 (zI 0)]
 (zC 14 (zS [4,5] [zm 15 6,zm 4 15,z0 5]
 .ret)
 .skip)))
 (zS [4,5] [z0 4,zc 5 (zI 9)]
 .ret)))) }
def N442:ar:={ np:=3,nt:=81,res:=[(6,none),(7,none),(8,none)],body :=
 (zS [1,2,3] [zo 3 0,zc 6 .nils,zc 7 .nils,z0 8]
 (zs (zS [1,2,3,9] [zL 18 2 3,zm 19 1,zm 20 2,zf 21 0 3,zl 22 1 21,zn 23 22,zk 24 473 [.t 18,.t 19,.t 20,.t 23],zm 9 24]
 (zS [1,2,3,9,26] [zm 25 9,zd 26 .neq 25 (zI 0)]
 (zC 26 (zS [6,7,8] [zm 27 9,zc 6 .nils,zc 7 .nils,zm 8 27]
 .ret)
 .skip)))
 (zS [1,3,10,11] [zL 29 2 3,zq 30 2,zk 31 461 [.t 29,.t 30],zm 28 31,zx 32 0 28,zx 33 1 28,zq 10 32,zm 11 33]
 (zs (zS [1,3,10,11,35] [zm 34 11,zd 35 .neq 34 (zI 0)]
 (zC 35 (zS [6,7,8] [zm 36 11,zc 6 .nils,zc 7 .nils,zm 8 36]
 .ret)
 .skip))
 (zS [1,3,10,12,13] [zy 12 (.nilo 1),zy 13 (.nilo 1)]
 (zs (zS [1,10,12,13,38,39,40] [zf 37 1 3,zl 38 1 37,zn 39 38,z0 40]
 (.block 0 (.loop (zS [1,10,12,13,38,39,40,41] [zb 41 .lss 40 39]
 (zs (zC 41 .skip
 (.exit 0))
 (zs (.block 1 (zS [1,10,12,13,14,15,38,39,40] [zm 42 40,zi 43 11 38 40,zL 44 11 43,zy 15 (.alc zA2),zm 14 42,zw (.st 11 [] (.t 15) (.t 44))]
 (zS [1,10,12,13,14,15,16,17,38,39,40] [zm 46 1,zL 47 11 15,zk 48 475 [.t 46,.t 47],zm 45 48,zx 49 0 45,zx 50 1 45,zm 16 49,zm 17 50]
 (zs (zS [1,10,12,13,14,15,16,17,38,39,40,52] [zm 51 17,zd 52 .neq 51 (zI 0)]
 (zC 52 (zS [6,7,8] [zm 53 17,zc 6 .nils,zc 7 .nils,zm 8 53]
 .ret)
 .skip))
 (zs (zS [1,10,12,13,14,15,16,38,39,40,60] [zm 54 10,zm 55 14,zi 56 2 54 55,zf 57 0 56,zl 58 1 57,zm 59 16,zb 60 .gtr 58 59]
 (zC 60 (zr [1,10,12,13,14,15,16,38,39,40] [zm 61 12,zf 62 0 15,zl 63 1 62,zy 64 (.bls 1 1 [.str []] [] [(0,.t 63)]),zy 65 (.app 1 16 false (.t 61) (.t 64)),zq 12 65])
 .skip))
 (zS [1,10,12,13,15,38,39,40,72] [zm 66 10,zm 67 14,zi 68 2 66 67,zf 69 1 68,zl 70 1 69,zm 71 16,zb 72 .gtr 70 71]
 (zC 72 (zr [1,10,12,13,38,39,40] [zm 73 13,zf 74 0 15,zl 75 1 74,zy 76 (.bls 1 1 [.str []] [] [(0,.t 75)]),zy 77 (.app 1 16 false (.t 73) (.t 76)),zq 13 77])
 .skip)))))))
 (zr [1,10,12,13,38,39,40] [zd 78 .add 40 (zI 1),zm 40 78])))))))
 (zS [6,7,8] [zq 79 12,zq 80 13,zq 6 79,zq 7 80,z0 8]
 .ret))))))) }
def N448:ar:={ np:=2,nt:=9,res:=[(4,none)],body :=
 (zS [0,1] [zF 4]
 (zS [4] [zq 5 0,zm 6 1,zk 7 484 [.t 5,.t 6],zd 8 .geq 7 (zI 0),zm 4 8]
 .ret)) }
def N453:ar:={ np:=2,nt:=9,res:=[(4,none)],body :=
 (zS [0,1] [zF 4]
 (zS [4] [zq 5 0,zm 6 1,zk 7 175 [.t 5,.t 6],zd 8 .geq 7 (zI 0),zm 4 8]
 .ret)) }
def N455:ar:={ np:=2,nt:=9,res:=[(4,none)],body :=
 (zS [0,1] [zF 4]
 (zS [4] [zq 5 0,zm 6 1,zk 7 181 [.t 5,.t 6],zd 8 .geq 7 (zI 0),zm 4 8]
 .ret)) }
def N460:ar:={ np:=2,nt:=16,res:=[(4,none)],body :=
 (zS [0,1] [z0 4]
 (zs (.block 0 (zS [0,1,5] [zm 6 0,zy 7 (.call 491 [.t 6,(.c (.fn 492 []))] []),zm 5 7]
 (zC 5 (zS [4] [zc 4 (zI 1)]
 .ret)
 (zS [0,8] [zm 9 0,zn 10 9,zm 11 1,zb 12 .neq 10 11,zm 8 12]
 (zC 8 (zS [4] [zc 4 (zI 3)]
 .ret)
 (zS [13] [zq 14 0,zy 15 (.call 491 [.t 14,(.c (.fn 494 []))] []),zm 13 15]
 (zC 13 (zS [4] [zc 4 (zI 2)]
 .ret)
 .skip)))))))
 (zS [4] [z0 4]
 .ret))) }
def N461:ar:={ np:=2,nt:=97,res:=[(4,none),(5,none)],body :=
 (zS [1,2] [zo 2 0,zc 4 .nils,z0 5]
 (zS [1,2,6,7] [zL 17 2 2,zk 18 495 [.t 17],zm 16 18,zx 19 0 16,zx 20 1 16,zq 6 19,zm 7 20]
 (zs (zS [1,2,6,7,22] [zm 21 7,zd 22 .neq 21 (zI 0)]
 (zC 22 (zS [4,5] [zm 23 7,zc 4 .nils,zm 5 23]
 .ret)
 .skip))
 (zS [1,2,6,7,8] [zL 25 2 2,zk 26 471 [.t 25],zm 24 26,zx 27 0 24,zx 28 1 24,zq 8 27,zm 7 28]
 (zs (zS [1,2,6,7,8,30] [zm 29 7,zd 30 .neq 29 (zI 0)]
 (zC 30 (zS [4,5] [zm 31 7,zc 4 .nils,zm 5 31]
 .ret)
 .skip))
 (zS [1,6,8,9] [zf 32 1 2,zl 33 1 32,zn 34 33,zy 35 (.mks 2 16 [zI 0,zI 0] (.t 34) (.t 34)),zq 9 35]
 (zS [6,8,9,10] [zq 36 1,zy 37 (.callF 496 [.t 36]),zq 10 37]
 (zs (zS [8,9,10,38,39,40] [zq 38 6,zn 39 38,z0 40]
 (.block 0 (.loop (zS [8,9,10,38,39,40,41] [zb 41 .lss 40 39]
 (zs (zC 41 .skip
 (.exit 0))
 (zs (.block 1 (zS [8,9,10,12,38,39,40] [zi 42 1 38 40,zl 43 1 42,zm 12 43]
 (zS [8,9,10,12,38,39,40,44,45,46] [zm 44 8,zn 45 44,z0 46]
 (.block 2 (.loop (zS [8,9,10,12,38,39,40,44,45,46,47] [zb 47 .lss 46 45]
 (zs (zC 47 .skip
 (.exit 2))
 (zs (.block 3 (zS [8,9,10,12,13,14,38,39,40,44,45,46] [zm 48 46,zi 49 2 44 46,zL 50 2 49,zy 14 (.alc zA1),zm 13 48,zw (.st 2 [] (.t 14) (.t 50))]
 (zs (zS [8,9,10,12,13,14,38,39,40,44,45,46,54] [zy 51 (.iadA 2 1 (.t 14) (.c (zI 0))),zl 52 1 51,zm 53 12,zb 54 .neq 52 53]
 (zC 54 (.exit 3)
 .skip))
 (zS [8,9,10,12,14,38,39,40,44,45,46] [zm 55 9,zm 56 13,zm 57 10,zm 58 12,zi 59 2 57 58,zL 60 2 59,zi 61 2 55 56,zw (.st 2 [] (.t 61) (.t 60))]
 (zS [8,9,10,12,15,38,39,40,44,45,46] [zm 62 10,zy 63 (.iadA 2 1 (.t 14) (.c (zI 1))),zl 64 1 63,zi 65 2 62 64,zm 15 65]
 (.reg true [0,0,0,4,12,28,0,0,192,448,960,2044,0,4096,12288,28672,0,0,196608,458752,983040,2093056,2097149,6291453,14680061,33554431,67108863,134217727] [8,9,10,12,38,39,40,44,45,46] [zm 66 15,zm 67 15,zm 68 15,zy 69 (.nck (.t 68)),zf 70 0 69,zl 71 1 70,zm 72 10,zm 73 12,zi 74 2 72 73,zf 75 0 74,zl 76 1 75,zb 77 .add 71 76,zm 78 15,zy 79 (.nck (.t 78)),zf 80 1 79,zl 81 1 80,zm 82 10,zm 83 12,zi 84 2 82 83,zf 85 1 84,zl 86 1 85,zb 87 .add 81 86,zy 88 (.nck (.t 66)),zf 89 0 88,zw (.st 1 [] (.t 89) (.t 77)),zy 90 (.nck (.t 67)),zf 91 1 90,zw (.st 1 [] (.t 91) (.t 87))]))))))
 (zr [8,9,10,12,38,39,40,44,45,46] [zd 92 .add 46 (zI 1),zm 46 92])))))))))
 (zr [8,9,10,38,39,40] [zd 93 .add 40 (zI 1),zm 40 93])))))))
 (zs (zS [9,95] [zm 94 9,zy 95 (.call 491 [.t 94,(.c (.fn 497 []))] [])]
 (zC 95 (zS [4,5] [zc 4 .nils,zc 5 (zI 5)]
 .ret)
 .skip))
 (zS [4,5] [zq 96 9,zq 4 96,z0 5]
 .ret)))))))))) }
def N470:ar:={ np:=1,nt:=6,res:=[(2,none)],body :=
 (zS [1] [zo 1 0,zF 2]
 (zS [2] [zf 3 3 1,zl 4 1 3,zd 5 .neq 4 (zI 1),zm 2 5]
 .ret)) }
def N471:ar:={ np:=1,nt:=9,res:=[(2,none),(3,none)],body :=
 (zS [1] [zo 1 0,zc 2 .nils,z0 3]
 (zs (zS [1,6] [zL 4 2 1,zk 5 164 [.t 4],zt 6 5]
 (zC 6 (zS [2,3] [zc 2 .nils,zc 3 (zI 1)]
 .ret)
 .skip))
 (zS [2,3] [zL 7 2 1,zk 8 499 [.t 7],zq 2 8,z0 3]
 .ret))) }
def N472:ar:={ np:=2,nt:=36,res:=[(4,none)],body :=
 (zS [0,1] [zF 4]
 (zs (zS [0,1,11] [zm 8 0,zm 9 1,zk 10 503 [.t 8,.t 9],zt 11 10]
 (zC 11 (zS [4] [zF 4]
 .ret)
 .skip))
 (zS [0,1,5] [zm 12 0,zy 13 (.mks 1 1 [.bool false] (.t 12) (.t 12)),zq 5 13]
 (zs (zS [0,1,5,14,15,16] [zm 14 1,zn 15 14,z0 16]
 (.block 0 (.loop (zS [0,1,5,14,15,16,17] [zb 17 .lss 16 15]
 (zs (zC 17 .skip
 (.exit 0))
 (zs (.block 1 (zS [0,1,5,7,14,15,16] [zi 18 2 14 16,zL 19 2 18,zy 7 (.alc zA1),zw (.st 2 [] (.t 7) (.t 19))]
 (zs (zS [0,1,5,7,14,15,16,24] [zm 20 5,zy 21 (.iadA 2 1 (.t 7) (.c (zI 0))),zl 22 1 21,zi 23 1 20 22,zl 24 1 23]
 (zC 24 (zS [4] [zF 4]
 .ret)
 .skip))
 (zr [0,1,5,14,15,16] [zm 25 5,zy 26 (.iadA 2 1 (.t 7) (.c (zI 0))),zl 27 1 26,zi 28 1 25 27,zw (.st 1 [] (.t 28) (.c (.bool true)))]))))
 (zr [0,1,5,14,15,16] [zd 29 .add 16 (zI 1),zm 16 29])))))))
 (zS [4] [zm 30 0,zq 31 1,zk 32 504 [.t 30,.t 31],zn 33 32,zm 34 0,zb 35 .eql 33 34,zm 4 35]
 .ret))))) }
def N473:ar:={ np:=4,nt:=27,res:=[(8,none)],body :=
 (zS [1,2,3,4] [zo 4 0,z0 8]
 (zs (zS [1,2,3,4,17] [zL 10 2 4,zk 11 433 [.t 10],zt 12 11,zm 13 12,ze 13 (zm 14 1),ze 13 (zk 15 44 [.t 14]),ze 13 (zt 16 15),zp 17 13 16]
 (zC 17 (zS [8] [zc 8 (zI 1)]
 .ret)
 .skip))
 (zs (zS [1,4,9] [zq 18 2,zm 19 3,zk 20 460 [.t 18,.t 19],zm 9 20]
 (zS [1,4,9,22] [zm 21 9,zd 22 .neq 21 (zI 0)]
 (zC 22 (zS [8] [zm 23 9,zm 8 23]
 .ret)
 .skip)))
 (zS [8] [zL 24 2 4,zq 25 1,zk 26 481 [.t 24,.t 25],zm 8 26]
 .ret)))) }
def N474:ar:={ np:=1,nt:=9,res:=[(2,none)],body :=
 (zS [1] [zo 1 0,z0 2]
 (zS [2] [zf 3 5 1,zl 4 1 3,zf 5 6 1,zl 6 1 5,zb 7 .sub 4 6,zy 8 (.mn (.t 7) (.c (zI 4194304))),zm 2 8]
 .ret)) }
def N475:ar:={ np:=2,nt:=35,res:=[(4,none),(5,none)],body :=
 (zS [0,3] [zo 3 1,z0 4,z0 5]
 (zS [0,3,6,7] [zm 10 0,zf 11 7 3,zl 12 1 11,zk 13 441 [.t 10,.t 12],zm 9 13,zx 14 0 9,zx 15 1 9,zm 6 14,zm 7 15]
 (zs (zS [0,3,6,7,17] [zm 16 7,zd 17 .neq 16 (zI 0)]
 (zC 17 (zS [4,5] [zm 18 7,z0 4,zm 5 18]
 .ret)
 .skip))
 (zs (.reg true [0,0,3,7,0,16,0,64,255,511,1023,1023,2047,8191] [7,8] [zq 20 0,zm 21 6,zi 22 5 20 21,zL 23 5 22,zL 24 11 3,zk 25 474 [.t 24],zf 26 4 3,zl 27 1 26,zk 28 47 [.t 23,.t 25,.t 27],zm 19 28,zx 29 0 19,zx 30 1 19,zm 8 29,zm 7 30])
 (zs (zS [7,8,32] [zm 31 7,zd 32 .eql 31 (zI 5)]
 (zC 32 (zS [4,5] [zc 4 (zI 1099511627776),z0 5]
 .ret)
 .skip))
 (zS [4,5] [zm 33 8,zm 34 7,zm 4 33,zm 5 34]
 .ret)))))) }
def N480:ar:={ np:=2,nt:=8,res:=[(3,none)],body :=
 (zS [1,2] [zo 2 0,zF 3]
 (zS [3] [zf 4 0 2,zl 5 1 4,zl 6 1 1,zb 7 .eql 5 6,zm 3 7]
 .ret)) }
def N481:ar:={ np:=2,nt:=30,res:=[(4,none)],body :=
 (zS [1,2] [zo 2 0,z0 4]
 (zs (zS [1,2,10,11,12] [zf 9 1 2,zl 10 1 9,zn 11 10,z0 12]
 (.block 0 (.loop (zS [1,2,10,11,12,13] [zb 13 .lss 12 11]
 (zs (zC 13 .skip
 (.exit 0))
 (zs (.block 1 (zS [1,2,6,10,11,12] [zi 14 11 10 12,zL 15 11 14,zy 6 (.alc zA2),zw (.st 11 [] (.t 6) (.t 15))]
 (zS [1,2,8,10,11,12] [zm 17 1,zf 18 7 6,zl 19 1 18,zk 20 441 [.t 17,.t 19],zm 16 20,zx 21 0 16,zx 22 1 16,zm 7 21,zm 8 22]
 (zS [1,2,8,10,11,12,24] [zm 23 8,zd 24 .neq 23 (zI 0)]
 (zC 24 (zS [4] [zm 25 8,zm 4 25]
 .ret)
 .skip)))))
 (zr [1,2,10,11,12] [zd 26 .add 12 (zI 1),zm 12 26])))))))
 (zs (zS [29] [zf 27 1 2,zl 28 1 27,zy 29 (.call 455 [.t 28,(.c (.fn 506 []))] [])]
 (zC 29 (zS [4] [zc 4 (zI 23)]
 .ret)
 .skip))
 (zS [4] [z0 4]
 .ret)))) }
def N484:ar:={ np:=2,nt:=19,res:=[(4,none)],body :=
 (zS [0,1] [z0 4]
 (zs (zS [0,1,7,8] [zm 6 0,zn 7 6,z0 8]
 (.block 0 (.loop (zS [0,1,7,8,9] [zb 9 .lss 8 7]
 (zs (zC 9 .skip
 (.exit 0))
 (zs (.block 1 (zS [0,1,5,7,8] [zm 10 8,zm 5 10]
 (zS [0,1,5,7,8,16] [zm 11 1,zm 12 0,zm 13 5,zi 14 1 12 13,zl 15 1 14,zy 16 (.callv (.t 11) [.t 15])]
 (zC 16 (zS [4] [zm 17 5,zm 4 17]
 .ret)
 .skip))))
 (zr [0,1,7,8] [zd 18 .add 8 (zI 1),zm 8 18])))))))
 (zS [4] [zy 4 (.mov (.c (zI (-1))))]
 .ret))) }
def N491:ar:={ np:=2,nt:=9,res:=[(4,none)],body :=
 (zS [0,1] [zF 4]
 (zS [4] [zq 5 0,zm 6 1,zk 7 509 [.t 5,.t 6],zd 8 .geq 7 (zI 0),zm 4 8]
 .ret)) }
def N492:ar:={ np:=1,nt:=6,res:=[(2,none)],body :=
 (zS [1] [zo 1 0,zF 2]
 (zS [2] [zL 3 2 1,zk 4 493 [.t 3],zt 5 4,zm 2 5]
 .ret)) }
def N493:ar:={ np:=1,nt:=18,res:=[(2,none)],body :=
 (zS [1] [zo 1 0,zF 2]
 (zS [2] [zf 3 0 1,zl 4 1 3,zf 5 1 1,zl 6 1 5,zb 7 .leq 4 6,zm 8 7,zh 8 (zf 9 0 1),zh 8 (zl 10 1 9),zh 8 (zk 11 510 [.t 10]),zP 12 8 11,zm 13 12,zh 13 (zf 14 1 1),zh 13 (zl 15 1 14),zh 13 (zk 16 510 [.t 15]),zP 17 13 16,zm 2 17]
 .ret)) }
def N494:ar:={ np:=1,nt:=11,res:=[(2,none)],body :=
 (zS [1] [zo 1 0,zF 2]
 (zS [2] [zf 3 0 1,zl 4 1 3,zd 5 .lss 4 (zI 0),zm 6 5,ze 6 (zf 7 1 1),ze 6 (zl 8 1 7),ze 6 (zd 9 .gtr 8 (zI 1099511627776)),zp 10 6 9,zm 2 10]
 .ret)) }
def N495:ar:={ np:=1,nt:=15,res:=[(2,none),(3,none)],body :=
 (zS [1] [zo 1 0,zc 2 .nils,z0 3]
 (zs (zS [1,6] [zL 4 2 1,zk 5 164 [.t 4],zt 6 5]
 (zC 6 (zS [2,3] [zc 2 .nils,zc 3 (zI 1)]
 .ret)
 .skip))
 (zs (.reg true [0,1,3,0,8,31,63,63,255,511] [2,3] [zf 7 0 1,zl 8 1 7,zn 9 8,zL 10 2 1,zk 11 499 [.t 10],zk 12 511 [.t 9,.t 11],zx 13 0 12,zx 14 1 12,zq 2 13,zm 3 14])
 .ret))) }
def N496:ar:={ np:=1,nt:=8,res:=[(2,none)],body :=
 (zS [0] [zc 2 .nils]
 (zs (zS [0,4] [zm 3 0,zy 4 (.beq false [9] (.t 3) (.c .nils))]
 (zC 4 (zS [2] [zc 2 .nils]
 .ret)
 .skip))
 (zS [2] [zy 5 (.bls 2 0 [zI 0,zI 0] [] []),zq 6 0,zy 7 (.app 2 16 false (.t 5) (.t 6)),zq 2 7]
 .ret))) }
def N497:ar:={ np:=1,nt:=6,res:=[(2,none)],body :=
 (zS [1] [zo 1 0,zF 2]
 (zS [2] [zf 3 1 1,zl 4 1 3,zd 5 .gtr 4 (zI 1099511627776),zm 2 5]
 .ret)) }
def N499:ar:={ np:=1,nt:=27,res:=[(2,none)],body :=
 (zS [1] [zo 1 0,zc 2 .nils]
 (zS [1,3] [zy 3 (.nilo 2)]
 (zs (zS [1,3,7,8,9] [zf 6 1 1,zl 7 1 6,zn 8 7,z0 9]
 (.block 0 (.loop (zS [1,3,7,8,9,10] [zb 10 .lss 9 8]
 (zs (zC 10 .skip
 (.exit 0))
 (zs (.block 1 (zS [1,3,5,7,8,9] [zi 11 11 7 9,zL 12 11 11,zy 5 (.alc zA2),zw (.st 11 [] (.t 5) (.t 12))]
 (.reg true [0,0,0,4,14,0,0,64,254,510,1022,2047,4095] [1,3,7,8,9] [zm 13 3,zL 14 2 1,zf 15 1 5,zl 16 1 15,zk 17 169 [.t 14,.t 16],zL 18 2 1,zf 19 2 5,zl 20 1 19,zk 21 169 [.t 18,.t 20],zy 22 (.bld [zI 0,zI 0] [(0,1,.t 17),(1,1,.t 21)]),zy 23 (.bls 2 1 [zI 0,zI 0] [] [(0,.t 22)]),zy 24 (.app 2 16 false (.t 13) (.t 23)),zq 3 24])))
 (zr [1,3,7,8,9] [zd 25 .add 9 (zI 1),zm 9 25])))))))
 (zS [2] [zq 26 3,zq 2 26]
 .ret)))) }
def N503:ar:={ np:=2,nt:=20,res:=[(4,none)],body :=
 (zS [1,2] [zo 2 0,zF 4]
 (zs (zS [1,2,15] [zl 5 1 2,zd 6 .lss 5 (zI 0),zm 7 6,ze 7 (zl 8 1 2),ze 7 (zd 9 .gtr 8 (zI 300)),zp 10 7 9,zm 11 10,ze 11 (zm 12 1),ze 11 (zn 13 12),ze 11 (zd 14 .gtr 13 (zI 1000)),zp 15 11 14]
 (zC 15 (zS [4] [zF 4]
 .ret)
 .skip))
 (zS [4] [zq 16 1,zy 17 (.mk 515 [.t 2]),zk 18 514 [.t 16,.t 17],zt 19 18,zm 4 19]
 .ret))) }
def N504:ar:={ np:=2,nt:=104,res:=[(4,none)],body :=
 (zS [0,1] [zc 4 .nils]
 (zS [0,5] [zm 20 0,zq 21 1,zk 22 517 [.t 20,.t 21],zq 5 22]
 (zS [5,6] [zm 23 0,zy 24 (.mks 1 8 [zI 0] (.t 23) (.t 23)),zq 6 24]
 (zs (zS [5,6,25,26,27] [zm 25 5,zn 26 25,z0 27]
 (.block 0 (.loop (zS [5,6,25,26,27,28] [zb 28 .lss 27 26]
 (zs (zC 28 .skip
 (.exit 0))
 (zs (.block 1 (zS [5,6,8,25,26,27] [zi 29 1 25 27,zl 30 1 29,zq 8 30]
 (zS [5,6,25,26,27,31,32,33] [zq 31 8,zn 32 31,z0 33]
 (.block 2 (.loop (zS [5,6,25,26,27,31,32,33,34] [zb 34 .lss 33 32]
 (zs (zC 34 .skip
 (.exit 2))
 (zs (.block 3 (zS [5,6,10,25,26,27,31,32,33] [zi 35 1 31 33,zl 36 1 35,zm 10 36]
 (zr [5,6,25,26,27,31,32,33] [zm 37 6,zm 38 10,zi 39 1 37 38,zl 40 1 39,zd 41 .add 40 (zI 1),zi 42 1 37 38,zw (.st 1 [] (.t 42) (.t 41))])))
 (zr [5,6,25,26,27,31,32,33] [zd 43 .add 33 (zI 1),zm 33 43])))))))))
 (zr [5,6,25,26,27] [zd 44 .add 27 (zI 1),zm 27 44])))))))
 (zS [5,6,11,12] [zy 11 (.nilo 1),zy 12 (.nilo 1)]
 (zs (zS [5,6,11,12,45,46,47] [zm 45 6,zn 46 45,z0 47]
 (.block 4 (.loop (zS [5,6,11,12,45,46,47,48] [zb 48 .lss 47 46]
 (zs (zC 48 .skip
 (.exit 4))
 (zs (.block 5 (zS [5,6,11,12,13,14,45,46,47] [zm 49 47,zi 50 1 45 47,zl 51 1 50,zm 13 49,zm 14 51]
 (zS [5,6,11,12,13,45,46,47,53] [zm 52 14,zd 53 .eql 52 (zI 0)]
 (zC 53 (zr [5,6,11,12,45,46,47] [zm 54 11,zm 55 13,zy 56 (.bls 1 1 [zI 0] [] [(0,.t 55)]),zy 57 (.app 1 8 false (.t 54) (.t 56)),zq 11 57])
 .skip))))
 (zr [5,6,11,12,45,46,47] [zd 58 .add 47 (zI 1),zm 47 58])))))))
 (zs (.block 6 (.loop (zs (zS [5,6,11,12,61] [zm 59 11,zn 60 59,zd 61 .gtr 60 (zI 0)]
 (zC 61 .skip
 (.exit 6)))
 (.block 7 (zS [5,6,11,12,15] [zm 62 11,zy 63 (.iadS 1 (.t 62) (.c (zI 0))),zl 64 1 63,zm 15 64]
 (zS [5,6,11,12,15] [zm 65 11,zy 66 (.slc 1 (.t 65) (some (.c (zI 1))) none),zq 11 66]
 (zS [5,6,11,12,15] [zm 67 12,zm 68 15,zy 69 (.bls 1 1 [zI 0] [] [(0,.t 68)]),zy 70 (.app 1 8 false (.t 67) (.t 69)),zq 12 70]
 (zS [5,6,11,12,74,75,76] [zm 71 5,zm 72 15,zi 73 1 71 72,zl 74 1 73,zn 75 74,z0 76]
 (.block 8 (.loop (zS [5,6,11,12,74,75,76,77] [zb 77 .lss 76 75]
 (zs (zC 77 .skip
 (.exit 8))
 (zs (.block 9 (zS [5,6,11,12,17,74,75,76] [zi 78 1 74 76,zl 79 1 78,zm 17 79]
 (zS [5,6,11,12,17,74,75,76] [zm 80 6,zm 81 17,zi 82 1 80 81,zl 83 1 82,zd 84 .sub 83 (zI 1),zi 85 1 80 81,zw (.st 1 [] (.t 85) (.t 84))]
 (zS [5,6,11,12,17,74,75,76,90] [zm 86 6,zm 87 17,zi 88 1 86 87,zl 89 1 88,zd 90 .eql 89 (zI 0)]
 (zC 90 (zS [5,6,11,12,17,18,74,75,76] [zm 92 11,zm 93 17,zk 94 518 [.t 92,.t 93],zm 91 94,zx 95 0 91,zx 96 1 91,zm 18 95,zm 19 96]
 (zr [5,6,11,12,74,75,76] [zm 97 11,zm 98 18,zm 99 17,zy 100 (.bls 1 1 [zI 0] [] [(0,.t 99)]),zy 101 (.callE 519 (.t 97) [.t 98,.t 100]),zq 11 101]))
 .skip)))))
 (zr [5,6,11,12,74,75,76] [zd 102 .add 76 (zI 1),zm 76 102]))))))))))))))
 (zS [4] [zq 103 12,zq 4 103]
 .ret)))))))) }
def N506:ar:={ np:=1,nt:=8,res:=[(2,none)],body :=
 (zS [1] [zo 1 0,zF 2]
 (zS [2] [zf 3 5 1,zl 4 1 3,zf 5 6 1,zl 6 1 5,zb 7 .lss 4 6,zm 2 7]
 .ret)) }
def N509:ar:={ np:=2,nt:=19,res:=[(4,none)],body :=
 (zS [0,1] [z0 4]
 (zs (zS [0,1,7,8] [zm 6 0,zn 7 6,z0 8]
 (.block 0 (.loop (zS [0,1,7,8,9] [zb 9 .lss 8 7]
 (zs (zC 9 .skip
 (.exit 0))
 (zs (.block 1 (zS [0,1,5,7,8] [zm 10 8,zm 5 10]
 (zS [0,1,5,7,8,16] [zm 11 1,zm 12 0,zm 13 5,zi 14 2 12 13,zL 15 2 14,zy 16 (.callv (.t 11) [.t 15])]
 (zC 16 (zS [4] [zm 17 5,zm 4 17]
 .ret)
 .skip))))
 (zr [0,1,7,8] [zd 18 .add 8 (zI 1),zm 8 18])))))))
 (zS [4] [zy 4 (.mov (.c (zI (-1))))]
 .ret))) }
def N510:ar:={ np:=1,nt:=9,res:=[(2,none)],body :=
 (zS [0] [zF 2]
 (zS [2] [zm 3 0,zy 4 (.bin .geq (.t 3) (.c (zI (-72057594037927936)))),zm 5 4,zh 5 (zm 6 0),zh 5 (zd 7 .leq 6 (zI 72057594037927936)),zP 8 5 7,zm 2 8]
 .ret)) }
def N511:ar:={ np:=2,nt:=19,res:=[(4,none),(5,none)],body :=
 (zS [0,1] [zc 4 .nils,z0 5]
 (zs (zS [0,1,10] [zm 7 0,zm 8 1,zk 9 503 [.t 7,.t 8],zt 10 9]
 (zC 10 (zS [4,5] [zc 4 .nils,zc 5 (zI 1)]
 .ret)
 .skip))
 (zS [0,6] [zm 11 0,zq 12 1,zk 13 504 [.t 11,.t 12],zq 6 13]
 (zs (zS [6,17] [zm 14 6,zn 15 14,zm 16 0,zb 17 .lss 15 16]
 (zC 17 (zS [4,5] [zc 4 .nils,zc 5 (zI 22)]
 .ret)
 .skip))
 (zS [4,5] [zq 18 6,zq 4 18,z0 5]
 .ret))))) }
def N514:ar:={ np:=2,nt:=9,res:=[(4,none)],body :=
 (zS [0,1] [zF 4]
 (zS [4] [zq 5 0,zm 6 1,zk 7 522 [.t 5,.t 6],zd 8 .geq 7 (zI 0),zm 4 8]
 .ret)) }
def N515:ar:={ np:=2,nt:=16,res:=[(3,none)],body :=
 (zS [1,2] [zo 2 0,zF 3]
 (zS [3] [zl 4 1 1,zy 5 (.iadA 2 1 (.t 2) (.c (zI 0))),zl 6 1 5,zk 7 516 [.t 4,.t 6],zt 8 7,zm 9 8,ze 9 (zl 10 1 1),ze 9 (zy 11 (.iadA 2 1 (.t 2) (.c (zI 1)))),ze 9 (zl 12 1 11),ze 9 (zk 13 516 [.t 10,.t 12]),ze 9 (zt 14 13),zp 15 9 14,zm 3 15]
 .ret)) }
def N516:ar:={ np:=2,nt:=12,res:=[(4,none)],body :=
 (zS [0,1] [zF 4]
 (zS [4] [zm 5 1,zd 6 .geq 5 (zI 0),zm 7 6,zh 7 (zm 8 1),zh 7 (zm 9 0),zh 7 (zb 10 .lss 8 9),zP 11 7 10,zm 4 11]
 .ret)) }
def N517:ar:={ np:=2,nt:=51,res:=[(4,none)],body :=
 (zS [0,1] [zc 4 .nils]
 (zS [1,5] [zm 9 0,zy 10 (.mks 1 24 [.own 1 []] (.t 9) (.t 9)),zq 5 10]
 (zs (zS [5,11,12,13] [zq 11 1,zn 12 11,z0 13]
 (.block 0 (.loop (zS [5,11,12,13,14] [zb 14 .lss 13 12]
 (zs (zC 14 .skip
 (.exit 0))
 (zs (.block 1 (zS [5,7,11,12,13] [zi 15 2 11 13,zL 16 2 15,zy 7 (.alc zA1),zw (.st 2 [] (.t 7) (.t 16))]
 (.reg true [0,0,2,0,0,16,56,120,0,256,768,2040,4095,8191] [5,11,12,13] [zm 17 5,zy 18 (.iadA 2 1 (.t 7) (.c (zI 0))),zl 19 1 18,zm 20 5,zy 21 (.iadA 2 1 (.t 7) (.c (zI 0))),zl 22 1 21,zi 23 1 20 22,zl 24 1 23,zy 25 (.iadA 2 1 (.t 7) (.c (zI 1))),zl 26 1 25,zy 27 (.bls 1 1 [zI 0] [] [(0,.t 26)]),zy 28 (.app 1 8 false (.t 24) (.t 27)),zi 29 1 17 19,zw (.st 1 [] (.t 29) (.t 28))])))
 (zr [5,11,12,13] [zd 30 .add 13 (zI 1),zm 13 30])))))))
 (zs (zS [5,32,33] [zm 31 5,zn 32 31,z0 33]
 (.block 2 (.loop (zS [5,32,33,34] [zb 34 .lss 33 32]
 (zs (zC 34 .skip
 (.exit 2))
 (zs (.block 3 (zS [5,8,32,33] [zm 35 33,zm 8 35]
 (zS [5,8,32,33] [zm 36 5,zm 37 8,zi 38 1 36 37,zl 39 1 38,zy 40 (.callN 366 (.t 39) [])]
 (zr [5,32,33] [zm 41 5,zm 42 8,zm 43 5,zm 44 8,zi 45 1 43 44,zl 46 1 45,zy 47 (.callE 523 (.t 46) []),zi 48 1 41 42,zw (.st 1 [] (.t 48) (.t 47))]))))
 (zr [5,32,33] [zd 49 .add 33 (zI 1),zm 33 49])))))))
 (zS [4] [zq 50 5,zq 4 50]
 .ret))))) }
def N518:ar:={ np:=2,nt:=54,res:=[(4,none),(5,none)],body :=
 (zS [0,1] [z0 4,zF 5]
 (zS [0,1,6] [zm 10 0,zn 11 10,zm 6 11]
 (zS [0,1,6,7,8] [zm 12 6,z0 7,zm 8 12]
 (zs (.block 0 (.loop (zs (zS [0,1,6,7,8,15] [zm 13 7,zm 14 8,zb 15 .lss 13 14]
 (zC 15 .skip
 (.exit 0)))
 (.block 1 (zS [0,1,6,7,8,9] [zm 16 7,zm 17 8,zb 18 .add 16 17,zy 19 (.conv .u64 (.t 18)),zd 20 .shr 19 (.int .u64 1),zy 21 (.conv .i64 (.t 20)),zm 9 21]
 (zS [0,1,6,7,8,9,27] [zm 22 0,zm 23 9,zi 24 1 22 23,zl 25 1 24,zm 26 1,zk 27 411 [.t 25,.t 26]]
 (zC 27 (zr [0,1,6,7,8] [zm 28 9,zd 29 .add 28 (zI 1),zm 7 29])
 (zr [0,1,6,7,8] [zm 30 9,zm 8 30]))))))))
 (zS [4,5] [zm 31 7,zm 32 7,zm 33 6,zb 34 .lss 32 33,zm 35 34,zh 35 (zm 36 0),zh 35 (zm 37 7),zh 35 (zi 38 1 36 37),zh 35 (zl 39 1 38),zh 35 (zm 40 1),zh 35 (zb 41 .eql 39 40),zh 35 (zm 42 41),ze 42 (zq 43 0),ze 42 (zm 44 7),ze 42 (zi 45 1 43 44),ze 42 (zl 46 1 45),ze 42 (zk 47 524 [.t 46]),ze 42 (zm 48 47),zh 48 (zm 49 1),zh 48 (zk 50 524 [.t 49]),ze 42 (zP 51 48 50),zh 35 (zp 52 42 51),zP 53 35 52,zm 4 31,zm 5 53]
 .ret))))) }
def N522:ar:={ np:=2,nt:=19,res:=[(4,none)],body :=
 (zS [0,1] [z0 4]
 (zs (zS [0,1,7,8] [zm 6 0,zn 7 6,z0 8]
 (.block 0 (.loop (zS [0,1,7,8,9] [zb 9 .lss 8 7]
 (zs (zC 9 .skip
 (.exit 0))
 (zs (.block 1 (zS [0,1,5,7,8] [zm 10 8,zm 5 10]
 (zS [0,1,5,7,8,16] [zm 11 1,zm 12 0,zm 13 5,zi 14 2 12 13,zL 15 2 14,zy 16 (.callv (.t 11) [.t 15])]
 (zC 16 (zS [4] [zm 17 5,zm 4 17]
 .ret)
 .skip))))
 (zr [0,1,7,8] [zd 18 .add 8 (zI 1),zm 8 18])))))))
 (zS [4] [zy 4 (.mov (.c (zI (-1))))]
 .ret))) }
def N524:ar:={ np:=1,nt:=6,res:=[(2,none)],body :=
 (zS [0] [zF 2]
 (zS [2] [zm 3 0,zm 4 0,zb 5 .neq 3 4,zm 2 5]
 .ret)) }
def N544:ar:={ np:=2,nt:=16,res:=[(4,none),(5,none)],body :=
 (zS [1,2] [zo 2 0,zc 4 .nils,z0 5]
 (zs (zS [1,2,10] [zL 7 2 2,zm 8 1,zk 9 587 [.t 7,.t 8],zt 10 9]
 (zC 10 (zS [4,5] [zc 4 .nils,zc 5 (zI 1)]
 .ret)
 .skip))
 (zS [1,2,6] [zy 6 (.alc [.own 2 []])]
 (zS [6] [zL 11 2 2,zq 12 1,zy 13 (.callL 589 (.t 6) [.t 11,.t 12])]
 (zS [4,5] [zl 14 1 6,zy 15 (.callE 590 (.t 14) []),zq 4 15,z0 5]
 .ret))))) }
def N565:ar:={ np:=4,nt:=182,res:=[(8,some (6,true)),(9,none)],body :=
 (zS [1,2,3,4,8] [zo 4 0,zy 8 (.alc zA6),z0 9]
 (zs (.block 0 (zS [1,2,3,4,8,25] [zL 26 2 4,zk 27 164 [.t 26],zt 28 27,zm 29 28,ze 29 (zm 30 1),ze 29 (zk 31 44 [.t 30]),ze 29 (zt 32 31),zp 33 29 32,zm 25 33]
 (zC 25 (zS [8,9] [zy 34 (.bld [.nils,.nils,.nils,.nils,.nils,.nils] []),zw (.st 6 [] (.t 8) (.t 34)),zc 9 (zI 1)]
 .ret)
 (zS [1,2,3,4,8,35] [zm 36 1,zn 37 36,zd 38 .eql 37 (zI 0),zm 35 38]
 (zC 35 (zS [8,9] [zy 39 (.bld [.nils,.nils,.nils,.nils,.nils,.nils] []),zw (.st 6 [] (.t 8) (.t 39)),zc 9 (zI 14)]
 .ret)
 .skip)))))
 (zS [1,2,3,4,8,10,11,12] [zL 41 2 4,zk 42 605 [.t 41],zm 40 42,zx 43 0 40,zx 44 1 40,zx 45 2 40,zq 10 43,zq 11 44,zm 12 45]
 (zs (.block 1 (zS [1,2,3,4,8,10,11,12,46] [zm 47 12,zd 48 .neq 47 (zI 0),zm 46 48]
 (zC 46 (zS [8,9] [zy 49 (.bld [.nils,.nils,.nils,.nils,.nils,.nils] []),zm 50 12,zw (.st 6 [] (.t 8) (.t 49)),zm 9 50]
 .ret)
 (zS [1,2,3,4,8,10,11,51] [zm 52 2,zn 53 52,zf 54 1 4,zl 55 1 54,zn 56 55,zb 57 .neq 53 56,zm 51 57]
 (zC 51 (zS [8,9] [zy 58 (.bld [.nils,.nils,.nils,.nils,.nils,.nils] []),zw (.st 6 [] (.t 8) (.t 58)),zc 9 (zI 3)]
 .ret)
 (zS [1,2,3,4,8,10,11,59] [zm 60 3,zk 61 29 [.t 60,(.c (zI 0)),(.c (zI 4194304))],zt 62 61,zm 63 62,ze 63 (zm 64 2),ze 63 (zy 65 (.call 11 [.t 64,(.c (.fn 606 []))] [])),zp 66 63 65,zm 59 66]
 (zC 59 (zS [8,9] [zy 67 (.bld [.nils,.nils,.nils,.nils,.nils,.nils] []),zw (.st 6 [] (.t 8) (.t 67)),zc 9 (zI 2)]
 .ret)
 .skip)))))))
 (zS [1,2,3,4,8,10,11,13] [zL 69 2 4,zk 70 471 [.t 69],zm 68 70,zx 71 0 68,zx 72 1 68,zq 13 71,zm 14 72]
 (zS [1,2,3,4,8,10,13,15] [zq 73 11,zy 74 (.bld [.nils,.nils,.nils,.nils,.nils,.nils] [(0,1,.t 73)]),zy 15 (.alc zA6),zw (.st 6 [1,1,1,1,1,5] (.t 15) (.t 74))]
 (zs (zS [2,3,4,8,10,13,15,75,76,77] [zq 75 1,zn 76 75,z0 77]
 (.block 2 (.loop (zS [2,3,4,8,10,13,15,75,76,77,78] [zb 78 .lss 77 76]
 (zs (zC 78 .skip
 (.exit 2))
 (zs (.block 3 (zS [2,3,4,8,10,13,15,17,75,76,77] [zi 79 5 75 77,zL 80 5 79,zy 17 (.alc zA3),zw (.st 5 [] (.t 17) (.t 80))]
 (zs (.reg true [0,1,3,0,8,31,31,127,255,511] [2,3,4,8,10,13,15,17,75,76,77] [zf 81 3 17,zl 82 1 81,zk 83 598 [.t 82],zf 84 4 17,zl 85 1 84,zk 86 598 [.t 85],zf 87 3 17,zw (.st 1 [] (.t 87) (.t 83)),zf 88 4 17,zw (.st 1 [] (.t 88) (.t 86))])
 (zr [2,3,4,8,10,13,15,75,76,77] [zf 89 5 15,zl 90 1 89,zy 91 (.ldF 5 (.t 17)),zy 92 (.bls 5 1 [.str [],zI 0,zI 0,.own 2 [],.own 2 []] [] [(0,.t 91)]),zy 93 (.app 5 80 true (.t 90) (.t 92)),zf 94 5 15,zw (.st 1 [] (.t 94) (.t 93))]))))
 (zr [2,3,4,8,10,13,15,75,76,77] [zd 95 .add 77 (zI 1),zm 77 95])))))))
 (zs (zS [2,3,4,8,13,15,96,97,98] [zq 96 10,zn 97 96,z0 98]
 (.block 4 (.loop (zS [2,3,4,8,13,15,96,97,98,99] [zb 99 .lss 98 97]
 (zs (zC 99 .skip
 (.exit 4))
 (zs (.block 5 (zS [2,3,4,8,13,15,19,96,97,98] [zi 100 1 96 98,zl 101 1 100,zm 19 101]
 (zS [2,3,4,8,13,15,19,20,96,97,98] [zf 102 1 4,zl 103 1 102,zm 104 19,zi 105 11 103 104,zL 106 11 105,zy 20 (.alc zA2),zw (.st 11 [] (.t 20) (.t 106))]
 (zs (.reg true [0,1,0,0,12,28,60,127,255,0,512,0,0,6144,14336,30720,65024,130560,0,0,786943,2097151] [2,3,4,8,13,15,19,20,21,22,96,97,98] [zf 107 0 4,zl 108 1 107,zm 109 13,zm 110 19,zi 111 2 109 110,zy 112 (.iadA 2 1 (.t 111) (.c (zI 0))),zl 113 1 112,zi 114 9 108 113,zL 115 9 114,zf 116 0 4,zl 117 1 116,zm 118 13,zm 119 19,zi 120 2 118 119,zy 121 (.iadA 2 1 (.t 120) (.c (zI 1))),zl 122 1 121,zi 123 9 117 122,zL 124 9 123,zy 21 (.alc zA5),zy 22 (.alc zA5),zw (.st 9 [] (.t 21) (.t 115)),zw (.st 9 [] (.t 22) (.t 124))])
 (zs (.reg true [0,1,0,4,15,0,32,0,128,480,0,1024,0,4096,15360,32736,0,131040,262112,31,1048575] [2,3,4,8,13,15,19,20,23,24,96,97,98] [zf 125 5 20,zl 126 1 125,zf 127 6 20,zl 128 1 127,zb 129 .sub 126 128,zf 130 5 21,zl 131 1 130,zf 132 5 20,zl 133 1 132,zb 134 .sub 131 133,zf 135 5 22,zl 136 1 135,zf 137 6 20,zl 138 1 137,zb 139 .sub 136 138,zy 140 (.mn (.t 134) (.t 139)),zm 141 3,zb 142 .sub 140 141,zy 143 (.mx (.c (zI 0)) (.t 142)),zm 23 129,zm 24 143])
 (zs (zS [2,3,4,8,13,15,19,20,23,24,96,97,98,150] [zm 144 23,zk 145 29 [.t 144,(.c (zI 0)),(.c (zI 4194304))],zt 146 145,zm 147 146,ze 147 (zm 148 24),ze 147 (zd 149 .gtr 148 (zI 4194304)),zp 150 147 149]
 (zC 150 (zS [8,9] [zy 151 (.bld [.nils,.nils,.nils,.nils,.nils,.nils] []),zw (.st 6 [] (.t 8) (.t 151)),zc 9 (zI 23)]
 .ret)
 .skip))
 (zs (.reg true [0,1,0,4,12,31,0,64,0,0,768,1792,3840,8191,255,32767,65535,131071] [2,3,4,8,13,15,23,24,96,97,98] [zf 152 1 15,zy 153 (.ldQ 1 (.t 152)),zf 154 4 20,zl 155 1 154,zy 156 (.bls 1 1 [zI 0] [] [(0,.t 155)]),zy 157 (.appQ 1 1 8 (.t 153) (.t 156)),zf 158 2 15,zy 159 (.ldQ 2 (.t 158)),zm 160 2,zm 161 19,zi 162 1 160 161,zl 163 1 162,zy 164 (.bls 1 1 [zI 0] [] [(0,.t 163)]),zy 165 (.appQ 2 1 8 (.t 159) (.t 164)),zf 166 1 15,zw (.st 1 [] (.t 166) (.t 157)),zf 167 2 15,zw (.st 1 [] (.t 167) (.t 165))])
 (.reg true [0,1,0,4,15,0,32,0,128,511,127,2047,4095,8191] [2,3,4,8,13,15,96,97,98] [zf 168 3 15,zy 169 (.ldQ 3 (.t 168)),zm 170 23,zy 171 (.bls 1 1 [zI 0] [] [(0,.t 170)]),zy 172 (.appQ 3 1 8 (.t 169) (.t 171)),zf 173 4 15,zy 174 (.ldQ 4 (.t 173)),zm 175 24,zy 176 (.bls 1 1 [zI 0] [] [(0,.t 175)]),zy 177 (.appQ 4 1 8 (.t 174) (.t 176)),zf 178 3 15,zw (.st 1 [] (.t 178) (.t 172)),zf 179 4 15,zw (.st 1 [] (.t 179) (.t 177))]))))))))
 (zr [2,3,4,8,13,15,96,97,98] [zd 180 .add 98 (zI 1),zm 98 180])))))))
 (zS [8,9] [zy 181 (.ldF 6 (.t 15)),zw (.st 6 [] (.t 8) (.t 181)),z0 9]
 .ret))))))))) }
def N566:ar:={ np:=4,nt:=115,res:=[(8,some (2,true)),(9,none)],body :=
 (zS [1,3,4,6,8] [zo 4 0,zo 6 2,zy 8 (.alc [.own 9 [],.own 11 []]),z0 9]
 (zs (zS [1,3,4,6,8,31] [zL 19 2 4,zk 20 164 [.t 19],zt 21 20,zm 22 21,ze 22 (zm 23 1),ze 22 (zk 24 44 [.t 23]),ze 22 (zt 25 24),zp 26 22 25,zm 27 26,ze 27 (zL 28 6 6),ze 27 (zk 29 24 [.t 28]),ze 27 (zt 30 29),zp 31 27 30]
 (zC 31 (zS [8,9] [zy 32 (.bld [.nils,.nils] []),zw (.st 2 [] (.t 8) (.t 32)),zc 9 (zI 1)]
 .ret)
 .skip))
 (zS [1,3,4,6,8,10,11,12] [zL 34 2 4,zk 35 605 [.t 34],zm 33 35,zx 36 0 33,zx 37 1 33,zx 38 2 33,zq 10 36,zq 11 37,zm 12 38]
 (zs (zS [1,3,4,6,8,10,11,12,40] [zm 39 12,zd 40 .neq 39 (zI 0)]
 (zC 40 (zS [8,9] [zy 41 (.bld [.nils,.nils] []),zm 42 12,zw (.st 2 [] (.t 8) (.t 41)),zm 9 42]
 .ret)
 .skip))
 (zs (zS [1,3,4,6,8,10,62] [zm 43 10,zn 44 43,zf 45 0 6,zl 46 1 45,zn 47 46,zb 48 .neq 44 47,zm 49 48,ze 49 (zq 50 11),ze 49 (zf 51 0 6),ze 49 (zl 52 1 51),ze 49 (zk 53 19 [.t 50,.t 52]),ze 49 (zt 54 53),zp 55 49 54,zm 56 55,ze 56 (zm 57 1),ze 56 (zf 58 5 6),ze 56 (zl 59 1 58),ze 56 (zy 60 (.call 607 [.t 57,.t 59,(.c (.fn 608 []))] [])),ze 56 (zt 61 60),zp 62 56 61]
 (zC 62 (zS [8,9] [zy 63 (.bld [.nils,.nils] []),zw (.st 2 [] (.t 8) (.t 63)),zc 9 (zI 25)]
 .ret)
 .skip))
 (zs (zS [1,3,4,8,10,13] [zL 64 6 6,zm 65 3,zk 66 120 [.t 64,.t 65],zm 13 66]
 (zS [1,3,4,8,10,13,68] [zm 67 13,zd 68 .neq 67 (zI 0)]
 (zC 68 (zS [8,9] [zy 69 (.bld [.nils,.nils] []),zm 70 13,zw (.st 2 [] (.t 8) (.t 69)),zm 9 70]
 .ret)
 .skip)))
 (zS [1,3,4,8,10,14] [zf 71 1 4,zl 72 1 71,zy 73 (.callA 609 [.t 72]),zy 74 (.bld [.nils,.nils] [(1,1,.t 73)]),zy 14 (.alc [.own 9 [],.own 11 []]),zw (.st 2 [9,11] (.t 14) (.t 74))]
 (zs (zS [1,3,8,10,14,76,77,78] [zf 75 0 4,zl 76 1 75,zn 77 76,z0 78]
 (.block 0 (.loop (zS [1,3,8,10,14,76,77,78,79] [zb 79 .lss 78 77]
 (zs (zC 79 .skip
 (.exit 0))
 (zs (.block 1 (zS [1,3,8,10,14,16,76,77,78] [zi 80 9 76 78,zL 81 9 80,zy 16 (.alc zA5),zw (.st 9 [] (.t 16) (.t 81))]
 (zS [1,3,8,10,14,16,76,77,78] [zf 82 6 16,zl 83 1 82,zk 84 598 [.t 83],zf 85 6 16,zw (.st 1 [] (.t 85) (.t 84))]
 (zr [1,3,8,10,14,76,77,78] [zf 86 0 14,zl 87 1 86,zy 88 (.ldF 9 (.t 16)),zy 89 (.bls 9 1 [.str [],zI 0,zI 0,zI 0,zI 0,zI 0,.own 2 [],.bool false,zI 0] [] [(0,.t 88)]),zy 90 (.app 9 96 true (.t 87) (.t 89)),zf 91 0 14,zw (.st 1 [] (.t 91) (.t 90))]))))
 (zr [1,3,8,10,14,76,77,78] [zd 92 .add 78 (zI 1),zm 78 92])))))))
 (zs (zS [1,3,8,14,93,94,95] [zq 93 10,zn 94 93,z0 95]
 (.block 2 (.loop (zS [1,3,8,14,93,94,95,96] [zb 96 .lss 95 94]
 (zs (zC 96 .skip
 (.exit 2))
 (zs (.block 3 (zS [1,3,8,14,17,18,93,94,95] [zm 97 95,zi 98 1 93 95,zl 99 1 98,zm 17 97,zm 18 99]
 (.reg true [0,1,0,0,0,0,48,112,248,504,1016,2047,4095,8191] [1,3,8,14,93,94,95] [zf 100 1 14,zl 101 1 100,zm 102 18,zm 103 1,zm 104 3,zm 105 17,zi 106 1 104 105,zl 107 1 106,zi 108 5 103 107,zf 109 0 108,zl 110 1 109,zi 111 11 101 102,zf 112 7 111,zw (.st 1 [] (.t 112) (.t 110))])))
 (zr [1,3,8,14,93,94,95] [zd 113 .add 95 (zI 1),zm 95 113])))))))
 (zS [8,9] [zy 114 (.ldF 2 (.t 14)),zw (.st 2 [] (.t 8) (.t 114)),z0 9]
 .ret)))))))))) }
def N587:ar:={ np:=2,nt:=47,res:=[(4,none)],body :=
 (zS [1,2] [zo 2 0,zF 4]
 (zs (zS [1,15] [zL 8 2 2,zk 9 164 [.t 8],zt 10 9,zm 11 10,ze 11 (zm 12 1),ze 11 (zn 13 12),ze 11 (zd 14 .gtr 13 (zI 40)),zp 15 11 14]
 (zC 15 (zS [4] [zF 4]
 .ret)
 .skip))
 (zS [1,5] [zy 16 (.mkm 0 1),zm 5 16]
 (zs (zS [5,17,18,19] [zq 17 1,zn 18 17,z0 19]
 (.block 0 (.loop (zS [5,17,18,19,20] [zb 20 .lss 19 18]
 (zs (zC 20 .skip
 (.exit 0))
 (zs (.block 1 (zS [5,7,17,18,19] [zi 21 5 17 19,zL 22 5 21,zy 7 (.alc zA3),zw (.st 5 [] (.t 7) (.t 22))]
 (zs (zS [5,7,17,18,19,42] [zf 23 0 7,zl 24 1 23,zk 25 58 [.t 24],zt 26 25,zm 27 26,ze 27 (zm 28 5),ze 27 (zf 29 0 7),ze 27 (zl 30 1 29),ze 27 (zy 31 (.mpl .str 0 1 false (.bool false) (.t 28) (.t 30))),zp 32 27 31,zm 33 32,ze 33 (zf 34 1 7),ze 33 (zl 35 1 34),ze 33 (zd 36 .lss 35 (zI 1)),zp 37 33 36,zm 38 37,ze 38 (zf 39 1 7),ze 38 (zl 40 1 39),ze 38 (zd 41 .gtr 40 (zI 32768)),zp 42 38 41]
 (zC 42 (zS [4] [zF 4]
 .ret)
 .skip))
 (zr [5,17,18,19] [zm 43 5,zf 44 0 7,zl 45 1 44,zw (.mpu .str 0 1 (.bool false) (.t 43) (.t 45) (.c (.bool true)))]))))
 (zr [5,17,18,19] [zd 46 .add 19 (zI 1),zm 19 46])))))))
 (zS [4] [zc 4 (.bool true)]
 .ret))))) }
def N589:ar:={ np:=3,nt:=193,res:=[],body :=
 (zS [0,2,4] [zo 4 1]
 (zS [0,4,6] [zL 15 2 4,zq 16 2,zk 17 629 [.t 15,.t 16],zq 6 17]
 (zS [0,4,6,7] [zL 18 2 4,zk 19 627 [.t 18],zq 7 19]
 (zS [0,4,6,7,21,22,23] [zf 20 1 4,zl 21 1 20,zn 22 21,z0 23]
 (.block 0 (.loop (zS [0,4,6,7,21,22,23,24] [zb 24 .lss 23 22]
 (zs (zC 24 .skip
 (.exit 0))
 (zs (.block 1 (zS [0,4,6,7,8,9,21,22,23] [zm 25 23,zi 26 11 21 23,zL 27 11 26,zy 9 (.alc zA2),zm 8 25,zw (.st 11 [] (.t 9) (.t 27))]
 (zs (.reg true [0,1,0,0,12,28,60,127,255,0,512,0,0,6144,14336,30720,65024,130560,0,0,786943,2097151] [0,4,6,7,8,9,10,11,21,22,23] [zf 28 0 4,zl 29 1 28,zm 30 7,zm 31 8,zi 32 2 30 31,zy 33 (.iadA 2 1 (.t 32) (.c (zI 0))),zl 34 1 33,zi 35 9 29 34,zL 36 9 35,zf 37 0 4,zl 38 1 37,zm 39 7,zm 40 8,zi 41 2 39 40,zy 42 (.iadA 2 1 (.t 41) (.c (zI 1))),zl 43 1 42,zi 44 9 38 43,zL 45 9 44,zy 10 (.alc zA5),zy 11 (.alc zA5),zw (.st 9 [] (.t 10) (.t 36)),zw (.st 9 [] (.t 11) (.t 45))])
 (zS [0,4,6,7,8,9,10,11,12,13,21,22,23] [zF 12,zF 13]
 (zs (zS [0,4,6,7,8,9,10,11,12,13,21,22,23,47] [zf 46 3 9,zl 47 1 46]
 (.block 2 (zS [0,4,6,7,8,9,10,11,12,13,21,22,23,47,48] [zd 49 .eql 47 (zI 1),zm 48 49]
 (zC 48 (zS [0,4,6,7,8,9,10,11,12,21,22,23] [zf 50 5 9,zl 51 1 50,zf 52 4 10,zl 53 1 52,zb 54 .lss 51 53,zm 55 54,ze 55 (zf 56 6 9),ze 55 (zl 57 1 56),ze 55 (zf 58 4 11),ze 55 (zl 59 1 58),ze 55 (zb 60 .lss 57 59),zp 61 55 60,zm 12 61]
 (.reg true [0,0,3,7,15,31,63,127,63,63,831,1855,4095,63,8255,32767,65535,131071,262143,131071,131071,1703935,3801087,8388607,131071,16908287,67108863,134217727,268435455,536870911] [0,4,6,7,8,9,12,13,21,22,23] [zm 62 6,zm 63 8,zi 64 1 62 63,zl 65 1 64,zd 66 .geq 65 (zI 0),zm 67 66,zh 67 (zf 68 5 9),zh 67 (zl 69 1 68),zh 67 (zm 70 6),zh 67 (zm 71 8),zh 67 (zi 72 1 70 71),zh 67 (zl 73 1 72),zh 67 (zb 74 .add 69 73),zh 67 (zf 75 5 10),zh 67 (zl 76 1 75),zh 67 (zb 77 .gtr 74 76),zh 67 (zm 78 77),ze 78 (zf 79 6 9),ze 78 (zl 80 1 79),ze 78 (zm 81 6),ze 78 (zm 82 8),ze 78 (zi 83 1 81 82),ze 78 (zl 84 1 83),ze 78 (zb 85 .add 80 84),ze 78 (zf 86 5 11),ze 78 (zl 87 1 86),ze 78 (zb 88 .gtr 85 87),zh 67 (zp 89 78 88),zP 90 67 89,zm 13 90]))
 (zS [0,4,6,7,8,9,10,12,13,21,22,23,47,91] [zd 92 .eql 47 (zI 2),zm 91 92]
 (zC 91 (.reg true [0,1,0,4,15,0,32,0,128,480,31,2047] [0,4,6,7,8,9,12,13,21,22,23] [zf 93 5 9,zl 94 1 93,zf 95 4 10,zl 96 1 95,zb 97 .lss 94 96,zf 98 5 9,zl 99 1 98,zf 100 5 10,zl 101 1 100,zb 102 .gtr 99 101,zm 12 97,zm 13 102])
 (zS [0,4,6,7,8,9,10,12,13,21,22,23,47,103] [zd 104 .eql 47 (zI 3),zm 103 104]
 (zC 103 (.reg true [0,1,0,4,15,0,32,0,128,480,0,1024,4064,31,16383] [0,4,6,7,8,9,12,13,21,22,23] [zf 105 5 9,zl 106 1 105,zf 107 4 10,zl 108 1 107,zb 109 .lss 106 108,zf 110 5 9,zl 111 1 110,zf 112 9 9,zl 113 1 112,zb 114 .add 111 113,zf 115 5 10,zl 116 1 115,zb 117 .gtr 114 116,zm 12 109,zm 13 117])
 (zS [0,4,6,7,8,9,10,12,13,21,22,23,118] [zd 119 .eql 47 (zI 4),zm 118 119]
 (zC 118 (.reg true [0,1,0,4,15,0,32,0,128,480,31,2047] [0,4,6,7,8,9,12,13,21,22,23] [zf 120 6 9,zl 121 1 120,zf 122 4 10,zl 123 1 122,zb 124 .lss 121 123,zf 125 5 9,zl 126 1 125,zf 127 5 10,zl 128 1 127,zb 129 .gtr 126 128,zm 12 124,zm 13 129])
 .skip))))))))))
 (zs (zS [0,4,6,7,8,9,13,21,22,23,130] [zm 130 12]
 (zC 130 (zr [0,4,6,7,8,9,13,21,22,23] [zm 131 0,zf 132 0 9,zl 133 1 132,zy 134 (.callL 628 (.t 131) [(.c (zI 4)),.t 133])])
 .skip))
 (zs (zS [0,4,6,7,8,9,21,22,23,135] [zm 135 13]
 (zC 135 (zr [0,4,6,7,8,9,21,22,23] [zm 136 0,zf 137 0 9,zl 138 1 137,zy 139 (.callL 628 (.t 136) [(.c (zI 5)),.t 138])])
 .skip))
 (zs (zS [0,4,6,7,8,9,21,22,23,149] [zf 140 3 9,zl 141 1 140,zd 142 .eql 141 (zI 1),zm 143 142,zh 143 (zm 144 6),zh 143 (zm 145 8),zh 143 (zi 146 1 144 145),zh 143 (zl 147 1 146),zh 143 (zd 148 .lss 147 (zI 0)),zP 149 143 148]
 (zC 149 (zr [0,4,6,7,8,9,21,22,23] [zm 150 0,zf 151 0 9,zl 152 1 151,zy 153 (.callL 628 (.t 150) [(.c (zI 6)),.t 152])])
 .skip))
 (zs (zS [0,4,6,7,8,9,21,22,23,158] [zm 154 6,zm 155 8,zi 156 1 154 155,zl 157 1 156,zd 158 .lss 157 (zI 0)]
 (zC 158 (.exit 1)
 .skip))
 (zS [0,4,6,7,8,9,21,22,23,161,162] [zf 159 1 4,zl 160 1 159,zn 161 160,z0 162]
 (.block 3 (.loop (zS [0,4,6,7,8,9,21,22,23,161,162,163] [zb 163 .lss 162 161]
 (zs (zC 163 .skip
 (.exit 3))
 (zs (.block 4 (zS [0,4,6,7,8,9,14,21,22,23,161,162] [zm 164 162,zm 14 164]
 (zs (.reg true [0,0,3,7,15,0,0,96,224,480,1023,2047,4095,4095,16383,32767,4095,4095,200703,462847,1048575,2097151] [0,4,6,7,8,9,21,22,23,161,162,186] [zm 165 7,zm 166 14,zi 167 2 165 166,zy 168 (.iadA 2 1 (.t 167) (.c (zI 1))),zl 169 1 168,zm 170 7,zm 171 8,zi 172 2 170 171,zy 173 (.iadA 2 1 (.t 172) (.c (zI 0))),zl 174 1 173,zb 175 .eql 169 174,zm 176 175,zh 176 (zm 177 6),zh 176 (zm 178 14),zh 176 (zi 179 1 177 178),zh 176 (zl 180 1 179),zh 176 (zm 181 6),zh 176 (zm 182 8),zh 176 (zi 183 1 181 182),zh 176 (zl 184 1 183),zh 176 (zb 185 .gtr 180 184),zP 186 176 185])
 (zC 186 (zr [0,4,6,7,8,9,21,22,23,161,162] [zm 187 0,zf 188 0 9,zl 189 1 188,zy 190 (.callL 628 (.t 187) [(.c (zI 7)),.t 189])])
 .skip))))
 (zr [0,4,6,7,8,9,21,22,23,161,162] [zd 191 .add 162 (zI 1),zm 162 191]))))))))))))))))
 (zr [0,4,6,7,21,22,23] [zd 192 .add 23 (zI 1),zm 23 192])))))))))) }
def N590:ar:={ np:=1,nt:=7,res:=[(2,none)],body :=
 (zS [0] [zc 2 .nils]
 (zS [0] [zm 3 0,zy 4 (.callS 630 (.t 3) [(.c (.fn 631 []))])]
 (zS [2] [zq 5 0,zy 6 (.callE 633 (.t 5) []),zq 2 6]
 .ret))) }
def N598:ar:={ np:=1,nt:=8,res:=[(2,none)],body :=
 (zS [0] [zc 2 .nils]
 (zs (zS [0,4] [zm 3 0,zy 4 (.beq false [9] (.t 3) (.c .nils))]
 (zC 4 (zS [2] [zc 2 .nils]
 .ret)
 .skip))
 (zS [2] [zy 5 (.bls 2 0 [zI 0,zI 0] [] []),zq 6 0,zy 7 (.app 2 16 false (.t 5) (.t 6)),zq 2 7]
 .ret))) }
def N605:ar:={ np:=1,nt:=114,res:=[(2,none),(3,none),(4,none)],body :=
 (zS [1,2,3] [zo 1 0,zy 2 (.nilo 1),zy 3 (.nilo 1),z0 4]
 (zs (zS [1,2,3,20] [zf 18 1 1,zl 19 1 18,zy 20 (.call 455 [.t 19,(.c (.fn 636 []))] [])]
 (zC 20 (zS [2,3,4] [zy 2 (.nilo 1),zy 3 (.nilo 1),zc 4 (zI 11)]
 .ret)
 .skip))
 (zS [1,2,3,4,5] [zL 22 2 1,zk 23 471 [.t 22],zm 21 23,zx 24 0 21,zx 25 1 21,zq 5 24,zm 4 25]
 (zs (zS [1,2,3,4,5,27] [zm 26 4,zd 27 .neq 26 (zI 0)]
 (zC 27 (zS [2,3,4] [zm 28 4,zy 2 (.nilo 1),zy 3 (.nilo 1),zm 4 28]
 .ret)
 .skip))
 (zS [1,2,3,5,6] [zy 29 (.blsF 1 1 [zI 0] [(0,(.c (zI (-1))))]),zf 30 0 1,zl 31 1 30,zn 32 31,zy 33 (.callF 315 [.t 29,.t 32]),zq 6 33]
 (zs (zS [1,2,3,5,6,34,35,36] [zm 34 5,zn 35 34,z0 36]
 (.block 0 (.loop (zS [1,2,3,5,6,34,35,36,37] [zb 37 .lss 36 35]
 (zs (zC 37 .skip
 (.exit 0))
 (zs (.block 1 (zS [1,2,3,5,6,7,8,34,35,36] [zm 38 36,zi 39 2 34 36,zL 40 2 39,zy 8 (.alc zA1),zm 7 38,zw (.st 2 [] (.t 8) (.t 40))]
 (zs (zS [1,2,3,5,6,7,8,34,35,36,46] [zm 41 6,zy 42 (.iadA 2 1 (.t 8) (.c (zI 0))),zl 43 1 42,zi 44 1 41 43,zl 45 1 44,zy 46 (.bin .neq (.t 45) (.c (zI (-1))))]
 (zC 46 (zS [2,3,4] [zy 2 (.nilo 1),zy 3 (.nilo 1),zc 4 (zI 25)]
 .ret)
 .skip))
 (zr [1,2,3,5,6,34,35,36] [zm 47 6,zy 48 (.iadA 2 1 (.t 8) (.c (zI 0))),zl 49 1 48,zm 50 7,zi 51 1 47 49,zw (.st 1 [] (.t 51) (.t 50))]))))
 (zr [1,2,3,5,6,34,35,36] [zd 52 .add 36 (zI 1),zm 36 52])))))))
 (zS [1,2,3,4,5,6,9] [zL 54 2 1,zk 55 495 [.t 54],zm 53 55,zx 56 0 53,zx 57 1 53,zq 9 56,zm 4 57]
 (zs (zS [1,2,3,4,5,6,9,59] [zm 58 4,zd 59 .neq 58 (zI 0)]
 (zC 59 (zS [2,3,4] [zm 60 4,zy 2 (.nilo 1),zy 3 (.nilo 1),zm 4 60]
 .ret)
 .skip))
 (zS [2,3,5,6,9,10] [zf 61 1 1,zl 62 1 61,zn 63 62,zy 64 (.mks 1 8 [zI 0] (.t 63) (.t 63)),zq 10 64]
 (zs (zS [2,3,5,6,10,65,66,67] [zq 65 9,zn 66 65,z0 67]
 (.block 2 (.loop (zS [2,3,5,6,10,65,66,67,68] [zb 68 .lss 67 66]
 (zs (zC 68 .skip
 (.exit 2))
 (zs (.block 3 (zS [2,3,5,6,10,12,65,66,67] [zi 69 1 65 67,zl 70 1 69,zm 12 70]
 (zS [2,3,5,6,10,13,65,66,67] [zm 71 6,zm 72 12,zi 73 1 71 72,zl 74 1 73,zm 13 74]
 (zS [2,3,5,6,10,13,65,66,67,76] [zm 75 13,zy 76 (.bin .neq (.t 75) (.c (zI (-1))))]
 (zC 76 (zS [2,3,5,6,10,13,65,66,67] [zm 77 10,zm 78 13,zm 79 2,zn 80 79,zi 81 1 77 78,zw (.st 1 [] (.t 81) (.t 80))]
 (zr [2,3,5,6,10,65,66,67] [zm 82 2,zm 83 13,zy 84 (.bls 1 1 [zI 0] [] [(0,.t 83)]),zy 85 (.app 1 8 false (.t 82) (.t 84)),zq 2 85]))
 .skip)))))
 (zr [2,3,5,6,10,65,66,67] [zd 86 .add 67 (zI 1),zm 67 86])))))))
 (zs (zS [2,3,5,6,10,87,88,89] [zm 87 2,zn 88 87,z0 89]
 (.block 4 (.loop (zS [2,3,5,6,10,87,88,89,90] [zb 90 .lss 89 88]
 (zs (zC 90 .skip
 (.exit 4))
 (zs (.block 5 (zS [2,3,5,6,10,15,87,88,89] [zi 91 1 87 89,zl 92 1 91,zm 15 92]
 (zS [2,3,5,6,10,15,16,87,88,89] [zy 16 (.mov (.c (zI (-1))))]
 (zs (zS [2,3,5,6,10,16,17,87,88,89] [zm 93 6,zm 94 5,zm 95 15,zi 96 2 94 95,zy 97 (.iadA 2 1 (.t 96) (.c (zI 1))),zl 98 1 97,zi 99 1 93 98,zl 100 1 99,zm 17 100]
 (zS [2,3,5,6,10,16,17,87,88,89,102] [zm 101 17,zy 102 (.bin .neq (.t 101) (.c (zI (-1))))]
 (zC 102 (zr [2,3,5,6,10,16,87,88,89] [zm 103 10,zm 104 17,zi 105 1 103 104,zl 106 1 105,zm 16 106])
 .skip)))
 (zr [2,3,5,6,10,87,88,89] [zm 107 3,zm 108 16,zy 109 (.bls 1 1 [zI 0] [] [(0,.t 108)]),zy 110 (.app 1 8 false (.t 107) (.t 109)),zq 3 110])))))
 (zr [2,3,5,6,10,87,88,89] [zd 111 .add 89 (zI 1),zm 89 111])))))))
 (zS [2,3,4] [zm 112 2,zm 113 3,zq 2 112,zq 3 113,z0 4]
 .ret)))))))))))) }
def N606:ar:={ np:=1,nt:=6,res:=[(2,none)],body :=
 (zS [0] [zF 2]
 (zS [2] [zm 3 0,zk 4 29 [.t 3,(.c (zI 0)),(.c (zI 1099511627776))],zt 5 4,zm 2 5]
 .ret)) }
def N607:ar:={ np:=3,nt:=32,res:=[(6,none)],body :=
 (zS [0,1,2] [zF 6]
 (zs (zS [0,1,2,14] [zm 10 0,zn 11 10,zm 12 1,zn 13 12,zb 14 .neq 11 13]
 (zC 14 (zS [6] [zF 6]
 .ret)
 .skip))
 (zs (zS [1,2,15,16,17] [zq 15 0,zn 16 15,z0 17]
 (.block 0 (.loop (zS [1,2,15,16,17,18] [zb 18 .lss 17 16]
 (zs (zC 18 .skip
 (.exit 0))
 (zs (.block 1 (zS [1,2,7,8,15,16,17] [zm 19 17,zi 20 5 15 17,zL 21 5 20,zy 8 (.alc zA3),zm 7 19,zw (.st 5 [] (.t 8) (.t 21))]
 (zS [1,2,8,9,15,16,17] [zm 22 1,zm 23 7,zi 24 5 22 23,zL 25 5 24,zy 9 (.alc zA3),zw (.st 5 [] (.t 9) (.t 25))]
 (zS [1,2,15,16,17,30] [zm 26 2,zL 27 5 8,zL 28 5 9,zy 29 (.callv (.t 26) [.t 27,.t 28]),zt 30 29]
 (zC 30 (zS [6] [zF 6]
 .ret)
 .skip)))))
 (zr [1,2,15,16,17] [zd 31 .add 17 (zI 1),zm 17 31])))))))
 (zS [6] [zc 6 (.bool true)]
 .ret)))) }
def N608:ar:={ np:=2,nt:=38,res:=[(4,none)],body :=
 (zS [2,3] [zo 2 0,zo 3 1,zF 4]
 (zS [4] [zf 5 0 2,zl 6 1 5,zf 7 0 3,zl 8 1 7,zb 9 .eql 6 8,zm 10 9,zh 10 (zf 11 1 2),zh 10 (zl 12 1 11),zh 10 (zf 13 1 3),zh 10 (zl 14 1 13),zh 10 (zb 15 .eql 12 14),zP 16 10 15,zm 17 16,zh 17 (zf 18 2 2),zh 17 (zl 19 1 18),zh 17 (zf 20 2 3),zh 17 (zl 21 1 20),zh 17 (zb 22 .eql 19 21),zP 23 17 22,zm 24 23,zh 24 (zf 25 3 2),zh 24 (zl 26 1 25),zh 24 (zf 27 3 3),zh 24 (zl 28 1 27),zh 24 (zk 29 184 [.t 26,.t 28]),zP 30 24 29,zm 31 30,zh 31 (zf 32 4 2),zh 31 (zl 33 1 32),zh 31 (zf 34 4 3),zh 31 (zl 35 1 34),zh 31 (zk 36 184 [.t 33,.t 35]),zP 37 31 36,zm 4 37]
 .ret)) }
def N609:ar:={ np:=1,nt:=8,res:=[(2,none)],body :=
 (zS [0] [zc 2 .nils]
 (zs (zS [0,4] [zm 3 0,zy 4 (.beq false [9] (.t 3) (.c .nils))]
 (zC 4 (zS [2] [zc 2 .nils]
 .ret)
 .skip))
 (zS [2] [zy 5 (.bls 11 0 [.str [],.str [],.str [],zI 0,zI 0,zI 0,zI 0,.str [],zI 0,zI 0,.own 2 []] [] []),zq 6 0,zy 7 (.app 11 136 false (.t 5) (.t 6)),zq 2 7]
 .ret))) }
def N627:ar:={ np:=1,nt:=11,res:=[(2,none)],body :=
 (zS [1] [zo 1 0,zc 2 .nils]
 (zS [3] [zL 6 2 1,zk 7 471 [.t 6],zm 5 7,zx 8 0 5,zx 9 1 5,zq 3 8,zm 4 9]
 (zS [2] [zq 10 3,zq 2 10]
 .ret))) }
def N628:ar:={ np:=3,nt:=16,res:=[],body :=
 (zr [0] [zm 6 0,zm 7 0,zy 8 (.nck (.t 7)),zl 9 1 8,zm 10 1,zm 11 2,zy 12 (.bld [zI 0,.str []] [(0,1,.t 10),(1,1,.t 11)]),zy 13 (.bls 2 1 [zI 0,.str []] [] [(0,.t 12)]),zy 14 (.app 2 24 false (.t 9) (.t 13)),zy 15 (.nck (.t 6)),zw (.st 1 [] (.t 15) (.t 14))]) }
def N629:ar:={ np:=2,nt:=42,res:=[(4,none)],body :=
 (zS [1,2] [zo 2 0,zc 4 .nils]
 (zS [1,2,5] [zf 9 1 2,zl 10 1 9,zn 11 10,zy 12 (.mks 1 8 [zI 0] (.t 11) (.t 11)),zq 5 12]
 (zs (zS [1,5,14,15,16] [zf 13 1 2,zl 14 1 13,zn 15 14,z0 16]
 (.block 0 (.loop (zS [1,5,14,15,16,17] [zb 17 .lss 16 15]
 (zs (zC 17 .skip
 (.exit 0))
 (zs (.block 1 (zS [1,5,6,7,14,15,16] [zm 18 16,zi 19 11 14 16,zL 20 11 19,zy 7 (.alc zA2),zm 6 18,zw (.st 11 [] (.t 7) (.t 20))]
 (zS [1,5,6,7,14,15,16] [zm 21 5,zm 22 6,zi 23 1 21 22,zw (.st 1 [] (.t 23) (.c (zI (-1))))]
 (zs (zS [1,5,6,7,14,15,16,26] [zf 24 3 7,zl 25 1 24,zd 26 .neq 25 (zI 1)]
 (zC 26 (.exit 1)
 .skip))
 (zS [1,5,6,8,14,15,16] [zm 27 1,zy 28 (.mk 647 [.t 7]),zk 29 52 [.t 27,.t 28],zm 8 29]
 (zS [1,5,6,8,14,15,16,31] [zm 30 8,zd 31 .geq 30 (zI 0)]
 (zC 31 (zr [1,5,14,15,16] [zm 32 5,zm 33 6,zm 34 1,zm 35 8,zi 36 5 34 35,zf 37 1 36,zl 38 1 37,zi 39 1 32 33,zw (.st 1 [] (.t 39) (.t 38))])
 .skip)))))))
 (zr [1,5,14,15,16] [zd 40 .add 16 (zI 1),zm 16 40])))))))
 (zS [4] [zq 41 5,zq 4 41]
 .ret)))) }
def N631:ar:={ np:=2,nt:=17,res:=[(4,none)],body :=
 (zS [2,3] [zo 2 0,zo 3 1,z0 4]
 (zs (.reg true [0,1,0,4,15,0,32,0,128,511,1023,2047,4095] [4] [zf 5 0 2,zl 6 1 5,zf 7 0 3,zl 8 1 7,zk 9 267 [.t 6,.t 8],zf 10 1 2,zl 11 1 10,zf 12 1 3,zl 13 1 12,zk 14 632 [.t 11,.t 13],zy 15 (.bls 1 2 [zI 0] [] [(0,.t 9),(1,.t 14)]),zk 16 266 [.t 15],zm 4 16])
 .ret)) }
def N633:ar:={ np:=1,nt:=61,res:=[(2,none)],body :=
 (zS [0] [zc 2 .nils]
 (zs (zS [0,8] [zm 6 0,zn 7 6,zd 8 .lss 7 (zI 2)]
 (zC 8 (zS [2] [zq 9 0,zq 2 9]
 .ret)
 .skip))
 (zs (zS [0,3] [zc 3 (zI 1)]
 (.block 0 (.loop (zs (zS [0,3,13] [zm 10 3,zm 11 0,zn 12 11,zb 13 .lss 10 12]
 (zC 13 .skip
 (.exit 0)))
 (zs (.block 1 (zs (.reg true [0,0,3,7,0,0,32,112,240,511] [0,3,25] [zm 16 0,zm 17 3,zi 18 2 16 17,zL 19 2 18,zm 20 0,zm 21 3,zd 22 .sub 21 (zI 1),zi 23 2 20 22,zL 24 2 23,zy 25 (.beq false [0,2] (.t 19) (.t 24))])
 (zC 25 (zS [0,3,4] [zm 26 0,zm 27 3,zy 28 (.slc 2 (.t 26) (some (.t 27)) none),zm 4 28]
 (zs (zS [0,3,4,5] [zc 5 (zI 1)]
 (.block 2 (.loop (zs (zS [0,3,4,5,32] [zm 29 5,zm 30 4,zn 31 30,zb 32 .lss 29 31]
 (zC 32 .skip
 (.exit 2)))
 (zs (.block 3 (zs (.reg true [0,0,3,7,0,0,32,112,240,511] [0,3,4,5,44] [zm 35 4,zm 36 5,zi 37 2 35 36,zL 38 2 37,zm 39 4,zm 40 5,zd 41 .sub 40 (zI 1),zi 42 2 39 41,zL 43 2 42,zy 44 (.beq true [0,2] (.t 38) (.t 43))])
 (zC 44 (zS [0,3,4,5] [zm 45 0,zm 46 3,zm 47 4,zm 48 5,zi 49 2 47 48,zL 50 2 49,zi 51 2 45 46,zw (.st 2 [] (.t 51) (.t 50))]
 (zr [0,3,4,5] [zm 52 3,zd 53 .add 52 (zI 1),zm 3 53]))
 .skip)))
 (zr [0,3,4,5] [zm 33 5,zd 34 .add 33 (zI 1),zm 5 34]))))))
 (zS [0,3] [zm 54 0,zm 55 3,zy 56 (.slc 2 (.t 54) (some (.t 55)) none),zw (.clr [zI 0,.str []] (.t 56))]
 (zS [2] [zq 57 0,zm 58 3,zy 59 (.slc 2 (.t 57) none (some (.t 58))),zq 2 59]
 .ret))))
 .skip)))
 (zr [0,3] [zm 14 3,zd 15 .add 14 (zI 1),zm 3 15]))))))
 (zS [2] [zq 60 0,zq 2 60]
 .ret)))) }
def N636:ar:={ np:=1,nt:=6,res:=[(2,none)],body :=
 (zS [1] [zo 1 0,zF 2]
 (zS [2] [zf 3 3 1,zl 4 1 3,zd 5 .neq 4 (zI 1),zm 2 5]
 .ret)) }
def N647:ar:={ np:=2,nt:=9,res:=[(3,none)],body :=
 (zS [1,2] [zo 2 0,zF 3]
 (zS [3] [zf 4 0 2,zl 5 1 4,zf 6 7 1,zl 7 1 6,zb 8 .eql 5 7,zm 3 8]
 .ret)) }
def N927:ar:={ np:=2,nt:=116,res:=[(4,none)],body :=
 (zS [2,3] [zo 2 0,zo 3 1,zF 4]
 (zs (zS [2,3,47] [zL 9 2 2,zk 10 164 [.t 9],zt 11 10,zm 12 11,ze 12 (zf 13 0 3),ze 12 (zl 14 1 13),ze 12 (zn 15 14),ze 12 (zf 16 0 2),ze 12 (zl 17 1 16),ze 12 (zn 18 17),ze 12 (zb 19 .neq 15 18),zp 20 12 19,zm 21 20,ze 21 (zf 22 1 3),ze 21 (zl 23 1 22),ze 21 (zn 24 23),ze 21 (zf 25 0 2),ze 21 (zl 26 1 25),ze 21 (zn 27 26),ze 21 (zb 28 .neq 24 27),zp 29 21 28,zm 30 29,ze 30 (zf 31 2 3),ze 30 (zl 32 1 31),ze 30 (zn 33 32),ze 30 (zf 34 1 2),ze 30 (zl 35 1 34),ze 30 (zn 36 35),ze 30 (zb 37 .neq 33 36),zp 38 30 37,zm 39 38,ze 39 (zf 40 3 3),ze 39 (zl 41 1 40),ze 39 (zn 42 41),ze 39 (zf 43 1 2),ze 39 (zl 44 1 43),ze 39 (zn 45 44),ze 39 (zb 46 .neq 42 45),zp 47 39 46]
 (zC 47 (zS [4] [zF 4]
 .ret)
 .skip))
 (zs (zS [2,3,49,50,51] [zf 48 0 2,zl 49 1 48,zn 50 49,z0 51]
 (.block 0 (.loop (zS [2,3,49,50,51,52] [zb 52 .lss 51 50]
 (zs (zC 52 .skip
 (.exit 0))
 (zs (.block 1 (zS [2,3,5,6,49,50,51] [zm 53 51,zi 54 9 49 51,zL 55 9 54,zy 6 (.alc zA5),zm 5 53,zw (.st 9 [] (.t 6) (.t 55))]
 (zs (.reg true [0,1,0,7,15,0,32,127,255,511,1023,2047,1023,8191,16383,32767,65535,131071,262143,524287,1048575,2097151,4194303,8388607,16777215,8388607,67108863,134217727,268435455,536870911,1073741823] [2,3,49,50,51,86] [zf 56 0 3,zl 57 1 56,zm 58 5,zi 59 1 57 58,zl 60 1 59,zL 61 9 6,zk 62 947 [.t 61],zk 63 946 [.t 60,(.c (zI 0)),.t 62],zt 64 63,zm 65 64,ze 65 (zf 66 1 3),ze 65 (zl 67 1 66),ze 65 (zm 68 5),ze 65 (zi 69 1 67 68),ze 65 (zl 70 1 69),ze 65 (zk 71 948 [.t 70]),ze 65 (zt 72 71),zp 73 65 72,zm 74 73,ze 74 (zf 75 1 6),ze 74 (zl 76 1 75),ze 74 (zd 77 .eql 76 (zI 3)),ze 74 (zm 78 77),zh 78 (zf 79 1 3),zh 78 (zl 80 1 79),zh 78 (zm 81 5),zh 78 (zi 82 1 80 81),zh 78 (zl 83 1 82),zh 78 (zd 84 .neq 83 (zI 0)),ze 74 (zP 85 78 84),zp 86 74 85])
 (zC 86 (zS [4] [zF 4]
 .ret)
 .skip))))
 (zr [2,3,49,50,51] [zd 87 .add 51 (zI 1),zm 51 87])))))))
 (zs (zS [3,89,90,91] [zf 88 1 2,zl 89 1 88,zn 90 89,z0 91]
 (.block 2 (.loop (zS [3,89,90,91,92] [zb 92 .lss 91 90]
 (zs (zC 92 .skip
 (.exit 2))
 (zs (.block 3 (zS [3,7,8,89,90,91] [zm 93 91,zi 94 11 89 91,zL 95 11 94,zy 8 (.alc zA2),zm 7 93,zw (.st 11 [] (.t 8) (.t 95))]
 (zS [3,89,90,91,114] [zf 96 2 3,zl 97 1 96,zm 98 7,zi 99 1 97 98,zl 100 1 99,zk 101 946 [.t 100,(.c (zI 0)),(.c (zI 1000))],zt 102 101,zm 103 102,ze 103 (zf 104 3 3),ze 103 (zl 105 1 104),ze 103 (zm 106 7),ze 103 (zi 107 1 105 106),ze 103 (zl 108 1 107),ze 103 (zm 109 108),zh 109 (zf 110 3 8),zh 109 (zl 111 1 110),zh 109 (zd 112 .neq 111 (zI 4)),ze 103 (zP 113 109 112),zp 114 103 113]
 (zC 114 (zS [4] [zF 4]
 .ret)
 .skip))))
 (zr [3,89,90,91] [zd 115 .add 91 (zI 1),zm 91 115])))))))
 (zS [4] [zc 4 (.bool true)]
 .ret))))) }
def N928:ar:={ np:=2,nt:=9,res:=[(4,none)],body :=
 (zS [0,1] [zF 4]
 (zS [4] [zq 5 0,zm 6 1,zk 7 949 [.t 5,.t 6],zd 8 .geq 7 (zI 0),zm 4 8]
 .ret)) }
def N949:ar:={ np:=2,nt:=19,res:=[(4,none)],body :=
 (zS [0,1] [z0 4]
 (zs (zS [0,1,7,8] [zm 6 0,zn 7 6,z0 8]
 (.block 0 (.loop (zS [0,1,7,8,9] [zb 9 .lss 8 7]
 (zs (zC 9 .skip
 (.exit 0))
 (zs (.block 1 (zS [0,1,5,7,8] [zm 10 8,zm 5 10]
 (zS [0,1,5,7,8,16] [zm 11 1,zm 12 0,zm 13 5,zi 14 2 12 13,zL 15 2 14,zy 16 (.callv (.t 11) [.t 15])]
 (zC 16 (zS [4] [zm 17 5,zm 4 17]
 .ret)
 .skip))))
 (zr [0,1,7,8] [zd 18 .add 8 (zI 1),zm 8 18])))))))
 (zS [4] [zy 4 (.mov (.c (zI (-1))))]
 .ret))) }
def N1002:ar:={ np:=4,nt:=225,res:=[(8,none)],body :=
 (zS [1,2,3,4] [zo 4 0,zF 8]
 (zs (zS [1,2,3,4,36] [zk 35 1003 [],zt 36 35]
 (zC 36 (zS [8] [zF 8]
 .ret)
 .skip))
 (zs (zS [1,2,3,4,47] [zL 37 2 4,zk 38 1004 [.t 37],zm 39 38,ze 39 (zm 40 1),ze 39 (zk 41 1005 [.t 40,(.c .nils),(.c .nils)]),zp 42 39 41,zm 43 42,ze 43 (zm 44 2),ze 43 (zn 45 44),ze 43 (zd 46 .gtr 45 (zI 20)),zp 47 43 46]
 (zC 47 (zS [8] [zc 8 (.bool true)]
 .ret)
 .skip))
 (zS [1,2,3,4,9,10] [zL 49 2 4,zm 50 2,zk 51 428 [.t 49,.t 50],zm 48 51,zx 52 0 48,zx 53 1 48,zq 9 52,zm 10 53]
 (zs (zS [1,2,3,4,9,55] [zm 54 10,zd 55 .neq 54 (zI 0)]
 (zC 55 (zS [8] [zq 56 9,zn 57 56,zd 58 .eql 57 (zI 0),zm 8 58]
 .ret)
 .skip))
 (zS [1,2,3,4,9,11,12] [zy 11 (.nilo 1),zy 12 (.nilo 1)]
 (zs (zS [1,2,3,4,11,12,59,60,61] [zq 59 9,zn 60 59,z0 61]
 (.block 0 (.loop (zS [1,2,3,4,11,12,59,60,61,62] [zb 62 .lss 61 60]
 (zs (zC 62 .skip
 (.exit 0))
 (zs (.block 1 (zS [1,2,3,4,11,12,14,59,60,61] [zi 63 2 59 61,zL 64 2 63,zy 14 (.alc zA1),zw (.st 2 [] (.t 14) (.t 64))]
 (.reg true [0,0,2,6,15,0,0,64,192,511,1023,2047] [1,2,3,4,11,12,59,60,61] [zm 65 11,zf 66 0 14,zl 67 1 66,zy 68 (.bls 1 1 [zI 0] [] [(0,.t 67)]),zy 69 (.app 1 8 false (.t 65) (.t 68)),zm 70 12,zf 71 1 14,zl 72 1 71,zy 73 (.bls 1 1 [zI 0] [] [(0,.t 72)]),zy 74 (.app 1 8 false (.t 70) (.t 73)),zq 11 69,zq 12 74])))
 (zr [1,2,3,4,11,12,59,60,61] [zd 75 .add 61 (zI 1),zm 61 75])))))))
 (zS [1,2,3,4,10,11,15] [zL 77 2 4,zm 78 1,zy 79 (.frz (.t 12)),zm 80 3,zk 81 565 [.t 77,.t 78,.t 79,.t 80],zm 76 81,zx 82 0 76,zx 83 1 76,zy 15 (.alc zA6),zw (.st 6 [] (.t 15) (.t 82)),zm 10 83]
 (zS [1,2,4,10,15,16,17] [zL 85 2 4,zm 86 1,zy 87 (.frz (.t 11)),zm 88 3,zk 89 565 [.t 85,.t 86,.t 87,.t 88],zm 84 89,zx 90 0 84,zx 91 1 84,zy 16 (.alc zA6),zw (.st 6 [] (.t 16) (.t 90)),zm 17 91]
 (zs (zS [1,2,4,10,15,16,17,97] [zm 92 10,zd 93 .neq 92 (zI 0),zm 94 93,ze 94 (zm 95 17),ze 94 (zd 96 .neq 95 (zI 0)),zp 97 94 96]
 (zC 97 (zS [8] [zm 98 10,zm 99 17,zb 100 .eql 98 99,zm 8 100]
 .ret)
 .skip))
 (zS [1,2,4,10,15,16,18,19] [zL 102 6 15,zk 103 15 [.t 102],zm 101 103,zx 104 0 101,zx 105 1 101,zx 106 2 101,zm 18 104,zq 19 105,zm 10 106]
 (zS [1,2,4,10,15,17,18,19,20] [zL 108 6 16,zk 109 15 [.t 108],zm 107 109,zx 110 0 107,zx 111 1 107,zx 112 2 107,zm 20 110,zq 21 111,zm 17 112]
 (zs (zS [1,2,4,10,15,17,18,19,20,114] [zm 113 10,zd 114 .neq 113 (zI 0)]
 (zC 114 (zS [8] [zm 115 10,zd 116 .eql 115 (zI 28),zm 117 116,zh 117 (zm 118 18),zh 117 (zd 119 .eql 118 (zI 0)),zP 120 117 119,zm 8 120]
 .ret)
 .skip))
 (zS [1,2,4,15,17,18,19,20,22,23] [zL 122 2 4,zm 123 1,zL 124 6 15,zm 125 19,zk 126 566 [.t 122,.t 123,.t 124,.t 125],zm 121 126,zx 127 0 121,zx 128 1 121,zy 22 (.alc [.own 9 [],.own 11 []]),zw (.st 2 [] (.t 22) (.t 127)),zm 23 128]
 (zs (zS [1,2,15,19,22,148] [zm 129 17,zd 130 .neq 129 (zI 0),zm 131 130,ze 131 (zm 132 20),ze 131 (zm 133 18),ze 131 (zb 134 .gtr 132 133),zp 135 131 134,zm 136 135,ze 136 (zm 137 23),ze 136 (zd 138 .neq 137 (zI 0)),zp 139 136 138,zm 140 139,ze 140 (zf 141 1 22),ze 140 (zl 142 1 141),ze 140 (zn 143 142),ze 140 (zf 144 1 4),ze 140 (zl 145 1 144),ze 140 (zn 146 145),ze 140 (zb 147 .neq 143 146),zp 148 140 147]
 (zC 148 (zS [8] [zF 8]
 .ret)
 .skip))
 (zS [1,15,19,22,24,25,26] [zL 150 2 22,zm 151 1,zq 152 2,zk 153 442 [.t 150,.t 151,.t 152],zm 149 153,zx 154 0 149,zx 155 1 149,zx 156 2 149,zq 24 154,zq 25 155,zm 26 156]
 (zs (zS [1,15,19,22,168] [zm 157 26,zd 158 .neq 157 (zI 0),zm 159 158,ze 159 (zq 160 24),ze 159 (zn 161 160),ze 159 (zd 162 .neq 161 (zI 0)),zp 163 159 162,zm 164 163,ze 164 (zq 165 25),ze 164 (zn 166 165),ze 164 (zd 167 .neq 166 (zI 0)),zp 168 164 167]
 (zC 168 (zS [8] [zF 8]
 .ret)
 .skip))
 (zS [1,15,19,27,28] [zL 170 2 22,zm 171 1,zk 172 544 [.t 170,.t 171],zm 169 172,zx 173 0 169,zx 174 1 169,zq 27 173,zm 28 174]
 (zs (zS [1,15,19,180] [zm 175 28,zd 176 .neq 175 (zI 0),zm 177 176,ze 177 (zq 178 27),ze 177 (zy 179 (.call 125 [.t 178,(.c (.fn 1006 []))] [])),zp 180 177 179]
 (zC 180 (zS [8] [zF 8]
 .ret)
 .skip))
 (zs (zS [1,15,19,182,183] [zm 181 19,zn 182 181,z0 183]
 (.block 2 (.loop (zS [1,15,19,182,183,184] [zb 184 .lss 183 182]
 (zs (zC 184 .skip
 (.exit 2))
 (zs (.block 3 (zS [1,15,19,29,182,183] [zm 185 183,zm 29 185]
 (zS [1,15,19,29,182,183,187,188] [zm 186 1,zn 187 186,z0 188]
 (.block 4 (.loop (zS [1,15,19,29,182,183,187,188,189] [zb 189 .lss 188 187]
 (zs (zC 189 .skip
 (.exit 4))
 (zs (.block 5 (zS [1,15,19,29,30,182,183,187,188] [zm 190 188,zm 30 190]
 (zs (zs (.reg true [0,0,3,7,15,0,0,0,192,448,992,2016,4064,8191] [1,15,19,29,30,182,183,187,188,204] [zm 191 1,zm 192 30,zi 193 5 191 192,zf 194 2 193,zl 195 1 194,zm 196 1,zm 197 19,zm 198 29,zi 199 1 197 198,zl 200 1 199,zi 201 5 196 200,zf 202 2 201,zl 203 1 202,zb 204 .geq 195 203])
 (zC 204 (.exit 5)
 .skip))
 (zS [1,15,19,29,30,31,182,183,187,188] [zm 205 19,zy 206 (.callF 42 [.t 205]),zq 31 206]
 (zS [1,15,19,29,31,182,183,187,188] [zm 207 31,zm 208 29,zm 209 30,zi 210 1 207 208,zw (.st 1 [] (.t 210) (.t 209))]
 (zS [1,15,19,29,32,34,182,183,187,188] [zL 212 6 15,zq 213 31,zk 214 118 [.t 212,.t 213],zm 211 214,zx 215 0 211,zx 216 1 211,zx 217 2 211,zm 32 215,zm 33 216,zm 34 217]
 (zS [1,15,19,29,182,183,187,188,222] [zm 218 34,zd 219 .neq 218 (zI 0),zm 220 219,ze 220 (zm 221 32),zp 222 220 221]
 (zC 222 (zS [8] [zF 8]
 .ret)
 .skip))))))))
 (zr [1,15,19,29,182,183,187,188] [zd 223 .add 188 (zI 1),zm 188 223])))))))))
 (zr [1,15,19,182,183] [zd 224 .add 183 (zI 1),zm 183 224])))))))
 (zS [8] [zc 8 (.bool true)]
 .ret))))))))))))))))))))) }
def N1003:ar:={ np:=0,nt:=102,res:=[(0,none)],body :=
 (zS [] [zF 0]
 (zS [1,2,3] [zy 14 (.blsF 1 1 [zI 0] [(0,(.c (zI 3)))]),zy 15 (.blsF 1 2 [zI 0] [(0,(.c (zI 0))),(1,(.c (zI 4)))]),zy 16 (.bld [zI 0,zI 0] [(1,1,(.c (zI 2)))]),zy 17 (.blsF 2 1 [zI 0,zI 0] [(0,.t 16)]),zy 18 (.bld [zI 0,zI 0,zI 0,.nils,.nils,.nils,zI 0] [(0,1,(.c (zI 5))),(1,1,(.c (zI 10))),(3,1,.t 14),(4,1,.t 15),(5,1,.t 17),(6,1,(.c (zI 1)))]),zk 19 1007 [.t 18],zm 13 19,zx 20 0 13,zx 21 1 13,zx 22 2 13,zm 1 20,zq 2 21,zm 3 22]
 (zS [1,2,3,4] [zy 23 (.bld [zI 0,zI 0] []),zy 24 (.bld [zI 0,zI 0] [(0,1,(.c (zI 100))),(1,1,(.c (zI 9)))]),zy 25 (.blsF 2 2 [zI 0,zI 0] [(0,.t 23),(1,.t 24)]),zy 26 (.bld [zI 0,zI 0] []),zy 27 (.bld [zI 0,zI 0] [(0,1,(.c (zI 100))),(1,1,(.c (zI 9)))]),zy 28 (.blsF 2 2 [zI 0,zI 0] [(0,.t 26),(1,.t 27)]),zy 29 (.bld [.str [],zI 0,zI 0,.nils,.nils] [(0,1,(.c (.str [115]))),(1,1,(.c (zI 100))),(2,1,(.c (zI 3))),(3,1,.t 25),(4,1,.t 28)]),zy 4 (.alc zA3),zw (.st 5 [] (.t 4) (.t 29))]
 (zS [1,2,3,5,6,7] [zy 31 (.blsF 1 1 [zI 0] [(0,(.c (zI (-1))))]),zy 32 (.blsF 1 1 [zI 0] [(0,(.c (zI 7)))]),zy 33 (.blsF 1 1 [zI 0] [(0,(.c (zI 0)))]),zy 34 (.blsF 1 1 [zI 0] [(0,(.c (zI 0)))]),zy 35 (.blsF 1 1 [zI 0] [(0,(.c (zI 100)))]),zL 36 5 4,zy 37 (.blsF 5 1 [.str [],zI 0,zI 0,.own 2 [],.own 2 []] [(0,.t 36)]),zy 38 (.bld [.nils,.nils,.nils,.nils,.nils,.nils] [(0,1,.t 31),(1,1,.t 32),(2,1,.t 33),(3,1,.t 34),(4,1,.t 35),(5,1,.t 37)]),zk 39 15 [.t 38],zm 30 39,zx 40 0 30,zx 41 1 30,zx 42 2 30,zm 5 40,zq 6 41,zm 7 42]
 (zS [1,2,3,5,6,7,8,9] [zy 44 (.blsF 1 2 [.str []] [(0,(.c (.str [97]))),(1,(.c (.str [98])))]),zk 45 1008 [.t 44,(.c (zI 3))],zm 43 45,zx 46 0 43,zx 47 1 43,zq 8 46,zm 9 47]
 (zS [1,2,3,5,6,7,8,9,10,11,12] [zy 49 (.bld [.nils,.nils] []),zy 50 (.bld [.nils,.nils,.nils,.nils] []),zk 51 1009 [.t 49,(.c .nils),(.c .nils),.t 50,(.c .nils),(.c (zI 60)),(.c (zI 0))],zm 48 51,zx 52 0 48,zx 53 1 48,zx 54 2 48,zq 10 52,zq 11 53,zm 12 54]
 (zS [0] [zm 55 3,zd 56 .eql 55 (zI 0),zm 57 56,zh 57 (zm 58 1),zh 57 (zd 59 .eql 58 (zI 2)),zP 60 57 59,zm 61 60,zh 61 (zq 62 2),zh 61 (zy 63 (.blsF 1 1 [zI 0] [(0,(.c (zI 0)))])),zh 61 (zk 64 19 [.t 62,.t 63]),zP 65 61 64,zm 66 65,zh 66 (zm 67 7),zh 66 (zd 68 .eql 67 (zI 0)),zP 69 66 68,zm 70 69,zh 70 (zm 71 5),zh 70 (zd 72 .eql 71 (zI 21)),zP 73 70 72,zm 74 73,zh 74 (zq 75 6),zh 74 (zy 76 (.blsF 1 1 [zI 0] [(0,(.c (zI 0)))])),zh 74 (zk 77 19 [.t 75,.t 76]),zP 78 74 77,zm 79 78,zh 79 (zm 80 9),zh 79 (zd 81 .eql 80 (zI 0)),zP 82 79 81,zm 83 82,zh 83 (zq 84 8),zh 83 (zy 85 (.blsF 1 1 [.str []] [(0,(.c (.str [97,32,98])))])),zh 83 (zk 86 435 [.t 84,.t 85]),zP 87 83 86,zm 88 87,zh 88 (zm 89 12),zh 88 (zd 90 .eql 89 (zI 0)),zP 91 88 90,zm 92 91,zh 92 (zq 93 10),zh 92 (zn 94 93),zh 92 (zd 95 .eql 94 (zI 0)),zP 96 92 95,zm 97 96,zh 97 (zq 98 11),zh 97 (zn 99 98),zh 97 (zd 100 .eql 99 (zI 0)),zP 101 97 100,zm 0 101]
 .ret))))))) }
def N1004:ar:={ np:=1,nt:=23,res:=[(2,none)],body :=
 (zS [1] [zo 1 0,zF 2]
 (zS [2] [zf 3 0 1,zl 4 1 3,zn 5 4,zd 6 .gtr 5 (zI 12),zm 7 6,ze 7 (zf 8 1 1),ze 7 (zl 9 1 8),ze 7 (zn 10 9),ze 7 (zd 11 .gtr 10 (zI 12)),zp 12 7 11,zm 13 12,ze 13 (zf 14 0 1),ze 13 (zl 15 1 14),ze 13 (zy 16 (.call 453 [.t 15,(.c (.fn 1010 []))] [])),zp 17 13 16,zm 18 17,ze 18 (zf 19 1 1),ze 18 (zl 20 1 19),ze 18 (zy 21 (.call 455 [.t 20,(.c (.fn 1011 []))] [])),zp 22 18 21,zm 2 22]
 .ret)) }
def N1005:ar:={ np:=3,nt:=32,res:=[(6,none)],body :=
 (zS [0,1,2] [zF 6]
 (zS [6] [zm 7 0,zn 8 7,zd 9 .gtr 8 (zI 8),zm 10 9,ze 10 (zq 11 0),ze 10 (zy 12 (.call 45 [.t 11,(.c (.fn 1012 []))] [])),zp 13 10 12,zm 14 13,ze 14 (zm 15 1),ze 14 (zn 16 15),ze 14 (zd 17 .gtr 16 (zI 8)),zp 18 14 17,zm 19 18,ze 19 (zq 20 1),ze 19 (zy 21 (.call 1013 [.t 20,(.c (.fn 1014 []))] [])),zp 22 19 21,zm 23 22,ze 23 (zm 24 2),ze 23 (zn 25 24),ze 23 (zd 26 .gtr 25 (zI 8)),zp 27 23 26,zm 28 27,ze 28 (zq 29 2),ze 28 (zy 30 (.call 928 [.t 29,(.c (.fn 1015 []))] [])),zp 31 28 30,zm 6 31]
 .ret)) }
def N1006:ar:={ np:=1,nt:=6,res:=[(2,none)],body :=
 (zS [1] [zo 1 0,zF 2]
 (zS [2] [zf 3 0 1,zl 4 1 3,zd 5 .gtr 4 (zI 4),zm 2 5]
 .ret)) }
def N1008:ar:={ np:=2,nt:=73,res:=[(4,none),(5,none)],body :=
 (zS [0,3] [zo 3 1,zc 4 .nils,z0 5]
 (zs (zS [0,3,17] [zl 12 1 3,zd 13 .lss 12 (zI 1),zm 14 13,ze 14 (zl 15 1 3),ze 14 (zd 16 .gtr 15 (zI 500)),zp 17 14 16]
 (zC 17 (zS [4,5] [zc 4 .nils,zc 5 (zI 2)]
 .ret)
 .skip))
 (zs (zS [0,3,18,19,20] [zm 18 0,zn 19 18,z0 20]
 (.block 0 (.loop (zS [0,3,18,19,20,21] [zb 21 .lss 20 19]
 (zs (zC 21 .skip
 (.exit 0))
 (zs (.block 1 (zS [0,3,7,18,19,20] [zi 22 1 18 20,zl 23 1 22,zm 7 23]
 (zS [0,3,18,19,20,30] [zm 24 7,zd 25 .eql 24 (.str []),zm 26 25,ze 26 (zm 27 7),ze 26 (zy 28 (.cvB (.t 27))),ze 26 (zy 29 (.call 1021 [.t 28,(.c (.fn 1022 []))] [])),zp 30 26 29]
 (zC 30 (zS [4,5] [zc 4 .nils,zc 5 (zI 7)]
 .ret)
 .skip))))
 (zr [0,3,18,19,20] [zd 31 .add 20 (zI 1),zm 20 31])))))))
 (zs (zS [0,3,34] [zm 32 0,zy 33 (.mk 1023 [.t 3]),zk 34 448 [.t 32,.t 33]]
 (zC 34 (zS [4,5] [zc 4 .nils,zc 5 (zI 5)]
 .ret)
 .skip))
 (zS [0,3,8] [zy 8 (.nilo 1)]
 (zs (zS [3,8,35,36,37] [zq 35 0,zn 36 35,z0 37]
 (.block 2 (.loop (zS [3,8,35,36,37,38] [zb 38 .lss 37 36]
 (zs (zC 38 .skip
 (.exit 2))
 (zs (.block 3 (zS [3,8,10,35,36,37] [zi 39 1 35 37,zl 40 1 39,zm 10 40]
 (zS [3,8,10,11,35,36,37] [zm 41 8,zn 42 41,zd 43 .sub 42 (zI 1),zm 11 43]
 (zs (.reg true [0,1,3,7,7,31,63,127,255,7,519,2047,7,8191,16383] [3,8,10,11,35,36,37,58] [zm 44 11,zd 45 .geq 44 (zI 0),zm 46 45,zh 46 (zm 47 8),zh 46 (zm 48 11),zh 46 (zi 49 1 47 48),zh 46 (zl 50 1 49),zh 46 (zy 51 (.lens (.t 50))),zh 46 (zd 52 .add 51 (zI 1)),zh 46 (zm 53 10),zh 46 (zy 54 (.lens (.t 53))),zh 46 (zb 55 .add 52 54),zh 46 (zl 56 1 3),zh 46 (zb 57 .leq 55 56),zP 58 46 57])
 (zC 58 (zr [3,8,35,36,37] [zm 59 8,zm 60 11,zi 61 1 59 60,zl 62 1 61,zm 63 10,zy 64 (.bin .add (.c (.str [32])) (.t 63)),zb 65 .add 62 64,zi 66 1 59 60,zw (.st 1 [] (.t 66) (.t 65))])
 (zr [3,8,35,36,37] [zm 67 8,zm 68 10,zy 69 (.bls 1 1 [.str []] [] [(0,.t 68)]),zy 70 (.app 1 16 false (.t 67) (.t 69)),zq 8 70]))))))
 (zr [3,8,35,36,37] [zd 71 .add 37 (zI 1),zm 37 71])))))))
 (zS [4,5] [zq 72 8,zq 4 72,z0 5]
 .ret))))))) }
def N1009:ar:={ np:=7,nt:=85,res:=[(14,none),(15,none),(16,none)],body :=
 (zS [1,2,4,5,6,7,10] [zo 7 0,zy 10 (.box [] (.t 3)),zc 14 .nils,zc 15 .nils,z0 16]
 (zs (.block 0 (zS [1,2,4,5,6,7,10,24] [zm 25 1,zk 26 44 [.t 25],zt 27 26,zm 28 27,ze 28 (zm 29 2),ze 28 (zk 30 1024 [.t 29]),ze 28 (zt 31 30),zp 32 28 31,zm 33 32,ze 33 (zL 34 2 7),ze 33 (zL 35 4 10),ze 33 (zk 36 927 [.t 34,.t 35]),ze 33 (zt 37 36),zp 38 33 37,zm 24 38]
 (zC 24 (zS [14,15,16] [zc 14 .nils,zc 15 .nils,zc 16 (zI 1)]
 .ret)
 (zS [1,2,4,5,6,7,10,39] [zm 40 6,zd 41 .lss 40 (zI 0),zm 42 41,ze 42 (zm 43 6),ze 42 (zd 44 .gtr 43 (zI 10000)),zp 45 42 44,zm 39 45]
 (zC 39 (zS [14,15,16] [zc 14 .nils,zc 15 .nils,zc 16 (zI 2)]
 .ret)
 .skip)))))
 (zs (zS [1,2,4,5,6,7,10,17] [zL 46 2 7,zm 47 4,zk 48 1025 [.t 46,.t 47],zm 17 48]
 (zS [1,2,4,5,6,7,10,17,50] [zm 49 17,zd 50 .neq 49 (zI 0)]
 (zC 50 (zS [14,15,16] [zm 51 17,zc 14 .nils,zc 15 .nils,zm 16 51]
 .ret)
 .skip)))
 (zS [1,2,4,5,6,7,10,18] [zy 18 (.nilo 4)]
 (zS [1,2,4,5,6,7,10,18,19] [zy 19 (.nilo 3)]
 (zs (zS [1,2,4,5,7,10,18,19,52,53] [zm 52 6,z0 53]
 (.block 1 (.loop (zS [1,2,4,5,7,10,18,19,52,53,54] [zb 54 .lss 53 52]
 (zs (zC 54 .skip
 (.exit 1))
 (zs (.block 2 (zS [1,2,4,5,7,10,18,19,20,52,53] [zm 55 53,zm 20 55]
 (zs (.reg true [0,0,0,0,0,0,0,112,0,511,1023,2047,2047,2047,0,0,53247,122879,262143] [1,2,4,5,7,10,18,19,21,22,23,52,53] [zL 57 2 7,zm 58 1,zm 59 2,zL 60 4 10,zL 61 2 7,zm 62 4,zm 63 20,zk 64 1027 [.t 61,.t 62,.t 63],zm 65 5,zk 66 1026 [.t 57,.t 58,.t 59,.t 60,.t 64,.t 65],zm 56 66,zx 67 0 56,zx 68 1 56,zx 69 2 56,zy 21 (.alc [.own 1 [],.own 1 [],.own 1 [],.own 1 []]),zy 22 (.alc [zI 0,zI 0,.own 1 []]),zw (.st 4 [] (.t 21) (.t 67)),zw (.st 3 [] (.t 22) (.t 68)),zm 23 69])
 (zs (zS [1,2,4,5,7,10,18,19,21,22,23,52,53,71] [zm 70 23,zd 71 .neq 70 (zI 0)]
 (zC 71 (zS [14,15,16] [zm 72 23,zc 14 .nils,zc 15 .nils,zm 16 72]
 .ret)
 .skip))
 (zS [1,2,4,5,7,10,18,19,21,22,52,53] [zL 73 4 21,zw (.st 4 [] (.t 10) (.t 73))]
 (.reg true [0,0,2,7,0,0,32,127,255,511] [1,2,4,5,7,10,18,19,52,53] [zm 74 18,zL 75 4 21,zy 76 (.bls 4 1 [.own 1 [],.own 1 [],.own 1 [],.own 1 []] [] [(0,.t 75)]),zy 77 (.app 4 96 true (.t 74) (.t 76)),zm 78 19,zL 79 3 22,zy 80 (.bls 3 1 [zI 0,zI 0,.own 1 []] [] [(0,.t 79)]),zy 81 (.app 3 40 true (.t 78) (.t 80)),zq 18 77,zq 19 81]))))))
 (zr [1,2,4,5,7,10,18,19,52,53] [zd 82 .add 53 (zI 1),zm 53 82])))))))
 (zS [14,15,16] [zq 83 18,zq 84 19,zq 14 83,zq 15 84,z0 16]
 .ret))))))) }
def N1010:ar:={ np:=1,nt:=13,res:=[(2,none)],body :=
 (zS [1] [zo 1 0,zF 2]
 (zS [2] [zf 3 6 1,zl 4 1 3,zn 5 4,zd 6 .gtr 5 (zI 20),zm 7 6,ze 7 (zf 8 0 1),ze 7 (zl 9 1 8),ze 7 (zy 10 (.lens (.t 9))),ze 7 (zd 11 .gtr 10 (zI 60)),zp 12 7 11,zm 2 12]
 .ret)) }
def N1011:ar:={ np:=1,nt:=31,res:=[(2,none)],body :=
 (zS [1] [zo 1 0,zF 2]
 (zS [2] [zf 3 10 1,zl 4 1 3,zn 5 4,zd 6 .gtr 5 (zI 20),zm 7 6,ze 7 (zf 8 0 1),ze 7 (zl 9 1 8),ze 7 (zy 10 (.lens (.t 9))),ze 7 (zd 11 .gtr 10 (zI 60)),zp 12 7 11,zm 13 12,ze 13 (zf 14 1 1),ze 13 (zl 15 1 14),ze 13 (zy 16 (.lens (.t 15))),ze 13 (zd 17 .gtr 16 (zI 60)),zp 18 13 17,zm 19 18,ze 19 (zf 20 2 1),ze 19 (zl 21 1 20),ze 19 (zy 22 (.lens (.t 21))),ze 19 (zd 23 .gtr 22 (zI 60)),zp 24 19 23,zm 25 24,ze 25 (zf 26 7 1),ze 25 (zl 27 1 26),ze 25 (zy 28 (.lens (.t 27))),ze 25 (zd 29 .gtr 28 (zI 60)),zp 30 25 29,zm 2 30]
 .ret)) }
def N1012:ar:={ np:=1,nt:=13,res:=[(2,none)],body :=
 (zS [1] [zo 1 0,zF 2]
 (zS [2] [zf 3 3 1,zl 4 1 3,zn 5 4,zd 6 .gtr 5 (zI 20),zm 7 6,ze 7 (zf 8 4 1),ze 7 (zl 9 1 8),ze 7 (zn 10 9),ze 7 (zd 11 .gtr 10 (zI 20)),zp 12 7 11,zm 2 12]
 .ret)) }
def N1013:ar:={ np:=2,nt:=9,res:=[(4,none)],body :=
 (zS [0,1] [zF 4]
 (zS [4] [zq 5 0,zm 6 1,zk 7 1028 [.t 5,.t 6],zd 8 .geq 7 (zI 0),zm 4 8]
 .ret)) }
def N1014:ar:={ np:=1,nt:=7,res:=[(2,none)],body :=
 (zS [1] [zo 1 0,zF 2]
 (zS [2] [zf 3 1 1,zl 4 1 3,zn 5 4,zd 6 .gtr 5 (zI 8),zm 2 6]
 .ret)) }
def N1015:ar:={ np:=1,nt:=7,res:=[(2,none)],body :=
 (zS [1] [zo 1 0,zF 2]
 (zS [2] [zf 3 1 1,zl 4 1 3,zn 5 4,zd 6 .gtr 5 (zI 40),zm 2 6]
 .ret)) }
def N1016:ar:={ np:=1,nt:=41,res:=[(2,none),(3,none)],body :=
 (zS [1] [zo 1 0,zc 2 .nilp,zF 3]
 (zs (zS [1,11] [zL 9 7 1,zk 10 1029 [.t 9],zt 11 10]
 (zC 11 (zS [2,3] [zc 2 .nilp,zF 3]
 .ret)
 .skip))
 (zS [1,4] [zL 12 7 1,zy 13 (.bld [zI 0,zI 0,zI 0,.nils,.nils,.nils,zI 0,.nils] [(0,7,.t 12)]),zy 14 (.box [] (.t 13)),zm 4 14]
 (zs (zS [1,4,16,17,18] [zf 15 4 1,zl 16 1 15,zn 17 16,z0 18]
 (.block 0 (.loop (zS [1,4,16,17,18,19] [zb 19 .lss 18 17]
 (zs (zC 19 .skip
 (.exit 0))
 (zs (.block 1 (zS [1,4,6,16,17,18] [zi 20 1 16 18,zl 21 1 20,zm 6 21]
 (zS [1,4,7,16,17,18] [zf 23 5 1,zl 24 1 23,zm 25 6,zk 26 73 [.t 24,.t 25],zm 22 26,zx 27 0 22,zx 28 1 22,zm 7 27,zm 8 28]
 (zr [1,4,16,17,18] [zm 29 4,zm 30 4,zy 31 (.nck (.t 30)),zf 32 7 31,zl 33 1 32,zm 34 7,zy 35 (.bls 1 1 [zI 0] [] [(0,.t 34)]),zy 36 (.app 1 8 false (.t 33) (.t 35)),zy 37 (.nck (.t 29)),zf 38 7 37,zw (.st 1 [] (.t 38) (.t 36))]))))
 (zr [1,4,16,17,18] [zd 39 .add 18 (zI 1),zm 18 39])))))))
 (zS [2,3] [zm 40 4,zm 2 40,zc 3 (.bool true)]
 .ret))))) }
def N1020:ar:={ np:=4,nt:=65,res:=[(8,none),(9,none),(10,none)],body :=
 (zS [0,1,2,3] [z0 8,z0 9,zF 10]
 (zs (.reg true [0,0,2,6,14,30,0,126,254,511,0,1024,3072,7168,15360,0,64512,130048,262143,524287] [0,3,11] [zm 13 1,zm 14 0,zy 15 (.nck (.t 14)),zf 16 0 15,zf 17 3 16,zl 18 1 17,zm 19 2,zi 20 1 18 19,zl 21 1 20,zb 22 .add 13 21,zm 23 0,zy 24 (.nck (.t 23)),zf 25 0 24,zf 26 4 25,zl 27 1 26,zm 28 3,zi 29 1 27 28,zl 30 1 29,zb 31 .sub 22 30,zm 11 31])
 (zs (zS [0,3,11,38] [zm 32 11,zm 33 0,zy 34 (.nck (.t 33)),zf 35 0 34,zf 36 2 35,zl 37 1 36,zb 38 .lss 32 37]
 (zC 38 (zS [8,9,10] [z0 8,z0 9,zF 10]
 .ret)
 .skip))
 (zS [0,3,11,12] [zm 39 11,zm 40 0,zy 41 (.nck (.t 40)),zf 42 0 41,zf 43 1 42,zl 44 1 43,zb 45 .sub 39 44,zy 46 (.mx (.c (zI 0)) (.t 45)),zm 12 46]
 (zs (.reg true [0,0,3,0,8,24,56,0,248,504,0,1024,3072,7168,15360,0,64512,131064,7,524287,1048575] [8,9,10] [zm 47 11,zm 48 12,zb 49 .sub 47 48,zm 50 0,zy 51 (.nck (.t 50)),zf 52 7 51,zl 53 1 52,zm 54 3,zi 55 1 53 54,zl 56 1 55,zm 57 0,zy 58 (.nck (.t 57)),zf 59 0 58,zf 60 6 59,zl 61 1 60,zm 62 12,zb 63 .mul 61 62,zb 64 .add 56 63,zm 8 49,zm 9 64,zc 10 (.bool true)])
 .ret))))) }
def N1021:ar:={ np:=2,nt:=9,res:=[(4,none)],body :=
 (zS [0,1] [zF 4]
 (zS [4] [zq 5 0,zm 6 1,zk 7 1032 [.t 5,.t 6],zd 8 .geq 7 (zI 0),zm 4 8]
 .ret)) }
def N1022:ar:={ np:=1,nt:=9,res:=[(2,none)],body :=
 (zS [0] [zF 2]
 (zS [2] [zm 3 0,zd 4 .lss 3 (.int .u8 33),zm 5 4,ze 5 (zm 6 0),ze 5 (zd 7 .gtr 6 (.int .u8 126)),zp 8 5 7,zm 2 8]
 .ret)) }
def N1023:ar:={ np:=2,nt:=8,res:=[(3,none)],body :=
 (zS [0,1] [zF 3]
 (zS [3] [zm 4 0,zy 5 (.lens (.t 4)),zl 6 1 1,zb 7 .gtr 5 6,zm 3 7]
 .ret)) }
def N1024:ar:={ np:=1,nt:=29,res:=[(2,none)],body :=
 (zS [0] [zF 2]
 (zs (zS [0,8] [zm 6 0,zn 7 6,zd 8 .gtr 7 (zI 60)]
 (zC 8 (zS [2] [zF 2]
 .ret)
 .skip))
 (zS [0,3] [zy 9 (.mkm 0 1),zm 3 9]
 (zs (zS [3,10,11,12] [zq 10 0,zn 11 10,z0 12]
 (.block 0 (.loop (zS [3,10,11,12,13] [zb 13 .lss 12 11]
 (zs (zC 13 .skip
 (.exit 0))
 (zs (.block 1 (zS [3,5,10,11,12] [zi 14 4 10 12,zL 15 4 14,zy 5 (.alc [.str [],.own 3 [],.str [],zI 0]),zw (.st 4 [] (.t 5) (.t 15))]
 (zs (zS [3,5,10,11,12,24] [zL 16 4 5,zk 17 1033 [.t 16],zt 18 17,zm 19 18,ze 19 (zm 20 3),ze 19 (zf 21 0 5),ze 19 (zl 22 1 21),ze 19 (zy 23 (.mpl .str 0 1 false (.bool false) (.t 20) (.t 22))),zp 24 19 23]
 (zC 24 (zS [2] [zF 2]
 .ret)
 .skip))
 (zr [3,10,11,12] [zm 25 3,zf 26 0 5,zl 27 1 26,zw (.mpu .str 0 1 (.bool false) (.t 25) (.t 27) (.c (.bool true)))]))))
 (zr [3,10,11,12] [zd 28 .add 12 (zI 1),zm 12 28])))))))
 (zS [2] [zc 2 (.bool true)]
 .ret))))) }
def N1025:ar:={ np:=2,nt:=48,res:=[(4,none)],body :=
 (zS [1,2] [zo 2 0,z0 4]
 (zS [1,2,5] [zy 5 (.alc [zI 0]),zw (.st 1 [] (.t 5) (.c (zI 0)))]
 (zS [1,2,5,6] [zy 12 (.mk 1034 [.t 5]),zm 6 12]
 (zS [1,2,5,6,7] [zy 13 (.mkm 0 1),zm 7 13]
 (zs (zS [2,5,6,7,14,15,16] [zq 14 1,zn 15 14,z0 16]
 (.block 0 (.loop (zS [2,5,6,7,14,15,16,17] [zb 17 .lss 16 15]
 (zs (zC 17 .skip
 (.exit 0))
 (zs (.block 1 (zS [2,5,6,7,9,14,15,16] [zi 18 2 14 16,zL 19 2 18,zy 9 (.alc [.str [],.own 1 []]),zw (.st 2 [] (.t 9) (.t 19))]
 (zs (zS [2,5,6,7,9,11,14,15,16] [zL 21 2 2,zf 22 0 9,zl 23 1 22,zk 24 482 [.t 21,.t 23],zm 20 24,zx 25 0 20,zx 26 1 20,zm 10 25,zm 11 26]
 (zS [2,5,6,7,9,14,15,16,28] [zm 27 11,zd 28 .neq 27 (zI 0)]
 (zC 28 (zr [2,5,6,7,9,14,15,16] [zm 29 6,zy 30 (.callv (.t 29) [(.c (zI 9))])])
 .skip)))
 (zs (zS [2,5,6,7,9,14,15,16,34] [zm 31 7,zf 32 0 9,zl 33 1 32,zy 34 (.mpl .str 0 1 false (.bool false) (.t 31) (.t 33))]
 (zC 34 (zr [2,5,6,7,9,14,15,16] [zm 35 6,zy 36 (.callv (.t 35) [(.c (zI 10))])])
 .skip))
 (zS [2,5,6,7,9,14,15,16] [zm 37 7,zf 38 0 9,zl 39 1 38,zw (.mpu .str 0 1 (.bool false) (.t 37) (.t 39) (.c (.bool true)))]
 (zS [2,5,6,7,14,15,16,43] [zf 40 1 9,zl 41 1 40,zn 42 41,zd 43 .gtr 42 (zI 10000)]
 (zC 43 (zr [2,5,6,7,14,15,16] [zm 44 6,zy 45 (.callv (.t 44) [(.c (zI 4))])])
 .skip)))))))
 (zr [2,5,6,7,14,15,16] [zd 46 .add 16 (zI 1),zm 16 46])))))))
 (zS [4] [zl 47 1 5,zm 4 47]
 .ret)))))) }
def N1028:ar:={ np:=2,nt:=19,res:=[(4,none)],body :=
 (zS [0,1] [z0 4]
 (zs (zS [0,1,7,8] [zm 6 0,zn 7 6,z0 8]
 (.block 0 (.loop (zS [0,1,7,8,9] [zb 9 .lss 8 7]
 (zs (zC 9 .skip
 (.exit 0))
 (zs (.block 1 (zS [0,1,5,7,8] [zm 10 8,zm 5 10]
 (zS [0,1,5,7,8,16] [zm 11 1,zm 12 0,zm 13 5,zi 14 4 12 13,zL 15 4 14,zy 16 (.callv (.t 11) [.t 15])]
 (zC 16 (zS [4] [zm 17 5,zm 4 17]
 .ret)
 .skip))))
 (zr [0,1,7,8] [zd 18 .add 8 (zI 1),zm 8 18])))))))
 (zS [4] [zy 4 (.mov (.c (zI (-1))))]
 .ret))) }
def N1029:ar:={ np:=1,nt:=109,res:=[(2,none)],body :=
 (zS [1] [zo 1 0,zF 2]
 (zs (zS [1,53] [zf 7 1 1,zl 8 1 7,zk 9 1037 [.t 8,(.c (zI 1)),(.c (zI 1099511627776))],zt 10 9,zm 11 10,ze 11 (zf 12 2 1),ze 11 (zl 13 1 12),ze 11 (zf 14 1 1),ze 11 (zl 15 1 14),ze 11 (zk 16 1037 [.t 13,(.c (zI 0)),.t 15]),ze 11 (zt 17 16),zp 18 11 17,zm 19 18,ze 19 (zf 20 0 1),ze 19 (zl 21 1 20),ze 19 (zf 22 2 1),ze 19 (zl 23 1 22),ze 19 (zf 24 1 1),ze 19 (zl 25 1 24),ze 19 (zk 26 1037 [.t 21,.t 23,.t 25]),ze 19 (zt 27 26),zp 28 19 27,zm 29 28,ze 29 (zf 30 3 1),ze 29 (zl 31 1 30),ze 29 (zn 32 31),ze 29 (zd 33 .gtr 32 (zI 200)),zp 34 29 33,zm 35 34,ze 35 (zf 36 4 1),ze 35 (zl 37 1 36),ze 35 (zn 38 37),ze 35 (zk 39 1037 [.t 38,(.c (zI 1)),(.c (zI 20))]),ze 35 (zt 40 39),zp 41 35 40,zm 42 41,ze 42 (zf 43 6 1),ze 42 (zl 44 1 43),ze 42 (zk 45 1037 [.t 44,(.c (zI 0)),(.c (zI 1000))]),ze 42 (zt 46 45),zp 47 42 46,zm 48 47,ze 48 (zf 49 5 1),ze 48 (zl 50 1 49),ze 48 (zk 51 72 [.t 50]),ze 48 (zt 52 51),zp 53 48 52]
 (zC 53 (zS [2] [zF 2]
 .ret)
 .skip))
 (zs (zS [1,55,56,57] [zf 54 3 1,zl 55 1 54,zn 56 55,z0 57]
 (.block 0 (.loop (zS [1,55,56,57,58] [zb 58 .lss 57 56]
 (zs (zC 58 .skip
 (.exit 0))
 (zs (.block 1 (zS [1,4,55,56,57] [zi 59 1 55 57,zl 60 1 59,zm 4 60]
 (zS [1,55,56,57,63] [zm 61 4,zk 62 1037 [.t 61,(.c (zI 0)),(.c (zI 1099511627776))],zt 63 62]
 (zC 63 (zS [2] [zF 2]
 .ret)
 .skip))))
 (zr [1,55,56,57] [zd 64 .add 57 (zI 1),zm 57 64])))))))
 (zs (zS [1,66,67,68] [zf 65 4 1,zl 66 1 65,zn 67 66,z0 68]
 (.block 2 (.loop (zS [1,66,67,68,69] [zb 69 .lss 68 67]
 (zs (zC 69 .skip
 (.exit 2))
 (zs (.block 3 (zS [1,5,6,66,67,68] [zm 70 68,zi 71 1 66 68,zl 72 1 71,zm 5 70,zm 6 72]
 (zS [1,66,67,68,89] [zm 73 6,zk 74 1037 [.t 73,(.c (zI 0)),(.c (zI 1099511627776))],zt 75 74,zm 76 75,ze 76 (zm 77 5),ze 76 (zd 78 .gtr 77 (zI 0)),ze 76 (zm 79 78),zh 79 (zm 80 6),zh 79 (zf 81 4 1),zh 79 (zl 82 1 81),zh 79 (zm 83 5),zh 79 (zd 84 .sub 83 (zI 1)),zh 79 (zi 85 1 82 84),zh 79 (zl 86 1 85),zh 79 (zb 87 .leq 80 86),ze 76 (zP 88 79 87),zp 89 76 88]
 (zC 89 (zS [2] [zF 2]
 .ret)
 .skip))))
 (zr [1,66,67,68] [zd 90 .add 68 (zI 1),zm 68 90])))))))
 (zS [2] [zf 91 5 1,zl 92 1 91,zy 93 (.iadS 2 (.t 92) (.c (zI 0))),zf 94 1 93,zl 95 1 94,zd 96 .geq 95 (zI 0),zm 97 96,zh 97 (zf 98 5 1),zh 97 (zl 99 1 98),zh 97 (zf 100 5 1),zh 97 (zl 101 1 100),zh 97 (zn 102 101),zh 97 (zd 103 .sub 102 (zI 1)),zh 97 (zi 104 2 99 103),zh 97 (zf 105 1 104),zh 97 (zl 106 1 105),zh 97 (zd 107 .leq 106 (zI 1099511627776)),zP 108 97 107,zm 2 108]
 .ret))))) }
def N1032:ar:={ np:=2,nt:=19,res:=[(4,none)],body :=
 (zS [0,1] [z0 4]
 (zs (zS [0,1,7,8] [zm 6 0,zn 7 6,z0 8]
 (.block 0 (.loop (zS [0,1,7,8,9] [zb 9 .lss 8 7]
 (zs (zC 9 .skip
 (.exit 0))
 (zs (.block 1 (zS [0,1,5,7,8] [zm 10 8,zm 5 10]
 (zS [0,1,5,7,8,16] [zm 11 1,zm 12 0,zm 13 5,zi 14 1 12 13,zl 15 1 14,zy 16 (.callv (.t 11) [.t 15])]
 (zC 16 (zS [4] [zm 17 5,zm 4 17]
 .ret)
 .skip))))
 (zr [0,1,7,8] [zd 18 .add 8 (zI 1),zm 8 18])))))))
 (zS [4] [zy 4 (.mov (.c (zI (-1))))]
 .ret))) }
def N1037:ar:={ np:=3,nt:=15,res:=[(6,none)],body :=
 (zS [0,1,2] [zF 6]
 (zS [6] [zm 7 0,zm 8 1,zb 9 .geq 7 8,zm 10 9,zh 10 (zm 11 0),zh 10 (zm 12 2),zh 10 (zb 13 .leq 11 12),zP 14 10 13,zm 6 14]
 .ret)) }
def prog:Nat->Option ar
 | 11=>some N11
 | 15=>some N15
 | 19=>some N19
 | 24=>some N24
 | 29=>some N29
 | 30=>some N30
 | 31=>some N31
 | 32=>some N32
 | 35=>some N35
 | 39=>some N39
 | 40=>some N40
 | 42=>some N42
 | 44=>some N44
 | 45=>some N45
 | 47=>some N47
 | 51=>some N51
 | 52=>some N52
 | 53=>some N53
 | 58=>some N58
 | 59=>some N59
 | 60=>some N60
 | 61=>some N61
 | 70=>some N70
 | 71=>some N71
 | 72=>some N72
 | 73=>some N73
 | 74=>some N74
 | 75=>some N75
 | 76=>some N76
 | 77=>some N77
 | 88=>some N88
 | 89=>some N89
 | 90=>some N90
 | 91=>some N91
 | 92=>some N92
 | 96=>some N96
 | 97=>some N97
 | 98=>some N98
 | 99=>some N99
 | 100=>some N100
 | 101=>some N101
 | 102=>some N102
 | 103=>some N103
 | 104=>some N104
 | 105=>some N105
 | 106=>some N106
 | 107=>some N107
 | 108=>some N108
 | 109=>some N109
 | 110=>some N110
 | 111=>some N111
 | 112=>some N112
 | 113=>some N113
 | 118=>some N118
 | 120=>some N120
 | 121=>some N121
 | 122=>some N122
 | 125=>some N125
 | 129=>some N129
 | 164=>some N164
 | 168=>some N168
 | 169=>some N169
 | 170=>some N170
 | 171=>some N171
 | 172=>some N172
 | 173=>some N173
 | 174=>some N174
 | 175=>some N175
 | 176=>some N176
 | 177=>some N177
 | 178=>some N178
 | 179=>some N179
 | 180=>some N180
 | 181=>some N181
 | 182=>some N182
 | 183=>some N183
 | 184=>some N184
 | 185=>some N185
 | 266=>some N266
 | 267=>some N267
 | 299=>some N299
 | 315=>some N315
 | 333=>some N333
 | 339=>some N339
 | 411=>some N411
 | 428=>some N428
 | 433=>some N433
 | 435=>some N435
 | 441=>some N441
 | 442=>some N442
 | 448=>some N448
 | 453=>some N453
 | 455=>some N455
 | 460=>some N460
 | 461=>some N461
 | 470=>some N470
 | 471=>some N471
 | 472=>some N472
 | 473=>some N473
 | 474=>some N474
 | 475=>some N475
 | 480=>some N480
 | 481=>some N481
 | 484=>some N484
 | 491=>some N491
 | 492=>some N492
 | 493=>some N493
 | 494=>some N494
 | 495=>some N495
 | 496=>some N496
 | 497=>some N497
 | 499=>some N499
 | 503=>some N503
 | 504=>some N504
 | 506=>some N506
 | 509=>some N509
 | 510=>some N510
 | 511=>some N511
 | 514=>some N514
 | 515=>some N515
 | 516=>some N516
 | 517=>some N517
 | 518=>some N518
 | 522=>some N522
 | 524=>some N524
 | 544=>some N544
 | 565=>some N565
 | 566=>some N566
 | 587=>some N587
 | 589=>some N589
 | 590=>some N590
 | 598=>some N598
 | 605=>some N605
 | 606=>some N606
 | 607=>some N607
 | 608=>some N608
 | 609=>some N609
 | 627=>some N627
 | 628=>some N628
 | 629=>some N629
 | 631=>some N631
 | 633=>some N633
 | 636=>some N636
 | 647=>some N647
 | 927=>some N927
 | 928=>some N928
 | 949=>some N949
 | 1002=>some N1002
 | 1003=>some N1003
 | 1004=>some N1004
 | 1005=>some N1005
 | 1006=>some N1006
 | 1008=>some N1008
 | 1009=>some N1009
 | 1010=>some N1010
 | 1011=>some N1011
 | 1012=>some N1012
 | 1013=>some N1013
 | 1014=>some N1014
 | 1015=>some N1015
 | 1016=>some N1016
 | 1020=>some N1020
 | 1021=>some N1021
 | 1022=>some N1022
 | 1023=>some N1023
 | 1024=>some N1024
 | 1025=>some N1025
 | 1028=>some N1028
 | 1029=>some N1029
 | 1032=>some N1032
 | 1037=>some N1037
 | _=>none
def da:Nat->Option lj
 | _=>none
end Go.Gv
