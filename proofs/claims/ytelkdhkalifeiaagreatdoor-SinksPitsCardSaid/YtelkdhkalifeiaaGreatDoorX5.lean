/-
  Texts of the proof: GvP.
-/
import Derived.Test.YtelkdhkalifeiaaGreatDoorX4
set_option linter.all false
set_option maxRecDepth 4000
namespace Go.Gv
@[simp] def zr (k : List Nat) (o : List aA) : dD:=.reg false [] k o
@[simp] def zI (n : Int) : D:=.int .i64 n
@[simp] def zC (t : Nat) (a b : dD) : dD:=.cond (.t t) a b
@[simp] def zs (a b : dD) : dD:=.seq a b
@[simp] def zy (t : Nat) (o : NOp) : aA:=⟨some t,o,none⟩
@[simp] def zw (o : NOp) : aA:=⟨none,o,none⟩
@[simp] def zp (a c x : Nat) : aA:=⟨some a,.pick (.t c) (.c (.bool true)) (.t x),none⟩
@[simp] def zP (a c x : Nat) : aA:=⟨some a,.pick (.t c) (.t x) (.c (.bool false)),none⟩
@[simp] def zA1 : List D:=[zI 0,zI 0]
@[simp] def zA2 : List D:=[.int .u64 0,.int .u64 0,.bool false]
@[simp] def zA3 : List D:=[zI 0,zI 0,zI 0]
@[simp] def zA4 : List D:=[.int .u64 0,.int .u64 0]
@[simp] def zA5 : List D:=[zI 0,zI 0,zI 0,zI 0]
@[simp] def zA6 : List D:=[zI 0,zI 0,zI 0,zI 0,zI 0,zI 0]
@[simp] def zA7 : List D:=[.own 1 [],.own 1 [],.own 1 [],.own 1 [],.own 1 [],.own 1 [],.own 1 []]
@[simp] def zm (a b : Nat) : aA:=⟨some a,.mov (.t b),none⟩
@[simp] def zc (a : Nat) (d : D) : aA:=⟨some a,.mov (.c d),none⟩
@[simp] def zf (a i b : Nat) : aA:=⟨some a,.fad i (.t b),none⟩
@[simp] def zl (a n b : Nat) : aA:=⟨some a,.ld n false (.t b),none⟩
@[simp] def zL (a n b : Nat) : aA:=⟨some a,.ld n true (.t b),none⟩
@[simp] def zx (a i b : Nat) : aA:=⟨some a,.ext i (.t b),none⟩
@[simp] def zn (a b : Nat) : aA:=⟨some a,.len (.t b),none⟩
@[simp] def zq (a b : Nat) : aA:=⟨some a,.asg (.t b),none⟩
@[simp] def zi (a n b c : Nat) : aA:=⟨some a,.iadS n (.t b) (.t c),none⟩
@[simp] def zo (a b : Nat) : aA:=⟨some a,.boxF (.t b),none⟩
@[simp] def zt (a b : Nat) : aA:=⟨some a,.un .not (.t b),none⟩
@[simp] def zk (a g : Nat) (xs : List Opd) : aA:=⟨some a,.call g xs [],none⟩
@[simp] def zb (a : Nat) (op : BinOp) (b c : Nat) : aA:=⟨some a,.bin op (.t b) (.t c),none⟩
@[simp] def zd (a : Nat) (op : BinOp) (b : Nat) (d : D) : aA:=⟨some a,.bin op (.t b) (.c d),none⟩
@[simp] def zg (c : Nat) (b : Bool) (s : aA) : aA:=⟨s.dst,s.op,some (c,b)⟩
def N11 : aE:={ np:=2,nt:=9,res:=[(4,none)],body :=
 (zs (zr [0,1] [zc 4 (.bool false)])
 (zs (zr [4] [zq 5 0,zm 6 1,zk 7 35 [.t 5,.t 6],zd 8 .geq 7 (zI 0),zm 4 8])
 .ret)) }
def N19 : aE:={ np:=2,nt:=26,res:=[(4,none)],body :=
 (zs (zr [0,1] [zc 4 (.bool false)])
 (zs (zs (zr [0,1,10] [zm 6 0,zn 7 6,zm 8 1,zn 9 8,zb 10 .neq 7 9])
 (zC 10 (zs (zr [4] [zc 4 (.bool false)])
 .ret)
 .skip))
 (zs (zs (zr [0,1,12,13] [zm 11 0,zn 12 11,zc 13 (zI 0)])
 (.block 0 (.loop (zs (zr [0,1,12,13,14] [zb 14 .lss 13 12])
 (zs (zC 14 .skip
 (.exit 0))
 (zs (.block 1 (zs (zr [0,1,5,12,13] [zm 15 13,zm 5 15])
 (zs (.reg true [0,0,3,7,0,0,48,112,255] [0,1,12,13,24] [zm 16 0,zm 17 5,zi 18 1 16 17,zl 19 1 18,zm 20 1,zm 21 5,zi 22 1 20 21,zl 23 1 22,zb 24 .neq 19 23])
 (zC 24 (zs (zr [4] [zc 4 (.bool false)])
 .ret)
 .skip))))
 (zr [0,1,12,13] [zd 25 .add 13 (zI 1),zm 13 25])))))))
 (zs (zr [4] [zc 4 (.bool true)])
 .ret)))) }
def N20 : aE:={ np:=3,nt:=32,res:=[(6,none)],body :=
 (zs (zr [0,1,2] [zc 6 (.bool false)])
 (zs (zs (zr [0,1,2,14] [zm 10 0,zn 11 10,zm 12 1,zn 13 12,zb 14 .neq 11 13])
 (zC 14 (zs (zr [6] [zc 6 (.bool false)])
 .ret)
 .skip))
 (zs (zs (zr [1,2,15,16,17] [zq 15 0,zn 16 15,zc 17 (zI 0)])
 (.block 0 (.loop (zs (zr [1,2,15,16,17,18] [zb 18 .lss 17 16])
 (zs (zC 18 .skip
 (.exit 0))
 (zs (.block 1 (zs (zr [1,2,7,8,15,16,17] [zm 19 17,zi 20 1 15 17,zl 21 1 20,zm 7 19,zq 8 21])
 (zs (zr [1,2,8,9,15,16,17] [zm 22 1,zm 23 7,zi 24 1 22 23,zl 25 1 24,zq 9 25])
 (zs (zr [1,2,15,16,17,30] [zm 26 2,zq 27 8,zq 28 9,zy 29 (.callv (.t 26) [.t 27,.t 28]),zt 30 29])
 (zC 30 (zs (zr [6] [zc 6 (.bool false)])
 .ret)
 .skip)))))
 (zr [1,2,15,16,17] [zd 31 .add 17 (zI 1),zm 17 31])))))))
 (zs (zr [6] [zc 6 (.bool true)])
 .ret)))) }
def N35 : aE:={ np:=2,nt:=19,res:=[(4,none)],body :=
 (zs (zr [0,1] [zc 4 (zI 0)])
 (zs (zs (zr [0,1,7,8] [zm 6 0,zn 7 6,zc 8 (zI 0)])
 (.block 0 (.loop (zs (zr [0,1,7,8,9] [zb 9 .lss 8 7])
 (zs (zC 9 .skip
 (.exit 0))
 (zs (.block 1 (zs (zr [0,1,5,7,8] [zm 10 8,zm 5 10])
 (zs (zr [0,1,5,7,8,16] [zm 11 1,zm 12 0,zm 13 5,zi 14 1 12 13,zl 15 1 14,zy 16 (.callv (.t 11) [.t 15])])
 (zC 16 (zs (zr [4] [zm 17 5,zm 4 17])
 .ret)
 .skip))))
 (zr [0,1,7,8] [zd 18 .add 8 (zI 1),zm 8 18])))))))
 (zs (zr [4] [zy 4 (.mov (.c (zI (-1))))])
 .ret))) }
def N42 : aE:={ np:=1,nt:=8,res:=[(2,none)],body :=
 (zs (zr [0] [zc 2 .nils])
 (zs (zs (zr [0,4] [zm 3 0,zy 4 (.beq false [9] (.t 3) (.c .nils))])
 (zC 4 (zs (zr [2] [zc 2 .nils])
 .ret)
 .skip))
 (zs (zr [2] [zy 5 (.bls 1 0 [zI 0] [] []),zq 6 0,zy 7 (.app 1 8 false (.t 5) (.t 6)),zq 2 7])
 .ret))) }
def N66 : aE:={ np:=2,nt:=33,res:=[(4,some (3,true))],body :=
 (zs (zr [2,3,4] [zo 2 0,zo 3 1,zy 4 (.alc zA2)])
 (zs (zr [2,3,4,5,6] [zf 9 0 2,zL 10 2 9,zf 11 0 3,zL 12 2 11,zk 13 82 [.t 10,.t 12],zm 8 13,zx 14 0 8,zx 15 1 8,zy 5 (.alc zA4),zy 6 (.alc zA4),zw (.st 2 [] (.t 5) (.t 14)),zw (.st 2 [] (.t 6) (.t 15))])
 (zs (zr [4,5,6,7] [zf 16 2 2,zl 17 1 16,zf 18 2 3,zl 19 1 18,zy 20 (.beq true [] (.t 17) (.t 19)),zm 7 20])
 (zs (zs (zr [4,5,7,26] [zm 21 7,zm 22 21,zg 22 true (zL 23 2 6),zg 22 true (zy 24 (.bld [.int .u64 0,.int .u64 0] [])),zg 22 true (zy 25 (.beq true [0,0] (.t 23) (.t 24))),zP 26 22 25])
 (zC 26 (zr [4,5,7] [zL 27 2 5,zy 28 (.bld [.int .u64 0,.int .u64 0] [(0,1,(.c (.int .u64 0))),(1,1,(.c (.int .u64 1)))]),zk 29 83 [.t 27,.t 28],zw (.st 2 [] (.t 5) (.t 29))])
 .skip))
 (zs (zr [4] [zL 30 2 5,zm 31 7,zk 32 84 [.t 30,.t 31],zw (.st 3 [] (.t 4) (.t 32))])
 .ret))))) }
def N67 : aE:={ np:=2,nt:=16,res:=[(4,some (3,true))],body :=
 (zs (zr [0,1,4] [zy 4 (.alc zA2)])
 (zs (zr [4] [zm 5 0,zk 6 86 [.t 5],zm 7 1,zk 8 86 [.t 7],zk 9 85 [.t 6,.t 8],zm 10 0,zd 11 .lss 10 (zI 0),zm 12 1,zd 13 .lss 12 (zI 0),zy 14 (.beq true [] (.t 11) (.t 13)),zk 15 84 [.t 9,.t 14],zw (.st 3 [] (.t 4) (.t 15))])
 .ret)) }
def N68 : aE:={ np:=1,nt:=9,res:=[(2,some (3,true))],body :=
 (zs (zr [0,2] [zy 2 (.alc zA2)])
 (zs (zr [2] [zm 3 0,zk 4 86 [.t 3],zy 5 (.bld [.int .u64 0,.int .u64 0] [(0,1,(.c (.int .u64 0))),(1,1,.t 4)]),zm 6 0,zd 7 .lss 6 (zI 0),zk 8 84 [.t 5,.t 7],zw (.st 3 [] (.t 2) (.t 8))])
 .ret)) }
def N82 : aE:={ np:=2,nt:=45,res:=[(4,some (2,true)),(5,some (2,true))],body :=
 (zs (zr [2,3,4,5] [zy 2 (.box [] (.t 0)),zo 3 1,zy 4 (.alc zA4),zy 5 (.alc zA4)])
 (zs (zr [2,3,4,5,6,7] [zy 6 (.alc zA4),zy 7 (.alc zA4)])
 (zs (zs (zr [2,3,4,5,6,7,8] [zc 8 (zI 0)])
 (.block 0 (.loop (zs (zs (zr [2,3,4,5,6,7,8,12] [zm 11 8,zd 12 .lss 11 (zI 128)])
 (zC 12 .skip
 (.exit 0)))
 (zs (.block 1 (zs (zr [2,3,4,5,6,7,8,9] [zf 15 0 2,zl 16 1 15,zd 17 .shr 16 (.int .u64 63),zm 9 17])
 (zs (zr [2,3,4,5,6,7,8,9] [zL 18 2 2,zk 19 94 [.t 18,(.c (.int .u64 0))],zw (.st 2 [] (.t 2) (.t 19))])
 (zs (zr [2,3,4,5,6,7,8,9,10] [zf 20 0 7,zl 21 1 20,zd 22 .shr 21 (.int .u64 63),zm 10 22])
 (zs (zr [2,3,4,5,6,7,8,10] [zL 23 2 7,zm 24 9,zk 25 94 [.t 23,.t 24],zw (.st 2 [] (.t 7) (.t 25))])
 (zs (zr [2,3,4,5,6,7,8,10] [zL 26 2 6,zk 27 94 [.t 26,(.c (.int .u64 0))],zw (.st 2 [] (.t 6) (.t 27))])
 (zs (zr [2,3,4,5,6,7,8,35] [zm 28 10,zd 29 .gtr 28 (.int .u64 0),zm 30 29,zg 30 false (zL 31 2 7),zg 30 false (zL 32 2 3),zg 30 false (zk 33 87 [.t 31,.t 32]),zg 30 false (zt 34 33),zp 35 30 34])
 (zC 35 (zs (zr [2,3,4,5,6,7,8] [zL 36 2 7,zL 37 2 3,zk 38 95 [.t 36,.t 37],zw (.st 2 [] (.t 7) (.t 38))])
 (zr [2,3,4,5,6,7,8] [zf 39 1 6,zl 40 1 39,zd 41 .add 40 (.int .u64 1),zf 42 1 6,zw (.st 1 [] (.t 42) (.t 41))]))
 .skip))))))))
 (zr [2,3,4,5,6,7,8] [zm 13 8,zd 14 .add 13 (zI 1),zm 8 14]))))))
 (zs (.reg true [0,0,1,7] [4,5] [zL 43 2 6,zL 44 2 7,zw (.st 2 [] (.t 4) (.t 43)),zw (.st 2 [] (.t 5) (.t 44))])
 .ret)))) }
def N83 : aE:={ np:=2,nt:=26,res:=[(4,some (2,true))],body :=
 (zs (zr [2,3,4] [zo 2 0,zo 3 1,zy 4 (.alc zA4)])
 (zs (zr [2,3,4,5] [zf 7 1 2,zl 8 1 7,zf 9 1 3,zl 10 1 9,zb 11 .add 8 10,zm 5 11])
 (zs (zr [2,4,5,6] [zf 12 0 2,zl 13 1 12,zf 14 0 3,zl 15 1 14,zb 16 .add 13 15,zm 6 16])
 (zs (zs (zr [4,5,6,20] [zm 17 5,zf 18 1 2,zl 19 1 18,zb 20 .lss 17 19])
 (zC 20 (zr [4,5,6] [zm 21 6,zd 22 .add 21 (.int .u64 1),zm 6 22])
 .skip))
 (zs (zr [4] [zm 23 6,zm 24 5,zy 25 (.bld [.int .u64 0,.int .u64 0] [(0,1,.t 23),(1,1,.t 24)]),zw (.st 2 [] (.t 4) (.t 25))])
 .ret))))) }
def N84 : aE:={ np:=2,nt:=13,res:=[(4,some (3,true))],body :=
 (zs (zr [1,2,4] [zo 2 0,zy 4 (.alc zA2)])
 (zs (.reg true [0,0,2,6,6,30,62,127,255] [4] [zL 5 2 2,zm 6 1,zm 7 6,zg 7 true (zL 8 2 2),zg 7 true (zy 9 (.bld [.int .u64 0,.int .u64 0] [])),zg 7 true (zy 10 (.beq true [0,0] (.t 8) (.t 9))),zP 11 7 10,zy 12 (.bld [.int .u64 0,.int .u64 0,.bool false] [(0,2,.t 5),(2,1,.t 11)]),zw (.st 3 [] (.t 4) (.t 12))])
 .ret)) }
def N85 : aE:={ np:=2,nt:=50,res:=[(4,some (2,true))],body :=
 (zs (zr [0,1,4] [zy 4 (.alc zA4)])
 (zs (zr [4,5,6,7,8] [zm 12 0,zd 13 .shr 12 (.int .u64 32),zm 14 0,zd 15 .and 14 (.int .u64 4294967295),zm 16 1,zd 17 .shr 16 (.int .u64 32),zm 18 1,zd 19 .and 18 (.int .u64 4294967295),zm 5 13,zm 6 15,zm 7 17,zm 8 19])
 (zs (zr [4,5,6,7,8,9] [zm 20 6,zm 21 8,zb 22 .mul 20 21,zm 9 22])
 (zs (zr [4,5,6,7,9,10] [zm 23 5,zm 24 8,zb 25 .mul 23 24,zm 26 9,zd 27 .shr 26 (.int .u64 32),zb 28 .add 25 27,zm 10 28])
 (zs (zr [4,5,7,9,10,11] [zm 29 6,zm 30 7,zb 31 .mul 29 30,zm 32 10,zd 33 .and 32 (.int .u64 4294967295),zb 34 .add 31 33,zm 11 34])
 (zs (zr [4] [zm 35 5,zm 36 7,zb 37 .mul 35 36,zm 38 10,zd 39 .shr 38 (.int .u64 32),zb 40 .add 37 39,zm 41 11,zd 42 .shr 41 (.int .u64 32),zb 43 .add 40 42,zm 44 11,zd 45 .shl 44 (.int .u64 32),zm 46 9,zd 47 .and 46 (.int .u64 4294967295),zb 48 .add 45 47,zy 49 (.bld [.int .u64 0,.int .u64 0] [(0,1,.t 43),(1,1,.t 48)]),zw (.st 2 [] (.t 4) (.t 49))])
 .ret)))))) }
def N86 : aE:={ np:=1,nt:=10,res:=[(2,none)],body :=
 (zs (zr [0] [zc 2 (.int .u64 0)])
 (zs (zs (zr [0,4] [zm 3 0,zd 4 .lss 3 (zI 0)])
 (zC 4 (zs (zr [2] [zm 5 0,zy 6 (.conv .u64 (.t 5)),zy 7 (.bin .sub (.c (.int .u64 0)) (.t 6)),zm 2 7])
 .ret)
 .skip))
 (zs (zr [2] [zm 8 0,zy 9 (.conv .u64 (.t 8)),zm 2 9])
 .ret))) }
def N87 : aE:={ np:=2,nt:=24,res:=[(4,none)],body :=
 (zs (zr [2,3] [zo 2 0,zo 3 1,zc 4 (.bool false)])
 (zs (zr [4] [zf 5 0 2,zl 6 1 5,zf 7 0 3,zl 8 1 7,zb 9 .lss 6 8,zm 10 9,zg 10 false (zf 11 0 2),zg 10 false (zl 12 1 11),zg 10 false (zf 13 0 3),zg 10 false (zl 14 1 13),zg 10 false (zb 15 .eql 12 14),zg 10 false (zm 16 15),zg 16 true (zf 17 1 2),zg 16 true (zl 18 1 17),zg 16 true (zf 19 1 3),zg 16 true (zl 20 1 19),zg 16 true (zb 21 .lss 18 20),zg 10 false (zP 22 16 21),zp 23 10 22,zm 4 23])
 .ret)) }
def N91 : aE:={ np:=2,nt:=51,res:=[(4,none),(5,none)],body :=
 (zs (zr [0,1] [zc 4 (.int .u64 0),zc 5 (.int .u64 0)])
 (zs (zr [0,1,6] [zm 14 0,zd 15 .and 14 (.int .u64 4294967295),zm 6 15])
 (zs (zr [0,1,6,7] [zm 16 0,zd 17 .shr 16 (.int .u64 32),zm 7 17])
 (zs (zr [0,1,6,7,8] [zm 18 1,zd 19 .and 18 (.int .u64 4294967295),zm 8 19])
 (zs (zr [0,1,6,7,8,9] [zm 20 1,zd 21 .shr 20 (.int .u64 32),zm 9 21])
 (zs (zr [0,1,6,7,8,9,10] [zm 22 6,zm 23 8,zb 24 .mul 22 23,zm 10 24])
 (zs (zr [0,1,6,7,9,11] [zm 25 7,zm 26 8,zb 27 .mul 25 26,zm 28 10,zd 29 .shr 28 (.int .u64 32),zb 30 .add 27 29,zm 11 30])
 (zs (zr [0,1,6,7,9,11,12] [zm 31 11,zd 32 .and 31 (.int .u64 4294967295),zm 12 32])
 (zs (zr [0,1,6,7,9,12,13] [zm 33 11,zd 34 .shr 33 (.int .u64 32),zm 13 34])
 (zs (zr [0,1,7,9,12,13] [zm 35 12,zm 36 6,zm 37 9,zb 38 .mul 36 37,zb 39 .add 35 38,zm 12 39])
 (zs (zr [0,1,4] [zm 40 7,zm 41 9,zb 42 .mul 40 41,zm 43 13,zb 44 .add 42 43,zm 45 12,zd 46 .shr 45 (.int .u64 32),zb 47 .add 44 46,zm 4 47])
 (zs (zr [4,5] [zm 48 0,zm 49 1,zb 50 .mul 48 49,zm 5 50])
 .ret)))))))))))) }
def N92 : aE:={ np:=3,nt:=135,res:=[(6,none),(7,none)],body :=
 (zs (zr [0,1,2] [zc 6 (.int .u64 0),zc 7 (.int .u64 0)])
 (zs (zs (zr [0,1,2,20] [zm 19 2,zd 20 .eql 19 (.int .u64 0)])
 (zC 20 (zr [0,1,2] [zy 21 (.dead),zw (.dead)])
 .skip))
 (zs (zs (zr [0,1,2,24] [zm 22 2,zm 23 0,zb 24 .leq 22 23])
 (zC 24 (zr [0,1,2] [zy 25 (.dead),zw (.dead)])
 .skip))
 (zs (zs (zr [0,1,2,27] [zm 26 0,zd 27 .eql 26 (.int .u64 0)])
 (zC 27 (zs (.reg true [0,0,3,0,0,24,7,127] [6,7] [zm 28 1,zm 29 2,zb 30 .quo 28 29,zm 31 1,zm 32 2,zb 33 .rem 31 32,zm 6 30,zm 7 33])
 .ret)
 .skip))
 (zs (zr [0,1,2,8] [zm 34 2,zk 35 102 [.t 34],zy 36 (.conv .u64 (.t 35)),zm 8 36])
 (zs (zr [0,1,2,8] [zm 37 2,zm 38 8,zb 39 .shl 37 38,zm 2 39])
 (zs (zr [0,1,2,8,9] [zm 40 2,zd 41 .shr 40 (.int .u64 32),zm 9 41])
 (zs (zr [0,1,2,8,9,10] [zm 42 2,zd 43 .and 42 (.int .u64 4294967295),zm 10 43])
 (zs (zr [1,2,8,9,10,11] [zm 44 0,zm 45 8,zb 46 .shl 44 45,zm 47 1,zm 48 8,zy 49 (.bin .sub (.c (.int .u64 64)) (.t 48)),zb 50 .shr 47 49,zb 51 .or 46 50,zm 11 51])
 (zs (zr [2,8,9,10,11,12] [zm 52 1,zm 53 8,zb 54 .shl 52 53,zm 12 54])
 (zs (zr [2,8,9,10,11,12,13] [zm 55 12,zd 56 .shr 55 (.int .u64 32),zm 13 56])
 (zs (zr [2,8,9,10,11,13,14] [zm 57 12,zd 58 .and 57 (.int .u64 4294967295),zm 14 58])
 (zs (zr [2,8,9,10,11,13,14,15] [zm 59 11,zm 60 9,zb 61 .quo 59 60,zm 15 61])
 (zs (zr [2,8,9,10,11,13,14,15,16] [zm 62 11,zm 63 15,zm 64 9,zb 65 .mul 63 64,zb 66 .sub 62 65,zm 16 66])
 (zs (.block 0 (.loop (zs (zs (zr [2,8,9,10,11,13,14,15,16,78] [zm 67 15,zd 68 .geq 67 (.int .u64 4294967296),zm 69 68,zg 69 false (zm 70 15),zg 69 false (zm 71 10),zg 69 false (zb 72 .mul 70 71),zg 69 false (zm 73 16),zg 69 false (zy 74 (.bin .mul (.c (.int .u64 4294967296)) (.t 73))),zg 69 false (zm 75 13),zg 69 false (zb 76 .add 74 75),zg 69 false (zb 77 .gtr 72 76),zp 78 69 77])
 (zC 78 .skip
 (.exit 0)))
 (.block 1 (zs (zr [2,8,9,10,11,13,14,15,16] [zm 79 15,zd 80 .sub 79 (.int .u64 1),zm 15 80])
 (zs (zr [2,8,9,10,11,13,14,15,16] [zm 81 16,zm 82 9,zb 83 .add 81 82,zm 16 83])
 (zs (zr [2,8,9,10,11,13,14,15,16,85] [zm 84 16,zd 85 .geq 84 (.int .u64 4294967296)])
 (zC 85 (.exit 0)
 .skip))))))))
 (zs (zr [2,8,9,10,14,15,17] [zm 86 11,zd 87 .mul 86 (.int .u64 4294967296),zm 88 13,zb 89 .add 87 88,zm 90 15,zm 91 2,zb 92 .mul 90 91,zb 93 .sub 89 92,zm 17 93])
 (zs (zr [2,8,9,10,14,15,17,18] [zm 94 17,zm 95 9,zb 96 .quo 94 95,zm 18 96])
 (zs (zr [2,8,9,10,14,15,16,17,18] [zm 97 17,zm 98 18,zm 99 9,zb 100 .mul 98 99,zb 101 .sub 97 100,zm 16 101])
 (zs (.block 2 (.loop (zs (zs (zr [2,8,9,10,14,15,16,17,18,113] [zm 102 18,zd 103 .geq 102 (.int .u64 4294967296),zm 104 103,zg 104 false (zm 105 18),zg 104 false (zm 106 10),zg 104 false (zb 107 .mul 105 106),zg 104 false (zm 108 16),zg 104 false (zy 109 (.bin .mul (.c (.int .u64 4294967296)) (.t 108))),zg 104 false (zm 110 14),zg 104 false (zb 111 .add 109 110),zg 104 false (zb 112 .gtr 107 111),zp 113 104 112])
 (zC 113 .skip
 (.exit 2)))
 (.block 3 (zs (zr [2,8,9,10,14,15,16,17,18] [zm 114 18,zd 115 .sub 114 (.int .u64 1),zm 18 115])
 (zs (zr [2,8,9,10,14,15,16,17,18] [zm 116 16,zm 117 9,zb 118 .add 116 117,zm 16 118])
 (zs (zr [2,8,9,10,14,15,16,17,18,120] [zm 119 16,zd 120 .geq 119 (.int .u64 4294967296)])
 (zC 120 (.exit 2)
 .skip))))))))
 (zs (zr [6,7] [zm 121 15,zd 122 .mul 121 (.int .u64 4294967296),zm 123 18,zb 124 .add 122 123,zm 125 17,zd 126 .mul 125 (.int .u64 4294967296),zm 127 14,zb 128 .add 126 127,zm 129 18,zm 130 2,zb 131 .mul 129 130,zb 132 .sub 128 131,zm 133 8,zb 134 .shr 132 133,zm 6 124,zm 7 134])
 .ret)))))))))))))))))))) }
def N93 : aE:={ np:=1,nt:=35,res:=[(2,none),(3,none)],body :=
 (zs (zr [1] [zo 1 0,zc 2 (zI 0),zc 3 (.bool false)])
 (zs (zs (zr [1,5] [zf 4 2 1,zl 5 1 4])
 (zC 5 (zs (.reg true [0,1,3,7,15,0,32,96,224,480,992,2016,4064,8160,16352,1023,65535] [2,3] [zf 6 0 1,zf 7 1 6,zl 8 1 7,zy 9 (.bin .sub (.c (.int .u64 0)) (.t 8)),zy 10 (.conv .i64 (.t 9)),zf 11 0 1,zf 12 0 11,zl 13 1 12,zd 14 .eql 13 (.int .u64 0),zm 15 14,zg 15 true (zf 16 0 1),zg 15 true (zf 17 1 16),zg 15 true (zl 18 1 17),zg 15 true (zd 19 .leq 18 (.int .u64 9223372036854775808)),zP 20 15 19,zm 2 10,zm 3 20])
 .ret)
 .skip))
 (zs (.reg true [0,1,3,7,0,16,48,112,240,496,1008,2032,4080,8176,511,32767] [2,3] [zf 21 0 1,zf 22 1 21,zl 23 1 22,zy 24 (.conv .i64 (.t 23)),zf 25 0 1,zf 26 0 25,zl 27 1 26,zd 28 .eql 27 (.int .u64 0),zm 29 28,zg 29 true (zf 30 0 1),zg 29 true (zf 31 1 30),zg 29 true (zl 32 1 31),zg 29 true (zd 33 .lss 32 (.int .u64 9223372036854775808)),zP 34 29 33,zm 2 24,zm 3 34])
 .ret))) }
def N94 : aE:={ np:=2,nt:=18,res:=[(4,some (2,true))],body :=
 (zs (zr [1,2,4] [zo 2 0,zy 4 (.alc zA4)])
 (zs (zr [4] [zf 5 0 2,zl 6 1 5,zd 7 .shl 6 (.int .u64 1),zf 8 1 2,zl 9 1 8,zd 10 .shr 9 (.int .u64 63),zb 11 .add 7 10,zf 12 1 2,zl 13 1 12,zd 14 .shl 13 (.int .u64 1),zm 15 1,zb 16 .add 14 15,zy 17 (.bld [.int .u64 0,.int .u64 0] [(0,1,.t 11),(1,1,.t 16)]),zw (.st 2 [] (.t 4) (.t 17))])
 .ret)) }
def N95 : aE:={ np:=2,nt:=25,res:=[(4,some (2,true))],body :=
 (zs (zr [2,3,4] [zo 2 0,zo 3 1,zy 4 (.alc zA4)])
 (zs (zr [2,3,4,5] [zf 6 0 2,zl 7 1 6,zf 8 0 3,zl 9 1 8,zb 10 .sub 7 9,zm 5 10])
 (zs (zs (zr [2,3,4,5,15] [zf 11 1 2,zl 12 1 11,zf 13 1 3,zl 14 1 13,zb 15 .lss 12 14])
 (zC 15 (zr [2,3,4,5] [zm 16 5,zd 17 .sub 16 (.int .u64 1),zm 5 17])
 .skip))
 (zs (zr [4] [zm 18 5,zf 19 1 2,zl 20 1 19,zf 21 1 3,zl 22 1 21,zb 23 .sub 20 22,zy 24 (.bld [.int .u64 0,.int .u64 0] [(0,1,.t 18),(1,1,.t 23)]),zw (.st 2 [] (.t 4) (.t 24))])
 .ret)))) }
def N99 : aE:={ np:=2,nt:=12,res:=[(4,some (2,true)),(5,none)],body :=
 (zs (zr [0,1,4] [zy 4 (.alc zA1),zc 5 (zI 0)])
 (zs (zr [4,5] [zm 6 0,zm 7 1,zk 8 103 [.t 6,.t 7],zk 9 105 [.t 8],zx 10 0 9,zx 11 1 9,zw (.st 2 [] (.t 4) (.t 10)),zm 5 11])
 .ret)) }
def N102 : aE:={ np:=1,nt:=6,res:=[(2,none)],body :=
 (zs (zr [0] [zc 2 (zI 0)])
 (zs (zr [2] [zm 3 0,zk 4 111 [.t 3],zy 5 (.bin .sub (.c (zI 64)) (.t 4)),zm 2 5])
 .ret)) }
def N103 : aE:={ np:=2,nt:=23,res:=[(4,some (3,true))],body :=
 (zs (zr [0,1,4] [zy 4 (.alc zA2)])
 (zs (zr [0,1,4,5,6] [zm 8 0,zk 9 112 [.t 8],zm 10 1,zk 11 112 [.t 10],zk 12 91 [.t 9,.t 11],zm 7 12,zx 13 0 7,zx 14 1 7,zm 5 13,zm 6 14])
 (zs (zr [4] [zm 15 5,zm 16 6,zm 17 0,zd 18 .lss 17 (zI 0),zm 19 1,zd 20 .lss 19 (zI 0),zy 21 (.beq true [] (.t 18) (.t 20)),zk 22 113 [.t 15,.t 16,.t 21],zw (.st 3 [] (.t 4) (.t 22))])
 .ret))) }
def N104 : aE:={ np:=3,nt:=52,res:=[(6,none),(7,none)],body :=
 (zs (zr [1,2,3] [zo 3 0,zc 6 (zI 0),zc 7 (zI 0)])
 (zs (zr [1,2,3,8] [zm 12 1,zk 13 112 [.t 12],zm 8 13])
 (zs (zs (zr [1,2,3,8,17] [zf 14 0 3,zl 15 1 14,zm 16 8,zb 17 .geq 15 16])
 (zC 17 (zs (zr [6,7] [zc 6 (zI 0),zc 7 (zI 5)])
 .ret)
 .skip))
 (zs (zr [1,2,3,9,10] [zf 19 0 3,zl 20 1 19,zf 21 1 3,zl 22 1 21,zm 23 8,zk 24 92 [.t 20,.t 22,.t 23],zm 18 24,zx 25 0 18,zx 26 1 18,zm 9 25,zm 10 26])
 (zs (zr [2,9,10,11] [zf 27 2 3,zl 28 1 27,zm 29 1,zd 30 .lss 29 (zI 0),zy 31 (.beq true [] (.t 28) (.t 30)),zm 11 31])
 (zs (zs (zr [9,11,38] [zm 32 10,zd 33 .gtr 32 (.int .u64 0),zm 34 33,zg 34 true (zm 35 11),zg 34 true (zm 36 2),zg 34 true (zy 37 (.beq true [] (.t 35) (.t 36))),zP 38 34 37])
 (zC 38 (zs (zr [9,11] [zm 39 9,zd 40 .add 39 (.int .u64 1),zm 9 40])
 (zs (zr [9,11,42] [zm 41 9,zd 42 .eql 41 (.int .u64 0)])
 (zC 42 (zs (zr [6,7] [zc 6 (zI 0),zc 7 (zI 5)])
 .ret)
 .skip)))
 .skip))
 (zs (zr [6,7] [zm 43 9,zm 44 11,zm 45 44,zg 45 true (zm 46 9),zg 45 true (zd 47 .gtr 46 (.int .u64 0)),zP 48 45 47,zk 49 110 [.t 43,.t 48],zx 50 0 49,zx 51 1 49,zm 6 50,zm 7 51])
 .ret))))))) }
def N105 : aE:={ np:=1,nt:=56,res:=[(2,some (2,true)),(3,none)],body :=
 (zs (zr [1,2] [zo 1 0,zy 2 (.alc zA1),zc 3 (zI 0)])
 (zs (zs (zr [1,2,23] [zf 6 0 1,zl 7 1 6,zd 8 .gtr 7 (.int .u64 72057594037927936),zm 9 8,zg 9 false (zf 10 0 1),zg 9 false (zl 11 1 10),zg 9 false (zd 12 .eql 11 (.int .u64 72057594037927936)),zg 9 false (zm 13 12),zg 13 true (zf 14 1 1),zg 13 true (zl 15 1 14),zg 13 true (zd 16 .gtr 15 (.int .u64 0)),zg 13 true (zm 17 16),zg 17 false (zf 18 2 1),zg 17 false (zl 19 1 18),zg 17 false (zt 20 19),zg 13 true (zp 21 17 20),zg 9 false (zP 22 13 21),zp 23 9 22])
 (zC 23 (zs (zr [2,3] [zy 24 (.bld [zI 0,zI 0] []),zw (.st 2 [] (.t 2) (.t 24)),zc 3 (zI 5)])
 .ret)
 .skip))
 (zs (.reg true [0,1,3,0,8,24,63,127,0,256,768,1792,255,8191] [1,2,4,5] [zf 25 0 1,zl 26 1 25,zd 27 .shl 26 (.int .u64 4),zf 28 1 1,zl 29 1 28,zd 30 .shr 29 (.int .u64 60),zb 31 .or 27 30,zy 32 (.conv .i64 (.t 31)),zf 33 1 1,zl 34 1 33,zd 35 .and 34 (.int .u64 1152921504606846975),zy 36 (.conv .i64 (.t 35)),zm 4 32,zm 5 36])
 (zs (.block 0 (zs (zr [2,4,5,37] [zf 38 2 1,zl 39 1 38,zt 40 39,zm 37 40])
 (zC 37 (zs (zr [2,3] [zm 41 4,zm 42 5,zy 43 (.bld [zI 0,zI 0] [(0,1,.t 41),(1,1,.t 42)]),zw (.st 2 [] (.t 2) (.t 43)),zc 3 (zI 0)])
 .ret)
 (zs (zr [2,4,5,44] [zm 45 5,zd 46 .eql 45 (zI 0),zm 44 46])
 (zC 44 (zs (zr [2,3] [zm 47 4,zy 48 (.un .neg (.t 47)),zy 49 (.bld [zI 0,zI 0] [(0,1,.t 48)]),zw (.st 2 [] (.t 2) (.t 49)),zc 3 (zI 0)])
 .ret)
 .skip)))))
 (zs (zr [2,3] [zm 50 4,zy 51 (.un .neg (.t 50)),zd 52 .sub 51 (zI 1),zm 53 5,zy 54 (.bin .sub (.c (zI 1152921504606846976)) (.t 53)),zy 55 (.bld [zI 0,zI 0] [(0,1,.t 52),(1,1,.t 54)]),zw (.st 2 [] (.t 2) (.t 55)),zc 3 (zI 0)])
 .ret))))) }
def N106 : aE:={ np:=1,nt:=21,res:=[(2,none)],body :=
 (zs (zr [1] [zo 1 0,zc 2 (.bool false)])
 (zs (zr [2] [zf 3 0 1,zl 4 1 3,zy 5 (.bin .geq (.t 4) (.c (zI (-1152921504606846976)))),zm 6 5,zg 6 true (zf 7 0 1),zg 6 true (zl 8 1 7),zg 6 true (zd 9 .lss 8 (zI 1152921504606846976)),zP 10 6 9,zm 11 10,zg 11 true (zf 12 1 1),zg 11 true (zl 13 1 12),zg 11 true (zd 14 .geq 13 (zI 0)),zP 15 11 14,zm 16 15,zg 16 true (zf 17 1 1),zg 16 true (zl 18 1 17),zg 16 true (zd 19 .lss 18 (zI 1152921504606846976)),zP 20 16 19,zm 2 20])
 .ret)) }
def N107 : aE:={ np:=2,nt:=73,res:=[(4,some (3,true))],body :=
 (zs (zr [2,3,4] [zy 2 (.box [] (.t 0)),zy 3 (.box [] (.t 1)),zy 4 (.alc zA2)])
 (zs (zs (zr [2,3,4,13] [zf 9 2 2,zl 10 1 9,zf 11 2 3,zl 12 1 11,zy 13 (.beq false [] (.t 10) (.t 12))])
 (zC 13 (zs (zr [2,3,4,5,6] [zf 15 1 2,zl 16 1 15,zf 17 1 3,zl 18 1 17,zy 19 (.add64 (.t 16) (.t 18) (.c (.int .u64 0))),zm 14 19,zx 20 0 14,zx 21 1 14,zm 5 20,zm 6 21])
 (zs (zr [4] [zf 22 0 2,zl 23 1 22,zf 24 0 3,zl 25 1 24,zb 26 .add 23 25,zm 27 6,zb 28 .add 26 27,zm 29 5,zf 30 2 2,zl 31 1 30,zk 32 113 [.t 28,.t 29,.t 31],zw (.st 3 [] (.t 4) (.t 32))])
 .ret))
 .skip))
 (zs (zs (zr [2,3,4,51] [zf 33 0 2,zl 34 1 33,zf 35 0 3,zl 36 1 35,zb 37 .lss 34 36,zm 38 37,zg 38 false (zf 39 0 2),zg 38 false (zl 40 1 39),zg 38 false (zf 41 0 3),zg 38 false (zl 42 1 41),zg 38 false (zb 43 .eql 40 42),zg 38 false (zm 44 43),zg 44 true (zf 45 1 2),zg 44 true (zl 46 1 45),zg 44 true (zf 47 1 3),zg 44 true (zl 48 1 47),zg 44 true (zb 49 .lss 46 48),zg 38 false (zP 50 44 49),zp 51 38 50])
 (zC 51 (zr [2,3,4] [zL 52 3 3,zL 53 3 2,zw (.st 3 [] (.t 2) (.t 52)),zw (.st 3 [] (.t 3) (.t 53))])
 .skip))
 (zs (zr [2,3,4,7,8] [zf 55 1 2,zl 56 1 55,zf 57 1 3,zl 58 1 57,zy 59 (.sub64 (.t 56) (.t 58) (.c (.int .u64 0))),zm 54 59,zx 60 0 54,zx 61 1 54,zm 7 60,zm 8 61])
 (zs (zr [4] [zf 62 0 2,zl 63 1 62,zf 64 0 3,zl 65 1 64,zb 66 .sub 63 65,zm 67 8,zb 68 .sub 66 67,zm 69 7,zf 70 2 2,zl 71 1 70,zk 72 113 [.t 68,.t 69,.t 71],zw (.st 3 [] (.t 4) (.t 72))])
 .ret))))) }
def N108 : aE:={ np:=1,nt:=37,res:=[(2,some (3,true))],body :=
 (zs (zr [1,2] [zo 1 0,zy 2 (.alc zA2)])
 (zs (zr [1,2,3] [zf 7 0 1,zl 8 1 7,zk 9 112 [.t 8],zm 3 9])
 (zs (zr [1,2,4,5] [zm 10 3,zd 11 .shr 10 (.int .u64 4),zm 12 3,zd 13 .shl 12 (.int .u64 60),zm 4 11,zm 5 13])
 (zs (zs (zr [1,2,4,5,16] [zf 14 0 1,zl 15 1 14,zd 16 .geq 15 (zI 0)])
 (zC 16 (zs (zr [2] [zm 17 4,zm 18 5,zf 19 1 1,zl 20 1 19,zy 21 (.conv .u64 (.t 20)),zb 22 .or 18 21,zy 23 (.bld [.int .u64 0,.int .u64 0,.bool false] [(0,1,.t 17),(1,1,.t 22),(2,1,(.c (.bool false)))]),zw (.st 3 [] (.t 2) (.t 23))])
 .ret)
 .skip))
 (zs (zr [2,4,5,6] [zm 25 5,zf 26 1 1,zl 27 1 26,zy 28 (.conv .u64 (.t 27)),zy 29 (.sub64 (.t 25) (.t 28) (.c (.int .u64 0))),zm 24 29,zx 30 0 24,zx 31 1 24,zm 5 30,zm 6 31])
 (zs (zr [2] [zm 32 4,zm 33 6,zb 34 .sub 32 33,zm 35 5,zy 36 (.bld [.int .u64 0,.int .u64 0,.bool false] [(0,1,.t 34),(1,1,.t 35),(2,1,(.c (.bool true)))]),zw (.st 3 [] (.t 2) (.t 36))])
 .ret)))))) }
def N110 : aE:={ np:=2,nt:=24,res:=[(4,none),(5,none)],body :=
 (zs (zr [0,1] [zc 4 (zI 0),zc 5 (zI 0)])
 (zs (.block 0 (zs (zr [0,1,6] [zm 7 1,zt 8 7,zm 9 8,zg 9 true (zm 10 0),zg 9 true (zd 11 .leq 10 (.int .u64 9223372036854775807)),zP 12 9 11,zm 6 12])
 (zC 6 (zs (zr [4,5] [zm 13 0,zy 14 (.conv .i64 (.t 13)),zm 4 14,zc 5 (zI 0)])
 .ret)
 (zs (zr [0,15] [zm 16 1,zm 17 16,zg 17 true (zm 18 0),zg 17 true (zd 19 .leq 18 (.int .u64 9223372036854775808)),zP 20 17 19,zm 15 20])
 (zC 15 (zs (zr [4,5] [zm 21 0,zy 22 (.un .neg (.t 21)),zy 23 (.conv .i64 (.t 22)),zm 4 23,zc 5 (zI 0)])
 .ret)
 .skip)))))
 (zs (zr [4,5] [zc 4 (zI 0),zc 5 (zI 5)])
 .ret))) }
def S1 : List UInt8:=[0,1,2,2,3,3,3,3,4,4,4,4,4,4,4,4,5,5,5,5,5,5,5,5,5,5,5,5,5,5,5,5,6,6,6,6,6,6,6,6,6,6,6,6,6,6,6,6,6,6,6,6,6,6,6,6,6,6,6,6,6,6,6,6,7,7,7,7,7,7,7,7,7,7,7,7,7,7,7,7,7,7,7,7,7,7,7,7,7,7,7,7,7,7,7,7,7,7,7,7,7,7,7,7,7,7,7,7,7,7,7,7,7,7,7,7,7,7,7,7,7,7,7,7,7,7,7,7,8,8,8,8,8,8,8,8,8,8,8,8,8,8,8,8,8,8,8,8,8,8,8,8,8,8,8,8,8,8,8,8,8,8,8,8,8,8,8,8,8,8,8,8,8,8,8,8,8,8,8,8,8,8,8,8,8,8,8,8,8,8,8,8,8,8,8,8,8,8,8,8,8,8,8,8,8,8,8,8,8,8,8,8,8,8,8,8,8,8,8,8,8,8,8,8,8,8,8,8,8,8,8,8,8,8,8,8,8,8,8,8,8,8,8,8,8,8,8,8,8,8,8,8,8,8,8,8]
def N111 : aE:={ np:=1,nt:=25,res:=[(2,none)],body :=
 (zs (zr [0,2] [zc 2 (zI 0)])
 (zs (zs (zr [0,2,4] [zm 3 0,zd 4 .geq 3 (.int .u64 4294967296)])
 (zC 4 (zs (zr [0] [zm 5 0,zd 6 .shr 5 (.int .u64 32),zm 0 6])
 (zr [0,2] [zc 2 (zI 32)]))
 .skip))
 (zs (zs (zr [0,2,8] [zm 7 0,zd 8 .geq 7 (.int .u64 65536)])
 (zC 8 (zs (zr [0,2] [zm 9 0,zd 10 .shr 9 (.int .u64 16),zm 0 10])
 (zr [0,2] [zm 11 2,zd 12 .add 11 (zI 16),zm 2 12]))
 .skip))
 (zs (zs (zr [0,2,14] [zm 13 0,zd 14 .geq 13 (.int .u64 256)])
 (zC 14 (zs (zr [0,2] [zm 15 0,zd 16 .shr 15 (.int .u64 8),zm 0 16])
 (zr [0,2] [zm 17 2,zd 18 .add 17 (zI 8),zm 2 18]))
 .skip))
 (zs (zr [2] [zm 19 2,zm 20 0,zy 21 (.conv .u8 (.t 20)),zy 22 (.idxS (.c (.str S1)) (.t 21)),zy 23 (.conv .i64 (.t 22)),zb 24 .add 19 23,zm 2 24])
 .ret))))) }
def N112 : aE:={ np:=1,nt:=10,res:=[(2,none)],body :=
 (zs (zr [0] [zc 2 (.int .u64 0)])
 (zs (zs (zr [0,4] [zm 3 0,zd 4 .lss 3 (zI 0)])
 (zC 4 (zs (zr [2] [zm 5 0,zy 6 (.conv .u64 (.t 5)),zy 7 (.un .neg (.t 6)),zm 2 7])
 .ret)
 .skip))
 (zs (zr [2] [zm 8 0,zy 9 (.conv .u64 (.t 8)),zm 2 9])
 .ret))) }
def N113 : aE:={ np:=3,nt:=19,res:=[(6,some (3,true))],body :=
 (zs (zr [0,1,2,6] [zy 6 (.alc zA2)])
 (zs (zr [6] [zm 7 0,zm 8 1,zm 9 2,zm 10 9,zg 10 true (zm 11 0),zg 10 true (zd 12 .neq 11 (.int .u64 0)),zg 10 true (zm 13 12),zg 13 false (zm 14 1),zg 13 false (zd 15 .neq 14 (.int .u64 0)),zg 10 true (zp 16 13 15),zP 17 10 16,zy 18 (.bld [.int .u64 0,.int .u64 0,.bool false] [(0,1,.t 7),(1,1,.t 8),(2,1,.t 17)]),zw (.st 3 [] (.t 6) (.t 18))])
 .ret)) }
def N215 : aE:={ np:=1,nt:=11,res:=[(2,none)],body :=
 (zs (zr [1] [zo 1 0,zc 2 (.bool false)])
 (zs (zr [2] [zL 3 2 1,zk 4 257 [.t 3],zm 5 4,zg 5 true (zL 6 2 1),zg 5 true (zk 7 258 [.t 6]),zg 5 true (zn 8 7),zg 5 true (zd 9 .eql 8 (zI 0)),zP 10 5 9,zm 2 10])
 .ret)) }
def N217 : aE:={ np:=2,nt:=14,res:=[(4,none)],body :=
 (zs (zr [1,2] [zo 2 0,zc 4 (.bool false)])
 (zs (zr [4] [zm 5 1,zd 6 .geq 5 (zI 0),zm 7 6,zg 7 true (zm 8 1),zg 7 true (zf 9 1 2),zg 7 true (zl 10 1 9),zg 7 true (zn 11 10),zg 7 true (zb 12 .lss 8 11),zP 13 7 12,zm 4 13])
 .ret)) }
def N220 : aE:={ np:=1,nt:=18,res:=[(2,none),(3,none)],body :=
 (zs (zr [1] [zo 1 0,zc 2 .nils,zc 3 (zI 0)])
 (zs (zr [4,5] [zL 7 2 1,zk 8 253 [.t 7],zm 6 8,zx 9 0 6,zx 10 1 6,zm 4 9,zm 5 10])
 (zs (zs (zr [4,5,12] [zm 11 5,zd 12 .neq 11 (zI 0)])
 (zC 12 (zs (zr [2,3] [zm 13 5,zc 2 .nils,zm 3 13])
 .ret)
 .skip))
 (zs (zr [2,3] [zm 14 4,zy 15 (.nck (.t 14)),zf 16 1 15,zl 17 1 16,zq 2 17,zc 3 (zI 0)])
 .ret)))) }
def N221 : aE:={ np:=1,nt:=9,res:=[(2,none),(3,none)],body :=
 (zs (zr [1] [zo 1 0,zc 2 .nils,zc 3 (zI 0)])
 (zs (zs (zr [1,6] [zL 4 2 1,zk 5 234 [.t 4],zt 6 5])
 (zC 6 (zs (zr [2,3] [zc 2 .nils,zc 3 (zI 1)])
 .ret)
 .skip))
 (zs (zr [2,3] [zL 7 2 1,zk 8 261 [.t 7],zq 2 8,zc 3 (zI 0)])
 .ret))) }
def N223 : aE:={ np:=2,nt:=9,res:=[(4,none)],body :=
 (zs (zr [0,1] [zc 4 (.bool false)])
 (zs (zr [4] [zq 5 0,zm 6 1,zk 7 262 [.t 5,.t 6],zd 8 .geq 7 (zI 0),zm 4 8])
 .ret)) }
def N234 : aE:={ np:=1,nt:=17,res:=[(2,none)],body :=
 (zs (zr [1] [zo 1 0,zc 2 (.bool false)])
 (zs (zr [3,4] [zL 6 2 1,zk 7 273 [.t 6],zm 5 7,zx 8 0 5,zx 9 1 5,zq 3 8,zm 4 9])
 (zs (zr [2] [zm 10 4,zd 11 .eql 10 (zI 0),zm 12 11,zg 12 true (zq 13 3),zg 12 true (zn 14 13),zg 12 true (zd 15 .eql 14 (zI 0)),zP 16 12 15,zm 2 16])
 .ret))) }
def N241 : aE:={ np:=0,nt:=71,res:=[(0,none)],body :=
 (zs (zr [] [zc 0 (.bool false)])
 (zs (zr [1] [zy 10 (.bld [zI 0,zI 0,zI 0] [(2,1,(.c (zI 1)))]),zy 11 (.bld [zI 0,zI 0,zI 0] [(0,1,(.c (zI 10))),(2,1,(.c (zI 2)))]),zy 12 (.bld [zI 0,zI 0,zI 0] [(1,1,(.c (zI 10))),(2,1,(.c (zI 4)))]),zy 13 (.blsF 3 3 [zI 0,zI 0,zI 0] [(0,.t 10),(1,.t 11),(2,.t 12)]),zy 14 (.bld [zI 0,zI 0,zI 0,zI 0] [(0,1,(.c (zI 0))),(1,1,(.c (zI 1))),(2,1,(.c (zI 2)))]),zy 15 (.blsF 4 1 [zI 0,zI 0,zI 0,zI 0] [(0,.t 14)]),zy 16 (.bld [.nils,.nils] [(0,1,.t 13),(1,1,.t 15)]),zy 1 (.alc [.own 3 [],.own 4 []]),zw (.st 2 [] (.t 1) (.t 16))])
 (zs (zr [1,2,3] [zL 18 2 1,zk 19 243 [.t 18],zm 17 19,zx 20 0 17,zx 21 1 17,zq 2 20,zm 3 21])
 (zs (zr [1,2,3,4,5] [zL 23 2 1,zk 24 244 [.t 23],zm 22 24,zx 25 0 22,zx 26 1 22,zq 4 25,zm 5 26])
 (zs (zr [1,2,3,4,5,6,7] [zL 28 2 1,zk 29 245 [.t 28],zm 27 29,zx 30 0 27,zx 31 1 27,zq 6 30,zm 7 31])
 (zs (zr [2,3,4,5,6,7,8,9] [zL 33 2 1,zk 34 279 [.t 33],zm 32 34,zx 35 0 32,zx 36 1 32,zq 8 35,zm 9 36])
 (zs (zr [0] [zm 37 3,zd 38 .eql 37 (zI 0),zm 39 38,zg 39 true (zq 40 2),zg 39 true (zy 41 (.bls 1 1 [zI 0] [] [(0,(.c (zI 7)))])),zg 39 true (zk 42 19 [.t 40,.t 41]),zP 43 39 42,zm 44 43,zg 44 true (zm 45 5),zg 44 true (zd 46 .eql 45 (zI 0)),zP 47 44 46,zm 48 47,zg 48 true (zq 49 4),zg 48 true (zy 50 (.bls 1 1 [zI 0] [] [(0,(.c (zI (-1))))])),zg 48 true (zk 51 19 [.t 49,.t 50]),zP 52 48 51,zm 53 52,zg 53 true (zm 54 7),zg 53 true (zd 55 .eql 54 (zI 0)),zP 56 53 55,zm 57 56,zg 57 true (zq 58 6),zg 57 true (zy 59 (.bls 1 1 [zI 0] [] [(0,(.c (zI 0)))])),zg 57 true (zk 60 19 [.t 58,.t 59]),zP 61 57 60,zm 62 61,zg 62 true (zm 63 9),zg 62 true (zd 64 .eql 63 (zI 0)),zP 65 62 64,zm 66 65,zg 66 true (zq 67 8),zg 66 true (zn 68 67),zg 66 true (zd 69 .eql 68 (zI 0)),zP 70 66 69,zm 0 70])
 .ret))))))) }
def N242 : aE:={ np:=1,nt:=13,res:=[(2,none)],body :=
 (zs (zr [1] [zo 1 0,zc 2 (.bool false)])
 (zs (zr [2] [zf 3 0 1,zl 4 1 3,zn 5 4,zd 6 .gtr 5 (zI 60),zm 7 6,zg 7 false (zf 8 1 1),zg 7 false (zl 9 1 8),zg 7 false (zn 10 9),zg 7 false (zd 11 .gtr 10 (zI 80)),zp 12 7 11,zm 2 12])
 .ret)) }
def N243 : aE:={ np:=1,nt:=18,res:=[(2,none),(3,none)],body :=
 (zs (zr [1] [zo 1 0,zc 2 .nils,zc 3 (zI 0)])
 (zs (zr [4,5] [zL 7 2 1,zk 8 280 [.t 7],zm 6 8,zx 9 0 6,zx 10 1 6,zm 4 9,zm 5 10])
 (zs (zs (zr [4,5,12] [zm 11 5,zd 12 .neq 11 (zI 0)])
 (zC 12 (zs (zr [2,3] [zm 13 5,zc 2 .nils,zm 3 13])
 .ret)
 .skip))
 (zs (zr [2,3] [zm 14 4,zy 15 (.nck (.t 14)),zf 16 2 15,zl 17 1 16,zq 2 17,zc 3 (zI 0)])
 .ret)))) }
def N244 : aE:={ np:=1,nt:=18,res:=[(2,none),(3,none)],body :=
 (zs (zr [1] [zo 1 0,zc 2 .nils,zc 3 (zI 0)])
 (zs (zr [4,5] [zL 7 2 1,zk 8 280 [.t 7],zm 6 8,zx 9 0 6,zx 10 1 6,zm 4 9,zm 5 10])
 (zs (zs (zr [4,5,12] [zm 11 5,zd 12 .neq 11 (zI 0)])
 (zC 12 (zs (zr [2,3] [zm 13 5,zc 2 .nils,zm 3 13])
 .ret)
 .skip))
 (zs (zr [2,3] [zm 14 4,zy 15 (.nck (.t 14)),zf 16 3 15,zl 17 1 16,zq 2 17,zc 3 (zI 0)])
 .ret)))) }
def N245 : aE:={ np:=1,nt:=50,res:=[(2,none),(3,none)],body :=
 (zs (zr [1] [zo 1 0,zc 2 .nils,zc 3 (zI 0)])
 (zs (zr [4,5] [zL 10 2 1,zk 11 280 [.t 10],zm 9 11,zx 12 0 9,zx 13 1 9,zm 4 12,zm 5 13])
 (zs (zs (zr [4,5,15] [zm 14 5,zd 15 .neq 14 (zI 0)])
 (zC 15 (zs (zr [2,3] [zm 16 5,zc 2 .nils,zm 3 16])
 .ret)
 .skip))
 (zs (zr [4,6] [zm 17 4,zy 18 (.nck (.t 17)),zf 19 3 18,zl 20 1 19,zn 21 20,zy 22 (.mks 1 8 [zI 0] (.t 21) (.t 21)),zq 6 22])
 (zs (zs (zr [4,6,24,25] [zm 23 6,zn 24 23,zc 25 (zI 0)])
 (.block 0 (.loop (zs (zr [4,6,24,25,26] [zb 26 .lss 25 24])
 (zs (zC 26 .skip
 (.exit 0))
 (zs (.block 1 (zs (zr [4,6,7,24,25] [zm 27 25,zm 7 27])
 (zs (zr [4,6,7,8,24,25] [zm 28 7,zm 8 28])
 (zs (.block 2 (.loop (zs (zs (zr [4,6,7,8,24,25,36] [zm 29 4,zy 30 (.nck (.t 29)),zf 31 3 30,zl 32 1 31,zm 33 8,zi 34 1 32 33,zl 35 1 34,zy 36 (.bin .neq (.t 35) (.c (zI (-1))))])
 (zC 36 .skip
 (.exit 2)))
 (.block 3 (zr [4,6,7,8,24,25] [zm 37 4,zy 38 (.nck (.t 37)),zf 39 3 38,zl 40 1 39,zm 41 8,zi 42 1 40 41,zl 43 1 42,zm 8 43])))))
 (zr [4,6,24,25] [zm 44 6,zm 45 7,zm 46 8,zi 47 1 44 45,zw (.st 1 [] (.t 47) (.t 46))])))))
 (zr [4,6,24,25] [zd 48 .add 25 (zI 1),zm 25 48])))))))
 (zs (zr [2,3] [zq 49 6,zq 2 49,zc 3 (zI 0)])
 .ret)))))) }
def N246 : aE:={ np:=1,nt:=131,res:=[(2,none),(3,none)],body :=
 (zs (zr [1] [zo 1 0,zc 2 .nils,zc 3 .nils])
 (zs (.reg true [0,1,0,7,15,31] [1,4,5] [zL 16 2 1,zk 17 259 [.t 16],zL 18 2 1,zk 19 281 [.t 18],zq 4 17,zq 5 19])
 (zs (zr [4,5,6] [zf 20 1 1,zl 21 1 20,zn 22 21,zm 6 22])
 (zs (.reg true [0,1,0,4,3,31] [4,5,6,7,8] [zm 23 6,zy 24 (.mks 1 1 [.bool false] (.t 23) (.t 23)),zm 25 6,zy 26 (.mks 1 1 [.bool false] (.t 25) (.t 25)),zq 7 24,zq 8 26])
 (zs (.reg true [0,1,0,4,3,31] [4,5,6,7,8,9,10] [zm 27 6,zy 28 (.mks 1 8 [zI 0] (.t 27) (.t 27)),zm 29 6,zy 30 (.mks 1 8 [zI 0] (.t 29) (.t 29)),zq 9 28,zq 10 30])
 (zs (zs (zr [4,5,6,7,8,9,10,11] [zc 11 (zI 0)])
 (.block 0 (.loop (zs (zs (zr [4,5,6,7,8,9,10,11,33] [zm 31 11,zm 32 6,zb 33 .lss 31 32])
 (zC 33 .skip
 (.exit 0)))
 (zs (.block 1 (zs (zr [4,5,6,7,8,9,10,11] [zm 36 10,zm 37 11,zi 38 1 36 37,zw (.st 1 [] (.t 38) (.c (zI (-1))))])
 (zs (zr [4,5,6,7,8,9,10,11,43] [zm 39 4,zm 40 11,zi 41 3 39 40,zL 42 3 41,zk 43 282 [.t 42]])
 (zC 43 (zr [4,5,6,7,8,9,10,11] [zm 44 7,zm 45 11,zm 46 9,zm 47 11,zm 48 5,zm 49 11,zi 50 1 48 49,zl 51 1 50,zi 52 1 44 45,zw (.st 1 [] (.t 52) (.c (.bool true))),zi 53 1 46 47,zw (.st 1 [] (.t 53) (.t 51))])
 .skip))))
 (zr [4,5,6,7,8,9,10,11] [zm 34 11,zd 35 .add 34 (zI 1),zm 11 35]))))))
 (.block 2 (.loop (.block 3 (zs (zr [4,5,6,7,8,9,10,12] [zy 12 (.mov (.c (zI (-1))))])
 (zs (zs (zr [4,5,6,7,8,9,10,12,13] [zc 13 (zI 0)])
 (.block 4 (.loop (zs (zs (zr [4,5,6,7,8,9,10,12,13,56] [zm 54 13,zm 55 6,zb 56 .lss 54 55])
 (zC 56 .skip
 (.exit 4)))
 (zs (.block 5 (zs (.reg true [0,0,3,7,15,31,31,127,255,511,1023,2047,4095,8191,16383,32767,32767,131071,262143,32767,32767,1605631,3702783,8388607,16777215,33554431] [4,5,6,7,8,9,10,12,13,84] [zm 59 7,zm 60 13,zi 61 1 59 60,zl 62 1 61,zm 63 62,zg 63 true (zm 64 8),zg 63 true (zm 65 13),zg 63 true (zi 66 1 64 65),zg 63 true (zl 67 1 66),zg 63 true (zt 68 67),zP 69 63 68,zm 70 69,zg 70 true (zm 71 12),zg 70 true (zd 72 .lss 71 (zI 0)),zg 70 true (zm 73 72),zg 73 false (zm 74 9),zg 73 false (zm 75 13),zg 73 false (zi 76 1 74 75),zg 73 false (zl 77 1 76),zg 73 false (zm 78 9),zg 73 false (zm 79 12),zg 73 false (zi 80 1 78 79),zg 73 false (zl 81 1 80),zg 73 false (zb 82 .lss 77 81),zg 70 true (zp 83 73 82),zP 84 70 83])
 (zC 84 (zr [4,5,6,7,8,9,10,12,13] [zm 85 13,zm 12 85])
 .skip)))
 (zr [4,5,6,7,8,9,10,12,13] [zm 57 13,zd 58 .add 57 (zI 1),zm 13 58]))))))
 (zs (zs (zr [4,5,6,7,8,9,10,12,87] [zm 86 12,zd 87 .lss 86 (zI 0)])
 (zC 87 (zs (zr [2,3] [zq 88 9,zq 89 10,zq 2 88,zq 3 89])
 .ret)
 .skip))
 (zs (zr [4,5,6,7,8,9,10,12] [zm 90 8,zm 91 12,zi 92 1 90 91,zw (.st 1 [] (.t 92) (.c (.bool true)))])
 (zs (zr [4,5,6,7,8,9,10,12,14] [zc 14 (zI 0)])
 (.block 6 (.loop (zs (zs (zr [4,5,6,7,8,9,10,12,14,94] [zm 93 14,zd 94 .lss 93 (zI 3)])
 (zC 94 .skip
 (.exit 6)))
 (zs (.block 7 (zs (zr [4,5,6,7,8,9,10,12,14,15] [zm 97 4,zm 98 12,zm 99 14,zi 100 3 97 98,zy 101 (.iadA 3 1 (.t 100) (.t 99)),zl 102 1 101,zm 15 102])
 (zs (zr [4,5,6,7,8,9,10,12,14,15,111] [zm 103 15,zd 104 .geq 103 (zI 0),zm 105 104,zg 105 true (zm 106 7),zg 105 true (zm 107 15),zg 105 true (zi 108 1 106 107),zg 105 true (zl 109 1 108),zg 105 true (zt 110 109),zP 111 105 110])
 (zC 111 (.reg true [0,0,0,0,0,0,0,0,192,448,0,0,3072,7168,16320,0,32707,98243,229327,491471,1048575,2097151] [4,5,6,7,8,9,10,12,14] [zm 112 7,zm 113 15,zm 114 9,zm 115 15,zm 116 10,zm 117 15,zm 118 5,zm 119 15,zi 120 1 118 119,zl 121 1 120,zm 122 9,zm 123 12,zi 124 1 122 123,zl 125 1 124,zk 126 283 [.t 121,.t 125],zm 127 12,zi 128 1 112 113,zw (.st 1 [] (.t 128) (.c (.bool true))),zi 129 1 114 115,zw (.st 1 [] (.t 129) (.t 126)),zi 130 1 116 117,zw (.st 1 [] (.t 130) (.t 127))])
 .skip))))
 (zr [4,5,6,7,8,9,10,12,14] [zm 95 14,zd 96 .add 95 (zI 1),zm 14 96]))))))))))))))))))) }
def N253 : aE:={ np:=1,nt:=93,res:=[(2,none),(3,none)],body :=
 (zs (zr [1] [zo 1 0,zc 2 .nilp,zc 3 (zI 0)])
 (zs (zr [1,4,5] [zL 13 2 1,zk 14 221 [.t 13],zm 12 14,zx 15 0 12,zx 16 1 12,zq 4 15,zm 5 16])
 (zs (zs (zr [1,4,5,18] [zm 17 5,zd 18 .neq 17 (zI 0)])
 (zC 18 (zs (zr [2,3] [zm 19 5,zc 2 .nilp,zm 3 19])
 .ret)
 .skip))
 (zs (zr [1,6] [zq 20 4,zy 21 (.bld [.nils,.nils,.nils] [(0,1,.t 20)]),zy 22 (.box [] (.t 21)),zm 6 22])
 (zs (zs (zr [1,6,24,25,26] [zf 23 1 1,zl 24 1 23,zn 25 24,zc 26 (zI 0)])
 (.block 0 (.loop (zs (zr [1,6,24,25,26,27] [zb 27 .lss 26 25])
 (zs (zC 27 .skip
 (.exit 0))
 (zs (.block 1 (zs (zr [1,6,8,24,25,26] [zi 28 4 24 26,zL 29 4 28,zy 8 (.alc zA5),zw (.st 4 [] (.t 8) (.t 29))])
 (zs (.reg true [0,1,0,4,15,31,0,64,0,256,960,1984,0,4096,0,16384,61440,126976,0,0,0,1835071,3936255,8388607] [1,6,9,10,11,24,25,26] [zf 30 0 1,zl 31 1 30,zf 32 0 8,zl 33 1 32,zi 34 3 31 33,zL 35 3 34,zf 36 0 1,zl 37 1 36,zf 38 1 8,zl 39 1 38,zi 40 3 37 39,zL 41 3 40,zf 42 0 1,zl 43 1 42,zf 44 2 8,zl 45 1 44,zi 46 3 43 45,zL 47 3 46,zy 9 (.alc zA3),zy 10 (.alc zA3),zy 11 (.alc zA3),zw (.st 3 [] (.t 9) (.t 35)),zw (.st 3 [] (.t 10) (.t 41)),zw (.st 3 [] (.t 11) (.t 47))])
 (zs (.reg true [0,0,2,6,14,0,32,0,128,480,0,1024,4064,8160,16382,32767,65535,131071] [1,6,9,10,11,24,25,26] [zm 48 6,zm 49 6,zy 50 (.nck (.t 49)),zf 51 1 50,zl 52 1 51,zf 53 2 9,zl 54 1 53,zf 55 2 10,zl 56 1 55,zb 57 .add 54 56,zf 58 2 11,zl 59 1 58,zb 60 .add 57 59,zy 61 (.bls 1 1 [zI 0] [] [(0,.t 60)]),zy 62 (.app 1 8 false (.t 52) (.t 61)),zy 63 (.nck (.t 48)),zf 64 1 63,zw (.st 1 [] (.t 64) (.t 62))])
 (.reg true [0,0,2,6,14,0,32,0,128,480,0,1024,4064,0,8192,0,32768,122880,0,262144,1040384,2097120,4194272,8388606,16777215,33554431,67108863] [1,6,24,25,26] [zm 65 6,zm 66 6,zy 67 (.nck (.t 66)),zf 68 2 67,zl 69 1 68,zf 70 0 9,zl 71 1 70,zf 72 0 10,zl 73 1 72,zb 74 .add 71 73,zf 75 0 11,zl 76 1 75,zb 77 .add 74 76,zf 78 1 9,zl 79 1 78,zf 80 1 10,zl 81 1 80,zb 82 .add 79 81,zf 83 1 11,zl 84 1 83,zb 85 .add 82 84,zy 86 (.bld [zI 0,zI 0] [(0,1,.t 77),(1,1,.t 85)]),zy 87 (.bls 2 1 [zI 0,zI 0] [] [(0,.t 86)]),zy 88 (.app 2 16 false (.t 69) (.t 87)),zy 89 (.nck (.t 65)),zf 90 2 89,zw (.st 1 [] (.t 90) (.t 88))])))))
 (zr [1,6,24,25,26] [zd 91 .add 26 (zI 1),zm 26 91])))))))
 (zs (zr [2,3] [zm 92 6,zm 2 92,zc 3 (zI 0)])
 .ret)))))) }
def N257 : aE:={ np:=1,nt:=13,res:=[(2,none)],body :=
 (zs (zr [1] [zo 1 0,zc 2 (.bool false)])
 (zs (zr [2] [zf 3 0 1,zl 4 1 3,zn 5 4,zd 6 .leq 5 (zI 2000),zm 7 6,zg 7 true (zf 8 1 1),zg 7 true (zl 9 1 8),zg 7 true (zn 10 9),zg 7 true (zd 11 .leq 10 (zI 4000)),zP 12 7 11,zm 2 12])
 .ret)) }
def N258 : aE:={ np:=1,nt:=177,res:=[(2,none)],body :=
 (zs (zr [1] [zo 1 0,zc 2 .nils])
 (zs (zr [1,3] [zy 15 (.mks 1 24 [.own 2 []] (.c (zI 7)) (.c (zI 7))),zq 3 15])
 (zs (zs (zr [1,3,4] [zc 4 (zI 0)])
 (.block 0 (.loop (zs (zs (zr [1,3,4,20] [zm 16 4,zf 17 0 1,zl 18 1 17,zn 19 18,zb 20 .lss 16 19])
 (zC 20 .skip
 (.exit 0)))
 (zs (.block 1 (zs (zr [1,3,4,5] [zf 23 0 1,zl 24 1 23,zm 25 4,zi 26 3 24 25,zL 27 3 26,zy 5 (.alc zA3),zw (.st 3 [] (.t 5) (.t 27))])
 (zs (zs (zr [1,3,4,5,30] [zL 28 3 5,zk 29 289 [.t 28],zt 30 29])
 (zC 30 (zs (.reg true [0,0,2,6,0,16,48,112,254,511,1023] [1,3,4] [zm 31 3,zm 32 3,zy 33 (.iadS 1 (.t 32) (.c (zI 1))),zl 34 1 33,zm 35 4,zk 36 290 [.t 35],zy 37 (.bld [zI 0,.str []] [(0,1,(.c (zI 1))),(1,1,.t 36)]),zy 38 (.bls 2 1 [zI 0,.str []] [] [(0,.t 37)]),zy 39 (.app 2 24 false (.t 34) (.t 38)),zy 40 (.iadS 1 (.t 31) (.c (zI 1))),zw (.st 1 [] (.t 40) (.t 39))])
 (.exit 1))
 .skip))
 (zs (zr [1,3,4,5,6] [zc 6 (zI 0)])
 (.block 2 (.loop (zs (zs (zr [1,3,4,5,6,43] [zm 41 6,zm 42 4,zb 43 .lss 41 42])
 (zC 43 .skip
 (.exit 2)))
 (zs (.block 3 (zs (.reg true [0,1,0,7,15,31,63,127,255,127,1023,2047,4095,127,16383,32767,65535] [1,3,4,5,6,62] [zf 46 0 1,zl 47 1 46,zm 48 6,zi 49 3 47 48,zL 50 3 49,zk 51 289 [.t 50],zm 52 51,zg 52 true (zf 53 0 1),zg 52 true (zl 54 1 53),zg 52 true (zm 55 6),zg 52 true (zi 56 3 54 55),zg 52 true (zL 57 3 56),zg 52 true (zk 58 291 [.t 57]),zg 52 true (zL 59 3 5),zg 52 true (zk 60 291 [.t 59]),zg 52 true (zy 61 (.beq false [0,0] (.t 58) (.t 60))),zP 62 52 61])
 (zC 62 (zs (.reg true [0,0,2,6,0,16,48,112,254,511,1023] [1,3,4] [zm 63 3,zm 64 3,zy 65 (.iadS 1 (.t 64) (.c (zI 2))),zl 66 1 65,zm 67 4,zk 68 290 [.t 67],zy 69 (.bld [zI 0,.str []] [(0,1,(.c (zI 2))),(1,1,.t 68)]),zy 70 (.bls 2 1 [zI 0,.str []] [] [(0,.t 69)]),zy 71 (.app 2 24 false (.t 66) (.t 70)),zy 72 (.iadS 1 (.t 63) (.c (zI 2))),zw (.st 1 [] (.t 72) (.t 71))])
 (.exit 2))
 .skip)))
 (zr [1,3,4,5,6] [zm 44 6,zd 45 .add 44 (zI 1),zm 6 45])))))))))
 (zr [1,3,4] [zm 21 4,zd 22 .add 21 (zI 1),zm 4 22]))))))
 (zs (zr [1,3,7] [zy 7 (.nilo 4)])
 (zs (zs (zr [1,3,7,8] [zc 8 (zI 0)])
 (.block 4 (.loop (zs (zs (zr [1,3,7,8,77] [zm 73 8,zf 74 1 1,zl 75 1 74,zn 76 75,zb 77 .lss 73 76])
 (zC 77 .skip
 (.exit 4)))
 (zs (.block 5 (zs (zr [1,3,7,8,9] [zf 80 1 1,zl 81 1 80,zm 82 8,zi 83 4 81 82,zL 84 4 83,zy 9 (.alc zA5),zw (.st 4 [] (.t 9) (.t 84))])
 (zs (zs (zr [1,3,7,8,9,88] [zL 85 2 1,zL 86 4 9,zk 87 292 [.t 85,.t 86],zt 88 87])
 (zC 88 (zs (.reg true [0,0,2,6,0,16,48,112,254,511,1023] [1,3,7,8] [zm 89 3,zm 90 3,zy 91 (.iadS 1 (.t 90) (.c (zI 3))),zl 92 1 91,zm 93 8,zk 94 290 [.t 93],zy 95 (.bld [zI 0,.str []] [(0,1,(.c (zI 3))),(1,1,.t 94)]),zy 96 (.bls 2 1 [zI 0,.str []] [] [(0,.t 95)]),zy 97 (.app 2 24 false (.t 92) (.t 96)),zy 98 (.iadS 1 (.t 89) (.c (zI 3))),zw (.st 1 [] (.t 98) (.t 97))])
 (.exit 5))
 .skip))
 (zs (zs (zr [1,3,7,8,9,102] [zL 99 2 1,zL 100 4 9,zk 101 293 [.t 99,.t 100],zd 102 .leq 101 (zI 0)])
 (zC 102 (zs (.reg true [0,0,2,6,0,16,48,112,254,511,1023] [1,3,7,8] [zm 103 3,zm 104 3,zy 105 (.iadS 1 (.t 104) (.c (zI 4))),zl 106 1 105,zm 107 8,zk 108 290 [.t 107],zy 109 (.bld [zI 0,.str []] [(0,1,(.c (zI 4))),(1,1,.t 108)]),zy 110 (.bls 2 1 [zI 0,.str []] [] [(0,.t 109)]),zy 111 (.app 2 24 false (.t 106) (.t 110)),zy 112 (.iadS 1 (.t 103) (.c (zI 4))),zw (.st 1 [] (.t 112) (.t 111))])
 (.exit 5))
 .skip))
 (zs (zr [1,3,7,8,9,10,11] [zc 10 (.bool false),zc 11 (.bool false)])
 (zs (zs (zr [1,3,7,8,9,10,11,12] [zc 12 (zI 0)])
 (.block 6 (.loop (zs (zs (zr [1,3,7,8,9,10,11,12,116] [zm 113 12,zm 114 7,zn 115 114,zb 116 .lss 113 115])
 (zC 116 .skip
 (.exit 6)))
 (zs (.block 7 (zs (.reg true [0,1,3,3,3,27,59,127,255,511] [1,3,7,8,9,10,11,12] [zm 119 10,zm 120 119,zg 120 false (zL 121 4 9),zg 120 false (zm 122 7),zg 120 false (zm 123 12),zg 120 false (zi 124 4 122 123),zg 120 false (zL 125 4 124),zg 120 false (zk 126 294 [.t 121,.t 125]),zp 127 120 126,zm 10 127])
 (.reg true [0,1,3,3,3,3,51,115,255,511,1023] [1,3,7,8,9,10,11,12] [zm 128 11,zm 129 128,zg 129 false (zL 130 2 1),zg 129 false (zL 131 4 9),zg 129 false (zm 132 7),zg 129 false (zm 133 12),zg 129 false (zi 134 4 132 133),zg 129 false (zL 135 4 134),zg 129 false (zk 136 295 [.t 130,.t 131,.t 135]),zp 137 129 136,zm 11 137])))
 (zr [1,3,7,8,9,10,11,12] [zm 117 12,zd 118 .add 117 (zI 1),zm 12 118]))))))
 (zs (zs (zr [1,3,7,8,9,11,138] [zm 138 10])
 (zC 138 (.reg true [0,0,2,6,0,16,48,112,254,511,1023] [1,3,7,8,9,11] [zm 139 3,zm 140 3,zy 141 (.iadS 1 (.t 140) (.c (zI 5))),zl 142 1 141,zm 143 8,zk 144 290 [.t 143],zy 145 (.bld [zI 0,.str []] [(0,1,(.c (zI 5))),(1,1,.t 144)]),zy 146 (.bls 2 1 [zI 0,.str []] [] [(0,.t 145)]),zy 147 (.app 2 24 false (.t 142) (.t 146)),zy 148 (.iadS 1 (.t 139) (.c (zI 5))),zw (.st 1 [] (.t 148) (.t 147))])
 .skip))
 (zs (zs (zr [1,3,7,8,9,149] [zm 149 11])
 (zC 149 (.reg true [0,0,2,6,0,16,48,112,254,511,1023] [1,3,7,8,9] [zm 150 3,zm 151 3,zy 152 (.iadS 1 (.t 151) (.c (zI 6))),zl 153 1 152,zm 154 8,zk 155 290 [.t 154],zy 156 (.bld [zI 0,.str []] [(0,1,(.c (zI 6))),(1,1,.t 155)]),zy 157 (.bls 2 1 [zI 0,.str []] [] [(0,.t 156)]),zy 158 (.app 2 24 false (.t 153) (.t 157)),zy 159 (.iadS 1 (.t 150) (.c (zI 6))),zw (.st 1 [] (.t 159) (.t 158))])
 .skip))
 (zr [1,3,7,8] [zm 160 7,zL 161 4 9,zy 162 (.bls 4 1 [zI 0,zI 0,zI 0,zI 0] [] [(0,.t 161)]),zy 163 (.app 4 32 false (.t 160) (.t 162)),zq 7 163])))))))))
 (zr [1,3,7,8] [zm 78 8,zd 79 .add 78 (zI 1),zm 8 79]))))))
 (zs (zr [3,13] [zy 13 (.nilo 2)])
 (zs (zs (zr [3,13,14] [zc 14 (zI 0)])
 (.block 8 (.loop (zs (zs (zr [3,13,14,167] [zm 164 14,zm 165 3,zn 166 165,zb 167 .lss 164 166])
 (zC 167 .skip
 (.exit 8)))
 (zs (.block 9 (zr [3,13,14] [zm 170 13,zm 171 3,zm 172 14,zi 173 1 171 172,zl 174 1 173,zy 175 (.app 2 24 false (.t 170) (.t 174)),zq 13 175]))
 (zr [3,13,14] [zm 168 14,zd 169 .add 168 (zI 1),zm 14 169]))))))
 (zs (zr [2] [zq 176 13,zq 2 176])
 .ret)))))))) }
def N259 : aE:={ np:=1,nt:=44,res:=[(2,none)],body :=
 (zs (zr [1] [zo 1 0,zc 2 .nils])
 (zs (zr [1,3] [zy 3 (.nilo 3)])
 (zs (zs (zr [1,3,4] [zc 4 (zI 0)])
 (.block 0 (.loop (zs (zs (zr [1,3,4,15] [zm 11 4,zf 12 1 1,zl 13 1 12,zn 14 13,zb 15 .lss 11 14])
 (zC 15 .skip
 (.exit 0)))
 (zs (.block 1 (zs (zr [1,3,4,5] [zL 19 2 1,zm 20 4,zk 21 287 [.t 19,.t 20,(.c (zI 0))],zm 18 21,zx 22 0 18,zx 23 1 18,zm 5 22,zm 6 23])
 (zs (zr [1,3,4,5,7] [zL 25 2 1,zm 26 4,zk 27 287 [.t 25,.t 26,(.c (zI 1))],zm 24 27,zx 28 0 24,zx 29 1 24,zm 7 28,zm 8 29])
 (zs (zr [1,3,4,5,7,9] [zL 31 2 1,zm 32 4,zk 33 287 [.t 31,.t 32,(.c (zI 2))],zm 30 33,zx 34 0 30,zx 35 1 30,zm 9 34,zm 10 35])
 (zr [1,3,4] [zm 36 3,zm 37 5,zm 38 7,zm 39 9,zy 40 (.bld [zI 0,zI 0,zI 0] [(0,1,.t 37),(1,1,.t 38),(2,1,.t 39)]),zy 41 (.bls 3 1 [zI 0,zI 0,zI 0] [] [(0,.t 40)]),zy 42 (.app 3 24 false (.t 36) (.t 41)),zq 3 42])))))
 (zr [1,3,4] [zm 16 4,zd 17 .add 16 (zI 1),zm 4 17]))))))
 (zs (zr [2] [zq 43 3,zq 2 43])
 .ret)))) }
def N261 : aE:={ np:=1,nt:=72,res:=[(2,none)],body :=
 (zs (zr [1] [zo 1 0,zc 2 .nils])
 (zs (zr [1,3] [zy 14 (.mkm 3 2),zm 3 14])
 (zs (zs (zr [1,3,16,17,18] [zf 15 1 1,zl 16 1 15,zn 17 16,zc 18 (zI 0)])
 (.block 0 (.loop (zs (zr [1,3,16,17,18,19] [zb 19 .lss 18 17])
 (zs (zC 19 .skip
 (.exit 0))
 (zs (.block 1 (zs (zr [1,3,4,5,16,17,18] [zm 20 18,zi 21 4 16 18,zL 22 4 21,zy 5 (.alc zA5),zm 4 20,zw (.st 4 [] (.t 5) (.t 22))])
 (zs (zr [1,3,4,5,16,17,18,23] [zc 23 (zI 0)])
 (.block 2 (.loop (zs (zr [1,3,4,5,16,17,18,23,24] [zd 24 .lss 23 (zI 3)])
 (zs (zC 24 .skip
 (.exit 2))
 (zs (.block 3 (zs (zr [1,3,4,5,6,16,17,18,23] [zm 25 23,zm 6 25])
 (zr [1,3,4,5,16,17,18,23] [zm 26 3,zL 27 4 5,zm 28 6,zk 29 298 [.t 27,.t 28],zm 30 4,zw (.mpu (.ints .i64 2) 3 2 (zI 0) (.t 26) (.t 29) (.t 30))])))
 (zr [1,3,4,5,16,17,18,23] [zd 31 .add 23 (zI 1),zm 23 31])))))))))
 (zr [1,3,16,17,18] [zd 32 .add 18 (zI 1),zm 18 32])))))))
 (zs (zr [1,3,7] [zf 33 1 1,zl 34 1 33,zn 35 34,zy 36 (.mks 3 24 [zI 0,zI 0,zI 0] (.t 35) (.t 35)),zq 7 36])
 (zs (zs (zr [3,7,38,39,40] [zf 37 1 1,zl 38 1 37,zn 39 38,zc 40 (zI 0)])
 (.block 4 (.loop (zs (zr [3,7,38,39,40,41] [zb 41 .lss 40 39])
 (zs (zC 41 .skip
 (.exit 4))
 (zs (.block 5 (zs (zr [3,7,8,9,38,39,40] [zm 42 40,zi 43 4 38 40,zL 44 4 43,zy 9 (.alc zA5),zm 8 42,zw (.st 4 [] (.t 9) (.t 44))])
 (zs (zr [3,7,8,9,38,39,40,45] [zc 45 (zI 0)])
 (.block 6 (.loop (zs (zr [3,7,8,9,38,39,40,45,46] [zd 46 .lss 45 (zI 3)])
 (zs (zC 46 .skip
 (.exit 6))
 (zs (.block 7 (zs (zr [3,7,8,9,10,38,39,40,45] [zm 47 45,zm 10 47])
 (zs (zr [3,7,8,9,10,11,38,39,40,45] [zL 48 4 9,zm 49 10,zk 50 298 [.t 48,.t 49],zy 11 (.alc zA1),zw (.st 2 [] (.t 11) (.t 50))])
 (zs (zr [3,7,8,9,10,12,13,38,39,40,45] [zm 52 3,zy 53 (.iadA 2 1 (.t 11) (.c (zI 1))),zl 54 1 53,zy 55 (.iadA 2 1 (.t 11) (.c (zI 0))),zl 56 1 55,zy 57 (.bld [zI 0,zI 0] [(0,1,.t 54),(1,1,.t 56)]),zy 58 (.mpl (.ints .i64 2) 3 2 true (zI 0) (.t 52) (.t 57)),zm 51 58,zx 59 0 51,zx 60 1 51,zm 12 59,zm 13 60])
 (zs (zs (zr [3,7,8,9,10,12,38,39,40,45,62] [zm 61 13,zt 62 61])
 (zC 62 (zr [3,7,8,9,10,12,38,39,40,45] [zy 12 (.mov (.c (zI (-1))))])
 .skip))
 (zr [3,7,8,9,38,39,40,45] [zm 63 7,zm 64 8,zm 65 10,zm 66 12,zi 67 3 63 64,zy 68 (.iadA 3 1 (.t 67) (.t 65)),zw (.st 1 [] (.t 68) (.t 66))]))))))
 (zr [3,7,8,9,38,39,40,45] [zd 69 .add 45 (zI 1),zm 45 69])))))))))
 (zr [3,7,38,39,40] [zd 70 .add 40 (zI 1),zm 40 70])))))))
 (zs (zr [2] [zq 71 7,zq 2 71])
 .ret)))))) }
def N262 : aE:={ np:=2,nt:=19,res:=[(4,none)],body :=
 (zs (zr [0,1] [zc 4 (zI 0)])
 (zs (zs (zr [0,1,7,8] [zm 6 0,zn 7 6,zc 8 (zI 0)])
 (.block 0 (.loop (zs (zr [0,1,7,8,9] [zb 9 .lss 8 7])
 (zs (zC 9 .skip
 (.exit 0))
 (zs (.block 1 (zs (zr [0,1,5,7,8] [zm 10 8,zm 5 10])
 (zs (zr [0,1,5,7,8,16] [zm 11 1,zm 12 0,zm 13 5,zi 14 1 12 13,zl 15 1 14,zb 16 .eql 11 15])
 (zC 16 (zs (zr [4] [zm 17 5,zm 4 17])
 .ret)
 .skip))))
 (zr [0,1,7,8] [zd 18 .add 8 (zI 1),zm 8 18])))))))
 (zs (zr [4] [zy 4 (.mov (.c (zI (-1))))])
 .ret))) }
def N271 : aE:={ np:=2,nt:=11,res:=[(4,none),(5,none)],body :=
 (zs (zr [1,2] [zo 2 0,zc 4 (zI 0),zc 5 (zI 0)])
 (zs (zr [4,5] [zL 6 2 2,zm 7 1,zk 8 301 [.t 6,.t 7,(.c (.bool false))],zx 9 0 8,zx 10 1 8,zm 4 9,zm 5 10])
 .ret)) }
def N272 : aE:={ np:=2,nt:=11,res:=[(4,none),(5,none)],body :=
 (zs (zr [1,2] [zo 2 0,zc 4 (zI 0),zc 5 (zI 0)])
 (zs (zr [4,5] [zL 6 2 2,zm 7 1,zk 8 301 [.t 6,.t 7,(.c (.bool true))],zx 9 0 8,zx 10 1 8,zm 4 9,zm 5 10])
 .ret)) }
def N273 : aE:={ np:=1,nt:=202,res:=[(2,none),(3,none)],body :=
 (zs (zr [1] [zo 1 0,zc 2 .nils,zc 3 (zI 0)])
 (zs (zs (zr [1,24] [zL 22 2 1,zk 23 302 [.t 22],zt 24 23])
 (zC 24 (zs (zr [2,3] [zc 2 .nils,zc 3 (zI 4)])
 .ret)
 .skip))
 (zs (zr [1,4] [zy 4 (.alc zA7)])
 (zs (zr [1,4,5] [zf 25 0 1,zl 26 1 25,zn 27 26,zy 28 (.mks 1 1 [.bool false] (.t 27) (.t 27)),zy 5 (.alc [.own 1 []]),zw (.st 1 [] (.t 5) (.t 28))])
 (zs (zr [1,4,5,6] [zy 29 (.mkm 4 1),zm 6 29])
 (zs (zs (zr [1,4,5,6,31,32,33] [zf 30 0 1,zl 31 1 30,zn 32 31,zc 33 (zI 0)])
 (.block 0 (.loop (zs (zr [1,4,5,6,31,32,33,34] [zb 34 .lss 33 32])
 (zs (zC 34 .skip
 (.exit 0))
 (zs (.block 1 (zs (zr [1,4,5,6,7,8,31,32,33] [zm 35 33,zi 36 3 31 33,zL 37 3 36,zy 8 (.alc zA3),zm 7 35,zw (.st 3 [] (.t 8) (.t 37))])
 (zs (zs (.reg true [0,0,0,4,12,31,63] [1,4,5,6,7,31,32,33] [zl 38 1 5,zm 39 7,zL 40 3 8,zk 41 303 [.t 40],zt 42 41,zi 43 1 38 39,zw (.st 1 [] (.t 43) (.t 42))])
 (zs (zr [1,4,5,6,7,31,32,33,47] [zl 44 1 5,zm 45 7,zi 46 1 44 45,zl 47 1 46])
 (zC 47 (zs (zr [1,4,5,6,31,32,33] [zy 48 (.iadA 7 1 (.t 4) (.c (zI 1))),zl 49 1 48,zm 50 7,zy 51 (.bls 1 1 [zI 0] [] [(0,.t 50)]),zy 52 (.app 1 8 false (.t 49) (.t 51)),zy 53 (.iadA 7 1 (.t 4) (.c (zI 1))),zw (.st 1 [] (.t 53) (.t 52))])
 (.exit 1))
 .skip)))
 (zs (zr [1,4,5,6,7,9,31,32,33] [zL 54 2 1,zm 55 7,zk 56 304 [.t 54,.t 55],zy 9 (.alc zA1),zw (.st 2 [] (.t 9) (.t 56))])
 (zs (zs (zr [1,4,5,6,7,9,31,32,33,59] [zm 57 6,zL 58 2 9,zy 59 (.mpl (.ints .i64 2) 4 1 false (.bool false) (.t 57) (.t 58))])
 (zC 59 (zr [1,4,5,6,9,31,32,33] [zy 60 (.iadA 7 1 (.t 4) (.c (zI 2))),zl 61 1 60,zm 62 7,zy 63 (.bls 1 1 [zI 0] [] [(0,.t 62)]),zy 64 (.app 1 8 false (.t 61) (.t 63)),zy 65 (.iadA 7 1 (.t 4) (.c (zI 2))),zw (.st 1 [] (.t 65) (.t 64))])
 .skip))
 (zr [1,4,5,6,31,32,33] [zm 66 6,zL 67 2 9,zw (.mpu (.ints .i64 2) 4 1 (.bool false) (.t 66) (.t 67) (.c (.bool true)))]))))))
 (zr [1,4,5,6,31,32,33] [zd 68 .add 33 (zI 1),zm 33 68])))))))
 (zs (zr [1,4,5,10] [zy 69 (.mkm 3 1),zm 10 69])
 (zs (zr [1,4,5,10,11] [zy 11 (.nilo 6)])
 (zs (zs (zr [1,4,5,10,11,71,72,73] [zf 70 1 1,zl 71 1 70,zn 72 71,zc 73 (zI 0)])
 (.block 2 (.loop (zs (zr [1,4,5,10,11,71,72,73,74] [zb 74 .lss 73 72])
 (zs (zC 74 .skip
 (.exit 2))
 (zs (.block 3 (zs (zr [1,4,5,10,11,12,13,71,72,73] [zm 75 73,zi 76 4 71 73,zL 77 4 76,zy 13 (.alc zA5),zm 12 75,zw (.st 4 [] (.t 13) (.t 77))])
 (zs (zr [1,4,5,10,11,12,13,14,71,72,73] [zL 78 4 13,zk 79 305 [.t 78],zy 14 (.alc zA3),zw (.st 3 [] (.t 14) (.t 79))])
 (zs (zs (zr [1,4,5,10,11,12,13,71,72,73,113] [zy 80 (.slM 3 1 (.t 14)),zy 81 (.mk 306 [.t 1,.t 5]),zk 82 11 [.t 80,.t 81],zm 83 82,zg 83 false (zf 84 0 13),zg 83 false (zl 85 1 84),zg 83 false (zf 86 1 13),zg 83 false (zl 87 1 86),zg 83 false (zb 88 .eql 85 87),zp 89 83 88,zm 90 89,zg 90 false (zf 91 1 13),zg 90 false (zl 92 1 91),zg 90 false (zf 93 2 13),zg 90 false (zl 94 1 93),zg 90 false (zb 95 .eql 92 94),zp 96 90 95,zm 97 96,zg 97 false (zf 98 2 13),zg 97 false (zl 99 1 98),zg 97 false (zf 100 0 13),zg 97 false (zl 101 1 100),zg 97 false (zb 102 .eql 99 101),zp 103 97 102,zm 104 103,zg 104 false (zf 105 3 13),zg 104 false (zl 106 1 105),zg 104 false (zd 107 .lss 106 (zI 0)),zp 108 104 107,zm 109 108,zg 109 false (zf 110 3 13),zg 109 false (zl 111 1 110),zg 109 false (zd 112 .geq 111 (zI 16)),zp 113 109 112])
 (zC 113 (zs (zr [1,4,5,10,11,71,72,73] [zy 114 (.iadA 7 1 (.t 4) (.c (zI 3))),zl 115 1 114,zm 116 12,zy 117 (.bls 1 1 [zI 0] [] [(0,.t 116)]),zy 118 (.app 1 8 false (.t 115) (.t 117)),zy 119 (.iadA 7 1 (.t 4) (.c (zI 3))),zw (.st 1 [] (.t 119) (.t 118))])
 (.exit 3))
 .skip))
 (zs (zr [1,4,5,10,11,12,13,15,71,72,73] [zL 120 2 1,zL 121 4 13,zk 122 307 [.t 120,.t 121],zy 15 (.alc zA6),zw (.st 6 [] (.t 15) (.t 122))])
 (zs (zs (zr [1,4,5,10,11,12,13,15,71,72,73,130] [zy 123 (.iadA 3 2 (.t 15) (.c (zI 0))),zL 124 2 123,zy 125 (.iadA 3 2 (.t 15) (.c (zI 1))),zL 126 2 125,zy 127 (.iadA 3 2 (.t 15) (.c (zI 2))),zL 128 2 127,zk 129 308 [.t 124,.t 126,.t 128],zd 130 .leq 129 (zI 0)])
 (zC 130 (zs (zr [1,4,5,10,11,71,72,73] [zy 131 (.iadA 7 1 (.t 4) (.c (zI 4))),zl 132 1 131,zm 133 12,zy 134 (.bls 1 1 [zI 0] [] [(0,.t 133)]),zy 135 (.app 1 8 false (.t 132) (.t 134)),zy 136 (.iadA 7 1 (.t 4) (.c (zI 4))),zw (.st 1 [] (.t 136) (.t 135))])
 (.exit 3))
 .skip))
 (zs (zs (zr [1,4,5,10,11,12,13,15,71,72,73,152] [zm 137 10,zL 138 4 13,zk 139 298 [.t 138,(.c (zI 0))],zy 140 (.mpl (.ints .i64 2) 3 1 false (.bool false) (.t 137) (.t 139)),zm 141 140,zg 141 false (zm 142 10),zg 141 false (zL 143 4 13),zg 141 false (zk 144 298 [.t 143,(.c (zI 1))]),zg 141 false (zy 145 (.mpl (.ints .i64 2) 3 1 false (.bool false) (.t 142) (.t 144))),zp 146 141 145,zm 147 146,zg 147 false (zm 148 10),zg 147 false (zL 149 4 13),zg 147 false (zk 150 298 [.t 149,(.c (zI 2))]),zg 147 false (zy 151 (.mpl (.ints .i64 2) 3 1 false (.bool false) (.t 148) (.t 150))),zp 152 147 151])
 (zC 152 (zr [1,4,5,10,11,12,13,15,71,72,73] [zy 153 (.iadA 7 1 (.t 4) (.c (zI 5))),zl 154 1 153,zm 155 12,zy 156 (.bls 1 1 [zI 0] [] [(0,.t 155)]),zy 157 (.app 1 8 false (.t 154) (.t 156)),zy 158 (.iadA 7 1 (.t 4) (.c (zI 5))),zw (.st 1 [] (.t 158) (.t 157))])
 .skip))
 (zs (zs (zr [1,4,5,10,11,12,13,15,71,72,73,159] [zc 159 (zI 0)])
 (.block 4 (.loop (zs (zr [1,4,5,10,11,12,13,15,71,72,73,159,160] [zd 160 .lss 159 (zI 3)])
 (zs (zC 160 .skip
 (.exit 4))
 (zs (.block 5 (zs (zr [1,4,5,10,11,12,13,15,16,71,72,73,159] [zm 161 159,zm 16 161])
 (zr [1,4,5,10,11,12,13,15,71,72,73,159] [zm 162 10,zL 163 4 13,zm 164 16,zk 165 298 [.t 163,.t 164],zw (.mpu (.ints .i64 2) 3 1 (.bool false) (.t 162) (.t 165) (.c (.bool true)))])))
 (zr [1,4,5,10,11,12,13,15,71,72,73,159] [zd 166 .add 159 (zI 1),zm 159 166])))))))
 (zs (zs (zr [1,4,5,10,11,12,15,71,72,73,169] [zm 167 11,zy 168 (.mk 310 [.t 15]),zk 169 309 [.t 167,.t 168]])
 (zC 169 (zr [1,4,5,10,11,15,71,72,73] [zy 170 (.iadA 7 1 (.t 4) (.c (zI 6))),zl 171 1 170,zm 172 12,zy 173 (.bls 1 1 [zI 0] [] [(0,.t 172)]),zy 174 (.app 1 8 false (.t 171) (.t 173)),zy 175 (.iadA 7 1 (.t 4) (.c (zI 6))),zw (.st 1 [] (.t 175) (.t 174))])
 .skip))
 (zr [1,4,5,10,11,71,72,73] [zm 176 11,zL 177 6 15,zy 178 (.bls 6 1 [zI 0,zI 0,zI 0,zI 0,zI 0,zI 0] [] [(0,.t 177)]),zy 179 (.app 6 48 false (.t 176) (.t 178)),zq 11 179]))))))))))
 (zr [1,4,5,10,11,71,72,73] [zd 180 .add 73 (zI 1),zm 73 180])))))))
 (zs (zr [4,17] [zy 17 (.nilo 2)])
 (zs (zs (zr [17,181,182] [zL 181 7 4,zc 182 (zI 0)])
 (.block 6 (.loop (zs (zr [17,181,182,183] [zd 183 .lss 182 (zI 7)])
 (zs (zC 183 .skip
 (.exit 6))
 (zs (.block 7 (zs (zr [17,18,19,181,182] [zm 184 182,zy 185 (.idxA 7 1 false (.t 181) (.t 182)),zm 18 184,zq 19 185])
 (zs (zr [17,18,181,182,186,187,188] [zq 186 19,zn 187 186,zc 188 (zI 0)])
 (.block 8 (.loop (zs (zr [17,18,181,182,186,187,188,189] [zb 189 .lss 188 187])
 (zs (zC 189 .skip
 (.exit 8))
 (zs (.block 9 (zs (zr [17,18,21,181,182,186,187,188] [zi 190 1 186 188,zl 191 1 190,zm 21 191])
 (zr [17,18,181,182,186,187,188] [zm 192 17,zm 193 18,zm 194 21,zk 195 127 [.t 194],zy 196 (.bld [zI 0,.str []] [(0,1,.t 193),(1,1,.t 195)]),zy 197 (.bls 2 1 [zI 0,.str []] [] [(0,.t 196)]),zy 198 (.app 2 24 false (.t 192) (.t 197)),zq 17 198])))
 (zr [17,18,181,182,186,187,188] [zd 199 .add 188 (zI 1),zm 188 199])))))))))
 (zr [17,181,182] [zd 200 .add 182 (zI 1),zm 182 200])))))))
 (zs (zr [2,3] [zq 201 17,zq 2 201,zc 3 (zI 0)])
 .ret)))))))))))) }
def N279 : aE:={ np:=1,nt:=16,res:=[(2,none),(3,none)],body :=
 (zs (zr [1] [zo 1 0,zc 2 .nils,zc 3 (zI 0)])
 (zs (zr [4,5] [zL 7 2 1,zk 8 280 [.t 7],zm 6 8,zx 9 0 6,zx 10 1 6,zm 4 9,zm 5 10])
 (zs (zs (zr [4,5,12] [zm 11 5,zd 12 .neq 11 (zI 0)])
 (zC 12 (zs (zr [2,3] [zm 13 5,zc 2 .nils,zm 3 13])
 .ret)
 .skip))
 (zs (zr [2,3] [zm 14 4,zk 15 314 [.t 14],zq 2 15,zc 3 (zI 0)])
 .ret)))) }
def N280 : aE:={ np:=1,nt:=128,res:=[(2,none),(3,none)],body :=
 (zs (zr [1] [zo 1 0,zc 2 .nilp,zc 3 (zI 0)])
 (zs (zr [1,4,5] [zL 16 2 1,zk 17 221 [.t 16],zm 15 17,zx 18 0 15,zx 19 1 15,zq 4 18,zm 5 19])
 (zs (zs (zr [1,4,5,21] [zm 20 5,zd 21 .neq 20 (zI 0)])
 (zC 21 (zs (zr [2,3] [zm 22 5,zc 2 .nilp,zm 3 22])
 .ret)
 .skip))
 (zs (zr [4,5,6] [zL 24 2 1,zk 25 220 [.t 24],zm 23 25,zx 26 0 23,zx 27 1 23,zq 6 26,zm 5 27])
 (zs (zs (zr [4,5,6,29] [zm 28 5,zd 29 .neq 28 (zI 0)])
 (zC 29 (zs (zr [2,3] [zm 30 5,zc 2 .nilp,zm 3 30])
 .ret)
 .skip))
 (zs (zr [4,6,7] [zm 31 4,zm 32 6,zm 33 6,zy 34 (.callF 42 [.t 33]),zy 35 (.blsF 1 1 [zI 0] [(0,(.c (zI (-1))))]),zm 36 6,zn 37 36,zy 38 (.callF 315 [.t 35,.t 37]),zy 39 (.bld [.nils,.nils,.nils,.nils] [(0,1,.t 31),(1,1,.t 32),(2,1,.t 34),(3,1,.t 38)]),zo 40 39,zm 7 40])
 (zs (zr [4,6,7,8] [zm 41 7,zy 42 (.nck (.t 41)),zf 43 2 42,zl 44 1 43,zy 45 (.bld [.nils,.nils] [(1,1,.t 44)]),zy 46 (.boxK 7 (.t 45)),zm 8 46])
 (zs (zr [4,7,8,9] [zq 47 6,zn 48 47,zy 49 (.mks 1 1 [.bool false] (.t 48) (.t 48)),zq 9 49])
 (zs (zs (zr [4,7,8,9,50,51,52] [zm 50 4,zn 51 50,zc 52 (zI 0)])
 (.block 0 (.loop (zs (zr [4,7,8,9,50,51,52,53] [zb 53 .lss 52 51])
 (zs (zC 53 .skip
 (.exit 0))
 (zs (.block 1 (zs (zr [4,7,8,9,10,11,50,51,52] [zm 54 52,zi 55 3 50 52,zL 56 3 55,zy 11 (.alc zA3),zm 10 54,zw (.st 3 [] (.t 11) (.t 56))])
 (zs (zr [4,7,8,9,10,50,51,52,58] [zy 57 (.slM 3 1 (.t 11)),zk 58 223 [.t 57,(.c (zI (-1)))]])
 (zC 58 (zs (zr [4,7,8,9,10,50,51,52] [zm 59 9,zm 60 10,zi 61 1 59 60,zw (.st 1 [] (.t 61) (.c (.bool true)))])
 (zr [4,7,8,9,50,51,52] [zm 62 8,zy 63 (.mkI 20 (.t 62)),zm 64 10,zy 65 (.mkI 2 (.t 64)),zy 66 (.callQ 316 7 (.t 63) [.t 65])]))
 .skip))))
 (zr [4,7,8,9,50,51,52] [zd 67 .add 52 (zI 1),zm 52 67])))))))
 (zs (.block 2 (.loop (zs (zs (zr [4,7,8,9,70] [zm 68 8,zk 69 317 [.t 68],zd 70 .gtr 69 (zI 0)])
 (zC 70 .skip
 (.exit 2)))
 (.block 3 (zs (zr [4,7,8,9,12] [zm 71 8,zy 72 (.mkI 20 (.t 71)),zy 73 (.callQ 318 7 (.t 72) []),zy 74 (.tya 2 (.t 73)),zm 12 74])
 (zs (zr [4,7,8,9,12,78,79] [zm 75 4,zm 76 12,zi 77 3 75 76,zL 78 3 77,zc 79 (zI 0)])
 (.block 4 (.loop (zs (zr [4,7,8,9,12,78,79,80] [zd 80 .lss 79 (zI 3)])
 (zs (zC 80 .skip
 (.exit 4))
 (zs (.block 5 (zs (zr [4,7,8,9,12,14,78,79] [zy 81 (.idxA 3 1 false (.t 78) (.t 79)),zm 14 81])
 (zs (zs (zr [4,7,8,9,12,14,78,79,89] [zm 82 14,zy 83 (.bin .eql (.t 82) (.c (zI (-1)))),zm 84 83,zg 84 false (zm 85 9),zg 84 false (zm 86 14),zg 84 false (zi 87 1 85 86),zg 84 false (zl 88 1 87),zp 89 84 88])
 (zC 89 (.exit 5)
 .skip))
 (zs (zr [4,7,8,9,12,14,78,79] [zm 90 9,zm 91 14,zi 92 1 90 91,zw (.st 1 [] (.t 92) (.c (.bool true)))])
 (zs (.reg true [0,1,3,7,0,0,32,96,224,0,0,0,2048,6144,14336,0,63488,129024,0,262144,786432,1835008,0,8126464,16515072,33552384,33553919,100662783,268435455,536870911] [4,7,8,9,12,14,78,79] [zm 93 7,zy 94 (.nck (.t 93)),zf 95 3 94,zl 96 1 95,zm 97 14,zm 98 7,zy 99 (.nck (.t 98)),zf 100 2 99,zl 101 1 100,zm 102 14,zm 103 12,zm 104 7,zy 105 (.nck (.t 104)),zf 106 2 105,zl 107 1 106,zm 108 12,zi 109 1 107 108,zl 110 1 109,zm 111 7,zy 112 (.nck (.t 111)),zf 113 1 112,zl 114 1 113,zm 115 14,zi 116 1 114 115,zl 117 1 116,zy 118 (.mx (.t 110) (.t 117)),zi 119 1 96 97,zw (.st 1 [] (.t 119) (.t 103)),zi 120 1 101 102,zw (.st 1 [] (.t 120) (.t 118))])
 (zr [4,7,8,9,12,78,79] [zm 121 8,zy 122 (.mkI 20 (.t 121)),zm 123 14,zy 124 (.mkI 2 (.t 123)),zy 125 (.callQ 316 7 (.t 122) [.t 124])]))))))
 (zr [4,7,8,9,12,78,79] [zd 126 .add 79 (zI 1),zm 79 126]))))))))))))
 (zs (zr [2,3] [zm 127 7,zm 2 127,zc 3 (zI 0)])
 .ret))))))))))) }
def N281 : aE:={ np:=1,nt:=19,res:=[(2,none)],body :=
 (zs (zr [1] [zo 1 0,zc 2 .nils])
 (zs (zr [1,3] [zy 3 (.nilo 1)])
 (zs (zs (zr [1,3,4] [zc 4 (zI 0)])
 (.block 0 (.loop (zs (zs (zr [1,3,4,9] [zm 5 4,zf 6 1 1,zl 7 1 6,zn 8 7,zb 9 .lss 5 8])
 (zC 9 .skip
 (.exit 0)))
 (zs (.block 1 (zr [1,3,4] [zm 12 3,zL 13 2 1,zm 14 4,zk 15 296 [.t 13,.t 14],zy 16 (.bls 1 1 [zI 0] [] [(0,.t 15)]),zy 17 (.app 1 8 false (.t 12) (.t 16)),zq 3 17]))
 (zr [1,3,4] [zm 10 4,zd 11 .add 10 (zI 1),zm 4 11]))))))
 (zs (zr [2] [zq 18 3,zq 2 18])
 .ret)))) }
def N282 : aE:={ np:=1,nt:=16,res:=[(2,none)],body :=
 (zs (zr [1] [zo 1 0,zc 2 (.bool false)])
 (zs (zr [2] [zy 3 (.iadA 3 1 (.t 1) (.c (zI 0))),zl 4 1 3,zd 5 .lss 4 (zI 0),zm 6 5,zg 6 false (zy 7 (.iadA 3 1 (.t 1) (.c (zI 1)))),zg 6 false (zl 8 1 7),zg 6 false (zd 9 .lss 8 (zI 0)),zp 10 6 9,zm 11 10,zg 11 false (zy 12 (.iadA 3 1 (.t 1) (.c (zI 2)))),zg 11 false (zl 13 1 12),zg 11 false (zd 14 .lss 13 (zI 0)),zp 15 11 14,zm 2 15])
 .ret)) }
def N283 : aE:={ np:=2,nt:=10,res:=[(4,none)],body :=
 (zs (zr [0,1] [zc 4 (zI 0)])
 (zs (zs (zr [0,1,7] [zm 5 0,zm 6 1,zb 7 .gtr 5 6])
 (zC 7 (zs (zr [4] [zm 8 0,zm 4 8])
 .ret)
 .skip))
 (zs (zr [4] [zm 9 1,zm 4 9])
 .ret))) }
def N285 : aE:={ np:=2,nt:=27,res:=[(4,none)],body :=
 (zs (zr [2,3] [zo 2 0,zo 3 1,zc 4 .nils])
 (zs (.reg true [0,1,0,4,15,31,63,0,128,0,512,1920,3968,8191,0,16384,0,65536,245760,507904,1048575,2097151,4194303] [4] [zf 5 0 2,zl 6 1 5,zf 7 0 3,zl 8 1 7,zi 9 3 6 8,zL 10 3 9,zk 11 291 [.t 10],zf 12 0 2,zl 13 1 12,zf 14 1 3,zl 15 1 14,zi 16 3 13 15,zL 17 3 16,zk 18 291 [.t 17],zf 19 0 2,zl 20 1 19,zf 21 2 3,zl 22 1 21,zi 23 3 20 22,zL 24 3 23,zk 25 291 [.t 24],zy 26 (.bls 2 3 [zI 0,zI 0] [] [(0,.t 11),(1,.t 18),(2,.t 25)]),zq 4 26])
 .ret)) }
def N286 : aE:={ np:=3,nt:=30,res:=[(6,none)],body :=
 (zs (zr [3,4,5] [zo 3 0,zo 4 1,zo 5 2,zc 6 (zI 0)])
 (zs (zr [6] [zf 7 0 4,zl 8 1 7,zf 9 0 3,zl 10 1 9,zb 11 .sub 8 10,zf 12 1 5,zl 13 1 12,zf 14 1 3,zl 15 1 14,zb 16 .sub 13 15,zb 17 .mul 11 16,zf 18 1 4,zl 19 1 18,zf 20 1 3,zl 21 1 20,zb 22 .sub 19 21,zf 23 0 5,zl 24 1 23,zf 25 0 3,zl 26 1 25,zb 27 .sub 24 26,zb 28 .mul 22 27,zb 29 .sub 17 28,zm 6 29])
 .ret)) }
def N287 : aE:={ np:=3,nt:=25,res:=[(6,none),(7,none)],body :=
 (zs (zr [1,2,3] [zo 3 0,zc 6 (zI 0),zc 7 (zI 0)])
 (zs (zr [2,3,8] [zf 9 1 3,zl 10 1 9,zm 11 1,zi 12 4 10 11,zL 13 4 12,zy 8 (.alc zA5),zw (.st 4 [] (.t 8) (.t 13))])
 (zs (.reg true [0,0,0,4,14,0,0,126,255,511,511,2047,4095] [6,7] [zL 14 2 3,zL 15 4 8,zm 16 2,zd 17 .add 16 (zI 1),zk 18 323 [.t 15,.t 17],zL 19 4 8,zm 20 2,zk 21 323 [.t 19,.t 20],zk 22 322 [.t 14,.t 18,.t 21],zx 23 0 22,zx 24 1 22,zm 6 23,zm 7 24])
 .ret))) }
def N289 : aE:={ np:=1,nt:=31,res:=[(2,none)],body :=
 (zs (zr [1] [zo 1 0,zc 2 (.bool false)])
 (zs (zr [2] [zf 3 0 1,zl 4 1 3,zy 5 (.bin .geq (.t 4) (.c (zI (-16777216)))),zm 6 5,zg 6 true (zf 7 0 1),zg 6 true (zl 8 1 7),zg 6 true (zd 9 .leq 8 (zI 16777216)),zP 10 6 9,zm 11 10,zg 11 true (zf 12 1 1),zg 11 true (zl 13 1 12),zg 11 true (zy 14 (.bin .geq (.t 13) (.c (zI (-16777216))))),zP 15 11 14,zm 16 15,zg 16 true (zf 17 1 1),zg 16 true (zl 18 1 17),zg 16 true (zd 19 .leq 18 (zI 16777216)),zP 20 16 19,zm 21 20,zg 21 true (zf 22 2 1),zg 21 true (zl 23 1 22),zg 21 true (zy 24 (.bin .geq (.t 23) (.c (zI (-4194304))))),zP 25 21 24,zm 26 25,zg 26 true (zf 27 2 1),zg 26 true (zl 28 1 27),zg 26 true (zd 29 .leq 28 (zI 4194304)),zP 30 26 29,zm 2 30])
 .ret)) }
def N290 : aE:={ np:=1,nt:=21,res:=[(2,none)],body :=
 (zs (zr [0] [zc 2 (.str [])])
 (zs (zr [0,3] [zc 3 (.str [])])
 (zs (.block 0 (.loop (zs (zs (zr [0,3,9] [zm 4 0,zd 5 .gtr 4 (zI 0),zm 6 5,zg 6 false (zm 7 3),zg 6 false (zd 8 .eql 7 (.str [])),zp 9 6 8])
 (zC 9 .skip
 (.exit 0)))
 (.block 1 (zs (zr [0,3] [zm 10 0,zd 11 .rem 10 (zI 10),zy 12 (.bin .add (.c (zI 48)) (.t 11)),zy 13 (.conv .u8 (.t 12)),zy 14 (.blsF 1 1 [.int .u8 0] [(0,.t 13)]),zy 15 (.cvS (.t 14)),zm 16 3,zb 17 .add 15 16,zm 3 17])
 (zr [0,3] [zm 18 0,zd 19 .quo 18 (zI 10),zm 0 19]))))))
 (zs (zr [2] [zm 20 3,zm 2 20])
 .ret)))) }
def N291 : aE:={ np:=1,nt:=8,res:=[(2,some (2,true))],body :=
 (zs (zr [1,2] [zo 1 0,zy 2 (.alc zA1)])
 (zs (zr [2] [zf 3 0 1,zl 4 1 3,zf 5 1 1,zl 6 1 5,zy 7 (.bld [zI 0,zI 0] [(0,1,.t 4),(1,1,.t 6)]),zw (.st 2 [] (.t 2) (.t 7))])
 .ret)) }
def N292 : aE:={ np:=2,nt:=66,res:=[(4,none)],body :=
 (zs (zr [2,3] [zo 2 0,zo 3 1,zc 4 (.bool false)])
 (zs (zr [2,3,5] [zf 7 0 3,zl 8 1 7,zf 9 1 3,zl 10 1 9,zf 11 2 3,zl 12 1 11,zy 13 (.bls 1 3 [zI 0] [] [(0,.t 8),(1,.t 10),(2,.t 12)]),zq 5 13])
 (zs (zs (zr [2,3,5,6] [zc 6 (zI 0)])
 (.block 0 (.loop (zs (zs (zr [2,3,5,6,15] [zm 14 6,zd 15 .lss 14 (zI 3)])
 (zC 15 .skip
 (.exit 0)))
 (zs (.block 1 (zs (.reg true [0,0,3,7,15,31,63,63,255,511,63,1087,3135,8191,16383,32767,65535,65535,262143,524287,65535,65535,2162687,6356991,15794175,32571391,67108863,134217727,268435455,536870911,1073741823,536870911,536870911,6979321855,15569256447,34359738367,68719476735,137438953471,274877906943,549755813887] [2,3,5,6,57] [zm 18 5,zm 19 6,zi 20 1 18 19,zl 21 1 20,zd 22 .lss 21 (zI 0),zm 23 22,zg 23 false (zm 24 5),zg 23 false (zm 25 6),zg 23 false (zi 26 1 24 25),zg 23 false (zl 27 1 26),zg 23 false (zf 28 0 2),zg 23 false (zl 29 1 28),zg 23 false (zn 30 29),zg 23 false (zb 31 .geq 27 30),zp 32 23 31,zm 33 32,zg 33 false (zm 34 5),zg 33 false (zm 35 6),zg 33 false (zi 36 1 34 35),zg 33 false (zl 37 1 36),zg 33 false (zm 38 5),zg 33 false (zm 39 6),zg 33 false (zd 40 .add 39 (zI 1)),zg 33 false (zd 41 .rem 40 (zI 3)),zg 33 false (zi 42 1 38 41),zg 33 false (zl 43 1 42),zg 33 false (zb 44 .eql 37 43),zp 45 33 44,zm 46 45,zg 46 false (zf 47 0 2),zg 46 false (zl 48 1 47),zg 46 false (zm 49 5),zg 46 false (zm 50 6),zg 46 false (zi 51 1 49 50),zg 46 false (zl 52 1 51),zg 46 false (zi 53 3 48 52),zg 46 false (zL 54 3 53),zg 46 false (zk 55 289 [.t 54]),zg 46 false (zt 56 55),zp 57 46 56])
 (zC 57 (zs (zr [4] [zc 4 (.bool false)])
 .ret)
 .skip)))
 (zr [2,3,5,6] [zm 16 6,zd 17 .add 16 (zI 1),zm 6 17]))))))
 (zs (zr [4] [zf 58 3 3,zl 59 1 58,zd 60 .geq 59 (zI 0),zm 61 60,zg 61 true (zf 62 3 3),zg 61 true (zl 63 1 62),zg 61 true (zd 64 .lss 63 (zI 16)),zP 65 61 64,zm 4 65])
 .ret)))) }
def N293 : aE:={ np:=2,nt:=19,res:=[(4,none)],body :=
 (zs (zr [2,3] [zo 2 0,zo 3 1,zc 4 (zI 0)])
 (zs (zr [5] [zL 6 2 2,zL 7 4 3,zk 8 285 [.t 6,.t 7],zq 5 8])
 (zs (.reg true [0,1,3,0,8,24,0,64,192,511,1023] [4] [zm 9 5,zy 10 (.iadS 2 (.t 9) (.c (zI 0))),zL 11 2 10,zm 12 5,zy 13 (.iadS 2 (.t 12) (.c (zI 1))),zL 14 2 13,zq 15 5,zy 16 (.iadS 2 (.t 15) (.c (zI 2))),zL 17 2 16,zk 18 286 [.t 11,.t 14,.t 17],zm 4 18])
 .ret))) }
def N294 : aE:={ np:=2,nt:=33,res:=[(4,none)],body :=
 (zs (zr [2,3] [zo 2 0,zo 3 1,zc 4 (.bool false)])
 (zs (zs (zr [2,3,5] [zc 5 (zI 0)])
 (.block 0 (.loop (zs (zs (zr [2,3,5,8] [zm 7 5,zd 8 .lss 7 (zI 3)])
 (zC 8 .skip
 (.exit 0)))
 (zs (.block 1 (zs (zr [2,3,5,6] [zc 6 (zI 0)])
 (.block 2 (.loop (zs (zs (zr [2,3,5,6,12] [zm 11 6,zd 12 .lss 11 (zI 3)])
 (zC 12 .skip
 (.exit 2)))
 (zs (.block 3 (zs (.reg true [0,0,3,0,0,31,63,127,255,255,767,2047,255,255,8447,32767,65535,131071] [2,3,5,6,32] [zL 15 4 2,zm 16 5,zk 17 323 [.t 15,.t 16],zL 18 4 3,zm 19 6,zk 20 323 [.t 18,.t 19],zb 21 .eql 17 20,zm 22 21,zg 22 true (zL 23 4 2),zg 22 true (zm 24 5),zg 22 true (zd 25 .add 24 (zI 1)),zg 22 true (zk 26 323 [.t 23,.t 25]),zg 22 true (zL 27 4 3),zg 22 true (zm 28 6),zg 22 true (zd 29 .add 28 (zI 1)),zg 22 true (zk 30 323 [.t 27,.t 29]),zg 22 true (zb 31 .eql 26 30),zP 32 22 31])
 (zC 32 (zs (zr [4] [zc 4 (.bool true)])
 .ret)
 .skip)))
 (zr [2,3,5,6] [zm 13 6,zd 14 .add 13 (zI 1),zm 6 14])))))))
 (zr [2,3,5] [zm 9 5,zd 10 .add 9 (zI 1),zm 5 10]))))))
 (zs (zr [4] [zc 4 (.bool false)])
 .ret))) }
def N295 : aE:={ np:=3,nt:=25,res:=[(6,none)],body :=
 (zs (zr [3,4,5] [zo 3 0,zo 4 1,zo 5 2,zc 6 (.bool false)])
 (zs (.reg true [0,0,3,0,0,31,63,127] [7,8] [zL 9 2 3,zL 10 4 4,zk 11 285 [.t 9,.t 10],zL 12 2 3,zL 13 4 5,zk 14 285 [.t 12,.t 13],zq 7 11,zq 8 14])
 (zs (zr [6] [zm 15 7,zm 16 8,zk 17 324 [.t 15,.t 16],zt 18 17,zm 19 18,zg 19 true (zq 20 8),zg 19 true (zq 21 7),zg 19 true (zk 22 324 [.t 20,.t 21]),zg 19 true (zt 23 22),zP 24 19 23,zm 6 24])
 .ret))) }
def N296 : aE:={ np:=2,nt:=34,res:=[(4,none)],body :=
 (zs (zr [1,2] [zo 2 0,zc 4 (zI 0)])
 (zs (zr [2,5] [zf 6 1 2,zl 7 1 6,zm 8 1,zi 9 4 7 8,zL 10 4 9,zy 5 (.alc zA5),zw (.st 4 [] (.t 5) (.t 10))])
 (zs (.reg true [0,1,0,4,15,31,63,0,128,0,512,1920,3968,8064,16383,0,32768,0,131072,491520,1015808,2064384,4194303,8388607] [4] [zf 11 0 2,zl 12 1 11,zf 13 0 5,zl 14 1 13,zi 15 3 12 14,zf 16 2 15,zl 17 1 16,zf 18 0 2,zl 19 1 18,zf 20 1 5,zl 21 1 20,zi 22 3 19 21,zf 23 2 22,zl 24 1 23,zb 25 .add 17 24,zf 26 0 2,zl 27 1 26,zf 28 2 5,zl 29 1 28,zi 30 3 27 29,zf 31 2 30,zl 32 1 31,zb 33 .add 25 32,zm 4 33])
 .ret))) }
def N298 : aE:={ np:=2,nt:=17,res:=[(4,some (2,true))],body :=
 (zs (zr [1,2,4] [zo 2 0,zy 4 (.alc zA1)])
 (zs (zr [1,4,5] [zL 6 4 2,zk 7 305 [.t 6],zy 5 (.alc zA3),zw (.st 3 [] (.t 5) (.t 7))])
 (zs (.reg true [0,1,3,0,8,24,56,120,255,511] [4] [zm 8 1,zy 9 (.iadA 3 1 (.t 5) (.t 8)),zl 10 1 9,zm 11 1,zd 12 .add 11 (zI 1),zd 13 .rem 12 (zI 3),zy 14 (.iadA 3 1 (.t 5) (.t 13)),zl 15 1 14,zy 16 (.bld [zI 0,zI 0] [(0,1,.t 10),(1,1,.t 15)]),zw (.st 2 [] (.t 4) (.t 16))])
 .ret))) }
def N301 : aE:={ np:=3,nt:=20,res:=[(6,none),(7,none)],body :=
 (zs (zr [1,2,3] [zo 3 0,zc 6 (zI 0),zc 7 (zI 0)])
 (zs (zs (zr [1,2,3,10] [zL 8 2 3,zk 9 106 [.t 8],zt 10 9])
 (zC 10 (zs (zr [6,7] [zc 6 (zI 0),zc 7 (zI 1)])
 .ret)
 .skip))
 (zs (zs (zr [1,2,3,12] [zm 11 1,zd 12 .eql 11 (zI 0)])
 (zC 12 (zs (zr [6,7] [zc 6 (zI 0),zc 7 (zI 16)])
 .ret)
 .skip))
 (zs (zr [6,7] [zL 13 2 3,zk 14 108 [.t 13],zm 15 1,zm 16 2,zk 17 104 [.t 14,.t 15,.t 16],zx 18 0 17,zx 19 1 17,zm 6 18,zm 7 19])
 .ret)))) }
def N302 : aE:={ np:=1,nt:=13,res:=[(2,none)],body :=
 (zs (zr [1] [zo 1 0,zc 2 (.bool false)])
 (zs (zr [2] [zf 3 0 1,zl 4 1 3,zn 5 4,zd 6 .leq 5 (zI 2000),zm 7 6,zg 7 true (zf 8 1 1),zg 7 true (zl 9 1 8),zg 7 true (zn 10 9),zg 7 true (zd 11 .leq 10 (zI 4000)),zP 12 7 11,zm 2 12])
 .ret)) }
def N303 : aE:={ np:=1,nt:=19,res:=[(2,none)],body :=
 (zs (zr [1] [zo 1 0,zc 2 (.bool false)])
 (zs (zr [2] [zf 3 0 1,zl 4 1 3,zf 5 1 1,zl 6 1 5,zy 7 (.bld [zI 0,zI 0] [(0,1,.t 4),(1,1,.t 6)]),zk 8 313 [.t 7],zm 9 8,zg 9 true (zf 10 2 1),zg 9 true (zl 11 1 10),zg 9 true (zy 12 (.bin .geq (.t 11) (.c (zI (-4194304))))),zP 13 9 12,zm 14 13,zg 14 true (zf 15 2 1),zg 14 true (zl 16 1 15),zg 14 true (zd 17 .leq 16 (zI 4194304)),zP 18 14 17,zm 2 18])
 .ret)) }
def N304 : aE:={ np:=2,nt:=18,res:=[(4,some (2,true))],body :=
 (zs (zr [1,2,4] [zo 2 0,zy 4 (.alc zA1)])
 (zs (.reg true [0,1,0,7,15,31,0,64,0,448,960,1984,4095,8191] [4] [zf 5 0 2,zl 6 1 5,zm 7 1,zi 8 3 6 7,zf 9 0 8,zl 10 1 9,zf 11 0 2,zl 12 1 11,zm 13 1,zi 14 3 12 13,zf 15 1 14,zl 16 1 15,zy 17 (.bld [zI 0,zI 0] [(0,1,.t 10),(1,1,.t 16)]),zw (.st 2 [] (.t 4) (.t 17))])
 .ret)) }
def N305 : aE:={ np:=1,nt:=10,res:=[(2,some (3,true))],body :=
 (zs (zr [1,2] [zo 1 0,zy 2 (.alc zA3)])
 (zs (zr [2] [zf 3 0 1,zl 4 1 3,zf 5 1 1,zl 6 1 5,zf 7 2 1,zl 8 1 7,zy 9 (.bld [zI 0,zI 0,zI 0] [(0,1,.t 4),(1,1,.t 6),(2,1,.t 8)]),zw (.st 3 [] (.t 2) (.t 9))])
 .ret)) }
def N306 : aE:={ np:=3,nt:=20,res:=[(4,none)],body :=
 (zs (zr [0,1,2] [zc 4 (.bool false)])
 (zs (zr [4] [zm 5 0,zd 6 .lss 5 (zI 0),zm 7 6,zg 7 false (zm 8 0),zg 7 false (zf 9 0 1),zg 7 false (zl 10 1 9),zg 7 false (zn 11 10),zg 7 false (zb 12 .geq 8 11),zp 13 7 12,zm 14 13,zg 14 false (zl 15 1 2),zg 14 false (zm 16 0),zg 14 false (zi 17 1 15 16),zg 14 false (zl 18 1 17),zp 19 14 18,zm 4 19])
 .ret)) }
def N307 : aE:={ np:=2,nt:=18,res:=[(4,some (6,true))],body :=
 (zs (zr [2,3,4] [zo 2 0,zo 3 1,zy 4 (.alc zA6)])
 (zs (.reg true [0,0,2,7,0,0,32,127,0,0,512,2047,4095,8191] [4] [zL 5 2 2,zf 6 0 3,zl 7 1 6,zk 8 304 [.t 5,.t 7],zL 9 2 2,zf 10 1 3,zl 11 1 10,zk 12 304 [.t 9,.t 11],zL 13 2 2,zf 14 2 3,zl 15 1 14,zk 16 304 [.t 13,.t 15],zy 17 (.bld [zI 0,zI 0,zI 0,zI 0,zI 0,zI 0] [(0,2,.t 8),(2,2,.t 12),(4,2,.t 16)]),zw (.st 6 [] (.t 4) (.t 17))])
 .ret)) }
def N308 : aE:={ np:=3,nt:=30,res:=[(6,none)],body :=
 (zs (zr [3,4,5] [zo 3 0,zo 4 1,zo 5 2,zc 6 (zI 0)])
 (zs (zr [6] [zf 7 0 4,zl 8 1 7,zf 9 0 3,zl 10 1 9,zb 11 .sub 8 10,zf 12 1 5,zl 13 1 12,zf 14 1 3,zl 15 1 14,zb 16 .sub 13 15,zb 17 .mul 11 16,zf 18 1 4,zl 19 1 18,zf 20 1 3,zl 21 1 20,zb 22 .sub 19 21,zf 23 0 5,zl 24 1 23,zf 25 0 3,zl 26 1 25,zb 27 .sub 24 26,zb 28 .mul 22 27,zb 29 .sub 17 28,zm 6 29])
 .ret)) }
def N309 : aE:={ np:=2,nt:=9,res:=[(4,none)],body :=
 (zs (zr [0,1] [zc 4 (.bool false)])
 (zs (zr [4] [zq 5 0,zm 6 1,zk 7 328 [.t 5,.t 6],zd 8 .geq 7 (zI 0),zm 4 8])
 .ret)) }
def N310 : aE:={ np:=2,nt:=14,res:=[(3,none)],body :=
 (zs (zr [1,2] [zo 2 0,zc 3 (.bool false)])
 (zs (zr [3] [zL 4 6 1,zL 5 6 2,zk 6 311 [.t 4,.t 5],zt 7 6,zm 8 7,zg 8 true (zL 9 6 2),zg 8 true (zL 10 6 1),zg 8 true (zk 11 311 [.t 9,.t 10]),zg 8 true (zt 12 11),zP 13 8 12,zm 3 13])
 .ret)) }
def N311 : aE:={ np:=2,nt:=42,res:=[(4,none)],body :=
 (zs (zr [2,3] [zo 2 0,zo 3 1,zc 4 (.bool false)])
 (zs (zs (zr [2,3,8] [zc 8 (zI 0)])
 (.block 0 (.loop (zs (zr [2,3,8,9] [zd 9 .lss 8 (zI 3)])
 (zs (zC 9 .skip
 (.exit 0))
 (zs (.block 1 (zs (zr [2,3,5,8] [zm 10 8,zm 5 10])
 (zs (.reg true [0,1,3,0,8,24,56,120,0,0,775,2047] [2,3,6,7,8] [zm 11 5,zy 12 (.iadA 3 2 (.t 2) (.t 11)),zL 13 2 12,zm 14 5,zd 15 .add 14 (zI 1),zd 16 .rem 15 (zI 3),zy 17 (.iadA 3 2 (.t 2) (.t 16)),zL 18 2 17,zy 6 (.alc zA1),zy 7 (.alc zA1),zw (.st 2 [] (.t 6) (.t 13)),zw (.st 2 [] (.t 7) (.t 18))])
 (zs (zr [2,3,8,40] [zL 19 2 6,zL 20 2 7,zy 21 (.iadA 3 2 (.t 3) (.c (zI 0))),zL 22 2 21,zk 23 308 [.t 19,.t 20,.t 22],zd 24 .leq 23 (zI 0),zm 25 24,zg 25 true (zL 26 2 6),zg 25 true (zL 27 2 7),zg 25 true (zy 28 (.iadA 3 2 (.t 3) (.c (zI 1)))),zg 25 true (zL 29 2 28),zg 25 true (zk 30 308 [.t 26,.t 27,.t 29]),zg 25 true (zd 31 .leq 30 (zI 0)),zP 32 25 31,zm 33 32,zg 33 true (zL 34 2 6),zg 33 true (zL 35 2 7),zg 33 true (zy 36 (.iadA 3 2 (.t 3) (.c (zI 2)))),zg 33 true (zL 37 2 36),zg 33 true (zk 38 308 [.t 34,.t 35,.t 37]),zg 33 true (zd 39 .leq 38 (zI 0)),zP 40 33 39])
 (zC 40 (zs (zr [4] [zc 4 (.bool true)])
 .ret)
 .skip)))))
 (zr [2,3,8] [zd 41 .add 8 (zI 1),zm 8 41])))))))
 (zs (zr [4] [zc 4 (.bool false)])
 .ret))) }
def N313 : aE:={ np:=1,nt:=21,res:=[(2,none)],body :=
 (zs (zr [1] [zo 1 0,zc 2 (.bool false)])
 (zs (zr [2] [zf 3 0 1,zl 4 1 3,zy 5 (.bin .geq (.t 4) (.c (zI (-16777216)))),zm 6 5,zg 6 true (zf 7 0 1),zg 6 true (zl 8 1 7),zg 6 true (zd 9 .leq 8 (zI 16777216)),zP 10 6 9,zm 11 10,zg 11 true (zf 12 1 1),zg 11 true (zl 13 1 12),zg 11 true (zy 14 (.bin .geq (.t 13) (.c (zI (-16777216))))),zP 15 11 14,zm 16 15,zg 16 true (zf 17 1 1),zg 16 true (zl 18 1 17),zg 16 true (zd 19 .leq 18 (zI 16777216)),zP 20 16 19,zm 2 20])
 .ret)) }
def N314 : aE:={ np:=1,nt:=119,res:=[(2,none)],body :=
 (zs (zr [1] [zo 1 0,zc 2 .nils])
 (zs (zr [1,3] [zl 13 1 1,zy 14 (.nck (.t 13)),zf 15 1 14,zl 16 1 15,zn 17 16,zy 18 (.callF 329 [.t 17]),zq 3 18])
 (zs (zr [1,3,4] [zy 19 (.mk 330 [.t 1]),zm 4 19])
 (zs (zs (zr [1,3,4,23,24,25] [zl 20 1 1,zy 21 (.nck (.t 20)),zf 22 0 21,zl 23 1 22,zn 24 23,zc 25 (zI 0)])
 (.block 0 (.loop (zs (zr [1,3,4,23,24,25,26] [zb 26 .lss 25 24])
 (zs (zC 26 .skip
 (.exit 0))
 (zs (.block 1 (zs (zr [1,3,4,5,6,23,24,25] [zm 27 25,zi 28 3 23 25,zL 29 3 28,zy 6 (.alc zA3),zm 5 27,zw (.st 3 [] (.t 6) (.t 29))])
 (zs (zr [1,3,4,5,23,24,25,30,31] [zL 30 3 6,zc 31 (zI 0)])
 (.block 2 (.loop (zs (zr [1,3,4,5,23,24,25,30,31,32] [zd 32 .lss 31 (zI 3)])
 (zs (zC 32 .skip
 (.exit 2))
 (zs (.block 3 (zs (zr [1,3,4,5,8,23,24,25,30,31] [zy 33 (.idxA 3 1 false (.t 30) (.t 31)),zm 8 33])
 (zs (.reg true [0,1,3,7,7,31,63,127,255,255,1023,2047,4095,8191,16383,32767,65535,8191,262143,524287,8191,1056767,3153919,7348223,8191,32514047,66068479,134217727,268435455] [1,3,4,5,8,23,24,25,30,31,62] [zm 34 8,zy 35 (.bin .neq (.t 34) (.c (zI (-1)))),zm 36 35,zg 36 true (zm 37 4),zg 36 true (zm 38 5),zg 36 true (zy 39 (.callv (.t 37) [.t 38])),zP 40 36 39,zm 41 40,zg 41 true (zm 42 4),zg 41 true (zm 43 8),zg 41 true (zy 44 (.callv (.t 42) [.t 43])),zP 45 41 44,zm 46 45,zg 46 true (zl 47 1 1),zg 46 true (zy 48 (.nck (.t 47))),zg 46 true (zf 49 2 48),zg 46 true (zl 50 1 49),zg 46 true (zm 51 5),zg 46 true (zi 52 1 50 51),zg 46 true (zl 53 1 52),zg 46 true (zl 54 1 1),zg 46 true (zy 55 (.nck (.t 54))),zg 46 true (zf 56 2 55),zg 46 true (zl 57 1 56),zg 46 true (zm 58 8),zg 46 true (zi 59 1 57 58),zg 46 true (zl 60 1 59),zg 46 true (zb 61 .eql 53 60),zP 62 46 61])
 (zC 62 (zr [1,3,4,5,23,24,25,30,31] [zm 63 3,zm 64 5,zm 65 8,zy 66 (.callR 331 (.t 63) [.t 64,.t 65])])
 .skip))))
 (zr [1,3,4,5,23,24,25,30,31] [zd 67 .add 31 (zI 1),zm 31 67])))))))))
 (zr [1,3,4,23,24,25] [zd 68 .add 25 (zI 1),zm 25 68])))))))
 (zs (zr [1,3,4,9] [zy 9 (.nilo 1)])
 (zs (zr [1,3,4,9,10] [zl 69 1 1,zy 70 (.nck (.t 69)),zf 71 1 70,zl 72 1 71,zn 73 72,zy 74 (.mks 1 8 [zI 0] (.t 73) (.t 73)),zq 10 74])
 (zs (zs (zr [3,4,9,10,79,80] [zl 75 1 1,zy 76 (.nck (.t 75)),zf 77 1 76,zl 78 1 77,zn 79 78,zc 80 (zI 0)])
 (.block 4 (.loop (zs (zr [3,4,9,10,79,80,81] [zb 81 .lss 80 79])
 (zs (zC 81 .skip
 (.exit 4))
 (zs (.block 5 (zs (zr [3,4,9,10,11,79,80] [zm 82 80,zm 11 82])
 (zs (zs (zr [3,4,9,10,11,79,80,86] [zm 83 4,zm 84 11,zy 85 (.callv (.t 83) [.t 84]),zt 86 85])
 (zC 86 (.exit 5)
 .skip))
 (zs (zr [3,4,9,10,11,12,79,80] [zm 87 3,zm 88 11,zy 89 (.callR 332 (.t 87) [.t 88]),zm 12 89])
 (zs (zs (zr [3,4,9,10,11,12,79,80,92] [zm 90 12,zm 91 11,zb 92 .eql 90 91])
 (zC 92 (zs (zr [3,4,9,10,11,12,79,80] [zm 93 10,zm 94 11,zm 95 9,zn 96 95,zi 97 1 93 94,zw (.st 1 [] (.t 97) (.t 96))])
 (zr [3,4,9,10,11,12,79,80] [zm 98 9,zy 99 (.bls 1 1 [.own 1 []] [] [(0,(.c .nils))]),zy 100 (.app 1 24 true (.t 98) (.t 99)),zq 9 100]))
 .skip))
 (.reg true [0,0,0,6,14,0,0,0,192,448,992,2016,0,4096,16352,32767,65535] [3,4,9,10,79,80] [zm 101 9,zm 102 10,zm 103 12,zi 104 1 102 103,zl 105 1 104,zm 106 9,zm 107 10,zm 108 12,zi 109 1 107 108,zl 110 1 109,zi 111 1 106 110,zl 112 1 111,zm 113 11,zy 114 (.bls 1 1 [zI 0] [] [(0,.t 113)]),zy 115 (.app 1 8 false (.t 112) (.t 114)),zi 116 1 101 105,zw (.st 1 [] (.t 116) (.t 115))]))))))
 (zr [3,4,9,10,79,80] [zd 117 .add 80 (zI 1),zm 80 117])))))))
 (zs (zr [2] [zq 118 9,zq 2 118])
 .ret)))))))) }
def N315 : aE:={ np:=2,nt:=48,res:=[(4,none)],body :=
 (zs (zr [0,1] [zc 4 .nils])
 (zs (zs (zr [0,1,10] [zm 9 1,zd 10 .lss 9 (zI 0)])
 (zC 10 (zr [0,1] [zy 11 (.dead),zw (.dead)])
 .skip))
 (zs (zr [0,5,6] [zm 13 0,zn 14 13,zy 15 (.conv .u64 (.t 14)),zm 16 1,zy 17 (.conv .u64 (.t 16)),zk 18 333 [.t 15,.t 17],zm 12 18,zx 19 0 12,zx 20 1 12,zm 5 19,zm 6 20])
 (zs (zs (zr [0,6,26] [zm 21 5,zd 22 .gtr 21 (.int .u64 0),zm 23 22,zg 23 false (zm 24 6),zg 23 false (zd 25 .gtr 24 (.int .u64 9223372036854775807)),zp 26 23 25])
 (zC 26 (zr [0,6] [zy 27 (.dead),zw (.dead)])
 .skip))
 (zs (zr [0,7] [zm 28 6,zy 29 (.conv .i64 (.t 28)),zy 30 (.mks 1 8 [zI 0] (.t 29) (.t 29)),zq 7 30])
 (zs (zr [7,8] [zm 31 7,zq 32 0,zy 33 (.cpy 1 (.t 31) (.t 32)),zm 8 33])
 (zs (.block 0 (.loop (zs (zs (zr [7,8,37] [zm 34 8,zm 35 7,zn 36 35,zb 37 .lss 34 36])
 (zC 37 .skip
 (.exit 0)))
 (.block 1 (.reg true [0,0,0,6,0,0,48,126,255,511] [7,8] [zm 38 8,zm 39 7,zm 40 8,zy 41 (.slc 1 (.t 39) (some (.t 40)) none),zm 42 7,zm 43 8,zy 44 (.slc 1 (.t 42) none (some (.t 43))),zy 45 (.cpy 1 (.t 41) (.t 44)),zb 46 .add 38 45,zm 8 46])))))
 (zs (zr [4] [zq 47 7,zq 4 47])
 .ret)))))))) }
def N316 : aE:={ np:=2,nt:=12,res:=[],body :=
 (zs (zr [0] [zm 4 0,zm 5 1,zy 6 (.callI 342 "Push" 20 (.t 4) [.t 5])])
 (zr [0] [zm 7 0,zm 8 0,zy 9 (.callI 317 "Len" 20 (.t 8) []),zd 10 .sub 9 (zI 1),zy 11 (.callM 334 (.t 7) [.t 10])])) }
def N317 : aE:={ np:=1,nt:=8,res:=[(2,none)],body :=
 (zs (zr [0] [zc 2 (zI 0)])
 (zs (zr [0,2] [zm 3 0,zy 4 (.nck (.t 3)),zf 5 0 4,zl 6 1 5,zn 7 6,zm 2 7])
 .ret)) }
def N318 : aE:={ np:=1,nt:=15,res:=[(2,none)],body :=
 (zs (zr [0] [zy 2 (.mov (.c .any))])
 (zs (zr [0,3] [zm 4 0,zy 5 (.callI 317 "Len" 20 (.t 4) []),zd 6 .sub 5 (zI 1),zm 3 6])
 (zs (zr [0,3] [zm 7 0,zm 8 3,zy 9 (.callI 343 "Swap" 20 (.t 7) [(.c (zI 0)),.t 8])])
 (zs (zr [0] [zm 10 0,zm 11 3,zy 12 (.callM 335 (.t 10) [(.c (zI 0)),.t 11])])
 (zs (zr [0,2] [zm 13 0,zy 14 (.callI 341 "Pop" 20 (.t 13) []),zm 2 14])
 .ret))))) }
def N322 : aE:={ np:=3,nt:=44,res:=[(6,none),(7,none)],body :=
 (zs (zr [1,2,3] [zo 3 0,zc 6 (zI 0),zc 7 (zI 0)])
 (zs (zs (zr [1,2,3,8] [zc 8 (zI 0)])
 (.block 0 (.loop (zs (zs (zr [1,2,3,8,14] [zm 10 8,zf 11 1 3,zl 12 1 11,zn 13 12,zb 14 .lss 10 13])
 (zC 14 .skip
 (.exit 0)))
 (zs (.block 1 (zs (zr [1,2,3,8,9] [zc 9 (zI 0)])
 (.block 2 (.loop (zs (zs (zr [1,2,3,8,9,18] [zm 17 9,zd 18 .lss 17 (zI 3)])
 (zC 18 .skip
 (.exit 2)))
 (zs (.block 3 (zs (zr [1,2,3,8,9,41] [zf 21 1 3,zl 22 1 21,zm 23 8,zi 24 4 22 23,zL 25 4 24,zm 26 9,zk 27 323 [.t 25,.t 26],zm 28 1,zb 29 .eql 27 28,zm 30 29,zg 30 true (zf 31 1 3),zg 30 true (zl 32 1 31),zg 30 true (zm 33 8),zg 30 true (zi 34 4 32 33),zg 30 true (zL 35 4 34),zg 30 true (zm 36 9),zg 30 true (zd 37 .add 36 (zI 1)),zg 30 true (zk 38 323 [.t 35,.t 37]),zg 30 true (zm 39 2),zg 30 true (zb 40 .eql 38 39),zP 41 30 40])
 (zC 41 (zs (zr [6,7] [zm 42 8,zm 43 9,zm 6 42,zm 7 43])
 .ret)
 .skip)))
 (zr [1,2,3,8,9] [zm 19 9,zd 20 .add 19 (zI 1),zm 9 20])))))))
 (zr [1,2,3,8] [zm 15 8,zd 16 .add 15 (zI 1),zm 8 16]))))))
 (zs (zr [6,7] [zy 6 (.mov (.c (zI (-1)))),zc 7 (zI 0)])
 .ret))) }
def N323 : aE:={ np:=2,nt:=16,res:=[(4,none)],body :=
 (zs (zr [1,2] [zo 2 0,zc 4 (zI 0)])
 (zs (zr [4] [zf 5 0 2,zl 6 1 5,zf 7 1 2,zl 8 1 7,zf 9 2 2,zl 10 1 9,zy 11 (.bls 1 3 [zI 0] [] [(0,.t 6),(1,.t 8),(2,.t 10)]),zm 12 1,zd 13 .rem 12 (zI 3),zi 14 1 11 13,zl 15 1 14,zm 4 15])
 .ret)) }
def N324 : aE:={ np:=2,nt:=47,res:=[(4,none)],body :=
 (zs (zr [0,1] [zc 4 (.bool false)])
 (zs (zs (zr [0,1,5] [zc 5 (zI 0)])
 (.block 0 (.loop (zs (zs (zr [0,1,5,9] [zm 8 5,zd 9 .lss 8 (zI 3)])
 (zC 9 .skip
 (.exit 0)))
 (zs (.block 1 (zs (.reg true [0,0,3,7,0,0,32,96,240,496,0,0,3087,8191] [0,1,5,6,7] [zm 12 0,zm 13 5,zi 14 2 12 13,zL 15 2 14,zm 16 0,zm 17 5,zd 18 .add 17 (zI 1),zd 19 .rem 18 (zI 3),zi 20 2 16 19,zL 21 2 20,zy 6 (.alc zA1),zy 7 (.alc zA1),zw (.st 2 [] (.t 6) (.t 15)),zw (.st 2 [] (.t 7) (.t 21))])
 (zs (.reg true [0,0,0,4,12,31,63,127,255,255,255,1279,3327,8191,16383,32767,65535,131071,131071,131071,655359,1703935,4194303,8388607,16777215] [0,1,5,46] [zL 22 2 6,zL 23 2 7,zm 24 1,zy 25 (.iadS 2 (.t 24) (.c (zI 0))),zL 26 2 25,zk 27 286 [.t 22,.t 23,.t 26],zd 28 .leq 27 (zI 0),zm 29 28,zg 29 true (zL 30 2 6),zg 29 true (zL 31 2 7),zg 29 true (zm 32 1),zg 29 true (zy 33 (.iadS 2 (.t 32) (.c (zI 1)))),zg 29 true (zL 34 2 33),zg 29 true (zk 35 286 [.t 30,.t 31,.t 34]),zg 29 true (zd 36 .leq 35 (zI 0)),zP 37 29 36,zm 38 37,zg 38 true (zL 39 2 6),zg 38 true (zL 40 2 7),zg 38 true (zm 41 1),zg 38 true (zy 42 (.iadS 2 (.t 41) (.c (zI 2)))),zg 38 true (zL 43 2 42),zg 38 true (zk 44 286 [.t 39,.t 40,.t 43]),zg 38 true (zd 45 .leq 44 (zI 0)),zP 46 38 45])
 (zC 46 (zs (zr [4] [zc 4 (.bool true)])
 .ret)
 .skip))))
 (zr [0,1,5] [zm 10 5,zd 11 .add 10 (zI 1),zm 5 11]))))))
 (zs (zr [4] [zc 4 (.bool false)])
 .ret))) }
def N327 : aE:={ np:=2,nt:=23,res:=[(4,some (2,true)),(5,none)],body :=
 (zs (zr [2,3,4] [zo 2 0,zo 3 1,zy 4 (.alc zA1),zc 5 (zI 0)])
 (zs (zs (zr [2,3,4,13] [zL 6 2 2,zk 7 106 [.t 6],zt 8 7,zm 9 8,zg 9 false (zL 10 2 3),zg 9 false (zk 11 106 [.t 10]),zg 9 false (zt 12 11),zp 13 9 12])
 (zC 13 (zs (zr [4,5] [zy 14 (.bld [zI 0,zI 0] []),zw (.st 2 [] (.t 4) (.t 14)),zc 5 (zI 1)])
 .ret)
 .skip))
 (zs (.reg true [0,1,0,7,15,31,63,63,255,511] [4,5] [zL 15 2 2,zk 16 108 [.t 15],zL 17 2 3,zk 18 108 [.t 17],zk 19 107 [.t 16,.t 18],zk 20 105 [.t 19],zx 21 0 20,zx 22 1 20,zw (.st 2 [] (.t 4) (.t 21)),zm 5 22])
 .ret))) }
def N328 : aE:={ np:=2,nt:=19,res:=[(4,none)],body :=
 (zs (zr [0,1] [zc 4 (zI 0)])
 (zs (zs (zr [0,1,7,8] [zm 6 0,zn 7 6,zc 8 (zI 0)])
 (.block 0 (.loop (zs (zr [0,1,7,8,9] [zb 9 .lss 8 7])
 (zs (zC 9 .skip
 (.exit 0))
 (zs (.block 1 (zs (zr [0,1,5,7,8] [zm 10 8,zm 5 10])
 (zs (zr [0,1,5,7,8,16] [zm 11 1,zm 12 0,zm 13 5,zi 14 6 12 13,zL 15 6 14,zy 16 (.callv (.t 11) [.t 15])])
 (zC 16 (zs (zr [4] [zm 17 5,zm 4 17])
 .ret)
 .skip))))
 (zr [0,1,7,8] [zd 18 .add 8 (zI 1),zm 8 18])))))))
 (zs (zr [4] [zy 4 (.mov (.c (zI (-1))))])
 .ret))) }
def N329 : aE:={ np:=1,nt:=18,res:=[(2,none)],body :=
 (zs (zr [0] [zc 2 .nils])
 (zs (zr [3] [zm 5 0,zy 6 (.mks 1 8 [zI 0] (.t 5) (.t 5)),zq 3 6])
 (zs (zs (zr [3,8,9] [zm 7 3,zn 8 7,zc 9 (zI 0)])
 (.block 0 (.loop (zs (zr [3,8,9,10] [zb 10 .lss 9 8])
 (zs (zC 10 .skip
 (.exit 0))
 (zs (.block 1 (zs (zr [3,4,8,9] [zm 11 9,zm 4 11])
 (zr [3,8,9] [zm 12 3,zm 13 4,zm 14 4,zi 15 1 12 13,zw (.st 1 [] (.t 15) (.t 14))])))
 (zr [3,8,9] [zd 16 .add 9 (zI 1),zm 9 16])))))))
 (zs (zr [2] [zq 17 3,zq 2 17])
 .ret)))) }
def N330 : aE:={ np:=2,nt:=19,res:=[(3,none)],body :=
 (zs (zr [0,1] [zc 3 (.bool false)])
 (zs (.reg true [0,1,3,7,0,31,63,0,128,384,896,0,3968,8064,16383,32767] [3] [zl 4 1 1,zy 5 (.nck (.t 4)),zf 6 2 5,zl 7 1 6,zm 8 0,zi 9 1 7 8,zl 10 1 9,zl 11 1 1,zy 12 (.nck (.t 11)),zf 13 1 12,zl 14 1 13,zm 15 0,zi 16 1 14 15,zl 17 1 16,zb 18 .gtr 10 17,zm 3 18])
 .ret)) }
def N331 : aE:={ np:=3,nt:=20,res:=[],body :=
 (zs (zr [0,1,2] [zm 6 0,zm 7 1,zy 8 (.callR 332 (.t 6) [.t 7]),zm 9 0,zm 10 2,zy 11 (.callR 332 (.t 9) [.t 10]),zm 1 8,zm 2 11])
 (zr [0] [zm 12 0,zm 13 1,zm 14 2,zy 15 (.mx (.t 13) (.t 14)),zm 16 1,zm 17 2,zy 18 (.mn (.t 16) (.t 17)),zi 19 1 12 15,zw (.st 1 [] (.t 19) (.t 18))])) }
def N332 : aE:={ np:=2,nt:=26,res:=[(4,none)],body :=
 (zs (zr [0,1] [zc 4 (zI 0)])
 (zs (.block 0 (.loop (zs (zs (zr [0,1,10] [zm 5 0,zm 6 1,zi 7 1 5 6,zl 8 1 7,zm 9 1,zb 10 .neq 8 9])
 (zC 10 .skip
 (.exit 0)))
 (.block 1 (zs (zr [0,1] [zm 11 0,zm 12 1,zm 13 0,zm 14 0,zm 15 1,zi 16 1 14 15,zl 17 1 16,zi 18 1 13 17,zl 19 1 18,zi 20 1 11 12,zw (.st 1 [] (.t 20) (.t 19))])
 (zr [0,1] [zm 21 0,zm 22 1,zi 23 1 21 22,zl 24 1 23,zm 1 24]))))))
 (zs (zr [0,4] [zm 25 1,zm 4 25])
 .ret))) }
def N333 : aE:={ np:=2,nt:=30,res:=[(4,none),(5,none)],body :=
 (zs (zr [0,1] [zc 4 (.int .u64 0),zc 5 (.int .u64 0)])
 (zs (.cond (.c (.bool false)) (zs (zr [6,7] [zm 11 0,zy 12 (.conv .u32 (.t 11)),zm 13 1,zy 14 (.conv .u32 (.t 13)),zk 15 339 [.t 12,.t 14],zm 10 15,zx 16 0 10,zx 17 1 10,zm 6 16,zm 7 17])
 (zs (zr [4,5] [zm 18 6,zy 19 (.conv .u64 (.t 18)),zm 20 7,zy 21 (.conv .u64 (.t 20)),zm 4 19,zm 5 21])
 .ret))
 .skip)
 (zs (zr [8,9] [zm 23 0,zm 24 1,zk 25 91 [.t 23,.t 24],zm 22 25,zx 26 0 22,zx 27 1 22,zm 8 26,zm 9 27])
 (zs (zr [4,5] [zm 28 8,zm 29 9,zm 4 28,zm 5 29])
 .ret)))) }
def N334 : aE:={ np:=2,nt:=23,res:=[],body :=
 (.block 0 (.loop (.block 1 (zs (zr [0,1,4] [zm 5 1,zd 6 .sub 5 (zI 1),zd 7 .quo 6 (zI 2),zm 4 7])
 (zs (zs (zr [0,1,4,17] [zm 8 4,zm 9 1,zb 10 .eql 8 9,zm 11 10,zg 11 false (zm 12 0),zg 11 false (zm 13 1),zg 11 false (zm 14 4),zg 11 false (zy 15 (.callI 340 "Less" 20 (.t 12) [.t 13,.t 14])),zg 11 false (zt 16 15),zp 17 11 16])
 (zC 17 (.exit 0)
 .skip))
 (zs (zr [0,4] [zm 18 0,zm 19 4,zm 20 1,zy 21 (.callI 343 "Swap" 20 (.t 18) [.t 19,.t 20])])
 (zr [0,1] [zm 22 4,zm 1 22]))))))) }
def N335 : aE:={ np:=3,nt:=48,res:=[(6,none)],body :=
 (zs (zr [0,1,2] [zc 6 (.bool false)])
 (zs (zr [0,1,2,7] [zm 11 1,zm 7 11])
 (zs (.block 0 (.loop (.block 1 (zs (zr [0,1,2,7,8] [zm 12 7,zy 13 (.bin .mul (.c (zI 2)) (.t 12)),zd 14 .add 13 (zI 1),zm 8 14])
 (zs (zs (zr [0,1,2,7,8,21] [zm 15 8,zm 16 2,zb 17 .geq 15 16,zm 18 17,zg 18 false (zm 19 8),zg 18 false (zd 20 .lss 19 (zI 0)),zp 21 18 20])
 (zC 21 (.exit 0)
 .skip))
 (zs (zr [0,1,2,7,8,9] [zm 22 8,zm 9 22])
 (zs (zs (zr [0,1,2,7,8,9,10] [zm 23 8,zd 24 .add 23 (zI 1),zm 10 24])
 (zs (zr [0,1,2,7,9,10,33] [zm 25 10,zm 26 2,zb 27 .lss 25 26,zm 28 27,zg 28 true (zm 29 0),zg 28 true (zm 30 10),zg 28 true (zm 31 8),zg 28 true (zy 32 (.callI 340 "Less" 20 (.t 29) [.t 30,.t 31])),zP 33 28 32])
 (zC 33 (zr [0,1,2,7,9] [zm 34 10,zm 9 34])
 .skip)))
 (zs (zs (zr [0,1,2,7,9,39] [zm 35 0,zm 36 9,zm 37 7,zy 38 (.callI 340 "Less" 20 (.t 35) [.t 36,.t 37]),zt 39 38])
 (zC 39 (.exit 0)
 .skip))
 (zs (zr [0,1,2,9] [zm 40 0,zm 41 7,zm 42 9,zy 43 (.callI 343 "Swap" 20 (.t 40) [.t 41,.t 42])])
 (zr [0,1,2,7] [zm 44 9,zm 7 44]))))))))))
 (zs (zr [0,6] [zm 45 7,zm 46 1,zb 47 .gtr 45 46,zm 6 47])
 .ret)))) }
def N337 : aE:={ np:=2,nt:=39,res:=[(4,some (3,true))],body :=
 (zs (zr [2,3,4] [zo 2 0,zo 3 1,zy 4 (.alc zA2)])
 (zs (zs (zr [2,3,4,9] [zf 5 2 2,zl 6 1 5,zf 7 2 3,zl 8 1 7,zy 9 (.beq false [] (.t 6) (.t 8))])
 (zC 9 (zs (.reg true [0,1,0,4,15,0,32,127,255] [4] [zf 10 0 2,zL 11 2 10,zf 12 0 3,zL 13 2 12,zk 14 83 [.t 11,.t 13],zf 15 2 2,zl 16 1 15,zk 17 84 [.t 14,.t 16],zw (.st 3 [] (.t 4) (.t 17))])
 .ret)
 .skip))
 (zs (zs (zr [2,3,4,22] [zf 18 0 2,zL 19 2 18,zf 20 0 3,zL 21 2 20,zk 22 87 [.t 19,.t 21]])
 (zC 22 (zs (.reg true [0,1,0,4,15,0,32,127,255] [4] [zf 23 0 3,zL 24 2 23,zf 25 0 2,zL 26 2 25,zk 27 95 [.t 24,.t 26],zf 28 2 3,zl 29 1 28,zk 30 84 [.t 27,.t 29],zw (.st 3 [] (.t 4) (.t 30))])
 .ret)
 .skip))
 (zs (.reg true [0,1,0,4,15,0,32,127,255] [4] [zf 31 0 2,zL 32 2 31,zf 33 0 3,zL 34 2 33,zk 35 95 [.t 32,.t 34],zf 36 2 2,zl 37 1 36,zk 38 84 [.t 35,.t 37],zw (.st 3 [] (.t 4) (.t 38))])
 .ret)))) }
def N338 : aE:={ np:=1,nt:=9,res:=[(2,some (3,true))],body :=
 (zs (zr [1,2] [zo 1 0,zy 2 (.alc zA2)])
 (zs (zr [2] [zf 3 0 1,zL 4 2 3,zf 5 2 1,zl 6 1 5,zt 7 6,zk 8 84 [.t 4,.t 7],zw (.st 3 [] (.t 2) (.t 8))])
 .ret)) }
def N339 : aE:={ np:=2,nt:=17,res:=[(4,none),(5,none)],body :=
 (zs (zr [0,1] [zc 4 (.int .u32 0),zc 5 (.int .u32 0)])
 (zs (zr [6] [zm 7 0,zy 8 (.conv .u64 (.t 7)),zm 9 1,zy 10 (.conv .u64 (.t 9)),zb 11 .mul 8 10,zm 6 11])
 (zs (zr [4,5] [zm 12 6,zd 13 .shr 12 (.int .u64 32),zy 14 (.conv .u32 (.t 13)),zm 15 6,zy 16 (.conv .u32 (.t 15)),zm 4 14,zm 5 16])
 .ret))) }
def N340 : aE:={ np:=3,nt:=60,res:=[(6,none)],body :=
 (zs (zr [0,1,2] [zc 6 (.bool false)])
 (zs (.reg true [0,1,3,7,0,31,63,0,128,384,896,0,3968,8064,127,32767] [0,7,8] [zm 9 0,zy 10 (.nck (.t 9)),zf 11 0 10,zl 12 1 11,zm 13 1,zi 14 1 12 13,zl 15 1 14,zm 16 0,zy 17 (.nck (.t 16)),zf 18 0 17,zl 19 1 18,zm 20 2,zi 21 1 19 20,zl 22 1 21,zm 7 15,zm 8 22])
 (zs (.reg true [0,1,3,7,0,31,63,0,128,384,896,0,3968,8064,16383,32767,65535,131071,262143,524287,65535,2097151,4194303,65535,8454143,25231359,58785791,65535,260112383,528547839,1073741823,2147483647,4294967295,4294967295,17179869183,34359738367,68719476735,137438953471] [0,6] [zm 23 0,zy 24 (.nck (.t 23)),zf 25 1 24,zl 26 1 25,zm 27 7,zi 28 1 26 27,zl 29 1 28,zm 30 0,zy 31 (.nck (.t 30)),zf 32 1 31,zl 33 1 32,zm 34 8,zi 35 1 33 34,zl 36 1 35,zb 37 .lss 29 36,zm 38 37,zg 38 false (zm 39 0),zg 38 false (zy 40 (.nck (.t 39))),zg 38 false (zf 41 1 40),zg 38 false (zl 42 1 41),zg 38 false (zm 43 7),zg 38 false (zi 44 1 42 43),zg 38 false (zl 45 1 44),zg 38 false (zm 46 0),zg 38 false (zy 47 (.nck (.t 46))),zg 38 false (zf 48 1 47),zg 38 false (zl 49 1 48),zg 38 false (zm 50 8),zg 38 false (zi 51 1 49 50),zg 38 false (zl 52 1 51),zg 38 false (zb 53 .eql 45 52),zg 38 false (zm 54 53),zg 54 true (zm 55 7),zg 54 true (zm 56 8),zg 54 true (zb 57 .lss 55 56),zg 38 false (zP 58 54 57),zp 59 38 58,zm 6 59])
 .ret))) }
def N341 : aE:={ np:=1,nt:=32,res:=[(2,none)],body :=
 (zs (zr [0] [zy 2 (.mov (.c .any))])
 (zs (.reg true [0,1,3,7,0,16,48,112,240,496,1023,2047,4095] [0,3] [zm 4 0,zy 5 (.nck (.t 4)),zf 6 0 5,zl 7 1 6,zm 8 0,zy 9 (.nck (.t 8)),zf 10 0 9,zl 11 1 10,zn 12 11,zd 13 .sub 12 (zI 1),zi 14 1 7 13,zl 15 1 14,zm 3 15])
 (zs (.reg true [0,0,2,6,14,0,32,96,224,480,992,2046,4095,8191,16383] [0,3] [zm 16 0,zm 17 0,zy 18 (.nck (.t 17)),zf 19 0 18,zl 20 1 19,zm 21 0,zy 22 (.nck (.t 21)),zf 23 0 22,zl 24 1 23,zn 25 24,zd 26 .sub 25 (zI 1),zy 27 (.slc 1 (.t 20) none (some (.t 26))),zy 28 (.nck (.t 16)),zf 29 0 28,zw (.stL (.t 29) (.t 27))])
 (zs (zr [0,2] [zm 30 3,zy 31 (.mkI 2 (.t 30)),zm 2 31])
 .ret)))) }
def N342 : aE:={ np:=2,nt:=15,res:=[],body :=
 (.reg true [0,0,2,6,14,0,32,96,254,511,1023,2047] [0] [zm 4 0,zm 5 0,zy 6 (.nck (.t 5)),zf 7 0 6,zl 8 1 7,zm 9 1,zy 10 (.tya 2 (.t 9)),zy 11 (.bls 1 1 [zI 0] [] [(0,.t 10)]),zy 12 (.app 1 8 false (.t 8) (.t 11)),zy 13 (.nck (.t 4)),zf 14 0 13,zw (.st 1 [] (.t 14) (.t 12))]) }
def N343 : aE:={ np:=3,nt:=32,res:=[],body :=
 (.reg true [0,1,3,7,0,0,32,96,224,0,0,1024,3072,7168,0,31744,64512,0,131072,393216,917504,0,4063232,8257536,16776703,33553919,67108863,134217727] [0] [zm 6 0,zy 7 (.nck (.t 6)),zf 8 0 7,zl 9 1 8,zm 10 1,zm 11 0,zy 12 (.nck (.t 11)),zf 13 0 12,zl 14 1 13,zm 15 2,zm 16 0,zy 17 (.nck (.t 16)),zf 18 0 17,zl 19 1 18,zm 20 2,zi 21 1 19 20,zl 22 1 21,zm 23 0,zy 24 (.nck (.t 23)),zf 25 0 24,zl 26 1 25,zm 27 1,zi 28 1 26 27,zl 29 1 28,zi 30 1 9 10,zw (.st 1 [] (.t 30) (.t 22)),zi 31 1 14 15,zw (.st 1 [] (.t 31) (.t 29))]) }
def N350 : aE:={ np:=2,nt:=12,res:=[(4,none)],body :=
 (zs (zr [1,2] [zo 2 0,zc 4 (zI 0)])
 (zs (.reg true [0,0,2,0,14,30,63,127] [4] [zL 5 2 2,zf 6 1 2,zl 7 1 6,zm 8 1,zi 9 4 7 8,zL 10 4 9,zk 11 293 [.t 5,.t 10],zm 4 11])
 .ret)) }
def N351 : aE:={ np:=2,nt:=10,res:=[(4,some (3,true))],body :=
 (zs (zr [2,3,4] [zo 2 0,zo 3 1,zy 4 (.alc zA2)])
 (zs (.reg true [0,1,0,7,15,31] [4] [zL 5 3 2,zk 6 338 [.t 5],zL 7 3 3,zk 8 66 [.t 6,.t 7],zk 9 338 [.t 8],zw (.st 3 [] (.t 4) (.t 9))])
 .ret)) }
def N842 : aE:={ np:=2,nt:=107,res:=[(4,some (2,true)),(5,none)],body :=
 (zs (zr [1,2,4] [zo 2 0,zy 4 (.alc zA1),zc 5 (zI 0)])
 (zs (zr [1,2,4,6,7] [zL 18 2 2,zk 19 280 [.t 18],zm 17 19,zx 20 0 17,zx 21 1 17,zm 6 20,zm 7 21])
 (zs (zs (zr [1,2,4,6,7,23] [zm 22 7,zd 23 .neq 22 (zI 0)])
 (zC 23 (zs (zr [4,5] [zy 24 (.bld [zI 0,zI 0] []),zm 25 7,zw (.st 2 [] (.t 4) (.t 24)),zm 5 25])
 .ret)
 .skip))
 (zs (zr [1,2,4,6,8] [zm 26 6,zk 27 314 [.t 26],zq 8 27])
 (zs (zs (zr [1,2,4,6,8,35] [zm 28 1,zd 29 .lss 28 (zI 0),zm 30 29,zg 30 false (zm 31 1),zg 30 false (zm 32 8),zg 30 false (zn 33 32),zg 30 false (zb 34 .geq 31 33),zp 35 30 34])
 (zC 35 (zs (zr [4,5] [zy 36 (.bld [zI 0,zI 0] []),zw (.st 2 [] (.t 4) (.t 36)),zc 5 (zI 2)])
 .ret)
 .skip))
 (zs (zr [1,2,4,6,8,9] [zy 9 (.alc zA1)])
 (zs (zs (zr [2,4,6,9,40,41,42] [zq 37 8,zm 38 1,zi 39 1 37 38,zl 40 1 39,zn 41 40,zc 42 (zI 0)])
 (.block 0 (.loop (zs (zr [2,4,6,9,40,41,42,43] [zb 43 .lss 42 41])
 (zs (zC 43 .skip
 (.exit 0))
 (zs (.block 1 (zs (zr [2,4,6,9,11,40,41,42] [zi 44 1 40 42,zl 45 1 44,zm 11 45])
 (zs (.reg true [0,1,3,7,0,31,63,0,128,384,896,0,3968,8064,16383,0,0,98304,262143,524287,1048575,1048575,0,6291455,16777215] [2,4,6,9,12,13,40,41,42] [zm 47 6,zy 48 (.nck (.t 47)),zf 49 2 48,zl 50 1 49,zm 51 11,zi 52 1 50 51,zl 53 1 52,zm 54 6,zy 55 (.nck (.t 54)),zf 56 1 55,zl 57 1 56,zm 58 11,zi 59 1 57 58,zl 60 1 59,zb 61 .sub 53 60,zL 62 2 2,zm 63 11,zk 64 846 [.t 62,.t 63],zk 65 99 [.t 61,.t 64],zm 46 65,zx 66 0 46,zx 67 1 46,zy 12 (.alc zA1),zw (.st 2 [] (.t 12) (.t 66)),zm 13 67])
 (zs (zs (zr [2,4,6,9,12,13,40,41,42,69] [zm 68 13,zd 69 .neq 68 (zI 0)])
 (zC 69 (zs (zr [4,5] [zy 70 (.bld [zI 0,zI 0] []),zm 71 13,zw (.st 2 [] (.t 4) (.t 70)),zm 5 71])
 .ret)
 .skip))
 (zs (zr [2,4,6,9,13,40,41,42] [zL 73 2 9,zL 74 2 12,zk 75 327 [.t 73,.t 74],zm 72 75,zx 76 0 72,zx 77 1 72,zw (.st 2 [] (.t 9) (.t 76)),zm 13 77])
 (zs (zr [2,4,6,9,13,40,41,42,79] [zm 78 13,zd 79 .neq 78 (zI 0)])
 (zC 79 (zs (zr [4,5] [zy 80 (.bld [zI 0,zI 0] []),zm 81 13,zw (.st 2 [] (.t 4) (.t 80)),zm 5 81])
 .ret)
 .skip)))))))
 (zr [2,4,6,9,40,41,42] [zd 82 .add 42 (zI 1),zm 42 82])))))))
 (zs (zr [4,7,9,14] [zL 84 2 9,zk 85 271 [.t 84,(.c (zI 6000))],zm 83 85,zx 86 0 83,zx 87 1 83,zm 14 86,zm 7 87])
 (zs (zr [4,7,14,15,16] [zL 89 2 9,zk 90 272 [.t 89,(.c (zI 6000))],zm 88 90,zx 91 0 88,zx 92 1 88,zm 15 91,zm 16 92])
 (zs (zs (zr [4,14,15,102] [zm 93 7,zd 94 .neq 93 (zI 0),zm 95 94,zg 95 false (zm 96 16),zg 95 false (zd 97 .neq 96 (zI 0)),zp 98 95 97,zm 99 98,zg 99 false (zm 100 15),zg 99 false (zd 101 .gtr 100 (zI 1125899906842624)),zp 102 99 101])
 (zC 102 (zs (zr [4,5] [zy 103 (.bld [zI 0,zI 0] []),zw (.st 2 [] (.t 4) (.t 103)),zc 5 (zI 5)])
 .ret)
 .skip))
 (zs (zr [4,5] [zm 104 14,zm 105 15,zy 106 (.bld [zI 0,zI 0] [(0,1,.t 104),(1,1,.t 105)]),zw (.st 2 [] (.t 4) (.t 106)),zc 5 (zI 0)])
 .ret))))))))))) }
def N844 : aE:={ np:=2,nt:=42,res:=[(4,none),(5,none)],body :=
 (zs (zr [1,2] [zo 2 0,zc 4 (zI 0),zc 5 (zI 0)])
 (zs (zr [1,6,7] [zL 9 2 2,zk 10 280 [.t 9],zm 8 10,zx 11 0 8,zx 12 1 8,zm 6 11,zm 7 12])
 (zs (zs (zr [1,6,7,14] [zm 13 7,zd 14 .neq 13 (zI 0)])
 (zC 14 (zs (zr [4,5] [zm 15 7,zc 4 (zI 0),zm 5 15])
 .ret)
 .skip))
 (zs (zs (zr [1,6,26] [zm 16 1,zd 17 .lss 16 (zI 0),zm 18 17,zg 18 false (zm 19 1),zg 18 false (zm 20 6),zg 18 false (zy 21 (.nck (.t 20))),zg 18 false (zf 22 1 21),zg 18 false (zl 23 1 22),zg 18 false (zn 24 23),zg 18 false (zb 25 .geq 19 24),zp 26 18 25])
 (zC 26 (zs (zr [4,5] [zc 4 (zI 0),zc 5 (zI 2)])
 .ret)
 .skip))
 (zs (.reg true [0,1,3,7,0,31,63,0,128,384,896,0,3968,8064,16383,32767,65535] [4,5] [zm 27 6,zy 28 (.nck (.t 27)),zf 29 2 28,zl 30 1 29,zm 31 1,zi 32 1 30 31,zl 33 1 32,zm 34 6,zy 35 (.nck (.t 34)),zf 36 1 35,zl 37 1 36,zm 38 1,zi 39 1 37 38,zl 40 1 39,zb 41 .sub 33 40,zm 4 41,zc 5 (zI 0)])
 .ret))))) }
def N845 : aE:={ np:=3,nt:=128,res:=[(6,none),(7,none)],body :=
 (zs (zr [1,2,3] [zo 3 0,zc 6 (zI 0),zc 7 (zI 0)])
 (zs (zr [1,2,3,8,9] [zL 20 2 3,zk 21 221 [.t 20],zm 19 21,zx 22 0 19,zx 23 1 19,zq 8 22,zm 9 23])
 (zs (zs (zr [1,2,3,8,9,25] [zm 24 9,zd 25 .neq 24 (zI 0)])
 (zC 25 (zs (zr [6,7] [zm 26 9,zc 6 (zI 0),zm 7 26])
 .ret)
 .skip))
 (zs (zs (zr [1,2,3,8,44] [zm 27 1,zd 28 .lss 27 (zI 0),zm 29 28,zg 29 false (zm 30 1),zg 29 false (zm 31 8),zg 29 false (zn 32 31),zg 29 false (zb 33 .geq 30 32),zp 34 29 33,zm 35 34,zg 35 false (zm 36 2),zg 35 false (zd 37 .lss 36 (zI 0)),zp 38 35 37,zm 39 38,zg 39 false (zm 40 2),zg 39 false (zm 41 8),zg 39 false (zn 42 41),zg 39 false (zb 43 .geq 40 42),zp 44 39 43])
 (zC 44 (zs (zr [6,7] [zc 6 (zI 0),zc 7 (zI 2)])
 .ret)
 .skip))
 (zs (zr [1,2,8,9,10] [zL 46 2 3,zk 47 220 [.t 46],zm 45 47,zx 48 0 45,zx 49 1 45,zy 10 (.alc [.own 1 []]),zw (.st 1 [] (.t 10) (.t 48)),zm 9 49])
 (zs (zs (zr [1,2,8,9,10,51] [zm 50 9,zd 51 .neq 50 (zI 0)])
 (zC 51 (zs (zr [6,7] [zm 52 9,zc 6 (zI 0),zm 7 52])
 .ret)
 .skip))
 (zs (zr [1,2,8,10,11] [zl 53 1 10,zn 54 53,zy 55 (.mks 1 8 [zI 0] (.t 54) (.t 54)),zq 11 55])
 (zs (zs (zr [1,2,8,10,11,57,58] [zm 56 11,zn 57 56,zc 58 (zI 0)])
 (.block 0 (.loop (zs (zr [1,2,8,10,11,57,58,59] [zb 59 .lss 58 57])
 (zs (zC 59 .skip
 (.exit 0))
 (zs (.block 1 (zs (zr [1,2,8,10,11,12,57,58] [zm 60 58,zm 12 60])
 (zr [1,2,8,10,11,57,58] [zm 61 11,zm 62 12,zm 63 12,zi 64 1 61 62,zw (.st 1 [] (.t 64) (.t 63))])))
 (zr [1,2,8,10,11,57,58] [zd 65 .add 58 (zI 1),zm 58 65])))))))
 (zs (zr [1,2,8,10,11] [zm 66 11,zy 67 (.mk 847 [.t 10]),zy 68 (.callS 374 (.t 66) [.t 67])])
 (zs (zr [1,2,8,10,11,13] [zl 69 1 10,zn 70 69,zy 71 (.callF 329 [.t 70]),zq 13 71])
 (zs (zr [1,2,8,10,11,13,14] [zl 72 1 10,zn 73 72,zy 74 (.mks 1 1 [.bool false] (.t 73) (.t 73)),zq 14 74])
 (zs (zs (zr [1,2,8,10,13,14,75,76,77] [zq 75 11,zn 76 75,zc 77 (zI 0)])
 (.block 2 (.loop (zs (zr [1,2,8,10,13,14,75,76,77,78] [zb 78 .lss 77 76])
 (zs (zC 78 .skip
 (.exit 2))
 (zs (.block 3 (zs (zr [1,2,8,10,13,14,16,75,76,77] [zi 79 1 75 77,zl 80 1 79,zm 16 80])
 (zs (zr [1,2,8,10,13,14,16,75,76,77] [zm 81 14,zm 82 16,zi 83 1 81 82,zw (.st 1 [] (.t 83) (.c (.bool true)))])
 (zs (zs (zr [1,2,8,10,13,14,16,75,76,77,87,88] [zm 84 8,zm 85 16,zi 86 3 84 85,zL 87 3 86,zc 88 (zI 0)])
 (.block 4 (.loop (zs (zr [1,2,8,10,13,14,16,75,76,77,87,88,89] [zd 89 .lss 88 (zI 3)])
 (zs (zC 89 .skip
 (.exit 4))
 (zs (.block 5 (zs (zr [1,2,8,10,13,14,16,18,75,76,77,87,88] [zy 90 (.idxA 3 1 false (.t 87) (.t 88)),zm 18 90])
 (zs (zr [1,2,8,10,13,14,16,18,75,76,77,87,88,98] [zm 91 18,zy 92 (.bin .neq (.t 91) (.c (zI (-1)))),zm 93 92,zg 93 true (zm 94 14),zg 93 true (zm 95 18),zg 93 true (zi 96 1 94 95),zg 93 true (zl 97 1 96),zP 98 93 97])
 (zC 98 (zr [1,2,8,10,13,14,16,75,76,77,87,88] [zm 99 13,zm 100 16,zm 101 18,zy 102 (.callR 331 (.t 99) [.t 100,.t 101])])
 .skip))))
 (zr [1,2,8,10,13,14,16,75,76,77,87,88] [zd 103 .add 88 (zI 1),zm 88 103])))))))
 (zs (zr [1,2,8,10,13,14,16,75,76,77,122] [zm 104 14,zm 105 1,zi 106 1 104 105,zl 107 1 106,zm 108 107,zg 108 true (zm 109 14),zg 108 true (zm 110 2),zg 108 true (zi 111 1 109 110),zg 108 true (zl 112 1 111),zP 113 108 112,zm 114 113,zg 114 true (zm 115 13),zg 114 true (zm 116 1),zg 114 true (zy 117 (.callR 332 (.t 115) [.t 116])),zg 114 true (zm 118 13),zg 114 true (zm 119 2),zg 114 true (zy 120 (.callR 332 (.t 118) [.t 119])),zg 114 true (zb 121 .eql 117 120),zP 122 114 121])
 (zC 122 (zs (zr [6,7] [zl 123 1 10,zm 124 16,zi 125 1 123 124,zl 126 1 125,zm 6 126,zc 7 (zI 0)])
 .ret)
 .skip))))))
 (zr [1,2,8,10,13,14,75,76,77] [zd 127 .add 77 (zI 1),zm 77 127])))))))
 (zs (zr [6,7] [zc 6 (zI 0),zc 7 (zI 12)])
 .ret))))))))))))) }
def N846 : aE:={ np:=2,nt:=55,res:=[(4,none)],body :=
 (zs (zr [1,2] [zo 2 0,zc 4 (zI 0)])
 (zs (zr [2,5] [zf 9 1 2,zl 10 1 9,zm 11 1,zi 12 4 10 11,zL 13 4 12,zy 5 (.alc zA5),zw (.st 4 [] (.t 5) (.t 13))])
 (zs (.reg true [0,1,0,4,15,31,0,64,0,256,960,1984,0,4096,0,16384,61440,126976,0,0,0,1835071,3936255,8388607] [6,7,8] [zf 14 0 2,zl 15 1 14,zf 16 0 5,zl 17 1 16,zi 18 3 15 17,zL 19 3 18,zf 20 0 2,zl 21 1 20,zf 22 1 5,zl 23 1 22,zi 24 3 21 23,zL 25 3 24,zf 26 0 2,zl 27 1 26,zf 28 2 5,zl 29 1 28,zi 30 3 27 29,zL 31 3 30,zy 6 (.alc zA3),zy 7 (.alc zA3),zy 8 (.alc zA3),zw (.st 3 [] (.t 6) (.t 19)),zw (.st 3 [] (.t 7) (.t 25)),zw (.st 3 [] (.t 8) (.t 31))])
 (zs (zr [4] [zf 32 0 7,zl 33 1 32,zf 34 0 6,zl 35 1 34,zb 36 .sub 33 35,zf 37 1 8,zl 38 1 37,zf 39 1 6,zl 40 1 39,zb 41 .sub 38 40,zb 42 .mul 36 41,zf 43 1 7,zl 44 1 43,zf 45 1 6,zl 46 1 45,zb 47 .sub 44 46,zf 48 0 8,zl 49 1 48,zf 50 0 6,zl 51 1 50,zb 52 .sub 49 51,zb 53 .mul 47 52,zb 54 .sub 42 53,zm 4 54])
 .ret)))) }
def N847 : aE:={ np:=3,nt:=15,res:=[(5,none)],body :=
 (zs (zr [0,1,2] [zc 5 (zI 0)])
 (zs (.reg true [0,0,3,7,0,0,48,112,255,511] [5] [zl 6 1 2,zm 7 0,zi 8 1 6 7,zl 9 1 8,zl 10 1 2,zm 11 1,zi 12 1 10 11,zl 13 1 12,zb 14 .sub 9 13,zm 5 14])
 .ret)) }
def N853 : aE:={ np:=4,nt:=174,res:=[(8,none)],body :=
 (zs (zr [1,2,3,4] [zo 4 0,zc 8 (.bool false)])
 (zs (zs (zr [1,2,3,4,22] [zk 21 241 [],zt 22 21])
 (zC 22 (zs (zr [8] [zc 8 (.bool false)])
 .ret)
 .skip))
 (zs (zs (zr [1,2,3,4,24] [zL 23 2 4,zk 24 242 [.t 23]])
 (zC 24 (zs (zr [8] [zc 8 (.bool true)])
 .ret)
 .skip))
 (zs (zr [1,2,3,4,9,10] [zL 26 2 4,zk 27 279 [.t 26],zm 25 27,zx 28 0 25,zx 29 1 25,zq 9 28,zm 10 29])
 (zs (zr [1,2,3,4,9,10,11,12] [zL 31 2 4,zm 32 1,zk 33 842 [.t 31,.t 32],zm 30 33,zx 34 0 30,zx 35 1 30,zy 11 (.alc zA1),zw (.st 2 [] (.t 11) (.t 34)),zm 12 35])
 (zs (zr [1,2,3,4,9,10,11,12,13,14] [zL 37 2 4,zm 38 2,zk 39 844 [.t 37,.t 38],zm 36 39,zx 40 0 36,zx 41 1 36,zm 13 40,zm 14 41])
 (zs (zr [1,2,3,4,9,10,11,12,13,14,15,16] [zL 43 2 4,zm 44 2,zm 45 3,zk 46 845 [.t 43,.t 44,.t 45],zm 42 46,zx 47 0 42,zx 48 1 42,zm 15 47,zm 16 48])
 (zs (zs (zr [1,2,3,4,9,10,11,12,13,14,15,16,51] [zL 49 2 4,zk 50 215 [.t 49],zt 51 50])
 (zC 51 (zs (zr [8] [zq 52 9,zn 53 52,zd 54 .eql 53 (zI 0),zm 55 54,zg 55 true (zm 56 10),zg 55 true (zd 57 .eql 56 (zI 1)),zP 58 55 57,zm 59 58,zg 59 true (zL 60 2 11),zg 59 true (zy 61 (.bld [zI 0,zI 0] [])),zg 59 true (zy 62 (.beq false [0,0] (.t 60) (.t 61))),zP 63 59 62,zm 64 63,zg 64 true (zm 65 12),zg 64 true (zd 66 .eql 65 (zI 1)),zP 67 64 66,zm 68 67,zg 68 true (zm 69 13),zg 68 true (zd 70 .eql 69 (zI 0)),zP 71 68 70,zm 72 71,zg 72 true (zm 73 14),zg 72 true (zd 74 .eql 73 (zI 1)),zP 75 72 74,zm 76 75,zg 76 true (zm 77 15),zg 76 true (zd 78 .eql 77 (zI 0)),zP 79 76 78,zm 80 79,zg 80 true (zm 81 16),zg 80 true (zd 82 .eql 81 (zI 1)),zP 83 80 82,zm 8 83])
 .ret)
 .skip))
 (zs (zr [2,3,4,9,10,11,12,13,14,15,16,17,18] [zL 85 2 4,zm 86 1,zk 87 870 [.t 85,.t 86],zm 84 87,zx 88 0 84,zx 89 1 84,zy 17 (.alc zA1),zw (.st 2 [] (.t 17) (.t 88)),zm 18 89])
 (zs (zs (zr [2,3,4,13,14,15,16,108] [zm 90 10,zd 91 .neq 90 (zI 0),zm 92 91,zg 92 false (zq 93 9),zg 92 false (zL 94 2 4),zg 92 false (zk 95 871 [.t 94]),zg 92 false (zy 96 (.call 20 [.t 93,.t 95,(.c (.fn 19 []))] [])),zg 92 false (zt 97 96),zp 98 92 97,zm 99 98,zg 99 false (zL 100 2 11),zg 99 false (zL 101 2 17),zg 99 false (zy 102 (.beq true [0,0] (.t 100) (.t 101))),zp 103 99 102,zm 104 103,zg 104 false (zm 105 12),zg 104 false (zm 106 18),zg 104 false (zb 107 .neq 105 106),zp 108 104 107])
 (zC 108 (zs (zr [8] [zc 8 (.bool false)])
 .ret)
 .skip))
 (zs (zs (zr [2,3,4,13,14,15,16,112] [zL 109 2 4,zm 110 2,zk 111 217 [.t 109,.t 110],zt 112 111])
 (zC 112 (zs (zr [8] [zm 113 13,zd 114 .eql 113 (zI 0),zm 115 114,zg 115 true (zm 116 14),zg 115 true (zd 117 .eql 116 (zI 2)),zP 118 115 117,zm 119 118,zg 119 true (zm 120 15),zg 119 true (zd 121 .eql 120 (zI 0)),zP 122 119 121,zm 123 122,zg 123 true (zm 124 16),zg 123 true (zd 125 .eql 124 (zI 2)),zP 126 123 125,zm 8 126])
 .ret)
 .skip))
 (zs (zs (.reg true [0,1,3,7,7,23,7,119,247,7,7,1591,4087,8191,16383] [2,3,4,15,16,141] [zm 127 14,zd 128 .neq 127 (zI 0),zm 129 128,zg 129 false (zm 130 13),zg 129 false (zL 131 2 4),zg 129 false (zk 132 872 [.t 131]),zg 129 false (zm 133 2),zg 129 false (zi 134 1 132 133),zg 129 false (zl 135 1 134),zg 129 false (zL 136 2 4),zg 129 false (zm 137 2),zg 129 false (zk 138 296 [.t 136,.t 137]),zg 129 false (zb 139 .sub 135 138),zg 129 false (zb 140 .neq 130 139),zp 141 129 140])
 (zC 141 (zs (zr [8] [zc 8 (.bool false)])
 .ret)
 .skip))
 (zs (zs (zr [2,3,4,15,16,145] [zL 142 2 4,zm 143 3,zk 144 217 [.t 142,.t 143],zt 145 144])
 (zC 145 (zs (zr [8] [zm 146 15,zd 147 .eql 146 (zI 0),zm 148 147,zg 148 true (zm 149 16),zg 148 true (zd 150 .eql 149 (zI 2)),zP 151 148 150,zm 8 151])
 .ret)
 .skip))
 (zs (zr [15,16,19,20] [zL 153 2 4,zm 154 2,zm 155 3,zk 156 873 [.t 153,.t 154,.t 155],zm 152 156,zx 157 0 152,zx 158 1 152,zm 19 157,zm 20 158])
 (zs (zs (zr [15,16,19,160] [zm 159 20,zt 160 159])
 (zC 160 (zs (zr [8] [zm 161 15,zd 162 .eql 161 (zI 0),zm 163 162,zg 163 true (zm 164 16),zg 163 true (zd 165 .eql 164 (zI 12)),zP 166 163 165,zm 8 166])
 .ret)
 .skip))
 (zs (zr [8] [zm 167 15,zm 168 19,zb 169 .eql 167 168,zm 170 169,zg 170 true (zm 171 16),zg 170 true (zd 172 .eql 171 (zI 0)),zP 173 170 172,zm 8 173])
 .ret)))))))))))))))) }
def N870 : aE:={ np:=2,nt:=102,res:=[(4,some (2,true)),(5,none)],body :=
 (zs (zr [1,2,4] [zo 2 0,zy 4 (.alc zA1),zc 5 (zI 0)])
 (zs (zr [1,2,4,6] [zL 17 2 2,zk 18 871 [.t 17],zq 6 18])
 (zs (zs (zr [1,2,4,6,26] [zm 19 1,zd 20 .lss 19 (zI 0),zm 21 20,zg 21 false (zm 22 1),zg 21 false (zm 23 6),zg 21 false (zn 24 23),zg 21 false (zb 25 .geq 22 24),zp 26 21 25])
 (zC 26 (zs (zr [4,5] [zy 27 (.bld [zI 0,zI 0] []),zw (.st 2 [] (.t 4) (.t 27)),zc 5 (zI 2)])
 .ret)
 .skip))
 (zs (.reg true [0,1,0,7,15,31] [1,2,4,6,7,8] [zL 28 2 2,zk 29 281 [.t 28],zL 30 2 2,zk 31 872 [.t 30],zq 7 29,zq 8 31])
 (zs (zr [1,2,4,6,7,8,9] [zk 32 68 [(.c (zI 0))],zy 9 (.alc zA2),zw (.st 3 [] (.t 9) (.t 32))])
 (zs (zs (zr [1,2,4,6,7,8,9,10] [zc 10 (zI 0)])
 (.block 0 (.loop (zs (zs (zr [1,2,4,6,7,8,9,10,39] [zm 33 10,zm 34 6,zm 35 1,zi 36 1 34 35,zl 37 1 36,zn 38 37,zb 39 .lss 33 38])
 (zC 39 .skip
 (.exit 0)))
 (zs (.block 1 (zs (zr [1,2,4,6,7,8,9,10,11] [zm 42 6,zm 43 1,zi 44 1 42 43,zl 45 1 44,zm 46 10,zi 47 1 45 46,zl 48 1 47,zm 11 48])
 (.reg true [0,0,0,6,14,0,0,96,224,510,0,0,3072,8190,16383,32767] [1,2,4,6,7,8,9,10] [zL 49 3 9,zm 50 8,zm 51 11,zi 52 1 50 51,zl 53 1 52,zm 54 7,zm 55 11,zi 56 1 54 55,zl 57 1 56,zb 58 .sub 53 57,zL 59 2 2,zm 60 11,zk 61 350 [.t 59,.t 60],zk 62 67 [.t 58,.t 61],zk 63 337 [.t 49,.t 62],zw (.st 3 [] (.t 9) (.t 63))])))
 (zr [1,2,4,6,7,8,9,10] [zm 40 10,zd 41 .add 40 (zI 1),zm 10 41]))))))
 (zs (zr [4,9,12] [zk 64 68 [(.c (zI 6000))],zy 12 (.alc zA2),zw (.st 3 [] (.t 12) (.t 64))])
 (zs (zr [4,9,12,13,14] [zL 66 3 9,zL 67 3 12,zk 68 66 [.t 66,.t 67],zk 69 93 [.t 68],zm 65 69,zx 70 0 65,zx 71 1 65,zm 13 70,zm 14 71])
 (zs (zr [4,13,14,15,16] [zL 73 3 9,zL 74 3 12,zk 75 351 [.t 73,.t 74],zk 76 93 [.t 75],zm 72 76,zx 77 0 72,zx 78 1 72,zm 15 77,zm 16 78])
 (zs (zs (zr [4,13,15,97] [zm 79 14,zt 80 79,zm 81 80,zg 81 false (zm 82 16),zg 81 false (zt 83 82),zp 84 81 83,zm 85 84,zg 85 false (zm 86 13),zg 85 false (zd 87 .gtr 86 (zI 1125899906842624)),zp 88 85 87,zm 89 88,zg 89 false (zm 90 13),zg 89 false (zd 91 .eql 90 (zI 1125899906842624)),zg 89 false (zm 92 91),zg 92 true (zm 93 15),zg 92 true (zm 94 13),zg 92 true (zb 95 .gtr 93 94),zg 89 false (zP 96 92 95),zp 97 89 96])
 (zC 97 (zs (zr [4,5] [zy 98 (.bld [zI 0,zI 0] []),zw (.st 2 [] (.t 4) (.t 98)),zc 5 (zI 5)])
 .ret)
 .skip))
 (zs (zr [4,5] [zm 99 13,zm 100 15,zy 101 (.bld [zI 0,zI 0] [(0,1,.t 99),(1,1,.t 100)]),zw (.st 2 [] (.t 4) (.t 101)),zc 5 (zI 0)])
 .ret))))))))))) }
def N871 : aE:={ np:=1,nt:=135,res:=[(2,none)],body :=
 (zs (zr [1] [zo 1 0,zc 2 .nils])
 (zs (.reg true [0,1,0,7,0,31,63,127,255] [3,4,5] [zL 16 2 1,zk 17 259 [.t 16],zL 18 2 1,zk 19 281 [.t 18],zL 20 2 1,zk 21 872 [.t 20],zq 3 17,zq 4 19,zq 5 21])
 (zs (zr [3,4,5,6] [zm 22 5,zn 23 22,zy 24 (.mks 1 1 [.bool false] (.t 23) (.t 23)),zq 6 24])
 (zs (zr [3,4,5,6,7] [zy 7 (.nilo 1)])
 (zs (zs (zr [3,4,5,6,7,8] [zc 8 (zI 0)])
 (.block 0 (.loop (zs (zs (zr [3,4,5,6,7,8,28] [zm 25 8,zm 26 5,zn 27 26,zb 28 .lss 25 27])
 (zC 28 .skip
 (.exit 0)))
 (zs (.block 1 (zs (zs (.reg true [0,0,3,7,15,31,31,127,255,31,31,1567,3615,8191,16383] [3,4,5,6,7,8,45] [zm 31 6,zm 32 8,zi 33 1 31 32,zl 34 1 33,zm 35 34,zg 35 false (zm 36 5),zg 35 false (zm 37 8),zg 35 false (zi 38 1 36 37),zg 35 false (zl 39 1 38),zg 35 false (zm 40 4),zg 35 false (zm 41 8),zg 35 false (zi 42 1 40 41),zg 35 false (zl 43 1 42),zg 35 false (zb 44 .eql 39 43),zp 45 35 44])
 (zC 45 (.exit 1)
 .skip))
 (zs (zr [3,4,5,6,7,8,9] [zm 46 5,zn 47 46,zy 48 (.mks 1 1 [.bool false] (.t 47) (.t 47)),zq 9 48])
 (zs (zr [3,4,5,6,7,8,9] [zm 49 9,zm 50 8,zm 51 6,zm 52 8,zi 53 1 49 50,zw (.st 1 [] (.t 53) (.c (.bool true))),zi 54 1 51 52,zw (.st 1 [] (.t 54) (.c (.bool true)))])
 (zs (zr [3,4,5,6,7,8,9,10] [zm 55 8,zy 56 (.bls 1 1 [zI 0] [] [(0,.t 55)]),zq 10 56])
 (zs (.block 2 (.loop (zs (zs (zr [3,4,5,6,7,8,9,10,59] [zm 57 10,zn 58 57,zd 59 .gtr 58 (zI 0)])
 (zC 59 .skip
 (.exit 2)))
 (.block 3 (zs (zr [3,4,5,6,7,8,9,10,11] [zm 60 10,zy 61 (.iadS 1 (.t 60) (.c (zI 0))),zl 62 1 61,zm 11 62])
 (zs (zr [3,4,5,6,7,8,9,10,11] [zm 63 10,zy 64 (.slc 1 (.t 63) (some (.c (zI 1))) none),zq 10 64])
 (zs (zr [3,4,5,6,7,8,9,10,11,12] [zc 12 (zI 0)])
 (.block 4 (.loop (zs (zs (zr [3,4,5,6,7,8,9,10,11,12,66] [zm 65 12,zd 66 .lss 65 (zI 3)])
 (zC 66 .skip
 (.exit 4)))
 (zs (.block 5 (zs (zr [3,4,5,6,7,8,9,10,11,12,13] [zm 69 3,zm 70 11,zm 71 12,zi 72 3 69 70,zy 73 (.iadA 3 1 (.t 72) (.t 71)),zl 74 1 73,zm 13 74])
 (zs (.reg true [0,1,3,7,7,31,63,127,255,511,1023,1023,4095,8191,1023,1023,50175,115711,262143,524287,1048575,2097151,2097151,8388607,16777215,2097151,2097151,102760447,236978175,536870911,1073741823] [3,4,5,6,7,8,9,10,11,12,13,105] [zm 75 13,zd 76 .geq 75 (zI 0),zm 77 76,zg 77 true (zm 78 6),zg 77 true (zm 79 13),zg 77 true (zi 80 1 78 79),zg 77 true (zl 81 1 80),zg 77 true (zt 82 81),zP 83 77 82,zm 84 83,zg 84 true (zm 85 5),zg 84 true (zm 86 13),zg 84 true (zi 87 1 85 86),zg 84 true (zl 88 1 87),zg 84 true (zm 89 4),zg 84 true (zm 90 13),zg 84 true (zi 91 1 89 90),zg 84 true (zl 92 1 91),zg 84 true (zb 93 .gtr 88 92),zP 94 84 93,zm 95 94,zg 95 true (zm 96 5),zg 95 true (zm 97 13),zg 95 true (zi 98 1 96 97),zg 95 true (zl 99 1 98),zg 95 true (zm 100 5),zg 95 true (zm 101 8),zg 95 true (zi 102 1 100 101),zg 95 true (zl 103 1 102),zg 95 true (zb 104 .eql 99 103),zP 105 95 104])
 (zC 105 (zs (zr [3,4,5,6,7,8,9,10,11,12,13] [zm 106 9,zm 107 13,zm 108 6,zm 109 13,zi 110 1 106 107,zw (.st 1 [] (.t 110) (.c (.bool true))),zi 111 1 108 109,zw (.st 1 [] (.t 111) (.c (.bool true)))])
 (zr [3,4,5,6,7,8,9,10,11,12] [zm 112 10,zm 113 13,zy 114 (.bls 1 1 [zI 0] [] [(0,.t 113)]),zy 115 (.app 1 8 false (.t 112) (.t 114)),zq 10 115]))
 .skip))))
 (zr [3,4,5,6,7,8,9,10,11,12] [zm 67 12,zd 68 .add 67 (zI 1),zm 12 68]))))))))))))
 (zs (zr [3,4,5,6,7,8,9,14] [zy 14 (.nilo 1)])
 (zs (zs (zr [3,4,5,6,7,8,9,14,15] [zc 15 (zI 0)])
 (.block 6 (.loop (zs (zs (zr [3,4,5,6,7,8,9,14,15,119] [zm 116 15,zm 117 9,zn 118 117,zb 119 .lss 116 118])
 (zC 119 .skip
 (.exit 6)))
 (zs (.block 7 (zs (zr [3,4,5,6,7,8,9,14,15,125] [zm 122 9,zm 123 15,zi 124 1 122 123,zl 125 1 124])
 (zC 125 (zr [3,4,5,6,7,8,9,14,15] [zm 126 14,zm 127 15,zy 128 (.bls 1 1 [zI 0] [] [(0,.t 127)]),zy 129 (.app 1 8 false (.t 126) (.t 128)),zq 14 129])
 .skip)))
 (zr [3,4,5,6,7,8,9,14,15] [zm 120 15,zd 121 .add 120 (zI 1),zm 15 121]))))))
 (zr [3,4,5,6,7,8] [zm 130 7,zq 131 14,zy 132 (.bls 1 1 [.own 1 []] [] [(0,.t 131)]),zy 133 (.app 1 24 true (.t 130) (.t 132)),zq 7 133])))))))))
 (zr [3,4,5,6,7,8] [zm 29 8,zd 30 .add 29 (zI 1),zm 8 30]))))))
 (zs (zr [2] [zq 134 7,zq 2 134])
 .ret)))))) }
def N872 : aE:={ np:=1,nt:=11,res:=[(2,none)],body :=
 (zs (zr [1] [zo 1 0,zc 2 .nils])
 (zs (zr [3] [zL 6 2 1,zk 7 246 [.t 6],zm 5 7,zx 8 0 5,zx 9 1 5,zq 3 8,zq 4 9])
 (zs (zr [2] [zq 10 3,zq 2 10])
 .ret))) }
def N873 : aE:={ np:=3,nt:=100,res:=[(6,none),(7,none)],body :=
 (zs (zr [1,2,3] [zo 3 0,zc 6 (zI 0),zc 7 (.bool false)])
 (zs (.reg true [0,1,0,7,15,31] [1,2,8,9] [zL 18 2 3,zk 19 259 [.t 18],zL 20 2 3,zk 21 281 [.t 20],zq 8 19,zq 9 21])
 (zs (zr [1,2,8,9,10] [zm 22 9,zn 23 22,zm 10 23])
 (zs (zr [1,2,8,9,10,11] [zm 24 10,zy 25 (.mks 1 1 [.bool false] (.t 24) (.t 24)),zq 11 25])
 (zs (zr [1,2,8,9,10,11,12] [zm 26 10,zy 27 (.mks 1 8 [zI 0] (.t 26) (.t 26)),zq 12 27])
 (zs (zr [2,8,9,10,11,12] [zm 28 11,zm 29 1,zm 30 12,zm 31 1,zm 32 9,zm 33 1,zi 34 1 32 33,zl 35 1 34,zi 36 1 28 29,zw (.st 1 [] (.t 36) (.c (.bool true))),zi 37 1 30 31,zw (.st 1 [] (.t 37) (.t 35))])
 (zs (zs (zr [2,8,9,10,11,12,13] [zc 13 (.bool true)])
 (.block 0 (.loop (zs (zs (zr [2,8,9,10,11,12,38] [zm 38 13])
 (zC 38 .skip
 (.exit 0)))
 (.block 1 (zs (zr [2,8,9,10,11,12,13] [zc 13 (.bool false)])
 (zs (zr [2,8,9,10,11,12,13,14] [zc 14 (zI 0)])
 (.block 2 (.loop (zs (zs (zr [2,8,9,10,11,12,13,14,41] [zm 39 14,zm 40 10,zb 41 .lss 39 40])
 (zC 41 .skip
 (.exit 2)))
 (zs (.block 3 (zs (zr [2,8,9,10,11,12,13,14,15] [zc 15 (zI 0)])
 (.block 4 (.loop (zs (zs (zr [2,8,9,10,11,12,13,14,15,45] [zm 44 15,zd 45 .lss 44 (zI 3)])
 (zC 45 .skip
 (.exit 4)))
 (zs (.block 5 (zs (zr [2,8,9,10,11,12,13,14,15,16] [zm 48 8,zm 49 14,zm 50 15,zi 51 3 48 49,zy 52 (.iadA 3 1 (.t 51) (.t 50)),zl 53 1 52,zm 16 53])
 (zs (zs (zr [2,8,9,10,11,12,13,14,15,16,62] [zm 54 16,zd 55 .lss 54 (zI 0),zm 56 55,zg 56 false (zm 57 11),zg 56 false (zm 58 16),zg 56 false (zi 59 1 57 58),zg 56 false (zl 60 1 59),zg 56 false (zt 61 60),zp 62 56 61])
 (zC 62 (.exit 5)
 .skip))
 (zs (.reg true [0,0,3,7,0,0,48,112,255,511] [2,8,9,10,11,12,13,14,15,17] [zm 63 9,zm 64 14,zi 65 1 63 64,zl 66 1 65,zm 67 12,zm 68 16,zi 69 1 67 68,zl 70 1 69,zk 71 283 [.t 66,.t 70],zm 17 71])
 (zs (zr [2,8,9,10,11,12,13,14,15,17,84] [zm 72 11,zm 73 14,zi 74 1 72 73,zl 75 1 74,zt 76 75,zm 77 76,zg 77 false (zm 78 17),zg 77 false (zm 79 12),zg 77 false (zm 80 14),zg 77 false (zi 81 1 79 80),zg 77 false (zl 82 1 81),zg 77 false (zb 83 .lss 78 82),zp 84 77 83])
 (zC 84 (zr [2,8,9,10,11,12,13,14,15] [zm 85 11,zm 86 14,zm 87 12,zm 88 14,zm 89 17,zi 90 1 85 86,zw (.st 1 [] (.t 90) (.c (.bool true))),zi 91 1 87 88,zw (.st 1 [] (.t 91) (.t 89)),zc 13 (.bool true)])
 .skip))))))
 (zr [2,8,9,10,11,12,13,14,15] [zm 46 15,zd 47 .add 46 (zI 1),zm 15 47])))))))
 (zr [2,8,9,10,11,12,13,14] [zm 42 14,zd 43 .add 42 (zI 1),zm 14 43]))))))))))))
 (zs (.reg true [0,0,3,7,0,0,48,112,15,511] [6,7] [zq 92 12,zm 93 2,zi 94 1 92 93,zl 95 1 94,zq 96 11,zm 97 2,zi 98 1 96 97,zl 99 1 98,zm 6 95,zm 7 99])
 .ret)))))))) }
def prog : Nat -> Option aE
 | 11=>some N11
 | 19=>some N19
 | 20=>some N20
 | 35=>some N35
 | 42=>some N42
 | 66=>some N66
 | 67=>some N67
 | 68=>some N68
 | 82=>some N82
 | 83=>some N83
 | 84=>some N84
 | 85=>some N85
 | 86=>some N86
 | 87=>some N87
 | 91=>some N91
 | 92=>some N92
 | 93=>some N93
 | 94=>some N94
 | 95=>some N95
 | 99=>some N99
 | 102=>some N102
 | 103=>some N103
 | 104=>some N104
 | 105=>some N105
 | 106=>some N106
 | 107=>some N107
 | 108=>some N108
 | 110=>some N110
 | 111=>some N111
 | 112=>some N112
 | 113=>some N113
 | 215=>some N215
 | 217=>some N217
 | 220=>some N220
 | 221=>some N221
 | 223=>some N223
 | 234=>some N234
 | 241=>some N241
 | 242=>some N242
 | 243=>some N243
 | 244=>some N244
 | 245=>some N245
 | 246=>some N246
 | 253=>some N253
 | 257=>some N257
 | 258=>some N258
 | 259=>some N259
 | 261=>some N261
 | 262=>some N262
 | 271=>some N271
 | 272=>some N272
 | 273=>some N273
 | 279=>some N279
 | 280=>some N280
 | 281=>some N281
 | 282=>some N282
 | 283=>some N283
 | 285=>some N285
 | 286=>some N286
 | 287=>some N287
 | 289=>some N289
 | 290=>some N290
 | 291=>some N291
 | 292=>some N292
 | 293=>some N293
 | 294=>some N294
 | 295=>some N295
 | 296=>some N296
 | 298=>some N298
 | 301=>some N301
 | 302=>some N302
 | 303=>some N303
 | 304=>some N304
 | 305=>some N305
 | 306=>some N306
 | 307=>some N307
 | 308=>some N308
 | 309=>some N309
 | 310=>some N310
 | 311=>some N311
 | 313=>some N313
 | 314=>some N314
 | 315=>some N315
 | 316=>some N316
 | 317=>some N317
 | 318=>some N318
 | 322=>some N322
 | 323=>some N323
 | 324=>some N324
 | 327=>some N327
 | 328=>some N328
 | 329=>some N329
 | 330=>some N330
 | 331=>some N331
 | 332=>some N332
 | 333=>some N333
 | 334=>some N334
 | 335=>some N335
 | 337=>some N337
 | 338=>some N338
 | 339=>some N339
 | 340=>some N340
 | 341=>some N341
 | 342=>some N342
 | 343=>some N343
 | 350=>some N350
 | 351=>some N351
 | 842=>some N842
 | 844=>some N844
 | 845=>some N845
 | 846=>some N846
 | 847=>some N847
 | 853=>some N853
 | 870=>some N870
 | 871=>some N871
 | 872=>some N872
 | 873=>some N873
 | _=>none
end Go.Gv
