/-
  Texts of the proof: GvP.
-/
import Derived.Test.YtibmdjdddnkomaaGreatDoorX4
set_option linter.all false
set_option maxRecDepth 4000
namespace Go.Gv
@[simp] def zr (k : List Nat) (o : List ar) : dB:=.reg false [] k o
@[simp] def zI (n : Int) : D:=.int .i64 n
@[simp] def zC (t : Nat) (a b : dB) : dB:=.cond (.t t) a b
@[simp] def zs (a b : dB) : dB:=.seq a b
@[simp] def zy (t : Nat) (o : NOp) : ar:=⟨some t,o,none⟩
@[simp] def zw (o : NOp) : ar:=⟨none,o,none⟩
@[simp] def zp (a c x : Nat) : ar:=⟨some a,.pick (.t c) (.c (.bool true)) (.t x),none⟩
@[simp] def zP (a c x : Nat) : ar:=⟨some a,.pick (.t c) (.t x) (.c (.bool false)),none⟩
@[simp] def zA1 : List D:=[zI 0,zI 0]
@[simp] def zA2 : List D:=[zI 0,zI 0,zI 0]
@[simp] def zA3 : List D:=[zI 0,zI 0,zI 0,zI 0]
@[simp] def zA4 : List D:=[zI 0,zI 0,zI 0,zI 0,zI 0,zI 0]
@[simp] def zA5 : List D:=[.int .u64 0,.int .u64 0,.bool false]
@[simp] def zA6 : List D:=[.own 1 [],.own 1 [],.own 1 [],.own 1 [],.own 1 [],.own 1 [],.own 1 []]
@[simp] def zm (a b : Nat) : ar:=⟨some a,.mov (.t b),none⟩
@[simp] def zc (a : Nat) (d : D) : ar:=⟨some a,.mov (.c d),none⟩
@[simp] def zf (a i b : Nat) : ar:=⟨some a,.fad i (.t b),none⟩
@[simp] def zl (a n b : Nat) : ar:=⟨some a,.ld n false (.t b),none⟩
@[simp] def zL (a n b : Nat) : ar:=⟨some a,.ld n true (.t b),none⟩
@[simp] def zx (a i b : Nat) : ar:=⟨some a,.ext i (.t b),none⟩
@[simp] def zn (a b : Nat) : ar:=⟨some a,.len (.t b),none⟩
@[simp] def zq (a b : Nat) : ar:=⟨some a,.asg (.t b),none⟩
@[simp] def zi (a n b c : Nat) : ar:=⟨some a,.iadS n (.t b) (.t c),none⟩
@[simp] def zo (a b : Nat) : ar:=⟨some a,.boxF (.t b),none⟩
@[simp] def zt (a b : Nat) : ar:=⟨some a,.un .not (.t b),none⟩
@[simp] def zk (a g : Nat) (xs : List Opd) : ar:=⟨some a,.call g xs [],none⟩
@[simp] def zb (a : Nat) (op : BinOp) (b c : Nat) : ar:=⟨some a,.bin op (.t b) (.t c),none⟩
@[simp] def zd (a : Nat) (op : BinOp) (b : Nat) (d : D) : ar:=⟨some a,.bin op (.t b) (.c d),none⟩
@[simp] def zg (c : Nat) (b : Bool) (s : ar) : ar:=⟨s.dst,s.op,some (c,b)⟩
def N11 : aI:={ np:=2,nt:=9,res:=[(4,none)],body :=
 (zs (zr [0,1] [zc 4 (.bool false)])
 (zs (zr [4] [zq 5 0,zm 6 1,zk 7 35 [.t 5,.t 6],zd 8 .geq 7 (zI 0),zm 4 8])
 .ret)) }
def N19 : aI:={ np:=2,nt:=26,res:=[(4,none)],body :=
 (zs (zr [0,1] [zc 4 (.bool false)])
 (zs (zs (zr [0,1,10] [zm 6 0,zn 7 6,zm 8 1,zn 9 8,zb 10 .neq 7 9])
 (zC 10 (zs (zr [4] [zc 4 (.bool false)])
 .ret)
 .skip))
 (zs (zs (zr [0,1,12,13] [zm 11 0,zn 12 11,zc 13 (zI 0)])
 (.block 0 (.loop (zs (zr [0,1,12,13,14] [zb 14 .lss 13 12])
 (zs (zC 14 .skip
 (.exit 0))
 (zs (.block 1 (zs (zr [0,1,5,12,13] [zm 15 13,zm 5 15])
 (zs (.reg true [0,0,3,7,0,0,48,112,255] [0,1,12,13,24] [zm 16 0,zm 17 5,zi 18 1 16 17,zl 19 1 18,zm 20 1,zm 21 5,zi 22 1 20 21,zl 23 1 22,zb 24 .neq 19 23])
 (zC 24 (zs (zr [4] [zc 4 (.bool false)])
 .ret)
 .skip))))
 (zr [0,1,12,13] [zd 25 .add 13 (zI 1),zm 13 25])))))))
 (zs (zr [4] [zc 4 (.bool true)])
 .ret)))) }
def N35 : aI:={ np:=2,nt:=19,res:=[(4,none)],body :=
 (zs (zr [0,1] [zc 4 (zI 0)])
 (zs (zs (zr [0,1,7,8] [zm 6 0,zn 7 6,zc 8 (zI 0)])
 (.block 0 (.loop (zs (zr [0,1,7,8,9] [zb 9 .lss 8 7])
 (zs (zC 9 .skip
 (.exit 0))
 (zs (.block 1 (zs (zr [0,1,5,7,8] [zm 10 8,zm 5 10])
 (zs (zr [0,1,5,7,8,16] [zm 11 1,zm 12 0,zm 13 5,zi 14 1 12 13,zl 15 1 14,zy 16 (.callv (.t 11) [.t 15])])
 (zC 16 (zs (zr [4] [zm 17 5,zm 4 17])
 .ret)
 .skip))))
 (zr [0,1,7,8] [zd 18 .add 8 (zI 1),zm 8 18])))))))
 (zs (zr [4] [zy 4 (.mov (.c (zI (-1))))])
 .ret))) }
def N42 : aI:={ np:=1,nt:=8,res:=[(2,none)],body :=
 (zs (zr [0] [zc 2 .nils])
 (zs (zs (zr [0,4] [zm 3 0,zy 4 (.beq false [9] (.t 3) (.c .nils))])
 (zC 4 (zs (zr [2] [zc 2 .nils])
 .ret)
 .skip))
 (zs (zr [2] [zy 5 (.bls 1 0 [zI 0] [] []),zq 6 0,zy 7 (.app 1 8 false (.t 5) (.t 6)),zq 2 7])
 .ret))) }
def N91 : aI:={ np:=2,nt:=51,res:=[(4,none),(5,none)],body :=
 (zs (zr [0,1] [zc 4 (.int .u64 0),zc 5 (.int .u64 0)])
 (zs (zr [0,1,6] [zm 14 0,zd 15 .and 14 (.int .u64 4294967295),zm 6 15])
 (zs (zr [0,1,6,7] [zm 16 0,zd 17 .shr 16 (.int .u64 32),zm 7 17])
 (zs (zr [0,1,6,7,8] [zm 18 1,zd 19 .and 18 (.int .u64 4294967295),zm 8 19])
 (zs (zr [0,1,6,7,8,9] [zm 20 1,zd 21 .shr 20 (.int .u64 32),zm 9 21])
 (zs (zr [0,1,6,7,8,9,10] [zm 22 6,zm 23 8,zb 24 .mul 22 23,zm 10 24])
 (zs (zr [0,1,6,7,9,11] [zm 25 7,zm 26 8,zb 27 .mul 25 26,zm 28 10,zd 29 .shr 28 (.int .u64 32),zb 30 .add 27 29,zm 11 30])
 (zs (zr [0,1,6,7,9,11,12] [zm 31 11,zd 32 .and 31 (.int .u64 4294967295),zm 12 32])
 (zs (zr [0,1,6,7,9,12,13] [zm 33 11,zd 34 .shr 33 (.int .u64 32),zm 13 34])
 (zs (zr [0,1,7,9,12,13] [zm 35 12,zm 36 6,zm 37 9,zb 38 .mul 36 37,zb 39 .add 35 38,zm 12 39])
 (zs (zr [0,1,4] [zm 40 7,zm 41 9,zb 42 .mul 40 41,zm 43 13,zb 44 .add 42 43,zm 45 12,zd 46 .shr 45 (.int .u64 32),zb 47 .add 44 46,zm 4 47])
 (zs (zr [4,5] [zm 48 0,zm 49 1,zb 50 .mul 48 49,zm 5 50])
 .ret)))))))))))) }
def N99 : aI:={ np:=2,nt:=12,res:=[(4,some (2,true)),(5,none)],body :=
 (zs (zr [0,1,4] [zy 4 (.alc zA1),zc 5 (zI 0)])
 (zs (zr [4,5] [zm 6 0,zm 7 1,zk 8 103 [.t 6,.t 7],zk 9 105 [.t 8],zx 10 0 9,zx 11 1 9,zw (.st 2 [] (.t 4) (.t 10)),zm 5 11])
 .ret)) }
def N103 : aI:={ np:=2,nt:=23,res:=[(4,some (3,true))],body :=
 (zs (zr [0,1,4] [zy 4 (.alc zA5)])
 (zs (zr [0,1,4,5,6] [zm 8 0,zk 9 112 [.t 8],zm 10 1,zk 11 112 [.t 10],zk 12 91 [.t 9,.t 11],zm 7 12,zx 13 0 7,zx 14 1 7,zm 5 13,zm 6 14])
 (zs (zr [4] [zm 15 5,zm 16 6,zm 17 0,zd 18 .lss 17 (zI 0),zm 19 1,zd 20 .lss 19 (zI 0),zy 21 (.beq true [] (.t 18) (.t 20)),zk 22 113 [.t 15,.t 16,.t 21],zw (.st 3 [] (.t 4) (.t 22))])
 .ret))) }
def N105 : aI:={ np:=1,nt:=56,res:=[(2,some (2,true)),(3,none)],body :=
 (zs (zr [1,2] [zo 1 0,zy 2 (.alc zA1),zc 3 (zI 0)])
 (zs (zs (zr [1,2,23] [zf 6 0 1,zl 7 1 6,zd 8 .gtr 7 (.int .u64 72057594037927936),zm 9 8,zg 9 false (zf 10 0 1),zg 9 false (zl 11 1 10),zg 9 false (zd 12 .eql 11 (.int .u64 72057594037927936)),zg 9 false (zm 13 12),zg 13 true (zf 14 1 1),zg 13 true (zl 15 1 14),zg 13 true (zd 16 .gtr 15 (.int .u64 0)),zg 13 true (zm 17 16),zg 17 false (zf 18 2 1),zg 17 false (zl 19 1 18),zg 17 false (zt 20 19),zg 13 true (zp 21 17 20),zg 9 false (zP 22 13 21),zp 23 9 22])
 (zC 23 (zs (zr [2,3] [zy 24 (.bld [zI 0,zI 0] []),zw (.st 2 [] (.t 2) (.t 24)),zc 3 (zI 5)])
 .ret)
 .skip))
 (zs (.reg true [0,1,3,0,8,24,63,127,0,256,768,1792,255,8191] [1,2,4,5] [zf 25 0 1,zl 26 1 25,zd 27 .shl 26 (.int .u64 4),zf 28 1 1,zl 29 1 28,zd 30 .shr 29 (.int .u64 60),zb 31 .or 27 30,zy 32 (.conv .i64 (.t 31)),zf 33 1 1,zl 34 1 33,zd 35 .and 34 (.int .u64 1152921504606846975),zy 36 (.conv .i64 (.t 35)),zm 4 32,zm 5 36])
 (zs (.block 0 (zs (zr [2,4,5,37] [zf 38 2 1,zl 39 1 38,zt 40 39,zm 37 40])
 (zC 37 (zs (zr [2,3] [zm 41 4,zm 42 5,zy 43 (.bld [zI 0,zI 0] [(0,1,.t 41),(1,1,.t 42)]),zw (.st 2 [] (.t 2) (.t 43)),zc 3 (zI 0)])
 .ret)
 (zs (zr [2,4,5,44] [zm 45 5,zd 46 .eql 45 (zI 0),zm 44 46])
 (zC 44 (zs (zr [2,3] [zm 47 4,zy 48 (.un .neg (.t 47)),zy 49 (.bld [zI 0,zI 0] [(0,1,.t 48)]),zw (.st 2 [] (.t 2) (.t 49)),zc 3 (zI 0)])
 .ret)
 .skip)))))
 (zs (zr [2,3] [zm 50 4,zy 51 (.un .neg (.t 50)),zd 52 .sub 51 (zI 1),zm 53 5,zy 54 (.bin .sub (.c (zI 1152921504606846976)) (.t 53)),zy 55 (.bld [zI 0,zI 0] [(0,1,.t 52),(1,1,.t 54)]),zw (.st 2 [] (.t 2) (.t 55)),zc 3 (zI 0)])
 .ret))))) }
def N106 : aI:={ np:=1,nt:=21,res:=[(2,none)],body :=
 (zs (zr [1] [zo 1 0,zc 2 (.bool false)])
 (zs (zr [2] [zf 3 0 1,zl 4 1 3,zy 5 (.bin .geq (.t 4) (.c (zI (-1152921504606846976)))),zm 6 5,zg 6 true (zf 7 0 1),zg 6 true (zl 8 1 7),zg 6 true (zd 9 .lss 8 (zI 1152921504606846976)),zP 10 6 9,zm 11 10,zg 11 true (zf 12 1 1),zg 11 true (zl 13 1 12),zg 11 true (zd 14 .geq 13 (zI 0)),zP 15 11 14,zm 16 15,zg 16 true (zf 17 1 1),zg 16 true (zl 18 1 17),zg 16 true (zd 19 .lss 18 (zI 1152921504606846976)),zP 20 16 19,zm 2 20])
 .ret)) }
def N112 : aI:={ np:=1,nt:=10,res:=[(2,none)],body :=
 (zs (zr [0] [zc 2 (.int .u64 0)])
 (zs (zs (zr [0,4] [zm 3 0,zd 4 .lss 3 (zI 0)])
 (zC 4 (zs (zr [2] [zm 5 0,zy 6 (.conv .u64 (.t 5)),zy 7 (.un .neg (.t 6)),zm 2 7])
 .ret)
 .skip))
 (zs (zr [2] [zm 8 0,zy 9 (.conv .u64 (.t 8)),zm 2 9])
 .ret))) }
def N113 : aI:={ np:=3,nt:=19,res:=[(6,some (3,true))],body :=
 (zs (zr [0,1,2,6] [zy 6 (.alc zA5)])
 (zs (zr [6] [zm 7 0,zm 8 1,zm 9 2,zm 10 9,zg 10 true (zm 11 0),zg 10 true (zd 12 .neq 11 (.int .u64 0)),zg 10 true (zm 13 12),zg 13 false (zm 14 1),zg 13 false (zd 15 .neq 14 (.int .u64 0)),zg 10 true (zp 16 13 15),zP 17 10 16,zy 18 (.bld [.int .u64 0,.int .u64 0,.bool false] [(0,1,.t 7),(1,1,.t 8),(2,1,.t 17)]),zw (.st 3 [] (.t 6) (.t 18))])
 .ret)) }
def N213 : aI:={ np:=1,nt:=16,res:=[(2,none),(3,none)],body :=
 (zs (zr [1] [zo 1 0,zc 2 .nils,zc 3 (zI 0)])
 (zs (zr [4,5] [zL 7 2 1,zk 8 253 [.t 7],zm 6 8,zx 9 0 6,zx 10 1 6,zm 4 9,zm 5 10])
 (zs (zs (zr [4,5,12] [zm 11 5,zd 12 .neq 11 (zI 0)])
 (zC 12 (zs (zr [2,3] [zm 13 5,zc 2 .nils,zm 3 13])
 .ret)
 .skip))
 (zs (zr [2,3] [zm 14 4,zk 15 254 [.t 14],zq 2 15,zc 3 (zI 0)])
 .ret)))) }
def N215 : aI:={ np:=1,nt:=11,res:=[(2,none)],body :=
 (zs (zr [1] [zo 1 0,zc 2 (.bool false)])
 (zs (zr [2] [zL 3 2 1,zk 4 257 [.t 3],zm 5 4,zg 5 true (zL 6 2 1),zg 5 true (zk 7 258 [.t 6]),zg 5 true (zn 8 7),zg 5 true (zd 9 .eql 8 (zI 0)),zP 10 5 9,zm 2 10])
 .ret)) }
def N220 : aI:={ np:=1,nt:=18,res:=[(2,none),(3,none)],body :=
 (zs (zr [1] [zo 1 0,zc 2 .nils,zc 3 (zI 0)])
 (zs (zr [4,5] [zL 7 2 1,zk 8 253 [.t 7],zm 6 8,zx 9 0 6,zx 10 1 6,zm 4 9,zm 5 10])
 (zs (zs (zr [4,5,12] [zm 11 5,zd 12 .neq 11 (zI 0)])
 (zC 12 (zs (zr [2,3] [zm 13 5,zc 2 .nils,zm 3 13])
 .ret)
 .skip))
 (zs (zr [2,3] [zm 14 4,zy 15 (.nck (.t 14)),zf 16 1 15,zl 17 1 16,zq 2 17,zc 3 (zI 0)])
 .ret)))) }
def N221 : aI:={ np:=1,nt:=9,res:=[(2,none),(3,none)],body :=
 (zs (zr [1] [zo 1 0,zc 2 .nils,zc 3 (zI 0)])
 (zs (zs (zr [1,6] [zL 4 2 1,zk 5 234 [.t 4],zt 6 5])
 (zC 6 (zs (zr [2,3] [zc 2 .nils,zc 3 (zI 1)])
 .ret)
 .skip))
 (zs (zr [2,3] [zL 7 2 1,zk 8 261 [.t 7],zq 2 8,zc 3 (zI 0)])
 .ret))) }
def N223 : aI:={ np:=2,nt:=9,res:=[(4,none)],body :=
 (zs (zr [0,1] [zc 4 (.bool false)])
 (zs (zr [4] [zq 5 0,zm 6 1,zk 7 262 [.t 5,.t 6],zd 8 .geq 7 (zI 0),zm 4 8])
 .ret)) }
def N225 : aI:={ np:=2,nt:=26,res:=[(4,none),(5,none)],body :=
 (zs (zr [2,3] [zo 2 0,zo 3 1,zc 4 (zI 0),zc 5 (zI 0)])
 (zs (zs (zr [2,3,13] [zL 6 2 2,zk 7 106 [.t 6],zt 8 7,zm 9 8,zg 9 false (zL 10 2 3),zg 9 false (zk 11 106 [.t 10]),zg 9 false (zt 12 11),zp 13 9 12])
 (zC 13 (zs (zr [4,5] [zc 4 (zI 0),zc 5 (zI 1)])
 .ret)
 .skip))
 (zs (.reg true [0,1,0,4,15,0,32,0,128,511,1023,2047,4095,8191] [4,5] [zf 14 0 2,zl 15 1 14,zf 16 0 3,zl 17 1 16,zk 18 267 [.t 15,.t 17],zf 19 1 2,zl 20 1 19,zf 21 1 3,zl 22 1 21,zk 23 267 [.t 20,.t 22],zy 24 (.bls 1 2 [zI 0] [] [(0,.t 18),(1,.t 23)]),zk 25 266 [.t 24],zm 4 25,zc 5 (zI 0)])
 .ret))) }
def N234 : aI:={ np:=1,nt:=17,res:=[(2,none)],body :=
 (zs (zr [1] [zo 1 0,zc 2 (.bool false)])
 (zs (zr [3,4] [zL 6 2 1,zk 7 273 [.t 6],zm 5 7,zx 8 0 5,zx 9 1 5,zq 3 8,zm 4 9])
 (zs (zr [2] [zm 10 4,zd 11 .eql 10 (zI 0),zm 12 11,zg 12 true (zq 13 3),zg 12 true (zn 14 13),zg 12 true (zd 15 .eql 14 (zI 0)),zP 16 12 15,zm 2 16])
 .ret))) }
def N243 : aI:={ np:=1,nt:=18,res:=[(2,none),(3,none)],body :=
 (zs (zr [1] [zo 1 0,zc 2 .nils,zc 3 (zI 0)])
 (zs (zr [4,5] [zL 7 2 1,zk 8 280 [.t 7],zm 6 8,zx 9 0 6,zx 10 1 6,zm 4 9,zm 5 10])
 (zs (zs (zr [4,5,12] [zm 11 5,zd 12 .neq 11 (zI 0)])
 (zC 12 (zs (zr [2,3] [zm 13 5,zc 2 .nils,zm 3 13])
 .ret)
 .skip))
 (zs (zr [2,3] [zm 14 4,zy 15 (.nck (.t 14)),zf 16 2 15,zl 17 1 16,zq 2 17,zc 3 (zI 0)])
 .ret)))) }
def N244 : aI:={ np:=1,nt:=18,res:=[(2,none),(3,none)],body :=
 (zs (zr [1] [zo 1 0,zc 2 .nils,zc 3 (zI 0)])
 (zs (zr [4,5] [zL 7 2 1,zk 8 280 [.t 7],zm 6 8,zx 9 0 6,zx 10 1 6,zm 4 9,zm 5 10])
 (zs (zs (zr [4,5,12] [zm 11 5,zd 12 .neq 11 (zI 0)])
 (zC 12 (zs (zr [2,3] [zm 13 5,zc 2 .nils,zm 3 13])
 .ret)
 .skip))
 (zs (zr [2,3] [zm 14 4,zy 15 (.nck (.t 14)),zf 16 3 15,zl 17 1 16,zq 2 17,zc 3 (zI 0)])
 .ret)))) }
def N253 : aI:={ np:=1,nt:=93,res:=[(2,none),(3,none)],body :=
 (zs (zr [1] [zo 1 0,zc 2 .nilp,zc 3 (zI 0)])
 (zs (zr [1,4,5] [zL 13 2 1,zk 14 221 [.t 13],zm 12 14,zx 15 0 12,zx 16 1 12,zq 4 15,zm 5 16])
 (zs (zs (zr [1,4,5,18] [zm 17 5,zd 18 .neq 17 (zI 0)])
 (zC 18 (zs (zr [2,3] [zm 19 5,zc 2 .nilp,zm 3 19])
 .ret)
 .skip))
 (zs (zr [1,6] [zq 20 4,zy 21 (.bld [.nils,.nils,.nils] [(0,1,.t 20)]),zy 22 (.box [] (.t 21)),zm 6 22])
 (zs (zs (zr [1,6,24,25,26] [zf 23 1 1,zl 24 1 23,zn 25 24,zc 26 (zI 0)])
 (.block 0 (.loop (zs (zr [1,6,24,25,26,27] [zb 27 .lss 26 25])
 (zs (zC 27 .skip
 (.exit 0))
 (zs (.block 1 (zs (zr [1,6,8,24,25,26] [zi 28 4 24 26,zL 29 4 28,zy 8 (.alc zA3),zw (.st 4 [] (.t 8) (.t 29))])
 (zs (.reg true [0,1,0,4,15,31,0,64,0,256,960,1984,0,4096,0,16384,61440,126976,0,0,0,1835071,3936255,8388607] [1,6,9,10,11,24,25,26] [zf 30 0 1,zl 31 1 30,zf 32 0 8,zl 33 1 32,zi 34 3 31 33,zL 35 3 34,zf 36 0 1,zl 37 1 36,zf 38 1 8,zl 39 1 38,zi 40 3 37 39,zL 41 3 40,zf 42 0 1,zl 43 1 42,zf 44 2 8,zl 45 1 44,zi 46 3 43 45,zL 47 3 46,zy 9 (.alc zA2),zy 10 (.alc zA2),zy 11 (.alc zA2),zw (.st 3 [] (.t 9) (.t 35)),zw (.st 3 [] (.t 10) (.t 41)),zw (.st 3 [] (.t 11) (.t 47))])
 (zs (.reg true [0,0,2,6,14,0,32,0,128,480,0,1024,4064,8160,16382,32767,65535,131071] [1,6,9,10,11,24,25,26] [zm 48 6,zm 49 6,zy 50 (.nck (.t 49)),zf 51 1 50,zl 52 1 51,zf 53 2 9,zl 54 1 53,zf 55 2 10,zl 56 1 55,zb 57 .add 54 56,zf 58 2 11,zl 59 1 58,zb 60 .add 57 59,zy 61 (.bls 1 1 [zI 0] [] [(0,.t 60)]),zy 62 (.app 1 8 false (.t 52) (.t 61)),zy 63 (.nck (.t 48)),zf 64 1 63,zw (.st 1 [] (.t 64) (.t 62))])
 (.reg true [0,0,2,6,14,0,32,0,128,480,0,1024,4064,0,8192,0,32768,122880,0,262144,1040384,2097120,4194272,8388606,16777215,33554431,67108863] [1,6,24,25,26] [zm 65 6,zm 66 6,zy 67 (.nck (.t 66)),zf 68 2 67,zl 69 1 68,zf 70 0 9,zl 71 1 70,zf 72 0 10,zl 73 1 72,zb 74 .add 71 73,zf 75 0 11,zl 76 1 75,zb 77 .add 74 76,zf 78 1 9,zl 79 1 78,zf 80 1 10,zl 81 1 80,zb 82 .add 79 81,zf 83 1 11,zl 84 1 83,zb 85 .add 82 84,zy 86 (.bld [zI 0,zI 0] [(0,1,.t 77),(1,1,.t 85)]),zy 87 (.bls 2 1 [zI 0,zI 0] [] [(0,.t 86)]),zy 88 (.app 2 16 false (.t 69) (.t 87)),zy 89 (.nck (.t 65)),zf 90 2 89,zw (.st 1 [] (.t 90) (.t 88))])))))
 (zr [1,6,24,25,26] [zd 91 .add 26 (zI 1),zm 26 91])))))))
 (zs (zr [2,3] [zm 92 6,zm 2 92,zc 3 (zI 0)])
 .ret)))))) }
def N254 : aI:={ np:=1,nt:=27,res:=[(2,none)],body :=
 (zs (zr [0] [zc 2 .nils])
 (zs (zr [0,3] [zm 5 0,zy 6 (.nck (.t 5)),zf 7 1 6,zl 8 1 7,zn 9 8,zy 10 (.mks 1 8 [zI 0] (.c (zI 0)) (.t 9)),zq 3 10])
 (zs (zs (zr [0,3,15,16] [zm 11 0,zy 12 (.nck (.t 11)),zf 13 1 12,zl 14 1 13,zn 15 14,zc 16 (zI 0)])
 (.block 0 (.loop (zs (zr [0,3,15,16,17] [zb 17 .lss 16 15])
 (zs (zC 17 .skip
 (.exit 0))
 (zs (.block 1 (zs (zr [0,3,4,15,16] [zm 18 16,zm 4 18])
 (zr [0,3,15,16] [zm 19 3,zm 20 0,zm 21 4,zk 22 256 [.t 20,.t 21],zy 23 (.bls 1 1 [zI 0] [] [(0,.t 22)]),zy 24 (.app 1 8 false (.t 19) (.t 23)),zq 3 24])))
 (zr [0,3,15,16] [zd 25 .add 16 (zI 1),zm 16 25])))))))
 (zs (zr [2] [zq 26 3,zq 2 26])
 .ret)))) }
def N256 : aI:={ np:=2,nt:=67,res:=[(4,none)],body :=
 (zs (zr [0,1] [zc 4 (zI 0)])
 (zs (zr [0,1,5] [zy 5 (.mov (.c (zI (-2))))])
 (zs (zs (zr [0,1,5,15,16] [zm 9 0,zy 10 (.nck (.t 9)),zf 11 0 10,zl 12 1 11,zm 13 1,zi 14 3 12 13,zL 15 3 14,zc 16 (zI 0)])
 (.block 0 (.loop (zs (zr [0,1,5,15,16,17] [zd 17 .lss 16 (zI 3)])
 (zs (zC 17 .skip
 (.exit 0))
 (zs (.block 1 (zs (zr [0,1,5,7,15,16] [zy 18 (.idxA 3 1 false (.t 15) (.t 16)),zm 7 18])
 (zs (zs (.reg true [0,1,3,7,15,31,63,7,255,511,7,1031,3079,7175,7,31751,64519,131071,262143] [0,1,5,7,15,16,37] [zm 19 7,zd 20 .lss 19 (zI 0),zm 21 20,zg 21 false (zm 22 0),zg 21 false (zy 23 (.nck (.t 22))),zg 21 false (zf 24 1 23),zg 21 false (zl 25 1 24),zg 21 false (zm 26 7),zg 21 false (zi 27 1 25 26),zg 21 false (zl 28 1 27),zg 21 false (zm 29 0),zg 21 false (zy 30 (.nck (.t 29))),zg 21 false (zf 31 1 30),zg 21 false (zl 32 1 31),zg 21 false (zm 33 1),zg 21 false (zi 34 1 32 33),zg 21 false (zl 35 1 34),zg 21 false (zb 36 .geq 28 35),zp 37 21 36])
 (zC 37 (.exit 1)
 .skip))
 (zs (zs (zr [0,1,5,7,15,16,39] [zm 38 5,zd 39 .lss 38 (zI 0)])
 (zC 39 (zs (zr [0,1,5,15,16] [zm 40 7,zm 5 40])
 (.exit 1))
 .skip))
 (zs (zr [0,1,5,7,8,15,16] [zm 41 0,zm 42 1,zm 43 7,zm 44 5,zk 45 268 [.t 41,.t 42,.t 43,.t 44],zm 8 45])
 (zs (zr [0,1,5,7,15,16,56] [zm 46 8,zd 47 .gtr 46 (zI 0),zm 48 47,zg 48 false (zm 49 8),zg 48 false (zd 50 .eql 49 (zI 0)),zg 48 false (zm 51 50),zg 51 true (zm 52 7),zg 51 true (zm 53 5),zg 51 true (zb 54 .lss 52 53),zg 48 false (zP 55 51 54),zp 56 48 55])
 (zC 56 (zr [0,1,5,15,16] [zm 57 7,zm 5 57])
 .skip)))))))
 (zr [0,1,5,15,16] [zd 58 .add 16 (zI 1),zm 16 58])))))))
 (zs (zs (zr [5,65] [zm 59 5,zy 60 (.bin .eql (.t 59) (.c (zI (-2)))),zm 61 60,zg 61 true (zm 62 0),zg 61 true (zm 63 1),zg 61 true (zk 64 263 [.t 62,.t 63,(.c (zI (-1)))]),zP 65 61 64])
 (zC 65 (zs (zr [4] [zy 4 (.mov (.c (zI (-1))))])
 .ret)
 .skip))
 (zs (zr [4] [zm 66 5,zm 4 66])
 .ret))))) }
def N257 : aI:={ np:=1,nt:=13,res:=[(2,none)],body :=
 (zs (zr [1] [zo 1 0,zc 2 (.bool false)])
 (zs (zr [2] [zf 3 0 1,zl 4 1 3,zn 5 4,zd 6 .leq 5 (zI 2000),zm 7 6,zg 7 true (zf 8 1 1),zg 7 true (zl 9 1 8),zg 7 true (zn 10 9),zg 7 true (zd 11 .leq 10 (zI 4000)),zP 12 7 11,zm 2 12])
 .ret)) }
def N258 : aI:={ np:=1,nt:=177,res:=[(2,none)],body :=
 (zs (zr [1] [zo 1 0,zc 2 .nils])
 (zs (zr [1,3] [zy 15 (.mks 1 24 [.own 2 []] (.c (zI 7)) (.c (zI 7))),zq 3 15])
 (zs (zs (zr [1,3,4] [zc 4 (zI 0)])
 (.block 0 (.loop (zs (zs (zr [1,3,4,20] [zm 16 4,zf 17 0 1,zl 18 1 17,zn 19 18,zb 20 .lss 16 19])
 (zC 20 .skip
 (.exit 0)))
 (zs (.block 1 (zs (zr [1,3,4,5] [zf 23 0 1,zl 24 1 23,zm 25 4,zi 26 3 24 25,zL 27 3 26,zy 5 (.alc zA2),zw (.st 3 [] (.t 5) (.t 27))])
 (zs (zs (zr [1,3,4,5,30] [zL 28 3 5,zk 29 289 [.t 28],zt 30 29])
 (zC 30 (zs (.reg true [0,0,2,6,0,16,48,112,254,511,1023] [1,3,4] [zm 31 3,zm 32 3,zy 33 (.iadS 1 (.t 32) (.c (zI 1))),zl 34 1 33,zm 35 4,zk 36 290 [.t 35],zy 37 (.bld [zI 0,.str []] [(0,1,(.c (zI 1))),(1,1,.t 36)]),zy 38 (.bls 2 1 [zI 0,.str []] [] [(0,.t 37)]),zy 39 (.app 2 24 false (.t 34) (.t 38)),zy 40 (.iadS 1 (.t 31) (.c (zI 1))),zw (.st 1 [] (.t 40) (.t 39))])
 (.exit 1))
 .skip))
 (zs (zr [1,3,4,5,6] [zc 6 (zI 0)])
 (.block 2 (.loop (zs (zs (zr [1,3,4,5,6,43] [zm 41 6,zm 42 4,zb 43 .lss 41 42])
 (zC 43 .skip
 (.exit 2)))
 (zs (.block 3 (zs (.reg true [0,1,0,7,15,31,63,127,255,127,1023,2047,4095,127,16383,32767,65535] [1,3,4,5,6,62] [zf 46 0 1,zl 47 1 46,zm 48 6,zi 49 3 47 48,zL 50 3 49,zk 51 289 [.t 50],zm 52 51,zg 52 true (zf 53 0 1),zg 52 true (zl 54 1 53),zg 52 true (zm 55 6),zg 52 true (zi 56 3 54 55),zg 52 true (zL 57 3 56),zg 52 true (zk 58 291 [.t 57]),zg 52 true (zL 59 3 5),zg 52 true (zk 60 291 [.t 59]),zg 52 true (zy 61 (.beq false [0,0] (.t 58) (.t 60))),zP 62 52 61])
 (zC 62 (zs (.reg true [0,0,2,6,0,16,48,112,254,511,1023] [1,3,4] [zm 63 3,zm 64 3,zy 65 (.iadS 1 (.t 64) (.c (zI 2))),zl 66 1 65,zm 67 4,zk 68 290 [.t 67],zy 69 (.bld [zI 0,.str []] [(0,1,(.c (zI 2))),(1,1,.t 68)]),zy 70 (.bls 2 1 [zI 0,.str []] [] [(0,.t 69)]),zy 71 (.app 2 24 false (.t 66) (.t 70)),zy 72 (.iadS 1 (.t 63) (.c (zI 2))),zw (.st 1 [] (.t 72) (.t 71))])
 (.exit 2))
 .skip)))
 (zr [1,3,4,5,6] [zm 44 6,zd 45 .add 44 (zI 1),zm 6 45])))))))))
 (zr [1,3,4] [zm 21 4,zd 22 .add 21 (zI 1),zm 4 22]))))))
 (zs (zr [1,3,7] [zy 7 (.nilo 4)])
 (zs (zs (zr [1,3,7,8] [zc 8 (zI 0)])
 (.block 4 (.loop (zs (zs (zr [1,3,7,8,77] [zm 73 8,zf 74 1 1,zl 75 1 74,zn 76 75,zb 77 .lss 73 76])
 (zC 77 .skip
 (.exit 4)))
 (zs (.block 5 (zs (zr [1,3,7,8,9] [zf 80 1 1,zl 81 1 80,zm 82 8,zi 83 4 81 82,zL 84 4 83,zy 9 (.alc zA3),zw (.st 4 [] (.t 9) (.t 84))])
 (zs (zs (zr [1,3,7,8,9,88] [zL 85 2 1,zL 86 4 9,zk 87 292 [.t 85,.t 86],zt 88 87])
 (zC 88 (zs (.reg true [0,0,2,6,0,16,48,112,254,511,1023] [1,3,7,8] [zm 89 3,zm 90 3,zy 91 (.iadS 1 (.t 90) (.c (zI 3))),zl 92 1 91,zm 93 8,zk 94 290 [.t 93],zy 95 (.bld [zI 0,.str []] [(0,1,(.c (zI 3))),(1,1,.t 94)]),zy 96 (.bls 2 1 [zI 0,.str []] [] [(0,.t 95)]),zy 97 (.app 2 24 false (.t 92) (.t 96)),zy 98 (.iadS 1 (.t 89) (.c (zI 3))),zw (.st 1 [] (.t 98) (.t 97))])
 (.exit 5))
 .skip))
 (zs (zs (zr [1,3,7,8,9,102] [zL 99 2 1,zL 100 4 9,zk 101 293 [.t 99,.t 100],zd 102 .leq 101 (zI 0)])
 (zC 102 (zs (.reg true [0,0,2,6,0,16,48,112,254,511,1023] [1,3,7,8] [zm 103 3,zm 104 3,zy 105 (.iadS 1 (.t 104) (.c (zI 4))),zl 106 1 105,zm 107 8,zk 108 290 [.t 107],zy 109 (.bld [zI 0,.str []] [(0,1,(.c (zI 4))),(1,1,.t 108)]),zy 110 (.bls 2 1 [zI 0,.str []] [] [(0,.t 109)]),zy 111 (.app 2 24 false (.t 106) (.t 110)),zy 112 (.iadS 1 (.t 103) (.c (zI 4))),zw (.st 1 [] (.t 112) (.t 111))])
 (.exit 5))
 .skip))
 (zs (zr [1,3,7,8,9,10,11] [zc 10 (.bool false),zc 11 (.bool false)])
 (zs (zs (zr [1,3,7,8,9,10,11,12] [zc 12 (zI 0)])
 (.block 6 (.loop (zs (zs (zr [1,3,7,8,9,10,11,12,116] [zm 113 12,zm 114 7,zn 115 114,zb 116 .lss 113 115])
 (zC 116 .skip
 (.exit 6)))
 (zs (.block 7 (zs (.reg true [0,1,3,3,3,27,59,127,255,511] [1,3,7,8,9,10,11,12] [zm 119 10,zm 120 119,zg 120 false (zL 121 4 9),zg 120 false (zm 122 7),zg 120 false (zm 123 12),zg 120 false (zi 124 4 122 123),zg 120 false (zL 125 4 124),zg 120 false (zk 126 294 [.t 121,.t 125]),zp 127 120 126,zm 10 127])
 (.reg true [0,1,3,3,3,3,51,115,255,511,1023] [1,3,7,8,9,10,11,12] [zm 128 11,zm 129 128,zg 129 false (zL 130 2 1),zg 129 false (zL 131 4 9),zg 129 false (zm 132 7),zg 129 false (zm 133 12),zg 129 false (zi 134 4 132 133),zg 129 false (zL 135 4 134),zg 129 false (zk 136 295 [.t 130,.t 131,.t 135]),zp 137 129 136,zm 11 137])))
 (zr [1,3,7,8,9,10,11,12] [zm 117 12,zd 118 .add 117 (zI 1),zm 12 118]))))))
 (zs (zs (zr [1,3,7,8,9,11,138] [zm 138 10])
 (zC 138 (.reg true [0,0,2,6,0,16,48,112,254,511,1023] [1,3,7,8,9,11] [zm 139 3,zm 140 3,zy 141 (.iadS 1 (.t 140) (.c (zI 5))),zl 142 1 141,zm 143 8,zk 144 290 [.t 143],zy 145 (.bld [zI 0,.str []] [(0,1,(.c (zI 5))),(1,1,.t 144)]),zy 146 (.bls 2 1 [zI 0,.str []] [] [(0,.t 145)]),zy 147 (.app 2 24 false (.t 142) (.t 146)),zy 148 (.iadS 1 (.t 139) (.c (zI 5))),zw (.st 1 [] (.t 148) (.t 147))])
 .skip))
 (zs (zs (zr [1,3,7,8,9,149] [zm 149 11])
 (zC 149 (.reg true [0,0,2,6,0,16,48,112,254,511,1023] [1,3,7,8,9] [zm 150 3,zm 151 3,zy 152 (.iadS 1 (.t 151) (.c (zI 6))),zl 153 1 152,zm 154 8,zk 155 290 [.t 154],zy 156 (.bld [zI 0,.str []] [(0,1,(.c (zI 6))),(1,1,.t 155)]),zy 157 (.bls 2 1 [zI 0,.str []] [] [(0,.t 156)]),zy 158 (.app 2 24 false (.t 153) (.t 157)),zy 159 (.iadS 1 (.t 150) (.c (zI 6))),zw (.st 1 [] (.t 159) (.t 158))])
 .skip))
 (zr [1,3,7,8] [zm 160 7,zL 161 4 9,zy 162 (.bls 4 1 [zI 0,zI 0,zI 0,zI 0] [] [(0,.t 161)]),zy 163 (.app 4 32 false (.t 160) (.t 162)),zq 7 163])))))))))
 (zr [1,3,7,8] [zm 78 8,zd 79 .add 78 (zI 1),zm 8 79]))))))
 (zs (zr [3,13] [zy 13 (.nilo 2)])
 (zs (zs (zr [3,13,14] [zc 14 (zI 0)])
 (.block 8 (.loop (zs (zs (zr [3,13,14,167] [zm 164 14,zm 165 3,zn 166 165,zb 167 .lss 164 166])
 (zC 167 .skip
 (.exit 8)))
 (zs (.block 9 (zr [3,13,14] [zm 170 13,zm 171 3,zm 172 14,zi 173 1 171 172,zl 174 1 173,zy 175 (.app 2 24 false (.t 170) (.t 174)),zq 13 175]))
 (zr [3,13,14] [zm 168 14,zd 169 .add 168 (zI 1),zm 14 169]))))))
 (zs (zr [2] [zq 176 13,zq 2 176])
 .ret)))))))) }
def N261 : aI:={ np:=1,nt:=72,res:=[(2,none)],body :=
 (zs (zr [1] [zo 1 0,zc 2 .nils])
 (zs (zr [1,3] [zy 14 (.mkm 3 2),zm 3 14])
 (zs (zs (zr [1,3,16,17,18] [zf 15 1 1,zl 16 1 15,zn 17 16,zc 18 (zI 0)])
 (.block 0 (.loop (zs (zr [1,3,16,17,18,19] [zb 19 .lss 18 17])
 (zs (zC 19 .skip
 (.exit 0))
 (zs (.block 1 (zs (zr [1,3,4,5,16,17,18] [zm 20 18,zi 21 4 16 18,zL 22 4 21,zy 5 (.alc zA3),zm 4 20,zw (.st 4 [] (.t 5) (.t 22))])
 (zs (zr [1,3,4,5,16,17,18,23] [zc 23 (zI 0)])
 (.block 2 (.loop (zs (zr [1,3,4,5,16,17,18,23,24] [zd 24 .lss 23 (zI 3)])
 (zs (zC 24 .skip
 (.exit 2))
 (zs (.block 3 (zs (zr [1,3,4,5,6,16,17,18,23] [zm 25 23,zm 6 25])
 (zr [1,3,4,5,16,17,18,23] [zm 26 3,zL 27 4 5,zm 28 6,zk 29 298 [.t 27,.t 28],zm 30 4,zw (.mpu (.ints .i64 2) 3 2 (zI 0) (.t 26) (.t 29) (.t 30))])))
 (zr [1,3,4,5,16,17,18,23] [zd 31 .add 23 (zI 1),zm 23 31])))))))))
 (zr [1,3,16,17,18] [zd 32 .add 18 (zI 1),zm 18 32])))))))
 (zs (zr [1,3,7] [zf 33 1 1,zl 34 1 33,zn 35 34,zy 36 (.mks 3 24 [zI 0,zI 0,zI 0] (.t 35) (.t 35)),zq 7 36])
 (zs (zs (zr [3,7,38,39,40] [zf 37 1 1,zl 38 1 37,zn 39 38,zc 40 (zI 0)])
 (.block 4 (.loop (zs (zr [3,7,38,39,40,41] [zb 41 .lss 40 39])
 (zs (zC 41 .skip
 (.exit 4))
 (zs (.block 5 (zs (zr [3,7,8,9,38,39,40] [zm 42 40,zi 43 4 38 40,zL 44 4 43,zy 9 (.alc zA3),zm 8 42,zw (.st 4 [] (.t 9) (.t 44))])
 (zs (zr [3,7,8,9,38,39,40,45] [zc 45 (zI 0)])
 (.block 6 (.loop (zs (zr [3,7,8,9,38,39,40,45,46] [zd 46 .lss 45 (zI 3)])
 (zs (zC 46 .skip
 (.exit 6))
 (zs (.block 7 (zs (zr [3,7,8,9,10,38,39,40,45] [zm 47 45,zm 10 47])
 (zs (zr [3,7,8,9,10,11,38,39,40,45] [zL 48 4 9,zm 49 10,zk 50 298 [.t 48,.t 49],zy 11 (.alc zA1),zw (.st 2 [] (.t 11) (.t 50))])
 (zs (zr [3,7,8,9,10,12,13,38,39,40,45] [zm 52 3,zy 53 (.iadA 2 1 (.t 11) (.c (zI 1))),zl 54 1 53,zy 55 (.iadA 2 1 (.t 11) (.c (zI 0))),zl 56 1 55,zy 57 (.bld [zI 0,zI 0] [(0,1,.t 54),(1,1,.t 56)]),zy 58 (.mpl (.ints .i64 2) 3 2 true (zI 0) (.t 52) (.t 57)),zm 51 58,zx 59 0 51,zx 60 1 51,zm 12 59,zm 13 60])
 (zs (zs (zr [3,7,8,9,10,12,38,39,40,45,62] [zm 61 13,zt 62 61])
 (zC 62 (zr [3,7,8,9,10,12,38,39,40,45] [zy 12 (.mov (.c (zI (-1))))])
 .skip))
 (zr [3,7,8,9,38,39,40,45] [zm 63 7,zm 64 8,zm 65 10,zm 66 12,zi 67 3 63 64,zy 68 (.iadA 3 1 (.t 67) (.t 65)),zw (.st 1 [] (.t 68) (.t 66))]))))))
 (zr [3,7,8,9,38,39,40,45] [zd 69 .add 45 (zI 1),zm 45 69])))))))))
 (zr [3,7,38,39,40] [zd 70 .add 40 (zI 1),zm 40 70])))))))
 (zs (zr [2] [zq 71 7,zq 2 71])
 .ret)))))) }
def N262 : aI:={ np:=2,nt:=19,res:=[(4,none)],body :=
 (zs (zr [0,1] [zc 4 (zI 0)])
 (zs (zs (zr [0,1,7,8] [zm 6 0,zn 7 6,zc 8 (zI 0)])
 (.block 0 (.loop (zs (zr [0,1,7,8,9] [zb 9 .lss 8 7])
 (zs (zC 9 .skip
 (.exit 0))
 (zs (.block 1 (zs (zr [0,1,5,7,8] [zm 10 8,zm 5 10])
 (zs (zr [0,1,5,7,8,16] [zm 11 1,zm 12 0,zm 13 5,zi 14 1 12 13,zl 15 1 14,zb 16 .eql 11 15])
 (zC 16 (zs (zr [4] [zm 17 5,zm 4 17])
 .ret)
 .skip))))
 (zr [0,1,7,8] [zd 18 .add 8 (zI 1),zm 8 18])))))))
 (zs (zr [4] [zy 4 (.mov (.c (zI (-1))))])
 .ret))) }
def N263 : aI:={ np:=3,nt:=16,res:=[(6,none)],body :=
 (zs (zr [0,1,2] [zc 6 (.bool false)])
 (zs (zr [6] [zm 7 0,zy 8 (.nck (.t 7)),zf 9 0 8,zl 10 1 9,zm 11 1,zi 12 3 10 11,zy 13 (.slA 3 1 (.t 12)),zm 14 2,zk 15 223 [.t 13,.t 14],zm 6 15])
 .ret)) }
def N264 : aI:={ np:=3,nt:=73,res:=[(6,none),(7,none)],body :=
 (zs (zr [0,1,2] [zc 6 (zI 0),zc 7 (zI 0)])
 (zs (.reg true [0,1,3,7,0,31,63,0,128,384,896,0,3968,8064,16383,32767] [0,1,2,8] [zm 11 0,zy 12 (.nck (.t 11)),zf 13 1 12,zl 14 1 13,zm 15 1,zi 16 1 14 15,zl 17 1 16,zm 18 0,zy 19 (.nck (.t 18)),zf 20 1 19,zl 21 1 20,zm 22 2,zi 23 1 21 22,zl 24 1 23,zb 25 .sub 17 24,zm 8 25])
 (zs (.reg true [0,1,3,7,0,31,63,127,0,256,768,1792,0,7936,16128,32512,65535,0,131072,393216,917504,0,4063232,8257536,16646144,0,33554432,100663296,234881024,0,1040187392,2113929216,4261412864,8589803520,131071,34359738367] [8,9,10] [zm 26 0,zy 27 (.nck (.t 26)),zf 28 2 27,zl 29 1 28,zm 30 1,zi 31 2 29 30,zf 32 0 31,zl 33 1 32,zm 34 0,zy 35 (.nck (.t 34)),zf 36 2 35,zl 37 1 36,zm 38 2,zi 39 2 37 38,zf 40 0 39,zl 41 1 40,zb 42 .sub 33 41,zm 43 0,zy 44 (.nck (.t 43)),zf 45 2 44,zl 46 1 45,zm 47 1,zi 48 2 46 47,zf 49 1 48,zl 50 1 49,zm 51 0,zy 52 (.nck (.t 51)),zf 53 2 52,zl 54 1 53,zm 55 2,zi 56 2 54 55,zf 57 1 56,zl 58 1 57,zb 59 .sub 50 58,zm 9 42,zm 10 59])
 (zs (zr [6,7] [zm 60 8,zm 61 8,zm 62 8,zy 63 (.un .neg (.t 62)),zy 64 (.mx (.t 61) (.t 63)),zb 65 .mul 60 64,zm 66 9,zm 67 9,zb 68 .mul 66 67,zm 69 10,zm 70 10,zb 71 .mul 69 70,zb 72 .add 68 71,zm 6 65,zm 7 72])
 .ret)))) }
def N266 : aI:={ np:=1,nt:=18,res:=[(2,none)],body :=
 (zs (zr [0] [zc 2 (zI 0)])
 (zs (zr [0,3] [zc 3 (zI 0)])
 (zs (zs (zr [3,6,7,8] [zq 6 0,zn 7 6,zc 8 (zI 0)])
 (.block 0 (.loop (zs (zr [3,6,7,8,9] [zb 9 .lss 8 7])
 (zs (zC 9 .skip
 (.exit 0))
 (zs (.block 1 (zs (zr [3,5,6,7,8] [zi 10 1 6 8,zl 11 1 10,zm 5 11])
 (zs (zr [3,5,6,7,8,14] [zm 12 5,zm 13 3,zb 14 .neq 12 13])
 (zC 14 (zs (zr [2] [zm 15 5,zm 2 15])
 .ret)
 .skip))))
 (zr [3,6,7,8] [zd 16 .add 8 (zI 1),zm 8 16])))))))
 (zs (zr [2] [zm 17 3,zm 2 17])
 .ret)))) }
def N267 : aI:={ np:=2,nt:=20,res:=[(4,none)],body :=
 (zs (zr [0,1] [zc 4 (zI 0)])
 (zs (zr [0,1,5] [zm 7 0,zk 8 299 [.t 7],zm 5 8])
 (zs (zr [0,1,5,6] [zm 9 1,zk 10 299 [.t 9],zm 6 10])
 (zs (zs (zr [0,1,6,11] [zm 11 5])
 (zC 11 (zs (zs (zr [12] [zm 12 6])
 (zC 12 (zs (zr [4] [zc 4 (zI 0)])
 .ret)
 .skip))
 (zs (zr [4] [zy 4 (.mov (.c (zI (-1))))])
 .ret))
 .skip))
 (zs (zs (zr [0,1,13] [zm 13 6])
 (zC 13 (zs (zr [4] [zc 4 (zI 1)])
 .ret)
 .skip))
 (zs (zs (zr [0,1,16] [zm 14 0,zm 15 1,zb 16 .lss 14 15])
 (zC 16 (zs (zr [4] [zy 4 (.mov (.c (zI (-1))))])
 .ret)
 .skip))
 (zs (zs (zr [19] [zm 17 0,zm 18 1,zb 19 .gtr 17 18])
 (zC 19 (zs (zr [4] [zc 4 (zI 1)])
 .ret)
 .skip))
 (zs (zr [4] [zc 4 (zI 0)])
 .ret)))))))) }
def N268 : aI:={ np:=4,nt:=52,res:=[(8,none)],body :=
 (zs (zr [0,1,2,3] [zc 8 (zI 0)])
 (zs (zr [0,1,3,9,10] [zm 20 0,zm 21 1,zm 22 2,zk 23 264 [.t 20,.t 21,.t 22],zm 19 23,zx 24 0 19,zx 25 1 19,zm 9 24,zm 10 25])
 (zs (zr [9,10,11,12] [zm 27 0,zm 28 1,zm 29 3,zk 30 264 [.t 27,.t 28,.t 29],zm 26 30,zx 31 0 26,zx 32 1 26,zm 11 31,zm 12 32])
 (zs (zr [10,11,13] [zm 34 9,zm 35 12,zk 36 99 [.t 34,.t 35],zm 33 36,zx 37 0 33,zx 38 1 33,zy 13 (.alc zA1),zw (.st 2 [] (.t 13) (.t 37)),zm 14 38])
 (zs (zr [13,15] [zm 40 11,zm 41 10,zk 42 99 [.t 40,.t 41],zm 39 42,zx 43 0 39,zx 44 1 39,zy 15 (.alc zA1),zw (.st 2 [] (.t 15) (.t 43)),zm 16 44])
 (zs (zr [17] [zL 46 2 13,zL 47 2 15,zk 48 225 [.t 46,.t 47],zm 45 48,zx 49 0 45,zx 50 1 45,zm 17 49,zm 18 50])
 (zs (zr [8] [zm 51 17,zm 8 51])
 .ret))))))) }
def N273 : aI:={ np:=1,nt:=202,res:=[(2,none),(3,none)],body :=
 (zs (zr [1] [zo 1 0,zc 2 .nils,zc 3 (zI 0)])
 (zs (zs (zr [1,24] [zL 22 2 1,zk 23 302 [.t 22],zt 24 23])
 (zC 24 (zs (zr [2,3] [zc 2 .nils,zc 3 (zI 4)])
 .ret)
 .skip))
 (zs (zr [1,4] [zy 4 (.alc zA6)])
 (zs (zr [1,4,5] [zf 25 0 1,zl 26 1 25,zn 27 26,zy 28 (.mks 1 1 [.bool false] (.t 27) (.t 27)),zy 5 (.alc [.own 1 []]),zw (.st 1 [] (.t 5) (.t 28))])
 (zs (zr [1,4,5,6] [zy 29 (.mkm 4 1),zm 6 29])
 (zs (zs (zr [1,4,5,6,31,32,33] [zf 30 0 1,zl 31 1 30,zn 32 31,zc 33 (zI 0)])
 (.block 0 (.loop (zs (zr [1,4,5,6,31,32,33,34] [zb 34 .lss 33 32])
 (zs (zC 34 .skip
 (.exit 0))
 (zs (.block 1 (zs (zr [1,4,5,6,7,8,31,32,33] [zm 35 33,zi 36 3 31 33,zL 37 3 36,zy 8 (.alc zA2),zm 7 35,zw (.st 3 [] (.t 8) (.t 37))])
 (zs (zs (.reg true [0,0,0,4,12,31,63] [1,4,5,6,7,31,32,33] [zl 38 1 5,zm 39 7,zL 40 3 8,zk 41 303 [.t 40],zt 42 41,zi 43 1 38 39,zw (.st 1 [] (.t 43) (.t 42))])
 (zs (zr [1,4,5,6,7,31,32,33,47] [zl 44 1 5,zm 45 7,zi 46 1 44 45,zl 47 1 46])
 (zC 47 (zs (zr [1,4,5,6,31,32,33] [zy 48 (.iadA 7 1 (.t 4) (.c (zI 1))),zl 49 1 48,zm 50 7,zy 51 (.bls 1 1 [zI 0] [] [(0,.t 50)]),zy 52 (.app 1 8 false (.t 49) (.t 51)),zy 53 (.iadA 7 1 (.t 4) (.c (zI 1))),zw (.st 1 [] (.t 53) (.t 52))])
 (.exit 1))
 .skip)))
 (zs (zr [1,4,5,6,7,9,31,32,33] [zL 54 2 1,zm 55 7,zk 56 304 [.t 54,.t 55],zy 9 (.alc zA1),zw (.st 2 [] (.t 9) (.t 56))])
 (zs (zs (zr [1,4,5,6,7,9,31,32,33,59] [zm 57 6,zL 58 2 9,zy 59 (.mpl (.ints .i64 2) 4 1 false (.bool false) (.t 57) (.t 58))])
 (zC 59 (zr [1,4,5,6,9,31,32,33] [zy 60 (.iadA 7 1 (.t 4) (.c (zI 2))),zl 61 1 60,zm 62 7,zy 63 (.bls 1 1 [zI 0] [] [(0,.t 62)]),zy 64 (.app 1 8 false (.t 61) (.t 63)),zy 65 (.iadA 7 1 (.t 4) (.c (zI 2))),zw (.st 1 [] (.t 65) (.t 64))])
 .skip))
 (zr [1,4,5,6,31,32,33] [zm 66 6,zL 67 2 9,zw (.mpu (.ints .i64 2) 4 1 (.bool false) (.t 66) (.t 67) (.c (.bool true)))]))))))
 (zr [1,4,5,6,31,32,33] [zd 68 .add 33 (zI 1),zm 33 68])))))))
 (zs (zr [1,4,5,10] [zy 69 (.mkm 3 1),zm 10 69])
 (zs (zr [1,4,5,10,11] [zy 11 (.nilo 6)])
 (zs (zs (zr [1,4,5,10,11,71,72,73] [zf 70 1 1,zl 71 1 70,zn 72 71,zc 73 (zI 0)])
 (.block 2 (.loop (zs (zr [1,4,5,10,11,71,72,73,74] [zb 74 .lss 73 72])
 (zs (zC 74 .skip
 (.exit 2))
 (zs (.block 3 (zs (zr [1,4,5,10,11,12,13,71,72,73] [zm 75 73,zi 76 4 71 73,zL 77 4 76,zy 13 (.alc zA3),zm 12 75,zw (.st 4 [] (.t 13) (.t 77))])
 (zs (zr [1,4,5,10,11,12,13,14,71,72,73] [zL 78 4 13,zk 79 305 [.t 78],zy 14 (.alc zA2),zw (.st 3 [] (.t 14) (.t 79))])
 (zs (zs (zr [1,4,5,10,11,12,13,71,72,73,113] [zy 80 (.slM 3 1 (.t 14)),zy 81 (.mk 306 [.t 1,.t 5]),zk 82 11 [.t 80,.t 81],zm 83 82,zg 83 false (zf 84 0 13),zg 83 false (zl 85 1 84),zg 83 false (zf 86 1 13),zg 83 false (zl 87 1 86),zg 83 false (zb 88 .eql 85 87),zp 89 83 88,zm 90 89,zg 90 false (zf 91 1 13),zg 90 false (zl 92 1 91),zg 90 false (zf 93 2 13),zg 90 false (zl 94 1 93),zg 90 false (zb 95 .eql 92 94),zp 96 90 95,zm 97 96,zg 97 false (zf 98 2 13),zg 97 false (zl 99 1 98),zg 97 false (zf 100 0 13),zg 97 false (zl 101 1 100),zg 97 false (zb 102 .eql 99 101),zp 103 97 102,zm 104 103,zg 104 false (zf 105 3 13),zg 104 false (zl 106 1 105),zg 104 false (zd 107 .lss 106 (zI 0)),zp 108 104 107,zm 109 108,zg 109 false (zf 110 3 13),zg 109 false (zl 111 1 110),zg 109 false (zd 112 .geq 111 (zI 16)),zp 113 109 112])
 (zC 113 (zs (zr [1,4,5,10,11,71,72,73] [zy 114 (.iadA 7 1 (.t 4) (.c (zI 3))),zl 115 1 114,zm 116 12,zy 117 (.bls 1 1 [zI 0] [] [(0,.t 116)]),zy 118 (.app 1 8 false (.t 115) (.t 117)),zy 119 (.iadA 7 1 (.t 4) (.c (zI 3))),zw (.st 1 [] (.t 119) (.t 118))])
 (.exit 3))
 .skip))
 (zs (zr [1,4,5,10,11,12,13,15,71,72,73] [zL 120 2 1,zL 121 4 13,zk 122 307 [.t 120,.t 121],zy 15 (.alc zA4),zw (.st 6 [] (.t 15) (.t 122))])
 (zs (zs (zr [1,4,5,10,11,12,13,15,71,72,73,130] [zy 123 (.iadA 3 2 (.t 15) (.c (zI 0))),zL 124 2 123,zy 125 (.iadA 3 2 (.t 15) (.c (zI 1))),zL 126 2 125,zy 127 (.iadA 3 2 (.t 15) (.c (zI 2))),zL 128 2 127,zk 129 308 [.t 124,.t 126,.t 128],zd 130 .leq 129 (zI 0)])
 (zC 130 (zs (zr [1,4,5,10,11,71,72,73] [zy 131 (.iadA 7 1 (.t 4) (.c (zI 4))),zl 132 1 131,zm 133 12,zy 134 (.bls 1 1 [zI 0] [] [(0,.t 133)]),zy 135 (.app 1 8 false (.t 132) (.t 134)),zy 136 (.iadA 7 1 (.t 4) (.c (zI 4))),zw (.st 1 [] (.t 136) (.t 135))])
 (.exit 3))
 .skip))
 (zs (zs (zr [1,4,5,10,11,12,13,15,71,72,73,152] [zm 137 10,zL 138 4 13,zk 139 298 [.t 138,(.c (zI 0))],zy 140 (.mpl (.ints .i64 2) 3 1 false (.bool false) (.t 137) (.t 139)),zm 141 140,zg 141 false (zm 142 10),zg 141 false (zL 143 4 13),zg 141 false (zk 144 298 [.t 143,(.c (zI 1))]),zg 141 false (zy 145 (.mpl (.ints .i64 2) 3 1 false (.bool false) (.t 142) (.t 144))),zp 146 141 145,zm 147 146,zg 147 false (zm 148 10),zg 147 false (zL 149 4 13),zg 147 false (zk 150 298 [.t 149,(.c (zI 2))]),zg 147 false (zy 151 (.mpl (.ints .i64 2) 3 1 false (.bool false) (.t 148) (.t 150))),zp 152 147 151])
 (zC 152 (zr [1,4,5,10,11,12,13,15,71,72,73] [zy 153 (.iadA 7 1 (.t 4) (.c (zI 5))),zl 154 1 153,zm 155 12,zy 156 (.bls 1 1 [zI 0] [] [(0,.t 155)]),zy 157 (.app 1 8 false (.t 154) (.t 156)),zy 158 (.iadA 7 1 (.t 4) (.c (zI 5))),zw (.st 1 [] (.t 158) (.t 157))])
 .skip))
 (zs (zs (zr [1,4,5,10,11,12,13,15,71,72,73,159] [zc 159 (zI 0)])
 (.block 4 (.loop (zs (zr [1,4,5,10,11,12,13,15,71,72,73,159,160] [zd 160 .lss 159 (zI 3)])
 (zs (zC 160 .skip
 (.exit 4))
 (zs (.block 5 (zs (zr [1,4,5,10,11,12,13,15,16,71,72,73,159] [zm 161 159,zm 16 161])
 (zr [1,4,5,10,11,12,13,15,71,72,73,159] [zm 162 10,zL 163 4 13,zm 164 16,zk 165 298 [.t 163,.t 164],zw (.mpu (.ints .i64 2) 3 1 (.bool false) (.t 162) (.t 165) (.c (.bool true)))])))
 (zr [1,4,5,10,11,12,13,15,71,72,73,159] [zd 166 .add 159 (zI 1),zm 159 166])))))))
 (zs (zs (zr [1,4,5,10,11,12,15,71,72,73,169] [zm 167 11,zy 168 (.mk 310 [.t 15]),zk 169 309 [.t 167,.t 168]])
 (zC 169 (zr [1,4,5,10,11,15,71,72,73] [zy 170 (.iadA 7 1 (.t 4) (.c (zI 6))),zl 171 1 170,zm 172 12,zy 173 (.bls 1 1 [zI 0] [] [(0,.t 172)]),zy 174 (.app 1 8 false (.t 171) (.t 173)),zy 175 (.iadA 7 1 (.t 4) (.c (zI 6))),zw (.st 1 [] (.t 175) (.t 174))])
 .skip))
 (zr [1,4,5,10,11,71,72,73] [zm 176 11,zL 177 6 15,zy 178 (.bls 6 1 [zI 0,zI 0,zI 0,zI 0,zI 0,zI 0] [] [(0,.t 177)]),zy 179 (.app 6 48 false (.t 176) (.t 178)),zq 11 179]))))))))))
 (zr [1,4,5,10,11,71,72,73] [zd 180 .add 73 (zI 1),zm 73 180])))))))
 (zs (zr [4,17] [zy 17 (.nilo 2)])
 (zs (zs (zr [17,181,182] [zL 181 7 4,zc 182 (zI 0)])
 (.block 6 (.loop (zs (zr [17,181,182,183] [zd 183 .lss 182 (zI 7)])
 (zs (zC 183 .skip
 (.exit 6))
 (zs (.block 7 (zs (zr [17,18,19,181,182] [zm 184 182,zy 185 (.idxA 7 1 false (.t 181) (.t 182)),zm 18 184,zq 19 185])
 (zs (zr [17,18,181,182,186,187,188] [zq 186 19,zn 187 186,zc 188 (zI 0)])
 (.block 8 (.loop (zs (zr [17,18,181,182,186,187,188,189] [zb 189 .lss 188 187])
 (zs (zC 189 .skip
 (.exit 8))
 (zs (.block 9 (zs (zr [17,18,21,181,182,186,187,188] [zi 190 1 186 188,zl 191 1 190,zm 21 191])
 (zr [17,18,181,182,186,187,188] [zm 192 17,zm 193 18,zm 194 21,zk 195 127 [.t 194],zy 196 (.bld [zI 0,.str []] [(0,1,.t 193),(1,1,.t 195)]),zy 197 (.bls 2 1 [zI 0,.str []] [] [(0,.t 196)]),zy 198 (.app 2 24 false (.t 192) (.t 197)),zq 17 198])))
 (zr [17,18,181,182,186,187,188] [zd 199 .add 188 (zI 1),zm 188 199])))))))))
 (zr [17,181,182] [zd 200 .add 182 (zI 1),zm 182 200])))))))
 (zs (zr [2,3] [zq 201 17,zq 2 201,zc 3 (zI 0)])
 .ret)))))))))))) }
def N280 : aI:={ np:=1,nt:=128,res:=[(2,none),(3,none)],body :=
 (zs (zr [1] [zo 1 0,zc 2 .nilp,zc 3 (zI 0)])
 (zs (zr [1,4,5] [zL 16 2 1,zk 17 221 [.t 16],zm 15 17,zx 18 0 15,zx 19 1 15,zq 4 18,zm 5 19])
 (zs (zs (zr [1,4,5,21] [zm 20 5,zd 21 .neq 20 (zI 0)])
 (zC 21 (zs (zr [2,3] [zm 22 5,zc 2 .nilp,zm 3 22])
 .ret)
 .skip))
 (zs (zr [4,5,6] [zL 24 2 1,zk 25 220 [.t 24],zm 23 25,zx 26 0 23,zx 27 1 23,zq 6 26,zm 5 27])
 (zs (zs (zr [4,5,6,29] [zm 28 5,zd 29 .neq 28 (zI 0)])
 (zC 29 (zs (zr [2,3] [zm 30 5,zc 2 .nilp,zm 3 30])
 .ret)
 .skip))
 (zs (zr [4,6,7] [zm 31 4,zm 32 6,zm 33 6,zy 34 (.callF 42 [.t 33]),zy 35 (.blsF 1 1 [zI 0] [(0,(.c (zI (-1))))]),zm 36 6,zn 37 36,zy 38 (.callF 315 [.t 35,.t 37]),zy 39 (.bld [.nils,.nils,.nils,.nils] [(0,1,.t 31),(1,1,.t 32),(2,1,.t 34),(3,1,.t 38)]),zo 40 39,zm 7 40])
 (zs (zr [4,6,7,8] [zm 41 7,zy 42 (.nck (.t 41)),zf 43 2 42,zl 44 1 43,zy 45 (.bld [.nils,.nils] [(1,1,.t 44)]),zy 46 (.boxK 7 (.t 45)),zm 8 46])
 (zs (zr [4,7,8,9] [zq 47 6,zn 48 47,zy 49 (.mks 1 1 [.bool false] (.t 48) (.t 48)),zq 9 49])
 (zs (zs (zr [4,7,8,9,50,51,52] [zm 50 4,zn 51 50,zc 52 (zI 0)])
 (.block 0 (.loop (zs (zr [4,7,8,9,50,51,52,53] [zb 53 .lss 52 51])
 (zs (zC 53 .skip
 (.exit 0))
 (zs (.block 1 (zs (zr [4,7,8,9,10,11,50,51,52] [zm 54 52,zi 55 3 50 52,zL 56 3 55,zy 11 (.alc zA2),zm 10 54,zw (.st 3 [] (.t 11) (.t 56))])
 (zs (zr [4,7,8,9,10,50,51,52,58] [zy 57 (.slM 3 1 (.t 11)),zk 58 223 [.t 57,(.c (zI (-1)))]])
 (zC 58 (zs (zr [4,7,8,9,10,50,51,52] [zm 59 9,zm 60 10,zi 61 1 59 60,zw (.st 1 [] (.t 61) (.c (.bool true)))])
 (zr [4,7,8,9,50,51,52] [zm 62 8,zy 63 (.mkI 20 (.t 62)),zm 64 10,zy 65 (.mkI 2 (.t 64)),zy 66 (.callQ 316 7 (.t 63) [.t 65])]))
 .skip))))
 (zr [4,7,8,9,50,51,52] [zd 67 .add 52 (zI 1),zm 52 67])))))))
 (zs (.block 2 (.loop (zs (zs (zr [4,7,8,9,70] [zm 68 8,zk 69 317 [.t 68],zd 70 .gtr 69 (zI 0)])
 (zC 70 .skip
 (.exit 2)))
 (.block 3 (zs (zr [4,7,8,9,12] [zm 71 8,zy 72 (.mkI 20 (.t 71)),zy 73 (.callQ 318 7 (.t 72) []),zy 74 (.tya 2 (.t 73)),zm 12 74])
 (zs (zr [4,7,8,9,12,78,79] [zm 75 4,zm 76 12,zi 77 3 75 76,zL 78 3 77,zc 79 (zI 0)])
 (.block 4 (.loop (zs (zr [4,7,8,9,12,78,79,80] [zd 80 .lss 79 (zI 3)])
 (zs (zC 80 .skip
 (.exit 4))
 (zs (.block 5 (zs (zr [4,7,8,9,12,14,78,79] [zy 81 (.idxA 3 1 false (.t 78) (.t 79)),zm 14 81])
 (zs (zs (zr [4,7,8,9,12,14,78,79,89] [zm 82 14,zy 83 (.bin .eql (.t 82) (.c (zI (-1)))),zm 84 83,zg 84 false (zm 85 9),zg 84 false (zm 86 14),zg 84 false (zi 87 1 85 86),zg 84 false (zl 88 1 87),zp 89 84 88])
 (zC 89 (.exit 5)
 .skip))
 (zs (zr [4,7,8,9,12,14,78,79] [zm 90 9,zm 91 14,zi 92 1 90 91,zw (.st 1 [] (.t 92) (.c (.bool true)))])
 (zs (.reg true [0,1,3,7,0,0,32,96,224,0,0,0,2048,6144,14336,0,63488,129024,0,262144,786432,1835008,0,8126464,16515072,33552384,33553919,100662783,268435455,536870911] [4,7,8,9,12,14,78,79] [zm 93 7,zy 94 (.nck (.t 93)),zf 95 3 94,zl 96 1 95,zm 97 14,zm 98 7,zy 99 (.nck (.t 98)),zf 100 2 99,zl 101 1 100,zm 102 14,zm 103 12,zm 104 7,zy 105 (.nck (.t 104)),zf 106 2 105,zl 107 1 106,zm 108 12,zi 109 1 107 108,zl 110 1 109,zm 111 7,zy 112 (.nck (.t 111)),zf 113 1 112,zl 114 1 113,zm 115 14,zi 116 1 114 115,zl 117 1 116,zy 118 (.mx (.t 110) (.t 117)),zi 119 1 96 97,zw (.st 1 [] (.t 119) (.t 103)),zi 120 1 101 102,zw (.st 1 [] (.t 120) (.t 118))])
 (zr [4,7,8,9,12,78,79] [zm 121 8,zy 122 (.mkI 20 (.t 121)),zm 123 14,zy 124 (.mkI 2 (.t 123)),zy 125 (.callQ 316 7 (.t 122) [.t 124])]))))))
 (zr [4,7,8,9,12,78,79] [zd 126 .add 79 (zI 1),zm 79 126]))))))))))))
 (zs (zr [2,3] [zm 127 7,zm 2 127,zc 3 (zI 0)])
 .ret))))))))))) }
def N285 : aI:={ np:=2,nt:=27,res:=[(4,none)],body :=
 (zs (zr [2,3] [zo 2 0,zo 3 1,zc 4 .nils])
 (zs (.reg true [0,1,0,4,15,31,63,0,128,0,512,1920,3968,8191,0,16384,0,65536,245760,507904,1048575,2097151,4194303] [4] [zf 5 0 2,zl 6 1 5,zf 7 0 3,zl 8 1 7,zi 9 3 6 8,zL 10 3 9,zk 11 291 [.t 10],zf 12 0 2,zl 13 1 12,zf 14 1 3,zl 15 1 14,zi 16 3 13 15,zL 17 3 16,zk 18 291 [.t 17],zf 19 0 2,zl 20 1 19,zf 21 2 3,zl 22 1 21,zi 23 3 20 22,zL 24 3 23,zk 25 291 [.t 24],zy 26 (.bls 2 3 [zI 0,zI 0] [] [(0,.t 11),(1,.t 18),(2,.t 25)]),zq 4 26])
 .ret)) }
def N286 : aI:={ np:=3,nt:=30,res:=[(6,none)],body :=
 (zs (zr [3,4,5] [zo 3 0,zo 4 1,zo 5 2,zc 6 (zI 0)])
 (zs (zr [6] [zf 7 0 4,zl 8 1 7,zf 9 0 3,zl 10 1 9,zb 11 .sub 8 10,zf 12 1 5,zl 13 1 12,zf 14 1 3,zl 15 1 14,zb 16 .sub 13 15,zb 17 .mul 11 16,zf 18 1 4,zl 19 1 18,zf 20 1 3,zl 21 1 20,zb 22 .sub 19 21,zf 23 0 5,zl 24 1 23,zf 25 0 3,zl 26 1 25,zb 27 .sub 24 26,zb 28 .mul 22 27,zb 29 .sub 17 28,zm 6 29])
 .ret)) }
def N289 : aI:={ np:=1,nt:=31,res:=[(2,none)],body :=
 (zs (zr [1] [zo 1 0,zc 2 (.bool false)])
 (zs (zr [2] [zf 3 0 1,zl 4 1 3,zy 5 (.bin .geq (.t 4) (.c (zI (-16777216)))),zm 6 5,zg 6 true (zf 7 0 1),zg 6 true (zl 8 1 7),zg 6 true (zd 9 .leq 8 (zI 16777216)),zP 10 6 9,zm 11 10,zg 11 true (zf 12 1 1),zg 11 true (zl 13 1 12),zg 11 true (zy 14 (.bin .geq (.t 13) (.c (zI (-16777216))))),zP 15 11 14,zm 16 15,zg 16 true (zf 17 1 1),zg 16 true (zl 18 1 17),zg 16 true (zd 19 .leq 18 (zI 16777216)),zP 20 16 19,zm 21 20,zg 21 true (zf 22 2 1),zg 21 true (zl 23 1 22),zg 21 true (zy 24 (.bin .geq (.t 23) (.c (zI (-4194304))))),zP 25 21 24,zm 26 25,zg 26 true (zf 27 2 1),zg 26 true (zl 28 1 27),zg 26 true (zd 29 .leq 28 (zI 4194304)),zP 30 26 29,zm 2 30])
 .ret)) }
def N290 : aI:={ np:=1,nt:=21,res:=[(2,none)],body :=
 (zs (zr [0] [zc 2 (.str [])])
 (zs (zr [0,3] [zc 3 (.str [])])
 (zs (.block 0 (.loop (zs (zs (zr [0,3,9] [zm 4 0,zd 5 .gtr 4 (zI 0),zm 6 5,zg 6 false (zm 7 3),zg 6 false (zd 8 .eql 7 (.str [])),zp 9 6 8])
 (zC 9 .skip
 (.exit 0)))
 (.block 1 (zs (zr [0,3] [zm 10 0,zd 11 .rem 10 (zI 10),zy 12 (.bin .add (.c (zI 48)) (.t 11)),zy 13 (.conv .u8 (.t 12)),zy 14 (.blsF 1 1 [.int .u8 0] [(0,.t 13)]),zy 15 (.cvS (.t 14)),zm 16 3,zb 17 .add 15 16,zm 3 17])
 (zr [0,3] [zm 18 0,zd 19 .quo 18 (zI 10),zm 0 19]))))))
 (zs (zr [2] [zm 20 3,zm 2 20])
 .ret)))) }
def N291 : aI:={ np:=1,nt:=8,res:=[(2,some (2,true))],body :=
 (zs (zr [1,2] [zo 1 0,zy 2 (.alc zA1)])
 (zs (zr [2] [zf 3 0 1,zl 4 1 3,zf 5 1 1,zl 6 1 5,zy 7 (.bld [zI 0,zI 0] [(0,1,.t 4),(1,1,.t 6)]),zw (.st 2 [] (.t 2) (.t 7))])
 .ret)) }
def N292 : aI:={ np:=2,nt:=66,res:=[(4,none)],body :=
 (zs (zr [2,3] [zo 2 0,zo 3 1,zc 4 (.bool false)])
 (zs (zr [2,3,5] [zf 7 0 3,zl 8 1 7,zf 9 1 3,zl 10 1 9,zf 11 2 3,zl 12 1 11,zy 13 (.bls 1 3 [zI 0] [] [(0,.t 8),(1,.t 10),(2,.t 12)]),zq 5 13])
 (zs (zs (zr [2,3,5,6] [zc 6 (zI 0)])
 (.block 0 (.loop (zs (zs (zr [2,3,5,6,15] [zm 14 6,zd 15 .lss 14 (zI 3)])
 (zC 15 .skip
 (.exit 0)))
 (zs (.block 1 (zs (.reg true [0,0,3,7,15,31,63,63,255,511,63,1087,3135,8191,16383,32767,65535,65535,262143,524287,65535,65535,2162687,6356991,15794175,32571391,67108863,134217727,268435455,536870911,1073741823,536870911,536870911,6979321855,15569256447,34359738367,68719476735,137438953471,274877906943,549755813887] [2,3,5,6,57] [zm 18 5,zm 19 6,zi 20 1 18 19,zl 21 1 20,zd 22 .lss 21 (zI 0),zm 23 22,zg 23 false (zm 24 5),zg 23 false (zm 25 6),zg 23 false (zi 26 1 24 25),zg 23 false (zl 27 1 26),zg 23 false (zf 28 0 2),zg 23 false (zl 29 1 28),zg 23 false (zn 30 29),zg 23 false (zb 31 .geq 27 30),zp 32 23 31,zm 33 32,zg 33 false (zm 34 5),zg 33 false (zm 35 6),zg 33 false (zi 36 1 34 35),zg 33 false (zl 37 1 36),zg 33 false (zm 38 5),zg 33 false (zm 39 6),zg 33 false (zd 40 .add 39 (zI 1)),zg 33 false (zd 41 .rem 40 (zI 3)),zg 33 false (zi 42 1 38 41),zg 33 false (zl 43 1 42),zg 33 false (zb 44 .eql 37 43),zp 45 33 44,zm 46 45,zg 46 false (zf 47 0 2),zg 46 false (zl 48 1 47),zg 46 false (zm 49 5),zg 46 false (zm 50 6),zg 46 false (zi 51 1 49 50),zg 46 false (zl 52 1 51),zg 46 false (zi 53 3 48 52),zg 46 false (zL 54 3 53),zg 46 false (zk 55 289 [.t 54]),zg 46 false (zt 56 55),zp 57 46 56])
 (zC 57 (zs (zr [4] [zc 4 (.bool false)])
 .ret)
 .skip)))
 (zr [2,3,5,6] [zm 16 6,zd 17 .add 16 (zI 1),zm 6 17]))))))
 (zs (zr [4] [zf 58 3 3,zl 59 1 58,zd 60 .geq 59 (zI 0),zm 61 60,zg 61 true (zf 62 3 3),zg 61 true (zl 63 1 62),zg 61 true (zd 64 .lss 63 (zI 16)),zP 65 61 64,zm 4 65])
 .ret)))) }
def N293 : aI:={ np:=2,nt:=19,res:=[(4,none)],body :=
 (zs (zr [2,3] [zo 2 0,zo 3 1,zc 4 (zI 0)])
 (zs (zr [5] [zL 6 2 2,zL 7 4 3,zk 8 285 [.t 6,.t 7],zq 5 8])
 (zs (.reg true [0,1,3,0,8,24,0,64,192,511,1023] [4] [zm 9 5,zy 10 (.iadS 2 (.t 9) (.c (zI 0))),zL 11 2 10,zm 12 5,zy 13 (.iadS 2 (.t 12) (.c (zI 1))),zL 14 2 13,zq 15 5,zy 16 (.iadS 2 (.t 15) (.c (zI 2))),zL 17 2 16,zk 18 286 [.t 11,.t 14,.t 17],zm 4 18])
 .ret))) }
def N294 : aI:={ np:=2,nt:=33,res:=[(4,none)],body :=
 (zs (zr [2,3] [zo 2 0,zo 3 1,zc 4 (.bool false)])
 (zs (zs (zr [2,3,5] [zc 5 (zI 0)])
 (.block 0 (.loop (zs (zs (zr [2,3,5,8] [zm 7 5,zd 8 .lss 7 (zI 3)])
 (zC 8 .skip
 (.exit 0)))
 (zs (.block 1 (zs (zr [2,3,5,6] [zc 6 (zI 0)])
 (.block 2 (.loop (zs (zs (zr [2,3,5,6,12] [zm 11 6,zd 12 .lss 11 (zI 3)])
 (zC 12 .skip
 (.exit 2)))
 (zs (.block 3 (zs (.reg true [0,0,3,0,0,31,63,127,255,255,767,2047,255,255,8447,32767,65535,131071] [2,3,5,6,32] [zL 15 4 2,zm 16 5,zk 17 323 [.t 15,.t 16],zL 18 4 3,zm 19 6,zk 20 323 [.t 18,.t 19],zb 21 .eql 17 20,zm 22 21,zg 22 true (zL 23 4 2),zg 22 true (zm 24 5),zg 22 true (zd 25 .add 24 (zI 1)),zg 22 true (zk 26 323 [.t 23,.t 25]),zg 22 true (zL 27 4 3),zg 22 true (zm 28 6),zg 22 true (zd 29 .add 28 (zI 1)),zg 22 true (zk 30 323 [.t 27,.t 29]),zg 22 true (zb 31 .eql 26 30),zP 32 22 31])
 (zC 32 (zs (zr [4] [zc 4 (.bool true)])
 .ret)
 .skip)))
 (zr [2,3,5,6] [zm 13 6,zd 14 .add 13 (zI 1),zm 6 14])))))))
 (zr [2,3,5] [zm 9 5,zd 10 .add 9 (zI 1),zm 5 10]))))))
 (zs (zr [4] [zc 4 (.bool false)])
 .ret))) }
def N295 : aI:={ np:=3,nt:=25,res:=[(6,none)],body :=
 (zs (zr [3,4,5] [zo 3 0,zo 4 1,zo 5 2,zc 6 (.bool false)])
 (zs (.reg true [0,0,3,0,0,31,63,127] [7,8] [zL 9 2 3,zL 10 4 4,zk 11 285 [.t 9,.t 10],zL 12 2 3,zL 13 4 5,zk 14 285 [.t 12,.t 13],zq 7 11,zq 8 14])
 (zs (zr [6] [zm 15 7,zm 16 8,zk 17 324 [.t 15,.t 16],zt 18 17,zm 19 18,zg 19 true (zq 20 8),zg 19 true (zq 21 7),zg 19 true (zk 22 324 [.t 20,.t 21]),zg 19 true (zt 23 22),zP 24 19 23,zm 6 24])
 .ret))) }
def N298 : aI:={ np:=2,nt:=17,res:=[(4,some (2,true))],body :=
 (zs (zr [1,2,4] [zo 2 0,zy 4 (.alc zA1)])
 (zs (zr [1,4,5] [zL 6 4 2,zk 7 305 [.t 6],zy 5 (.alc zA2),zw (.st 3 [] (.t 5) (.t 7))])
 (zs (.reg true [0,1,3,0,8,24,56,120,255,511] [4] [zm 8 1,zy 9 (.iadA 3 1 (.t 5) (.t 8)),zl 10 1 9,zm 11 1,zd 12 .add 11 (zI 1),zd 13 .rem 12 (zI 3),zy 14 (.iadA 3 1 (.t 5) (.t 13)),zl 15 1 14,zy 16 (.bld [zI 0,zI 0] [(0,1,.t 10),(1,1,.t 15)]),zw (.st 2 [] (.t 4) (.t 16))])
 .ret))) }
def N299 : aI:={ np:=1,nt:=6,res:=[(2,none)],body :=
 (zs (zr [0] [zc 2 (.bool false)])
 (zs (zr [2] [zm 3 0,zm 4 0,zb 5 .neq 3 4,zm 2 5])
 .ret)) }
def N302 : aI:={ np:=1,nt:=13,res:=[(2,none)],body :=
 (zs (zr [1] [zo 1 0,zc 2 (.bool false)])
 (zs (zr [2] [zf 3 0 1,zl 4 1 3,zn 5 4,zd 6 .leq 5 (zI 2000),zm 7 6,zg 7 true (zf 8 1 1),zg 7 true (zl 9 1 8),zg 7 true (zn 10 9),zg 7 true (zd 11 .leq 10 (zI 4000)),zP 12 7 11,zm 2 12])
 .ret)) }
def N303 : aI:={ np:=1,nt:=19,res:=[(2,none)],body :=
 (zs (zr [1] [zo 1 0,zc 2 (.bool false)])
 (zs (zr [2] [zf 3 0 1,zl 4 1 3,zf 5 1 1,zl 6 1 5,zy 7 (.bld [zI 0,zI 0] [(0,1,.t 4),(1,1,.t 6)]),zk 8 313 [.t 7],zm 9 8,zg 9 true (zf 10 2 1),zg 9 true (zl 11 1 10),zg 9 true (zy 12 (.bin .geq (.t 11) (.c (zI (-4194304))))),zP 13 9 12,zm 14 13,zg 14 true (zf 15 2 1),zg 14 true (zl 16 1 15),zg 14 true (zd 17 .leq 16 (zI 4194304)),zP 18 14 17,zm 2 18])
 .ret)) }
def N304 : aI:={ np:=2,nt:=18,res:=[(4,some (2,true))],body :=
 (zs (zr [1,2,4] [zo 2 0,zy 4 (.alc zA1)])
 (zs (.reg true [0,1,0,7,15,31,0,64,0,448,960,1984,4095,8191] [4] [zf 5 0 2,zl 6 1 5,zm 7 1,zi 8 3 6 7,zf 9 0 8,zl 10 1 9,zf 11 0 2,zl 12 1 11,zm 13 1,zi 14 3 12 13,zf 15 1 14,zl 16 1 15,zy 17 (.bld [zI 0,zI 0] [(0,1,.t 10),(1,1,.t 16)]),zw (.st 2 [] (.t 4) (.t 17))])
 .ret)) }
def N305 : aI:={ np:=1,nt:=10,res:=[(2,some (3,true))],body :=
 (zs (zr [1,2] [zo 1 0,zy 2 (.alc zA2)])
 (zs (zr [2] [zf 3 0 1,zl 4 1 3,zf 5 1 1,zl 6 1 5,zf 7 2 1,zl 8 1 7,zy 9 (.bld [zI 0,zI 0,zI 0] [(0,1,.t 4),(1,1,.t 6),(2,1,.t 8)]),zw (.st 3 [] (.t 2) (.t 9))])
 .ret)) }
def N306 : aI:={ np:=3,nt:=20,res:=[(4,none)],body :=
 (zs (zr [0,1,2] [zc 4 (.bool false)])
 (zs (zr [4] [zm 5 0,zd 6 .lss 5 (zI 0),zm 7 6,zg 7 false (zm 8 0),zg 7 false (zf 9 0 1),zg 7 false (zl 10 1 9),zg 7 false (zn 11 10),zg 7 false (zb 12 .geq 8 11),zp 13 7 12,zm 14 13,zg 14 false (zl 15 1 2),zg 14 false (zm 16 0),zg 14 false (zi 17 1 15 16),zg 14 false (zl 18 1 17),zp 19 14 18,zm 4 19])
 .ret)) }
def N307 : aI:={ np:=2,nt:=18,res:=[(4,some (6,true))],body :=
 (zs (zr [2,3,4] [zo 2 0,zo 3 1,zy 4 (.alc zA4)])
 (zs (.reg true [0,0,2,7,0,0,32,127,0,0,512,2047,4095,8191] [4] [zL 5 2 2,zf 6 0 3,zl 7 1 6,zk 8 304 [.t 5,.t 7],zL 9 2 2,zf 10 1 3,zl 11 1 10,zk 12 304 [.t 9,.t 11],zL 13 2 2,zf 14 2 3,zl 15 1 14,zk 16 304 [.t 13,.t 15],zy 17 (.bld [zI 0,zI 0,zI 0,zI 0,zI 0,zI 0] [(0,2,.t 8),(2,2,.t 12),(4,2,.t 16)]),zw (.st 6 [] (.t 4) (.t 17))])
 .ret)) }
def N308 : aI:={ np:=3,nt:=30,res:=[(6,none)],body :=
 (zs (zr [3,4,5] [zo 3 0,zo 4 1,zo 5 2,zc 6 (zI 0)])
 (zs (zr [6] [zf 7 0 4,zl 8 1 7,zf 9 0 3,zl 10 1 9,zb 11 .sub 8 10,zf 12 1 5,zl 13 1 12,zf 14 1 3,zl 15 1 14,zb 16 .sub 13 15,zb 17 .mul 11 16,zf 18 1 4,zl 19 1 18,zf 20 1 3,zl 21 1 20,zb 22 .sub 19 21,zf 23 0 5,zl 24 1 23,zf 25 0 3,zl 26 1 25,zb 27 .sub 24 26,zb 28 .mul 22 27,zb 29 .sub 17 28,zm 6 29])
 .ret)) }
def N309 : aI:={ np:=2,nt:=9,res:=[(4,none)],body :=
 (zs (zr [0,1] [zc 4 (.bool false)])
 (zs (zr [4] [zq 5 0,zm 6 1,zk 7 328 [.t 5,.t 6],zd 8 .geq 7 (zI 0),zm 4 8])
 .ret)) }
def N310 : aI:={ np:=2,nt:=14,res:=[(3,none)],body :=
 (zs (zr [1,2] [zo 2 0,zc 3 (.bool false)])
 (zs (zr [3] [zL 4 6 1,zL 5 6 2,zk 6 311 [.t 4,.t 5],zt 7 6,zm 8 7,zg 8 true (zL 9 6 2),zg 8 true (zL 10 6 1),zg 8 true (zk 11 311 [.t 9,.t 10]),zg 8 true (zt 12 11),zP 13 8 12,zm 3 13])
 .ret)) }
def N311 : aI:={ np:=2,nt:=42,res:=[(4,none)],body :=
 (zs (zr [2,3] [zo 2 0,zo 3 1,zc 4 (.bool false)])
 (zs (zs (zr [2,3,8] [zc 8 (zI 0)])
 (.block 0 (.loop (zs (zr [2,3,8,9] [zd 9 .lss 8 (zI 3)])
 (zs (zC 9 .skip
 (.exit 0))
 (zs (.block 1 (zs (zr [2,3,5,8] [zm 10 8,zm 5 10])
 (zs (.reg true [0,1,3,0,8,24,56,120,0,0,775,2047] [2,3,6,7,8] [zm 11 5,zy 12 (.iadA 3 2 (.t 2) (.t 11)),zL 13 2 12,zm 14 5,zd 15 .add 14 (zI 1),zd 16 .rem 15 (zI 3),zy 17 (.iadA 3 2 (.t 2) (.t 16)),zL 18 2 17,zy 6 (.alc zA1),zy 7 (.alc zA1),zw (.st 2 [] (.t 6) (.t 13)),zw (.st 2 [] (.t 7) (.t 18))])
 (zs (zr [2,3,8,40] [zL 19 2 6,zL 20 2 7,zy 21 (.iadA 3 2 (.t 3) (.c (zI 0))),zL 22 2 21,zk 23 308 [.t 19,.t 20,.t 22],zd 24 .leq 23 (zI 0),zm 25 24,zg 25 true (zL 26 2 6),zg 25 true (zL 27 2 7),zg 25 true (zy 28 (.iadA 3 2 (.t 3) (.c (zI 1)))),zg 25 true (zL 29 2 28),zg 25 true (zk 30 308 [.t 26,.t 27,.t 29]),zg 25 true (zd 31 .leq 30 (zI 0)),zP 32 25 31,zm 33 32,zg 33 true (zL 34 2 6),zg 33 true (zL 35 2 7),zg 33 true (zy 36 (.iadA 3 2 (.t 3) (.c (zI 2)))),zg 33 true (zL 37 2 36),zg 33 true (zk 38 308 [.t 34,.t 35,.t 37]),zg 33 true (zd 39 .leq 38 (zI 0)),zP 40 33 39])
 (zC 40 (zs (zr [4] [zc 4 (.bool true)])
 .ret)
 .skip)))))
 (zr [2,3,8] [zd 41 .add 8 (zI 1),zm 8 41])))))))
 (zs (zr [4] [zc 4 (.bool false)])
 .ret))) }
def N313 : aI:={ np:=1,nt:=21,res:=[(2,none)],body :=
 (zs (zr [1] [zo 1 0,zc 2 (.bool false)])
 (zs (zr [2] [zf 3 0 1,zl 4 1 3,zy 5 (.bin .geq (.t 4) (.c (zI (-16777216)))),zm 6 5,zg 6 true (zf 7 0 1),zg 6 true (zl 8 1 7),zg 6 true (zd 9 .leq 8 (zI 16777216)),zP 10 6 9,zm 11 10,zg 11 true (zf 12 1 1),zg 11 true (zl 13 1 12),zg 11 true (zy 14 (.bin .geq (.t 13) (.c (zI (-16777216))))),zP 15 11 14,zm 16 15,zg 16 true (zf 17 1 1),zg 16 true (zl 18 1 17),zg 16 true (zd 19 .leq 18 (zI 16777216)),zP 20 16 19,zm 2 20])
 .ret)) }
def N315 : aI:={ np:=2,nt:=48,res:=[(4,none)],body :=
 (zs (zr [0,1] [zc 4 .nils])
 (zs (zs (zr [0,1,10] [zm 9 1,zd 10 .lss 9 (zI 0)])
 (zC 10 (zr [0,1] [zy 11 (.dead),zw (.dead)])
 .skip))
 (zs (zr [0,5,6] [zm 13 0,zn 14 13,zy 15 (.conv .u64 (.t 14)),zm 16 1,zy 17 (.conv .u64 (.t 16)),zk 18 333 [.t 15,.t 17],zm 12 18,zx 19 0 12,zx 20 1 12,zm 5 19,zm 6 20])
 (zs (zs (zr [0,6,26] [zm 21 5,zd 22 .gtr 21 (.int .u64 0),zm 23 22,zg 23 false (zm 24 6),zg 23 false (zd 25 .gtr 24 (.int .u64 9223372036854775807)),zp 26 23 25])
 (zC 26 (zr [0,6] [zy 27 (.dead),zw (.dead)])
 .skip))
 (zs (zr [0,7] [zm 28 6,zy 29 (.conv .i64 (.t 28)),zy 30 (.mks 1 8 [zI 0] (.t 29) (.t 29)),zq 7 30])
 (zs (zr [7,8] [zm 31 7,zq 32 0,zy 33 (.cpy 1 (.t 31) (.t 32)),zm 8 33])
 (zs (.block 0 (.loop (zs (zs (zr [7,8,37] [zm 34 8,zm 35 7,zn 36 35,zb 37 .lss 34 36])
 (zC 37 .skip
 (.exit 0)))
 (.block 1 (.reg true [0,0,0,6,0,0,48,126,255,511] [7,8] [zm 38 8,zm 39 7,zm 40 8,zy 41 (.slc 1 (.t 39) (some (.t 40)) none),zm 42 7,zm 43 8,zy 44 (.slc 1 (.t 42) none (some (.t 43))),zy 45 (.cpy 1 (.t 41) (.t 44)),zb 46 .add 38 45,zm 8 46])))))
 (zs (zr [4] [zq 47 7,zq 4 47])
 .ret)))))))) }
def N316 : aI:={ np:=2,nt:=12,res:=[],body :=
 (zs (zr [0] [zm 4 0,zm 5 1,zy 6 (.callI 342 "Push" 20 (.t 4) [.t 5])])
 (zr [0] [zm 7 0,zm 8 0,zy 9 (.callI 317 "Len" 20 (.t 8) []),zd 10 .sub 9 (zI 1),zy 11 (.callM 334 (.t 7) [.t 10])])) }
def N317 : aI:={ np:=1,nt:=8,res:=[(2,none)],body :=
 (zs (zr [0] [zc 2 (zI 0)])
 (zs (zr [0,2] [zm 3 0,zy 4 (.nck (.t 3)),zf 5 0 4,zl 6 1 5,zn 7 6,zm 2 7])
 .ret)) }
def N318 : aI:={ np:=1,nt:=15,res:=[(2,none)],body :=
 (zs (zr [0] [zy 2 (.mov (.c .any))])
 (zs (zr [0,3] [zm 4 0,zy 5 (.callI 317 "Len" 20 (.t 4) []),zd 6 .sub 5 (zI 1),zm 3 6])
 (zs (zr [0,3] [zm 7 0,zm 8 3,zy 9 (.callI 343 "Swap" 20 (.t 7) [(.c (zI 0)),.t 8])])
 (zs (zr [0] [zm 10 0,zm 11 3,zy 12 (.callM 335 (.t 10) [(.c (zI 0)),.t 11])])
 (zs (zr [0,2] [zm 13 0,zy 14 (.callI 341 "Pop" 20 (.t 13) []),zm 2 14])
 .ret))))) }
def N323 : aI:={ np:=2,nt:=16,res:=[(4,none)],body :=
 (zs (zr [1,2] [zo 2 0,zc 4 (zI 0)])
 (zs (zr [4] [zf 5 0 2,zl 6 1 5,zf 7 1 2,zl 8 1 7,zf 9 2 2,zl 10 1 9,zy 11 (.bls 1 3 [zI 0] [] [(0,.t 6),(1,.t 8),(2,.t 10)]),zm 12 1,zd 13 .rem 12 (zI 3),zi 14 1 11 13,zl 15 1 14,zm 4 15])
 .ret)) }
def N324 : aI:={ np:=2,nt:=47,res:=[(4,none)],body :=
 (zs (zr [0,1] [zc 4 (.bool false)])
 (zs (zs (zr [0,1,5] [zc 5 (zI 0)])
 (.block 0 (.loop (zs (zs (zr [0,1,5,9] [zm 8 5,zd 9 .lss 8 (zI 3)])
 (zC 9 .skip
 (.exit 0)))
 (zs (.block 1 (zs (.reg true [0,0,3,7,0,0,32,96,240,496,0,0,3087,8191] [0,1,5,6,7] [zm 12 0,zm 13 5,zi 14 2 12 13,zL 15 2 14,zm 16 0,zm 17 5,zd 18 .add 17 (zI 1),zd 19 .rem 18 (zI 3),zi 20 2 16 19,zL 21 2 20,zy 6 (.alc zA1),zy 7 (.alc zA1),zw (.st 2 [] (.t 6) (.t 15)),zw (.st 2 [] (.t 7) (.t 21))])
 (zs (.reg true [0,0,0,4,12,31,63,127,255,255,255,1279,3327,8191,16383,32767,65535,131071,131071,131071,655359,1703935,4194303,8388607,16777215] [0,1,5,46] [zL 22 2 6,zL 23 2 7,zm 24 1,zy 25 (.iadS 2 (.t 24) (.c (zI 0))),zL 26 2 25,zk 27 286 [.t 22,.t 23,.t 26],zd 28 .leq 27 (zI 0),zm 29 28,zg 29 true (zL 30 2 6),zg 29 true (zL 31 2 7),zg 29 true (zm 32 1),zg 29 true (zy 33 (.iadS 2 (.t 32) (.c (zI 1)))),zg 29 true (zL 34 2 33),zg 29 true (zk 35 286 [.t 30,.t 31,.t 34]),zg 29 true (zd 36 .leq 35 (zI 0)),zP 37 29 36,zm 38 37,zg 38 true (zL 39 2 6),zg 38 true (zL 40 2 7),zg 38 true (zm 41 1),zg 38 true (zy 42 (.iadS 2 (.t 41) (.c (zI 2)))),zg 38 true (zL 43 2 42),zg 38 true (zk 44 286 [.t 39,.t 40,.t 43]),zg 38 true (zd 45 .leq 44 (zI 0)),zP 46 38 45])
 (zC 46 (zs (zr [4] [zc 4 (.bool true)])
 .ret)
 .skip))))
 (zr [0,1,5] [zm 10 5,zd 11 .add 10 (zI 1),zm 5 11]))))))
 (zs (zr [4] [zc 4 (.bool false)])
 .ret))) }
def N328 : aI:={ np:=2,nt:=19,res:=[(4,none)],body :=
 (zs (zr [0,1] [zc 4 (zI 0)])
 (zs (zs (zr [0,1,7,8] [zm 6 0,zn 7 6,zc 8 (zI 0)])
 (.block 0 (.loop (zs (zr [0,1,7,8,9] [zb 9 .lss 8 7])
 (zs (zC 9 .skip
 (.exit 0))
 (zs (.block 1 (zs (zr [0,1,5,7,8] [zm 10 8,zm 5 10])
 (zs (zr [0,1,5,7,8,16] [zm 11 1,zm 12 0,zm 13 5,zi 14 6 12 13,zL 15 6 14,zy 16 (.callv (.t 11) [.t 15])])
 (zC 16 (zs (zr [4] [zm 17 5,zm 4 17])
 .ret)
 .skip))))
 (zr [0,1,7,8] [zd 18 .add 8 (zI 1),zm 8 18])))))))
 (zs (zr [4] [zy 4 (.mov (.c (zI (-1))))])
 .ret))) }
def N333 : aI:={ np:=2,nt:=30,res:=[(4,none),(5,none)],body :=
 (zs (zr [0,1] [zc 4 (.int .u64 0),zc 5 (.int .u64 0)])
 (zs (.cond (.c (.bool false)) (zs (zr [6,7] [zm 11 0,zy 12 (.conv .u32 (.t 11)),zm 13 1,zy 14 (.conv .u32 (.t 13)),zk 15 339 [.t 12,.t 14],zm 10 15,zx 16 0 10,zx 17 1 10,zm 6 16,zm 7 17])
 (zs (zr [4,5] [zm 18 6,zy 19 (.conv .u64 (.t 18)),zm 20 7,zy 21 (.conv .u64 (.t 20)),zm 4 19,zm 5 21])
 .ret))
 .skip)
 (zs (zr [8,9] [zm 23 0,zm 24 1,zk 25 91 [.t 23,.t 24],zm 22 25,zx 26 0 22,zx 27 1 22,zm 8 26,zm 9 27])
 (zs (zr [4,5] [zm 28 8,zm 29 9,zm 4 28,zm 5 29])
 .ret)))) }
def N334 : aI:={ np:=2,nt:=23,res:=[],body :=
 (.block 0 (.loop (.block 1 (zs (zr [0,1,4] [zm 5 1,zd 6 .sub 5 (zI 1),zd 7 .quo 6 (zI 2),zm 4 7])
 (zs (zs (zr [0,1,4,17] [zm 8 4,zm 9 1,zb 10 .eql 8 9,zm 11 10,zg 11 false (zm 12 0),zg 11 false (zm 13 1),zg 11 false (zm 14 4),zg 11 false (zy 15 (.callI 340 "Less" 20 (.t 12) [.t 13,.t 14])),zg 11 false (zt 16 15),zp 17 11 16])
 (zC 17 (.exit 0)
 .skip))
 (zs (zr [0,4] [zm 18 0,zm 19 4,zm 20 1,zy 21 (.callI 343 "Swap" 20 (.t 18) [.t 19,.t 20])])
 (zr [0,1] [zm 22 4,zm 1 22]))))))) }
def N335 : aI:={ np:=3,nt:=48,res:=[(6,none)],body :=
 (zs (zr [0,1,2] [zc 6 (.bool false)])
 (zs (zr [0,1,2,7] [zm 11 1,zm 7 11])
 (zs (.block 0 (.loop (.block 1 (zs (zr [0,1,2,7,8] [zm 12 7,zy 13 (.bin .mul (.c (zI 2)) (.t 12)),zd 14 .add 13 (zI 1),zm 8 14])
 (zs (zs (zr [0,1,2,7,8,21] [zm 15 8,zm 16 2,zb 17 .geq 15 16,zm 18 17,zg 18 false (zm 19 8),zg 18 false (zd 20 .lss 19 (zI 0)),zp 21 18 20])
 (zC 21 (.exit 0)
 .skip))
 (zs (zr [0,1,2,7,8,9] [zm 22 8,zm 9 22])
 (zs (zs (zr [0,1,2,7,8,9,10] [zm 23 8,zd 24 .add 23 (zI 1),zm 10 24])
 (zs (zr [0,1,2,7,9,10,33] [zm 25 10,zm 26 2,zb 27 .lss 25 26,zm 28 27,zg 28 true (zm 29 0),zg 28 true (zm 30 10),zg 28 true (zm 31 8),zg 28 true (zy 32 (.callI 340 "Less" 20 (.t 29) [.t 30,.t 31])),zP 33 28 32])
 (zC 33 (zr [0,1,2,7,9] [zm 34 10,zm 9 34])
 .skip)))
 (zs (zs (zr [0,1,2,7,9,39] [zm 35 0,zm 36 9,zm 37 7,zy 38 (.callI 340 "Less" 20 (.t 35) [.t 36,.t 37]),zt 39 38])
 (zC 39 (.exit 0)
 .skip))
 (zs (zr [0,1,2,9] [zm 40 0,zm 41 7,zm 42 9,zy 43 (.callI 343 "Swap" 20 (.t 40) [.t 41,.t 42])])
 (zr [0,1,2,7] [zm 44 9,zm 7 44]))))))))))
 (zs (zr [0,6] [zm 45 7,zm 46 1,zb 47 .gtr 45 46,zm 6 47])
 .ret)))) }
def N339 : aI:={ np:=2,nt:=17,res:=[(4,none),(5,none)],body :=
 (zs (zr [0,1] [zc 4 (.int .u32 0),zc 5 (.int .u32 0)])
 (zs (zr [6] [zm 7 0,zy 8 (.conv .u64 (.t 7)),zm 9 1,zy 10 (.conv .u64 (.t 9)),zb 11 .mul 8 10,zm 6 11])
 (zs (zr [4,5] [zm 12 6,zd 13 .shr 12 (.int .u64 32),zy 14 (.conv .u32 (.t 13)),zm 15 6,zy 16 (.conv .u32 (.t 15)),zm 4 14,zm 5 16])
 .ret))) }
def N340 : aI:={ np:=3,nt:=60,res:=[(6,none)],body :=
 (zs (zr [0,1,2] [zc 6 (.bool false)])
 (zs (.reg true [0,1,3,7,0,31,63,0,128,384,896,0,3968,8064,127,32767] [0,7,8] [zm 9 0,zy 10 (.nck (.t 9)),zf 11 0 10,zl 12 1 11,zm 13 1,zi 14 1 12 13,zl 15 1 14,zm 16 0,zy 17 (.nck (.t 16)),zf 18 0 17,zl 19 1 18,zm 20 2,zi 21 1 19 20,zl 22 1 21,zm 7 15,zm 8 22])
 (zs (.reg true [0,1,3,7,0,31,63,0,128,384,896,0,3968,8064,16383,32767,65535,131071,262143,524287,65535,2097151,4194303,65535,8454143,25231359,58785791,65535,260112383,528547839,1073741823,2147483647,4294967295,4294967295,17179869183,34359738367,68719476735,137438953471] [0,6] [zm 23 0,zy 24 (.nck (.t 23)),zf 25 1 24,zl 26 1 25,zm 27 7,zi 28 1 26 27,zl 29 1 28,zm 30 0,zy 31 (.nck (.t 30)),zf 32 1 31,zl 33 1 32,zm 34 8,zi 35 1 33 34,zl 36 1 35,zb 37 .lss 29 36,zm 38 37,zg 38 false (zm 39 0),zg 38 false (zy 40 (.nck (.t 39))),zg 38 false (zf 41 1 40),zg 38 false (zl 42 1 41),zg 38 false (zm 43 7),zg 38 false (zi 44 1 42 43),zg 38 false (zl 45 1 44),zg 38 false (zm 46 0),zg 38 false (zy 47 (.nck (.t 46))),zg 38 false (zf 48 1 47),zg 38 false (zl 49 1 48),zg 38 false (zm 50 8),zg 38 false (zi 51 1 49 50),zg 38 false (zl 52 1 51),zg 38 false (zb 53 .eql 45 52),zg 38 false (zm 54 53),zg 54 true (zm 55 7),zg 54 true (zm 56 8),zg 54 true (zb 57 .lss 55 56),zg 38 false (zP 58 54 57),zp 59 38 58,zm 6 59])
 .ret))) }
def N341 : aI:={ np:=1,nt:=32,res:=[(2,none)],body :=
 (zs (zr [0] [zy 2 (.mov (.c .any))])
 (zs (.reg true [0,1,3,7,0,16,48,112,240,496,1023,2047,4095] [0,3] [zm 4 0,zy 5 (.nck (.t 4)),zf 6 0 5,zl 7 1 6,zm 8 0,zy 9 (.nck (.t 8)),zf 10 0 9,zl 11 1 10,zn 12 11,zd 13 .sub 12 (zI 1),zi 14 1 7 13,zl 15 1 14,zm 3 15])
 (zs (.reg true [0,0,2,6,14,0,32,96,224,480,992,2046,4095,8191,16383] [0,3] [zm 16 0,zm 17 0,zy 18 (.nck (.t 17)),zf 19 0 18,zl 20 1 19,zm 21 0,zy 22 (.nck (.t 21)),zf 23 0 22,zl 24 1 23,zn 25 24,zd 26 .sub 25 (zI 1),zy 27 (.slc 1 (.t 20) none (some (.t 26))),zy 28 (.nck (.t 16)),zf 29 0 28,zw (.stL (.t 29) (.t 27))])
 (zs (zr [0,2] [zm 30 3,zy 31 (.mkI 2 (.t 30)),zm 2 31])
 .ret)))) }
def N342 : aI:={ np:=2,nt:=15,res:=[],body :=
 (.reg true [0,0,2,6,14,0,32,96,254,511,1023,2047] [0] [zm 4 0,zm 5 0,zy 6 (.nck (.t 5)),zf 7 0 6,zl 8 1 7,zm 9 1,zy 10 (.tya 2 (.t 9)),zy 11 (.bls 1 1 [zI 0] [] [(0,.t 10)]),zy 12 (.app 1 8 false (.t 8) (.t 11)),zy 13 (.nck (.t 4)),zf 14 0 13,zw (.st 1 [] (.t 14) (.t 12))]) }
def N343 : aI:={ np:=3,nt:=32,res:=[],body :=
 (.reg true [0,1,3,7,0,0,32,96,224,0,0,1024,3072,7168,0,31744,64512,0,131072,393216,917504,0,4063232,8257536,16776703,33553919,67108863,134217727] [0] [zm 6 0,zy 7 (.nck (.t 6)),zf 8 0 7,zl 9 1 8,zm 10 1,zm 11 0,zy 12 (.nck (.t 11)),zf 13 0 12,zl 14 1 13,zm 15 2,zm 16 0,zy 17 (.nck (.t 16)),zf 18 0 17,zl 19 1 18,zm 20 2,zi 21 1 19 20,zl 22 1 21,zm 23 0,zy 24 (.nck (.t 23)),zf 25 0 24,zl 26 1 25,zm 27 1,zi 28 1 26 27,zl 29 1 28,zi 30 1 9 10,zw (.st 1 [] (.t 30) (.t 22)),zi 31 1 14 15,zw (.st 1 [] (.t 31) (.t 29))]) }
def N373 : aI:={ np:=2,nt:=20,res:=[(4,none),(5,none)],body :=
 (zs (zr [1,2] [zo 2 0,zc 4 (zI 0),zc 5 (zI 0)])
 (zs (zs (zr [1,2,8] [zL 6 2 2,zk 7 234 [.t 6],zt 8 7])
 (zC 8 (zs (zr [4,5] [zc 4 (zI 0),zc 5 (zI 1)])
 .ret)
 .skip))
 (zs (zs (zr [1,2,12] [zL 9 2 2,zm 10 1,zk 11 377 [.t 9,.t 10],zt 12 11])
 (zC 12 (zs (zr [4,5] [zc 4 (zI 0),zc 5 (zI 2)])
 .ret)
 .skip))
 (zs (.reg true [0,0,2,0,14,30,63,127,255] [4,5] [zL 13 2 2,zf 14 1 2,zl 15 1 14,zm 16 1,zi 17 4 15 16,zL 18 4 17,zk 19 376 [.t 13,.t 18],zm 4 19,zc 5 (zI 0)])
 .ret)))) }
def N376 : aI:={ np:=2,nt:=16,res:=[(4,none)],body :=
 (zs (zr [2,3] [zo 2 0,zo 3 1,zc 4 (zI 0)])
 (zs (zr [5] [zL 6 2 2,zL 7 4 3,zk 8 307 [.t 6,.t 7],zy 5 (.alc zA4),zw (.st 6 [] (.t 5) (.t 8))])
 (zs (zr [4] [zy 9 (.iadA 3 2 (.t 5) (.c (zI 0))),zL 10 2 9,zy 11 (.iadA 3 2 (.t 5) (.c (zI 1))),zL 12 2 11,zy 13 (.iadA 3 2 (.t 5) (.c (zI 2))),zL 14 2 13,zk 15 308 [.t 10,.t 12,.t 14],zm 4 15])
 .ret))) }
def N377 : aI:={ np:=2,nt:=14,res:=[(4,none)],body :=
 (zs (zr [1,2] [zo 2 0,zc 4 (.bool false)])
 (zs (zr [4] [zm 5 1,zd 6 .geq 5 (zI 0),zm 7 6,zg 7 true (zm 8 1),zg 7 true (zf 9 1 2),zg 7 true (zl 10 1 9),zg 7 true (zn 11 10),zg 7 true (zb 12 .lss 8 11),zP 13 7 12,zm 4 13])
 .ret)) }
def N850 : aI:={ np:=3,nt:=176,res:=[(6,none)],body :=
 (zs (zr [1,2,3] [zo 3 0,zc 6 (.bool false)])
 (zs (zs (zr [1,2,3,21] [zk 20 854 [],zt 21 20])
 (zC 21 (zs (zr [6] [zc 6 (.bool false)])
 .ret)
 .skip))
 (zs (zs (zr [1,2,3,46] [zL 22 2 3,zm 23 1,zk 24 855 [.t 22,.t 23],zt 25 24,zm 26 25,zg 26 false (zm 27 1),zg 26 false (zn 28 27),zg 26 false (zd 29 .geq 28 (zI 30)),zp 30 26 29,zm 31 30,zg 31 false (zm 32 2),zg 31 false (zd 33 .lss 32 (zI 0)),zp 34 31 33,zm 35 34,zg 35 false (zm 36 2),zg 35 false (zf 37 1 3),zg 35 false (zl 38 1 37),zg 35 false (zn 39 38),zg 35 false (zb 40 .geq 36 39),zp 41 35 40,zm 42 41,zg 42 false (zm 43 1),zg 42 false (zm 44 2),zg 42 false (zk 45 223 [.t 43,.t 44]),zp 46 42 45])
 (zC 46 (zs (zr [6] [zc 6 (.bool true)])
 .ret)
 .skip))
 (zs (zr [1,3,7] [zm 47 1,zy 48 (.callF 42 [.t 47]),zm 49 2,zy 50 (.bls 1 1 [zI 0] [] [(0,.t 49)]),zy 51 (.app 1 8 false (.t 48) (.t 50)),zy 7 (.frz (.t 51))])
 (zs (zr [1,3,7,8,9] [zL 53 2 3,zm 54 1,zk 55 856 [.t 53,.t 54],zm 52 55,zx 56 0 52,zx 57 1 52,zq 8 56,zm 9 57])
 (zs (zr [1,3,7,8,9,10,11] [zL 59 2 3,zm 60 7,zk 61 856 [.t 59,.t 60],zm 58 61,zx 62 0 58,zx 63 1 58,zq 10 62,zm 11 63])
 (zs (zr [1,3,7,8,9,10,11,12,13] [zL 65 2 3,zm 66 7,zm 67 1,zn 68 67,zk 69 858 [.t 65,.t 66,.t 68],zm 64 69,zx 70 0 64,zx 71 1 64,zq 12 70,zm 13 71])
 (zs (zr [1,3,7,8,9,10,11,12,13,14,15] [zL 73 2 3,zm 74 1,zk 75 862 [.t 73,.t 74],zm 72 75,zx 76 0 72,zx 77 1 72,zq 14 76,zm 15 77])
 (zs (zr [1,7,8,9,10,11,12,13,14,15,16,17] [zL 79 2 3,zm 80 7,zk 81 862 [.t 79,.t 80],zm 78 81,zx 82 0 78,zx 83 1 78,zq 16 82,zm 17 83])
 (zs (zs (zr [1,8,10,14,16,136] [zm 84 9,zd 85 .neq 84 (zI 0),zm 86 85,zg 86 false (zm 87 11),zg 86 false (zd 88 .neq 87 (zI 0)),zp 89 86 88,zm 90 89,zg 90 false (zm 91 13),zg 90 false (zd 92 .neq 91 (zI 0)),zp 93 90 92,zm 94 93,zg 94 false (zm 95 15),zg 94 false (zd 96 .neq 95 (zI 0)),zp 97 94 96,zm 98 97,zg 98 false (zm 99 17),zg 98 false (zd 100 .neq 99 (zI 0)),zp 101 98 100,zm 102 101,zg 102 false (zm 103 8),zg 102 false (zn 104 103),zg 102 false (zm 105 10),zg 102 false (zn 106 105),zg 102 false (zb 107 .neq 104 106),zp 108 102 107,zm 109 108,zg 109 false (zm 110 8),zg 109 false (zq 111 12),zg 109 false (zk 112 19 [.t 110,.t 111]),zg 109 false (zt 113 112),zp 114 109 113,zm 115 114,zg 115 false (zm 116 14),zg 115 false (zn 117 116),zg 115 false (zm 118 1),zg 115 false (zn 119 118),zg 115 false (zb 120 .neq 117 119),zp 121 115 120,zm 122 121,zg 122 false (zm 123 16),zg 122 false (zn 124 123),zg 122 false (zq 125 7),zg 122 false (zn 126 125),zg 122 false (zb 127 .neq 124 126),zp 128 122 127,zm 129 128,zg 129 false (zm 130 16),zg 129 false (zm 131 1),zg 129 false (zn 132 131),zg 129 false (zi 133 1 130 132),zg 129 false (zl 134 1 133),zg 129 false (zd 135 .leq 134 (zI 0)),zp 136 129 135])
 (zC 136 (zs (zr [6] [zc 6 (.bool false)])
 .ret)
 .skip))
 (zs (zs (zr [1,8,10,14,16,138,139] [zm 137 10,zn 138 137,zc 139 (zI 0)])
 (.block 0 (.loop (zs (zr [1,8,10,14,16,138,139,140] [zb 140 .lss 139 138])
 (zs (zC 140 .skip
 (.exit 0))
 (zs (.block 1 (zs (zr [1,8,10,14,16,18,138,139] [zm 141 139,zm 18 141])
 (zs (.reg true [0,0,3,7,0,0,48,112,255,511,1023,1023,4095,8191,1023,17407,65535,131071] [1,8,10,14,16,138,139,159] [zm 142 10,zm 143 18,zi 144 1 142 143,zl 145 1 144,zm 146 8,zm 147 18,zi 148 1 146 147,zl 149 1 148,zb 150 .neq 145 149,zm 151 150,zg 151 true (zm 152 10),zg 151 true (zm 153 18),zg 151 true (zi 154 1 152 153),zg 151 true (zl 155 1 154),zg 151 true (zm 156 1),zg 151 true (zn 157 156),zg 151 true (zb 158 .neq 155 157),zP 159 151 158])
 (zC 159 (zs (zr [6] [zc 6 (.bool false)])
 .ret)
 .skip))))
 (zr [1,8,10,14,16,138,139] [zd 160 .add 139 (zI 1),zm 139 160])))))))
 (zs (zs (zr [14,16,162,163] [zm 161 14,zn 162 161,zc 163 (zI 0)])
 (.block 2 (.loop (zs (zr [14,16,162,163,164] [zb 164 .lss 163 162])
 (zs (zC 164 .skip
 (.exit 2))
 (zs (.block 3 (zs (zr [14,16,19,162,163] [zm 165 163,zm 19 165])
 (zs (.reg true [0,0,3,7,0,0,48,112,255] [14,16,162,163,174] [zm 166 16,zm 167 19,zi 168 1 166 167,zl 169 1 168,zm 170 14,zm 171 19,zi 172 1 170 171,zl 173 1 172,zb 174 .gtr 169 173])
 (zC 174 (zs (zr [6] [zc 6 (.bool false)])
 .ret)
 .skip))))
 (zr [14,16,162,163] [zd 175 .add 163 (zI 1),zm 163 175])))))))
 (zs (zr [6] [zc 6 (.bool true)])
 .ret))))))))))))) }
def N854 : aI:={ np:=0,nt:=60,res:=[(0,none)],body :=
 (zs (zr [] [zc 0 (.bool false)])
 (zs (zr [1] [zy 8 (.bld [zI 0,zI 0,zI 0] [(2,1,(.c (zI 5)))]),zy 9 (.bld [zI 0,zI 0,zI 0] [(0,1,(.c (zI 30))),(2,1,(.c (zI 9)))]),zy 10 (.bld [zI 0,zI 0,zI 0] [(0,1,(.c (zI 30))),(1,1,(.c (zI 30))),(2,1,(.c (zI 5)))]),zy 11 (.bld [zI 0,zI 0,zI 0] [(1,1,(.c (zI 30))),(2,1,(.c (zI 0)))]),zy 12 (.blsF 3 4 [zI 0,zI 0,zI 0] [(0,.t 8),(1,.t 9),(2,.t 10),(3,.t 11)]),zy 13 (.bld [zI 0,zI 0,zI 0,zI 0] [(0,1,(.c (zI 0))),(1,1,(.c (zI 1))),(2,1,(.c (zI 2)))]),zy 14 (.bld [zI 0,zI 0,zI 0,zI 0] [(0,1,(.c (zI 0))),(1,1,(.c (zI 2))),(2,1,(.c (zI 3)))]),zy 15 (.blsF 4 2 [zI 0,zI 0,zI 0,zI 0] [(0,.t 13),(1,.t 14)]),zy 16 (.bld [.nils,.nils] [(0,1,.t 12),(1,1,.t 15)]),zy 1 (.alc [.own 3 [],.own 4 []]),zw (.st 2 [] (.t 1) (.t 16))])
 (zs (zr [1,2,3] [zL 18 2 1,zy 19 (.blsF 1 1 [zI 0] [(0,(.c (zI 1)))]),zk 20 856 [.t 18,.t 19],zm 17 20,zx 21 0 17,zx 22 1 17,zq 2 21,zm 3 22])
 (zs (zr [1,2,3,4,5] [zL 24 2 1,zy 25 (.blsF 1 2 [zI 0] [(0,(.c (zI 1))),(1,(.c (zI 0)))]),zk 26 856 [.t 24,.t 25],zm 23 26,zx 27 0 23,zx 28 1 23,zq 4 27,zm 5 28])
 (zs (zr [2,3,4,5,6,7] [zL 30 2 1,zy 31 (.blsF 1 1 [zI 0] [(0,(.c (zI 1)))]),zk 32 862 [.t 30,.t 31],zm 29 32,zx 33 0 29,zx 34 1 29,zq 6 33,zm 7 34])
 (zs (zr [0] [zm 35 3,zd 36 .eql 35 (zI 0),zm 37 36,zg 37 true (zq 38 2),zg 37 true (zy 39 (.bls 1 2 [zI 0] [] [(0,(.c (zI 0))),(1,(.c (zI 0)))])),zg 37 true (zk 40 19 [.t 38,.t 39]),zP 41 37 40,zm 42 41,zg 42 true (zm 43 5),zg 42 true (zd 44 .eql 43 (zI 0)),zP 45 42 44,zm 46 45,zg 46 true (zq 47 4),zg 46 true (zy 48 (.bls 1 2 [zI 0] [] [(0,(.c (zI 1))),(1,(.c (zI 0)))])),zg 46 true (zk 49 19 [.t 47,.t 48]),zP 50 46 49,zm 51 50,zg 51 true (zm 52 7),zg 51 true (zd 53 .eql 52 (zI 0)),zP 54 51 53,zm 55 54,zg 55 true (zq 56 6),zg 55 true (zy 57 (.bls 1 1 [zI 0] [] [(0,(.c (zI 1800)))])),zg 55 true (zk 58 19 [.t 56,.t 57]),zP 59 55 58,zm 0 59])
 .ret)))))) }
def N855 : aI:={ np:=2,nt:=15,res:=[(4,none)],body :=
 (zs (zr [1,2] [zo 2 0,zc 4 (.bool false)])
 (zs (zr [4] [zL 5 2 2,zm 6 1,zk 7 857 [.t 5,.t 6],zt 8 7,zm 9 8,zg 9 true (zL 10 2 2),zg 9 true (zq 11 1),zg 9 true (zk 12 859 [.t 10,.t 11,(.c (zI 0)),(.c (.bool false))]),zg 9 true (zd 13 .eql 12 (zI 0)),zP 14 9 13,zm 4 14])
 .ret)) }
def N856 : aI:={ np:=2,nt:=26,res:=[(4,none),(5,none)],body :=
 (zs (zr [1,2] [zo 2 0,zc 4 .nils,zc 5 (zI 0)])
 (zs (zs (zr [1,2,6] [zL 9 2 2,zm 10 1,zk 11 874 [.t 9,.t 10,(.c .nils)],zm 6 11])
 (zs (zr [1,2,6,13] [zm 12 6,zd 13 .neq 12 (zI 0)])
 (zC 13 (zs (zr [4,5] [zm 14 6,zc 4 .nils,zm 5 14])
 .ret)
 .skip)))
 (zs (zr [7,8] [zL 16 2 2,zq 17 1,zk 18 875 [.t 16,.t 17,(.c (zI (-1)))],zm 15 18,zx 19 0 15,zx 20 1 15,zm 7 19,zm 8 20])
 (zs (zs (zr [7,8,22] [zm 21 8,zd 22 .neq 21 (zI 0)])
 (zC 22 (zs (zr [4,5] [zm 23 8,zc 4 .nils,zm 5 23])
 .ret)
 .skip))
 (zs (zr [4,5] [zm 24 7,zk 25 876 [.t 24],zq 4 25,zc 5 (zI 0)])
 .ret))))) }
def N857 : aI:={ np:=2,nt:=54,res:=[(4,none)],body :=
 (zs (zr [1,2] [zo 2 0,zc 4 (.bool false)])
 (zs (zr [4] [zf 5 0 2,zl 6 1 5,zn 7 6,zd 8 .gtr 7 (zI 40),zm 9 8,zg 9 true (zf 10 0 2),zg 9 true (zl 11 1 10),zg 9 true (zn 12 11),zg 9 true (zd 13 .leq 12 (zI 2000)),zP 14 9 13,zm 15 14,zg 15 false (zf 16 1 2),zg 15 false (zl 17 1 16),zg 15 false (zn 18 17),zg 15 false (zd 19 .gtr 18 (zI 60)),zg 15 false (zm 20 19),zg 20 true (zf 21 1 2),zg 20 true (zl 22 1 21),zg 20 true (zn 23 22),zg 20 true (zd 24 .leq 23 (zI 4000)),zg 15 false (zP 25 20 24),zp 26 15 25,zm 27 26,zg 27 false (zf 28 0 2),zg 27 false (zl 29 1 28),zg 27 false (zn 30 29),zg 27 false (zd 31 .gtr 30 (zI 2050)),zp 32 27 31,zm 33 32,zg 33 false (zf 34 1 2),zg 33 false (zl 35 1 34),zg 33 false (zn 36 35),zg 33 false (zd 37 .gtr 36 (zI 4050)),zp 38 33 37,zm 39 38,zg 39 false (zm 40 1),zg 39 false (zn 41 40),zg 39 false (zd 42 .gtr 41 (zI 30)),zg 39 false (zm 43 42),zg 43 true (zm 44 1),zg 43 true (zn 45 44),zg 43 true (zd 46 .leq 45 (zI 300)),zg 39 false (zP 47 43 46),zp 48 39 47,zm 49 48,zg 49 false (zq 50 1),zg 49 false (zn 51 50),zg 49 false (zd 52 .gtr 51 (zI 600)),zp 53 49 52,zm 4 53])
 .ret)) }
def N858 : aI:={ np:=3,nt:=31,res:=[(6,none),(7,none)],body :=
 (zs (zr [1,2,3] [zo 3 0,zc 6 .nils,zc 7 (zI 0)])
 (zs (zs (zr [1,2,3,8] [zL 11 2 3,zm 12 1,zm 13 2,zy 14 (.bls 1 1 [zI 0] [] [(0,.t 13)]),zk 15 874 [.t 11,.t 12,.t 14],zm 8 15])
 (zs (zr [1,2,3,8,17] [zm 16 8,zd 17 .neq 16 (zI 0)])
 (zC 17 (zs (zr [6,7] [zm 18 8,zc 6 .nils,zm 7 18])
 .ret)
 .skip)))
 (zs (zr [9,10] [zL 20 2 3,zq 21 1,zm 22 2,zk 23 875 [.t 20,.t 21,.t 22],zm 19 23,zx 24 0 19,zx 25 1 19,zm 9 24,zm 10 25])
 (zs (zs (zr [9,10,27] [zm 26 10,zd 27 .neq 26 (zI 0)])
 (zC 27 (zs (zr [6,7] [zm 28 10,zc 6 .nils,zm 7 28])
 .ret)
 .skip))
 (zs (zr [6,7] [zm 29 9,zk 30 876 [.t 29],zq 6 30,zc 7 (zI 0)])
 .ret))))) }
def N859 : aI:={ np:=4,nt:=64,res:=[(8,none)],body :=
 (zs (zr [1,2,3,4] [zo 4 0,zc 8 (zI 0)])
 (zs (zs (zr [1,2,3,4,13] [zL 11 2 4,zk 12 215 [.t 11],zt 13 12])
 (zC 13 (zs (zr [8] [zc 8 (zI 1)])
 .ret)
 .skip))
 (zs (zs (zr [1,2,3,4,16] [zm 14 1,zn 15 14,zd 16 .gtr 15 (zI 300)])
 (zC 16 (zs (zr [8] [zc 8 (zI 4)])
 .ret)
 .skip))
 (zs (zs (zr [1,2,3,4,9] [zc 9 (zI 0)])
 (.block 0 (.loop (zs (zs (zr [1,2,3,4,9,20] [zm 17 9,zm 18 1,zn 19 18,zb 20 .lss 17 19])
 (zC 20 .skip
 (.exit 0)))
 (zs (.block 1 (zs (.reg true [0,0,3,7,15,31,63,63,255,511,63,1087,3135,8191,16383] [1,2,3,4,9,37] [zm 23 1,zm 24 9,zi 25 1 23 24,zl 26 1 25,zd 27 .lss 26 (zI 0),zm 28 27,zg 28 false (zm 29 1),zg 28 false (zm 30 9),zg 28 false (zi 31 1 29 30),zg 28 false (zl 32 1 31),zg 28 false (zf 33 1 4),zg 28 false (zl 34 1 33),zg 28 false (zn 35 34),zg 28 false (zb 36 .geq 32 35),zp 37 28 36])
 (zC 37 (zs (zr [8] [zc 8 (zI 2)])
 .ret)
 .skip)))
 (zr [1,2,3,4,9] [zm 21 9,zd 22 .add 21 (zI 1),zm 9 22]))))))
 (zs (zs (zr [1,48] [zm 38 3,zm 39 38,zg 39 true (zm 40 2),zg 39 true (zd 41 .lss 40 (zI 0)),zg 39 true (zm 42 41),zg 42 false (zm 43 2),zg 42 false (zm 44 1),zg 42 false (zn 45 44),zg 42 false (zb 46 .geq 43 45),zg 39 true (zp 47 42 46),zP 48 39 47])
 (zC 48 (zs (zr [8] [zc 8 (zI 2)])
 .ret)
 .skip))
 (zs (zs (zr [1,10] [zc 10 (zI 0)])
 (.block 2 (.loop (zs (zs (zr [1,10,52] [zm 49 10,zm 50 1,zn 51 50,zb 52 .lss 49 51])
 (zC 52 .skip
 (.exit 2)))
 (zs (.block 3 (zs (.reg true [0,0,3,0,0,24,56,127,255] [1,10,63] [zm 55 1,zm 56 10,zy 57 (.slc 1 (.t 55) none (some (.t 56))),zm 58 1,zm 59 10,zi 60 1 58 59,zl 61 1 60,zk 62 877 [.t 57,.t 61],zd 63 .geq 62 (zI 0)])
 (zC 63 (zs (zr [8] [zc 8 (zI 10)])
 .ret)
 .skip)))
 (zr [1,10] [zm 53 10,zd 54 .add 53 (zI 1),zm 10 54]))))))
 (zs (zr [8] [zc 8 (zI 0)])
 .ret))))))) }
def N862 : aI:={ np:=2,nt:=18,res:=[(4,none),(5,none)],body :=
 (zs (zr [1,2] [zo 2 0,zc 4 .nils,zc 5 (zI 0)])
 (zs (zr [6,8] [zL 10 2 2,zq 11 1,zk 12 880 [.t 10,.t 11],zm 9 12,zx 13 0 9,zx 14 1 9,zx 15 2 9,zq 6 13,zm 7 14,zm 8 15])
 (zs (zr [4,5] [zq 16 6,zm 17 8,zq 4 16,zm 5 17])
 .ret))) }
def N874 : aI:={ np:=3,nt:=34,res:=[(6,none)],body :=
 (zs (zr [2,3,4] [zo 3 0,zo 4 1,zc 6 (zI 0)])
 (zs (.block 0 (zs (zr [2,3,4,8] [zL 9 2 3,zk 10 234 [.t 9],zt 11 10,zm 8 11])
 (zC 8 (zs (zr [6] [zc 6 (zI 1)])
 .ret)
 (zs (zr [2,3,4,12] [zl 13 1 4,zn 14 13,zd 15 .gtr 14 (zI 300),zm 12 15])
 (zC 12 (zs (zr [6] [zc 6 (zI 4)])
 .ret)
 (zs (zr [2,4,16] [zl 17 1 4,zy 18 (.mk 882 [.t 3]),zk 19 11 [.t 17,.t 18],zm 16 19])
 (zC 16 (zs (zr [6] [zc 6 (zI 2)])
 .ret)
 (zs (zr [4,20] [zq 21 2,zy 22 (.mk 883 [.t 4]),zk 23 11 [.t 21,.t 22],zm 20 23])
 (zC 20 (zs (zr [6] [zc 6 (zI 2)])
 .ret)
 .skip)))))))))
 (zs (zr [4,7] [zl 24 1 4,zy 25 (.callF 42 [.t 24]),zq 7 25])
 (zs (zr [4,7] [zm 26 7,zy 27 (.callS 366 (.t 26) [])])
 (zs (zs (.reg true [0,1,3,0,8,31] [33] [zq 28 7,zy 29 (.callE 523 (.t 28) []),zn 30 29,zl 31 1 4,zn 32 31,zb 33 .lss 30 32])
 (zC 33 (zs (zr [6] [zc 6 (zI 10)])
 .ret)
 .skip))
 (zs (zr [6] [zc 6 (zI 0)])
 .ret)))))) }
def N875 : aI:={ np:=3,nt:=104,res:=[(6,none),(7,none)],body :=
 (zs (zr [1,2,3] [zo 3 0,zc 6 .nilp,zc 7 (zI 0)])
 (zs (zr [1,2,3,8] [zy 15 (.bld [.nils,.nils,.nils,.nils,.nils] []),zy 16 (.box [] (.t 15)),zm 8 16])
 (zs (zr [1,2,3,8] [zc 9 (zI 0)])
 (zs (zs (zr [1,2,3,8,9] [zm 18 8,zL 19 2 3,zk 20 213 [.t 19],zm 17 20,zx 21 0 17,zx 22 1 17,zy 23 (.nck (.t 18)),zf 24 0 23,zw (.st 1 [] (.t 24) (.t 21)),zm 9 22])
 (zs (zr [1,2,3,8,9,26] [zm 25 9,zd 26 .neq 25 (zI 0)])
 (zC 26 (zs (zr [6,7] [zm 27 9,zc 6 .nilp,zm 7 27])
 .ret)
 .skip)))
 (zs (zs (zr [1,2,3,8,9] [zm 29 8,zL 30 2 3,zk 31 243 [.t 30],zm 28 31,zx 32 0 28,zx 33 1 28,zy 34 (.nck (.t 29)),zf 35 1 34,zw (.st 1 [] (.t 35) (.t 32)),zm 9 33])
 (zs (zr [1,2,3,8,9,37] [zm 36 9,zd 37 .neq 36 (zI 0)])
 (zC 37 (zs (zr [6,7] [zm 38 9,zc 6 .nilp,zm 7 38])
 .ret)
 .skip)))
 (zs (zs (zr [1,2,3,8,9] [zm 40 8,zL 41 2 3,zk 42 244 [.t 41],zm 39 42,zx 43 0 39,zx 44 1 39,zy 45 (.nck (.t 40)),zf 46 2 45,zw (.st 1 [] (.t 46) (.t 43)),zm 9 44])
 (zs (zr [1,2,3,8,9,48] [zm 47 9,zd 48 .neq 47 (zI 0)])
 (zC 48 (zs (zr [6,7] [zm 49 9,zc 6 .nilp,zm 7 49])
 .ret)
 .skip)))
 (zs (zs (zr [1,2,3,8,52,53] [zf 50 1 3,zl 51 1 50,zn 52 51,zc 53 (zI 0)])
 (.block 0 (.loop (zs (zr [1,2,3,8,52,53,54] [zb 54 .lss 53 52])
 (zs (zC 54 .skip
 (.exit 0))
 (zs (.block 1 (zs (zr [1,2,3,8,10,52,53] [zm 55 53,zm 10 55])
 (zs (zr [1,2,3,8,11,12,52,53] [zL 57 2 3,zm 58 10,zk 59 373 [.t 57,.t 58],zm 56 59,zx 60 0 56,zx 61 1 56,zm 11 60,zm 12 61])
 (zs (zs (zr [1,2,3,8,11,12,52,53,63] [zm 62 12,zd 63 .neq 62 (zI 0)])
 (zC 63 (zs (zr [6,7] [zm 64 12,zc 6 .nilp,zm 7 64])
 .ret)
 .skip))
 (zs (zr [1,2,3,8,52,53] [zm 65 8,zm 66 8,zy 67 (.nck (.t 66)),zf 68 4 67,zl 69 1 68,zm 70 11,zy 71 (.bls 1 1 [zI 0] [] [(0,.t 70)]),zy 72 (.app 1 8 false (.t 69) (.t 71)),zy 73 (.nck (.t 65)),zf 74 4 73,zw (.st 1 [] (.t 74) (.t 72))])
 (zr [1,2,3,8,52,53] [zm 75 8,zm 76 8,zy 77 (.nck (.t 76)),zf 78 3 77,zl 79 1 78,zy 80 (.bls 1 1 [zI 0] [] [(0,(.c (zI (-1))))]),zy 81 (.app 1 8 false (.t 79) (.t 80)),zy 82 (.nck (.t 75)),zf 83 3 82,zw (.st 1 [] (.t 83) (.t 81))]))))))
 (zr [1,2,3,8,52,53] [zd 84 .add 53 (zI 1),zm 53 84])))))))
 (zs (zs (zr [2,8,85,86,87] [zq 85 1,zn 86 85,zc 87 (zI 0)])
 (.block 2 (.loop (zs (zr [2,8,85,86,87,88] [zb 88 .lss 87 86])
 (zs (zC 88 .skip
 (.exit 2))
 (zs (.block 3 (zs (zr [2,8,13,14,85,86,87] [zm 89 87,zi 90 1 85 87,zl 91 1 90,zm 13 89,zm 14 91])
 (zs (zr [2,8,13,14,85,86,87,94] [zm 92 13,zm 93 2,zb 94 .neq 92 93])
 (zC 94 (zr [2,8,85,86,87] [zm 95 8,zy 96 (.nck (.t 95)),zf 97 3 96,zl 98 1 97,zm 99 14,zm 100 13,zi 101 1 98 99,zw (.st 1 [] (.t 101) (.t 100))])
 .skip))))
 (zr [2,8,85,86,87] [zd 102 .add 87 (zI 1),zm 87 102])))))))
 (zs (zr [6,7] [zm 103 8,zm 6 103,zc 7 (zI 0)])
 .ret))))))))) }
def N876 : aI:={ np:=1,nt:=40,res:=[(2,none)],body :=
 (zs (zr [0] [zc 2 .nils])
 (zs (zr [0,3] [zm 6 0,zy 7 (.nck (.t 6)),zf 8 0 7,zl 9 1 8,zn 10 9,zy 11 (.mks 1 8 [zI 0] (.c (zI 0)) (.t 10)),zq 3 11])
 (zs (zs (zr [0,3,16,17] [zm 12 0,zy 13 (.nck (.t 12)),zf 14 0 13,zl 15 1 14,zn 16 15,zc 17 (zI 0)])
 (.block 0 (.loop (zs (zr [0,3,16,17,18] [zb 18 .lss 17 16])
 (zs (zC 18 .skip
 (.exit 0))
 (zs (.block 1 (zs (zr [0,3,4,16,17] [zm 19 17,zm 4 19])
 (zs (zr [0,3,5,16,17] [zm 20 0,zm 21 4,zk 22 881 [.t 20,.t 21],zq 5 22])
 (.reg true [0,0,2,6,14,0,0,64,192,480,992,2046,4094,8190,16383,32767] [0,3,16,17] [zm 23 3,zm 24 0,zy 25 (.nck (.t 24)),zf 26 3 25,zl 27 1 26,zm 28 5,zq 29 5,zn 30 29,zd 31 .sub 30 (zI 1),zi 32 1 28 31,zl 33 1 32,zi 34 1 27 33,zl 35 1 34,zy 36 (.bls 1 1 [zI 0] [] [(0,.t 35)]),zy 37 (.app 1 8 false (.t 23) (.t 36)),zq 3 37]))))
 (zr [0,3,16,17] [zd 38 .add 17 (zI 1),zm 17 38])))))))
 (zs (zr [2] [zq 39 3,zq 2 39])
 .ret)))) }
def N877 : aI:={ np:=2,nt:=19,res:=[(4,none)],body :=
 (zs (zr [0,1] [zc 4 (zI 0)])
 (zs (zs (zr [0,1,5] [zc 5 (zI 0)])
 (.block 0 (.loop (zs (zs (zr [0,1,5,9] [zm 6 5,zm 7 0,zn 8 7,zb 9 .lss 6 8])
 (zC 9 .skip
 (.exit 0)))
 (zs (.block 1 (zs (zr [0,1,5,17] [zm 12 0,zm 13 5,zi 14 1 12 13,zl 15 1 14,zm 16 1,zb 17 .eql 15 16])
 (zC 17 (zs (zr [4] [zm 18 5,zm 4 18])
 .ret)
 .skip)))
 (zr [0,1,5] [zm 10 5,zd 11 .add 10 (zI 1),zm 5 11]))))))
 (zs (zr [4] [zy 4 (.mov (.c (zI (-1))))])
 .ret))) }
def N880 : aI:={ np:=2,nt:=64,res:=[(4,none),(5,none),(6,none)],body :=
 (zs (zr [1,2,5] [zo 2 0,zc 4 .nils,zc 5 (zI 0),zc 6 (zI 0)])
 (zs (zs (zr [1,2,5,7] [zL 11 2 2,zm 12 1,zk 13 874 [.t 11,.t 12,(.c .nils)],zm 7 13])
 (zs (zr [1,2,5,7,15] [zm 14 7,zd 15 .neq 14 (zI 0)])
 (zC 15 (zs (zr [4,5,6] [zm 16 7,zc 4 .nils,zc 5 (zI 0),zm 6 16])
 .ret)
 .skip)))
 (zs (zr [1,5,6,8] [zL 18 2 2,zm 19 1,zk 20 875 [.t 18,.t 19,(.c (zI (-1)))],zm 17 20,zx 21 0 17,zx 22 1 17,zm 8 21,zm 6 22])
 (zs (zs (zr [1,5,6,8,24] [zm 23 6,zd 24 .neq 23 (zI 0)])
 (zC 24 (zs (zr [4,5,6] [zm 25 6,zc 4 .nils,zc 5 (zI 0),zm 6 25])
 .ret)
 .skip))
 (zs (zr [4,5,8] [zq 26 1,zn 27 26,zy 28 (.mks 1 8 [zI 0] (.t 27) (.t 27)),zq 4 28])
 (zs (zs (zr [4,5,8,30,31,32] [zm 29 8,zk 30 876 [.t 29],zn 31 30,zc 32 (zI 0)])
 (.block 0 (.loop (zs (zr [4,5,8,30,31,32,33] [zb 33 .lss 32 31])
 (zs (zC 33 .skip
 (.exit 0))
 (zs (.block 1 (zs (zr [4,5,8,9,10,30,31,32] [zm 34 32,zi 35 1 30 32,zl 36 1 35,zm 9 34,zm 10 36])
 (zs (zr [4,5,8,9,10,30,31,32,38] [zm 37 10,zy 38 (.bin .eql (.t 37) (.c (zI (-1))))])
 (zC 38 (zr [4,5,8,30,31,32] [zm 39 5,zm 40 8,zy 41 (.nck (.t 40)),zf 42 4 41,zl 43 1 42,zm 44 9,zi 45 1 43 44,zl 46 1 45,zb 47 .add 39 46,zm 5 47])
 (.reg true [0,0,3,7,0,16,48,112,0,496,1008,2047,4095,8191] [4,5,8,30,31,32] [zm 48 4,zm 49 10,zi 50 1 48 49,zl 51 1 50,zm 52 8,zy 53 (.nck (.t 52)),zf 54 4 53,zl 55 1 54,zm 56 9,zi 57 1 55 56,zl 58 1 57,zb 59 .add 51 58,zi 60 1 48 49,zw (.st 1 [] (.t 60) (.t 59))])))))
 (zr [4,5,8,30,31,32] [zd 61 .add 32 (zI 1),zm 32 61])))))))
 (zs (zr [4,5,6] [zm 62 4,zm 63 5,zq 4 62,zm 5 63,zc 6 (zI 0)])
 .ret))))))) }
def N881 : aI:={ np:=2,nt:=86,res:=[(4,none)],body :=
 (zs (zr [0,1] [zc 4 .nils])
 (zs (zr [0,1,5] [zm 7 1,zy 8 (.bls 1 1 [zI 0] [] [(0,.t 7)]),zq 5 8])
 (zs (.block 0 (.loop (zs (zs (zr [0,1,5,16] [zm 9 0,zy 10 (.nck (.t 9)),zf 11 3 10,zl 12 1 11,zm 13 1,zi 14 1 12 13,zl 15 1 14,zy 16 (.bin .eql (.t 15) (.c (zI (-1))))])
 (zC 16 .skip
 (.exit 0)))
 (.block 1 (zs (zr [0,1,5,23] [zm 17 0,zy 18 (.nck (.t 17)),zf 19 0 18,zl 20 1 19,zm 21 1,zi 22 1 20 21,zl 23 1 22])
 (.block 2 (zs (zr [0,1,5,23,35] [zy 36 (.bin .eql (.t 23) (.c (zI (-1)))),zm 35 36])
 (zC 35 (zs (zr [4] [zq 37 5,zq 4 37])
 .ret)
 (zs (zr [0,1,5,38] [zy 39 (.bin .eql (.t 23) (.c (zI (-2)))),zm 38 39])
 (zC 38 (zs (zr [0,1,5,6] [zm 40 0,zy 41 (.nck (.t 40)),zf 42 1 41,zl 43 1 42,zm 44 1,zi 45 1 43 44,zl 46 1 45,zm 6 46])
 (.block 3 (.loop (zs (zs (zr [0,1,5,6,55] [zm 47 0,zy 48 (.nck (.t 47)),zf 49 1 48,zl 50 1 49,zm 51 1,zi 52 1 50 51,zl 53 1 52,zm 54 6,zb 55 .geq 53 54])
 (zC 55 .skip
 (.exit 3)))
 (.block 4 (zs (zs (zr [0,1,5,6,63] [zm 56 0,zy 57 (.nck (.t 56)),zf 58 2 57,zl 59 1 58,zm 60 1,zi 61 1 59 60,zl 62 1 61,zy 63 (.bin .eql (.t 62) (.c (zI (-1))))])
 (zC 63 (zs (zr [4] [zq 64 5,zq 4 64])
 .ret)
 .skip))
 (zs (zr [0,1,5,6] [zm 65 0,zy 66 (.nck (.t 65)),zf 67 2 66,zl 68 1 67,zm 69 1,zi 70 1 68 69,zl 71 1 70,zm 1 71])
 (zs (zr [0,1,5,6] [zm 72 5,zm 73 1,zy 74 (.bls 1 1 [zI 0] [] [(0,.t 73)]),zy 75 (.app 1 8 false (.t 72) (.t 74)),zq 5 75])
 (zs (zr [0,1,5,6,83] [zm 76 0,zy 77 (.nck (.t 76)),zf 78 3 77,zl 79 1 78,zm 80 1,zi 81 1 79 80,zl 82 1 81,zy 83 (.bin .neq (.t 82) (.c (zI (-1))))])
 (zC 83 (zs (zr [4] [zq 84 5,zq 4 84])
 .ret)
 .skip))))))))))
 (zs (zr [0,1,5] [zm 24 0,zy 25 (.nck (.t 24)),zf 26 0 25,zl 27 1 26,zm 28 1,zi 29 1 27 28,zl 30 1 29,zm 1 30])
 (zr [0,1,5] [zm 31 5,zm 32 1,zy 33 (.bls 1 1 [zI 0] [] [(0,.t 32)]),zy 34 (.app 1 8 false (.t 31) (.t 33)),zq 5 34]))))))))))))
 (zs (zr [4] [zq 85 5,zq 4 85])
 .ret)))) }
def N882 : aI:={ np:=2,nt:=13,res:=[(3,none)],body :=
 (zs (zr [0,1] [zc 3 (.bool false)])
 (zs (zr [3] [zm 4 0,zd 5 .lss 4 (zI 0),zm 6 5,zg 6 false (zm 7 0),zg 6 false (zf 8 1 1),zg 6 false (zl 9 1 8),zg 6 false (zn 10 9),zg 6 false (zb 11 .geq 7 10),zp 12 6 11,zm 3 12])
 .ret)) }
def N883 : aI:={ np:=2,nt:=12,res:=[(3,none)],body :=
 (zs (zr [0,1] [zc 3 (.bool false)])
 (zs (zr [3] [zm 4 0,zd 5 .lss 4 (zI 0),zm 6 5,zg 6 false (zm 7 0),zg 6 false (zl 8 1 1),zg 6 false (zn 9 8),zg 6 false (zb 10 .geq 7 9),zp 11 6 10,zm 3 11])
 .ret)) }
def prog : Nat -> Option aI
 | 11=>some N11
 | 19=>some N19
 | 35=>some N35
 | 42=>some N42
 | 91=>some N91
 | 99=>some N99
 | 103=>some N103
 | 105=>some N105
 | 106=>some N106
 | 112=>some N112
 | 113=>some N113
 | 213=>some N213
 | 215=>some N215
 | 220=>some N220
 | 221=>some N221
 | 223=>some N223
 | 225=>some N225
 | 234=>some N234
 | 243=>some N243
 | 244=>some N244
 | 253=>some N253
 | 254=>some N254
 | 256=>some N256
 | 257=>some N257
 | 258=>some N258
 | 261=>some N261
 | 262=>some N262
 | 263=>some N263
 | 264=>some N264
 | 266=>some N266
 | 267=>some N267
 | 268=>some N268
 | 273=>some N273
 | 280=>some N280
 | 285=>some N285
 | 286=>some N286
 | 289=>some N289
 | 290=>some N290
 | 291=>some N291
 | 292=>some N292
 | 293=>some N293
 | 294=>some N294
 | 295=>some N295
 | 298=>some N298
 | 299=>some N299
 | 302=>some N302
 | 303=>some N303
 | 304=>some N304
 | 305=>some N305
 | 306=>some N306
 | 307=>some N307
 | 308=>some N308
 | 309=>some N309
 | 310=>some N310
 | 311=>some N311
 | 313=>some N313
 | 315=>some N315
 | 316=>some N316
 | 317=>some N317
 | 318=>some N318
 | 323=>some N323
 | 324=>some N324
 | 328=>some N328
 | 333=>some N333
 | 334=>some N334
 | 335=>some N335
 | 339=>some N339
 | 340=>some N340
 | 341=>some N341
 | 342=>some N342
 | 343=>some N343
 | 373=>some N373
 | 376=>some N376
 | 377=>some N377
 | 850=>some N850
 | 854=>some N854
 | 855=>some N855
 | 856=>some N856
 | 857=>some N857
 | 858=>some N858
 | 859=>some N859
 | 862=>some N862
 | 874=>some N874
 | 875=>some N875
 | 876=>some N876
 | 877=>some N877
 | 880=>some N880
 | 881=>some N881
 | 882=>some N882
 | 883=>some N883
 | _=>none
end Go.Gv
