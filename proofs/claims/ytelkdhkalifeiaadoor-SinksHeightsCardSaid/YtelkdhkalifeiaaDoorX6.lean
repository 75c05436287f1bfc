/-
  Texts of the proof: GvP.
-/
import Derived.Test.YtelkdhkalifeiaaDoorX5
set_option linter.all false
set_option maxRecDepth 4000
namespace Go.Gv
@[simp] def zr (k : List Nat) (o : List ao) : dA:=.reg false [] k o
@[simp] def zI (n : Int) : D:=.int .i64 n
@[simp] def zC (t : Nat) (a b : dA) : dA:=.cond (.t t) a b
@[simp] def zs (a b : dA) : dA:=.seq a b
@[simp] def zy (t : Nat) (o : NOp) : ao:=⟨some t,o,none⟩
@[simp] def zw (o : NOp) : ao:=⟨none,o,none⟩
@[simp] def zm (a b : Nat) : ao:=⟨some a,.mov (.t b),none⟩
@[simp] def zc (a : Nat) (d : D) : ao:=⟨some a,.mov (.c d),none⟩
@[simp] def zf (a i b : Nat) : ao:=⟨some a,.fad i (.t b),none⟩
@[simp] def zl (a n b : Nat) : ao:=⟨some a,.ld n false (.t b),none⟩
@[simp] def zL (a n b : Nat) : ao:=⟨some a,.ld n true (.t b),none⟩
@[simp] def zx (a i b : Nat) : ao:=⟨some a,.ext i (.t b),none⟩
@[simp] def zn (a b : Nat) : ao:=⟨some a,.len (.t b),none⟩
@[simp] def zq (a b : Nat) : ao:=⟨some a,.asg (.t b),none⟩
@[simp] def zi (a n b c : Nat) : ao:=⟨some a,.iadS n (.t b) (.t c),none⟩
@[simp] def zo (a b : Nat) : ao:=⟨some a,.boxF (.t b),none⟩
@[simp] def zt (a b : Nat) : ao:=⟨some a,.un .not (.t b),none⟩
@[simp] def zk (a g : Nat) (xs : List Opd) : ao:=⟨some a,.call g xs [],none⟩
@[simp] def zb (a : Nat) (op : BinOp) (b c : Nat) : ao:=⟨some a,.bin op (.t b) (.t c),none⟩
@[simp] def zd (a : Nat) (op : BinOp) (b : Nat) (d : D) : ao:=⟨some a,.bin op (.t b) (.c d),none⟩
@[simp] def zg (c : Nat) (b : Bool) (s : ao) : ao:=⟨s.dst,s.op,some (c,b)⟩
def N11 : a8:={ np:=2,nt:=9,res:=[(4,none)],body :=
 (zs (zr [0,1] [zc 4 (.bool false)])
 (zs (zr [4] [zq 5 0,zm 6 1,zk 7 35 [.t 5,.t 6],zd 8 .geq 7 (zI 0),zm 4 8])
 .ret)) }
def N19 : a8:={ np:=2,nt:=26,res:=[(4,none)],body :=
 (zs (zr [0,1] [zc 4 (.bool false)])
 (zs (zs (zr [0,1,10] [zm 6 0,zn 7 6,zm 8 1,zn 9 8,zb 10 .neq 7 9])
 (zC 10 (zs (zr [4] [zc 4 (.bool false)])
 .ret)
 .skip))
 (zs (zs (zr [0,1,12,13] [zm 11 0,zn 12 11,zc 13 (zI 0)])
 (.block 0 (.loop (zs (zr [0,1,12,13,14] [zb 14 .lss 13 12])
 (zs (zC 14 .skip
 (.exit 0))
 (zs (.block 1 (zs (zr [0,1,5,12,13] [zm 15 13,zm 5 15])
 (zs (.reg true [0,0,3,7,0,0,48,112,255] [0,1,12,13,24] [zm 16 0,zm 17 5,zi 18 1 16 17,zl 19 1 18,zm 20 1,zm 21 5,zi 22 1 20 21,zl 23 1 22,zb 24 .neq 19 23])
 (zC 24 (zs (zr [4] [zc 4 (.bool false)])
 .ret)
 .skip))))
 (zr [0,1,12,13] [zd 25 .add 13 (zI 1),zm 13 25])))))))
 (zs (zr [4] [zc 4 (.bool true)])
 .ret)))) }
def N35 : a8:={ np:=2,nt:=19,res:=[(4,none)],body :=
 (zs (zr [0,1] [zc 4 (zI 0)])
 (zs (zs (zr [0,1,7,8] [zm 6 0,zn 7 6,zc 8 (zI 0)])
 (.block 0 (.loop (zs (zr [0,1,7,8,9] [zb 9 .lss 8 7])
 (zs (zC 9 .skip
 (.exit 0))
 (zs (.block 1 (zs (zr [0,1,5,7,8] [zm 10 8,zm 5 10])
 (zs (zr [0,1,5,7,8,16] [zm 11 1,zm 12 0,zm 13 5,zi 14 1 12 13,zl 15 1 14,zy 16 (.callv (.t 11) [.t 15])])
 (zC 16 (zs (zr [4] [zm 17 5,zm 4 17])
 .ret)
 .skip))))
 (zr [0,1,7,8] [zd 18 .add 8 (zI 1),zm 8 18])))))))
 (zs (zr [4] [zy 4 (.mov (.c (zI (-1))))])
 .ret))) }
def N42 : a8:={ np:=1,nt:=8,res:=[(2,none)],body :=
 (zs (zr [0] [zc 2 .nils])
 (zs (zs (zr [0,4] [zm 3 0,zy 4 (.beq false [9] (.t 3) (.c .nils))])
 (zC 4 (zs (zr [2] [zc 2 .nils])
 .ret)
 .skip))
 (zs (zr [2] [zy 5 (.bls 1 0 [zI 0] [] []),zq 6 0,zy 7 (.app 1 8 false (.t 5) (.t 6)),zq 2 7])
 .ret))) }
def N91 : a8:={ np:=2,nt:=51,res:=[(4,none),(5,none)],body :=
 (zs (zr [0,1] [zc 4 (.int .u64 0),zc 5 (.int .u64 0)])
 (zs (zr [0,1,6] [zm 14 0,zd 15 .and 14 (.int .u64 4294967295),zm 6 15])
 (zs (zr [0,1,6,7] [zm 16 0,zd 17 .shr 16 (.int .u64 32),zm 7 17])
 (zs (zr [0,1,6,7,8] [zm 18 1,zd 19 .and 18 (.int .u64 4294967295),zm 8 19])
 (zs (zr [0,1,6,7,8,9] [zm 20 1,zd 21 .shr 20 (.int .u64 32),zm 9 21])
 (zs (zr [0,1,6,7,8,9,10] [zm 22 6,zm 23 8,zb 24 .mul 22 23,zm 10 24])
 (zs (zr [0,1,6,7,9,11] [zm 25 7,zm 26 8,zb 27 .mul 25 26,zm 28 10,zd 29 .shr 28 (.int .u64 32),zb 30 .add 27 29,zm 11 30])
 (zs (zr [0,1,6,7,9,11,12] [zm 31 11,zd 32 .and 31 (.int .u64 4294967295),zm 12 32])
 (zs (zr [0,1,6,7,9,12,13] [zm 33 11,zd 34 .shr 33 (.int .u64 32),zm 13 34])
 (zs (zr [0,1,7,9,12,13] [zm 35 12,zm 36 6,zm 37 9,zb 38 .mul 36 37,zb 39 .add 35 38,zm 12 39])
 (zs (zr [0,1,4] [zm 40 7,zm 41 9,zb 42 .mul 40 41,zm 43 13,zb 44 .add 42 43,zm 45 12,zd 46 .shr 45 (.int .u64 32),zb 47 .add 44 46,zm 4 47])
 (zs (zr [4,5] [zm 48 0,zm 49 1,zb 50 .mul 48 49,zm 5 50])
 .ret)))))))))))) }
def N220 : a8:={ np:=1,nt:=18,res:=[(2,none),(3,none)],body :=
 (zs (zr [1] [zo 1 0,zc 2 .nils,zc 3 (zI 0)])
 (zs (zr [4,5] [zL 7 2 1,zk 8 253 [.t 7],zm 6 8,zx 9 0 6,zx 10 1 6,zm 4 9,zm 5 10])
 (zs (zs (zr [4,5,12] [zm 11 5,zd 12 .neq 11 (zI 0)])
 (zC 12 (zs (zr [2,3] [zm 13 5,zc 2 .nils,zm 3 13])
 .ret)
 .skip))
 (zs (zr [2,3] [zm 14 4,zy 15 (.nck (.t 14)),zf 16 1 15,zl 17 1 16,zq 2 17,zc 3 (zI 0)])
 .ret)))) }
def N221 : a8:={ np:=1,nt:=9,res:=[(2,none),(3,none)],body :=
 (zs (zr [1] [zo 1 0,zc 2 .nils,zc 3 (zI 0)])
 (zs (zs (zr [1,6] [zL 4 2 1,zk 5 234 [.t 4],zt 6 5])
 (zC 6 (zs (zr [2,3] [zc 2 .nils,zc 3 (zI 1)])
 .ret)
 .skip))
 (zs (zr [2,3] [zL 7 2 1,zk 8 261 [.t 7],zq 2 8,zc 3 (zI 0)])
 .ret))) }
def N223 : a8:={ np:=2,nt:=9,res:=[(4,none)],body :=
 (zs (zr [0,1] [zc 4 (.bool false)])
 (zs (zr [4] [zq 5 0,zm 6 1,zk 7 262 [.t 5,.t 6],zd 8 .geq 7 (zI 0),zm 4 8])
 .ret)) }
def N234 : a8:={ np:=1,nt:=17,res:=[(2,none)],body :=
 (zs (zr [1] [zo 1 0,zc 2 (.bool false)])
 (zs (zr [3,4] [zL 6 2 1,zk 7 273 [.t 6],zm 5 7,zx 8 0 5,zx 9 1 5,zq 3 8,zm 4 9])
 (zs (zr [2] [zm 10 4,zd 11 .eql 10 (zI 0),zm 12 11,zg 12 true (zq 13 3),zg 12 true (zn 14 13),zg 12 true (zd 15 .eql 14 (zI 0)),zy 16 (.pick (.t 12) (.t 15) (.c (.bool false))),zm 2 16])
 .ret))) }
def N241 : a8:={ np:=0,nt:=71,res:=[(0,none)],body :=
 (zs (zr [] [zc 0 (.bool false)])
 (zs (zr [1] [zy 10 (.bld [zI 0,zI 0,zI 0] [(2,1,(.c (zI 1)))]),zy 11 (.bld [zI 0,zI 0,zI 0] [(0,1,(.c (zI 10))),(2,1,(.c (zI 2)))]),zy 12 (.bld [zI 0,zI 0,zI 0] [(1,1,(.c (zI 10))),(2,1,(.c (zI 4)))]),zy 13 (.blsF 3 3 [zI 0,zI 0,zI 0] [(0,.t 10),(1,.t 11),(2,.t 12)]),zy 14 (.bld [zI 0,zI 0,zI 0,zI 0] [(0,1,(.c (zI 0))),(1,1,(.c (zI 1))),(2,1,(.c (zI 2)))]),zy 15 (.blsF 4 1 [zI 0,zI 0,zI 0,zI 0] [(0,.t 14)]),zy 16 (.bld [.nils,.nils] [(0,1,.t 13),(1,1,.t 15)]),zy 1 (.alc [.own 3 [],.own 4 []]),zw (.st 2 [] (.t 1) (.t 16))])
 (zs (zr [1,2,3] [zL 18 2 1,zk 19 243 [.t 18],zm 17 19,zx 20 0 17,zx 21 1 17,zq 2 20,zm 3 21])
 (zs (zr [1,2,3,4,5] [zL 23 2 1,zk 24 244 [.t 23],zm 22 24,zx 25 0 22,zx 26 1 22,zq 4 25,zm 5 26])
 (zs (zr [1,2,3,4,5,6,7] [zL 28 2 1,zk 29 245 [.t 28],zm 27 29,zx 30 0 27,zx 31 1 27,zq 6 30,zm 7 31])
 (zs (zr [2,3,4,5,6,7,8,9] [zL 33 2 1,zk 34 279 [.t 33],zm 32 34,zx 35 0 32,zx 36 1 32,zq 8 35,zm 9 36])
 (zs (zr [0] [zm 37 3,zd 38 .eql 37 (zI 0),zm 39 38,zg 39 true (zq 40 2),zg 39 true (zy 41 (.bls 1 1 [zI 0] [] [(0,(.c (zI 7)))])),zg 39 true (zk 42 19 [.t 40,.t 41]),zy 43 (.pick (.t 39) (.t 42) (.c (.bool false))),zm 44 43,zg 44 true (zm 45 5),zg 44 true (zd 46 .eql 45 (zI 0)),zy 47 (.pick (.t 44) (.t 46) (.c (.bool false))),zm 48 47,zg 48 true (zq 49 4),zg 48 true (zy 50 (.bls 1 1 [zI 0] [] [(0,(.c (zI (-1))))])),zg 48 true (zk 51 19 [.t 49,.t 50]),zy 52 (.pick (.t 48) (.t 51) (.c (.bool false))),zm 53 52,zg 53 true (zm 54 7),zg 53 true (zd 55 .eql 54 (zI 0)),zy 56 (.pick (.t 53) (.t 55) (.c (.bool false))),zm 57 56,zg 57 true (zq 58 6),zg 57 true (zy 59 (.bls 1 1 [zI 0] [] [(0,(.c (zI 0)))])),zg 57 true (zk 60 19 [.t 58,.t 59]),zy 61 (.pick (.t 57) (.t 60) (.c (.bool false))),zm 62 61,zg 62 true (zm 63 9),zg 62 true (zd 64 .eql 63 (zI 0)),zy 65 (.pick (.t 62) (.t 64) (.c (.bool false))),zm 66 65,zg 66 true (zq 67 8),zg 66 true (zn 68 67),zg 66 true (zd 69 .eql 68 (zI 0)),zy 70 (.pick (.t 66) (.t 69) (.c (.bool false))),zm 0 70])
 .ret))))))) }
def N242 : a8:={ np:=1,nt:=13,res:=[(2,none)],body :=
 (zs (zr [1] [zo 1 0,zc 2 (.bool false)])
 (zs (zr [2] [zf 3 0 1,zl 4 1 3,zn 5 4,zd 6 .gtr 5 (zI 60),zm 7 6,zg 7 false (zf 8 1 1),zg 7 false (zl 9 1 8),zg 7 false (zn 10 9),zg 7 false (zd 11 .gtr 10 (zI 80)),zy 12 (.pick (.t 7) (.c (.bool true)) (.t 11)),zm 2 12])
 .ret)) }
def N243 : a8:={ np:=1,nt:=18,res:=[(2,none),(3,none)],body :=
 (zs (zr [1] [zo 1 0,zc 2 .nils,zc 3 (zI 0)])
 (zs (zr [4,5] [zL 7 2 1,zk 8 280 [.t 7],zm 6 8,zx 9 0 6,zx 10 1 6,zm 4 9,zm 5 10])
 (zs (zs (zr [4,5,12] [zm 11 5,zd 12 .neq 11 (zI 0)])
 (zC 12 (zs (zr [2,3] [zm 13 5,zc 2 .nils,zm 3 13])
 .ret)
 .skip))
 (zs (zr [2,3] [zm 14 4,zy 15 (.nck (.t 14)),zf 16 2 15,zl 17 1 16,zq 2 17,zc 3 (zI 0)])
 .ret)))) }
def N244 : a8:={ np:=1,nt:=18,res:=[(2,none),(3,none)],body :=
 (zs (zr [1] [zo 1 0,zc 2 .nils,zc 3 (zI 0)])
 (zs (zr [4,5] [zL 7 2 1,zk 8 280 [.t 7],zm 6 8,zx 9 0 6,zx 10 1 6,zm 4 9,zm 5 10])
 (zs (zs (zr [4,5,12] [zm 11 5,zd 12 .neq 11 (zI 0)])
 (zC 12 (zs (zr [2,3] [zm 13 5,zc 2 .nils,zm 3 13])
 .ret)
 .skip))
 (zs (zr [2,3] [zm 14 4,zy 15 (.nck (.t 14)),zf 16 3 15,zl 17 1 16,zq 2 17,zc 3 (zI 0)])
 .ret)))) }
def N245 : a8:={ np:=1,nt:=50,res:=[(2,none),(3,none)],body :=
 (zs (zr [1] [zo 1 0,zc 2 .nils,zc 3 (zI 0)])
 (zs (zr [4,5] [zL 10 2 1,zk 11 280 [.t 10],zm 9 11,zx 12 0 9,zx 13 1 9,zm 4 12,zm 5 13])
 (zs (zs (zr [4,5,15] [zm 14 5,zd 15 .neq 14 (zI 0)])
 (zC 15 (zs (zr [2,3] [zm 16 5,zc 2 .nils,zm 3 16])
 .ret)
 .skip))
 (zs (zr [4,6] [zm 17 4,zy 18 (.nck (.t 17)),zf 19 3 18,zl 20 1 19,zn 21 20,zy 22 (.mks 1 8 [zI 0] (.t 21) (.t 21)),zq 6 22])
 (zs (zs (zr [4,6,24,25] [zm 23 6,zn 24 23,zc 25 (zI 0)])
 (.block 0 (.loop (zs (zr [4,6,24,25,26] [zb 26 .lss 25 24])
 (zs (zC 26 .skip
 (.exit 0))
 (zs (.block 1 (zs (zr [4,6,7,24,25] [zm 27 25,zm 7 27])
 (zs (zr [4,6,7,8,24,25] [zm 28 7,zm 8 28])
 (zs (.block 2 (.loop (zs (zs (zr [4,6,7,8,24,25,36] [zm 29 4,zy 30 (.nck (.t 29)),zf 31 3 30,zl 32 1 31,zm 33 8,zi 34 1 32 33,zl 35 1 34,zy 36 (.bin .neq (.t 35) (.c (zI (-1))))])
 (zC 36 .skip
 (.exit 2)))
 (.block 3 (zr [4,6,7,8,24,25] [zm 37 4,zy 38 (.nck (.t 37)),zf 39 3 38,zl 40 1 39,zm 41 8,zi 42 1 40 41,zl 43 1 42,zm 8 43])))))
 (zr [4,6,24,25] [zm 44 6,zm 45 7,zm 46 8,zi 47 1 44 45,zw (.st 1 [] (.t 47) (.t 46))])))))
 (zr [4,6,24,25] [zd 48 .add 25 (zI 1),zm 25 48])))))))
 (zs (zr [2,3] [zq 49 6,zq 2 49,zc 3 (zI 0)])
 .ret)))))) }
def N248 : a8:={ np:=1,nt:=5,res:=[(2,none)],body :=
 (zs (zr [1] [zo 1 0,zc 2 (.bool false)])
 (zs (zr [2] [zy 3 (.slA 3 1 (.t 1)),zk 4 223 [.t 3,(.c (zI (-1)))],zm 2 4])
 .ret)) }
def N253 : a8:={ np:=1,nt:=93,res:=[(2,none),(3,none)],body :=
 (zs (zr [1] [zo 1 0,zc 2 .nilp,zc 3 (zI 0)])
 (zs (zr [1,4,5] [zL 13 2 1,zk 14 221 [.t 13],zm 12 14,zx 15 0 12,zx 16 1 12,zq 4 15,zm 5 16])
 (zs (zs (zr [1,4,5,18] [zm 17 5,zd 18 .neq 17 (zI 0)])
 (zC 18 (zs (zr [2,3] [zm 19 5,zc 2 .nilp,zm 3 19])
 .ret)
 .skip))
 (zs (zr [1,6] [zq 20 4,zy 21 (.bld [.nils,.nils,.nils] [(0,1,.t 20)]),zy 22 (.box [] (.t 21)),zm 6 22])
 (zs (zs (zr [1,6,24,25,26] [zf 23 1 1,zl 24 1 23,zn 25 24,zc 26 (zI 0)])
 (.block 0 (.loop (zs (zr [1,6,24,25,26,27] [zb 27 .lss 26 25])
 (zs (zC 27 .skip
 (.exit 0))
 (zs (.block 1 (zs (zr [1,6,8,24,25,26] [zi 28 4 24 26,zL 29 4 28,zy 8 (.alc [zI 0,zI 0,zI 0,zI 0]),zw (.st 4 [] (.t 8) (.t 29))])
 (zs (.reg true [0,1,0,4,15,31,0,64,0,256,960,1984,0,4096,0,16384,61440,126976,0,0,0,1835071,3936255,8388607] [1,6,9,10,11,24,25,26] [zf 30 0 1,zl 31 1 30,zf 32 0 8,zl 33 1 32,zi 34 3 31 33,zL 35 3 34,zf 36 0 1,zl 37 1 36,zf 38 1 8,zl 39 1 38,zi 40 3 37 39,zL 41 3 40,zf 42 0 1,zl 43 1 42,zf 44 2 8,zl 45 1 44,zi 46 3 43 45,zL 47 3 46,zy 9 (.alc [zI 0,zI 0,zI 0]),zy 10 (.alc [zI 0,zI 0,zI 0]),zy 11 (.alc [zI 0,zI 0,zI 0]),zw (.st 3 [] (.t 9) (.t 35)),zw (.st 3 [] (.t 10) (.t 41)),zw (.st 3 [] (.t 11) (.t 47))])
 (zs (.reg true [0,0,2,6,14,0,32,0,128,480,0,1024,4064,8160,16382,32767,65535,131071] [1,6,9,10,11,24,25,26] [zm 48 6,zm 49 6,zy 50 (.nck (.t 49)),zf 51 1 50,zl 52 1 51,zf 53 2 9,zl 54 1 53,zf 55 2 10,zl 56 1 55,zb 57 .add 54 56,zf 58 2 11,zl 59 1 58,zb 60 .add 57 59,zy 61 (.bls 1 1 [zI 0] [] [(0,.t 60)]),zy 62 (.app 1 8 false (.t 52) (.t 61)),zy 63 (.nck (.t 48)),zf 64 1 63,zw (.st 1 [] (.t 64) (.t 62))])
 (.reg true [0,0,2,6,14,0,32,0,128,480,0,1024,4064,0,8192,0,32768,122880,0,262144,1040384,2097120,4194272,8388606,16777215,33554431,67108863] [1,6,24,25,26] [zm 65 6,zm 66 6,zy 67 (.nck (.t 66)),zf 68 2 67,zl 69 1 68,zf 70 0 9,zl 71 1 70,zf 72 0 10,zl 73 1 72,zb 74 .add 71 73,zf 75 0 11,zl 76 1 75,zb 77 .add 74 76,zf 78 1 9,zl 79 1 78,zf 80 1 10,zl 81 1 80,zb 82 .add 79 81,zf 83 1 11,zl 84 1 83,zb 85 .add 82 84,zy 86 (.bld [zI 0,zI 0] [(0,1,.t 77),(1,1,.t 85)]),zy 87 (.bls 2 1 [zI 0,zI 0] [] [(0,.t 86)]),zy 88 (.app 2 16 false (.t 69) (.t 87)),zy 89 (.nck (.t 65)),zf 90 2 89,zw (.st 1 [] (.t 90) (.t 88))])))))
 (zr [1,6,24,25,26] [zd 91 .add 26 (zI 1),zm 26 91])))))))
 (zs (zr [2,3] [zm 92 6,zm 2 92,zc 3 (zI 0)])
 .ret)))))) }
def N261 : a8:={ np:=1,nt:=72,res:=[(2,none)],body :=
 (zs (zr [1] [zo 1 0,zc 2 .nils])
 (zs (zr [1,3] [zy 14 (.mkm 3 2),zm 3 14])
 (zs (zs (zr [1,3,16,17,18] [zf 15 1 1,zl 16 1 15,zn 17 16,zc 18 (zI 0)])
 (.block 0 (.loop (zs (zr [1,3,16,17,18,19] [zb 19 .lss 18 17])
 (zs (zC 19 .skip
 (.exit 0))
 (zs (.block 1 (zs (zr [1,3,4,5,16,17,18] [zm 20 18,zi 21 4 16 18,zL 22 4 21,zy 5 (.alc [zI 0,zI 0,zI 0,zI 0]),zm 4 20,zw (.st 4 [] (.t 5) (.t 22))])
 (zs (zr [1,3,4,5,16,17,18,23] [zc 23 (zI 0)])
 (.block 2 (.loop (zs (zr [1,3,4,5,16,17,18,23,24] [zd 24 .lss 23 (zI 3)])
 (zs (zC 24 .skip
 (.exit 2))
 (zs (.block 3 (zs (zr [1,3,4,5,6,16,17,18,23] [zm 25 23,zm 6 25])
 (zr [1,3,4,5,16,17,18,23] [zm 26 3,zL 27 4 5,zm 28 6,zk 29 298 [.t 27,.t 28],zm 30 4,zw (.mpu (.ints .i64 2) 3 2 (zI 0) (.t 26) (.t 29) (.t 30))])))
 (zr [1,3,4,5,16,17,18,23] [zd 31 .add 23 (zI 1),zm 23 31])))))))))
 (zr [1,3,16,17,18] [zd 32 .add 18 (zI 1),zm 18 32])))))))
 (zs (zr [1,3,7] [zf 33 1 1,zl 34 1 33,zn 35 34,zy 36 (.mks 3 24 [zI 0,zI 0,zI 0] (.t 35) (.t 35)),zq 7 36])
 (zs (zs (zr [3,7,38,39,40] [zf 37 1 1,zl 38 1 37,zn 39 38,zc 40 (zI 0)])
 (.block 4 (.loop (zs (zr [3,7,38,39,40,41] [zb 41 .lss 40 39])
 (zs (zC 41 .skip
 (.exit 4))
 (zs (.block 5 (zs (zr [3,7,8,9,38,39,40] [zm 42 40,zi 43 4 38 40,zL 44 4 43,zy 9 (.alc [zI 0,zI 0,zI 0,zI 0]),zm 8 42,zw (.st 4 [] (.t 9) (.t 44))])
 (zs (zr [3,7,8,9,38,39,40,45] [zc 45 (zI 0)])
 (.block 6 (.loop (zs (zr [3,7,8,9,38,39,40,45,46] [zd 46 .lss 45 (zI 3)])
 (zs (zC 46 .skip
 (.exit 6))
 (zs (.block 7 (zs (zr [3,7,8,9,10,38,39,40,45] [zm 47 45,zm 10 47])
 (zs (zr [3,7,8,9,10,11,38,39,40,45] [zL 48 4 9,zm 49 10,zk 50 298 [.t 48,.t 49],zy 11 (.alc [zI 0,zI 0]),zw (.st 2 [] (.t 11) (.t 50))])
 (zs (zr [3,7,8,9,10,12,13,38,39,40,45] [zm 52 3,zy 53 (.iadA 2 1 (.t 11) (.c (zI 1))),zl 54 1 53,zy 55 (.iadA 2 1 (.t 11) (.c (zI 0))),zl 56 1 55,zy 57 (.bld [zI 0,zI 0] [(0,1,.t 54),(1,1,.t 56)]),zy 58 (.mpl (.ints .i64 2) 3 2 true (zI 0) (.t 52) (.t 57)),zm 51 58,zx 59 0 51,zx 60 1 51,zm 12 59,zm 13 60])
 (zs (zs (zr [3,7,8,9,10,12,38,39,40,45,62] [zm 61 13,zt 62 61])
 (zC 62 (zr [3,7,8,9,10,12,38,39,40,45] [zy 12 (.mov (.c (zI (-1))))])
 .skip))
 (zr [3,7,8,9,38,39,40,45] [zm 63 7,zm 64 8,zm 65 10,zm 66 12,zi 67 3 63 64,zy 68 (.iadA 3 1 (.t 67) (.t 65)),zw (.st 1 [] (.t 68) (.t 66))]))))))
 (zr [3,7,8,9,38,39,40,45] [zd 69 .add 45 (zI 1),zm 45 69])))))))))
 (zr [3,7,38,39,40] [zd 70 .add 40 (zI 1),zm 40 70])))))))
 (zs (zr [2] [zq 71 7,zq 2 71])
 .ret)))))) }
def N262 : a8:={ np:=2,nt:=19,res:=[(4,none)],body :=
 (zs (zr [0,1] [zc 4 (zI 0)])
 (zs (zs (zr [0,1,7,8] [zm 6 0,zn 7 6,zc 8 (zI 0)])
 (.block 0 (.loop (zs (zr [0,1,7,8,9] [zb 9 .lss 8 7])
 (zs (zC 9 .skip
 (.exit 0))
 (zs (.block 1 (zs (zr [0,1,5,7,8] [zm 10 8,zm 5 10])
 (zs (zr [0,1,5,7,8,16] [zm 11 1,zm 12 0,zm 13 5,zi 14 1 12 13,zl 15 1 14,zb 16 .eql 11 15])
 (zC 16 (zs (zr [4] [zm 17 5,zm 4 17])
 .ret)
 .skip))))
 (zr [0,1,7,8] [zd 18 .add 8 (zI 1),zm 8 18])))))))
 (zs (zr [4] [zy 4 (.mov (.c (zI (-1))))])
 .ret))) }
def N273 : a8:={ np:=1,nt:=202,res:=[(2,none),(3,none)],body :=
 (zs (zr [1] [zo 1 0,zc 2 .nils,zc 3 (zI 0)])
 (zs (zs (zr [1,24] [zL 22 2 1,zk 23 302 [.t 22],zt 24 23])
 (zC 24 (zs (zr [2,3] [zc 2 .nils,zc 3 (zI 4)])
 .ret)
 .skip))
 (zs (zr [1,4] [zy 4 (.alc [.own 1 [],.own 1 [],.own 1 [],.own 1 [],.own 1 [],.own 1 [],.own 1 []])])
 (zs (zr [1,4,5] [zf 25 0 1,zl 26 1 25,zn 27 26,zy 28 (.mks 1 1 [.bool false] (.t 27) (.t 27)),zy 5 (.alc [.own 1 []]),zw (.st 1 [] (.t 5) (.t 28))])
 (zs (zr [1,4,5,6] [zy 29 (.mkm 4 1),zm 6 29])
 (zs (zs (zr [1,4,5,6,31,32,33] [zf 30 0 1,zl 31 1 30,zn 32 31,zc 33 (zI 0)])
 (.block 0 (.loop (zs (zr [1,4,5,6,31,32,33,34] [zb 34 .lss 33 32])
 (zs (zC 34 .skip
 (.exit 0))
 (zs (.block 1 (zs (zr [1,4,5,6,7,8,31,32,33] [zm 35 33,zi 36 3 31 33,zL 37 3 36,zy 8 (.alc [zI 0,zI 0,zI 0]),zm 7 35,zw (.st 3 [] (.t 8) (.t 37))])
 (zs (zs (.reg true [0,0,0,4,12,31,63] [1,4,5,6,7,31,32,33] [zl 38 1 5,zm 39 7,zL 40 3 8,zk 41 303 [.t 40],zt 42 41,zi 43 1 38 39,zw (.st 1 [] (.t 43) (.t 42))])
 (zs (zr [1,4,5,6,7,31,32,33,47] [zl 44 1 5,zm 45 7,zi 46 1 44 45,zl 47 1 46])
 (zC 47 (zs (zr [1,4,5,6,31,32,33] [zy 48 (.iadA 7 1 (.t 4) (.c (zI 1))),zl 49 1 48,zm 50 7,zy 51 (.bls 1 1 [zI 0] [] [(0,.t 50)]),zy 52 (.app 1 8 false (.t 49) (.t 51)),zy 53 (.iadA 7 1 (.t 4) (.c (zI 1))),zw (.st 1 [] (.t 53) (.t 52))])
 (.exit 1))
 .skip)))
 (zs (zr [1,4,5,6,7,9,31,32,33] [zL 54 2 1,zm 55 7,zk 56 304 [.t 54,.t 55],zy 9 (.alc [zI 0,zI 0]),zw (.st 2 [] (.t 9) (.t 56))])
 (zs (zs (zr [1,4,5,6,7,9,31,32,33,59] [zm 57 6,zL 58 2 9,zy 59 (.mpl (.ints .i64 2) 4 1 false (.bool false) (.t 57) (.t 58))])
 (zC 59 (zr [1,4,5,6,9,31,32,33] [zy 60 (.iadA 7 1 (.t 4) (.c (zI 2))),zl 61 1 60,zm 62 7,zy 63 (.bls 1 1 [zI 0] [] [(0,.t 62)]),zy 64 (.app 1 8 false (.t 61) (.t 63)),zy 65 (.iadA 7 1 (.t 4) (.c (zI 2))),zw (.st 1 [] (.t 65) (.t 64))])
 .skip))
 (zr [1,4,5,6,31,32,33] [zm 66 6,zL 67 2 9,zw (.mpu (.ints .i64 2) 4 1 (.bool false) (.t 66) (.t 67) (.c (.bool true)))]))))))
 (zr [1,4,5,6,31,32,33] [zd 68 .add 33 (zI 1),zm 33 68])))))))
 (zs (zr [1,4,5,10] [zy 69 (.mkm 3 1),zm 10 69])
 (zs (zr [1,4,5,10,11] [zy 11 (.nilo 6)])
 (zs (zs (zr [1,4,5,10,11,71,72,73] [zf 70 1 1,zl 71 1 70,zn 72 71,zc 73 (zI 0)])
 (.block 2 (.loop (zs (zr [1,4,5,10,11,71,72,73,74] [zb 74 .lss 73 72])
 (zs (zC 74 .skip
 (.exit 2))
 (zs (.block 3 (zs (zr [1,4,5,10,11,12,13,71,72,73] [zm 75 73,zi 76 4 71 73,zL 77 4 76,zy 13 (.alc [zI 0,zI 0,zI 0,zI 0]),zm 12 75,zw (.st 4 [] (.t 13) (.t 77))])
 (zs (zr [1,4,5,10,11,12,13,14,71,72,73] [zL 78 4 13,zk 79 305 [.t 78],zy 14 (.alc [zI 0,zI 0,zI 0]),zw (.st 3 [] (.t 14) (.t 79))])
 (zs (zs (zr [1,4,5,10,11,12,13,71,72,73,113] [zy 80 (.slM 3 1 (.t 14)),zy 81 (.mk 306 [.t 1,.t 5]),zk 82 11 [.t 80,.t 81],zm 83 82,zg 83 false (zf 84 0 13),zg 83 false (zl 85 1 84),zg 83 false (zf 86 1 13),zg 83 false (zl 87 1 86),zg 83 false (zb 88 .eql 85 87),zy 89 (.pick (.t 83) (.c (.bool true)) (.t 88)),zm 90 89,zg 90 false (zf 91 1 13),zg 90 false (zl 92 1 91),zg 90 false (zf 93 2 13),zg 90 false (zl 94 1 93),zg 90 false (zb 95 .eql 92 94),zy 96 (.pick (.t 90) (.c (.bool true)) (.t 95)),zm 97 96,zg 97 false (zf 98 2 13),zg 97 false (zl 99 1 98),zg 97 false (zf 100 0 13),zg 97 false (zl 101 1 100),zg 97 false (zb 102 .eql 99 101),zy 103 (.pick (.t 97) (.c (.bool true)) (.t 102)),zm 104 103,zg 104 false (zf 105 3 13),zg 104 false (zl 106 1 105),zg 104 false (zd 107 .lss 106 (zI 0)),zy 108 (.pick (.t 104) (.c (.bool true)) (.t 107)),zm 109 108,zg 109 false (zf 110 3 13),zg 109 false (zl 111 1 110),zg 109 false (zd 112 .geq 111 (zI 16)),zy 113 (.pick (.t 109) (.c (.bool true)) (.t 112))])
 (zC 113 (zs (zr [1,4,5,10,11,71,72,73] [zy 114 (.iadA 7 1 (.t 4) (.c (zI 3))),zl 115 1 114,zm 116 12,zy 117 (.bls 1 1 [zI 0] [] [(0,.t 116)]),zy 118 (.app 1 8 false (.t 115) (.t 117)),zy 119 (.iadA 7 1 (.t 4) (.c (zI 3))),zw (.st 1 [] (.t 119) (.t 118))])
 (.exit 3))
 .skip))
 (zs (zr [1,4,5,10,11,12,13,15,71,72,73] [zL 120 2 1,zL 121 4 13,zk 122 307 [.t 120,.t 121],zy 15 (.alc [zI 0,zI 0,zI 0,zI 0,zI 0,zI 0]),zw (.st 6 [] (.t 15) (.t 122))])
 (zs (zs (zr [1,4,5,10,11,12,13,15,71,72,73,130] [zy 123 (.iadA 3 2 (.t 15) (.c (zI 0))),zL 124 2 123,zy 125 (.iadA 3 2 (.t 15) (.c (zI 1))),zL 126 2 125,zy 127 (.iadA 3 2 (.t 15) (.c (zI 2))),zL 128 2 127,zk 129 308 [.t 124,.t 126,.t 128],zd 130 .leq 129 (zI 0)])
 (zC 130 (zs (zr [1,4,5,10,11,71,72,73] [zy 131 (.iadA 7 1 (.t 4) (.c (zI 4))),zl 132 1 131,zm 133 12,zy 134 (.bls 1 1 [zI 0] [] [(0,.t 133)]),zy 135 (.app 1 8 false (.t 132) (.t 134)),zy 136 (.iadA 7 1 (.t 4) (.c (zI 4))),zw (.st 1 [] (.t 136) (.t 135))])
 (.exit 3))
 .skip))
 (zs (zs (zr [1,4,5,10,11,12,13,15,71,72,73,152] [zm 137 10,zL 138 4 13,zk 139 298 [.t 138,(.c (zI 0))],zy 140 (.mpl (.ints .i64 2) 3 1 false (.bool false) (.t 137) (.t 139)),zm 141 140,zg 141 false (zm 142 10),zg 141 false (zL 143 4 13),zg 141 false (zk 144 298 [.t 143,(.c (zI 1))]),zg 141 false (zy 145 (.mpl (.ints .i64 2) 3 1 false (.bool false) (.t 142) (.t 144))),zy 146 (.pick (.t 141) (.c (.bool true)) (.t 145)),zm 147 146,zg 147 false (zm 148 10),zg 147 false (zL 149 4 13),zg 147 false (zk 150 298 [.t 149,(.c (zI 2))]),zg 147 false (zy 151 (.mpl (.ints .i64 2) 3 1 false (.bool false) (.t 148) (.t 150))),zy 152 (.pick (.t 147) (.c (.bool true)) (.t 151))])
 (zC 152 (zr [1,4,5,10,11,12,13,15,71,72,73] [zy 153 (.iadA 7 1 (.t 4) (.c (zI 5))),zl 154 1 153,zm 155 12,zy 156 (.bls 1 1 [zI 0] [] [(0,.t 155)]),zy 157 (.app 1 8 false (.t 154) (.t 156)),zy 158 (.iadA 7 1 (.t 4) (.c (zI 5))),zw (.st 1 [] (.t 158) (.t 157))])
 .skip))
 (zs (zs (zr [1,4,5,10,11,12,13,15,71,72,73,159] [zc 159 (zI 0)])
 (.block 4 (.loop (zs (zr [1,4,5,10,11,12,13,15,71,72,73,159,160] [zd 160 .lss 159 (zI 3)])
 (zs (zC 160 .skip
 (.exit 4))
 (zs (.block 5 (zs (zr [1,4,5,10,11,12,13,15,16,71,72,73,159] [zm 161 159,zm 16 161])
 (zr [1,4,5,10,11,12,13,15,71,72,73,159] [zm 162 10,zL 163 4 13,zm 164 16,zk 165 298 [.t 163,.t 164],zw (.mpu (.ints .i64 2) 3 1 (.bool false) (.t 162) (.t 165) (.c (.bool true)))])))
 (zr [1,4,5,10,11,12,13,15,71,72,73,159] [zd 166 .add 159 (zI 1),zm 159 166])))))))
 (zs (zs (zr [1,4,5,10,11,12,15,71,72,73,169] [zm 167 11,zy 168 (.mk 310 [.t 15]),zk 169 309 [.t 167,.t 168]])
 (zC 169 (zr [1,4,5,10,11,15,71,72,73] [zy 170 (.iadA 7 1 (.t 4) (.c (zI 6))),zl 171 1 170,zm 172 12,zy 173 (.bls 1 1 [zI 0] [] [(0,.t 172)]),zy 174 (.app 1 8 false (.t 171) (.t 173)),zy 175 (.iadA 7 1 (.t 4) (.c (zI 6))),zw (.st 1 [] (.t 175) (.t 174))])
 .skip))
 (zr [1,4,5,10,11,71,72,73] [zm 176 11,zL 177 6 15,zy 178 (.bls 6 1 [zI 0,zI 0,zI 0,zI 0,zI 0,zI 0] [] [(0,.t 177)]),zy 179 (.app 6 48 false (.t 176) (.t 178)),zq 11 179]))))))))))
 (zr [1,4,5,10,11,71,72,73] [zd 180 .add 73 (zI 1),zm 73 180])))))))
 (zs (zr [4,17] [zy 17 (.nilo 2)])
 (zs (zs (zr [17,181,182] [zL 181 7 4,zc 182 (zI 0)])
 (.block 6 (.loop (zs (zr [17,181,182,183] [zd 183 .lss 182 (zI 7)])
 (zs (zC 183 .skip
 (.exit 6))
 (zs (.block 7 (zs (zr [17,18,19,181,182] [zm 184 182,zy 185 (.idxA 7 1 false (.t 181) (.t 182)),zm 18 184,zq 19 185])
 (zs (zr [17,18,181,182,186,187,188] [zq 186 19,zn 187 186,zc 188 (zI 0)])
 (.block 8 (.loop (zs (zr [17,18,181,182,186,187,188,189] [zb 189 .lss 188 187])
 (zs (zC 189 .skip
 (.exit 8))
 (zs (.block 9 (zs (zr [17,18,21,181,182,186,187,188] [zi 190 1 186 188,zl 191 1 190,zm 21 191])
 (zr [17,18,181,182,186,187,188] [zm 192 17,zm 193 18,zm 194 21,zk 195 127 [.t 194],zy 196 (.bld [zI 0,.str []] [(0,1,.t 193),(1,1,.t 195)]),zy 197 (.bls 2 1 [zI 0,.str []] [] [(0,.t 196)]),zy 198 (.app 2 24 false (.t 192) (.t 197)),zq 17 198])))
 (zr [17,18,181,182,186,187,188] [zd 199 .add 188 (zI 1),zm 188 199])))))))))
 (zr [17,181,182] [zd 200 .add 182 (zI 1),zm 182 200])))))))
 (zs (zr [2,3] [zq 201 17,zq 2 201,zc 3 (zI 0)])
 .ret)))))))))))) }
def N279 : a8:={ np:=1,nt:=16,res:=[(2,none),(3,none)],body :=
 (zs (zr [1] [zo 1 0,zc 2 .nils,zc 3 (zI 0)])
 (zs (zr [4,5] [zL 7 2 1,zk 8 280 [.t 7],zm 6 8,zx 9 0 6,zx 10 1 6,zm 4 9,zm 5 10])
 (zs (zs (zr [4,5,12] [zm 11 5,zd 12 .neq 11 (zI 0)])
 (zC 12 (zs (zr [2,3] [zm 13 5,zc 2 .nils,zm 3 13])
 .ret)
 .skip))
 (zs (zr [2,3] [zm 14 4,zk 15 314 [.t 14],zq 2 15,zc 3 (zI 0)])
 .ret)))) }
def N280 : a8:={ np:=1,nt:=128,res:=[(2,none),(3,none)],body :=
 (zs (zr [1] [zo 1 0,zc 2 .nilp,zc 3 (zI 0)])
 (zs (zr [1,4,5] [zL 16 2 1,zk 17 221 [.t 16],zm 15 17,zx 18 0 15,zx 19 1 15,zq 4 18,zm 5 19])
 (zs (zs (zr [1,4,5,21] [zm 20 5,zd 21 .neq 20 (zI 0)])
 (zC 21 (zs (zr [2,3] [zm 22 5,zc 2 .nilp,zm 3 22])
 .ret)
 .skip))
 (zs (zr [4,5,6] [zL 24 2 1,zk 25 220 [.t 24],zm 23 25,zx 26 0 23,zx 27 1 23,zq 6 26,zm 5 27])
 (zs (zs (zr [4,5,6,29] [zm 28 5,zd 29 .neq 28 (zI 0)])
 (zC 29 (zs (zr [2,3] [zm 30 5,zc 2 .nilp,zm 3 30])
 .ret)
 .skip))
 (zs (zr [4,6,7] [zm 31 4,zm 32 6,zm 33 6,zy 34 (.callF 42 [.t 33]),zy 35 (.blsF 1 1 [zI 0] [(0,(.c (zI (-1))))]),zm 36 6,zn 37 36,zy 38 (.callF 315 [.t 35,.t 37]),zy 39 (.bld [.nils,.nils,.nils,.nils] [(0,1,.t 31),(1,1,.t 32),(2,1,.t 34),(3,1,.t 38)]),zo 40 39,zm 7 40])
 (zs (zr [4,6,7,8] [zm 41 7,zy 42 (.nck (.t 41)),zf 43 2 42,zl 44 1 43,zy 45 (.bld [.nils,.nils] [(1,1,.t 44)]),zy 46 (.boxK 7 (.t 45)),zm 8 46])
 (zs (zr [4,7,8,9] [zq 47 6,zn 48 47,zy 49 (.mks 1 1 [.bool false] (.t 48) (.t 48)),zq 9 49])
 (zs (zs (zr [4,7,8,9,50,51,52] [zm 50 4,zn 51 50,zc 52 (zI 0)])
 (.block 0 (.loop (zs (zr [4,7,8,9,50,51,52,53] [zb 53 .lss 52 51])
 (zs (zC 53 .skip
 (.exit 0))
 (zs (.block 1 (zs (zr [4,7,8,9,10,11,50,51,52] [zm 54 52,zi 55 3 50 52,zL 56 3 55,zy 11 (.alc [zI 0,zI 0,zI 0]),zm 10 54,zw (.st 3 [] (.t 11) (.t 56))])
 (zs (zr [4,7,8,9,10,50,51,52,58] [zy 57 (.slM 3 1 (.t 11)),zk 58 223 [.t 57,(.c (zI (-1)))]])
 (zC 58 (zs (zr [4,7,8,9,10,50,51,52] [zm 59 9,zm 60 10,zi 61 1 59 60,zw (.st 1 [] (.t 61) (.c (.bool true)))])
 (zr [4,7,8,9,50,51,52] [zm 62 8,zy 63 (.mkI 20 (.t 62)),zm 64 10,zy 65 (.mkI 2 (.t 64)),zy 66 (.callQ 316 7 (.t 63) [.t 65])]))
 .skip))))
 (zr [4,7,8,9,50,51,52] [zd 67 .add 52 (zI 1),zm 52 67])))))))
 (zs (.block 2 (.loop (zs (zs (zr [4,7,8,9,70] [zm 68 8,zk 69 317 [.t 68],zd 70 .gtr 69 (zI 0)])
 (zC 70 .skip
 (.exit 2)))
 (.block 3 (zs (zr [4,7,8,9,12] [zm 71 8,zy 72 (.mkI 20 (.t 71)),zy 73 (.callQ 318 7 (.t 72) []),zy 74 (.tya 2 (.t 73)),zm 12 74])
 (zs (zr [4,7,8,9,12,78,79] [zm 75 4,zm 76 12,zi 77 3 75 76,zL 78 3 77,zc 79 (zI 0)])
 (.block 4 (.loop (zs (zr [4,7,8,9,12,78,79,80] [zd 80 .lss 79 (zI 3)])
 (zs (zC 80 .skip
 (.exit 4))
 (zs (.block 5 (zs (zr [4,7,8,9,12,14,78,79] [zy 81 (.idxA 3 1 false (.t 78) (.t 79)),zm 14 81])
 (zs (zs (zr [4,7,8,9,12,14,78,79,89] [zm 82 14,zy 83 (.bin .eql (.t 82) (.c (zI (-1)))),zm 84 83,zg 84 false (zm 85 9),zg 84 false (zm 86 14),zg 84 false (zi 87 1 85 86),zg 84 false (zl 88 1 87),zy 89 (.pick (.t 84) (.c (.bool true)) (.t 88))])
 (zC 89 (.exit 5)
 .skip))
 (zs (zr [4,7,8,9,12,14,78,79] [zm 90 9,zm 91 14,zi 92 1 90 91,zw (.st 1 [] (.t 92) (.c (.bool true)))])
 (zs (.reg true [0,1,3,7,0,0,32,96,224,0,0,0,2048,6144,14336,0,63488,129024,0,262144,786432,1835008,0,8126464,16515072,33552384,33553919,100662783,268435455,536870911] [4,7,8,9,12,14,78,79] [zm 93 7,zy 94 (.nck (.t 93)),zf 95 3 94,zl 96 1 95,zm 97 14,zm 98 7,zy 99 (.nck (.t 98)),zf 100 2 99,zl 101 1 100,zm 102 14,zm 103 12,zm 104 7,zy 105 (.nck (.t 104)),zf 106 2 105,zl 107 1 106,zm 108 12,zi 109 1 107 108,zl 110 1 109,zm 111 7,zy 112 (.nck (.t 111)),zf 113 1 112,zl 114 1 113,zm 115 14,zi 116 1 114 115,zl 117 1 116,zy 118 (.mx (.t 110) (.t 117)),zi 119 1 96 97,zw (.st 1 [] (.t 119) (.t 103)),zi 120 1 101 102,zw (.st 1 [] (.t 120) (.t 118))])
 (zr [4,7,8,9,12,78,79] [zm 121 8,zy 122 (.mkI 20 (.t 121)),zm 123 14,zy 124 (.mkI 2 (.t 123)),zy 125 (.callQ 316 7 (.t 122) [.t 124])]))))))
 (zr [4,7,8,9,12,78,79] [zd 126 .add 79 (zI 1),zm 79 126]))))))))))))
 (zs (zr [2,3] [zm 127 7,zm 2 127,zc 3 (zI 0)])
 .ret))))))))))) }
def N298 : a8:={ np:=2,nt:=17,res:=[(4,some (2,true))],body :=
 (zs (zr [1,2,4] [zo 2 0,zy 4 (.alc [zI 0,zI 0])])
 (zs (zr [1,4,5] [zL 6 4 2,zk 7 305 [.t 6],zy 5 (.alc [zI 0,zI 0,zI 0]),zw (.st 3 [] (.t 5) (.t 7))])
 (zs (.reg true [0,1,3,0,8,24,56,120,255,511] [4] [zm 8 1,zy 9 (.iadA 3 1 (.t 5) (.t 8)),zl 10 1 9,zm 11 1,zd 12 .add 11 (zI 1),zd 13 .rem 12 (zI 3),zy 14 (.iadA 3 1 (.t 5) (.t 13)),zl 15 1 14,zy 16 (.bld [zI 0,zI 0] [(0,1,.t 10),(1,1,.t 15)]),zw (.st 2 [] (.t 4) (.t 16))])
 .ret))) }
def N302 : a8:={ np:=1,nt:=13,res:=[(2,none)],body :=
 (zs (zr [1] [zo 1 0,zc 2 (.bool false)])
 (zs (zr [2] [zf 3 0 1,zl 4 1 3,zn 5 4,zd 6 .leq 5 (zI 2000),zm 7 6,zg 7 true (zf 8 1 1),zg 7 true (zl 9 1 8),zg 7 true (zn 10 9),zg 7 true (zd 11 .leq 10 (zI 4000)),zy 12 (.pick (.t 7) (.t 11) (.c (.bool false))),zm 2 12])
 .ret)) }
def N303 : a8:={ np:=1,nt:=19,res:=[(2,none)],body :=
 (zs (zr [1] [zo 1 0,zc 2 (.bool false)])
 (zs (zr [2] [zf 3 0 1,zl 4 1 3,zf 5 1 1,zl 6 1 5,zy 7 (.bld [zI 0,zI 0] [(0,1,.t 4),(1,1,.t 6)]),zk 8 313 [.t 7],zm 9 8,zg 9 true (zf 10 2 1),zg 9 true (zl 11 1 10),zg 9 true (zy 12 (.bin .geq (.t 11) (.c (zI (-4194304))))),zy 13 (.pick (.t 9) (.t 12) (.c (.bool false))),zm 14 13,zg 14 true (zf 15 2 1),zg 14 true (zl 16 1 15),zg 14 true (zd 17 .leq 16 (zI 4194304)),zy 18 (.pick (.t 14) (.t 17) (.c (.bool false))),zm 2 18])
 .ret)) }
def N304 : a8:={ np:=2,nt:=18,res:=[(4,some (2,true))],body :=
 (zs (zr [1,2,4] [zo 2 0,zy 4 (.alc [zI 0,zI 0])])
 (zs (.reg true [0,1,0,7,15,31,0,64,0,448,960,1984,4095,8191] [4] [zf 5 0 2,zl 6 1 5,zm 7 1,zi 8 3 6 7,zf 9 0 8,zl 10 1 9,zf 11 0 2,zl 12 1 11,zm 13 1,zi 14 3 12 13,zf 15 1 14,zl 16 1 15,zy 17 (.bld [zI 0,zI 0] [(0,1,.t 10),(1,1,.t 16)]),zw (.st 2 [] (.t 4) (.t 17))])
 .ret)) }
def N305 : a8:={ np:=1,nt:=10,res:=[(2,some (3,true))],body :=
 (zs (zr [1,2] [zo 1 0,zy 2 (.alc [zI 0,zI 0,zI 0])])
 (zs (zr [2] [zf 3 0 1,zl 4 1 3,zf 5 1 1,zl 6 1 5,zf 7 2 1,zl 8 1 7,zy 9 (.bld [zI 0,zI 0,zI 0] [(0,1,.t 4),(1,1,.t 6),(2,1,.t 8)]),zw (.st 3 [] (.t 2) (.t 9))])
 .ret)) }
def N306 : a8:={ np:=3,nt:=20,res:=[(4,none)],body :=
 (zs (zr [0,1,2] [zc 4 (.bool false)])
 (zs (zr [4] [zm 5 0,zd 6 .lss 5 (zI 0),zm 7 6,zg 7 false (zm 8 0),zg 7 false (zf 9 0 1),zg 7 false (zl 10 1 9),zg 7 false (zn 11 10),zg 7 false (zb 12 .geq 8 11),zy 13 (.pick (.t 7) (.c (.bool true)) (.t 12)),zm 14 13,zg 14 false (zl 15 1 2),zg 14 false (zm 16 0),zg 14 false (zi 17 1 15 16),zg 14 false (zl 18 1 17),zy 19 (.pick (.t 14) (.c (.bool true)) (.t 18)),zm 4 19])
 .ret)) }
def N307 : a8:={ np:=2,nt:=18,res:=[(4,some (6,true))],body :=
 (zs (zr [2,3,4] [zo 2 0,zo 3 1,zy 4 (.alc [zI 0,zI 0,zI 0,zI 0,zI 0,zI 0])])
 (zs (.reg true [0,0,2,7,0,0,32,127,0,0,512,2047,4095,8191] [4] [zL 5 2 2,zf 6 0 3,zl 7 1 6,zk 8 304 [.t 5,.t 7],zL 9 2 2,zf 10 1 3,zl 11 1 10,zk 12 304 [.t 9,.t 11],zL 13 2 2,zf 14 2 3,zl 15 1 14,zk 16 304 [.t 13,.t 15],zy 17 (.bld [zI 0,zI 0,zI 0,zI 0,zI 0,zI 0] [(0,2,.t 8),(2,2,.t 12),(4,2,.t 16)]),zw (.st 6 [] (.t 4) (.t 17))])
 .ret)) }
def N308 : a8:={ np:=3,nt:=30,res:=[(6,none)],body :=
 (zs (zr [3,4,5] [zo 3 0,zo 4 1,zo 5 2,zc 6 (zI 0)])
 (zs (zr [6] [zf 7 0 4,zl 8 1 7,zf 9 0 3,zl 10 1 9,zb 11 .sub 8 10,zf 12 1 5,zl 13 1 12,zf 14 1 3,zl 15 1 14,zb 16 .sub 13 15,zb 17 .mul 11 16,zf 18 1 4,zl 19 1 18,zf 20 1 3,zl 21 1 20,zb 22 .sub 19 21,zf 23 0 5,zl 24 1 23,zf 25 0 3,zl 26 1 25,zb 27 .sub 24 26,zb 28 .mul 22 27,zb 29 .sub 17 28,zm 6 29])
 .ret)) }
def N309 : a8:={ np:=2,nt:=9,res:=[(4,none)],body :=
 (zs (zr [0,1] [zc 4 (.bool false)])
 (zs (zr [4] [zq 5 0,zm 6 1,zk 7 328 [.t 5,.t 6],zd 8 .geq 7 (zI 0),zm 4 8])
 .ret)) }
def N310 : a8:={ np:=2,nt:=14,res:=[(3,none)],body :=
 (zs (zr [1,2] [zo 2 0,zc 3 (.bool false)])
 (zs (zr [3] [zL 4 6 1,zL 5 6 2,zk 6 311 [.t 4,.t 5],zt 7 6,zm 8 7,zg 8 true (zL 9 6 2),zg 8 true (zL 10 6 1),zg 8 true (zk 11 311 [.t 9,.t 10]),zg 8 true (zt 12 11),zy 13 (.pick (.t 8) (.t 12) (.c (.bool false))),zm 3 13])
 .ret)) }
def N311 : a8:={ np:=2,nt:=42,res:=[(4,none)],body :=
 (zs (zr [2,3] [zo 2 0,zo 3 1,zc 4 (.bool false)])
 (zs (zs (zr [2,3,8] [zc 8 (zI 0)])
 (.block 0 (.loop (zs (zr [2,3,8,9] [zd 9 .lss 8 (zI 3)])
 (zs (zC 9 .skip
 (.exit 0))
 (zs (.block 1 (zs (zr [2,3,5,8] [zm 10 8,zm 5 10])
 (zs (.reg true [0,1,3,0,8,24,56,120,0,0,775,2047] [2,3,6,7,8] [zm 11 5,zy 12 (.iadA 3 2 (.t 2) (.t 11)),zL 13 2 12,zm 14 5,zd 15 .add 14 (zI 1),zd 16 .rem 15 (zI 3),zy 17 (.iadA 3 2 (.t 2) (.t 16)),zL 18 2 17,zy 6 (.alc [zI 0,zI 0]),zy 7 (.alc [zI 0,zI 0]),zw (.st 2 [] (.t 6) (.t 13)),zw (.st 2 [] (.t 7) (.t 18))])
 (zs (zr [2,3,8,40] [zL 19 2 6,zL 20 2 7,zy 21 (.iadA 3 2 (.t 3) (.c (zI 0))),zL 22 2 21,zk 23 308 [.t 19,.t 20,.t 22],zd 24 .leq 23 (zI 0),zm 25 24,zg 25 true (zL 26 2 6),zg 25 true (zL 27 2 7),zg 25 true (zy 28 (.iadA 3 2 (.t 3) (.c (zI 1)))),zg 25 true (zL 29 2 28),zg 25 true (zk 30 308 [.t 26,.t 27,.t 29]),zg 25 true (zd 31 .leq 30 (zI 0)),zy 32 (.pick (.t 25) (.t 31) (.c (.bool false))),zm 33 32,zg 33 true (zL 34 2 6),zg 33 true (zL 35 2 7),zg 33 true (zy 36 (.iadA 3 2 (.t 3) (.c (zI 2)))),zg 33 true (zL 37 2 36),zg 33 true (zk 38 308 [.t 34,.t 35,.t 37]),zg 33 true (zd 39 .leq 38 (zI 0)),zy 40 (.pick (.t 33) (.t 39) (.c (.bool false)))])
 (zC 40 (zs (zr [4] [zc 4 (.bool true)])
 .ret)
 .skip)))))
 (zr [2,3,8] [zd 41 .add 8 (zI 1),zm 8 41])))))))
 (zs (zr [4] [zc 4 (.bool false)])
 .ret))) }
def N313 : a8:={ np:=1,nt:=21,res:=[(2,none)],body :=
 (zs (zr [1] [zo 1 0,zc 2 (.bool false)])
 (zs (zr [2] [zf 3 0 1,zl 4 1 3,zy 5 (.bin .geq (.t 4) (.c (zI (-16777216)))),zm 6 5,zg 6 true (zf 7 0 1),zg 6 true (zl 8 1 7),zg 6 true (zd 9 .leq 8 (zI 16777216)),zy 10 (.pick (.t 6) (.t 9) (.c (.bool false))),zm 11 10,zg 11 true (zf 12 1 1),zg 11 true (zl 13 1 12),zg 11 true (zy 14 (.bin .geq (.t 13) (.c (zI (-16777216))))),zy 15 (.pick (.t 11) (.t 14) (.c (.bool false))),zm 16 15,zg 16 true (zf 17 1 1),zg 16 true (zl 18 1 17),zg 16 true (zd 19 .leq 18 (zI 16777216)),zy 20 (.pick (.t 16) (.t 19) (.c (.bool false))),zm 2 20])
 .ret)) }
def N314 : a8:={ np:=1,nt:=119,res:=[(2,none)],body :=
 (zs (zr [1] [zo 1 0,zc 2 .nils])
 (zs (zr [1,3] [zl 13 1 1,zy 14 (.nck (.t 13)),zf 15 1 14,zl 16 1 15,zn 17 16,zy 18 (.callF 329 [.t 17]),zq 3 18])
 (zs (zr [1,3,4] [zy 19 (.mk 330 [.t 1]),zm 4 19])
 (zs (zs (zr [1,3,4,23,24,25] [zl 20 1 1,zy 21 (.nck (.t 20)),zf 22 0 21,zl 23 1 22,zn 24 23,zc 25 (zI 0)])
 (.block 0 (.loop (zs (zr [1,3,4,23,24,25,26] [zb 26 .lss 25 24])
 (zs (zC 26 .skip
 (.exit 0))
 (zs (.block 1 (zs (zr [1,3,4,5,6,23,24,25] [zm 27 25,zi 28 3 23 25,zL 29 3 28,zy 6 (.alc [zI 0,zI 0,zI 0]),zm 5 27,zw (.st 3 [] (.t 6) (.t 29))])
 (zs (zr [1,3,4,5,23,24,25,30,31] [zL 30 3 6,zc 31 (zI 0)])
 (.block 2 (.loop (zs (zr [1,3,4,5,23,24,25,30,31,32] [zd 32 .lss 31 (zI 3)])
 (zs (zC 32 .skip
 (.exit 2))
 (zs (.block 3 (zs (zr [1,3,4,5,8,23,24,25,30,31] [zy 33 (.idxA 3 1 false (.t 30) (.t 31)),zm 8 33])
 (zs (.reg true [0,1,3,7,7,31,63,127,255,255,1023,2047,4095,8191,16383,32767,65535,8191,262143,524287,8191,1056767,3153919,7348223,8191,32514047,66068479,134217727,268435455] [1,3,4,5,8,23,24,25,30,31,62] [zm 34 8,zy 35 (.bin .neq (.t 34) (.c (zI (-1)))),zm 36 35,zg 36 true (zm 37 4),zg 36 true (zm 38 5),zg 36 true (zy 39 (.callv (.t 37) [.t 38])),zy 40 (.pick (.t 36) (.t 39) (.c (.bool false))),zm 41 40,zg 41 true (zm 42 4),zg 41 true (zm 43 8),zg 41 true (zy 44 (.callv (.t 42) [.t 43])),zy 45 (.pick (.t 41) (.t 44) (.c (.bool false))),zm 46 45,zg 46 true (zl 47 1 1),zg 46 true (zy 48 (.nck (.t 47))),zg 46 true (zf 49 2 48),zg 46 true (zl 50 1 49),zg 46 true (zm 51 5),zg 46 true (zi 52 1 50 51),zg 46 true (zl 53 1 52),zg 46 true (zl 54 1 1),zg 46 true (zy 55 (.nck (.t 54))),zg 46 true (zf 56 2 55),zg 46 true (zl 57 1 56),zg 46 true (zm 58 8),zg 46 true (zi 59 1 57 58),zg 46 true (zl 60 1 59),zg 46 true (zb 61 .eql 53 60),zy 62 (.pick (.t 46) (.t 61) (.c (.bool false)))])
 (zC 62 (zr [1,3,4,5,23,24,25,30,31] [zm 63 3,zm 64 5,zm 65 8,zy 66 (.callR 331 (.t 63) [.t 64,.t 65])])
 .skip))))
 (zr [1,3,4,5,23,24,25,30,31] [zd 67 .add 31 (zI 1),zm 31 67])))))))))
 (zr [1,3,4,23,24,25] [zd 68 .add 25 (zI 1),zm 25 68])))))))
 (zs (zr [1,3,4,9] [zy 9 (.nilo 1)])
 (zs (zr [1,3,4,9,10] [zl 69 1 1,zy 70 (.nck (.t 69)),zf 71 1 70,zl 72 1 71,zn 73 72,zy 74 (.mks 1 8 [zI 0] (.t 73) (.t 73)),zq 10 74])
 (zs (zs (zr [3,4,9,10,79,80] [zl 75 1 1,zy 76 (.nck (.t 75)),zf 77 1 76,zl 78 1 77,zn 79 78,zc 80 (zI 0)])
 (.block 4 (.loop (zs (zr [3,4,9,10,79,80,81] [zb 81 .lss 80 79])
 (zs (zC 81 .skip
 (.exit 4))
 (zs (.block 5 (zs (zr [3,4,9,10,11,79,80] [zm 82 80,zm 11 82])
 (zs (zs (zr [3,4,9,10,11,79,80,86] [zm 83 4,zm 84 11,zy 85 (.callv (.t 83) [.t 84]),zt 86 85])
 (zC 86 (.exit 5)
 .skip))
 (zs (zr [3,4,9,10,11,12,79,80] [zm 87 3,zm 88 11,zy 89 (.callR 332 (.t 87) [.t 88]),zm 12 89])
 (zs (zs (zr [3,4,9,10,11,12,79,80,92] [zm 90 12,zm 91 11,zb 92 .eql 90 91])
 (zC 92 (zs (zr [3,4,9,10,11,12,79,80] [zm 93 10,zm 94 11,zm 95 9,zn 96 95,zi 97 1 93 94,zw (.st 1 [] (.t 97) (.t 96))])
 (zr [3,4,9,10,11,12,79,80] [zm 98 9,zy 99 (.bls 1 1 [.own 1 []] [] [(0,(.c .nils))]),zy 100 (.app 1 24 true (.t 98) (.t 99)),zq 9 100]))
 .skip))
 (.reg true [0,0,0,6,14,0,0,0,192,448,992,2016,0,4096,16352,32767,65535] [3,4,9,10,79,80] [zm 101 9,zm 102 10,zm 103 12,zi 104 1 102 103,zl 105 1 104,zm 106 9,zm 107 10,zm 108 12,zi 109 1 107 108,zl 110 1 109,zi 111 1 106 110,zl 112 1 111,zm 113 11,zy 114 (.bls 1 1 [zI 0] [] [(0,.t 113)]),zy 115 (.app 1 8 false (.t 112) (.t 114)),zi 116 1 101 105,zw (.st 1 [] (.t 116) (.t 115))]))))))
 (zr [3,4,9,10,79,80] [zd 117 .add 80 (zI 1),zm 80 117])))))))
 (zs (zr [2] [zq 118 9,zq 2 118])
 .ret)))))))) }
def N315 : a8:={ np:=2,nt:=48,res:=[(4,none)],body :=
 (zs (zr [0,1] [zc 4 .nils])
 (zs (zs (zr [0,1,10] [zm 9 1,zd 10 .lss 9 (zI 0)])
 (zC 10 (zr [0,1] [zy 11 (.dead),zw (.dead)])
 .skip))
 (zs (zr [0,5,6] [zm 13 0,zn 14 13,zy 15 (.conv .u64 (.t 14)),zm 16 1,zy 17 (.conv .u64 (.t 16)),zk 18 333 [.t 15,.t 17],zm 12 18,zx 19 0 12,zx 20 1 12,zm 5 19,zm 6 20])
 (zs (zs (zr [0,6,26] [zm 21 5,zd 22 .gtr 21 (.int .u64 0),zm 23 22,zg 23 false (zm 24 6),zg 23 false (zd 25 .gtr 24 (.int .u64 9223372036854775807)),zy 26 (.pick (.t 23) (.c (.bool true)) (.t 25))])
 (zC 26 (zr [0,6] [zy 27 (.dead),zw (.dead)])
 .skip))
 (zs (zr [0,7] [zm 28 6,zy 29 (.conv .i64 (.t 28)),zy 30 (.mks 1 8 [zI 0] (.t 29) (.t 29)),zq 7 30])
 (zs (zr [7,8] [zm 31 7,zq 32 0,zy 33 (.cpy 1 (.t 31) (.t 32)),zm 8 33])
 (zs (.block 0 (.loop (zs (zs (zr [7,8,37] [zm 34 8,zm 35 7,zn 36 35,zb 37 .lss 34 36])
 (zC 37 .skip
 (.exit 0)))
 (.block 1 (.reg true [0,0,0,6,0,0,48,126,255,511] [7,8] [zm 38 8,zm 39 7,zm 40 8,zy 41 (.slc 1 (.t 39) (some (.t 40)) none),zm 42 7,zm 43 8,zy 44 (.slc 1 (.t 42) none (some (.t 43))),zy 45 (.cpy 1 (.t 41) (.t 44)),zb 46 .add 38 45,zm 8 46])))))
 (zs (zr [4] [zq 47 7,zq 4 47])
 .ret)))))))) }
def N316 : a8:={ np:=2,nt:=12,res:=[],body :=
 (zs (zr [0] [zm 4 0,zm 5 1,zy 6 (.callI 342 "Push" 20 (.t 4) [.t 5])])
 (zr [0] [zm 7 0,zm 8 0,zy 9 (.callI 317 "Len" 20 (.t 8) []),zd 10 .sub 9 (zI 1),zy 11 (.callM 334 (.t 7) [.t 10])])) }
def N317 : a8:={ np:=1,nt:=8,res:=[(2,none)],body :=
 (zs (zr [0] [zc 2 (zI 0)])
 (zs (zr [0,2] [zm 3 0,zy 4 (.nck (.t 3)),zf 5 0 4,zl 6 1 5,zn 7 6,zm 2 7])
 .ret)) }
def N318 : a8:={ np:=1,nt:=15,res:=[(2,none)],body :=
 (zs (zr [0] [zy 2 (.mov (.c .any))])
 (zs (zr [0,3] [zm 4 0,zy 5 (.callI 317 "Len" 20 (.t 4) []),zd 6 .sub 5 (zI 1),zm 3 6])
 (zs (zr [0,3] [zm 7 0,zm 8 3,zy 9 (.callI 343 "Swap" 20 (.t 7) [(.c (zI 0)),.t 8])])
 (zs (zr [0] [zm 10 0,zm 11 3,zy 12 (.callM 335 (.t 10) [(.c (zI 0)),.t 11])])
 (zs (zr [0,2] [zm 13 0,zy 14 (.callI 341 "Pop" 20 (.t 13) []),zm 2 14])
 .ret))))) }
def N328 : a8:={ np:=2,nt:=19,res:=[(4,none)],body :=
 (zs (zr [0,1] [zc 4 (zI 0)])
 (zs (zs (zr [0,1,7,8] [zm 6 0,zn 7 6,zc 8 (zI 0)])
 (.block 0 (.loop (zs (zr [0,1,7,8,9] [zb 9 .lss 8 7])
 (zs (zC 9 .skip
 (.exit 0))
 (zs (.block 1 (zs (zr [0,1,5,7,8] [zm 10 8,zm 5 10])
 (zs (zr [0,1,5,7,8,16] [zm 11 1,zm 12 0,zm 13 5,zi 14 6 12 13,zL 15 6 14,zy 16 (.callv (.t 11) [.t 15])])
 (zC 16 (zs (zr [4] [zm 17 5,zm 4 17])
 .ret)
 .skip))))
 (zr [0,1,7,8] [zd 18 .add 8 (zI 1),zm 8 18])))))))
 (zs (zr [4] [zy 4 (.mov (.c (zI (-1))))])
 .ret))) }
def N329 : a8:={ np:=1,nt:=18,res:=[(2,none)],body :=
 (zs (zr [0] [zc 2 .nils])
 (zs (zr [3] [zm 5 0,zy 6 (.mks 1 8 [zI 0] (.t 5) (.t 5)),zq 3 6])
 (zs (zs (zr [3,8,9] [zm 7 3,zn 8 7,zc 9 (zI 0)])
 (.block 0 (.loop (zs (zr [3,8,9,10] [zb 10 .lss 9 8])
 (zs (zC 10 .skip
 (.exit 0))
 (zs (.block 1 (zs (zr [3,4,8,9] [zm 11 9,zm 4 11])
 (zr [3,8,9] [zm 12 3,zm 13 4,zm 14 4,zi 15 1 12 13,zw (.st 1 [] (.t 15) (.t 14))])))
 (zr [3,8,9] [zd 16 .add 9 (zI 1),zm 9 16])))))))
 (zs (zr [2] [zq 17 3,zq 2 17])
 .ret)))) }
def N330 : a8:={ np:=2,nt:=19,res:=[(3,none)],body :=
 (zs (zr [0,1] [zc 3 (.bool false)])
 (zs (.reg true [0,1,3,7,0,31,63,0,128,384,896,0,3968,8064,16383,32767] [3] [zl 4 1 1,zy 5 (.nck (.t 4)),zf 6 2 5,zl 7 1 6,zm 8 0,zi 9 1 7 8,zl 10 1 9,zl 11 1 1,zy 12 (.nck (.t 11)),zf 13 1 12,zl 14 1 13,zm 15 0,zi 16 1 14 15,zl 17 1 16,zb 18 .gtr 10 17,zm 3 18])
 .ret)) }
def N331 : a8:={ np:=3,nt:=20,res:=[],body :=
 (zs (zr [0,1,2] [zm 6 0,zm 7 1,zy 8 (.callR 332 (.t 6) [.t 7]),zm 9 0,zm 10 2,zy 11 (.callR 332 (.t 9) [.t 10]),zm 1 8,zm 2 11])
 (zr [0] [zm 12 0,zm 13 1,zm 14 2,zy 15 (.mx (.t 13) (.t 14)),zm 16 1,zm 17 2,zy 18 (.mn (.t 16) (.t 17)),zi 19 1 12 15,zw (.st 1 [] (.t 19) (.t 18))])) }
def N332 : a8:={ np:=2,nt:=26,res:=[(4,none)],body :=
 (zs (zr [0,1] [zc 4 (zI 0)])
 (zs (.block 0 (.loop (zs (zs (zr [0,1,10] [zm 5 0,zm 6 1,zi 7 1 5 6,zl 8 1 7,zm 9 1,zb 10 .neq 8 9])
 (zC 10 .skip
 (.exit 0)))
 (.block 1 (zs (zr [0,1] [zm 11 0,zm 12 1,zm 13 0,zm 14 0,zm 15 1,zi 16 1 14 15,zl 17 1 16,zi 18 1 13 17,zl 19 1 18,zi 20 1 11 12,zw (.st 1 [] (.t 20) (.t 19))])
 (zr [0,1] [zm 21 0,zm 22 1,zi 23 1 21 22,zl 24 1 23,zm 1 24]))))))
 (zs (zr [0,4] [zm 25 1,zm 4 25])
 .ret))) }
def N333 : a8:={ np:=2,nt:=30,res:=[(4,none),(5,none)],body :=
 (zs (zr [0,1] [zc 4 (.int .u64 0),zc 5 (.int .u64 0)])
 (zs (.cond (.c (.bool false)) (zs (zr [6,7] [zm 11 0,zy 12 (.conv .u32 (.t 11)),zm 13 1,zy 14 (.conv .u32 (.t 13)),zk 15 339 [.t 12,.t 14],zm 10 15,zx 16 0 10,zx 17 1 10,zm 6 16,zm 7 17])
 (zs (zr [4,5] [zm 18 6,zy 19 (.conv .u64 (.t 18)),zm 20 7,zy 21 (.conv .u64 (.t 20)),zm 4 19,zm 5 21])
 .ret))
 .skip)
 (zs (zr [8,9] [zm 23 0,zm 24 1,zk 25 91 [.t 23,.t 24],zm 22 25,zx 26 0 22,zx 27 1 22,zm 8 26,zm 9 27])
 (zs (zr [4,5] [zm 28 8,zm 29 9,zm 4 28,zm 5 29])
 .ret)))) }
def N334 : a8:={ np:=2,nt:=23,res:=[],body :=
 (.block 0 (.loop (.block 1 (zs (zr [0,1,4] [zm 5 1,zd 6 .sub 5 (zI 1),zd 7 .quo 6 (zI 2),zm 4 7])
 (zs (zs (zr [0,1,4,17] [zm 8 4,zm 9 1,zb 10 .eql 8 9,zm 11 10,zg 11 false (zm 12 0),zg 11 false (zm 13 1),zg 11 false (zm 14 4),zg 11 false (zy 15 (.callI 340 "Less" 20 (.t 12) [.t 13,.t 14])),zg 11 false (zt 16 15),zy 17 (.pick (.t 11) (.c (.bool true)) (.t 16))])
 (zC 17 (.exit 0)
 .skip))
 (zs (zr [0,4] [zm 18 0,zm 19 4,zm 20 1,zy 21 (.callI 343 "Swap" 20 (.t 18) [.t 19,.t 20])])
 (zr [0,1] [zm 22 4,zm 1 22]))))))) }
def N335 : a8:={ np:=3,nt:=48,res:=[(6,none)],body :=
 (zs (zr [0,1,2] [zc 6 (.bool false)])
 (zs (zr [0,1,2,7] [zm 11 1,zm 7 11])
 (zs (.block 0 (.loop (.block 1 (zs (zr [0,1,2,7,8] [zm 12 7,zy 13 (.bin .mul (.c (zI 2)) (.t 12)),zd 14 .add 13 (zI 1),zm 8 14])
 (zs (zs (zr [0,1,2,7,8,21] [zm 15 8,zm 16 2,zb 17 .geq 15 16,zm 18 17,zg 18 false (zm 19 8),zg 18 false (zd 20 .lss 19 (zI 0)),zy 21 (.pick (.t 18) (.c (.bool true)) (.t 20))])
 (zC 21 (.exit 0)
 .skip))
 (zs (zr [0,1,2,7,8,9] [zm 22 8,zm 9 22])
 (zs (zs (zr [0,1,2,7,8,9,10] [zm 23 8,zd 24 .add 23 (zI 1),zm 10 24])
 (zs (zr [0,1,2,7,9,10,33] [zm 25 10,zm 26 2,zb 27 .lss 25 26,zm 28 27,zg 28 true (zm 29 0),zg 28 true (zm 30 10),zg 28 true (zm 31 8),zg 28 true (zy 32 (.callI 340 "Less" 20 (.t 29) [.t 30,.t 31])),zy 33 (.pick (.t 28) (.t 32) (.c (.bool false)))])
 (zC 33 (zr [0,1,2,7,9] [zm 34 10,zm 9 34])
 .skip)))
 (zs (zs (zr [0,1,2,7,9,39] [zm 35 0,zm 36 9,zm 37 7,zy 38 (.callI 340 "Less" 20 (.t 35) [.t 36,.t 37]),zt 39 38])
 (zC 39 (.exit 0)
 .skip))
 (zs (zr [0,1,2,9] [zm 40 0,zm 41 7,zm 42 9,zy 43 (.callI 343 "Swap" 20 (.t 40) [.t 41,.t 42])])
 (zr [0,1,2,7] [zm 44 9,zm 7 44]))))))))))
 (zs (zr [0,6] [zm 45 7,zm 46 1,zb 47 .gtr 45 46,zm 6 47])
 .ret)))) }
def N339 : a8:={ np:=2,nt:=17,res:=[(4,none),(5,none)],body :=
 (zs (zr [0,1] [zc 4 (.int .u32 0),zc 5 (.int .u32 0)])
 (zs (zr [6] [zm 7 0,zy 8 (.conv .u64 (.t 7)),zm 9 1,zy 10 (.conv .u64 (.t 9)),zb 11 .mul 8 10,zm 6 11])
 (zs (zr [4,5] [zm 12 6,zd 13 .shr 12 (.int .u64 32),zy 14 (.conv .u32 (.t 13)),zm 15 6,zy 16 (.conv .u32 (.t 15)),zm 4 14,zm 5 16])
 .ret))) }
def N340 : a8:={ np:=3,nt:=60,res:=[(6,none)],body :=
 (zs (zr [0,1,2] [zc 6 (.bool false)])
 (zs (.reg true [0,1,3,7,0,31,63,0,128,384,896,0,3968,8064,127,32767] [0,7,8] [zm 9 0,zy 10 (.nck (.t 9)),zf 11 0 10,zl 12 1 11,zm 13 1,zi 14 1 12 13,zl 15 1 14,zm 16 0,zy 17 (.nck (.t 16)),zf 18 0 17,zl 19 1 18,zm 20 2,zi 21 1 19 20,zl 22 1 21,zm 7 15,zm 8 22])
 (zs (.reg true [0,1,3,7,0,31,63,0,128,384,896,0,3968,8064,16383,32767,65535,131071,262143,524287,65535,2097151,4194303,65535,8454143,25231359,58785791,65535,260112383,528547839,1073741823,2147483647,4294967295,4294967295,17179869183,34359738367,68719476735,137438953471] [0,6] [zm 23 0,zy 24 (.nck (.t 23)),zf 25 1 24,zl 26 1 25,zm 27 7,zi 28 1 26 27,zl 29 1 28,zm 30 0,zy 31 (.nck (.t 30)),zf 32 1 31,zl 33 1 32,zm 34 8,zi 35 1 33 34,zl 36 1 35,zb 37 .lss 29 36,zm 38 37,zg 38 false (zm 39 0),zg 38 false (zy 40 (.nck (.t 39))),zg 38 false (zf 41 1 40),zg 38 false (zl 42 1 41),zg 38 false (zm 43 7),zg 38 false (zi 44 1 42 43),zg 38 false (zl 45 1 44),zg 38 false (zm 46 0),zg 38 false (zy 47 (.nck (.t 46))),zg 38 false (zf 48 1 47),zg 38 false (zl 49 1 48),zg 38 false (zm 50 8),zg 38 false (zi 51 1 49 50),zg 38 false (zl 52 1 51),zg 38 false (zb 53 .eql 45 52),zg 38 false (zm 54 53),zg 54 true (zm 55 7),zg 54 true (zm 56 8),zg 54 true (zb 57 .lss 55 56),zg 38 false (zy 58 (.pick (.t 54) (.t 57) (.c (.bool false)))),zy 59 (.pick (.t 38) (.c (.bool true)) (.t 58)),zm 6 59])
 .ret))) }
def N341 : a8:={ np:=1,nt:=32,res:=[(2,none)],body :=
 (zs (zr [0] [zy 2 (.mov (.c .any))])
 (zs (.reg true [0,1,3,7,0,16,48,112,240,496,1023,2047,4095] [0,3] [zm 4 0,zy 5 (.nck (.t 4)),zf 6 0 5,zl 7 1 6,zm 8 0,zy 9 (.nck (.t 8)),zf 10 0 9,zl 11 1 10,zn 12 11,zd 13 .sub 12 (zI 1),zi 14 1 7 13,zl 15 1 14,zm 3 15])
 (zs (.reg true [0,0,2,6,14,0,32,96,224,480,992,2046,4095,8191,16383] [0,3] [zm 16 0,zm 17 0,zy 18 (.nck (.t 17)),zf 19 0 18,zl 20 1 19,zm 21 0,zy 22 (.nck (.t 21)),zf 23 0 22,zl 24 1 23,zn 25 24,zd 26 .sub 25 (zI 1),zy 27 (.slc 1 (.t 20) none (some (.t 26))),zy 28 (.nck (.t 16)),zf 29 0 28,zw (.stL (.t 29) (.t 27))])
 (zs (zr [0,2] [zm 30 3,zy 31 (.mkI 2 (.t 30)),zm 2 31])
 .ret)))) }
def N342 : a8:={ np:=2,nt:=15,res:=[],body :=
 (.reg true [0,0,2,6,14,0,32,96,254,511,1023,2047] [0] [zm 4 0,zm 5 0,zy 6 (.nck (.t 5)),zf 7 0 6,zl 8 1 7,zm 9 1,zy 10 (.tya 2 (.t 9)),zy 11 (.bls 1 1 [zI 0] [] [(0,.t 10)]),zy 12 (.app 1 8 false (.t 8) (.t 11)),zy 13 (.nck (.t 4)),zf 14 0 13,zw (.st 1 [] (.t 14) (.t 12))]) }
def N343 : a8:={ np:=3,nt:=32,res:=[],body :=
 (.reg true [0,1,3,7,0,0,32,96,224,0,0,1024,3072,7168,0,31744,64512,0,131072,393216,917504,0,4063232,8257536,16776703,33553919,67108863,134217727] [0] [zm 6 0,zy 7 (.nck (.t 6)),zf 8 0 7,zl 9 1 8,zm 10 1,zm 11 0,zy 12 (.nck (.t 11)),zf 13 0 12,zl 14 1 13,zm 15 2,zm 16 0,zy 17 (.nck (.t 16)),zf 18 0 17,zl 19 1 18,zm 20 2,zi 21 1 19 20,zl 22 1 21,zm 23 0,zy 24 (.nck (.t 23)),zf 25 0 24,zl 26 1 25,zm 27 1,zi 28 1 26 27,zl 29 1 28,zi 30 1 9 10,zw (.st 1 [] (.t 30) (.t 22)),zi 31 1 14 15,zw (.st 1 [] (.t 31) (.t 29))]) }
def N841 : a8:={ np:=4,nt:=165,res:=[(8,none)],body :=
 (zs (zr [1,2,3,4] [zo 4 0,zc 8 (.bool false)])
 (zs (zs (zr [1,2,3,4,30] [zk 29 241 [],zt 30 29])
 (zC 30 (zs (zr [8] [zc 8 (.bool false)])
 .ret)
 .skip))
 (zs (zs (zr [1,2,3,4,38] [zL 31 2 4,zk 32 242 [.t 31],zm 33 32,zg 33 false (zf 34 1 4),zg 33 false (zl 35 1 34),zg 33 false (zn 36 35),zg 33 false (zd 37 .eql 36 (zI 0)),zy 38 (.pick (.t 33) (.c (.bool true)) (.t 37))])
 (zC 38 (zs (zr [8] [zc 8 (.bool true)])
 .ret)
 .skip))
 (zs (zr [1,2,3,4,9] [zf 39 1 4,zl 40 1 39,zn 41 40,zm 9 41])
 (zs (.reg true [0,1,0,7,0,16,0,112,0,256,0,1792,15,4351,16383] [4,9,10,11,12] [zm 42 1,zy 43 (.conv .i64 (.t 42)),zm 44 9,zb 45 .rem 43 44,zm 46 2,zy 47 (.conv .i64 (.t 46)),zm 48 9,zb 49 .rem 47 48,zm 50 3,zy 51 (.conv .i64 (.t 50)),zm 52 9,zb 53 .rem 51 52,zm 10 45,zm 11 49,zm 12 53])
 (zs (zr [4,9,10,11,12,13,14] [zL 55 2 4,zm 56 10,zm 57 11,zk 58 845 [.t 55,.t 56,.t 57],zm 54 58,zx 59 0 54,zx 60 1 54,zm 13 59,zm 14 60])
 (zs (zr [4,9,10,11,12,13,14,15,16] [zL 62 2 4,zm 63 11,zm 64 10,zk 65 845 [.t 62,.t 63,.t 64],zm 61 65,zx 66 0 61,zx 67 1 61,zm 15 66,zm 16 67])
 (zs (zr [4,9,10,12,13,14,15,16,17,18] [zL 69 2 4,zm 70 11,zm 71 12,zk 72 845 [.t 69,.t 70,.t 71],zm 68 72,zx 73 0 68,zx 74 1 68,zm 17 73,zm 18 74])
 (zs (zr [4,9,10,13,14,15,16,17,18,19,20] [zL 76 2 4,zm 77 10,zm 78 12,zk 79 845 [.t 76,.t 77,.t 78],zm 75 79,zx 80 0 75,zx 81 1 75,zm 19 80,zm 20 81])
 (zs (zs (zr [4,9,10,13,14,17,18,19,20,89] [zm 82 14,zm 83 16,zb 84 .neq 82 83,zm 85 84,zg 85 false (zm 86 13),zg 85 false (zm 87 15),zg 85 false (zb 88 .neq 86 87),zy 89 (.pick (.t 85) (.c (.bool true)) (.t 88))])
 (zC 89 (zs (zr [8] [zc 8 (.bool false)])
 .ret)
 .skip))
 (zs (zs (zr [4,9,10,14,106] [zm 90 14,zd 91 .eql 90 (zI 0),zm 92 91,zg 92 true (zm 93 18),zg 92 true (zd 94 .eql 93 (zI 0)),zy 95 (.pick (.t 92) (.t 94) (.c (.bool false))),zm 96 95,zg 96 true (zm 97 20),zg 96 true (zd 98 .neq 97 (zI 0)),zg 96 true (zm 99 98),zg 99 false (zm 100 19),zg 99 false (zm 101 13),zg 99 false (zm 102 17),zg 99 false (zy 103 (.mx (.t 101) (.t 102))),zg 99 false (zb 104 .gtr 100 103),zg 96 true (zy 105 (.pick (.t 99) (.c (.bool true)) (.t 104))),zy 106 (.pick (.t 96) (.t 105) (.c (.bool false)))])
 (zC 106 (zs (zr [8] [zc 8 (.bool false)])
 .ret)
 .skip))
 (zs (zr [4,9,10,14,21,22] [zL 108 2 4,zk 109 221 [.t 108],zm 107 109,zx 110 0 107,zx 111 1 107,zq 21 110,zm 22 111])
 (zs (zr [4,9,10,14,21,22,23,24] [zL 113 2 4,zk 114 243 [.t 113],zm 112 114,zx 115 0 112,zx 116 1 112,zq 23 115,zm 24 116])
 (zs (zs (zr [4,9,10,14,21,23,122] [zm 117 22,zd 118 .neq 117 (zI 0),zm 119 118,zg 119 false (zm 120 24),zg 119 false (zd 121 .neq 120 (zI 0)),zy 122 (.pick (.t 119) (.c (.bool true)) (.t 121))])
 (zC 122 (zs (zr [8] [zm 123 14,zd 124 .eql 123 (zI 1),zm 8 124])
 .ret)
 .skip))
 (zs (zs (zr [4,9,10,21,23,136] [zm 125 14,zd 126 .neq 125 (zI 0),zm 127 126,zg 127 true (zm 128 14),zg 127 true (zd 129 .neq 128 (zI 12)),zy 130 (.pick (.t 127) (.t 129) (.c (.bool false))),zm 131 130,zg 131 false (zm 132 23),zg 131 false (zn 133 132),zg 131 false (zm 134 9),zg 131 false (zb 135 .neq 133 134),zy 136 (.pick (.t 131) (.c (.bool true)) (.t 135))])
 (zC 136 (zs (zr [8] [zc 8 (.bool false)])
 .ret)
 .skip))
 (zs (zr [4,9,10,21,23,25] [zc 25 (zI 1152921504606846976)])
 (zs (zs (zr [4,10,21,23,25,137,138] [zm 137 9,zc 138 (zI 0)])
 (.block 0 (.loop (zs (zr [4,10,21,23,25,137,138,139] [zb 139 .lss 138 137])
 (zs (zC 139 .skip
 (.exit 0))
 (zs (.block 1 (zs (zr [4,10,21,23,25,26,137,138] [zm 140 138,zm 26 140])
 (zs (zr [4,10,21,23,25,26,137,138,145] [zm 141 21,zm 142 26,zi 143 3 141 142,zL 144 3 143,zk 145 248 [.t 144]])
 (zC 145 (zs (zr [4,10,21,23,25,27,28,137,138] [zL 147 2 4,zm 148 10,zm 149 26,zk 150 845 [.t 147,.t 148,.t 149],zm 146 150,zx 151 0 146,zx 152 1 146,zm 27 151,zm 28 152])
 (zs (zr [4,10,21,23,25,27,137,138,154] [zm 153 28,zd 154 .eql 153 (zI 0)])
 (zC 154 (zr [4,10,21,23,25,137,138] [zm 155 25,zm 156 27,zy 157 (.mn (.t 155) (.t 156)),zm 25 157])
 .skip)))
 .skip))))
 (zr [4,10,21,23,25,137,138] [zd 158 .add 138 (zI 1),zm 138 158])))))))
 (zs (zr [8] [zq 159 23,zm 160 10,zi 161 1 159 160,zl 162 1 161,zm 163 25,zb 164 .eql 162 163,zm 8 164])
 .ret)))))))))))))))))) }
def N845 : a8:={ np:=3,nt:=128,res:=[(6,none),(7,none)],body :=
 (zs (zr [1,2,3] [zo 3 0,zc 6 (zI 0),zc 7 (zI 0)])
 (zs (zr [1,2,3,8,9] [zL 20 2 3,zk 21 221 [.t 20],zm 19 21,zx 22 0 19,zx 23 1 19,zq 8 22,zm 9 23])
 (zs (zs (zr [1,2,3,8,9,25] [zm 24 9,zd 25 .neq 24 (zI 0)])
 (zC 25 (zs (zr [6,7] [zm 26 9,zc 6 (zI 0),zm 7 26])
 .ret)
 .skip))
 (zs (zs (zr [1,2,3,8,44] [zm 27 1,zd 28 .lss 27 (zI 0),zm 29 28,zg 29 false (zm 30 1),zg 29 false (zm 31 8),zg 29 false (zn 32 31),zg 29 false (zb 33 .geq 30 32),zy 34 (.pick (.t 29) (.c (.bool true)) (.t 33)),zm 35 34,zg 35 false (zm 36 2),zg 35 false (zd 37 .lss 36 (zI 0)),zy 38 (.pick (.t 35) (.c (.bool true)) (.t 37)),zm 39 38,zg 39 false (zm 40 2),zg 39 false (zm 41 8),zg 39 false (zn 42 41),zg 39 false (zb 43 .geq 40 42),zy 44 (.pick (.t 39) (.c (.bool true)) (.t 43))])
 (zC 44 (zs (zr [6,7] [zc 6 (zI 0),zc 7 (zI 2)])
 .ret)
 .skip))
 (zs (zr [1,2,8,9,10] [zL 46 2 3,zk 47 220 [.t 46],zm 45 47,zx 48 0 45,zx 49 1 45,zy 10 (.alc [.own 1 []]),zw (.st 1 [] (.t 10) (.t 48)),zm 9 49])
 (zs (zs (zr [1,2,8,9,10,51] [zm 50 9,zd 51 .neq 50 (zI 0)])
 (zC 51 (zs (zr [6,7] [zm 52 9,zc 6 (zI 0),zm 7 52])
 .ret)
 .skip))
 (zs (zr [1,2,8,10,11] [zl 53 1 10,zn 54 53,zy 55 (.mks 1 8 [zI 0] (.t 54) (.t 54)),zq 11 55])
 (zs (zs (zr [1,2,8,10,11,57,58] [zm 56 11,zn 57 56,zc 58 (zI 0)])
 (.block 0 (.loop (zs (zr [1,2,8,10,11,57,58,59] [zb 59 .lss 58 57])
 (zs (zC 59 .skip
 (.exit 0))
 (zs (.block 1 (zs (zr [1,2,8,10,11,12,57,58] [zm 60 58,zm 12 60])
 (zr [1,2,8,10,11,57,58] [zm 61 11,zm 62 12,zm 63 12,zi 64 1 61 62,zw (.st 1 [] (.t 64) (.t 63))])))
 (zr [1,2,8,10,11,57,58] [zd 65 .add 58 (zI 1),zm 58 65])))))))
 (zs (zr [1,2,8,10,11] [zm 66 11,zy 67 (.mk 847 [.t 10]),zy 68 (.callS 374 (.t 66) [.t 67])])
 (zs (zr [1,2,8,10,11,13] [zl 69 1 10,zn 70 69,zy 71 (.callF 329 [.t 70]),zq 13 71])
 (zs (zr [1,2,8,10,11,13,14] [zl 72 1 10,zn 73 72,zy 74 (.mks 1 1 [.bool false] (.t 73) (.t 73)),zq 14 74])
 (zs (zs (zr [1,2,8,10,13,14,75,76,77] [zq 75 11,zn 76 75,zc 77 (zI 0)])
 (.block 2 (.loop (zs (zr [1,2,8,10,13,14,75,76,77,78] [zb 78 .lss 77 76])
 (zs (zC 78 .skip
 (.exit 2))
 (zs (.block 3 (zs (zr [1,2,8,10,13,14,16,75,76,77] [zi 79 1 75 77,zl 80 1 79,zm 16 80])
 (zs (zr [1,2,8,10,13,14,16,75,76,77] [zm 81 14,zm 82 16,zi 83 1 81 82,zw (.st 1 [] (.t 83) (.c (.bool true)))])
 (zs (zs (zr [1,2,8,10,13,14,16,75,76,77,87,88] [zm 84 8,zm 85 16,zi 86 3 84 85,zL 87 3 86,zc 88 (zI 0)])
 (.block 4 (.loop (zs (zr [1,2,8,10,13,14,16,75,76,77,87,88,89] [zd 89 .lss 88 (zI 3)])
 (zs (zC 89 .skip
 (.exit 4))
 (zs (.block 5 (zs (zr [1,2,8,10,13,14,16,18,75,76,77,87,88] [zy 90 (.idxA 3 1 false (.t 87) (.t 88)),zm 18 90])
 (zs (zr [1,2,8,10,13,14,16,18,75,76,77,87,88,98] [zm 91 18,zy 92 (.bin .neq (.t 91) (.c (zI (-1)))),zm 93 92,zg 93 true (zm 94 14),zg 93 true (zm 95 18),zg 93 true (zi 96 1 94 95),zg 93 true (zl 97 1 96),zy 98 (.pick (.t 93) (.t 97) (.c (.bool false)))])
 (zC 98 (zr [1,2,8,10,13,14,16,75,76,77,87,88] [zm 99 13,zm 100 16,zm 101 18,zy 102 (.callR 331 (.t 99) [.t 100,.t 101])])
 .skip))))
 (zr [1,2,8,10,13,14,16,75,76,77,87,88] [zd 103 .add 88 (zI 1),zm 88 103])))))))
 (zs (zr [1,2,8,10,13,14,16,75,76,77,122] [zm 104 14,zm 105 1,zi 106 1 104 105,zl 107 1 106,zm 108 107,zg 108 true (zm 109 14),zg 108 true (zm 110 2),zg 108 true (zi 111 1 109 110),zg 108 true (zl 112 1 111),zy 113 (.pick (.t 108) (.t 112) (.c (.bool false))),zm 114 113,zg 114 true (zm 115 13),zg 114 true (zm 116 1),zg 114 true (zy 117 (.callR 332 (.t 115) [.t 116])),zg 114 true (zm 118 13),zg 114 true (zm 119 2),zg 114 true (zy 120 (.callR 332 (.t 118) [.t 119])),zg 114 true (zb 121 .eql 117 120),zy 122 (.pick (.t 114) (.t 121) (.c (.bool false)))])
 (zC 122 (zs (zr [6,7] [zl 123 1 10,zm 124 16,zi 125 1 123 124,zl 126 1 125,zm 6 126,zc 7 (zI 0)])
 .ret)
 .skip))))))
 (zr [1,2,8,10,13,14,75,76,77] [zd 127 .add 77 (zI 1),zm 77 127])))))))
 (zs (zr [6,7] [zc 6 (zI 0),zc 7 (zI 12)])
 .ret))))))))))))) }
def N847 : a8:={ np:=3,nt:=15,res:=[(5,none)],body :=
 (zs (zr [0,1,2] [zc 5 (zI 0)])
 (zs (.reg true [0,0,3,7,0,0,48,112,255,511] [5] [zl 6 1 2,zm 7 0,zi 8 1 6 7,zl 9 1 8,zl 10 1 2,zm 11 1,zi 12 1 10 11,zl 13 1 12,zb 14 .sub 9 13,zm 5 14])
 .ret)) }
def prog : Nat -> Option a8
 | 11=>some N11
 | 19=>some N19
 | 35=>some N35
 | 42=>some N42
 | 91=>some N91
 | 220=>some N220
 | 221=>some N221
 | 223=>some N223
 | 234=>some N234
 | 241=>some N241
 | 242=>some N242
 | 243=>some N243
 | 244=>some N244
 | 245=>some N245
 | 248=>some N248
 | 253=>some N253
 | 261=>some N261
 | 262=>some N262
 | 273=>some N273
 | 279=>some N279
 | 280=>some N280
 | 298=>some N298
 | 302=>some N302
 | 303=>some N303
 | 304=>some N304
 | 305=>some N305
 | 306=>some N306
 | 307=>some N307
 | 308=>some N308
 | 309=>some N309
 | 310=>some N310
 | 311=>some N311
 | 313=>some N313
 | 314=>some N314
 | 315=>some N315
 | 316=>some N316
 | 317=>some N317
 | 318=>some N318
 | 328=>some N328
 | 329=>some N329
 | 330=>some N330
 | 331=>some N331
 | 332=>some N332
 | 333=>some N333
 | 334=>some N334
 | 335=>some N335
 | 339=>some N339
 | 340=>some N340
 | 341=>some N341
 | 342=>some N342
 | 343=>some N343
 | 841=>some N841
 | 845=>some N845
 | 847=>some N847
 | _=>none
end Go.Gv
