/-
  Texts of the proof: BL2, BL3, BL4, S4, S3, Q8, Q9, Q10, K13, M2, Q14, Q15, GvX3, GvX4, BT0, Q16, Q17, Q11, Q13, Q18, Q19, Q23, Q20, Q24, Q26, BT1, BT2, BT3, GvX5, BD1, BT3b, Q28, S0, Q29, Q30, Q25, Q31, Q32, Q33, Q34, Q35, BT4, BT5, BD2, BP1, BD3, B10a, BT6, BT7, BT8, Q37, Q38, BT9, BT10, BD6.
-/
import Derived.Test.YtakhehpeefjcnaaGreatX7
import Derived.Test.YtakhehpeefjcnaaGreatX6
set_option linter.all false
namespace Go.Gv
def abL(ls:List Lnk)(ss:List Sec)(q:Nat->Int)(k:Nat)(v:Int):Int:=(bH ls[k]! ss[k]! (q k) v).1
structure TrO (ls:List Lnk) (ss:List Sec) (fh:Nat->Int):Prop where
 sec:∀k,k<ls.length->av ss[k]! = true
 len:∀k,k<ls.length->1<=ls[k]!.len/\ls[k]!.len<=16777216
 fall:∀k,k<ls.length->ls[k]!.down<=ls[k]!.up
 up:∀k,k<ls.length->-4194304<=ls[k]!.up/\ls[k]!.up<=4194304
 flow:∀k,k<ls.length->fh k<=1099511627776
 loss:∀k,k<ls.length->(b8 ls[k]! ss[k]! (fh k)).2=0
def lg(f:Nat)(v:Int):Prop:=-4194304<=v/\v<=8388608+(f:Int)*1073741824
theorem TrO.step{ls:List Lnk}{ss:List Sec}{fh:Nat->Int}(T:TrO ls ss fh){k:Nat}(hk:k<ls.length){q:Int}(h0:0<=q)(h1:q<=fh k){f:Nat}(hf:f<=400){v:Int}(hv:lg f v) :
  (bH ls[k]! ss[k]! q v).2=0/\v<=(bH ls[k]! ss[k]! q v).1/\lg (f+1) (bH ls[k]! ss[k]! q v).1:=by
 have hfl:=T.flow k hk
 obtain⟨v1,v2⟩:=hv
 have hm:(f:Int)*1073741824<=400*1073741824:=by omega
 have h:=vK (v:=v) (T.sec k hk) (T.len k hk) (T.fall k hk) ⟨h0,by omega⟩ (uM h0 h1 (T.loss k hk)) (T.up k hk) (by omega)
 refine⟨h.1,h.2.1,by omega,?_⟩
 have h3:=h.2.2
 have hm2:((f+1:Nat):Int)*1073741824=(f:Int)*1073741824+1073741824:=by omega
 rw[hm2]
 unfold mxI at h3
 split at h3<;>omega
theorem TrO.rng{ls:List Lnk}{ss:List Sec}{fh:Nat->Int}(T:TrO ls ss fh){es:List Edg}(he:es.length=ls.length){q:Nat->Int}(h0:∀k,k<ls.length->0<=q k/\q k<=fh k){base:Nat->Int}(hb:∀i,-4194304<=base i/\base i<=8388608):∀f i,f<=400->lg f (fZ es (abL ls ss q) base f i):=by
 refine qG (Q:=fun f _ v=>f<=400->lg f v) (fun f i hf=>?_) (fun f i k hk e v ih hf=>?_)
 ·have:=hb i
  exact⟨this.1,by omega⟩
 ·have hk':k<ls.length:=by omega
  exact(T.step hk' (h0 k hk').1 (h0 k hk').2 (by omega) (ih (by omega))).2.2
theorem TrO.mono{ls:List Lnk}{ss:List Sec}{fh:Nat->Int}(T:TrO ls ss fh){es:List Edg}(he:es.length=ls.length){q q':Nat->Int}(h0:∀k,k<ls.length->0<=q k/\q k<=q' k/\q' k<=fh k){base base':Nat->Int}(hb:∀i,-4194304<=base i/\base i<=base' i/\base' i<=8388608) :
  ∀f i,f<=400->fZ es (abL ls ss q) base f i<=fZ es (abL ls ss q') base' f i:=by
 have key:∀f i,f<=400->lg f (fZ es (abL ls ss q) base f i)/\lg f (fZ es (abL ls ss q') base' f i)/\fZ es (abL ls ss q) base f i<=fZ es (abL ls ss q') base' f i:=by
  refine oC (Q:=fun f _ v w=>f<=400->lg f v/\lg f w/\v<=w) (fun f i hf=>?_) (fun f i k hk e v w ih hf=>?_)
  ·have:=hb i
   exact⟨⟨this.1,by omega⟩,⟨by omega,by omega⟩,this.2.1⟩
  ·have hk':k<ls.length:=by omega
   obtain⟨a1,a2,a3⟩:=h0 k hk'
   obtain⟨i1,i2,i3⟩:=ih (by omega)
   have s1:=T.step hk' a1 (by omega:q k<=fh k) (by omega) i1
   have s2:=T.step hk' (by omega:0<=q' k) a3 (by omega) i2
   have s3:=T.step hk' (by omega:0<=q' k) a3 (by omega) i1
   refine⟨s1.2.2,s2.2.2,?_⟩
   have m1:=p5 (l:=ls[k]!) (s:=ss[k]!) (v:=v) a2 s1.1 s3.1
   have m2:=o8 (l:=ls[k]!) (s:=ss[k]!) (f:=q' k) i3 s3.1 s2.1
   exact Int.le_trans m1 m2
 exact fun f i hf=>(key f i hf).2.2
end Go.Gv

namespace Go.Gv
structure TrS (n:Nat) (es:List Edg) (ls:List Lnk) (ss:List Sec) (fl:List (Int×Int)):Prop where
 ing:inG n es
 full:(aX n es).length=n
 nd:(es.map (·.1)).Nodup
 cnt:es.length=ls.length
 small:n<=300
 tro:TrO ls ss fun k=>fl[k]!.2
 low:∀k,k<ls.length->0<=fl[k]!.1/\fl[k]!.1<=fl[k]!.2
def rF(ns:List Nod)(h:Int)(i:Nat):Int:=mxI ns[i]!.invert h
def ia(n:Nat)(es:List Edg)(ns:List Nod)(ls:List Lnk)(ss:List Sec)(fl:List (Int×Int))(o:Int×Int)(i:Nat):Int×Int :=
 (sA n es (abL ls ss fun k=>fl[k]!.1) (rF ns o.1) i,sA n es (abL ls ss fun k=>fl[k]!.2) (rF ns o.2) i)
theorem DF{a b c d:Int}(h1:c<=a)(h2:a<=d)(h4:b<=d):c<=mxI a b/\mxI a b<=d:=by
 unfold mxI
 split<;>omega
theorem l6{ns:List Nod}(hn:∀i:Nat,-4194304<=ns[i]!.invert/\ns[i]!.invert<=4194304){h:Int}(hh:h<=4194304)(i:Nat):-4194304<=rF ns h i/\rF ns h i<=8388608:=DF (hn i).1 (by have:=(hn i).2;omega) (by omega)
section
variable{n:Nat}{es:List Edg}{ns:List Nod}{ls:List Lnk}{ss:List Sec}{fl:List (Int×Int)}{o:Int×Int}
theorem pD(T:TrS n es ls ss fl)(hn:∀i:Nat,-4194304<=ns[i]!.invert/\ns[i]!.invert<=4194304)(ho:o.1<=o.2/\o.2<=4194304)(i:Nat):lg n (ia n es ns ls ss fl o i).1/\lg n (ia n es ns ls ss fl o i).2/\(ia n es ns ls ss fl o i).1<=(ia n es ns ls ss fl o i).2:=by
 have hs:=T.small
 have b1:=l6 hn (h:=o.1) (by omega)
 have b2:=l6 hn (h:=o.2) ho.2
 refine⟨T.tro.rng T.cnt (fun k hk=>⟨(T.low k hk).1,(T.low k hk).2⟩) b1 n i (by omega),T.tro.rng T.cnt (fun k hk=>⟨Int.le_trans (T.low k hk).1 (T.low k hk).2,x0F _⟩) b2 n i (by omega),?_⟩
 exact T.tro.mono T.cnt (fun k hk=>⟨(T.low k hk).1,(T.low k hk).2,x0F _⟩) (fun j=>⟨(b1 j).1,dL (x0F _) ho.1,(b2 j).2⟩) n i (by omega)
theorem uO{i:Nat}(h:lc es i=none):ia n es ns ls ss fl o i=(rF ns o.1 i,rF ns o.2 i):=by
 unfold ia
 rw[oD n _ _ h,oD n _ _ h]
theorem uP(T:TrS n es ls ss fl)(hn:∀i:Nat,-4194304<=ns[i]!.invert/\ns[i]!.invert<=4194304)(ho:o.1<=o.2/\o.2<=4194304){i k:Nat}(hi:rkO n es i<n)(h:lc es i=some k) :
  ∃w,w=es[k]!.2/\rkO n es i<rkO n es w/\rkO n es w<n /\
   (bH ls[k]! ss[k]! fl[k]!.1 (ia n es ns ls ss fl o w).1).2=0/\(bH ls[k]! ss[k]! fl[k]!.2 (ia n es ns ls ss fl o w).2).2=0 /\
   ia n es ns ls ss fl o i=((bH ls[k]! ss[k]! fl[k]!.1 (ia n es ns ls ss fl o w).1).1,(bH ls[k]! ss[k]! fl[k]!.2 (ia n es ns ls ss fl o w).2).1):=by
 obtain⟨hk,e⟩:=gq h
 have hk':k<ls.length:=by have:=T.cnt;omega
 have hm:(i,es[k].2)∈es:=by
  have:=x0p hk
  rwa[show es[k]=(i,es[k].2)from Prod.ext e rfl]at this
 have hr:=kh T.ing T.full hm
 have hw:es[k]!.2=es[k].2:=by rw[x0g es k hk]
 obtain⟨r1,r2,_⟩:=pD (ns:=ns) T hn ho es[k]!.2
 have hs:=T.small
 have s1:=T.tro.step hk' (T.low k hk').1 (T.low k hk').2 (by omega:n<=400) r1
 have s2:=T.tro.step hk' (Int.le_trans (T.low k hk').1 (T.low k hk').2) (x0F _) (by omega:n<=400) r2
 refine⟨es[k]!.2,rfl,by rw[hw];exact hr.1,by rw[hw];exact hr.2,s1.1,s2.1,?_⟩
 unfold ia
 rw[oE T.ing T.full _ _ hi h,oE T.ing T.full _ _ hi h]
 rfl
end
end Go.Gv

namespace Go.Gv
section
variable{n:Nat}{es:List Edg}{ns:List Nod}{ls:List Lnk}{ss:List Sec}{fl fl':List (Int×Int)}{o o':Int×Int}
theorem wT(T:TrS n es ls ss fl)(hn:∀i:Nat,-4194304<=ns[i]!.invert/\ns[i]!.invert<=4194304){a b:Int}(h1:a<=b)(h2:b<=4194304)(i:Nat) :
  (ia n es ns ls ss fl (a,a) i).1<=(ia n es ns ls ss fl (b,b) i).1/\(ia n es ns ls ss fl (a,a) i).2<=(ia n es ns ls ss fl (b,b) i).2:=by
 have hs:=T.small
 have b1:=l6 hn (h:=a) (by omega)
 have b2:=l6 hn (h:=b) h2
 exact⟨T.tro.mono T.cnt (fun k hk=>⟨(T.low k hk).1,x0F _,(T.low k hk).2⟩) (fun j=>⟨(b1 j).1,dL (x0F _) h1,(b2 j).2⟩) n i (by omega),
  T.tro.mono T.cnt (fun k hk=>⟨Int.le_trans (T.low k hk).1 (T.low k hk).2,x0F _,x0F _⟩) (fun j=>⟨(b1 j).1,dL (x0F _) h1,(b2 j).2⟩) n i (by omega)⟩
end
end Go.Gv

namespace Go.Gv
def fE(es:List Edg)(v:Nat):Option Nat:=es.findIdx? fun e=>e.1==v
def frI:Option Nat->Int
 | some i=>i
 | none=>-1
theorem tf{es:List Edg}{v:Nat}:fE es v=none↔v∉es.map (·.1):=by
 unfold fE
 rw[List.findIdx?_eq_none_iff]
 simp only[beq_eq_false_iff_ne,ne_eq,x0s,not_exists,not_and]
theorem yV{es:List Edg}{j:Nat}(hj:j<es.length)(v:Nat):fE (es.take (j+1)) v=(fE (es.take j) v).or (if es[j].1=v then some j else none):=by
 have hl:(es.take j).length=j:=by simp;omega
 unfold fE
 rw[x0w hj,List.findIdx?_append]
 congr 1
 by_cases h:es[j].1=v
 ·rw[if_pos h];simp[List.findIdx?_cons,h,hl]
 ·rw[if_neg h];simp[List.findIdx?_cons,h]
def frA(n:Nat)(es:List Edg)(j:Nat):List (List D):=(List.range n).map fun v=>[.int .i64 (frI (fE (es.take j) v))]
theorem wz(n:Nat)(es:List Edg):frA n es 0=List.replicate n [.int .i64 (-1)]:=by
 apply List.ext_getElem
 ·simp[frA]
 ·intro i h1 h2
  simp[frA,fE,frI]
theorem l8(n:Nat)(es:List Edg)(j:Nat):(frA n es j).length=n:=by simp[frA]
theorem pu{n v:Nat}(es:List Edg)(j:Nat)(h:v<n):(frA n es j)[v]? = some [.int .i64 (frI (fE (es.take j) v))]:=by simp[frA,h]
theorem yZ{n:Nat}{es:List Edg}{j:Nat}(hj:j<es.length)(h:fE (es.take j) es[j].1=none):(frA n es j).set es[j].1 [.int .i64 (j:Int)]=frA n es (j+1):=by
 unfold frA
 rw[lm]
 apply x0m
 intro v _
 rw[yV hj]
 by_cases e:v=es[j].1
 ·subst e
  rw[if_pos rfl,h,if_pos rfl];rfl
 ·rw[if_neg e,if_neg (Ne.symm e),Option.or_none]
theorem zM{es:List Edg}{j:Nat}(hj:j<es.length)(h:((es.take j).map (·.1)).Nodup):((es.take (j+1)).map (·.1)).Nodup↔fE (es.take j) es[j].1=none:=by
 rw[x0w hj,x1p,x1u,tf]
 simp only[x0I,x0Y,x0M,x1o,or_false,forall_eq,List.nodup_cons,not_false_eq_true,List.nodup_nil,and_self,true_and,h]
 constructor
 ·intro h1 h2;exact h1 _ h2 rfl
 ·rintro h1 a ha rfl;exact h1 ha
end Go.Gv

set_option maxRecDepth 4000
namespace Go.Gv
def gQ(n m:Nat)(v:Int):List (List D):=List.replicate m [.int .i64 v]++List.replicate (n-m) [.int .i64 0]
theorem qT{n m:Nat}{v:Int}(h:m<=n):(gQ n m v).length=n:=by simp[gQ];omega
theorem nj(n m:Nat)(v:Int):∀e∈gQ n m v,e.length=1/\∀c∈e,az c=true:=by
 intro e he
 rcases x0l.1 he with h|h<;>(rw[(List.mem_replicate.1 h).2];simp[az])
theorem oR(n m:Nat)(v:Int):∀e∈gQ n m v,∀c∈e,az c=true:=fun e he=>(nj n m v e he).2
theorem oQ(n:Nat)(v:Int):gQ n n v=List.replicate n [.int .i64 v]:=by simp[gQ]
theorem oS{n m:Nat}{v:Int}(h:m<=n):io (gQ n m v) m (((gQ n m v).take m).take (n-m))=gQ n (min n (m+m)) v:=by
 have h1:(gQ n m v).take m=List.replicate m [.int .i64 v]:=by
  unfold gQ
  rw[List.take_append_of_le_length (by simp)]
  simp
 rw[h1,List.take_replicate]
 unfold io
 rw[h1,List.length_replicate]
 unfold gQ
 rw[List.drop_append,List.drop_eq_nil_of_le (by simp),List.nil_append,List.length_replicate,List.drop_replicate]
 have e1:min n (m+m)=m+min (n-m) m:=by omega
 rw[e1,<- List.replicate_append_replicate]
 congr 2
 omega
theorem sJ{n:Nat}{v:Int}(h:0<n):io (List.replicate n [D.int .i64 0]) 0 ([[D.int .i64 v]].take n)=gQ n 1 v:=by
 have:[[D.int .i64 v]].take n=[[.int .i64 v]]:=by
  rw[x0y (by simp;omega)]
 rw[this]
 unfold io gQ
 simp
variable{C:CC}(hC:al prog C)
include hC
theorem xj(v:Int)(n:Nat)(hn:n<2^40):C 315 [.sl [[.int .i64 v]],.int .i64 n] .any [.own 1 (List.replicate n [.int .i64 v])]:=by
 have k0:=gJ hC 1 n (by omega) (by omega)
 have k1:C 333 [.int .u64 1,.int .u64 n] (.tup [.int .u64 0,.int .u64 n]) []:=by
  have e1:1*n/2^64=0:=by omega
  have e2:1*n%2^64=n:=by omega
  rw[e1,e2]at k0
  refine aj hC (nf:=N333) rfl rfl ?_
  simp[N333]
  simp at k0
  refine aa k0 (.inl rfl) ?_
  simp
 have w1:IntKind.wrap .u64 (n:Int)=n:=by
  have e:(2:Int)^IntKind.bits .u64=18446744073709551616:=by decide
  have e2:IntKind.signed .u64=false:=rfl
  simp only[IntKind.wrap,e,e2,Bool.false_and,x0n,if_false]
  omega
 have w2:IntKind.wrap .i64 (n:Int)=n:=wrap_i64 (by omega) (by omega)
 refine pO hC (nf:=N315) rfl rfl ?_
 have hn0:¬(n:Int)<0:=by omega
 have hn1:¬(9223372036854775807:Int)<n:=by omega
 have hn2:(n:Int)*8<=140737488355328:=by omega
 simp[N315,w1,hn0]
 refine aa k1 (.inl rfl) ?_
 simp[w2,hn1,hn2,az]
 refine⟨fun h0=>?_,fun h0=>?_⟩
 ·refine aF Nat (fun m=>[(7,.ref (.r 10112) 0 n),(8,.int .i64 m),(10112,.blk 1 (gQ n m v))]) (fun m=>m<=n/\(0<n->0<m)) (fun m=>n-m) 0 ⟨by omega,by omega⟩ (by subst h0;simp[gQ]) ?_
  rintro m ⟨hm,hm0⟩
  simp
  refine ae (fun h=>?_) (fun h=>?_)<;>simp at h
  ·have hm1:0<m:=hm0 (by omega)
   have hl:=qT (v:=v) hm
   have hnx:=oS (v:=v) hm
   have hc:=nj n m v
   have hc1:=oR n m v
   have hnm:¬n-m=0:=by omega
   have hpos:0<n-m:=by omega
   have htk:∀e∈(gQ n m v).take m,∀c∈e,az c=true:=fun e he=>hc1 e (x0E he)
   have hw:IntKind.wrap .i64 ((m:Int)+((min m (n-m):Nat):Int))=((min n (m+m):Nat):Int):=wrap_i64 (by omega) (by omega)
   simp[h,hl,hm,nV]
   try refine⟨htk,hm1,fun hz=>absurd hz hnm,fun _=>⟨hc1,htk,aw (by decide +kernel),min n (m+m),⟨by omega,fun _=>by omega⟩,by omega,hw,hnx⟩⟩
  ·have e:m=n:=by omega
   subst e
   simp[oQ]
 ·rw[sJ h0]
  have h01:min 1 n=1:=by omega
  refine aF Nat (fun m=>[(7,.ref (.r 10112) 0 n),(8,.int .i64 m),(10112,.blk 1 (gQ n m v))]) (fun m=>m<=n/\(0<n->0<m)) (fun m=>n-m) 1 ⟨by omega,by omega⟩ (by simp[h01]) ?_
  rintro m ⟨hm,hm0⟩
  simp
  refine ae (fun h=>?_) (fun h=>?_)<;>simp at h
  ·have hm1:0<m:=hm0 (by omega)
   have hl:=qT (v:=v) hm
   have hnx:=oS (v:=v) hm
   have hc:=nj n m v
   have hc1:=oR n m v
   have hnm:¬n-m=0:=by omega
   have hpos:0<n-m:=by omega
   have htk:∀e∈(gQ n m v).take m,∀c∈e,az c=true:=fun e he=>hc1 e (x0E he)
   have hw:IntKind.wrap .i64 ((m:Int)+((min m (n-m):Nat):Int))=((min n (m+m):Nat):Int):=wrap_i64 (by omega) (by omega)
   simp[h,hl,hm,nV]
   try refine⟨htk,hm1,fun hz=>absurd hz hnm,fun _=>⟨hc1,htk,aw (by decide +kernel),min n (m+m),⟨by omega,fun _=>by omega⟩,by omega,hw,hnx⟩⟩
  ·have e:m=n:=by omega
   subst e
   simp[oQ]
end Go.Gv

namespace Go.Gv
variable{C:CC}(hC:al prog C)
include hC
end Go.Gv

namespace Go.Gv
variable{C:CC}(hC:al prog C)
include hC
end Go.Gv

namespace Go.Gv
variable{C:CC}(hC:al prog C)
include hC
end Go.Gv

namespace Go.Gv
structure Job where
 below:SlI
 lengths:SlI
 flows:SlI
 falls:SlI
 room:SlI
 secN:Bool
 secs:List Sec
 deriving Inhabited
@[simp] theorem Ql{x:SlI}:slI x=slx x.n (x.l.map fun n=>[.int .i64 n]):=zR
variable{C:CC}(hC:al prog C)
include hC
end Go.Gv

namespace Go.Gv
def df(nm:List UInt8)(s:Sec):Bool:=s.name==nm
theorem pg(l:List Sec):bg l=true↔l.length<=40/\(∀(i:Nat) (h:i<l.length),av l[i]=true/\bk (df l[i].name) l=i):=by
 simp only[bg,x0a,x0d,x0f]
 constructor
 ·rintro⟨⟨h1,h2⟩,h3⟩
  refine⟨h1,fun i h=>⟨h2 _ (x0p h),?_⟩⟩
  refine cQ (fun k hk hki=>?_) h (by simp[df])
  rw[df,beq_eq_false_iff_ne]
  intro e
  exact List.pairwise_iff_getElem.1 h3 k i (by simpa using hk) (by simpa using h) hki (by simpa using e)
 ·rintro⟨h1,h2⟩
  refine⟨⟨h1,fun x hx=>?_⟩,?_⟩
  ·obtain⟨i,h,rfl⟩:=x1g hx
   exact(h2 i h).1
  ·refine List.pairwise_iff_getElem.2 fun a b ha hb hab e=>?_
   simp only[x08]at ha hb
   simp only[List.getElem_map]at e
   have h3:=(h2 b hb).2
   have h4:∃k,k<=a/\bk (df l[b].name) l=(k:Int):=by
    unfold bk
    cases hf:l.findIdx? (df l[b].name) with
    | none =>
     rw[List.findIdx?_eq_none_iff]at hf
     have:=hf l[a] (x0p _)
     simp[df,e]at this
    | some k =>
     refine⟨k,?_,rfl⟩
     rw[x0W]at hf
     obtain⟨q1,q2,q3⟩:=hf
     rcases x1i a k with hak|hak
     ·exact absurd (by simp[df,e]) (q3 a hak)
     ·exact hak
   obtain⟨k,h5,h6⟩:=h4
   omega
variable{C:CC}(hC:al prog C)
include hC
end Go.Gv

namespace Go.Gv
def lY(ss:List Sec)(nm:List UInt8):Int:=bk (df nm) ss
def Bg(ss:List Sec)(nm:List UInt8):Int×Int:=if bg ss then(if 0<=lY ss nm then(lY ss nm,0) else(0,9)) else(0,1)
def lJ(ss:List Sec)(l:Lnk):Bool:=decide (lY ss l.sect<0)
def iN(l:Lnk):Bool:=decide (l.up<l.down)
def jz(ls:List Lnk)(ss:List Sec):Int:=if ls.any (lJ ss) then 9 else if ls.any iN then 23 else 0
def gh(ns:List Nod)(ls:List Lnk)(ss:List Sec)(q:List Sp)(count:Int):Int:=if c9 ns ls&&bg ss then(if gT q count=0 then jz ls ss else gT q count) else 1
structure ga (ss:List Sec) (l:Lnk):Prop where
 idx:∃k,lY ss l.sect=(k:Nat)/\k<ss.length
 le:l.down<=l.up
 up:-4194304<=l.up/\l.up<=4194304
 down:-4194304<=l.down/\l.down<=4194304
 len:1<=l.len/\l.len<=16777216
theorem vm{ns:List Nod}{ls:List Lnk}(h:c9 ns ls=true){l:Lnk}(hl:l∈ls):bP l.up=true/\bP l.down=true/\aS l.len 1 16777216=true/\co l.sect=true:=by
 simp only[c9,x0a,x0f,x0d]at h
 obtain⟨⟨hv,hk⟩,_⟩:=h
 obtain⟨i,hi,rfl⟩:=x1g hl
 have h1:=(kX hv hi).1
 have h2:=hk _ hl
 simp only[cj,jt,h2,if_true,x0a]at h1
 exact⟨h1.1.1.2,h1.2.1.2,h1.2.1.1,h1.2.2⟩
theorem tD{ns:List Nod}{ls:List Lnk}{ss:List Sec}(ht:c9 ns ls=true)(h:jz ls ss=0):∀l∈ls,ga ss l:=by
 intro l hl
 obtain⟨a,b,c,_⟩:=vm ht hl
 simp only[bP,aS,x0a,x0d]at a b c
 unfold jz at h
 split at h
 ·cases h
 rename_i h1
 split at h
 ·cases h
 rename_i h2
 simp only[x01,x02,lJ,iN,x0d]at h1 h2
 have e1:=h1 l hl
 have e2:=h2 l hl
 have hi:0<=lY ss l.sect:=by omega
 refine⟨⟨(lY ss l.sect).toNat,by omega,j0 hi⟩,by omega,a,b,c⟩
theorem ga.fall{ss:List Sec}{l:Lnk}(h:ga ss l):bT (cr l) l.len=true:=by
 have:=h.le;have:=h.len;have:=h.up;have:=h.down
 by_cases h:4194304<l.up-l.down<;>simp[bT,cr,h]<;>omega
theorem tm{ns:List Nod}{ls:List Lnk}{ss:List Sec}{q:List Sp}{count:Int}(h:gh ns ls ss q count=0):c9 ns ls=true/\bg ss=true/\gT q count=0/\jz ls ss=0:=by
 unfold gh at h
 split at h
 ·rename_i h1
  simp only[x0a]at h1
  split at h
  ·rename_i h2
   exact⟨h1.1,h1.2,h2,h⟩
  ·rename_i h2
   exact absurd h h2
 ·cases h
theorem pj{ss:List Sec}(h:bg ss=true){k:Nat}(hk:k<ss.length):av ss[k]=true:=((pg ss).1 h).2 k hk |>.1
variable{C:CC}(hC:al prog C)
include hC
end Go.Gv

namespace Go.Gv
def yv(s:Sec)(depth fall len:Int):Int×Int:=if av s then(if 0<=depth/\depth<=s.height/\bT fall len=true then(if 1099511627776<(jn s depth fall len:Int) then(0,5) else(jn s depth fall len,0)) else(0,2)) else(0,1)
def c8(ss:List Sec)(l:Lnk):Sec:=ss[(lY ss l.sect).toNat]?.getD ⟨[],0,0,true,[],true,[]⟩
theorem ga.sec{ss:List Sec}{l:Lnk}(h:ga ss l):∃k,lY ss l.sect=(k:Nat)/\∃hk:k<ss.length,c8 ss l=ss[k]:=by
 obtain⟨k,hk,hl⟩:=h.idx
 refine⟨k,hk,hl,?_⟩
 simp[c8,hk,hl]
theorem ga.find{ss:List Sec}{l:Lnk}(hv:bg ss=true)(h:ga ss l):Bg ss l.sect=(lY ss l.sect,0):=by
 obtain⟨k,hk,hl⟩:=h.idx
 simp[Bg,hv,hk]
theorem ga.valid{ss:List Sec}{l:Lnk}(hv:bg ss=true)(h:ga ss l):av (c8 ss l)=true:=by
 obtain⟨k,hk,hl,e⟩:=h.sec
 rw[e]
 exact pj hv hl
theorem ga.wrap{ss:List Sec}{l:Lnk}(h:ga ss l):IntKind.wrap .i64 (l.up-l.down)=l.up-l.down:=by
 have:=h.up;have:=h.down
 exact wrap_i64 rfl (by omega)
variable{C:CC}(hC:al prog C)
include hC
end Go.Gv

namespace Go.Gv
section
variable{C:CC}{hs:Option (List Nat)}{K:Env->Prop}{ns:List ao}{e:Env}{R:List Nat}{acc:List (List Nat×List Nat)}
end
end Go.Gv

namespace Go.Gv
section
variable{C:CC}{hs:Option (List Nat)}{K:Env->Prop}{ns:List ao}{e:Env}{R:List Nat}{acc:List (List Nat×List Nat)}
theorem tQ{x:Opd}{s c:Nat}{v1:_}{sz:Nat}{row:List D}{b i1 o1 i off sz0 sz1:Nat}{es0 es:List (List D)}{row0 r:List D}(hs0:s<10000)(hfs:ac e s=.adr (.r c) 0 0)(hfc:ac e c=.blk sz [row])(hrow:∀d∈row,az d=true)(hx:vd (ac e) x=.adr (.n b i1 o1) i off)(hbc:b≠c)(hb:ac e b=.blk sz0 es0)
  (h1:es0[i1]? = some row0) (h2:row0[o1]? = some (.own sz1 es)) (h3:es[i]? = some r) (h4:off+1<=r.length)
  (hk:doW C hs K ns ⟨⟩ e R acc [(b,.blk sz0 (aV es0 i1 o1 1 [.own sz1 (aV es i off 1 [.ptr row])])),(s,.ptr row),(c,.any)] []):opW C hs K ns none (.stP x (.t s)) v1 e R acc:=by
 unfold opW
 simp only[aC]
 refine⟨trivial,hs0,?_⟩
 rw[hfs]
 refine⟨rfl,rfl,?_⟩
 rw[hfc]
 refine⟨hrow,?_⟩
 rw[hx]
 refine⟨hbc,?_⟩
 rw[hb]
 exact⟨row0,h1,sz1,es,h2,r,h3,h4,hk⟩
theorem kr{n:Nat}{y:Opd}{s c:Nat}{v1:_}{sz:Nat}{row ds:List D}(hs0:s<10000)(hfs:ac e s=.adr (.r c) 0 0)(hfc:ac e c=.blk sz [row])(hl:row.length=n)(hp:gw (vd (ac e) y)=some ds)(hd:ds.length=n)(h1:ds.all qv=true)
  (hk:doW C hs K ns ⟨⟩ e R acc [(s,.ptx ds),(c,.any)] []):opW C hs K ns none (.stF n (.t s) y) v1 e R acc:=by
 unfold opW
 simp only[aC]
 refine⟨trivial,hs0,?_⟩
 rw[hfs]
 refine⟨rfl,rfl,?_⟩
 rw[hfc]
 exact⟨hl,ds,hp,hd,h1,hk⟩
end
end Go.Gv

namespace Go.Gv
section
variable{C:CC}{hs:Option (List Nat)}{K:Env->Prop}{ns:List ao}{e:Env}{R:List Nat}{acc:List (List Nat×List Nat)}
theorem ui{t m:Nat}{ms:List Nat}{x:Opd}{v1:_}{ds cs:List D}{bs:List Nat}(hv:vd (ac e) x=.agx ds)(hl:(m::ms).length=ds.length)(hab:∀Q:List D->List Nat->Prop,Q cs bs->ik (ac e) ds Q)(hd:bu bs=true)(hbs:bs.contains (rt t 0)=false)
  (hk:doW C hs K ns ⟨⟩ e R acc ((t,.adr (.r (rt t 0)) 0 0)::(rt t 0,.blk (dP (m::ms) cs).length [dP (m::ms) cs])::bW bs) [(rt t 0,true)]):opW C hs K ns (some t) (.box (m::ms) x) v1 e R acc:=by
 unfold opW
 simp only[aC]
 rw[hv]
 simp only[eT]
 exact⟨.inr hl,hab _ ⟨hd,hbs,hk⟩⟩
end
def nT(ns:List Nod)(es:List Edg):Bool:=(List.range ns.length).any fun i=>!decide (ns[i]!.kind=3)&&(fE es i).isNone
def iA(ls:List Lnk)(ss:List Sec)(fl:List Sp)(k:Nat):Int:=(b8 ls[k]! (c8 ss ls[k]!) fl[k]!.2).2
def jd(ls:List Lnk)(ss:List Sec)(fl:List Sp):Int:=if (List.range ls.length).any (fun k=>decide (iA ls ss fl k=16)) then 16 else if (List.range ls.length).any (fun k=>decide (iA ls ss fl k=5)) then 5 else 0
def dV(o:Sp):Bool:=decide (o.1 < -4194304)||decide (4194304<o.2)
def ct(ns:List Nod)(ls:List Lnk)(ss:List Sec)(q:List Sp)(o:Sp):Int :=
 if gh ns ls ss q ns.length=1\/cA o=false then 1
 else if gh ns ls ss q ns.length=3 then 3
 else if gh ns ls ss q ns.length=2\/dV o=true then 2
 else if gh ns ls ss q ns.length≠0 then gh ns ls ss q ns.length
 else if nT ns (aK ns ls) then 24
 else if bZ ns.length (aK ns ls) q≠0 then bZ ns.length (aK ns ls) q
 else jd ls ss (aE ns.length (aK ns ls) q)
def gU(ns:List Nod)(ls:List Lnk)(ss:List Sec)(q:List Sp)(o:Sp):Bool:=decide (gh ns ls ss q ns.length=0)&&cA o&&!dV o&&!nT ns (aK ns ls)&&decide (bZ ns.length (aK ns ls) q=0)&&!decide (jd ls ss (aE ns.length (aK ns ls) q)=16)
theorem mV(ls:List Lnk)(ss:List Sec)(fl:List Sp):jd ls ss fl=0\/jd ls ss fl=5\/jd ls ss fl=16:=by
 unfold jd
 split
 ·simp
 ·split<;>simp
theorem xW{ns:List Nod}{ls:List Lnk}{ss:List Sec}{q:List Sp}{o:Sp}(h:gU ns ls ss q o=true):ct ns ls ss q o=jd ls ss (aE ns.length (aK ns ls) q)/\(ct ns ls ss q o=0\/ct ns ls ss q o=5):=by
 simp only[gU,x0a,x0q,x0d,x0J]at h
 obtain⟨⟨⟨⟨⟨h1,h2⟩,h3⟩,h4⟩,h5⟩,h6⟩:=h
 have e:ct ns ls ss q o=jd ls ss (aE ns.length (aK ns ls) q):=by
  unfold ct
  rw[h1,h3,h4,h5]
  simp[h2]
 refine⟨e,?_⟩
 rw[e]
 rcases mV ls ss (aE ns.length (aK ns ls) q)with h|h|h
 ·exact .inl h
 ·exact .inr h
 ·exact absurd h h6
theorem AI{ns:List Nod}{ls:List Lnk}{ss:List Sec}{q:List Sp}{o:Sp}{e:Int}(he:e=ct ns ls ss q o)(h:¬(e=0\/e=5)):gU ns ls ss q o=false:=by
 rw[<- x01]
 intro h2
 rw[he]at h
 exact h (xW h2).2
def iK(ss:List Sec)(ls:List Lnk)(j:Nat):List (List D):=(ls.take j).map fun l=>bf (c8 ss l)
theorem DT(ss:List Sec)(ls:List Lnk):iK ss ls 0=[]:=rfl
theorem u5{ss:List Sec}{ls:List Lnk}{j:Nat}(h:j<ls.length):iK ss ls (j+1)=iK ss ls j++[bf (c8 ss ls[j])]:=by
 unfold iK
 rw[x0w h,x1p]
 rfl
theorem gz{ss:List Sec}{ls:List Lnk}{j:Nat}(h:j<=ls.length):(iK ss ls j).length=j:=by simp[iK];omega
theorem Af(ss:List Sec)(ls:List Lnk)(j:Nat):∀e∈iK ss ls j,∀c∈e,az c=true:=by
 intro e he
 simp only[iK,x0s]at he
 obtain⟨l,_,rfl⟩:=he
 simp[bf]
theorem qY{ss:List Sec}{ls:List Lnk}{j k:Nat}(hk:k<j)(hj:k<ls.length):(iK ss ls j)[k]? = some (bf (c8 ss ls[k])):=by
 simp[iK,hk,hj]
def toT(es:List Edg)(j:Nat):List (List D):=(es.take j).map fun e=>[.int .i64 (e.2:Int)]
theorem L0(es:List Edg):toT es 0=[]:=rfl
theorem xT{es:List Edg}{j:Nat}(h:j<es.length):toT es (j+1)=toT es j++[[.int .i64 (es[j].2:Int)]]:=by
 unfold toT
 rw[x0w h,x1p]
 rfl
theorem tV{es:List Edg}{j:Nat}(h:j<=es.length):(toT es j).length=j:=by simp[toT];omega
theorem AG{es:List Edg}{j k:Nat}(hk:k<j)(hj:k<es.length):(toT es j)[k]? = some [.int .i64 (es[k].2:Int)]:=by
 simp[toT,hk,hj]
def dj(b1 b2:Bool)(ns:List Nod)(ls:List Lnk)(ss:List Sec)(es:List Edg)(fl:List Sp)(o:Sp)(dn:List (List D)):List D :=
 [slx b1 (ns.map a8),slx b2 (ls.map aJ),.sl (fl.map knD),.own 5 (iK ss ls ls.length),.own 1 (frA ns.length es es.length),.own 1 (toT es es.length),.int .i64 o.1,.int .i64 o.2,.own 1 dn]
variable{C:CC}(hC:al prog C)
include hC
theorem xM(s:Sp):C 641 [.agg (knD s)] (.bool (!cA s)) []:=by
 refine aj hC (nf:=N641) rfl rfl ?_
 simp[N641,knD]
 refine aa (pN hC s) (.inl rfl) ?_
 simp
theorem AA(s:Sp):C 642 [.agg (knD s)] (.bool (jI s)) []:=by
 refine aj hC (nf:=N642) rfl rfl ?_
 simp[N642,knD,jI]
 by_cases h:s.1<0<;>simp[h]
theorem xz(l:Lnk)(s:Sec):C 643 (.agg (bf s)::[.ptr (aJ l)]) (.bool (df l.sect s)) []:=by
 refine aj hC (nf:=N643) rfl rfl ?_
 simp[N643,bf,aJ,df]
 rw[x0z];simp
theorem vn(l:Lnk):C 644 [.agg (aJ l)] (.bool (iN l)) []:=by
 refine aj hC (nf:=N644) rfl rfl ?_
 simp[N644,aJ,iN]
theorem re(v:Int):C 624 [.int .i64 v] (.agg [.int .i64 v,.int .i64 v]) []:=by
 refine aj hC (nf:=N624) rfl rfl ?_
 simp[N624]
end Go.Gv

namespace Go.Gv
variable{C:CC}(hC:al prog C)
include hC
end Go.Gv

namespace Go.Gv
theorem rf{q:List Sp}{n:Nat}(h:gT q n=0):q.length=n/\∀s∈q,0<=s.1/\s.1<=s.2/\s.2<=1099511627776:=by
 unfold gT at h
 split at h
 ·cases h
 rename_i h1
 split at h
 ·rename_i h0
  split at h
  ·cases h
  ·rename_i h2
   refine⟨by omega,fun s hs=>?_⟩
   simp only[x01,x02]at h1 h2
   have a:=h1 s hs
   have b:=h2 s hs
   simp only[cA,jI,x0q,Bool.not_eq_false',x0a,x0d,x0H,not_or]at a b
   simp at a b
   omega
 ·cases h
variable{C:CC}(hC:al prog C)
include hC
end Go.Gv

namespace Go.Gv
variable{C:CC}(hC:al prog C)
include hC
end Go.Gv

namespace Go.Gv
theorem jp(n:Nat)(es:List Edg)(l:List Sp):(aE n es l).length=es.length:=by simp[aE]
variable{C:CC}(hC:al prog C)
include hC
end Go.Gv

namespace Go.Gv
structure sU (s:Sec) (fall len:Int) (y:Sp):Prop where
 lo:0<=y.1
 hi:y.1<=s.height
 fl:y.2<=1099511627776
 yes:y.2<=(jn s y.1 fall len:Int)
 no:0<y.1->(jn s (y.1-1) fall len:Int)<y.2
theorem sU.cap{s:Sec}{fall len:Int}{y:Sp}(h:sU s fall len y)(hs:av s=true)(hf:bT fall len=true):(yv s y.1 fall len).2=5\/((yv s y.1 fall len).2=0/\y.2<=(yv s y.1 fall len).1):=by
 have:=h.yes
 unfold yv
 rw[if_pos hs,if_pos ⟨h.lo,h.hi,hf⟩]
 split
 ·exact .inl rfl
 ·exact .inr ⟨rfl,this⟩
variable{C:CC}(hC:al prog C)
include hC
end Go.Gv

namespace Go.Gv
variable{C:CC}(hC:al prog C)
include hC
end Go.Gv

namespace Go.Gv
def eJ(l:List (List UInt8)):List (List D):=l.map fun s=>[.str s]
theorem gE(l:List (List UInt8)):(eJ l).length=l.length:=by simp[eJ]
theorem D5(l:List (List UInt8)):(eJ l).map (fun e=>e.map aU)=eJ l:=by
 unfold eJ
 rw[List.map_map]
 apply x0m
 intro v _
 simp[aU]
theorem kw(l:List (List UInt8))(s:List UInt8):eJ l++[[.str s]]=eJ (l++[s]):=by simp[eJ]
variable{C:CC}(hC:al prog C)
include hC
end Go.Gv

namespace Go.Gv
variable{C:CC}(hC:al prog C)
include hC
end Go.Gv

namespace Go.Gv
variable{C:CC}(hC:al prog C)
include hC
end Go.Gv

namespace Go.Gv
structure Hx (a b:List Sp):Prop where
 len:b.length=a.length
 get:∀(i:Nat) (h:i<a.length) (h':i<b.length),0<=a[i].1/\a[i].1<=b[i].1/\b[i].1=b[i].2/\b[i].2<=a[i].2
theorem Ea{n:Nat}{es:List Edg}{g g':Nat->Int}(h:∀v,v<n->g v<=g' v)(x:Nat):upS n es g x<=upS n es g' x:=by
 unfold upS
 refine mi fun v hv=>?_
 have:=h v hv
 show(if upB n es v x=true then g v else 0)<=if upB n es v x=true then g' v else 0
 split<;>omega
theorem yr{l:List Sp}{v:Nat}(h:v<l.length):l[v]! = l[v]:=x0g l v h
theorem Hx.rng{a b:List Sp}(h:Hx a b)(ha:∀s∈a,0<=s.1/\s.1<=s.2/\s.2<=1099511627776):∀s∈b,0<=s.1/\s.1<=s.2/\s.2<=1099511627776:=by
 intro s hs
 obtain⟨i,hi,rfl⟩:=x1g hs
 have hl:=h.len
 have h1:=h.get i (by omega) hi
 have h2:=ha _ (x0p (show i<a.length by omega))
 omega
end Go.Gv

set_option maxRecDepth 4000
namespace Go.Gv
theorem xU{ns:List Nod}{ls:List Lnk}{ss:List Sec}{q:List Sp}{o:Sp}(h:¬(c9 ns ls=true/\bg ss=true/\cA o=true/\q.any (fun s=>!cA s)=false)):ct ns ls ss q o=1:=by
 unfold ct
 rw[if_pos]
 by_cases h1:cA o=true
 ·left
  unfold gh
  by_cases h2:c9 ns ls=true
  ·by_cases h3:bg ss=true
   ·have h4:q.any (fun s=>!cA s)=true:=by
     apply Classical.byContradiction
     intro h5
     exact h ⟨h2,h3,h1,by simpa using h5⟩
    have h5:gT q ns.length=1:=by unfold gT;rw[if_pos h4]
    rw[if_pos (by simp[h2,h3]),h5,if_neg (by decide)]
   ·rw[if_neg (by simp[h3])]
  ·rw[if_neg (by simp[h2])]
 ·right
  simpa using h1
theorem xV{ns:List Nod}{ls:List Lnk}{ss:List Sec}{q:List Sp}(h1:c9 ns ls=true)(h2:bg ss=true)(h3:q.any (fun s=>!cA s)=false) :
  gh ns ls ss q ns.length=if q.length=ns.length then(if q.any jI then 2 else jz ls ss) else 3:=by
 have e:gT q ns.length=if q.length=ns.length then(if q.any jI then 2 else 0) else 3:=by
  unfold gT
  rw[if_neg (by simp[h3])]
  by_cases h4:q.length=ns.length
  ·rw[if_pos (by omega),if_pos h4]
  ·rw[if_neg (by omega),if_neg h4]
 unfold gh
 rw[if_pos (by simp[h1,h2]),e]
 by_cases h4:q.length=ns.length
 ·rw[if_pos h4,if_pos h4]
  by_cases h5:q.any jI=true
  ·rw[if_pos h5,if_pos h5,if_neg (by decide)]
  ·rw[if_neg h5,if_neg h5,if_pos rfl]
 ·rw[if_neg h4,if_neg h4,if_neg (by decide)]
theorem uS(d:D):cZ 0 d=d:=by cases d<;>rfl
theorem DI:cZ 5 .nils=.own 5 []:=rfl
theorem DH:cZ 1 .nils=.own 1 []:=rfl
theorem xe{ls:List Lnk}{ss:List Sec}{k:Nat}(hk:k<ls.length)(h:lJ ss ls[k]=true):jz ls ss=9:=by
 unfold jz
 rw[if_pos (x0O.2 ⟨_,x0p hk,h⟩)]
theorem tk{n:Nat}{es:List Edg}(hn:n<=300)(hg:inG n es)(ht:dE n es=true){q:List Sp}(hq:q.length=n)(hqr:∀s∈q,0<=s.1/\s.1<=s.2/\s.2<=1099511627776){k:Nat}(hk:k<es.length):0<=(aE n es q)[k]!.1/\(aE n es q)[k]!.1<=(aE n es q)[k]!.2:=by
 have hl1:∀v,v<n->0<=q[v]!.1/\q[v]!.1<=q[v]!.2/\q[v]!.2<=1099511627776:=fun v hv=>by
  rw[yr (by omega)]
  exact hqr _ (x0p _)
 rw[yX hn hg ht hl1 hk]
 have r1:=lu (n:=n) (es:=es) (g:=fun v=>q[v]!.1) (B:=1099511627776) (by omega) (fun v hv=>by have:=hl1 v hv;omega) es[k].1
 exact⟨r1.1,Ea (fun v hv=>(hl1 v hv).2.1) _⟩
theorem tj{n:Nat}{es:List Edg}{q:List Sp}(hb:pd (aE n es q)=false){k:Nat}(hk:k<es.length):(aE n es q)[k]!.2<=1099511627776:=by
 have hl:k<(aE n es q).length:=by rw[jp];exact hk
 rw[yr hl]
 simp only[pd,x02,x0d]at hb
 have:=hb _ (x0p hl)
 omega
def nO(ls:List Lnk)(ss:List Sec)(fl:List Sp)(j:Nat):Int:=if (List.range j).any (fun k=>decide (iA ls ss fl k=5)) then 5 else 0
theorem Ed{ls:List Lnk}{ss:List Sec}{fl:List Sp}{j:Nat}(h:iA ls ss fl j=5):nO ls ss fl (j+1)=5:=by
 unfold nO
 rw[if_pos]
 rw[x0O]
 exact⟨j,by simp,by simpa using h⟩
theorem Ee{ls:List Lnk}{ss:List Sec}{fl:List Sp}{j:Nat}(h:iA ls ss fl j≠5):nO ls ss fl (j+1)=nO ls ss fl j:=by
 unfold nO
 rw[List.range_succ,List.any_append]
 simp[h]
theorem zB{ls:List Lnk}{ss:List Sec}{fl:List Sp}{j:Nat}(hj:j<ls.length)(h:iA ls ss fl j=16):jd ls ss fl=16:=by
 unfold jd
 rw[if_pos]
 rw[x0O]
 exact⟨j,by simpa using hj,by simpa using h⟩
theorem C7{ls:List Lnk}{ss:List Sec}{fl:List Sp}(h:∀k,k<ls.length->iA ls ss fl k≠16):jd ls ss fl=nO ls ss fl ls.length:=by
 unfold jd nO
 rw[if_neg]
 rw[x0O]
 rintro⟨k,h1,h2⟩
 exact h k (by simpa using h1) (by simpa using h2)
theorem AK(ls:List Lnk)(ss:List Sec)(fl:List Sp)(j:Nat):nO ls ss fl j≠16:=by
 unfold nO
 split<;>decide
theorem tl{ns:List Nod}{es:List Edg}{k:Nat}(hk:k<ns.length)(h1:ns[k].kind≠3)(h2:fE es k=none):nT ns es=true:=by
 unfold nT
 rw[x0O]
 exact⟨k,by simpa using hk,by rw[x0g ns k hk];simp[h1,h2]⟩
theorem y5{ns:List Nod}{es:List Edg}(h:∀k (hk:k<ns.length),ns[k].kind≠3->fE es k≠none):nT ns es=false:=by
 unfold nT
 rw[x02]
 intro k hk
 have hk':k<ns.length:=by simpa using hk
 rw[x0g ns k hk']
 by_cases h1:ns[k].kind=3
 ·simp[h1]
 ·have:=h k hk' h1
  simp[h1,this]
theorem m6{ls:List Lnk}{ss:List Sec}:jz ls ss=0\/jz ls ss=9\/jz ls ss=23:=by
 unfold jz
 split
 ·simp
 ·split<;>simp
variable{C:CC}(hC:al prog C)
include hC
set_option maxHeartbeats 2000000 in
theorem rn(hS:SlC C)(b1 b2 b b':Bool)(ns:List Nod)(ls:List Lnk)(ss:List Sec)(q:List Sp)(o:Sp)(hls:ls.length<2^62)(hss:ss.length<2^62)(hq:q.length<2^62)(hcv:∀l∈ls,l.curve.length<2^62){Q:b6->Env->Prop}
  (hnot:∀e:Int,e=ct ns ls ss q o->gU ns ls ss q o=false->br Q ⟨⟩ .ret [(8,.nilp),(9,.int .i64 e)])
  (hok:gU ns ls ss q o=true->br Q ⟨⟩ .ret [(8,.adr (.r 11200) 0 0),(9,.int .i64 (ct ns ls ss q o)),(11200,.blk 9 [dj b1 b2 ns ls ss (aK ns ls) (aE ns.length (aK ns ls) q) o (List.replicate ns.length [.nilp])])]) :
  wN C N618.body Q ⟨⟩ (params 0 [.agg [slx b1 (ns.map a8),slx b2 (ls.map aJ)],slx b (ss.map bf),slx b' (q.map knD),.agg (knD o)]):=by
 have hbad:∀e:Int,e=ct ns ls ss q o->¬(e=0\/e=5)->br Q ⟨⟩ .ret [(8,.nilp),(9,.int .i64 e)]:=fun e h1 h2=>hnot e h1 (AI h1 h2)
 have k1:=tJ hC hS b1 b2 ns ls hls hcv
 have k2:=mz hC b ss
 have k3:=pN hC o
 have k4:=gL hC (b:=b') (xs:=q) (g:=641) (cs:=[]) (fun s=>!cA s) hq (fun x _=>xM hC x)
 have k5:=gL hC (b:=b') (xs:=q) (g:=642) (cs:=[]) jI hq (fun x _=>AA hC x)
 have bad1:¬(c9 ns ls=true/\bg ss=true/\cA o=true/\q.any (fun s=>!cA s)=false)->br Q ⟨⟩ .ret [(8,.nilp),(9,.int .i64 1)]:=fun h=>hbad 1 (xU h).symm (by decide)
 simp[N618,knD]
 refine aa k1 (.inl rfl) ?_
 by_cases h1:c9 ns ls=true
 case neg =>
  simp[h1]
  exact bad1 (fun h=>h1 h.1)
 simp[h1]
 refine aa k2 (.inl rfl) ?_
 by_cases h2:bg ss=true
 case neg =>
  simp[h2]
  exact bad1 (fun h=>h2 h.2.1)
 simp[h2]
 refine aa (by simpa[knD]using k3) (.inl rfl) ?_
 by_cases h3:cA o=true
 case neg =>
  simp[h3]
  exact bad1 (fun h=>h3 h.2.2.1)
 simp[h3]
 refine aa k4 (.inl rfl) ?_
 by_cases h4:q.any (fun s=>!cA s)=true
 case pos =>
  rw[h4]
  simp
  exact bad1 (fun h=>by rw[h4]at h;exact absurd h.2.2.2 (by decide))
 have h4':q.any (fun s=>!cA s)=false:=by simpa using h4
 rw[h4']
 simp
 clear bad1 k3 k4 k2
 have hg:=xV (ls:=ls) (ss:=ss) h1 h2 h4'
 by_cases h5:q.length=ns.length
 case neg =>
  have h5':¬((q.length:Int)=ns.length):=by omega
  simp[h5,h5']
  refine hbad 3 ?_ (by decide)
  unfold ct
  rw[hg,if_neg h5,if_neg (by simp[h3]),if_pos rfl]
 simp[h5]
 refine aa k5 (.inl rfl) ?_
 rw[if_pos h5]at hg
 have ho2:¬dV o=true->¬(o.1 < -4194304)/\¬(4194304<o.2):=fun h=>by
  simp only[dV,x0H,x0d]at h
  omega
 have bad2:q.any jI=true\/dV o=true->br Q ⟨⟩ .ret [(8,.nilp),(9,.int .i64 2)]:=fun h=>hbad 2 (by
  unfold ct
  rw[hg]
  rcases m6 (ls:=ls) (ss:=ss)with e|e|e<;>rw[e]<;>rcases h with h|h<;>simp[h,h3]<;>(try split)<;>simp) (by decide)
 by_cases h6:q.any jI=true
 case pos =>
  rw[h6]
  simp
  exact bad2 (.inl h6)
 rw[if_neg h6]at hg
 have h6':q.any jI=false:=by simpa using h6
 rw[h6']
 simp
 by_cases h7:dV o=true
 case pos =>
  have h7':=h7
  simp only[dV,x0H,x0d]at h7'
  by_cases h8:o.1 < -4194304
  ·simp[h8]
   exact bad2 (.inr h7)
  ·have h9:4194304<o.2:=by omega
   simp[h8,h9]
   exact bad2 (.inr h7)
 obtain⟨h8,h9⟩:=ho2 h7
 simp[h8,h9]
 clear bad2 ho2 k5
 have htE:ct ns ls ss q o=if jz ls ss≠0 then jz ls ss else if nT ns (aK ns ls) then 24 else if bZ ns.length (aK ns ls) q≠0 then bZ ns.length (aK ns ls) q else jd ls ss (aE ns.length (aK ns ls) q):=by
  unfold ct
  rw[hg]
  rcases m6 (ls:=ls) (ss:=ss)with e|e|e<;>rw[e]<;>simp[h3,h7]
 have hv:b9 ns ls=true:=by
  simp only[c9,x0a]at h1
  exact h1.1.1
 obtain⟨hnl,hll⟩:=dB hv
 have k6:=xj hC (-1) ns.length (by omega)
 refine oi k6 ?_
 simp
 refine⟨by omega,?_⟩
 refine ui (ds:=[slx b1 (ns.map a8),slx b2 (ls.map aJ),.nils,.nils,.ref (.r 11104) 0 ns.length,.nils,.int .i64 o.1,.int .i64 o.2,.ref (.r 11168) 0 ns.length]) (cs:=[slx b1 (ns.map a8),slx b2 (ls.map aJ),.nils,.nils,.own 1 (List.replicate ns.length [.int .i64 (-1)]),.nils,.int .i64 o.1,.int .i64 o.2,.own 1 (List.replicate ns.length [.nilp])]) (bs:=[11104,11168]) (by simp) rfl ?_ (by decide) (by decide) ?_
 ·intro Q hQ
  simp[ik,cT,az]
  rcases fp b1 (ns.map a8)with e1|⟨e1,_⟩<;>rcases fp b2 (ls.map aJ)with e2|⟨e2,_⟩<;>rw[e1,e2]at hQ ⊢<;>simp[ik,cT,az]<;>exact hQ
 simp[dP,uS,DI,DH]
 refine⟨aw (by decide +kernel),?_⟩
 refine aF Nat (fun j=>[(1,slx b (ss.map bf)),(2,slx b' (q.map knD)),(4,.ptr [slx b1 (ns.map a8),slx b2 (ls.map aJ)]),(10,.adr (.r 11200) 0 0),(77,slx b2 (ls.map aJ)),(78,.int .i64 ls.length),(79,.int .i64 j),(11200,.blk 9 [[slx b1 (ns.map a8),slx b2 (ls.map aJ),.nils,.own 5 (iK ss ls j),.own 1 (List.replicate ns.length [.int .i64 (-1)]),.own 1 [],.int .i64 o.1,.int .i64 o.2,.own 1 (List.replicate ns.length [.nilp])]])])
  (fun j=>j<=ls.length/\∀k (hk:k<ls.length),k<j->lJ ss ls[k]=false) (fun j=>ls.length-j) 0 ⟨by omega,fun k _ h=>absurd h (Nat.not_lt_zero _)⟩ (by simp[DT]) ?_
 rintro j ⟨hj,hno⟩
 simp
 refine ae (fun h=>?_) (fun h=>?_)<;>simp at h
 ·have hw:IntKind.wrap .i64 ((j:Int)+1)=((j+1:Nat):Int):=wrap_i64 (by omega) (by omega)
  have k7:=qt hC (b:=b) (xs:=ss) (g:=643) (cs:=[.ptr (aJ ls[j])]) (df ls[j].sect) hss (fun x _=>xz hC ls[j] x)
  simp[h,aJ]
  refine aa (by simpa[aJ]using k7) (.inl rfl) ?_
  simp
  by_cases hi:bk (df ls[j].sect) ss<0
  ·simp[hi]
   have h9:=xe (ss:=ss) h (show lJ ss ls[j]=true by simp[lJ,lY,hi])
   refine hbad 9 ?_ (by decide)
   rw[htE,h9,if_pos (by decide)]
  ·obtain⟨m,hm⟩:∃m:Nat,bk (df ls[j].sect) ss=(m:Int):=⟨(bk (df ls[j].sect) ss).toNat,by omega⟩
   have hml:m<ss.length:=by
    have:=j0 (show 0<=bk (df ls[j].sect) ss by omega)
    omega
   have hsl:c8 ss ls[j]=ss[m]:=by
    unfold c8 lY
    rw[hm]
    simp[hml]
   have hsn:=u5 (ss:=ss) h
   rw[hsl]at hsn
   have hlen:=gz (ss:=ss) (Nat.le_of_lt h)
   have hm0:¬((m:Int)<0):=by omega
   simp[hm,hm0,hml,bf,hlen]
   have htk:List.take j (iK ss ls j)=iK ss ls j:=x0y (by omega)
   refine⟨by omega,fun e he=>?_,aw (by decide +kernel),j+1,⟨by omega,fun k hk hkj=>?_⟩,by omega,hw,?_⟩
   ·rcases he with he|rfl
    ·exact Af ss ls j e (x0E he)
    ·simp
   ·rcases x0D.1 hkj with h8|rfl
    ·exact hno k hk h8
    ·simp[lJ,lY,hm]
   ·rw[htk,hsn]
    rfl
 ·have ej:j=ls.length:=by omega
  subst ej
  have hn9:ls.any (lJ ss)=false:=by
   rw[x02]
   intro l hl
   obtain⟨k,hk,rfl⟩:=x1g hl
   simp[hno k hk hk]
  have k8:=mL hC (b:=b2) (xs:=ls) (g:=644) (cs:=[]) iN hls (fun x _=>vn hC x)
  simp[h]
  refine aa k8 (.inl rfl) ?_
  have hpE:jz ls ss=if ls.any iN then 23 else 0:=by
   unfold jz
   rw[if_neg (by simp[hn9])]
  by_cases hu:ls.any iN=true
  ·rw[hu]
   simp
   refine hbad 23 ?_ (by decide)
   rw[htE,hpE,if_pos hu,if_pos (by decide)]
  have hu':ls.any iN=false:=by simpa using hu
  rw[if_neg hu]at hpE
  rw[hpE,if_neg (by decide)]at htE
  rw[hu']
  have k9:=mr hC b1 b2 ns ls hcv
  rw[hv,if_pos rfl]at k9
  simp
  refine aa k9 (.inr rfl) ?_
  simp
  clear k9 k8 k6 k1
  have hge:=jU hv
  have hel:=ee ns ls
  have htf:dE ns.length (aK ns ls)=true:=by
   simp only[c9,x0a]at h1
   exact h1.2
  have hnd:((aK ns ls).map (·.1)).Nodup:=by
   simp only[dE,x0a,x0d]at htf
   exact htf.1
  have k10:=yk hC hS b1 b2 b' ns ls q hls hq hcv
  have hsp:gT q ns.length=0:=by
   unfold gT
   rw[if_neg (by simp[h4']),if_pos (by omega),if_neg (by simp[h6'])]
  have hFE:mq ns ls q=bZ ns.length (aK ns ls) q:=by
   unfold mq
   rw[if_pos h1,if_pos hsp]
  unfold rB at k10
  rw[hFE]at k10
  have htM:gU ns ls ss q o=(!nT ns (aK ns ls)&&decide (bZ ns.length (aK ns ls) q=0)&&!decide (jd ls ss (aE ns.length (aK ns ls) q)=16)):=by
   have ho:dV o=false:=by simpa using h7
   unfold gU
   rw[hg,hpE,h3,ho]
   simp
  generalize aK ns ls=es at *
  refine aF Nat (fun j=>[(2,slx b' (q.map knD)),(4,.ptr [slx b1 (ns.map a8),slx b2 (ls.map aJ)]),(10,.adr (.r 11200) 0 0),(113,.sl (es.map edK)),(114,.int .i64 es.length),(115,.int .i64 j),(11200,.blk 9 [[slx b1 (ns.map a8),slx b2 (ls.map aJ),.nils,.own 5 (iK ss ls ls.length),.own 1 (frA ns.length es j),.own 1 (toT es j),.int .i64 o.1,.int .i64 o.2,.own 1 (List.replicate ns.length [.nilp])]])])
   (fun j=>j<=es.length) (fun j=>es.length-j) 0 (by simp) (by simp[L0,wz]) ?_
  rintro j hj
  simp
  refine ae (fun g=>?_) (fun g=>?_)<;>simp at g
  ·have hw:IntKind.wrap .i64 ((j:Int)+1)=((j+1:Nat):Int):=wrap_i64 (by omega) (by omega)
   have he:=hge _ (x0p g)
   have hfj:fE (es.take j) es[j].1=none:=(zM g ((((List.take_sublist j es).map _).nodup) hnd)).1 ((((List.take_sublist (j+1) es).map _).nodup) hnd)
   have hset:=yZ (n:=ns.length) g hfj
   have hts:=xT g
   have hgt:=pu es j he.1
   have htl:=tV (Nat.le_of_lt g)
   simp[g,edK,knD,he.1,l8,aG hgt,hgt,hset]
   have hA:(frA ns.length es j)[es[j].1]'(by rw[l8];exact he.1)=[.int .i64 (frI (fE (es.take j) es[j].1))]:=(x0b.1 hgt).2
   have hC1:∀e∈toT es j,∀c∈e,az c=true:=by
    intro e he
    simp only[toT,x0s]at he
    obtain⟨x,_,rfl⟩:=he
    simp[az]
   rw[hA]
   refine⟨by simp,aw (by decide +kernel),by omega,fun e he=>?_,aw (by decide +kernel),j+1,by omega,by omega,hw,?_,hts.symm⟩
   ·rcases he with he|rfl
    ·exact hC1 e he
    ·simp[az]
   ·simpa using hset
  ·have ej:j=es.length:=by omega
   subst ej
   simp[g]
   refine aF Nat (fun j=>[(2,slx b' (q.map knD)),(4,.ptr [slx b1 (ns.map a8),slx b2 (ls.map aJ)]),(10,.adr (.r 11200) 0 0),(141,slx b1 (ns.map a8)),(142,.int .i64 ns.length),(143,.int .i64 j),(11200,.blk 9 [[slx b1 (ns.map a8),slx b2 (ls.map aJ),.nils,.own 5 (iK ss ls ls.length),.own 1 (frA ns.length es es.length),.own 1 (toT es es.length),.int .i64 o.1,.int .i64 o.2,.own 1 (List.replicate ns.length [.nilp])]])])
    (fun j=>j<=ns.length/\∀k (hk:k<ns.length),k<j->ns[k].kind≠3->fE es k≠none) (fun j=>ns.length-j) 0 ⟨by omega,fun k _ h=>absurd h (Nat.not_lt_zero _)⟩ (by simp) ?_
   rintro j ⟨hj2,hgp⟩
   simp
   refine ae (fun g2=>?_) (fun g2=>?_)<;>simp at g2
   ·have hw:IntKind.wrap .i64 ((j:Int)+1)=((j+1:Nat):Int):=wrap_i64 (by omega) (by omega)
    have hgt:=pu es es.length g2
    rw[x1n]at hgt
    simp[g2,a8]
    by_cases c1:ns[j].kind=3
    ·simp[c1]
     refine⟨j+1,⟨by omega,fun k hk hkj h3=>?_⟩,by omega,hw⟩
     rcases x0D.1 hkj with h8|rfl
     ·exact hgp k hk h8 h3
     ·exact absurd c1 h3
    ·simp[c1,l8,g2,aG hgt]
     cases hf:fE es j with
     | none =>
      simp[frI]
      refine hbad 24 ?_ (by decide)
      rw[htE,tl g2 c1 hf]
      simp
     | some x =>
      have hx0:¬((x:Int)<0):=by omega
      simp[frI,hx0]
      refine⟨j+1,⟨by omega,fun k hk hkj h3=>?_⟩,by omega,hw⟩
      rcases x0D.1 hkj with h8|rfl
      ·exact hgp k hk h8 h3
      ·rw[hf];simp
   ·have ej:j=ns.length:=by omega
    subst ej
    have hgap:nT ns es=false:=y5 fun k hk h3=>hgp k hk hk h3
    rw[hgap]at htE
    simp[g2]
    refine aa k10 (.inr (by simp)) ?_
    have hF5:bZ ns.length es q=0\/bZ ns.length es q=5:=by
     unfold bZ;split<;>simp
    by_cases hf0:bZ ns.length es q=0
    case neg =>
     have hf5:bZ ns.length es q=5:=by rcases hF5 with h|h;exact absurd h hf0;exact h
     rw[if_neg hf0,hf5]
     simp
     refine hnot 5 ?_ ?_
     ·rw[htE,hf5];simp
     ·rw[htM,hf5];simp
    have hbig:pd (aE ns.length es q)=false:=by
     unfold bZ at hf0
     split at hf0
     ·cases hf0
     ·rename_i h;simpa using h
    obtain⟨hq1,hq2⟩:=rf hsp
    have hfr:∀k,k<es.length->(0<=(aE ns.length es q)[k]!.1/\(aE ns.length es q)[k]!.1<=(aE ns.length es q)[k]!.2)/\(aE ns.length es q)[k]!.2<=1099511627776:=fun k hk=>⟨tk hnl hge htf h5 hq2 hk,tj hbig hk⟩
    have hfl:=jp ns.length es q
    rw[if_pos hf0,hf0]
    rw[hgap,hf0]at htM
    simp at htM
    rw[if_neg (by decide),if_neg (by simp[hf0])]at htE
    clear hF5 hbig k10
    have hpo:=tD h1 hpE
    rw[htE]at hok hnot
    clear hbad
    generalize aE ns.length es q=fl at *
    simp
    refine aF Nat (fun j=>[(10,.adr (.r 11200) 0 0),(20,.int .i64 (nO ls ss fl j)),(175,slx b2 (ls.map aJ)),(176,.int .i64 ls.length),(177,.int .i64 j),(11200,.blk 9 [[slx b1 (ns.map a8),slx b2 (ls.map aJ),.sl (fl.map knD),.own 5 (iK ss ls ls.length),.own 1 (frA ns.length es es.length),.own 1 (toT es es.length),.int .i64 o.1,.int .i64 o.2,.own 1 (List.replicate ns.length [.nilp])]])])
     (fun j=>j<=ls.length/\∀k,k<j->iA ls ss fl k≠16) (fun j=>ls.length-j) 0 ⟨by omega,fun k h=>absurd h (Nat.not_lt_zero _)⟩ (by simp[nO]) ?_
    rintro j ⟨hj3,h16⟩
    simp
    refine ae (fun g3=>?_) (fun g3=>?_)<;>simp at g3
    ·have hw:IntKind.wrap .i64 ((j:Int)+1)=((j+1:Nat):Int):=wrap_i64 (by omega) (by omega)
     have hP:=hpo _ (x0p g3)
     have hje:j<es.length:=by omega
     have hjf:j<fl.length:=by omega
     obtain⟨⟨f0,f1⟩,f2⟩:=hfr j hje
     have hlK:iA ls ss fl j=(b8 ls[j] (c8 ss ls[j]) fl[j].2).2:=by
      unfold iA
      rw[x0g ls j g3,yr hjf]
     rw[yr hjf]at f0 f1 f2
     have k11:=sx hC ls[j] (c8 ss ls[j]) fl[j].2 (hP.valid h2) hP.len ⟨by omega,f2⟩
     have hsg:=qY (ss:=ss) (j:=ls.length) g3 g3
     rw[<- hlK]at k11
     generalize hr:(b8 ls[j] (c8 ss ls[j]) fl[j].2).1=r at *
     generalize hLe:iA ls ss fl j=e at *
     simp[g3,aJ,gz,bq hsg,aG hsg,hjf,knD,bf]
     refine aa (by simpa[aJ,bf]using k11) (.inr rfl) ?_
     have ext:∀e',e'≠16->iA ls ss fl j=e'->∀k,k<j+1->¬iA ls ss fl k=16:=fun e' h1 h2 k hk=>by
      rcases x0D.1 hk with h8|rfl
      ·exact h16 k h8
      ·rw[h2];exact h1
     by_cases c1:e=16
     ·have h5:=zB g3 (by rw[hLe,c1])
      subst c1
      simp
      refine⟨aw (by decide +kernel),?_⟩
      refine hnot 16 h5.symm ?_
      rw[htM,h5];rfl
     ·by_cases c2:e=5
      ·have hn:=Ed (hLe.trans c2)
       subst c2
       simp
       exact⟨aw (by decide +kernel),j+1,⟨by omega,ext 5 (by decide) hLe⟩,by omega,hn.symm,hw⟩
      ·have hn:=Ee (ls:=ls) (ss:=ss) (fl:=fl) (j:=j) (by rw[hLe];exact c2)
       simp[c1,c2]
       exact⟨aw (by decide +kernel),j+1,⟨by omega,ext e c1 hLe⟩,by omega,hn.symm,hw⟩
    ·have ej:j=ls.length:=by omega
     subst ej
     simp[g3]
     have hw:=C7 h16
     rw[hw]at hok htM
     have ht:gU ns ls ss q o=true:=by
      rw[htM]
      simp[AK]
     exact hok ht
theorem nK(hS:SlC C)(b1 b2 b b':Bool)(ns:List Nod)(ls:List Lnk)(ss:List Sec)(q:List Sp)(o:Sp)(hls:ls.length<2^62)(hss:ss.length<2^62)(hq:q.length<2^62)(hcv:∀l∈ls,l.curve.length<2^62)(hM:gU ns ls ss q o=false) :
  C 618 [.agg [slx b1 (ns.map a8),slx b2 (ls.map aJ)],slx b (ss.map bf),slx b' (q.map knD),.agg (knD o)] (.tup [.nilp,.int .i64 (ct ns ls ss q o)]) []:=by
 refine aj hC (nf:=N618) rfl rfl ?_
 refine rn hC hS b1 b2 b b' ns ls ss q o hls hss hq hcv (fun e he _=>?_) (fun h=>?_)
 ·subst he
  simp[N618]
 ·rw[hM]at h;cases h
theorem oZ(hS:SlC C)(b1 b2 b b':Bool)(ns:List Nod)(ls:List Lnk)(ss:List Sec)(q:List Sp)(o:Sp)(hls:ls.length<2^62)(hss:ss.length<2^62)(hq:q.length<2^62)(hcv:∀l∈ls,l.curve.length<2^62)(hM:gU ns ls ss q o=true) :
  C 618 [.agg [slx b1 (ns.map a8),slx b2 (ls.map aJ)],slx b (ss.map bf),slx b' (q.map knD),.agg (knD o)] (.tup [.blk 9 [dj b1 b2 ns ls ss (aK ns ls) (aE ns.length (aK ns ls) q) o (List.replicate ns.length [.nilp])],.int .i64 (ct ns ls ss q o)]) [.nils]:=by
 refine D3 hC (nf:=N618) rfl rfl rfl ?_
 refine rn hC hS b1 b2 b b' ns ls ss q o hls hss hq hcv (fun e he h=>?_) (fun h=>?_)
 ·rw[hM]at h;cases h
 ·simp[N618]
end Go.Gv

set_option maxRecDepth 4000
namespace Go.Gv
theorem BM{n:Nat}{es:List Edg}(hlen:(aX n es).length=n){v:Nat}(hv:v<n):rkO n es v<n:=by
 have hI:=gO n es n
 have hmem:v∈aX n es:=by
  apply Classical.byContradiction
  intro hn
  have hnd:(v::aX n es).Nodup:=List.nodup_cons.2 ⟨hn,hI.nd⟩
  have hsub:(v::aX n es) ⊆ List.range n:=by
   intro u hu
   rcases x0M.1 hu with rfl|hu
   ·simpa using hv
   ·simpa using hI.lt u hu
  have:=List.Nodup.length_le_of_subset hnd hsub
  simp at this
  omega
 have:=List.idxOf_lt_length_iff.2 hmem
 unfold rkO
 omega
structure TrX (ns:List Nod) (ls:List Lnk) (ss:List Sec) (es:List Edg) (fl:List Sp):Prop where
 trs:TrS ns.length es ls (ls.map (c8 ss)) fl
 lnk:∀l∈ls,ga ss l
 cat:bg ss=true
 kind:∀i (h:i<ns.length),ns[i].kind=3↔fE es i=none
 inv:∀i:Nat,-4194304<=ns[i]!.invert/\ns[i]!.invert<=4194304
 fln:fl.length=ls.length
theorem pM{ls:List Lnk}{ss:List Sec}{k:Nat}(hk:k<ls.length):(ls.map (c8 ss))[k]! = c8 ss ls[k]!:=by
 rw[x0g (ls.map (c8 ss)) k (by simpa using hk),x0g ls k hk,List.getElem_map]
theorem pS{ns:List Nod}{ls:List Lnk}{ss:List Sec}{q:List Sp}{o:Sp}(hM:gU ns ls ss q o=true)(h0:ct ns ls ss q o=0) :
  TrX ns ls ss (aK ns ls) (aE ns.length (aK ns ls) q)/\-4194304<=o.1/\o.1<=o.2/\o.2<=4194304:=by
 have hE:=(xW hM).1
 rw[h0]at hE
 simp only[gU,x0a,x0q,x0d,x0J]at hM
 obtain⟨⟨⟨⟨⟨h1,h2⟩,h3⟩,h4⟩,h5⟩,h6⟩:=hM
 obtain⟨ht,hc,hs,hp⟩:=tm h1
 have hv:b9 ns ls=true:=by simp only[c9,x0a]at ht;exact ht.1.1
 have htf:dE ns.length (aK ns ls)=true:=by simp only[c9,x0a]at ht;exact ht.2
 obtain⟨hnl,hll⟩:=dB hv
 have hg:=jU hv
 have hel:=ee ns ls
 have hpo:=tD ht hp
 obtain⟨hq1,hq2⟩:=rf hs
 have hq1':q.length=ns.length:=by omega
 have hbig:pd (aE ns.length (aK ns ls) q)=false:=by
  unfold bZ at h5
  split at h5
  ·cases h5
  ·rename_i h;simpa using h
 have hnd:((aK ns ls).map (·.1)).Nodup/\(aX ns.length (aK ns ls)).length=ns.length:=by
  simpa only[dE,x0a,x0d]using htf
 have hlos:∀k,k<ls.length->(b8 ls[k]! (c8 ss ls[k]!) (aE ns.length (aK ns ls) q)[k]!.2).2=0:=by
  intro k hk
  have hle:iA ls ss (aE ns.length (aK ns ls) q) k=0\/iA ls ss (aE ns.length (aK ns ls) q) k=5\/iA ls ss (aE ns.length (aK ns ls) q) k=16:=by
   unfold iA b8 fN
   split
   ·simp
   ·split
    ·simp
    ·split<;>simp
  unfold jd at hE
  split at hE
  ·cases hE
  ·rename_i n16
   split at hE
   ·cases hE
   ·rename_i n5
    rw[x01,x02]at n16 n5
    have a:=n16 k (by simpa using hk)
    have b:=n5 k (by simpa using hk)
    simp only[x0d]at a b
    rcases hle with h|h|h
    ·exact h
    ·exact absurd h b
    ·exact absurd h a
 have ho:cA o=true:=h2
 have ho2:-4194304<=o.1/\o.2<=4194304:=by
  simp only[dV,x1G,x0J]at h3
  omega
 have ho1:o.1<=o.2:=by
  simp only[cA,x0a,x0d]at ho
  exact ho.1.1
 refine⟨⟨⟨hg,hnd.2,hnd.1,hel,hnl,⟨fun k hk=>?_,fun k hk=>?_,fun k hk=>?_,fun k hk=>?_,fun k hk=>?_,fun k hk=>?_⟩,fun k hk=>?_⟩,hpo,hc,fun i hi=>?_,fun i=>?_,by rw[jp,hel]⟩,ho2.1,ho1,ho2.2⟩
 ·rw[pM hk,x0g ls k hk]
  exact(hpo _ (x0p hk)).valid hc
 ·rw[x0g ls k hk]
  exact(hpo _ (x0p hk)).len
 ·rw[x0g ls k hk]
  exact(hpo _ (x0p hk)).le
 ·rw[x0g ls k hk]
  exact(hpo _ (x0p hk)).up
 ·exact tj hbig (by omega)
 ·rw[pM hk]
  exact hlos k hk
 ·exact tk hnl hg htf hq1' hq2 (by omega)
 ·constructor
  ·intro h
   rw[tf]
   intro hm
   obtain⟨e,he,hee⟩:=x0s.1 hm
   obtain⟨k,hk,rfl⟩:=x1g he
   have hk':k<ls.length:=by omega
   have hl:fy ns ls k=true:=by
    simp only[b9,x0a,x0f]at hv
    exact hv.2 k (by simpa using hk')
   simp only[fy,jq,x0a,x0d,x0q,x0J]at hl
   have h8:=hl.1.2.2
   rw[x0g ls k hk']at h8
   have e1:(bk (bi ls[k].src) ns).toNat=i:=by
    rw[<- hee]
    simp[aK]
   rw[e1,x0g ns i hi]at h8
   exact h8 h
  ·intro h
   apply Classical.byContradiction
   intro h9
   rw[tl hi h9 h]at h4
   cases h4
 ·by_cases hi:i<ns.length
  ·rw[x0g ns i hi]
   have:=(gm hv hi).1
   simp only[gn,bP,x0a,x0d]at this
   omega
  ·rw[getElem!_neg ns i hi]
   decide
def mD(sp:Nat->Sp)(n:Nat)(dn:List (List D)):Prop:=dn.length=n/\∀j,j<n->dn[j]? = some [.nilp]\/dn[j]? = some [.ptr [.int .i64 (sp j).1,.int .i64 (sp j).2]]
theorem rN(sp:Nat->Sp)(n:Nat):mD sp n (List.replicate n [.nilp]):=⟨by simp,fun j hj=>.inl (by simp[hj])⟩
theorem qh{sp:Nat->Sp}{n:Nat}{dn:List (List D)}(h:mD sp n dn){i:Nat}(hi:i<n):mD sp n (dn.set i [.ptr [.int .i64 (sp i).1,.int .i64 (sp i).2]]):=by
 refine⟨by simp[h.1],fun j hj=>?_⟩
 by_cases e:i=j
 ·subst e
  right
  rw[List.getElem?_set_self (by rw[h.1];exact hj)]
 ·rw[List.getElem?_set_ne e]
  exact h.2 j hj
def lvX(ns:List Nod)(ls:List Lnk)(ss:List Sec)(es:List Edg)(fl:List Sp)(o:Sp)(i:Nat):Sp:=ia ns.length es ns ls (ls.map (c8 ss)) fl o i
variable{C:CC}(hC:al prog C)
include hC
set_option maxHeartbeats 2000000 in
theorem mT(b1 b2:Bool){ns:List Nod}{ls:List Lnk}{ss:List Sec}{es:List Edg}{fl:List Sp}{o:Sp}(T:TrX ns ls ss es fl)(ho:-4194304<=o.1/\o.1<=o.2/\o.2<=4194304):∀(r i:Nat),i<ns.length->ns.length<=r+rkO ns.length es i->∀dn,mD (lvX ns ls ss es fl o) ns.length dn ->
  ∃dn',mD (lvX ns ls ss es fl o) ns.length dn'/\C 619 [.blk 9 [dj b1 b2 ns ls ss es fl o dn],.int .i64 i] (.tup [.agg [.int .i64 (lvX ns ls ss es fl o i).1,.int .i64 (lvX ns ls ss es fl o i).2],.int .i64 0]) [.blk 9 [dj b1 b2 ns ls ss es fl o dn']]
 | 0,i,hi,hr,dn,hd=>by
  have:=BM T.trs.full hi
  omega
 | r+1,i,hi,hr,dn,hd=>by
  obtain⟨sp,hsp⟩:∃sp,sp=lvX ns ls ss es fl o:=⟨_,rfl⟩
  rw[<- hsp]at hd ⊢
  have hdl:=hd.1
  rcases hd.2 i hi with hdi|hdi
  case inr =>
   refine⟨dn,hd,?_⟩
   have hA:dn[i]'(by omega)=[.ptr [.int .i64 (sp i).1,.int .i64 (sp i).2]]:=(x0b.1 hdi).2
   refine sP hC (nf:=N619) rfl rfl ?_
   simp[N619,dj,hdl,hi,aG hdi]
  have hA:dn[i]'(by omega)=[.nilp]:=(x0b.1 hdi).2
  cases hf:fE es i with
  | none =>
   have hk:=(T.kind i hi).2 hf
   refine⟨_,qh hd hi,?_⟩
   have hs:sp i=(mxI ns[i].invert o.1,mxI ns[i].invert o.2):=by
    rw[hsp]
    unfold lvX
    rw[uO (show lc es i=none from hf)]
    unfold rF
    rw[x0g ns i hi]
   refine sP hC (nf:=N619) rfl rfl ?_
   simp[N619,dj,hdl,hi,aG hdi,a8,hk]
   refine⟨aw (by decide +kernel),?_⟩
   refine tQ (s:=6) (c:=10096) (sz:=2) (row:=[.int .i64 (sp i).1,.int .i64 (sp i).2]) (b:=10015) (i1:=0) (o1:=8) (i:=i) (off:=0) (sz0:=9) (sz1:=1) (es0:=[dj b1 b2 ns ls ss es fl o dn]) (row0:=dj b1 b2 ns ls ss es fl o dn) (es:=dn) (r:=[.nilp]) (by decide) (by simp) (by simp[hs,mxI]) (by simp[az]) (by simp) (by decide) (by simp[dj]) rfl rfl hdi (by simp) ?_
   simp[dj,hA,hdl,hi]
  | some k =>
   obtain⟨hk,hek⟩:=gq (show lc es i=some k from hf)
   have hkl:k<ls.length:=by have:=T.trs.cnt;omega
   have hfl:=T.fln
   have hkf:k<fl.length:=by omega
   have hnk:¬ns[i].kind=3:=fun h=>by rw[(T.kind i hi).1 h]at hf;cases hf
   obtain⟨w,hw,r1,r2,e1,e2,hS⟩:=uP (ns:=ns) (o:=o) T.trs T.inv ⟨ho.2.1,ho.2.2⟩ (BM T.trs.full hi) (show lc es i=some k from hf)
   rw[x0g es k hk]at hw
   have hwn:w<ns.length:=by rw[hw];exact(T.trs.ing _ (x0p hk)).2
   obtain⟨b1',b2',b3'⟩:=pD (ns:=ns) (o:=o) T.trs T.inv ⟨ho.2.1,ho.2.2⟩ w
   have hP:=T.lnk _ (x0p hkl)
   obtain⟨f0,f1⟩:=T.trs.low k hkl
   have f2:=T.trs.tro.flow k hkl
   rw[pM hkl,x0g ls k hkl,x0g fl k hkf]at hS e1 e2
   rw[x0g fl k hkf]at f0 f1 f2
   have hsm:=T.trs.small
   obtain⟨dn1,hd1,kc⟩:=mT b1 b2 T ho r w hwn (by omega) dn (by rw[<- hsp];exact hd)
   have hS2:lvX ns ls ss es fl o i=((bH ls[k] (c8 ss ls[k]) fl[k].1 (lvX ns ls ss es fl o w).1).1,(bH ls[k] (c8 ss ls[k]) fl[k].2 (lvX ns ls ss es fl o w).2).1):=hS
   change lg ns.length (lvX ns ls ss es fl o w).1 at b1'
   change lg ns.length (lvX ns ls ss es fl o w).2 at b2'
   change (bH ls[k] (c8 ss ls[k]) fl[k].1 (lvX ns ls ss es fl o w).1).2=0 at e1
   change (bH ls[k] (c8 ss ls[k]) fl[k].2 (lvX ns ls ss es fl o w).2).2=0 at e2
   rw[<- hsp]at kc hS2 b1' b2' e1 e2 hd1
   have hb1:-4194304<=(sp w).1/\(sp w).1<=1099511627776:=⟨b1'.1,by have:=b1'.2;omega⟩
   have hb2:-4194304<=(sp w).2/\(sp w).2<=1099511627776:=⟨b2'.1,by have:=b2'.2;omega⟩
   have hu:bP ls[k].up=true:=by
    have:=hP.up
    simp only[bP,x0a,x0d]
    exact this
   have hdw:bP ls[k].down=true:=by
    have:=hP.down
    simp only[bP,x0a,x0d]
    exact this
   have ka:=o9 hC ls[k] (c8 ss ls[k]) fl[k].1 (sp w).1 (hP.valid T.cat) hP.len hu hdw ⟨f0,by omega⟩ hb1
   have kb:=o9 hC ls[k] (c8 ss ls[k]) fl[k].2 (sp w).2 (hP.valid T.cat) hP.len hu hdw ⟨by omega,f2⟩ hb2
   rw[e1]at ka
   rw[e2]at kb
   have s1:(sp i).1=(bH ls[k] (c8 ss ls[k]) fl[k].1 (sp w).1).1:=by rw[hS2]
   have s2:(sp i).2=(bH ls[k] (c8 ss ls[k]) fl[k].2 (sp w).2).1:=by rw[hS2]
   rw[<- s1]at ka
   rw[<- s2]at kb
   refine⟨_,qh hd1 hi,?_⟩
   have hdl1:=hd1.1
   have hgt:=pu es es.length hi
   rw[x1n,hf]at hgt
   have hto:=AG (es:=es) (j:=es.length) hk hk
   rw[<- hw]at hto
   have hsg:=qY (ss:=ss) (j:=ls.length) hkl hkl
   clear hS hS2 e1 e2 s1 s2 b1' b2' b3'
   refine sP hC (nf:=N619) rfl rfl ?_
   simp[N619,dj,hdl,hi,aG hdi,a8,hnk,l8,aG hgt,frI,hk,tV,aG hto]
   refine pB (by simpa[dj]using kc) (by simp) ?_
   simp[hkf,knD]
   refine⟨aw (by decide +kernel),?_⟩
   refine aF Nat (fun j=>[(0,.adr (.r 10015) 0 0),(1,.int .i64 i),(4,.adr (.r 10064) 0 0),(6,.adr (.r 10096) 0 0),(8,.int .i64 k),(105,.rfx 2 3 [.int .i64 fl[k].1,.int .i64 (sp w).1,.adr (.r 10096) 0 0,.int .i64 fl[k].2,.int .i64 (sp w).2,.adr (.r 10096) 0 1]),(106,.int .i64 2),(107,.int .i64 j),
     (10015,.blk 9 [dj b1 b2 ns ls ss es fl o dn1]),(10064,.blk 2 [[.int .i64 0,.int .i64 0]]),(10096,.blk 2 [[.int .i64 (if 0<j then(sp i).1 else 0),.int .i64 (if 1<j then(sp i).2 else 0)]])]) (fun j=>j<=2) (fun j=>2-j) 0 (by simp) (by simp[dj]) ?_
   intro j hj
   simp
   refine ae (fun g=>?_) (fun g=>?_)<;>simp at g
   ·rcases(show j=0\/j=1 by omega)with rfl|rfl
    ·simp[dj,hkl,aJ,gz,aG hsg]
     refine kr (s:=12) (c:=10192) (sz:=3) (row:=[.int .i64 0,.int .i64 0,.nilp]) (ds:=[.int .i64 fl[k].1,.int .i64 (sp w).1,.adr (.r 10096) 0 0]) (by decide) (by simp) (by simp) rfl (by simp[gw]) rfl (by simp[qv]) ?_
     simp[dj,hkl,aJ,bf,gz,aG hsg]
     refine aa (by simpa[aJ,bf]using ka) (.inr rfl) ?_
     simp
     exact⟨aw (by decide +kernel),1,by omega,by omega,rfl,by simp⟩
    ·simp[dj,hkl,aJ,gz,aG hsg]
     refine kr (s:=12) (c:=10192) (sz:=3) (row:=[.int .i64 0,.int .i64 0,.nilp]) (ds:=[.int .i64 fl[k].2,.int .i64 (sp w).2,.adr (.r 10096) 0 1]) (by decide) (by simp) (by simp) rfl (by simp[gw]) rfl (by simp[qv]) ?_
     simp[dj,hkl,aJ,bf,gz,aG hsg]
     refine aa (by simpa[aJ,bf]using kb) (.inr rfl) ?_
     simp
     exact⟨aw (by decide +kernel),2,by omega,by omega,rfl,by simp⟩
   ·have ej:j=2:=by omega
    subst ej
    obtain⟨r',hr',hrl⟩:∃r',dn1[i]? = some r'/\r'.length=1:=by
     rcases hd1.2 i hi with h|h
     ·exact⟨_,h,rfl⟩
     ·exact⟨_,h,rfl⟩
    have hA1:dn1[i]'(by omega)=r':=(x0b.1 hr').2
    simp[dj,hdl1,hi]
    refine tQ (s:=6) (c:=10096) (sz:=2) (row:=[.int .i64 (sp i).1,.int .i64 (sp i).2]) (b:=10015) (i1:=0) (o1:=8) (i:=i) (off:=0) (sz0:=9) (sz1:=1) (es0:=[dj b1 b2 ns ls ss es fl o dn1]) (row0:=dj b1 b2 ns ls ss es fl o dn1) (es:=dn1) (r:=r') (by decide) (by simp) (by simp) (by simp[az]) (by simp) (by decide) (by simp[dj]) rfl rfl hr' (by omega) ?_
    have hsg1:aV dn1 i 0 1 [.ptr [.int .i64 (sp i).1,.int .i64 (sp i).2]]=dn1.set i [.ptr [.int .i64 (sp i).1,.int .i64 (sp i).2]]:=by
     unfold aV
     rw[hr']
     obtain⟨x,rfl⟩:∃x,r'=[x]:=List.length_eq_one_iff.1 hrl
     rfl
    rw[hsg1]
    simp[dj]
end Go.Gv

set_option maxRecDepth 4000
namespace Go.Gv
theorem pR{ns:List Nod}{ls:List Lnk}{ss:List Sec}{q:List Sp}{o:Sp}(h:ct ns ls ss q o=0):gU ns ls ss q o=true:=by
 unfold ct at h
 split at h
 ·cases h
 rename_i h1
 split at h
 ·cases h
 split at h
 ·cases h
 rename_i h2
 split at h
 ·rename_i h3;exact absurd h h3
 rename_i h3
 split at h
 ·cases h
 rename_i h4
 split at h
 ·rename_i h5;exact absurd h h5
 rename_i h5
 have h3':gh ns ls ss q ns.length=0:=Classical.byContradiction h3
 have h5':bZ ns.length (aK ns ls) q=0:=Classical.byContradiction h5
 have h6:cA o=true:=by
  apply Classical.byContradiction
  intro h7
  exact h1 (.inr (by simpa using h7))
 have h7:dV o=false:=by
  rw[<- x01]
  intro h8
  exact h2 (.inr h8)
 have h8:nT ns (aK ns ls)=false:=by simpa using h4
 unfold gU
 rw[h3',h5',h6,h7,h8,h]
 rfl
def lvT(sp:Nat->Sp)(j:Nat):List Sp:=(List.range j).map sp
theorem Bk(sp:Nat->Sp):lvT sp 0=[]:=rfl
theorem qF(sp:Nat->Sp)(j:Nat):lvT sp (j+1)=lvT sp j++[sp j]:=by simp[lvT,List.range_succ]
theorem cm(sp:Nat->Sp)(j:Nat):(lvT sp j).length=j:=by simp[lvT]
theorem tv(sp:Nat->Sp){i j:Nat}(h:i<j):(lvT sp j)[i]? = some (sp i):=by simp[lvT,h]
theorem kT(sp:Nat->Sp){i j:Nat}(h:i<(lvT sp j).length):(lvT sp j)[i]=sp i:=by simp[lvT]
theorem Bl(sp:Nat->Sp)(n:Nat):List.map knD (lvT sp n)=List.take n (List.map ((fun e=>List.map aU e)∘knD) (lvT sp n)):=by
 rw[x0y (by simp[cm])]
 apply x0m
 intro x _
 simp[knD,aU]
theorem fq(l:List (List UInt8)):eJ l=List.take l.length (eJ l):=by rw[x0y (by rw[gE];exact x0r _)]
def fF(ns:List Nod)(ls:List Lnk)(ss:List Sec)(q:List Sp)(o:Sp):Nat->Sp:=lvX ns ls ss (aK ns ls) (aE ns.length (aK ns ls) q) o
def tZ(ns:List Nod)(ls:List Lnk)(ss:List Sec)(q:List Sp)(o:Sp):D:=if ct ns ls ss q o=0 then .sl ((lvT (fF ns ls ss q o) ns.length).map knD) else .nils
def sQ(ns:List Nod)(sp:Nat->Sp)(hi:Bool)(i:Nat):Bool:=!decide (ns[i]!.kind=3)&&decide (ns[i]!.ground<(if hi then(sp i).2 else(sp i).1))
def jg(ns:List Nod)(sp:Nat->Sp)(hi:Bool)(j:Nat):List (List UInt8):=((List.range j).filter (sQ ns sp hi)).map fun i=>ns[i]!.name
theorem D6(ns:List Nod)(sp:Nat->Sp)(hi:Bool):jg ns sp hi 0=[]:=rfl
theorem oX(ns:List Nod)(sp:Nat->Sp)(hi:Bool)(j:Nat):jg ns sp hi (j+1)=jg ns sp hi j++(if sQ ns sp hi j then [ns[j]!.name] else []):=by
 unfold jg
 rw[List.range_succ,List.filter_append,x1p]
 congr 1
 by_cases h:sQ ns sp hi j=true<;>simp[h]
theorem nJ(ns:List Nod)(sp:Nat->Sp)(hi:Bool)(j:Nat):(jg ns sp hi j).length<=j:=by
 unfold jg
 rw[x08]
 exact x1h (x05 _ _) (by simp)
variable{C:CC}(hC:al prog C)
include hC
set_option maxHeartbeats 2000000 in
theorem vx(hS:SlC C)(b1 b2 b b':Bool)(ns:List Nod)(ls:List Lnk)(ss:List Sec)(q:List Sp)(o:Sp)(hls:ls.length<2^62)(hss:ss.length<2^62)(hq:q.length<2^62)(hcv:∀l∈ls,l.curve.length<2^62){Q:b6->Env->Prop}
  (hbad:¬ct ns ls ss q o=0->br Q ⟨⟩ .ret [(8,.nils),(9,.int .i64 (ct ns ls ss q o))])
  (hok:ct ns ls ss q o=0->br Q ⟨⟩ .ret [(8,.ref (.r 10128) 0 ns.length),(9,.int .i64 0),(10128,.blk 2 ((lvT (fF ns ls ss q o) ns.length).map knD))]) :
  wN C N573.body Q ⟨⟩ (params 0 [.agg [slx b1 (ns.map a8),slx b2 (ls.map aJ)],slx b (ss.map bf),slx b' (q.map knD),.agg (knD o)]):=by
 simp[N573,knD]
 by_cases hM:gU ns ls ss q o=true
 case neg =>
  have hM':gU ns ls ss q o=false:=by simpa using hM
  have hne:¬ct ns ls ss q o=0:=fun h=>hM (pR h)
  refine og (by simpa[knD]using nK hC hS b1 b2 b b' ns ls ss q o hls hss hq hcv hM') ?_
  simp[hne]
  exact hbad hne
 refine oh (by simpa[knD]using oZ hC hS b1 b2 b b' ns ls ss q o hls hss hq hcv hM) rfl ?_
 by_cases h0:ct ns ls ss q o=0
 case neg =>
  simp[h0]
  exact hbad h0
 obtain⟨T,ho⟩:=pS hM h0
 have hok':=hok h0
 unfold fF at hok'
 clear hok hbad
 rw[h0]
 have hnl:=T.trs.small
 generalize aK ns ls=es at *
 generalize aE ns.length es q=fl at *
 simp
 refine aF (Nat×List (List D)) (fun s=>[(10,.adr (.r 10337) 0 0),(12,.ref (.r 10192) 0 s.1),(29,.int .i64 ns.length),(30,.int .i64 s.1),(10192,.blk 2 ((lvT (lvX ns ls ss es fl o) s.1).map knD)),(10337,.blk 9 [dj b1 b2 ns ls ss es fl o s.2])])
  (fun s=>s.1<=ns.length/\mD (lvX ns ls ss es fl o) ns.length s.2) (fun s=>ns.length-s.1) (0,List.replicate ns.length [.nilp]) ⟨by omega,rN _ _⟩ (by simp[Bk]) ?_
 rintro⟨j,dn⟩ ⟨hj,hd⟩
 simp at hj hd
 simp
 refine ae (fun h=>?_) (fun h=>?_)<;>simp at h
 ·have hw:IntKind.wrap .i64 ((j:Int)+1)=((j+1:Nat):Int):=wrap_i64 (by omega) (by omega)
  obtain⟨dn',hd',kc⟩:=mT hC b1 b2 T ho ns.length j h (by omega) dn hd
  have hsu:=qF (lvX ns ls ss es fl o) j
  have hln:=cm (lvX ns ls ss es fl o) j
  simp[h]
  refine pB kc (by simp) ?_
  generalize lvX ns ls ss es fl o=sp at *
  simp[hln]
  refine⟨by omega,j+1,dn',⟨by omega,hd'⟩,by omega,rfl,hw,?_,rfl⟩
  rw[x0y (by simp[cm]),hsu,x1p]
  rfl
 ·have ej:j=ns.length:=by omega
  subst ej
  simp[h]
  exact hok'
theorem pZ(hS:SlC C)(b1 b2 b b':Bool)(ns:List Nod)(ls:List Lnk)(ss:List Sec)(q:List Sp)(o:Sp)(hls:ls.length<2^62)(hss:ss.length<2^62)(hq:q.length<2^62)(hcv:∀l∈ls,l.curve.length<2^62) :
  C 573 [.agg [slx b1 (ns.map a8),slx b2 (ls.map aJ)],slx b (ss.map bf),slx b' (q.map knD),.agg (knD o)] (.tup [tZ ns ls ss q o,.int .i64 (ct ns ls ss q o)]) []:=by
 refine aj hC (nf:=N573) rfl rfl ?_
 refine vx hC hS b1 b2 b b' ns ls ss q o hls hss hq hcv (fun h=>?_) (fun h=>?_)
 ·unfold tZ
  rw[if_neg h]
  simp[N573]
 ·unfold tZ
  rw[if_pos h,h]
  simp[N573,cm]
  exact Bl _ _
set_option maxHeartbeats 2000000 in
theorem o7(hS:SlC C)(b1 b2 b b':Bool)(ns:List Nod)(ls:List Lnk)(ss:List Sec)(q:List Sp)(o:Sp)(hls:ls.length<2^62)(hss:ss.length<2^62)(hq:q.length<2^62)(hcv:∀l∈ls,l.curve.length<2^62) :
  C 574 [.agg [slx b1 (ns.map a8),slx b2 (ls.map aJ)],slx b (ss.map bf),slx b' (q.map knD),.agg (knD o)] (.tup (if ct ns ls ss q o=0 then [.sl (eJ (jg ns (fF ns ls ss q o) false ns.length)),.sl (eJ (jg ns (fF ns ls ss q o) true ns.length)),.int .i64 0] else [.nils,.nils,.int .i64 (ct ns ls ss q o)])) []:=by
 have k1:=pZ hC hS b1 b2 b b' ns ls ss q o hls hss hq hcv
 refine aj hC (nf:=N574) rfl rfl ?_
 simp[N574,knD]
 refine aa (by simpa[knD]using k1) (.inr (by simp)) ?_
 by_cases h0:ct ns ls ss q o=0
 case neg =>
  unfold tZ
  rw[if_neg h0,if_neg h0]
  simp[h0]
 have hnl:=(pS (pR h0) h0).1.trs.small
 unfold tZ
 rw[if_pos h0,if_pos h0,h0]
 generalize fF ns ls ss q o=sp at *
 simp
 refine aF Nat (fun j=>[(11,.sl ((lvT sp ns.length).map knD)),(13,.ref (.r 10208) 0 (jg ns sp false j).length),(14,.ref (.r 10224) 0 (jg ns sp true j).length),(29,slx b1 (ns.map a8)),(30,.int .i64 ns.length),(31,.int .i64 j),(10208,.blk 1 (eJ (jg ns sp false j))),(10224,.blk 1 (eJ (jg ns sp true j)))]) (fun j=>j<=ns.length) (fun j=>ns.length-j) 0 (by simp) (by simp[D6,eJ]) ?_
 intro j hj
 simp
 refine ae (fun h=>?_) (fun h=>?_)<;>simp at h
 ·have hw:IntKind.wrap .i64 ((j:Int)+1)=((j+1:Nat):Int):=wrap_i64 (by omega) (by omega)
  have e1:=oX ns sp false j
  have e2:=oX ns sp true j
  have l1:=nJ ns sp false j
  have l2:=nJ ns sp true j
  unfold sQ at e1 e2
  rw[x0g ns j h]at e1 e2
  simp[h,a8]
  by_cases c:ns[j].kind=3
  ·simp[c]at e1 e2
   simp[c]
   exact⟨j+1,by omega,by omega,by rw[e1],by rw[e2],hw,by rw[e1],by rw[e2]⟩
  ·simp[c]at e1 e2
   simp[c,cm,h,kT,knD]
   refine⟨aw (by decide +kernel),?_⟩
   by_cases g1:ns[j].ground<(sp j).1
   ·rw[if_pos g1]at e1
    by_cases g2:ns[j].ground<(sp j).2
    ·rw[if_pos g2]at e2
     simp[g1,g2,cm,h,kT,knD,gE]
     exact⟨by omega,aw (by decide +kernel),by omega,j+1,by omega,by omega,by simp[e1],by simp[e2],hw,by rw[e1,<- fq,kw],by rw[e2,<- fq,kw]⟩
    ·rw[if_neg g2,x1v]at e2
     simp[g1,g2,cm,h,kT,knD,gE]
     exact⟨by omega,aw (by decide +kernel),j+1,by omega,by omega,by simp[e1],by simp[e2],hw,by rw[e1,<- fq,kw],by rw[e2]⟩
   ·rw[if_neg g1,x1v]at e1
    by_cases g2:ns[j].ground<(sp j).2
    ·rw[if_pos g2]at e2
     simp[g1,g2,cm,h,kT,knD,gE]
     exact⟨aw (by decide +kernel),by omega,j+1,by omega,by omega,by simp[e1],by simp[e2],hw,by rw[e1],by rw[e2,<- fq,kw]⟩
    ·rw[if_neg g2,x1v]at e2
     simp[g1,g2,cm,h,kT,knD,gE]
     exact⟨aw (by decide +kernel),j+1,by omega,by omega,by simp[e1],by simp[e2],hw,by rw[e1],by rw[e2]⟩
 ·have ej:j=ns.length:=by omega
  subst ej
  simp[h,gE,D5]
  exact⟨fq _,fq _⟩
end Go.Gv

namespace Go.Gv
section
variable{C:CC}{hs:Option (List Nat)}{K:Env->Prop}{ns:List ao}{dst:Option Nat}{e:Env}{R:List Nat}{acc:List (List Nat×List Nat)}{u:Tag (hs,K,ns)}
@[simp] theorem Hj:nV none=[]:=zR
@[simp] theorem Hk{x:Opd}:nV (some x)=[x]:=zR
@[simp] theorem LK{c c' k n:Nat}{q:Pa}:u1 c q (.ref (.r c') k n)=if c'=c then .ref q k n else .ref (.r c') k n:=zR
@[simp] theorem Hn{c b i o k n:Nat}{q:Pa}:u1 c q (.ref (.n b i o) k n)=.ref (.n b i o) k n:=zR
@[simp] theorem Qk{c:Nat}{q:Pa}{es}:u1 c q (.sl es)=.sl es:=zR
@[simp] theorem Hm{c:Nat}{q:Pa}:u1 c q .nils=.nils:=zR
@[simp] theorem LJ{c:Nat}{q:Pa}{k n}:u1 c q (.int k n)=.int k n:=zR
@[simp] theorem LL{c:Nat}{q:Pa}{b es}:u1 c q (slx b es)=slx b es:=by cases b<;>cases es<;>rfl
@[simp] theorem CU{b c i o k n:Nat}:oz b (.ref (.n c i o) k n)=(c != b||(i==0&&o==1)):=zR
@[simp] theorem CV{b c k n:Nat}:oz b (.ref (.r c) k n)=true:=zR
@[simp] theorem KC{b:Nat}{es}:oz b (.sl es)=true:=zR
@[simp] theorem CT{b:Nat}:oz b .nils=true:=zR
@[simp] theorem Gl{b:Nat}{k n}:oz b (.int k n)=true:=zR
@[simp] theorem Gm{b:Nat}{x es}:oz b (slx x es)=true:=by cases x<;>cases es<;>rfl
def C6(C:CC)(g:Nat)(hs:Option (List Nat))(K:Env->Prop)(ns:List ao)(dst:Option Nat)(_:Tag (hs,K,ns))(e:Env)(R:List Nat)(acc:List (List Nat×List Nat))(b sz:Nat)(es:List (List D))(W:List D):Prop :=
 ∃d,∃es':List (List D),0<es'.length/\C g (.blk sz es::W) d [.blk sz es',.nilp]/\doW C hs K ns ⟨⟩ e R acc (fc dst d++[(b,.blk sz es')]) [(b,false)]
theorem tr{g b sz:Nat}{es es':List (List D)}{W:List D}{d:D}(h:C g (.blk sz es::W) d [.blk sz es',.nilp])(hp:0<es'.length)
  (hk:doW C hs K ns ⟨⟩ e R acc (fc dst d++[(b,.blk sz es')]) [(b,false)]):C6 C g hs K ns dst u e R acc b sz es W:=⟨d,es',hp,h,hk⟩
def De(C:CC)(g:Nat)(hs:Option (List Nat))(K:Env->Prop)(ns:List ao)(dst:Option Nat)(_:Tag (hs,K,ns))(e:Env)(R:List Nat)(acc:List (List Nat×List Nat))(xs:List Opd)(d:D):Prop:=match d with
 | .ptx ds=>∃cs,jO (xs.map (vd (ac e)))=some cs/\dW C hs K ns dst ⟨⟩ e R acc (.fny g ds cs)
 | _=>False
@[simp] theorem KX{g xs ds}:De C g hs K ns dst u e R acc xs (.ptx ds)=∃cs,jO (xs.map (vd (ac e)))=some cs/\dW C hs K ns dst ⟨⟩ e R acc (.fny g ds cs):=zR
@[simp] theorem Qc{g x xs v1}:opW C hs K ns dst (.mkY g x xs) v1 e R acc=De C g hs K ns dst ⟨⟩ e R acc xs (vd (ac e) x):=by
 show res (ac e) _ (.mkY g x xs)=_
 simp only[res,De]
 cases vd (ac e) x<;>rfl
def Ic(C:CC)(g:Nat)(hs:Option (List Nat))(K:Env->Prop)(ns:List ao)(dst:Option Nat)(_:Tag (hs,K,ns))(e:Env)(R:List Nat)(acc:List (List Nat×List Nat))(xs:List Opd)(d:D):Prop:=match d with
 | .fny g' [.adr (.r b) i off] cs=>g'=g/\i=0/\off=0/\cs.all isV=true/\cX (ac e b) (fun sz es=>0<es.length/\(∀x∈xs,isV (vd (ac e) x)=true)/\C6 C g hs K ns dst ⟨⟩ e R acc b sz es (xs.map (vd (ac e))++.ptx [.adr (.r 10015) 0 0]::cs)) ⟨⟩
 | _=>False
@[simp] theorem Qz{g g' xs b i off cs}:Ic C g hs K ns dst u e R acc xs (.fny g' [.adr (.r b) i off] cs)=(g'=g/\i=0/\off=0/\cs.all isV=true/\cX (ac e b) (fun sz es=>0<es.length/\(∀x∈xs,isV (vd (ac e) x)=true)/\C6 C g hs K ns dst ⟨⟩ e R acc b sz es (xs.map (vd (ac e))++.ptx [.adr (.r 10015) 0 0]::cs)) ⟨⟩):=zR
@[simp] theorem Hc{g x xs v1}:opW C hs K ns dst (.callY g x xs) v1 e R acc=Ic C g hs K ns dst ⟨⟩ e R acc xs (vd (ac e) x):=by
 unfold opW
 simp only[aC]
 rcases vd (ac e) x with _|_<;>first|rfl|skip
end
end Go.Gv

set_option maxRecDepth 4000
namespace Go.Gv
variable{C:CC}(hC:al prog C)
include hC
set_option maxHeartbeats 2000000 in
theorem IL(b1 b2:Bool){ns:List Nod}{ls:List Lnk}{ss:List Sec}{es:List Edg}{fl:List Sp}{o:Sp}(T:TrX ns ls ss es fl)(i:Nat)(hi:i<ns.length)(h:Int)(hh:-4194304<=h/\h<=4194304)(dn:List (List D))(hd:mD (lvX ns ls ss es fl o) ns.length dn) :
  ∃dn',mD (lvX ns ls ss es fl (h,h)) ns.length dn'/\C 626 [.blk 9 [dj b1 b2 ns ls ss es fl o dn],.int .i64 h,.ptx [.adr (.r 10015) 0 0],.ptr [.int .i64 i],.ptr [slx b1 (ns.map a8),slx b2 (ls.map aJ)]] (.bool (decide ((lvX ns ls ss es fl (h,h) i).2<=ns[i]!.ground))) [.blk 9 [dj b1 b2 ns ls ss es fl (h,h) dn'],.nilp]:=by
 obtain⟨dn',hd',kc⟩:=mT hC b1 b2 T (o:=(h,h)) ⟨hh.1,x0F _,hh.2⟩ ns.length i hi (by omega) (List.replicate ns.length [.nilp]) (rN _ _)
 have k1:=re hC h
 refine⟨dn',hd',D4 hC.1 (nf:=N626) rfl rfl ?_⟩
 simp[N626,dj]
 refine aa k1 (.inl rfl) ?_
 have ez:cV dn 0 dn.length [.nilp]=List.replicate ns.length [.nilp]:=by
  rw[<- hd.1]
  simp[cV]
 simp[dj]at kc
 simp[ez]
 refine⟨aw (by decide +kernel),pB kc (by simp) ?_⟩
 generalize hQ:pq [(5,none)] _ _ _=Q
 simp[hi,a8]
 refine⟨aw (by decide +kernel),?_⟩
 rw[<- hQ]
 simp[hi]
end Go.Gv

namespace Go.Gv
theorem wX{ns:List Nod}{ls:List Lnk}(hv:b9 ns ls=true){nm:List UInt8}{v:Nat}(h:bk (bi nm) ns=(v:Int)):∃hv:v<ns.length,ns[v].name=nm:=by
 unfold bk at h
 split at h
 ·rename_i i hi
  rw[x0W]at hi
  obtain⟨h1,h2,_⟩:=hi
  have e:i=v:=by omega
  subst e
  exact⟨h1,by simpa[bi]using h2⟩
 ·omega
theorem uT{ns:List Nod}{ls:List Lnk}(hv:b9 ns ls=true){i j:Nat}(hi:i<ns.length)(hj:j<ns.length)(h:ns[i].name=ns[j].name):i=j:=by
 have h1:=(gm hv hi).2
 have h2:=(gm hv hj).2
 rw[h,h2]at h1
 omega
end Go.Gv

namespace Go.Gv
inductive Pth (es:List Edg):Nat->Nat->Prop
 | refl (v:Nat):Pth es v v
 | step {u v w:Nat}:(u,v)∈es->Pth es v w->Pth es u w
theorem Pth.trans{es:List Edg}{u v w:Nat}(h:Pth es u v)(h2:Pth es v w):Pth es u w:=by
 induction h with
 | refl v=>exact h2
 | step e _ ih=>exact .step e (ih h2)
end Go.Gv

namespace Go.Gv
variable{C:CC}(hC:al prog C)
include hC
end Go.Gv

namespace Go.Gv
variable{C:CC}(hC:al prog C)
include hC
end Go.Gv

namespace Go.Gv
variable{C:CC}(hC:al prog C)
include hC
end Go.Gv

namespace Go.Gv
variable{C:CC}(hC:al prog C)
include hC
theorem si(b:Bool)(xs:List (List UInt8))(s:List UInt8)(hs:xs.length<2^62):C 485 [slx b (eJ xs),.str s] (.int .i64 (bk (fun x=>x==s) xs)) []:=by
 refine aj hC (nf:=N485) rfl rfl ?_
 simp[N485,eJ]
 refine aF Nat (fun i=>[(0,slx b (eJ xs)),(1,.str s),(7,.int .i64 xs.length),(8,.int .i64 i)]) (fun i=>i<=xs.length/\∀(j:Nat) (h:j<xs.length),j<i->(xs[j]==s)=false) (fun i=>xs.length-i) 0 (by simp) (by simp[eJ]) ?_
 rintro i ⟨hi,hj⟩
 simp[eJ]
 refine ae (fun h=>?_) (fun h=>?_)<;>simp[h]<;>simp at h
 ·have hw:IntKind.wrap .i64 ((i:Int)+1)=((i+1:Nat):Int):=wrap_i64 (by omega) (by omega)
  simp[h]
  by_cases h1:s=xs[i]
  ·simp[<- h1]
   rw[cQ hj h (by simp[h1])]
  ·simp[h1,hw]
   refine⟨i+1,⟨by omega,fun j hl hjj=>?_⟩,by omega,by omega⟩
   rcases x0D.1 hjj with h2|rfl
   ·simpa using hj j hl h2
   ·exact fun e=>h1 e.symm
 ·rw[dA (fun j hl=>by simpa using hj j hl (by omega))]
theorem wI(b:Bool)(xs:List (List UInt8))(s:List UInt8)(hs:xs.length<2^62):C 450 [slx b (eJ xs),.str s] (.bool (xs.contains s)) []:=by
 have hss:slx b (eJ xs)=.nils\/slx b (eJ xs)=.sl (eJ xs):=by
  unfold slx;split
  ·exact .inl rfl
  ·exact .inr rfl
 have k:=si hC b xs s hs
 have e:xs.contains s=xs.any (fun x=>x==s):=by
  rw[x0z];simp
 rw[e]
 refine aj hC (nf:=N450) rfl rfl ?_
 simp only[N450]
 simp
 refine aa k (.inl rfl) ?_
 simp[eu]
end Go.Gv

namespace Go.Gv
variable{C:CC}(hC:al prog C)
include hC
theorem yY(d:List D)(i:Int):C 498 [.agg d,.int .i64 i] (.tup [.int .i64 (if i<0 then 0 else i),.int .i64 (if i<0 then 9 else 0)]) []:=by
 refine aj hC (nf:=N498) rfl rfl ?_
 simp[N498]
 refine ae (fun h=>?_) (fun h=>?_)<;>simp at h<;>simp[h]
 omega
end Go.Gv

namespace Go.Gv
variable{C:CC}(hC:al prog C)
include hC
end Go.Gv

namespace Go.Gv
variable{C:CC}(hC:al prog C)
include hC
end Go.Gv

namespace Go.Gv
theorem Pth.wat{es:List Edg}(hnd:(es.map (·.1)).Nodup){v x:Nat}(h:Pth es v x):∃m,wat es m v=some x:=by
 have cons:∀{u v:Nat},(u,v)∈es->∀m,Go.Gv.wat es (m+1) u=Go.Gv.wat es m v:=fun{u v} e m=>by
  induction m with
  | zero=>show(some u).bind (stp es)=some v;exact xP hnd e
  | succ m ih =>
   show(Go.Gv.wat es (m+1) u).bind (stp es)=(Go.Gv.wat es m v).bind (stp es)
   rw[ih]
 induction h with
 | refl v=>exact⟨0,rfl⟩
 | step e _ ih =>
  obtain⟨m,hm⟩:=ih
  exact⟨m+1,by rw[cons e];exact hm⟩
variable{C:CC}(hC:al prog C)
include hC
end Go.Gv

namespace Go.Gv
variable{C:CC}(hC:al prog C)
include hC
end Go.Gv

set_option maxRecDepth 4000
namespace Go.Gv
theorem vk{ns:List Nod}{ls:List Lnk}{ss:List Sec}{q:List Sp}:gh ns ls ss q ns.length=0\/gh ns ls ss q ns.length=1\/gh ns ls ss q ns.length=2\/gh ns ls ss q ns.length=3\/gh ns ls ss q ns.length=9\/gh ns ls ss q ns.length=23:=by
 unfold gh
 split
 ·split
  ·rcases m6 (ls:=ls) (ss:=ss)with h|h|h<;>simp[h]
  ·unfold gT
   split
   ·simp
   ·split
    ·split<;>simp
    ·simp
 ·simp
variable{C:CC}(hC:al prog C)
include hC
end Go.Gv

set_option maxRecDepth 4000
namespace Go.Gv
variable{C:CC}(hC:al prog C)
include hC
end Go.Gv

set_option maxRecDepth 4000
namespace Go.Gv
def nr(s:Sp):Bool:=decide (s.1 < -4194304)||decide (1099511627776<s.2)
def rY(ns:List Nod)(ls:List Lnk)(lv:List Sp):Int :=
 if b9 ns ls=false\/(lv.any fun s=>!cA s)=true then 1 else if lv.length≠ns.length then 3 else if (lv.any nr)=true then 2 else 0
def fbS(ns:List Nod)(lv:List Sp)(i:Nat):Sp:=(ns[i]!.ground-lv[i]!.2,ns[i]!.ground-lv[i]!.1)
def fbV(ns:List Nod)(ls:List Lnk)(lv:List Sp):D:=if rY ns ls lv=0 then .sl ((lvT (fbS ns lv) ns.length).map knD) else .nils
theorem Az{s:Sp}(h:cA s=true):s.1<=s.2:=by
 simp only[cA,x0a,x0d]at h
 exact h.1.1
theorem IR{ns:List Nod}{ls:List Lnk}{lv:List Sp}(hv:b9 ns ls=true)(h1:(lv.any fun s=>!cA s)=false)(h2:(lv.any nr)=false){i:Nat}(hi:i<ns.length)(hl:i<lv.length) :
  (-4194304<=ns[i].ground/\ns[i].ground<=4194304)/\(-4194304<=lv[i].1/\lv[i].1<=lv[i].2/\lv[i].2<=1099511627776):=by
 rw[x02]at h1 h2
 have a1:=h1 _ (x0p hl)
 have a2:=h2 _ (x0p hl)
 have a3:=Az (s:=lv[i]) (by simpa using a1)
 have a4:=(gm hv hi).1
 simp only[gn,bP,x0a,x0d]at a4
 simp only[nr,x0H,x0d]at a2
 omega
variable{C:CC}(hC:al prog C)
include hC
theorem IP(s:Sp):C 622 [.agg (knD s)] (.bool (!cA s)) []:=by
 have k:=pN hC s
 refine aj hC (nf:=N622) rfl rfl ?_
 simp[N622,knD]
 refine aa (by simpa[knD]using k) (.inl rfl) ?_
 simp
theorem IQ(s:Sp):C 623 [.agg (knD s)] (.bool (nr s)) []:=by
 refine aj hC (nf:=N623) rfl rfl ?_
 simp[N623,knD,nr]
 by_cases h:s.1 < -4194304<;>simp[h]
set_option maxHeartbeats 2000000 in
theorem pY(b1 b2 b:Bool)(ns:List Nod)(ls:List Lnk)(lv:List Sp)(hlv:lv.length<2^62)(hcv:∀l∈ls,l.curve.length<2^62) :
  C 578 [.agg [slx b1 (ns.map a8),slx b2 (ls.map aJ)],slx b (lv.map knD)] (.tup [fbV ns ls lv,.int .i64 (rY ns ls lv)]) []:=by
 have k1:=j7 hC b1 b2 ns ls hcv
 have k2:=gL hC (b:=b) (xs:=lv) (g:=622) (cs:=[]) (fun s=>!cA s) hlv (fun x _=>IP hC x)
 have k3:=gL hC (b:=b) (xs:=lv) (g:=623) (cs:=[]) nr hlv (fun x _=>IQ hC x)
 obtain⟨R,hR⟩:∃R,R=D.tup [fbV ns ls lv,.int .i64 (rY ns ls lv)]:=⟨_,rfl⟩
 rw[<- hR]
 unfold fbV at hR
 obtain⟨E,hE⟩:∃E,E=rY ns ls lv:=⟨_,rfl⟩
 rw[<- hE]at hR
 unfold rY at hE
 refine aj hC (nf:=N578) rfl rfl ?_
 simp[N578]
 refine aa k1 (.inl rfl) ?_
 by_cases c1:b9 ns ls=true
 case neg =>
  rw[if_pos (.inl (by simpa using c1))]at hE
  rw[hE]at hR
  simp[c1,hR]
 simp[c1]
 refine aa k2 (.inl rfl) ?_
 by_cases c2:(lv.any fun s=>!cA s)=true
 case pos =>
  rw[if_pos (.inr c2)]at hE
  rw[hE]at hR
  rw[c2]
  simp[hR]
 have c2':(lv.any fun s=>!cA s)=false:=by simpa only[x01]using c2
 rw[if_neg (by rw[c1,c2'];simp)]at hE
 rw[c2']
 have hnl:=(dB c1).1
 simp
 by_cases c3:lv.length=ns.length
 case neg =>
  rw[if_pos c3]at hE
  rw[hE]at hR
  have c3':¬((lv.length:Int)=ns.length):=by omega
  simp[c3,c3',hR]
 rw[if_neg (by simp[c3])]at hE
 simp[c3]
 refine aa k3 (.inl rfl) ?_
 by_cases c4:(lv.any nr)=true
 case pos =>
  rw[if_pos c4]at hE
  rw[hE]at hR
  rw[c4]
  simp[hR]
 rw[if_neg c4]at hE
 rw[hE,if_pos rfl]at hR
 have c4':(lv.any nr)=false:=by simpa only[x01]using c4
 rw[c4',hR]
 have hbd:=fun i hi hl=>IR c1 c2' c4' (i:=i) hi hl
 clear hR hE k1 k2 k3 c2 c2' c4 c4'
 simp
 refine aF Nat (fun j=>[(1,slx b (lv.map knD)),(6,.ref (.r 10096) 0 j),(28,slx b1 (ns.map a8)),(29,.int .i64 ns.length),(30,.int .i64 j),(10096,.blk 2 ((lvT (fbS ns lv) j).map knD))]) (fun j=>j<=ns.length) (fun j=>ns.length-j) 0 (by omega) (by simp[Bk]) ?_
 intro j hj
 simp
 refine ae (fun h=>?_) (fun h=>?_)<;>simp at h
 ·have hw:IntKind.wrap .i64 ((j:Int)+1)=((j+1:Nat):Int):=wrap_i64 (by omega) (by omega)
  have hl:j<lv.length:=by omega
  obtain⟨d1,d2⟩:=hbd j h hl
  have w1:IntKind.wrap .i64 (ns[j].ground-lv[j].2)=ns[j].ground-lv[j].2:=wrap_i64 (by omega) (by omega)
  have w2:IntKind.wrap .i64 (ns[j].ground-lv[j].1)=ns[j].ground-lv[j].1:=wrap_i64 (by omega) (by omega)
  have hsu:=qF (fbS ns lv) j
  have hln:=cm (fbS ns lv) j
  have hfb:fbS ns lv j=(ns[j].ground-lv[j].2,ns[j].ground-lv[j].1):=by
   unfold fbS
   rw[x0g ns j h,x0g lv j hl]
  simp[h,hl,a8,knD,w1,w2,hln]
  refine⟨by omega,aw (by decide +kernel),j+1,by omega,by omega,rfl,hw,?_⟩
  rw[x0y (by simp[cm]),hsu,hfb,x1p]
  rfl
 ·have ej:j=ns.length:=by omega
  subst ej
  simp[h,cm]
  exact Bl _ _
end Go.Gv

namespace Go.Gv
def dmN(p:Int->Bool):Nat->Int
 | 0=>-4194305
 | k+1=>if p (-4194304+k) then -4194304+k else dmN p k
def dmF(p:Int->Bool):Int:=dmN p 8388609
theorem v7{p:Int->Bool}{a:Int}(h1:-4194304<=a)(ha:p a=true):∀{k:Nat},a < -4194304+k->(∀h,a<h->h < -4194304+k->p h=false)->dmN p k=a
 | 0,h,_=>by omega
 | k+1,h,hn=>by
  rw[dmN]
  by_cases c:a=-4194304+k
  ·rw[<- c,if_pos ha]
  ·rw[hn (-4194304+k) (by omega) (by omega),if_neg (by simp)]
   exact v7 h1 ha (by omega) fun h h2 h3=>hn h h2 (by omega)
theorem qf{p:Int->Bool}:∀{k:Nat},(∀h:Int,-4194304<=h->h < -4194304+k->p h=false)->dmN p k=-4194305
 | 0,_=>rfl
 | k+1,hn=>by
  rw[dmN,hn (-4194304+k) (by omega) (by omega),if_neg (by simp)]
  exact qf fun h h2 h3=>hn h h2 (by omega)
theorem Cz{p:Int->Bool}{a:Int}(h1:-4194304<=a)(h2:a<=4194304)(ha:p a=true)(hn:∀h,a<h->h<=4194304->p h=false):dmF p=a :=
 v7 h1 ha (by omega) fun h h3 h4=>hn h h3 (by omega)
theorem vZ{p:Int->Bool}(hn:∀h,-4194304<=h->h<=4194304->p h=false):dmF p=-4194305 :=
 qf fun h h3 h4=>hn h h3 (by omega)
theorem qg(p:Int->Bool):∀k:Nat,(dmN p k=-4194305/\∀h:Int,-4194304<=h->h < -4194304+k->p h=false) \/
  (-4194304<=dmN p k/\dmN p k < -4194304+k/\p (dmN p k)=true/\∀h,dmN p k<h->h < -4194304+k->p h=false)
 | 0=>.inl ⟨rfl,fun h h1 h2=>by omega⟩
 | k+1=>by
  rw[dmN]
  by_cases c:p (-4194304+k)=true
  ·rw[if_pos c]
   exact .inr ⟨by omega,by omega,c,fun h h1 h2=>by omega⟩
  ·rw[if_neg c]
   have c':p (-4194304+k)=false:=by simpa only[x01]using c
   rcases qg p k with ⟨e,hn⟩|⟨e1,e2,e3,hn⟩
   ·refine .inl ⟨e,fun h h1 h2=>?_⟩
    by_cases g:h=-4194304+k
    ·rw[g];exact c'
    ·exact hn h h1 (by omega)
   ·refine .inr ⟨e1,by omega,e3,fun h h1 h2=>?_⟩
    by_cases g:h=-4194304+k
    ·rw[g];exact c'
    ·exact hn h h1 (by omega)
theorem jS(p:Int->Bool):(dmF p=-4194305/\∀h,-4194304<=h->h<=4194304->p h=false) \/
  (-4194304<=dmF p/\dmF p<=4194304/\p (dmF p)=true/\∀h,dmF p<h->h<=4194304->p h=false):=by
 rcases qg p 8388609 with ⟨e,hn⟩|⟨e1,e2,e3,hn⟩
 ·exact .inl ⟨e,fun h h1 h2=>hn h h1 (by omega)⟩
 ·exact .inr ⟨e1,by unfold dmF;omega,e3,fun h h1 h2=>hn h h1 (by omega)⟩
end Go.Gv

set_option maxRecDepth 4000
namespace Go.Gv
def gZ(ns:List Nod)(ls:List Lnk)(ss:List Sec)(q:List Sp)(i:Nat)(h:Int):Bool:=decide ((fF ns ls ss q (h,h) i).2<=ns[i]!.ground)
def lU(ns:List Nod)(ls:List Lnk)(ss:List Sec)(q:List Sp)(nm:List UInt8):Int :=
 if ct ns ls ss q (-4194304,-4194304)≠0 then ct ns ls ss q (-4194304,-4194304)
 else if bk (bi nm) ns<0 then 9 else if ns[(bk (bi nm) ns).toNat]!.kind=3 then 11
 else if dmF (gZ ns ls ss q (bk (bi nm) ns).toNat) < -4194304 then 12 else 0
def mC(ns:List Nod)(ls:List Lnk)(ss:List Sec)(q:List Sp)(nm:List UInt8):Int:=if lU ns ls ss q nm=0 then dmF (gZ ns ls ss q (bk (bi nm) ns).toNat) else 0
theorem wb{ns:List Nod}{ls:List Lnk}{ss:List Sec}{q:List Sp}(T:TrX ns ls ss (aK ns ls) (aE ns.length (aK ns ls) q)){i:Nat}{a b:Int}(h1:a<=b)(h2:b<=4194304)(h:gZ ns ls ss q i b=true):gZ ns ls ss q i a=true:=by
 have k:=(wT (ns:=ns) T.trs T.inv h1 h2 i).2
 unfold gZ fF lvX at *
 simp only[x0d]at *
 omega
theorem qq{α:Type}(p:α->Bool)(xs:List α):-1<=bk p xs/\bk p xs<xs.length:=by
 unfold bk
 split
 ·rename_i i h
  have:=(x0W.1 h).1
  omega
 ·omega
theorem Dd{lo hi:Int}(h:lo<hi):lo<lo+(hi-lo+1)/2/\lo+(hi-lo+1)/2<=hi:=by omega
variable{C:CC}(hC:al prog C)
include hC
theorem Cy(x:Nod)(nm:List UInt8):C 625 [.agg (a8 x),.ptr [.str nm]] (.bool (bi nm x)) []:=by
 refine aj hC (nf:=N625) rfl rfl ?_
 simp[N625,a8,bi]
 rw[x0z]
 simp
set_option maxHeartbeats 2000000 in
theorem Hw(hS:SlC C)(b1 b2 b b':Bool)(ns:List Nod)(ls:List Lnk)(ss:List Sec)(q:List Sp)(nm:List UInt8)(hls:ls.length<2^62)(hss:ss.length<2^62)(hq:q.length<2^62)(hcv:∀l∈ls,l.curve.length<2^62) :
  C 579 [.agg [slx b1 (ns.map a8),slx b2 (ls.map aJ)],slx b (ss.map bf),slx b' (q.map knD),.str nm] (.tup [.int .i64 (mC ns ls ss q nm),.int .i64 (lU ns ls ss q nm)]) []:=by
 have k1:=re hC (-4194304)
 obtain⟨E,hE⟩:∃E,E=lU ns ls ss q nm:=⟨_,rfl⟩
 obtain⟨V,hV⟩:∃V,V=mC ns ls ss q nm:=⟨_,rfl⟩
 rw[<- hE,<- hV]
 unfold mC at hV
 rw[<- hE]at hV
 unfold lU at hE
 refine aj hC (nf:=N579) rfl rfl ?_
 simp[N579]
 refine aa k1 (.inl rfl) ?_
 simp
 by_cases hM:gU ns ls ss q (-4194304,-4194304)=true
 case neg =>
  have hM':gU ns ls ss q (-4194304,-4194304)=false:=by simpa using hM
  have hne:¬ct ns ls ss q (-4194304,-4194304)=0:=fun h=>hM (pR h)
  rw[if_pos hne]at hE
  rw[<- hE]at hne
  refine og (by simpa[knD]using nK hC hS b1 b2 b b' ns ls ss q (-4194304,-4194304) hls hss hq hcv hM') ?_
  simp[<- hE,hne,hV]
  refine kr (c:=10160) (sz:=1) (row:=[.nilp]) (ds:=[.nilp]) (by decide) (by simp) (by simp) rfl (by simp[gw]) rfl rfl ?_
  simp[hne]
  exact⟨aw (by decide +kernel),by rw[hV,if_neg hne]⟩
 refine oh (by simpa[knD]using oZ hC hS b1 b2 b b' ns ls ss q (-4194304,-4194304) hls hss hq hcv hM) rfl ?_
 simp
 refine kr (c:=10160) (sz:=1) (row:=[.nilp]) (ds:=[.adr (.r 10353) 0 0]) (by decide) (by simp) (by simp) rfl (by simp[gw]) rfl rfl ?_
 by_cases h0:ct ns ls ss q (-4194304,-4194304)=0
 case neg =>
  rw[if_pos h0]at hE
  rw[<- hE]at h0
  simp[<- hE,h0]
  exact⟨aw (by decide +kernel),by rw[hV,if_neg h0]⟩
 rw[if_neg (by simp[h0])]at hE
 obtain⟨T,ho⟩:=pS hM h0
 have hnl:=T.trs.small
 have k2:=mQ hC (b:=b1) (xs:=ns) (g:=625) (cs:=[.ptr [.str nm]]) (bi nm) (by omega) (fun x _=>Cy hC x nm)
 have ib:=qq (bi nm) ns
 simp[h0]
 refine⟨aw (by decide +kernel),?_⟩
 refine aa (by simpa using k2) (.inl rfl) ?_
 obtain⟨x,hx⟩:∃x,x=bk (bi nm) ns:=⟨_,rfl⟩
 rw[<- hx]at hE hV ib ⊢
 simp
 refine kr (c:=10192) (sz:=1) (row:=[.int .i64 0]) (ds:=[.int .i64 x]) (by decide) (by simp) (by simp) rfl (by simp[gw]) rfl rfl ?_
 by_cases c1:x<0
 case pos =>
  rw[if_pos c1]at hE
  rw[hE]at hV
  simp[c1,hE,hV]
 rw[if_neg c1]at hE
 obtain⟨i,rfl⟩:∃i:Nat,x=(i:Int):=⟨x.toNat,by omega⟩
 have hi:i<ns.length:=by omega
 rw[Int.toNat_natCast]at hE hV
 rw[x0g ns i hi]at hE
 simp[c1,hi,a8]
 by_cases c2:ns[i].kind=3
 case pos =>
  rw[if_pos c2]at hE
  rw[hE]at hV
  simp[c2,hE,hV]
 rw[if_neg c2]at hE
 simp[c2]
 refine⟨[.ptr [.int .i64 i],.ptr [slx b1 (ns.map a8),slx b2 (ls.map aJ)]],by simp[jO,qd],?_⟩
 simp
 have kd:∀(h:Int) (o:Sp) (dn:List (List D)),-4194304<=h->h<=4194304->mD (lvX ns ls ss (aK ns ls) (aE ns.length (aK ns ls) q) o) ns.length dn ->
   ∃dn',mD (lvX ns ls ss (aK ns ls) (aE ns.length (aK ns ls) q) (h,h)) ns.length dn'/\C 626 [.blk 9 [dj b1 b2 ns ls ss (aK ns ls) (aE ns.length (aK ns ls) q) o dn],.int .i64 h,.ptx [.adr (.r 10015) 0 0],.ptr [.int .i64 i],.ptr [slx b1 (ns.map a8),slx b2 (ls.map aJ)]] (.bool (gZ ns ls ss q i h)) [.blk 9 [dj b1 b2 ns ls ss (aK ns ls) (aE ns.length (aK ns ls) q) (h,h) dn'],.nilp] :=
  fun h o dn g1 g2 hd=>IL hC b1 b2 T i hi h ⟨g1,g2⟩ dn hd
 have han:=fun a b=>wb (i:=i) (a:=a) (b:=b) T
 have hsp:=jS (gZ ns ls ss q i)
 have heq:=fun a=>Cz (p:=gZ ns ls ss q i) (a:=a)
 have hno:=vZ (p:=gZ ns ls ss q i)
 obtain⟨dn0,hd0,kd0⟩:=kd (-4194304) (-4194304,-4194304) (List.replicate ns.length [.nilp]) (by omega) (by omega) (rN _ _)
 generalize gZ ns ls ss q i=p at *
 generalize aK ns ls=es at *
 generalize aE ns.length es q=fl at *
 refine tr kd0 (by simp) ?_
 simp
 by_cases c3:p (-4194304)=true
 case neg =>
  have c3':p (-4194304)=false:=by simpa only[x01]using c3
  have e1:dmF p=-4194305:=hno fun h g1 g2=>by
   rw[<- x01]
   exact fun g=>c3 (han _ _ g1 g2 g)
  rw[if_pos (by omega)]at hE
  rw[hE]at hV
  simp[c3',hE,hV]
 simp[c3]
 refine aF (Int×Int×Sp×List (List D)) (fun s=>[(13,.fny 626 [.adr (.r 10353) 0 0] [.ptr [.int .i64 i],.ptr [slx b1 (ns.map a8),slx b2 (ls.map aJ)]]),(14,.int .i64 s.1),(15,.int .i64 s.2.1),(10353,.blk 9 [dj b1 b2 ns ls ss es fl s.2.2.1 s.2.2.2])])
  (fun s=>(-4194304<=s.1/\s.1<=s.2.1/\s.2.1<=4194304)/\p s.1=true/\(∀h,s.2.1<h->h<=4194304->p h=false)/\mD (lvX ns ls ss es fl s.2.2.1) ns.length s.2.2.2) (fun s=>(s.2.1-s.1).toNat)
  (-4194304,4194304,(-4194304,-4194304),dn0) ⟨⟨x0F _,show(-4194304:Int)<=4194304 by decide,x0F _⟩,c3,fun h g1 g2=>by simp only at g1;omega,hd0⟩ (by simp) ?_
 rintro⟨lo,hi2,o,dn⟩ ⟨⟨i1,i2,i3⟩,i4,i5,i6⟩
 simp only at i1 i2 i3 i4 i5 i6
 simp
 refine ae (fun g=>?_) (fun g=>?_)<;>simp at g
 ·obtain⟨m1,m2⟩:=Dd g
  obtain⟨hf,hhf⟩:∃hf,hf=(hi2-lo+1)/2:=⟨_,rfl⟩
  rw[<- hhf]at m1 m2
  obtain⟨m,hm⟩:∃m,m=lo+hf:=⟨_,rfl⟩
  rw[<- hm]at m1 m2
  have w1:IntKind.wrap .i64 (hi2-lo)=hi2-lo:=wrap_i64 rfl (by omega)
  have w2:IntKind.wrap .i64 (hi2-lo+1)=hi2-lo+1:=wrap_i64 rfl (by omega)
  have w3:Int.tdiv (hi2-lo+1) 2=hf:=by rw[hhf];exact Int.tdiv_eq_ediv_of_nonneg (by omega)
  have w4:IntKind.wrap .i64 hf=hf:=wrap_i64 rfl (by omega)
  have w5:IntKind.wrap .i64 (lo+hf)=m:=wrap_i64 hm.symm (by omega)
  have w6:IntKind.wrap .i64 (m-1)=m-1:=wrap_i64 rfl (by omega)
  obtain⟨dn',hd',kd'⟩:=kd m o dn (by omega) (by omega) i6
  simp[g,w1,w2,w3,w4,w5]
  refine tr kd' (by simp) ?_
  simp
  by_cases c4:p m=true
  ·simp[c4]
   exact⟨m,hi2,m,m,dn',⟨⟨by omega,by omega,by omega⟩,c4,i5,hd'⟩,by omega,rfl,rfl,rfl⟩
  ·have c4':p m=false:=by simpa only[x01]using c4
   simp[c4',w6]
   refine⟨lo,m-1,m,m,dn',⟨⟨by omega,by omega,by omega⟩,i4,fun h g1 g2=>?_,hd'⟩,by omega,rfl,rfl,rfl⟩
   rw[<- x01]
   exact fun g3=>c4 (han m h (by omega) g2 g3)
 ·have e1:dmF p=lo:=heq lo i1 (by omega) i4 fun h g1 g2=>i5 h (by omega) g2
  rw[e1,if_neg (by omega)]at hE
  rw[hE,if_pos rfl,e1]at hV
  simp[g,hE,hV]
end Go.Gv

namespace Go.Gv
def uA:Lnk:={ name:=[112],src:=[97],dst:=[98],kind:=1,len:=10000,up:=1000,down:=900,sect:=[115],width:=0,height:=0,curveN:=true,curve:=[] }
def exS:Sec:={ name:=[115],height:=300,price:=0,areaN:=false,area:=[(0,0),(300,70000)],convN:=false,conv:=[(0,0),(300,200000)] }
def tt(l:Lnk):Bool:=decide (20<l.curve.length)||decide (60<l.name.length)||decide (60<l.src.length)||decide (60<l.dst.length)||decide (60<l.sect.length)
def tw(s:Sec):Bool:=decide (20<s.area.length)||decide (20<s.conv.length)||decide (60<s.name.length)
theorem yU:qE uA exS 10000=(25,0):=by decide +kernel
theorem IO:xX uA exS 10000 1250=(1300,0):=by decide +kernel
variable{C:CC}(hC:al prog C)
include hC
theorem wr:C 158 [] (.tup [.agg (aJ uA),.agg (bf exS)]) []:=by
 refine aj hC (nf:=N158) rfl rfl ?_
 simp[N158,aJ,uA,exS,bf,knD]
 rfl
theorem ug:C 153 [] (.bool true) []:=by
 have k1:=wr hC
 have k2:=ym hC uA exS 10000 (by decide)
 have k3:=Qs hC uA exS 10000 1250 (by decide)
 rw[yU]at k2
 rw[IO]at k3
 simp only[aJ,bf]at k1 k2 k3
 refine aj hC (nf:=N153) rfl rfl ?_
 simp[N153]
 refine aa k1 (.inr rfl) ?_
 simp
 refine aa k2 (.inl rfl) ?_
 simp
 refine aa k3 (.inl rfl) ?_
 simp
theorem wM(l:Lnk):C 154 [.agg (aJ l)] (.bool (tt l)) []:=by
 refine aj hC (nf:=N154) rfl rfl ?_
 simp[N154,aJ,tt]
 refine ae (fun h0=>?_) (fun h0=>?_)<;>simp at h0
 ·simp[show 20<l.curve.length by omega]
 simp[show ¬20<l.curve.length by omega]
 refine ae (fun h1=>?_) (fun h1=>?_)<;>simp at h1
 ·simp[show 60<l.name.length by omega]
 simp[show ¬60<l.name.length by omega]
 refine ae (fun h2=>?_) (fun h2=>?_)<;>simp at h2
 ·simp[show 60<l.src.length by omega]
 simp[show ¬60<l.src.length by omega]
 refine ae (fun h3=>?_) (fun h3=>?_)<;>simp at h3
 ·simp[show 60<l.dst.length by omega]
 simp[show ¬60<l.dst.length by omega]
 rw[x0z]
 simp
 omega
end Go.Gv

set_option maxRecDepth 4000
namespace Go.Gv
def mw(n:Nod):Bool:=decide (20<n.shape.length)||decide (60<n.name.length)
def wQ(ns:List Nod)(ls:List Lnk):Bool:=decide (14<ns.length)||decide (16<ls.length)||ns.any mw||ls.any tt
def wV(ss:List Sec):Bool:=decide (8<ss.length)||ss.any tw
variable{C:CC}(hC:al prog C)
include hC
theorem vN(n:Nod):C 617 [.agg (a8 n)] (.bool (mw n)) []:=by
 refine aj hC (nf:=N617) rfl rfl ?_
 simp[N617,a8,mw]
 by_cases c1:(20:Int)<n.shape.length
 ·simp[c1,show 20<n.shape.length by omega]
 ·simp[c1,show ¬20<n.shape.length by omega]
  omega
theorem zD(b1 b2:Bool)(ns:List Nod)(ls:List Lnk)(h1:ns.length<2^62)(h2:ls.length<2^62):C 572 [.agg [slx b1 (ns.map a8),slx b2 (ls.map aJ)]] (.bool (wQ ns ls)) []:=by
 have k1:=wG hC (b:=b1) (xs:=ns) (g:=617) (cs:=[]) mw h1 (fun x _=>vN hC x)
 have k2:=mL hC (b:=b2) (xs:=ls) (g:=154) (cs:=[]) tt h2 (fun x _=>wM hC x)
 refine aj hC (nf:=N572) rfl rfl ?_
 simp[N572]
 unfold wQ
 by_cases c1:(14:Int)<ns.length
 ·simp[c1,show 14<ns.length by omega]
 by_cases c2:(16:Int)<ls.length
 ·simp[c1,c2,show 16<ls.length by omega]
 simp[c1,c2,show ¬14<ns.length by omega,show ¬16<ls.length by omega]
 refine aa k1 (.inl rfl) ?_
 cases d1:ns.any mw
 ·simp
  refine aa k2 (.inl rfl) ?_
  simp
  intro h;omega
 ·simp
theorem uQ(b:Bool)(ss:List Sec)(hs:ss.length<2^62):C 155 [slx b (ss.map bf)] (.bool (wV ss)) []:=by
 have k0:∀x∈ss,C 159 (.agg (bf x)::[]) (.bool (tw x)) []:=fun x _=>by
  refine aj hC (nf:=N159) rfl rfl ?_
  simp[N159,bf,tw]
  refine ae (fun h0=>?_) (fun h0=>?_)<;>simp at h0
  ·simp[show 20<x.area.length by omega]
  simp[show ¬20<x.area.length by omega]
  refine ae (fun h1=>?_) (fun h1=>?_)<;>simp at h1
  ·simp[show 20<x.conv.length by omega]
  simp[show ¬20<x.conv.length by omega]
  rw[x0z]
  simp
  omega
 have k1:=wH hC (b:=b) (xs:=ss) (g:=159) (cs:=[]) tw hs k0
 refine aj hC (nf:=N155) rfl rfl ?_
 simp[N155]
 unfold wV
 by_cases c1:(8:Int)<ss.length
 ·simp[c1,show 8<ss.length by omega]
 simp[c1,show ¬8<ss.length by omega]
 refine aa k1 (.inl rfl) ?_
 simp
 intro h;omega
end Go.Gv

set_option maxRecDepth 4000
namespace Go.Gv
variable{C:CC}(hC:al prog C)
include hC
end Go.Gv

set_option maxRecDepth 4000
namespace Go.Gv
theorem AF{ns:List Nod}{ls:List Lnk}(hv:b9 ns ls=true)(sp:Nat->Sp)(hi:Bool){i:Nat}(h:i<ns.length):(jg ns sp hi ns.length).contains ns[i].name=sQ ns sp hi i:=by
 rw[x0z,x0G]
 unfold jg
 simp only[x0s,List.mem_filter,x1k]
 constructor
 ·rintro⟨j,⟨hj,h1⟩,h2⟩
  rw[x0g ns j hj]at h2
  have:=uT hv hj h h2
  subst this
  exact h1
 ·intro h1
  exact⟨i,⟨h,h1⟩,by rw[x0g ns i h]⟩
variable{C:CC}(hC:al prog C)
include hC
end Go.Gv

namespace Go.Gv
end Go.Gv

namespace Go.Gv
variable{C:CC}(hC:al prog C)
include hC
theorem BZ(b1 b2:Bool)(ns:List Nod)(ls:List Lnk)(nm:List UInt8)(hcv:∀l∈ls,l.curve.length<2^62)(hv:b9 ns ls=true):C 482 [.agg [slx b1 (ns.map a8),slx b2 (ls.map aJ)],.str nm] (.tup [.int .i64 (if bk (bi nm) ns<0 then 0 else bk (bi nm) ns),.int .i64 (if bk (bi nm) ns<0 then 9 else 0)]) []:=by
 have k0:=j7 hC b1 b2 ns ls hcv
 rw[hv]at k0
 have k1:=kZ hC b1 b2 ns ls nm (by have:=(dB hv).1;omega)
 have k2:=yY hC [slx b1 (ns.map a8),slx b2 (ls.map aJ)] (bk (bi nm) ns)
 refine aj hC (nf:=N482) rfl rfl ?_
 simp[N482]
 refine aa k0 (.inl rfl) ?_
 simp
 refine aa k1 (.inl rfl) ?_
 simp
 refine aa k2 (.inl rfl) ?_
 simp
 exact aw (by decide +kernel)
end Go.Gv

namespace Go.Gv
structure R5 (ns:List Nod) (ls:List Lnk) (ss:List Sec) (g:Nat->Int) (sp:Nat->Sp) (i k w:Nat):Prop where
 kl:k<ls.length
 wn:w<ns.length
 pip:ga ss ls[k]!
 dst:bk (bi ls[k]!.dst) ns=(w:Int)
 src:ls[k]!.src=ns[i]!.name
 lk:cj ls[k]! = true
 kd:ls[k]!.kind=1
 nm:(c8 ss ls[k]!).name=ls[k]!.sect
 fl:0<=upS ns.length (aK ns ls) g i/\upS ns.length (aK ns ls) g i<=1099511627776
 lo:-4194304<=(sp w).1/\(sp w).1<=1099511627776
 err:(bH ls[k]! (c8 ss ls[k]!) (upS ns.length (aK ns ls) g i) (sp w).1).2=0
 lev:sp i=((bH ls[k]! (c8 ss ls[k]!) (upS ns.length (aK ns ls) g i) (sp w).1).1,(bH ls[k]! (c8 ss ls[k]!) (upS ns.length (aK ns ls) g i) (sp w).1).1)
 up:(sp w).1<=(bH ls[k]! (c8 ss ls[k]!) (upS ns.length (aK ns ls) g i) (sp w).1).1
end Go.Gv

set_option maxRecDepth 4000
namespace Go.Gv
variable{C:CC}(hC:al prog C)
include hC
end Go.Gv

set_option maxRecDepth 4000
namespace Go.Gv
theorem xa{h:Int}(h1:-4194304<=h)(h2:h<=4194304):cA (h,h)=true/\dV (h,h)=false:=by
 simp only[cA,rU,dV,x0a,x0d,x1G,x0J]
 omega
theorem D7{ns:List Nod}{ls:List Lnk}{ss:List Sec}{q:List Sp}{h:Int}(h1:-4194304<=h)(h2:h<=4194304):ct ns ls ss q (h,h)=ct ns ls ss q (-4194304,-4194304):=by
 obtain⟨a1,a2⟩:=xa h1 h2
 unfold ct
 rw[a1,a2,show cA (-4194304,-4194304)=true by decide,show dV (-4194304,-4194304)=false by decide]
theorem AH{ns:List Nod}{ls:List Lnk}{ss:List Sec}{q:List Sp}{o:Sp}:ct ns ls ss q o≠12:=by
 have t:=vk (ns:=ns) (ls:=ls) (ss:=ss) (q:=q)
 have l:=mV ls ss (aE ns.length (aK ns ls) q)
 have f:bZ ns.length (aK ns ls) q=0\/bZ ns.length (aK ns ls) q=5:=by
  unfold bZ;split<;>simp
 unfold ct
 generalize gh ns ls ss q ns.length=g at *
 generalize bZ ns.length (aK ns ls) q=fe at *
 generalize jd ls ss (aE ns.length (aK ns ls) q)=le at *
 repeat' split
 all_goals omega
theorem sq{ns:List Nod}{ls:List Lnk}{ss:List Sec}{q:List Sp}(T:TrX ns ls ss (aK ns ls) (aE ns.length (aK ns ls) q)){h:Int}(h2:h<=4194304)(i:Nat) :
  cA (fF ns ls ss q (h,h) i)=true/\nr (fF ns ls ss q (h,h) i)=false/\(-4194304<=(fF ns ls ss q (h,h) i).1/\(fF ns ls ss q (h,h) i).1<=(fF ns ls ss q (h,h) i).2/\(fF ns ls ss q (h,h) i).2<=1099511627776):=by
 obtain⟨k1,k2,k3⟩:=pD (ns:=ns) (o:=(h,h)) T.trs T.inv ⟨x0F _,h2⟩ i
 have hs:=T.trs.small
 have e:fF ns ls ss q (h,h) i=ia ns.length (aK ns ls) ns ls (ls.map (c8 ss)) (aE ns.length (aK ns ls) q) (h,h) i:=rfl
 rw[<- e]at k1 k2 k3
 generalize fF ns ls ss q (h,h) i=s at *
 obtain⟨a,b⟩:=s
 simp only[lg]at k1 k2 k3
 simp only[cA,rU,nr,x0a,x0d,x1G,x0J]
 omega
theorem wA{ns:List Nod}{ls:List Lnk}{ss:List Sec}{q:List Sp}(hv:b9 ns ls=true)(T:TrX ns ls ss (aK ns ls) (aE ns.length (aK ns ls) q)){h:Int}(h2:h<=4194304) :
  rY ns ls (lvT (fF ns ls ss q (h,h)) ns.length)=0:=by
 have a1:((lvT (fF ns ls ss q (h,h)) ns.length).any fun s=>!cA s)=false:=by
  rw[x02]
  intro s hs
  simp only[lvT,x0s,x1k]at hs
  obtain⟨i,_,rfl⟩:=hs
  simp[(sq T h2 i).1]
 have a2:((lvT (fF ns ls ss q (h,h)) ns.length).any nr)=false:=by
  rw[x02]
  intro s hs
  simp only[lvT,x0s,x1k]at hs
  obtain⟨i,_,rfl⟩:=hs
  simp[(sq T h2 i).2.1]
 unfold rY
 rw[if_neg (by rw[hv,a1];simp),if_neg (by rw[cm];simp),if_neg (by rw[a2];simp)]
def dmL(d e:Int):List Int:=if e=12 then [-4194304] else [d,d+1]
theorem CA{d e:Int}(hd:-4194304<=d/\d<=4194304){j:Nat}(h:j<(dmL d e).length):-4194304<=(dmL d e)[j]:=by
 unfold dmL at *
 by_cases c:e=12
 ·simp only[if_pos c,x0Q,List.length_nil]at h ⊢
  rcases(show j=0 by omega)with rfl
  simp
 ·simp only[if_neg c,x0Q,List.length_nil]at h ⊢
  rcases(show j=0\/j=1 by omega)with rfl|rfl<;>simp<;>omega
theorem yE{p:Int->Bool}{d e:Int}(h:e=12/\dmF p=-4194305\/e=0/\d=dmF p/\-4194304<=dmF p){j:Nat}(hj:j<(dmL d e).length)(hh:(dmL d e)[j]<=4194304) :
  p (dmL d e)[j]=!(decide (e=12)||decide (d<(dmL d e)[j])):=by
 rcases jS p with ⟨e1,hn⟩|⟨e1,e2,e3,hn⟩
 ·rcases h with ⟨rfl,_⟩|⟨_,_,h9⟩
  ·simp only[dmL,if_true,x0Q,List.length_nil]at hj hh ⊢
   rcases(show j=0 by omega)with rfl
   simp[hn (-4194304) (by omega) (by omega)]
  ·omega
 ·rcases h with ⟨_,h9⟩|⟨rfl,h8,_⟩
  ·omega
  ·simp only[dmL,show ¬((0:Int)=12) by decide,if_false,x0Q,List.length_nil]at hj hh ⊢
   rcases(show j=0\/j=1 by omega)with rfl|rfl
   ·simp[h8,e3]
   ·have:p (d+1)=false:=by
     rw[h8]
     simp at hh
     exact hn _ (by omega) (by omega)
    simp[this]
    omega
theorem uv{ns:List Nod}{ls:List Lnk}{ss:List Sec}{q:List Sp}{nm:List UInt8}(h:lU ns ls ss q nm=0\/lU ns ls ss q nm=12) :
  ct ns ls ss q (-4194304,-4194304)=0/\∃i:Nat,bk (bi nm) ns=(i:Int)/\i<ns.length/\ns[i]!.kind≠3/\(-4194304<=mC ns ls ss q nm/\mC ns ls ss q nm<=4194304) /\
   (lU ns ls ss q nm=12/\dmF (gZ ns ls ss q i)=-4194305\/lU ns ls ss q nm=0/\mC ns ls ss q nm=dmF (gZ ns ls ss q i)/\-4194304<=dmF (gZ ns ls ss q i)):=by
 obtain⟨E,hE⟩:∃E,E=lU ns ls ss q nm:=⟨_,rfl⟩
 obtain⟨V,hV⟩:∃V,V=mC ns ls ss q nm:=⟨_,rfl⟩
 rw[<- hE]at h ⊢
 rw[<- hV]
 unfold mC at hV
 rw[<- hE]at hV
 unfold lU at hE
 have ib:=qq (bi nm) ns
 by_cases g0:ct ns ls ss q (-4194304,-4194304)=0
 case neg =>
  rw[if_pos g0]at hE
  have:=AH (ns:=ns) (ls:=ls) (ss:=ss) (q:=q) (o:=(-4194304,-4194304))
  omega
 rw[if_neg (by simp[g0])]at hE
 refine⟨g0,?_⟩
 by_cases c1:bk (bi nm) ns<0
 ·rw[if_pos c1]at hE;omega
 rw[if_neg c1]at hE
 refine⟨(bk (bi nm) ns).toNat,by omega,by omega,?_⟩
 generalize (bk (bi nm) ns).toNat=i at *
 by_cases c2:ns[i]!.kind=3
 ·rw[if_pos c2]at hE;omega
 rw[if_neg c2]at hE
 refine⟨c2,?_⟩
 by_cases c3:dmF (gZ ns ls ss q i) < -4194304
 ·rw[if_pos c3]at hE
  rw[hE,if_neg (by decide)]at hV
  rcases jS (gZ ns ls ss q i)with ⟨e1,_⟩|⟨e1,_⟩
  ·exact⟨by omega,.inl ⟨hE,e1⟩⟩
  ·omega
 ·rw[if_neg c3]at hE
  rw[hE,if_pos rfl]at hV
  rcases jS (gZ ns ls ss q i)with ⟨e1,_⟩|⟨e1,e2,_⟩
  ·omega
  ·exact⟨by omega,.inr ⟨hE,hV,e1⟩⟩
theorem yW{ns:List Nod}{sp:Nat->Sp}{i:Nat}(hi:i<ns.length):fbS ns (lvT sp ns.length) i=(ns[i].ground-(sp i).2,ns[i].ground-(sp i).1):=by
 have hl:i<(lvT sp ns.length).length:=by rw[cm];exact hi
 unfold fbS
 rw[x0g ns i hi,x0g _ i hl,kT]
variable{C:CC}(hC:al prog C)
include hC
set_option maxHeartbeats 4000000 in
theorem jj(hS:SlC C)(b1 b2:Bool)(ns:List Nod)(ls:List Lnk)(h1:ns.length<2^62)(h2:ls.length<2^62)(hcv:∀l∈ls,l.curve.length<2^62)(b:Bool)(ss:List Sec)(h3:ss.length<2^62)(b':Bool)(q:List Sp)(h4:q.length<2^62)(nm:List UInt8) :
  C 539 [.agg [slx b1 (ns.map a8),slx b2 (ls.map aJ)],slx b (ss.map bf),slx b' (q.map knD),.str nm] (.bool true) []:=by
 have k0:=ug hC
 have k1:=zD hC b1 b2 ns ls h1 h2
 have k2:=uQ hC b ss h3
 have k4:=Hw hC hS b1 b2 b b' ns ls ss q nm h2 h3 h4 hcv
 refine aj hC (nf:=N539) rfl rfl ?_
 simp[N539]
 refine aa k0 (.inl rfl) ?_
 simp
 refine aa k1 (.inl rfl) ?_
 by_cases c1:wQ ns ls=true
 ·simp[c1]
 simp[c1]
 refine aa k2 (.inl rfl) ?_
 by_cases c2:wV ss=true
 ·simp[c2]
 simp[c2]
 by_cases c3:(20:Int)<q.length
 ·simp[c3]
 simp[c3]
 by_cases c5:(60:Int)<nm.length
 ·simp[c5]
 simp[c5]
 refine aa k4 (.inl rfl) ?_
 have hX:=uv (ns:=ns) (ls:=ls) (ss:=ss) (q:=q) (nm:=nm)
 have hV0:lU ns ls ss q nm≠0->mC ns ls ss q nm=0:=fun h=>by unfold mC;rw[if_neg h]
 generalize lU ns ls ss q nm=e at *
 generalize mC ns ls ss q nm=d at *
 simp
 by_cases ce:e=0\/e=12
 case neg =>
  have e1:¬e=0:=fun h=>ce (.inl h)
  have e2:¬e=12:=fun h=>ce (.inr h)
  simp[e1,e2,hV0 e1]
 obtain⟨g0,i,hix,hi,hk3,hd,hc⟩:=hX ce
 have hM:=pR g0
 obtain⟨T,_⟩:=pS hM g0
 have hv:b9 ns ls=true:=by
  simp only[gU,x0a,x0q,x0d,x0J]at hM
  have:=(tm hM.1.1.1.1.1).1
  simp only[c9,x0a]at this
  exact this.1.1
 have hnl:=T.trs.small
 have kN:=BZ hC b1 b2 ns ls nm hcv hv
 rw[hix,if_neg (by omega),if_neg (by omega)]at kN
 rw[x0g ns i hi]at hk3
 have w0:IntKind.wrap .i64 (d+1)=d+1:=wrap_i64 rfl (by omega)
 have d1:¬d < -4194304:=by omega
 have d2:¬4194304<d:=by omega
 obtain⟨L,hL⟩:∃L,L=dmL d e:=⟨_,rfl⟩
 have hwt:=fun j=>yE hc (j:=j)
 have hlo:=fun j=>CA (e:=e) hd (j:=j)
 rw[<- hL]at hwt hlo
 have hnm:ns[i].name=nm:=(wX hv hix).2
 have kV:∀h,-4194304<=h->h<=4194304->_:=fun h g1 g2=>pZ hC hS b1 b2 b b' ns ls ss q (h,h) h2 h3 h4 hcv
 have kS:∀h,-4194304<=h->h<=4194304->_:=fun h g1 g2=>o7 hC hS b1 b2 b b' ns ls ss q (h,h) h2 h3 h4 hcv
 have kF:∀h,-4194304<=h->h<=4194304->_:=fun h g1 g2=>pY hC b1 b2 false ns ls (lvT (fF ns ls ss q (h,h)) ns.length) (by rw[cm];omega) hcv
 have hdy:∀h,gZ ns ls ss q i h=decide ((fF ns ls ss q (h,h) i).2<=ns[i].ground):=fun h=>by
  unfold gZ
  rw[x0g ns i hi]
 have hbi:=(gm hv hi).1
 simp only[gn,bP,x0a,x0d]at hbi
 obtain⟨E,hE⟩:∃E,E=e:=⟨_,rfl⟩
 rcases ce with rfl|rfl
 all_goals
  simp
  refine aa kN (.inl rfl) ?_
  simp[d1,d2,w0]
  refine aF Nat (fun j=>[(1,slx b (ss.map bf)),(2,slx b' (q.map knD)),(3,.str nm),(4,.ptr [slx b1 (ns.map a8),slx b2 (ls.map aJ)]),(9,.int .i64 d),(10,.int .i64 E),(11,.int .i64 i),(81,.ref (.r 11296) 0 L.length),(82,.int .i64 L.length),(83,.int .i64 j),(11296,.blk 1 (L.map fun x=>[.int .i64 x]))]) (fun j=>j<=L.length) (fun j=>L.length-j) 0 (by omega) (by simp[hE,hL,dmL]) ?_
  intro j hj
  simp
  refine ae (fun g=>?_) (fun g=>?_)<;>simp at g
  ·have hLl:L.length<=2:=by rw[hL];unfold dmL;split<;>simp
   have hw:IntKind.wrap .i64 ((j:Int)+1)=((j+1:Nat):Int):=wrap_i64 (by omega) (by omega)
   have hj1:=hlo j g
   have hj2:=hwt j g
   obtain⟨h,hh⟩:∃h,h=L[j]:=⟨_,rfl⟩
   rw[<- hh]at hj1 hj2
   simp[g,<- hh]
   by_cases c6:4194304<h
   ·simp[c6,hw]
    exact⟨j+1,by omega,by omega,rfl⟩
   have hhe:ct ns ls ss q (h,h)=0:=(D7 hj1 (by omega)).trans g0
   have kv:=kV h hj1 (by omega)
   have ks:=kS h hj1 (by omega)
   have kf:=kF h hj1 (by omega)
   have hsl:=(sq (ns:=ns) T (h:=h) (by omega) i).2.2
   have hfe:=wA (ss:=ss) (q:=q) hv T (h:=h) (by omega)
   have hw2:=hj2 (by omega)
   rw[hdy]at hw2
   unfold tZ at kv
   rw[if_pos hhe,hhe]at kv
   rw[if_pos hhe]at ks
   unfold fbV at kf
   rw[if_pos hfe,hfe]at kf
   generalize fF ns ls ss q (h,h)=sp at *
   have kc:=wI hC false (jg ns sp true ns.length) nm (by have:=nJ ns sp true ns.length;omega)
   rw[<- hnm,AF hv sp true hi,iZ,hnm]at kc
   have hsu:sQ ns sp true i=decide (ns[i].ground<(sp i).2):=by
    unfold sQ
    rw[x0g ns i hi]
    simp[hk3]
   rw[hsu]at kc
   have hfb:=yW (ns:=ns) (sp:=sp) hi
   simp[c6]
   refine aa (by simpa[knD]using kv) (.inr (by simp)) ?_
   simp
   refine aa (by simpa[knD]using kf) (.inr (by simp)) ?_
   simp
   refine aa (by simpa[knD]using ks) (.inr (by simp)) ?_
   have hdh:¬E=12->(d<h↔ns[i].ground<(sp i).2):=fun hn=>by
    rw[hE]at hn
    first
     | exact absurd rfl hn
     | (rw[x0z]at hw2;simp at hw2;omega)
   have hE12:E=12->ns[i].ground<(sp i).2:=fun hn=>by
    rw[hE]at hn
    first
     | (exfalso;revert hn;decide)
     | (rw[x0z]at hw2;simp at hw2;omega)
   have w1:IntKind.wrap .i64 (ns[i].ground-(sp i).2)=ns[i].ground-(sp i).2:=wrap_i64 rfl (by omega)
   have w2:IntKind.wrap .i64 (ns[i].ground-(sp i).1)=ns[i].ground-(sp i).1:=wrap_i64 rfl (by omega)
   have hl1:=cm sp ns.length
   have hl2:=cm (fbS ns (lvT sp ns.length)) ns.length
   have r1:((lvT sp ns.length).map knD)[i]? = some [.int .i64 (sp i).1,.int .i64 (sp i).2]:=by simp[tv sp hi,knD]
   have r2:((lvT (fbS ns (lvT sp ns.length)) ns.length).map knD)[i]? = some [.int .i64 (ns[i].ground-(sp i).2),.int .i64 (ns[i].ground-(sp i).1)]:=by simp[tv (fbS ns (lvT sp ns.length)) hi,hfb,knD]
   generalize hA:(lvT sp ns.length).map knD=A at *
   generalize hB:(lvT (fbS ns (lvT sp ns.length)) ns.length).map knD=B at *
   have hAl:A.length=ns.length:=by rw[<- hA,x08,hl1]
   have hBl:B.length=ns.length:=by rw[<- hB,x08,hl2]
   generalize eJ (jg ns sp true ns.length)=S at *
   by_cases c:ns[i].ground<(sp i).2
   ·have hd4:¬E=12->d<h:=fun hn=>(hdh hn).2 c
    have c':ns[i].ground-(sp i).2<0:=by omega
    simp only[c,decide_true]at kc
    simp (config:={ maxSteps:=1000000 }) [hAl,hBl,hE,hd4]
    refine aa kc (.inl rfl) ?_
    simp (config:={ maxSteps:=1000000 }) [hAl,hBl,hE,hi,a8,bq r1,bq r2,c',w1,w2,hw,hd4]
    exact⟨aw (by decide +kernel),j+1,by omega,by omega,rfl⟩
   ·have hd4:¬E=12->¬d<h:=fun hn g=>c ((hdh hn).1 g)
    have hn12:¬E=12:=fun g=>c (hE12 g)
    have c':¬ns[i].ground-(sp i).2<0:=by omega
    have kc':C 450 [.sl S,.str nm] (.bool false) []:=by simpa only[c,decide_false]using kc
    first|exact absurd hE hn12|simp (config:={ maxSteps:=1000000 }) [hAl,hBl,hE,hd4]
    all_goals refine aa kc' (.inl rfl) ?_
    all_goals simp (config:={ maxSteps:=1000000 }) [hAl,hBl,hE,hi,a8,bq r1,bq r2,c',w1,w2,hw,hd4]
    all_goals exact⟨aw (by decide +kernel),j+1,by omega,by omega,rfl⟩
  ·simp[g]
end Go.Gv
