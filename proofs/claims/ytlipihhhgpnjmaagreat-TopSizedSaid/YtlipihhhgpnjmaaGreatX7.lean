/-
  Texts of the proof: K8, K2, K9, Q3, Q4, Q5, B1, B2, K10, B3, B4, B5, Q6, S3, Q7, Q12, S4, S5, GvX3, Q22, Q28, S0, Q29, M1, P4, M0, W1, W2, W3, W4, K11, W5, P4b, Q8, Q30, Q9, Q10, K12, M2a, K13, M2, M3, M4, P3, B6, B7, P5, M5, P1, P2, B8, P6, Q14, Q15, Q16, Q17, B9, P7, Q19, Q23, Q25, Q31, Q32, Q33, Q11, Q13, Q18, Q20, Q24, Q26, Q34, Q35, A24, K14.
-/
import Derived.Test.YtlipihhhgpnjmaaGreatX6
set_option linter.all false
namespace Go.Gv
def cO(n:Nat):D:=.agg [.int .u64 ((n/18446744073709551616:Nat):Int),.int .u64 ((n%18446744073709551616:Nat):Int)]
def oF(x:Nat):Nat->Nat->Nat
 | 0,r=>r
 | i+1,r=>oF x i (if (r+2^i)*(r+2^i)<=x then r+2^i else r)
def so(x:Nat):Nat:=oF x 63 0
theorem FO{x k:Nat}:x*k=(x/18446744073709551616*k+x%18446744073709551616*k/18446744073709551616)*18446744073709551616+x%18446744073709551616*k%18446744073709551616:=by
 have e1:=x1u x 18446744073709551616
 have e2:=x1u (x%18446744073709551616*k) 18446744073709551616
 have e3:x*k=(18446744073709551616*(x/18446744073709551616)+x%18446744073709551616)*k:=by rw[e1]
 rw[x0I,Nat.mul_assoc]at e3
 generalize x/18446744073709551616*k=A at *
 generalize x%18446744073709551616*k=B at *
 omega
theorem EX{x n:Nat}(hn:0<n):x/n=(x/18446744073709551616/n)*18446744073709551616+(x/18446744073709551616%n*18446744073709551616+x%18446744073709551616)/n/\(x/18446744073709551616%n*18446744073709551616+x%18446744073709551616)/n<18446744073709551616:=by
 obtain⟨H,hH⟩:∃H,H=x/18446744073709551616:=⟨_,rfl⟩
 obtain⟨L,hL⟩:∃L,L=x%18446744073709551616:=⟨_,rfl⟩
 rw[<- hH,<- hL]
 have hx:x=H*18446744073709551616+L:=by omega
 have hl:L<18446744073709551616:=by omega
 have e1:=x1u H n
 have l1:=x1P H hn
 generalize H/n=a at *
 generalize H%n=b at *
 constructor
 ·rw[hx,<- e1,show(n*a+b)*18446744073709551616+L=n*(a*18446744073709551616)+(b*18446744073709551616+L) by rw[x0I,Nat.mul_assoc,x0Y],Nat.mul_add_div hn]
 ·rw[x1G hn]
  have:(b+1)*18446744073709551616<=n*18446744073709551616:=x0q _ l1
  rw[x1b n]at this
  omega
theorem xu(x i r:Nat):oF x (i+1) r=oF x i (if (r+2^i)*(r+2^i)<=x then r+2^i else r):=rfl
variable{C:CC}(hC:al prog C)
include hC
theorem si(a b:Nat)(ha:a<9223372036854775808)(hb:b<9223372036854775808):C 74 [.int .i64 a,.int .i64 b] (cO (a*b)) []:=by
 refine start hC (nf:=N74) rfl rfl ?_
 simp[N74,cP a (by omega),cP b (by omega)]
 refine aa (lQ hC a b (by omega) (by omega)) (.inl rfl) ?_
 obtain⟨h,hh⟩:∃h,h=a*b/18446744073709551616:=⟨_,rfl⟩
 obtain⟨l,hl⟩:∃l,l=a*b%18446744073709551616:=⟨_,rfl⟩
 rw[<- hh,<- hl,cO,<- hh,<- hl]
 simp
theorem yT(x k:Nat)(hk:k<9223372036854775808)(hx:x<340282366920938463463374607431768211456)(hxk:x*k<340282366920938463463374607431768211456):C 75 [cO x,.int .i64 k] (cO (x*k)) []:=by
 have e:=FO (x:=x) (k:=k)
 obtain⟨h,hh⟩:∃h,h=x/18446744073709551616:=⟨_,rfl⟩
 obtain⟨l,hl⟩:∃l,l=x%18446744073709551616:=⟨_,rfl⟩
 have hh':h<18446744073709551616:=by omega
 have hl':l<18446744073709551616:=by omega
 rw[<- hh,<- hl]at e
 obtain⟨p,hp⟩:∃p,p=l*k/18446744073709551616:=⟨_,rfl⟩
 obtain⟨q,hq⟩:∃q,q=l*k%18446744073709551616:=⟨_,rfl⟩
 rw[<- hp,<- hq]at e
 have hq':q<18446744073709551616:=by omega
 obtain⟨z,hz⟩:∃z,z=h*k:=⟨_,rfl⟩
 obtain⟨y,hy⟩:∃y,y=x*k:=⟨_,rfl⟩
 rw[<- hz,<- hy]at e
 rw[<- hy]at hxk
 obtain⟨t,ht⟩:∃t,t=z+p:=⟨_,rfl⟩
 rw[<- ht]at e
 have e1:y/18446744073709551616=t:=by omega
 have e2:y%18446744073709551616=q:=by omega
 have ht':t<18446744073709551616:=by omega
 have et:IntKind.u64.wrap ((p:Int)+IntKind.u64.wrap ((h:Int)*(k:Int)))=(t:Int):=by
  rw[Ax h k,<- hz,jb,jb]
  clear hxk hx e e1 e2 hq hp hl hh hy hz
  omega
 have r1:cO (x*k)=.agg [.int .u64 (t:Int),.int .u64 (q:Int)]:=by rw[cO,<- hy,e1,e2]
 have r2:cO x=.agg [.int .u64 (h:Int),.int .u64 (l:Int)]:=by rw[cO,<- hh,<- hl]
 rw[r1,r2]
 clear r1 r2 e1 e2 e hh hl hx hxk
 refine start hC (nf:=N75) rfl rfl ?_
 simp[N75,cP k (by omega)]
 refine aa (lQ hC l k hl' (by omega)) (.inl rfl) ?_
 rw[<- hp,<- hq]
 simp[et,cP k (by omega)]
theorem Dm(x n:Nat)(hn:0<n)(hn2:n<9223372036854775808)(hx:x<340282366920938463463374607431768211456):C 76 [cO x,.int .i64 n] (cO (x/n)) []:=by
 obtain⟨e,e0⟩:=EX (x:=x) hn
 obtain⟨h,hh⟩:∃h,h=x/18446744073709551616:=⟨_,rfl⟩
 obtain⟨l,hl⟩:∃l,l=x%18446744073709551616:=⟨_,rfl⟩
 have hh':h<18446744073709551616:=by omega
 have hl':l<18446744073709551616:=by omega
 rw[<- hh,<- hl]at e e0
 obtain⟨p,hp⟩:∃p,p=h/n:=⟨_,rfl⟩
 obtain⟨r,hr⟩:∃r,r=h%n:=⟨_,rfl⟩
 rw[<- hp,<- hr]at e
 rw[<- hr]at e0
 obtain⟨q,hq⟩:∃q,q=(r*18446744073709551616+l)/n:=⟨_,rfl⟩
 rw[<- hq]at e e0
 have hrn:r<n:=by rw[hr];exact x1P _ hn
 have e1:x/n/18446744073709551616=p:=by omega
 have e2:x/n%18446744073709551616=q:=by omega
 have hpl:p<18446744073709551616:=by rw[hp];have:=Nat.div_le_self h n;omega
 have ep:Int.tdiv (h:Int) (n:Int)=(p:Int):=by rw[yR,hp]
 have er:Int.tmod (h:Int) (n:Int)=(r:Int):=by rw[HE,hr]
 have r1:cO (x/n)=.agg [.int .u64 (p:Int),.int .u64 (q:Int)]:=by rw[cO,e1,e2]
 have r2:cO x=.agg [.int .u64 (h:Int),.int .u64 (l:Int)]:=by rw[cO,<- hh,<- hl]
 rw[r1,r2]
 clear r1 r2 e1 e2 e hh hl hx
 refine start hC (nf:=N76) rfl rfl ?_
 have hn0:¬n=0:=by omega
 simp[N76,cP n (by omega),hn0,ep,er,cP p hpl]
 refine⟨aw (by decide +kernel),?_⟩
 refine aa (xH hC r l n hrn (by omega) hl') (.inl rfl) ?_
 rw[<- hq]
 simp
theorem DI(x:Nat):C 77 [cO x] (.int .i64 (so x)) []:=by
 obtain⟨h,hh⟩:∃h,h=x/18446744073709551616:=⟨_,rfl⟩
 obtain⟨l,hl⟩:∃l,l=x%18446744073709551616:=⟨_,rfl⟩
 have r2:cO x=.agg [.int .u64 (h:Int),.int .u64 (l:Int)]:=by rw[cO,<- hh,<- hl]
 rw[r2]
 obtain⟨N,hN⟩:∃N,N=so x:=⟨_,rfl⟩
 rw[<- hN]
 refine start hC (nf:=N77) rfl rfl ?_
 simp[N77]
 refine ay (Nat×Nat×Nat) (fun s=>[(1,.ptr [.int .u64 (h:Int),.int .u64 (l:Int)]),(3,.int .u64 s.2.1),(4,.int .u64 s.2.2)])
  (fun s=>s.1<=63/\(∃a,s.2.1=a*2^s.1)/\s.2.1+2^s.1<=9223372036854775808/\s.2.2=(if s.1=0 then 0 else 2^(s.1-1))/\oF x s.1 s.2.1=N) (fun s=>s.1) (63,0,4611686018427387904) ⟨by omega,⟨0,by simp⟩,by decide,by decide,by rw[hN];rfl⟩ (by simp) ?_
 rintro⟨i,r,b⟩ ⟨h1,⟨a,h2⟩,h3,h4,h5⟩
 simp only at h1 h2 h3 h4 h5
 simp
 refine ab (fun c=>?_) (fun c=>?_)<;>simp[c]<;>simp at c
 ·obtain⟨j,rfl⟩:∃j,i=j+1:=by
   cases i with
   | zero=>simp at h4;omega
   | succ j=>exact⟨j,rfl⟩
  simp at h4
  have hb2:2*b=2^(j+1):=by rw[h4,Nat.pow_succ];omega
  rw[<- hb2]at h3 h2
  have hor:bits .or .u64 (r:Int) (b:Int)=((r+b:Nat):Int):=by
   rw[h2,show a*(2*b)=a*2^(j+1) by rw[hb2]]
   exact orN a b (j+1) (by rw[<- hb2];omega) (by rw[<- hb2,<- h2];omega)
  obtain⟨y,hy⟩:∃y,y=r+b:=⟨_,rfl⟩
  rw[<- hy]at hor
  have hsh:Int.fdiv (b:Int) (2^min 1 IntKind.u64.bits)=((b/2:Nat):Int):=qK b 1
  obtain⟨b',hb'⟩:∃b',b'=b/2:=⟨_,rfl⟩
  rw[<- hb']at hsh
  simp[hor]
  refine aa (lQ hC y y (by omega) (by omega)) (.inl rfl) ?_
  obtain⟨p,hp⟩:∃p,p=y*y/18446744073709551616:=⟨_,rfl⟩
  obtain⟨q,hq⟩:∃q,q=y*y%18446744073709551616:=⟨_,rfl⟩
  rw[<- hp,<- hq]
  have h6:oF x j (if y*y<=x then y else r)=N:=by rw[<- h5,xu,hy,h4]
  have hb1:b'=if j=0 then 0 else 2^(j-1):=by
   rw[hb',h4]
   cases j with
   | zero=>rfl
   | succ j=>simp[Nat.pow_succ]
  have yes:y*y<=x->(j<=63/\(∃a,y=a*2^j)/\y+2^j<=9223372036854775808/\b'=(if j=0 then 0 else 2^(j-1))/\oF x j y=N):=fun hc=>by
   rw[if_pos hc]at h6
   refine⟨by omega,⟨2*a+1,?_⟩,by omega,hb1,h6⟩
   rw[hy,h2,<- h4,x0I,x1b 2 a,Nat.mul_assoc]
   omega
  have no:¬y*y<=x->(j<=63/\(∃a,r=a*2^j)/\r+2^j<=9223372036854775808/\b'=(if j=0 then 0 else 2^(j-1))/\oF x j r=N):=fun hc=>by
   rw[if_neg hc]at h6
   refine⟨by omega,⟨2*a,?_⟩,by omega,hb1,h6⟩
   rw[h2,<- h4,x1b 2 a,Nat.mul_assoc]
  simp
  generalize y*y=Z at *
  refine ab (fun c1=>?_) (fun c1=>?_)<;>simp[c1,hor,hsh]<;>simp at c1
  ·exact⟨j,y,b',yes (by omega),by omega,rfl,rfl⟩
  ·refine ab (fun c2=>?_) (fun c2=>?_)<;>simp[c2,hor,hsh]<;>simp at c2
   ·refine ab (fun c3=>?_) (fun c3=>?_)<;>simp[c3,hor,hsh]<;>simp at c3
    ·exact⟨j,y,b',yes (by omega),by omega,rfl,rfl⟩
    ·exact⟨j,r,b',no (by omega),by omega,rfl,rfl⟩
   ·exact⟨j,r,b',no (by omega),by omega,rfl,rfl⟩
 ·have hi:i=0:=by
   cases i with
   | zero=>rfl
   | succ j =>
    simp at h4
    have:=Nat.two_pow_pos j
    omega
  subst hi
  have:r=N:=h5
  simp at h3
  have e1:IntKind.wrap .i64 (r:Int)=(r:Int):=wrap_i64 rfl (by omega)
  rw[<- this,e1]
end Go.Gv

namespace Go.Gv
def vo(t:List (Int×Int))(i:Nat):Bool:=iG t[i]!.1&&iG t[i]!.2&&(i==0||(t[i-1]!.1<t[i]!.1&&t[i-1]!.2<=t[i]!.2))
def aF(t:List (Int×Int)):Bool:=1<=t.length&&t.length<=100&&(List.range t.length).all (vo t)
variable{C:CC}(hC:al prog C)
include hC
theorem fB(b:Bool)(t:List (Int×Int)):C 72 [slx b (t.map knD)] (.bool (aF t)) []:=by
 refine start hC (nf:=N72) rfl rfl ?_
 simp[N72]
 refine ab (fun h=>?_) (fun h=>?_)<;>simp at h
 ·simp[aF,show t.length=0 by omega]
 simp[h]
 refine ab (fun h2=>?_) (fun h2=>?_)<;>simp at h2
 ·simp[aF,h,h2]
  omega
 simp
 refine ay Nat (fun i=>[(0,slx b (t.map knD)),(13,slx b (t.map knD)),(14,.int .i64 t.length),(15,.int .i64 i)]) (fun i=>i<=t.length/\∀j<i,vo t j=true) (fun i=>t.length-i) 0 (by simp) (by simp) ?_
 rintro i ⟨hi,hj⟩
 simp
 refine ab (fun h3=>?_) (fun h3=>?_)<;>simp at h3
 ·have bad:vo t i=false->aF t=false:=fun hb=>by
   simp only[aF,x0W,List.all_eq_false]
   exact .inr ⟨i,by simpa using h3,by simp[hb]⟩
  have e1:t[i]! = t[i]:=x0c t i h3
  have e2:t[i-1]! = t[i-1]:=x0c t (i-1) (by omega)
  simp only[vo,e1,e2]at bad
  have hw1:IntKind.wrap .i64 ((i:Int)+1)=((i+1:Nat):Int):=wrap_i64 (by omega) (by omega)
  have next:vo t i=true->∃s':Nat,(s'<=t.length/\∀j<s',vo t j=true)/\t.length-s'<t.length-i/\s'=i+1:=fun ho =>
   ⟨i+1,⟨by omega,fun j hjj=>by
    rcases x0y.1 hjj with h|rfl
    ·exact hj j h
    ·exact ho⟩,by omega,rfl⟩
  simp only[vo,e1,e2]at next
  simp[h3,knD]
  refine aa (CL hC _) (.inl rfl) ?_
  cases f1:iG t[i].1
  ·simp
   exact⟨aw (by decide +kernel),bad (by simp[f1])⟩
  simp
  refine aa (CL hC _) (.inl rfl) ?_
  cases f2:iG t[i].2
  ·simp
   exact⟨aw (by decide +kernel),bad (by simp[f2])⟩
  simp
  refine ab (fun h4=>?_) (fun h4=>?_)<;>simp at h4
  ·have hw:IntKind.wrap .i64 ((i:Int)-1)=((i-1:Nat):Int):=wrap_i64 (by omega) (by omega)
   have h5:i-1<t.length:=by omega
   simp[h4,hw,h5,knD]
   refine ab (fun h6=>?_) (fun h6=>?_)<;>simp[h6,hw,h5,knD]<;>simp at h6
   ·refine⟨aw (by decide +kernel),bad ?_⟩
    simp[f1,f2]
    omega
   ·refine⟨aw (by decide +kernel),ab (fun h7=>?_) (fun h7=>?_)⟩<;>simp[h7,hw1]<;>simp at h7
    ·refine bad ?_
     simp[f1,f2]
     omega
    ·obtain⟨s',g1,g2,rfl⟩:=next (by simp[f1,f2,h6,h7])
     exact⟨_,g1,g2,rfl⟩
  ·have hi0:i=0:=by omega
   subst hi0
   simp at hw1
   simp[hw1]
   refine⟨aw (by decide +kernel),?_⟩
   obtain⟨s',g1,g2,rfl⟩:=next (by simp[f1,f2])
   exact⟨_,g1,g2,rfl⟩
 ·have:i=t.length:=by omega
  subst this
  simp[aF,h,h2]
  exact⟨⟨by omega,by omega⟩,hj⟩
end Go.Gv

namespace Go.Gv
theorem de{t:List (Int×Int)}(h:aF t=true):1<=t.length/\t.length<=100:=by
 simp only[aF,x0a,x0b]at h
 exact h.1
theorem kz{t:List (Int×Int)}(h:aF t=true){i:Nat}(hi:i<t.length):iG t[i].1=true/\iG t[i].2=true/\∀j,(hj:j+1=i)->t[j].1<t[i].1/\t[j].2<=t[i].2:=by
 simp only[aF,x0a,x0f,x0M]at h
 have:=h.2 i hi
 simp only[vo,x0c t i hi,x0a,x0u,x0r,x0b]at this
 refine⟨this.1.1,this.1.2,fun j hj=>?_⟩
 subst hj
 have h2:=this.2
 rw[Nat.add_sub_cancel,x0c t j (by omega)]at h2
 rcases h2 with h2|h2
 ·omega
 ·exact h2
theorem lb{t:List (Int×Int)}(h:aF t=true):∀(j i:Nat) (hi:i<t.length) (hj:j<i),t[j].1<t[i].1:=by
 intro j i
 induction i with
 | zero=>intro _ hj;omega
 | succ i ih =>
  intro hi hj
  have h1:=((kz h hi).2.2 i rfl).1
  by_cases e:j=i
  ·subst e;exact h1
  ·have:=ih (by omega) (by omega)
   omega
variable{C:CC}(hC:al prog C)
include hC
theorem kF(k:Int×Int)(x:Int):C 97 [.agg (knD k),.int .i64 x] (.int .i64 (if k.1<x then -1 else if x<k.1 then 1 else 0)) []:=by
 refine start hC (nf:=N97) rfl rfl ?_
 simp[N97,knD]
 refine ab (fun c=>?_) (fun c=>?_)
 ·simp at c
  simp[c]
 ·simp at c
  have c1:¬k.1<x:=by omega
  simp[c1]
  refine ab (fun c2=>?_) (fun c2=>?_)
  ·simp at c2
   simp[c2,c]
  ·simp at c2
   have c3:¬x<k.1:=by omega
   simp[c3,c]
theorem DQ(b:Bool)(t:List (Int×Int))(x:Int)(h:aF t=true)(n:Nat)(hn:n+1=t.length)(hx:t[n].1=x):C 96 [slx b (t.map knD),.int .i64 x,.fn 97 []] (.tup [.int .i64 n,.bool true]) []:=by
 obtain⟨l1,l2⟩:=de h
 refine start hC (nf:=N96) rfl rfl ?_
 simp[N96]
 refine ay (Nat×Nat) (fun s=>[(0,slx b (t.map knD)),(1,.int .i64 x),(2,.fn 97 []),(8,.int .i64 t.length),(9,.int .i64 s.1),(10,.int .i64 s.2)]) (fun s=>s.1<=n/\n<=s.2/\s.2<=n+1) (fun s=>s.2-s.1) (0,t.length) (by simp;omega) (by simp) ?_
 rintro⟨i,j⟩ ⟨h1,h2,h3⟩
 simp only at h1 h2 h3
 simp
 refine ab (fun c=>?_) (fun c=>?_)<;>simp[c]<;>simp at c
 ·obtain⟨m,hm⟩:∃m,m=(i+j)/2:=⟨_,rfl⟩
  have e1:IntKind.wrap .i64 ((i:Int)+(j:Int))=((i+j:Nat):Int):=wrap_i64 (by omega) (by omega)
  obtain⟨s,hs⟩:∃s,s=i+j:=⟨_,rfl⟩
  rw[<- hs]at e1 hm
  have e2:Int.fdiv (s:Int) (2^min 1 IntKind.u64.bits)=(m:Int):=by rw[hm];exact qK s 1
  have e3:IntKind.wrap .i64 (m:Int)=(m:Int):=wrap_i64 rfl (by omega)
  have e4:IntKind.wrap .i64 ((m:Int)+1)=((m+1:Nat):Int):=wrap_i64 (by omega) (by omega)
  have hml:m<t.length:=by omega
  simp[e1,cP s (by omega),e2,e3,hml]
  have hc:=kF hC t[m] x
  simp[knD]at hc ⊢
  refine aa hc (.inl rfl) ?_
  by_cases hmn:m<n
  ·have:=lb h m n (by omega) hmn
   have hlt:t[m].1<x:=by omega
   simp[hlt,e4]
   exact⟨m+1,j,⟨by omega,h2,h3⟩,by omega,by omega,by omega⟩
  ·have:m=n:=by omega
   subst this
   simp[hx]
   exact⟨i,m,⟨by omega,by omega,by omega⟩,by omega,by omega,by omega⟩
 ·have:i=n:=by omega
  subst this
  have hil:i<t.length:=by omega
  simp[hil]
  have hc:=kF hC t[i] x
  simp[knD,hil]at hc ⊢
  refine aa hc (.inl rfl) ?_
  simp[hx]
theorem F0(b:Bool)(t:List (Int×Int))(x:Int)(h:aF t=true)(n:Nat)(hn:n+1=t.length)(hx:t[n].1=x):C 90 [slx b (t.map knD),.int .i64 x] (.tup [.int .i64 t[n].2,.int .i64 0,.int .i64 1]) []:=by
 refine start hC (nf:=N90) rfl rfl ?_
 have hnl:n<t.length:=by omega
 simp[N90]
 refine aa (DQ hC b t x h n hn hx) (.inl rfl) ?_
 simp[knD,hnl]
theorem Bs(b:Bool)(t:List (Int×Int))(x:Int)(h:aF t=true)(n:Nat)(hn:n+1=t.length)(hx:t[n].1=x):C 73 [slx b (t.map knD),.int .i64 x] (.tup [.int .i64 t[n].2,.int .i64 0]) []:=by
 refine start hC (nf:=N73) rfl rfl ?_
 simp[N73]
 refine aa (fB hC b t) (.inl rfl) ?_
 simp[h]
 refine aa (F0 hC b t x h n hn hx) (.inl rfl) ?_
 simp
end Go.Gv

namespace Go.Gv
theorem oI{l l':List Nat}(h1:l.Pairwise (·<·))(h2:l'.Pairwise (·<·))(h:∀x,x∈l↔x∈l'):l=l':=by
 have e:=lM (l:=l.map fun k:Nat=>(k:Int)) (l':=l'.map fun k:Nat=>(k:Int)) (by rw[List.pairwise_map];exact h1.imp fun h=>by omega) (by rw[List.pairwise_map];exact h2.imp fun h=>by omega) (fun x=>by
  simp only[x0w]
  exact⟨fun⟨a,b,c⟩=>⟨a,(h a).1 b,c⟩,fun⟨a,b,c⟩=>⟨a,(h a).2 b,c⟩⟩)
 have e2:=congrArg (List.map Int.toNat) e
 rw[x1K,x1K]at e2
 have f:(Int.toNat∘fun k:Nat=>(k:Int))=id:=by funext k;simp
 rw[f,List.map_id,List.map_id]at e2
 exact e2
def eT(l:List Nat)(x:Nat):Nat:=l.findIdx fun k=>decide (x<=k)
theorem yu(l:List Nat)(x:Nat):eT l x<=l.length:=List.findIdx_le_length
theorem yv{l:List Nat}{x j:Nat}(h:j<eT l x)(hl:j<l.length):l[j]<x:=by
 have:=List.not_of_lt_findIdx h
 simp at this
 exact this
theorem F4{l:List Nat}{x:Nat}(h:eT l x<l.length):x<=l[eT l x]:=by
 have h2:=List.findIdx_getElem (w:=h)
 exact of_decide_eq_true h2
theorem xj{l:List Nat}{x j:Nat}(hl:j<l.length)(h:x<=l[j]):eT l x<=j:=by
 apply Nat.le_of_not_lt
 intro hj
 have:=yv hj hl
 omega
theorem qo{l:List Nat}(hs:l.Pairwise (·<·)){x j:Nat}(hl:j<l.length)(h:l[j]<x):j<eT l x:=by
 apply Nat.lt_of_not_le
 intro hj
 have h1:=F4 (l:=l) (x:=x) (by omega)
 rcases Nat.lt_or_eq_of_le hj with h2|h2
 ·have:=x1w.1 hs (eT l x) j (by omega) hl h2
  omega
 ·simp only[h2]at h1;omega
theorem wU{l:List Nat}{x:Nat}(hs:l.Pairwise (·<·))(hx:x∉l):(l.take (eT l x)++x::l.drop (eT l x)).Pairwise (·<·):=by
 have hp:=hs
 rw[<- List.take_append_drop (eT l x) l,List.pairwise_append]at hp
 obtain⟨h1,h2,h3⟩:=hp
 have lo:∀a∈l.take (eT l x),a<x:=fun a ha=>by
  obtain⟨i,hi,rfl⟩:=x0K.1 ha
  have h4:i<eT l x/\i<l.length:=by simp at hi;omega
  rw[List.getElem_take]
  exact yv h4.1 h4.2
 have hi:∀a∈l.drop (eT l x),x<a:=fun a ha=>by
  obtain⟨i,hi,rfl⟩:=x0K.1 ha
  have hlt:eT l x+i<l.length:=by simp at hi;omega
  rw[List.getElem_drop]
  have hne:l[eT l x+i]≠x:=fun e=>hx (e▸x0h hlt)
  have:¬l[eT l x+i]<x:=fun h=>by have:=qo hs hlt h;omega
  omega
 rw[List.pairwise_append,List.pairwise_cons]
 refine⟨h1,⟨hi,h2⟩,fun a ha b hb=>?_⟩
 rcases x0H.1 hb with rfl|hb
 ·exact lo a ha
 ·exact h3 a ha b hb
theorem wT{n:Nat}{p q:Nat->Bool}{x:Nat}(hx:x<n)(hp:p x=false)(hq:∀v,v<n->q v=(p v||v==x)):((List.range n).filter p).take (eT ((List.range n).filter p) x)++x::((List.range n).filter p).drop (eT ((List.range n).filter p) x)=(List.range n).filter q:=by
 have hs:((List.range n).filter p).Pairwise (·<·):=List.Pairwise.filter _ x1N
 refine oI (wU hs (by simp[hp])) (List.Pairwise.filter _ x1N) fun v=>?_
 have:v∈(List.range n).filter p↔v∈((List.range n).filter p).take (eT ((List.range n).filter p) x)\/v∈((List.range n).filter p).drop (eT ((List.range n).filter p) x):=by
  rw[<- x0n,List.take_append_drop]
 simp only[x0n,x0H]
 rw[or_left_comm,<- this]
 simp only[x1n,x0M]
 constructor
 ·rintro(rfl|⟨h1,h2⟩)
  ·exact⟨hx,by rw[hq _ hx];simp⟩
  ·exact⟨h1,by rw[hq _ h1,h2];rfl⟩
 ·rintro⟨h1,h2⟩
  rw[hq _ h1,x0u,x0r]at h2
  rcases h2 with h2|h2
  ·exact .inr ⟨h1,h2⟩
  ·exact .inl h2
structure oK (n:Nat) (es:List Edg) (out:List Nat):Prop where
 lt:∀v∈out,v<n
 nd:out.Nodup
 pre:∀v∈out,∀u,(u,v)∈es->u∈out
theorem oK.nil(n:Nat)(es:List Edg):oK n es []:=⟨by simp,by simp,by simp⟩
theorem oK.len{n:Nat}{es:List Edg}{out:List Nat}(h:oK n es out):out.length<=n:=by
 have:=(List.nodup_range (n:=n)).sublist (List.Sublist.refl _)
 have hsub:out ⊆ List.range n:=fun v hv=>by simpa using h.lt v hv
 have:=List.Nodup.length_le_of_subset h.nd hsub
 simpa using this
theorem oK.step{n:Nat}{es:List Edg}{out:List Nat}(h:oK n es out){i:Nat}(hi:i∈dS n es out):oK n es (out++[i]):=by
 obtain⟨h1,h2,h3⟩:=iU.1 hi
 refine⟨fun v hv=>?_,?_,fun v hv u hu=>?_⟩
 ·rcases x0n.1 hv with hv|hv
  ·exact h.lt v hv
  ·simp at hv;omega
 ·rw[x1x]
  refine⟨h.nd,by simp,fun a ha b hb=>?_⟩
  simp at hb
  subst hb
  rintro rfl
  exact h2 ha
 ·rcases x0n.1 hv with hv|hv
  ·exact x0n.2 (.inl (h.pre v hv u hu))
  ·simp at hv
   subst hv
   exact x0n.2 (.inl (h3 u hu))
theorem ia(n:Nat)(es:List Edg):∀m,oK n es (aU n es m)
 | 0=>.nil n es
 | m+1=>by
  have ih:=ia n es m
  show oK n es (ku n es (aU n es m))
  unfold ku
  split
  ·exact ih
  ·rename_i v r e
   exact ih.step (by rw[e];simp)
theorem nQ{n:Nat}{es:List Edg}{m i:Nat}{r:List Nat}(h:dS n es (aU n es m)=i::r):aU n es (m+1)=aU n es m++[i]:=by
 show ku n es (aU n es m)=_
 unfold ku
 rw[h]
theorem mN{n:Nat}{es:List Edg}{m:Nat}(h:dS n es (aU n es m)=[]):∀k,aU n es (m+k)=aU n es m
 | 0=>rfl
 | k+1=>by
  show ku n es (aU n es (m+k))=_
  rw[mN h k]
  unfold ku
  rw[h]
theorem FV{n:Nat}{es:List Edg}{m:Nat}(hl:(aU n es m).length=m)(h:dS n es (aU n es m)=[]):bk n es=aU n es m:=by
 have:=(ia n es m).len
 have e:=mN h (n-m)
 rw[show m+(n-m)=n by omega]at e
 exact e
theorem iW(n:Nat)(es:List Edg):(bk n es).length<=n:=(ia n es n).len
theorem DC{n:Nat}{es:List Edg}{out:List Nat}(h:oK n es out){i:Nat}{r:List Nat}(hr:dS n es out=i::r):dS n es (out++[i])=(List.range n).filter fun v=>(!out.contains v&&mW es out v&&!(v==i))||((nxt n es i).contains v&&mW es (out++[i]) v):=by
 have hi:i∈dS n es out:=by rw[hr];simp
 obtain⟨h1,h2,h3⟩:=iU.1 hi
 unfold dS
 apply List.filter_congr
 intro v hv
 have hvn:v<n:=by simpa using hv
 rw[x0J]
 simp only[x0a,x0u,x0t,x0R,mX,iw,beq_eq_false_iff_ne,ne_eq]
 simp only[List.contains_eq_mem,x0x,x0n,x1h,not_or]
 constructor
 ·rintro⟨⟨a1,a2⟩,a3⟩
  by_cases c:(i,v)∈es
  ·exact .inr ⟨⟨hvn,c⟩,a3⟩
  ·refine .inl ⟨⟨a1,fun u hu=>?_⟩,a2⟩
   rcases a3 u hu with b|rfl
   ·exact b
   ·exact absurd hu c
 ·rintro(⟨⟨a1,a2⟩,a3⟩|⟨⟨_,a1⟩,a2⟩)
  ·exact⟨⟨a1,a3⟩,fun u hu=>.inl (a2 u hu)⟩
  ·refine⟨⟨fun hv=>h2 (h.pre v hv i a1),?_⟩,a2⟩
   rintro rfl
   exact h2 (h3 _ a1)
variable{C:CC}(hC:al prog C)
include hC
theorem wm(x:Int):C 299 [.int .i64 x] (.bool false) []:=by
 refine start hC (nf:=N299) rfl rfl ?_
 simp[N299]
theorem Ja(x:Int):C 524 [.int .i64 x] (.bool false) []:=by
 refine start hC (nf:=N524) rfl rfl ?_
 simp[N524]
theorem EN(x y:Int):C 411 [.int .i64 x,.int .i64 y] (.bool (decide (x<y))) []:=by
 refine start hC (nf:=N411) rfl rfl ?_
 simp[N411]
 refine aa (wm hC x) (.inl rfl) ?_
 simp
theorem zH(l:List Nat)(x:Nat)(hs:l.Pairwise (·<·))(hl:l.length<2^40):C 518 [.sl (bg l),.int .i64 x] (.tup [.int .i64 (eT l x),.bool (decide (eT l x<l.length)&&decide (l[eT l x]! = x))]) []:=by
 have hpl:=yu l x
 obtain⟨n,hn⟩:∃n,n=eT l x:=⟨_,rfl⟩
 obtain⟨r,hr⟩:∃r,r=(decide (eT l x<l.length)&&decide (l[eT l x]! = x)):=⟨_,rfl⟩
 have hlt:∀j,(hj:j<l.length)->l[j]<x->j<n:=fun j hj h1=>hn▸qo hs hj h1
 have hle:∀j,(hj:j<l.length)->x<=l[j]->n<=j:=fun j hj h1=>hn▸xj hj h1
 rw[<- hn]at hpl ⊢
 rw[<- hn]at hr
 rw[<- hr]
 refine start hC (nf:=N518) rfl rfl ?_
 simp[N518,bg]
 refine ay (Nat×Nat) (fun s=>[(0,.sl (bg l)),(1,.int .i64 x),(6,.int .i64 l.length),(7,.int .i64 s.1),(8,.int .i64 s.2)]) (fun s=>s.1<=n/\n<=s.2/\s.2<=l.length) (fun s=>s.2-s.1) (0,l.length) (by simp;omega) (by simp[bg]) ?_
 rintro⟨i,j⟩ ⟨h1,h2,h3⟩
 simp only at h1 h2 h3
 simp
 refine ab (fun g=>?_) (fun g=>?_)<;>simp at g<;>simp[g]
 ·obtain⟨m,hm⟩:∃m,m=(i+j)/2:=⟨_,rfl⟩
  have e1:IntKind.wrap .i64 ((i:Int)+(j:Int))=((i+j:Nat):Int):=wrap_i64 (by omega) (by omega)
  obtain⟨s,hsm⟩:∃s,s=i+j:=⟨_,rfl⟩
  rw[<- hsm]at e1 hm
  have e2:Int.fdiv (s:Int) (2^min 1 IntKind.u64.bits)=(m:Int):=by rw[hm];exact qK s 1
  have e3:IntKind.wrap .i64 (m:Int)=(m:Int):=wrap_i64 rfl (by omega)
  have e4:IntKind.wrap .i64 ((m:Int)+1)=((m+1:Nat):Int):=wrap_i64 (by omega) (by omega)
  have hml:m<l.length:=by omega
  simp[e1,cP s (by omega),e2,e3,hml,bg]
  refine aa (EN hC l[m] x) (.inl rfl) ?_
  by_cases hmx:l[m]<x
  ·have:=hlt m hml hmx
   have hi:(l[m]:Int)<x:=by omega
   simp[hmx,e4]
   exact⟨m+1,j,⟨by omega,h2,h3⟩,by omega,by omega,by omega⟩
  ·have:=hle m hml (by omega)
   simp[hmx]
   exact⟨i,m,⟨h1,by omega,by omega⟩,by omega,by omega,by omega⟩
 ·have e0:i=n:=by omega
  subst e0
  by_cases g2:i<l.length
  ·have eg:l[i]! = l[i]:=x0c l i g2
   rw[eg]at hr
   simp[g2,bg]
   by_cases g3:l[i]=x
   ·simp[g3,g2]at hr ⊢
    exact hr
   ·have g3i:¬(l[i]:Int)=x:=by omega
    simp[g3,g3i,g2]at hr ⊢
    refine aa (Ja hC _) (.inl rfl) ?_
    simp[hr]
  ·simp[g2]at hr ⊢
   exact hr
end Go.Gv

namespace Go.Gv
def wtA(n:Nat)(f:Nat->Nat):List (List D):=(List.range n).map fun v=>[.int .i64 (f v:Int)]
theorem lc{n v:Nat}(f:Nat->Nat)(h:v<n):(wtA n f)[v]? = some [.int .i64 (f v:Int)]:=by simp[wtA,h]
theorem yX{n v:Nat}(f:Nat->Nat)(x:Nat):(wtA n f).set v [.int .i64 (x:Int)]=wtA n fun u=>if u=v then x else f u:=by
 unfold wtA
 rw[km]
 apply x0j
 intro u _
 by_cases h:u=v<;>simp[h]
theorem Dc{l:List Nat}{j v:Nat}(hj:j<l.length):v∈l.take (j+1)↔v∈l.take j\/v=l[j]:=by
 rw[x0m hj,x0n,x1h]
theorem jc{n:Nat}{f g:Nat->Nat}(h:∀v,v<n->f v=g v):wtA n f=wtA n g:=by
 unfold wtA
 apply x0j
 intro u hu
 rw[h u (by simpa using hu)]
def wt1(n:Nat)(es:List Edg)(i j v:Nat):Nat:=nA es i v+(if v∈(nxt n es i).take j then 1 else 0)
theorem GS{n:Nat}{es:List Edg}{i v:Nat}(hv:v<n):wt1 n es i (nxt n es i).length v=nA es (i+1) v:=by
 unfold wt1
 rw[zV,x0L]
 simp[iw,hv]
theorem Eu{n:Nat}{es:List Edg}{i j:Nat}(hj:j<(nxt n es i).length)(v:Nat):wt1 n es i (j+1) v=if v=(nxt n es i)[j] then wt1 n es i j v+1 else wt1 n es i j v:=by
 unfold wt1
 simp only[Dc hj]
 have hnd:(nxt n es i)[j]∉(nxt n es i).take j:=by
  intro h
  obtain⟨k,hk,e⟩:=x0K.1 h
  have hk2:k<j:=by simp at hk;omega
  rw[List.getElem_take]at e
  have:=(List.getElem_inj (sb n es i)).1 e
  omega
 by_cases e:v=(nxt n es i)[j]
 ·subst e
  rw[if_pos rfl,if_pos (.inr rfl),if_neg hnd]
 ·rw[if_neg e]
  congr 1
  simp only[e,or_false]
def rd0(n:Nat)(es:List Edg)(i:Nat):List Nat:=(List.range i).filter fun v=>decide (fW n es [] v=0)
theorem qw(n:Nat)(es:List Edg)(i:Nat):rd0 n es (i+1)=rd0 n es i++(if fW n es [] i=0 then [i] else []):=by
 unfold rd0
 rw[List.range_succ,List.filter_append]
 congr 1
 by_cases h:fW n es [] i=0<;>simp[h]
theorem F7{n:Nat}{es:List Edg}(hg:inG n es):rd0 n es n=dS n es []:=by
 unfold rd0 dS
 apply List.filter_congr
 intro v _
 rw[x0J]
 simp[rE hg]
theorem F8(n:Nat)(es:List Edg)(i:Nat):(rd0 n es i).length<=i:=by
 have:=x08 (fun v=>decide (fW n es [] v=0)) (List.range i)
 simpa[rd0]using this
def wt2(n:Nat)(es:List Edg)(out:List Nat)(i j v:Nat):Nat:=if v∈(nxt n es i).take j then fW n es (out++[i]) v else fW n es out v
def rdp(n:Nat)(es:List Edg)(out:List Nat)(i j v:Nat):Bool:=(!out.contains v&&mW es out v&&!(v==i))||(((nxt n es i).take j).contains v&&mW es (out++[i]) v)
def rd2(n:Nat)(es:List Edg)(out:List Nat)(i j:Nat):List Nat:=(List.range n).filter (rdp n es out i j)
theorem Gc(n:Nat)(es:List Edg)(out:List Nat)(i j:Nat):(rd2 n es out i j).length<=n:=by
 have:=x08 (rdp n es out i j) (List.range n)
 simpa[rd2]using this
theorem yo{n:Nat}{es:List Edg}{i j:Nat}(hj:j<(nxt n es i).length):(nxt n es i)[j]∉(nxt n es i).take j:=by
 intro h
 obtain⟨k,hk,e⟩:=x0K.1 h
 have hk2:k<j:=by simp at hk;omega
 rw[List.getElem_take]at e
 have:=(List.getElem_inj (sb n es i)).1 e
 omega
theorem vB{n:Nat}{es:List Edg}{out:List Nat}{i:Nat}{r:List Nat}(h:dS n es out=i::r):rd2 n es out i 0=r:=by
 have hs:(dS n es out).Pairwise (·<·):=List.Pairwise.filter _ x1N
 have hm:∀v,v∈dS n es out↔v=i\/v∈r:=fun v=>by rw[h];simp
 rw[h,List.pairwise_cons]at hs
 refine oI (List.Pairwise.filter _ x1N) hs.2 fun v=>?_
 have h2:=hm v
 simp only[rd2,rdp,x1n,x0M,List.take_zero,List.contains_nil,x1C,Bool.or_false,x0a,x0t,beq_eq_false_iff_ne]
 simp only[dS,x1n,x0M,x0a,x0t]at h2
 constructor
 ·rintro⟨a,b,c⟩
  rcases h2.1 ⟨a,b⟩with e|e
  ·exact absurd e c
  ·exact e
 ·intro hv
  obtain⟨a,b⟩:=h2.2 (.inr hv)
  refine⟨a,b,?_⟩
  rintro rfl
  have:=hs.1 v hv
  omega
theorem Ga{n:Nat}{es:List Edg}{out:List Nat}(h:oK n es out){i:Nat}{r:List Nat}(hr:dS n es out=i::r):rd2 n es out i (nxt n es i).length=dS n es (out++[i]):=by
 rw[DC h hr]
 unfold rd2 rdp
 rw[x0L]
theorem GT{n:Nat}{es:List Edg}{out:List Nat}{i:Nat}(hi:i<n)(ho:i∉out){v:Nat}(hv:v<n):wt2 n es out i (nxt n es i).length v=fW n es (out++[i]) v:=by
 unfold wt2
 rw[x0L]
 split
 ·rfl
 ·rename_i h
  rw[rD hi ho,if_neg (fun e=>h (iw.2 ⟨hv,e⟩)),x1r]
theorem v7{n:Nat}{es:List Edg}{out:List Nat}{i j:Nat}(hj:j<(nxt n es i).length)(v:Nat):wt2 n es out i (j+1) v=if v=(nxt n es i)[j] then fW n es (out++[i]) v else wt2 n es out i j v:=by
 unfold wt2
 simp only[Dc hj]
 by_cases e:v=(nxt n es i)[j]
 ·rw[if_pos e,if_pos (.inr e)]
 ·rw[if_neg e]
  simp only[e,or_false]
theorem vC{n:Nat}{es:List Edg}{out:List Nat}{i j:Nat}(hj:j<(nxt n es i).length)(v:Nat):rdp n es out i (j+1) v=(rdp n es out i j v||(v==(nxt n es i)[j]&&mW es (out++[i]) v)):=by
 unfold rdp
 rw[x0m hj]
 rw[x0J]
 simp only[x0u,x0a,x0R,x0n,x1h,x0r]
 constructor
 ·rintro(h|⟨h|h,h'⟩)
  ·exact .inl (.inl h)
  ·exact .inl (.inr ⟨h,h'⟩)
  ·exact .inr ⟨h,h'⟩
 ·rintro((h|⟨h,h'⟩)|⟨h,h'⟩)
  ·exact .inl h
  ·exact .inr ⟨.inl h,h'⟩
  ·exact .inr ⟨.inr h,h'⟩
theorem DA{n:Nat}{es:List Edg}{out:List Nat}{i j:Nat}(hj:j<(nxt n es i).length)(h:mW es (out++[i]) (nxt n es i)[j]=false):rd2 n es out i (j+1)=rd2 n es out i j:=by
 unfold rd2
 apply List.filter_congr
 intro v _
 rw[vC hj]
 by_cases e:v=(nxt n es i)[j]
 ·subst e;simp[h]
 ·simp[e]
theorem Gb{n:Nat}{es:List Edg}{out:List Nat}(hI:oK n es out){i:Nat}{r:List Nat}(hr:dS n es out=i::r){j:Nat}(hj:j<(nxt n es i).length)(h:mW es (out++[i]) (nxt n es i)[j]=true) :
  (rd2 n es out i j).take (eT (rd2 n es out i j) (nxt n es i)[j])++(nxt n es i)[j]::(rd2 n es out i j).drop (eT (rd2 n es out i j) (nxt n es i)[j])=rd2 n es out i (j+1):=by
 obtain⟨h1,h2⟩:=iw.1 (x0h hj)
 have hi:i∈dS n es out:=by rw[hr];simp
 obtain⟨i1,i2,i3⟩:=iU.1 hi
 refine wT h1 ?_ (fun v _=>?_)
 ·unfold rdp
  rw[x0N]
  constructor
  ·have:mW es out (nxt n es i)[j]=false:=by
    rw[<- x0U,mX]
    exact fun h=>i2 (h _ h2)
   simp[this]
  ·have:=yo hj
   simp[this]
 ·rw[vC hj]
  by_cases e:v=(nxt n es i)[j]
  ·rw[e,h,Bool.and_true]
  ·have e':(v==(nxt n es i)[j])=false:=by simpa using e
   rw[e',x1C]
theorem F9(n:Nat)(es:List Edg)(out:List Nat)(i j:Nat):(rd2 n es out i j).Pairwise (·<·):=List.Pairwise.filter _ x1N
theorem DB(n:Nat)(es:List Edg)(out:List Nat):(dS n es out).length<=n:=by
 have:=x08 (fun v=>!out.contains v&&mW es out v) (List.range n)
 simpa[dS]using this
end Go.Gv

namespace Go.Gv
def ndR(n:Nat)(es:List Edg):List (List D):=(List.range n).map fun v=>[ndD (nxt n es v)]
theorem ym{n v:Nat}(es:List Edg)(h:v<n):(ndR n es)[v]? = some [ndD (nxt n es v)]:=by simp[ndR,h]
theorem PY(n:Nat)(es:List Edg)(i:Nat):wt1 n es i 0=nA es i:=by funext v;simp[wt1]
theorem PZ(n:Nat)(es:List Edg)(out:List Nat)(i:Nat):wt2 n es out i 0=fW n es out:=by funext v;simp[wt2]
theorem FP(n:Nat)(es:List Edg):(ndR n es).length=n:=by simp[ndR]
theorem ga{l:List Nat}{j:Nat}(h:j<l.length):(bg l)[j]? = some [.int .i64 (l[j]:Int)]:=by simp[bg,h]
variable{C:CC}(hC:al prog C)
include hC
set_option maxHeartbeats 1000000 in
theorem yq(hS:SlC C){b:Bool}{n:Nat}{es:List Edg}(hn:n<=300)(he:es.length<=1000)(hg:inG n es):C 504 [.int .i64 n,slx b (es.map edK)] (ndD (bk n es)) []:=by
 have kn:=IV hC hS (b:=b) hn he hg
 have enx:IX n es=.sl (ndR n es):=rfl
 rw[enx]at kn
 refine start hC (nf:=N504) rfl rfl ?_
 simp[N504]
 refine aa kn (.inr rfl) ?_
 simp[FP]
 refine⟨by omega,?_⟩
 refine ay Nat (fun i=>[(5,.sl (ndR n es)),(6,.ref (.r 10096) 0 n),(10096,.blk 1 (wtA n (nA es i))),(25,.sl (ndR n es)),(26,.int .i64 n),(27,.int .i64 i)]) (fun i=>i<=n) (fun i=>n-i) 0 (by simp) (by simp[wtA,nA,pg]) ?_
 rintro i hi
 simp
 refine ab (fun h=>?_) (fun h=>?_)<;>simp[h]<;>simp at h
 ·have hw:IntKind.wrap .i64 ((i:Int)+1)=((i+1:Nat):Int):=wrap_i64 (by omega) (by omega)
  have hlen:=yn n es i
  simp[h,aD (ym es h),ndD,aY]
  refine ay Nat (fun j=>[(5,.sl (ndR n es)),(6,.ref (.r 10096) 0 n),(10096,.blk 1 (wtA n (wt1 n es i j))),(25,.sl (ndR n es)),(26,.int .i64 n),(27,.int .i64 i),(31,.sl (bg (nxt n es i))),(32,.int .i64 (nxt n es i).length),(33,.int .i64 j)]) (fun j=>j<=(nxt n es i).length) (fun j=>(nxt n es i).length-j) 0 (by simp) (by simp[PY,ndD]) ?_
  rintro j hj
  simp
  refine ab (fun g=>?_) (fun g=>?_)<;>simp[g]<;>simp at g
  ·have hw2:IntKind.wrap .i64 ((j:Int)+1)=((j+1:Nat):Int):=wrap_i64 (by omega) (by omega)
   obtain⟨k1,k2⟩:=iw.1 (x0h g)
   have kle:=ET es i (nxt n es i)[j]
   have hwv:IntKind.wrap .i64 ((wt1 n es i j (nxt n es i)[j]:Int)+1)=((wt1 n es i j (nxt n es i)[j]+1:Nat):Int):=wrap_i64 (by omega) (by unfold wt1;split<;>omega)
   simp[g,aD (ga g),k1,bj (lc _ k1),lc _ k1,hwv]
   refine⟨j+1,by omega,by omega,?_,hw2⟩
   have e1:=yX (n:=n) (v:=(nxt n es i)[j]) (wt1 n es i j) (wt1 n es i j (nxt n es i)[j]+1)
   rw[show((wt1 n es i j (nxt n es i)[j]+1:Nat):Int)=(wt1 n es i j (nxt n es i)[j]:Int)+1 by omega]at e1
   rw[e1]
   refine jc fun v _=>?_
   rw[Eu g]
   split
   ·rename_i e;rw[e]
   ·rfl
  ·have ej:j=(nxt n es i).length:=by omega
   subst ej
   simp[hw]
   exact⟨i+1,by omega,by omega,jc fun v hv=>GS hv,by omega⟩
 ·have ei:n=i:=by omega
  subst ei
  clear h hi
  have e0:wtA n (nA es n)=wtA n (fW n es []):=jc fun v _=>BW n es v
  rw[e0]
  refine ay Nat (fun i=>[(5,.sl (ndR n es)),(6,.ref (.r 10096) 0 n),(10096,.blk 1 (wtA n (fW n es []))),(11,.ref (.r 10176) 0 (rd0 n es i).length),(10176,.blk 1 (bg (rd0 n es i))),(12,.ref (.r 10192) 0 0),(10192,.blk 1 []),(45,.ref (.r 10096) 0 n),(46,.int .i64 n),(47,.int .i64 i)]) (fun i=>i<=n) (fun i=>n-i) 0 (by simp) (by simp[rd0,bg]) ?_
  rintro i hi
  simp
  refine ab (fun h=>?_) (fun h=>?_)<;>simp[h]<;>simp at h
  ·have hw:IntKind.wrap .i64 ((i:Int)+1)=((i+1:Nat):Int):=wrap_i64 (by omega) (by omega)
   have hrl:=F8 n es i
   simp[h,bj (lc _ h),lc _ h]
   refine ab (fun c=>?_) (fun c=>?_)<;>simp at c<;>simp[c,aY]
   ·refine⟨by omega,i+1,by omega,by omega,?_,?_,hw⟩
    ·rw[qw,if_pos c];simp
    ·rw[iT,my,qw,if_pos c]
   ·simp[hw]
    refine⟨i+1,by omega,by omega,?_⟩
    rw[qw,if_neg c,x1M]
    exact⟨rfl,rfl,by omega⟩
  ·have ei:i=n:=by omega
   rw[ei,F7 hg]
   clear ei h hi i
   refine ay (Nat×Nat×List (List D)) (fun s=>[(5,.sl (ndR n es)),(6,.ref (.r 10096) 0 n),(10096,.blk 1 (wtA n (fW n es (aU n es s.1)))),(11,.ref (.r 10176) s.2.1 (dS n es (aU n es s.1)).length),(10176,.blk 1 s.2.2),(12,.ref (.r 10192) 0 s.1),(10192,.blk 1 (bg (aU n es s.1)))])
    (fun s=>(aU n es s.1).length=s.1/\s.2.1+(dS n es (aU n es s.1)).length<=s.2.2.length/\(s.2.2.drop s.2.1).take (dS n es (aU n es s.1)).length=bg (dS n es (aU n es s.1))) (fun s=>n-s.1) (0,0,bg (dS n es [])) (by simp[aU,aY,iT]) (by simp[aU,bg]) ?_
   rintro⟨m,k,B⟩ ⟨hm,hkB,hB⟩
   simp only at hm hkB hB
   simp
   have hI:=ia n es m
   have hmn:=hI.len
   obtain⟨out,hout⟩:∃out,out=aU n es m:=⟨_,rfl⟩
   cases hr:dS n es (aU n es m) with
   | nil =>
    have e1:(bg (aU n es m)).map (fun e=>e.map bq)=bg (aU n es m):=by simp[bg,bq]
    have e2:(bg (aU n es m)).take m=bg (aU n es m):=x0i (by rw[aY];omega)
    simp[hm]
    rw[e1,e2,FV hm hr]
    exact⟨by rw[aY];omega,rfl⟩
   | cons i r =>
    have hi:i∈dS n es (aU n es m):=by rw[hr];simp
    obtain⟨i1,i2,i3⟩:=iU.1 hi
    have hrl:=DB n es (aU n es m)
    rw[hr]at hkB hB hrl
    simp only[x0T]at hkB hB hrl
    have hBk:B[k]? = some [.int .i64 (i:Int)]:=by
     have:=congrArg (fun l=>l[0]?) hB
     simpa[bg]using this
    have hBr:(B.drop (k+1)).take r.length=bg r:=by
     have:=congrArg (fun l=>l.drop 1) hB
     simp only[List.drop_take,List.drop_drop]at this
     simpa[bg]using this
    have hS1:=hI.step hi
    have hsl:=hS1.len
    have eN:=nQ hr
    have e2:(bg (aU n es m)).take m=bg (aU n es m):=x0i (by rw[aY];omega)
    have hlen:=yn n es i
    simp only[x0C,List.length_singleton,hm]at hsl
    simp[bj hBk]
    refine⟨by rw[aY];omega,by omega,?_⟩
    rw[e2,my,<- eN]
    simp[aD (ym es i1),ndD,aY]
    refine ay (Nat×Nat×List (List D)) (fun s=>[(5,.sl (ndR n es)),(6,.ref (.r 10096) 0 n),(10096,.blk 1 (wtA n (wt2 n es (aU n es m) i s.1))),(11,.ref (.r 10176) s.2.1 (rd2 n es (aU n es m) i s.1).length),(10176,.blk 1 s.2.2),(12,.ref (.r 10192) 0 (m+1)),(10192,.blk 1 (bg (aU n es (m+1)))),(74,.sl (bg (nxt n es i))),(75,.int .i64 (nxt n es i).length),(76,.int .i64 s.1)])
     (fun s=>s.1<=(nxt n es i).length/\s.2.1+(rd2 n es (aU n es m) i s.1).length<=s.2.2.length/\(s.2.2.drop s.2.1).take (rd2 n es (aU n es m) i s.1).length=bg (rd2 n es (aU n es m) i s.1)) (fun s=>(nxt n es i).length-s.1) (0,k+1,B) (by simp[vB hr];exact⟨by omega,hBr⟩) (by simp[vB hr,ndD,PZ]) ?_
    rintro⟨j,k',B'⟩ ⟨hj,hkB',hB'⟩
    simp only at hj hkB' hB'
    simp
    refine ab (fun g=>?_) (fun g=>?_)<;>simp[g]<;>simp at g
    ·have hw2:IntKind.wrap .i64 ((j:Int)+1)=((j+1:Nat):Int):=wrap_i64 (by omega) (by omega)
     obtain⟨k1,k2⟩:=iw.1 (x0h g)
     have hw0:wt2 n es (aU n es m) i j (nxt n es i)[j]=fW n es (aU n es m++[i]) (nxt n es i)[j]+1:=by
      unfold wt2
      rw[if_neg (yo g),rD i1 i2,if_pos k2]
     have hcl:fW n es (aU n es m++[i]) (nxt n es i)[j]<=n:=by
      have:=x08 (fun u=>es.contains (u,(nxt n es i)[j])&&!(aU n es m++[i]).contains u) (List.range n)
      simpa[fW]using this
     have hwv:IntKind.wrap .i64 ((wt2 n es (aU n es m) i j (nxt n es i)[j]:Int)-1)=(fW n es (aU n es m++[i]) (nxt n es i)[j]:Int):=wrap_i64 (by omega) (by omega)
     have ew:=yX (n:=n) (v:=(nxt n es i)[j]) (wt2 n es (aU n es m) i j) (fW n es (aU n es m++[i]) (nxt n es i)[j])
     have ew2:(wtA n fun u=>if u=(nxt n es i)[j] then fW n es (aU n es m++[i]) (nxt n es i)[j] else wt2 n es (aU n es m) i j u)=wtA n (wt2 n es (aU n es m) i (j+1)):=jc fun v _=>by
      rw[v7 g]
      by_cases e:v=(nxt n es i)[j]
      ·rw[if_pos e,if_pos e,e]
      ·rw[if_neg e,if_neg e]
     rw[ew2]at ew
     have hwn:wt2 n es (aU n es m) i (j+1) (nxt n es i)[j]=fW n es (aU n es m++[i]) (nxt n es i)[j]:=by rw[v7 g,if_pos rfl]
     simp[g,aD (ga g),k1,bj (lc _ k1),lc _ k1,hwv,ew,hwn]
     have hl2:=Gc n es (aU n es m) i j
     have p0:=rE hg (out:=aU n es m++[i]) (k:=(nxt n es i)[j])
     refine ab (fun c=>?_) (fun c=>?_)<;>simp at c
     ·have pk:=p0.1 c
      have hins:=Gb hI hr g pk
      have kb:=zH hC (rd2 n es (aU n es m) i j) (nxt n es i)[j] (F9 n es _ i j) (by omega)
      have hpl:=yu (rd2 n es (aU n es m) i j) (nxt n es i)[j]
      have kI:=hS.insert ((rd2 n es (aU n es m) i j).map fun k:Nat=>(k:Int)) (eT (rd2 n es (aU n es m) i j) (nxt n es i)[j]) (nxt n es i)[j] (by simpa using hpl) (by simp;omega)
      have eI:((((rd2 n es (aU n es m) i j).map fun k:Nat=>(k:Int)).take (eT (rd2 n es (aU n es m) i j) (nxt n es i)[j])++((nxt n es i)[j]:Int)::((rd2 n es (aU n es m) i j).map fun k:Nat=>(k:Int)).drop (eT (rd2 n es (aU n es m) i j) (nxt n es i)[j])).map fun n=>[D.int .i64 n])=bg (rd2 n es (aU n es m) i (j+1)):=by
       rw[<- hins]
       simp[bg]
       rfl
      rw[eI,<- nI]at kI
      have e4:(bg (rd2 n es (aU n es m) i j)).map (fun e=>e.map bq)=bg (rd2 n es (aU n es m) i j):=by simp[bg,bq]
      have e5:(((B'.drop k').take (rd2 n es (aU n es m) i j).length).map fun e=>e.map bq)=bg (rd2 n es (aU n es m) i j):=by rw[hB',e4]
      simp[hkB']
      simp at e5
      rw[e5]
      refine aa kb (.inl rfl) ?_
      simp[hkB',hB']
      refine⟨fun e he=>(tp e he).2,?_⟩
      refine oY kI tp ?_
      simp[hw2,aY]
      exact⟨j+1,0,bg (rd2 n es (aU n es m) i (j+1)),⟨by omega,by simp[aY],by simp[iT]⟩,by omega,by simp⟩
     ·have pk:mW es (aU n es m++[i]) (nxt n es i)[j]=false:=by
       rw[<- x0U]
       exact fun e=>c (p0.2 e)
      have hsame:=DA g pk
      simp[hw2]
      exact⟨j+1,k',B',⟨by omega,by rw[hsame];exact hkB',by rw[hsame];exact hB'⟩,by omega,by simp[hsame]⟩
    ·have ej:j=(nxt n es i).length:=by omega
     subst ej
     have er:=Ga hI hr
     rw[<- eN]at er
     rw[er]at hkB' hB' ⊢
     exact⟨m+1,k',B',⟨by rw[eN];simp[hm],hkB',hB'⟩,by omega,jc fun v hv=>by rw[GT i1 i2 hv,eN],by simp⟩
end Go.Gv

namespace Go.Gv
structure Lnk where
 name:List UInt8
 src:List UInt8
 dst:List UInt8
 kind:Int
 len:Int
 up:Int
 down:Int
 sect:List UInt8
 width:Int
 height:Int
 curveN:Bool
 curve:List (Int×Int)
 deriving Inhabited
def aJ(l:Lnk):List D:=[.str l.name,.str l.src,.str l.dst,.int .i64 l.kind,.int .i64 l.len,.int .i64 l.up,.int .i64 l.down,.str l.sect,.int .i64 l.width,.int .i64 l.height,slx l.curveN (l.curve.map knD)]
structure Nod where
 name:List UInt8
 kind:Int
 x:Int
 y:Int
 invert:Int
 ground:Int
 shapeN:Bool
 shape:List (Int×Int)
 prot:Bool
 reserve:Int
 deriving Inhabited
def bz(n:Nod):List D:=[.str n.name,.int .i64 n.kind,.int .i64 n.x,.int .i64 n.y,.int .i64 n.invert,.int .i64 n.ground,slx n.shapeN (n.shape.map knD),.bool n.prot,.int .i64 n.reserve]
def dO(n:Int):Bool:=decide (-4194304<=n)&&decide (n<=4194304)
variable{C:CC}(hC:al prog C)
include hC
theorem dV(n a b:Int):C 172 [.int .i64 n,.int .i64 a,.int .i64 b] (.bool (decide (a<=n)&&decide (n<=b))) []:=by
 refine start hC (nf:=N172) rfl rfl ?_
 simp[N172]
 refine ab (fun h=>?_) (fun h=>?_)<;>simp at h<;>simp[h]<;>omega
theorem Da(n:Int):C 183 [.int .i64 n] (.bool (!dO n)) []:=by
 have e:(!dO n)=(decide (n < -4194304)||decide (4194304<n)):=by
  rw[dO,x0J]
  simp only[x0t,x0W,x0x,x0u,x0b]
  omega
 rw[e]
 refine start hC (nf:=N183) rfl rfl ?_
 simp[N183]
 refine ab (fun h=>?_) (fun h=>?_)<;>simp at h<;>simp[h]
 intro _;omega
theorem tt(xs:List Int)(hl:xs.length<2^62):C 173 [.sl (xs.map fun n=>[.int .i64 n])] (.bool (xs.all dO)) []:=by
 refine start hC (nf:=N173) rfl rfl ?_
 simp[N173]
 have h:=mq hC (b:=false) (xs:=xs) (g:=183) (cs:=[]) (fun n=>!dO n) hl (fun n _=>Da hC n)
 rw[dc]at h
 refine aa h (.inl rfl) ?_
 simp
 rw[x0J];simp
end Go.Gv

namespace Go.Gv
def gn(nm:List UInt8)(n:Nod):Bool:=n.name==nm
def pV(nm:List UInt8)(l:Lnk):Bool:=l.name==nm
variable{C:CC}(hC:al prog C)
include hC
theorem u1{b:Bool}{xs:List Nod}{g:Nat}{cs:List D}(p:Nod->Bool)(hs:xs.length<2^62)(hp:∀x∈xs,C g (.agg (bz x)::cs) (.bool (p x)) []):C 175 [slx b (xs.map fun x=>bz x),.fn g cs] (.int .i64 (ct p xs)) []:=by
 refine start hC (nf:=N175) rfl rfl ?_
 simp[N175]
 refine ay Nat (fun i=>[(0,slx b (xs.map fun x=>bz x)),(1,.fn g cs),(7,.int .i64 xs.length),(8,.int .i64 i)]) (fun i=>i<=xs.length/\∀(j:Nat) (h:j<xs.length),j<i->p xs[j]=false) (fun i=>xs.length-i) 0 (by simp) (by simp) ?_
 rintro i ⟨hi,hj⟩
 simp
 refine ab (fun h=>?_) (fun h=>?_)<;>simp[h]<;>simp at h
 ·have hw:IntKind.wrap .i64 ((i:Int)+1)=((i+1:Nat):Int):=wrap_i64 (by omega) (by omega)
  have hc:=hp _ (x0h h)
  simp[h,bz]at hc ⊢
  refine aa hc (.inl rfl) ?_
  simp
  refine ab (fun h1=>?_) (fun h1=>?_)<;>simp[h1,hw]
  ·rw[dE hj h h1]
  ·refine⟨i+1,⟨by omega,fun j hl hjj=>?_⟩,by omega,rfl⟩
   rcases x0y.1 hjj with h2|rfl
   ·exact hj j hl h2
   ·exact h1
 ·rw[fh (fun j hl=>hj j hl (by omega))]
theorem uZ{b:Bool}{xs:List Lnk}{g:Nat}{cs:List D}(p:Lnk->Bool)(hs:xs.length<2^62)(hp:∀x∈xs,C g (.agg (aJ x)::cs) (.bool (p x)) []):C 181 [slx b (xs.map fun x=>aJ x),.fn g cs] (.int .i64 (ct p xs)) []:=by
 refine start hC (nf:=N181) rfl rfl ?_
 simp[N181]
 refine ay Nat (fun i=>[(0,slx b (xs.map fun x=>aJ x)),(1,.fn g cs),(7,.int .i64 xs.length),(8,.int .i64 i)]) (fun i=>i<=xs.length/\∀(j:Nat) (h:j<xs.length),j<i->p xs[j]=false) (fun i=>xs.length-i) 0 (by simp) (by simp) ?_
 rintro i ⟨hi,hj⟩
 simp
 refine ab (fun h=>?_) (fun h=>?_)<;>simp[h]<;>simp at h
 ·have hw:IntKind.wrap .i64 ((i:Int)+1)=((i+1:Nat):Int):=wrap_i64 (by omega) (by omega)
  have hc:=hp _ (x0h h)
  simp[h,aJ]at hc ⊢
  refine aa hc (.inl rfl) ?_
  simp
  refine ab (fun h1=>?_) (fun h1=>?_)<;>simp[h1,hw]
  ·rw[dE hj h h1]
  ·refine⟨i+1,⟨by omega,fun j hl hjj=>?_⟩,by omega,rfl⟩
   rcases x0y.1 hjj with h2|rfl
   ·exact hj j hl h2
   ·exact h1
 ·rw[fh (fun j hl=>hj j hl (by omega))]
theorem Fx{b:Bool}{xs:List (Int×Int)}{g:Nat}{cs:List D}(p:(Int×Int)->Bool)(hs:xs.length<2^62)(hp:∀x∈xs,C g (.agg (knD x)::cs) (.bool (p x)) []):C 185 [slx b (xs.map fun x=>knD x),.fn g cs] (.int .i64 (ct p xs)) []:=by
 refine start hC (nf:=N185) rfl rfl ?_
 simp[N185]
 refine ay Nat (fun i=>[(0,slx b (xs.map fun x=>knD x)),(1,.fn g cs),(7,.int .i64 xs.length),(8,.int .i64 i)]) (fun i=>i<=xs.length/\∀(j:Nat) (h:j<xs.length),j<i->p xs[j]=false) (fun i=>xs.length-i) 0 (by simp) (by simp) ?_
 rintro i ⟨hi,hj⟩
 simp
 refine ab (fun h=>?_) (fun h=>?_)<;>simp[h]<;>simp at h
 ·have hw:IntKind.wrap .i64 ((i:Int)+1)=((i+1:Nat):Int):=wrap_i64 (by omega) (by omega)
  have hc:=hp _ (x0h h)
  simp[h,knD]at hc ⊢
  refine aa hc (.inl rfl) ?_
  simp
  refine ab (fun h1=>?_) (fun h1=>?_)<;>simp[h1,hw]
  ·rw[dE hj h h1]
  ·refine⟨i+1,⟨by omega,fun j hl hjj=>?_⟩,by omega,rfl⟩
   rcases x0y.1 hjj with h2|rfl
   ·exact hj j hl h2
   ·exact h1
 ·rw[fh (fun j hl=>hj j hl (by omega))]
theorem Fp{b:Bool}{xs:List (Int×Int)}{g:Nat}{cs:List D}(p:(Int×Int)->Bool)(hs:xs.length<2^62)(hp:∀x∈xs,C g (.agg (knD x)::cs) (.bool (p x)) []):C 179 [slx b (xs.map fun x=>knD x),.fn g cs] (.bool (xs.any p)) []:=by
 refine start hC (nf:=N179) rfl rfl ?_
 simp[N179]
 refine aa (Fx hC p hs hp) (.inl rfl) ?_
 simp[f9]
theorem qe(b1 b2:Bool)(ns:List Nod)(ls:List Lnk)(nm:List UInt8)(hn:ns.length<2^62):C 169 [.agg [slx b1 (ns.map bz),slx b2 (ls.map aJ)],.str nm] (.int .i64 (ct (gn nm) ns)) []:=by
 have h1:∀x∈ns,C 176 (.agg (bz x)::[.ptr [.str nm]]) (.bool (gn nm x)) []:=fun x _=>by
  refine start hC (nf:=N176) rfl rfl ?_
  simp[N176,bz,gn]
  rw[x0J];simp
 refine start hC (nf:=N169) rfl rfl ?_
 simp[N169]
 refine aa (u1 hC (b:=b1) _ hn h1) (.inl rfl) ?_
 simp
theorem IB(b1 b2:Bool)(ns:List Nod)(ls:List Lnk)(nm:List UInt8)(hn:ls.length<2^62):C 171 [.agg [slx b1 (ns.map bz),slx b2 (ls.map aJ)],.str nm] (.int .i64 (ct (pV nm) ls)) []:=by
 have h1:∀x∈ls,C 182 (.agg (aJ x)::[.ptr [.str nm]]) (.bool (pV nm x)) []:=fun x _=>by
  refine start hC (nf:=N182) rfl rfl ?_
  simp[N182,aJ,pV]
  rw[x0J];simp
 refine start hC (nf:=N171) rfl rfl ?_
 simp[N171]
 refine aa (uZ hC (b:=b2) _ hn h1) (.inl rfl) ?_
 simp
theorem wC(b b':Bool)(xs ys:List (Int×Int))(hx:xs.length<2^62)(hy:ys.length<2^62):C 184 [slx b (xs.map knD),slx b' (ys.map knD)] (.bool (decide (xs=ys))) []:=by
 obtain⟨r,hr⟩:∃r,r=decide (xs=ys):=⟨_,rfl⟩
 rw[<- hr]
 refine start hC (nf:=N184) rfl rfl ?_
 simp[N184]
 refine ab (fun h=>?_) (fun h=>?_)<;>simp at h<;>simp[h]
 ·rw[hr,decide_eq_false]
  intro e
  exact h (by rw[e])
 have h':xs.length=ys.length:=by omega
 refine ay Nat (fun i=>[(0,slx b (xs.map knD)),(1,slx b' (ys.map knD)),(12,.int .i64 xs.length),(13,.int .i64 i)])
  (fun i=>i<=xs.length/\∀(k:Nat) (h1:k<xs.length) (h2:k<ys.length),k<i->xs[k]=ys[k]) (fun i=>xs.length-i) 0 (by simp) (by simp[h']) ?_
 rintro i ⟨hi,hok⟩
 simp
 refine ab (fun h1=>?_) (fun h1=>?_)<;>simp at h1<;>simp[h1]
 ·have hw:IntKind.wrap .i64 ((i:Int)+1)=((i+1:Nat):Int):=wrap_i64 (by omega) (by omega)
  have hy1:i<ys.length:=by omega
  simp[h1,hy1,knD]
  refine⟨aw (by decide +kernel),?_⟩
  by_cases h2:xs[i]=ys[i]
  ·simp[h2,hw]
   refine⟨i+1,⟨by omega,fun k k1 k2 hk=>?_⟩,by omega,rfl⟩
   rcases x0y.1 hk with h5|rfl
   ·exact hok k k1 k2 h5
   ·exact h2
  ·have h3:¬(xs[i].1=ys[i].1/\xs[i].2=ys[i].2):=fun e=>h2 (Prod.ext e.1 e.2)
   refine ab (fun h4=>?_) (fun h4=>?_)<;>simp at h4<;>simp[h4]
   ·rw[hr,decide_eq_false]
    intro e
    exact h2 (by simp[e])
   ·exact absurd h4 h3
 ·rw[hr,decide_eq_true]
  exact x1J h' fun k k1 k2=>hok k k1 k2 (by omega)
end Go.Gv

namespace Go.Gv
def js(t:List (Int×Int)):Int×Int:=t[t.length-1]!
def dn(t:List (Int×Int))(hgt most:Int):Bool:=aF t&&(t[0]!.1==0&&t[0]!.2==0)&&(js t).1==hgt&&(js t).2<=most
def aL(s:Sec):Bool:=ck s.name&&1<=s.height&&s.height<=32768&&0<=s.price&&s.price<=1073741824&&dn s.area s.height 1073741824&&dn s.conv s.height 1099511627776
def cT(n l:Int):Bool:=0<=n&&n<=4194304&&1<=l&&l<=16777216
def nv(s:Sec)(fall len:Int):Nat:=so ((js s.conv).2.toNat*(js s.conv).2.toNat*fall.toNat/len.toNat)
def dB(s:Sec)(fall len:Int):Int×Int:=if aL s then(if cT fall len then(if 1099511627776<nv s fall len then(0,5) else(nv s fall len,0)) else(0,2)) else(0,1)
theorem fj{t:List (Int×Int)}{n:Nat}(hn:n+1=t.length):js t=t[n]:=by
 unfold js
 rw[show t.length-1=n by omega,x0c t n (by omega)]
variable{C:CC}(hC:al prog C)
include hC
theorem xU(b:Bool)(t:List (Int×Int))(hgt most:Int):C 59 [slx b (t.map knD),.int .i64 hgt,.int .i64 most] (.bool (dn t hgt most)) []:=by
 refine start hC (nf:=N59) rfl rfl ?_
 simp[N59]
 refine aa (fB hC b t) (.inl rfl) ?_
 cases hv:aF t
 ·simp[dn,hv]
 obtain⟨l1,l2⟩:=de hv
 obtain⟨n,hn⟩:∃n,n+1=t.length:=⟨t.length-1,by omega⟩
 have e1:IntKind.wrap .i64 ((t.length:Int)-1)=(n:Int):=wrap_i64 (by omega) (by omega)
 have hnl:n<t.length:=by omega
 have h0:0<t.length:=by omega
 have e0:t[0]! = t[0]:=x0c t 0 h0
 simp[e1,hnl,h0,knD]
 rw[dn,fj hn,e0,hv]
 have ez:(decide (t[0].fst=0)&&decide (t[0].snd=0))=(t[0].1==0&&t[0].2==0):=by rw[x0J];simp
 rw[<- ez]
 cases hz:(decide (t[0].fst=0)&&decide (t[0].snd=0))
 ·simp
 simp
 refine ab (fun c=>?_) (fun c=>?_)
 ·simp at c
  simp[c]
 ·simp at c
  simp[c]
theorem ub(s:Sec):C 51 [.agg (aQ s)] (.bool (aL s)) []:=by
 refine start hC (nf:=N51) rfl rfl ?_
 simp[N51,aQ]
 refine aa (gM hC s.name) (.inl rfl) ?_
 cases h1:ck s.name
 ·simp[aL,h1]
 simp
 refine ab (fun c1=>?_) (fun c1=>?_)<;>simp[c1]<;>simp at c1
 ·refine ab (fun c2=>?_) (fun c2=>?_)<;>simp[c2]<;>simp at c2
  ·refine ab (fun c3=>?_) (fun c3=>?_)<;>simp[c3]<;>simp at c3
   ·refine ab (fun c4=>?_) (fun c4=>?_)<;>simp[c4]<;>simp at c4
    ·refine aa (xU hC _ _ _ _) (.inl rfl) ?_
     cases h5:dn s.area s.height 1073741824
     ·simp[aL,h5]
     simp
     refine aa (xU hC _ _ _ _) (.inl rfl) ?_
     simp[aL,h1,c1,c2,c3,c4,h5]
    ·simp[aL];omega
   ·simp[aL];omega
  ·simp[aL];omega
 ·simp[aL];omega
end Go.Gv

namespace Go.Gv
def cu(n a b:Int):Bool:=decide (a<=n)&&decide (n<=b)
def j8(l:Lnk):Lnk where
 name:=l.name
 src:=l.src
 dst:=l.dst
 kind:=l.kind
 len:=if l.kind=1 then l.len else 0
 up:=l.up
 down:=if l.kind=1\/l.kind=4 then l.down else 0
 sect:=if l.kind=1 then l.sect else []
 width:=if l.kind=2\/l.kind=3 then l.width else 0
 height:=if l.kind=3 then l.height else 0
 curveN:=if l.kind=4 then l.curveN else true
 curve:=if l.kind=4 then l.curve else []
def ig(a b:Lnk):Bool:=decide (a.name=b.name)&&decide (a.src=b.src)&&decide (a.dst=b.dst)&&decide (a.kind=b.kind)&&decide (a.len=b.len)&&decide (a.up=b.up)&&decide (a.down=b.down)&&decide (a.sect=b.sect)&&decide (a.width=b.width)&&decide (a.height=b.height)&&decide (a.curve=b.curve)
def qq(k:Int×Int):Bool:=cu k.1 0 4194304&&cu k.2 0 1099511627776
def jg(l:Lnk):Bool :=
 if l.kind=1 then cu l.len 1 16777216&&dO l.down&&ck l.sect
 else if l.kind=2 then cu l.width 1 1048576
 else if l.kind=3 then cu l.width 1 32768&&cu l.height 1 32768
 else if l.kind=4 then dO l.down&&decide (l.down<l.up)&&aF l.curve&&!(l.curve.any fun k=>!qq k)
 else false
def c8(l:Lnk):Bool:=ck l.name&&ck l.src&&ck l.dst&&!decide (l.src=l.dst)&&dO l.up&&ig l (j8 l)&&jg l
variable{C:CC}(hC:al prog C)
include hC
theorem F3(l:Lnk):C 178 [.agg (aJ l)] (.agg (aJ (j8 l))) []:=by
 have hs:slx l.curveN (l.curve.map knD)=.nils\/slx l.curveN (l.curve.map knD)=.sl (l.curve.map knD):=by
  unfold slx;split
  ·exact .inl rfl
  ·exact .inr rfl
 have e0:D.nils=slx true []:=rfl
 refine start hC (nf:=N178) rfl rfl ?_
 simp[N178,aJ,j8]
 refine ab (fun h=>?_) (fun h=>?_)<;>simp at h<;>simp[h]
 ·exact⟨aw (by decide +kernel),e0⟩
 refine ab (fun h2=>?_) (fun h2=>?_)<;>simp at h2<;>simp[h,h2]
 ·exact e0
 refine ab (fun h3=>?_) (fun h3=>?_)<;>simp at h3<;>simp[h,h2,h3]
 ·exact⟨aw (by decide +kernel),e0⟩
 refine ab (fun h4=>?_) (fun h4=>?_)<;>simp at h4<;>simp[h,h2,h3,h4]
 ·rcases hs with hs|hs<;>rw[hs]<;>simp
  ·refine⟨aw (by decide +kernel),?_⟩
   simp[h4,hs]
  ·refine⟨aw (by decide +kernel),?_⟩
   simp[h4,hs]
 ·exact e0
set_option maxRecDepth 8000 in
set_option maxHeartbeats 2000000 in
theorem Gk(a b:Lnk)(ha:a.curve.length<2^62)(hb:b.curve.length<2^62):C 177 [.agg (aJ a),.agg (aJ b)] (.bool (ig a b)) []:=by
 have he:=wC hC a.curveN b.curveN a.curve b.curve ha hb
 refine start hC (nf:=N177) rfl rfl ?_
 simp[N177,aJ]
 refine ab (fun h0=>?_) (fun h0=>?_)<;>simp at h0<;>simp[h0]
 rotate_left
 ·simp[ig,h0]
 refine ab (fun h1=>?_) (fun h1=>?_)<;>simp at h1<;>simp[h1]
 rotate_left
 ·simp[ig,h1]
 refine ab (fun h2=>?_) (fun h2=>?_)<;>simp at h2<;>simp[h2]
 rotate_left
 ·simp[ig,h2]
 refine ab (fun h3=>?_) (fun h3=>?_)<;>simp at h3<;>simp[h3]
 rotate_left
 ·simp[ig,h3]
 refine ab (fun h4=>?_) (fun h4=>?_)<;>simp at h4<;>simp[h4]
 rotate_left
 ·simp[ig,h4]
 refine ab (fun h5=>?_) (fun h5=>?_)<;>simp at h5<;>simp[h5]
 rotate_left
 ·simp[ig,h5]
 refine ab (fun h6=>?_) (fun h6=>?_)<;>simp at h6<;>simp[h6]
 rotate_left
 ·simp[ig,h6]
 refine ab (fun h7=>?_) (fun h7=>?_)<;>simp at h7<;>simp[h7]
 rotate_left
 ·simp[ig,h7]
 refine ab (fun h8=>?_) (fun h8=>?_)<;>simp at h8<;>simp[h8]
 rotate_left
 ·simp[ig,h8]
 refine ab (fun h9=>?_) (fun h9=>?_)<;>simp at h9<;>simp[h9]
 rotate_left
 ·simp[ig,h9]
 refine aa he (.inl rfl) ?_
 simp[ig,h0,h1,h2,h3,h4,h5,h6,h7,h8,h9]
theorem AL(k:Int×Int):C 180 [.agg (knD k)] (.bool (!qq k)) []:=by
 refine start hC (nf:=N180) rfl rfl ?_
 simp[N180,knD]
 refine aa (dV hC k.1 0 4194304) (.inl rfl) ?_
 have e1:(decide (0<=k.1)&&decide (k.1<=4194304))=cu k.1 0 4194304:=rfl
 rw[e1]
 cases h:cu k.1 0 4194304
 ·simp[qq,h]
 simp
 refine aa (dV hC k.2 0 1099511627776) (.inl rfl) ?_
 have e2:(decide (0<=k.2)&&decide (k.2<=1099511627776))=cu k.2 0 1099511627776:=rfl
 rw[e2]
 simp[qq,h]
theorem C6(l:Lnk)(hc:l.curve.length<2^62):C 170 [.agg (aJ l)] (.bool (c8 l)) []:=by
 have hp:(j8 l).curve.length<2^62:=by
  simp only[j8];split
  ·exact hc
  ·simp
 have k1:=gM hC l.name
 have k2:=gM hC l.src
 have k3:=gM hC l.dst
 have k4:=tt hC [l.up] (by simp)
 have k5:=F3 hC l
 have k6:=Gk hC l (j8 l) hc hp
 obtain⟨q,hq⟩:∃q,q=ig l (j8 l):=⟨_,rfl⟩
 rw[<- hq]at k6
 simp only[aJ]at k5 k6
 have kf:∀b,jg l=b->(b=false\/(ck l.name=true/\ck l.src=true/\ck l.dst=true/\¬l.src=l.dst/\dO l.up=true/\q=true))->c8 l=b:=fun b h1 h2=>by
  rcases h2 with rfl|⟨a1,a2,a3,a4,a5,a6⟩
  ·simp[c8,h1]
  ·simp[c8,h1,a1,a2,a3,a4,a5,<- hq,a6]
 refine start hC (nf:=N170) rfl rfl ?_
 simp[N170,aJ]
 refine aa k1 (.inl rfl) ?_
 cases h1:ck l.name
 ·simp
  refine⟨aw (by decide +kernel),?_⟩
  simp[c8,h1]
 simp
 refine aa k2 (.inl rfl) ?_
 cases h2:ck l.src
 ·simp
  refine⟨aw (by decide +kernel),?_⟩
  simp[c8,h2]
 simp
 refine aa k3 (.inl rfl) ?_
 cases h3:ck l.dst
 ·simp
  refine⟨aw (by decide +kernel),?_⟩
  simp[c8,h3]
 simp
 refine ab (fun h4=>?_) (fun h4=>?_)<;>simp at h4<;>simp[h4]
 ·refine⟨aw (by decide +kernel),?_⟩
  simp[c8,h4]
 refine aa k4 (.inl rfl) ?_
 cases h5:dO l.up
 ·simp[h5]
  refine⟨aw (by decide +kernel),?_⟩
  simp[c8,h5]
 simp[h5]
 refine aa k5 (.inr rfl) ?_
 simp
 refine aa k6 (.inl rfl) ?_
 cases h6:q
 ·simp
  refine⟨aw (by decide +kernel),?_⟩
  simp[c8,<- hq,h6]
 simp
 refine⟨aw (by decide +kernel),?_⟩
 have hk:c8 l=jg l:=kf _ rfl (.inr ⟨h1,h2,h3,h4,h5,h6⟩)
 rw[hk]
 obtain⟨r,hr⟩:∃r,r=jg l:=⟨_,rfl⟩
 rw[<- hr]
 unfold jg at hr
 clear k1 k2 k3 k4 k5 k6 hk kf
 have lh:∀n a b:Int,(decide (a<=n)&&decide (n<=b))=cu n a b:=fun _ _ _=>rfl
 have kd:=tt hC [l.down] (by simp)
 refine ab (fun h7=>?_) (fun h7=>?_)<;>simp at h7<;>simp[h7]
 ·rw[if_pos h7]at hr
  refine aa (dV hC l.len 1 16777216) (.inl rfl) ?_
  rw[lh]
  cases a1:cu l.len 1 16777216
  ·simp[hr,a1]
  simp
  refine aa kd (.inl rfl) ?_
  cases a2:dO l.down
  ·simp[a2,hr]
  simp[a2]
  refine aa (gM hC l.sect) (.inl rfl) ?_
  simp[hr,a1,a2]
 rw[if_neg h7]at hr
 refine ab (fun h8=>?_) (fun h8=>?_)<;>simp at h8<;>simp[h8]
 ·rw[if_pos h8]at hr
  refine aa (dV hC l.width 1 1048576) (.inl rfl) ?_
  rw[lh]
  simp[hr]
 rw[if_neg h8]at hr
 refine ab (fun h9=>?_) (fun h9=>?_)<;>simp at h9<;>simp[h9]
 ·rw[if_pos h9]at hr
  refine aa (dV hC l.width 1 32768) (.inl rfl) ?_
  rw[lh]
  cases a1:cu l.width 1 32768
  ·simp[hr,a1]
  simp
  refine aa (dV hC l.height 1 32768) (.inl rfl) ?_
  rw[lh]
  simp[hr,a1]
 rw[if_neg h9]at hr
 refine ab (fun h10=>?_) (fun h10=>?_)<;>simp at h10<;>simp[h10]
 ·rw[if_pos h10]at hr
  refine aa kd (.inl rfl) ?_
  cases a2:dO l.down
  ·simp[a2,hr]
  simp[a2]
  refine ab (fun h11=>?_) (fun h11=>?_)<;>simp at h11<;>simp[h11]
  ·refine aa (fB hC l.curveN l.curve) (.inl rfl) ?_
   cases a3:aF l.curve
   ·simp[hr,a3]
   simp
   refine aa (Fp hC (b:=l.curveN) (xs:=l.curve) (g:=180) (cs:=[]) (fun k=>!qq k) hc (fun k _=>AL hC k)) (.inl rfl) ?_
   simp[hr,a2,h11,a3]
  ·have:¬l.down<l.up:=by omega
   simp[hr,this]
 ·rw[if_neg h10]at hr
  simp[hr]
end Go.Gv

namespace Go.Gv
def tU(n:Nod):Bool:=!(decide (n.ground<=n.invert))&&dn n.shape (n.ground-n.invert) 1125899906842624&&!(decide (n.kind=1)&&n.prot)&&(if n.prot then cu n.reserve 0 (js n.shape).2 else decide (n.reserve=0))
def Ht(n:Nod):Bool:=decide (n.invert<=n.ground)&&decide (n.shape.length=0)&&!n.prot&&decide (n.reserve=0)
def qd(n:Nod):Bool:=ck n.name&&cu n.x (-16777216) 16777216&&cu n.y (-16777216) 16777216&&dO n.invert&&dO n.ground&&(if n.kind=1\/n.kind=2 then tU n else if n.kind=3 then Ht n else false)
variable{C:CC}(hC:al prog C)
include hC
theorem vM(b:Bool)(t:List (Int×Int))(hgt:Int):C 174 [slx b (t.map knD),.int .i64 hgt] (.bool (dn t hgt 1125899906842624)) []:=by
 refine start hC (nf:=N174) rfl rfl ?_
 simp[N174]
 refine aa (fB hC b t) (.inl rfl) ?_
 cases hv:aF t
 ·simp[dn,hv]
 obtain⟨l1,l2⟩:=de hv
 obtain⟨n,hn⟩:∃n,n+1=t.length:=⟨t.length-1,by omega⟩
 have e1:IntKind.wrap .i64 ((t.length:Int)-1)=(n:Int):=wrap_i64 (by omega) (by omega)
 have hnl:n<t.length:=by omega
 have h0:0<t.length:=by omega
 have e0:t[0]! = t[0]:=x0c t 0 h0
 simp[e1,hnl,h0,knD]
 rw[dn,fj hn,e0,hv]
 have ez:(decide (t[0].fst=0)&&decide (t[0].snd=0))=(t[0].1==0&&t[0].2==0):=by rw[x0J];simp
 rw[<- ez]
 cases hz:(decide (t[0].fst=0)&&decide (t[0].snd=0))
 ·simp
 simp
 refine ab (fun c=>?_) (fun c=>?_)
 ·simp at c
  simp[c]
 ·simp at c
  simp[c]
theorem FT(n:Nod):C 168 [.agg (bz n)] (.bool (qd n)) []:=by
 have lh:∀n a b:Int,(decide (a<=n)&&decide (n<=b))=cu n a b:=fun _ _ _=>rfl
 have k1:=gM hC n.name
 have k2:=dV hC n.x (-16777216) 16777216
 have k3:=dV hC n.y (-16777216) 16777216
 have k4:=tt hC [n.invert,n.ground] (by simp)
 rw[lh]at k2 k3
 obtain⟨q,hq⟩:∃q,q=qd n:=⟨_,rfl⟩
 rw[<- hq]
 unfold qd at hq
 refine start hC (nf:=N168) rfl rfl ?_
 simp[N168,bz]
 refine aa k1 (.inl rfl) ?_
 cases h1:ck n.name
 ·simp[hq,h1]
 simp
 refine aa k2 (.inl rfl) ?_
 cases h2:cu n.x (-16777216) 16777216
 ·simp[hq,h2]
 simp
 refine aa k3 (.inl rfl) ?_
 cases h3:cu n.y (-16777216) 16777216
 ·simp[hq,h3]
 simp
 refine aa k4 (.inl rfl) ?_
 cases h4:dO n.invert
 ·simp[hq,h4]
 cases h5:dO n.ground
 ·simp[hq,h4,h5]
 simp[h4,h5]
 rw[h1,h2,h3,h4,h5]at hq
 simp only[x1T]at hq
 have b1:-4194304<=n.invert/\n.invert<=4194304:=by simpa[dO]using h4
 have b2:-4194304<=n.ground/\n.ground<=4194304:=by simpa[dO]using h5
 have e1:IntKind.wrap .i64 (n.ground-n.invert)=n.ground-n.invert:=wrap_i64 rfl (by omega)
 refine ab (fun hk1=>?_) (fun hk1=>?_)<;>simp at hk1<;>simp[hk1]
 ·rw[if_pos (by omega),tU]at hq
  refine ab (fun c1=>?_) (fun c1=>?_)<;>simp at c1<;>simp[c1]
  ·simp[hq,c1]
  have c1':¬n.ground<=n.invert:=by omega
  simp[e1]
  refine aa (vM hC n.shapeN n.shape (n.ground-n.invert)) (.inl rfl) ?_
  cases c2:dn n.shape (n.ground-n.invert) 1125899906842624
  ·simp[hq,c2]
  simp[hk1]
  cases c3:n.prot
  ·simp[hq,c1',c2,c3]
  ·simp[hq,c3,hk1]
 refine ab (fun hk2=>?_) (fun hk2=>?_)<;>simp at hk2<;>simp[hk2,hk1]
 ·rw[if_pos (by omega),tU]at hq
  refine ab (fun c1=>?_) (fun c1=>?_)<;>simp at c1<;>simp[c1]
  ·simp[hq,c1]
  have c1':¬n.ground<=n.invert:=by omega
  simp[e1]
  refine aa (vM hC n.shapeN n.shape (n.ground-n.invert)) (.inl rfl) ?_
  cases c2:dn n.shape (n.ground-n.invert) 1125899906842624
  ·simp[hq,c2]
  simp[hk2]
  cases c3:n.prot
  ·simp[hq,c1',c2,c3]
  have hv:aF n.shape=true:=by
   simp only[dn,x0a]at c2
   exact c2.1.1.1
  obtain⟨l1,l2⟩:=de hv
  obtain⟨m,hm⟩:∃m,m+1=n.shape.length:=⟨n.shape.length-1,by omega⟩
  have e2:IntKind.wrap .i64 ((n.shape.length:Int)-1)=(m:Int):=wrap_i64 (by omega) (by omega)
  have hml:m<n.shape.length:=by omega
  simp[e2,hml,knD]
  have kb:=dV hC n.reserve 0 n.shape[m].2
  rw[lh]at kb
  refine aa kb (.inl rfl) ?_
  simp
  refine⟨aw (by decide +kernel),?_⟩
  simp[hq,c1',c2,c3,hk2,fj hm]
 rw[if_neg (by omega)]at hq
 refine ab (fun hk3=>?_) (fun hk3=>?_)<;>simp at hk3<;>simp[hk3]
 ·rw[if_pos hk3,Ht]at hq
  refine ab (fun c1=>?_) (fun c1=>?_)<;>simp at c1<;>simp[c1]
  ·refine ab (fun c2=>?_) (fun c2=>?_)<;>simp at c2<;>simp[c2]
   ·cases c3:n.prot
    ·simp[hq,c1,c2,c3]
    ·simp[hq,c3]
   ·simp[hq,c2]
  ·have:¬n.invert<=n.ground:=by omega
   simp[hq,this]
 ·rw[if_neg hk3]at hq
  simp[hq]
end Go.Gv

namespace Go.Gv
def qc(ns:List Nod)(i:Nat):Bool:=qd ns[i]!&&decide (ct (gn ns[i]!.name) ns=(i:Int))
def pI(ns:List Nod)(nm:List UInt8):Bool:=decide (0<=ct (gn nm) ns)&&!decide (ns[(ct (gn nm) ns).toNat]!.kind=3)
def lp(ns:List Nod)(ls:List Lnk)(i:Nat):Bool:=c8 ls[i]!&&decide (ct (pV ls[i]!.name) ls=(i:Int))&&pI ns ls[i]!.src&&decide (0<=ct (gn ls[i]!.dst) ns)
def cq(ns:List Nod)(ls:List Lnk):Bool:=decide (ns.length<=300)&&decide (ls.length<=400)&&(List.range ns.length).all (qc ns)&&(List.range ls.length).all (lp ns ls)
theorem o7{α:Type}{p:α->Bool}{xs:List α}(h:0<=ct p xs):(ct p xs).toNat<xs.length:=by
 unfold ct at h ⊢
 cases e:xs.findIdx? p with
 | none=>rw[e]at h;simp at h
 | some i =>
  simp
  obtain⟨h1,_⟩:=x0Z.1 e
  exact h1
variable{C:CC}(hC:al prog C)
include hC
theorem mE(b1 b2:Bool)(ns:List Nod)(ls:List Lnk)(hcv:∀l∈ls,l.curve.length<2^62):C 164 [.agg [slx b1 (ns.map bz),slx b2 (ls.map aJ)]] (.bool (cq ns ls)) []:=by
 obtain⟨r,hr⟩:∃r,r=cq ns ls:=⟨_,rfl⟩
 rw[<- hr]
 unfold cq at hr
 refine start hC (nf:=N164) rfl rfl ?_
 simp[N164]
 refine ab (fun c=>?_) (fun c=>?_)<;>simp at c<;>simp[c]
 ·simp[hr,show ¬ns.length<=300 by omega]
 refine ab (fun c2=>?_) (fun c2=>?_)<;>simp at c2<;>simp[c2]
 ·simp[hr,show ¬ls.length<=400 by omega]
 rw[decide_eq_true (show ns.length<=300 by omega),decide_eq_true (show ls.length<=400 by omega)]at hr
 simp only[x1T]at hr
 have badN:∀i,i<ns.length->qc ns i=false->r=false:=fun i hi h=>by
  rw[hr,x0W]
  exact .inl (List.all_eq_false.2 ⟨i,by simpa using hi,by simp[h]⟩)
 have badL:∀i,i<ls.length->lp ns ls i=false->r=false:=fun i hi h=>by
  rw[hr,x0W]
  exact .inr (List.all_eq_false.2 ⟨i,by simpa using hi,by simp[h]⟩)
 refine ay Nat (fun i=>[(1,.ptr [slx b1 (ns.map bz),slx b2 (ls.map aJ)]),(19,slx b1 (ns.map bz)),(20,.int .i64 ns.length),(21,.int .i64 i)]) (fun i=>i<=ns.length/\∀j<i,qc ns j=true) (fun i=>ns.length-i) 0 (by simp) (by simp) ?_
 rintro i ⟨hi,hj⟩
 simp
 refine ab (fun h=>?_) (fun h=>?_)<;>simp at h<;>simp[h]
 ·have hw:IntKind.wrap .i64 ((i:Int)+1)=((i+1:Nat):Int):=wrap_i64 (by omega) (by omega)
  have bad:=badN i h
  have e1:ns[i]! = ns[i]:=x0c ns i h
  simp only[qc,e1]at bad
  have k1:=FT hC ns[i]
  have k2:=qe hC b1 b2 ns ls ns[i].name (by omega)
  simp only[bz]at k1
  simp[bz,h]
  refine aa k1 (.inl rfl) ?_
  cases g1:qd ns[i]
  ·simp
   exact bad (by simp[g1])
  simp
  refine aa k2 (.inl rfl) ?_
  simp
  refine ab (fun g2=>?_) (fun g2=>?_)<;>simp at g2<;>simp[g2]
  ·exact bad (by simp[g2])
  ·simp[hw]
   refine⟨i+1,⟨by omega,fun k hk=>?_⟩,by omega,by simp⟩
   rcases x0y.1 hk with h5|rfl
   ·exact hj k h5
   ·simp[qc,e1,g1,g2]
 have hall:(List.range ns.length).all (qc ns)=true:=by
  rw[x0f]
  intro k hk
  exact hj k (by simp at hk;omega)
 rw[hall,x1T]at hr
 clear badN hall hj
 refine ay Nat (fun i=>[(1,.ptr [slx b1 (ns.map bz),slx b2 (ls.map aJ)]),(39,slx b2 (ls.map aJ)),(40,.int .i64 ls.length),(41,.int .i64 i)]) (fun i=>i<=ls.length/\∀j<i,lp ns ls j=true) (fun i=>ls.length-i) 0 (by simp) (by simp) ?_
 clear h hi i
 rintro i ⟨hi,hj⟩
 simp
 refine ab (fun h=>?_) (fun h=>?_)<;>simp at h<;>simp[h]
 ·have hw:IntKind.wrap .i64 ((i:Int)+1)=((i+1:Nat):Int):=wrap_i64 (by omega) (by omega)
  have bad:=badL i h
  have e1:ls[i]! = ls[i]:=x0c ls i h
  simp only[lp,e1]at bad
  have k1:=C6 hC ls[i] (hcv _ (x0h h))
  have k2:=IB hC b1 b2 ns ls ls[i].name (by omega)
  have k3:=qe hC b1 b2 ns ls ls[i].src (by omega)
  have k4:=qe hC b1 b2 ns ls ls[i].dst (by omega)
  have next:lp ns ls i=true->∃s':Nat,(s'<=ls.length/\∀j<s',lp ns ls j=true)/\ls.length-s'<ls.length-i/\(i:Int)+1=s':=fun hl=>by
   refine⟨i+1,⟨by omega,fun k hk=>?_⟩,by omega,by simp⟩
   rcases x0y.1 hk with h5|rfl
   ·exact hj k h5
   ·exact hl
  simp only[lp,e1]at next
  simp only[aJ]at k1
  simp[aJ,h]
  refine aa k1 (.inl rfl) ?_
  cases g1:c8 ls[i]
  ·simp
   exact bad (by simp[g1])
  simp
  refine aa k2 (.inl rfl) ?_
  simp
  refine ab (fun g2=>?_) (fun g2=>?_)<;>simp at g2<;>simp[g2]
  ·exact bad (by simp[g2])
  refine aa k3 (.inl rfl) ?_
  simp
  refine ab (fun g3=>?_) (fun g3=>?_)<;>simp at g3<;>simp[g3]
  ·exact bad (by simp[pI,show ¬0<=ct (gn ls[i].src) ns by omega])
  have g3':¬ct (gn ls[i].src) ns<0:=by omega
  refine aa k4 (.inl rfl) ?_
  simp
  refine ab (fun g4=>?_) (fun g4=>?_)<;>simp at g4<;>simp[g4]
  ·exact bad (by simp[show ¬0<=ct (gn ls[i].dst) ns by omega])
  have g4':¬ct (gn ls[i].dst) ns<0:=by omega
  have hf:=o7 g3
  obtain⟨f,hfe⟩:=Int.eq_ofNat_of_zero_le g3
  rw[hfe]at hf ⊢
  simp at hf
  have e2:ns[f]! = ns[f]:=x0c ns f hf
  have hfo:pI ns ls[i].src=!decide (ns[f].kind=3):=by
   simp[pI,hfe,e2]
  simp[hf,bz]
  refine ab (fun g5=>?_) (fun g5=>?_)<;>simp at g5<;>simp[g5]
  ·exact bad (by simp[hfo,g5])
  ·simp[hw]
   exact next (by simp[hfo,g5,g1,g2,g4])
 ·have hall:(List.range ls.length).all (lp ns ls)=true:=by
   rw[x0f]
   intro k hk
   exact hj k (by simp at hk;omega)
  rw[hr,hall]
end Go.Gv

namespace Go.Gv
def tB(n:Nat)(es:List Edg):Int:=if (bk n es).length<n then 22 else 0
def tC(n:Nat)(es:List Edg):D:=if (bk n es).length<n then .nils else ndD (bk n es)
def gq(n:Nat)(es:List Edg):Bool:=decide ((es.map (·.1)).Nodup)&&decide ((bk n es).length=n)
def nZ(es:List Edg)(j:Nat):List Nat:=(es.take j).map (·.1)
theorem oa{es:List Edg}{j:Nat}(h:j<es.length):nZ es (j+1)=nZ es j++[es[j].1]:=by
 unfold nZ
 rw[x0m h,x1d]
 rfl
@[simp] theorem PU(es:List Edg):nZ es 0=[]:=rfl
theorem Eb(es:List Edg):nZ es es.length=es.map (·.1):=by simp[nZ]
theorem GK{es:List Edg}{j:Nat}(h:¬(nZ es j).Nodup):¬(es.map (·.1)).Nodup:=by
 intro h2
 apply h
 unfold nZ
 rw[List.map_take]
 exact h2.sublist (List.take_sublist _ _)
def edT(es:List Edg)(j:Nat):List (List D):=(es.take j).map edK
theorem Cn{es:List Edg}{j:Nat}(h:j<es.length):edT es (j+1)=edT es j++[edK es[j]]:=by
 unfold edT
 rw[x0m h,x1d]
 rfl
@[simp] theorem P9(es:List Edg):edT es 0=[]:=rfl
theorem xX{es:List Edg}{j:Nat}(h:j<=es.length):(edT es j).length=j:=by simp[edT];omega
theorem E0(es:List Edg):edT es es.length=es.map edK:=by simp[edT]
theorem Mh(es:List Edg)(j:Nat):(edT es j).map (fun e=>e.map bq)=edT es j:=by
 unfold edT
 rw[x1K]
 apply x0j
 intro e _
 simp[edK,knD,bq]
def qJ(n:Nat)(es:List Edg)(j:Nat):List (List D):=(List.range n).map fun v=>[.bool (decide (v∈nZ es j))]
theorem nX{n v:Nat}(es:List Edg)(j:Nat)(h:v<n):(qJ n es j)[v]? = some [.bool (decide (v∈nZ es j))]:=by simp[qJ,h]
def ah(ns:List Nod)(ls:List Lnk):List Edg:=ls.map fun l=>((ct (gn l.src) ns).toNat,(ct (gn l.dst) ns).toNat)
theorem bT(ns:List Nod)(ls:List Lnk):(ah ns ls).length=ls.length:=by simp[ah]
theorem cC{ns:List Nod}{ls:List Lnk}(h:cq ns ls=true):ns.length<=300/\ls.length<=400:=by
 simp only[cq,x0a,x0b]at h
 exact⟨h.1.1.1,h.1.1.2⟩
theorem iV{ns:List Nod}{ls:List Lnk}(h:cq ns ls=true){i:Nat}(hi:i<ls.length):c8 ls[i]=true/\ct (pV ls[i].name) ls=(i:Int)/\0<=ct (gn ls[i].src) ns/\0<=ct (gn ls[i].dst) ns:=by
 simp only[cq,x0a,x0f,x0M]at h
 have:=h.2 i hi
 simp only[lp,x0c ls i hi,pI,x0a,x0b]at this
 exact⟨this.1.1.1,this.1.1.2,this.1.2.1,this.2⟩
theorem Az{ns:List Nod}{ls:List Lnk}(h:cq ns ls=true){i:Nat}(hi:i<ns.length):qd ns[i]=true/\ct (gn ns[i].name) ns=(i:Int):=by
 simp only[cq,x0a,x0f,x0M]at h
 have:=h.1.2 i hi
 simpa only[qc,x0c ns i hi,x0a,x0b]using this
theorem fS{ns:List Nod}{ls:List Lnk}(h:cq ns ls=true):inG ns.length (ah ns ls):=by
 intro e he
 simp only[ah,x0w]at he
 obtain⟨l,hl,rfl⟩:=he
 obtain⟨i,hi,rfl⟩:=x0K.1 hl
 obtain⟨_,_,h1,h2⟩:=iV h hi
 exact⟨o7 h1,o7 h2⟩
variable{C:CC}(hC:al prog C)
include hC
theorem CU(hS:SlC C){b:Bool}{n:Nat}{es:List Edg}(hn:n<=300)(he:es.length<=1000)(hg:inG n es):C 511 [.int .i64 n,slx b (es.map edK)] (.tup [tC n es,.int .i64 (tB n es)]) []:=by
 have k1:=uY hC b n (es.map edI) (by simp;omega)
 rw[<- xW,CT hC hn he hg]at k1
 have k2:=yq hC hS (b:=b) hn he hg
 refine start hC (nf:=N511) rfl rfl ?_
 simp[N511]
 refine aa k1 (.inl rfl) ?_
 simp
 refine aa k2 (.inr rfl) ?_
 unfold tC tB
 simp[ndD,aY]
 refine ab (fun c=>?_) (fun c=>?_)<;>simp at c<;>simp[c]
theorem Fk(hS:SlC C){b:Bool}{n:Nat}{es:List Edg}(hn:n<=300)(he:es.length<=1000)(hg:inG n es):C 472 [.int .i64 n,slx b (es.map edK)] (.bool (gq n es)) []:=by
 have k1:=uY hC b n (es.map edI) (by simp;omega)
 rw[<- xW,CT hC hn he hg]at k1
 have k2:=yq hC hS (b:=b) hn he hg
 obtain⟨r,hr⟩:∃r,r=gq n es:=⟨_,rfl⟩
 rw[<- hr]
 unfold gq at hr
 refine start hC (nf:=N472) rfl rfl ?_
 simp[N472]
 refine aa k1 (.inl rfl) ?_
 simp
 refine⟨by omega,?_⟩
 refine ay Nat (fun j=>[(0,.int .i64 n),(1,slx b (es.map edK)),(5,.ref (.r 10080) 0 n),(10080,.blk 1 (qJ n es j)),(14,slx b (es.map edK)),(15,.int .i64 es.length),(16,.int .i64 j)]) (fun j=>j<=es.length/\(nZ es j).Nodup) (fun j=>es.length-j) 0 (by simp) (by simp[qJ,pg]) ?_
 rintro j ⟨hj,hnd⟩
 simp
 refine ab (fun h=>?_) (fun h=>?_)<;>simp[h]<;>simp at h
 ·have hw:IntKind.wrap .i64 ((j:Int)+1)=((j+1:Nat):Int):=wrap_i64 (by omega) (by omega)
  have hin:=hg _ (x0h h)
  simp[h,edK,knD,hin,bj (nX es j hin.1),nX es j hin.1]
  refine ab (fun c=>?_) (fun c=>?_)<;>simp at c
  ·have hbad:¬(nZ es (j+1)).Nodup:=by
    rw[oa h,x1x]
    rintro⟨_,_,h3⟩
    exact h3 _ c _ (by simp) rfl
   simp[hr,GK hbad]
  ·have e1:(qJ n es j).set es[j].1 [.bool true]=qJ n es (j+1):=by
    unfold qJ
    rw[km]
    apply x0j
    intro v _
    rw[oa h]
    by_cases e:v=es[j].1
    ·subst e;simp
    ·simp[e]
   have hnd2:(nZ es (j+1)).Nodup:=by
    rw[oa h,x1x]
    refine⟨hnd,by simp,fun a ha b hb=>?_⟩
    simp at hb
    subst hb
    rintro rfl
    exact c ha
   simp[hin,nX es j hin.1,e1,hw]
   exact⟨j+1,⟨by omega,hnd2⟩,by omega,rfl,by omega⟩
 ·have ej:j=es.length:=by omega
  rw[ej,Eb]at hnd
  refine aa k2 (.inr rfl) ?_
  simp[ndD,aY,hr,hnd]
  omega
theorem vm(b1 b2:Bool)(ns:List Nod)(ls:List Lnk)(hv:cq ns ls=true):C 499 [.agg [slx b1 (ns.map bz),slx b2 (ls.map aJ)]] (.sl ((ah ns ls).map edK)) []:=by
 obtain⟨hl1,hl2⟩:=cC hv
 refine start hC (nf:=N499) rfl rfl ?_
 simp[N499]
 refine ay Nat (fun j=>[(1,.ptr [slx b1 (ns.map bz),slx b2 (ls.map aJ)]),(3,.ref (.r 10048) 0 j),(10048,.blk 2 (edT (ah ns ls) j)),(7,slx b2 (ls.map aJ)),(8,.int .i64 ls.length),(9,.int .i64 j)]) (fun j=>j<=ls.length) (fun j=>ls.length-j) 0 (by simp) (by simp) ?_
 rintro j hj
 simp
 refine ab (fun h=>?_) (fun h=>?_)<;>simp[h]<;>simp at h
 ·have hw:IntKind.wrap .i64 ((j:Int)+1)=((j+1:Nat):Int):=wrap_i64 (by omega) (by omega)
  obtain⟨_,_,g1,g2⟩:=iV hv h
  have k1:=qe hC b1 b2 ns ls ls[j].src (by omega)
  have k2:=qe hC b1 b2 ns ls ls[j].dst (by omega)
  have hjl:j<(ah ns ls).length:=by rw[bT];exact h
  have el:=xX (es:=ah ns ls) (j:=j) (by omega)
  simp[h,aJ,el]
  refine aa k1 (.inl rfl) ?_
  simp
  refine aa k2 (.inl rfl) ?_
  simp[el]
  refine⟨by omega,aw (by decide +kernel),j+1,by omega,by omega,rfl,?_,hw⟩
  have e2:(edT (ah ns ls) j).take j=edT (ah ns ls) j:=x0i (by omega)
  rw[e2,Cn hjl]
  congr 2
  simp only[ah,x0Q,edK,knD]
  rw[Int.toNat_of_nonneg g1,Int.toNat_of_nonneg g2]
 ·have ej:j=ls.length:=by omega
  subst ej
  have e0:=E0 (ah ns ls)
  have el:=xX (es:=ah ns ls) (j:=ls.length) (by rw[bT];exact x0k _)
  rw[bT]at e0
  simp[Mh,el]
  rw[<- e0,x0i (by omega)]
theorem jD(b1 b2:Bool)(ns:List Nod)(ls:List Lnk)(hcv:∀l∈ls,l.curve.length<2^62):C 471 [.agg [slx b1 (ns.map bz),slx b2 (ls.map aJ)]] (.tup (if cq ns ls then [.sl ((ah ns ls).map edK),.int .i64 0] else [.nils,.int .i64 1])) []:=by
 refine start hC (nf:=N471) rfl rfl ?_
 simp[N471]
 refine aa (mE hC b1 b2 ns ls hcv) (.inl rfl) ?_
 cases hv:cq ns ls
 ·simp
 ·simp
  refine aa (vm hC b1 b2 ns ls hv) (.inr rfl) ?_
  simp
theorem uk(hS:SlC C)(b1 b2:Bool)(ns:List Nod)(ls:List Lnk)(hcv:∀l∈ls,l.curve.length<2^62):C 495 [.agg [slx b1 (ns.map bz),slx b2 (ls.map aJ)]] (.tup (if cq ns ls then [tC ns.length (ah ns ls),.int .i64 (tB ns.length (ah ns ls))] else [.nils,.int .i64 1])) []:=by
 refine start hC (nf:=N495) rfl rfl ?_
 simp[N495]
 refine aa (mE hC b1 b2 ns ls hcv) (.inl rfl) ?_
 cases hv:cq ns ls
 ·simp
 ·obtain⟨l1,l2⟩:=cC hv
  have k:=CU hC hS (b:=false) (n:=ns.length) (es:=ah ns ls) l1 (by rw[bT];omega) (fS hv)
  simp
  refine aa (vm hC b1 b2 ns ls hv) (.inr rfl) ?_
  simp at k ⊢
  refine aa k (.inr rfl) ?_
  unfold tC tB ndD
  split<;>simp
  ·exact⟨aw (by decide +kernel),by omega⟩
  ·exact⟨aw (by decide +kernel),by omega⟩
theorem AA(l:Lnk):C 470 [.agg (aJ l)] (.bool (!decide (l.kind=1))) []:=by
 refine start hC (nf:=N470) rfl rfl ?_
 simp[N470,aJ]
theorem mr{b:Bool}{xs:List Lnk}{g:Nat}{cs:List D}(p:Lnk->Bool)(hs:xs.length<2^62)(hp:∀x∈xs,C g (.agg (aJ x)::cs) (.bool (p x)) []):C 455 [slx b (xs.map fun x=>aJ x),.fn g cs] (.bool (xs.any p)) []:=by
 refine start hC (nf:=N455) rfl rfl ?_
 simp[N455]
 refine aa (uZ hC p hs hp) (.inl rfl) ?_
 simp[f9]
theorem CX{b:Bool}{xs:List Nod}{g:Nat}{cs:List D}(p:Nod->Bool)(hs:xs.length<2^62)(hp:∀x∈xs,C g (.agg (bz x)::cs) (.bool (p x)) []):C 453 [slx b (xs.map fun x=>bz x),.fn g cs] (.bool (xs.any p)) []:=by
 refine start hC (nf:=N453) rfl rfl ?_
 simp[N453]
 refine aa (u1 hC p hs hp) (.inl rfl) ?_
 simp[f9]
def fI(ns:List Nod)(ls:List Lnk):Bool:=cq ns ls&&ls.all (fun l=>decide (l.kind=1))&&gq ns.length (ah ns ls)
theorem yF(hS:SlC C)(b1 b2:Bool)(ns:List Nod)(ls:List Lnk)(hl:ls.length<2^62)(hcv:∀l∈ls,l.curve.length<2^62):C 433 [.agg [slx b1 (ns.map bz),slx b2 (ls.map aJ)]] (.bool (fI ns ls)) []:=by
 have k1:=mr hC (b:=b2) (xs:=ls) (g:=470) (cs:=[]) (fun l=>!decide (l.kind=1)) hl (fun x _=>AA hC x)
 have k2:=jD hC b1 b2 ns ls hcv
 have e1:(ls.any fun l=>!decide (l.kind=1))=!(ls.all fun l=>decide (l.kind=1)):=by simp[List.any_eq_not_all_not]
 rw[e1]at k1
 refine start hC (nf:=N433) rfl rfl ?_
 simp[N433]
 refine aa k1 (.inl rfl) ?_
 unfold fI
 cases h1:ls.all (fun l=>decide (l.kind=1))
 ·simp
 simp
 cases hv:cq ns ls
 ·rw[hv]at k2
  refine aa k2 (.inr rfl) ?_
  simp
 ·rw[hv]at k2
  obtain⟨l1,l2⟩:=cC hv
  have k:=Fk hC hS (b:=false) (n:=ns.length) (es:=ah ns ls) l1 (by rw[bT];omega) (fS hv)
  refine aa k2 (.inr rfl) ?_
  simp at k ⊢
  refine aa k (.inl rfl) ?_
  simp
end Go.Gv

set_option maxRecDepth 4000
namespace Go.Gv
def jk(n m:Nat)(v:Int):List (List D):=List.replicate m [.int .i64 v]++List.replicate (n-m) [.int .i64 0]
theorem vF{n m:Nat}{v:Int}(h:m<=n):(jk n m v).length=n:=by simp[jk];omega
theorem qz(n m:Nat)(v:Int):∀e∈jk n m v,e.length=1/\∀c∈e,aA c=true:=by
 intro e he
 rcases x0n.1 he with h|h<;>(rw[(List.mem_replicate.1 h).2];simp[aA])
theorem sk(n m:Nat)(v:Int):∀e∈jk n m v,∀c∈e,aA c=true:=fun e he=>(qz n m v e he).2
theorem sj(n:Nat)(v:Int):jk n n v=List.replicate n [.int .i64 v]:=by simp[jk]
theorem sm{n m:Nat}{v:Int}(h:m<=n):jN (jk n m v) m (((jk n m v).take m).take (n-m))=jk n (min n (m+m)) v:=by
 have h1:(jk n m v).take m=List.replicate m [.int .i64 v]:=by
  unfold jk
  rw[List.take_append_of_le_length (by simp)]
  simp
 rw[h1,List.take_replicate]
 unfold jN
 rw[h1,List.length_replicate]
 unfold jk
 rw[List.drop_append,List.drop_eq_nil_of_le (by simp),x1v,List.length_replicate,List.drop_replicate]
 have e1:min n (m+m)=m+min (n-m) m:=by omega
 rw[e1,<- List.replicate_append_replicate]
 congr 2
 omega
theorem xq{n:Nat}{v:Int}(h:0<n):jN (List.replicate n [D.int .i64 0]) 0 ([[D.int .i64 v]].take n)=jk n 1 v:=by
 have:[[D.int .i64 v]].take n=[[.int .i64 v]]:=by
  rw[x0i (by simp;omega)]
 rw[this]
 unfold jN jk
 simp
variable{C:CC}(hC:al prog C)
include hC
theorem DD(v:Int)(n:Nat)(hn:n<2^40):C 315 [.sl [[.int .i64 v]],.int .i64 n] .any [.own 1 (List.replicate n [.int .i64 v])]:=by
 have k0:=lQ hC 1 n (by omega) (by omega)
 have k1:C 333 [.int .u64 1,.int .u64 n] (.tup [.int .u64 0,.int .u64 n]) []:=by
  have e1:1*n/2^64=0:=by omega
  have e2:1*n%2^64=n:=by omega
  rw[e1,e2]at k0
  refine start hC (nf:=N333) rfl rfl ?_
  simp[N333]
  simp at k0
  refine aa k0 (.inl rfl) ?_
  simp
 have w1:IntKind.wrap .u64 (n:Int)=n:=by
  have e:(2:Int)^IntKind.bits .u64=18446744073709551616:=by decide
  have e2:IntKind.signed .u64=false:=rfl
  simp only[IntKind.wrap,e,e2,x1C,x0o,if_false]
  omega
 have w2:IntKind.wrap .i64 (n:Int)=n:=wrap_i64 (by omega) (by omega)
 refine jp hC (nf:=N315) rfl rfl ?_
 have hn0:¬(n:Int)<0:=by omega
 have hn1:¬(9223372036854775807:Int)<n:=by omega
 have hn2:(n:Int)*8<=140737488355328:=by omega
 simp[N315,w1,hn0]
 refine aa k1 (.inl rfl) ?_
 simp[w2,hn1,hn2,aA]
 refine⟨fun h0=>?_,fun h0=>?_⟩
 ·refine ay Nat (fun m=>[(7,.ref (.r 10112) 0 n),(8,.int .i64 m),(10112,.blk 1 (jk n m v))]) (fun m=>m<=n/\(0<n->0<m)) (fun m=>n-m) 0 ⟨by omega,by omega⟩ (by subst h0;simp[jk]) ?_
  rintro m ⟨hm,hm0⟩
  simp
  refine ab (fun h=>?_) (fun h=>?_)<;>simp at h
  ·have hm1:0<m:=hm0 (by omega)
   have hl:=vF (v:=v) hm
   have hnx:=sm (v:=v) hm
   have hc:=qz n m v
   have hc1:=sk n m v
   have hnm:¬n-m=0:=by omega
   have hpos:0<n-m:=by omega
   have htk:∀e∈(jk n m v).take m,∀c∈e,aA c=true:=fun e he=>hc1 e (x0O he)
   have hw:IntKind.wrap .i64 ((m:Int)+((min m (n-m):Nat):Int))=((min n (m+m):Nat):Int):=wrap_i64 (by omega) (by omega)
   simp[h,hl,hm,vr]
   try refine⟨htk,hm1,fun hz=>absurd hz hnm,fun _=>⟨hc1,htk,aw (by decide +kernel),min n (m+m),⟨by omega,fun _=>by omega⟩,by omega,hw,hnx⟩⟩
  ·have e:m=n:=by omega
   subst e
   simp[sj]
 ·rw[xq h0]
  have h01:min 1 n=1:=by omega
  refine ay Nat (fun m=>[(7,.ref (.r 10112) 0 n),(8,.int .i64 m),(10112,.blk 1 (jk n m v))]) (fun m=>m<=n/\(0<n->0<m)) (fun m=>n-m) 1 ⟨by omega,by omega⟩ (by simp[h01]) ?_
  rintro m ⟨hm,hm0⟩
  simp
  refine ab (fun h=>?_) (fun h=>?_)<;>simp at h
  ·have hm1:0<m:=hm0 (by omega)
   have hl:=vF (v:=v) hm
   have hnx:=sm (v:=v) hm
   have hc:=qz n m v
   have hc1:=sk n m v
   have hnm:¬n-m=0:=by omega
   have hpos:0<n-m:=by omega
   have htk:∀e∈(jk n m v).take m,∀c∈e,aA c=true:=fun e he=>hc1 e (x0O he)
   have hw:IntKind.wrap .i64 ((m:Int)+((min m (n-m):Nat):Int))=((min n (m+m):Nat):Int):=wrap_i64 (by omega) (by omega)
   simp[h,hl,hm,vr]
   try refine⟨htk,hm1,fun hz=>absurd hz hnm,fun _=>⟨hc1,htk,aw (by decide +kernel),min n (m+m),⟨by omega,fun _=>by omega⟩,by omega,hw,hnx⟩⟩
  ·have e:m=n:=by omega
   subst e
   simp[sj]
end Go.Gv

namespace Go.Gv
abbrev Sp:=Int×Int
def CJ(n:Int):Bool:=decide (-72057594037927936<=n)&&decide (n<=72057594037927936)
def rg(s:Sp):Bool:=decide (s.1<=s.2)&&CJ s.1&&CJ s.2
def xB(s:Sp):Bool:=decide (s.1<0)||decide (1099511627776<s.2)
def kp(l:List Sp)(count:Int):Int:=if l.any (fun s=>!rg s) then 1 else if (l.length:Int)=count then(if l.any xB then 2 else 0) else 3
def Bi(a b:Sp):Sp:=(IntKind.wrap .i64 (a.1+b.1),IntKind.wrap .i64 (a.2+b.2))
abbrev FSt:=(Nat->Sp)×(Nat->Sp)
def oo(i k:Nat)(e:Edg)(s:FSt):FSt:=if e.1=i then(fun v=>if v=e.2 then Bi (s.1 e.2) (s.1 i) else s.1 v,fun q=>if q=k then s.1 i else s.2 q) else s
def flI(es:List Edg)(i:Nat)(s:FSt):Nat->FSt
 | 0=>s
 | k+1=>oo i k es[k]! (flI es i s k)
def flO(es:List Edg)(ord:List Nat)(s:FSt):Nat->FSt
 | 0=>s
 | m+1=>flI es ord[m]! (flO es ord s m) es.length
def flS(l:List Sp):FSt:=(fun v=>l[v]!,fun _=>(0,0))
def aV(n:Nat)(es:List Edg)(l:List Sp):List Sp:=(List.range es.length).map (flO es (bk n es) (flS l) (bk n es).length).2
def sN(l:List Sp):Bool:=l.any fun s=>decide (1099511627776<s.2)
def iH(n:Nat)(es:List Edg)(l:List Sp):Int:=if sN (aV n es l) then 5 else 0
def tf(n:Nat)(es:List Edg)(l:List Sp):D:=if sN (aV n es l) then .nils else .sl ((aV n es l).map knD)
def spR(n:Nat)(f:Nat->Sp):List (List D):=(List.range n).map fun v=>knD (f v)
theorem Jo(n:Nat)(f:Nat->Sp):spR n f=((List.range n).map f).map knD:=by simp[spR]
theorem HB(n:Nat)(f:Nat->Sp):(spR n f).map (fun e=>e.map bq)=spR n f:=by
 unfold spR
 rw[x1K]
 apply x0j
 intro v _
 simp[knD,bq]
theorem m8(n:Nat)(f:Nat->Sp):(spR n f).length=n:=by simp[spR]
theorem pm{n v:Nat}(f:Nat->Sp)(h:v<n):(spR n f)[v]? = some [.int .i64 (f v).1,.int .i64 (f v).2]:=by simp[spR,h,knD]
theorem yM{n v:Nat}(f:Nat->Sp)(x:Sp):(spR n f).set v [.int .i64 x.1,.int .i64 x.2]=spR n fun u=>if u=v then x else f u:=by
 unfold spR
 rw[km]
 apply x0j
 intro u _
 by_cases h:u=v<;>simp[h,knD]
variable{C:CC}(hC:al prog C)
include hC
theorem CK(n:Int):C 510 [.int .i64 n] (.bool (CJ n)) []:=by
 refine start hC (nf:=N510) rfl rfl ?_
 simp[N510,CJ]
 refine ab (fun h=>?_) (fun h=>?_)<;>simp at h<;>simp[h]
 intro _;omega
theorem Jn(s:Sp):C 493 [.agg (knD s)] (.bool (rg s)) []:=by
 refine start hC (nf:=N493) rfl rfl ?_
 simp[N493,knD]
 refine ab (fun h=>?_) (fun h=>?_)<;>simp at h<;>simp[h]
 ·refine aa (CK hC s.1) (.inl rfl) ?_
  cases h1:CJ s.1
  ·simp[rg,h1]
  ·simp
   refine aa (CK hC s.2) (.inl rfl) ?_
   simp[rg,h1,h]
 ·simp[rg,show ¬s.1<=s.2 by omega]
theorem GF(s:Sp):C 492 [.agg (knD s)] (.bool (!rg s)) []:=by
 have k:=Jn hC s
 simp only[knD]at k
 refine start hC (nf:=N492) rfl rfl ?_
 simp[N492,knD]
 refine aa k (.inl rfl) ?_
 simp
theorem Jp(s:Sp):C 494 [.agg (knD s)] (.bool (xB s)) []:=by
 refine start hC (nf:=N494) rfl rfl ?_
 simp[N494,knD,xB]
 by_cases h:s.1<0<;>simp[h]
theorem GG(s:Sp):C 497 [.agg (knD s)] (.bool (decide (1099511627776<s.2))) []:=by
 refine start hC (nf:=N497) rfl rfl ?_
 simp[N497,knD]
theorem Fy{b:Bool}{xs:List (Int×Int)}{g:Nat}{cs:List D}(p:(Int×Int)->Bool)(hs:xs.length<2^62)(hp:∀x∈xs,C g (.agg (knD x)::cs) (.bool (p x)) []):C 509 [slx b (xs.map fun x=>knD x),.fn g cs] (.int .i64 (ct p xs)) []:=by
 refine start hC (nf:=N509) rfl rfl ?_
 simp[N509]
 refine ay Nat (fun i=>[(0,slx b (xs.map fun x=>knD x)),(1,.fn g cs),(7,.int .i64 xs.length),(8,.int .i64 i)]) (fun i=>i<=xs.length/\∀(j:Nat) (h:j<xs.length),j<i->p xs[j]=false) (fun i=>xs.length-i) 0 (by simp) (by simp) ?_
 rintro i ⟨hi,hj⟩
 simp
 refine ab (fun h=>?_) (fun h=>?_)<;>simp[h]<;>simp at h
 ·have hw:IntKind.wrap .i64 ((i:Int)+1)=((i+1:Nat):Int):=wrap_i64 (by omega) (by omega)
  have hc:=hp _ (x0h h)
  simp[h,knD]at hc ⊢
  refine aa hc (.inl rfl) ?_
  simp
  refine ab (fun h1=>?_) (fun h1=>?_)<;>simp[h1,hw]
  ·rw[dE hj h h1]
  ·refine⟨i+1,⟨by omega,fun j hl hjj=>?_⟩,by omega,rfl⟩
   rcases x0y.1 hjj with h2|rfl
   ·exact hj j hl h2
   ·exact h1
 ·rw[fh (fun j hl=>hj j hl (by omega))]
theorem tk{b:Bool}{xs:List (Int×Int)}{g:Nat}{cs:List D}(p:(Int×Int)->Bool)(hs:xs.length<2^62)(hp:∀x∈xs,C g (.agg (knD x)::cs) (.bool (p x)) []):C 491 [slx b (xs.map fun x=>knD x),.fn g cs] (.bool (xs.any p)) []:=by
 refine start hC (nf:=N491) rfl rfl ?_
 simp[N491]
 refine aa (Fy hC p hs hp) (.inl rfl) ?_
 simp[f9]
theorem yN(b:Bool)(l:List Sp)(count:Int)(hl:l.length<2^62):C 460 [slx b (l.map knD),.int .i64 count] (.int .i64 (kp l count)) []:=by
 have k1:=tk hC (b:=b) (xs:=l) (g:=492) (cs:=[]) (fun s=>!rg s) hl (fun x _=>GF hC x)
 have k2:=tk hC (b:=b) (xs:=l) (g:=494) (cs:=[]) xB hl (fun x _=>Jp hC x)
 refine start hC (nf:=N460) rfl rfl ?_
 simp[N460]
 refine aa k1 (.inl rfl) ?_
 unfold kp
 cases h1:l.any (fun s=>!rg s)
 ·simp
  by_cases h2:(l.length:Int)=count
  ·simp[h2]
   refine aa k2 (.inl rfl) ?_
   cases h3:l.any xB<;>simp[h2]
  ·simp[h2]
 ·simp
theorem zU(b:Bool)(l:List Sp)(hl:l.length<2^40):C 496 [slx b (l.map knD)] .any [.own 2 (l.map knD)]:=by
 have hf:∀e∈l.map knD,e.length=2/\(∀c∈e,aA c=true)/\∀c∈e,bP c=true:=by
  intro e he
  obtain⟨s,_,rfl⟩:=x0w.1 he
  simp[knD,aA,bP]
 cases l with
 | nil =>
  cases b with
  | true =>
   show C 496 [.nils] .any [.own 2 []]
   refine jp hC (nf:=N496) rfl rfl ?_
   simp[N496]
  | false =>
   show C 496 [.sl []] .any [.own 2 []]
   refine jp hC (nf:=N496) rfl rfl ?_
   simp[N496]
 | cons x xs =>
  have e:slx b ((x::xs).map knD)=.sl ((x::xs).map knD):=by cases b<;>rfl
  rw[e]
  obtain⟨l,hl2⟩:∃l,l=(x::xs).map knD:=⟨_,rfl⟩
  have h:0<l.length:=by rw[hl2];simp
  have h2:l.length<1099511627776:=by rw[hl2];simpa using hl
  rw[<- hl2]at hf ⊢
  clear hl2 e hl
  refine jp hC (nf:=N496) rfl rfl ?_
  simp[N496]
  refine⟨fun _=>⟨fun e he=>⟨(hf e he).1,(hf e he).2.1⟩,by omega,fun e he=>(hf e he).2.2⟩,fun h0=>?_⟩
  subst h0
  simp at h
set_option maxRecDepth 20000 in
set_option maxHeartbeats 2000000 in
theorem vK(hS:SlC C)(b1 b2 b:Bool)(ns:List Nod)(ls:List Lnk)(l:List Sp)(hcv:∀l∈ls,l.curve.length<2^62)(ht:fI ns ls=true)(hl:l.length=ns.length):C 461 [.agg [slx b1 (ns.map bz),slx b2 (ls.map aJ)],slx b (l.map knD)] (.tup [tf ns.length (ah ns ls) l,.int .i64 (iH ns.length (ah ns ls) l)]) []:=by
 simp only[fI,gq,x0a,x0b]at ht
 obtain⟨⟨hv,_⟩,_,hlen⟩:=ht
 obtain⟨l1,l2⟩:=cC hv
 have k1:=uk hC hS b1 b2 ns ls hcv
 have k2:=jD hC b1 b2 ns ls hcv
 have k3:=zU hC b l (by omega)
 have hg:=fS hv
 have hel:=bT ns ls
 rw[hv]at k1 k2
 rw[tC,tB,hlen,if_neg (Nat.lt_irrefl _),if_neg (Nat.lt_irrefl _)]at k1
 simp only[if_true]at k1 k2
 refine start hC (nf:=N461) rfl rfl ?_
 simp[N461]
 refine aa k1 (.inr rfl) ?_
 simp[ndD]
 refine aa k2 (.inr rfl) ?_
 have hfv:aV ns.length (ah ns ls) l=(List.range (ah ns ls).length).map (flO (ah ns ls) (bk ns.length (ah ns ls)) (flS l) ns.length).2:=by unfold aV;rw[hlen]
 have hI:=ia ns.length (ah ns ls) ns.length
 have hIl:∀v∈bk ns.length (ah ns ls),v<ns.length:=hI.lt
 clear hI
 unfold tf iH
 rw[hfv]
 clear hfv
 generalize bk ns.length (ah ns ls)=ord at *
 generalize ah ns ls=es at *
 generalize ns.length=n at *
 simp[<- hel]
 refine⟨by omega,?_⟩
 refine nu k3 ?_
 simp[hl]
 refine ay Nat (fun m=>[(8,.sl (es.map edK)),(9,.ref (.r 10144) 0 es.length),(10144,.blk 2 (spR es.length (flO es ord (flS l) m).2)),(10,.ref (.r 10160) 0 n),(10160,.blk 2 (spR n (flO es ord (flS l) m).1)),(38,.sl (bg ord)),(39,.int .i64 n),(40,.int .i64 m)]) (fun m=>m<=n) (fun m=>n-m) 0 (by simp) (by
  simp[flO,flS,hl,aY,hlen]
  refine⟨by simp[spR,pg,knD],?_⟩
  apply x1J
  ·simp[spR,hl]
  ·intro i h1 h2
   have:i<l.length:=by simpa using h1
   simp[spR,this]) ?_
 rintro m hm
 simp
 refine ab (fun h=>?_) (fun h=>?_)<;>simp[h]<;>simp at h
 ·have hw:IntKind.wrap .i64 ((m:Int)+1)=((m+1:Nat):Int):=wrap_i64 (by omega) (by omega)
  have hmo:m<ord.length:=by omega
  have hin:=hIl _ (x0h hmo)
  simp[aD (ga hmo)]
  refine ay Nat (fun k=>[(8,.sl (es.map edK)),(9,.ref (.r 10144) 0 es.length),(10144,.blk 2 (spR es.length (flI es ord[m] (flO es ord (flS l) m) k).2)),(10,.ref (.r 10160) 0 n),(10160,.blk 2 (spR n (flI es ord[m] (flO es ord (flS l) m) k).1)),(12,.int .i64 ord[m]),(38,.sl (bg ord)),(39,.int .i64 n),(40,.int .i64 m),(44,.sl (es.map edK)),(45,.int .i64 es.length),(46,.int .i64 k)]) (fun k=>k<=es.length) (fun k=>es.length-k) 0 (by simp) (by simp[flI]) ?_
  rintro k hk
  simp
  refine ab (fun g=>?_) (fun g=>?_)<;>simp[g]<;>simp at g
  ·have hw2:IntKind.wrap .i64 ((k:Int)+1)=((k+1:Nat):Int):=wrap_i64 (by omega) (by omega)
   have he:=hg _ (x0h g)
   have eg:es[k]! = es[k]:=x0c es k g
   have efl:flI es ord[m] (flO es ord (flS l) m) (k+1)=oo ord[m] k es[k] (flI es ord[m] (flO es ord (flS l) m) k):=by rw[flI,eg]
   generalize flI es ord[m] (flO es ord (flS l) m) k=s at *
   simp[g,edK,knD]
   refine ab (fun c=>?_) (fun c=>?_)<;>simp at c<;>simp[c]
   ·have c':es[k].1≠ord[m]:=by omega
    have e2:flI es ord[m] (flO es ord (flS l) m) (k+1)=s:=by rw[efl,oo,if_neg c']
    refine⟨k+1,by omega,by omega,?_⟩
    simp[e2,hw2]
   ·have eg2:es[k]=es[k]?.getD default:=by simp[g]
    have c':es[k].1=ord[m]:=by omega
    have e2:flI es ord[m] (flO es ord (flS l) m) (k+1)=(fun v=>if v=es[k].2 then Bi (s.1 es[k].2) (s.1 ord[m]) else s.1 v,fun q=>if q=k then s.1 ord[m] else s.2 q):=by rw[efl,oo,if_pos c']
    simp[g,edK,knD,hin,he,bj (pm _ hin),pm _ g,bj (pm _ he.2),pm _ he.2]
    have hset:∀x,((spR n s.1).set es[k].2 x)[es[k].2]? = some x:=fun x=>by simp[m8,he.2]
    simp[hset]
    refine⟨aw (by decide +kernel),?_⟩
    simp[hw2]
    refine⟨k+1,by omega,by omega,?_,?_,by omega⟩
    ·rw[e2,yM]
    ·rw[e2]
     have:=yM (n:=n) (v:=es[k].2) s.1 (Bi (s.1 es[k].2) (s.1 ord[m]))
     exact this
  ·have ek:k=es.length:=by omega
   subst ek
   have eo:ord[m]! = ord[m]:=x0c ord m hmo
   have e2:flO es ord (flS l) (m+1)=flI es ord[m] (flO es ord (flS l) m) es.length:=by rw[flO,eo]
   exact⟨m+1,by omega,by omega,by rw[e2],by rw[e2],hw⟩
 ·have em:m=n:=by omega
  subst em
  have k4:=tk hC (b:=false) (xs:=(List.range es.length).map (flO es ord (flS l) m).2) (g:=497) (cs:=[]) (fun s=>decide (1099511627776<s.2)) (by simp;omega) (fun x _=>GG hC x)
  rw[dc,<- Jo]at k4
  simp only[HB,m8,x0i (Nat.le_of_eq (m8 es.length (flO es ord (flS l) m).2))]
  refine⟨x0k _,?_⟩
  refine aa k4 (.inl rfl) ?_
  show dW _ _ _ _ _ _ _ _ _ (.bool (sN ((List.range es.length).map (flO es ord (flS l) m).2)))
  cases hb:sN ((List.range es.length).map (flO es ord (flS l) m).2)
  ·simp[HB,m8]
   rw[x0i (by rw[m8];exact x0k _)]
   simp[spR]
  ·simp
def jC(ns:List Nod)(ls:List Lnk)(l:List Sp):Int:=if fI ns ls then(if kp l ns.length=0 then iH ns.length (ah ns ls) l else kp l ns.length) else 1
def wc(ns:List Nod)(ls:List Lnk)(l:List Sp):D:=if jC ns ls l=0 then .sl ((aV ns.length (ah ns ls) l).map knD) else .nils
theorem Ea{l:List Sp}{n:Nat}(h:kp l n=0):l.length=n:=by
 unfold kp at h
 split at h
 ·cases h
 ·split at h
  ·omega
  ·cases h
theorem EB(hS:SlC C)(b1 b2 b:Bool)(ns:List Nod)(ls:List Lnk)(l:List Sp)(hls:ls.length<2^62)(hl:l.length<2^62)(hcv:∀l∈ls,l.curve.length<2^62):C 428 [.agg [slx b1 (ns.map bz),slx b2 (ls.map aJ)],slx b (l.map knD)] (.tup [wc ns ls l,.int .i64 (jC ns ls l)]) []:=by
 have k1:=yF hC hS b1 b2 ns ls hls hcv
 have k2:=yN hC b l ns.length hl
 refine start hC (nf:=N428) rfl rfl ?_
 simp[N428]
 refine aa k1 (.inl rfl) ?_
 unfold wc jC
 cases ht:fI ns ls
 ·simp
 simp
 refine aa k2 (.inl rfl) ?_
 by_cases h0:kp l ns.length=0
 ·have k3:=vK hC hS b1 b2 b ns ls l hcv ht (Ea hC h0)
  simp[h0]
  unfold tf iH at k3
  unfold iH
  refine aa k3 (.inr rfl) ?_
  cases hb:sN (aV ns.length (ah ns ls) l)<;>simp[h0]
 ·simp[h0]
end Go.Gv

namespace Go.Gv
def wS(s:Sp):Sp:=(IntKind.wrap .i64 s.1,IntKind.wrap .i64 s.2)
def adS(a b:Sp):Sp:=(a.1+b.1,a.2+b.2)
theorem Es(a b:Int):IntKind.wrap .i64 (IntKind.wrap .i64 a+b)=IntKind.wrap .i64 (a+b):=by
 simp only[IntKind.wrap_i64]
 omega
theorem HA(a b:Sp):Bi (wS a) b=wS (adS a b):=by
 simp only[Bi,wS,adS,Es]
def fc(P:Nat->Bool)(o:Nat->Sp):Nat->Sp
 | 0=>(0,0)
 | k+1=>if P k then adS (fc P o k) (o k) else fc P o k
theorem fR{P P':Nat->Bool}{o o':Nat->Sp}:∀{K:Nat},(∀k,k<K->P k=P' k/\(P k=true->o k=o' k))->fc P o K=fc P' o' K
 | 0,_=>rfl
 | K+1,h=>by
  obtain⟨h1,h2⟩:=h K (by omega)
  have ih:=fR (K:=K) (fun k hk=>h k (by omega))
  unfold fc
  rw[ih,<- h1]
  cases hP:P K
  ·rfl
  ·simp only[if_true];rw[h2 hP]
theorem iL(a:Sp):adS a (0,0)=a:=by simp[adS]
theorem zj(a b c:Sp):adS (adS a b) c=adS (adS a c) b:=by simp only[adS];congr 1<;>omega
theorem rq(a b c:Sp):adS (adS a b) c=adS a (adS b c):=by simp only[adS];congr 1<;>omega
theorem vU{P P':Nat->Bool}{o o':Nat->Sp}{k0:Nat}(h:∀k,k≠k0->P' k=P k/\o' k=o k)(h0:P k0=false):∀K,fc P' o' K=adS (fc P o K) (if k0<K/\P' k0=true then o' k0 else(0,0))
 | 0=>by simp[fc,adS]
 | K+1=>by
  have ih:=vU h h0 K
  unfold fc
  by_cases e:K=k0
  ·subst e
   have e1:¬(K<K/\P' K=true):=fun h=>Nat.lt_irrefl _ h.1
   rw[if_neg e1,iL]at ih
   rw[h0,ih]
   cases hP:P' K
   ·simp[adS]
   ·simp
  ·obtain⟨h1,h2⟩:=h K e
   rw[h1,h2,ih]
   have e2:(k0<K+1/\P' k0=true)↔(k0<K/\P' k0=true):=⟨fun x=>⟨by omega,x.2⟩,fun x=>⟨by omega,x.2⟩⟩
   by_cases c:k0<K/\P' k0=true
   ·rw[if_pos c,if_pos (e2.2 c)]
    cases P K
    ·rfl
    ·simp only[if_true];exact zj _ _ _
   ·rw[if_neg c,if_neg (fun x=>c (e2.1 x)),iL,iL]
theorem pD{es:List Edg}{i:Nat}{s:FSt}:∀{K:Nat},K<=es.length->(∀k,(h:k<es.length)->k<K->es[k].1≠i)->flI es i s K=s
 | 0,_,_=>rfl
 | K+1,hK,h=>by
  have hk:K<es.length:=by omega
  unfold flI
  rw[pD (by omega) (fun k h1 h2=>h k h1 (by omega)),x0c es K hk,oo,if_neg (h K hk (by omega))]
theorem x8{es:List Edg}{i:Nat}{s:FSt}{k0:Nat}(hk0:k0<es.length)(hi:es[k0].1=i)(hu:∀k,(h:k<es.length)->es[k].1=i->k=k0):∀{K:Nat},K<=es.length->k0<K->flI es i s K=oo i k0 es[k0] s
 | 0,_,h=>by omega
 | K+1,hK,h=>by
  have hk:K<es.length:=by omega
  unfold flI
  rw[x0c es K hk]
  by_cases e:K=k0
  ·subst e
   rw[pD (by omega) (fun k h1 h2 e=>by have:=hu k h1 e;omega)]
  ·rw[x8 hk0 hi hu (by omega) (by omega),oo,if_neg (fun e2=>e (hu K hk e2))]
theorem vt(n:Nat)(es:List Edg)(m:Nat):∀k,aU n es m <+: aU n es (m+k)
 | 0=>List.prefix_refl _
 | k+1=>by
  refine(vt n es m k).trans ?_
  show _ <+: ku n es (aU n es (m+k))
  unfold ku
  split
  ·exact List.prefix_refl _
  ·exact List.prefix_append _ _
theorem nP(n:Nat)(es:List Edg):∀m k,(aU n es (m+k)).length<=(aU n es m).length+k
 | m,0=>by simp
 | m,k+1=>by
  have ih:=nP n es m k
  show(ku n es (aU n es (m+k))).length<=_
  unfold ku
  split
  ·omega
  ·simp;omega
theorem kS{n:Nat}{es:List Edg}(h:(bk n es).length=n){m:Nat}(hm:m<=n):(bk n es).take m=aU n es m/\(aU n es m).length=m:=by
 have h1:=nP n es 0 m
 have h2:=nP n es m (n-m)
 have h3:=vt n es m (n-m)
 rw[show m+(n-m)=n by omega]at h2 h3
 simp only[x1a]at h1
 have h4:(aU n es 0).length=0:=rfl
 have hl:(aU n es m).length=m:=by
  have h5:(aU n es n).length=n:=h
  omega
 refine⟨?_,hl⟩
 obtain⟨t,ht⟩:=h3
 show(aU n es n).take m=_
 rw[<- ht,List.take_append_of_le_length (by omega),x0i (by omega)]
theorem kq{es:List Edg}(h:(es.map (·.1)).Nodup){k k':Nat}(hk:k<es.length)(hk':k'<es.length)(e:es[k].1=es[k'].1):k=k':=by
 have h1:k<(es.map (·.1)).length:=by simpa using hk
 have h2:k'<(es.map (·.1)).length:=by simpa using hk'
 have:=(List.getElem_inj (xs:=es.map (·.1)) (i:=k) (j:=k') (h₀:=h1) (h₁:=h2) h).1 (by simpa using e)
 exact this
def inT(es:List Edg)(v:Nat)(done:List Nat)(k:Nat):Bool:=decide (es[k]!.2=v)&&done.contains es[k]!.1
theorem x9{n:Nat}{es:List Edg}(hg:inG n es)(ht:gq n es=true){l:List Sp}(hl:∀v,v<n->wS l[v]! = l[v]!):∀m,m<=n ->
  (∀k,(h:k<es.length)->es[k].1∈(bk n es).take m->(flO es (bk n es) (flS l) m).2 k=(flO es (bk n es) (flS l) m).1 es[k].1) /\
  (∀v,v<n->(flO es (bk n es) (flS l) m).1 v=wS (adS l[v]! (fc (inT es v ((bk n es).take m)) (flO es (bk n es) (flS l) m).2 es.length)))
 | 0,_=>by
  refine⟨fun k h hk=>by simp at hk,fun v hv=>?_⟩
  have:fc (inT es v ((bk n es).take 0)) (flS l).2 es.length=fc (fun _=>false) (flS l).2 es.length:=fR fun k hk=>⟨by simp[inT],fun h=>by simp[inT]at h⟩
  have hz:∀K,fc (fun _=>false) (flS l).2 K=(0,0):=fun K=>by
   induction K with
   | zero=>rfl
   | succ K ih=>unfold fc;simpa using ih
  show l[v]! = wS (adS l[v]! (fc (inT es v ((bk n es).take 0)) (flS l).2 es.length))
  rw[this,hz,iL,hl v hv]
 | m+1,hm=>by
  simp only[gq,x0a,x0b]at ht
  obtain⟨hnd,hlen⟩:=ht
  obtain⟨ih1,ih2⟩:=x9 hg (by simp[gq,hnd,hlen]) hl m (by omega)
  obtain⟨t1,t2⟩:=kS hlen (show m<=n by omega)
  obtain⟨t3,t4⟩:=kS hlen hm
  have hml:m<(bk n es).length:=by omega
  have hI:=ia n es m
  have hI':=ia n es (m+1)
  have htk:(bk n es).take (m+1)=(bk n es).take m++[(bk n es)[m]]:=x0m hml
  obtain⟨i,hi⟩:∃i,i=(bk n es)[m]:=⟨_,rfl⟩
  rw[<- hi]at htk
  have hin:i∈aU n es (m+1):=by rw[<- t3,htk];simp
  have hni:i∉(bk n es).take m:=by
   have:=hI'.nd
   rw[<- t3,htk,x1x]at this
   exact fun h=>this.2.2 i h i (by simp) rfl
  have hcl:∀u v,u∈(bk n es).take m->(v,u)∈es->v∈(bk n es).take m:=fun u v hu he=>by rw[t1]at hu ⊢;exact hI.pre u hu v he
  have hself:(i,i)∉es:=by
   intro he
   have:dS n es (aU n es m)≠[]:=by
    intro e
    have:=mN e 1
    rw[this]at t4
    omega
   cases hr:dS n es (aU n es m) with
   | nil=>exact this hr
   | cons j r =>
    have e1:=nQ hr
    have e2:j=i:=by
     have h5:aU n es m++[j]=aU n es m++[i]:=by rw[<- e1,<- t3,htk,t1]
     simpa using h5
    have hj:j∈dS n es (aU n es m):=by rw[hr];simp
    rw[e2]at hj
    obtain⟨_,h6,h7⟩:=iU.1 hj
    exact h6 (h7 i he)
  obtain⟨s,hs⟩:∃s,s=flO es (bk n es) (flS l) m:=⟨_,rfl⟩
  have efl:flO es (bk n es) (flS l) (m+1)=flI es i s es.length:=by rw[flO,x0c _ m hml,<- hi,<- hs]
  rw[efl]
  rw[<- hs]at ih1 ih2
  by_cases hx:∃k,∃h:k<es.length,es[k].1=i
  ·obtain⟨k0,hk0,e0⟩:=hx
   have hu:∀k,(h:k<es.length)->es[k].1=i->k=k0:=fun k h e=>kq hnd h hk0 (e.trans e0.symm)
   rw[x8 hk0 e0 hu (x0k _) hk0,oo,if_pos e0]
   have het:(i,es[k0].2)∈es:=by rw[<- e0];exact x0h hk0
   have hti:es[k0].2≠i:=fun e=>hself (by rw[e]at het;exact het)
   have htm:es[k0].2∉(bk n es).take m:=fun h=>hni (hcl _ _ h het)
   refine⟨fun k h hk=>?_,fun v hv=>?_⟩
   ·rw[htk]at hk
    rcases x0n.1 hk with hk|hk
    ·have hne:k≠k0:=by rintro rfl;exact hni (e0▸hk)
     have hnt:es[k].1≠es[k0].2:=fun e=>htm (e▸hk)
     simp only[if_neg hne,if_neg hnt]
     exact ih1 k h hk
    ·simp only[x1h]at hk
     have:k=k0:=hu k h hk
     subst this
     simp only[if_true]
     rw[if_neg (by rw[hk];exact Ne.symm hti),hk]
   ·have hsum:fc (inT es v ((bk n es).take (m+1))) (fun q=>if q=k0 then s.1 i else s.2 q) es.length=adS (fc (inT es v ((bk n es).take m)) s.2 es.length) (if es[k0].2=v then s.1 i else(0,0)):=by
     have eK:fc (fun k=>decide (k<es.length)&&inT es v ((bk n es).take (m+1)) k) (fun q=>if q=k0 then s.1 i else s.2 q) es.length=fc (inT es v ((bk n es).take (m+1))) (fun q=>if q=k0 then s.1 i else s.2 q) es.length:=fR fun k hk=>⟨by simp[hk],fun _=>rfl⟩
     have eK2:fc (fun k=>decide (k<es.length)&&inT es v ((bk n es).take m) k) s.2 es.length=fc (inT es v ((bk n es).take m)) s.2 es.length:=fR fun k hk=>⟨by simp[hk],fun _=>rfl⟩
     rw[<- eK,<- eK2,vU (P:=fun k=>decide (k<es.length)&&inT es v ((bk n es).take m) k) (o:=s.2) (k0:=k0) (fun k hk=>⟨?_,by simp[hk]⟩) (by simp[inT,x0c es k0 hk0,e0,hni])]
     ·congr 1
      simp only[if_true]
      by_cases c:es[k0].2=v
      ·rw[if_pos c,if_pos ⟨hk0,by simp[hk0,inT,x0c es k0 hk0,e0,c,htk]⟩]
      ·rw[if_neg c,if_neg (fun h=>by simp[inT,x0c es k0 hk0,c]at h)]
     ·by_cases hkl:k<es.length
      ·have hne:es[k].1≠i:=fun e=>hk (hu k hkl e)
       simp[hkl,inT,htk,hne]
      ·simp[hkl]
    rw[hsum]
    by_cases c:v=es[k0].2
    ·simp only[if_pos c,if_pos c.symm]
     rw[<- c,ih2 v hv,HA,rq]
    ·simp only[if_neg c,if_neg (Ne.symm c),iL]
     exact ih2 v hv
  ·have hno:∀k,(h:k<es.length)->es[k].1≠i:=fun k h e=>hx ⟨k,h,e⟩
   rw[pD (x0k _) (fun k h _=>hno k h)]
   refine⟨fun k h hk=>?_,fun v hv=>?_⟩
   ·rw[htk]at hk
    rcases x0n.1 hk with hk|hk
    ·exact ih1 k h hk
    ·exact absurd (by simpa using hk) (hno k h)
   ·rw[ih2 v hv]
    congr 2
    refine fR fun k hk=>⟨?_,fun _=>rfl⟩
    simp[inT,x0c es k hk,htk,hno k hk]
def zB(es:List Edg)(fl:List Sp)(s0:Sp)(v:Nat):Nat->Sp
 | 0=>s0
 | k+1=>if es[k]!.2=v then Bi (zB es fl s0 v k) fl[k]! else zB es fl s0 v k
theorem sM(es:List Edg)(fl:List Sp)(s0:Sp)(h0:wS s0=s0)(v:Nat):∀K,zB es fl s0 v K=wS (adS s0 (fc (fun k=>decide (es[k]!.2=v)) (fun k=>fl[k]!) K))
 | 0=>by simp[zB,fc,iL,h0]
 | K+1=>by
  have ih:=sM es fl s0 h0 v K
  unfold zB fc
  by_cases c:es[K]!.2=v
  ·rw[if_pos c,if_pos (by simpa using c),ih,HA,rq]
  ·rw[if_neg c,if_neg (by simpa using c),ih]
theorem EK{n:Nat}{es:List Edg}(hg:inG n es)(ht:gq n es=true){l:List Sp}(hl:∀v,v<n->wS l[v]! = l[v]!){i:Nat}(hi:i<es.length):(aV n es l)[i]! = zB es (aV n es l) l[es[i].1]! es[i].1 es.length:=by
 have ht2:=ht
 simp only[gq,x0a,x0b]at ht2
 obtain⟨h1,h2⟩:=x9 hg ht hl n (x0k _)
 have hv:=(hg _ (x0h hi)).1
 have hfull:(bk n es).take n=bk n es:=x0i (by omega)
 have hI:=ia n es n
 have hmem:∀v,v<n->v∈bk n es:=by
  intro v hv
  apply Classical.byContradiction
  intro hn
  have hnd:(v::bk n es).Nodup:=List.nodup_cons.2 ⟨hn,hI.nd⟩
  have hsub:(v::bk n es) ⊆ List.range n:=by
   intro u hu
   rcases x0H.1 hu with rfl|hu
   ·simpa using hv
   ·simpa using hI.lt u hu
  have:=List.Nodup.length_le_of_subset hnd hsub
  simp at this
  omega
 have eF:∀k,k<es.length->(aV n es l)[k]! =(flO es (bk n es) (flS l) n).2 k:=fun k hk=>by
  unfold aV
  rw[ht2.2,x0c _ k (by simpa using hk)]
  simp
 rw[sM _ _ _ (hl _ hv),eF i hi,h1 i hi (by rw[hfull];exact hmem _ hv),h2 _ hv]
 congr 2
 refine fR fun k hk=>⟨?_,fun _=>(eF k hk).symm⟩
 have:=hmem _ (hg _ (x0h hk)).1
 simp[inT,x0c es k hk,hfull,this]
end Go.Gv

namespace Go.Gv
def fE(es:List Edg)(v:Nat):Option Nat:=es.findIdx? fun e=>e.1==v
def frI:Option Nat->Int
 | some i=>i
 | none=>-1
theorem eO{es:List Edg}{v i:Nat}(h:fE es v=some i):∃hi:i<es.length,es[i].1=v/\∀j (hj:j<i),¬es[j].1=v:=by
 unfold fE at h
 rw[x0Z]at h
 obtain⟨h1,h2,h3⟩:=h
 exact⟨h1,by simpa using h2,fun j hj=>by simpa using h3 j hj⟩
theorem tc{es:List Edg}{v:Nat}:fE es v=none↔v∉es.map (·.1):=by
 unfold fE
 rw[x1F]
 simp only[beq_eq_false_iff_ne,ne_eq,x0w,not_exists,not_and]
theorem Fc{es:List Edg}{j:Nat}(hj:j<es.length)(v:Nat):fE (es.take (j+1)) v=(fE (es.take j) v).or (if es[j].1=v then some j else none):=by
 have hl:(es.take j).length=j:=by simp;omega
 unfold fE
 rw[x0m hj,List.findIdx?_append]
 congr 1
 by_cases h:es[j].1=v
 ·rw[if_pos h];simp[List.findIdx?_cons,h,hl]
 ·rw[if_neg h];simp[List.findIdx?_cons,h]
def frA(n:Nat)(es:List Edg)(j:Nat):List (List D):=(List.range n).map fun v=>[.int .i64 (frI (fE (es.take j) v))]
theorem CS(n:Nat)(es:List Edg):frA n es 0=List.replicate n [.int .i64 (-1)]:=by
 apply x1J
 ·simp[frA]
 ·intro i h1 h2
  simp[frA,fE,frI]
theorem jf(n:Nat)(es:List Edg)(j:Nat):(frA n es j).length=n:=by simp[frA]
theorem th{n v:Nat}(es:List Edg)(j:Nat)(h:v<n):(frA n es j)[v]? = some [.int .i64 (frI (fE (es.take j) v))]:=by simp[frA,h]
theorem Fi{n:Nat}{es:List Edg}{j:Nat}(hj:j<es.length)(h:fE (es.take j) es[j].1=none):(frA n es j).set es[j].1 [.int .i64 (j:Int)]=frA n es (j+1):=by
 unfold frA
 rw[km]
 apply x0j
 intro v _
 rw[Fc hj]
 by_cases e:v=es[j].1
 ·subst e
  rw[if_pos rfl,h,if_pos rfl];rfl
 ·rw[if_neg e,if_neg (Ne.symm e),Option.or_none]
theorem oZ{o:Option Nat}:frI o=-1↔o=none:=by
 cases o with
 | none=>simp[frI]
 | some i=>simp[frI]
theorem FR{es:List Edg}{j:Nat}(hj:j<es.length)(h:((es.take j).map (·.1)).Nodup):((es.take (j+1)).map (·.1)).Nodup↔fE (es.take j) es[j].1=none:=by
 rw[x0m hj,x1d,x1x,tc]
 simp only[x0F,x02,x0H,x07,or_false,forall_eq,List.nodup_cons,not_false_eq_true,List.nodup_nil,and_self,true_and,h]
 constructor
 ·intro h1 h2;exact h1 _ h2 rfl
 ·rintro h1 a ha rfl;exact h1 ha
theorem IU{es:List Edg}{j:Nat}(h:¬((es.take j).map (·.1)).Nodup):¬(es.map (·.1)).Nodup:=fun h2=>h ((((List.take_sublist j es).map _).nodup) h2)
def ppT(es:List Edg)(vs:List Nat):List Nat:=vs.filterMap (fE es)
theorem Dt{es:List Edg}{vs:List Nat}{k:Nat}(hk:k<vs.length):ppT es (vs.take (k+1))=ppT es (vs.take k)++(fE es vs[k]).toList:=by
 unfold ppT
 rw[x0m hk,List.filterMap_append]
 cases h:fE es vs[k]<;>simp[h]
theorem yy{es:List Edg}{vs:List Nat}{l:Nat}(h:l∈ppT es vs):∃v∈vs,fE es v=some l:=by
 simpa[ppT]using h
theorem lH{es:List Edg}{vs:List Nat}{l:Nat}(h:l∈ppT es vs):l<es.length:=by
 obtain⟨v,_,hv⟩:=yy h
 exact(eO hv).1
theorem F5{es:List Edg}{vs:List Nat}(hnd:vs.Nodup){k:Nat}(hk:k<vs.length){l:Nat}(hl:fE es vs[k]=some l):l∉ppT es (vs.take k):=by
 intro h
 obtain⟨v,hv,hv2⟩:=yy h
 obtain⟨h1,h2,_⟩:=eO hl
 obtain⟨h3,h4,_⟩:=eO hv2
 have e:v=vs[k]:=by rw[<- h2,<- h4]
 subst e
 obtain⟨j,hj,hj2⟩:=x0P hv
 rw[List.getElem_take]at hj2
 have hjk:j<k:=by simp at hj;omega
 have:=(List.getElem_inj hnd).1 hj2
 omega
theorem kV(es:List Edg)(vs:List Nat):(ppT es vs).length<=vs.length:=List.length_filterMap_le _ _
def tA(T:List Nat)(l:Nat):Nat:=if l∈T then T.idxOf l else 0
def li(m:Nat)(T:List Nat):List (List D):=(List.range m).map fun l=>[.int .i64 (tA T l:Int)]
theorem AB(m:Nat):li m []=List.replicate m [.int .i64 0]:=by
 apply x1J
 ·simp[li]
 ·intro i h1 h2
  simp[li,tA]
theorem mI(m:Nat)(T:List Nat):(li m T).length=m:=by simp[li]
theorem Dg{m l:Nat}(T:List Nat)(h:l<m):(li m T)[l]? = some [.int .i64 (tA T l:Int)]:=by simp[li,h]
theorem Dh{m:Nat}{T:List Nat}{l:Nat}(h:l∉T):(li m T).set l [.int .i64 (T.length:Int)]=li m (T++[l]):=by
 unfold li
 rw[km]
 apply x0j
 intro v _
 unfold tA
 by_cases e:v=l
 ·subst e
  rw[if_pos rfl,if_pos (by simp),List.idxOf_append,if_neg h]
  simp
 ·rw[if_neg e]
  by_cases hv:v∈T
  ·rw[if_pos hv,if_pos (by simp[hv]),List.idxOf_append,if_pos hv]
  ·rw[if_neg hv,if_neg (by simp[hv,e])]
def iC(es:List Edg)(T:List Nat)(l:Nat):Int:=match fE es (es[l]?.getD default).2 with
 | some x=>tA T x
 | none=>-1
def ppL(n:Nat)(es:List Edg):List Nat:=ppT es (bk n es)
def ppB(n:Nat)(es:List Edg):List Int:=(ppL n es).map (iC es (ppL n es))
def oN(es:List Edg)(T:List Nat)(k:Nat):List (List D):=(T.take k).map fun l=>[.int .i64 (iC es T l)]
theorem zG(es:List Edg)(T:List Nat):oN es T 0=[]:=by simp[oN]
theorem zD{es:List Edg}{T:List Nat}{k:Nat}(h:k<T.length):oN es T (k+1)=oN es T k++[[.int .i64 (iC es T T[k])]]:=by
 unfold oN
 rw[x0m h,x1d];rfl
theorem BL{es:List Edg}{T:List Nat}{k:Nat}(h:k<=T.length):(oN es T k).length=k:=by simp[oN];omega
theorem BK(es:List Edg)(T:List Nat):oN es T T.length=(T.map (iC es T)).map fun b=>[.int .i64 b]:=by
 unfold oN
 rw[x0L,x1K];rfl
theorem pf(n:Nat)(es:List Edg):(bk n es).Nodup:=(ia n es n).nd
theorem yp{n:Nat}{es:List Edg}{v:Nat}(h:v∈bk n es):v<n:=(ia n es n).lt v h
def ppE(ls:List Lnk)(n:Nat)(es:List Edg):Int:=if ls.any (fun l=>!decide (l.kind=1)) then 11 else if ¬(es.map (·.1)).Nodup then 25 else if (bk n es).length<n then 22 else 0
end Go.Gv

set_option maxRecDepth 4000
namespace Go.Gv
def ppV(ls:List Lnk)(n:Nat)(es:List Edg):List Nat:=if ppE ls n es=0 then ppL n es else []
def ppW(ls:List Lnk)(n:Nat)(es:List Edg):List Int:=if ppE ls n es=0 then ppB n es else []
def cH(l:List Int):List (List D):=l.map fun b=>[.int .i64 b]
variable{C:CC}(hC:al prog C)
include hC
theorem xb(l:Lnk):C 636 [.agg (aJ l)] (.bool (!decide (l.kind=1))) []:=by
 refine start hC (nf:=N636) rfl rfl ?_
 simp[N636,aJ]
 try (by_cases h:l.kind=1<;>simp[h])
theorem vA(hS:SlC C)(b1 b2:Bool)(ns:List Nod)(ls:List Lnk)(hcv:∀l∈ls,l.curve.length<2^62)(hv:cq ns ls=true) :
  C 605 [.agg [slx b1 (ns.map bz),slx b2 (ls.map aJ)]] (.tup [.sl (bg (ppV ls ns.length (ah ns ls))),.sl (cH (ppW ls ns.length (ah ns ls))),.int .i64 (ppE ls ns.length (ah ns ls))]) []:=by
 obtain⟨hn,hl⟩:=cC hv
 have k1:=mr hC (b:=b2) (xs:=ls) (g:=636) (cs:=[]) (fun l=>!decide (l.kind=1)) (by omega) (fun l _=>xb hC l)
 have k2:=jD hC b1 b2 ns ls hcv
 have k3:=uk hC hS b1 b2 ns ls hcv
 have k4:=DD hC (-1) ns.length (by omega)
 have hg:=fS hv
 have hel:=bT ns ls
 rw[if_pos hv]at k2 k3
 generalize hes:ah ns ls=es at *
 obtain⟨E,hE⟩:∃E,E=ppE ls ns.length es:=⟨_,rfl⟩
 obtain⟨V,hV⟩:∃V,V=ppV ls ns.length es:=⟨_,rfl⟩
 obtain⟨W,hW⟩:∃W,W=ppW ls ns.length es:=⟨_,rfl⟩
 rw[<- hE,<- hV,<- hW]
 have bad:E≠0->V=[]/\W=[]:=fun h=>by
  rw[hV,hW]
  unfold ppV ppW
  rw[if_neg (by rw[<- hE];exact h),if_neg (by rw[<- hE];exact h)]
  exact⟨rfl,rfl⟩
 refine start hC (nf:=N605) rfl rfl ?_
 simp[N605]
 refine aa k1 (.inl rfl) ?_
 by_cases h1:ls.any (fun l=>!decide (l.kind=1))=true
 ·have e1:E=11:=by rw[hE];unfold ppE;rw[if_pos h1]
  obtain⟨e2,e3⟩:=bad (by rw[e1];decide)
  rw[h1,e1,e2,e3]
  simp[bg,cH]
 rw[x0U]at h1
 rw[h1]
 simp
 refine aa k2 (.inr rfl) ?_
 simp
 refine nu k4 ?_
 simp
 refine ay Nat (fun j=>[(1,.ptr [slx b1 (ns.map bz),slx b2 (ls.map aJ)]),(2,.ref (.r 10032) 0 0),(3,.ref (.r 10048) 0 0),(5,.sl (es.map edK)),(6,.ref (.r 10096) 0 ns.length),(34,.sl (es.map edK)),(35,.int .i64 es.length),(36,.int .i64 j),(10032,.blk 1 []),(10048,.blk 1 []),(10096,.blk 1 (frA ns.length es j))]) (fun j=>j<=es.length/\((es.take j).map (·.1)).Nodup) (fun j=>es.length-j) 0 ⟨by omega,by simp⟩ (by simp[CS]) ?_
 rintro j ⟨hj,hnd⟩
 simp
 refine ab (fun h=>?_) (fun h=>?_)<;>simp at h
 ·have hw:IntKind.wrap .i64 ((j:Int)+1)=((j+1:Nat):Int):=wrap_i64 (by omega) (by omega)
  have hej:=hg _ (x0h h)
  have hget:=th es j hej.1
  have hf:=FR h hnd
  simp[h,edK,knD,hej.1,bj hget]
  refine ab (fun h2=>?_) (fun h2=>?_)<;>simp at h2
  ·have h3:¬(es.map (·.1)).Nodup:=IU (j:=j+1) (fun h3=>h2 (oZ.2 (hf.1 h3)))
   have e1:E=25:=by rw[hE];unfold ppE;rw[if_neg (by rw[h1];decide),if_pos h3]
   obtain⟨e2,e3⟩:=bad (by rw[e1];decide)
   rw[e1,e2,e3]
   simp[h2,bg,cH]
  ·have hfn:=oZ.1 h2
   have hset:=Fi (n:=ns.length) h hfn
   have hrow:(frA ns.length es j)[es[j].1]'(by rw[jf];exact hej.1)=[.int .i64 (frI (fE (es.take j) es[j].1))]:=by
    have:=x0e (show es[j].1<(frA ns.length es j).length by rw[jf];exact hej.1)
    rw[hget]at this
    exact(Option.some.inj this).symm
   simp[h2,jf,hej.1,bj hget,hrow]
   refine⟨j+1,⟨by omega,by rw[<- List.map_take];exact hf.2 hfn⟩,by omega,hw,hset⟩
 ·have ej:j=es.length:=by omega
  subst ej
  rw[x0L]at hnd
  simp[h]
  refine aa k3 (.inr rfl) ?_
  simp
  by_cases h2:(bk ns.length es).length<ns.length
  ·have e1:E=22:=by rw[hE];unfold ppE;rw[if_neg (by rw[h1];decide),if_neg (by simpa using hnd),if_pos h2]
   obtain⟨e2,e3⟩:=bad (by rw[e1];decide)
   have e4:tB ns.length es=22:=by unfold tB;rw[if_pos h2]
   have e5:tC ns.length es=.nils:=by unfold tC;rw[if_pos h2]
   rw[e1,e2,e3,e4,e5]
   simp[bg,cH]
  ·have e1:E=0:=by rw[hE];unfold ppE;rw[if_neg (by rw[h1];decide),if_neg (by simpa using hnd),if_neg h2]
   have e4:tB ns.length es=0:=by unfold tB;rw[if_neg h2]
   have e5:tC ns.length es=ndD (bk ns.length es):=by unfold tC;rw[if_neg h2]
   have e6:V=ppT es (bk ns.length es):=by rw[hV];unfold ppV;rw[if_pos (by rw[<- hE];exact e1)];rfl
   have e7:W=V.map (iC es V):=by rw[hW,e6];unfold ppW;rw[if_pos (by rw[<- hE];exact e1)];rfl
   have hOl:=iW ns.length es
   have hOn:=pf ns.length es
   have hOlt:=fun v (h:v∈bk ns.length es)=>yp h
   generalize bk ns.length es=O at *
   have hfr:∀v,fE (es.take es.length) v=fE es v:=fun v=>by rw[x0L]
   have hib:=aY O
   have hb8:(es.length:Int)*8<=140737488355328:=by omega
   rw[e1,e4,e5]
   simp[ndD,hib,hb8,<- hel]
   refine ay Nat (fun k=>[(2,.ref (.r 10032) 0 (ppT es (O.take k)).length),(3,.ref (.r 10048) 0 0),(5,.sl (es.map edK)),(6,.ref (.r 10096) 0 ns.length),(10,.ref (.r 10160) 0 es.length),(65,.sl (bg O)),(66,.int .i64 O.length),(67,.int .i64 k),(10032,.blk 1 (bg (ppT es (O.take k)))),(10048,.blk 1 []),(10096,.blk 1 (frA ns.length es es.length)),(10160,.blk 1 (li es.length (ppT es (O.take k))))]) (fun k=>k<=O.length) (fun k=>O.length-k) 0 (by simp) (by simp[ppT,bg,AB]) ?_
   intro k hk
   simp
   refine ab (fun h3=>?_) (fun h3=>?_)<;>simp at h3
   ·have hw:IntKind.wrap .i64 ((k:Int)+1)=((k+1:Nat):Int):=wrap_i64 (by omega) (by omega)
    have hv1:=hOlt _ (x0h h3)
    have hget:=th es es.length hv1
    rw[hfr]at hget
    have hTs:=Dt (es:=es) h3
    have hpl:(ppT es (O.take k)).length<=k:=x09 (kV _ _) (by simp;omega)
    have hrow:(frA ns.length es es.length)[O[k]]'(by rw[jf];exact hv1)=[.int .i64 (frI (fE es O[k]))]:=by
     have:=x0e (show O[k]<(frA ns.length es es.length).length by rw[jf];exact hv1)
     rw[hget]at this
     exact(Option.some.inj this).symm
    simp[h3,aD (ga h3),hib,hv1,bj hget,jf]
    refine ab (fun h4=>?_) (fun h4=>?_)<;>simp at h4
    ·cases hx:fE es O[k] with
     | none=>exact absurd (oZ.2 hx) h4
     | some x =>
      obtain⟨hxl,_,_⟩:=eO hx
      have hnew:=F5 (es:=es) hOn h3 hx
      have hset:=Dh (m:=es.length) hnew
      rw[hx]at hTs
      generalize ppT es (O.take k)=T at *
      have hrow2:((li es.length T)[x]'(by rw[mI];exact hxl)).length=1:=by simp[li]
      have hb2:(T.length+1)*8<=140737488355328:=by omega
      have htk:List.take T.length (bg T)=bg T:=x0i (by rw[aY];omega)
      have htl:((li es.length T)[x]'(by rw[mI];exact hxl)).tail=[]:=by simp[li]
      simp[frI,hx,mI,hxl,hrow2,aA,aY,hb2]
      refine⟨k+1,by omega,by omega,by rw[hTs];simp,hw,by rw[hTs,htk];simp[bg],by rw[hTs,htl];exact hset⟩
    ·have hx:fE es O[k]=none:=oZ.1 h4
     rw[hx]at hTs
     simp[frI,hx]
     refine⟨k+1,by omega,by omega,?_⟩
     rw[hTs]
     simp[hw]
   ·have ek:k=O.length:=by omega
    subst ek
    rw[x0L]at *
    rw[<- e6]
    have hVl:V.length<=300:=by rw[e6];exact x09 (kV _ _) (by omega)
    have hVlt:∀l∈V,l<es.length:=fun l hl=>by rw[e6]at hl;exact lH hl
    simp[h3,aY]
    refine ay Nat (fun k=>[(2,.ref (.r 10032) 0 V.length),(3,.ref (.r 10048) 0 k),(5,.sl (es.map edK)),(6,.ref (.r 10096) 0 ns.length),(10,.ref (.r 10160) 0 es.length),(87,.ref (.r 10032) 0 V.length),(88,.int .i64 V.length),(89,.int .i64 k),(10032,.blk 1 (bg V)),(10048,.blk 1 (oN es V k)),(10096,.blk 1 (frA ns.length es es.length)),(10160,.blk 1 (li es.length V))]) (fun k=>k<=V.length) (fun k=>V.length-k) 0 (by simp) (by simp[zG]) ?_
    intro k hk
    simp
    refine ab (fun h3=>?_) (fun h3=>?_)<;>simp at h3
    ·have hw:IntKind.wrap .i64 ((k:Int)+1)=((k+1:Nat):Int):=wrap_i64 (by omega) (by omega)
     have hl2:=hVlt _ (x0h h3)
     have hgl:=hg _ (x0h hl2)
     have hgE:(es.map edK)[V[k]]? = some [.int .i64 (es[V[k]].1:Int),.int .i64 (es[V[k]].2:Int)]:=by simp[hl2,edK,knD]
     have hgF:=th es es.length hgl.2
     rw[show es.take es.length=es from x0L]at hgF
     have hB:=zD (es:=es) h3
     have hBl:=BL (es:=es) hk
     have hbl:iC es V V[k]=(match fE es (es[V[k]]).2 with|some x=>(tA V x:Int)|none=>-1):=by
      unfold iC
      rw[x0e hl2];rfl
     have hb2:(k+1)*8<=140737488355328:=by omega
     have htk:List.take k (oN es V k)=oN es V k:=x0i (by omega)
     simp[h3,bj (ga h3),aY,aD hgE,hl2,bj hgF,jf,hgl.2]
     cases hx:fE es (es[V[k]]).2 with
     | none =>
      rw[hx]at hbl
      simp only at hbl
      simp[frI,aA,hBl,hb2,htk]
      refine⟨k+1,by omega,by omega,by omega,hw,?_⟩
      rw[hB,hbl]
     | some x =>
      obtain⟨hxl,_,_⟩:=eO hx
      rw[hx]at hbl
      simp only at hbl
      have hne:¬(x:Int)=-1:=by omega
      simp[frI,hne,bj (Dg V hxl),mI,hxl,aA,hBl,hb2,htk]
      refine⟨k+1,by omega,by omega,by omega,hw,?_⟩
      rw[hB,hbl]
    ·have ek:k=V.length:=by omega
     subst ek
     have hBe:=BK es V
     rw[<- e7]at hBe
     have hWl:W.length=V.length:=by rw[e7,x0S]
     have hVV:List.take V.length (bg V)=bg V:=x0i (by rw[aY];omega)
     have cV:(bg V).map (fun e=>e.map bq)=bg V:=by simp[bg,bq]
     have cW:(cH W).map (fun e=>e.map bq)=cH W:=by simp[cH,bq]
     have hWt:List.take V.length (cH W)=cH W:=x0i (by simp[cH,hWl])
     rw[hBe]
     have c3:List.map ((fun e=>List.map bq e)∘fun b:Int=>[D.int .i64 b]) W=cH W:=by simp[cH,Function.comp_def]
     simp[h3]
     refine⟨⟨by rw[aY];omega,by omega⟩,by rw[cV,hVV],?_⟩
     rw[c3,hWt]
end Go.Gv

namespace Go.Gv
section
variable{C:CC}{hs:Option (List Nat)}{K:Env->Prop}{ns:List au}{e:Env}{R:List Nat}{acc:List (List Nat×List Nat)}
theorem qM{n m:Nat}{ms:List Nat}{a v:Opd}{v1:_}{ds:List D}{b i off sz:Nat}{es:List (List D)}{r:List D}(hv:vd (ac e) v=.agg ds)(hc:∀c∈ds,aA c=true)(hl:(m::ms).length=ds.length)(hn:(dQ (m::ms) ds).length=n)(ha:vd (ac e) a=.adr (.r b) i off)(hb:ac e b=.blk sz es)(hr:es[i]? = some r)(ho:off+n<=r.length)
  (hk:doW C hs K ns ⟨⟩ e R acc [(b,.blk sz (bK es i off n (dQ (m::ms) ds)))] [(b,false)]):opW C hs K ns none (.st n (m::ms) a v) v1 e R acc:=by
 unfold opW
 simp only[aG]
 refine⟨trivial,?_⟩
 rw[hv]
 simp only[fV]
 refine⟨hc,.inr hl,hn,?_⟩
 rw[ha]
 refine⟨rfl,?_⟩
 rw[hb]
 exact⟨r,hr,ho,hk⟩
theorem Ed{n m:Nat}{ms:List Nat}{a v:Opd}{v1:_}{ds cs:List D}{bs:List Nat}{b i off sz:Nat}{es:List (List D)}{r:List D}(hv:vd (ac e) v=.agx ds)(hl:(m::ms).length=ds.length)(hab:∀Q:List D->List Nat->Prop,Q cs bs->jG (ac e) ds Q)(hd:bG bs=true)(hbs:bs.contains b=false)(hn:(dQ (m::ms) cs).length=n)(ha:vd (ac e) a=.adr (.r b) i off)(hb:ac e b=.blk sz es)(hr:es[i]? = some r)(ho:off+n<=r.length)
  (hk:doW C hs K ns ⟨⟩ e R acc ((b,.blk sz (bK es i off n (dQ (m::ms) cs)))::cM bs) [(b,false)]):opW C hs K ns none (.st n (m::ms) a v) v1 e R acc:=by
 unfold opW
 simp only[aG]
 refine⟨trivial,?_⟩
 rw[hv]
 simp only[fV]
 refine⟨.inr hl,hab _ ⟨hd,hn,?_⟩⟩
 rw[ha]
 refine⟨hbs,?_⟩
 rw[hb]
 exact⟨r,hr,ho,hk⟩
end
end Go.Gv

namespace Go.Gv
def bH(f:Nat->Int):Nat->Int
 | 0=>0
 | k+1=>bH f k+f k
theorem dw{f g:Nat->Int}:∀{K:Nat},(∀k,k<K->f k=g k)->bH f K=bH g K
 | 0,_=>rfl
 | K+1,h=>by unfold bH;rw[dw (K:=K) (fun k hk=>h k (by omega)),h K (by omega)]
theorem vT(f g:Nat->Int):∀K,bH (fun k=>f k+g k) K=bH f K+bH g K
 | 0=>rfl
 | K+1=>by unfold bH;rw[vT f g K];omega
theorem fm{f:Nat->Int}:∀{K:Nat},(∀k,k<K->f k=0)->bH f K=0
 | 0,_=>rfl
 | K+1,h=>by unfold bH;rw[fm (K:=K) (fun k hk=>h k (by omega)),h K (by omega)];rfl
theorem ne{f:Nat->Int}{k0:Nat}:∀{K:Nat},k0<K->(∀k,k<K->k≠k0->f k=0)->bH f K=f k0
 | 0,h,_=>by omega
 | K+1,h,h2=>by
  unfold bH
  by_cases e:K=k0
  ·subst e
   rw[fm (fun k hk=>h2 k (by omega) (by omega))];omega
  ·rw[ne (by omega) (fun k hk hn=>h2 k (by omega) hn),h2 K (by omega) e];omega
theorem kZ(f:Nat->Nat->Int)(A:Nat):∀B,bH (fun b=>bH (fun a=>f a b) A) B=bH (fun a=>bH (fun b=>f a b) B) A
 | 0=>(fm fun _ _=>rfl).symm
 | B+1=>by
  have e:(fun a=>bH (fun b=>f a b) (B+1))=fun a=>bH (fun b=>f a b) B+f a B:=rfl
  rw[e,vT,<- kZ f A B]
  rfl
theorem qO(f:Nat->Int):∀M,bH f (M+1)=f 0+bH (fun m=>f (m+1)) M
 | 0=>by simp[bH]
 | M+1=>by
  have ih:=qO f M
  show bH f (M+1)+f (M+1)=f 0+(bH (fun m=>f (m+1)) M+f (M+1))
  omega
theorem yP(c:Prop)[Decidable c](f:Nat->Int)(K:Nat):bH (fun k=>if c then f k else 0) K=if c then bH f K else 0:=by
 by_cases h:c
 ·rw[if_pos h];exact dw fun k _=>if_pos h
 ·rw[if_neg h];exact fm fun k _=>if_neg h
theorem pn{f g:Nat->Int}:∀{K:Nat},(∀k,k<K->f k<=g k)->bH f K<=bH g K
 | 0,_=>x00 _
 | K+1,h=>by
  have:=pn (K:=K) (fun k hk=>h k (by omega))
  have:=h K (by omega)
  unfold bH
  omega
theorem lN(B:Int):∀K:Nat,bH (fun _=>B) K=K*B
 | 0=>by simp[bH]
 | K+1=>by unfold bH;rw[lN B K];push_cast;rw[Int.add_mul];omega
def stp(es:List Edg)(v:Nat):Option Nat:=(es.find? fun e=>e.1==v).map (·.2)
def wat(es:List Edg):Nat->Nat->Option Nat
 | 0,v=>some v
 | m+1,v=>(wat es m v).bind (stp es)
def upB(n:Nat)(es:List Edg)(v x:Nat):Bool:=(List.range n).any fun m=>wat es m v==some x
theorem vS{es:List Edg}{y z:Nat}(h:stp es y=some z):(y,z)∈es:=by
 unfold stp at h
 cases e:es.find? (fun e=>e.1==y) with
 | none=>rw[e]at h;cases h
 | some p =>
  rw[e]at h
  have h1:=List.find?_some e
  have h2:=List.mem_of_find?_eq_some e
  simp at h1 h
  obtain⟨a,b⟩:=p
  simp only at h1 h
  subst h1 h
  exact h2
theorem Js{es:List Edg}(hnd:(es.map (·.1)).Nodup){y z:Nat}(h:(y,z)∈es):stp es y=some z:=by
 unfold stp
 cases e:es.find? (fun e=>e.1==y) with
 | none =>
  have:=List.find?_eq_none.1 e _ h
  simp at this
 | some p =>
  have h1:=List.find?_some e
  have h2:=List.mem_of_find?_eq_some e
  obtain⟨a,b⟩:=p
  simp at h1
  subst h1
  obtain⟨k,hk,ek⟩:=x0P h
  obtain⟨j,hj,ej⟩:=x0P h2
  have:=kq hnd hk hj (by rw[ek,ej])
  subst this
  rw[ek]at ej
  cases ej
  rfl
theorem qh{n:Nat}{es:List Edg}(hg:inG n es)(hlen:(bk n es).length=n){u v:Nat}(he:(u,v)∈es):(bk n es).idxOf u<(bk n es).idxOf v/\(bk n es).idxOf v<n:=by
 have hI:=ia n es n
 have hmem:∀v,v<n->v∈bk n es:=by
  intro v hv
  apply Classical.byContradiction
  intro hn
  have hnd:(v::bk n es).Nodup:=List.nodup_cons.2 ⟨hn,hI.nd⟩
  have hsub:(v::bk n es) ⊆ List.range n:=by
   intro u hu
   rcases x0H.1 hu with rfl|hu
   ·simpa using hv
   ·simpa using hI.lt u hu
  have:=List.Nodup.length_le_of_subset hnd hsub
  simp at this
  omega
 obtain⟨h1,h2⟩:=hg _ he
 have hv:=hmem v h2
 have hi:=List.idxOf_lt_length_iff.2 hv
 obtain⟨m,hm⟩:∃m,m=(bk n es).idxOf v:=⟨_,rfl⟩
 rw[<- hm]at hi ⊢
 have hget:(bk n es)[m]=v:=by
  subst hm
  exact List.getElem_idxOf hi
 obtain⟨t1,t2⟩:=kS hlen (show m<=n by omega)
 obtain⟨t3,t4⟩:=kS hlen (show m+1<=n by omega)
 have htk:(bk n es).take (m+1)=(bk n es).take m++[(bk n es)[m]]:=x0m hi
 have hu:u∈(bk n es).take m:=by
  rw[t1]
  cases hr:dS n es (aU n es m) with
  | nil =>
   have:=mN hr 1
   rw[this]at t4
   omega
  | cons j r =>
   have e1:=nQ hr
   have e2:j=v:=by
    have h5:aU n es m++[j]=aU n es m++[v]:=by rw[<- e1,<- t3,htk,t1,hget]
    simpa using h5
   have hj:j∈dS n es (aU n es m):=by rw[hr];simp
   rw[e2]at hj
   exact(iU.1 hj).2.2 u he
 refine⟨?_,by omega⟩
 obtain⟨a,ha,e⟩:=x0P hu
 have ha2:a<m:=by simp at ha;omega
 have e2:(bk n es)[a]'(by omega)=u:=by rw[<- e];simp
 have e3:(bk n es).idxOf ((bk n es)[a]'(by omega))=a:=hI.nd.idxOf_getElem a (show a<(bk n es).length by omega)
 rw[e2]at e3
 omega
theorem i6{n:Nat}{es:List Edg}(hg:inG n es)(hlen:(bk n es).length=n):∀{m v x:Nat},wat es m v=some x->(bk n es).idxOf v+m<=(bk n es).idxOf x/\(m≠0->(bk n es).idxOf x<n)
 | 0,v,x,h=>by
  simp[wat]at h
  subst h
  exact⟨x0k _,fun h=>absurd rfl h⟩
 | m+1,v,x,h=>by
  unfold wat at h
  cases e:wat es m v with
  | none=>rw[e]at h;cases h
  | some y =>
   rw[e]at h
   obtain⟨i1,_⟩:=i6 hg hlen e
   obtain⟨r1,r2⟩:=qh hg hlen (vS h)
   exact⟨by omega,fun _=>r2⟩
def qS(n:Nat)(es:List Edg)(g:Nat->Int)(m x:Nat):Int:=bH (fun v=>if wat es m v=some x then g v else 0) n
theorem Bl{n:Nat}{es:List Edg}(hnd:(es.map (·.1)).Nodup)(g:Nat->Int)(m x:Nat):qS n es g (m+1) x=bH (fun k=>if es[k]!.2=x then qS n es g m es[k]!.1 else 0) es.length:=by
 have h1:∀v,v<n->(if wat es (m+1) v=some x then g v else 0)=bH (fun k=>if es[k]!.2=x then(if wat es m v=some es[k]!.1 then g v else 0) else 0) es.length:=fun v _=>by
  cases e:wat es m v with
  | none =>
   have:wat es (m+1) v=none:=by unfold wat;rw[e];rfl
   rw[this,if_neg (by simp),fm (fun k _=>by simp)]
  | some y =>
   have e1:wat es (m+1) v=stp es y:=by
    show(wat es m v).bind (stp es)=_
    rw[e];rfl
   rw[e1]
   cases e2:stp es y with
   | none =>
    rw[if_neg (by simp),fm fun k hk=>?_]
    by_cases c:es[k]!.2=x
    ·rw[if_pos c]
     by_cases d:y=es[k]!.1
     ·have:=Js (es:=es) hnd (y:=y) (z:=es[k]!.2) (by rw[d,x0c es k hk];exact x0h hk)
      rw[e2]at this;cases this
     ·rw[if_neg (by simpa using d)]
    ·rw[if_neg c]
   | some z =>
    obtain⟨k0,hk0,ek0⟩:=x0P (vS e2)
    rw[ne (k0:=k0) hk0 fun k hk hne=>?_]
    ·rw[x0c es k0 hk0,ek0]
     simp
    ·by_cases d:y=es[k]!.1
     ·exact absurd (kq hnd hk hk0 (by rw[ek0,<- x0c es k hk,d])) hne
     ·rw[if_neg (show ¬some y=some es[k]!.1 by simpa using d)];simp
 unfold qS
 rw[dw h1,kZ]
 exact dw fun k _=>yP _ _ _
theorem Bm{n:Nat}{es:List Edg}(g:Nat->Int){x:Nat}(hx:x<n):qS n es g 0 x=g x:=by
 unfold qS
 rw[ne (k0:=x) hx fun k _ hne=>?_]
 ·simp[wat]
 ·simp[wat,hne]
theorem Ep{n:Nat}{es:List Edg}(hg:inG n es)(hlen:(bk n es).length=n)(g:Nat->Int){m x:Nat}(hm:n<=m):qS n es g m x=0:=by
 refine fm fun v hv=>if_neg fun h=>?_
 obtain⟨h1,h2⟩:=i6 hg hlen h
 have:=h2 (by omega)
 omega
def upS(n:Nat)(es:List Edg)(g:Nat->Int)(x:Nat):Int:=bH (fun v=>if upB n es v x=true then g v else 0) n
theorem yV{n:Nat}{es:List Edg}(hg:inG n es)(hlen:(bk n es).length=n)(g:Nat->Int)(x:Nat):upS n es g x=bH (fun m=>qS n es g m x) n:=by
 unfold qS upS
 rw[kZ]
 refine dw fun v _=>?_
 by_cases h:upB n es v x=true
 ·rw[if_pos h]
  obtain⟨m,hm,e⟩:=x1e.1 h
  simp at hm e
  rw[ne (k0:=m) hm fun k _ hne=>if_neg fun h2=>?_,if_pos e]
  have a:=(i6 hg hlen e).1
  have b:=(i6 hg hlen h2).1
  rcases Nat.lt_or_gt_of_ne hne with h3|h3
  ·have:∀d,wat es (k+d) v=(wat es d x):=fun d=>by
    induction d with
    | zero=>exact h2
    | succ d ih =>
     show(wat es (k+d) v).bind _=_
     rw[ih];rfl
   have h4:=this (m-k)
   rw[show k+(m-k)=m by omega,e]at h4
   have:=(i6 hg hlen h4.symm).1
   omega
  ·have:∀d,wat es (m+d) v=(wat es d x):=fun d=>by
    induction d with
    | zero=>exact e
    | succ d ih =>
     show(wat es (m+d) v).bind _=_
     rw[ih];rfl
   have h4:=this (k-m)
   rw[show m+(k-m)=k by omega,h2]at h4
   have:=(i6 hg hlen h4.symm).1
   omega
 ·rw[if_neg h,fm fun k hk=>if_neg fun h2=>h (x1e.2 ⟨k,by simpa using hk,by simp[h2]⟩)]
theorem yU{n:Nat}{es:List Edg}(hg:inG n es)(ht:gq n es=true)(g:Nat->Int){x:Nat}(hx:x<n):upS n es g x=g x+bH (fun k=>if es[k]!.2=x then upS n es g es[k]!.1 else 0) es.length:=by
 simp only[gq,x0a,x0b]at ht
 obtain⟨hnd,hlen⟩:=ht
 have e1:bH (fun m=>qS n es g m x) n=bH (fun m=>qS n es g m x) (n+1):=by
  show _=bH _ n+qS n es g n x
  rw[Ep hg hlen g (x0k _)];omega
 rw[yV hg hlen,e1,qO,Bm g hx]
 congr 1
 rw[dw fun m _=>Bl hnd g m x,kZ]
 refine dw fun k _=>?_
 rw[yP]
 by_cases c:es[k]!.2=x
 ·rw[if_pos c,if_pos c,yV hg hlen]
 ·rw[if_neg c,if_neg c]
theorem od{n:Nat}{es:List Edg}{g:Nat->Int}{B:Int}(hB:0<=B)(h:∀v,v<n->0<=g v/\g v<=B)(x:Nat):0<=upS n es g x/\upS n es g x<=n*B:=by
 unfold upS
 constructor
 ·have:=pn (f:=fun _=>0) (g:=fun v=>if upB n es v x=true then g v else 0) (K:=n) fun k hk=>by
   have:=h k hk
   show 0<=if upB n es k x=true then g k else 0
   split<;>omega
  rw[lN]at this
  simpa using this
 ·rw[<- lN]
  exact pn fun k hk=>by
   have:=h k hk
   show(if upB n es k x=true then g k else 0)<=B
   split<;>omega
theorem Eh(P:Nat->Bool)(o:Nat->Sp):∀K,(fc P o K).1=bH (fun k=>if P k=true then(o k).1 else 0) K
 | 0=>rfl
 | K+1=>by
  have ih:=Eh P o K
  unfold fc bH
  by_cases h:P K=true
  ·rw[if_pos h,if_pos h,<- ih];rfl
  ·rw[if_neg h,if_neg h,<- ih];omega
theorem Ei(P:Nat->Bool)(o:Nat->Sp):∀K,(fc P o K).2=bH (fun k=>if P k=true then(o k).2 else 0) K
 | 0=>rfl
 | K+1=>by
  have ih:=Ei P o K
  unfold fc bH
  by_cases h:P K=true
  ·rw[if_pos h,if_pos h,<- ih];rfl
  ·rw[if_neg h,if_neg h,<- ih];omega
theorem uW{n:Nat}{es:List Edg}(hn:n<=300)(hg:inG n es)(ht:gq n es=true){l:List Sp}(hl:∀v,v<n->0<=l[v]!.1/\l[v]!.1<=l[v]!.2/\l[v]!.2<=1099511627776) :
  ∀(r i:Nat) (hi:i<es.length),(bk n es).idxOf es[i].1<r->(aV n es l)[i]! =(upS n es (fun v=>l[v]!.1) es[i].1,upS n es (fun v=>l[v]!.2) es[i].1)
 | 0,_,_,h=>by omega
 | r+1,i,hi,hr=>by
  have hw:∀v,v<n->wS l[v]! = l[v]!:=fun v hv=>by
   have:=hl v hv
   unfold wS
   rw[wrap_i64 rfl (by omega),wrap_i64 rfl (by omega)]
  have hb:=EK hg ht hw hi
  have hv:=(hg _ (x0h hi)).1
  have ht2:=ht
  simp only[gq,x0a,x0b]at ht2
  have ih:∀k,k<es.length->es[k]!.2=es[i].1->(aV n es l)[k]! =(upS n es (fun v=>l[v]!.1) es[k]!.1,upS n es (fun v=>l[v]!.2) es[k]!.1):=fun k hk e=>by
   rw[x0c es k hk]at e ⊢
   have hm:(es[k].1,es[i].1)∈es:=by rw[<- e];exact x0h hk
   have:=(qh hg ht2.2 hm).1
   exact uW hn hg ht hl r k hk (by omega)
  have r1:=od (n:=n) (es:=es) (g:=fun v=>l[v]!.1) (B:=1099511627776) (by omega) (fun v hv=>by have:=hl v hv;omega) es[i].1
  have r2:=od (n:=n) (es:=es) (g:=fun v=>l[v]!.2) (B:=1099511627776) (by omega) (fun v hv=>by have:=hl v hv;omega) es[i].1
  rw[hb,sM _ _ _ (hw _ hv)]
  have s1:=yU hg ht (fun v=>l[v]!.1) hv
  have s2:=yU hg ht (fun v=>l[v]!.2) hv
  have e1:(fc (fun k=>decide (es[k]!.2=es[i].1)) (fun k=>(aV n es l)[k]!) es.length).1=bH (fun k=>if es[k]!.2=es[i].1 then upS n es (fun v=>l[v]!.1) es[k]!.1 else 0) es.length:=by
   rw[Eh]
   refine dw fun k hk=>?_
   by_cases c:es[k]!.2=es[i].1
   ·rw[if_pos (by simpa using c),if_pos c,ih k hk c]
   ·rw[if_neg (by simpa using c),if_neg c]
  have e2:(fc (fun k=>decide (es[k]!.2=es[i].1)) (fun k=>(aV n es l)[k]!) es.length).2=bH (fun k=>if es[k]!.2=es[i].1 then upS n es (fun v=>l[v]!.2) es[k]!.1 else 0) es.length:=by
   rw[Ei]
   refine dw fun k hk=>?_
   by_cases c:es[k]!.2=es[i].1
   ·rw[if_pos (by simpa using c),if_pos c,ih k hk c]
   ·rw[if_neg (by simpa using c),if_neg c]
  have e3:adS l[es[i].1]! (fc (fun k=>decide (es[k]!.2=es[i].1)) (fun k=>(aV n es l)[k]!) es.length)=(upS n es (fun v=>l[v]!.1) es[i].1,upS n es (fun v=>l[v]!.2) es[i].1):=by
   unfold adS
   rw[e1,e2,s1,s2]
  rw[e3]
  unfold wS
  rw[wrap_i64 rfl (by simp only;omega),wrap_i64 rfl (by simp only;omega)]
theorem Fh{n:Nat}{es:List Edg}(hn:n<=300)(hg:inG n es)(ht:gq n es=true){l:List Sp}(hl:∀v,v<n->0<=l[v]!.1/\l[v]!.1<=l[v]!.2/\l[v]!.2<=1099511627776){i:Nat}(hi:i<es.length):(aV n es l)[i]! =(upS n es (fun v=>l[v]!.1) es[i].1,upS n es (fun v=>l[v]!.2) es[i].1) :=
 uW hn hg ht hl _ i hi (Nat.lt_succ_self _)
end Go.Gv

namespace Go.Gv
inductive Pth (es:List Edg):Nat->Nat->Prop
 | refl (v:Nat):Pth es v v
 | step {u v w:Nat}:(u,v)∈es->Pth es v w->Pth es u w
end Go.Gv

namespace Go.Gv
variable{C:CC}(hC:al prog C)
include hC
theorem EA(b:Bool)(xs:List Int)(h2:xs.length<2^40):C 42 [slx b (xs.map fun n=>[.int .i64 n])] .any [.own 1 (xs.map fun n=>[.int .i64 n])]:=by
 cases xs with
 | nil =>
  cases b with
  | true =>
   show C 42 [.nils] .any [.own 1 []]
   refine jp hC (nf:=N42) rfl rfl ?_
   simp[N42]
  | false =>
   show C 42 [.sl []] .any [.own 1 []]
   refine jp hC (nf:=N42) rfl rfl ?_
   simp[N42]
 | cons x xs =>
  have e:slx b ((x::xs).map fun n=>[D.int .i64 n])=.sl ((x::xs).map fun n=>[D.int .i64 n]):=by cases b<;>rfl
  rw[e]
  obtain⟨l,hl⟩:∃l,l=x::xs:=⟨_,rfl⟩
  rw[<- hl]at h2 ⊢
  have h:0<l.length:=by rw[hl];simp
  refine jp hC (nf:=N42) rfl rfl ?_
  simp[N42]
  refine⟨fun _=>?_,fun h0=>?_⟩
  ·have:l.length<1099511627776:=h2
   omega
  ·subst h0
   simp at h
end Go.Gv

namespace Go.Gv
variable{C:CC}(hC:al prog C)
include hC
end Go.Gv

namespace Go.Gv
variable{C:CC}(hC:al prog C)
include hC
end Go.Gv

namespace Go.Gv
variable{C:CC}(hC:al prog C)
include hC
end Go.Gv

namespace Go.Gv
open Go.Lib
theorem NA(a k m:Nat)(hm:m=a*2^k%18446744073709551616):IntKind.u64.wrap ((a:Int)*2^k)=(m:Int):=by
 have e:(a:Int)*2^k=((a*2^k:Nat):Int):=by push_cast;rfl
 rw[e,Er,hm]
theorem uw{n:Int}{m:Nat}(h:n=m\/n=m+18446744073709551616\/n=m-18446744073709551616)(hm:m<18446744073709551616):IntKind.u64.wrap n=(m:Int):=by
 rw[jb];omega
end Go.Gv

namespace Go.Gv
open Go.Lib
theorem PS(a m:Nat)(hm:m=a*16%18446744073709551616):IntKind.u64.wrap ((a:Int)*2^min 4 IntKind.u64.bits)=(m:Int):=NA a 4 m hm
theorem Nz(a m:Nat)(hm:m=a*1152921504606846976%18446744073709551616):IntKind.u64.wrap ((a:Int)*2^min 60 IntKind.u64.bits)=(m:Int):=NA a 60 m hm
theorem NB(a:Nat):Int.fdiv (a:Int) (2^min 60 IntKind.u64.bits)=((a/1152921504606846976:Nat):Int):=qK a 60
theorem PT(a:Nat):Int.fdiv (a:Int) (2^min 4 IntKind.u64.bits)=((a/16:Nat):Int):=qK a 4
theorem ID(a:Nat)(ha:a<18446744073709551616):bits .and .u64 (a:Int) 1152921504606846975=((a%1152921504606846976:Nat):Int):=by
 have h:=bits_and_u64_nat a 1152921504606846975 ha (by omega)
 have e:a &&& 1152921504606846975=a%1152921504606846976:=Nat.and_two_pow_sub_one_eq_mod a 60
 rw[e]at h
 exact h
theorem PQ(a b:Nat)(hb:b<16)(h:a*16+b<18446744073709551616):bits .or .u64 ((a*16:Nat):Int) (b:Int)=((a*16+b:Nat):Int):=orN a b 4 hb h
theorem PR(a b:Nat)(hb:b<1152921504606846976)(h:a*1152921504606846976+b<18446744073709551616):bits .or .u64 ((a*1152921504606846976:Nat):Int) (b:Int)=((a*1152921504606846976+b:Nat):Int):=orN a b 60 hb h
def gj(p:Nat)(neg:Bool):D:=.agg [.int .u64 ((p/18446744073709551616:Nat):Int),.int .u64 ((p%18446744073709551616:Nat):Int),.bool neg]
def wiD(p:Nat):D:=.agg [.int .i64 ((p/1152921504606846976:Nat):Int),.int .i64 ((p%1152921504606846976:Nat):Int)]
variable{C:CC}(hC:al prog C)
include hC
theorem pr(n:Nat)(h:n<9223372036854775808):C 112 [.int .i64 n] (.int .u64 (n:Int)) []:=by
 refine start hC (nf:=N112) rfl rfl ?_
 have h0:¬(n:Int)<0:=by omega
 simp[N112,h0,cP n (by omega)]
theorem ko(a b:Int)(n:Bool):C 113 [.int .u64 a,.int .u64 b,.bool n] (.agg [.int .u64 a,.int .u64 b,.bool (n&&(!decide (a=0)||!decide (b=0)))]) []:=by
 refine start hC (nf:=N113) rfl rfl ?_
 simp[N113]
 cases n<;>simp
 by_cases h:a=0<;>simp[h]
theorem v8(x y:Nat)(hx:x<9223372036854775808)(hy:y<9223372036854775808):C 103 [.int .i64 x,.int .i64 y] (gj (x*y) false) []:=by
 refine start hC (nf:=N103) rfl rfl ?_
 have h0:¬(x:Int)<0:=by omega
 have h1:¬(y:Int)<0:=by omega
 have hm:=lQ hC x y (by omega) (by omega)
 rw[gj]
 obtain⟨zh,hzh⟩:∃zh,zh=x*y/18446744073709551616:=⟨_,rfl⟩
 obtain⟨zl,hzl⟩:∃zl,zl=x*y%18446744073709551616:=⟨_,rfl⟩
 rw[<- hzh,<- hzl]at hm ⊢
 simp[N103]
 refine aa (pr hC x hx) (.inl rfl) ?_
 simp
 refine aa (pr hC y hy) (.inl rfl) ?_
 simp
 refine aa hm (.inl rfl) ?_
 simp[h0,h1]
 refine aa (ko hC zh zl false) (.inl rfl) ?_
 simp
theorem nh(n:Nat)(h:n<9223372036854775808):C 110 [.int .u64 n,.bool false] (.tup [.int .i64 n,.int .i64 0]) []:=by
 refine start hC (nf:=N110) rfl rfl ?_
 have h1:(n:Int)<=9223372036854775807:=by omega
 have h2:IntKind.i64.wrap (n:Int)=(n:Int):=wrap_i64 rfl (by omega)
 simp[N110,h1,h2]
theorem qv(p d:Nat)(up:Bool)(q:Nat)(hd:d<9223372036854775808)(hp:p/18446744073709551616<d)(hq:q<9223372036854775808)(hv:q=if up then(p+d-1)/d else p/d)(hqd:p/d+1<9223372036854775808):C 104 [gj p false,.int .i64 d,.bool up] (.tup [.int .i64 q,.int .i64 0]) []:=by
 obtain⟨ph,hph⟩:∃z,z=p/18446744073709551616:=⟨_,rfl⟩
 obtain⟨pl,hpl⟩:∃z,z=p%18446744073709551616:=⟨_,rfl⟩
 have hpp:ph*18446744073709551616+pl=p:=by omega
 obtain⟨q0,hq0⟩:∃z,z=p/d:=⟨_,rfl⟩
 obtain⟨r0,hr0⟩:∃z,z=p%d:=⟨_,rfl⟩
 have hdiv:=xH hC ph pl d (by omega) (by omega) (by omega)
 rw[hpp,<- hq0,<- hr0]at hdiv
 have hd0:0<d:=by omega
 have hdp:d*q0+r0=p:=by rw[hq0,hr0];exact x1u p d
 have hrd:r0<d:=by rw[hr0];exact x1P _ hd0
 have hup:up=true->q=if 0<r0 then q0+1 else q0:=by
  rintro rfl
  simp only[if_true]at hv
  rw[hv,<- hdp]
  by_cases h:0<r0
  ·rw[if_pos h,show d*q0+r0+d-1=d*q0+(d+(r0-1)) by omega,Nat.mul_add_div hd0,Nat.add_div_left _ hd0,Nat.div_eq_of_lt (by omega)]
  ·rw[if_neg h,show d*q0+r0+d-1=d*q0+(d-1) by omega,Nat.mul_add_div hd0,Nat.div_eq_of_lt (by omega)]
   rfl
 rw[gj,<- hph,<- hpl]
 have h1:¬(d:Int)<=(ph:Int):=by omega
 have h2:¬(d:Int)<0:=by omega
 have h3:IntKind.u64.wrap ((q0:Int)+1)=((q0+1:Nat):Int):=uw (by omega) (by omega)
 refine start hC (nf:=N104) rfl rfl ?_
 simp[N104]
 refine aa (pr hC d hd) (.inl rfl) ?_
 simp[h1]
 refine aa hdiv (.inl rfl) ?_
 simp[h2]
 cases up
 ·have e:q=q0:=by rw[hv,hq0];rfl
  subst e
  refine ab (fun h=>?_) (fun h=>?_)<;>simp at h<;>simp[h]
  ·refine aa (nh hC q hq) (.inl rfl) ?_
   simp
  ·refine aa (nh hC q hq) (.inl rfl) ?_
   simp
 ·have hv:=hup rfl
  by_cases h:0<r0
  ·have hi:(0:Int)<r0:=by omega
   rw[if_pos h]at hv
   subst hv
   have h4:¬((q0:Int)+1=0):=by omega
   simp[hi,h3,h4,h]
   refine aa (nh hC (q0+1) hq) (.inl rfl) ?_
   simp
  ·have hi:¬(0:Int)<r0:=by omega
   rw[if_neg h]at hv
   subst hv
   simp[hi,h]
   refine aa (nh hC q hq) (.inl rfl) ?_
   simp
end Go.Gv

namespace Go.Gv
open Go.Lib
variable{C:CC}(hC:al prog C)
include hC
theorem qU(p:Nat)(h:p<1329227995784915872903807060280344576):C 106 [wiD p] (.bool true) []:=by
 obtain⟨ph,hph⟩:∃z,z=p/1152921504606846976:=⟨_,rfl⟩
 obtain⟨pl,hpl⟩:∃z,z=p%1152921504606846976:=⟨_,rfl⟩
 rw[wiD,<- hph,<- hpl]
 have h1:(-1152921504606846976:Int)<=ph:=by omega
 have h2:(ph:Int)<1152921504606846976:=by omega
 have h3:(0:Int)<=pl:=by omega
 have h4:(pl:Int)<1152921504606846976:=by omega
 refine start hC (nf:=N106) rfl rfl ?_
 simp[N106,h1,h2,h3,h4]
theorem vw(p:Nat)(h:p<1329227995784915872903807060280344576):C 105 [gj p false] (.tup [wiD p,.int .i64 0]) []:=by
 obtain⟨ph,hph⟩:∃z,z=p/1152921504606846976:=⟨_,rfl⟩
 obtain⟨pl,hpl⟩:∃z,z=p%1152921504606846976:=⟨_,rfl⟩
 obtain⟨zh,hzh⟩:∃z,z=p/18446744073709551616:=⟨_,rfl⟩
 obtain⟨zl,hzl⟩:∃z,z=p%18446744073709551616:=⟨_,rfl⟩
 rw[wiD,gj,<- hph,<- hpl,<- hzh,<- hzl]
 obtain⟨zt,hzt⟩:∃z,z=zl/1152921504606846976:=⟨_,rfl⟩
 have h1:¬(72057594037927936:Int)<zh:=by omega
 have h2:¬(zh:Int)=72057594037927936:=by omega
 have e1:=PS zh (zh*16) (by omega)
 have e2:=NB zl
 rw[<- hzt]at e2
 have e3:=PQ zh zt (by omega) (by omega)
 have e4:IntKind.i64.wrap ((zh*16+zt:Nat):Int)=(ph:Int):=wrap_i64 (by omega) (by omega)
 have e5:=ID zl (by omega)
 have e6:IntKind.i64.wrap ((zl%1152921504606846976:Nat):Int)=(pl:Int):=wrap_i64 (by omega) (by omega)
 refine start hC (nf:=N105) rfl rfl ?_
 simp[N105,h1,h2,e2,-Int.natCast_mul,-Int.natCast_emod]
 refine⟨aw (by decide +kernel),?_⟩
 rw[e1,e3,e4,e5,e6]
 simp
theorem uc(p:Nat)(h:p<1329227995784915872903807060280344576):C 108 [wiD p] (gj p false) []:=by
 obtain⟨ph,hph⟩:∃z,z=p/1152921504606846976:=⟨_,rfl⟩
 obtain⟨pl,hpl⟩:∃z,z=p%1152921504606846976:=⟨_,rfl⟩
 obtain⟨zh,hzh⟩:∃z,z=p/18446744073709551616:=⟨_,rfl⟩
 obtain⟨zl,hzl⟩:∃z,z=p%18446744073709551616:=⟨_,rfl⟩
 rw[wiD,gj,<- hph,<- hpl,<- hzh,<- hzl]
 have h1:(0:Int)<=ph:=by omega
 obtain⟨w,hw⟩:∃z,z=ph%16:=⟨_,rfl⟩
 have e1:Int.fdiv (ph:Int) (2^min 4 IntKind.u64.bits)=(zh:Int):=by rw[PT];omega
 have e2:IntKind.u64.wrap ((ph:Int)*2^min 60 IntKind.u64.bits)=((w*1152921504606846976:Nat):Int):=Nz ph _ (by omega)
 have e3:IntKind.u64.wrap (pl:Int)=(pl:Int):=cP pl (by omega)
 have e4:bits .or .u64 ((w*1152921504606846976:Nat):Int) (pl:Int)=(zl:Int):=by
  rw[PR w pl (by omega) (by omega)];omega
 refine start hC (nf:=N108) rfl rfl ?_
 simp[N108]
 refine aa (pr hC ph (by omega)) (.inl rfl) ?_
 simp[h1]
 rw[e1,e2,e3,e4]
 simp
theorem FL(p:Nat):C 109 [gj p false] (gj p (decide (p≠0))) []:=by
 obtain⟨zh,hzh⟩:∃z,z=p/18446744073709551616:=⟨_,rfl⟩
 obtain⟨zl,hzl⟩:∃z,z=p%18446744073709551616:=⟨_,rfl⟩
 have e:decide (p≠0)=(true&&(!decide ((zh:Int)=0)||!decide ((zl:Int)=0))):=by
  rw[x0J];simp;omega
 rw[gj,gj,<- hzh,<- hzl,e]
 refine start hC (nf:=N109) rfl rfl ?_
 simp[N109]
 refine aa (ko hC zh zl true) (.inl rfl) ?_
 simp
set_option maxHeartbeats 4000000 in
theorem NH(p r:Nat)(hr:r<=p)(hp:p<1329227995784915872903807060280344576):C 107 [gj p false,gj r (decide (r≠0))] (gj (p-r) false) []:=by
 obtain⟨ph,hph⟩:∃z,z=p/18446744073709551616:=⟨_,rfl⟩
 obtain⟨pl,hpl⟩:∃z,z=p%18446744073709551616:=⟨_,rfl⟩
 obtain⟨rh,hrh⟩:∃z,z=r/18446744073709551616:=⟨_,rfl⟩
 obtain⟨rl,hrl⟩:∃z,z=r%18446744073709551616:=⟨_,rfl⟩
 obtain⟨dh,hdh⟩:∃z,z=(p-r)/18446744073709551616:=⟨_,rfl⟩
 obtain⟨dl,hdl⟩:∃z,z=(p-r)%18446744073709551616:=⟨_,rfl⟩
 have k0:(0:Int)<=ph:=by omega
 have k1:(0:Int)<=pl:=by omega
 have k2:(0:Int)<=rl:=by omega
 have k3:(pl:Int)<18446744073709551616:=by omega
 have k4:(rl:Int)<18446744073709551616:=by omega
 by_cases h0:r=0
 ·subst h0
  have hrh0:rh=0:=by omega
  have hrl0:rl=0:=by omega
  subst hrh0 hrl0
  rw[gj,gj,gj,<- hph,<- hpl,<- hrh,<- hrl,<- hdh,<- hdl]
  have e1:(pl:Int)%18446744073709551616=(pl:Int):=by omega
  have e2:(pl:Int)/18446744073709551616=0:=by omega
  have e3:IntKind.u64.wrap (ph:Int)=(ph:Int):=cP ph (by omega)
  have e4:dh=ph:=by omega
  have e5:dl=pl:=by omega
  refine start hC (nf:=N107) rfl rfl ?_
  simp[N107,k3,e1,e2,e3]
  refine aa (ko hC ph pl false) (.inl rfl) ?_
  simp[e4,e5]
 ·have hne:decide (r≠0)=true:=by simp[h0]
  rw[hne,gj,gj,gj,<- hph,<- hpl,<- hrh,<- hrl,<- hdh,<- hdl]
  have c1:¬(ph:Int)<rh:=by omega
  have c2:(ph:Int)=rh->¬(pl:Int)<rl:=by omega
  have e1:((pl:Int)-rl)%18446744073709551616=(dl:Int):=by omega
  have e2:IntKind.u64.wrap ((ph:Int)-rh)=((ph-rh:Nat):Int):=uw (by omega) (by omega)
  have e3:IntKind.u64.wrap (((ph-rh:Nat):Int)-(if pl<rl then 1 else 0))=(dh:Int):=by
   split<;>exact uw (by omega) (by omega)
  refine start hC (nf:=N107) rfl rfl ?_
  simp[N107,c1,k3,k4,e1,e2]
  refine ab (fun c=>?_) (fun c=>?_)<;>simp at c<;>simp[c]
  ·have c3:=c2 (by omega)
   refine ab (fun c4=>?_) (fun c4=>?_)<;>simp at c4<;>simp[c4]
   ·omega
   have hd0:dh=0:=by omega
   have c5:¬pl<rl:=by omega
   have hz:IntKind.u64.wrap 0=0:=cP 0 (by omega)
   simp[k3,k4,e1,hz,c5]
   refine aa (ko hC 0 dl false) (.inl rfl) ?_
   simp[hd0]
  ·simp[k3,k4,e1,e2]
   rw[e3]
   refine aa (ko hC dh dl false) (.inl rfl) ?_
   simp
end Go.Gv

namespace Go.Gv
theorem mJ(p:Nat):∃a b:Int,gj p false=.agg [.int .u64 a,.int .u64 b,.bool false]:=⟨_,_,rfl⟩
theorem Di(p:Nat)(n:Bool):∃a b:Int,gj p n=.agg [.int .u64 a,.int .u64 b,.bool n]:=⟨_,_,rfl⟩
theorem kA(p:Nat):∃a b:Int,wiD p=.agg [.int .i64 a,.int .i64 b]:=⟨_,_,rfl⟩
variable{C:CC}(hC:al prog C)
include hC
theorem rn(x y:Nat)(hx:x<9223372036854775808)(hy:y<9223372036854775808)(h:x*y<1329227995784915872903807060280344576):C 99 [.int .i64 x,.int .i64 y] (.tup [wiD (x*y),.int .i64 0]) []:=by
 have k1:=v8 hC x y hx hy
 have k2:=vw hC (x*y) h
 obtain⟨a,b,e1⟩:=mJ (x*y)
 obtain⟨c,d,e2⟩:=kA (x*y)
 rw[e1]at k1 k2
 rw[e2]at k2 ⊢
 refine start hC (nf:=N99) rfl rfl ?_
 simp[N99]
 refine aa k1 (.inl rfl) ?_
 simp
 refine aa k2 (.inr rfl) ?_
 simp
theorem Li(p:Nat)(h:p<9223372036854775808):C 101 [wiD p] (.tup [.int .i64 p,.int .i64 0]) []:=by
 have k1:=qU hC p (by omega)
 have k2:=uc hC p (by omega)
 have e1:gj p false=.agg [.int .u64 0,.int .u64 p,.bool false]:=by
  rw[gj,show p/18446744073709551616=0 by omega,show p%18446744073709551616=p by omega];rfl
 obtain⟨c,d,e2⟩:=kA p
 rw[e1]at k2
 rw[e2]at k1 k2 ⊢
 refine start hC (nf:=N101) rfl rfl ?_
 simp[N101]
 refine aa k1 (.inl rfl) ?_
 simp
 refine aa k2 (.inl rfl) ?_
 simp
 refine aa (nh hC p h) (.inl rfl) ?_
 simp
theorem Ll(p r:Nat)(hr:r<=p)(h:p<1329227995784915872903807060280344576):C 100 [wiD p,wiD r] (.tup [wiD (p-r),.int .i64 0]) []:=by
 have k1:=qU hC p h
 have k2:=qU hC r (by omega)
 have k3:=uc hC p h
 have k4:=uc hC r (by omega)
 have k5:=FL hC r
 have k6:=NH hC p r hr h
 have k7:=vw hC (p-r) (by omega)
 obtain⟨a1,a2,e1⟩:=kA p
 obtain⟨b1,b2,e2⟩:=kA r
 obtain⟨c1,c2,e3⟩:=kA (p-r)
 obtain⟨d1,d2,e4⟩:=mJ p
 obtain⟨f1,f2,e5⟩:=mJ r
 obtain⟨g1,g2,e6⟩:=Di r (decide (r≠0))
 obtain⟨i1,i2,e7⟩:=mJ (p-r)
 obtain⟨z,hz⟩:∃z,z=decide (r≠0):=⟨_,rfl⟩
 rw[<- hz]at k5 k6 e6
 rw[e1]at k1 k3 ⊢
 rw[e2]at k2 k4 ⊢
 rw[e3]at k7 ⊢
 rw[e4]at k3 k6
 rw[e5]at k4 k5
 rw[e6]at k5 k6
 rw[e7]at k6 k7
 refine start hC (nf:=N100) rfl rfl ?_
 simp[N100]
 refine aa k1 (.inl rfl) ?_
 simp
 refine aa k2 (.inl rfl) ?_
 simp
 refine aa k3 (.inl rfl) ?_
 simp
 refine aa k4 (.inl rfl) ?_
 simp
 refine aa k5 (.inl rfl) ?_
 simp
 refine aa k6 (.inl rfl) ?_
 simp
 refine aa k7 (.inr rfl) ?_
 simp
 exact aw (by decide +kernel)
theorem EF(u a d:Nat)(hu:u<4503599627370496)(ha:a<d)(hd:d<4503599627370496):C 98 [.int .i64 u,.int .i64 a,.int .i64 d] (.tup [.int .i64 (u*a/d:Nat),.int .i64 ((u*a+d-1)/d:Nat),.int .i64 0]) []:=by
 have h1:u*a<=u*d:=Nat.mul_le_mul_left _ (by omega)
 have h1':u*d=d*u:=x1b _ _
 have h2:u*a/d<=u:=Nat.le_of_lt_succ (Nat.div_lt_of_lt_mul (by rw[Nat.succ_eq_add_one,Nat.mul_add];omega))
 have h3:(u*a+d-1)/d<=u:=Nat.le_of_lt_succ (Nat.div_lt_of_lt_mul (by rw[Nat.succ_eq_add_one,Nat.mul_add];omega))
 have h4:u*a/18446744073709551616<d:=by
  have h5:u*d<=4503599627370496*d:=x0q _ (by omega)
  omega
 have k1:=v8 hC u a (by omega) (by omega)
 have k2:=qv hC (u*a) d false (u*a/d) (by omega) h4 (by omega) rfl (by omega)
 have k3:=qv hC (u*a) d true ((u*a+d-1)/d) (by omega) h4 (by omega) rfl (by omega)
 obtain⟨q1,e1⟩:∃q,q=u*a/d:=⟨_,rfl⟩
 obtain⟨q2,e2⟩:∃q,q=(u*a+d-1)/d:=⟨_,rfl⟩
 obtain⟨a1,a2,e3⟩:=mJ (u*a)
 rw[e3]at k1 k2 k3
 rw[<- e1]at k2 ⊢
 rw[<- e2]at k3 ⊢
 have hd0:¬(d:Int)=0:=by omega
 clear h1 h1' h2 h3 h4 e1 e2 e3
 refine start hC (nf:=N98) rfl rfl ?_
 simp[N98]
 refine ab (fun c=>?_) (fun c=>?_)<;>simp at c<;>simp[c]
 ·omega
 refine aa k1 (.inr rfl) ?_
 simp
 refine aa k2 (.inl rfl) ?_
 simp
 refine aa k3 (.inl rfl) ?_
 simp
end Go.Gv

namespace Go.Gv
def bX(t:List (Int×Int))(x:Int):Nat:=t.findIdx fun k=>decide (x<=k.1)
def atK(t:List (Int×Int))(x:Int):Bool:=decide (bX t x<t.length)&&decide (t[bX t x]!.1=x)
def EL(a b:Int×Int)(x:Int):Int×Int×Int:=(a.2+(b.2-a.2)*(x-a.1)/(b.1-a.1),(b.2-a.2)*(x-a.1)%(b.1-a.1),b.1-a.1)
def bM(t:List (Int×Int))(x:Int):Int×Int×Int :=
 if atK t x||decide (bX t x=0) then(t[bX t x]!.2,0,1)
 else if bX t x=t.length then(t[bX t x-1]!.2,0,1)
 else EL t[bX t x-1]! t[bX t x]! x
theorem mT(t:List (Int×Int))(x:Int):bX t x<=t.length:=List.findIdx_le_length
theorem yt{t:List (Int×Int)}{x:Int}{j:Nat}(h:j<bX t x)(hl:j<t.length):t[j].1<x:=by
 have:=List.not_of_lt_findIdx h
 simp at this
 exact this
theorem tI{t:List (Int×Int)}{x:Int}(h:bX t x<t.length):x<=t[bX t x].1:=by
 have h2:=List.findIdx_getElem (w:=h)
 exact of_decide_eq_true h2
theorem qn{t:List (Int×Int)}{x:Int}{j:Nat}(hl:j<t.length)(h:x<=t[j].1):bX t x<=j:=by
 apply Nat.le_of_not_lt
 intro hj
 have:=yt hj hl
 omega
theorem vX{t:List (Int×Int)}(h:aF t=true){j i:Nat}(hi:i<t.length)(hj:j<=i):t[j].1<=t[i].1:=by
 rcases Nat.lt_or_eq_of_le hj with h1|rfl
 ·have:=lb h j i hi h1;omega
 ·exact x00 _
theorem xi{t:List (Int×Int)}(hv:aF t=true){x:Int}{j:Nat}(hl:j<t.length)(h:t[j].1<x):j<bX t x:=by
 apply Nat.lt_of_not_le
 intro hj
 have h1:=tI (t:=t) (x:=x) (by omega)
 have h2:=vX hv hl hj
 omega
theorem iD{t:List (Int×Int)}{x:Int}(h:aF t=true)(h0:bX t x≠0)(h1:bX t x<t.length)(h2:atK t x=false) :
  ∃k u a d:Nat,bX t x=k+1/\k+1<t.length/\∃(g0:k<t.length) (g1:k+1<t.length),t[k+1].2-t[k].2=u/\x-t[k].1=a/\t[k+1].1-t[k].1=d/\u<4503599627370496/\0<a/\a<d/\d<4503599627370496/\-1125899906842624<=t[k].2/\t[k].2<=1125899906842624/\t[k].2+u<=1125899906842624/\t[bX t x-1]! = t[k]/\t[bX t x]! = t[k+1]/\-1125899906842624<=t[k].1/\t[k].1<=1125899906842624/\t[k+1].1<=1125899906842624:=by
 obtain⟨k,hk⟩:∃k,bX t x=k+1:=⟨bX t x-1,by omega⟩
 have hlt:t[k].1<x:=yt (by omega) (by omega)
 have hge:=tI h1
 have e1:t[bX t x]! = t[bX t x]:=x0c t _ h1
 simp only[atK,h1,decide_true,x1T,x0x,e1]at h2
 rw[hk]at h1
 simp only[hk]at hge h2 e1
 obtain⟨f1,f2,f3⟩:=kz h (show k<t.length by omega)
 obtain⟨f4,f5,f6⟩:=kz h h1
 have f7:=f6 k rfl
 simp only[iG,x0a,x0b]at f1 f2 f4 f5
 refine⟨k,(t[k+1].2-t[k].2).toNat,(x-t[k].1).toNat,(t[k+1].1-t[k].1).toNat,hk,h1,by omega,h1,by omega,by omega,by omega,by omega,by omega,by omega,by omega,by omega,by omega,by omega,?_,?_,by omega,by omega,by omega⟩
 ·rw[hk];exact x0c t k (by omega)
 ·rw[hk];exact e1
theorem HV{p q:Int×Int}{u a d:Nat}{x:Int}(h1:q.2-p.2=u)(h2:x-p.1=a)(h3:q.1-p.1=d):EL p q x=(p.2+((u*a/d:Nat):Int),((u*a%d:Nat):Int),(d:Int)):=by
 simp only[EL,h1,h2,h3]
 push_cast
 rfl
variable{C:CC}(hC:al prog C)
include hC
theorem Ij(b:Bool)(t:List (Int×Int))(x:Int)(h:aF t=true):C 96 [slx b (t.map knD),.int .i64 x,.fn 97 []] (.tup [.int .i64 (bX t x),.bool (atK t x)]) []:=by
 obtain⟨l1,l2⟩:=de h
 have hpl:=mT t x
 obtain⟨n,hn⟩:∃n,n=bX t x:=⟨_,rfl⟩
 obtain⟨r,hr⟩:∃r,r=atK t x:=⟨_,rfl⟩
 have hlt:∀j,(hj:j<t.length)->t[j].1<x->j<n:=fun j hj h1=>hn▸xi h hj h1
 have hle:∀j,(hj:j<t.length)->x<=t[j].1->n<=j:=fun j hj h1=>hn▸qn hj h1
 rw[<- hn]at hpl ⊢
 rw[<- hr]
 rw[atK,<- hn]at hr
 refine start hC (nf:=N96) rfl rfl ?_
 simp[N96]
 refine ay (Nat×Nat) (fun s=>[(0,slx b (t.map knD)),(1,.int .i64 x),(2,.fn 97 []),(8,.int .i64 t.length),(9,.int .i64 s.1),(10,.int .i64 s.2)]) (fun s=>s.1<=n/\n<=s.2/\s.2<=t.length) (fun s=>s.2-s.1) (0,t.length) (by simp;omega) (by simp) ?_
 rintro⟨i,j⟩ ⟨h1,h2,h3⟩
 simp only at h1 h2 h3
 simp
 refine ab (fun c=>?_) (fun c=>?_)<;>simp[c]<;>simp at c
 ·obtain⟨m,hm⟩:∃m,m=(i+j)/2:=⟨_,rfl⟩
  have e1:IntKind.wrap .i64 ((i:Int)+(j:Int))=((i+j:Nat):Int):=wrap_i64 (by omega) (by omega)
  obtain⟨s,hs⟩:∃s,s=i+j:=⟨_,rfl⟩
  rw[<- hs]at e1 hm
  have e2:Int.fdiv (s:Int) (2^min 1 IntKind.u64.bits)=(m:Int):=by rw[hm];exact qK s 1
  have e3:IntKind.wrap .i64 (m:Int)=(m:Int):=wrap_i64 rfl (by omega)
  have e4:IntKind.wrap .i64 ((m:Int)+1)=((m+1:Nat):Int):=wrap_i64 (by omega) (by omega)
  have hml:m<t.length:=by omega
  simp[e1,cP s (by omega),e2,e3,hml]
  have hc:=kF hC t[m] x
  simp[knD]at hc ⊢
  refine aa hc (.inl rfl) ?_
  by_cases hmn:t[m].1<x
  ·have:=hlt m hml hmn
   simp[hmn,e4]
   exact⟨m+1,j,⟨by omega,h2,h3⟩,by omega,by omega,by omega⟩
  ·have:=hle m hml (by omega)
   have hz:¬(if x<t[m].1 then(1:Int) else 0)<0:=by split<;>omega
   simp[hmn,hz]
   exact⟨i,m,⟨by omega,by omega,by omega⟩,by omega,by omega,by omega⟩
 ·have:i=n:=by omega
  subst this
  refine ab (fun c2=>?_) (fun c2=>?_)<;>simp at c2<;>simp[c2]
  ·have hc:=kF hC t[i] x
   have hge:¬t[i].1<x:=fun e=>by have:=hlt i c2 e;omega
   have e1:t[i]! = t[i]:=x0c t i c2
   simp[knD]at hc ⊢
   refine aa hc (.inl rfl) ?_
   simp[hge,hr,c2,e1]
   omega
  ·have:¬i<t.length:=by omega
   simp[hr,this]
set_option maxHeartbeats 4000000 in
theorem Dq(b:Bool)(t:List (Int×Int))(x:Int)(h:aF t=true):C 90 [slx b (t.map knD),.int .i64 x] (.tup [.int .i64 (bM t x).1,.int .i64 (bM t x).2.1,.int .i64 (bM t x).2.2]) []:=by
 obtain⟨l1,l2⟩:=de h
 have hpl:=mT t x
 have hk:=Ij hC b t x h
 obtain⟨p1,hp1⟩:∃z,z=(bM t x).1:=⟨_,rfl⟩
 obtain⟨p2,hp2⟩:∃z,z=(bM t x).2.1:=⟨_,rfl⟩
 obtain⟨p3,hp3⟩:∃z,z=(bM t x).2.2:=⟨_,rfl⟩
 rw[<- hp1,<- hp2,<- hp3]
 unfold bM at hp1 hp2 hp3
 refine start hC (nf:=N90) rfl rfl ?_
 simp[N90]
 refine aa hk (.inl rfl) ?_
 cases ha:atK t x
 ·simp
  refine ab (fun c=>?_) (fun c=>?_)<;>simp at c<;>simp[c]
  ·have h0:0<t.length:=by omega
   have e0:t[0]! = t[0]:=x0c t 0 h0
   rw[if_pos (by simp[c]),c,e0]at hp1 hp2 hp3
   simp[h0,knD,hp1,hp2,hp3]
  refine ab (fun c2=>?_) (fun c2=>?_)<;>simp at c2<;>simp[c2]
  ·obtain⟨n,hn⟩:∃n,n+1=t.length:=⟨t.length-1,by omega⟩
   have e1:IntKind.wrap .i64 ((t.length:Int)-1)=(n:Int):=wrap_i64 (by omega) (by omega)
   have hnl:n<t.length:=by omega
   have e0:t[bX t x-1]! = t[n]:=by rw[show bX t x-1=n by omega];exact x0c t n hnl
   rw[if_neg (by simp[ha,c]),if_pos (by omega),e0]at hp1 hp2 hp3
   simp[e1,hnl,knD,hp1,hp2,hp3]
  ·obtain⟨k,u,a,d,q1,q2,g0,g1,r1,r2,r3,r4,r5,r6,r7,r8,r9,r10,s1,s2,r11,r12,r13⟩:=iD h c (by omega) ha
   rw[if_neg (by simp[ha,c]),if_neg (by omega),s1,s2,HV r1 r2 r3]at hp1 hp2 hp3
   simp only at hp1 hp2 hp3
   have ew1:IntKind.wrap .i64 (k:Int)=(k:Int):=wrap_i64 rfl (by omega)
   have ew2:IntKind.wrap .i64 (t[k+1].2-t[k].2)=(u:Int):=wrap_i64 r1 (by omega)
   have ew3:IntKind.wrap .i64 (x-t[k].1)=(a:Int):=wrap_i64 r2 (by omega)
   have ew4:IntKind.wrap .i64 (t[k+1].1-t[k].1)=(d:Int):=wrap_i64 r3 (by omega)
   have b1:u*a<1329227995784915872903807060280344576:=by
    have:=x1B (show u<=4503599627370496 by omega) (show a<=4503599627370496 by omega)
    omega
   have b2:u*a/d*d<=u*a:=Nat.div_mul_le_self _ _
   have b3:u*a-u*a/d*d=u*a%d:=by
    have:=Nat.div_add_mod' (u*a) d
    omega
   have b4:u*a%d<d:=x1P _ (by omega)
   have b5:u*a/d<=u:=by
    have h1:u*a<=u*d:=Nat.mul_le_mul_left _ (by omega)
    have h1':u*d=d*u:=x1b _ _
    exact Nat.le_of_lt_succ (Nat.div_lt_of_lt_mul (by rw[Nat.succ_eq_add_one,Nat.mul_add];omega))
   have k1:=EF hC u a d r4 r6 r7
   have k2:=rn hC u a (by omega) (by omega) b1
   have k3:=rn hC (u*a/d) d (by omega) (by omega) (by omega)
   have k4:=Ll hC (u*a) (u*a/d*d) b2 b1
   have k5:=Li hC (u*a%d) (by omega)
   rw[b3]at k4
   obtain⟨v1,v2,f1⟩:=kA (u*a)
   obtain⟨v3,v4,f2⟩:=kA (u*a/d*d)
   obtain⟨v5,v6,f3⟩:=kA (u*a%d)
   rw[f1]at k2 k4
   rw[f2]at k3 k4
   rw[f3]at k4 k5
   clear b1 b2 b3 f1 f2 f3
   obtain⟨q,eq⟩:∃q,q=u*a/d:=⟨_,rfl⟩
   obtain⟨q',eq'⟩:∃q,q=(u*a+d-1)/d:=⟨_,rfl⟩
   obtain⟨m,em⟩:∃q,q=u*a%d:=⟨_,rfl⟩
   rw[<- eq]at k1 k3 b5 hp1
   rw[<- eq']at k1
   rw[<- em]at k5 hp2
   have ew5:IntKind.wrap .i64 (t[k].2+(q:Int))=t[k].2+(q:Int):=wrap_i64 rfl (by omega)
   simp[ew1,q1,g0,g1,knD]
   refine⟨aw (by decide +kernel),?_⟩
   simp[ew2,ew3,ew4]
   refine⟨aw (by decide +kernel),?_⟩
   refine aa k1 (.inl rfl) ?_
   simp
   refine aa k2 (.inr rfl) ?_
   simp
   refine aa k3 (.inr rfl) ?_
   simp
   refine aa k4 (.inr rfl) ?_
   simp
   refine aa k5 (.inl rfl) ?_
   simp[ew5,hp1,hp2,hp3]
 ·have hlt:bX t x<t.length:=by simp[atK]at ha;exact ha.1
  have e0:t[bX t x]! = t[bX t x]:=x0c t _ hlt
  rw[if_pos (by simp[ha]),e0]at hp1 hp2 hp3
  simp[hlt,knD,hp1,hp2,hp3]
theorem Br(b:Bool)(t:List (Int×Int))(x:Int)(h:aF t=true):C 73 [slx b (t.map knD),.int .i64 x] (.tup [.int .i64 (bM t x).1,.int .i64 0]) []:=by
 refine start hC (nf:=N73) rfl rfl ?_
 simp[N73]
 refine aa (fB hC b t) (.inl rfl) ?_
 simp[h]
 refine aa (Dq hC b t x h) (.inl rfl) ?_
 simp
end Go.Gv

namespace Go.Gv
theorem kL{s:Sec}(h:aL s=true):aF s.conv=true/\(js s.conv).1=s.height/\0<=(js s.conv).2/\(js s.conv).2<=1099511627776:=by
 simp only[aL,dn,x0a,x0b,x0r]at h
 obtain⟨_,⟨⟨hv,h0⟩,h1⟩,h2⟩:=h
 obtain⟨l1,l2⟩:=de hv
 have hp:∀i (hi:i<s.conv.length),0<=s.conv[i].2:=by
  intro i
  induction i with
  | zero=>intro hi;have:=h0.2;rw[x0c s.conv 0 hi]at this;omega
  | succ i ih =>
   intro hi
   have h3:=((kz hv hi).2.2 i rfl).2
   have:=ih (by omega)
   omega
 obtain⟨n,hn⟩:∃n,n+1=s.conv.length:=⟨s.conv.length-1,by omega⟩
 refine⟨hv,h1,?_,h2⟩
 rw[fj hn]
 exact hp n (by omega)
theorem BR{k f:Nat}(hk:k<=1099511627776)(hf:f<=4194304):k*k*f<=5070602400912917605986812821504:=by
 have h1:=x1B hk hk
 have h2:=x1B h1 hf
 exact h2
variable{C:CC}(hC:al prog C)
include hC
theorem zO(s:Sec)(fall len:Int)(hv:aL s=true)(hs:cT fall len=true):C 61 [.agg (aQ s),.int .i64 s.height,.int .i64 fall,.int .i64 len] (.tup [.int .i64 (nv s fall len),.int .i64 0]) []:=by
 obtain⟨c1,c2,c3,c4⟩:=kL hv
 simp only[cT,x0a,x0b]at hs
 obtain⟨l1,l2⟩:=de c1
 obtain⟨n,hn⟩:∃n,n+1=s.conv.length:=⟨s.conv.length-1,by omega⟩
 rw[fj hn]at c2 c3 c4
 have hF:=Bs hC s.convN s.conv s.height c1 n hn c2
 obtain⟨k,hk⟩:∃k:Nat,s.conv[n].2=k:=⟨s.conv[n].2.toNat,by omega⟩
 obtain⟨f,rfl⟩:∃f:Nat,fall=f:=⟨fall.toNat,by omega⟩
 obtain⟨l,rfl⟩:∃l:Nat,len=l:=⟨len.toNat,by omega⟩
 have hcap:nv s f l=so (k*k*f/l):=by simp[nv,fj hn,hk]
 rw[hk]at hF
 rw[hcap]
 have hb:=BR (k:=k) (f:=f) (by omega) (by omega)
 have hb0:k*k<=1208925819614629174706176:=x1B (show k<=1099511627776 by omega) (show k<=1099511627776 by omega)
 have hb2:=Nat.div_le_self (k*k*f) l
 refine start hC (nf:=N61) rfl rfl ?_
 simp[N61,aQ]
 refine aa hF (.inl rfl) ?_
 simp
 refine aa (si hC k k (by omega) (by omega)) (.inl rfl) ?_
 have v:∀x,isV (cO x)=true/\(∀f:Nat->D,bW f (cO x))/\(∀f:Nat->D,dp f (cO x)=cO x)/\∀ks,bu ks (cO x)=cO x:=fun x=>⟨rfl,fun _=>trivial,fun _=>rfl,fun _=>by simp[cO]⟩
 simp[v]
 refine aa (yT hC (k*k) f (by omega) (by omega) (by omega)) (.inl rfl) ?_
 simp[v]
 refine aa (Dm hC (k*k*f) l (by omega) (by omega) (by omega)) (.inl rfl) ?_
 simp[v]
 refine aa (DI hC (k*k*f/l)) (.inl rfl) ?_
 simp
theorem HH(s:Sec)(fall len:Int):C 47 [.agg (aQ s),.int .i64 fall,.int .i64 len] (.tup [.int .i64 (dB s fall len).1,.int .i64 (dB s fall len).2]) []:=by
 have cap:C 53 [.agg (aQ s),.int .i64 s.height,.int .i64 fall,.int .i64 len] (.tup [.int .i64 (dB s fall len).1,.int .i64 (dB s fall len).2]) []:=by
  refine start hC (nf:=N53) rfl rfl ?_
  simp[N53,aQ]
  have hvc:=ub hC s
  rw[aQ]at hvc
  refine aa hvc (.inl rfl) ?_
  cases hv:aL s
  ·simp[dB,hv]
  have hh:¬s.height<0:=by
   simp only[aL,x0a,x0b]at hv
   omega
  simp[hh]
  refine aa (yH hC fall len) (.inl rfl) ?_
  have es:(decide (0<=fall)&&decide (fall<=4194304)&&decide (1<=len)&&decide (len<=16777216))=cT fall len:=rfl
  rw[es]
  cases hs:cT fall len
  ·simp[dB,hv,hs]
  simp
  have hcc:=zO hC s fall len hv hs
  rw[aQ]at hcc
  refine aa hcc (.inl rfl) ?_
  simp
  refine ab (fun c=>?_) (fun c=>?_)<;>simp[c]<;>simp at c
  ·have c':1099511627776<nv s fall len:=by omega
   simp[dB,hv,hs,c']
  ·have c':¬1099511627776<nv s fall len:=by omega
   simp[dB,hv,hs,c']
 refine start hC (nf:=N47) rfl rfl ?_
 simp[N47,aQ]
 rw[aQ]at cap
 refine aa cap (.inl rfl) ?_
 simp
end Go.Gv

namespace Go.Gv
theorem fo{t:List (Int×Int)}(h:aF t=true):∀{i j:Nat} (hi:i<t.length) (hj:j<=i),t[j].2<=t[i].2:=by
 intro i
 induction i with
 | zero=>intro j hi hj;have:j=0:=(by omega);subst this;exact x00 _
 | succ i ih =>
  intro j hi hj
  rcases Nat.lt_or_eq_of_le hj with h1|rfl
  ·have h2:=((kz h hi).2.2 i rfl).2
   have:=ih (by omega) (show j<=i by omega)
   omega
  ·exact x00 _
theorem tF{t:List (Int×Int)}(h:aF t=true)(x:Int):∃i j:Nat,∃(hi:i<t.length) (hj:j<t.length),t[i].2<=(bM t x).1/\(bM t x).1<=t[j].2:=by
 obtain⟨l1,l2⟩:=de h
 have hpl:=mT t x
 unfold bM
 cases ha:atK t x
 ·by_cases c:bX t x=0
  ·have h0:0<t.length:=by omega
   rw[if_pos (by simp[c]),c,x0c t 0 h0]
   exact⟨0,0,h0,h0,x00 _,x00 _⟩
  rw[if_neg (by simp[c])]
  by_cases c2:bX t x=t.length
  ·obtain⟨n,hn⟩:∃n,n+1=t.length:=⟨t.length-1,by omega⟩
   have hnl:n<t.length:=by omega
   rw[if_pos c2,show bX t x-1=n by omega,x0c t n hnl]
   exact⟨n,n,hnl,hnl,x00 _,x00 _⟩
  ·obtain⟨k,u,a,d,q1,q2,g0,g1,r1,r2,r3,r4,r5,r6,r7,r8,r9,r10,s1,s2,r11,r12,r13⟩:=iD h c (by omega) ha
   rw[if_neg c2,s1,s2,HV r1 r2 r3]
   have b5:u*a/d<=u:=by
    have h1:u*a<=u*d:=Nat.mul_le_mul_left _ (by omega)
    have h1':u*d=d*u:=x1b _ _
    exact Nat.le_of_lt_succ (Nat.div_lt_of_lt_mul (by rw[Nat.succ_eq_add_one,Nat.mul_add];omega))
   generalize u*a/d=q at b5
   exact⟨k,k+1,g0,g1,by simp only;omega,by simp only;omega⟩
 ·have hlt:bX t x<t.length:=by simp[atK]at ha;exact ha.1
  rw[if_pos (by simp),x0c t _ hlt]
  exact⟨_,_,hlt,hlt,x00 _,x00 _⟩
theorem tG{t:List (Int×Int)}(h:aF t=true)(x:Int):t[0]!.2<=(bM t x).1/\(bM t x).1<=(js t).2:=by
 obtain⟨l1,l2⟩:=de h
 obtain⟨i,j,hi,hj,h1,h2⟩:=tF h x
 obtain⟨n,hn⟩:∃n,n+1=t.length:=⟨t.length-1,by omega⟩
 have h0:0<t.length:=by omega
 rw[fj hn,x0c t 0 h0]
 have k1:=fo h hi (show 0<=i by omega)
 have k2:=fo h (show n<t.length by omega) (show j<=n by omega)
 omega
def sP(s:Sec)(depth fall len:Int):Nat:=so ((bM s.conv depth).1.toNat*(bM s.conv depth).1.toNat*fall.toNat/len.toNat)
theorem Cb{s:Sec}(h:aL s=true)(x:Int):0<=(bM s.conv x).1/\(bM s.conv x).1<=1099511627776:=by
 obtain⟨h1,h2,h3,h4⟩:=kL h
 have hr:=tG h1 x
 simp only[aL,dn,x0a,x0b,x0r]at h
 have h0:=h.2.1.1.2.2
 omega
variable{C:CC}(hC:al prog C)
include hC
theorem wt(s:Sec)(depth fall len:Int)(hv:aL s=true)(hs:cT fall len=true):C 61 [.agg (aQ s),.int .i64 depth,.int .i64 fall,.int .i64 len] (.tup [.int .i64 (sP s depth fall len),.int .i64 0]) []:=by
 obtain⟨c1,_,_,_⟩:=kL hv
 obtain⟨c3,c4⟩:=Cb hv depth
 simp only[cT,x0a,x0b]at hs
 have hF:=Br hC s.convN s.conv depth c1
 obtain⟨k,hk⟩:∃k:Nat,(bM s.conv depth).1=k:=⟨(bM s.conv depth).1.toNat,by omega⟩
 obtain⟨f,rfl⟩:∃f:Nat,fall=f:=⟨fall.toNat,by omega⟩
 obtain⟨l,rfl⟩:∃l:Nat,len=l:=⟨len.toNat,by omega⟩
 have hcap:sP s depth f l=so (k*k*f/l):=by simp[sP,hk]
 rw[hk]at hF
 rw[hcap]
 have hb:=BR (k:=k) (f:=f) (by omega) (by omega)
 have hb0:k*k<=1208925819614629174706176:=x1B (show k<=1099511627776 by omega) (show k<=1099511627776 by omega)
 have hb2:=Nat.div_le_self (k*k*f) l
 refine start hC (nf:=N61) rfl rfl ?_
 simp[N61,aQ]
 refine aa hF (.inl rfl) ?_
 simp
 refine aa (si hC k k (by omega) (by omega)) (.inl rfl) ?_
 have v:∀x,isV (cO x)=true/\(∀f:Nat->D,bW f (cO x))/\(∀f:Nat->D,dp f (cO x)=cO x)/\∀ks,bu ks (cO x)=cO x:=fun x=>⟨rfl,fun _=>trivial,fun _=>rfl,fun _=>by simp[cO]⟩
 simp[v]
 refine aa (yT hC (k*k) f (by omega) (by omega) (by omega)) (.inl rfl) ?_
 simp[v]
 refine aa (Dm hC (k*k*f) l (by omega) (by omega) (by omega)) (.inl rfl) ?_
 simp[v]
 refine aa (DI hC (k*k*f/l)) (.inl rfl) ?_
 simp
end Go.Gv

namespace Go.Gv
end Go.Gv

namespace Go.Gv
variable{C:CC}(hC:al prog C)
include hC
end Go.Gv

namespace Go.Gv
variable{C:CC}(hC:al prog C)
include hC
end Go.Gv

namespace Go.Gv
variable{C:CC}(hC:al prog C)
include hC
end Go.Gv

namespace Go.Gv
variable{C:CC}(hC:al prog C)
include hC
end Go.Gv

namespace Go.Gv
def aH(l:List Sec):Bool:=decide (l.length<=40)&&l.all aL&&decide ((l.map (·.name)).Nodup)
def c9(l:List Sec):List D:=((l.map (·.name)).reverse).map D.str
theorem nO:∀(xs:List (List UInt8)) (n:Nat),n=xs.length->∀s,(ee (xs.map D.str) (List.replicate n (.bool true)) (.str s)).getD (.bool false)=.bool (decide (s∈xs))
 | [],n,h,s=>by simp[ee]
 | x::xs,n,h,s=>by
  obtain⟨m,rfl⟩:∃m,n=m+1:=⟨n-1,by simp at h;omega⟩
  have ih:=nO xs m (by simpa using h) s
  simp only[x0F,List.replicate_succ,ee,eqD,uO,x0b]
  by_cases e:s=x
  ·subst e;simp
  ·rw[if_neg e,ih];simp[e]
variable{C:CC}(hC:al prog C)
include hC
theorem gP(b:Bool)(l:List Sec):C 44 [slx b (l.map aQ)] (.bool (aH l)) []:=by
 refine start hC (nf:=N44) rfl rfl ?_
 simp[N44]
 refine ab (fun h=>?_) (fun h=>?_)<;>simp at h
 ·simp[aH];omega
 simp
 refine ay Nat (fun i=>[(3,.mrf 10144),(10144,.mp 0 1 (c9 (l.take i)) (List.replicate i (.bool true))),(10,slx b (l.map aQ)),(11,.int .i64 l.length),(12,.int .i64 i)])
  (fun i=>i<=l.length/\(∀x∈l.take i,aL x=true)/\((l.map (·.name)).take i).Nodup) (fun i=>l.length-i) 0 (by simp) (by simp[c9]) ?_
 rintro i ⟨hi,hv,hn⟩
 simp
 refine ab (fun h3=>?_) (fun h3=>?_)<;>simp at h3
 ·have ht:l.take (i+1)=l.take i++[l[i]]:=x0m h3
  have hg:=nO ((l.take i).map (·.name)).reverse i (by simp;omega) l[i].name
  rw[show((l.take i).map (·.name)).reverse.map D.str=c9 (l.take i)from rfl]at hg
  have hk:D.str l[i].name::c9 (l.take i)=c9 (l.take (i+1)):=by
   rw[c9,c9,ht]
   simp only[x1d,x0F,x02,List.reverse_append,List.reverse_cons,List.reverse_nil,x1v,x1o]
  have hlen:(c9 (l.take i)).length<maxLen:=by
   have:(c9 (l.take i)).length<=40:=by simp[c9];omega
   unfold maxLen;omega
  have hw:IntKind.wrap .i64 ((i:Int)+1)=((i+1:Nat):Int):=wrap_i64 (by omega) (by omega)
  have bad1:aL l[i]=false->aH l=false:=fun e=>by
   simp only[aH,x0W,List.all_eq_false]
   exact .inl (.inr ⟨l[i],x0h h3,by simp[e]⟩)
  have h5:(l.map (·.name)).take (i+1)=(l.map (·.name)).take i++[l[i].name]:=by
   rw[x0m (by simpa using h3)];simp
  have bad2:l[i].name∈(l.map (·.name)).take i->aH l=false:=fun e=>by
   simp only[aH,x0W,x0x]
   right
   intro hnd
   have h6:=(List.take_sublist (i+1) _).nodup hnd
   rw[h5,x1x]at h6
   exact h6.2.2 _ e _ (by simp) rfl
  simp[h3,aQ]
  have hvc:=ub hC l[i]
  rw[aQ]at hvc
  refine aa hvc (.inl rfl) ?_
  cases hvi:aL l[i]
  ·simp[bad1 hvi]
  ·have hnm:l[i].name.length<=maxLen:=by
    simp only[aL,ck,x0a,x0b]at hvi
    unfold maxLen;omega
   simp[hg,hnm]
   refine ab (fun h4=>?_) (fun h4=>?_)<;>simp[h4]<;>simp at h4
   ·exact bad2 h4
   ·simp[hlen,hnm,hw]
    refine⟨i+1,⟨by omega,?_,?_⟩,by omega,⟨hk,?_⟩,rfl⟩
    ·intro x hx
     rw[ht]at hx
     rcases x0n.1 hx with hx|hx
     ·exact hv x hx
     ·simp at hx;subst hx;exact hvi
    ·rw[h5,x1x]
     refine⟨hn,by simp,fun a ha b hb=>?_⟩
     simp at hb
     subst hb
     rintro rfl
     exact h4 ha
    ·rw[List.replicate_succ]
 ·have hil:i=l.length:=by omega
  subst hil
  rw[x0i (by simp)]at hn
  simp at hv
  simp[aH,hn]
  exact⟨by omega,hv⟩
end Go.Gv

namespace Go.Gv
variable{C:CC}(hC:al prog C)
include hC
end Go.Gv

namespace Go.Gv
structure Job where
 below:SlI
 lengths:SlI
 flows:SlI
 falls:SlI
 room:SlI
 secN:Bool
 secs:List Sec
 deriving Inhabited
def dX(j:Job):List D:=[slI j.below,slI j.lengths,slI j.flows,slI j.falls,slI j.room,slx j.secN (j.secs.map aQ)]
def fq(n a b:Int):Bool:=a<=n&&n<=b
def eA(j:Job)(i:Nat):Bool:=(j.below.l[i]! ==-1||(decide ((i:Int)<j.below.l[i]!)&&decide (j.below.l[i]!<j.below.l.length)))&&fq j.lengths.l[i]! 1 16777216&&fq j.flows.l[i]! 0 1099511627776&&fq j.falls.l[i]! 0 4194304&&fq j.room.l[i]! 0 4194304
def am(j:Job):Bool:=decide (j.below.l.length<=400)&&decide (j.lengths.l.length=j.below.l.length)&&decide (j.flows.l.length=j.below.l.length)&&decide (j.falls.l.length=j.below.l.length)&&decide (j.room.l.length=j.below.l.length)&&decide (0<j.secs.length)&&aH j.secs&&(List.range j.below.l.length).all (eA j)
@[simp] theorem Gq{x:SlI}:slI x=slx x.n (x.l.map fun n=>[.int .i64 n]):=zR
variable{C:CC}(hC:al prog C)
include hC
theorem ij(n a b:Int):C 29 [.int .i64 n,.int .i64 a,.int .i64 b] (.bool (a<=n&&n<=b)) []:=by
 refine start hC (nf:=N29) rfl rfl ?_
 simp[N29]
 refine ab (fun h=>?_) (fun h=>?_)<;>simp at h<;>simp[h]<;>omega
end Go.Gv

namespace Go.Gv
def fO(nm:List UInt8)(s:Sec):Bool:=s.name==nm
theorem lY(l:List Sec):aH l=true↔l.length<=40/\(∀(i:Nat) (h:i<l.length),aL l[i]=true/\ct (fO l[i].name) l=i):=by
 simp only[aH,x0a,x0b,x0f]
 constructor
 ·rintro⟨⟨h1,h2⟩,h3⟩
  refine⟨h1,fun i h=>⟨h2 _ (x0h h),?_⟩⟩
  refine dE (fun k hk hki=>?_) h (by simp[fO])
  rw[fO,beq_eq_false_iff_ne]
  intro e
  exact x1w.1 h3 k i (by simpa using hk) (by simpa using h) hki (by simpa using e)
 ·rintro⟨h1,h2⟩
  refine⟨⟨h1,fun x hx=>?_⟩,?_⟩
  ·obtain⟨i,h,rfl⟩:=x0P hx
   exact(h2 i h).1
  ·refine x1w.2 fun a b ha hb hab e=>?_
   simp only[x0S]at ha hb
   simp only[x0Q]at e
   have h3:=(h2 b hb).2
   have h4:∃k,k<=a/\ct (fO l[b].name) l=(k:Int):=by
    unfold ct
    cases hf:l.findIdx? (fO l[b].name) with
    | none =>
     rw[x1F]at hf
     have:=hf l[a] (x0h _)
     simp[fO,e]at this
    | some k =>
     refine⟨k,?_,rfl⟩
     rw[x0Z]at hf
     obtain⟨q1,q2,q3⟩:=hf
     rcases x1q a k with hak|hak
     ·exact absurd (by simp[fO,e]) (q3 a hak)
     ·exact hak
   obtain⟨k,h5,h6⟩:=h4
   omega
variable{C:CC}(hC:al prog C)
include hC
end Go.Gv

namespace Go.Gv
open Go.Lib
variable{C:CC}(hC:al prog C)
include hC
end Go.Gv

namespace Go.Gv
variable{C:CC}(hC:al prog C)
include hC
end Go.Gv

namespace Go.Gv
variable{C:CC}(hC:al prog C)
include hC
end Go.Gv

namespace Go.Gv
variable{C:CC}(hC:al prog C)
include hC
end Go.Gv

namespace Go.Gv
variable{C:CC}(hC:al prog C)
include hC
end Go.Gv

namespace Go.Gv
variable{C:CC}(hC:al prog C)
include hC
end Go.Gv

namespace Go.Gv
variable{C:CC}(hC:al prog C)
include hC
end Go.Gv

namespace Go.Gv
theorem nS{t:List (Int×Int)}{x:Int}(h:atK t x=true\/bX t x=0):(bM t x).1=t[bX t x]!.2:=by
 unfold bM;rw[if_pos (by rcases h with h|h<;>simp[h])]
theorem xg{t:List (Int×Int)}{x:Int}(h:¬atK t x=true)(h0:¬bX t x=0)(h1:bX t x=t.length):(bM t x).1=t[bX t x-1]!.2:=by
 unfold bM;rw[if_neg (by simp[h,h0]),if_pos h1]
theorem xf{t:List (Int×Int)}{x:Int}(h:¬atK t x=true)(h0:¬bX t x=0)(h1:¬bX t x=t.length):(bM t x).1=(EL t[bX t x-1]! t[bX t x]! x).1:=by
 unfold bM;rw[if_neg (by simp[h,h0]),if_neg h1]
variable{C:CC}(hC:al prog C)
include hC
end Go.Gv

namespace Go.Gv
variable{C:CC}(hC:al prog C)
include hC
end Go.Gv

namespace Go.Gv
def io(l:Lnk):Int:=if 4194304<l.up-l.down then 4194304 else l.up-l.down
variable{C:CC}(hC:al prog C)
include hC
end Go.Gv

namespace Go.Gv
variable{C:CC}(hC:al prog C)
include hC
end Go.Gv

namespace Go.Gv
def lL(ss:List Sec)(nm:List UInt8):Int:=ct (fO nm) ss
def pC(ss:List Sec)(nm:List UInt8):Int×Int:=if aH ss then(if 0<=lL ss nm then(lL ss nm,0) else(0,9)) else(0,1)
def mG(ss:List Sec)(l:Lnk):Bool:=decide (lL ss l.sect<0)
def kx(l:Lnk):Bool:=decide (l.up<l.down)
def tH(ls:List Lnk)(ss:List Sec):Int:=if ls.any (mG ss) then 9 else if ls.any kx then 23 else 0
def pK(ns:List Nod)(ls:List Lnk)(ss:List Sec)(q:List Sp)(count:Int):Int:=if fI ns ls&&aH ss then(if kp q count=0 then tH ls ss else kp q count) else 1
structure jr (ss:List Sec) (l:Lnk):Prop where
 idx:∃k,lL ss l.sect=(k:Nat)/\k<ss.length
 le:l.down<=l.up
 up:-4194304<=l.up/\l.up<=4194304
 down:-4194304<=l.down/\l.down<=4194304
 len:1<=l.len/\l.len<=16777216
theorem Bj{ns:List Nod}{ls:List Lnk}(h:fI ns ls=true){l:Lnk}(hl:l∈ls):dO l.up=true/\dO l.down=true/\cu l.len 1 16777216=true/\ck l.sect=true:=by
 simp only[fI,x0a,x0f,x0b]at h
 obtain⟨⟨hv,hk⟩,_⟩:=h
 obtain⟨i,hi,rfl⟩:=x0P hl
 have h1:=(iV hv hi).1
 have h2:=hk _ hl
 simp only[c8,jg,h2,if_true,x0a]at h1
 exact⟨h1.1.1.2,h1.2.1.2,h1.2.1.1,h1.2.2⟩
theorem F1{ns:List Nod}{ls:List Lnk}{ss:List Sec}(ht:fI ns ls=true)(h:tH ls ss=0):∀l∈ls,jr ss l:=by
 intro l hl
 obtain⟨a,b,c,_⟩:=Bj ht hl
 simp only[dO,cu,x0a,x0b]at a b c
 unfold tH at h
 split at h
 ·cases h
 rename_i h1
 split at h
 ·cases h
 rename_i h2
 simp only[x0U,x0E,mG,kx,x0b]at h1 h2
 have e1:=h1 l hl
 have e2:=h2 l hl
 have hi:0<=lL ss l.sect:=by omega
 refine⟨⟨(lL ss l.sect).toNat,by omega,o7 hi⟩,by omega,a,b,c⟩
theorem jr.fall{ss:List Sec}{l:Lnk}(h:jr ss l):cT (io l) l.len=true:=by
 have:=h.le;have:=h.len;have:=h.up;have:=h.down
 by_cases h:4194304<l.up-l.down<;>simp[cT,io,h]<;>omega
theorem Fm{ns:List Nod}{ls:List Lnk}{ss:List Sec}{q:List Sp}{count:Int}(h:pK ns ls ss q count=0):fI ns ls=true/\aH ss=true/\kp q count=0/\tH ls ss=0:=by
 unfold pK at h
 split at h
 ·rename_i h1
  simp only[x0a]at h1
  split at h
  ·rename_i h2
   exact⟨h1.1,h1.2,h2,h⟩
  ·rename_i h2
   exact absurd h h2
 ·cases h
theorem lZ{ss:List Sec}(h:aH ss=true){k:Nat}(hk:k<ss.length):aL ss[k]=true:=((lY ss).1 h).2 k hk |>.1
theorem sQ{ss:List Sec}(h:aH ss=true):ss.length<=40:=((lY ss).1 h).1
variable{C:CC}(hC:al prog C)
include hC
theorem Bq(b:Bool)(ss:List Sec)(nm:List UInt8):C 441 [slx b (ss.map aQ),.str nm] (.tup [.int .i64 (pC ss nm).1,.int .i64 (pC ss nm).2]) []:=by
 have h1:∀x∈ss,C 480 (.agg (aQ x)::[.ptr [.str nm]]) (.bool (fO nm x)) []:=fun x _=>by
  refine start hC (nf:=N480) rfl rfl ?_
  simp[N480,aQ,fO]
  rw[x0J];simp
 refine start hC (nf:=N441) rfl rfl ?_
 simp[N441]
 refine aa (gP hC b ss) (.inl rfl) ?_
 unfold pC
 cases hv:aH ss
 ·simp
 simp
 have:=sQ hv
 refine aa (pQ hC (b:=b) _ (by omega) h1) (.inl rfl) ?_
 simp
 have e:ct (fO nm) ss=lL ss nm:=rfl
 rw[e]
 refine ab (fun h=>?_) (fun h=>?_)<;>simp at h<;>simp[h]
 rw[if_neg (by omega)];simp
theorem El(l:Lnk):C 506 [.agg (aJ l)] (.bool (kx l)) []:=by
 refine start hC (nf:=N506) rfl rfl ?_
 simp[N506,aJ,kx]
theorem xz(b1 b2 b:Bool)(ns:List Nod)(ls:List Lnk)(ss:List Sec)(hls:ls.length<2^62)(hv:aH ss=true):C 481 [.agg [slx b1 (ns.map bz),slx b2 (ls.map aJ)],slx b (ss.map aQ)] (.int .i64 (tH ls ss)) []:=by
 have k1:=fun nm=>Bq hC b ss nm
 have k2:=mr hC (b:=b2) (xs:=ls) (g:=506) (cs:=[]) kx hls (fun x _=>El hC x)
 refine start hC (nf:=N481) rfl rfl ?_
 simp[N481]
 refine ay Nat (fun i=>[(1,slx b (ss.map aQ)),(2,.ptr [slx b1 (ns.map bz),slx b2 (ls.map aJ)]),(10,slx b2 (ls.map aJ)),(11,.int .i64 ls.length),(12,.int .i64 i)]) (fun i=>i<=ls.length/\∀(j:Nat) (h:j<ls.length),j<i->mG ss ls[j]=false) (fun i=>ls.length-i) 0 (by simp) (by simp) ?_
 rintro i ⟨hi,hj⟩
 simp
 refine ab (fun h=>?_) (fun h=>?_)<;>simp[h]<;>simp at h
 ·have hw:IntKind.wrap .i64 ((i:Int)+1)=((i+1:Nat):Int):=wrap_i64 (by omega) (by omega)
  simp[h,aJ]
  refine aa (k1 _) (.inl rfl) ?_
  unfold pC
  rw[hv]
  by_cases h1:0<=lL ss ls[i].sect
  ·simp[h1,hw]
   refine⟨i+1,⟨by omega,fun j hl hjj=>?_⟩,by omega,by omega⟩
   rcases x0y.1 hjj with h2|rfl
   ·exact hj j hl h2
   ·simp[mG];omega
  ·simp[h1]
   have:ls.any (mG ss)=true:=x1e.2 ⟨ls[i],x0h h,by simp[mG];omega⟩
   rw[tH,if_pos this]
 ·have hno:ls.any (mG ss)=false:=by
   rw[x0E]
   intro x hx
   obtain⟨j,hjl,rfl⟩:=x0P hx
   simp[hj j hjl (by omega)]
  refine aa k2 (.inl rfl) ?_
  unfold tH
  rw[hno]
  cases hu:ls.any kx<;>simp
end Go.Gv

namespace Go.Gv
def lX(s:Sec)(depth fall len:Int):Int×Int:=if aL s then(if 0<=depth/\depth<=s.height/\cT fall len=true then(if 1099511627776<(sP s depth fall len:Int) then(0,5) else(sP s depth fall len,0)) else(0,2)) else(0,1)
def kh(ss:List Sec)(l:Lnk):Sec:=ss[(lL ss l.sect).toNat]?.getD ⟨[],0,0,true,[],true,[]⟩
def qZ(ss:List Sec)(l:Lnk):Int:=if (lX (kh ss l) (kh ss l).height (io l) l.len).2=5 then 1099511627776 else(lX (kh ss l) (kh ss l).height (io l) l.len).1
theorem jr.sec{ss:List Sec}{l:Lnk}(h:jr ss l):∃k,lL ss l.sect=(k:Nat)/\∃hk:k<ss.length,kh ss l=ss[k]:=by
 obtain⟨k,hk,hl⟩:=h.idx
 refine⟨k,hk,hl,?_⟩
 simp[kh,hk,hl]
theorem jr.find{ss:List Sec}{l:Lnk}(hv:aH ss=true)(h:jr ss l):pC ss l.sect=(lL ss l.sect,0):=by
 obtain⟨k,hk,hl⟩:=h.idx
 simp[pC,hv,hk]
theorem jr.valid{ss:List Sec}{l:Lnk}(hv:aH ss=true)(h:jr ss l):aL (kh ss l)=true:=by
 obtain⟨k,hk,hl,e⟩:=h.sec
 rw[e]
 exact lZ hv hl
theorem jr.wrap{ss:List Sec}{l:Lnk}(h:jr ss l):IntKind.wrap .i64 (l.up-l.down)=l.up-l.down:=by
 have:=h.up;have:=h.down
 exact wrap_i64 rfl (by omega)
variable{C:CC}(hC:al prog C)
include hC
theorem F2(hS:SlC C)(b1 b2 b b':Bool)(ns:List Nod)(ls:List Lnk)(ss:List Sec)(q:List Sp)(count:Int)(hls:ls.length<2^62)(hq:q.length<2^62)(hcv:∀l∈ls,l.curve.length<2^62):C 473 [.agg [slx b1 (ns.map bz),slx b2 (ls.map aJ)],slx b (ss.map aQ),slx b' (q.map knD),.int .i64 count] (.int .i64 (pK ns ls ss q count)) []:=by
 have k1:=yF hC hS b1 b2 ns ls hls hcv
 have k2:=gP hC b ss
 have k3:=yN hC b' q count hq
 have k4:=xz hC b1 b2 b ns ls ss hls
 refine start hC (nf:=N473) rfl rfl ?_
 simp[N473]
 refine aa k1 (.inl rfl) ?_
 unfold pK
 cases ht:fI ns ls
 ·simp
 simp
 refine aa k2 (.inl rfl) ?_
 cases hv:aH ss
 ·simp
 simp
 refine aa k3 (.inl rfl) ?_
 by_cases h0:kp q count=0
 ·simp[h0]
  refine aa (k4 hv) (.inl rfl) ?_
  simp[h0]
 ·simp[h0]
theorem Gj(l:Lnk)(w:IntKind.wrap .i64 (l.up-l.down)=l.up-l.down):C 474 [.agg (aJ l)] (.int .i64 (io l)) []:=by
 refine start hC (nf:=N474) rfl rfl ?_
 simp[N474,aJ,w,io]
theorem wb(s:Sec)(depth fall len:Int):C 53 [.agg (aQ s),.int .i64 depth,.int .i64 fall,.int .i64 len] (.tup [.int .i64 (lX s depth fall len).1,.int .i64 (lX s depth fall len).2]) []:=by
 have hvc:=ub hC s
 have hsl:=yH hC fall len
 have es:(decide (0<=fall)&&decide (fall<=4194304)&&decide (1<=len)&&decide (len<=16777216))=cT fall len:=rfl
 rw[es]at hsl
 obtain⟨r,hr⟩:∃r,r=lX s depth fall len:=⟨_,rfl⟩
 rw[<- hr]
 unfold lX at hr
 have hcc:=fun hv hs=>wt hC s depth fall len hv hs
 simp only[aQ]at hvc hcc
 refine start hC (nf:=N53) rfl rfl ?_
 simp[N53,aQ]
 refine aa hvc (.inl rfl) ?_
 cases hv:aL s
 ·rw[if_neg (by simp[hv])]at hr
  simp[hr]
 rw[if_pos hv]at hr
 simp
 refine ab (fun c1=>?_) (fun c1=>?_)<;>simp at c1<;>simp[c1]
 ·rw[if_neg (by omega)]at hr
  simp[hr]
 refine ab (fun c2=>?_) (fun c2=>?_)<;>simp at c2<;>simp[c2]
 ·rw[if_neg (by omega)]at hr
  simp[hr]
 refine aa hsl (.inl rfl) ?_
 cases hs:cT fall len
 ·rw[if_neg (by simp[hs])]at hr
  simp[hr]
 rw[if_pos ⟨by omega,by omega,hs⟩]at hr
 simp
 refine aa (hcc hv hs) (.inl rfl) ?_
 simp
 refine ab (fun c3=>?_) (fun c3=>?_)<;>simp at c3<;>simp[c3]
 ·rw[if_pos (by omega)]at hr
  simp[hr]
 ·rw[if_neg (by omega)]at hr
  simp[hr]
theorem EC(s:Sec)(fall len:Int):C 47 [.agg (aQ s),.int .i64 fall,.int .i64 len] (.tup [.int .i64 (lX s s.height fall len).1,.int .i64 (lX s s.height fall len).2]) []:=by
 have cap:=wb hC s s.height fall len
 rw[aQ]at cap
 refine start hC (nf:=N47) rfl rfl ?_
 simp[N47,aQ]
 refine aa cap (.inl rfl) ?_
 simp
theorem Ip(b:Bool)(ss:List Sec)(l:Lnk)(hv:aH ss=true)(h:jr ss l):C 475 [slx b (ss.map aQ),.agg (aJ l)] (.tup [.int .i64 (qZ ss l),.int .i64 0]) []:=by
 have k1:=Bq hC b ss l.sect
 rw[h.find hv]at k1
 have k2:=Gj hC l h.wrap
 have k3:=EC hC (kh ss l) (io l) l.len
 have hf:=h.fall
 have hva:=h.valid hv
 obtain⟨k,hk,hl,e⟩:=h.sec
 obtain⟨r,hr⟩:∃r,r=qZ ss l:=⟨_,rfl⟩
 rw[<- hr]
 unfold qZ at hr
 have h5:(lX (kh ss l) (kh ss l).height (io l) l.len).2=5\/(lX (kh ss l) (kh ss l).height (io l) l.len).2=0:=by
  have:1<=(kh ss l).height:=by simp only[aL,x0a,x0b]at hva;omega
  unfold lX
  rw[if_pos hva,if_pos ⟨by omega,by omega,hf⟩]
  split<;>simp
 generalize lX (kh ss l) (kh ss l).height (io l) l.len=c at *
 simp only at k1
 rw[hk]at k1
 rw[e]at k3
 simp only[aJ,aQ]at k2 k3
 refine start hC (nf:=N475) rfl rfl ?_
 simp[N475,aJ]
 refine aa k1 (.inl rfl) ?_
 simp[hl,aQ]
 refine aa k2 (.inl rfl) ?_
 simp
 refine aa k3 (.inl rfl) ?_
 simp
 refine⟨aw (by decide +kernel),?_⟩
 rcases h5 with h5|h5<;>simp[h5]at hr ⊢
 ·simp[hr]
 ·simp[hr]
end Go.Gv

namespace Go.Gv
variable{C:CC}(hC:al prog C)
include hC
end Go.Gv

namespace Go.Gv
theorem D9{q:List Sp}{n:Nat}(h:kp q n=0):q.length=n/\∀s∈q,0<=s.1/\s.1<=s.2/\s.2<=1099511627776:=by
 unfold kp at h
 split at h
 ·cases h
 rename_i h1
 split at h
 ·rename_i h0
  split at h
  ·cases h
  ·rename_i h2
   refine⟨by omega,fun s hs=>?_⟩
   simp only[x0U,x0E]at h1 h2
   have a:=h1 s hs
   have b:=h2 s hs
   simp only[rg,xB,x0t,x1A,x0a,x0b,x0u,not_or]at a b
   simp at a b
   omega
 ·cases h
variable{C:CC}(hC:al prog C)
include hC
end Go.Gv

namespace Go.Gv
end Go.Gv

namespace Go.Gv
theorem rA{t:List (Int×Int)}{x:Int}(hv:aF t=true)(ha:¬atK t x=true)(h0:¬bX t x=0)(h1:¬bX t x=t.length) :
  ∃k,∃(g0:k<t.length) (g1:k+1<t.length),bX t x=k+1/\t[k].1<x/\x<t[k+1].1/\t[k].2<=(bM t x).1/\(bM t x).1<=t[k+1].2:=by
 have hpl:=mT t x
 obtain⟨k,u,a,d,q1,q2,g0,g1,r1,r2,r3,r4,r5,r6,r7,r8,r9,r10,s1,s2,r11,r12,r13⟩:=iD hv h0 (by omega) (by simpa using ha)
 rw[xf ha h0 h1,s1,s2,HV r1 r2 r3]
 have b5:u*a/d<=u:=by
  have h1:u*a<=u*d:=Nat.mul_le_mul_left _ (by omega)
  have h1':u*d=d*u:=x1b _ _
  exact Nat.le_of_lt_succ (Nat.div_lt_of_lt_mul (by rw[Nat.succ_eq_add_one,Nat.mul_add];omega))
 generalize u*a/d=q at b5
 exact⟨k,g0,g1,q1,by omega,by omega,by simp only;omega,by simp only;omega⟩
theorem xP{t:List (Int×Int)}{x:Int}(ha:atK t x=true):∃(hl:bX t x<t.length),t[bX t x].1=x/\(bM t x).1=t[bX t x].2:=by
 have hl:bX t x<t.length:=by simp[atK]at ha;exact ha.1
 have e:t[bX t x]! = t[bX t x]:=x0c t _ hl
 have h1:=nS (.inl ha)
 simp only[atK,hl,decide_true,x1T,x0b,e]at ha
 exact⟨hl,ha,by rw[h1,e]⟩
theorem Dr{t:List (Int×Int)}(hv:aF t=true){x:Int}{j:Nat}(hj:j<t.length)(h:x<=t[j].1):(bM t x).1<=t[j].2:=by
 have hp:=qn hj h
 by_cases ha:atK t x=true
 ·obtain⟨hl,_,e⟩:=xP ha
  rw[e];exact fo hv hj hp
 by_cases h0:bX t x=0
 ·rw[nS (.inr h0),h0,x0c t 0 (by omega)]
  exact fo hv hj (by omega)
 obtain⟨k,g0,g1,q1,_,_,_,q2⟩:=rA hv ha h0 (by omega)
 have:=fo hv hj (show k+1<=j by omega)
 omega
theorem AK{t:List (Int×Int)}(hv:aF t=true){x:Int}{i:Nat}(hi:i<t.length)(h:t[i].1<=x):t[i].2<=(bM t x).1:=by
 have hpl:=mT t x
 by_cases ha:atK t x=true
 ·obtain⟨hl,e1,e⟩:=xP ha
  rw[e]
  by_cases hip:i<=bX t x
  ·exact fo hv hl hip
  ·have:=lb hv (bX t x) i hi (by omega)
   omega
 by_cases h0:bX t x=0
 ·rw[nS (.inr h0),h0,x0c t 0 (by omega)]
  have h1:=tI (t:=t) (x:=x) (by omega)
  simp only[h0]at h1
  have hi0:i=0:=by
   apply Classical.byContradiction
   intro hne
   have:=lb hv 0 i hi (by omega)
   omega
  subst hi0
  exact x00 _
 by_cases h1:bX t x=t.length
 ·obtain⟨n,hn⟩:∃n,n+1=t.length:=⟨t.length-1,by omega⟩
  rw[xg ha h0 h1,show bX t x-1=n by omega,x0c t n (by omega)]
  exact fo hv (by omega) (by omega)
 obtain⟨k,g0,g1,q1,_,q3,q4,_⟩:=rA hv ha h0 h1
 have hik:i<=k:=by
  apply Nat.le_of_not_lt
  intro hne
  have:=vX hv hi (show k+1<=i by omega)
  omega
 have:=fo hv g0 hik
 omega
theorem HX{s:Sec}(hv:aL s=true)(fall len:Int):sP s s.height fall len=nv s fall len:=by
 obtain⟨h1,h2,_,_⟩:=kL hv
 obtain⟨l1,l2⟩:=de h1
 obtain⟨n,hn⟩:∃n,n+1=s.conv.length:=⟨s.conv.length-1,by omega⟩
 have hnl:n<s.conv.length:=by omega
 have e:(bM s.conv s.height).1=(js s.conv).2:=by
  rw[fj hn]at h2 ⊢
  have a:=Dr h1 hnl (x:=s.height) (by omega)
  have b:=AK h1 hnl (x:=s.height) (by omega)
  omega
 unfold sP nv
 rw[e]
end Go.Gv

namespace Go.Gv
variable{C:CC}(hC:al prog C)
include hC
end Go.Gv

namespace Go.Gv
def ovG(ss:List Sec)(f:Sp->Int)(p:Lnk×Sp):Option (List UInt8):=if qZ ss p.1<f p.2 then some p.1.name else none
def jz(ss:List Sec)(f:Sp->Int)(ls:List Lnk)(fl:List Sp)(i:Nat):List (List UInt8):=((ls.zip fl).take i).filterMap (ovG ss f)
theorem vu{ss:List Sec}{f:Sp->Int}{ls:List Lnk}{fl:List Sp}{i:Nat}(h1:i<ls.length)(h2:i<fl.length):jz ss f ls fl (i+1)=jz ss f ls fl i++(if qZ ss ls[i]<f fl[i] then [ls[i].name] else []):=by
 have h3:i<(ls.zip fl).length:=by simp;omega
 unfold jz
 rw[x0m h3,List.filterMap_append]
 congr 1
 have e:(ls.zip fl)[i]=(ls[i],fl[i]):=by simp
 rw[e]
 by_cases c:qZ ss ls[i]<f fl[i]<;>simp[ovG,c]
theorem yr(ss:List Sec)(f:Sp->Int)(ls:List Lnk)(fl:List Sp)(i:Nat):(jz ss f ls fl i).length<=i:=by
 unfold jz
 have:=List.length_filterMap_le (ovG ss f) ((ls.zip fl).take i)
 simp at this
 omega
def kw(l:List (List UInt8)):List (List D):=l.map fun s=>[.str s]
theorem fA(l:List (List UInt8)):(kw l).length=l.length:=by simp[kw]
theorem Eg(l:List (List UInt8)):(kw l).map (fun e=>e.map bq)=kw l:=by
 unfold kw
 rw[x1K]
 apply x0j
 intro v _
 simp[bq]
theorem na(l:List (List UInt8))(s:List UInt8):kw l++[[.str s]]=kw (l++[s]):=by simp[kw]
def OvE(ns:List Nod)(ls:List Lnk)(ss:List Sec)(q:List Sp):Int:=if pK ns ls ss q ns.length=0 then iH ns.length (ah ns ls) q else pK ns ls ss q ns.length
def OvV(f:Sp->Int)(ns:List Nod)(ls:List Lnk)(ss:List Sec)(q:List Sp):D:=if OvE ns ls ss q=0 then .sl (kw (jz ss f ls (aV ns.length (ah ns ls) q) ls.length)) else .nils
variable{C:CC}(hC:al prog C)
include hC
set_option maxHeartbeats 2000000 in
theorem sE(hS:SlC C)(b1 b2 b b':Bool)(ns:List Nod)(ls:List Lnk)(ss:List Sec)(q:List Sp)(hls:ls.length<2^62)(hq:q.length<2^62)(hcv:∀l∈ls,l.curve.length<2^62):C 442 [.agg [slx b1 (ns.map bz),slx b2 (ls.map aJ)],slx b (ss.map aQ),slx b' (q.map knD)] (.tup [OvV (·.1) ns ls ss q,OvV (·.2) ns ls ss q,.int .i64 (OvE ns ls ss q)]) []:=by
 have k0:=F2 hC hS b1 b2 b b' ns ls ss q ns.length hls hq hcv
 refine start hC (nf:=N442) rfl rfl ?_
 simp[N442]
 refine aa k0 (.inl rfl) ?_
 unfold OvV OvE
 by_cases hg:pK ns ls ss q ns.length=0
 rotate_left
 ·simp[hg]
 obtain⟨ht,hv,hsp,hpe⟩:=Fm hg
 have hpip:=F1 ht hpe
 have hql:=(D9 hsp).1
 have hl4:ls.length<=400:=by
  simp only[fI,x0a]at ht
  exact(cC ht.1.1).2
 have k1:=vK hC hS b1 b2 b' ns ls q hcv ht hql
 have hfl:(aV ns.length (ah ns ls) q).length=ls.length:=by simp[aV,bT]
 unfold tf iH at k1
 unfold iH
 simp[hg]
 refine aa k1 (.inr rfl) ?_
 generalize aV ns.length (ah ns ls) q=fl at *
 cases hb:sN fl
 rotate_left
 ·simp[hg]
 simp[hg]
 refine ay Nat (fun i=>[(1,slx b (ss.map aQ)),(10,.sl (fl.map knD)),(12,.ref (.r 10192) 0 (jz ss (·.1) ls fl i).length),(10192,.blk 1 (kw (jz ss (·.1) ls fl i))),(13,.ref (.r 10208) 0 (jz ss (·.2) ls fl i).length),(10208,.blk 1 (kw (jz ss (·.2) ls fl i))),(38,slx b2 (ls.map aJ)),(39,.int .i64 ls.length),(40,.int .i64 i)]) (fun i=>i<=ls.length) (fun i=>ls.length-i) 0 (by simp) (by simp[jz,kw]) ?_
 rintro i hi
 simp
 refine ab (fun h=>?_) (fun h=>?_)<;>simp[h]<;>simp at h
 ·have hw:IntKind.wrap .i64 ((i:Int)+1)=((i+1:Nat):Int):=wrap_i64 (by omega) (by omega)
  have hif:i<fl.length:=by omega
  have hp:=hpip _ (x0h h)
  have k2:=Ip hC b ss ls[i] hv hp
  have s1:=vu (ss:=ss) (f:=(·.1)) h hif
  have s2:=vu (ss:=ss) (f:=(·.2)) h hif
  have n1:=yr ss (·.1) ls fl i
  have n2:=yr ss (·.2) ls fl i
  simp only[aJ]at k2
  simp[h,aJ]
  refine aa k2 (.inl rfl) ?_
  simp[hif,knD]
  generalize qZ ss ls[i]=c at *
  generalize hT1:jz ss (·.1) ls fl i=T1 at *
  generalize hT2:jz ss (·.2) ls fl i=T2 at *
  have t1:(kw T1).take T1.length=kw T1:=x0i (by rw[fA];exact x0k _)
  have t2:(kw T2).take T2.length=kw T2:=x0i (by rw[fA];exact x0k _)
  refine ab (fun a=>?_) (fun a=>?_)<;>simp at a<;>simp[a,hif,knD]
  ·refine⟨by simp[fA],by omega,?_⟩
   refine ab (fun g=>?_) (fun g=>?_)<;>simp at g<;>simp[g,hif,knD]
   ·refine⟨by simp[fA],by omega,?_⟩
    simp[hw]
    refine⟨i+1,by omega,by omega,?_⟩
    rw[s1,s2,if_pos a,if_pos g,t1,t2,na,na]
    simp
   ·simp[hw]
    refine⟨i+1,by omega,by omega,?_⟩
    rw[s1,s2,if_pos a,if_neg (by omega),t1,na]
    simp
  ·refine ab (fun g=>?_) (fun g=>?_)<;>simp at g<;>simp[g,hif,knD]
   ·refine⟨by simp[fA],by omega,?_⟩
    simp[hw]
    refine⟨i+1,by omega,by omega,?_⟩
    rw[s1,s2,if_neg (by omega),if_pos g,t2,na]
    simp
   ·simp[hw]
    refine⟨i+1,by omega,by omega,?_⟩
    rw[s1,s2,if_neg (by omega),if_neg (by omega)]
    simp
 ·have ek:i=ls.length:=by omega
  subst ek
  have hgi:¬pK ns ls ss q ns.length=0->pK ns ls ss q ns.length=0:=fun _=>hg
  rw[if_pos hgi,if_pos hgi,Eg,Eg,x0i (by rw[fA];exact x0k _),x0i (by rw[fA];exact x0k _)]
  exact⟨⟨by simp[fA],by simp[fA]⟩,rfl,rfl,hgi⟩
end Go.Gv

namespace Go.Gv
variable{C:CC}(hC:al prog C)
include hC
end Go.Gv

namespace Go.Gv
variable{C:CC}(hC:al prog C)
include hC
end Go.Gv

namespace Go.Gv
variable{C:CC}(hC:al prog C)
include hC
end Go.Gv

namespace Go.Gv
variable{C:CC}(hC:al prog C)
include hC
end Go.Gv

namespace Go.Gv
variable{C:CC}(hC:al prog C)
include hC
end Go.Gv

namespace Go.Gv
theorem lC(n:Nat)(es:List Edg)(l:List Sp):(aV n es l).length=es.length:=by simp[aV]
theorem GH{l:List Sp}{n:Int}(h:kp l n=0):∀s∈l,0<=s.1/\s.1<=s.2/\s.2<=1099511627776:=by
 unfold kp at h
 split at h
 ·cases h
 ·rename_i h1
  split at h
  ·split at h
   ·cases h
   ·rename_i h2
    intro s hs
    simp only[x0U,x0E]at h1 h2
    have a:=h1 s hs
    have b:=h2 s hs
    simp only[rg,xB,x0t,x1A,x0a,x0b,x0u,not_or]at a b
    simp at a b
    omega
  ·cases h
theorem rj{ns:List Nod}{ls:List Lnk}{l:List Sp}(h:jC ns ls l=0):fI ns ls=true/\kp l ns.length=0/\iH ns.length (ah ns ls) l=0:=by
 unfold jC at h
 split at h
 ·rename_i h1
  split at h
  ·rename_i h2
   exact⟨h1,h2,h⟩
  ·rename_i h2
   exact absurd h h2
 ·cases h
variable{C:CC}(hC:al prog C)
include hC
end Go.Gv

namespace Go.Gv
structure NP (s:Sec) (fall len:Int) (y:Sp):Prop where
 lo:0<=y.1
 hi:y.1<=s.height
 fl:y.2<=1099511627776
 yes:y.2<=(sP s y.1 fall len:Int)
 no:0<y.1->(sP s (y.1-1) fall len:Int)<y.2
variable{C:CC}(hC:al prog C)
include hC
end Go.Gv

namespace Go.Gv
variable{C:CC}(hC:al prog C)
include hC
end Go.Gv

namespace Go.Gv
variable{C:CC}(hC:al prog C)
include hC
end Go.Gv

namespace Go.Gv
structure Qc (a b:List Sp):Prop where
 len:b.length=a.length
 get:∀(i:Nat) (h:i<a.length) (h':i<b.length),0<=a[i].1/\a[i].1<=b[i].1/\b[i].1=b[i].2/\b[i].2<=a[i].2
theorem Jv{n:Nat}{es:List Edg}{g g':Nat->Int}(h:∀v,v<n->g v<=g' v)(x:Nat):upS n es g x<=upS n es g' x:=by
 unfold upS
 refine pn fun v hv=>?_
 have:=h v hv
 show(if upB n es v x=true then g v else 0)<=if upB n es v x=true then g' v else 0
 split<;>omega
theorem LG{l:List Sp}{v:Nat}(h:v<l.length):l[v]! = l[v]:=x0c l v h
theorem FJ{ss:List Sec}{f:Sp->Int}{ls:List Lnk}{fl:List Sp}(hl:fl.length=ls.length){x:List UInt8}:x∈jz ss f ls fl ls.length↔∃(i:Nat) (h:i<ls.length) (h':i<fl.length),qZ ss ls[i]<f fl[i]/\ls[i].name=x:=by
 unfold jz
 rw[x0i (by simp;omega)]
 simp only[List.mem_filterMap]
 constructor
 ·rintro⟨p,hp,e⟩
  obtain⟨i,hi,rfl⟩:=x0P hp
  have hi1:i<ls.length:=by simp at hi;omega
  have hi2:i<fl.length:=by simp at hi;omega
  refine⟨i,hi1,hi2,?_⟩
  simp[ovG]at e
  exact e
 ·rintro⟨i,hi1,hi2,c,e⟩
  have hi:i<(ls.zip fl).length:=by simp;omega
  refine⟨(ls.zip fl)[i],x0h hi,?_⟩
  simp[ovG,c,e]
end Go.Gv

namespace Go.Gv
variable{C:CC}(hC:al prog C)
include hC
end Go.Gv

namespace Go.Gv
variable{C:CC}(hC:al prog C)
include hC
end Go.Gv


set_option maxRecDepth 4000
namespace Go.Gv
structure uj (C:CC):Prop where
 nil:∀ds,C 598 ds .any [.own 2 []]->C 598 ds (.sl []) []
theorem FU(ns:List Nod):∀e∈ns.map bz,e.length=9/\∀c∈e,aA c=true:=by
 intro e he
 obtain⟨n,_,rfl⟩:=x0w.1 he
 have:aA (slx n.shapeN (n.shape.map knD))=true:=by unfold slx;split<;>rfl
 refine⟨rfl,fun c hc=>?_⟩
 simp only[bz,x0H,x07,or_false]at hc
 rcases hc with rfl|rfl|rfl|rfl|rfl|rfl|rfl|rfl|rfl
 all_goals first|rfl|exact this
theorem yh(ls:List Lnk):∀e∈ls.map aJ,e.length=11/\∀c∈e,aA c=true:=by
 intro e he
 obtain⟨n,_,rfl⟩:=x0w.1 he
 have:aA (slx n.curveN (n.curve.map knD))=true:=by unfold slx;split<;>rfl
 refine⟨rfl,fun c hc=>?_⟩
 simp only[aJ,x0H,x07,or_false]at hc
 rcases hc with rfl|rfl|rfl|rfl|rfl|rfl|rfl|rfl|rfl|rfl|rfl
 all_goals first|rfl|exact this
def nT(ns:List Nod)(j:Nat):List (List D):=(ns.take j).map bz
theorem tz(ns:List Nod):nT ns 0=[]:=by simp[nT]
theorem w8{ns:List Nod}{j:Nat}(h:j<=ns.length):(nT ns j).length=j:=by simp[nT];omega
theorem tx{ns:List Nod}{j:Nat}(h:j<ns.length):nT ns (j+1)=nT ns j++[bz ns[j]]:=by
 unfold nT
 rw[x0m h,x1d];rfl
theorem w6(ns:List Nod):nT ns ns.length=ns.map bz:=by unfold nT;rw[x0L]
theorem w7(ns:List Nod)(j:Nat):∀e∈nT ns j,e.length=9/\∀c∈e,aA c=true:=FU _
theorem nJ(b:Bool)(xs:List (List D)):aA (slx b xs)=true:=by unfold slx;split<;>rfl
theorem qL(b:Bool)(xs:List (List D)):slx b xs=.nils\/slx b xs=.sl xs:=by
 unfold slx
 split
 ·exact .inl rfl
 ·exact .inr rfl
variable{C:CC}(hC:al prog C)
include hC
theorem l8(hL:uj C)(b:Bool)(l:List (Int×Int))(hl:l.length<2^40):C 598 [slx b (l.map knD)] (slx b (l.map knD)) []:=by
 have hf:∀e∈l.map knD,e.length=2/\(∀c∈e,aA c=true)/\∀c∈e,bP c=true:=by
  intro e he
  obtain⟨s,_,rfl⟩:=x0w.1 he
  simp[knD,aA,bP]
 cases l with
 | nil =>
  cases b with
  | true =>
   show C 598 [.nils] .nils []
   refine start hC (nf:=N598) rfl rfl ?_
   simp[N598]
  | false =>
   show C 598 [.sl []] (.sl []) []
   refine hL.nil _ ?_
   refine jp hC (nf:=N598) rfl rfl ?_
   simp[N598]
 | cons x xs =>
  have e:slx b ((x::xs).map knD)=.sl ((x::xs).map knD):=by cases b<;>rfl
  rw[e]
  obtain⟨l,hl2⟩:∃l,l=(x::xs).map knD:=⟨_,rfl⟩
  have h:0<l.length:=by rw[hl2];simp
  have h2:l.length<1099511627776:=by rw[hl2];simpa using hl
  have hV:l.map (fun e=>e.map bq)=l:=by
   rw[hl2,x1K]
   apply x0j
   intro v _
   simp[knD,bq]
  rw[<- hl2]at hf ⊢
  clear hl2 e hl
  refine start hC (nf:=N598) rfl rfl ?_
  simp[N598]
  refine⟨fun _=>⟨fun e he=>⟨(hf e he).1,(hf e he).2.1⟩,by omega,?_⟩,fun h0=>?_⟩
  ·simp[hV]
  ·subst h0
   simp at h
end Go.Gv

namespace Go.Gv
variable{C:CC}(hC:al prog C)
include hC
theorem sH(j:Job):C 24 [.agg (dX j)] (.bool (am j)) []:=by
 refine start hC (nf:=N24) rfl rfl ?_
 simp[N24,dX]
 refine ab (fun h=>?_) (fun h=>?_)<;>simp[h]<;>simp at h
 ·simp[am];omega
 refine ab (fun h2=>?_) (fun h2=>?_)<;>simp[h2]<;>simp at h2
 ·simp[am];omega
 refine ab (fun h3=>?_) (fun h3=>?_)<;>simp[h3]<;>simp at h3
 ·simp[am];omega
 refine ab (fun h4=>?_) (fun h4=>?_)<;>simp[h4]<;>simp at h4
 ·simp[am];omega
 refine ab (fun h5=>?_) (fun h5=>?_)<;>simp[h5]<;>simp at h5
 ·simp[am];omega
 refine ab (fun h6=>?_) (fun h6=>?_)<;>simp[h6]<;>simp at h6
 ·simp[am,h6]
 refine aa (gP hC _ _) (.inl rfl) ?_
 cases h7:aH j.secs
 ·simp[am,h7]
 simp
 refine ay Nat (fun i=>[(1,.ptr [slx j.below.n (List.map (fun n=>[D.int IntKind.i64 n]) j.below.l),
      slx j.lengths.n (List.map (fun n=>[D.int IntKind.i64 n]) j.lengths.l),
      slx j.flows.n (List.map (fun n=>[D.int IntKind.i64 n]) j.flows.l),
      slx j.falls.n (List.map (fun n=>[D.int IntKind.i64 n]) j.falls.l),
      slx j.room.n (List.map (fun n=>[D.int IntKind.i64 n]) j.room.l),slx j.secN (List.map aQ j.secs)]),(3,.int .i64 j.below.l.length),(51,.int .i64 j.below.l.length),(52,.int .i64 i)])
  (fun i=>i<=j.below.l.length/\∀k<i,eA j k=true) (fun i=>j.below.l.length-i) 0 (by simp) (by simp) ?_
 rintro i ⟨hi,hp⟩
 simp
 refine ab (fun h8=>?_) (fun h8=>?_)<;>simp[h8]<;>simp at h8
 ·have g2:i<j.lengths.l.length:=by omega
  have g3:i<j.flows.l.length:=by omega
  have g4:i<j.falls.l.length:=by omega
  have g5:i<j.room.l.length:=by omega
  have hw:IntKind.wrap .i64 ((i:Int)+1)=((i+1:Nat):Int):=wrap_i64 (by omega) (by omega)
  have bad:eA j i=false->am j=false:=fun e=>by
   simp only[am,x0W,List.all_eq_false]
   exact .inr ⟨i,by simpa using h8,by simp[e]⟩
  have next:eA j i=true->∃s':Nat,(s'<=j.below.l.length/\∀k<s',eA j k=true)/\j.below.l.length-s'<j.below.l.length-i/\s'=i+1:=fun e=>⟨i+1,⟨by omega,fun k hk=>by
   rcases x0y.1 hk with hk|rfl
   ·exact hp k hk
   ·exact e⟩,by omega,rfl⟩
  have he:eA j i=((j.below.l[i]==-1||(decide ((i:Int)<j.below.l[i])&&decide (j.below.l[i]<j.below.l.length)))&&(fq j.lengths.l[i] 1 16777216&&fq j.flows.l[i] 0 1099511627776&&fq j.falls.l[i] 0 4194304&&fq j.room.l[i] 0 4194304)):=by
   simp only[eA,x0c j.below.l i h8,x0c j.lengths.l i g2,x0c j.flows.l i g3,x0c j.falls.l i g4,x0c j.room.l i g5,Bool.and_assoc]
  rw[he]at bad next
  have e1:j.below.l[i]?.getD 0=j.below.l[i]:=by simp[h8]
  simp[h8]
  have cbs:(j.below.l[i]==-1||(decide ((i:Int)<j.below.l[i])&&decide (j.below.l[i]<j.below.l.length)))=true->((fq j.lengths.l[i] 1 16777216&&fq j.flows.l[i] 0 1099511627776&&fq j.falls.l[i] 0 4194304&&fq j.room.l[i] 0 4194304)=false->am j=false) /\
    ((fq j.lengths.l[i] 1 16777216&&fq j.flows.l[i] 0 1099511627776&&fq j.falls.l[i] 0 4194304&&fq j.room.l[i] 0 4194304)=true->∃s':Nat,(s'<=j.below.l.length/\∀k<s',eA j k=true)/\j.below.l.length-s'<j.below.l.length-i/\s'=i+1):=fun cb=>by
   rw[cb]at bad next
   exact⟨fun h=>bad (by rw[x1T];exact h),fun h=>next (by rw[x1T];exact h)⟩
  refine ab (fun c1=>?pa) (fun c1=>?pb)<;>simp[h8]at c1<;>simp[c1,h8,g2]
  case' pa =>
   refine ab (fun c2=>?_) (fun c2=>?_)<;>simp[h8]at c2<;>simp[c2,h8,g2]
   ·refine bad ?_
    have:¬(i:Int)<j.below.l[i]:=by omega
    simp[c1,this]
   refine ab (fun c3=>?_) (fun c3=>?_)<;>simp[h8]at c3<;>simp[c3,h8,g2]
   ·refine bad ?_
    have:¬j.below.l[i]<(j.below.l.length:Int):=by omega
    simp[c1,this]
   obtain⟨bad',next'⟩:=cbs (by simp[c3];omega)
  case' pb=>obtain⟨bad',next'⟩:=cbs (by simp[c1])
  all_goals
   clear bad next cbs
   refine aa (ij hC _ _ _) (.inl rfl) ?_
   cases d1:(decide (1<=j.lengths.l[i])&&decide (j.lengths.l[i]<=16777216))
   ·simp[d1,h8]
    exact bad' (by simp only[fq,d1,x1C])
   simp[d1,h8,g3]
   refine aa (ij hC _ _ _) (.inl rfl) ?_
   cases d2:(decide (0<=j.flows.l[i])&&decide (j.flows.l[i]<=1099511627776))
   ·simp[d2,h8]
    exact bad' (by simp only[fq,d2,x1C,Bool.and_false])
   simp[d2,h8,g4]
   refine aa (ij hC _ _ _) (.inl rfl) ?_
   cases d3:(decide (0<=j.falls.l[i])&&decide (j.falls.l[i]<=4194304))
   ·simp[d3,h8]
    exact bad' (by simp only[fq,d3,x1C,Bool.and_false])
   simp[d3,h8,g5]
   refine aa (ij hC _ _ _) (.inl rfl) ?_
   cases d4:(decide (0<=j.room.l[i])&&decide (j.room.l[i]<=4194304))
   ·simp[d4,h8]
    exact bad' (by simp only[fq,d4,x1C,Bool.and_false])
   simp[d4,h8,hw]
   obtain⟨s',q1,q2,rfl⟩:=next' (by simp only[fq,d1,d2,d3,d4,Bool.and_true])
   exact⟨_,q1,q2,rfl⟩
 ·have:i=j.below.l.length:=by omega
  subst this
  have h6':0<j.secs.length:=List.length_pos_iff.2 h6
  simp[am,h7,h6',show j.below.l.length<=400 by omega,show j.lengths.l.length=j.below.l.length by omega,show j.flows.l.length=j.below.l.length by omega,show j.falls.l.length=j.below.l.length by omega,show j.room.l.length=j.below.l.length by omega]
  exact hp
end Go.Gv
