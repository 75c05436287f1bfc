/-
  Texts of the proof: M4, P3, K3, K2, B1, B2, K9, K10, B3, B4, B5, K11, K12, B6, W1, W2, W3, W4, W5, B7, P5, M1, P4, M5, P1, M2a, P2, B8, P6, B9, P4b, P7, Q0, Q1, GvX, GvX2, Q2.
-/
import Derived.Test.YtakhehpeefjcnaaGreatX6
import Derived.Lib.SlicesCompact
set_option linter.all false
namespace Go.Gv
def DvS(x b i a q r:Nat):Prop:=i<=128/\r<b/\∃c,a=c*2^i/\c<2^(128-i)/\(q*b+r)*2^(128-i)+c=x
theorem DvS.step{x b i a q r:Nat}(h:DvS x b i a q r)(hi:i<128)(hb:0<b) :
  a<340282366920938463463374607431768211456/\2*q<=x /\
  ∀w r' a',2*r+a/170141183460469231731687303715884105728=w*b+r'->r'<b->a'=2*a%340282366920938463463374607431768211456->DvS x b (i+1) a' (2*q+w) r'/\2*q+w<=x:=by
 obtain⟨_,hr,c,h1,h2,h3⟩:=h
 obtain⟨m,hm⟩:∃m,m+1=128-i:=⟨127-i,by omega⟩
 have hm2:m=128-(i+1):=by omega
 rw[<- hm,x1T]at h2 h3
 obtain⟨V,hV⟩:∃V,V=2^m:=⟨_,rfl⟩
 obtain⟨W,hW⟩:∃W,W=2^i:=⟨_,rfl⟩
 have hVW:V*W=170141183460469231731687303715884105728:=by
  rw[hV,hW,<- Nat.pow_add,show m+i=127 by omega]
 have hVp:0<V:=by rw[hV];exact x1x m
 rw[<- hV]at h2 h3
 rw[<- hW]at h1
 obtain⟨t,ht⟩:∃t,t=c/V:=⟨_,rfl⟩
 obtain⟨d,hd⟩:∃d,d=c%V:=⟨_,rfl⟩
 have hc:c=t*V+d:=by rw[ht,hd,x0R];exact(x05 c V).symm
 have hdV:d<V:=by rw[hd];exact x1a _ hVp
 have ht1:t<=1:=by
  have:t<2:=by rw[ht,x1z hVp];omega
  omega
 have ha:a=t*170141183460469231731687303715884105728+d*W:=by
  rw[h1,hc,x0A,x1g,hVW]
 have hdW:d*W<170141183460469231731687303715884105728:=by
  have:(d+1)*W<=V*W:=x0j _ hdV
  rw[hVW,x0A]at this
  have hWp:0<W:=by rw[hW];exact x1x i
  omega
 have hbit:a/170141183460469231731687303715884105728=t:=by
  rw[ha];generalize d*W=z at *;omega
 have fin:∀w r',2*r+t=w*b+r'->((2*q+w)*b+r')*V+d=x:=fun w r' e=>by
  have e1:(2*q+w)*b+r'=2*(q*b+r)+t:=by
   rw[x0A,x1g]
   generalize q*b=z at *
   generalize w*b=z' at *
   omega
  rw[e1,<- h3,hc,x0A,x0R V 2,<- x1g,x0R (q*b+r) 2]
  omega
 have big:∀w r',2*r+t=w*b+r'->2*q+w<=x:=fun w r' e=>by
  have e1:=fin w r' e
  have e2:2*q+w<=(2*q+w)*b:=Nat.le_mul_of_pos_right _ hb
  have e3:(2*q+w)*b+r'<=((2*q+w)*b+r')*V:=Nat.le_mul_of_pos_right _ hVp
  omega
 refine⟨?_,?_,?_⟩
 ·rw[ha];generalize d*W=z at *;omega
 ·exact x1v (Nat.le_add_right _ _) (big _ _ (x1u (2*r+t) b).symm)
 ·intro w r' a' e hr' ha'
  rw[hbit]at e
  refine⟨⟨by omega,hr',d,?_,?_,?_⟩,big w r' e⟩
  ·rw[ha',ha,x1T,<- hW,x0R W 2,Nat.mul_left_comm]
   generalize d*W=z at *
   omega
  ·rw[<- hm2,<- hV];exact hdV
  ·rw[<- hm2,<- hV];exact fin w r' e
theorem DvS.last{x b a q r:Nat}(h:DvS x b 128 a q r):q=x/b/\r=x%b:=by
 obtain⟨_,hr,c,h1,h2,h3⟩:=h
 simp at h2 h3
 subst h2
 simp at h3
 subst h3
 have hb:0<b:=by omega
 rw[x0R,Nat.mul_add_div hb,Nat.div_eq_of_lt hr,Nat.mul_add_mod,Nat.mod_eq_of_lt hr]
 exact⟨rfl,rfl⟩
variable{C:CC}(hC:ay prog C)
include hC
theorem qQ(a b:Nat):C 84 [.agg [.int .u64 a,.int .u64 b],.bool false] (.agg [.int .u64 a,.int .u64 b,.bool false]) []:=by
 refine ai hC (nf:=N84) rfl rfl ?_
 simp[N84]
 exact ao (by decide +kernel)
theorem sC(n:Nat)(h:n<9223372036854775808):C 68 [.int .i64 n] (.agg [.int .u64 0,.int .u64 n,.bool false]) []:=by
 refine ai hC (nf:=N68) rfl rfl ?_
 simp[N68]
 refine aa (qR hC n h) (.inl rfl) ?_
 have hm:=qQ hC 0 n
 have h0:¬(n:Int)<0:=by omega
 simp[h0]
 refine aa hm (.inl rfl) ?_
 simp
theorem sF(x y:Nat)(hx:x<9223372036854775808)(hy:y<9223372036854775808):C 67 [.int .i64 x,.int .i64 y] (.agg [.int .u64 ((x*y/18446744073709551616:Nat):Int),.int .u64 ((x*y%18446744073709551616:Nat):Int),.bool false]) []:=by
 refine ai hC (nf:=N67) rfl rfl ?_
 have h0:¬(x:Int)<0:=by omega
 have h1:¬(y:Int)<0:=by omega
 have hm:=om hC x y (by omega) (by omega)
 rw[bz]at hm
 obtain⟨zh,hzh⟩:∃zh,zh=x*y/18446744073709551616:=⟨_,rfl⟩
 obtain⟨zl,hzl⟩:∃zl,zl=x*y%18446744073709551616:=⟨_,rfl⟩
 rw[<- hzh,<- hzl]at hm ⊢
 simp[N67]
 refine aa (qR hC x hx) (.inl rfl) ?_
 simp
 refine aa (qR hC y hy) (.inl rfl) ?_
 simp
 refine aa hm (.inl rfl) ?_
 simp[h0,h1]
 refine aa (qQ hC zh zl) (.inl rfl) ?_
 simp
set_option maxHeartbeats 2000000 in
theorem F4(x b:Nat)(hx:x<340282366920938463463374607431768211456)(hb0:0<b)(hb:b<9223372036854775808):C 82 [.agg [.int .u64 ((x/18446744073709551616:Nat):Int),.int .u64 ((x%18446744073709551616:Nat):Int)],.agg [.int .u64 0,.int .u64 b]]
  (.tup [.agg [.int .u64 ((x/b/18446744073709551616:Nat):Int),.int .u64 ((x/b%18446744073709551616:Nat):Int)],.agg [.int .u64 0,.int .u64 ((x%b:Nat):Int)]]) []:=by
 obtain⟨xh,hxh⟩:∃xh,xh=x/18446744073709551616:=⟨_,rfl⟩
 obtain⟨xl,hxl⟩:∃xl,xl=x%18446744073709551616:=⟨_,rfl⟩
 obtain⟨yh,hyh⟩:∃yh,yh=x/b/18446744073709551616:=⟨_,rfl⟩
 obtain⟨yl,hyl⟩:∃yl,yl=x/b%18446744073709551616:=⟨_,rfl⟩
 obtain⟨z,hz⟩:∃z,z=x%b:=⟨_,rfl⟩
 rw[<- hxh,<- hxl,<- hyh,<- hyl,<- hz]
 refine ai hC (nf:=N82) rfl rfl ?_
 simp[N82]
 refine au (Nat×Nat×Nat×Nat×Nat×Nat) (fun s=>[(2,.adr (.r 10032) 0 0),(3,.ptr [.int .u64 0,.int .u64 b]),(4,.adr (.r 10064) 0 0),(5,.adr (.r 10080) 0 0),(6,.adr (.r 10096) 0 0),(7,.adr (.r 10112) 0 0),(8,.int .i64 s.1),
   (10032,.blk 2 [[.int .u64 s.2.1,.int .u64 s.2.2.1]]),(10064,.blk 2 [[.int .u64 0,.int .u64 0]]),(10080,.blk 2 [[.int .u64 0,.int .u64 0]]),(10096,.blk 2 [[.int .u64 s.2.2.2.1,.int .u64 s.2.2.2.2.1]]),(10112,.blk 2 [[.int .u64 0,.int .u64 s.2.2.2.2.2]])])
  (fun s=>s.2.2.1<18446744073709551616/\s.2.2.2.2.1<18446744073709551616/\DvS x b s.1 (s.2.1*18446744073709551616+s.2.2.1) (s.2.2.2.1*18446744073709551616+s.2.2.2.2.1) s.2.2.2.2.2) (fun s=>128-s.1) (0,xh,xl,0,0,0) ⟨by simp;omega,by simp,by omega,by simpa using hb0,x,by simp;omega,by simp;exact hx,by simp⟩ (by simp) ?_
 rintro⟨i,ah,al,qh,ql,r⟩ ⟨hal,hql,hS⟩
 simp only at hal hql hS
 simp
 refine ac (fun c=>?_) (fun c=>?_)<;>simp at c<;>simp[c]
 ·have hrb:=hS.2.1
  have hw1:IntKind.wrap .i64 ((i:Int)+1)=((i+1:Nat):Int):=wrap_i64 (by omega) (by omega)
  obtain⟨g1,g2,g3⟩:=hS.step (by omega) hb0
  obtain⟨A,hA⟩:∃A,A=ah*18446744073709551616+al:=⟨_,rfl⟩
  obtain⟨Q,hQ⟩:∃Q,Q=qh*18446744073709551616+ql:=⟨_,rfl⟩
  rw[<- hA]at g1 g3
  rw[<- hQ]at g2 g3
  obtain⟨t,ht⟩:∃t,t=ah/9223372036854775808:=⟨_,rfl⟩
  have ht2:A/170141183460469231731687303715884105728=t:=by omega
  rw[ht2]at g3
  obtain⟨p,hp⟩:∃p,p=2*A%340282366920938463463374607431768211456/18446744073709551616:=⟨_,rfl⟩
  obtain⟨o,ho⟩:∃o,o=2*A%340282366920938463463374607431768211456%18446744073709551616:=⟨_,rfl⟩
  have k1:=ik hC ah al 0 t p o (by omega) (by omega) (by omega) (by omega) (by omega)
  have k2:=ik hC 0 r t 0 0 (2*r+t) (by omega) (by omega) (by omega) (by omega) (by omega)
  obtain⟨u,hu⟩:∃u,u=2*Q/18446744073709551616:=⟨_,rfl⟩
  obtain⟨v,hv⟩:∃v,v=2*Q%18446744073709551616:=⟨_,rfl⟩
  have k3:=ik hC qh ql 0 0 u v (by omega) (by omega) (by omega) (by omega) (by omega)
  obtain⟨r2,hr2⟩:∃r2,r2=2*r+t:=⟨_,rfl⟩
  rw[<- hr2]at k2 g3
  have k4:=qP hC 0 r2 0 b
  simp only[Int.natCast_zero]at k1 k2 k3 k4
  have hsh:Int.fdiv (ah:Int) (2^min 63 IntKind.u64.bits)=(t:Int):=by rw[sS,ht]
  have hsh0:Int.fdiv 0 (2^min 63 IntKind.u64.bits)=0:=by simpa using sS 0
  have e1:p*18446744073709551616+o=2*A%340282366920938463463374607431768211456:=by rw[hp,ho];exact x1u _ _
  have e2:u*18446744073709551616+v=2*Q:=by rw[hu,hv];exact x1u _ _
  simp[hsh]
  refine aa k1 (.inl rfl) ?_
  simp[hsh0]
  refine aa k2 (.inl rfl) ?_
  simp
  refine aa k3 (.inl rfl) ?_
  simp
  refine aa k4 (.inl rfl) ?_
  simp
  refine ac (fun d=>?_) (fun d=>?_)<;>simp at d<;>simp[d,hw1]
  ·obtain⟨r3,hr3⟩:∃r3,r3=r2-b:=⟨_,rfl⟩
   have k5:=sB hC 0 r2 0 b 0 r3 (by omega) (by omega) (by omega) (by omega) (by clear g3 hp ho hu hv g1 g2 hx k1 k2 k3 k4 e1 e2;omega)
   simp only[Int.natCast_zero]at k5
   obtain⟨m1,m2⟩:=g3 1 r3 (2*A%340282366920938463463374607431768211456) (by omega) (by omega) rfl
   have hve:v%2=0/\v<18446744073709551616:=by
    clear g3 m1 m2 k1 k2 k3 k4 k5 hS e1 e2 hp ho g1 hA
    omega
   have hv1:IntKind.u64.wrap ((v:Int)+1)=((v+1:Nat):Int):=uw (.inl (by push_cast;rfl)) (by clear g3 m1 m2 hp ho hu hv;omega)
   refine aa k5 (.inl rfl) ?_
   simp[hv1,hw1]
   refine⟨i+1,p,o,u,v+1,r3,⟨by clear g3 m1 m2 hu hv;omega,by clear g3 m1 m2 hp ho hu hv;omega,?_⟩,by omega,?_⟩
   ·rw[e1,<- x0N,e2];exact m1
   ·simp
  ·obtain⟨m1,m2⟩:=g3 0 r2 (2*A%340282366920938463463374607431768211456) (by omega) (by omega) rfl
   refine⟨i+1,p,o,u,v,r2,⟨by omega,by omega,?_⟩,by omega,?_⟩
   ·rw[e1,e2];exact m1
   ·simp
 ·obtain rfl:i=128:=by have:=hS.1;omega
  obtain⟨e1,e2⟩:=hS.last
  refine⟨ao (by decide +kernel),?_⟩
  rw[<- hz]at e2
  subst e2
  obtain⟨Y,hY⟩:∃Y,Y=x/b:=⟨_,rfl⟩
  rw[<- hY]at e1 hyh hyl
  have e3:qh=yh:=by omega
  have e4:ql=yl:=by omega
  subst e3 e4
  simp
end Go.Gv

namespace Go.Gv
variable{C:CC}(hC:ay prog C)
include hC
set_option maxRecDepth 8000 in
set_option maxHeartbeats 4000000 in
theorem Cm(x b:Nat)(hx:x<340282366920938463463374607431768211456)(hb0:0<b)(hb:b<170141183460469231731687303715884105728):C 82 [.agg [.int .u64 ((x/18446744073709551616:Nat):Int),.int .u64 ((x%18446744073709551616:Nat):Int)],.agg [.int .u64 ((b/18446744073709551616:Nat):Int),.int .u64 ((b%18446744073709551616:Nat):Int)]]
  (.tup [.agg [.int .u64 ((x/b/18446744073709551616:Nat):Int),.int .u64 ((x/b%18446744073709551616:Nat):Int)],.agg [.int .u64 ((x%b/18446744073709551616:Nat):Int),.int .u64 ((x%b%18446744073709551616:Nat):Int)]]) []:=by
 obtain⟨xh,hxh⟩:∃xh,xh=x/18446744073709551616:=⟨_,rfl⟩
 obtain⟨xl,hxl⟩:∃xl,xl=x%18446744073709551616:=⟨_,rfl⟩
 obtain⟨bh,hbh⟩:∃bh,bh=b/18446744073709551616:=⟨_,rfl⟩
 obtain⟨bl,hbl⟩:∃bl,bl=b%18446744073709551616:=⟨_,rfl⟩
 obtain⟨yh,hyh⟩:∃yh,yh=x/b/18446744073709551616:=⟨_,rfl⟩
 obtain⟨yl,hyl⟩:∃yl,yl=x/b%18446744073709551616:=⟨_,rfl⟩
 obtain⟨zh,hzh⟩:∃z,z=x%b/18446744073709551616:=⟨_,rfl⟩
 obtain⟨zl,hzl⟩:∃z,z=x%b%18446744073709551616:=⟨_,rfl⟩
 rw[<- hxh,<- hxl,<- hyh,<- hyl,<- hzh,<- hzl,<- hbh,<- hbl]
 have hbb:bh*18446744073709551616+bl=b:=by rw[hbh,hbl];exact x1u _ _
 have hbl2:bl<18446744073709551616:=by rw[hbl];exact x1a _ (by decide)
 have hxl2:xl<18446744073709551616:=by rw[hxl];exact x1a _ (by decide)
 have h00:(0:Nat)<18446744073709551616:=by decide
 have hxx:xh*18446744073709551616+xl=x:=by rw[hxh,hxl];exact x1u _ _
 have hS0:DvS x b 0 (xh*18446744073709551616+xl) (0*18446744073709551616+0) (0*18446744073709551616+0):=by
  rw[hxx]
  have hpow:(2:Nat)^128=340282366920938463463374607431768211456:=by decide +kernel
  exact⟨by omega,by simpa using hb0,x,by simp,by rw[Nat.sub_zero,hpow];exact hx,by simp⟩
 refine ai hC (nf:=N82) rfl rfl ?_
 simp[N82]
 refine au (Nat×Nat×Nat×Nat×Nat×Nat×Nat) (fun s=>[(2,.adr (.r 10032) 0 0),(3,.ptr [.int .u64 bh,.int .u64 bl]),(4,.adr (.r 10064) 0 0),(5,.adr (.r 10080) 0 0),(6,.adr (.r 10096) 0 0),(7,.adr (.r 10112) 0 0),(8,.int .i64 s.1),
   (10032,.blk 2 [[.int .u64 s.2.1,.int .u64 s.2.2.1]]),(10064,.blk 2 [[.int .u64 0,.int .u64 0]]),(10080,.blk 2 [[.int .u64 0,.int .u64 0]]),(10096,.blk 2 [[.int .u64 s.2.2.2.1,.int .u64 s.2.2.2.2.1]]),(10112,.blk 2 [[.int .u64 s.2.2.2.2.2.1,.int .u64 s.2.2.2.2.2.2]])])
  (fun s=>s.2.2.1<18446744073709551616/\s.2.2.2.2.1<18446744073709551616/\s.2.2.2.2.2.2<18446744073709551616/\DvS x b s.1 (s.2.1*18446744073709551616+s.2.2.1) (s.2.2.2.1*18446744073709551616+s.2.2.2.2.1) (s.2.2.2.2.2.1*18446744073709551616+s.2.2.2.2.2.2)) (fun s=>128-s.1) (0,xh,xl,0,0,0,0) ⟨hxl2,h00,h00,hS0⟩ (by simp) ?_
 rintro⟨i,ah,al,qh,ql,rh,rl⟩ ⟨hal,hql,hrl,hS⟩
 simp only at hal hql hrl hS
 simp
 refine ac (fun c=>?_) (fun c=>?_)<;>simp at c<;>simp[c]
 ·have hrb:=hS.2.1
  have hw1:IntKind.wrap .i64 ((i:Int)+1)=((i+1:Nat):Int):=wrap_i64 (by omega) (by omega)
  obtain⟨g1,g2,g3⟩:=hS.step (by omega) hb0
  obtain⟨A,hA⟩:∃A,A=ah*18446744073709551616+al:=⟨_,rfl⟩
  obtain⟨Q,hQ⟩:∃Q,Q=qh*18446744073709551616+ql:=⟨_,rfl⟩
  obtain⟨r,hr⟩:∃r,r=rh*18446744073709551616+rl:=⟨_,rfl⟩
  rw[<- hA]at g1 g3
  rw[<- hQ]at g2 g3
  rw[<- hr]at g3 hrb
  obtain⟨t,ht⟩:∃t,t=ah/9223372036854775808:=⟨_,rfl⟩
  have ht2:A/170141183460469231731687303715884105728=t:=by omega
  rw[ht2]at g3
  have ht1:t<=1:=by omega
  have hrh:rh/9223372036854775808=0:=by omega
  obtain⟨p,hp⟩:∃p,p=2*A%340282366920938463463374607431768211456/18446744073709551616:=⟨_,rfl⟩
  obtain⟨o,ho⟩:∃o,o=2*A%340282366920938463463374607431768211456%18446744073709551616:=⟨_,rfl⟩
  have k1:=ik hC ah al 0 t p o (by omega) (by omega) (by omega) (by omega) (by omega)
  obtain⟨R,hR⟩:∃R,R=2*r+t:=⟨_,rfl⟩
  obtain⟨Rh,hRh⟩:∃z,z=R/18446744073709551616:=⟨_,rfl⟩
  obtain⟨Rl,hRl⟩:∃z,z=R%18446744073709551616:=⟨_,rfl⟩
  have k2:=ik hC rh rl t 0 Rh Rl (by omega) (by omega) (by omega) (by omega) (by omega)
  obtain⟨u,hu⟩:∃u,u=2*Q/18446744073709551616:=⟨_,rfl⟩
  obtain⟨v,hv⟩:∃v,v=2*Q%18446744073709551616:=⟨_,rfl⟩
  have k3:=ik hC qh ql 0 0 u v (by omega) (by omega) (by omega) (by omega) (by omega)
  rw[<- hR]at g3
  have k4:=qP hC Rh Rl bh bl
  have hlt:decide (Rh<bh\/(Rh=bh/\Rl<bl))=decide (R<b):=by
   rw[x0z,x0c,x0c]
   omega
  rw[hlt]at k4
  simp only[Int.natCast_zero]at k1 k3
  have hsh:Int.fdiv (ah:Int) (2^min 63 IntKind.u64.bits)=(t:Int):=by rw[sS,ht]
  have hsh0:Int.fdiv (rh:Int) (2^min 63 IntKind.u64.bits)=0:=by rw[sS,hrh];rfl
  have e1:p*18446744073709551616+o=2*A%340282366920938463463374607431768211456:=by rw[hp,ho];exact x1u _ _
  have e2:u*18446744073709551616+v=2*Q:=by rw[hu,hv];exact x1u _ _
  have e3:Rh*18446744073709551616+Rl=R:=by rw[hRh,hRl];exact x1u _ _
  simp[hsh]
  refine aa k1 (.inl rfl) ?_
  simp[hsh0]
  refine aa k2 (.inl rfl) ?_
  simp
  refine aa k3 (.inl rfl) ?_
  simp
  refine aa k4 (.inl rfl) ?_
  by_cases d:R<b
  ·simp[d,hw1]
   obtain⟨m1,m2⟩:=g3 0 R (2*A%340282366920938463463374607431768211456) (by omega) (by omega) rfl
   refine⟨i+1,p,o,u,v,Rh,Rl,⟨by clear g3 m1 m2;omega,by clear g3 m1 m2;omega,by clear g3 m1 m2;omega,?_⟩,by omega,?_⟩
   ·rw[e1,e2,e3];exact m1
   ·simp
  ·simp[d,hw1]
   obtain⟨r3,hr3⟩:∃r3,r3=R-b:=⟨_,rfl⟩
   obtain⟨r3h,hr3h⟩:∃z,z=r3/18446744073709551616:=⟨_,rfl⟩
   obtain⟨r3l,hr3l⟩:∃z,z=r3%18446744073709551616:=⟨_,rfl⟩
   obtain⟨m1,m2⟩:=g3 1 r3 (2*A%340282366920938463463374607431768211456) (by omega) (by omega) rfl
   have hr3l2:r3l<18446744073709551616:=by rw[hr3l];exact x1a _ (by decide)
   have e4:r3h*18446744073709551616+r3l=r3:=by rw[hr3h,hr3l];exact x1u _ _
   have hRl2:Rl<18446744073709551616:=by rw[hRl];exact x1a _ (by decide)
   have k5:=sB hC Rh Rl bh bl r3h r3l (by clear g3 m1 m2 hp ho hu hv hS g1 g2 k1 k2 k3 k4 e1 e2;omega) hRl2 hbl2 hr3l2 (by rw[e4,hbb,e3,hr3];exact Nat.sub_add_cancel (x1C d))
   have hve:v%2=0/\v<18446744073709551616:=by
    clear g3 m1 m2 k1 k2 k3 k4 k5 hS e1 e2 hp ho g1 hA
    omega
   have hv1:IntKind.u64.wrap ((v:Int)+1)=((v+1:Nat):Int):=uw (.inl (by push_cast;rfl)) (by clear g3 m1 m2 hp ho hu hv;omega)
   refine aa k5 (.inl rfl) ?_
   simp[hv1,hw1]
   refine⟨i+1,p,o,u,v+1,r3h,r3l,⟨by clear g3 m1 m2 hu hv;omega,by clear g3 m1 m2 hp ho hu hv;omega,hr3l2,?_⟩,by omega,?_⟩
   ·rw[e1,<- x0N,e2,e4];exact m1
   ·simp
 ·obtain rfl:i=128:=by have:=hS.1;omega
  obtain⟨e1,e2⟩:=hS.last
  refine⟨ao (by decide +kernel),?_⟩
  obtain⟨Y,hY⟩:∃Y,Y=x/b:=⟨_,rfl⟩
  obtain⟨Z,hZ⟩:∃Z,Z=x%b:=⟨_,rfl⟩
  rw[<- hY]at e1 hyh hyl
  rw[<- hZ]at e2 hzh hzl
  have e3:qh=yh:=by omega
  have e4:ql=yl:=by omega
  have e5:rh=zh:=by omega
  have e6:rl=zl:=by omega
  subst e3 e4 e5 e6
  simp
end Go.Gv

namespace Go.Gv
structure SlI where
 n:Bool
 l:List Int
 deriving Inhabited
def slI(x:SlI):D:=slx x.n (x.l.map fun n=>[.int .i64 n])
def knD(k:Int×Int):List D:=[.int .i64 k.1,.int .i64 k.2]
structure Sec where
 name:List UInt8
 height:Int
 price:Int
 areaN:Bool
 area:List (Int×Int)
 convN:Bool
 conv:List (Int×Int)
 deriving Inhabited
def aS(s:Sec):List D:=[.str s.name,.int .i64 s.height,.int .i64 s.price,slx s.areaN (s.area.map knD),slx s.convN (s.conv.map knD)]
def bj{α:Type}(p:α->Bool)(xs:List α):Int:=match xs.findIdx? p with
 | some i=>i
 | none=>-1
theorem cC{α:Type}{p:α->Bool}{xs:List α}{i:Nat}(hj:∀(j:Nat) (h:j<xs.length),j<i->p xs[j]=false)(hi:i<xs.length)(h:p xs[i]=true):bj p xs=i:=by
 have:xs.findIdx? p=some i:=by
  rw[x0O]
  exact⟨hi,h,fun j hji=>by simp[hj j (by omega) hji]⟩
 simp[bj,this]
theorem cJ{α:Type}{p:α->Bool}{xs:List α}(hj:∀(j:Nat) (h:j<xs.length),p xs[j]=false):bj p xs=-1:=by
 have:xs.findIdx? p=none:=by
  rw[x1Q]
  intro x hx
  obtain⟨j,h,rfl⟩:=x0C.1 hx
  exact hj j h
 simp[bj,this]
theorem gb{α:Type}(p:α->Bool)(xs:List α):decide (0<=bj p xs)=xs.any p:=by
 unfold bj
 split
 ·rename_i i h
  rw[x0O]at h
  obtain⟨h1,h2,_⟩:=h
  have:xs.any p=true:=x0G.2 ⟨_,x0h h1,h2⟩
  simp[this]
 ·rename_i h
  rw[x1Q]at h
  have:xs.any p=false:=by rw[x0M];intro x hx;simp[h x hx]
  simp[this]
variable{C:CC}(hC:ay prog C)
include hC
theorem yG{b:Bool}{xs:List Int}{g:Nat}{cs:List D}(p:Int->Bool)(hs:xs.length<2^62)(hp:∀x∈xs,C g (.int .i64 x::cs) (.bool (p x)) []):C 35 [slx b (xs.map fun x=>[.int .i64 x]),.fn g cs] (.int .i64 (bj p xs)) []:=by
 refine ai hC (nf:=N35) rfl rfl ?_
 simp[N35]
 refine au Nat (fun i=>[(0,slx b (xs.map fun x=>[.int .i64 x])),(1,.fn g cs),(7,.int .i64 xs.length),(8,.int .i64 i)]) (fun i=>i<=xs.length/\∀(j:Nat) (h:j<xs.length),j<i->p xs[j]=false) (fun i=>xs.length-i) 0 (by simp) (by simp) ?_
 rintro i ⟨hi,hj⟩
 simp
 refine ac (fun h=>?_) (fun h=>?_)<;>simp[h]<;>simp at h
 ·have hw:IntKind.wrap .i64 ((i:Int)+1)=((i+1:Nat):Int):=wrap_i64 (by omega) (by omega)
  have hc:=hp _ (x0h h)
  simp[h,x1N]at hc ⊢
  refine aa hc (.inl rfl) ?_
  simp
  refine ac (fun h1=>?_) (fun h1=>?_)<;>simp[h1,hw]
  ·rw[cC hj h h1]
  ·refine⟨i+1,⟨by omega,fun j hl hjj=>?_⟩,by omega,rfl⟩
   rcases x0k.1 hjj with h2|rfl
   ·exact hj j hl h2
   ·exact h1
 ·rw[cJ (fun j hl=>hj j hl (by omega))]
theorem yB{b:Bool}{xs:List Int}{g:Nat}{cs:List D}(p:Int->Bool)(hs:xs.length<2^62)(hp:∀x∈xs,C g (.int .i64 x::cs) (.bool (p x)) []):C 11 [slx b (xs.map fun x=>[.int .i64 x]),.fn g cs] (.bool (xs.any p)) []:=by
 refine ai hC (nf:=N11) rfl rfl ?_
 simp[N11]
 refine aa (yG hC p hs hp) (.inl rfl) ?_
 simp[gb]
theorem rU{b:Bool}{xs:List Sec}{g:Nat}{cs:List D}(p:Sec->Bool)(hs:xs.length<2^62)(hp:∀x∈xs,C g (.agg (aS x)::cs) (.bool (p x)) []):C 52 [slx b (xs.map fun x=>aS x),.fn g cs] (.int .i64 (bj p xs)) []:=by
 refine ai hC (nf:=N52) rfl rfl ?_
 simp[N52]
 refine au Nat (fun i=>[(0,slx b (xs.map fun x=>aS x)),(1,.fn g cs),(7,.int .i64 xs.length),(8,.int .i64 i)]) (fun i=>i<=xs.length/\∀(j:Nat) (h:j<xs.length),j<i->p xs[j]=false) (fun i=>xs.length-i) 0 (by simp) (by simp) ?_
 rintro i ⟨hi,hj⟩
 simp
 refine ac (fun h=>?_) (fun h=>?_)<;>simp[h]<;>simp at h
 ·have hw:IntKind.wrap .i64 ((i:Int)+1)=((i+1:Nat):Int):=wrap_i64 (by omega) (by omega)
  have hc:=hp _ (x0h h)
  simp[h,aS]at hc ⊢
  refine aa hc (.inl rfl) ?_
  simp
  refine ac (fun h1=>?_) (fun h1=>?_)<;>simp[h1,hw]
  ·rw[cC hj h h1]
  ·refine⟨i+1,⟨by omega,fun j hl hjj=>?_⟩,by omega,rfl⟩
   rcases x0k.1 hjj with h2|rfl
   ·exact hj j hl h2
   ·exact h1
 ·rw[cJ (fun j hl=>hj j hl (by omega))]
theorem yD{b:Bool}{xs:List Sec}{g:Nat}{cs:List D}(p:Sec->Bool)(hs:xs.length<2^62)(hp:∀x∈xs,C g (.agg (aS x)::cs) (.bool (p x)) []):C 45 [slx b (xs.map fun x=>aS x),.fn g cs] (.bool (xs.any p)) []:=by
 refine ai hC (nf:=N45) rfl rfl ?_
 simp[N45]
 refine aa (rU hC p hs hp) (.inl rfl) ?_
 simp[gb]
end Go.Gv

namespace Go.Gv
def lc(t:List (Int×Int))(i:Nat):Bool:=fp t[i]!.1&&fp t[i]!.2&&(i==0||(t[i-1]!.1<t[i]!.1&&t[i-1]!.2<=t[i]!.2))
def ar(t:List (Int×Int)):Bool:=1<=t.length&&t.length<=100&&(List.range t.length).all (lc t)
variable{C:CC}(hC:ay prog C)
include hC
theorem eC(b:Bool)(t:List (Int×Int)):C 72 [slx b (t.map knD)] (.bool (ar t)) []:=by
 refine ai hC (nf:=N72) rfl rfl ?_
 simp[N72]
 refine ac (fun h=>?_) (fun h=>?_)<;>simp at h
 ·simp[ar,show t.length=0 by omega]
 simp[h]
 refine ac (fun h2=>?_) (fun h2=>?_)<;>simp at h2
 ·simp[ar,h,h2]
  omega
 simp
 refine au Nat (fun i=>[(0,slx b (t.map knD)),(13,slx b (t.map knD)),(14,.int .i64 t.length),(15,.int .i64 i)]) (fun i=>i<=t.length/\∀j<i,lc t j=true) (fun i=>t.length-i) 0 (by simp) (by simp) ?_
 rintro i ⟨hi,hj⟩
 simp
 refine ac (fun h3=>?_) (fun h3=>?_)<;>simp at h3
 ·have bad:lc t i=false->ar t=false:=fun hb=>by
   simp only[ar,x1f,x1F]
   exact .inr ⟨i,by simpa using h3,by simp[hb]⟩
  have e1:t[i]! = t[i]:=x0f t i h3
  have e2:t[i-1]! = t[i-1]:=x0f t (i-1) (by omega)
  simp only[lc,e1,e2]at bad
  have hw1:IntKind.wrap .i64 ((i:Int)+1)=((i+1:Nat):Int):=wrap_i64 (by omega) (by omega)
  have next:lc t i=true->∃s':Nat,(s'<=t.length/\∀j<s',lc t j=true)/\t.length-s'<t.length-i/\s'=i+1:=fun ho =>
   ⟨i+1,⟨by omega,fun j hjj=>by
    rcases x0k.1 hjj with h|rfl
    ·exact hj j h
    ·exact ho⟩,by omega,rfl⟩
  simp only[lc,e1,e2]at next
  simp[h3,knD]
  refine aa (yt hC _) (.inl rfl) ?_
  cases f1:fp t[i].1
  ·simp
   exact⟨ao (by decide +kernel),bad (by simp[f1])⟩
  simp
  refine aa (yt hC _) (.inl rfl) ?_
  cases f2:fp t[i].2
  ·simp
   exact⟨ao (by decide +kernel),bad (by simp[f2])⟩
  simp
  refine ac (fun h4=>?_) (fun h4=>?_)<;>simp at h4
  ·have hw:IntKind.wrap .i64 ((i:Int)-1)=((i-1:Nat):Int):=wrap_i64 (by omega) (by omega)
   have h5:i-1<t.length:=by omega
   simp[h4,hw,h5,knD]
   refine ac (fun h6=>?_) (fun h6=>?_)<;>simp[h6,hw,h5,knD]<;>simp at h6
   ·refine⟨ao (by decide +kernel),bad ?_⟩
    simp[f1,f2]
    omega
   ·refine⟨ao (by decide +kernel),ac (fun h7=>?_) (fun h7=>?_)⟩<;>simp[h7,hw1]<;>simp at h7
    ·refine bad ?_
     simp[f1,f2]
     omega
    ·obtain⟨s',g1,g2,rfl⟩:=next (by simp[f1,f2,h6,h7])
     exact⟨_,g1,g2,rfl⟩
  ·have hi0:i=0:=by omega
   subst hi0
   simp at hw1
   simp[hw1]
   refine⟨ao (by decide +kernel),?_⟩
   obtain⟨s',g1,g2,rfl⟩:=next (by simp[f1,f2])
   exact⟨_,g1,g2,rfl⟩
 ·have:i=t.length:=by omega
  subst this
  simp[ar,h,h2]
  exact⟨⟨by omega,by omega⟩,hj⟩
end Go.Gv

namespace Go.Gv
structure Lnk where
 name:List UInt8
 src:List UInt8
 dst:List UInt8
 kind:Int
 len:Int
 up:Int
 down:Int
 sect:List UInt8
 width:Int
 height:Int
 curveN:Bool
 curve:List (Int×Int)
 deriving Inhabited
def aA(l:Lnk):List D:=[.str l.name,.str l.src,.str l.dst,.int .i64 l.kind,.int .i64 l.len,.int .i64 l.up,.int .i64 l.down,.str l.sect,.int .i64 l.width,.int .i64 l.height,slx l.curveN (l.curve.map knD)]
structure Nod where
 name:List UInt8
 kind:Int
 x:Int
 y:Int
 invert:Int
 ground:Int
 shapeN:Bool
 shape:List (Int×Int)
 prot:Bool
 reserve:Int
 deriving Inhabited
def aO(n:Nod):List D:=[.str n.name,.int .i64 n.kind,.int .i64 n.x,.int .i64 n.y,.int .i64 n.invert,.int .i64 n.ground,slx n.shapeN (n.shape.map knD),.bool n.prot,.int .i64 n.reserve]
def bn(n:Int):Bool:=decide (-4194304<=n)&&decide (n<=4194304)
variable{C:CC}(hC:ay prog C)
include hC
theorem df(n a b:Int):C 172 [.int .i64 n,.int .i64 a,.int .i64 b] (.bool (decide (a<=n)&&decide (n<=b))) []:=by
 refine ai hC (nf:=N172) rfl rfl ?_
 simp[N172]
 refine ac (fun h=>?_) (fun h=>?_)<;>simp at h<;>simp[h]<;>omega
theorem yR(n:Int):C 183 [.int .i64 n] (.bool (!bn n)) []:=by
 have e:(!bn n)=(decide (n < -4194304)||decide (4194304<n)):=by
  rw[bn,x0z]
  simp only[x0t,x1f,x0K,x0E,x0c]
  omega
 rw[e]
 refine ai hC (nf:=N183) rfl rfl ?_
 simp[N183]
 refine ac (fun h=>?_) (fun h=>?_)<;>simp at h<;>simp[h]
 intro _;omega
theorem qE(xs:List Int)(hl:xs.length<2^62):C 173 [.sl (xs.map fun n=>[.int .i64 n])] (.bool (xs.all bn)) []:=by
 refine ai hC (nf:=N173) rfl rfl ?_
 simp[N173]
 have h:=yB hC (b:=false) (xs:=xs) (g:=183) (cs:=[]) (fun n=>!bn n) hl (fun n _=>yR hC n)
 rw[jQ]at h
 refine aa h (.inl rfl) ?_
 simp
 rw[x0z];simp
end Go.Gv

namespace Go.Gv
def bq(nm:List UInt8)(n:Nod):Bool:=n.name==nm
def jj(nm:List UInt8)(l:Lnk):Bool:=l.name==nm
variable{C:CC}(hC:ay prog C)
include hC
theorem nP{b:Bool}{xs:List Nod}{g:Nat}{cs:List D}(p:Nod->Bool)(hs:xs.length<2^62)(hp:∀x∈xs,C g (.agg (aO x)::cs) (.bool (p x)) []):C 175 [slx b (xs.map fun x=>aO x),.fn g cs] (.int .i64 (bj p xs)) []:=by
 refine ai hC (nf:=N175) rfl rfl ?_
 simp[N175]
 refine au Nat (fun i=>[(0,slx b (xs.map fun x=>aO x)),(1,.fn g cs),(7,.int .i64 xs.length),(8,.int .i64 i)]) (fun i=>i<=xs.length/\∀(j:Nat) (h:j<xs.length),j<i->p xs[j]=false) (fun i=>xs.length-i) 0 (by simp) (by simp) ?_
 rintro i ⟨hi,hj⟩
 simp
 refine ac (fun h=>?_) (fun h=>?_)<;>simp[h]<;>simp at h
 ·have hw:IntKind.wrap .i64 ((i:Int)+1)=((i+1:Nat):Int):=wrap_i64 (by omega) (by omega)
  have hc:=hp _ (x0h h)
  simp[h,aO]at hc ⊢
  refine aa hc (.inl rfl) ?_
  simp
  refine ac (fun h1=>?_) (fun h1=>?_)<;>simp[h1,hw]
  ·rw[cC hj h h1]
  ·refine⟨i+1,⟨by omega,fun j hl hjj=>?_⟩,by omega,rfl⟩
   rcases x0k.1 hjj with h2|rfl
   ·exact hj j hl h2
   ·exact h1
 ·rw[cJ (fun j hl=>hj j hl (by omega))]
theorem rT{b:Bool}{xs:List Lnk}{g:Nat}{cs:List D}(p:Lnk->Bool)(hs:xs.length<2^62)(hp:∀x∈xs,C g (.agg (aA x)::cs) (.bool (p x)) []):C 181 [slx b (xs.map fun x=>aA x),.fn g cs] (.int .i64 (bj p xs)) []:=by
 refine ai hC (nf:=N181) rfl rfl ?_
 simp[N181]
 refine au Nat (fun i=>[(0,slx b (xs.map fun x=>aA x)),(1,.fn g cs),(7,.int .i64 xs.length),(8,.int .i64 i)]) (fun i=>i<=xs.length/\∀(j:Nat) (h:j<xs.length),j<i->p xs[j]=false) (fun i=>xs.length-i) 0 (by simp) (by simp) ?_
 rintro i ⟨hi,hj⟩
 simp
 refine ac (fun h=>?_) (fun h=>?_)<;>simp[h]<;>simp at h
 ·have hw:IntKind.wrap .i64 ((i:Int)+1)=((i+1:Nat):Int):=wrap_i64 (by omega) (by omega)
  have hc:=hp _ (x0h h)
  simp[h,aA]at hc ⊢
  refine aa hc (.inl rfl) ?_
  simp
  refine ac (fun h1=>?_) (fun h1=>?_)<;>simp[h1,hw]
  ·rw[cC hj h h1]
  ·refine⟨i+1,⟨by omega,fun j hl hjj=>?_⟩,by omega,rfl⟩
   rcases x0k.1 hjj with h2|rfl
   ·exact hj j hl h2
   ·exact h1
 ·rw[cJ (fun j hl=>hj j hl (by omega))]
theorem BM{b:Bool}{xs:List (Int×Int)}{g:Nat}{cs:List D}(p:(Int×Int)->Bool)(hs:xs.length<2^62)(hp:∀x∈xs,C g (.agg (knD x)::cs) (.bool (p x)) []):C 185 [slx b (xs.map fun x=>knD x),.fn g cs] (.int .i64 (bj p xs)) []:=by
 refine ai hC (nf:=N185) rfl rfl ?_
 simp[N185]
 refine au Nat (fun i=>[(0,slx b (xs.map fun x=>knD x)),(1,.fn g cs),(7,.int .i64 xs.length),(8,.int .i64 i)]) (fun i=>i<=xs.length/\∀(j:Nat) (h:j<xs.length),j<i->p xs[j]=false) (fun i=>xs.length-i) 0 (by simp) (by simp) ?_
 rintro i ⟨hi,hj⟩
 simp
 refine ac (fun h=>?_) (fun h=>?_)<;>simp[h]<;>simp at h
 ·have hw:IntKind.wrap .i64 ((i:Int)+1)=((i+1:Nat):Int):=wrap_i64 (by omega) (by omega)
  have hc:=hp _ (x0h h)
  simp[h,knD]at hc ⊢
  refine aa hc (.inl rfl) ?_
  simp
  refine ac (fun h1=>?_) (fun h1=>?_)<;>simp[h1,hw]
  ·rw[cC hj h h1]
  ·refine⟨i+1,⟨by omega,fun j hl hjj=>?_⟩,by omega,rfl⟩
   rcases x0k.1 hjj with h2|rfl
   ·exact hj j hl h2
   ·exact h1
 ·rw[cJ (fun j hl=>hj j hl (by omega))]
theorem BK{b:Bool}{xs:List (Int×Int)}{g:Nat}{cs:List D}(p:(Int×Int)->Bool)(hs:xs.length<2^62)(hp:∀x∈xs,C g (.agg (knD x)::cs) (.bool (p x)) []):C 179 [slx b (xs.map fun x=>knD x),.fn g cs] (.bool (xs.any p)) []:=by
 refine ai hC (nf:=N179) rfl rfl ?_
 simp[N179]
 refine aa (BM hC p hs hp) (.inl rfl) ?_
 simp[gb]
theorem nZ(b1 b2:Bool)(ns:List Nod)(ls:List Lnk)(nm:List UInt8)(hn:ns.length<2^62):C 169 [.agg [slx b1 (ns.map aO),slx b2 (ls.map aA)],.str nm] (.int .i64 (bj (bq nm) ns)) []:=by
 have h1:∀x∈ns,C 176 (.agg (aO x)::[.ptr [.str nm]]) (.bool (bq nm x)) []:=fun x _=>by
  refine ai hC (nf:=N176) rfl rfl ?_
  simp[N176,aO,bq]
  rw[x0z];simp
 refine ai hC (nf:=N169) rfl rfl ?_
 simp[N169]
 refine aa (nP hC (b:=b1) _ hn h1) (.inl rfl) ?_
 simp
theorem Fi(b1 b2:Bool)(ns:List Nod)(ls:List Lnk)(nm:List UInt8)(hn:ls.length<2^62):C 171 [.agg [slx b1 (ns.map aO),slx b2 (ls.map aA)],.str nm] (.int .i64 (bj (jj nm) ls)) []:=by
 have h1:∀x∈ls,C 182 (.agg (aA x)::[.ptr [.str nm]]) (.bool (jj nm x)) []:=fun x _=>by
  refine ai hC (nf:=N182) rfl rfl ?_
  simp[N182,aA,jj]
  rw[x0z];simp
 refine ai hC (nf:=N171) rfl rfl ?_
 simp[N171]
 refine aa (rT hC (b:=b2) _ hn h1) (.inl rfl) ?_
 simp
theorem ES(b b':Bool)(xs ys:List (Int×Int))(hx:xs.length<2^62)(hy:ys.length<2^62):C 184 [slx b (xs.map knD),slx b' (ys.map knD)] (.bool (decide (xs=ys))) []:=by
 obtain⟨r,hr⟩:∃r,r=decide (xs=ys):=⟨_,rfl⟩
 rw[<- hr]
 refine ai hC (nf:=N184) rfl rfl ?_
 simp[N184]
 refine ac (fun h=>?_) (fun h=>?_)<;>simp at h<;>simp[h]
 ·rw[hr,decide_eq_false]
  intro e
  exact h (by rw[e])
 have h':xs.length=ys.length:=by omega
 refine au Nat (fun i=>[(0,slx b (xs.map knD)),(1,slx b' (ys.map knD)),(12,.int .i64 xs.length),(13,.int .i64 i)])
  (fun i=>i<=xs.length/\∀(k:Nat) (h1:k<xs.length) (h2:k<ys.length),k<i->xs[k]=ys[k]) (fun i=>xs.length-i) 0 (by simp) (by simp[h']) ?_
 rintro i ⟨hi,hok⟩
 simp
 refine ac (fun h1=>?_) (fun h1=>?_)<;>simp at h1<;>simp[h1]
 ·have hw:IntKind.wrap .i64 ((i:Int)+1)=((i+1:Nat):Int):=wrap_i64 (by omega) (by omega)
  have hy1:i<ys.length:=by omega
  simp[h1,hy1,knD]
  refine⟨ao (by decide +kernel),?_⟩
  by_cases h2:xs[i]=ys[i]
  ·simp[h2,hw]
   refine⟨i+1,⟨by omega,fun k k1 k2 hk=>?_⟩,by omega,rfl⟩
   rcases x0k.1 hk with h5|rfl
   ·exact hok k k1 k2 h5
   ·exact h2
  ·have h3:¬(xs[i].1=ys[i].1/\xs[i].2=ys[i].2):=fun e=>h2 (Prod.ext e.1 e.2)
   refine ac (fun h4=>?_) (fun h4=>?_)<;>simp at h4<;>simp[h4]
   ·rw[hr,decide_eq_false]
    intro e
    exact h2 (by simp[e])
   ·exact absurd h4 h3
 ·rw[hr,decide_eq_true]
  exact List.ext_getElem h' fun k k1 k2=>hok k k1 k2 (by omega)
end Go.Gv

namespace Go.Gv
theorem bu{t:List (Int×Int)}(h:ar t=true):1<=t.length/\t.length<=100:=by
 simp only[ar,x0a,x0c]at h
 exact h.1
theorem dF{t:List (Int×Int)}(h:ar t=true){i:Nat}(hi:i<t.length):fp t[i].1=true/\fp t[i].2=true/\∀j,(hj:j+1=i)->t[j].1<t[i].1/\t[j].2<=t[i].2:=by
 simp only[ar,x0a,x0g,x1D]at h
 have:=h.2 i hi
 simp only[lc,x0f t i hi,x0a,x0E,x0q,x0c]at this
 refine⟨this.1.1,this.1.2,fun j hj=>?_⟩
 subst hj
 have h2:=this.2
 rw[Nat.add_sub_cancel,x0f t j (by omega)]at h2
 rcases h2 with h2|h2
 ·omega
 ·exact h2
theorem ir{t:List (Int×Int)}(h:ar t=true):∀(j i:Nat) (hi:i<t.length) (hj:j<i),t[j].1<t[i].1:=by
 intro j i
 induction i with
 | zero=>intro _ hj;omega
 | succ i ih =>
  intro hi hj
  have h1:=((dF h hi).2.2 i rfl).1
  by_cases e:j=i
  ·subst e;exact h1
  ·have:=ih (by omega) (by omega)
   omega
variable{C:CC}(hC:ay prog C)
include hC
theorem jD(k:Int×Int)(x:Int):C 97 [.agg (knD k),.int .i64 x] (.int .i64 (if k.1<x then -1 else if x<k.1 then 1 else 0)) []:=by
 refine ai hC (nf:=N97) rfl rfl ?_
 simp[N97,knD]
 refine ac (fun c=>?_) (fun c=>?_)
 ·simp at c
  simp[c]
 ·simp at c
  have c1:¬k.1<x:=by omega
  simp[c1]
  refine ac (fun c2=>?_) (fun c2=>?_)
  ·simp at c2
   simp[c2,c]
  ·simp at c2
   have c3:¬x<k.1:=by omega
   simp[c3,c]
theorem Ah(b:Bool)(t:List (Int×Int))(x:Int)(h:ar t=true)(n:Nat)(hn:n+1=t.length)(hx:t[n].1=x):C 96 [slx b (t.map knD),.int .i64 x,.fn 97 []] (.tup [.int .i64 n,.bool true]) []:=by
 obtain⟨l1,l2⟩:=bu h
 refine ai hC (nf:=N96) rfl rfl ?_
 simp[N96]
 refine au (Nat×Nat) (fun s=>[(0,slx b (t.map knD)),(1,.int .i64 x),(2,.fn 97 []),(8,.int .i64 t.length),(9,.int .i64 s.1),(10,.int .i64 s.2)]) (fun s=>s.1<=n/\n<=s.2/\s.2<=n+1) (fun s=>s.2-s.1) (0,t.length) (by simp;omega) (by simp) ?_
 rintro⟨i,j⟩ ⟨h1,h2,h3⟩
 simp only at h1 h2 h3
 simp
 refine ac (fun c=>?_) (fun c=>?_)<;>simp[c]<;>simp at c
 ·obtain⟨m,hm⟩:∃m,m=(i+j)/2:=⟨_,rfl⟩
  have e1:IntKind.wrap .i64 ((i:Int)+(j:Int))=((i+j:Nat):Int):=wrap_i64 (by omega) (by omega)
  obtain⟨s,hs⟩:∃s,s=i+j:=⟨_,rfl⟩
  rw[<- hs]at e1 hm
  have e2:Int.fdiv (s:Int) (2^min 1 IntKind.u64.bits)=(m:Int):=by rw[hm];exact mW s 1
  have e3:IntKind.wrap .i64 (m:Int)=(m:Int):=wrap_i64 rfl (by omega)
  have e4:IntKind.wrap .i64 ((m:Int)+1)=((m+1:Nat):Int):=wrap_i64 (by omega) (by omega)
  have hml:m<t.length:=by omega
  simp[e1,bA s (by omega),e2,e3,hml]
  have hc:=jD hC t[m] x
  simp[knD]at hc ⊢
  refine aa hc (.inl rfl) ?_
  by_cases hmn:m<n
  ·have:=ir h m n (by omega) hmn
   have hlt:t[m].1<x:=by omega
   simp[hlt,e4]
   exact⟨m+1,j,⟨by omega,h2,h3⟩,by omega,by omega,by omega⟩
  ·have:m=n:=by omega
   subst this
   simp[hx]
   exact⟨i,m,⟨by omega,by omega,by omega⟩,by omega,by omega,by omega⟩
 ·have:i=n:=by omega
  subst this
  have hil:i<t.length:=by omega
  simp[hil]
  have hc:=jD hC t[i] x
  simp[knD,hil]at hc ⊢
  refine aa hc (.inl rfl) ?_
  simp[hx]
theorem Cg(b:Bool)(t:List (Int×Int))(x:Int)(h:ar t=true)(n:Nat)(hn:n+1=t.length)(hx:t[n].1=x):C 90 [slx b (t.map knD),.int .i64 x] (.tup [.int .i64 t[n].2,.int .i64 0,.int .i64 1]) []:=by
 refine ai hC (nf:=N90) rfl rfl ?_
 have hnl:n<t.length:=by omega
 simp[N90]
 refine aa (Ah hC b t x h n hn hx) (.inl rfl) ?_
 simp[knD,hnl]
theorem xu(b:Bool)(t:List (Int×Int))(x:Int)(h:ar t=true)(n:Nat)(hn:n+1=t.length)(hx:t[n].1=x):C 73 [slx b (t.map knD),.int .i64 x] (.tup [.int .i64 t[n].2,.int .i64 0]) []:=by
 refine ai hC (nf:=N73) rfl rfl ?_
 simp[N73]
 refine aa (eC hC b t) (.inl rfl) ?_
 simp[h]
 refine aa (Cg hC b t x h n hn hx) (.inl rfl) ?_
 simp
end Go.Gv

namespace Go.Gv
def db(t:List (Int×Int)):Int×Int:=t[t.length-1]!
def bH(t:List (Int×Int))(hgt most:Int):Bool:=ar t&&(t[0]!.1==0&&t[0]!.2==0)&&(db t).1==hgt&&(db t).2<=most
def aq(s:Sec):Bool:=bD s.name&&1<=s.height&&s.height<=32768&&0<=s.price&&s.price<=1073741824&&bH s.area s.height 1073741824&&bH s.conv s.height 1099511627776
def bE(n l:Int):Bool:=0<=n&&n<=4194304&&1<=l&&l<=16777216
def kL(s:Sec)(fall len:Int):Nat:=dw ((db s.conv).2.toNat*(db s.conv).2.toNat*fall.toNat/len.toNat)
def f8(s:Sec)(fall len:Int):Int×Int:=if aq s then(if bE fall len then(if 1099511627776<kL s fall len then(0,5) else(kL s fall len,0)) else(0,2)) else(0,1)
theorem cd{t:List (Int×Int)}{n:Nat}(hn:n+1=t.length):db t=t[n]:=by
 unfold db
 rw[show t.length-1=n by omega,x0f t n (by omega)]
variable{C:CC}(hC:ay prog C)
include hC
theorem uC(b:Bool)(t:List (Int×Int))(hgt most:Int):C 59 [slx b (t.map knD),.int .i64 hgt,.int .i64 most] (.bool (bH t hgt most)) []:=by
 refine ai hC (nf:=N59) rfl rfl ?_
 simp[N59]
 refine aa (eC hC b t) (.inl rfl) ?_
 cases hv:ar t
 ·simp[bH,hv]
 obtain⟨l1,l2⟩:=bu hv
 obtain⟨n,hn⟩:∃n,n+1=t.length:=⟨t.length-1,by omega⟩
 have e1:IntKind.wrap .i64 ((t.length:Int)-1)=(n:Int):=wrap_i64 (by omega) (by omega)
 have hnl:n<t.length:=by omega
 have h0:0<t.length:=by omega
 have e0:t[0]! = t[0]:=x0f t 0 h0
 simp[e1,hnl,h0,knD]
 rw[bH,cd hn,e0,hv]
 have ez:(decide (t[0].fst=0)&&decide (t[0].snd=0))=(t[0].1==0&&t[0].2==0):=by rw[x0z];simp
 rw[<- ez]
 cases hz:(decide (t[0].fst=0)&&decide (t[0].snd=0))
 ·simp
 simp
 refine ac (fun c=>?_) (fun c=>?_)
 ·simp at c
  simp[c]
 ·simp at c
  simp[c]
theorem rb(s:Sec):C 51 [.agg (aS s)] (.bool (aq s)) []:=by
 refine ai hC (nf:=N51) rfl rfl ?_
 simp[N51,aS]
 refine aa (gP hC s.name) (.inl rfl) ?_
 cases h1:bD s.name
 ·simp[aq,h1]
 simp
 refine ac (fun c1=>?_) (fun c1=>?_)<;>simp[c1]<;>simp at c1
 ·refine ac (fun c2=>?_) (fun c2=>?_)<;>simp[c2]<;>simp at c2
  ·refine ac (fun c3=>?_) (fun c3=>?_)<;>simp[c3]<;>simp at c3
   ·refine ac (fun c4=>?_) (fun c4=>?_)<;>simp[c4]<;>simp at c4
    ·refine aa (uC hC _ _ _ _) (.inl rfl) ?_
     cases h5:bH s.area s.height 1073741824
     ·simp[aq,h5]
     simp
     refine aa (uC hC _ _ _ _) (.inl rfl) ?_
     simp[aq,h1,c1,c2,c3,c4,h5]
    ·simp[aq];omega
   ·simp[aq];omega
  ·simp[aq];omega
 ·simp[aq];omega
end Go.Gv

namespace Go.Gv
def aF(n a b:Int):Bool:=decide (a<=n)&&decide (n<=b)
def js(l:Lnk):Lnk where
 name:=l.name
 src:=l.src
 dst:=l.dst
 kind:=l.kind
 len:=if l.kind=1 then l.len else 0
 up:=l.up
 down:=if l.kind=1\/l.kind=4 then l.down else 0
 sect:=if l.kind=1 then l.sect else []
 width:=if l.kind=2\/l.kind=3 then l.width else 0
 height:=if l.kind=3 then l.height else 0
 curveN:=if l.kind=4 then l.curveN else true
 curve:=if l.kind=4 then l.curve else []
def gi(a b:Lnk):Bool:=decide (a.name=b.name)&&decide (a.src=b.src)&&decide (a.dst=b.dst)&&decide (a.kind=b.kind)&&decide (a.len=b.len)&&decide (a.up=b.up)&&decide (a.down=b.down)&&decide (a.sect=b.sect)&&decide (a.width=b.width)&&decide (a.height=b.height)&&decide (a.curve=b.curve)
def gO(k:Int×Int):Bool:=aF k.1 0 4194304&&aF k.2 0 1099511627776
def ji(l:Lnk):Bool :=
 if l.kind=1 then aF l.len 1 16777216&&bn l.down&&bD l.sect
 else if l.kind=2 then aF l.width 1 1048576
 else if l.kind=3 then aF l.width 1 32768&&aF l.height 1 32768
 else if l.kind=4 then bn l.down&&decide (l.down<l.up)&&ar l.curve&&!(l.curve.any fun k=>!gO k)
 else false
def cr(l:Lnk):Bool:=bD l.name&&bD l.src&&bD l.dst&&!decide (l.src=l.dst)&&bn l.up&&gi l (js l)&&ji l
variable{C:CC}(hC:ay prog C)
include hC
theorem Ci(l:Lnk):C 178 [.agg (aA l)] (.agg (aA (js l))) []:=by
 have hs:slx l.curveN (l.curve.map knD)=.nils\/slx l.curveN (l.curve.map knD)=.sl (l.curve.map knD):=by
  unfold slx;split
  ·exact .inl rfl
  ·exact .inr rfl
 have e0:D.nils=slx true []:=rfl
 refine ai hC (nf:=N178) rfl rfl ?_
 simp[N178,aA,js]
 refine ac (fun h=>?_) (fun h=>?_)<;>simp at h<;>simp[h]
 ·exact⟨ao (by decide +kernel),e0⟩
 refine ac (fun h2=>?_) (fun h2=>?_)<;>simp at h2<;>simp[h,h2]
 ·exact e0
 refine ac (fun h3=>?_) (fun h3=>?_)<;>simp at h3<;>simp[h,h2,h3]
 ·exact⟨ao (by decide +kernel),e0⟩
 refine ac (fun h4=>?_) (fun h4=>?_)<;>simp at h4<;>simp[h,h2,h3,h4]
 ·rcases hs with hs|hs<;>rw[hs]<;>simp
  ·refine⟨ao (by decide +kernel),?_⟩
   simp[h4,hs]
  ·refine⟨ao (by decide +kernel),?_⟩
   simp[h4,hs]
 ·exact e0
set_option maxRecDepth 8000 in
set_option maxHeartbeats 2000000 in
theorem CD(a b:Lnk)(ha:a.curve.length<2^62)(hb:b.curve.length<2^62):C 177 [.agg (aA a),.agg (aA b)] (.bool (gi a b)) []:=by
 have he:=ES hC a.curveN b.curveN a.curve b.curve ha hb
 refine ai hC (nf:=N177) rfl rfl ?_
 simp[N177,aA]
 refine ac (fun h0=>?_) (fun h0=>?_)<;>simp at h0<;>simp[h0]
 rotate_left
 ·simp[gi,h0]
 refine ac (fun h1=>?_) (fun h1=>?_)<;>simp at h1<;>simp[h1]
 rotate_left
 ·simp[gi,h1]
 refine ac (fun h2=>?_) (fun h2=>?_)<;>simp at h2<;>simp[h2]
 rotate_left
 ·simp[gi,h2]
 refine ac (fun h3=>?_) (fun h3=>?_)<;>simp at h3<;>simp[h3]
 rotate_left
 ·simp[gi,h3]
 refine ac (fun h4=>?_) (fun h4=>?_)<;>simp at h4<;>simp[h4]
 rotate_left
 ·simp[gi,h4]
 refine ac (fun h5=>?_) (fun h5=>?_)<;>simp at h5<;>simp[h5]
 rotate_left
 ·simp[gi,h5]
 refine ac (fun h6=>?_) (fun h6=>?_)<;>simp at h6<;>simp[h6]
 rotate_left
 ·simp[gi,h6]
 refine ac (fun h7=>?_) (fun h7=>?_)<;>simp at h7<;>simp[h7]
 rotate_left
 ·simp[gi,h7]
 refine ac (fun h8=>?_) (fun h8=>?_)<;>simp at h8<;>simp[h8]
 rotate_left
 ·simp[gi,h8]
 refine ac (fun h9=>?_) (fun h9=>?_)<;>simp at h9<;>simp[h9]
 rotate_left
 ·simp[gi,h9]
 refine aa he (.inl rfl) ?_
 simp[gi,h0,h1,h2,h3,h4,h5,h6,h7,h8,h9]
theorem wG(k:Int×Int):C 180 [.agg (knD k)] (.bool (!gO k)) []:=by
 refine ai hC (nf:=N180) rfl rfl ?_
 simp[N180,knD]
 refine aa (df hC k.1 0 4194304) (.inl rfl) ?_
 have e1:(decide (0<=k.1)&&decide (k.1<=4194304))=aF k.1 0 4194304:=rfl
 rw[e1]
 cases h:aF k.1 0 4194304
 ·simp[gO,h]
 simp
 refine aa (df hC k.2 0 1099511627776) (.inl rfl) ?_
 have e2:(decide (0<=k.2)&&decide (k.2<=1099511627776))=aF k.2 0 1099511627776:=rfl
 rw[e2]
 simp[gO,h]
theorem yI(l:Lnk)(hc:l.curve.length<2^62):C 170 [.agg (aA l)] (.bool (cr l)) []:=by
 have hp:(js l).curve.length<2^62:=by
  simp only[js];split
  ·exact hc
  ·simp
 have k1:=gP hC l.name
 have k2:=gP hC l.src
 have k3:=gP hC l.dst
 have k4:=qE hC [l.up] (by simp)
 have k5:=Ci hC l
 have k6:=CD hC l (js l) hc hp
 obtain⟨q,hq⟩:∃q,q=gi l (js l):=⟨_,rfl⟩
 rw[<- hq]at k6
 simp only[aA]at k5 k6
 have kf:∀b,ji l=b->(b=false\/(bD l.name=true/\bD l.src=true/\bD l.dst=true/\¬l.src=l.dst/\bn l.up=true/\q=true))->cr l=b:=fun b h1 h2=>by
  rcases h2 with rfl|⟨a1,a2,a3,a4,a5,a6⟩
  ·simp[cr,h1]
  ·simp[cr,h1,a1,a2,a3,a4,a5,<- hq,a6]
 refine ai hC (nf:=N170) rfl rfl ?_
 simp[N170,aA]
 refine aa k1 (.inl rfl) ?_
 cases h1:bD l.name
 ·simp
  refine⟨ao (by decide +kernel),?_⟩
  simp[cr,h1]
 simp
 refine aa k2 (.inl rfl) ?_
 cases h2:bD l.src
 ·simp
  refine⟨ao (by decide +kernel),?_⟩
  simp[cr,h2]
 simp
 refine aa k3 (.inl rfl) ?_
 cases h3:bD l.dst
 ·simp
  refine⟨ao (by decide +kernel),?_⟩
  simp[cr,h3]
 simp
 refine ac (fun h4=>?_) (fun h4=>?_)<;>simp at h4<;>simp[h4]
 ·refine⟨ao (by decide +kernel),?_⟩
  simp[cr,h4]
 refine aa k4 (.inl rfl) ?_
 cases h5:bn l.up
 ·simp[h5]
  refine⟨ao (by decide +kernel),?_⟩
  simp[cr,h5]
 simp[h5]
 refine aa k5 (.inr rfl) ?_
 simp
 refine aa k6 (.inl rfl) ?_
 cases h6:q
 ·simp
  refine⟨ao (by decide +kernel),?_⟩
  simp[cr,<- hq,h6]
 simp
 refine⟨ao (by decide +kernel),?_⟩
 have hk:cr l=ji l:=kf _ rfl (.inr ⟨h1,h2,h3,h4,h5,h6⟩)
 rw[hk]
 obtain⟨r,hr⟩:∃r,r=ji l:=⟨_,rfl⟩
 rw[<- hr]
 unfold ji at hr
 clear k1 k2 k3 k4 k5 k6 hk kf
 have lh:∀n a b:Int,(decide (a<=n)&&decide (n<=b))=aF n a b:=fun _ _ _=>rfl
 have kd:=qE hC [l.down] (by simp)
 refine ac (fun h7=>?_) (fun h7=>?_)<;>simp at h7<;>simp[h7]
 ·rw[if_pos h7]at hr
  refine aa (df hC l.len 1 16777216) (.inl rfl) ?_
  rw[lh]
  cases a1:aF l.len 1 16777216
  ·simp[hr,a1]
  simp
  refine aa kd (.inl rfl) ?_
  cases a2:bn l.down
  ·simp[a2,hr]
  simp[a2]
  refine aa (gP hC l.sect) (.inl rfl) ?_
  simp[hr,a1,a2]
 rw[if_neg h7]at hr
 refine ac (fun h8=>?_) (fun h8=>?_)<;>simp at h8<;>simp[h8]
 ·rw[if_pos h8]at hr
  refine aa (df hC l.width 1 1048576) (.inl rfl) ?_
  rw[lh]
  simp[hr]
 rw[if_neg h8]at hr
 refine ac (fun h9=>?_) (fun h9=>?_)<;>simp at h9<;>simp[h9]
 ·rw[if_pos h9]at hr
  refine aa (df hC l.width 1 32768) (.inl rfl) ?_
  rw[lh]
  cases a1:aF l.width 1 32768
  ·simp[hr,a1]
  simp
  refine aa (df hC l.height 1 32768) (.inl rfl) ?_
  rw[lh]
  simp[hr,a1]
 rw[if_neg h9]at hr
 refine ac (fun h10=>?_) (fun h10=>?_)<;>simp at h10<;>simp[h10]
 ·rw[if_pos h10]at hr
  refine aa kd (.inl rfl) ?_
  cases a2:bn l.down
  ·simp[a2,hr]
  simp[a2]
  refine ac (fun h11=>?_) (fun h11=>?_)<;>simp at h11<;>simp[h11]
  ·refine aa (eC hC l.curveN l.curve) (.inl rfl) ?_
   cases a3:ar l.curve
   ·simp[hr,a3]
   simp
   refine aa (BK hC (b:=l.curveN) (xs:=l.curve) (g:=180) (cs:=[]) (fun k=>!gO k) hc (fun k _=>wG hC k)) (.inl rfl) ?_
   simp[hr,a2,h11,a3]
  ·have:¬l.down<l.up:=by omega
   simp[hr,this]
 ·rw[if_neg h10]at hr
  simp[hr]
end Go.Gv

namespace Go.Gv
def ly(n:Nod):Bool:=!(decide (n.ground<=n.invert))&&bH n.shape (n.ground-n.invert) 1125899906842624&&!(decide (n.kind=1)&&n.prot)&&(if n.prot then aF n.reserve 0 (db n.shape).2 else decide (n.reserve=0))
def u5(n:Nod):Bool:=decide (n.invert<=n.ground)&&decide (n.shape.length=0)&&!n.prot&&decide (n.reserve=0)
def fF(n:Nod):Bool:=bD n.name&&aF n.x (-16777216) 16777216&&aF n.y (-16777216) 16777216&&bn n.invert&&bn n.ground&&(if n.kind=1\/n.kind=2 then ly n else if n.kind=3 then u5 n else false)
variable{C:CC}(hC:ay prog C)
include hC
theorem sR(b:Bool)(t:List (Int×Int))(hgt:Int):C 174 [slx b (t.map knD),.int .i64 hgt] (.bool (bH t hgt 1125899906842624)) []:=by
 refine ai hC (nf:=N174) rfl rfl ?_
 simp[N174]
 refine aa (eC hC b t) (.inl rfl) ?_
 cases hv:ar t
 ·simp[bH,hv]
 obtain⟨l1,l2⟩:=bu hv
 obtain⟨n,hn⟩:∃n,n+1=t.length:=⟨t.length-1,by omega⟩
 have e1:IntKind.wrap .i64 ((t.length:Int)-1)=(n:Int):=wrap_i64 (by omega) (by omega)
 have hnl:n<t.length:=by omega
 have h0:0<t.length:=by omega
 have e0:t[0]! = t[0]:=x0f t 0 h0
 simp[e1,hnl,h0,knD]
 rw[bH,cd hn,e0,hv]
 have ez:(decide (t[0].fst=0)&&decide (t[0].snd=0))=(t[0].1==0&&t[0].2==0):=by rw[x0z];simp
 rw[<- ez]
 cases hz:(decide (t[0].fst=0)&&decide (t[0].snd=0))
 ·simp
 simp
 refine ac (fun c=>?_) (fun c=>?_)
 ·simp at c
  simp[c]
 ·simp at c
  simp[c]
theorem Cb(n:Nod):C 168 [.agg (aO n)] (.bool (fF n)) []:=by
 have lh:∀n a b:Int,(decide (a<=n)&&decide (n<=b))=aF n a b:=fun _ _ _=>rfl
 have k1:=gP hC n.name
 have k2:=df hC n.x (-16777216) 16777216
 have k3:=df hC n.y (-16777216) 16777216
 have k4:=qE hC [n.invert,n.ground] (by simp)
 rw[lh]at k2 k3
 obtain⟨q,hq⟩:∃q,q=fF n:=⟨_,rfl⟩
 rw[<- hq]
 unfold fF at hq
 refine ai hC (nf:=N168) rfl rfl ?_
 simp[N168,aO]
 refine aa k1 (.inl rfl) ?_
 cases h1:bD n.name
 ·simp[hq,h1]
 simp
 refine aa k2 (.inl rfl) ?_
 cases h2:aF n.x (-16777216) 16777216
 ·simp[hq,h2]
 simp
 refine aa k3 (.inl rfl) ?_
 cases h3:aF n.y (-16777216) 16777216
 ·simp[hq,h3]
 simp
 refine aa k4 (.inl rfl) ?_
 cases h4:bn n.invert
 ·simp[hq,h4]
 cases h5:bn n.ground
 ·simp[hq,h4,h5]
 simp[h4,h5]
 rw[h1,h2,h3,h4,h5]at hq
 simp only[x0T]at hq
 have b1:-4194304<=n.invert/\n.invert<=4194304:=by simpa[bn]using h4
 have b2:-4194304<=n.ground/\n.ground<=4194304:=by simpa[bn]using h5
 have e1:IntKind.wrap .i64 (n.ground-n.invert)=n.ground-n.invert:=wrap_i64 rfl (by omega)
 refine ac (fun hk1=>?_) (fun hk1=>?_)<;>simp at hk1<;>simp[hk1]
 ·rw[if_pos (by omega),ly]at hq
  refine ac (fun c1=>?_) (fun c1=>?_)<;>simp at c1<;>simp[c1]
  ·simp[hq,c1]
  have c1':¬n.ground<=n.invert:=by omega
  simp[e1]
  refine aa (sR hC n.shapeN n.shape (n.ground-n.invert)) (.inl rfl) ?_
  cases c2:bH n.shape (n.ground-n.invert) 1125899906842624
  ·simp[hq,c2]
  simp[hk1]
  cases c3:n.prot
  ·simp[hq,c1',c2,c3]
  ·simp[hq,c3,hk1]
 refine ac (fun hk2=>?_) (fun hk2=>?_)<;>simp at hk2<;>simp[hk2,hk1]
 ·rw[if_pos (by omega),ly]at hq
  refine ac (fun c1=>?_) (fun c1=>?_)<;>simp at c1<;>simp[c1]
  ·simp[hq,c1]
  have c1':¬n.ground<=n.invert:=by omega
  simp[e1]
  refine aa (sR hC n.shapeN n.shape (n.ground-n.invert)) (.inl rfl) ?_
  cases c2:bH n.shape (n.ground-n.invert) 1125899906842624
  ·simp[hq,c2]
  simp[hk2]
  cases c3:n.prot
  ·simp[hq,c1',c2,c3]
  have hv:ar n.shape=true:=by
   simp only[bH,x0a]at c2
   exact c2.1.1.1
  obtain⟨l1,l2⟩:=bu hv
  obtain⟨m,hm⟩:∃m,m+1=n.shape.length:=⟨n.shape.length-1,by omega⟩
  have e2:IntKind.wrap .i64 ((n.shape.length:Int)-1)=(m:Int):=wrap_i64 (by omega) (by omega)
  have hml:m<n.shape.length:=by omega
  simp[e2,hml,knD]
  have kb:=df hC n.reserve 0 n.shape[m].2
  rw[lh]at kb
  refine aa kb (.inl rfl) ?_
  simp
  refine⟨ao (by decide +kernel),?_⟩
  simp[hq,c1',c2,c3,hk2,cd hm]
 rw[if_neg (by omega)]at hq
 refine ac (fun hk3=>?_) (fun hk3=>?_)<;>simp at hk3<;>simp[hk3]
 ·rw[if_pos hk3,u5]at hq
  refine ac (fun c1=>?_) (fun c1=>?_)<;>simp at c1<;>simp[c1]
  ·refine ac (fun c2=>?_) (fun c2=>?_)<;>simp at c2<;>simp[c2]
   ·cases c3:n.prot
    ·simp[hq,c1,c2,c3]
    ·simp[hq,c3]
   ·simp[hq,c2]
  ·have:¬n.invert<=n.ground:=by omega
   simp[hq,this]
 ·rw[if_neg hk3]at hq
  simp[hq]
end Go.Gv

namespace Go.Gv
def gz(ns:List Nod)(i:Nat):Bool:=fF ns[i]!&&decide (bj (bq ns[i]!.name) ns=(i:Int))
def gJ(ns:List Nod)(nm:List UInt8):Bool:=decide (0<=bj (bq nm) ns)&&!decide (ns[(bj (bq nm) ns).toNat]!.kind=3)
def dt(ns:List Nod)(ls:List Lnk)(i:Nat):Bool:=cr ls[i]!&&decide (bj (jj ls[i]!.name) ls=(i:Int))&&gJ ns ls[i]!.src&&decide (0<=bj (bq ls[i]!.dst) ns)
def bG(ns:List Nod)(ls:List Lnk):Bool:=decide (ns.length<=300)&&decide (ls.length<=400)&&(List.range ns.length).all (gz ns)&&(List.range ls.length).all (dt ns ls)
theorem jI{α:Type}{p:α->Bool}{xs:List α}(h:0<=bj p xs):(bj p xs).toNat<xs.length:=by
 unfold bj at h ⊢
 cases e:xs.findIdx? p with
 | none=>rw[e]at h;simp at h
 | some i =>
  simp
  obtain⟨h1,_⟩:=x0O.1 e
  exact h1
variable{C:CC}(hC:ay prog C)
include hC
theorem m8(b1 b2:Bool)(ns:List Nod)(ls:List Lnk)(hcv:∀l∈ls,l.curve.length<2^62):C 164 [.agg [slx b1 (ns.map aO),slx b2 (ls.map aA)]] (.bool (bG ns ls)) []:=by
 obtain⟨r,hr⟩:∃r,r=bG ns ls:=⟨_,rfl⟩
 rw[<- hr]
 unfold bG at hr
 refine ai hC (nf:=N164) rfl rfl ?_
 simp[N164]
 refine ac (fun c=>?_) (fun c=>?_)<;>simp at c<;>simp[c]
 ·simp[hr,show ¬ns.length<=300 by omega]
 refine ac (fun c2=>?_) (fun c2=>?_)<;>simp at c2<;>simp[c2]
 ·simp[hr,show ¬ls.length<=400 by omega]
 rw[decide_eq_true (show ns.length<=300 by omega),decide_eq_true (show ls.length<=400 by omega)]at hr
 simp only[x0T]at hr
 have badN:∀i,i<ns.length->gz ns i=false->r=false:=fun i hi h=>by
  rw[hr,x1f]
  exact .inl (x1F.2 ⟨i,by simpa using hi,by simp[h]⟩)
 have badL:∀i,i<ls.length->dt ns ls i=false->r=false:=fun i hi h=>by
  rw[hr,x1f]
  exact .inr (x1F.2 ⟨i,by simpa using hi,by simp[h]⟩)
 refine au Nat (fun i=>[(1,.ptr [slx b1 (ns.map aO),slx b2 (ls.map aA)]),(19,slx b1 (ns.map aO)),(20,.int .i64 ns.length),(21,.int .i64 i)]) (fun i=>i<=ns.length/\∀j<i,gz ns j=true) (fun i=>ns.length-i) 0 (by simp) (by simp) ?_
 rintro i ⟨hi,hj⟩
 simp
 refine ac (fun h=>?_) (fun h=>?_)<;>simp at h<;>simp[h]
 ·have hw:IntKind.wrap .i64 ((i:Int)+1)=((i+1:Nat):Int):=wrap_i64 (by omega) (by omega)
  have bad:=badN i h
  have e1:ns[i]! = ns[i]:=x0f ns i h
  simp only[gz,e1]at bad
  have k1:=Cb hC ns[i]
  have k2:=nZ hC b1 b2 ns ls ns[i].name (by omega)
  simp only[aO]at k1
  simp[aO,h]
  refine aa k1 (.inl rfl) ?_
  cases g1:fF ns[i]
  ·simp
   exact bad (by simp[g1])
  simp
  refine aa k2 (.inl rfl) ?_
  simp
  refine ac (fun g2=>?_) (fun g2=>?_)<;>simp at g2<;>simp[g2]
  ·exact bad (by simp[g2])
  ·simp[hw]
   refine⟨i+1,⟨by omega,fun k hk=>?_⟩,by omega,by simp⟩
   rcases x0k.1 hk with h5|rfl
   ·exact hj k h5
   ·simp[gz,e1,g1,g2]
 have hall:(List.range ns.length).all (gz ns)=true:=by
  rw[x0g]
  intro k hk
  exact hj k (by simp at hk;omega)
 rw[hall,x0T]at hr
 clear badN hall hj
 refine au Nat (fun i=>[(1,.ptr [slx b1 (ns.map aO),slx b2 (ls.map aA)]),(39,slx b2 (ls.map aA)),(40,.int .i64 ls.length),(41,.int .i64 i)]) (fun i=>i<=ls.length/\∀j<i,dt ns ls j=true) (fun i=>ls.length-i) 0 (by simp) (by simp) ?_
 clear h hi i
 rintro i ⟨hi,hj⟩
 simp
 refine ac (fun h=>?_) (fun h=>?_)<;>simp at h<;>simp[h]
 ·have hw:IntKind.wrap .i64 ((i:Int)+1)=((i+1:Nat):Int):=wrap_i64 (by omega) (by omega)
  have bad:=badL i h
  have e1:ls[i]! = ls[i]:=x0f ls i h
  simp only[dt,e1]at bad
  have k1:=yI hC ls[i] (hcv _ (x0h h))
  have k2:=Fi hC b1 b2 ns ls ls[i].name (by omega)
  have k3:=nZ hC b1 b2 ns ls ls[i].src (by omega)
  have k4:=nZ hC b1 b2 ns ls ls[i].dst (by omega)
  have next:dt ns ls i=true->∃s':Nat,(s'<=ls.length/\∀j<s',dt ns ls j=true)/\ls.length-s'<ls.length-i/\(i:Int)+1=s':=fun hl=>by
   refine⟨i+1,⟨by omega,fun k hk=>?_⟩,by omega,by simp⟩
   rcases x0k.1 hk with h5|rfl
   ·exact hj k h5
   ·exact hl
  simp only[dt,e1]at next
  simp only[aA]at k1
  simp[aA,h]
  refine aa k1 (.inl rfl) ?_
  cases g1:cr ls[i]
  ·simp
   exact bad (by simp[g1])
  simp
  refine aa k2 (.inl rfl) ?_
  simp
  refine ac (fun g2=>?_) (fun g2=>?_)<;>simp at g2<;>simp[g2]
  ·exact bad (by simp[g2])
  refine aa k3 (.inl rfl) ?_
  simp
  refine ac (fun g3=>?_) (fun g3=>?_)<;>simp at g3<;>simp[g3]
  ·exact bad (by simp[gJ,show ¬0<=bj (bq ls[i].src) ns by omega])
  have g3':¬bj (bq ls[i].src) ns<0:=by omega
  refine aa k4 (.inl rfl) ?_
  simp
  refine ac (fun g4=>?_) (fun g4=>?_)<;>simp at g4<;>simp[g4]
  ·exact bad (by simp[show ¬0<=bj (bq ls[i].dst) ns by omega])
  have g4':¬bj (bq ls[i].dst) ns<0:=by omega
  have hf:=jI g3
  obtain⟨f,hfe⟩:=x1V g3
  rw[hfe]at hf ⊢
  simp at hf
  have e2:ns[f]! = ns[f]:=x0f ns f hf
  have hfo:gJ ns ls[i].src=!decide (ns[f].kind=3):=by
   simp[gJ,hfe,e2]
  simp[hf,aO]
  refine ac (fun g5=>?_) (fun g5=>?_)<;>simp at g5<;>simp[g5]
  ·exact bad (by simp[hfo,g5])
  ·simp[hw]
   exact next (by simp[hfo,g5,g1,g2,g4])
 ·have hall:(List.range ls.length).all (dt ns ls)=true:=by
   rw[x0g]
   intro k hk
   exact hj k (by simp at hk;omega)
  rw[hr,hall]
end Go.Gv

namespace Go.Gv
theorem dR{s:Sec}(h:aq s=true):ar s.conv=true/\(db s.conv).1=s.height/\0<=(db s.conv).2/\(db s.conv).2<=1099511627776:=by
 simp only[aq,bH,x0a,x0c,x0q]at h
 obtain⟨_,⟨⟨hv,h0⟩,h1⟩,h2⟩:=h
 obtain⟨l1,l2⟩:=bu hv
 have hp:∀i (hi:i<s.conv.length),0<=s.conv[i].2:=by
  intro i
  induction i with
  | zero=>intro hi;have:=h0.2;rw[x0f s.conv 0 hi]at this;omega
  | succ i ih =>
   intro hi
   have h3:=((dF hv hi).2.2 i rfl).2
   have:=ih (by omega)
   omega
 obtain⟨n,hn⟩:∃n,n+1=s.conv.length:=⟨s.conv.length-1,by omega⟩
 refine⟨hv,h1,?_,h2⟩
 rw[cd hn]
 exact hp n (by omega)
theorem tm{k f:Nat}(hk:k<=1099511627776)(hf:f<=4194304):k*k*f<=5070602400912917605986812821504:=by
 have h1:=x0U hk hk
 have h2:=x0U h1 hf
 exact h2
variable{C:CC}(hC:ay prog C)
include hC
theorem vY(s:Sec)(fall len:Int)(hv:aq s=true)(hs:bE fall len=true):C 61 [.agg (aS s),.int .i64 s.height,.int .i64 fall,.int .i64 len] (.tup [.int .i64 (kL s fall len),.int .i64 0]) []:=by
 obtain⟨c1,c2,c3,c4⟩:=dR hv
 simp only[bE,x0a,x0c]at hs
 obtain⟨l1,l2⟩:=bu c1
 obtain⟨n,hn⟩:∃n,n+1=s.conv.length:=⟨s.conv.length-1,by omega⟩
 rw[cd hn]at c2 c3 c4
 have hF:=xu hC s.convN s.conv s.height c1 n hn c2
 obtain⟨k,hk⟩:∃k:Nat,s.conv[n].2=k:=⟨s.conv[n].2.toNat,by omega⟩
 obtain⟨f,rfl⟩:∃f:Nat,fall=f:=⟨fall.toNat,by omega⟩
 obtain⟨l,rfl⟩:∃l:Nat,len=l:=⟨len.toNat,by omega⟩
 have hcap:kL s f l=dw (k*k*f/l):=by simp[kL,cd hn,hk]
 rw[hk]at hF
 rw[hcap]
 have hb:=tm (k:=k) (f:=f) (by omega) (by omega)
 have hb0:k*k<=1208925819614629174706176:=x0U (show k<=1099511627776 by omega) (show k<=1099511627776 by omega)
 have hb2:=Nat.div_le_self (k*k*f) l
 refine ai hC (nf:=N61) rfl rfl ?_
 simp[N61,aS]
 refine aa hF (.inl rfl) ?_
 simp
 refine aa (pR hC k k (by omega) (by omega)) (.inl rfl) ?_
 have v:∀x,isV (bz x)=true/\(∀f:Nat->D,bW f (bz x))/\(∀f:Nat->D,dp f (bz x)=bz x)/\∀ks,aP ks (bz x)=bz x:=fun x=>⟨rfl,fun _=>trivial,fun _=>rfl,fun _=>by simp[bz]⟩
 simp[v]
 refine aa (vx hC (k*k) f (by omega) (by omega) (by omega)) (.inl rfl) ?_
 simp[v]
 refine aa (y5 hC (k*k*f) l (by omega) (by omega) (by omega)) (.inl rfl) ?_
 simp[v]
 refine aa (zZ hC (k*k*f/l)) (.inl rfl) ?_
 simp
theorem Eo(s:Sec)(fall len:Int):C 47 [.agg (aS s),.int .i64 fall,.int .i64 len] (.tup [.int .i64 (f8 s fall len).1,.int .i64 (f8 s fall len).2]) []:=by
 have cap:C 53 [.agg (aS s),.int .i64 s.height,.int .i64 fall,.int .i64 len] (.tup [.int .i64 (f8 s fall len).1,.int .i64 (f8 s fall len).2]) []:=by
  refine ai hC (nf:=N53) rfl rfl ?_
  simp[N53,aS]
  have hvc:=rb hC s
  rw[aS]at hvc
  refine aa hvc (.inl rfl) ?_
  cases hv:aq s
  ·simp[f8,hv]
  have hh:¬s.height<0:=by
   simp only[aq,x0a,x0c]at hv
   omega
  simp[hh]
  refine aa (vj hC fall len) (.inl rfl) ?_
  have es:(decide (0<=fall)&&decide (fall<=4194304)&&decide (1<=len)&&decide (len<=16777216))=bE fall len:=rfl
  rw[es]
  cases hs:bE fall len
  ·simp[f8,hv,hs]
  simp
  have hcc:=vY hC s fall len hv hs
  rw[aS]at hcc
  refine aa hcc (.inl rfl) ?_
  simp
  refine ac (fun c=>?_) (fun c=>?_)<;>simp[c]<;>simp at c
  ·have c':1099511627776<kL s fall len:=by omega
   simp[f8,hv,hs,c']
  ·have c':¬1099511627776<kL s fall len:=by omega
   simp[f8,hv,hs,c']
 refine ai hC (nf:=N47) rfl rfl ?_
 simp[N47,aS]
 rw[aS]at cap
 refine aa cap (.inl rfl) ?_
 simp
end Go.Gv

namespace Go.Gv
def bg(l:List Sec):Bool:=decide (l.length<=40)&&l.all aq&&decide ((l.map (·.name)).Nodup)
def gM(l:List Sec):List D:=((l.map (·.name)).reverse).map D.str
theorem pH:∀(xs:List (List UInt8)) (n:Nat),n=xs.length->∀s,(en (xs.map D.str) (List.replicate n (.bool true)) (.str s)).getD (.bool false)=.bool (decide (s∈xs))
 | [],n,h,s=>by simp[en]
 | x::xs,n,h,s=>by
  obtain⟨m,rfl⟩:∃m,n=m+1:=⟨n-1,by simp at h;omega⟩
  have ih:=pH xs m (by simpa using h) s
  simp only[x0I,List.replicate_succ,en,eqD,rL,x0c]
  by_cases e:s=x
  ·subst e;simp
  ·rw[if_neg e,ih];simp[e]
variable{C:CC}(hC:ay prog C)
include hC
theorem nA(b:Bool)(l:List Sec):C 44 [slx b (l.map aS)] (.bool (bg l)) []:=by
 refine ai hC (nf:=N44) rfl rfl ?_
 simp[N44]
 refine ac (fun h=>?_) (fun h=>?_)<;>simp at h
 ·simp[bg];omega
 simp
 refine au Nat (fun i=>[(3,.mrf 10144),(10144,.mp 0 1 (gM (l.take i)) (List.replicate i (.bool true))),(10,slx b (l.map aS)),(11,.int .i64 l.length),(12,.int .i64 i)])
  (fun i=>i<=l.length/\(∀x∈l.take i,aq x=true)/\((l.map (·.name)).take i).Nodup) (fun i=>l.length-i) 0 (by simp) (by simp[gM]) ?_
 rintro i ⟨hi,hv,hn⟩
 simp
 refine ac (fun h3=>?_) (fun h3=>?_)<;>simp at h3
 ·have ht:l.take (i+1)=l.take i++[l[i]]:=x0u h3
  have hg:=pH ((l.take i).map (·.name)).reverse i (by simp;omega) l[i].name
  rw[show((l.take i).map (·.name)).reverse.map D.str=gM (l.take i)from rfl]at hg
  have hk:D.str l[i].name::gM (l.take i)=gM (l.take (i+1)):=by
   rw[gM,gM,ht]
   simp only[x1y,x0I,x02,List.reverse_append,List.reverse_cons,List.reverse_nil,x1S,x1K]
  have hlen:(gM (l.take i)).length<maxLen:=by
   have:(gM (l.take i)).length<=40:=by simp[gM];omega
   unfold maxLen;omega
  have hw:IntKind.wrap .i64 ((i:Int)+1)=((i+1:Nat):Int):=wrap_i64 (by omega) (by omega)
  have bad1:aq l[i]=false->bg l=false:=fun e=>by
   simp only[bg,x1f,x1F]
   exact .inl (.inr ⟨l[i],x0h h3,by simp[e]⟩)
  have h5:(l.map (·.name)).take (i+1)=(l.map (·.name)).take i++[l[i].name]:=by
   rw[x0u (by simpa using h3)];simp
  have bad2:l[i].name∈(l.map (·.name)).take i->bg l=false:=fun e=>by
   simp only[bg,x1f,x0K]
   right
   intro hnd
   have h6:=(List.take_sublist (i+1) _).nodup hnd
   rw[h5,x1n]at h6
   exact h6.2.2 _ e _ (by simp) rfl
  simp[h3,aS]
  have hvc:=rb hC l[i]
  rw[aS]at hvc
  refine aa hvc (.inl rfl) ?_
  cases hvi:aq l[i]
  ·simp[bad1 hvi]
  ·have hnm:l[i].name.length<=maxLen:=by
    simp only[aq,bD,x0a,x0c]at hvi
    unfold maxLen;omega
   simp[hg,hnm]
   refine ac (fun h4=>?_) (fun h4=>?_)<;>simp[h4]<;>simp at h4
   ·exact bad2 h4
   ·simp[hlen,hnm,hw]
    refine⟨i+1,⟨by omega,?_,?_⟩,by omega,⟨hk,?_⟩,rfl⟩
    ·intro x hx
     rw[ht]at hx
     rcases x0p.1 hx with hx|hx
     ·exact hv x hx
     ·simp at hx;subst hx;exact hvi
    ·rw[h5,x1n]
     refine⟨hn,by simp,fun a ha b hb=>?_⟩
     simp at hb
     subst hb
     rintro rfl
     exact h4 ha
    ·rw[List.replicate_succ]
 ·have hil:i=l.length:=by omega
  subst hil
  rw[x0s (by simp)]at hn
  simp at hv
  simp[bg,hn]
  exact⟨by omega,hv⟩
end Go.Gv

namespace Go.Gv
def jZ(nm:List UInt8):Nod:={ name:=nm,kind:=1,x:=0,y:=0,invert:=0,ground:=1,shapeN:=false,shape:=[(0,0),(1,1)],prot:=false,reserve:=0 }
def ma(nm:List UInt8):Nod:={ name:=nm,kind:=3,x:=0,y:=0,invert:=0,ground:=0,shapeN:=true,shape:=[],prot:=false,reserve:=0 }
theorem j8{α:Type}{p:α->Bool}{x:α}{l:List α}(h:p x=true):bj p (x::l)=0:=by
 unfold bj
 rw[List.findIdx?_cons,h]
 rfl
theorem yF{α:Type}{p:α->Bool}{x y:α}(h:p x=false)(h2:p y=true):bj p [x,y]=1:=by
 unfold bj
 rw[List.findIdx?_cons,h,List.findIdx?_cons,h2]
 rfl
theorem tZ(l:Lnk):bG [jZ l.src,ma l.dst] [l]=cr l:=by
 cases h:cr l
 ·simp[bG,dt,h]
 have h':=h
 simp only[cr,x0a,x0t,x0K]at h
 obtain⟨⟨⟨⟨⟨⟨h1,h2⟩,h3⟩,h4⟩,h5⟩,h6⟩,h7⟩:=h
 have a1:fF (jZ l.src)=true:=by
  have:bH [(0,0),(1,1)] 1 1125899906842624=true:=by decide +kernel
  simp[fF,jZ,h2,ly,aF,bn,this]
 have a2:fF (ma l.dst)=true:=by
  simp[fF,ma,h3,u5,aF,bn]
 have b1:bq l.src (jZ l.src)=true:=by simp[bq,jZ]
 have b2:bq l.dst (ma l.dst)=true:=by simp[bq,ma]
 have b3:bq l.dst (jZ l.src)=false:=by simp[bq,jZ,h4]
 have c1:bj (bq l.src) [jZ l.src,ma l.dst]=0:=j8 b1
 have c2:bj (bq l.dst) [jZ l.src,ma l.dst]=1:=yF b3 b2
 have c3:bj (jj l.name) [l]=0:=j8 (by simp[jj])
 have d1:(jZ l.src).name=l.src:=rfl
 have d2:(ma l.dst).name=l.dst:=rfl
 have d3:(jZ l.src).kind=1:=rfl
 have e1:(List.range 2).all (gz [jZ l.src,ma l.dst])=true:=by
  simp[x1G,gz,a1,a2,c1,c2,d1,d2]
 have e2:(List.range 1).all (dt [jZ l.src,ma l.dst] [l])=true:=by
  simp[x1G,dt,h',c1,c2,c3,gJ,d3]
 have e3:dt [jZ l.src,ma l.dst] [l] 0=true:=by simpa using e2
 simp[bG,e1,e3]
theorem qj(s:Sec):bg [s]=aq s:=by
 simp[bg]
def jr(l:Lnk)(s:Sec):Int:=if cr l&&aq s then(if l.kind=1 then(if l.sect=s.name then 0 else 25) else 11) else 1
variable{C:CC}(hC:ay prog C)
include hC
theorem ml(n a b:Int):C 161 [.int .i64 n,.int .i64 a,.int .i64 b] (.bool (aF n a b)) []:=by
 refine ai hC (nf:=N161) rfl rfl ?_
 simp[N161,aF]
 refine ac (fun h=>?_) (fun h=>?_)<;>simp at h<;>simp[h]<;>omega
theorem y8(l:Lnk)(s:Sec)(hl:l.curve.length<2^62):C 160 [.agg (aA l),.agg (aS s)] (.int .i64 (jr l s)) []:=by
 have k1:=m8 hC false false [jZ l.src,ma l.dst] [l] (by simpa using hl)
 rw[tZ]at k1
 have k2:=nA hC false [s]
 rw[qj]at k2
 simp only[jQ,List.map,jZ,ma,aO,aA,aS,knD]at k1 k2
 obtain⟨r,hr⟩:∃r,r=jr l s:=⟨_,rfl⟩
 rw[<- hr]
 unfold jr at hr
 refine ai hC (nf:=N160) rfl rfl ?_
 have e0:slx true []=D.nils:=rfl
 rw[e0]at k1
 simp[N160,aA,aS]
 refine aa k1 (.inl rfl) ?_
 cases h1:cr l
 ·simp[hr,h1]
 simp
 refine aa k2 (.inl rfl) ?_
 cases h2:aq s
 ·simp[hr,h2]
 simp
 refine ac (fun c=>?_) (fun c=>?_)<;>simp at c<;>simp[c]
 ·simp[hr,h1,h2,c]
 refine ac (fun c3=>?_) (fun c3=>?_)<;>simp at c3<;>simp[c3]
 ·simp[hr,h1,h2,c,c3]
 ·simp[hr,h1,h2,c,c3]
end Go.Gv

namespace Go.Gv
open Go.Lib
theorem Uu(a m:Nat)(hm:m=a*16%18446744073709551616):IntKind.u64.wrap ((a:Int)*2^min 4 IntKind.u64.bits)=(m:Int):=CI a 4 m hm
theorem Ol(a m:Nat)(hm:m=a*1152921504606846976%18446744073709551616):IntKind.u64.wrap ((a:Int)*2^min 60 IntKind.u64.bits)=(m:Int):=CI a 60 m hm
theorem Om(a:Nat):Int.fdiv (a:Int) (2^min 60 IntKind.u64.bits)=((a/1152921504606846976:Nat):Int):=mW a 60
theorem Uv(a:Nat):Int.fdiv (a:Int) (2^min 4 IntKind.u64.bits)=((a/16:Nat):Int):=mW a 4
theorem Fl(a:Nat)(ha:a<18446744073709551616):bits .and .u64 (a:Int) 1152921504606846975=((a%1152921504606846976:Nat):Int):=by
 have h:=bits_and_u64_nat a 1152921504606846975 ha (by omega)
 have e:a &&& 1152921504606846975=a%1152921504606846976:=Nat.and_two_pow_sub_one_eq_mod a 60
 rw[e]at h
 exact h
theorem Ur(a b:Nat)(hb:b<16)(h:a*16+b<18446744073709551616):bits .or .u64 ((a*16:Nat):Int) (b:Int)=((a*16+b:Nat):Int):=orN a b 4 hb h
theorem Us(a b:Nat)(hb:b<1152921504606846976)(h:a*1152921504606846976+b<18446744073709551616):bits .or .u64 ((a*1152921504606846976:Nat):Int) (b:Int)=((a*1152921504606846976+b:Nat):Int):=orN a b 60 hb h
def fz(p:Nat)(neg:Bool):D:=.agg [.int .u64 ((p/18446744073709551616:Nat):Int),.int .u64 ((p%18446744073709551616:Nat):Int),.bool neg]
def wiD(p:Nat):D:=.agg [.int .i64 ((p/1152921504606846976:Nat):Int),.int .i64 ((p%1152921504606846976:Nat):Int)]
variable{C:CC}(hC:ay prog C)
include hC
theorem nq(n:Nat)(h:n<9223372036854775808):C 112 [.int .i64 n] (.int .u64 (n:Int)) []:=by
 refine ai hC (nf:=N112) rfl rfl ?_
 have h0:¬(n:Int)<0:=by omega
 simp[N112,h0,bA n (by omega)]
theorem jy(a b:Int)(n:Bool):C 113 [.int .u64 a,.int .u64 b,.bool n] (.agg [.int .u64 a,.int .u64 b,.bool (n&&(!decide (a=0)||!decide (b=0)))]) []:=by
 refine ai hC (nf:=N113) rfl rfl ?_
 simp[N113]
 cases n<;>simp
 by_cases h:a=0<;>simp[h]
theorem te(x y:Nat)(hx:x<9223372036854775808)(hy:y<9223372036854775808):C 103 [.int .i64 x,.int .i64 y] (fz (x*y) false) []:=by
 refine ai hC (nf:=N103) rfl rfl ?_
 have h0:¬(x:Int)<0:=by omega
 have h1:¬(y:Int)<0:=by omega
 have hm:=iy hC x y (by omega) (by omega)
 rw[fz]
 obtain⟨zh,hzh⟩:∃zh,zh=x*y/18446744073709551616:=⟨_,rfl⟩
 obtain⟨zl,hzl⟩:∃zl,zl=x*y%18446744073709551616:=⟨_,rfl⟩
 rw[<- hzh,<- hzl]at hm ⊢
 simp[N103]
 refine aa (nq hC x hx) (.inl rfl) ?_
 simp
 refine aa (nq hC y hy) (.inl rfl) ?_
 simp
 refine aa hm (.inl rfl) ?_
 simp[h0,h1]
 refine aa (jy hC zh zl false) (.inl rfl) ?_
 simp
theorem lC(n:Nat)(h:n<9223372036854775808):C 110 [.int .u64 n,.bool false] (.tup [.int .i64 n,.int .i64 0]) []:=by
 refine ai hC (nf:=N110) rfl rfl ?_
 have h1:(n:Int)<=9223372036854775807:=by omega
 have h2:IntKind.i64.wrap (n:Int)=(n:Int):=wrap_i64 rfl (by omega)
 simp[N110,h1,h2]
theorem ol(p d:Nat)(up:Bool)(q:Nat)(hd:d<9223372036854775808)(hp:p/18446744073709551616<d)(hq:q<9223372036854775808)(hv:q=if up then(p+d-1)/d else p/d)(hqd:p/d+1<9223372036854775808):C 104 [fz p false,.int .i64 d,.bool up] (.tup [.int .i64 q,.int .i64 0]) []:=by
 obtain⟨ph,hph⟩:∃z,z=p/18446744073709551616:=⟨_,rfl⟩
 obtain⟨pl,hpl⟩:∃z,z=p%18446744073709551616:=⟨_,rfl⟩
 have hpp:ph*18446744073709551616+pl=p:=by omega
 obtain⟨q0,hq0⟩:∃z,z=p/d:=⟨_,rfl⟩
 obtain⟨r0,hr0⟩:∃z,z=p%d:=⟨_,rfl⟩
 have hdiv:=ux hC ph pl d (by omega) (by omega) (by omega)
 rw[hpp,<- hq0,<- hr0]at hdiv
 have hd0:0<d:=by omega
 have hdp:d*q0+r0=p:=by rw[hq0,hr0];exact x05 p d
 have hrd:r0<d:=by rw[hr0];exact x1a _ hd0
 have hup:up=true->q=if 0<r0 then q0+1 else q0:=by
  rintro rfl
  simp only[if_true]at hv
  rw[hv,<- hdp]
  by_cases h:0<r0
  ·rw[if_pos h,show d*q0+r0+d-1=d*q0+(d+(r0-1)) by omega,Nat.mul_add_div hd0,Nat.add_div_left _ hd0,Nat.div_eq_of_lt (by omega)]
  ·rw[if_neg h,show d*q0+r0+d-1=d*q0+(d-1) by omega,Nat.mul_add_div hd0,Nat.div_eq_of_lt (by omega)]
   rfl
 rw[fz,<- hph,<- hpl]
 have h1:¬(d:Int)<=(ph:Int):=by omega
 have h2:¬(d:Int)<0:=by omega
 have h3:IntKind.u64.wrap ((q0:Int)+1)=((q0+1:Nat):Int):=uw (by omega) (by omega)
 refine ai hC (nf:=N104) rfl rfl ?_
 simp[N104]
 refine aa (nq hC d hd) (.inl rfl) ?_
 simp[h1]
 refine aa hdiv (.inl rfl) ?_
 simp[h2]
 cases up
 ·have e:q=q0:=by rw[hv,hq0];rfl
  subst e
  refine ac (fun h=>?_) (fun h=>?_)<;>simp at h<;>simp[h]
  ·refine aa (lC hC q hq) (.inl rfl) ?_
   simp
  ·refine aa (lC hC q hq) (.inl rfl) ?_
   simp
 ·have hv:=hup rfl
  by_cases h:0<r0
  ·have hi:(0:Int)<r0:=by omega
   rw[if_pos h]at hv
   subst hv
   have h4:¬((q0:Int)+1=0):=by omega
   simp[hi,h3,h4,h]
   refine aa (lC hC (q0+1) hq) (.inl rfl) ?_
   simp
  ·have hi:¬(0:Int)<r0:=by omega
   rw[if_neg h]at hv
   subst hv
   simp[hi,h]
   refine aa (lC hC q hq) (.inl rfl) ?_
   simp
end Go.Gv

namespace Go.Gv
open Go.Lib
variable{C:CC}(hC:ay prog C)
include hC
theorem oR(p:Nat)(h:p<1329227995784915872903807060280344576):C 106 [wiD p] (.bool true) []:=by
 obtain⟨ph,hph⟩:∃z,z=p/1152921504606846976:=⟨_,rfl⟩
 obtain⟨pl,hpl⟩:∃z,z=p%1152921504606846976:=⟨_,rfl⟩
 rw[wiD,<- hph,<- hpl]
 have h1:(-1152921504606846976:Int)<=ph:=by omega
 have h2:(ph:Int)<1152921504606846976:=by omega
 have h3:(0:Int)<=pl:=by omega
 have h4:(pl:Int)<1152921504606846976:=by omega
 refine ai hC (nf:=N106) rfl rfl ?_
 simp[N106,h1,h2,h3,h4]
theorem sy(p:Nat)(h:p<1329227995784915872903807060280344576):C 105 [fz p false] (.tup [wiD p,.int .i64 0]) []:=by
 obtain⟨ph,hph⟩:∃z,z=p/1152921504606846976:=⟨_,rfl⟩
 obtain⟨pl,hpl⟩:∃z,z=p%1152921504606846976:=⟨_,rfl⟩
 obtain⟨zh,hzh⟩:∃z,z=p/18446744073709551616:=⟨_,rfl⟩
 obtain⟨zl,hzl⟩:∃z,z=p%18446744073709551616:=⟨_,rfl⟩
 rw[wiD,fz,<- hph,<- hpl,<- hzh,<- hzl]
 obtain⟨zt,hzt⟩:∃z,z=zl/1152921504606846976:=⟨_,rfl⟩
 have h1:¬(72057594037927936:Int)<zh:=by omega
 have h2:¬(zh:Int)=72057594037927936:=by omega
 have e1:=Uu zh (zh*16) (by omega)
 have e2:=Om zl
 rw[<- hzt]at e2
 have e3:=Ur zh zt (by omega) (by omega)
 have e4:IntKind.i64.wrap ((zh*16+zt:Nat):Int)=(ph:Int):=wrap_i64 (by omega) (by omega)
 have e5:=Fl zl (by omega)
 have e6:IntKind.i64.wrap ((zl%1152921504606846976:Nat):Int)=(pl:Int):=wrap_i64 (by omega) (by omega)
 refine ai hC (nf:=N105) rfl rfl ?_
 simp[N105,h1,h2,e2,-Int.natCast_mul,-Int.natCast_emod]
 refine⟨ao (by decide +kernel),?_⟩
 rw[e1,e3,e4,e5,e6]
 simp
theorem re(p:Nat)(h:p<1329227995784915872903807060280344576):C 108 [wiD p] (fz p false) []:=by
 obtain⟨ph,hph⟩:∃z,z=p/1152921504606846976:=⟨_,rfl⟩
 obtain⟨pl,hpl⟩:∃z,z=p%1152921504606846976:=⟨_,rfl⟩
 obtain⟨zh,hzh⟩:∃z,z=p/18446744073709551616:=⟨_,rfl⟩
 obtain⟨zl,hzl⟩:∃z,z=p%18446744073709551616:=⟨_,rfl⟩
 rw[wiD,fz,<- hph,<- hpl,<- hzh,<- hzl]
 have h1:(0:Int)<=ph:=by omega
 obtain⟨w,hw⟩:∃z,z=ph%16:=⟨_,rfl⟩
 have e1:Int.fdiv (ph:Int) (2^min 4 IntKind.u64.bits)=(zh:Int):=by rw[Uv];omega
 have e2:IntKind.u64.wrap ((ph:Int)*2^min 60 IntKind.u64.bits)=((w*1152921504606846976:Nat):Int):=Ol ph _ (by omega)
 have e3:IntKind.u64.wrap (pl:Int)=(pl:Int):=bA pl (by omega)
 have e4:bits .or .u64 ((w*1152921504606846976:Nat):Int) (pl:Int)=(zl:Int):=by
  rw[Us w pl (by omega) (by omega)];omega
 refine ai hC (nf:=N108) rfl rfl ?_
 simp[N108]
 refine aa (nq hC ph (by omega)) (.inl rfl) ?_
 simp[h1]
 rw[e1,e2,e3,e4]
 simp
theorem BV(p:Nat):C 109 [fz p false] (fz p (decide (p≠0))) []:=by
 obtain⟨zh,hzh⟩:∃z,z=p/18446744073709551616:=⟨_,rfl⟩
 obtain⟨zl,hzl⟩:∃z,z=p%18446744073709551616:=⟨_,rfl⟩
 have e:decide (p≠0)=(true&&(!decide ((zh:Int)=0)||!decide ((zl:Int)=0))):=by
  rw[x0z];simp;omega
 rw[fz,fz,<- hzh,<- hzl,e]
 refine ai hC (nf:=N109) rfl rfl ?_
 simp[N109]
 refine aa (jy hC zh zl true) (.inl rfl) ?_
 simp
set_option maxHeartbeats 4000000 in
theorem Ot(p r:Nat)(hr:r<=p)(hp:p<1329227995784915872903807060280344576):C 107 [fz p false,fz r (decide (r≠0))] (fz (p-r) false) []:=by
 obtain⟨ph,hph⟩:∃z,z=p/18446744073709551616:=⟨_,rfl⟩
 obtain⟨pl,hpl⟩:∃z,z=p%18446744073709551616:=⟨_,rfl⟩
 obtain⟨rh,hrh⟩:∃z,z=r/18446744073709551616:=⟨_,rfl⟩
 obtain⟨rl,hrl⟩:∃z,z=r%18446744073709551616:=⟨_,rfl⟩
 obtain⟨dh,hdh⟩:∃z,z=(p-r)/18446744073709551616:=⟨_,rfl⟩
 obtain⟨dl,hdl⟩:∃z,z=(p-r)%18446744073709551616:=⟨_,rfl⟩
 have k0:(0:Int)<=ph:=by omega
 have k1:(0:Int)<=pl:=by omega
 have k2:(0:Int)<=rl:=by omega
 have k3:(pl:Int)<18446744073709551616:=by omega
 have k4:(rl:Int)<18446744073709551616:=by omega
 by_cases h0:r=0
 ·subst h0
  have hrh0:rh=0:=by omega
  have hrl0:rl=0:=by omega
  subst hrh0 hrl0
  rw[fz,fz,fz,<- hph,<- hpl,<- hrh,<- hrl,<- hdh,<- hdl]
  have e1:(pl:Int)%18446744073709551616=(pl:Int):=by omega
  have e2:(pl:Int)/18446744073709551616=0:=by omega
  have e3:IntKind.u64.wrap (ph:Int)=(ph:Int):=bA ph (by omega)
  have e4:dh=ph:=by omega
  have e5:dl=pl:=by omega
  refine ai hC (nf:=N107) rfl rfl ?_
  simp[N107,k3,e1,e2,e3]
  refine aa (jy hC ph pl false) (.inl rfl) ?_
  simp[e4,e5]
 ·have hne:decide (r≠0)=true:=by simp[h0]
  rw[hne,fz,fz,fz,<- hph,<- hpl,<- hrh,<- hrl,<- hdh,<- hdl]
  have c1:¬(ph:Int)<rh:=by omega
  have c2:(ph:Int)=rh->¬(pl:Int)<rl:=by omega
  have e1:((pl:Int)-rl)%18446744073709551616=(dl:Int):=by omega
  have e2:IntKind.u64.wrap ((ph:Int)-rh)=((ph-rh:Nat):Int):=uw (by omega) (by omega)
  have e3:IntKind.u64.wrap (((ph-rh:Nat):Int)-(if pl<rl then 1 else 0))=(dh:Int):=by
   split<;>exact uw (by omega) (by omega)
  refine ai hC (nf:=N107) rfl rfl ?_
  simp[N107,c1,k3,k4,e1,e2]
  refine ac (fun c=>?_) (fun c=>?_)<;>simp at c<;>simp[c]
  ·have c3:=c2 (by omega)
   refine ac (fun c4=>?_) (fun c4=>?_)<;>simp at c4<;>simp[c4]
   ·omega
   have hd0:dh=0:=by omega
   have c5:¬pl<rl:=by omega
   have hz:IntKind.u64.wrap 0=0:=bA 0 (by omega)
   simp[k3,k4,e1,hz,c5]
   refine aa (jy hC 0 dl false) (.inl rfl) ?_
   simp[hd0]
  ·simp[k3,k4,e1,e2]
   rw[e3]
   refine aa (jy hC dh dl false) (.inl rfl) ?_
   simp
end Go.Gv

namespace Go.Gv
theorem lb(p:Nat):∃a b:Int,fz p false=.agg [.int .u64 a,.int .u64 b,.bool false]:=⟨_,_,rfl⟩
theorem yV(p:Nat)(n:Bool):∃a b:Int,fz p n=.agg [.int .u64 a,.int .u64 b,.bool n]:=⟨_,_,rfl⟩
theorem jB(p:Nat):∃a b:Int,wiD p=.agg [.int .i64 a,.int .i64 b]:=⟨_,_,rfl⟩
variable{C:CC}(hC:ay prog C)
include hC
theorem o9(x y:Nat)(hx:x<9223372036854775808)(hy:y<9223372036854775808)(h:x*y<1329227995784915872903807060280344576):C 99 [.int .i64 x,.int .i64 y] (.tup [wiD (x*y),.int .i64 0]) []:=by
 have k1:=te hC x y hx hy
 have k2:=sy hC (x*y) h
 obtain⟨a,b,e1⟩:=lb (x*y)
 obtain⟨c,d,e2⟩:=jB (x*y)
 rw[e1]at k1 k2
 rw[e2]at k2 ⊢
 refine ai hC (nf:=N99) rfl rfl ?_
 simp[N99]
 refine aa k1 (.inl rfl) ?_
 simp
 refine aa k2 (.inr rfl) ?_
 simp
theorem JO(p:Nat)(h:p<9223372036854775808):C 101 [wiD p] (.tup [.int .i64 p,.int .i64 0]) []:=by
 have k1:=oR hC p (by omega)
 have k2:=re hC p (by omega)
 have e1:fz p false=.agg [.int .u64 0,.int .u64 p,.bool false]:=by
  rw[fz,show p/18446744073709551616=0 by omega,show p%18446744073709551616=p by omega];rfl
 obtain⟨c,d,e2⟩:=jB p
 rw[e1]at k2
 rw[e2]at k1 k2 ⊢
 refine ai hC (nf:=N101) rfl rfl ?_
 simp[N101]
 refine aa k1 (.inl rfl) ?_
 simp
 refine aa k2 (.inl rfl) ?_
 simp
 refine aa (lC hC p h) (.inl rfl) ?_
 simp
theorem JQ(p r:Nat)(hr:r<=p)(h:p<1329227995784915872903807060280344576):C 100 [wiD p,wiD r] (.tup [wiD (p-r),.int .i64 0]) []:=by
 have k1:=oR hC p h
 have k2:=oR hC r (by omega)
 have k3:=re hC p h
 have k4:=re hC r (by omega)
 have k5:=BV hC r
 have k6:=Ot hC p r hr h
 have k7:=sy hC (p-r) (by omega)
 obtain⟨a1,a2,e1⟩:=jB p
 obtain⟨b1,b2,e2⟩:=jB r
 obtain⟨c1,c2,e3⟩:=jB (p-r)
 obtain⟨d1,d2,e4⟩:=lb p
 obtain⟨f1,f2,e5⟩:=lb r
 obtain⟨g1,g2,e6⟩:=yV r (decide (r≠0))
 obtain⟨i1,i2,e7⟩:=lb (p-r)
 obtain⟨z,hz⟩:∃z,z=decide (r≠0):=⟨_,rfl⟩
 rw[<- hz]at k5 k6 e6
 rw[e1]at k1 k3 ⊢
 rw[e2]at k2 k4 ⊢
 rw[e3]at k7 ⊢
 rw[e4]at k3 k6
 rw[e5]at k4 k5
 rw[e6]at k5 k6
 rw[e7]at k6 k7
 refine ai hC (nf:=N100) rfl rfl ?_
 simp[N100]
 refine aa k1 (.inl rfl) ?_
 simp
 refine aa k2 (.inl rfl) ?_
 simp
 refine aa k3 (.inl rfl) ?_
 simp
 refine aa k4 (.inl rfl) ?_
 simp
 refine aa k5 (.inl rfl) ?_
 simp
 refine aa k6 (.inl rfl) ?_
 simp
 refine aa k7 (.inr rfl) ?_
 simp
 exact ao (by decide +kernel)
theorem Ba(u a d:Nat)(hu:u<4503599627370496)(ha:a<d)(hd:d<4503599627370496):C 98 [.int .i64 u,.int .i64 a,.int .i64 d] (.tup [.int .i64 (u*a/d:Nat),.int .i64 ((u*a+d-1)/d:Nat),.int .i64 0]) []:=by
 have h1:u*a<=u*d:=x1l _ (by omega)
 have h1':u*d=d*u:=x0R _ _
 have h2:u*a/d<=u:=Nat.le_of_lt_succ (x1U (by rw[x1W,x1I];omega))
 have h3:(u*a+d-1)/d<=u:=Nat.le_of_lt_succ (x1U (by rw[x1W,x1I];omega))
 have h4:u*a/18446744073709551616<d:=by
  have h5:u*d<=4503599627370496*d:=x0j _ (by omega)
  omega
 have k1:=te hC u a (by omega) (by omega)
 have k2:=ol hC (u*a) d false (u*a/d) (by omega) h4 (by omega) rfl (by omega)
 have k3:=ol hC (u*a) d true ((u*a+d-1)/d) (by omega) h4 (by omega) rfl (by omega)
 obtain⟨q1,e1⟩:∃q,q=u*a/d:=⟨_,rfl⟩
 obtain⟨q2,e2⟩:∃q,q=(u*a+d-1)/d:=⟨_,rfl⟩
 obtain⟨a1,a2,e3⟩:=lb (u*a)
 rw[e3]at k1 k2 k3
 rw[<- e1]at k2 ⊢
 rw[<- e2]at k3 ⊢
 have hd0:¬(d:Int)=0:=by omega
 clear h1 h1' h2 h3 h4 e1 e2 e3
 refine ai hC (nf:=N98) rfl rfl ?_
 simp[N98]
 refine ac (fun c=>?_) (fun c=>?_)<;>simp at c<;>simp[c]
 ·omega
 refine aa k1 (.inr rfl) ?_
 simp
 refine aa k2 (.inl rfl) ?_
 simp
 refine aa k3 (.inl rfl) ?_
 simp
end Go.Gv

namespace Go.Gv
def aW(t:List (Int×Int))(x:Int):Nat:=t.findIdx fun k=>decide (x<=k.1)
def atK(t:List (Int×Int))(x:Int):Bool:=decide (aW t x<t.length)&&decide (t[aW t x]!.1=x)
def vQ(a b:Int×Int)(x:Int):Int×Int×Int:=(a.2+(b.2-a.2)*(x-a.1)/(b.1-a.1),(b.2-a.2)*(x-a.1)%(b.1-a.1),b.1-a.1)
def bf(t:List (Int×Int))(x:Int):Int×Int×Int :=
 if atK t x||decide (aW t x=0) then(t[aW t x]!.2,0,1)
 else if aW t x=t.length then(t[aW t x-1]!.2,0,1)
 else vQ t[aW t x-1]! t[aW t x]! x
theorem eA(t:List (Int×Int))(x:Int):aW t x<=t.length:=List.findIdx_le_length
theorem lj{t:List (Int×Int)}{x:Int}{j:Nat}(h:j<aW t x)(hl:j<t.length):t[j].1<x:=by
 have:=List.not_of_lt_findIdx h
 simp at this
 exact this
theorem gD{t:List (Int×Int)}{x:Int}(h:aW t x<t.length):x<=t[aW t x].1:=by
 have h2:=List.findIdx_getElem (w:=h)
 exact of_decide_eq_true h2
theorem fc{t:List (Int×Int)}{x:Int}{j:Nat}(hl:j<t.length)(h:x<=t[j].1):aW t x<=j:=by
 apply x1C
 intro hj
 have:=lj hj hl
 omega
theorem lB{t:List (Int×Int)}(h:ar t=true){j i:Nat}(hi:i<t.length)(hj:j<=i):t[j].1<=t[i].1:=by
 rcases Nat.lt_or_eq_of_le hj with h1|rfl
 ·have:=ir h j i hi h1;omega
 ·exact x0F _
theorem kx{t:List (Int×Int)}(hv:ar t=true){x:Int}{j:Nat}(hl:j<t.length)(h:t[j].1<x):j<aW t x:=by
 apply Nat.lt_of_not_le
 intro hj
 have h1:=gD (t:=t) (x:=x) (by omega)
 have h2:=lB hv hl hj
 omega
theorem fg{t:List (Int×Int)}{x:Int}(h:ar t=true)(h0:aW t x≠0)(h1:aW t x<t.length)(h2:atK t x=false) :
  ∃k u a d:Nat,aW t x=k+1/\k+1<t.length/\∃(g0:k<t.length) (g1:k+1<t.length),t[k+1].2-t[k].2=u/\x-t[k].1=a/\t[k+1].1-t[k].1=d/\u<4503599627370496/\0<a/\a<d/\d<4503599627370496/\-1125899906842624<=t[k].2/\t[k].2<=1125899906842624/\t[k].2+u<=1125899906842624/\t[aW t x-1]! = t[k]/\t[aW t x]! = t[k+1]/\-1125899906842624<=t[k].1/\t[k].1<=1125899906842624/\t[k+1].1<=1125899906842624:=by
 obtain⟨k,hk⟩:∃k,aW t x=k+1:=⟨aW t x-1,by omega⟩
 have hlt:t[k].1<x:=lj (by omega) (by omega)
 have hge:=gD h1
 have e1:t[aW t x]! = t[aW t x]:=x0f t _ h1
 simp only[atK,h1,decide_true,x0T,x0K,e1]at h2
 rw[hk]at h1
 simp only[hk]at hge h2 e1
 obtain⟨f1,f2,f3⟩:=dF h (show k<t.length by omega)
 obtain⟨f4,f5,f6⟩:=dF h h1
 have f7:=f6 k rfl
 simp only[fp,x0a,x0c]at f1 f2 f4 f5
 refine⟨k,(t[k+1].2-t[k].2).toNat,(x-t[k].1).toNat,(t[k+1].1-t[k].1).toNat,hk,h1,by omega,h1,by omega,by omega,by omega,by omega,by omega,by omega,by omega,by omega,by omega,by omega,?_,?_,by omega,by omega,by omega⟩
 ·rw[hk];exact x0f t k (by omega)
 ·rw[hk];exact e1
theorem vR{p q:Int×Int}{u a d:Nat}{x:Int}(h1:q.2-p.2=u)(h2:x-p.1=a)(h3:q.1-p.1=d):vQ p q x=(p.2+((u*a/d:Nat):Int),((u*a%d:Nat):Int),(d:Int)):=by
 simp only[vQ,h1,h2,h3]
 push_cast
 rfl
variable{C:CC}(hC:ay prog C)
include hC
theorem EV(b:Bool)(t:List (Int×Int))(x:Int)(h:ar t=true):C 96 [slx b (t.map knD),.int .i64 x,.fn 97 []] (.tup [.int .i64 (aW t x),.bool (atK t x)]) []:=by
 obtain⟨l1,l2⟩:=bu h
 have hpl:=eA t x
 obtain⟨n,hn⟩:∃n,n=aW t x:=⟨_,rfl⟩
 obtain⟨r,hr⟩:∃r,r=atK t x:=⟨_,rfl⟩
 have hlt:∀j,(hj:j<t.length)->t[j].1<x->j<n:=fun j hj h1=>hn▸kx h hj h1
 have hle:∀j,(hj:j<t.length)->x<=t[j].1->n<=j:=fun j hj h1=>hn▸fc hj h1
 rw[<- hn]at hpl ⊢
 rw[<- hr]
 rw[atK,<- hn]at hr
 refine ai hC (nf:=N96) rfl rfl ?_
 simp[N96]
 refine au (Nat×Nat) (fun s=>[(0,slx b (t.map knD)),(1,.int .i64 x),(2,.fn 97 []),(8,.int .i64 t.length),(9,.int .i64 s.1),(10,.int .i64 s.2)]) (fun s=>s.1<=n/\n<=s.2/\s.2<=t.length) (fun s=>s.2-s.1) (0,t.length) (by simp;omega) (by simp) ?_
 rintro⟨i,j⟩ ⟨h1,h2,h3⟩
 simp only at h1 h2 h3
 simp
 refine ac (fun c=>?_) (fun c=>?_)<;>simp[c]<;>simp at c
 ·obtain⟨m,hm⟩:∃m,m=(i+j)/2:=⟨_,rfl⟩
  have e1:IntKind.wrap .i64 ((i:Int)+(j:Int))=((i+j:Nat):Int):=wrap_i64 (by omega) (by omega)
  obtain⟨s,hs⟩:∃s,s=i+j:=⟨_,rfl⟩
  rw[<- hs]at e1 hm
  have e2:Int.fdiv (s:Int) (2^min 1 IntKind.u64.bits)=(m:Int):=by rw[hm];exact mW s 1
  have e3:IntKind.wrap .i64 (m:Int)=(m:Int):=wrap_i64 rfl (by omega)
  have e4:IntKind.wrap .i64 ((m:Int)+1)=((m+1:Nat):Int):=wrap_i64 (by omega) (by omega)
  have hml:m<t.length:=by omega
  simp[e1,bA s (by omega),e2,e3,hml]
  have hc:=jD hC t[m] x
  simp[knD]at hc ⊢
  refine aa hc (.inl rfl) ?_
  by_cases hmn:t[m].1<x
  ·have:=hlt m hml hmn
   simp[hmn,e4]
   exact⟨m+1,j,⟨by omega,h2,h3⟩,by omega,by omega,by omega⟩
  ·have:=hle m hml (by omega)
   have hz:¬(if x<t[m].1 then(1:Int) else 0)<0:=by split<;>omega
   simp[hmn,hz]
   exact⟨i,m,⟨by omega,by omega,by omega⟩,by omega,by omega,by omega⟩
 ·have:i=n:=by omega
  subst this
  refine ac (fun c2=>?_) (fun c2=>?_)<;>simp at c2<;>simp[c2]
  ·have hc:=jD hC t[i] x
   have hge:¬t[i].1<x:=fun e=>by have:=hlt i c2 e;omega
   have e1:t[i]! = t[i]:=x0f t i c2
   simp[knD]at hc ⊢
   refine aa hc (.inl rfl) ?_
   simp[hge,hr,c2,e1]
   omega
  ·have:¬i<t.length:=by omega
   simp[hr,this]
set_option maxHeartbeats 4000000 in
theorem y6(b:Bool)(t:List (Int×Int))(x:Int)(h:ar t=true):C 90 [slx b (t.map knD),.int .i64 x] (.tup [.int .i64 (bf t x).1,.int .i64 (bf t x).2.1,.int .i64 (bf t x).2.2]) []:=by
 obtain⟨l1,l2⟩:=bu h
 have hpl:=eA t x
 have hk:=EV hC b t x h
 obtain⟨p1,hp1⟩:∃z,z=(bf t x).1:=⟨_,rfl⟩
 obtain⟨p2,hp2⟩:∃z,z=(bf t x).2.1:=⟨_,rfl⟩
 obtain⟨p3,hp3⟩:∃z,z=(bf t x).2.2:=⟨_,rfl⟩
 rw[<- hp1,<- hp2,<- hp3]
 unfold bf at hp1 hp2 hp3
 refine ai hC (nf:=N90) rfl rfl ?_
 simp[N90]
 refine aa hk (.inl rfl) ?_
 cases ha:atK t x
 ·simp
  refine ac (fun c=>?_) (fun c=>?_)<;>simp at c<;>simp[c]
  ·have h0:0<t.length:=by omega
   have e0:t[0]! = t[0]:=x0f t 0 h0
   rw[if_pos (by simp[c]),c,e0]at hp1 hp2 hp3
   simp[h0,knD,hp1,hp2,hp3]
  refine ac (fun c2=>?_) (fun c2=>?_)<;>simp at c2<;>simp[c2]
  ·obtain⟨n,hn⟩:∃n,n+1=t.length:=⟨t.length-1,by omega⟩
   have e1:IntKind.wrap .i64 ((t.length:Int)-1)=(n:Int):=wrap_i64 (by omega) (by omega)
   have hnl:n<t.length:=by omega
   have e0:t[aW t x-1]! = t[n]:=by rw[show aW t x-1=n by omega];exact x0f t n hnl
   rw[if_neg (by simp[ha,c]),if_pos (by omega),e0]at hp1 hp2 hp3
   simp[e1,hnl,knD,hp1,hp2,hp3]
  ·obtain⟨k,u,a,d,q1,q2,g0,g1,r1,r2,r3,r4,r5,r6,r7,r8,r9,r10,s1,s2,r11,r12,r13⟩:=fg h c (by omega) ha
   rw[if_neg (by simp[ha,c]),if_neg (by omega),s1,s2,vR r1 r2 r3]at hp1 hp2 hp3
   simp only at hp1 hp2 hp3
   have ew1:IntKind.wrap .i64 (k:Int)=(k:Int):=wrap_i64 rfl (by omega)
   have ew2:IntKind.wrap .i64 (t[k+1].2-t[k].2)=(u:Int):=wrap_i64 r1 (by omega)
   have ew3:IntKind.wrap .i64 (x-t[k].1)=(a:Int):=wrap_i64 r2 (by omega)
   have ew4:IntKind.wrap .i64 (t[k+1].1-t[k].1)=(d:Int):=wrap_i64 r3 (by omega)
   have b1:u*a<1329227995784915872903807060280344576:=by
    have:=x0U (show u<=4503599627370496 by omega) (show a<=4503599627370496 by omega)
    omega
   have b2:u*a/d*d<=u*a:=Nat.div_mul_le_self _ _
   have b3:u*a-u*a/d*d=u*a%d:=by
    have:=x1u (u*a) d
    omega
   have b4:u*a%d<d:=x1a _ (by omega)
   have b5:u*a/d<=u:=by
    have h1:u*a<=u*d:=x1l _ (by omega)
    have h1':u*d=d*u:=x0R _ _
    exact Nat.le_of_lt_succ (x1U (by rw[x1W,x1I];omega))
   have k1:=Ba hC u a d r4 r6 r7
   have k2:=o9 hC u a (by omega) (by omega) b1
   have k3:=o9 hC (u*a/d) d (by omega) (by omega) (by omega)
   have k4:=JQ hC (u*a) (u*a/d*d) b2 b1
   have k5:=JO hC (u*a%d) (by omega)
   rw[b3]at k4
   obtain⟨v1,v2,f1⟩:=jB (u*a)
   obtain⟨v3,v4,f2⟩:=jB (u*a/d*d)
   obtain⟨v5,v6,f3⟩:=jB (u*a%d)
   rw[f1]at k2 k4
   rw[f2]at k3 k4
   rw[f3]at k4 k5
   clear b1 b2 b3 f1 f2 f3
   obtain⟨q,eq⟩:∃q,q=u*a/d:=⟨_,rfl⟩
   obtain⟨q',eq'⟩:∃q,q=(u*a+d-1)/d:=⟨_,rfl⟩
   obtain⟨m,em⟩:∃q,q=u*a%d:=⟨_,rfl⟩
   rw[<- eq]at k1 k3 b5 hp1
   rw[<- eq']at k1
   rw[<- em]at k5 hp2
   have ew5:IntKind.wrap .i64 (t[k].2+(q:Int))=t[k].2+(q:Int):=wrap_i64 rfl (by omega)
   simp[ew1,q1,g0,g1,knD]
   refine⟨ao (by decide +kernel),?_⟩
   simp[ew2,ew3,ew4]
   refine⟨ao (by decide +kernel),?_⟩
   refine aa k1 (.inl rfl) ?_
   simp
   refine aa k2 (.inr rfl) ?_
   simp
   refine aa k3 (.inr rfl) ?_
   simp
   refine aa k4 (.inr rfl) ?_
   simp
   refine aa k5 (.inl rfl) ?_
   simp[ew5,hp1,hp2,hp3]
 ·have hlt:aW t x<t.length:=by simp[atK]at ha;exact ha.1
  have e0:t[aW t x]! = t[aW t x]:=x0f t _ hlt
  rw[if_pos (by simp[ha]),e0]at hp1 hp2 hp3
  simp[hlt,knD,hp1,hp2,hp3]
theorem xt(b:Bool)(t:List (Int×Int))(x:Int)(h:ar t=true):C 73 [slx b (t.map knD),.int .i64 x] (.tup [.int .i64 (bf t x).1,.int .i64 0]) []:=by
 refine ai hC (nf:=N73) rfl rfl ?_
 simp[N73]
 refine aa (eC hC b t) (.inl rfl) ?_
 simp[h]
 refine aa (y6 hC b t x h) (.inl rfl) ?_
 simp
end Go.Gv

namespace Go.Gv
def bis(p:Nat->Bool):Nat->Nat->Nat->Nat
 | 0,lo,_=>lo
 | f+1,lo,hi=>if lo<hi then(if p ((lo+hi)/2) then bis p f lo ((lo+hi)/2) else bis p f ((lo+hi)/2+1) hi) else lo
theorem m0(p:Nat->Bool)(f lo hi:Nat)(h:hi<=lo):bis p f lo hi=lo:=by
 cases f with
 | zero=>rfl
 | succ f=>simp only[bis];rw[if_neg (by omega)]
theorem ny{p:Nat->Bool}{f lo hi:Nat}(h:lo<hi)(hf:hi-lo<2^f):∃f',hi-(lo+hi)/2<2^f/\((lo+hi)/2-lo<2^f')/\(hi-((lo+hi)/2+1)<2^f')/\bis p f lo hi=if p ((lo+hi)/2) then bis p f' lo ((lo+hi)/2) else bis p f' ((lo+hi)/2+1) hi:=by
 cases f with
 | zero=>simp at hf;omega
 | succ f =>
  rw[x1T]at hf
  refine⟨f,by rw[x1T];omega,by omega,by omega,?_⟩
  simp only[bis]
  rw[if_pos h]
theorem dg(p:Nat->Bool):∀(f lo hi:Nat),lo<=hi->lo<=bis p f lo hi/\bis p f lo hi<=hi
 | 0,lo,hi,h=>⟨x0r _,h⟩
 | f+1,lo,hi,h=>by
  simp only[bis]
  split
  ·split
   ·have:=dg p f lo ((lo+hi)/2) (by omega);omega
   ·have:=dg p f ((lo+hi)/2+1) hi (by omega);omega
  ·omega
theorem kK{p q:Nat->Bool}(h:∀n,q n=true->p n=true):∀(f lo hi:Nat),lo<=hi->bis p f lo hi<=bis q f lo hi
 | 0,lo,hi,_=>x0r _
 | f+1,lo,hi,hlh=>by
  simp only[bis]
  split
  ·cases hp:p ((lo+hi)/2)
   ·have hq:q ((lo+hi)/2)=false:=by
     cases hq:q ((lo+hi)/2)
     ·rfl
     ·rw[h _ hq]at hp;cases hp
    rw[hq]
    simp only[x0m,if_false]
    exact kK h f _ _ (by omega)
   ·cases hq:q ((lo+hi)/2)
    ·simp only[x0m,if_false,if_true]
     have h1:=dg p f lo ((lo+hi)/2) (by omega)
     have h2:=dg q f ((lo+hi)/2+1) hi (by omega)
     omega
    ·simp only[if_true]
     exact kK h f _ _ (by omega)
  ·exact x0r _
theorem cU{t:List (Int×Int)}(h:ar t=true):∀{i j:Nat} (hi:i<t.length) (hj:j<=i),t[j].2<=t[i].2:=by
 intro i
 induction i with
 | zero=>intro j hi hj;have:j=0:=(by omega);subst this;exact x0F _
 | succ i ih =>
  intro j hi hj
  rcases Nat.lt_or_eq_of_le hj with h1|rfl
  ·have h2:=((dF h hi).2.2 i rfl).2
   have:=ih (by omega) (show j<=i by omega)
   omega
  ·exact x0F _
theorem qK{t:List (Int×Int)}(h:ar t=true)(x:Int):∃i j:Nat,∃(hi:i<t.length) (hj:j<t.length),t[i].2<=(bf t x).1/\(bf t x).1<=t[j].2:=by
 obtain⟨l1,l2⟩:=bu h
 have hpl:=eA t x
 unfold bf
 cases ha:atK t x
 ·by_cases c:aW t x=0
  ·have h0:0<t.length:=by omega
   rw[if_pos (by simp[c]),c,x0f t 0 h0]
   exact⟨0,0,h0,h0,x0F _,x0F _⟩
  rw[if_neg (by simp[c])]
  by_cases c2:aW t x=t.length
  ·obtain⟨n,hn⟩:∃n,n+1=t.length:=⟨t.length-1,by omega⟩
   have hnl:n<t.length:=by omega
   rw[if_pos c2,show aW t x-1=n by omega,x0f t n hnl]
   exact⟨n,n,hnl,hnl,x0F _,x0F _⟩
  ·obtain⟨k,u,a,d,q1,q2,g0,g1,r1,r2,r3,r4,r5,r6,r7,r8,r9,r10,s1,s2,r11,r12,r13⟩:=fg h c (by omega) ha
   rw[if_neg c2,s1,s2,vR r1 r2 r3]
   have b5:u*a/d<=u:=by
    have h1:u*a<=u*d:=x1l _ (by omega)
    have h1':u*d=d*u:=x0R _ _
    exact Nat.le_of_lt_succ (x1U (by rw[x1W,x1I];omega))
   generalize u*a/d=q at b5
   exact⟨k,k+1,g0,g1,by simp only;omega,by simp only;omega⟩
 ·have hlt:aW t x<t.length:=by simp[atK]at ha;exact ha.1
  rw[if_pos (by simp),x0f t _ hlt]
  exact⟨_,_,hlt,hlt,x0F _,x0F _⟩
theorem qL{t:List (Int×Int)}(h:ar t=true)(x:Int):t[0]!.2<=(bf t x).1/\(bf t x).1<=(db t).2:=by
 obtain⟨l1,l2⟩:=bu h
 obtain⟨i,j,hi,hj,h1,h2⟩:=qK h x
 obtain⟨n,hn⟩:∃n,n+1=t.length:=⟨t.length-1,by omega⟩
 have h0:0<t.length:=by omega
 rw[cd hn,x0f t 0 h0]
 have k1:=cU h hi (show 0<=i by omega)
 have k2:=cU h (show n<t.length by omega) (show j<=n by omega)
 omega
def i7(s:Sec)(depth fall len:Int):Nat:=dw ((bf s.conv depth).1.toNat*(bf s.conv depth).1.toNat*fall.toNat/len.toNat)
def bX(s:Sec)(flow fall len:Int)(m:Nat):Bool:=decide (flow<=(i7 s m fall len:Int))
def gK(s:Sec)(flow fall len:Int):Nat:=bis (bX s flow fall len) 40 0 (s.height.toNat+1)
def cF(s:Sec)(flow fall len:Int):Int×Int :=
 if aq s then(if 0<=flow/\flow<=1099511627776/\bE fall len=true then(if s.height.toNat<gK s flow fall len then(0,28) else(gK s flow fall len,0)) else(0,2)) else(0,1)
theorem kQ{s:Sec}(h:aq s=true)(x:Int):0<=(bf s.conv x).1/\(bf s.conv x).1<=1099511627776:=by
 obtain⟨h1,h2,h3,h4⟩:=dR h
 have hr:=qL h1 x
 simp only[aq,bH,x0a,x0c,x0q]at h
 have h0:=h.2.1.1.2.2
 omega
variable{C:CC}(hC:ay prog C)
include hC
theorem tn(s:Sec)(depth fall len:Int)(hv:aq s=true)(hs:bE fall len=true):C 61 [.agg (aS s),.int .i64 depth,.int .i64 fall,.int .i64 len] (.tup [.int .i64 (i7 s depth fall len),.int .i64 0]) []:=by
 obtain⟨c1,_,_,_⟩:=dR hv
 obtain⟨c3,c4⟩:=kQ hv depth
 simp only[bE,x0a,x0c]at hs
 have hF:=xt hC s.convN s.conv depth c1
 obtain⟨k,hk⟩:∃k:Nat,(bf s.conv depth).1=k:=⟨(bf s.conv depth).1.toNat,by omega⟩
 obtain⟨f,rfl⟩:∃f:Nat,fall=f:=⟨fall.toNat,by omega⟩
 obtain⟨l,rfl⟩:∃l:Nat,len=l:=⟨len.toNat,by omega⟩
 have hcap:i7 s depth f l=dw (k*k*f/l):=by simp[i7,hk]
 rw[hk]at hF
 rw[hcap]
 have hb:=tm (k:=k) (f:=f) (by omega) (by omega)
 have hb0:k*k<=1208925819614629174706176:=x0U (show k<=1099511627776 by omega) (show k<=1099511627776 by omega)
 have hb2:=Nat.div_le_self (k*k*f) l
 refine ai hC (nf:=N61) rfl rfl ?_
 simp[N61,aS]
 refine aa hF (.inl rfl) ?_
 simp
 refine aa (pR hC k k (by omega) (by omega)) (.inl rfl) ?_
 have v:∀x,isV (bz x)=true/\(∀f:Nat->D,bW f (bz x))/\(∀f:Nat->D,dp f (bz x)=bz x)/\∀ks,aP ks (bz x)=bz x:=fun x=>⟨rfl,fun _=>trivial,fun _=>rfl,fun _=>by simp[bz]⟩
 simp[v]
 refine aa (vx hC (k*k) f (by omega) (by omega) (by omega)) (.inl rfl) ?_
 simp[v]
 refine aa (y5 hC (k*k*f) l (by omega) (by omega) (by omega)) (.inl rfl) ?_
 simp[v]
 refine aa (zZ hC (k*k*f/l)) (.inl rfl) ?_
 simp
theorem A6(s:Sec)(flow fall len:Int):C 165 [.agg (aS s),.int .i64 flow,.int .i64 fall,.int .i64 len] (.tup [.int .i64 (cF s flow fall len).1,.int .i64 (cF s flow fall len).2]) []:=by
 obtain⟨r,hr⟩:∃r,r=cF s flow fall len:=⟨_,rfl⟩
 rw[<- hr]
 unfold cF at hr
 have hvc:=rb hC s
 have hsl:=vj hC fall len
 have es:(decide (0<=fall)&&decide (fall<=4194304)&&decide (1<=len)&&decide (len<=16777216))=bE fall len:=rfl
 rw[es]at hsl
 rw[aS]at hvc
 refine ai hC (nf:=N165) rfl rfl ?_
 simp[N165,aS]
 refine aa hvc (.inl rfl) ?_
 cases hv:aq s
 ·rw[if_neg (by simp[hv])]at hr
  simp[hr]
 rw[if_pos hv]at hr
 have hh:1<=s.height/\s.height<=32768:=by
  simp only[aq,x0a,x0c]at hv
  omega
 obtain⟨H,hH⟩:∃H:Nat,s.height=H:=⟨s.height.toNat,by omega⟩
 simp
 refine ac (fun c1=>?_) (fun c1=>?_)<;>simp at c1<;>simp[c1]
 ·rw[if_neg (by omega)]at hr
  simp[hr]
 refine ac (fun c2=>?_) (fun c2=>?_)<;>simp at c2<;>simp[c2]
 ·rw[if_neg (by omega)]at hr
  simp[hr]
 refine aa hsl (.inl rfl) ?_
 cases hs:bE fall len
 ·rw[if_neg (by simp[hs])]at hr
  simp[hr]
 rw[if_pos ⟨by omega,by omega,hs⟩]at hr
 have e1:IntKind.wrap .i64 (s.height+1)=((H+1:Nat):Int):=wrap_i64 (by omega) (by omega)
 simp[e1]
 refine⟨ao (by decide +kernel),?_⟩
 have hl:gK s flow fall len=bis (bX s flow fall len) 40 0 (H+1):=by rw[gK,hH];rfl
 obtain⟨L,hL⟩:∃L,L=gK s flow fall len:=⟨_,rfl⟩
 rw[<- hL]at hl hr
 rw[hH]at hr
 have hcc:=fun m:Nat=>tn hC s m fall len hv hs
 simp only[aS,hH]at hcc
 simp only[hH]
 refine au (Nat×Nat×Nat) (fun z=>[(1,.int .i64 flow),(2,.int .i64 fall),(3,.int .i64 len),(4,.ptr [.str s.name,.int .i64 H,.int .i64 s.price,slx s.areaN (s.area.map knD),slx s.convN (s.conv.map knD)]),(10,.int .i64 z.2.1),(11,.int .i64 z.2.2)])
  (fun z=>z.2.1<=z.2.2/\z.2.2<=H+1/\z.2.2-z.2.1<2^z.1/\bis (bX s flow fall len) z.1 z.2.1 z.2.2=L) (fun z=>z.2.2-z.2.1) (40,0,H+1) ⟨by simp,by simp,by simp;omega,by rw[hl]⟩ (by simp) ?_
 rintro⟨f,lo,hi⟩ ⟨i1,i2,i3,i4⟩
 simp only at i1 i2 i3 i4
 simp
 refine ac (fun c=>?_) (fun c=>?_)<;>simp at c<;>simp[c]
 ·obtain⟨f',_,j2,j3,j4⟩:=ny (p:=bX s flow fall len) c i3
  obtain⟨sm,hsm⟩:∃sm,sm=lo+hi:=⟨_,rfl⟩
  rw[<- hsm]at j2 j3 j4
  obtain⟨m,hm⟩:∃m,m=sm/2:=⟨_,rfl⟩
  rw[<- hm]at j2 j3 j4
  have e2:IntKind.wrap .i64 ((lo:Int)+(hi:Int))=(sm:Int):=wrap_i64 (by omega) (by omega)
  have e3:Int.tdiv (sm:Int) 2=(m:Int):=by rw[hm];exact oM sm 2
  have e4:IntKind.wrap .i64 (m:Int)=(m:Int):=wrap_i64 rfl (by omega)
  have e5:IntKind.wrap .i64 ((m:Int)+1)=((m+1:Nat):Int):=wrap_i64 (by omega) (by omega)
  rw[i4]at j4
  simp[e2,e3,e4]
  refine aa (hcc m) (.inl rfl) ?_
  simp
  refine ac (fun c3=>?_) (fun c3=>?_)<;>simp at c3<;>simp[c3]
  ·rw[if_pos (by simp[bX,c3])]at j4
   exact⟨f',lo,m,⟨by omega,by omega,j2,j4.symm⟩,by omega,by omega,by omega⟩
  ·rw[if_neg (by simp[bX];omega)]at j4
   simp[e5]
   exact⟨f',m+1,hi,⟨by omega,by omega,j3,j4.symm⟩,by omega,by omega,by omega⟩
 ·rw[m0 _ _ _ _ c]at i4
  subst i4
  refine ac (fun c3=>?_) (fun c3=>?_)<;>simp at c3<;>simp[c3]
  ·rw[if_pos (by simp;omega)]at hr
   simp[hr]
  ·rw[if_neg (by simp;omega)]at hr
   simp[hr]
end Go.Gv

namespace Go.Gv
def cg(k flow len n:Nat):Bool:=decide (flow*flow*len<=k*k*n)
def fw(k flow len:Nat):Int×Int:=if flow=0 then(0,0) else if k=0 then(0,16) else if cg k flow len 1073741824 then(bis (cg k flow len) 40 0 1073741824,0) else(0,5)
def cf(l:Lnk)(s:Sec)(flow:Int):Int×Int:=fw (db s.conv).2.toNat flow.toNat l.len.toNat
theorem Ay{q n:Nat}(hq:q<=1099511627776)(hn:n<=1073741824):q*q*n<=1298074214633706907132624082305024:=x0U (x0U hq hq) hn
variable{C:CC}(hC:ay prog C)
include hC
theorem sW(q n:Nat)(hq:q<9223372036854775808)(hn:n<9223372036854775808)(hx:q*q<340282366920938463463374607431768211456)(hxk:q*q*n<340282366920938463463374607431768211456):C 166 [.int .i64 q,.int .i64 n] (.tup [.int .u64 ((q*q*n/18446744073709551616:Nat):Int),.int .u64 ((q*q*n%18446744073709551616:Nat):Int)]) []:=by
 have k1:=iy hC q q (by omega) (by omega)
 obtain⟨x,hxx⟩:∃x,x=q*q:=⟨_,rfl⟩
 rw[<- hxx]at hx hxk k1 ⊢
 have e:=qH (x:=x) (k:=n)
 obtain⟨h,hh⟩:∃h,h=x/18446744073709551616:=⟨_,rfl⟩
 obtain⟨l,hl⟩:∃l,l=x%18446744073709551616:=⟨_,rfl⟩
 have hh':h<18446744073709551616:=by omega
 have hl':l<18446744073709551616:=by omega
 rw[<- hh,<- hl]at e k1
 have k2:=iy hC l n hl' (by omega)
 obtain⟨p,hp⟩:∃p,p=l*n/18446744073709551616:=⟨_,rfl⟩
 obtain⟨r,hr⟩:∃r,r=l*n%18446744073709551616:=⟨_,rfl⟩
 rw[<- hp,<- hr]at e k2
 have hq':r<18446744073709551616:=by omega
 obtain⟨z,hz⟩:∃z,z=h*n:=⟨_,rfl⟩
 obtain⟨y,hy⟩:∃y,y=x*n:=⟨_,rfl⟩
 rw[<- hz,<- hy]at e
 rw[<- hy]at hxk ⊢
 obtain⟨t,ht⟩:∃t,t=z+p:=⟨_,rfl⟩
 rw[<- ht]at e
 have e1:y/18446744073709551616=t:=by omega
 have e2:y%18446744073709551616=r:=by omega
 have ht':t<18446744073709551616:=by omega
 have et:IntKind.u64.wrap ((p:Int)+IntKind.u64.wrap ((h:Int)*(n:Int)))=(t:Int):=by
  rw[qG h n,<- hz,fy,fy]
  clear hxk hx e e1 e2 hr hp hl hh hy hz
  omega
 rw[e1,e2]
 clear e1 e2 e hh hl hx hxk hxx hp hr hz hy ht
 refine ai hC (nf:=N166) rfl rfl ?_
 simp[N166,bA q (by omega),bA n (by omega)]
 refine aa k1 (.inl rfl) ?_
 simp[bA n (by omega)]
 refine aa k2 (.inl rfl) ?_
 simp[et,bA n (by omega)]
theorem yk(k n a b:Nat)(hk:k<=1099511627776)(hn:n<=1073741824)(hb:b<18446744073709551616):C 167 [.int .i64 n,.ptr [.int .i64 k],.ptr [.int .u64 a],.ptr [.int .u64 b]] (.bool (decide (a*18446744073709551616+b<=k*k*n))) []:=by
 have h1:=Ay hk hn
 have h2:k*k<=1208925819614629174706176:=x0U hk hk
 have k1:=sW hC k n (by omega) (by omega) (by omega) (by omega)
 obtain⟨z,hz⟩:∃z,z=k*k*n:=⟨_,rfl⟩
 rw[<- hz]at k1 ⊢
 obtain⟨h,hh⟩:∃h,h=z/18446744073709551616:=⟨_,rfl⟩
 obtain⟨l,hl⟩:∃l,l=z%18446744073709551616:=⟨_,rfl⟩
 rw[<- hh,<- hl]at k1
 have e:decide (a*18446744073709551616+b<=z)=(decide (a<h)||(decide (h=a)&&decide (b<=l))):=by
  rw[x0z];simp;omega
 rw[e]
 clear hz h1 h2
 refine ai hC (nf:=N167) rfl rfl ?_
 simp[N167]
 refine aa k1 (.inl rfl) ?_
 simp
 refine ac (fun c=>?_) (fun c=>?_)<;>simp at c<;>simp[c]
 refine ac (fun c2=>?_) (fun c2=>?_)<;>simp at c2<;>simp[c2]
 ·simp[show ¬a<h by omega,show h=a by omega]
 ·omega
theorem tV(l:Lnk)(s:Sec)(flow:Int)(hv:aq s=true)(hl:1<=l.len/\l.len<=16777216)(hf:0<=flow/\flow<=1099511627776):C 163 [.agg (aA l),.agg (aS s),.int .i64 flow] (.tup [.int .i64 (cf l s flow).1,.int .i64 (cf l s flow).2]) []:=by
 obtain⟨c1,c2,c3,c4⟩:=dR hv
 obtain⟨l1,l2⟩:=bu c1
 obtain⟨m,hm⟩:∃m,m+1=s.conv.length:=⟨s.conv.length-1,by omega⟩
 have hml:m<s.conv.length:=by omega
 have e1:IntKind.wrap .i64 ((s.conv.length:Int)-1)=(m:Int):=wrap_i64 (by omega) (by omega)
 obtain⟨k,hk⟩:∃k:Nat,(db s.conv).2=k:=⟨(db s.conv).2.toNat,by omega⟩
 obtain⟨f,rfl⟩:∃f:Nat,flow=f:=⟨flow.toNat,by omega⟩
 obtain⟨n,hn⟩:∃n:Nat,l.len=n:=⟨l.len.toNat,by omega⟩
 have hk':s.conv[m].2=k:=by rw[<- hk,cd hm]
 obtain⟨r,hr⟩:∃r,r=cf l s f:=⟨_,rfl⟩
 rw[<- hr]
 rw[cf,hk,hn]at hr
 simp only[x1m]at hr
 unfold fw at hr
 have g1:f*f*n<=1298074214633706907132624082305024:=Ay (by omega) (by omega)
 have g2:f*f<=1208925819614629174706176:=x0U (show f<=1099511627776 by omega) (show f<=1099511627776 by omega)
 have k1:=sW hC f n (by omega) (by omega) (by omega) (by omega)
 obtain⟨F,hF⟩:∃F,F=f*f*n:=⟨_,rfl⟩
 obtain⟨a,ha⟩:∃a,a=F/18446744073709551616:=⟨_,rfl⟩
 obtain⟨b,hb⟩:∃b,b=F%18446744073709551616:=⟨_,rfl⟩
 rw[<- hF,<- ha,<- hb]at k1
 have hab:a*18446744073709551616+b=F:=by omega
 have k2:=fun(i:Nat) (hi:i<=1073741824)=>yk hC k i a b (by omega) hi (by omega)
 have hen:∀i,decide (a*18446744073709551616+b<=k*k*i)=cg k f n i:=fun i=>by rw[cg,hab,hF]
 simp only[hen]at k2
 clear g1 g2 hF ha hb hab hen
 refine ai hC (nf:=N163) rfl rfl ?_
 simp[N163,aA,aS]
 refine ac (fun c=>?_) (fun c=>?_)<;>simp at c<;>simp[c]
 ·rw[if_pos (by omega)]at hr
  simp[hr]
 rw[if_neg (by omega)]at hr
 simp[e1,hml,knD,hk']
 refine ac (fun c5=>?_) (fun c5=>?_)<;>simp at c5<;>simp[c5]
 ·rw[if_pos (by omega)]at hr
  simp[hr]
 rw[if_neg (by omega)]at hr
 simp[hn]
 refine aa k1 (.inl rfl) ?_
 simp
 have k3:=k2 1073741824 (by omega)
 rw[show((1073741824:Nat):Int)=1073741824 from rfl]at k3
 refine aa k3 (.inl rfl) ?_
 cases h3:cg k f n 1073741824
 ·rw[if_neg (by simp[h3])]at hr
  simp[hr]
 rw[if_pos h3]at hr
 simp
 obtain⟨L,hL⟩:∃L,L=bis (cg k f n) 40 0 1073741824:=⟨_,rfl⟩
 rw[<- hL]at hr
 refine au (Nat×Nat×Nat) (fun z=>[(11,.fnx 167 [.adr (.r 10128) 0 0,.adr (.r 10144) 0 0,.adr (.r 10160) 0 0]),(12,.int .i64 z.2.1),(13,.int .i64 z.2.2),(10128,.blk 1 [[.int .i64 k]]),(10144,.blk 1 [[.int .u64 a]]),(10160,.blk 1 [[.int .u64 b]])])
  (fun z=>z.2.1<=z.2.2/\z.2.2<=1073741824/\z.2.2-z.2.1<2^z.1/\bis (cg k f n) z.1 z.2.1 z.2.2=L) (fun z=>z.2.2-z.2.1) (40,0,1073741824) ⟨by simp,by simp,by simp,by rw[hL]⟩ (by simp) ?_
 rintro⟨fu,lo,hi⟩ ⟨i1,i2,i3,i4⟩
 simp only at i1 i2 i3 i4
 simp
 refine ac (fun c=>?_) (fun c=>?_)<;>simp at c<;>simp[c]
 ·obtain⟨f',_,j2,j3,j4⟩:=ny (p:=cg k f n) c i3
  obtain⟨sm,hsm⟩:∃sm,sm=lo+hi:=⟨_,rfl⟩
  rw[<- hsm]at j2 j3 j4
  obtain⟨m,hm⟩:∃m,m=sm/2:=⟨_,rfl⟩
  rw[<- hm]at j2 j3 j4
  have e2:IntKind.wrap .i64 ((lo:Int)+(hi:Int))=(sm:Int):=wrap_i64 (by omega) (by omega)
  have e3:Int.tdiv (sm:Int) 2=(m:Int):=by rw[hm];exact oM sm 2
  have e4:IntKind.wrap .i64 (m:Int)=(m:Int):=wrap_i64 rfl (by omega)
  have e5:IntKind.wrap .i64 ((m:Int)+1)=((m+1:Nat):Int):=wrap_i64 (by omega) (by omega)
  rw[i4]at j4
  simp[e2,e3,e4]
  refine aa (k2 m (by omega)) (.inl rfl) ?_
  cases h4:cg k f n m
  ·rw[if_neg (by simp[h4])]at j4
   simp[e5]
   exact⟨f',m+1,hi,⟨by omega,by omega,j3,j4.symm⟩,by omega,by omega,by omega⟩
  ·rw[if_pos h4]at j4
   simp
   exact⟨f',lo,m,⟨by omega,by omega,j2,j4.symm⟩,by omega,by omega,by omega⟩
 ·rw[m0 _ _ _ _ c]at i4
  subst i4
  simp[hr]
end Go.Gv

namespace Go.Gv
def nB(x b:Nat):Nat:=if x%b=0 then x/b else x/b+1
def nS(k f n:Nat):Int×Int:=if f=0 then(0,0) else if k=0 then(0,16) else if 1073741824<nB (f*f*n) (k*k) then(0,5) else(nB (f*f*n) (k*k),0)
def ia(l:Lnk)(s:Sec)(flow:Int):Int×Int:=nS (db s.conv).2.toNat flow.toNat l.len.toNat
variable{C:CC}(hC:ay prog C)
include hC
theorem Ac(x n:Nat)(hn:n<18446744073709551616)(hx:x<340282366920938463463374607431768211456)(hxk:x*n<340282366920938463463374607431768211456):C 195 [bz x,.int .u64 n] (bz (x*n)) []:=by
 have e:=qH (x:=x) (k:=n)
 obtain⟨h,hh⟩:∃h,h=x/18446744073709551616:=⟨_,rfl⟩
 obtain⟨l,hl⟩:∃l,l=x%18446744073709551616:=⟨_,rfl⟩
 have hh':h<18446744073709551616:=by omega
 have hl':l<18446744073709551616:=by omega
 rw[<- hh,<- hl]at e
 have k2:=om hC l n hl' hn
 rw[bz]at k2
 obtain⟨p,hp⟩:∃p,p=l*n/18446744073709551616:=⟨_,rfl⟩
 obtain⟨r,hr⟩:∃r,r=l*n%18446744073709551616:=⟨_,rfl⟩
 rw[<- hp,<- hr]at e k2
 have hq':r<18446744073709551616:=by omega
 obtain⟨z,hz⟩:∃z,z=h*n:=⟨_,rfl⟩
 obtain⟨y,hy⟩:∃y,y=x*n:=⟨_,rfl⟩
 rw[<- hz,<- hy]at e
 rw[<- hy]at hxk ⊢
 obtain⟨t,ht⟩:∃t,t=z+p:=⟨_,rfl⟩
 rw[<- ht]at e
 have e1:y/18446744073709551616=t:=by omega
 have e2:y%18446744073709551616=r:=by omega
 have ht':t<18446744073709551616:=by omega
 have et:IntKind.u64.wrap ((p:Int)+IntKind.u64.wrap ((h:Int)*(n:Int)))=(t:Int):=by
  rw[qG h n,<- hz,fy,fy]
  clear hxk hx e e1 e2 hr hp hl hh hy hz
  omega
 rw[bz,bz,e1,e2,<- hh,<- hl]
 clear e1 e2 e hh hl hx hxk hp hr hz hy ht
 refine ai hC (nf:=N195) rfl rfl ?_
 simp[N195]
 refine aa k2 (.inr rfl) ?_
 simp[et]
theorem zG(q:Nat)(h:q+1<340282366920938463463374607431768211456):C 83 [bz q,.agg [.int .u64 0,.int .u64 1]] (bz (q+1)) []:=by
 obtain⟨qh,hqh⟩:∃z,z=q/18446744073709551616:=⟨_,rfl⟩
 obtain⟨ql,hql⟩:∃z,z=q%18446744073709551616:=⟨_,rfl⟩
 obtain⟨rh,hrh⟩:∃z,z=(q+1)/18446744073709551616:=⟨_,rfl⟩
 obtain⟨rl,hrl⟩:∃z,z=(q+1)%18446744073709551616:=⟨_,rfl⟩
 rw[bz,bz,<- hqh,<- hql,<- hrh,<- hrl]
 have w1:IntKind.u64.wrap ((ql:Int)+1)=(rl:Int):=uw (by omega) (by omega)
 have w2:IntKind.u64.wrap (qh:Int)=(qh:Int):=bA qh (by omega)
 have w3:rl<ql->IntKind.u64.wrap ((qh:Int)+1)=(rh:Int):=fun h=>uw (by omega) (by omega)
 have w4:¬rl<ql->qh=rh:=fun h=>by omega
 refine ai hC (nf:=N83) rfl rfl ?_
 simp[N83,w1,w2]
 refine ac (fun c=>?_) (fun c=>?_)<;>simp at c<;>simp[c]
 ·exact w3 c
 ·rw[w4 (by omega)]
theorem yP(l:Lnk)(s:Sec)(flow:Int)(hv:aq s=true)(hl:1<=l.len/\l.len<=16777216)(hf:0<=flow/\flow<=1099511627776):C 191 [.agg (aA l),.agg (aS s),.int .i64 flow] (.tup [.int .i64 (ia l s flow).1,.int .i64 (ia l s flow).2]) []:=by
 obtain⟨c1,c2,c3,c4⟩:=dR hv
 obtain⟨l1,l2⟩:=bu c1
 obtain⟨m,hm⟩:∃m,m+1=s.conv.length:=⟨s.conv.length-1,by omega⟩
 have hml:m<s.conv.length:=by omega
 have e1:IntKind.wrap .i64 ((s.conv.length:Int)-1)=(m:Int):=wrap_i64 (by omega) (by omega)
 obtain⟨k,hk⟩:∃k:Nat,(db s.conv).2=k:=⟨(db s.conv).2.toNat,by omega⟩
 obtain⟨f,rfl⟩:∃f:Nat,flow=f:=⟨flow.toNat,by omega⟩
 obtain⟨n,hn⟩:∃n:Nat,l.len=n:=⟨l.len.toNat,by omega⟩
 have hk':s.conv[m].2=k:=by rw[<- hk,cd hm]
 obtain⟨r,hr⟩:∃r,r=ia l s f:=⟨_,rfl⟩
 rw[<- hr]
 rw[ia,hk,hn]at hr
 simp only[x1m]at hr
 unfold nS at hr
 have g1:f*f*n<=1298074214633706907132624082305024:=Ay (by omega) (by omega)
 have g2:f*f<=1208925819614629174706176:=x0U (show f<=1099511627776 by omega) (show f<=1099511627776 by omega)
 have g3:k*k<=1208925819614629174706176:=x0U (show k<=1099511627776 by omega) (show k<=1099511627776 by omega)
 have wf:IntKind.u64.wrap (f:Int)=(f:Int):=bA f (by omega)
 have wn:IntKind.u64.wrap (n:Int)=(n:Int):=bA n (by omega)
 have wk:IntKind.u64.wrap (k:Int)=(k:Int):=bA k (by omega)
 have k1:=om hC f f (by omega) (by omega)
 have k2:=Ac hC (f*f) n (by omega) (by omega) (by omega)
 have k3:=om hC k k (by omega) (by omega)
 obtain⟨a1,a2,e2⟩:∃a b:Int,bz (f*f)=.agg [.int .u64 a,.int .u64 b]:=⟨_,_,rfl⟩
 obtain⟨b1,b2,e3⟩:∃a b:Int,bz (f*f*n)=.agg [.int .u64 a,.int .u64 b]:=⟨_,_,rfl⟩
 obtain⟨d1,d2,e4⟩:∃a b:Int,bz (k*k)=.agg [.int .u64 a,.int .u64 b]:=⟨_,_,rfl⟩
 refine ai hC (nf:=N191) rfl rfl ?_
 simp[N191,aA,aS]
 refine ac (fun c=>?_) (fun c=>?_)<;>simp at c<;>simp[c]
 ·rw[if_pos (by omega)]at hr
  simp[hr]
 rw[if_neg (by omega)]at hr
 simp[e1,hml,knD,hk']
 refine ac (fun c5=>?_) (fun c5=>?_)<;>simp at c5<;>simp[c5]
 ·rw[if_pos (by omega)]at hr
  simp[hr]
 rw[if_neg (by omega)]at hr
 have hkk:0<k*k:=Nat.mul_pos (by omega) (by omega)
 have k4:C 82 [bz (f*f*n),bz (k*k)] (.tup [bz (f*f*n/(k*k)),bz (f*f*n%(k*k))]) []:=Cm hC (f*f*n) (k*k) (by omega) hkk (by omega)
 obtain⟨X,hX⟩:∃X,X=f*f*n:=⟨_,rfl⟩
 obtain⟨K,hK⟩:∃K,K=k*k:=⟨_,rfl⟩
 rw[<- hX]at g1 k2 k4 e3 hr
 rw[<- hK]at g3 k3 k4 e4 hr hkk
 have hq:=Nat.div_le_self X K
 have hz:=x1a X hkk
 have k5:=zG hC (X/K) (by omega)
 unfold nB at hr
 obtain⟨Q,hQ⟩:∃Q,Q=X/K:=⟨_,rfl⟩
 obtain⟨Z,hZ⟩:∃Z,Z=X%K:=⟨_,rfl⟩
 rw[<- hQ]at k4 k5 hr hq
 rw[<- hZ]at k4 hr hz
 rw[e2]at k1 k2
 rw[e3]at k2 k4
 rw[e4]at k3 k4
 obtain⟨qh,hqh⟩:∃z,z=Q/18446744073709551616:=⟨_,rfl⟩
 obtain⟨ql,hql⟩:∃z,z=Q%18446744073709551616:=⟨_,rfl⟩
 obtain⟨rh,hrh⟩:∃z,z=(Q+1)/18446744073709551616:=⟨_,rfl⟩
 obtain⟨rl,hrl⟩:∃z,z=(Q+1)%18446744073709551616:=⟨_,rfl⟩
 obtain⟨zh,hzh⟩:∃z,z=Z/18446744073709551616:=⟨_,rfl⟩
 obtain⟨zl,hzl⟩:∃z,z=Z%18446744073709551616:=⟨_,rfl⟩
 simp only[bz]at k4 k5
 rw[<- hqh,<- hql,<- hzh,<- hzl]at k4
 rw[<- hqh,<- hql,<- hrh,<- hrl]at k5
 clear hX hK hQ e2 e3 e4 c1 c2 c3 c4 hk
 simp[wf,hn,wn]
 refine aa k1 (.inr rfl) ?_
 simp[wf,hn,wn]
 refine aa k2 (.inr rfl) ?_
 simp[wk]
 refine⟨ao (by decide +kernel),?_⟩
 refine aa k3 (.inr rfl) ?_
 simp
 refine aa k4 (.inr rfl) ?_
 simp
 refine⟨ao (by decide +kernel),?_⟩
 have z0:(zh=0/\zl=0)↔Z=0:=by omega
 refine ac (fun c6=>?_) (fun c6=>?_)<;>simp at c6<;>simp[c6]
 ·have hz0:¬Z=0:=fun e=>by have:=z0.2 e;rcases c6 with h|h<;>omega
  rw[if_neg hz0]at hr
  refine aa k5 (.inr rfl) ?_
  simp
  refine ac (fun c7=>?_) (fun c7=>?_)<;>simp at c7<;>simp[c7]
  ·rw[if_pos (by omega)]at hr
   simp[hr]
  refine ac (fun c8=>?_) (fun c8=>?_)<;>simp at c8<;>simp[c8]
  ·rw[if_pos (by omega)]at hr
   simp[hr]
  ·rw[if_neg (by omega)]at hr
   have w:IntKind.i64.wrap (rl:Int)=((Q+1:Nat):Int):=wrap_i64 (by omega) (by omega)
   simp[hr,w]
 ·have hz0:Z=0:=z0.1 (by omega)
  rw[if_pos hz0]at hr
  refine ac (fun c7=>?_) (fun c7=>?_)<;>simp at c7<;>simp[c7]
  ·rw[if_pos (by omega)]at hr
   simp[hr]
  refine ac (fun c8=>?_) (fun c8=>?_)<;>simp at c8<;>simp[c8]
  ·rw[if_pos (by omega)]at hr
   simp[hr]
  ·rw[if_neg (by omega)]at hr
   have w:IntKind.i64.wrap (ql:Int)=(Q:Int):=wrap_i64 (by omega) (by omega)
   simp[hr,w]
end Go.Gv

namespace Go.Gv
variable{C:CC}(hC:ay prog C)
include hC
theorem zz(c:Int):C 78 [.int .u8 c] (.bool (iC c)) []:=by
 refine ai hC (nf:=N78) rfl rfl ?_
 simp[N78,iC]
 refine ac (fun h=>?_) (fun h=>?_)<;>simp at h<;>simp[h]<;>omega
theorem pS(c:Int):C 62 [.int .u8 c] (.bool (eb c)) []:=by
 refine ai hC (nf:=N62) rfl rfl ?_
 simp[N62,eb]
 repeat' (refine ac (fun h=>?_) (fun h=>?_)<;>simp at h<;>simp[h]<;>try omega)
theorem CB(s:List UInt8)(hs:s.length<2^62):C 63 [.str s,.int .i64 0] (.int .i64 (ci s)) []:=by
 refine ai hC (nf:=N63) rfl rfl ?_
 simp[N63]
 refine au Nat (fun i=>[(0,.str s),(1,.int .i64 i)]) (fun i=>i<=ci s) (fun i=>ci s-i) 0 (by simp) (by simp) ?_
 intro i hi
 have hle:ci s<=s.length:=oP s
 by_cases hl:i<s.length
 ·simp[hl]
  refine aa (pS hC _) (.inl rfl) ?_
  have hstep:ee s[i]=true->i+1<=ci s:=lD hl hi
  have hstop:ee s[i]=false->i=ci s:=lE hl hi
  simp only[ee]at hstep hstop
  have hw:IntKind.wrap .i64 ((i:Int)+1)=((i+1:Nat):Int):=wrap_i64 (by omega) (by omega)
  cases h1:eb s[i].toNat with
  | true =>
   simp[h1,hw]at hstep ⊢
   exact⟨i+1,by omega,by omega,rfl⟩
  | false =>
   simp[h1,hl]
   refine aa (zz hC _) (.inl rfl) ?_
   cases h2:iC s[i].toNat with
   | true =>
    simp[h1,h2,hw]at hstep ⊢
    exact⟨i+1,by omega,by omega,rfl⟩
   | false =>
    simp[hl]
    refine ac (fun h3=>?_) (fun h3=>?_)<;>simp at h3
    ·simp[hw,hl]
     have:=hstep (by simp[show s[i].toNat=95 by omega])
     exact⟨i+1,this,by omega,rfl⟩
    ·have h4:¬s[i].toNat=95:=by omega
     simp[h1,h2,h4]at hstop ⊢
     omega
 ·simp[hl]
  have:i=ci s:=by omega
  omega
theorem fW(s:List UInt8):C 54 [.str s] (.bool (bD s)) []:=by
 refine ai hC (nf:=N54) rfl rfl ?_
 simp[N54]
 refine ac (fun h=>?_) (fun h=>?_)<;>simp at h
 ·subst h
  simp[bD]
 ·have hp:0<s.length:=List.length_pos_iff.2 h
  simp[h,hp]
  refine ac (fun h2=>?_) (fun h2=>?_)<;>simp at h2
  ·simp[h2,bD]
   omega
  ·simp[h2,hp]
   refine aa (pS hC _) (.inl rfl) ?_
   simp
   cases h3:eb s[0].toNat
   ·simp[h3,bD,h,hp]
   ·simp[h3,h2]
    refine aa (CB hC s (by omega)) (.inl rfl) ?_
    simp[bD,h,h3,show s.length<=20 by omega,hp,Int.ofNat_inj]
    rw[x0z];simp
theorem pU(n:Int):C 79 [.int .i64 n] (.bool (fp n)) []:=by
 refine ai hC (nf:=N79) rfl rfl ?_
 simp[N79,fp]
 refine ac (fun h=>?_) (fun h=>?_)<;>simp at h<;>simp[h]<;>omega
theorem oo(b:Bool)(t:List (Int×Int)):C 64 [slx b (t.map knD)] (.bool (ar t)) []:=by
 refine ai hC (nf:=N64) rfl rfl ?_
 simp[N64]
 refine ac (fun h=>?_) (fun h=>?_)<;>simp at h
 ·simp[ar,show t.length=0 by omega]
 simp[h]
 refine ac (fun h2=>?_) (fun h2=>?_)<;>simp at h2
 ·simp[ar,h,h2]
  omega
 simp
 refine au Nat (fun i=>[(0,slx b (t.map knD)),(3,.int .i64 i)]) (fun i=>i<=t.length/\∀j<i,lc t j=true) (fun i=>t.length-i) 0 (by simp) (by simp) ?_
 rintro i ⟨hi,hj⟩
 simp
 refine ac (fun h3=>?_) (fun h3=>?_)<;>simp at h3
 ·have bad:lc t i=false->ar t=false:=fun hb=>by
   simp only[ar,x1f,x1F]
   exact .inr ⟨i,by simpa using h3,by simp[hb]⟩
  have e1:t[i]! = t[i]:=x0f t i h3
  have e2:t[i-1]! = t[i-1]:=x0f t (i-1) (by omega)
  simp only[lc,e1,e2]at bad
  have hw1:IntKind.wrap .i64 ((i:Int)+1)=((i+1:Nat):Int):=wrap_i64 (by omega) (by omega)
  have next:lc t i=true->∃s':Nat,(s'<=t.length/\∀j<s',lc t j=true)/\t.length-s'<t.length-i/\s'=i+1:=fun ho =>
   ⟨i+1,⟨by omega,fun j hjj=>by
    rcases x0k.1 hjj with h|rfl
    ·exact hj j h
    ·exact ho⟩,by omega,rfl⟩
  simp only[lc,e1,e2]at next
  simp[h3,knD]
  refine aa (pU hC _) (.inl rfl) ?_
  cases f1:fp t[i].1
  ·simp
   exact bad (by simp[f1])
  simp[h3,knD]
  refine aa (pU hC _) (.inl rfl) ?_
  cases f2:fp t[i].2
  ·simp
   exact bad (by simp[f2])
  simp[h3,knD]
  refine ac (fun h4=>?_) (fun h4=>?_)<;>simp at h4
  ·have hw:IntKind.wrap .i64 ((i:Int)-1)=((i-1:Nat):Int):=wrap_i64 (by omega) (by omega)
   have h5:i-1<t.length:=by omega
   simp[h4,hw,h5,h3,knD]
   refine ac (fun h6=>?_) (fun h6=>?_)<;>simp[h6,hw,h5,h3,knD]<;>simp at h6
   ·refine⟨ao (by decide +kernel),bad ?_⟩
    simp[f1,f2]
    omega
   ·refine⟨ao (by decide +kernel),?_⟩
    refine ac (fun h7=>?_) (fun h7=>?_)<;>simp[h7,hw1]<;>simp at h7
    ·refine bad ?_
     simp[f1,f2]
     omega
    ·obtain⟨s',g1,g2,rfl⟩:=next (by simp[f1,f2,h6,h7])
     exact⟨_,g1,g2,rfl⟩
  ·have hi0:i=0:=by omega
   subst hi0
   simp at hw1
   simp[hw1]
   refine⟨ao (by decide +kernel),?_⟩
   obtain⟨s',g1,g2,rfl⟩:=next (by simp[f1,f2])
   exact⟨_,g1,g2,rfl⟩
 ·have:i=t.length:=by omega
  subst this
  simp[ar,h,h2]
  exact⟨⟨by omega,by omega⟩,hj⟩
end Go.Gv

namespace Go.Gv
def ki(l:List (Int×Int)):Bool:=ar l&&decide (0<=l[0]!.1)&&decide ((db l).1<=4194304)&&decide (0<=l[0]!.2)&&decide ((db l).2<=1099511627776)
def yH(l:Lnk):Bool :=
 if l.kind=1 then aF l.len 1 16777216&&bD l.sect&&decide (l.width=0)&&decide (l.height=0)&&decide (l.curve.length=0)
 else if l.kind=2 then decide (l.len=0)&&decide (l.down=0)&&decide (l.sect=[])&&aF l.width 1 1048576&&decide (l.height=0)&&decide (l.curve.length=0)
 else if l.kind=3 then decide (l.len=0)&&decide (l.down=0)&&decide (l.sect=[])&&aF l.width 1 32768&&aF l.height 1 32768&&decide (l.curve.length=0)
 else if l.kind=4 then decide (l.len=0)&&decide (l.down<l.up)&&decide (l.sect=[])&&decide (l.width=0)&&decide (l.height=0)&&ki l.curve
 else false
def sc(l:Lnk):Bool:=bD l.name&&bD l.src&&bD l.dst&&!decide (l.src=l.dst)&&bn l.up&&bn l.down&&yH l
variable{C:CC}(hC:ay prog C)
include hC
theorem lm(n:Int):C 199 [.int .i64 n] (.bool (bn n)) []:=by
 refine ai hC (nf:=N199) rfl rfl ?_
 simp[N199,bn]
 refine ac (fun h=>?_) (fun h=>?_)<;>simp at h<;>simp[h]<;>omega
theorem jM(n a:Int):C 200 [.int .i64 n,.int .i64 a] (.bool (aF n 1 a)) []:=by
 refine ai hC (nf:=N200) rfl rfl ?_
 simp[N200,aF]
 refine ac (fun h=>?_) (fun h=>?_)<;>simp at h<;>simp[h]<;>omega
theorem zj(b:Bool)(t:List (Int×Int)):C 201 [slx b (t.map knD)] (.bool (ki t)) []:=by
 refine ai hC (nf:=N201) rfl rfl ?_
 simp[N201]
 refine aa (oo hC b t) (.inl rfl) ?_
 cases hv:ar t
 ·simp[ki,hv]
 obtain⟨l1,l2⟩:=bu hv
 obtain⟨n,hn⟩:∃n,n+1=t.length:=⟨t.length-1,by omega⟩
 have e1:IntKind.wrap .i64 ((t.length:Int)-1)=(n:Int):=wrap_i64 (by omega) (by omega)
 have hnl:n<t.length:=by omega
 have h0:0<t.length:=by omega
 have e0:t[0]! = t[0]:=x0f t 0 h0
 rw[ki,hv,e0,cd hn]
 simp[h0,knD]
 refine ac (fun c1=>?_) (fun c1=>?_)<;>simp at c1<;>simp[c1,e1,hnl,knD,h0]
 ·refine ac (fun c2=>?_) (fun c2=>?_)<;>simp at c2<;>simp[c2,e1,hnl,knD,h0]
  ·refine ac (fun c3=>?_) (fun c3=>?_)<;>simp at c3<;>simp[c3,e1,hnl,knD,h0]
   ·omega
   ·intro _ _ _;omega
  ·omega
 ·omega
theorem BT(l:Lnk):C 194 [.agg (aA l)] (.bool (sc l)) []:=by
 have k1:=fW hC l.name
 have k2:=fW hC l.src
 have k3:=fW hC l.dst
 have k4:=lm hC l.up
 have k5:=lm hC l.down
 have k6:=fW hC l.sect
 obtain⟨r,hr⟩:∃r,r=sc l:=⟨_,rfl⟩
 rw[<- hr]
 unfold sc at hr
 refine ai hC (nf:=N194) rfl rfl ?_
 simp[N194,aA]
 refine aa k1 (.inl rfl) ?_
 cases h1:bD l.name
 ·simp[hr,h1]
 simp
 refine aa k2 (.inl rfl) ?_
 cases h2:bD l.src
 ·simp[hr,h2]
 simp
 refine aa k3 (.inl rfl) ?_
 cases h3:bD l.dst
 ·simp[hr,h3]
 simp
 refine ac (fun h4=>?_) (fun h4=>?_)<;>simp at h4<;>simp[h4]
 ·simp[hr,h4]
 refine aa k4 (.inl rfl) ?_
 cases h5:bn l.up
 ·simp[hr,h5]
 simp
 refine aa k5 (.inl rfl) ?_
 cases h6:bn l.down
 ·simp[hr,h6]
 simp
 rw[h1,h2,h3,decide_eq_false h4,h5,h6]at hr
 simp only[x0T,Bool.not_false]at hr
 unfold yH at hr
 clear k1 k2 k3 k4 k5 h1 h2 h3 h4 h5 h6
 refine ac (fun h7=>?_) (fun h7=>?_)<;>simp at h7<;>simp[h7]
 ·rw[if_pos h7]at hr
  refine aa (jM hC l.len 16777216) (.inl rfl) ?_
  cases a1:aF l.len 1 16777216
  ·simp[hr,a1]
  simp
  refine aa k6 (.inl rfl) ?_
  cases a2:bD l.sect
  ·simp[hr,a2]
  simp
  refine ac (fun a3=>?_) (fun a3=>?_)<;>simp at a3<;>simp[a3]
  rotate_left
  ·simp[hr,a3]
  refine ac (fun a4=>?_) (fun a4=>?_)<;>simp at a4<;>simp[a4]
  rotate_left
  ·simp[hr,a4]
  simp[hr,a1,a2,a3,a4]
 rw[if_neg h7]at hr
 refine ac (fun h8=>?_) (fun h8=>?_)<;>simp at h8<;>simp[h8]
 ·rw[if_pos h8]at hr
  refine ac (fun a1=>?_) (fun a1=>?_)<;>simp at a1<;>simp[a1]
  rotate_left
  ·simp[hr,a1]
  refine ac (fun a2=>?_) (fun a2=>?_)<;>simp at a2<;>simp[a2]
  rotate_left
  ·simp[hr,a2]
  refine ac (fun a3=>?_) (fun a3=>?_)<;>simp at a3<;>simp[a3]
  rotate_left
  ·simp[hr,a3]
  refine aa (jM hC l.width 1048576) (.inl rfl) ?_
  cases a4:aF l.width 1 1048576
  ·simp[hr,a4]
  simp
  refine ac (fun a5=>?_) (fun a5=>?_)<;>simp at a5<;>simp[a5]
  rotate_left
  ·simp[hr,a5]
  simp[hr,a1,a2,a3,a4,a5]
 rw[if_neg h8]at hr
 refine ac (fun h9=>?_) (fun h9=>?_)<;>simp at h9<;>simp[h9]
 ·rw[if_pos h9]at hr
  refine ac (fun a1=>?_) (fun a1=>?_)<;>simp at a1<;>simp[a1]
  rotate_left
  ·simp[hr,a1]
  refine ac (fun a2=>?_) (fun a2=>?_)<;>simp at a2<;>simp[a2]
  rotate_left
  ·simp[hr,a2]
  refine ac (fun a3=>?_) (fun a3=>?_)<;>simp at a3<;>simp[a3]
  rotate_left
  ·simp[hr,a3]
  refine aa (jM hC l.width 32768) (.inl rfl) ?_
  cases a4:aF l.width 1 32768
  ·simp[hr,a4]
  simp
  refine aa (jM hC l.height 32768) (.inl rfl) ?_
  cases a5:aF l.height 1 32768
  ·simp[hr,a5]
  simp[hr,a1,a2,a3,a4,a5]
 rw[if_neg h9]at hr
 refine ac (fun h10=>?_) (fun h10=>?_)<;>simp at h10<;>simp[h10]
 ·rw[if_pos h10]at hr
  refine ac (fun a1=>?_) (fun a1=>?_)<;>simp at a1<;>simp[a1]
  rotate_left
  ·simp[hr,a1]
  refine ac (fun a2=>?_) (fun a2=>?_)<;>simp at a2<;>simp[a2]
  rotate_left
  ·simp[hr,show ¬l.down<l.up by omega]
  refine ac (fun a3=>?_) (fun a3=>?_)<;>simp at a3<;>simp[a3]
  rotate_left
  ·simp[hr,a3]
  refine ac (fun a4=>?_) (fun a4=>?_)<;>simp at a4<;>simp[a4]
  rotate_left
  ·simp[hr,a4]
  refine ac (fun a5=>?_) (fun a5=>?_)<;>simp at a5<;>simp[a5]
  rotate_left
  ·simp[hr,a5]
  refine aa (zj hC l.curveN l.curve) (.inl rfl) ?_
  simp[hr,a1,a2,a3,a4,a5]
 ·rw[if_neg h10]at hr
  simp[hr]
end Go.Gv

namespace Go.Gv
theorem sM:∀(i x r:Nat),r+2^i<=9223372036854775808->gh x i r<9223372036854775808
 | 0,x,r,h=>by simp only[gh];simp at h;omega
 | i+1,x,r,h=>by
  rw[iJ]
  have:=x1x i
  rw[x1T]at h
  split<;>exact sM i x _ (by omega)
theorem zY(x:Nat):dw x<9223372036854775808:=sM 63 x 0 (by decide)
variable{C:CC}(hC:ay prog C)
include hC
theorem u9(x b:Nat)(hx:x<340282366920938463463374607431768211456)(hb0:0<b)(hb:b<9223372036854775808):C 66 [.agg [.int .u64 ((x/18446744073709551616:Nat):Int),.int .u64 ((x%18446744073709551616:Nat):Int),.bool false],.agg [.int .u64 0,.int .u64 b,.bool false]]
  (.agg [.int .u64 ((x/b/18446744073709551616:Nat):Int),.int .u64 ((x/b%18446744073709551616:Nat):Int),.bool false]) []:=by
 have hd:=F4 hC x b hx hb0 hb
 obtain⟨xh,hxh⟩:∃xh,xh=x/18446744073709551616:=⟨_,rfl⟩
 obtain⟨xl,hxl⟩:∃xl,xl=x%18446744073709551616:=⟨_,rfl⟩
 obtain⟨yh,hyh⟩:∃yh,yh=x/b/18446744073709551616:=⟨_,rfl⟩
 obtain⟨yl,hyl⟩:∃yl,yl=x/b%18446744073709551616:=⟨_,rfl⟩
 obtain⟨z,hz⟩:∃z,z=x%b:=⟨_,rfl⟩
 rw[<- hxh,<- hxl,<- hyh,<- hyl,<- hz]at hd
 rw[<- hxh,<- hxl,<- hyh,<- hyl]
 refine ai hC (nf:=N66) rfl rfl ?_
 simp[N66]
 refine aa hd (.inr rfl) ?_
 simp
 refine aa (qQ hC yh yl) (.inl rfl) ?_
 simp
theorem Cp(x:Nat):C 69 [.agg [.int .u64 ((x/18446744073709551616:Nat):Int),.int .u64 ((x%18446744073709551616:Nat):Int)]] (.int .u64 (dw x)) []:=by
 obtain⟨h,hh⟩:∃h,h=x/18446744073709551616:=⟨_,rfl⟩
 obtain⟨l,hl⟩:∃l,l=x%18446744073709551616:=⟨_,rfl⟩
 rw[<- hh,<- hl]
 obtain⟨N,hN⟩:∃N,N=dw x:=⟨_,rfl⟩
 rw[<- hN]
 refine ai hC (nf:=N69) rfl rfl ?_
 simp[N69]
 refine au (Nat×Nat) (fun s=>[(1,.ptr [.int .u64 (h:Int),.int .u64 (l:Int)]),(3,.int .u64 s.2),(4,.int .i64 ((63-s.1:Nat):Int))])
  (fun s=>s.1<=63/\s.2+2^s.1<=9223372036854775808/\gh x s.1 s.2=N) (fun s=>s.1) (63,0) ⟨by omega,by decide,by rw[hN];rfl⟩ (by simp) ?_
 rintro⟨i,r⟩ ⟨h1,h2,h3⟩
 simp only at h1 h2 h3
 simp
 refine ac (fun c=>?_) (fun c=>?_)<;>simp at c<;>simp[c]
 ·obtain⟨j,rfl⟩:∃j,i=j+1:=⟨i-1,by omega⟩
  have e62:IntKind.i64.wrap (62-((62-j:Nat):Int))=(j:Int):=wrap_i64 (by omega) (by omega)
  have ej:IntKind.u64.wrap (j:Int)=(j:Int):=bA j (by omega)
  have hw:IntKind.wrap .i64 (((62-j:Nat):Int)+1)=((63-j:Nat):Int):=wrap_i64 (by omega) (by omega)
  obtain⟨V,hV⟩:∃V,V=2^j:=⟨_,rfl⟩
  have hV2:2^(j+1)=2*V:=by rw[x1T,hV];omega
  rw[hV2]at h2
  have hVp:0<V:=by rw[hV];exact x1x j
  have hmin:min j IntKind.u64.bits=j:=Nat.min_eq_left (by show j<=64;omega)
  have esh:IntKind.u64.wrap (2^j)=(V:Int):=by
   have:(2:Int)^j=((2^j:Nat):Int):=by push_cast;rfl
   rw[this,<- hV];exact bA V (by omega)
  obtain⟨y,hy⟩:∃y,y=r+V:=⟨_,rfl⟩
  have ey:IntKind.u64.wrap ((r:Int)+(V:Int))=(y:Int):=uw (.inl (by omega)) (by omega)
  have hm:=om hC y y (by omega) (by omega)
  rw[bz]at hm
  obtain⟨Z,hZ⟩:∃Z,Z=y*y:=⟨_,rfl⟩
  obtain⟨zh,hzh⟩:∃zh,zh=Z/18446744073709551616:=⟨_,rfl⟩
  obtain⟨zl,hzl⟩:∃zl,zl=Z%18446744073709551616:=⟨_,rfl⟩
  rw[<- hZ,<- hzh,<- hzl]at hm
  have hls:=qP hC h l zh zl
  have hcmp:(h<zh\/(h=zh/\l<zl))↔x<Z:=by
   rw[hh,hl,hzh,hzl];omega
  have hdc:decide (h<zh\/(h=zh/\l<zl))=decide (x<Z):=decide_eq_decide.2 hcmp
  rw[hdc]at hls
  rw[iJ,<- hV,<- hy,<- hZ]at h3
  simp[e62,ej,hmin,esh,ey]
  refine aa hm (.inl rfl) ?_
  simp
  refine aa hls (.inl rfl) ?_
  simp
  refine⟨ao (by decide +kernel),?_⟩
  by_cases d:x<Z
  ·simp[d,hw]
   rw[if_neg (show ¬Z<=x by omega)]at h3
   exact⟨j,r,⟨by omega,by rw[<- hV];omega,h3⟩,by omega,rfl,rfl⟩
  ·simp[d,hw]
   rw[if_pos (show Z<=x by omega)]at h3
   exact⟨j,y,⟨by omega,by rw[<- hV];omega,h3⟩,by omega,rfl,rfl⟩
 ·obtain rfl:i=0:=by omega
  have h4:r=N:=h3
  rw[h4]
theorem zJ(a b n:Nat)(ha:a<9223372036854775808)(hb:b<9223372036854775808)(hn:0<n)(hn2:n<9223372036854775808):C 57 [.int .i64 a,.int .i64 b,.int .i64 n] (.int .i64 (dw (a*b/n))) []:=by
 have hab:a*b<340282366920938463463374607431768211456:=by
  have:a*b<=9223372036854775808*9223372036854775808:=x0U (by omega) (by omega)
  omega
 have h1:=sF hC a b ha hb
 have h2:=u9 hC (a*b) n hab hn hn2
 have h3:=Cp hC (a*b/n)
 have h4:=zY (a*b/n)
 obtain⟨P,hP⟩:∃P,P=a*b:=⟨_,rfl⟩
 rw[<- hP]at h1 h2 h3 h4 ⊢
 obtain⟨p,hp⟩:∃p,p=P/18446744073709551616:=⟨_,rfl⟩
 obtain⟨q,hq⟩:∃q,q=P%18446744073709551616:=⟨_,rfl⟩
 rw[<- hp,<- hq]at h1 h2
 obtain⟨Q,hQ⟩:∃Q,Q=P/n:=⟨_,rfl⟩
 rw[<- hQ]at h2 h3 h4 ⊢
 obtain⟨u,hu⟩:∃u,u=Q/18446744073709551616:=⟨_,rfl⟩
 obtain⟨v,hv⟩:∃v,v=Q%18446744073709551616:=⟨_,rfl⟩
 rw[<- hu,<- hv]at h2 h3
 obtain⟨N,hN⟩:∃N,N=dw Q:=⟨_,rfl⟩
 rw[<- hN]at h3 h4 ⊢
 refine ai hC (nf:=N57) rfl rfl ?_
 have hw:IntKind.i64.wrap (N:Int)=(N:Int):=wrap_i64 rfl (by omega)
 simp[N57]
 refine aa h1 (.inl rfl) ?_
 simp
 refine aa (sC hC n hn2) (.inl rfl) ?_
 simp
 refine aa h2 (.inl rfl) ?_
 simp
 refine aa h3 (.inl rfl) ?_
 simp[hw]
end Go.Gv

namespace Go.Gv
def AK(t:List (Int×Int))(x:Int):Int :=
 if aW t (x+1)=0 then t[0]!.2 else if aW t (x+1)=t.length then t[aW t (x+1)-1]!.2 else(vQ t[aW t (x+1)-1]! t[aW t (x+1)]! x).1
theorem pQ{t:List (Int×Int)}(hv:ar t=true)(x:Int):aW t (x+1)=if atK t x then aW t x+1 else aW t x:=by
 have h1:=eA t x
 have h2:=eA t (x+1)
 cases ha:atK t x
 ·rw[if_neg (by simp)]
  apply Nat.le_antisymm
  ·by_cases hl:aW t x<t.length
   ·have h3:=gD hl
    have e:t[aW t x]! = t[aW t x]:=x0f t _ hl
    simp only[atK,hl,decide_true,x0T,x0K,e]at ha
    exact fc hl (by omega)
   ·omega
  ·apply x1C
   intro h
   have h4:=gD (t:=t) (x:=x+1) (by omega)
   have h5:=lj (t:=t) (x:=x) h (by omega)
   omega
 ·rw[if_pos rfl]
  have hl:aW t x<t.length:=by simp[atK]at ha;exact ha.1
  have e:t[aW t x]! = t[aW t x]:=x0f t _ hl
  simp only[atK,hl,decide_true,x0T,x0c,e]at ha
  apply Nat.le_antisymm
  ·by_cases hl2:aW t x+1<t.length
   ·have:=ir hv (aW t x) (aW t x+1) hl2 (by omega)
    exact fc hl2 (by omega)
   ·omega
  ·have:=kx hv (x:=x+1) hl (by omega)
   omega
theorem fb{t:List (Int×Int)}{x:Int}(h:atK t x=true\/aW t x=0):(bf t x).1=t[aW t x]!.2:=by
 unfold bf;rw[if_pos (by rcases h with h|h<;>simp[h])]
theorem iH{t:List (Int×Int)}{x:Int}(h:¬atK t x=true)(h0:¬aW t x=0)(h1:aW t x=t.length):(bf t x).1=t[aW t x-1]!.2:=by
 unfold bf;rw[if_neg (by simp[h,h0]),if_pos h1]
theorem iG{t:List (Int×Int)}{x:Int}(h:¬atK t x=true)(h0:¬aW t x=0)(h1:¬aW t x=t.length):(bf t x).1=(vQ t[aW t x-1]! t[aW t x]! x).1:=by
 unfold bf;rw[if_neg (by simp[h,h0]),if_neg h1]
theorem Db{t:List (Int×Int)}(hv:ar t=true)(x:Int):AK t x=(bf t x).1:=by
 obtain⟨l1,l2⟩:=bu hv
 have hn:=pQ hv x
 unfold AK
 by_cases ha:atK t x=true
 ·rw[if_pos ha]at hn
  rw[fb (.inl ha)]
  have hl:aW t x<t.length:=by simp[atK]at ha;exact ha.1
  have e:t[aW t x]! = t[aW t x]:=x0f t _ hl
  simp only[atK,hl,decide_true,x0T,x0c,e]at ha
  rw[hn,if_neg (by omega),Nat.add_sub_cancel,e]
  by_cases h1:aW t x+1=t.length
  ·rw[if_pos h1]
  ·rw[if_neg h1]
   simp only[vQ,ha,Int.sub_self,Int.mul_zero,Int.zero_ediv,Int.add_zero]
 ·rw[if_neg ha]at hn
  rw[hn]
  by_cases h0:aW t x=0
  ·rw[if_pos h0,fb (.inr h0),h0]
  ·rw[if_neg h0]
   by_cases h1:aW t x=t.length
   ·rw[if_pos h1,iH ha h0 h1]
   ·rw[if_neg h1,iG ha h0 h1]
variable{C:CC}(hC:ay prog C)
include hC
theorem uf(b:Bool)(t:List (Int×Int))(x:Int)(hv:ar t=true):C 80 [slx b (t.map knD),.int .i64 x] (.int .i64 ((aW t (x+1):Int)-1)) []:=by
 obtain⟨l1,l2⟩:=bu hv
 have hpl:=eA t (x+1)
 have hlt:∀j,(hj:j<t.length)->t[j].1<=x->j<aW t (x+1):=fun j hj h1=>kx hv hj (by omega)
 have hge:∀j,(hj:j<t.length)->¬t[j].1<=x->aW t (x+1)<=j:=fun j hj h1=>fc hj (by omega)
 obtain⟨p,hp⟩:∃p,p=aW t (x+1):=⟨_,rfl⟩
 rw[<- hp]at hpl ⊢
 simp only[<- hp]at hlt hge
 refine ai hC (nf:=N80) rfl rfl ?_
 simp[N80]
 refine au Nat (fun i=>[(0,slx b (t.map knD)),(1,.int .i64 x),(5,.int .i64 (((if i<=p then i else p:Nat):Int)-1)),(6,.int .i64 i)]) (fun i=>i<=t.length) (fun i=>t.length-i) 0 (by simp) (by simp) ?_
 rintro i hi
 simp
 refine ac (fun h1=>?_) (fun h1=>?_)<;>simp at h1<;>simp[h1]
 ·have hw:IntKind.wrap .i64 ((i:Int)+1)=((i+1:Nat):Int):=wrap_i64 (by omega) (by omega)
  simp[h1,knD]
  refine ac (fun h2=>?_) (fun h2=>?_)<;>simp at h2<;>simp[h2,hw]
  ·have:=hlt i h1 h2
   exact⟨i+1,by omega,by omega,by rw[if_pos (by omega)];omega,by omega⟩
  ·have:=hge i h1 (by omega)
   refine⟨i+1,by omega,by omega,?_,by omega⟩
   rw[if_neg (show ¬i+1<=p by omega)]
   split<;>omega
 ·split<;>omega
theorem zE(q:Nat)(h:q<9223372036854775808):C 93 [.agg [.int .u64 0,.int .u64 q,.bool false]] (.tup [.int .i64 q,.bool true]) []:=by
 have e1:IntKind.i64.wrap (q:Int)=(q:Int):=wrap_i64 rfl (by omega)
 have e2:(q:Int)<9223372036854775808:=by omega
 refine ai hC (nf:=N93) rfl rfl ?_
 simp[N93,e1,e2]
 exact ao (by decide +kernel)
theorem ue(u a d:Nat)(hu:u<9223372036854775808)(ha:a<9223372036854775808)(hd0:0<d)(hd:d<9223372036854775808)(hq:u*a/d<9223372036854775808):C 81 [.int .i64 u,.int .i64 a,.int .i64 d] (.int .i64 (u*a/d:Nat)) []:=by
 have hx:u*a<340282366920938463463374607431768211456:=by
  have:=x0U (show u<=9223372036854775808 by omega) (show a<=9223372036854775808 by omega)
  omega
 have k1:=sF hC u a hu ha
 have k2:=sC hC d hd
 have k3:=u9 hC (u*a) d hx hd0 hd
 have k4:=zE hC (u*a/d) hq
 obtain⟨q,e⟩:∃q,q=u*a/d:=⟨_,rfl⟩
 obtain⟨xh,hxh⟩:∃z,z=u*a/18446744073709551616:=⟨_,rfl⟩
 obtain⟨xl,hxl⟩:∃z,z=u*a%18446744073709551616:=⟨_,rfl⟩
 rw[<- e]at k3 k4 hq ⊢
 rw[<- hxh,<- hxl]at k1 k3
 rw[show q/18446744073709551616=0 by omega,show q%18446744073709551616=q by omega]at k3
 clear hx hq
 simp only[Int.natCast_zero]at k3
 refine ai hC (nf:=N81) rfl rfl ?_
 simp[N81]
 refine aa k1 (.inr rfl) ?_
 simp
 refine aa k2 (.inr rfl) ?_
 simp
 refine aa k3 (.inr rfl) ?_
 simp
 refine aa k4 (.inl rfl) ?_
 simp
set_option maxRecDepth 8000 in
set_option maxHeartbeats 2000000 in
theorem wM(b:Bool)(t:List (Int×Int))(x:Int)(hv:ar t=true):∃y z:Int,C 65 [slx b (t.map knD),.int .i64 x] (.tup [.int .i64 (AK t x),.int .i64 y,.int .i64 z]) []:=by
 obtain⟨l1,l2⟩:=bu hv
 have hb:=uf hC b t x hv
 have hpl:=eA t (x+1)
 have hn:=pQ hv x
 obtain⟨r,hr⟩:∃r,r=AK t x:=⟨_,rfl⟩
 rw[<- hr]
 unfold AK at hr
 have hw:IntKind.i64.wrap ((t.length:Int)-1)=(t.length:Int)-1:=wrap_i64 rfl (by omega)
 have st:∀y z:Int,(∀K:Prop,K->K)->True:=fun _ _ _=>trivial
 by_cases h0:aW t (x+1)=0
 ·refine⟨0,1,?_⟩
  rw[if_pos h0]at hr
  rw[h0]at hb
  have hl0:0<t.length:=by omega
  have e0:t[0]! = t[0]:=x0f t 0 hl0
  rw[e0]at hr
  refine ai hC (nf:=N65) rfl rfl ?_
  simp[N65]
  refine aa hb (.inl rfl) ?_
  simp[hl0,knD,hr]
 rw[if_neg h0]at hr
 obtain⟨k,hk⟩:∃k,aW t (x+1)=k+1:=⟨aW t (x+1)-1,by omega⟩
 have hkl:k<t.length:=by omega
 have e1:t[k]! = t[k]:=x0f t k hkl
 have h2:¬(k:Int)<0:=by omega
 rw[hk]at hb
 simp only[hk,Nat.add_sub_cancel,e1]at hr
 have e2:((k+1:Nat):Int)-1=(k:Int):=by omega
 rw[e2]at hb
 by_cases h1:k+1=t.length
 ·refine⟨0,1,?_⟩
  rw[if_pos h1]at hr
  have h3:(k:Int)=(t.length:Int)-1:=by omega
  refine ai hC (nf:=N65) rfl rfl ?_
  simp[N65]
  refine aa hb (.inl rfl) ?_
  have hw':IntKind.i64.wrap ((t.length:Int)-1)=(k:Int):=wrap_i64 (by omega) (by omega)
  simp[h2,hw',hkl,knD,hr]
 ·rw[if_neg h1]at hr
  have hkl2:k+1<t.length:=by omega
  have e3:t[k+1]! = t[k+1]:=x0f t (k+1) hkl2
  rw[e3]at hr
  have f7:=(dF hv hkl2).2.2 k rfl
  have f1:=(dF hv hkl).1
  have f2:=(dF hv hkl).2.1
  have f4:=(dF hv hkl2).1
  have f5:=(dF hv hkl2).2.1
  simp only[fp,x0a,x0c]at f1 f2 f4 f5
  have hx1:t[k].1<x+1:=lj (by omega) hkl
  have hx2:x+1<=t[k+1].1:=by
   have:=gD (t:=t) (x:=x+1) (by omega)
   simp only[hk]at this
   exact this
  obtain⟨u,hu⟩:∃u:Nat,t[k+1].2-t[k].2=u:=⟨(t[k+1].2-t[k].2).toNat,by omega⟩
  obtain⟨a,ha⟩:∃a:Nat,x-t[k].1=a:=⟨(x-t[k].1).toNat,by omega⟩
  obtain⟨d,hd⟩:∃d:Nat,t[k+1].1-t[k].1=d:=⟨(t[k+1].1-t[k].1).toNat,by omega⟩
  rw[vR hu ha hd]at hr
  simp only at hr
  have b5:u*a/d<=u:=by
   have h1:u*a<=u*d:=x1l _ (by omega)
   have h1':u*d=d*u:=x0R _ _
   exact Nat.le_of_lt_succ (x1U (by rw[x1W,x1I];omega))
  have kf:=ue hC u a d (by omega) (by omega) (by omega) (by omega) (by omega)
  obtain⟨q,hq⟩:∃q,q=u*a/d:=⟨_,rfl⟩
  rw[<- hq]at kf hr b5
  have w1:IntKind.i64.wrap ((k:Int)+1)=((k+1:Nat):Int):=wrap_i64 (by omega) (by omega)
  have w2:IntKind.i64.wrap (t[k+1].2-t[k].2)=(u:Int):=wrap_i64 hu (by omega)
  have w3:IntKind.i64.wrap (t[k+1].1-t[k].1)=(d:Int):=wrap_i64 hd (by omega)
  have w4:IntKind.i64.wrap (x-t[k].1)=(a:Int):=wrap_i64 ha (by omega)
  have w5:IntKind.i64.wrap (t[k].2+(q:Int))=t[k].2+(q:Int):=wrap_i64 rfl (by omega)
  have h4:¬(k:Int)=(t.length:Int)-1:=by omega
  refine⟨IntKind.i64.wrap (IntKind.i64.wrap ((u:Int)*(a:Int))-IntKind.i64.wrap ((q:Int)*(d:Int))),(d:Int),?_⟩
  refine ai hC (nf:=N65) rfl rfl ?_
  simp[N65]
  refine aa hb (.inl rfl) ?_
  simp[h2,hw,h4,w1,hkl,hkl2,knD]
  refine⟨by omega,ao (by decide +kernel),by omega,ao (by decide +kernel),?_⟩
  rw[w2,w3,w4]
  refine aa kf (.inl rfl) ?_
  simp[hkl,knD,w5,hr]
  exact⟨ao (by decide +kernel),by rw[w4]⟩
theorem wK(b:Bool)(t:List (Int×Int))(x:Int)(hv:ar t=true):C 56 [slx b (t.map knD),.int .i64 x] (.int .i64 (bf t x).1) []:=by
 obtain⟨y,z,h⟩:=wM hC b t x hv
 rw[Db hv]at h
 refine ai hC (nf:=N56) rfl rfl ?_
 simp[N56]
 refine aa h (.inl rfl) ?_
 simp
end Go.Gv

namespace Go.Gv
variable{C:CC}(hC:ay prog C)
include hC
theorem ve(b:Bool)(t:List (Int×Int))(hgt most:Int):C 55 [slx b (t.map knD),.int .i64 hgt,.int .i64 most] (.bool (bH t hgt most)) []:=by
 refine ai hC (nf:=N55) rfl rfl ?_
 simp[N55]
 refine aa (oo hC b t) (.inl rfl) ?_
 cases hv:ar t
 ·simp[bH,hv]
 obtain⟨l1,l2⟩:=bu hv
 obtain⟨n,hn⟩:∃n,n+1=t.length:=⟨t.length-1,by omega⟩
 have e1:IntKind.wrap .i64 ((t.length:Int)-1)=(n:Int):=wrap_i64 (by omega) (by omega)
 have hnl:n<t.length:=by omega
 have h0:0<t.length:=by omega
 have e0:t[0]! = t[0]:=x0f t 0 h0
 simp[e1,hnl,h0,knD]
 rw[bH,cd hn,e0,hv]
 refine ac (fun c=>?_) (fun c=>?_)<;>simp[h0,knD]at c<;>simp[c,h0,hnl,knD]
 refine ac (fun c2=>?_) (fun c2=>?_)<;>simp[h0,knD]at c2<;>simp[c2,h0,hnl,knD]
 refine ac (fun c3=>?_) (fun c3=>?_)<;>simp[h0,knD]at c3<;>simp[c3,h0,hnl,knD]
 exact fun _=>⟨c,c2⟩
theorem sD(s:Sec):C 48 [.agg (aS s)] (.bool (aq s)) []:=by
 refine ai hC (nf:=N48) rfl rfl ?_
 simp[N48,aS]
 refine aa (fW hC s.name) (.inl rfl) ?_
 cases h1:bD s.name
 ·simp[aq,h1]
 simp
 refine ac (fun c1=>?_) (fun c1=>?_)<;>simp[c1]<;>simp at c1
 ·simp[aq];omega
 refine ac (fun c2=>?_) (fun c2=>?_)<;>simp[c2]<;>simp at c2
 ·simp[aq];omega
 refine ac (fun c3=>?_) (fun c3=>?_)<;>simp[c3]<;>simp at c3
 ·simp[aq];omega
 refine ac (fun c4=>?_) (fun c4=>?_)<;>simp[c4]<;>simp at c4
 ·simp[aq];omega
 refine aa (ve hC _ _ _ _) (.inl rfl) ?_
 cases h5:bH s.area s.height 1073741824
 ·simp[aq,h5]
 simp
 refine aa (ve hC _ _ _ _) (.inl rfl) ?_
 have d1:1<=s.height:=by omega
 simp[aq,h1,d1,c2,c3,c4,h5]
end Go.Gv

namespace Go.Gv
def dz(s:Sec)(flow fall len:Int):Int×Int :=
 if aq s then(if 0<=flow/\flow<=1099511627776/\bE fall len=true then(if (i7 s s.height fall len:Int)<flow then(0,28) else(bis (bX s flow fall len) 40 0 s.height.toNat,0)) else(0,2)) else(0,1)
variable{C:CC}(hC:ay prog C)
include hC
theorem zM(n l:Int):C 202 [.int .i64 n,.int .i64 l] (.bool (bE n l)) []:=by
 refine ai hC (nf:=N202) rfl rfl ?_
 simp[N202,bE]
 refine ac (fun h=>?_) (fun h=>?_)<;>simp at h<;>simp[h]
 ·refine ac (fun h2=>?_) (fun h2=>?_)<;>simp at h2<;>simp[h2]
  ·refine ac (fun h3=>?_) (fun h3=>?_)<;>simp at h3<;>simp[h3]<;>omega
  ·omega
 ·omega
theorem sA(s:Sec)(depth fall len:Int)(hs:aq s=true)(hsl:bE fall len=true):C 50 [.agg (aS s),.int .i64 depth,.int .i64 fall,.int .i64 len] (.int .i64 (i7 s depth fall len)) []:=by
 obtain⟨h1,_,_,_⟩:=dR hs
 obtain⟨h3,h4⟩:=kQ hs depth
 have hf:=wK hC s.convN s.conv depth h1
 obtain⟨y,hy⟩:∃y:Nat,(bf s.conv depth).1=(y:Int):=⟨(bf s.conv depth).1.toNat,by omega⟩
 simp only[bE,x0a,x0c]at hsl
 obtain⟨f,rfl⟩:∃f:Nat,fall=(f:Int):=⟨fall.toNat,by omega⟩
 obtain⟨n,rfl⟩:∃n:Nat,len=(n:Int):=⟨len.toNat,by omega⟩
 rw[i7,hy,x1m,x1m,x1m,x1g]
 rw[hy]at hf h3 h4
 have hyf:y*f<=1099511627776*4194304:=x0U (by omega) (by omega)
 have hr:=zJ hC y (y*f) n (by omega) (by omega) (by omega) (by omega)
 have hw:IntKind.i64.wrap ((y:Int)*(f:Int))=((y*f:Nat):Int):=wrap_i64 (by push_cast;rfl) (by omega)
 obtain⟨N,hN⟩:∃N,N=dw (y*(y*f)/n):=⟨_,rfl⟩
 rw[<- hN]at hr ⊢
 obtain⟨g,hg⟩:∃g,g=y*f:=⟨_,rfl⟩
 rw[<- hg]at hr hw
 refine ai hC (nf:=N50) rfl rfl ?_
 simp[N50,aS]
 refine aa hf (.inl rfl) ?_
 simp[hw]
 refine aa hr (.inl rfl) ?_
 simp
theorem zu(s:Sec)(flow fall len:Int):C 197 [.agg (aS s),.int .i64 flow,.int .i64 fall,.int .i64 len] (.tup [.int .i64 (dz s flow fall len).1,.int .i64 (dz s flow fall len).2]) []:=by
 obtain⟨r,hr⟩:∃r,r=dz s flow fall len:=⟨_,rfl⟩
 rw[<- hr]
 unfold dz at hr
 have hvc:=sD hC s
 have hsl:=zM hC fall len
 have hcc:=fun(m:Int) (hv:aq s=true) (hs:bE fall len=true)=>sA hC s m fall len hv hs
 simp only[aS]at hvc hcc
 refine ai hC (nf:=N197) rfl rfl ?_
 simp[N197,aS]
 refine aa hvc (.inl rfl) ?_
 cases hv:aq s
 ·rw[if_neg (by simp[hv])]at hr
  simp[hr]
 rw[if_pos hv]at hr
 have hh:1<=s.height/\s.height<=32768:=by
  simp only[aq,x0a,x0c]at hv
  omega
 obtain⟨H,hH⟩:∃H:Nat,s.height=H:=⟨s.height.toNat,by omega⟩
 simp
 refine ac (fun c1=>?_) (fun c1=>?_)<;>simp at c1<;>simp[c1]
 ·rw[if_neg (by omega)]at hr
  simp[hr]
 refine ac (fun c2=>?_) (fun c2=>?_)<;>simp at c2<;>simp[c2]
 ·rw[if_neg (by omega)]at hr
  simp[hr]
 refine aa hsl (.inl rfl) ?_
 cases hs:bE fall len
 ·rw[if_neg (by simp[hs])]at hr
  simp[hr]
 rw[if_pos ⟨by omega,by omega,hs⟩]at hr
 simp
 have hcc:=fun m=>hcc m hv hs
 refine aa (hcc s.height) (.inl rfl) ?_
 simp
 refine ac (fun c3=>?_) (fun c3=>?_)<;>simp at c3<;>simp[c3]
 ·rw[if_pos c3]at hr
  simp[hr]
 rw[if_neg (by omega)]at hr
 obtain⟨L,hL⟩:∃L,L=bis (bX s flow fall len) 40 0 s.height.toNat:=⟨_,rfl⟩
 rw[<- hL]at hr
 have hl:L=bis (bX s flow fall len) 40 0 H:=by rw[hL,hH];rfl
 simp only[hH]at hcc ⊢
 refine⟨ao (by decide +kernel),?_⟩
 refine au (Nat×Nat×Nat) (fun z=>[(1,.int .i64 flow),(2,.int .i64 fall),(3,.int .i64 len),(4,.ptr [.str s.name,.int .i64 H,.int .i64 s.price,slx s.areaN (s.area.map knD),slx s.convN (s.conv.map knD)]),(10,.int .i64 z.2.1),(11,.int .i64 z.2.2)])
  (fun z=>z.2.1<=z.2.2/\z.2.2<=H/\z.2.2-z.2.1<2^z.1/\bis (bX s flow fall len) z.1 z.2.1 z.2.2=L) (fun z=>z.2.2-z.2.1) (40,0,H) ⟨by simp,by simp,by simp;omega,by rw[hl]⟩ (by simp) ?_
 rintro⟨f,lo,hi⟩ ⟨i1,i2,i3,i4⟩
 simp only at i1 i2 i3 i4
 simp
 refine ac (fun c=>?_) (fun c=>?_)<;>simp at c<;>simp[c]
 ·obtain⟨f',_,j2,j3,j4⟩:=ny (p:=bX s flow fall len) c i3
  obtain⟨sm,hsm⟩:∃sm,sm=lo+hi:=⟨_,rfl⟩
  rw[<- hsm]at j2 j3 j4
  obtain⟨m,hm⟩:∃m,m=sm/2:=⟨_,rfl⟩
  rw[<- hm]at j2 j3 j4
  have e2:IntKind.wrap .i64 ((lo:Int)+(hi:Int))=(sm:Int):=wrap_i64 (by omega) (by omega)
  have e3:Int.tdiv (sm:Int) 2=(m:Int):=by rw[hm];exact oM sm 2
  have e4:IntKind.wrap .i64 (m:Int)=(m:Int):=wrap_i64 rfl (by omega)
  have e5:IntKind.wrap .i64 ((m:Int)+1)=((m+1:Nat):Int):=wrap_i64 (by omega) (by omega)
  rw[i4]at j4
  simp[e2,e3,e4]
  refine aa (hcc m) (.inl rfl) ?_
  simp
  refine ac (fun c3=>?_) (fun c3=>?_)<;>simp at c3<;>simp[c3]
  ·rw[if_pos (by simp[bX,c3])]at j4
   exact⟨f',lo,m,⟨by omega,by omega,j2,j4.symm⟩,by omega,by omega,by omega⟩
  ·rw[if_neg (by simp[bX];omega)]at j4
   simp[e5]
   exact⟨f',m+1,hi,⟨by omega,by omega,j3,j4.symm⟩,by omega,by omega,by omega⟩
 ·rw[m0 _ _ _ _ c]at i4
  subst i4
  simp[hr]
end Go.Gv

namespace Go.Gv
def mxI(a b:Int):Int:=if a<b then b else a
def bI(l:Lnk):Int:=if 4194304<l.up-l.down then 4194304 else l.up-l.down
def iE(l:Lnk)(s:Sec)(flow level:Int):Bool:=decide (level<l.down+s.height)&&(decide ((f8 s (bI l) l.len).2=5)||(decide ((f8 s (bI l) l.len).2=0)&&decide (flow<=(f8 s (bI l) l.len).1)))
def je(l:Lnk)(s:Sec)(flow level:Int):Int×Int :=
 if (cf l s flow).2=0 then(if 1099511627776<mxI (l.up+s.height) (level+(cf l s flow).1) then(0,5) else(mxI (l.up+s.height) (level+(cf l s flow).1),0)) else(0,(cf l s flow).2)
def oZ(l:Lnk)(s:Sec)(flow level:Int):Int×Int :=
 if (cF s flow (bI l) l.len).2=0 then(mxI (l.up+(cF s flow (bI l) l.len).1) level,0) else(0,(cF s flow (bI l) l.len).2)
def bV(l:Lnk)(s:Sec)(flow level:Int):Int×Int:=if iE l s flow level then oZ l s flow level else je l s flow level
def AJ(l:Lnk)(s:Sec)(flow level:Int):Int×Int :=
 if jr l s=0 then(if l.up<l.down then(0,23) else if aF flow 0 1099511627776&&aF level (-4194304) 1099511627776 then bV l s flow level else(0,2)) else(0,jr l s)
def si(l:Lnk)(s:Sec)(flow:Int):Int×Int :=
 if jr l s=0 then(if aF flow 0 1099511627776 then cf l s flow else(0,2)) else(0,jr l s)
theorem gx(k f n:Nat):0<=(fw k f n).1/\(fw k f n).1<=1073741824:=by
 unfold fw
 have:=dg (cg k f n) 40 0 1073741824 (by omega)
 split
 ·simp
 split
 ·simp
 split
 ·simp only;omega
 ·simp
theorem kR{s:Sec}(hv:aq s=true)(flow fall len:Int):0<=(cF s flow fall len).1/\(cF s flow fall len).1<=s.height:=by
 have hh:1<=s.height/\s.height<=32768:=by
  simp only[aq,x0a,x0c]at hv
  omega
 unfold cF
 rw[if_pos hv]
 split
 ·split
  ·simp only;omega
  ·simp only;omega
 ·simp only;omega
theorem oh{l:Lnk}{s:Sec}(h:jr l s=0):aq s=true/\1<=l.len/\l.len<=16777216/\bn l.up=true/\bn l.down=true:=by
 unfold jr at h
 split at h
 ·rename_i h1
  rw[x0a]at h1
  obtain⟨h1,h2⟩:=h1
  split at h
  ·rename_i hk
   simp only[cr,ji,hk,if_true,x0a,aF,x0c]at h1
   obtain⟨⟨⟨_,h5⟩,_⟩,⟨h6,h7⟩,_⟩:=h1
   exact⟨h2,h6.1,h6.2,h5,h7⟩
  ·omega
 ·omega
variable{C:CC}(hC:ay prog C)
include hC
theorem qe(l:Lnk)(s:Sec)(flow level:Int)(hv:aq s=true)(hl:1<=l.len/\l.len<=16777216)(hu:bn l.up=true)(hd:bn l.down=true)(hf:0<=flow/\flow<=1099511627776)(hlv:-4194304<=level/\level<=1099511627776) :
  C 162 [.agg (aA l),.agg (aS s),.int .i64 flow,.int .i64 level] (.tup [.int .i64 (bV l s flow level).1,.int .i64 (bV l s flow level).2]) []:=by
 have b1:-4194304<=l.up/\l.up<=4194304:=by simpa[bn]using hu
 have b2:-4194304<=l.down/\l.down<=4194304:=by simpa[bn]using hd
 have hh:1<=s.height/\s.height<=32768:=by
  simp only[aq,x0a,x0c]at hv
  omega
 have r1:=kR hv flow (bI l) l.len
 have r2:0<=(cf l s flow).1/\(cf l s flow).1<=1073741824:=gx _ _ _
 have k1:=Eo hC s (bI l) l.len
 have k2:=A6 hC s flow (bI l) l.len
 have k3:=tV hC l s flow hv hl hf
 have efall:(if 4194304<l.up-l.down then 4194304 else l.up-l.down)=bI l:=rfl
 obtain⟨r,hr⟩:∃r,r=bV l s flow level:=⟨_,rfl⟩
 rw[<- hr]
 unfold bV iE je oZ at hr
 obtain⟨f1,hf1⟩:∃z,z=(f8 s (bI l) l.len).1:=⟨_,rfl⟩
 obtain⟨f2,hf2⟩:∃z,z=(f8 s (bI l) l.len).2:=⟨_,rfl⟩
 obtain⟨d1,hd1⟩:∃z,z=(cF s flow (bI l) l.len).1:=⟨_,rfl⟩
 obtain⟨d2,hd2⟩:∃z,z=(cF s flow (bI l) l.len).2:=⟨_,rfl⟩
 obtain⟨x1,hx1⟩:∃z,z=(cf l s flow).1:=⟨_,rfl⟩
 obtain⟨x2,hx2⟩:∃z,z=(cf l s flow).2:=⟨_,rfl⟩
 rw[<- hf1,<- hf2]at k1 hr
 rw[<- hd1,<- hd2]at k2 hr
 rw[<- hx1,<- hx2]at k3 hr
 rw[<- hd1]at r1
 rw[<- hx1]at r2
 obtain⟨fa,hfa⟩:∃z,z=bI l:=⟨_,rfl⟩
 rw[<- hfa]at k1 k2 efall
 clear hf1 hf2 hd1 hd2 hx1 hx2 hfa
 simp only[aS,aA]at k1 k2 k3
 have w1:IntKind.wrap .i64 (l.up-l.down)=l.up-l.down:=wrap_i64 rfl (by omega)
 have w2:IntKind.wrap .i64 (l.down+s.height)=l.down+s.height:=wrap_i64 rfl (by omega)
 have w3:IntKind.wrap .i64 (l.up+s.height)=l.up+s.height:=wrap_i64 rfl (by omega)
 have w4:IntKind.wrap .i64 (level+x1)=level+x1:=wrap_i64 rfl (by omega)
 have w5:IntKind.wrap .i64 (l.up+d1)=l.up+d1:=wrap_i64 rfl (by omega)
 have m1:∀a b:Int,(if a<b then b else a)=mxI a b:=fun _ _=>rfl
 refine ai hC (nf:=N162) rfl rfl ?_
 simp[N162,aS,aA,w1,efall]
 refine aa k1 (.inl rfl) ?_
 simp[w2]
 refine ac (fun c1=>?_) (fun c1=>?_)<;>simp at c1<;>simp[c1]
 ·refine ac (fun c2=>?_) (fun c2=>?_)<;>simp at c2<;>simp[c2]
  ·rw[if_pos (by simp[c1,c2])]at hr
   refine aa k2 (.inl rfl) ?_
   simp
   refine ac (fun g=>?_) (fun g=>?_)<;>simp at g<;>simp[g]
   ·rw[if_neg g]at hr
    simp[hr]
   ·rw[if_pos g]at hr
    simp[w5,m1,hr]
  refine ac (fun c3=>?_) (fun c3=>?_)<;>simp at c3<;>simp[c3]
  ·refine ac (fun c4=>?_) (fun c4=>?_)<;>simp at c4<;>simp[c4]
   ·rw[if_pos (by simp[c1,c3,c4])]at hr
    refine aa k2 (.inl rfl) ?_
    simp
    refine ac (fun g=>?_) (fun g=>?_)<;>simp at g<;>simp[g]
    ·rw[if_neg g]at hr
     simp[hr]
    ·rw[if_pos g]at hr
     simp[w5,m1,hr]
   ·rw[if_neg (by simp[c3,show ¬flow<=f1 by omega])]at hr
    refine aa k3 (.inl rfl) ?_
    simp
    refine ac (fun g=>?_) (fun g=>?_)<;>simp at g<;>simp[g]
    ·rw[if_neg g]at hr
     simp[hr]
    rw[if_pos g]at hr
    simp[w3,w4,m1]
    refine ac (fun g2=>?_) (fun g2=>?_)<;>simp at g2<;>simp[g2]
    ·rw[if_pos g2]at hr
     simp[hr]
    ·rw[if_neg (by omega)]at hr
     simp[hr,w3,w4,m1]
  ·rw[if_neg (by simp[c2,c3])]at hr
   refine aa k3 (.inl rfl) ?_
   simp
   refine ac (fun g=>?_) (fun g=>?_)<;>simp at g<;>simp[g]
   ·rw[if_neg g]at hr
    simp[hr]
   rw[if_pos g]at hr
   simp[w3,w4,m1]
   refine ac (fun g2=>?_) (fun g2=>?_)<;>simp at g2<;>simp[g2]
   ·rw[if_pos g2]at hr
    simp[hr]
   ·rw[if_neg (by omega)]at hr
    simp[hr,w3,w4,m1]
 ·rw[if_neg (by simp[show ¬level<l.down+s.height by omega])]at hr
  refine aa k3 (.inl rfl) ?_
  simp
  refine ac (fun g=>?_) (fun g=>?_)<;>simp at g<;>simp[g]
  ·rw[if_neg g]at hr
   simp[hr]
  rw[if_pos g]at hr
  simp[w3,w4,m1]
  refine ac (fun g2=>?_) (fun g2=>?_)<;>simp at g2<;>simp[g2]
  ·rw[if_pos g2]at hr
   simp[hr]
  ·rw[if_neg (by omega)]at hr
   simp[hr,w3,w4,m1]
theorem Te(l:Lnk)(s:Sec)(flow level:Int)(hc:l.curve.length<2^62):C 156 [.agg (aA l),.agg (aS s),.int .i64 flow,.int .i64 level] (.tup [.int .i64 (AJ l s flow level).1,.int .i64 (AJ l s flow level).2]) []:=by
 have k1:=y8 hC l s hc
 obtain⟨r,hr⟩:∃r,r=AJ l s flow level:=⟨_,rfl⟩
 rw[<- hr]
 unfold AJ at hr
 have ka:=fun h1 h2 h3 h4 h5=>qe hC l s flow level h1 h2 h3 h4 h5
 have hz:=@oh l s
 obtain⟨e,he⟩:∃e,e=jr l s:=⟨_,rfl⟩
 rw[<- he]at k1 hr hz
 simp only[aS,aA]at k1 ka
 refine ai hC (nf:=N156) rfl rfl ?_
 simp[N156,aS,aA]
 refine aa k1 (.inl rfl) ?_
 simp
 refine ac (fun g=>?_) (fun g=>?_)<;>simp at g<;>simp[g]
 ·rw[if_neg g]at hr
  simp[hr]
 rw[if_pos g]at hr
 obtain⟨z1,z2,z3,z4,z5⟩:=hz g
 refine ac (fun g1=>?_) (fun g1=>?_)<;>simp at g1<;>simp[g1]
 ·rw[if_pos g1]at hr
  simp[hr]
 rw[if_neg (by omega)]at hr
 refine aa (ml hC flow 0 1099511627776) (.inl rfl) ?_
 cases g2:aF flow 0 1099511627776
 ·rw[if_neg (by simp[g2])]at hr
  simp[hr]
 simp
 refine aa (ml hC level (-4194304) 1099511627776) (.inl rfl) ?_
 cases g3:aF level (-4194304) 1099511627776
 ·rw[if_neg (by simp[g3])]at hr
  simp[hr]
 rw[if_pos (by simp[g2,g3])]at hr
 simp
 simp only[aF,x0a,x0c]at g2 g3
 refine aa (ka z1 ⟨z2,z3⟩ z4 z5 g2 g3) (.inl rfl) ?_
 simp[hr]
theorem A9(l:Lnk)(s:Sec)(flow:Int)(hc:l.curve.length<2^62):C 157 [.agg (aA l),.agg (aS s),.int .i64 flow] (.tup [.int .i64 (si l s flow).1,.int .i64 (si l s flow).2]) []:=by
 have k1:=y8 hC l s hc
 obtain⟨r,hr⟩:∃r,r=si l s flow:=⟨_,rfl⟩
 rw[<- hr]
 unfold si at hr
 have ka:=fun h1 h2 h3=>tV hC l s flow h1 h2 h3
 have hz:=@oh l s
 obtain⟨e,he⟩:∃e,e=jr l s:=⟨_,rfl⟩
 rw[<- he]at k1 hr hz
 simp only[aS,aA]at k1 ka
 refine ai hC (nf:=N157) rfl rfl ?_
 simp[N157,aS,aA]
 refine aa k1 (.inl rfl) ?_
 simp
 refine ac (fun g=>?_) (fun g=>?_)<;>simp at g<;>simp[g]
 ·rw[if_neg g]at hr
  simp[hr]
 rw[if_pos g]at hr
 obtain⟨z1,z2,z3,z4,z5⟩:=hz g
 refine aa (ml hC flow 0 1099511627776) (.inl rfl) ?_
 cases g2:aF flow 0 1099511627776
 ·rw[if_neg (by simp[g2])]at hr
  simp[hr]
 rw[if_pos g2]at hr
 simp
 simp only[aF,x0a,x0c]at g2
 refine aa (ka z1 ⟨z2,z3⟩ g2) (.inl rfl) ?_
 simp[hr]
end Go.Gv

namespace Go.Gv
def grI(a b:Int):Int:=if b<a then a else b
def uN(l:Lnk)(s:Sec)(flow level:Int):Int×Int :=
 if (ia l s flow).2=0 then(if 1099511627776<grI (l.up+s.height) (level+(ia l s flow).1) then(0,5) else(grI (l.up+s.height) (level+(ia l s flow).1),0)) else(0,(ia l s flow).2)
def lH(l:Lnk)(s:Sec)(flow level:Int):Int×Int :=
 if (dz s flow (bI l) l.len).2=0/\level<l.down+s.height then(grI (l.up+(dz s flow (bI l) l.len).1) level,0) else uN l s flow level
theorem qo{s:Sec}(hv:aq s=true)(flow fall len:Int):0<=(dz s flow fall len).1/\(dz s flow fall len).1<=s.height:=by
 have hh:1<=s.height/\s.height<=32768:=by
  simp only[aq,x0a,x0c]at hv
  omega
 have hb:=dg (bX s flow fall len) 40 0 s.height.toNat (by omega)
 unfold dz
 rw[if_pos hv]
 split
 ·split
  ·simp only;omega
  ·simp only;omega
 ·simp only;omega
theorem sk(k f n:Nat):0<=(nS k f n).1/\(nS k f n).1<=1073741824:=by
 unfold nS
 split
 ·simp
 split
 ·simp
 split
 ·simp
 ·simp only;omega
variable{C:CC}(hC:ay prog C)
include hC
theorem pv(n:Int):C 192 [.int .i64 n] (.bool (aF n (-4194304) 1099511627776)) []:=by
 refine ai hC (nf:=N192) rfl rfl ?_
 simp[N192,aF]
 refine ac (fun h=>?_) (fun h=>?_)<;>simp at h<;>simp[h]<;>omega
theorem lU(a b:Int):C 198 [.int .i64 a,.int .i64 b] (.int .i64 (grI a b)) []:=by
 refine ai hC (nf:=N198) rfl rfl ?_
 simp[N198,grI]
 refine ac (fun h=>?_) (fun h=>?_)<;>simp at h<;>simp[h]
 intro _;omega
theorem Cn(l:Lnk)(h:-9223372036854775808<=l.up-l.down/\l.up-l.down<9223372036854775808):C 196 [.agg (aA l)] (.int .i64 (bI l)) []:=by
 have w:IntKind.wrap .i64 (l.up-l.down)=l.up-l.down:=wrap_i64 rfl h
 refine ai hC (nf:=N196) rfl rfl ?_
 simp[N196,aA,w,bI]
 refine ac (fun h=>?_) (fun h=>?_)<;>simp at h<;>simp[h]
 rw[w,if_neg (by omega)]
theorem xI(l:Lnk)(s:Sec)(flow level:Int)(hv:aq s=true)(hl:1<=l.len/\l.len<=16777216)(hu:bn l.up=true)(hd:bn l.down=true)(hf:0<=flow/\flow<=1099511627776)(hlv:-4194304<=level/\level<=1099511627776) :
  C 193 [.agg (aA l),.agg (aS s),.int .i64 flow,.int .i64 level] (.tup [.int .i64 (lH l s flow level).1,.int .i64 (lH l s flow level).2]) []:=by
 have b1:-4194304<=l.up/\l.up<=4194304:=by simpa[bn]using hu
 have b2:-4194304<=l.down/\l.down<=4194304:=by simpa[bn]using hd
 have hh:1<=s.height/\s.height<=32768:=by
  simp only[aq,x0a,x0c]at hv
  omega
 have r1:=qo hv flow (bI l) l.len
 have r2:0<=(ia l s flow).1/\(ia l s flow).1<=1073741824:=sk _ _ _
 have k1:=Cn hC l (by omega)
 have k2:=zu hC s flow (bI l) l.len
 have k3:=yP hC l s flow hv hl hf
 obtain⟨r,hr⟩:∃r,r=lH l s flow level:=⟨_,rfl⟩
 rw[<- hr]
 unfold lH uN at hr
 obtain⟨d1,hd1⟩:∃z,z=(dz s flow (bI l) l.len).1:=⟨_,rfl⟩
 obtain⟨d2,hd2⟩:∃z,z=(dz s flow (bI l) l.len).2:=⟨_,rfl⟩
 obtain⟨x1,hx1⟩:∃z,z=(ia l s flow).1:=⟨_,rfl⟩
 obtain⟨x2,hx2⟩:∃z,z=(ia l s flow).2:=⟨_,rfl⟩
 rw[<- hd1,<- hd2]at k2 hr
 rw[<- hx1,<- hx2]at k3 hr
 rw[<- hd1]at r1
 rw[<- hx1]at r2
 obtain⟨fa,hfa⟩:∃z,z=bI l:=⟨_,rfl⟩
 rw[<- hfa]at k1 k2
 clear hd1 hd2 hx1 hx2 hfa
 simp only[aS,aA]at k1 k2 k3
 have w2:IntKind.wrap .i64 (l.down+s.height)=l.down+s.height:=wrap_i64 rfl (by omega)
 have w3:IntKind.wrap .i64 (l.up+s.height)=l.up+s.height:=wrap_i64 rfl (by omega)
 have w4:IntKind.wrap .i64 (level+x1)=level+x1:=wrap_i64 rfl (by omega)
 have w5:IntKind.wrap .i64 (l.up+d1)=l.up+d1:=wrap_i64 rfl (by omega)
 have g1:=lU hC (l.up+d1) level
 have g2:=lU hC (l.up+s.height) (level+x1)
 refine ai hC (nf:=N193) rfl rfl ?_
 simp[N193,aS,aA]
 refine aa k1 (.inl rfl) ?_
 simp
 refine aa k2 (.inl rfl) ?_
 simp
 refine ac (fun c1=>?_) (fun c1=>?_)<;>simp at c1<;>simp[c1]
 ·simp[w2]
  refine ac (fun c2=>?_) (fun c2=>?_)<;>simp at c2<;>simp[c2]
  ·rw[if_pos ⟨c1,c2⟩]at hr
   simp[w5]
   refine aa g1 (.inl rfl) ?_
   simp[hr]
  ·rw[if_neg (by omega)]at hr
   refine aa k3 (.inl rfl) ?_
   simp
   refine ac (fun g=>?_) (fun g=>?_)<;>simp at g<;>simp[g]
   ·rw[if_neg g]at hr
    simp[hr]
   rw[if_pos g]at hr
   simp[w3,w4]
   refine aa g2 (.inl rfl) ?_
   simp
   refine ac (fun g3=>?_) (fun g3=>?_)<;>simp at g3<;>simp[g3]
   ·rw[if_pos g3]at hr
    simp[hr]
   ·rw[if_neg (by omega)]at hr
    simp[hr]
 ·rw[if_neg (by omega)]at hr
  refine aa k3 (.inl rfl) ?_
  simp
  refine ac (fun g=>?_) (fun g=>?_)<;>simp at g<;>simp[g]
  ·rw[if_neg g]at hr
   simp[hr]
  rw[if_pos g]at hr
  simp[w3,w4]
  refine aa g2 (.inl rfl) ?_
  simp
  refine ac (fun g3=>?_) (fun g3=>?_)<;>simp at g3<;>simp[g3]
  ·rw[if_pos g3]at hr
   simp[hr]
  ·rw[if_neg (by omega)]at hr
   simp[hr]
end Go.Gv

namespace Go.Gv
theorem yU(a b:Int):a<=mxI a b/\b<=mxI a b:=by unfold mxI;split<;>omega
theorem eu{a b c d:Int}(h1:a<=c)(h2:b<=d):mxI a b<=mxI c d:=by
 unfold mxI;split<;>split<;>omega
theorem kW{k f g n i:Nat}(h:f<=g)(he:cg k g n i=true):cg k f n i=true:=by
 simp only[cg,x0c]at he ⊢
 exact x1v (x0j _ (x0U h h)) he
theorem tU{k f g n:Nat}(h:f<=g)(h1:(fw k f n).2=0)(h2:(fw k g n).2=0):(fw k f n).1<=(fw k g n).1:=by
 have hr:=gx k g n
 by_cases f0:f=0
 ·have:fw k f n=(0,0):=by simp[fw,f0]
  rw[this];exact hr.1
 ·have g0:¬g=0:=by omega
  unfold fw at h1 h2 ⊢
  rw[if_neg f0]at h1 ⊢
  rw[if_neg g0]at h2 ⊢
  by_cases k0:k=0
  ·rw[if_pos k0]at h1;simp at h1
  ·rw[if_neg k0]at h1 h2 ⊢
   rw[if_neg k0]
   by_cases e1:cg k f n 1073741824=true
   ·rw[if_pos e1]
    by_cases e2:cg k g n 1073741824=true
    ·rw[if_pos e2]
     have:=kK (p:=cg k f n) (q:=cg k g n) (fun i hi=>kW h hi) 40 0 1073741824 (by omega)
     simp only
     omega
    ·rw[if_neg e2]at h2;simp at h2
   ·rw[if_neg e1]at h1;simp at h1
theorem rZ{s:Sec}{f g fall len:Int}(h:f<=g):gK s f fall len<=gK s g fall len:=by
 refine kK (fun n hn=>?_) _ _ _ (by omega)
 simp only[bX,x0c]at hn ⊢
 omega
theorem lQ{s:Sec}{f fall len:Int}(h:(cF s f fall len).2=0):aq s=true/\0<=f/\(cF s f fall len).1=gK s f fall len/\gK s f fall len<=s.height.toNat:=by
 unfold cF at h ⊢
 split at h
 ·rename_i hv
  rw[if_pos hv]
  split at h
  ·rename_i hc
   rw[if_pos hc]
   split at h
   ·simp at h
   ·rename_i hl
    rw[if_neg hl]
    exact⟨hv,hc.1,rfl,by omega⟩
  ·simp at h
 ·simp at h
theorem ww{l:Lnk}{s:Sec}{f g level:Int}(h:f<=g)(hb:iE l s g level=true):iE l s f level=true:=by
 simp only[iE,x0a,x0E,x0c]at hb ⊢
 refine⟨hb.1,?_⟩
 rcases hb.2 with h1|⟨h1,h2⟩
 ·exact .inl h1
 ·exact .inr ⟨h1,by omega⟩
theorem tW{l:Lnk}{s:Sec}{f a b:Int}(h:a<=b)(hb:iE l s f b=true):iE l s f a=true:=by
 simp only[iE,x0a,x0c]at hb ⊢
 exact⟨by omega,hb.2⟩
theorem jf{l:Lnk}{s:Sec}{f v:Int}(h:(je l s f v).2=0):(cf l s f).2=0/\(je l s f v).1=mxI (l.up+s.height) (v+(cf l s f).1):=by
 unfold je at h ⊢
 split at h
 ·rename_i h1
  rw[if_pos h1]
  split at h
  ·simp at h
  ·rename_i h2
   rw[if_neg h2]
   exact⟨h1,rfl⟩
 ·rename_i h1;exact absurd h h1
theorem kY{l:Lnk}{s:Sec}{f v:Int}(h:(oZ l s f v).2=0):(cF s f (bI l) l.len).2=0/\(oZ l s f v).1=mxI (l.up+(cF s f (bI l) l.len).1) v:=by
 unfold oZ at h ⊢
 split at h
 ·rename_i h1
  rw[if_pos h1]
  exact⟨h1,rfl⟩
 ·rename_i h1;exact absurd h h1
theorem mC{l:Lnk}{s:Sec}{f g v w:Int}(hv:v<=w)(h1:(oZ l s f v).2=0)(h2:(je l s g w).2=0):(oZ l s f v).1<=(je l s g w).1:=by
 obtain⟨a1,a2⟩:=kY h1
 obtain⟨b1,b2⟩:=jf h2
 obtain⟨c1,c2,c3,c4⟩:=lQ a1
 have hh:1<=s.height:=by
  simp only[aq,x0a,x0c]at c1
  omega
 have hr:0<=(cf l s g).1:=(gx _ _ _).1
 rw[a2,b2,c3]
 exact eu (by omega) (by omega)
theorem dP{l:Lnk}{s:Sec}{f v:Int}(b:iE l s f v=true):bV l s f v=oZ l s f v:=by unfold bV;rw[if_pos b]
theorem eO{l:Lnk}{s:Sec}{f v:Int}(b:¬iE l s f v=true):bV l s f v=je l s f v:=by unfold bV;rw[if_neg b]
theorem ri{l:Lnk}{s:Sec}{f g v:Int}(h:f<=g)(h1:(bV l s f v).2=0)(h2:(bV l s g v).2=0):(bV l s f v).1<=(bV l s g v).1:=by
 by_cases b2:iE l s g v=true
 ·have b1:=ww h b2
  rw[dP b2]at h2 ⊢
  rw[dP b1]at h1 ⊢
  obtain⟨a1,a2⟩:=kY h1
  obtain⟨c1,c2⟩:=kY h2
  obtain⟨_,_,d3,_⟩:=lQ a1
  obtain⟨_,_,e3,_⟩:=lQ c1
  rw[a2,c2,d3,e3]
  have:=rZ (s:=s) (fall:=bI l) (len:=l.len) h
  exact eu (by omega) (x0F _)
 ·rw[eO b2]at h2 ⊢
  by_cases b1:iE l s f v=true
  ·rw[dP b1]at h1 ⊢
   exact mC (x0F _) h1 h2
  ·rw[eO b1]at h1 ⊢
   obtain⟨a1,a2⟩:=jf h1
   obtain⟨c1,c2⟩:=jf h2
   rw[a2,c2]
   have hl:(cf l s f).1<=(cf l s g).1:=tU (by omega) a1 c1
   exact eu (x0F _) (by omega)
theorem qd{l:Lnk}{s:Sec}{f v w:Int}(h:v<=w)(h1:(bV l s f v).2=0)(h2:(bV l s f w).2=0):(bV l s f v).1<=(bV l s f w).1:=by
 by_cases b2:iE l s f w=true
 ·have b1:=tW h b2
  rw[dP b2]at h2 ⊢
  rw[dP b1]at h1 ⊢
  obtain⟨a1,a2⟩:=kY h1
  obtain⟨c1,c2⟩:=kY h2
  rw[a2,c2]
  exact eu (x0F _) h
 ·rw[eO b2]at h2 ⊢
  by_cases b1:iE l s f v=true
  ·rw[dP b1]at h1 ⊢
   exact mC h h1 h2
  ·rw[eO b1]at h1 ⊢
   obtain⟨a1,a2⟩:=jf h1
   obtain⟨c1,c2⟩:=jf h2
   rw[a2,c2]
   exact eu (x0F _) (by omega)
end Go.Gv

namespace Go.Gv
theorem Cl(l:List (Int×Int)):(ar l&&!(l.any fun k=>!gO k))=ki l:=by
 by_cases hv:ar l=true
 ·obtain⟨l1,l2⟩:=bu hv
  obtain⟨n,hn⟩:∃n,n+1=l.length:=⟨l.length-1,by omega⟩
  have h0:0<l.length:=by omega
  have hnl:n<l.length:=by omega
  have hany:(!(l.any fun k=>!gO k))=l.all gO:=by rw[x0z];simp
  rw[hany,ki,hv,cd hn,x0f l 0 h0,x0z]
  simp only[x0T,x0g,x0a,x0c]
  constructor
  ·intro h
   have ha:=h l[0] (x0h h0)
   have hb:=h l[n] (x0h hnl)
   simp only[gO,aF,x0a,x0c]at ha hb
   omega
  ·intro h k hk
   obtain⟨i,hi,rfl⟩:=x0J hk
   have a1:=lB hv hi (show 0<=i by omega)
   have a2:=lB hv hnl (show i<=n by omega)
   have a3:=cU hv hi (show 0<=i by omega)
   have a4:=cU hv hnl (show i<=n by omega)
   simp only[gO,aF,x0a,x0c]
   omega
 ·simp[ki,hv]
theorem yJ(l:Lnk):sc l=cr l:=by
 have hcur:∀x:List (Int×Int),decide (x.length=0)=decide (x=[]):=fun x=>by
  rw[x0z];simp
 have hp:=Cl l.curve
 unfold sc cr yH ji gi js
 simp only[hcur]
 have l0:bn 0=true:=by decide
 by_cases h1:l.kind=1
 ·simp[h1]
  ac_rfl
 by_cases h2:l.kind=2
 ·by_cases hd:l.down=0
  ·simp[h2,hd,l0]
   ac_rfl
  ·simp[h2,hd]
 by_cases h3:l.kind=3
 ·by_cases hd:l.down=0
  ·simp[h3,hd,l0]
   ac_rfl
  ·simp[h3,hd]
 by_cases h4:l.kind=4
 ·simp[h4]
  rw[<- hp]
  ac_rfl
 ·simp[h1,h2,h3,h4]
end Go.Gv

namespace Go.Gv
theorem jC{p:Nat->Bool}(hm:∀a b,a<=b->p a=true->p b=true):∀(f lo hi:Nat),lo<=hi->hi-lo<2^f->(∀m,lo<=m->m<bis p f lo hi->p m=false)/\(bis p f lo hi<hi->p (bis p f lo hi)=true)
 | 0,lo,hi,h1,h2=>by
  simp at h2
  have:lo=hi:=by omega
  subst this
  exact⟨fun m h3 h4=>absurd h4 (by simp only[bis];omega),fun h3=>absurd h3 (by simp only[bis];omega)⟩
 | f+1,lo,hi,h1,h2=>by
  rw[x1T]at h2
  by_cases h:lo<hi
  ·by_cases hp:p ((lo+hi)/2)=true
   ·have e:bis p (f+1) lo hi=bis p f lo ((lo+hi)/2):=by simp only[bis];rw[if_pos h,if_pos hp]
    have ih:=jC hm f lo ((lo+hi)/2) (by omega) (by omega)
    have hr:=dg p f lo ((lo+hi)/2) (by omega)
    rw[e]
    refine⟨ih.1,fun _=>?_⟩
    by_cases h5:bis p f lo ((lo+hi)/2)<(lo+hi)/2
    ·exact ih.2 h5
    ·have:bis p f lo ((lo+hi)/2)=(lo+hi)/2:=by omega
     rw[this];exact hp
   ·have e:bis p (f+1) lo hi=bis p f ((lo+hi)/2+1) hi:=by simp only[bis];rw[if_pos h,if_neg hp]
    have ih:=jC hm f ((lo+hi)/2+1) hi (by omega) (by omega)
    rw[e]
    refine⟨fun m h3 h4=>?_,ih.2⟩
    by_cases h5:(lo+hi)/2+1<=m
    ·exact ih.1 m h5 h4
    ·cases hpm:p m
     ·rfl
     ·exact absurd (hm m ((lo+hi)/2) (by omega) hpm) hp
  ·have e:bis p (f+1) lo hi=lo:=m0 p _ _ _ (by omega)
   rw[e]
   exact⟨fun m h3 h4=>absurd h4 (by omega),fun h3=>absurd h3 h⟩
theorem xM{p:Nat->Bool}(hm:∀a b,a<=b->p a=true->p b=true){f lo hi r:Nat}(h1:lo<=r)(h2:r<=hi)(hf:hi-lo<2^f)(h3:∀m,lo<=m->m<r->p m=false)(h4:r<hi->p r=true):bis p f lo hi=r:=by
 obtain⟨a,b⟩:=jC hm f lo hi (by omega) hf
 obtain⟨c,d⟩:=dg p f lo hi (by omega)
 rcases Nat.lt_trichotomy (bis p f lo hi) r with h|h|h
 ·have e1:=h3 _ c h
  rw[b (by omega)]at e1;cases e1
 ·exact h
 ·have e1:=a r h1 h
  rw[h4 (by omega)]at e1;cases e1
theorem xR{x b n:Nat}(hb:0<b):nB x b<=n↔x<=b*n:=by
 have h1:=x05 x b
 have h2:=x1a x hb
 unfold nB
 constructor
 ·intro h
  split at h
  ·have:=x1l b h
   omega
  ·have:=x1l b h
   rw[x1I,Nat.mul_one]at this
   omega
 ·intro h
  split
  ·refine Nat.le_of_mul_le_mul_left (c:=b) ?_ hb
   omega
  ·refine Nat.lt_of_mul_lt_mul_left (a:=b) ?_
   omega
theorem yO(k f n:Nat):nS k f n=fw k f n:=by
 unfold nS fw
 by_cases hf:f=0
 ·rw[if_pos hf,if_pos hf]
 rw[if_neg hf,if_neg hf]
 by_cases hk:k=0
 ·rw[if_pos hk,if_pos hk]
 rw[if_neg hk,if_neg hk]
 have hkk:0<k*k:=Nat.mul_pos (by omega) (by omega)
 have key:∀i,cg k f n i=decide (nB (f*f*n) (k*k)<=i):=fun i=>by
  rw[x0z,cg,x0c,x0c,xR hkk]
 obtain⟨c,hc⟩:∃c,c=nB (f*f*n) (k*k):=⟨_,rfl⟩
 rw[<- hc]at key ⊢
 by_cases h:1073741824<c
 ·rw[if_pos h,if_neg (by rw[key,x0c];omega)]
 ·rw[if_neg h,if_pos (by rw[key,x0c];omega)]
  rw[xM (p:=cg k f n) (r:=c) (fun a b hab ha=>?_) (by omega) (by omega) (by decide) (fun m _ hm=>?_) (fun _=>?_)]
  ·rw[key,x0c]at ha ⊢;omega
  ·rw[key,x0K];omega
  ·rw[key,x0c];exact x0r _
theorem kC:∀(i x r:Nat),r*r<=x->x<(r+2^i)*(r+2^i)->gh x i r*gh x i r<=x/\x<(gh x i r+1)*(gh x i r+1)
 | 0,x,r,h1,h2=>⟨h1,h2⟩
 | i+1,x,r,h1,h2=>by
  rw[iJ]
  have e:(2:Nat)^(i+1)=2^i+2^i:=by rw[x1T];omega
  rw[e,<- x0N]at h2
  by_cases h:(r+2^i)*(r+2^i)<=x
  ·rw[if_pos h];exact kC i x _ h h2
  ·rw[if_neg h];exact kC i x _ h1 (by omega)
theorem oy{x:Nat}(h:x<85070591730234615865843651857942052864):dw x*dw x<=x/\x<(dw x+1)*(dw x+1):=by
 refine kC 63 x 0 (by omega) ?_
 have e:(0+2^63)*(0+2^63)=85070591730234615865843651857942052864:=by decide +kernel
 rw[e];exact h
theorem uj{x y:Nat}(h:x<=y)(hy:y<85070591730234615865843651857942052864):dw x<=dw y:=by
 obtain⟨a,_⟩:=oy (x:=x) (by omega)
 obtain⟨_,d⟩:=oy hy
 apply x1C
 intro hlt
 have:=x0U (show dw y+1<=dw x from hlt) (show dw y+1<=dw x from hlt)
 omega
theorem pc{t:List (Int×Int)}{x:Int}(hv:ar t=true)(ha:¬atK t x=true)(h0:¬aW t x=0)(h1:¬aW t x=t.length) :
  ∃k,∃(g0:k<t.length) (g1:k+1<t.length),aW t x=k+1/\t[k].1<x/\x<t[k+1].1/\t[k].2<=(bf t x).1/\(bf t x).1<=t[k+1].2:=by
 have hpl:=eA t x
 obtain⟨k,u,a,d,q1,q2,g0,g1,r1,r2,r3,r4,r5,r6,r7,r8,r9,r10,s1,s2,r11,r12,r13⟩:=fg hv h0 (by omega) (by simpa using ha)
 rw[iG ha h0 h1,s1,s2,vR r1 r2 r3]
 have b5:u*a/d<=u:=by
  have h1:u*a<=u*d:=x1l _ (by omega)
  have h1':u*d=d*u:=x0R _ _
  exact Nat.le_of_lt_succ (x1U (by rw[x1W,x1I];omega))
 generalize u*a/d=q at b5
 exact⟨k,g0,g1,q1,by omega,by omega,by simp only;omega,by simp only;omega⟩
theorem mY{t:List (Int×Int)}{x:Int}(ha:atK t x=true):∃(hl:aW t x<t.length),t[aW t x].1=x/\(bf t x).1=t[aW t x].2:=by
 have hl:aW t x<t.length:=by simp[atK]at ha;exact ha.1
 have e:t[aW t x]! = t[aW t x]:=x0f t _ hl
 have h1:=fb (.inl ha)
 simp only[atK,hl,decide_true,x0T,x0c,e]at ha
 exact⟨hl,ha,by rw[h1,e]⟩
theorem sx{t:List (Int×Int)}(hv:ar t=true){x:Int}{j:Nat}(hj:j<t.length)(h:x<=t[j].1):(bf t x).1<=t[j].2:=by
 have hp:=fc hj h
 by_cases ha:atK t x=true
 ·obtain⟨hl,_,e⟩:=mY ha
  rw[e];exact cU hv hj hp
 by_cases h0:aW t x=0
 ·rw[fb (.inr h0),h0,x0f t 0 (by omega)]
  exact cU hv hj (by omega)
 obtain⟨k,g0,g1,q1,_,_,_,q2⟩:=pc hv ha h0 (by omega)
 have:=cU hv hj (show k+1<=j by omega)
 omega
theorem pP{t:List (Int×Int)}(hv:ar t=true){x:Int}{i:Nat}(hi:i<t.length)(h:t[i].1<=x):t[i].2<=(bf t x).1:=by
 have hpl:=eA t x
 by_cases ha:atK t x=true
 ·obtain⟨hl,e1,e⟩:=mY ha
  rw[e]
  by_cases hip:i<=aW t x
  ·exact cU hv hl hip
  ·have:=ir hv (aW t x) i hi (by omega)
   omega
 by_cases h0:aW t x=0
 ·rw[fb (.inr h0),h0,x0f t 0 (by omega)]
  have h1:=gD (t:=t) (x:=x) (by omega)
  simp only[h0]at h1
  have hi0:i=0:=by
   apply Classical.byContradiction
   intro hne
   have:=ir hv 0 i hi (by omega)
   omega
  subst hi0
  exact x0F _
 by_cases h1:aW t x=t.length
 ·obtain⟨n,hn⟩:∃n,n+1=t.length:=⟨t.length-1,by omega⟩
  rw[iH ha h0 h1,show aW t x-1=n by omega,x0f t n (by omega)]
  exact cU hv (by omega) (by omega)
 obtain⟨k,g0,g1,q1,_,q3,q4,_⟩:=pc hv ha h0 h1
 have hik:i<=k:=by
  apply x1C
  intro hne
  have:=lB hv hi (show k+1<=i by omega)
  omega
 have:=cU hv g0 hik
 omega
theorem uc{t:List (Int×Int)}(hv:ar t=true){x y:Int}(h:x<=y):(bf t x).1<=(bf t y).1:=by
 obtain⟨l1,l2⟩:=bu hv
 have hpx:=eA t x
 have hpy:=eA t y
 by_cases hk:∃j,∃(hj:j<t.length),x<=t[j].1/\t[j].1<=y
 ·obtain⟨j,hj,h1,h2⟩:=hk
  have:=sx hv hj h1
  have:=pP hv hj h2
  omega
 have nk:∀j,(hj:j<t.length)->x<=t[j].1->y<t[j].1:=fun j hj h1=>by
  apply Classical.byContradiction
  intro hn
  exact hk ⟨j,hj,h1,by omega⟩
 have hax:¬atK t x=true:=fun ha=>by
  obtain⟨hl,e1,_⟩:=mY ha
  have:=nk _ hl (by omega)
  omega
 have hay:¬atK t y=true:=fun ha=>by
  obtain⟨hl,e1,_⟩:=mY ha
  exact hk ⟨_,hl,by omega,by omega⟩
 have hpp:aW t y=aW t x:=by
  apply Nat.le_antisymm
  ·by_cases hl:aW t x<t.length
   ·have h1:=gD hl
    have:=nk _ hl h1
    exact fc hl (by omega)
   ·omega
  ·apply x1C
   intro hlt
   have h1:=gD (t:=t) (x:=y) (by omega)
   have h2:=lj (t:=t) (x:=x) hlt (by omega)
   omega
 by_cases h0:aW t x=0
 ·rw[fb (.inr h0),fb (.inr (by omega)),hpp];exact x0F _
 by_cases h1:aW t x=t.length
 ·rw[iH hax h0 h1,iH hay (by omega) (by omega),hpp];exact x0F _
 obtain⟨k,u,a,d,q1,q2,g0,g1,r1,r2,r3,r4,r5,r6,r7,r8,r9,r10,s1,s2,r11,r12,r13⟩:=fg hv h0 (by omega) (by simpa using hax)
 rw[iG hax h0 h1,iG hay (by omega) (by omega),hpp,s1,s2,vR r1 r2 r3]
 have r2':y-t[k].1=((a+(y-x).toNat:Nat):Int):=by omega
 rw[vR r1 r2' r3]
 have:=Nat.div_le_div_right (c:=d) (x1l u (show a<=a+(y-x).toNat by omega))
 simp only
 omega
theorem vX{s:Sec}(hv:aq s=true){fall len x y:Int}(hs:bE fall len=true)(h:x<=y):i7 s x fall len<=i7 s y fall len:=by
 obtain⟨h1,_,_,_⟩:=dR hv
 have c1:=kQ hv x
 have c2:=kQ hv y
 have hm:=uc h1 h
 simp only[bE,x0a,x0c]at hs
 unfold i7
 have hk:(bf s.conv x).1.toNat<=(bf s.conv y).1.toNat:=by omega
 have hb:=tm (k:=(bf s.conv y).1.toNat) (f:=fall.toNat) (by omega) (by omega)
 have hb2:=Nat.div_le_self ((bf s.conv y).1.toNat*(bf s.conv y).1.toNat*fall.toNat) len.toNat
 refine uj (Nat.div_le_div_right (x0j _ (x0U hk hk))) (by omega)
theorem pq(s:Sec)(flow fall len:Int):dz s flow fall len=cF s flow fall len:=by
 unfold dz cF
 by_cases hv:aq s=true
 ·rw[if_pos hv,if_pos hv]
  by_cases hc:0<=flow/\flow<=1099511627776/\bE fall len=true
  ·rw[if_pos hc,if_pos hc]
   have hh:1<=s.height/\s.height<=32768:=by
    simp only[aq,x0a,x0c]at hv
    omega
   have h40:(2:Nat)^40=1099511627776:=by decide +kernel
   obtain⟨H,hH⟩:∃H:Nat,s.height=H:=⟨s.height.toNat,by omega⟩
   have hm:∀a b,a<=b->bX s flow fall len a=true->bX s flow fall len b=true:=fun a b hab ha=>by
    simp only[bX,x0c]at ha ⊢
    have:=vX hv hc.2.2 (show(a:Int)<=(b:Int) by omega)
    omega
   rw[hH,x1m]
   unfold gK
   rw[hH,x1m]
   have hp:((i7 s H fall len:Int)<flow)↔¬bX s flow fall len H=true:=by
    simp only[bX,x0c];omega
   obtain⟨a,b⟩:=jC hm 40 0 (H+1) (by omega) (by rw[h40];omega)
   have hr:=dg (bX s flow fall len) 40 0 (H+1) (by omega)
   obtain⟨L,hL⟩:∃L,L=bis (bX s flow fall len) 40 0 (H+1):=⟨_,rfl⟩
   rw[<- hL]at a b hr ⊢
   by_cases he:bX s flow fall len H=true
   ·have hLH:L<=H:=by
     apply x1C
     intro hlt
     have:=a H (by omega) hlt
     rw[he]at this;cases this
    rw[if_neg (by rw[hp];simp[he]),if_neg (by omega)]
    rw[xM hm (r:=L) (by omega) hLH (by rw[h40];omega) a (fun _=>b (by omega))]
   ·have hLH:H<L:=by
     apply Nat.lt_of_not_le
     intro hle
     exact he (hm L H hle (b (by omega)))
    rw[if_pos (hp.2 he),if_pos hLH]
  ·rw[if_neg hc,if_neg hc]
 ·rw[if_neg hv,if_neg hv]
theorem tJ(a b:Int):grI a b=mxI a b:=by unfold grI mxI;split<;>split<;>omega
theorem sj(l:Lnk)(s:Sec)(f:Int):ia l s f=cf l s f:=yO _ _ _
theorem yE(l:Lnk)(s:Sec)(f v:Int):uN l s f v=je l s f v:=by
 unfold uN je
 rw[sj,tJ]
theorem xQ{s:Sec}(hv:aq s=true)(fall len:Int):i7 s s.height fall len=kL s fall len:=by
 obtain⟨h1,h2,_,_⟩:=dR hv
 obtain⟨l1,l2⟩:=bu h1
 obtain⟨n,hn⟩:∃n,n+1=s.conv.length:=⟨s.conv.length-1,by omega⟩
 have hnl:n<s.conv.length:=by omega
 have e:(bf s.conv s.height).1=(db s.conv).2:=by
  rw[cd hn]at h2 ⊢
  have a:=sx h1 hnl (x:=s.height) (by omega)
  have b:=pP h1 hnl (x:=s.height) (by omega)
  omega
 unfold i7 kL
 rw[e]
theorem vI{l:Lnk}{s:Sec}{f v:Int}(hv:aq s=true)(hl:1<=l.len/\l.len<=16777216)(hd:l.down<=l.up)(hf:0<=f/\f<=1099511627776):lH l s f v=bV l s f v:=by
 have hs:bE (bI l) l.len=true:=by
  simp only[bE,x0a,x0c]
  unfold bI
  split<;>omega
 have hcap:=xQ hv (bI l) l.len
 have hD:(dz s f (bI l) l.len).2=0↔f<=(kL s (bI l) l.len:Int):=by
  unfold dz
  rw[if_pos hv,if_pos ⟨hf.1,hf.2,hs⟩,hcap]
  constructor
  ·intro h
   split at h
   ·simp at h
   ·omega
  ·intro h
   rw[if_neg (by omega)]
 have hL:iE l s f v=true↔(v<l.down+s.height/\f<=(kL s (bI l) l.len:Int)):=by
  simp only[iE,x0a,x0E,x0c]
  unfold f8
  rw[if_pos hv,if_pos hs]
  by_cases hc:1099511627776<kL s (bI l) l.len
  ·rw[if_pos hc]
   simp only
   constructor
   ·intro h;exact⟨h.1,by omega⟩
   ·intro h;exact⟨h.1,.inl trivial⟩
  ·rw[if_neg hc]
   simp only
   constructor
   ·intro h;exact⟨h.1,by rcases h.2 with h|h<;>omega⟩
   ·intro h;exact⟨h.1,.inr ⟨trivial,h.2⟩⟩
 unfold lH
 by_cases hb:iE l s f v=true
 ·have h1:=hL.1 hb
  rw[dP hb,if_pos ⟨hD.2 h1.2,h1.1⟩]
  have h2:=hD.2 h1.2
  unfold oZ
  rw[pq]at h2 ⊢
  rw[if_pos h2,tJ]
 ·rw[eO hb,if_neg (fun h=>hb (hL.2 ⟨h.2,hD.1 h.1⟩)),yE]
end Go.Gv

namespace Go.Gv
abbrev Edg:=Nat×Nat
def edK(e:Edg):List D:=knD ((e.1:Int),(e.2:Int))
def edI(e:Edg):Int×Int:=((e.1:Int),(e.2:Int))
theorem uE(es:List Edg):es.map edK=(es.map edI).map knD:=by simp[edK,edI]
def a8(l:List Nat):List (List D):=l.map fun k:Nat=>[.int .i64 (k:Int)]
def inG(n:Nat)(es:List Edg):Prop:=∀e∈es,e.1<n/\e.2<n
def nxt(n:Nat)(es:List Edg)(i:Nat):List Nat:=(List.range n).filter fun k=>es.contains (i,k)
theorem gy{n:Nat}{es:List Edg}{i k:Nat}:k∈nxt n es i↔k<n/\(i,k)∈es:=by simp[nxt]
theorem pL(n:Nat)(es:List Edg)(i:Nat):(nxt n es i).Nodup:=List.Pairwise.filter _ List.nodup_range
theorem uZ(n:Nat)(es:List Edg)(i:Nat):(nxt n es i).length<=n:=by
 have:=x1e (fun k=>es.contains (i,k)) (List.range n)
 simpa[nxt]using this
theorem iL{α:Type}{n k:Nat}{f:Nat->α}(x:α):((List.range n).map f).set k x=(List.range n).map fun v=>if v=k then x else f v:=by
 apply List.ext_getElem
 ·simp
 ·intro i h1 h2
  simp only[List.getElem_set,x1N,List.getElem_range]
  by_cases e:k=i
  ·rw[if_pos e,if_pos e.symm]
  ·rw[if_neg e,if_neg (Ne.symm e)]
def tgs(es:List Edg)(i:Nat):List Nat:=(es.filter fun e=>e.1==i).map (·.2)
theorem m7{es:List Edg}{i k:Nat}:k∈tgs es i↔(i,k)∈es:=by
 unfold tgs
 simp only[x0v,List.mem_filter,x0q]
 constructor
 ·rintro⟨⟨a,b⟩,⟨h1,h2⟩,h3⟩
  simp only at h2 h3
  subst h2 h3
  exact h1
 ·intro h
  exact⟨(i,k),⟨h,rfl⟩,rfl⟩
theorem s9{es:List Edg}{j:Nat}(hj:j<es.length)(v:Nat):tgs (es.take (j+1)) v=tgs (es.take j) v++(if es[j].1=v then [es[j].2] else []):=by
 unfold tgs
 rw[x0u hj,List.filter_append,x1y]
 congr 1
 by_cases h:es[j].1=v<;>simp[h]
theorem nj(es:List Edg)(i:Nat):(tgs es i).length<=es.length:=by
 unfold tgs
 rw[x1w]
 exact x1e _ _
def gg(es:List Edg)(out:List Nat)(v:Nat):Bool:=es.all fun e=>!(e.2==v)||out.contains e.1
theorem ll{es:List Edg}{out:List Nat}{v:Nat}:gg es out v=true↔∀u,(u,v)∈es->u∈out:=by
 unfold gg
 simp only[x0g,x0E,x0t,beq_eq_false_iff_ne,x0L]
 constructor
 ·intro h u hu
  rcases h _ hu with h|h
  ·exact absurd rfl h
  ·exact h
 ·rintro h ⟨a,b⟩ he
  by_cases e:b=v
  ·subst e;exact .inr (h a he)
  ·exact .inl e
def cL(n:Nat)(es:List Edg)(out:List Nat):List Nat:=(List.range n).filter fun v=>!out.contains v&&gg es out v
theorem ic{n:Nat}{es:List Edg}{out:List Nat}{v:Nat}:v∈cL n es out↔v<n/\v∉out/\∀u,(u,v)∈es->u∈out:=by
 simp only[cL,List.mem_filter,x1D,x0a,x0t,<- ll]
 simp
def jA(n:Nat)(es:List Edg)(out:List Nat):List Nat:=match cL n es out with
 | []=>out
 | v::_=>out++[v]
def aH(n:Nat)(es:List Edg):Nat->List Nat
 | 0=>[]
 | m+1=>jA n es (aH n es m)
def bk(n:Nat)(es:List Edg):List Nat:=aH n es n
def fm(n:Nat)(es:List Edg)(out:List Nat)(k:Nat):Nat:=((List.range n).filter fun u=>es.contains (u,k)&&!out.contains u).length
def lP(es:List Edg)(i k:Nat):Nat:=((List.range i).filter fun u=>es.contains (u,k)).length
theorem xV(n:Nat)(es:List Edg)(k:Nat):lP es n k=fm n es [] k:=by
 unfold lP fm
 congr 1
 apply List.filter_congr
 simp
theorem v8(es:List Edg)(i k:Nat):lP es (i+1) k=lP es i k+(if (i,k)∈es then 1 else 0):=by
 unfold lP
 rw[x1G,List.filter_append,x0Q]
 by_cases h:(i,k)∈es<;>simp[h]
theorem Bn(es:List Edg)(i k:Nat):lP es i k<=i:=by
 have:=x1e (fun u=>es.contains (u,k)) (List.range i)
 simpa[lP]using this
theorem pi{n:Nat}{es:List Edg}(hg:inG n es){out:List Nat}{k:Nat}:fm n es out k=0↔gg es out k=true:=by
 rw[ll]
 unfold fm
 rw[List.length_eq_zero_iff,List.filter_eq_nil_iff]
 constructor
 ·intro h u hu
  have:=h u (by simpa using (hg _ hu).1)
  simp at this
  exact this hu
 ·intro h u hu
  simp
  exact fun he=>h u he
theorem lS{α:Type}(l:List α)(p q:α->Bool):(l.filter p).length=(l.filter fun a=>p a&&q a).length+(l.filter fun a=>p a&&!q a).length:=by
 induction l with
 | nil=>rfl
 | cons a l ih =>
  simp only[List.filter_cons]
  cases p a<;>cases q a<;>simp<;>omega
theorem pg{n:Nat}{es:List Edg}{out:List Nat}{i:Nat}(hi:i<n)(ho:i∉out)(k:Nat):fm n es out k=fm n es (out++[i]) k+(if (i,k)∈es then 1 else 0):=by
 unfold fm
 rw[lS (List.range n) (fun u=>es.contains (u,k)&&!out.contains u) (fun u=>!(u==i))]
 congr 1
 ·congr 1
  apply List.filter_congr
  intro u _
  rw[x0z]
  simp[and_assoc]
 ·have e:(List.range n).filter (fun a=>(es.contains (a,k)&&!out.contains a)&&!!(a==i))=if (i,k)∈es then [i] else []:=by
   have h1:(List.range n).filter (fun a=>(es.contains (a,k)&&!out.contains a)&&!!(a==i))=((List.range n).filter (fun a=>a==i)).filter fun a=>es.contains (a,k)&&!out.contains a:=by
    rw[List.filter_filter]
    apply List.filter_congr
    intro u _
    simp
   have h2:(List.range n).filter (fun a=>a==i)=[i]:=by
    have:(List.range n).filter (fun a=>a==i)=List.replicate ((List.range n).count i) i:=List.filter_beq i
    rw[this,List.nodup_range.count,if_pos (by simpa using hi)]
    rfl
   rw[h1,h2]
   by_cases h:(i,k)∈es<;>simp[h,ho]
  rw[e]
  split<;>rfl
end Go.Gv

namespace Go.Gv
structure SlC (C:CC):Prop where
 sort:∀zs:List Int,zs.length<2^40->C 366 [.own 1 (zs.map fun n=>[.int .i64 n])] .any [.own 1 ((zs.mergeSort fun x y=>decide (x<=y)).map fun n=>[.int .i64 n]),.nilp]
 compact:∀zs:List Int,zs.length<2^40->C 523 [.own 1 (zs.map fun n=>[.int .i64 n])] .any [.own 1 ((Lib.compact zs).map fun n=>[.int .i64 n]),.nils,.nils]
 insert:∀(zs:List Int) (i:Nat) (x:Int),i<=zs.length->zs.length<2^40->C 519 [.own 1 (zs.map fun n=>[.int .i64 n]),.int .i64 i,.own 1 [[.int .i64 x]]] .any [.own 1 ((zs.take i++x::zs.drop i).map fun n=>[.int .i64 n]),.nils,.nils]
theorem kF:∀{l l':List Int},l.Pairwise (·<·)->l'.Pairwise (·<·)->(∀x,x∈l↔x∈l')->l=l'
 | [],[],_,_,_=>rfl
 | [],b::_,_,_,h=>by simpa using (h b).2 (by simp)
 | a::_,[],_,_,h=>by simpa using (h a).1 (by simp)
 | a::l,b::l',h1,h2,h=>by
  rw[List.pairwise_cons]at h1 h2
  have e:a=b:=by
   have x1:=(h a).1 (by simp)
   have x2:=(h b).2 (by simp)
   simp only[x0S]at x1 x2
   rcases x1 with x1|x1
   ·exact x1
   ·rcases x2 with x2|x2
    ·exact x2.symm
    ·have:=h2.1 a x1;have:=h1.1 b x2;omega
  subst e
  congr 1
  refine kF h1.2 h2.2 fun x=>?_
  have:=h x
  simp only[x0S]at this
  constructor
  ·intro hx
   have h3:=h1.1 x hx
   rcases this.1 (.inr hx)with h4|h4
   ·omega
   ·exact h4
  ·intro hx
   have h3:=h2.1 x hx
   rcases this.2 (.inr hx)with h4|h4
   ·omega
   ·exact h4
theorem kP{d:Array Int}(hs:∀j,0<j->j<d.size->d[j-1]!<=d[j]!):∀m,m<=d.size->(Lib.compactUpTo d m).Pairwise (·<·)/\(∀x,x∈Lib.compactUpTo d m↔∃j,j<m/\d[j]! = x)/\∀x∈Lib.compactUpTo d m,x<=d[m-1]!
 | 0,_=>by simp[Lib.compactUpTo]
 | m+1,hm=>by
  obtain⟨h1,h2,h3⟩:=kP hs m (by omega)
  rw[Lib.compactUpTo_succ]
  by_cases hk:Lib.keeps d m=true
  ·rw[if_pos hk]
   have hlt:∀x∈Lib.compactUpTo d m,x<d[m]!:=fun x hx=>by
    have h4:=h3 x hx
    simp only[Lib.keeps,x0c]at hk
    rcases hk with rfl|hk
    ·obtain⟨j,hj,_⟩:=(h2 x).1 hx;omega
    ·rcases x0X m with h0|h0
     ·subst h0;obtain⟨j,hj,_⟩:=(h2 x).1 hx;omega
     ·have:=hs m h0 (by omega);omega
   refine⟨List.pairwise_append.2 ⟨h1,by simp,fun a ha b hb=>by simp at hb;subst hb;exact hlt a ha⟩,fun x=>?_,fun x hx=>?_⟩
   ·simp only[x0p,x1i,h2]
    constructor
    ·rintro(⟨j,hj,rfl⟩|rfl)
     ·exact⟨j,by omega,rfl⟩
     ·exact⟨m,by omega,rfl⟩
    ·rintro⟨j,hj,rfl⟩
     by_cases e:j=m
     ·exact .inr (by rw[e])
     ·exact .inl ⟨j,by omega,rfl⟩
   ·simp only[x0p,x1i]at hx
    rcases hx with hx|hx
    ·exact Int.le_of_lt (hlt x hx)
    ·rw[hx];exact x0F _
  ·rw[if_neg hk,x1R]
   have hm0:0<m:=by
    rcases x0X m with h|h
    ·subst h;exact absurd (Lib.keeps_lt_one d 0 (by omega)) hk
    ·exact h
   have he:d[m]! = d[m-1]!:=by
    apply Classical.byContradiction
    intro h
    exact hk (Lib.keeps_pos h)
   refine⟨h1,fun x=>?_,fun x hx=>?_⟩
   ·rw[h2]
    constructor
    ·rintro⟨j,hj,rfl⟩;exact⟨j,by omega,rfl⟩
    ·rintro⟨j,hj,rfl⟩
     by_cases e:j=m
     ·subst e;exact⟨j-1,by omega,he.symm⟩
     ·exact⟨j,by omega,rfl⟩
   ·have:=h3 x hx
    simp only[Nat.add_sub_cancel,he]
    exact this
theorem qn{n:Nat}{es:List Edg}(hg:inG n es)(i:Nat):Lib.compact (((tgs es i).map fun k:Nat=>(k:Int)).mergeSort fun x y=>decide (x<=y))=(nxt n es i).map fun k:Nat=>(k:Int):=by
 obtain⟨zs,hz⟩:∃zs,zs=((tgs es i).map fun k:Nat=>(k:Int)).mergeSort fun x y=>decide (x<=y):=⟨_,rfl⟩
 rw[<- hz]
 have hp:zs.Pairwise (·<=·):=by
  have h:=List.pairwise_mergeSort (le:=fun x y:Int=>decide (x<=y)) (fun a b c h1 h2=>by simp at *;omega) (fun a b=>by simp;omega) ((tgs es i).map fun k:Nat=>(k:Int))
  rw[<- hz]at h
  exact h.imp fun h=>by simpa using h
 have hm:∀x,x∈zs↔∃k:Nat,(i,k)∈es/\(k:Int)=x:=fun x=>by
  rw[hz,List.mem_mergeSort,x0v]
  simp only[m7]
 have hs:∀j,0<j->j<zs.toArray.size->zs.toArray[j-1]!<=zs.toArray[j]!:=fun j h1 h2=>by
  have h3:j<zs.length:=by simpa using h2
  rw[x0f zs.toArray (j-1) (by simpa using (by omega:j-1<zs.length)),x0f zs.toArray j h2]
  exact List.pairwise_iff_getElem.1 hp (j-1) j (by omega) h3 (by omega)
 obtain⟨h1,h2,_⟩:=kP hs zs.length (by simp)
 refine kF h1 ?_ fun x=>?_
 ·rw[List.pairwise_map]
  have:(nxt n es i).Pairwise (·<·):=List.Pairwise.filter _ x1J
  exact this.imp fun h=>by omega
 ·unfold Lib.compact
  rw[h2,x0v]
  constructor
  ·rintro⟨j,hj,rfl⟩
   rw[x0f zs.toArray j (by simpa using hj)]
   obtain⟨k,k1,k2⟩:=(hm _).1 (x0h (l:=zs) hj)
   exact⟨k,gy.2 ⟨(hg _ k1).2,k1⟩,by simpa using k2⟩
  ·rintro⟨k,hk,rfl⟩
   obtain⟨j,hj,e⟩:=x0C.1 ((hm k).2 ⟨k,(gy.1 hk).2,rfl⟩)
   exact⟨j,hj,by rw[x0f zs.toArray j (by simpa using hj)];simpa using e⟩
variable{C:CC}(hC:ay prog C)
include hC
theorem M7(n i:Int):C 516 [.int .i64 n,.int .i64 i] (.bool (decide (0<=i)&&decide (i<n))) []:=by
 refine ai hC (nf:=N516) rfl rfl ?_
 simp[N516]
 refine ac (fun h=>?_) (fun h=>?_)<;>simp at h<;>simp[h]<;>omega
theorem BL{b:Bool}{xs:List (Int×Int)}{g:Nat}{cs:List D}(p:(Int×Int)->Bool)(hs:xs.length<2^62)(hp:∀x∈xs,C g (.agg (knD x)::cs) (.bool (p x)) []):C 522 [slx b (xs.map fun x=>knD x),.fn g cs] (.int .i64 (bj p xs)) []:=by
 refine ai hC (nf:=N522) rfl rfl ?_
 simp[N522]
 refine au Nat (fun i=>[(0,slx b (xs.map fun x=>knD x)),(1,.fn g cs),(7,.int .i64 xs.length),(8,.int .i64 i)]) (fun i=>i<=xs.length/\∀(j:Nat) (h:j<xs.length),j<i->p xs[j]=false) (fun i=>xs.length-i) 0 (by simp) (by simp) ?_
 rintro i ⟨hi,hj⟩
 simp
 refine ac (fun h=>?_) (fun h=>?_)<;>simp[h]<;>simp at h
 ·have hw:IntKind.wrap .i64 ((i:Int)+1)=((i+1:Nat):Int):=wrap_i64 (by omega) (by omega)
  have hc:=hp _ (x0h h)
  simp[h,knD]at hc ⊢
  refine aa hc (.inl rfl) ?_
  simp
  refine ac (fun h1=>?_) (fun h1=>?_)<;>simp[h1,hw]
  ·rw[cC hj h h1]
  ·refine⟨i+1,⟨by omega,fun j hl hjj=>?_⟩,by omega,rfl⟩
   rcases x0k.1 hjj with h2|rfl
   ·exact hj j hl h2
   ·exact h1
 ·rw[cJ (fun j hl=>hj j hl (by omega))]
theorem BJ{b:Bool}{xs:List (Int×Int)}{g:Nat}{cs:List D}(p:(Int×Int)->Bool)(hs:xs.length<2^62)(hp:∀x∈xs,C g (.agg (knD x)::cs) (.bool (p x)) []):C 514 [slx b (xs.map fun x=>knD x),.fn g cs] (.bool (xs.any p)) []:=by
 refine ai hC (nf:=N514) rfl rfl ?_
 simp[N514]
 refine aa (BL hC p hs hp) (.inl rfl) ?_
 simp[gb]
def rI(n:Int)(e:Int×Int):Bool:=!((decide (0<=e.1)&&decide (e.1<n))&&(decide (0<=e.2)&&decide (e.2<n)))
theorem Br(n:Int)(e:Int×Int):C 515 [.agg (knD e),.ptr [.int .i64 n]] (.bool (rI n e)) []:=by
 refine ai hC (nf:=N515) rfl rfl ?_
 simp[N515,knD]
 refine aa (M7 hC n e.1) (.inl rfl) ?_
 unfold rI
 cases h:(decide (0<=e.1)&&decide (e.1<n))
 ·simp
 ·simp
  refine aa (M7 hC n e.2) (.inl rfl) ?_
  simp
def gOk(n:Int)(es:List (Int×Int)):Bool:=decide (0<=n)&&decide (n<=300)&&decide (es.length<=1000)&&!es.any (rI n)
theorem rQ(b:Bool)(n:Int)(es:List (Int×Int))(hl:es.length<2^62):C 503 [.int .i64 n,slx b (es.map knD)] (.bool (gOk n es)) []:=by
 have k1:=BJ hC (b:=b) (xs:=es) (g:=515) (cs:=[.ptr [.int .i64 n]]) (rI n) hl (fun x _=>Br hC n x)
 refine ai hC (nf:=N503) rfl rfl ?_
 simp[N503]
 by_cases h1:n<0
 ·simp[h1,gOk,show ¬0<=n by omega]
 by_cases h2:300<n
 ·simp[h1,h2,gOk,show ¬n<=300 by omega]
 by_cases h3:(1000:Int)<es.length
 ·simp[h1,h2,h3,gOk,show ¬es.length<=1000 by omega]
 simp[h1,h2,h3]
 refine aa k1 (.inl rfl) ?_
 simp[gOk,show 0<=n by omega,show n<=300 by omega,show es.length<=1000 by omega]
theorem yx{n:Nat}{es:List Edg}(hn:n<=300)(he:es.length<=1000)(hg:inG n es):gOk n (es.map edI)=true:=by
 unfold gOk
 simp only[x0a,x0c,x1w,x0t,x0M,x0v]
 refine⟨⟨⟨by omega,by omega⟩,he⟩,?_⟩
 rintro x ⟨e,h1,rfl⟩
 obtain⟨h2,h3⟩:=hg e h1
 simp only[rI,edI,x0t,Bool.not_eq_false',x0a,x0c]
 simp
 omega
end Go.Gv

namespace Go.Gv
section
variable{C:CC}{hs:Option (List Nat)}{K:Env->Prop}{ns:List az}{dst:Option Nat}{u:Tag (hs,K,ns)}{e:Env}{R:List Nat}{acc:List (List Nat×List Nat)}
theorem bZ{sz:Nat}{es:List (List D)}{i:Nat}{c:List D}(h:es[i]? = some c):iQ C hs K ns dst u e R acc sz es i=(c.length=sz/\dW C hs K ns dst ⟨⟩ e R acc (.ptr c)):=by
 apply propext
 unfold iQ dW
 rw[h]
 exact⟨fun⟨_,h1,h2⟩=>by cases h1;exact h2,fun h2=>⟨c,rfl,h2⟩⟩
theorem aG{n:Nat}{ag:Bool}{p:Pa}{es:List (List D)}{i off:Nat}{r:List D}(hr:es[i]? = some r):md C hs K ns dst u e R acc n ag p es i off=(off+n<=r.length/\match ag with
    | true=>(((r.drop off).take n).all isV=true->dW C hs K ns dst ⟨⟩ e R acc (.agg ((r.drop off).take n))) /\
      (((r.drop off).take n).all isV=false->dW C hs K ns dst ⟨⟩ e R acc (.agx (((r.drop off).take n).mapIdx fun j c=>ldc p i (off+j) c)))
    | false=>dW C hs K ns dst ⟨⟩ e R acc (ldc p i off ((r.drop off).headD .any))):=by
 apply propext
 constructor
 ·rintro⟨r',h,h1,h2⟩
  rw[hr]at h
  cases h
  refine⟨h1,?_⟩
  cases ag<;>exact h2
 ·rintro⟨h1,h2⟩
  refine vg hr h1 ?_
  cases ag<;>exact h2
@[simp] theorem Lq{sz:Nat}{c0:List D}{es:List (List D)}:iQ C hs K ns dst u e R acc sz (c0::es) 0=(c0.length=sz/\dW C hs K ns dst ⟨⟩ e R acc (.ptr c0)):=bZ rfl
theorem z6{n:Nat}{ag:Bool}{p:Pa}{off:Nat}{c0:List D}{es:List (List D)}:md C hs K ns dst u e R acc n ag p (c0::es) 0 off=(off+n<=c0.length/\match ag with
    | true=>(((c0.drop off).take n).all isV=true->dW C hs K ns dst ⟨⟩ e R acc (.agg ((c0.drop off).take n))) /\
      (((c0.drop off).take n).all isV=false->dW C hs K ns dst ⟨⟩ e R acc (.agx (((c0.drop off).take n).mapIdx fun j c=>ldc p 0 (off+j) c)))
    | false=>dW C hs K ns dst ⟨⟩ e R acc (ldc p 0 off ((c0.drop off).headD .any))):=aG rfl
@[simp] theorem Lr{sz:Nat}{c0 c1:List D}{es:List (List D)}:iQ C hs K ns dst u e R acc sz (c0::c1::es) 1=(c1.length=sz/\dW C hs K ns dst ⟨⟩ e R acc (.ptr c1)):=bZ rfl
theorem z7{n:Nat}{ag:Bool}{p:Pa}{off:Nat}{c0 c1:List D}{es:List (List D)}:md C hs K ns dst u e R acc n ag p (c0::c1::es) 1 off=(off+n<=c1.length/\match ag with
    | true=>(((c1.drop off).take n).all isV=true->dW C hs K ns dst ⟨⟩ e R acc (.agg ((c1.drop off).take n))) /\
      (((c1.drop off).take n).all isV=false->dW C hs K ns dst ⟨⟩ e R acc (.agx (((c1.drop off).take n).mapIdx fun j c=>ldc p 1 (off+j) c)))
    | false=>dW C hs K ns dst ⟨⟩ e R acc (ldc p 1 off ((c1.drop off).headD .any))):=aG rfl
@[simp] theorem Ls{sz:Nat}{c0 c1 c2:List D}{es:List (List D)}:iQ C hs K ns dst u e R acc sz (c0::c1::c2::es) 2=(c2.length=sz/\dW C hs K ns dst ⟨⟩ e R acc (.ptr c2)):=bZ rfl
theorem z8{n:Nat}{ag:Bool}{p:Pa}{off:Nat}{c0 c1 c2:List D}{es:List (List D)}:md C hs K ns dst u e R acc n ag p (c0::c1::c2::es) 2 off=(off+n<=c2.length/\match ag with
    | true=>(((c2.drop off).take n).all isV=true->dW C hs K ns dst ⟨⟩ e R acc (.agg ((c2.drop off).take n))) /\
      (((c2.drop off).take n).all isV=false->dW C hs K ns dst ⟨⟩ e R acc (.agx (((c2.drop off).take n).mapIdx fun j c=>ldc p 2 (off+j) c)))
    | false=>dW C hs K ns dst ⟨⟩ e R acc (ldc p 2 off ((c2.drop off).headD .any))):=aG rfl
@[simp] theorem Lt{sz:Nat}{c0 c1 c2 c3:List D}{es:List (List D)}:iQ C hs K ns dst u e R acc sz (c0::c1::c2::c3::es) 3=(c3.length=sz/\dW C hs K ns dst ⟨⟩ e R acc (.ptr c3)):=bZ rfl
theorem Aa{n:Nat}{ag:Bool}{p:Pa}{off:Nat}{c0 c1 c2 c3:List D}{es:List (List D)}:md C hs K ns dst u e R acc n ag p (c0::c1::c2::c3::es) 3 off=(off+n<=c3.length/\match ag with
    | true=>(((c3.drop off).take n).all isV=true->dW C hs K ns dst ⟨⟩ e R acc (.agg ((c3.drop off).take n))) /\
      (((c3.drop off).take n).all isV=false->dW C hs K ns dst ⟨⟩ e R acc (.agx (((c3.drop off).take n).mapIdx fun j c=>ldc p 3 (off+j) c)))
    | false=>dW C hs K ns dst ⟨⟩ e R acc (ldc p 3 off ((c3.drop off).headD .any))):=aG rfl
@[simp] theorem Lu{sz:Nat}{c0 c1 c2 c3 c4:List D}{es:List (List D)}:iQ C hs K ns dst u e R acc sz (c0::c1::c2::c3::c4::es) 4=(c4.length=sz/\dW C hs K ns dst ⟨⟩ e R acc (.ptr c4)):=bZ rfl
theorem Ab{n:Nat}{ag:Bool}{p:Pa}{off:Nat}{c0 c1 c2 c3 c4:List D}{es:List (List D)}:md C hs K ns dst u e R acc n ag p (c0::c1::c2::c3::c4::es) 4 off=(off+n<=c4.length/\match ag with
    | true=>(((c4.drop off).take n).all isV=true->dW C hs K ns dst ⟨⟩ e R acc (.agg ((c4.drop off).take n))) /\
      (((c4.drop off).take n).all isV=false->dW C hs K ns dst ⟨⟩ e R acc (.agx (((c4.drop off).take n).mapIdx fun j c=>ldc p 4 (off+j) c)))
    | false=>dW C hs K ns dst ⟨⟩ e R acc (ldc p 4 off ((c4.drop off).headD .any))):=aG rfl
attribute [simp] z6 z7 z8 Aa Ab
end
end Go.Gv

namespace Go.Gv
section
variable{C:CC}{hs:Option (List Nat)}{K:Env->Prop}{ns:List az}{dst:Option Nat}{u:Tag (hs,K,ns)}{e:Env}{R:List Nat}{acc:List (List Nat×List Nat)}
@[simp] theorem Lv{sz:Nat}{c0 c1 c2 c3 c4 c5:List D}{es:List (List D)}:iQ C hs K ns dst u e R acc sz (c0::c1::c2::c3::c4::c5::es) 5=(c5.length=sz/\dW C hs K ns dst ⟨⟩ e R acc (.ptr c5)):=bZ rfl
@[simp] theorem Ob{n:Nat}{ag:Bool}{p:Pa}{off:Nat}{c0 c1 c2 c3 c4 c5:List D}{es:List (List D)}:md C hs K ns dst u e R acc n ag p (c0::c1::c2::c3::c4::c5::es) 5 off=(off+n<=c5.length/\match ag with
    | true=>(((c5.drop off).take n).all isV=true->dW C hs K ns dst ⟨⟩ e R acc (.agg ((c5.drop off).take n))) /\
      (((c5.drop off).take n).all isV=false->dW C hs K ns dst ⟨⟩ e R acc (.agx (((c5.drop off).take n).mapIdx fun j c=>ldc p 5 (off+j) c)))
    | false=>dW C hs K ns dst ⟨⟩ e R acc (ldc p 5 off ((c5.drop off).headD .any))):=aG rfl
@[simp] theorem Lw{sz:Nat}{c0 c1 c2 c3 c4 c5 c6:List D}{es:List (List D)}:iQ C hs K ns dst u e R acc sz (c0::c1::c2::c3::c4::c5::c6::es) 6=(c6.length=sz/\dW C hs K ns dst ⟨⟩ e R acc (.ptr c6)):=bZ rfl
@[simp] theorem Oc{n:Nat}{ag:Bool}{p:Pa}{off:Nat}{c0 c1 c2 c3 c4 c5 c6:List D}{es:List (List D)}:md C hs K ns dst u e R acc n ag p (c0::c1::c2::c3::c4::c5::c6::es) 6 off=(off+n<=c6.length/\match ag with
    | true=>(((c6.drop off).take n).all isV=true->dW C hs K ns dst ⟨⟩ e R acc (.agg ((c6.drop off).take n))) /\
      (((c6.drop off).take n).all isV=false->dW C hs K ns dst ⟨⟩ e R acc (.agx (((c6.drop off).take n).mapIdx fun j c=>ldc p 6 (off+j) c)))
    | false=>dW C hs K ns dst ⟨⟩ e R acc (ldc p 6 off ((c6.drop off).headD .any))):=aG rfl
@[simp] theorem Lx{sz:Nat}{c0 c1 c2 c3 c4 c5 c6 c7:List D}{es:List (List D)}:iQ C hs K ns dst u e R acc sz (c0::c1::c2::c3::c4::c5::c6::c7::es) 7=(c7.length=sz/\dW C hs K ns dst ⟨⟩ e R acc (.ptr c7)):=bZ rfl
@[simp] theorem Od{n:Nat}{ag:Bool}{p:Pa}{off:Nat}{c0 c1 c2 c3 c4 c5 c6 c7:List D}{es:List (List D)}:md C hs K ns dst u e R acc n ag p (c0::c1::c2::c3::c4::c5::c6::c7::es) 7 off=(off+n<=c7.length/\match ag with
    | true=>(((c7.drop off).take n).all isV=true->dW C hs K ns dst ⟨⟩ e R acc (.agg ((c7.drop off).take n))) /\
      (((c7.drop off).take n).all isV=false->dW C hs K ns dst ⟨⟩ e R acc (.agx (((c7.drop off).take n).mapIdx fun j c=>ldc p 7 (off+j) c)))
    | false=>dW C hs K ns dst ⟨⟩ e R acc (ldc p 7 off ((c7.drop off).headD .any))):=aG rfl
end
end Go.Gv

namespace Go.Gv
theorem jN{α:Type}(n:Nat)(x:α):List.replicate n x=(List.range n).map fun _=>x:=by simp[List.map_const']
theorem lY(l:List Nat):a8 l=(l.map fun k:Nat=>(k:Int)).map fun n=>[.int .i64 n]:=by simp[a8]
theorem BP{l:List Int}:∀e∈(l.map fun n=>[D.int .i64 n]),e.length=1/\∀c∈e,aI c=true:=by
 intro e he
 simp only[x0v]at he
 obtain⟨k,_,rfl⟩:=he
 simp[aI]
theorem BQ{l:List Int}:∀e∈(l.map fun n=>[D.int .i64 n]),e.length=1/\∀c∈e,bF c=true:=by
 intro e he
 simp only[x0v]at he
 obtain⟨k,_,rfl⟩:=he
 simp[bF]
def ndD(l:List Nat):D:=.sl (a8 l)
def FX(n:Nat)(es:List Edg):D:=.sl ((List.range n).map fun v=>[ndD (nxt n es v)])
def mT(n:Nat)(es:List Edg)(j:Nat):List (List D):=(List.range n).map fun v=>[.own 1 (a8 (tgs (es.take j) v))]
def mU(n:Nat)(es:List Edg)(j:Nat):List (List D):=(List.range n).map fun v=>[.own 1 (a8 (if v<j then nxt n es v else tgs es v))]
theorem a7(l:List Nat):(a8 l).length=l.length:=by simp[a8]
theorem hJ(l:List Nat):(a8 l).take l.length=a8 l:=by rw[<- a7 l];exact x08
theorem gZ(l:List Nat)(k:Nat):a8 l++[[.int .i64 (k:Int)]]=a8 (l++[k]):=by simp[a8]
theorem uO{l:List Nat}:∀e∈a8 l,e.length=1/\∀c∈e,aI c=true:=by
 intro e he
 simp only[a8,x0v]at he
 obtain⟨k,_,rfl⟩:=he
 simp[aI]
theorem qD{l:List Nat}:∀e∈a8 l,e.length=1/\∀c∈e,bF c=true:=by
 intro e he
 simp only[a8,x0v]at he
 obtain⟨k,_,rfl⟩:=he
 simp[bF]
variable{C:CC}(hC:ay prog C)
include hC
theorem FS(hS:SlC C){b:Bool}{n:Nat}{es:List Edg}(hn:n<=300)(he:es.length<=1000)(hg:inG n es):C 517 [.int .i64 n,slx b (es.map edK)] (FX n es) []:=by
 refine ai hC (nf:=N517) rfl rfl ?_
 simp[N517]
 refine⟨by omega,?_⟩
 refine au Nat (fun j=>[(5,.ref (.r 10080) 0 n),(10080,.blk 1 (mT n es j)),(11,slx b (es.map edK)),(12,.int .i64 es.length),(13,.int .i64 j)]) (fun j=>j<=es.length) (fun j=>es.length-j) 0 (by simp) (by simp[mT,tgs,a8,jN]) ?_
 rintro j hj
 simp
 refine ac (fun h=>?_) (fun h=>?_)<;>simp[h]<;>simp at h
 ·have hw:IntKind.wrap .i64 ((j:Int)+1)=((j+1:Nat):Int):=wrap_i64 (by omega) (by omega)
  have hin:=hg _ (x0h h)
  have hr:(mT n es j)[es[j].1]? = some [.own 1 (a8 (tgs (es.take j) es[j].1))]:=by simp[mT,hin.1]
  have hlt:=nj (es.take j) es[j].1
  have hb:(tgs (es.take j) es[j].1).length<=1000:=by simp at hlt;omega
  have hrl:(mT n es j).length=n:=by simp[mT]
  have hr2:es[j].1<(mT n es j).length:=by omega
  simp[h,edK,knD,aG hr,hin,hr,a7]
  refine⟨by omega,?_⟩
  simp only[hJ,gZ]
  have e1:∀e,e∈a8 (tgs (es.take j) es[j].1)\/e=[.int .i64 (es[j].2:Int)]->∀c∈e,aI c=true:=by
   rintro e (h1|rfl)
   ·exact(uO e h1).2
   ·simp[aI]
  have e2:(((mT n es j).set es[j].1 [.any]).set es[j].1 [.own 1 (a8 (tgs (es.take j) es[j].1++[es[j].2]))])=mT n es (j+1):=by
   rw[List.set_set]
   unfold mT
   rw[iL]
   apply x0i
   intro v _
   rw[s9 h]
   by_cases e:v=es[j].1
   ·subst e;simp
   ·rw[if_neg e,if_neg (Ne.symm e),x1R]
  refine⟨e1,?_⟩
  simp[hr2,e2]
  refine⟨ao (by decide +kernel),?_⟩
  simp[hw]
  refine⟨j+1,by omega,by omega,?_,by simp⟩
  simp only[hJ,gZ]
  rw[<- e2,List.set_set]
 ·have e0:mT n es j=mU n es 0:=by
   unfold mT mU
   rw[x0s h]
   simp
  rw[e0]
  refine au Nat (fun j=>[(5,.ref (.r 10080) 0 n),(10080,.blk 1 (mU n es j)),(32,.int .i64 n),(33,.int .i64 j)]) (fun j=>j<=n) (fun j=>n-j) 0 (by simp) (by simp) ?_
  clear e0 h hj j
  rintro j hj
  simp
  refine ac (fun h=>?_) (fun h=>?_)<;>simp[h]<;>simp at h
  ·have hw:IntKind.wrap .i64 ((j:Int)+1)=((j+1:Nat):Int):=wrap_i64 (by omega) (by omega)
   have hr:(mU n es j)[j]? = some [.own 1 (a8 (tgs es j))]:=by simp[mU,h]
   have hl:=nj es j
   simp[h,aG hr,hr,a7]
   have ks:=hS.sort ((tgs es j).map fun k:Nat=>(k:Int)) (by simp;omega)
   have kc:=hS.compact (((tgs es j).map fun k:Nat=>(k:Int)).mergeSort fun x y=>decide (x<=y)) (by simp[List.length_mergeSort];omega)
   rw[qn hg,<- lY]at kc
   rw[<- lY]at ks
   have hsl:(((tgs es j).map fun k:Nat=>(k:Int)).mergeSort fun x y=>decide (x<=y)).length=(tgs es j).length:=by simp[List.length_mergeSort]
   obtain⟨zs,hz⟩:∃zs,zs=((tgs es j).map fun k:Nat=>(k:Int)).mergeSort fun x y=>decide (x<=y):=⟨_,rfl⟩
   rw[<- hz]at ks kc hsl
   have hjl:j<(mU n es j).length:=by simp[mU,h]
   have e1:(((mU n es j).set j [.own 1 (zs.map fun n=>[.int .i64 n])]).set j [.any]).set j [.own 1 (a8 (nxt n es j))]=mU n es (j+1):=by
    rw[List.set_set,List.set_set]
    unfold mU
    rw[iL]
    apply x0i
    intro v _
    by_cases e:v=j
    ·subst e;simp
    ·rw[if_neg e]
     by_cases e2:v<j
     ·rw[if_pos e2,if_pos (by omega)]
     ·rw[if_neg e2,if_neg (by omega)]
   refine xU ks (by rw[x1w,hsl,a7]) BP ?_
   have hset:∀x,((mU n es j).set j x)[j]? = some x:=fun x=>by simp[hjl]
   simp[hr,h,aG (hset _),hset]
   refine⟨fun e he=>(BQ e (x0H he)).2,?_⟩
   have e3:(zs.map fun n=>[D.int .i64 n]).take zs.length=zs.map fun n=>[D.int .i64 n]:=x0s (by simp)
   rw[e3]
   refine uD kc qD ?_
   simp[hr,h,aG (hset _),hset]
   rw[List.set_set,List.set_set]at e1
   exact⟨fun e he=>(uO e he).2,j+1,by omega,by omega,e1,hw⟩
  ·have e:j=n:=by omega
   subst e
   simp[mU]
   unfold FX
   rw[x0s (by simp)]
   congr 1
   apply x0i
   intro v hv
   have:v<j:=by simpa using hv
   simp[this,aT,ndD]
end Go.Gv
