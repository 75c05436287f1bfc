/-
  Texts of the proof: M4, P3, K3, K2, B1, B2, K9, K10, B3, B4, B5, K11, K12, B6, W1, W2, W3, W4, W5, B7, P5, M1, P4, M5, P1, M2a, P2, B8, P6, B9, P4b, P7, Q0, Q1, GvX.
-/
import Derived.Test.YtabkicbiibfnbaaGreatX6
import Derived.Lib.SlicesCompact
set_option linter.all false
namespace Go.Gv
def DvS (x b i a q r : Nat) : Prop:=i <= 128 /\ r < b /\ ∃ c,a=c * 2 ^ i /\ c < 2 ^ (128 - i) /\ (q * b + r) * 2 ^ (128 - i) + c=x
theorem DvS.step {x b i a q r : Nat} (h : DvS x b i a q r) (hi : i < 128) (hb : 0 < b) :
  a < 340282366920938463463374607431768211456 /\ 2 * q <= x /\
  ∀ w r' a',2 * r + a / 170141183460469231731687303715884105728=w * b + r' -> r' < b -> a'=2 * a % 340282366920938463463374607431768211456 -> DvS x b (i + 1) a' (2 * q + w) r' /\ 2 * q + w <= x:=by
 obtain ⟨_,hr,c,h1,h2,h3⟩:=h
 obtain ⟨m,hm⟩ : ∃ m,m + 1=128 - i:=⟨127 - i,by omega⟩
 have hm2 : m=128 - (i + 1):=by omega
 rw [<- hm,x1S] at h2 h3
 obtain ⟨V,hV⟩ : ∃ V,V=2 ^ m:=⟨_,rfl⟩
 obtain ⟨W,hW⟩ : ∃ W,W=2 ^ i:=⟨_,rfl⟩
 have hVW : V * W=170141183460469231731687303715884105728:=by
  rw [hV,hW,<- Nat.pow_add,show m + i=127 by omega]
 have hVp : 0 < V:=by rw [hV];exact x1v m
 rw [<- hV] at h2 h3
 rw [<- hW] at h1
 obtain ⟨t,ht⟩ : ∃ t,t=c / V:=⟨_,rfl⟩
 obtain ⟨d,hd⟩ : ∃ d,d=c % V:=⟨_,rfl⟩
 have hc : c=t * V + d:=by rw [ht,hd,x0U];exact (x06 c V).symm
 have hdV : d < V:=by rw [hd];exact x1b _ hVp
 have ht1 : t <= 1:=by
  have : t < 2:=by rw [ht,x1x hVp];omega
  omega
 have ha : a=t * 170141183460469231731687303715884105728 + d * W:=by
  rw [h1,hc,x0C,x1a,hVW]
 have hdW : d * W < 170141183460469231731687303715884105728:=by
  have : (d + 1) * W <= V * W:=x0s _ hdV
  rw [hVW,x0C] at this
  have hWp : 0 < W:=by rw [hW];exact x1v i
  omega
 have hbit : a / 170141183460469231731687303715884105728=t:=by
  rw [ha];generalize d * W=z at *;omega
 have fin : ∀ w r',2 * r + t=w * b + r' -> ((2 * q + w) * b + r') * V + d=x:=fun w r' e=>by
  have e1 : (2 * q + w) * b + r'=2 * (q * b + r) + t:=by
   rw [x0C,x1a]
   generalize q * b=z at *
   generalize w * b=z' at *
   omega
  rw [e1,<- h3,hc,x0C,x0U V 2,<- x1a,x0U (q * b + r) 2]
  omega
 have big : ∀ w r',2 * r + t=w * b + r' -> 2 * q + w <= x:=fun w r' e=>by
  have e1:=fin w r' e
  have e2 : 2 * q + w <= (2 * q + w) * b:=Nat.le_mul_of_pos_right _ hb
  have e3 : (2 * q + w) * b + r' <= ((2 * q + w) * b + r') * V:=Nat.le_mul_of_pos_right _ hVp
  omega
 refine ⟨?_,?_,?_⟩
 ·rw [ha];generalize d * W=z at *;omega
 ·exact x1h (Nat.le_add_right _ _) (big _ _ (x1t (2 * r + t) b).symm)
 ·intro w r' a' e hr' ha'
  rw [hbit] at e
  refine ⟨⟨by omega,hr',d,?_,?_,?_⟩,big w r' e⟩
  ·rw [ha',ha,x1S,<- hW,x0U W 2,Nat.mul_left_comm]
   generalize d * W=z at *
   omega
  ·rw [<- hm2,<- hV];exact hdV
  ·rw [<- hm2,<- hV];exact fin w r' e
theorem DvS.last {x b a q r : Nat} (h : DvS x b 128 a q r) : q=x / b /\ r=x % b:=by
 obtain ⟨_,hr,c,h1,h2,h3⟩:=h
 simp at h2 h3
 subst h2
 simp at h3
 subst h3
 have hb : 0 < b:=by omega
 rw [x0U,Nat.mul_add_div hb,Nat.div_eq_of_lt hr,Nat.mul_add_mod,Nat.mod_eq_of_lt hr]
 exact ⟨rfl,rfl⟩
variable {C : CC} (hC : aw prog C)
include hC
theorem qj (a b : Nat) : C 84 [.agg [.int .u64 a,.int .u64 b],.bool false] (.agg [.int .u64 a,.int .u64 b,.bool false]) []:=by
 refine ai hC (nf:=N84) rfl rfl ?_
 simp [N84]
 exact am (by decide +kernel)
theorem rI (n : Nat) (h : n < 9223372036854775808) : C 68 [.int .i64 n] (.agg [.int .u64 0,.int .u64 n,.bool false]) []:=by
 refine ai hC (nf:=N68) rfl rfl ?_
 simp [N68]
 refine aa (qk hC n h) (.inl rfl) ?_
 have hm:=qj hC 0 n
 have h0 : ¬ (n : Int) < 0:=by omega
 simp [h0]
 refine aa hm (.inl rfl) ?_
 simp
theorem rL (x y : Nat) (hx : x < 9223372036854775808) (hy : y < 9223372036854775808) : C 67 [.int .i64 x,.int .i64 y] (.agg [.int .u64 ((x * y / 18446744073709551616 : Nat) : Int),.int .u64 ((x * y % 18446744073709551616 : Nat) : Int),.bool false]) []:=by
 refine ai hC (nf:=N67) rfl rfl ?_
 have h0 : ¬ (x : Int) < 0:=by omega
 have h1 : ¬ (y : Int) < 0:=by omega
 have hm:=nQ hC x y (by omega) (by omega)
 rw [bq] at hm
 obtain ⟨zh,hzh⟩ : ∃ zh,zh=x * y / 18446744073709551616:=⟨_,rfl⟩
 obtain ⟨zl,hzl⟩ : ∃ zl,zl=x * y % 18446744073709551616:=⟨_,rfl⟩
 rw [<- hzh,<- hzl] at hm ⊢
 simp [N67]
 refine aa (qk hC x hx) (.inl rfl) ?_
 simp
 refine aa (qk hC y hy) (.inl rfl) ?_
 simp
 refine aa hm (.inl rfl) ?_
 simp [h0,h1]
 refine aa (qj hC zh zl) (.inl rfl) ?_
 simp
set_option maxHeartbeats 2000000 in
theorem EP (x b : Nat) (hx : x < 340282366920938463463374607431768211456) (hb0 : 0 < b) (hb : b < 9223372036854775808) : C 82 [.agg [.int .u64 ((x / 18446744073709551616 : Nat) : Int),.int .u64 ((x % 18446744073709551616 : Nat) : Int)],.agg [.int .u64 0,.int .u64 b]]
  (.tup [.agg [.int .u64 ((x / b / 18446744073709551616 : Nat) : Int),.int .u64 ((x / b % 18446744073709551616 : Nat) : Int)],.agg [.int .u64 0,.int .u64 ((x % b : Nat) : Int)]]) []:=by
 obtain ⟨xh,hxh⟩ : ∃ xh,xh=x / 18446744073709551616:=⟨_,rfl⟩
 obtain ⟨xl,hxl⟩ : ∃ xl,xl=x % 18446744073709551616:=⟨_,rfl⟩
 obtain ⟨yh,hyh⟩ : ∃ yh,yh=x / b / 18446744073709551616:=⟨_,rfl⟩
 obtain ⟨yl,hyl⟩ : ∃ yl,yl=x / b % 18446744073709551616:=⟨_,rfl⟩
 obtain ⟨z,hz⟩ : ∃ z,z=x % b:=⟨_,rfl⟩
 rw [<- hxh,<- hxl,<- hyh,<- hyl,<- hz]
 refine ai hC (nf:=N82) rfl rfl ?_
 simp [N82]
 refine au (Nat × Nat × Nat × Nat × Nat × Nat) (fun s=>[(2,.adr (.r 10032) 0 0),(3,.ptr [.int .u64 0,.int .u64 b]),(4,.adr (.r 10064) 0 0),(5,.adr (.r 10080) 0 0),(6,.adr (.r 10096) 0 0),(7,.adr (.r 10112) 0 0),(8,.int .i64 s.1),
   (10032,.blk 2 [[.int .u64 s.2.1,.int .u64 s.2.2.1]]),(10064,.blk 2 [[.int .u64 0,.int .u64 0]]),(10080,.blk 2 [[.int .u64 0,.int .u64 0]]),(10096,.blk 2 [[.int .u64 s.2.2.2.1,.int .u64 s.2.2.2.2.1]]),(10112,.blk 2 [[.int .u64 0,.int .u64 s.2.2.2.2.2]])])
  (fun s=>s.2.2.1 < 18446744073709551616 /\ s.2.2.2.2.1 < 18446744073709551616 /\ DvS x b s.1 (s.2.1 * 18446744073709551616 + s.2.2.1) (s.2.2.2.1 * 18446744073709551616 + s.2.2.2.2.1) s.2.2.2.2.2) (fun s=>128 - s.1) (0,xh,xl,0,0,0) ⟨by simp;omega,by simp,by omega,by simpa using hb0,x,by simp;omega,by simp;exact hx,by simp⟩ (by simp) ?_
 rintro ⟨i,ah,al,qh,ql,r⟩ ⟨hal,hql,hS⟩
 simp only at hal hql hS
 simp
 refine ac (fun c=>?_) (fun c=>?_) <;> simp at c <;> simp [c]
 ·have hrb:=hS.2.1
  have hw1 : IntKind.wrap .i64 ((i : Int) + 1)=((i + 1 : Nat) : Int):=wrap_i64 (by omega) (by omega)
  obtain ⟨g1,g2,g3⟩:=hS.step (by omega) hb0
  obtain ⟨A,hA⟩ : ∃ A,A=ah * 18446744073709551616 + al:=⟨_,rfl⟩
  obtain ⟨Q,hQ⟩ : ∃ Q,Q=qh * 18446744073709551616 + ql:=⟨_,rfl⟩
  rw [<- hA] at g1 g3
  rw [<- hQ] at g2 g3
  obtain ⟨t,ht⟩ : ∃ t,t=ah / 9223372036854775808:=⟨_,rfl⟩
  have ht2 : A / 170141183460469231731687303715884105728=t:=by omega
  rw [ht2] at g3
  obtain ⟨p,hp⟩ : ∃ p,p=2 * A % 340282366920938463463374607431768211456 / 18446744073709551616:=⟨_,rfl⟩
  obtain ⟨o,ho⟩ : ∃ o,o=2 * A % 340282366920938463463374607431768211456 % 18446744073709551616:=⟨_,rfl⟩
  have k1:=ib hC ah al 0 t p o (by omega) (by omega) (by omega) (by omega) (by omega)
  have k2:=ib hC 0 r t 0 0 (2 * r + t) (by omega) (by omega) (by omega) (by omega) (by omega)
  obtain ⟨u,hu⟩ : ∃ u,u=2 * Q / 18446744073709551616:=⟨_,rfl⟩
  obtain ⟨v,hv⟩ : ∃ v,v=2 * Q % 18446744073709551616:=⟨_,rfl⟩
  have k3:=ib hC qh ql 0 0 u v (by omega) (by omega) (by omega) (by omega) (by omega)
  obtain ⟨r2,hr2⟩ : ∃ r2,r2=2 * r + t:=⟨_,rfl⟩
  rw [<- hr2] at k2 g3
  have k4:=qi hC 0 r2 0 b
  simp only [Int.natCast_zero] at k1 k2 k3 k4
  have hsh : Int.fdiv (ah : Int) (2 ^ min 63 IntKind.u64.bits)=(t : Int):=by rw [sa,ht]
  have hsh0 : Int.fdiv 0 (2 ^ min 63 IntKind.u64.bits)=0:=by simpa using sa 0
  have e1 : p * 18446744073709551616 + o=2 * A % 340282366920938463463374607431768211456:=by rw [hp,ho];exact x1t _ _
  have e2 : u * 18446744073709551616 + v=2 * Q:=by rw [hu,hv];exact x1t _ _
  simp [hsh]
  refine aa k1 (.inl rfl) ?_
  simp [hsh0]
  refine aa k2 (.inl rfl) ?_
  simp
  refine aa k3 (.inl rfl) ?_
  simp
  refine aa k4 (.inl rfl) ?_
  simp
  refine ac (fun d=>?_) (fun d=>?_) <;> simp at d <;> simp [d,hw1]
  ·obtain ⟨r3,hr3⟩ : ∃ r3,r3=r2 - b:=⟨_,rfl⟩
   have k5:=rH hC 0 r2 0 b 0 r3 (by omega) (by omega) (by omega) (by omega) (by clear g3 hp ho hu hv g1 g2 hx k1 k2 k3 k4 e1 e2;omega)
   simp only [Int.natCast_zero] at k5
   obtain ⟨m1,m2⟩:=g3 1 r3 (2 * A % 340282366920938463463374607431768211456) (by omega) (by omega) rfl
   have hve : v % 2=0 /\ v < 18446744073709551616:=by
    clear g3 m1 m2 k1 k2 k3 k4 k5 hS e1 e2 hp ho g1 hA
    omega
   have hv1 : IntKind.u64.wrap ((v : Int) + 1)=((v + 1 : Nat) : Int):=uw (.inl (by push_cast;rfl)) (by clear g3 m1 m2 hp ho hu hv;omega)
   refine aa k5 (.inl rfl) ?_
   simp [hv1,hw1]
   refine ⟨i + 1,p,o,u,v + 1,r3,⟨by clear g3 m1 m2 hu hv;omega,by clear g3 m1 m2 hp ho hu hv;omega,?_⟩,by omega,?_⟩
   ·rw [e1,<- x0L,e2];exact m1
   ·simp
  ·obtain ⟨m1,m2⟩:=g3 0 r2 (2 * A % 340282366920938463463374607431768211456) (by omega) (by omega) rfl
   refine ⟨i + 1,p,o,u,v,r2,⟨by omega,by omega,?_⟩,by omega,?_⟩
   ·rw [e1,e2];exact m1
   ·simp
 ·obtain rfl : i=128:=by have:=hS.1;omega
  obtain ⟨e1,e2⟩:=hS.last
  refine ⟨am (by decide +kernel),?_⟩
  rw [<- hz] at e2
  subst e2
  obtain ⟨Y,hY⟩ : ∃ Y,Y=x / b:=⟨_,rfl⟩
  rw [<- hY] at e1 hyh hyl
  have e3 : qh=yh:=by omega
  have e4 : ql=yl:=by omega
  subst e3 e4
  simp
end Go.Gv

namespace Go.Gv
variable {C : CC} (hC : aw prog C)
include hC
set_option maxRecDepth 8000 in
set_option maxHeartbeats 4000000 in
theorem Bl (x b : Nat) (hx : x < 340282366920938463463374607431768211456) (hb0 : 0 < b) (hb : b < 170141183460469231731687303715884105728) : C 82 [.agg [.int .u64 ((x / 18446744073709551616 : Nat) : Int),.int .u64 ((x % 18446744073709551616 : Nat) : Int)],.agg [.int .u64 ((b / 18446744073709551616 : Nat) : Int),.int .u64 ((b % 18446744073709551616 : Nat) : Int)]]
  (.tup [.agg [.int .u64 ((x / b / 18446744073709551616 : Nat) : Int),.int .u64 ((x / b % 18446744073709551616 : Nat) : Int)],.agg [.int .u64 ((x % b / 18446744073709551616 : Nat) : Int),.int .u64 ((x % b % 18446744073709551616 : Nat) : Int)]]) []:=by
 obtain ⟨xh,hxh⟩ : ∃ xh,xh=x / 18446744073709551616:=⟨_,rfl⟩
 obtain ⟨xl,hxl⟩ : ∃ xl,xl=x % 18446744073709551616:=⟨_,rfl⟩
 obtain ⟨bh,hbh⟩ : ∃ bh,bh=b / 18446744073709551616:=⟨_,rfl⟩
 obtain ⟨bl,hbl⟩ : ∃ bl,bl=b % 18446744073709551616:=⟨_,rfl⟩
 obtain ⟨yh,hyh⟩ : ∃ yh,yh=x / b / 18446744073709551616:=⟨_,rfl⟩
 obtain ⟨yl,hyl⟩ : ∃ yl,yl=x / b % 18446744073709551616:=⟨_,rfl⟩
 obtain ⟨zh,hzh⟩ : ∃ z,z=x % b / 18446744073709551616:=⟨_,rfl⟩
 obtain ⟨zl,hzl⟩ : ∃ z,z=x % b % 18446744073709551616:=⟨_,rfl⟩
 rw [<- hxh,<- hxl,<- hyh,<- hyl,<- hzh,<- hzl,<- hbh,<- hbl]
 have hbb : bh * 18446744073709551616 + bl=b:=by rw [hbh,hbl];exact x1t _ _
 have hbl2 : bl < 18446744073709551616:=by rw [hbl];exact x1b _ (by decide)
 have hxl2 : xl < 18446744073709551616:=by rw [hxl];exact x1b _ (by decide)
 have h00 : (0 : Nat) < 18446744073709551616:=by decide
 have hxx : xh * 18446744073709551616 + xl=x:=by rw [hxh,hxl];exact x1t _ _
 have hS0 : DvS x b 0 (xh * 18446744073709551616 + xl) (0 * 18446744073709551616 + 0) (0 * 18446744073709551616 + 0):=by
  rw [hxx]
  have hpow : (2 : Nat) ^ 128=340282366920938463463374607431768211456:=by decide +kernel
  exact ⟨by omega,by simpa using hb0,x,by simp,by rw [Nat.sub_zero,hpow];exact hx,by simp⟩
 refine ai hC (nf:=N82) rfl rfl ?_
 simp [N82]
 refine au (Nat × Nat × Nat × Nat × Nat × Nat × Nat) (fun s=>[(2,.adr (.r 10032) 0 0),(3,.ptr [.int .u64 bh,.int .u64 bl]),(4,.adr (.r 10064) 0 0),(5,.adr (.r 10080) 0 0),(6,.adr (.r 10096) 0 0),(7,.adr (.r 10112) 0 0),(8,.int .i64 s.1),
   (10032,.blk 2 [[.int .u64 s.2.1,.int .u64 s.2.2.1]]),(10064,.blk 2 [[.int .u64 0,.int .u64 0]]),(10080,.blk 2 [[.int .u64 0,.int .u64 0]]),(10096,.blk 2 [[.int .u64 s.2.2.2.1,.int .u64 s.2.2.2.2.1]]),(10112,.blk 2 [[.int .u64 s.2.2.2.2.2.1,.int .u64 s.2.2.2.2.2.2]])])
  (fun s=>s.2.2.1 < 18446744073709551616 /\ s.2.2.2.2.1 < 18446744073709551616 /\ s.2.2.2.2.2.2 < 18446744073709551616 /\ DvS x b s.1 (s.2.1 * 18446744073709551616 + s.2.2.1) (s.2.2.2.1 * 18446744073709551616 + s.2.2.2.2.1) (s.2.2.2.2.2.1 * 18446744073709551616 + s.2.2.2.2.2.2)) (fun s=>128 - s.1) (0,xh,xl,0,0,0,0) ⟨hxl2,h00,h00,hS0⟩ (by simp) ?_
 rintro ⟨i,ah,al,qh,ql,rh,rl⟩ ⟨hal,hql,hrl,hS⟩
 simp only at hal hql hrl hS
 simp
 refine ac (fun c=>?_) (fun c=>?_) <;> simp at c <;> simp [c]
 ·have hrb:=hS.2.1
  have hw1 : IntKind.wrap .i64 ((i : Int) + 1)=((i + 1 : Nat) : Int):=wrap_i64 (by omega) (by omega)
  obtain ⟨g1,g2,g3⟩:=hS.step (by omega) hb0
  obtain ⟨A,hA⟩ : ∃ A,A=ah * 18446744073709551616 + al:=⟨_,rfl⟩
  obtain ⟨Q,hQ⟩ : ∃ Q,Q=qh * 18446744073709551616 + ql:=⟨_,rfl⟩
  obtain ⟨r,hr⟩ : ∃ r,r=rh * 18446744073709551616 + rl:=⟨_,rfl⟩
  rw [<- hA] at g1 g3
  rw [<- hQ] at g2 g3
  rw [<- hr] at g3 hrb
  obtain ⟨t,ht⟩ : ∃ t,t=ah / 9223372036854775808:=⟨_,rfl⟩
  have ht2 : A / 170141183460469231731687303715884105728=t:=by omega
  rw [ht2] at g3
  have ht1 : t <= 1:=by omega
  have hrh : rh / 9223372036854775808=0:=by omega
  obtain ⟨p,hp⟩ : ∃ p,p=2 * A % 340282366920938463463374607431768211456 / 18446744073709551616:=⟨_,rfl⟩
  obtain ⟨o,ho⟩ : ∃ o,o=2 * A % 340282366920938463463374607431768211456 % 18446744073709551616:=⟨_,rfl⟩
  have k1:=ib hC ah al 0 t p o (by omega) (by omega) (by omega) (by omega) (by omega)
  obtain ⟨R,hR⟩ : ∃ R,R=2 * r + t:=⟨_,rfl⟩
  obtain ⟨Rh,hRh⟩ : ∃ z,z=R / 18446744073709551616:=⟨_,rfl⟩
  obtain ⟨Rl,hRl⟩ : ∃ z,z=R % 18446744073709551616:=⟨_,rfl⟩
  have k2:=ib hC rh rl t 0 Rh Rl (by omega) (by omega) (by omega) (by omega) (by omega)
  obtain ⟨u,hu⟩ : ∃ u,u=2 * Q / 18446744073709551616:=⟨_,rfl⟩
  obtain ⟨v,hv⟩ : ∃ v,v=2 * Q % 18446744073709551616:=⟨_,rfl⟩
  have k3:=ib hC qh ql 0 0 u v (by omega) (by omega) (by omega) (by omega) (by omega)
  rw [<- hR] at g3
  have k4:=qi hC Rh Rl bh bl
  have hlt : decide (Rh < bh \/ (Rh=bh /\ Rl < bl))=decide (R < b):=by
   rw [x0x,x0b,x0b]
   omega
  rw [hlt] at k4
  simp only [Int.natCast_zero] at k1 k3
  have hsh : Int.fdiv (ah : Int) (2 ^ min 63 IntKind.u64.bits)=(t : Int):=by rw [sa,ht]
  have hsh0 : Int.fdiv (rh : Int) (2 ^ min 63 IntKind.u64.bits)=0:=by rw [sa,hrh];rfl
  have e1 : p * 18446744073709551616 + o=2 * A % 340282366920938463463374607431768211456:=by rw [hp,ho];exact x1t _ _
  have e2 : u * 18446744073709551616 + v=2 * Q:=by rw [hu,hv];exact x1t _ _
  have e3 : Rh * 18446744073709551616 + Rl=R:=by rw [hRh,hRl];exact x1t _ _
  simp [hsh]
  refine aa k1 (.inl rfl) ?_
  simp [hsh0]
  refine aa k2 (.inl rfl) ?_
  simp
  refine aa k3 (.inl rfl) ?_
  simp
  refine aa k4 (.inl rfl) ?_
  by_cases d : R < b
  ·simp [d,hw1]
   obtain ⟨m1,m2⟩:=g3 0 R (2 * A % 340282366920938463463374607431768211456) (by omega) (by omega) rfl
   refine ⟨i + 1,p,o,u,v,Rh,Rl,⟨by clear g3 m1 m2;omega,by clear g3 m1 m2;omega,by clear g3 m1 m2;omega,?_⟩,by omega,?_⟩
   ·rw [e1,e2,e3];exact m1
   ·simp
  ·simp [d,hw1]
   obtain ⟨r3,hr3⟩ : ∃ r3,r3=R - b:=⟨_,rfl⟩
   obtain ⟨r3h,hr3h⟩ : ∃ z,z=r3 / 18446744073709551616:=⟨_,rfl⟩
   obtain ⟨r3l,hr3l⟩ : ∃ z,z=r3 % 18446744073709551616:=⟨_,rfl⟩
   obtain ⟨m1,m2⟩:=g3 1 r3 (2 * A % 340282366920938463463374607431768211456) (by omega) (by omega) rfl
   have hr3l2 : r3l < 18446744073709551616:=by rw [hr3l];exact x1b _ (by decide)
   have e4 : r3h * 18446744073709551616 + r3l=r3:=by rw [hr3h,hr3l];exact x1t _ _
   have hRl2 : Rl < 18446744073709551616:=by rw [hRl];exact x1b _ (by decide)
   have k5:=rH hC Rh Rl bh bl r3h r3l (by clear g3 m1 m2 hp ho hu hv hS g1 g2 k1 k2 k3 k4 e1 e2;omega) hRl2 hbl2 hr3l2 (by rw [e4,hbb,e3,hr3];exact Nat.sub_add_cancel (x1B d))
   have hve : v % 2=0 /\ v < 18446744073709551616:=by
    clear g3 m1 m2 k1 k2 k3 k4 k5 hS e1 e2 hp ho g1 hA
    omega
   have hv1 : IntKind.u64.wrap ((v : Int) + 1)=((v + 1 : Nat) : Int):=uw (.inl (by push_cast;rfl)) (by clear g3 m1 m2 hp ho hu hv;omega)
   refine aa k5 (.inl rfl) ?_
   simp [hv1,hw1]
   refine ⟨i + 1,p,o,u,v + 1,r3h,r3l,⟨by clear g3 m1 m2 hu hv;omega,by clear g3 m1 m2 hp ho hu hv;omega,hr3l2,?_⟩,by omega,?_⟩
   ·rw [e1,<- x0L,e2,e4];exact m1
   ·simp
 ·obtain rfl : i=128:=by have:=hS.1;omega
  obtain ⟨e1,e2⟩:=hS.last
  refine ⟨am (by decide +kernel),?_⟩
  obtain ⟨Y,hY⟩ : ∃ Y,Y=x / b:=⟨_,rfl⟩
  obtain ⟨Z,hZ⟩ : ∃ Z,Z=x % b:=⟨_,rfl⟩
  rw [<- hY] at e1 hyh hyl
  rw [<- hZ] at e2 hzh hzl
  have e3 : qh=yh:=by omega
  have e4 : ql=yl:=by omega
  have e5 : rh=zh:=by omega
  have e6 : rl=zl:=by omega
  subst e3 e4 e5 e6
  simp
end Go.Gv

namespace Go.Gv
structure SlI where
 n : Bool
 l : List Int
 deriving Inhabited
def slI (x : SlI) : D:=slx x.n (x.l.map fun n=>[.int .i64 n])
def knD (k : Int × Int) : List D:=[.int .i64 k.1,.int .i64 k.2]
structure Sec where
 name : List UInt8
 height : Int
 price : Int
 areaN : Bool
 area : List (Int × Int)
 convN : Bool
 conv : List (Int × Int)
 deriving Inhabited
def aP (s : Sec) : List D:=[.str s.name,.int .i64 s.height,.int .i64 s.price,slx s.areaN (s.area.map knD),slx s.convN (s.conv.map knD)]
def bx {α : Type} (p : α -> Bool) (xs : List α) : Int:=match xs.findIdx? p with
 | some i=>i
 | none=>-1
theorem cz {α : Type} {p : α -> Bool} {xs : List α} {i : Nat} (hj : ∀ (j : Nat) (h : j < xs.length),j < i -> p xs[j]=false) (hi : i < xs.length) (h : p xs[i]=true) : bx p xs=i:=by
 have : xs.findIdx? p=some i:=by
  rw [x0P]
  exact ⟨hi,h,fun j hji=>by simp [hj j (by omega) hji]⟩
 simp [bx,this]
theorem cH {α : Type} {p : α -> Bool} {xs : List α} (hj : ∀ (j : Nat) (h : j < xs.length),p xs[j]=false) : bx p xs=-1:=by
 have : xs.findIdx? p=none:=by
  rw [x1Q]
  intro x hx
  obtain ⟨j,h,rfl⟩:=x0A.1 hx
  exact hj j h
 simp [bx,this]
theorem fX {α : Type} (p : α -> Bool) (xs : List α) : decide (0 <= bx p xs)=xs.any p:=by
 unfold bx
 split
 ·rename_i i h
  rw [x0P] at h
  obtain ⟨h1,h2,_⟩:=h
  have : xs.any p=true:=x0E.2 ⟨_,x0h h1,h2⟩
  simp [this]
 ·rename_i h
  rw [x1Q] at h
  have : xs.any p=false:=by rw [x0R];intro x hx;simp [h x hx]
  simp [this]
variable {C : CC} (hC : aw prog C)
include hC
theorem xK {b : Bool} {xs : List Int} {g : Nat} {cs : List D} (p : Int -> Bool) (hs : xs.length < 2 ^ 62) (hp : ∀ x ∈ xs,C g (.int .i64 x::cs) (.bool (p x)) []) : C 35 [slx b (xs.map fun x=>[.int .i64 x]),.fn g cs] (.int .i64 (bx p xs)) []:=by
 refine ai hC (nf:=N35) rfl rfl ?_
 simp [N35]
 refine au Nat (fun i=>[(0,slx b (xs.map fun x=>[.int .i64 x])),(1,.fn g cs),(7,.int .i64 xs.length),(8,.int .i64 i)]) (fun i=>i <= xs.length /\ ∀ (j : Nat) (h : j < xs.length),j < i -> p xs[j]=false) (fun i=>xs.length - i) 0 (by simp) (by simp) ?_
 rintro i ⟨hi,hj⟩
 simp
 refine ac (fun h=>?_) (fun h=>?_) <;> simp [h] <;> simp at h
 ·have hw : IntKind.wrap .i64 ((i : Int) + 1)=((i + 1 : Nat) : Int):=wrap_i64 (by omega) (by omega)
  have hc:=hp _ (x0h h)
  simp [h,x1K] at hc ⊢
  refine aa hc (.inl rfl) ?_
  simp
  refine ac (fun h1=>?_) (fun h1=>?_) <;> simp [h1,hw]
  ·rw [cz hj h h1]
  ·refine ⟨i + 1,⟨by omega,fun j hl hjj=>?_⟩,by omega,rfl⟩
   rcases x0i.1 hjj with h2 | rfl
   ·exact hj j hl h2
   ·exact h1
 ·rw [cH (fun j hl=>hj j hl (by omega))]
theorem xF {b : Bool} {xs : List Int} {g : Nat} {cs : List D} (p : Int -> Bool) (hs : xs.length < 2 ^ 62) (hp : ∀ x ∈ xs,C g (.int .i64 x::cs) (.bool (p x)) []) : C 11 [slx b (xs.map fun x=>[.int .i64 x]),.fn g cs] (.bool (xs.any p)) []:=by
 refine ai hC (nf:=N11) rfl rfl ?_
 simp [N11]
 refine aa (xK hC p hs hp) (.inl rfl) ?_
 simp [fX]
theorem qR {b : Bool} {xs : List Sec} {g : Nat} {cs : List D} (p : Sec -> Bool) (hs : xs.length < 2 ^ 62) (hp : ∀ x ∈ xs,C g (.agg (aP x)::cs) (.bool (p x)) []) : C 52 [slx b (xs.map fun x=>aP x),.fn g cs] (.int .i64 (bx p xs)) []:=by
 refine ai hC (nf:=N52) rfl rfl ?_
 simp [N52]
 refine au Nat (fun i=>[(0,slx b (xs.map fun x=>aP x)),(1,.fn g cs),(7,.int .i64 xs.length),(8,.int .i64 i)]) (fun i=>i <= xs.length /\ ∀ (j : Nat) (h : j < xs.length),j < i -> p xs[j]=false) (fun i=>xs.length - i) 0 (by simp) (by simp) ?_
 rintro i ⟨hi,hj⟩
 simp
 refine ac (fun h=>?_) (fun h=>?_) <;> simp [h] <;> simp at h
 ·have hw : IntKind.wrap .i64 ((i : Int) + 1)=((i + 1 : Nat) : Int):=wrap_i64 (by omega) (by omega)
  have hc:=hp _ (x0h h)
  simp [h,aP] at hc ⊢
  refine aa hc (.inl rfl) ?_
  simp
  refine ac (fun h1=>?_) (fun h1=>?_) <;> simp [h1,hw]
  ·rw [cz hj h h1]
  ·refine ⟨i + 1,⟨by omega,fun j hl hjj=>?_⟩,by omega,rfl⟩
   rcases x0i.1 hjj with h2 | rfl
   ·exact hj j hl h2
   ·exact h1
 ·rw [cH (fun j hl=>hj j hl (by omega))]
theorem xH {b : Bool} {xs : List Sec} {g : Nat} {cs : List D} (p : Sec -> Bool) (hs : xs.length < 2 ^ 62) (hp : ∀ x ∈ xs,C g (.agg (aP x)::cs) (.bool (p x)) []) : C 45 [slx b (xs.map fun x=>aP x),.fn g cs] (.bool (xs.any p)) []:=by
 refine ai hC (nf:=N45) rfl rfl ?_
 simp [N45]
 refine aa (qR hC p hs hp) (.inl rfl) ?_
 simp [fX]
end Go.Gv

namespace Go.Gv
def kT (t : List (Int × Int)) (i : Nat) : Bool:=fg t[i]!.1 && fg t[i]!.2 && (i == 0 || (t[i - 1]!.1 < t[i]!.1 && t[i - 1]!.2 <= t[i]!.2))
def aq (t : List (Int × Int)) : Bool:=1 <= t.length && t.length <= 100 && (List.range t.length).all (kT t)
variable {C : CC} (hC : aw prog C)
include hC
theorem dY (b : Bool) (t : List (Int × Int)) : C 72 [slx b (t.map knD)] (.bool (aq t)) []:=by
 refine ai hC (nf:=N72) rfl rfl ?_
 simp [N72]
 refine ac (fun h=>?_) (fun h=>?_) <;> simp at h
 ·simp [aq,show t.length=0 by omega]
 simp [h]
 refine ac (fun h2=>?_) (fun h2=>?_) <;> simp at h2
 ·simp [aq,h,h2]
  omega
 simp
 refine au Nat (fun i=>[(0,slx b (t.map knD)),(13,slx b (t.map knD)),(14,.int .i64 t.length),(15,.int .i64 i)]) (fun i=>i <= t.length /\ ∀ j < i,kT t j=true) (fun i=>t.length - i) 0 (by simp) (by simp) ?_
 rintro i ⟨hi,hj⟩
 simp
 refine ac (fun h3=>?_) (fun h3=>?_) <;> simp at h3
 ·have bad : kT t i=false -> aq t=false:=fun hb=>by
   simp only [aq,x08,x1E]
   exact .inr ⟨i,by simpa using h3,by simp [hb]⟩
  have e1 : t[i]! = t[i]:=x0f t i h3
  have e2 : t[i - 1]! = t[i - 1]:=x0f t (i - 1) (by omega)
  simp only [kT,e1,e2] at bad
  have hw1 : IntKind.wrap .i64 ((i : Int) + 1)=((i + 1 : Nat) : Int):=wrap_i64 (by omega) (by omega)
  have next : kT t i=true -> ∃ s' : Nat,(s' <= t.length /\ ∀ j < s',kT t j=true) /\ t.length - s' < t.length - i /\ s'=i + 1:=fun ho =>
   ⟨i + 1,⟨by omega,fun j hjj=>by
    rcases x0i.1 hjj with h | rfl
    ·exact hj j h
    ·exact ho⟩,by omega,rfl⟩
  simp only [kT,e1,e2] at next
  simp [h3,knD]
  refine aa (xx hC _) (.inl rfl) ?_
  cases f1 : fg t[i].1
  ·simp
   exact ⟨am (by decide +kernel),bad (by simp [f1])⟩
  simp
  refine aa (xx hC _) (.inl rfl) ?_
  cases f2 : fg t[i].2
  ·simp
   exact ⟨am (by decide +kernel),bad (by simp [f2])⟩
  simp
  refine ac (fun h4=>?_) (fun h4=>?_) <;> simp at h4
  ·have hw : IntKind.wrap .i64 ((i : Int) - 1)=((i - 1 : Nat) : Int):=wrap_i64 (by omega) (by omega)
   have h5 : i - 1 < t.length:=by omega
   simp [h4,hw,h5,knD]
   refine ac (fun h6=>?_) (fun h6=>?_) <;> simp [h6,hw,h5,knD] <;> simp at h6
   ·refine ⟨am (by decide +kernel),bad ?_⟩
    simp [f1,f2]
    omega
   ·refine ⟨am (by decide +kernel),ac (fun h7=>?_) (fun h7=>?_)⟩ <;> simp [h7,hw1] <;> simp at h7
    ·refine bad ?_
     simp [f1,f2]
     omega
    ·obtain ⟨s',g1,g2,rfl⟩:=next (by simp [f1,f2,h6,h7])
     exact ⟨_,g1,g2,rfl⟩
  ·have hi0 : i=0:=by omega
   subst hi0
   simp at hw1
   simp [hw1]
   refine ⟨am (by decide +kernel),?_⟩
   obtain ⟨s',g1,g2,rfl⟩:=next (by simp [f1,f2])
   exact ⟨_,g1,g2,rfl⟩
 ·have : i=t.length:=by omega
  subst this
  simp [aq,h,h2]
  exact ⟨⟨by omega,by omega⟩,hj⟩
end Go.Gv

namespace Go.Gv
structure Lnk where
 name : List UInt8
 src : List UInt8
 dst : List UInt8
 kind : Int
 len : Int
 up : Int
 down : Int
 sect : List UInt8
 width : Int
 height : Int
 curveN : Bool
 curve : List (Int × Int)
 deriving Inhabited
def ay (l : Lnk) : List D:=[.str l.name,.str l.src,.str l.dst,.int .i64 l.kind,.int .i64 l.len,.int .i64 l.up,.int .i64 l.down,.str l.sect,.int .i64 l.width,.int .i64 l.height,slx l.curveN (l.curve.map knD)]
structure Nod where
 name : List UInt8
 kind : Int
 x : Int
 y : Int
 invert : Int
 ground : Int
 shapeN : Bool
 shape : List (Int × Int)
 prot : Bool
 reserve : Int
 deriving Inhabited
def aQ (n : Nod) : List D:=[.str n.name,.int .i64 n.kind,.int .i64 n.x,.int .i64 n.y,.int .i64 n.invert,.int .i64 n.ground,slx n.shapeN (n.shape.map knD),.bool n.prot,.int .i64 n.reserve]
def bj (n : Int) : Bool:=decide (-4194304 <= n) && decide (n <= 4194304)
variable {C : CC} (hC : aw prog C)
include hC
theorem dc (n a b : Int) : C 172 [.int .i64 n,.int .i64 a,.int .i64 b] (.bool (decide (a <= n) && decide (n <= b))) []:=by
 refine ai hC (nf:=N172) rfl rfl ?_
 simp [N172]
 refine ac (fun h=>?_) (fun h=>?_) <;> simp at h <;> simp [h] <;> omega
theorem xV (n : Int) : C 183 [.int .i64 n] (.bool (!bj n)) []:=by
 have e : (!bj n)=(decide (n < -4194304) || decide (4194304 < n)):=by
  rw [bj,x0x]
  simp only [x0t,x08,x0H,x0F,x0b]
  omega
 rw [e]
 refine ai hC (nf:=N183) rfl rfl ?_
 simp [N183]
 refine ac (fun h=>?_) (fun h=>?_) <;> simp at h <;> simp [h]
 intro _;omega
theorem p6 (xs : List Int) (hl : xs.length < 2 ^ 62) : C 173 [.sl (xs.map fun n=>[.int .i64 n])] (.bool (xs.all bj)) []:=by
 refine ai hC (nf:=N173) rfl rfl ?_
 simp [N173]
 have h:=xF hC (b:=false) (xs:=xs) (g:=183) (cs:=[]) (fun n=>!bj n) hl (fun n _=>xV hC n)
 rw [ii] at h
 refine aa h (.inl rfl) ?_
 simp
 rw [x0x];simp
end Go.Gv

namespace Go.Gv
def bI (nm : List UInt8) (n : Nod) : Bool:=n.name == nm
def jd (nm : List UInt8) (l : Lnk) : Bool:=l.name == nm
variable {C : CC} (hC : aw prog C)
include hC
theorem qQ {b : Bool} {xs : List Nod} {g : Nat} {cs : List D} (p : Nod -> Bool) (hs : xs.length < 2 ^ 62) (hp : ∀ x ∈ xs,C g (.agg (aQ x)::cs) (.bool (p x)) []) : C 175 [slx b (xs.map fun x=>aQ x),.fn g cs] (.int .i64 (bx p xs)) []:=by
 refine ai hC (nf:=N175) rfl rfl ?_
 simp [N175]
 refine au Nat (fun i=>[(0,slx b (xs.map fun x=>aQ x)),(1,.fn g cs),(7,.int .i64 xs.length),(8,.int .i64 i)]) (fun i=>i <= xs.length /\ ∀ (j : Nat) (h : j < xs.length),j < i -> p xs[j]=false) (fun i=>xs.length - i) 0 (by simp) (by simp) ?_
 rintro i ⟨hi,hj⟩
 simp
 refine ac (fun h=>?_) (fun h=>?_) <;> simp [h] <;> simp at h
 ·have hw : IntKind.wrap .i64 ((i : Int) + 1)=((i + 1 : Nat) : Int):=wrap_i64 (by omega) (by omega)
  have hc:=hp _ (x0h h)
  simp [h,aQ] at hc ⊢
  refine aa hc (.inl rfl) ?_
  simp
  refine ac (fun h1=>?_) (fun h1=>?_) <;> simp [h1,hw]
  ·rw [cz hj h h1]
  ·refine ⟨i + 1,⟨by omega,fun j hl hjj=>?_⟩,by omega,rfl⟩
   rcases x0i.1 hjj with h2 | rfl
   ·exact hj j hl h2
   ·exact h1
 ·rw [cH (fun j hl=>hj j hl (by omega))]
theorem qP {b : Bool} {xs : List Lnk} {g : Nat} {cs : List D} (p : Lnk -> Bool) (hs : xs.length < 2 ^ 62) (hp : ∀ x ∈ xs,C g (.agg (ay x)::cs) (.bool (p x)) []) : C 181 [slx b (xs.map fun x=>ay x),.fn g cs] (.int .i64 (bx p xs)) []:=by
 refine ai hC (nf:=N181) rfl rfl ?_
 simp [N181]
 refine au Nat (fun i=>[(0,slx b (xs.map fun x=>ay x)),(1,.fn g cs),(7,.int .i64 xs.length),(8,.int .i64 i)]) (fun i=>i <= xs.length /\ ∀ (j : Nat) (h : j < xs.length),j < i -> p xs[j]=false) (fun i=>xs.length - i) 0 (by simp) (by simp) ?_
 rintro i ⟨hi,hj⟩
 simp
 refine ac (fun h=>?_) (fun h=>?_) <;> simp [h] <;> simp at h
 ·have hw : IntKind.wrap .i64 ((i : Int) + 1)=((i + 1 : Nat) : Int):=wrap_i64 (by omega) (by omega)
  have hc:=hp _ (x0h h)
  simp [h,ay] at hc ⊢
  refine aa hc (.inl rfl) ?_
  simp
  refine ac (fun h1=>?_) (fun h1=>?_) <;> simp [h1,hw]
  ·rw [cz hj h h1]
  ·refine ⟨i + 1,⟨by omega,fun j hl hjj=>?_⟩,by omega,rfl⟩
   rcases x0i.1 hjj with h2 | rfl
   ·exact hj j hl h2
   ·exact h1
 ·rw [cH (fun j hl=>hj j hl (by omega))]
theorem AW {b : Bool} {xs : List (Int × Int)} {g : Nat} {cs : List D} (p : (Int × Int) -> Bool) (hs : xs.length < 2 ^ 62) (hp : ∀ x ∈ xs,C g (.agg (knD x)::cs) (.bool (p x)) []) : C 185 [slx b (xs.map fun x=>knD x),.fn g cs] (.int .i64 (bx p xs)) []:=by
 refine ai hC (nf:=N185) rfl rfl ?_
 simp [N185]
 refine au Nat (fun i=>[(0,slx b (xs.map fun x=>knD x)),(1,.fn g cs),(7,.int .i64 xs.length),(8,.int .i64 i)]) (fun i=>i <= xs.length /\ ∀ (j : Nat) (h : j < xs.length),j < i -> p xs[j]=false) (fun i=>xs.length - i) 0 (by simp) (by simp) ?_
 rintro i ⟨hi,hj⟩
 simp
 refine ac (fun h=>?_) (fun h=>?_) <;> simp [h] <;> simp at h
 ·have hw : IntKind.wrap .i64 ((i : Int) + 1)=((i + 1 : Nat) : Int):=wrap_i64 (by omega) (by omega)
  have hc:=hp _ (x0h h)
  simp [h,knD] at hc ⊢
  refine aa hc (.inl rfl) ?_
  simp
  refine ac (fun h1=>?_) (fun h1=>?_) <;> simp [h1,hw]
  ·rw [cz hj h h1]
  ·refine ⟨i + 1,⟨by omega,fun j hl hjj=>?_⟩,by omega,rfl⟩
   rcases x0i.1 hjj with h2 | rfl
   ·exact hj j hl h2
   ·exact h1
 ·rw [cH (fun j hl=>hj j hl (by omega))]
theorem AU {b : Bool} {xs : List (Int × Int)} {g : Nat} {cs : List D} (p : (Int × Int) -> Bool) (hs : xs.length < 2 ^ 62) (hp : ∀ x ∈ xs,C g (.agg (knD x)::cs) (.bool (p x)) []) : C 179 [slx b (xs.map fun x=>knD x),.fn g cs] (.bool (xs.any p)) []:=by
 refine ai hC (nf:=N179) rfl rfl ?_
 simp [N179]
 refine aa (AW hC p hs hp) (.inl rfl) ?_
 simp [fX]
theorem nH (b1 b2 : Bool) (ns : List Nod) (ls : List Lnk) (nm : List UInt8) (hn : ns.length < 2 ^ 62) : C 169 [.agg [slx b1 (ns.map aQ),slx b2 (ls.map ay)],.str nm] (.int .i64 (bx (bI nm) ns)) []:=by
 have h1 : ∀ x ∈ ns,C 176 (.agg (aQ x)::[.ptr [.str nm]]) (.bool (bI nm x)) []:=fun x _=>by
  refine ai hC (nf:=N176) rfl rfl ?_
  simp [N176,aQ,bI]
  rw [x0x];simp
 refine ai hC (nf:=N169) rfl rfl ?_
 simp [N169]
 refine aa (qQ hC (b:=b1) _ hn h1) (.inl rfl) ?_
 simp
theorem Ea (b1 b2 : Bool) (ns : List Nod) (ls : List Lnk) (nm : List UInt8) (hn : ls.length < 2 ^ 62) : C 171 [.agg [slx b1 (ns.map aQ),slx b2 (ls.map ay)],.str nm] (.int .i64 (bx (jd nm) ls)) []:=by
 have h1 : ∀ x ∈ ls,C 182 (.agg (ay x)::[.ptr [.str nm]]) (.bool (jd nm x)) []:=fun x _=>by
  refine ai hC (nf:=N182) rfl rfl ?_
  simp [N182,ay,jd]
  rw [x0x];simp
 refine ai hC (nf:=N171) rfl rfl ?_
 simp [N171]
 refine aa (qP hC (b:=b2) _ hn h1) (.inl rfl) ?_
 simp
theorem DO (b b' : Bool) (xs ys : List (Int × Int)) (hx : xs.length < 2 ^ 62) (hy : ys.length < 2 ^ 62) : C 184 [slx b (xs.map knD),slx b' (ys.map knD)] (.bool (decide (xs=ys))) []:=by
 obtain ⟨r,hr⟩ : ∃ r,r=decide (xs=ys):=⟨_,rfl⟩
 rw [<- hr]
 refine ai hC (nf:=N184) rfl rfl ?_
 simp [N184]
 refine ac (fun h=>?_) (fun h=>?_) <;> simp at h <;> simp [h]
 ·rw [hr,decide_eq_false]
  intro e
  exact h (by rw [e])
 have h' : xs.length=ys.length:=by omega
 refine au Nat (fun i=>[(0,slx b (xs.map knD)),(1,slx b' (ys.map knD)),(12,.int .i64 xs.length),(13,.int .i64 i)])
  (fun i=>i <= xs.length /\ ∀ (k : Nat) (h1 : k < xs.length) (h2 : k < ys.length),k < i -> xs[k]=ys[k]) (fun i=>xs.length - i) 0 (by simp) (by simp [h']) ?_
 rintro i ⟨hi,hok⟩
 simp
 refine ac (fun h1=>?_) (fun h1=>?_) <;> simp at h1 <;> simp [h1]
 ·have hw : IntKind.wrap .i64 ((i : Int) + 1)=((i + 1 : Nat) : Int):=wrap_i64 (by omega) (by omega)
  have hy1 : i < ys.length:=by omega
  simp [h1,hy1,knD]
  refine ⟨am (by decide +kernel),?_⟩
  by_cases h2 : xs[i]=ys[i]
  ·simp [h2,hw]
   refine ⟨i + 1,⟨by omega,fun k k1 k2 hk=>?_⟩,by omega,rfl⟩
   rcases x0i.1 hk with h5 | rfl
   ·exact hok k k1 k2 h5
   ·exact h2
  ·have h3 : ¬ (xs[i].1=ys[i].1 /\ xs[i].2=ys[i].2):=fun e=>h2 (Prod.ext e.1 e.2)
   refine ac (fun h4=>?_) (fun h4=>?_) <;> simp at h4 <;> simp [h4]
   ·rw [hr,decide_eq_false]
    intro e
    exact h2 (by simp [e])
   ·exact absurd h4 h3
 ·rw [hr,decide_eq_true]
  exact x1L h' fun k k1 k2=>hok k k1 k2 (by omega)
end Go.Gv

namespace Go.Gv
theorem bk {t : List (Int × Int)} (h : aq t=true) : 1 <= t.length /\ t.length <= 100:=by
 simp only [aq,x0a,x0b] at h
 exact h.1
theorem dA {t : List (Int × Int)} (h : aq t=true) {i : Nat} (hi : i < t.length) : fg t[i].1=true /\ fg t[i].2=true /\ ∀ j,(hj : j + 1=i) -> t[j].1 < t[i].1 /\ t[j].2 <= t[i].2:=by
 simp only [aq,x0a,x0g,x1C] at h
 have:=h.2 i hi
 simp only [kT,x0f t i hi,x0a,x0F,x0n,x0b] at this
 refine ⟨this.1.1,this.1.2,fun j hj=>?_⟩
 subst hj
 have h2:=this.2
 rw [Nat.add_sub_cancel,x0f t j (by omega)] at h2
 rcases h2 with h2 | h2
 ·omega
 ·exact h2
theorem im {t : List (Int × Int)} (h : aq t=true) : ∀ (j i : Nat) (hi : i < t.length) (hj : j < i),t[j].1 < t[i].1:=by
 intro j i
 induction i with
 | zero=>intro _ hj;omega
 | succ i ih =>
  intro hi hj
  have h1:=((dA h hi).2.2 i rfl).1
  by_cases e : j=i
  ·subst e;exact h1
  ·have:=ih (by omega) (by omega)
   omega
variable {C : CC} (hC : aw prog C)
include hC
theorem jx (k : Int × Int) (x : Int) : C 97 [.agg (knD k),.int .i64 x] (.int .i64 (if k.1 < x then -1 else if x < k.1 then 1 else 0)) []:=by
 refine ai hC (nf:=N97) rfl rfl ?_
 simp [N97,knD]
 refine ac (fun c=>?_) (fun c=>?_)
 ·simp at c
  simp [c]
 ·simp at c
  have c1 : ¬ k.1 < x:=by omega
  simp [c1]
  refine ac (fun c2=>?_) (fun c2=>?_)
  ·simp at c2
   simp [c2,c]
  ·simp at c2
   have c3 : ¬ x < k.1:=by omega
   simp [c3,c]
theorem yQ (b : Bool) (t : List (Int × Int)) (x : Int) (h : aq t=true) (n : Nat) (hn : n + 1=t.length) (hx : t[n].1=x) : C 96 [slx b (t.map knD),.int .i64 x,.fn 97 []] (.tup [.int .i64 n,.bool true]) []:=by
 obtain ⟨l1,l2⟩:=bk h
 refine ai hC (nf:=N96) rfl rfl ?_
 simp [N96]
 refine au (Nat × Nat) (fun s=>[(0,slx b (t.map knD)),(1,.int .i64 x),(2,.fn 97 []),(8,.int .i64 t.length),(9,.int .i64 s.1),(10,.int .i64 s.2)]) (fun s=>s.1 <= n /\ n <= s.2 /\ s.2 <= n + 1) (fun s=>s.2 - s.1) (0,t.length) (by simp;omega) (by simp) ?_
 rintro ⟨i,j⟩ ⟨h1,h2,h3⟩
 simp only at h1 h2 h3
 simp
 refine ac (fun c=>?_) (fun c=>?_) <;> simp [c] <;> simp at c
 ·obtain ⟨m,hm⟩ : ∃ m,m=(i + j) / 2:=⟨_,rfl⟩
  have e1 : IntKind.wrap .i64 ((i : Int) + (j : Int))=((i + j : Nat) : Int):=wrap_i64 (by omega) (by omega)
  obtain ⟨s,hs⟩ : ∃ s,s=i + j:=⟨_,rfl⟩
  rw [<- hs] at e1 hm
  have e2 : Int.fdiv (s : Int) (2 ^ min 1 IntKind.u64.bits)=(m : Int):=by rw [hm];exact mK s 1
  have e3 : IntKind.wrap .i64 (m : Int)=(m : Int):=wrap_i64 rfl (by omega)
  have e4 : IntKind.wrap .i64 ((m : Int) + 1)=((m + 1 : Nat) : Int):=wrap_i64 (by omega) (by omega)
  have hml : m < t.length:=by omega
  simp [e1,bu s (by omega),e2,e3,hml]
  have hc:=jx hC t[m] x
  simp [knD] at hc ⊢
  refine aa hc (.inl rfl) ?_
  by_cases hmn : m < n
  ·have:=im h m n (by omega) hmn
   have hlt : t[m].1 < x:=by omega
   simp [hlt,e4]
   exact ⟨m + 1,j,⟨by omega,h2,h3⟩,by omega,by omega,by omega⟩
  ·have : m=n:=by omega
   subst this
   simp [hx]
   exact ⟨i,m,⟨by omega,by omega,by omega⟩,by omega,by omega,by omega⟩
 ·have : i=n:=by omega
  subst this
  have hil : i < t.length:=by omega
  simp [hil]
  have hc:=jx hC t[i] x
  simp [knD,hil] at hc ⊢
  refine aa hc (.inl rfl) ?_
  simp [hx]
theorem Bg (b : Bool) (t : List (Int × Int)) (x : Int) (h : aq t=true) (n : Nat) (hn : n + 1=t.length) (hx : t[n].1=x) : C 90 [slx b (t.map knD),.int .i64 x] (.tup [.int .i64 t[n].2,.int .i64 0,.int .i64 1]) []:=by
 refine ai hC (nf:=N90) rfl rfl ?_
 have hnl : n < t.length:=by omega
 simp [N90]
 refine aa (yQ hC b t x h n hn hx) (.inl rfl) ?_
 simp [knD,hnl]
theorem wy (b : Bool) (t : List (Int × Int)) (x : Int) (h : aq t=true) (n : Nat) (hn : n + 1=t.length) (hx : t[n].1=x) : C 73 [slx b (t.map knD),.int .i64 x] (.tup [.int .i64 t[n].2,.int .i64 0]) []:=by
 refine ai hC (nf:=N73) rfl rfl ?_
 simp [N73]
 refine aa (dY hC b t) (.inl rfl) ?_
 simp [h]
 refine aa (Bg hC b t x h n hn hx) (.inl rfl) ?_
 simp
end Go.Gv

namespace Go.Gv
def cZ (t : List (Int × Int)) : Int × Int:=t[t.length - 1]!
def bD (t : List (Int × Int)) (hgt most : Int) : Bool:=aq t && (t[0]!.1 == 0 && t[0]!.2 == 0) && (cZ t).1 == hgt && (cZ t).2 <= most
def ap (s : Sec) : Bool:=bz s.name && 1 <= s.height && s.height <= 32768 && 0 <= s.price && s.price <= 1073741824 && bD s.area s.height 1073741824 && bD s.conv s.height 1099511627776
def bB (n l : Int) : Bool:=0 <= n && n <= 4194304 && 1 <= l && l <= 16777216
def kC (s : Sec) (fall len : Int) : Nat:=di ((cZ s.conv).2.toNat * (cZ s.conv).2.toNat * fall.toNat / len.toNat)
def fU (s : Sec) (fall len : Int) : Int × Int:=if ap s then (if bB fall len then (if 1099511627776 < kC s fall len then (0,5) else (kC s fall len,0)) else (0,2)) else (0,1)
theorem bZ {t : List (Int × Int)} {n : Nat} (hn : n + 1=t.length) : cZ t=t[n]:=by
 unfold cZ
 rw [show t.length - 1=n by omega,x0f t n (by omega)]
variable {C : CC} (hC : aw prog C)
include hC
theorem tJ (b : Bool) (t : List (Int × Int)) (hgt most : Int) : C 59 [slx b (t.map knD),.int .i64 hgt,.int .i64 most] (.bool (bD t hgt most)) []:=by
 refine ai hC (nf:=N59) rfl rfl ?_
 simp [N59]
 refine aa (dY hC b t) (.inl rfl) ?_
 cases hv : aq t
 ·simp [bD,hv]
 obtain ⟨l1,l2⟩:=bk hv
 obtain ⟨n,hn⟩ : ∃ n,n + 1=t.length:=⟨t.length - 1,by omega⟩
 have e1 : IntKind.wrap .i64 ((t.length : Int) - 1)=(n : Int):=wrap_i64 (by omega) (by omega)
 have hnl : n < t.length:=by omega
 have h0 : 0 < t.length:=by omega
 have e0 : t[0]! = t[0]:=x0f t 0 h0
 simp [e1,hnl,h0,knD]
 rw [bD,bZ hn,e0,hv]
 have ez : (decide (t[0].fst=0) && decide (t[0].snd=0))=(t[0].1 == 0 && t[0].2 == 0):=by rw [x0x];simp
 rw [<- ez]
 cases hz : (decide (t[0].fst=0) && decide (t[0].snd=0))
 ·simp
 simp
 refine ac (fun c=>?_) (fun c=>?_)
 ·simp at c
  simp [c]
 ·simp at c
  simp [c]
theorem qw (s : Sec) : C 51 [.agg (aP s)] (.bool (ap s)) []:=by
 refine ai hC (nf:=N51) rfl rfl ?_
 simp [N51,aP]
 refine aa (gK hC s.name) (.inl rfl) ?_
 cases h1 : bz s.name
 ·simp [ap,h1]
 simp
 refine ac (fun c1=>?_) (fun c1=>?_) <;> simp [c1] <;> simp at c1
 ·refine ac (fun c2=>?_) (fun c2=>?_) <;> simp [c2] <;> simp at c2
  ·refine ac (fun c3=>?_) (fun c3=>?_) <;> simp [c3] <;> simp at c3
   ·refine ac (fun c4=>?_) (fun c4=>?_) <;> simp [c4] <;> simp at c4
    ·refine aa (tJ hC _ _ _ _) (.inl rfl) ?_
     cases h5 : bD s.area s.height 1073741824
     ·simp [ap,h5]
     simp
     refine aa (tJ hC _ _ _ _) (.inl rfl) ?_
     simp [ap,h1,c1,c2,c3,c4,h5]
    ·simp [ap];omega
   ·simp [ap];omega
  ·simp [ap];omega
 ·simp [ap];omega
end Go.Gv

namespace Go.Gv
def aG (n a b : Int) : Bool:=decide (a <= n) && decide (n <= b)
def jk (l : Lnk) : Lnk where
 name:=l.name
 src:=l.src
 dst:=l.dst
 kind:=l.kind
 len:=if l.kind=1 then l.len else 0
 up:=l.up
 down:=if l.kind=1 \/ l.kind=4 then l.down else 0
 sect:=if l.kind=1 then l.sect else []
 width:=if l.kind=2 \/ l.kind=3 then l.width else 0
 height:=if l.kind=3 then l.height else 0
 curveN:=if l.kind=4 then l.curveN else true
 curve:=if l.kind=4 then l.curve else []
def gb (a b : Lnk) : Bool:=decide (a.name=b.name) && decide (a.src=b.src) && decide (a.dst=b.dst) && decide (a.kind=b.kind) && decide (a.len=b.len) && decide (a.up=b.up) && decide (a.down=b.down) && decide (a.sect=b.sect) && decide (a.width=b.width) && decide (a.height=b.height) && decide (a.curve=b.curve)
def gJ (k : Int × Int) : Bool:=aG k.1 0 4194304 && aG k.2 0 1099511627776
def jc (l : Lnk) : Bool :=
 if l.kind=1 then aG l.len 1 16777216 && bj l.down && bz l.sect
 else if l.kind=2 then aG l.width 1 1048576
 else if l.kind=3 then aG l.width 1 32768 && aG l.height 1 32768
 else if l.kind=4 then bj l.down && decide (l.down < l.up) && aq l.curve && !(l.curve.any fun k=>!gJ k)
 else false
def co (l : Lnk) : Bool:=bz l.name && bz l.src && bz l.dst && !decide (l.src=l.dst) && bj l.up && gb l (jk l) && jc l
variable {C : CC} (hC : aw prog C)
include hC
theorem Bh (l : Lnk) : C 178 [.agg (ay l)] (.agg (ay (jk l))) []:=by
 have hs : slx l.curveN (l.curve.map knD)=.nils \/ slx l.curveN (l.curve.map knD)=.sl (l.curve.map knD):=by
  unfold slx;split
  ·exact .inl rfl
  ·exact .inr rfl
 have e0 : D.nils=slx true []:=rfl
 refine ai hC (nf:=N178) rfl rfl ?_
 simp [N178,ay,jk]
 refine ac (fun h=>?_) (fun h=>?_) <;> simp at h <;> simp [h]
 ·exact ⟨am (by decide +kernel),e0⟩
 refine ac (fun h2=>?_) (fun h2=>?_) <;> simp at h2 <;> simp [h,h2]
 ·exact e0
 refine ac (fun h3=>?_) (fun h3=>?_) <;> simp at h3 <;> simp [h,h2,h3]
 ·exact ⟨am (by decide +kernel),e0⟩
 refine ac (fun h4=>?_) (fun h4=>?_) <;> simp at h4 <;> simp [h,h2,h3,h4]
 ·rcases hs with hs | hs <;> rw [hs] <;> simp
  ·refine ⟨am (by decide +kernel),?_⟩
   simp [h4,hs]
  ·refine ⟨am (by decide +kernel),?_⟩
   simp [h4,hs]
 ·exact e0
set_option maxRecDepth 8000 in
set_option maxHeartbeats 2000000 in
theorem BA (a b : Lnk) (ha : a.curve.length < 2 ^ 62) (hb : b.curve.length < 2 ^ 62) : C 177 [.agg (ay a),.agg (ay b)] (.bool (gb a b)) []:=by
 have he:=DO hC a.curveN b.curveN a.curve b.curve ha hb
 refine ai hC (nf:=N177) rfl rfl ?_
 simp [N177,ay]
 refine ac (fun h0=>?_) (fun h0=>?_) <;> simp at h0 <;> simp [h0]
 rotate_left
 ·simp [gb,h0]
 refine ac (fun h1=>?_) (fun h1=>?_) <;> simp at h1 <;> simp [h1]
 rotate_left
 ·simp [gb,h1]
 refine ac (fun h2=>?_) (fun h2=>?_) <;> simp at h2 <;> simp [h2]
 rotate_left
 ·simp [gb,h2]
 refine ac (fun h3=>?_) (fun h3=>?_) <;> simp at h3 <;> simp [h3]
 rotate_left
 ·simp [gb,h3]
 refine ac (fun h4=>?_) (fun h4=>?_) <;> simp at h4 <;> simp [h4]
 rotate_left
 ·simp [gb,h4]
 refine ac (fun h5=>?_) (fun h5=>?_) <;> simp at h5 <;> simp [h5]
 rotate_left
 ·simp [gb,h5]
 refine ac (fun h6=>?_) (fun h6=>?_) <;> simp at h6 <;> simp [h6]
 rotate_left
 ·simp [gb,h6]
 refine ac (fun h7=>?_) (fun h7=>?_) <;> simp at h7 <;> simp [h7]
 rotate_left
 ·simp [gb,h7]
 refine ac (fun h8=>?_) (fun h8=>?_) <;> simp at h8 <;> simp [h8]
 rotate_left
 ·simp [gb,h8]
 refine ac (fun h9=>?_) (fun h9=>?_) <;> simp at h9 <;> simp [h9]
 rotate_left
 ·simp [gb,h9]
 refine aa he (.inl rfl) ?_
 simp [gb,h0,h1,h2,h3,h4,h5,h6,h7,h8,h9]
theorem vN (k : Int × Int) : C 180 [.agg (knD k)] (.bool (!gJ k)) []:=by
 refine ai hC (nf:=N180) rfl rfl ?_
 simp [N180,knD]
 refine aa (dc hC k.1 0 4194304) (.inl rfl) ?_
 have e1 : (decide (0 <= k.1) && decide (k.1 <= 4194304))=aG k.1 0 4194304:=rfl
 rw [e1]
 cases h : aG k.1 0 4194304
 ·simp [gJ,h]
 simp
 refine aa (dc hC k.2 0 1099511627776) (.inl rfl) ?_
 have e2 : (decide (0 <= k.2) && decide (k.2 <= 1099511627776))=aG k.2 0 1099511627776:=rfl
 rw [e2]
 simp [gJ,h]
theorem xM (l : Lnk) (hc : l.curve.length < 2 ^ 62) : C 170 [.agg (ay l)] (.bool (co l)) []:=by
 have hp : (jk l).curve.length < 2 ^ 62:=by
  simp only [jk];split
  ·exact hc
  ·simp
 have k1:=gK hC l.name
 have k2:=gK hC l.src
 have k3:=gK hC l.dst
 have k4:=p6 hC [l.up] (by simp)
 have k5:=Bh hC l
 have k6:=BA hC l (jk l) hc hp
 obtain ⟨q,hq⟩ : ∃ q,q=gb l (jk l):=⟨_,rfl⟩
 rw [<- hq] at k6
 simp only [ay] at k5 k6
 have kf : ∀ b,jc l=b -> (b=false \/ (bz l.name=true /\ bz l.src=true /\ bz l.dst=true /\ ¬ l.src=l.dst /\ bj l.up=true /\ q=true)) -> co l=b:=fun b h1 h2=>by
  rcases h2 with rfl | ⟨a1,a2,a3,a4,a5,a6⟩
  ·simp [co,h1]
  ·simp [co,h1,a1,a2,a3,a4,a5,<- hq,a6]
 refine ai hC (nf:=N170) rfl rfl ?_
 simp [N170,ay]
 refine aa k1 (.inl rfl) ?_
 cases h1 : bz l.name
 ·simp
  refine ⟨am (by decide +kernel),?_⟩
  simp [co,h1]
 simp
 refine aa k2 (.inl rfl) ?_
 cases h2 : bz l.src
 ·simp
  refine ⟨am (by decide +kernel),?_⟩
  simp [co,h2]
 simp
 refine aa k3 (.inl rfl) ?_
 cases h3 : bz l.dst
 ·simp
  refine ⟨am (by decide +kernel),?_⟩
  simp [co,h3]
 simp
 refine ac (fun h4=>?_) (fun h4=>?_) <;> simp at h4 <;> simp [h4]
 ·refine ⟨am (by decide +kernel),?_⟩
  simp [co,h4]
 refine aa k4 (.inl rfl) ?_
 cases h5 : bj l.up
 ·simp [h5]
  refine ⟨am (by decide +kernel),?_⟩
  simp [co,h5]
 simp [h5]
 refine aa k5 (.inr rfl) ?_
 simp
 refine aa k6 (.inl rfl) ?_
 cases h6 : q
 ·simp
  refine ⟨am (by decide +kernel),?_⟩
  simp [co,<- hq,h6]
 simp
 refine ⟨am (by decide +kernel),?_⟩
 have hk : co l=jc l:=kf _ rfl (.inr ⟨h1,h2,h3,h4,h5,h6⟩)
 rw [hk]
 obtain ⟨r,hr⟩ : ∃ r,r=jc l:=⟨_,rfl⟩
 rw [<- hr]
 unfold jc at hr
 clear k1 k2 k3 k4 k5 k6 hk kf
 have lh : ∀ n a b : Int,(decide (a <= n) && decide (n <= b))=aG n a b:=fun _ _ _=>rfl
 have kd:=p6 hC [l.down] (by simp)
 refine ac (fun h7=>?_) (fun h7=>?_) <;> simp at h7 <;> simp [h7]
 ·rw [if_pos h7] at hr
  refine aa (dc hC l.len 1 16777216) (.inl rfl) ?_
  rw [lh]
  cases a1 : aG l.len 1 16777216
  ·simp [hr,a1]
  simp
  refine aa kd (.inl rfl) ?_
  cases a2 : bj l.down
  ·simp [a2,hr]
  simp [a2]
  refine aa (gK hC l.sect) (.inl rfl) ?_
  simp [hr,a1,a2]
 rw [if_neg h7] at hr
 refine ac (fun h8=>?_) (fun h8=>?_) <;> simp at h8 <;> simp [h8]
 ·rw [if_pos h8] at hr
  refine aa (dc hC l.width 1 1048576) (.inl rfl) ?_
  rw [lh]
  simp [hr]
 rw [if_neg h8] at hr
 refine ac (fun h9=>?_) (fun h9=>?_) <;> simp at h9 <;> simp [h9]
 ·rw [if_pos h9] at hr
  refine aa (dc hC l.width 1 32768) (.inl rfl) ?_
  rw [lh]
  cases a1 : aG l.width 1 32768
  ·simp [hr,a1]
  simp
  refine aa (dc hC l.height 1 32768) (.inl rfl) ?_
  rw [lh]
  simp [hr,a1]
 rw [if_neg h9] at hr
 refine ac (fun h10=>?_) (fun h10=>?_) <;> simp at h10 <;> simp [h10]
 ·rw [if_pos h10] at hr
  refine aa kd (.inl rfl) ?_
  cases a2 : bj l.down
  ·simp [a2,hr]
  simp [a2]
  refine ac (fun h11=>?_) (fun h11=>?_) <;> simp at h11 <;> simp [h11]
  ·refine aa (dY hC l.curveN l.curve) (.inl rfl) ?_
   cases a3 : aq l.curve
   ·simp [hr,a3]
   simp
   refine aa (AU hC (b:=l.curveN) (xs:=l.curve) (g:=180) (cs:=[]) (fun k=>!gJ k) hc (fun k _=>vN hC k)) (.inl rfl) ?_
   simp [hr,a2,h11,a3]
  ·have : ¬ l.down < l.up:=by omega
   simp [hr,this]
 ·rw [if_neg h10] at hr
  simp [hr]
end Go.Gv

namespace Go.Gv
def li (n : Nod) : Bool:=!(decide (n.ground <= n.invert)) && bD n.shape (n.ground - n.invert) 1125899906842624 && !(decide (n.kind=1) && n.prot) && (if n.prot then aG n.reserve 0 (cZ n.shape).2 else decide (n.reserve=0))
def ui (n : Nod) : Bool:=decide (n.invert <= n.ground) && decide (n.shape.length=0) && !n.prot && decide (n.reserve=0)
def f8 (n : Nod) : Bool:=bz n.name && aG n.x (-16777216) 16777216 && aG n.y (-16777216) 16777216 && bj n.invert && bj n.ground && (if n.kind=1 \/ n.kind=2 then li n else if n.kind=3 then ui n else false)
variable {C : CC} (hC : aw prog C)
include hC
theorem rZ (b : Bool) (t : List (Int × Int)) (hgt : Int) : C 174 [slx b (t.map knD),.int .i64 hgt] (.bool (bD t hgt 1125899906842624)) []:=by
 refine ai hC (nf:=N174) rfl rfl ?_
 simp [N174]
 refine aa (dY hC b t) (.inl rfl) ?_
 cases hv : aq t
 ·simp [bD,hv]
 obtain ⟨l1,l2⟩:=bk hv
 obtain ⟨n,hn⟩ : ∃ n,n + 1=t.length:=⟨t.length - 1,by omega⟩
 have e1 : IntKind.wrap .i64 ((t.length : Int) - 1)=(n : Int):=wrap_i64 (by omega) (by omega)
 have hnl : n < t.length:=by omega
 have h0 : 0 < t.length:=by omega
 have e0 : t[0]! = t[0]:=x0f t 0 h0
 simp [e1,hnl,h0,knD]
 rw [bD,bZ hn,e0,hv]
 have ez : (decide (t[0].fst=0) && decide (t[0].snd=0))=(t[0].1 == 0 && t[0].2 == 0):=by rw [x0x];simp
 rw [<- ez]
 cases hz : (decide (t[0].fst=0) && decide (t[0].snd=0))
 ·simp
 simp
 refine ac (fun c=>?_) (fun c=>?_)
 ·simp at c
  simp [c]
 ·simp at c
  simp [c]
theorem Bc (n : Nod) : C 168 [.agg (aQ n)] (.bool (f8 n)) []:=by
 have lh : ∀ n a b : Int,(decide (a <= n) && decide (n <= b))=aG n a b:=fun _ _ _=>rfl
 have k1:=gK hC n.name
 have k2:=dc hC n.x (-16777216) 16777216
 have k3:=dc hC n.y (-16777216) 16777216
 have k4:=p6 hC [n.invert,n.ground] (by simp)
 rw [lh] at k2 k3
 obtain ⟨q,hq⟩ : ∃ q,q=f8 n:=⟨_,rfl⟩
 rw [<- hq]
 unfold f8 at hq
 refine ai hC (nf:=N168) rfl rfl ?_
 simp [N168,aQ]
 refine aa k1 (.inl rfl) ?_
 cases h1 : bz n.name
 ·simp [hq,h1]
 simp
 refine aa k2 (.inl rfl) ?_
 cases h2 : aG n.x (-16777216) 16777216
 ·simp [hq,h2]
 simp
 refine aa k3 (.inl rfl) ?_
 cases h3 : aG n.y (-16777216) 16777216
 ·simp [hq,h3]
 simp
 refine aa k4 (.inl rfl) ?_
 cases h4 : bj n.invert
 ·simp [hq,h4]
 cases h5 : bj n.ground
 ·simp [hq,h4,h5]
 simp [h4,h5]
 rw [h1,h2,h3,h4,h5] at hq
 simp only [x0Z] at hq
 have b1 : -4194304 <= n.invert /\ n.invert <= 4194304:=by simpa [bj] using h4
 have b2 : -4194304 <= n.ground /\ n.ground <= 4194304:=by simpa [bj] using h5
 have e1 : IntKind.wrap .i64 (n.ground - n.invert)=n.ground - n.invert:=wrap_i64 rfl (by omega)
 refine ac (fun hk1=>?_) (fun hk1=>?_) <;> simp at hk1 <;> simp [hk1]
 ·rw [if_pos (by omega),li] at hq
  refine ac (fun c1=>?_) (fun c1=>?_) <;> simp at c1 <;> simp [c1]
  ·simp [hq,c1]
  have c1' : ¬ n.ground <= n.invert:=by omega
  simp [e1]
  refine aa (rZ hC n.shapeN n.shape (n.ground - n.invert)) (.inl rfl) ?_
  cases c2 : bD n.shape (n.ground - n.invert) 1125899906842624
  ·simp [hq,c2]
  simp [hk1]
  cases c3 : n.prot
  ·simp [hq,c1',c2,c3]
  ·simp [hq,c3,hk1]
 refine ac (fun hk2=>?_) (fun hk2=>?_) <;> simp at hk2 <;> simp [hk2,hk1]
 ·rw [if_pos (by omega),li] at hq
  refine ac (fun c1=>?_) (fun c1=>?_) <;> simp at c1 <;> simp [c1]
  ·simp [hq,c1]
  have c1' : ¬ n.ground <= n.invert:=by omega
  simp [e1]
  refine aa (rZ hC n.shapeN n.shape (n.ground - n.invert)) (.inl rfl) ?_
  cases c2 : bD n.shape (n.ground - n.invert) 1125899906842624
  ·simp [hq,c2]
  simp [hk2]
  cases c3 : n.prot
  ·simp [hq,c1',c2,c3]
  have hv : aq n.shape=true:=by
   simp only [bD,x0a] at c2
   exact c2.1.1.1
  obtain ⟨l1,l2⟩:=bk hv
  obtain ⟨m,hm⟩ : ∃ m,m + 1=n.shape.length:=⟨n.shape.length - 1,by omega⟩
  have e2 : IntKind.wrap .i64 ((n.shape.length : Int) - 1)=(m : Int):=wrap_i64 (by omega) (by omega)
  have hml : m < n.shape.length:=by omega
  simp [e2,hml,knD]
  have kb:=dc hC n.reserve 0 n.shape[m].2
  rw [lh] at kb
  refine aa kb (.inl rfl) ?_
  simp
  refine ⟨am (by decide +kernel),?_⟩
  simp [hq,c1',c2,c3,hk2,bZ hm]
 rw [if_neg (by omega)] at hq
 refine ac (fun hk3=>?_) (fun hk3=>?_) <;> simp at hk3 <;> simp [hk3]
 ·rw [if_pos hk3,ui] at hq
  refine ac (fun c1=>?_) (fun c1=>?_) <;> simp at c1 <;> simp [c1]
  ·refine ac (fun c2=>?_) (fun c2=>?_) <;> simp at c2 <;> simp [c2]
   ·cases c3 : n.prot
    ·simp [hq,c1,c2,c3]
    ·simp [hq,c3]
   ·simp [hq,c2]
  ·have : ¬ n.invert <= n.ground:=by omega
   simp [hq,this]
 ·rw [if_neg hk3] at hq
  simp [hq]
end Go.Gv

namespace Go.Gv
def go (ns : List Nod) (i : Nat) : Bool:=f8 ns[i]! && decide (bx (bI ns[i]!.name) ns=(i : Int))
def gD (ns : List Nod) (nm : List UInt8) : Bool:=decide (0 <= bx (bI nm) ns) && !decide (ns[(bx (bI nm) ns).toNat]!.kind=3)
def dg (ns : List Nod) (ls : List Lnk) (i : Nat) : Bool:=co ls[i]! && decide (bx (jd ls[i]!.name) ls=(i : Int)) && gD ns ls[i]!.src && decide (0 <= bx (bI ls[i]!.dst) ns)
def bP (ns : List Nod) (ls : List Lnk) : Bool:=decide (ns.length <= 300) && decide (ls.length <= 400) && (List.range ns.length).all (go ns) && (List.range ls.length).all (dg ns ls)
theorem jD {α : Type} {p : α -> Bool} {xs : List α} (h : 0 <= bx p xs) : (bx p xs).toNat < xs.length:=by
 unfold bx at h ⊢
 cases e : xs.findIdx? p with
 | none=>rw [e] at h;simp at h
 | some i =>
  simp
  obtain ⟨h1,_⟩:=x0P.1 e
  exact h1
variable {C : CC} (hC : aw prog C)
include hC
theorem qb (b1 b2 : Bool) (ns : List Nod) (ls : List Lnk) (hcv : ∀ l ∈ ls,l.curve.length < 2 ^ 62) : C 164 [.agg [slx b1 (ns.map aQ),slx b2 (ls.map ay)]] (.bool (bP ns ls)) []:=by
 obtain ⟨r,hr⟩ : ∃ r,r=bP ns ls:=⟨_,rfl⟩
 rw [<- hr]
 unfold bP at hr
 refine ai hC (nf:=N164) rfl rfl ?_
 simp [N164]
 refine ac (fun c=>?_) (fun c=>?_) <;> simp at c <;> simp [c]
 ·simp [hr,show ¬ ns.length <= 300 by omega]
 refine ac (fun c2=>?_) (fun c2=>?_) <;> simp at c2 <;> simp [c2]
 ·simp [hr,show ¬ ls.length <= 400 by omega]
 rw [decide_eq_true (show ns.length <= 300 by omega),decide_eq_true (show ls.length <= 400 by omega)] at hr
 simp only [x0Z] at hr
 have badN : ∀ i,i < ns.length -> go ns i=false -> r=false:=fun i hi h=>by
  rw [hr,x08]
  exact .inl (x1E.2 ⟨i,by simpa using hi,by simp [h]⟩)
 have badL : ∀ i,i < ls.length -> dg ns ls i=false -> r=false:=fun i hi h=>by
  rw [hr,x08]
  exact .inr (x1E.2 ⟨i,by simpa using hi,by simp [h]⟩)
 refine au Nat (fun i=>[(1,.ptr [slx b1 (ns.map aQ),slx b2 (ls.map ay)]),(19,slx b1 (ns.map aQ)),(20,.int .i64 ns.length),(21,.int .i64 i)]) (fun i=>i <= ns.length /\ ∀ j < i,go ns j=true) (fun i=>ns.length - i) 0 (by simp) (by simp) ?_
 rintro i ⟨hi,hj⟩
 simp
 refine ac (fun h=>?_) (fun h=>?_) <;> simp at h <;> simp [h]
 ·have hw : IntKind.wrap .i64 ((i : Int) + 1)=((i + 1 : Nat) : Int):=wrap_i64 (by omega) (by omega)
  have bad:=badN i h
  have e1 : ns[i]! = ns[i]:=x0f ns i h
  simp only [go,e1] at bad
  have k1:=Bc hC ns[i]
  have k2:=nH hC b1 b2 ns ls ns[i].name (by omega)
  simp only [aQ] at k1
  simp [aQ,h]
  refine aa k1 (.inl rfl) ?_
  cases g1 : f8 ns[i]
  ·simp
   exact bad (by simp [g1])
  simp
  refine aa k2 (.inl rfl) ?_
  simp
  refine ac (fun g2=>?_) (fun g2=>?_) <;> simp at g2 <;> simp [g2]
  ·exact bad (by simp [g2])
  ·simp [hw]
   refine ⟨i + 1,⟨by omega,fun k hk=>?_⟩,by omega,by simp⟩
   rcases x0i.1 hk with h5 | rfl
   ·exact hj k h5
   ·simp [go,e1,g1,g2]
 have hall : (List.range ns.length).all (go ns)=true:=by
  rw [x0g]
  intro k hk
  exact hj k (by simp at hk;omega)
 rw [hall,x0Z] at hr
 clear badN hall hj
 refine au Nat (fun i=>[(1,.ptr [slx b1 (ns.map aQ),slx b2 (ls.map ay)]),(39,slx b2 (ls.map ay)),(40,.int .i64 ls.length),(41,.int .i64 i)]) (fun i=>i <= ls.length /\ ∀ j < i,dg ns ls j=true) (fun i=>ls.length - i) 0 (by simp) (by simp) ?_
 clear h hi i
 rintro i ⟨hi,hj⟩
 simp
 refine ac (fun h=>?_) (fun h=>?_) <;> simp at h <;> simp [h]
 ·have hw : IntKind.wrap .i64 ((i : Int) + 1)=((i + 1 : Nat) : Int):=wrap_i64 (by omega) (by omega)
  have bad:=badL i h
  have e1 : ls[i]! = ls[i]:=x0f ls i h
  simp only [dg,e1] at bad
  have k1:=xM hC ls[i] (hcv _ (x0h h))
  have k2:=Ea hC b1 b2 ns ls ls[i].name (by omega)
  have k3:=nH hC b1 b2 ns ls ls[i].src (by omega)
  have k4:=nH hC b1 b2 ns ls ls[i].dst (by omega)
  have next : dg ns ls i=true -> ∃ s' : Nat,(s' <= ls.length /\ ∀ j < s',dg ns ls j=true) /\ ls.length - s' < ls.length - i /\ (i : Int) + 1=s':=fun hl=>by
   refine ⟨i + 1,⟨by omega,fun k hk=>?_⟩,by omega,by simp⟩
   rcases x0i.1 hk with h5 | rfl
   ·exact hj k h5
   ·exact hl
  simp only [dg,e1] at next
  simp only [ay] at k1
  simp [ay,h]
  refine aa k1 (.inl rfl) ?_
  cases g1 : co ls[i]
  ·simp
   exact bad (by simp [g1])
  simp
  refine aa k2 (.inl rfl) ?_
  simp
  refine ac (fun g2=>?_) (fun g2=>?_) <;> simp at g2 <;> simp [g2]
  ·exact bad (by simp [g2])
  refine aa k3 (.inl rfl) ?_
  simp
  refine ac (fun g3=>?_) (fun g3=>?_) <;> simp at g3 <;> simp [g3]
  ·exact bad (by simp [gD,show ¬ 0 <= bx (bI ls[i].src) ns by omega])
  have g3' : ¬ bx (bI ls[i].src) ns < 0:=by omega
  refine aa k4 (.inl rfl) ?_
  simp
  refine ac (fun g4=>?_) (fun g4=>?_) <;> simp at g4 <;> simp [g4]
  ·exact bad (by simp [show ¬ 0 <= bx (bI ls[i].dst) ns by omega])
  have g4' : ¬ bx (bI ls[i].dst) ns < 0:=by omega
  have hf:=jD g3
  obtain ⟨f,hfe⟩:=x1W g3
  rw [hfe] at hf ⊢
  simp at hf
  have e2 : ns[f]! = ns[f]:=x0f ns f hf
  have hfo : gD ns ls[i].src=!decide (ns[f].kind=3):=by
   simp [gD,hfe,e2]
  simp [hf,aQ]
  refine ac (fun g5=>?_) (fun g5=>?_) <;> simp at g5 <;> simp [g5]
  ·exact bad (by simp [hfo,g5])
  ·simp [hw]
   exact next (by simp [hfo,g5,g1,g2,g4])
 ·have hall : (List.range ls.length).all (dg ns ls)=true:=by
   rw [x0g]
   intro k hk
   exact hj k (by simp at hk;omega)
  rw [hr,hall]
end Go.Gv

namespace Go.Gv
theorem dM {s : Sec} (h : ap s=true) : aq s.conv=true /\ (cZ s.conv).1=s.height /\ 0 <= (cZ s.conv).2 /\ (cZ s.conv).2 <= 1099511627776:=by
 simp only [ap,bD,x0a,x0b,x0n] at h
 obtain ⟨_,⟨⟨hv,h0⟩,h1⟩,h2⟩:=h
 obtain ⟨l1,l2⟩:=bk hv
 have hp : ∀ i (hi : i < s.conv.length),0 <= s.conv[i].2:=by
  intro i
  induction i with
  | zero=>intro hi;have:=h0.2;rw [x0f s.conv 0 hi] at this;omega
  | succ i ih =>
   intro hi
   have h3:=((dA hv hi).2.2 i rfl).2
   have:=ih (by omega)
   omega
 obtain ⟨n,hn⟩ : ∃ n,n + 1=s.conv.length:=⟨s.conv.length - 1,by omega⟩
 refine ⟨hv,h1,?_,h2⟩
 rw [bZ hn]
 exact hp n (by omega)
theorem sA {k f : Nat} (hk : k <= 1099511627776) (hf : f <= 4194304) : k * k * f <= 5070602400912917605986812821504:=by
 have h1:=x0O hk hk
 have h2:=x0O h1 hf
 exact h2
variable {C : CC} (hC : aw prog C)
include hC
theorem vf (s : Sec) (fall len : Int) (hv : ap s=true) (hs : bB fall len=true) : C 61 [.agg (aP s),.int .i64 s.height,.int .i64 fall,.int .i64 len] (.tup [.int .i64 (kC s fall len),.int .i64 0]) []:=by
 obtain ⟨c1,c2,c3,c4⟩:=dM hv
 simp only [bB,x0a,x0b] at hs
 obtain ⟨l1,l2⟩:=bk c1
 obtain ⟨n,hn⟩ : ∃ n,n + 1=s.conv.length:=⟨s.conv.length - 1,by omega⟩
 rw [bZ hn] at c2 c3 c4
 have hF:=wy hC s.convN s.conv s.height c1 n hn c2
 obtain ⟨k,hk⟩ : ∃ k : Nat,s.conv[n].2=k:=⟨s.conv[n].2.toNat,by omega⟩
 obtain ⟨f,rfl⟩ : ∃ f : Nat,fall=f:=⟨fall.toNat,by omega⟩
 obtain ⟨l,rfl⟩ : ∃ l : Nat,len=l:=⟨len.toNat,by omega⟩
 have hcap : kC s f l=di (k * k * f / l):=by simp [kC,bZ hn,hk]
 rw [hk] at hF
 rw [hcap]
 have hb:=sA (k:=k) (f:=f) (by omega) (by omega)
 have hb0 : k * k <= 1208925819614629174706176:=x0O (show k <= 1099511627776 by omega) (show k <= 1099511627776 by omega)
 have hb2:=Nat.div_le_self (k * k * f) l
 refine ai hC (nf:=N61) rfl rfl ?_
 simp [N61,aP]
 refine aa hF (.inl rfl) ?_
 simp
 refine aa (pp hC k k (by omega) (by omega)) (.inl rfl) ?_
 have v : ∀ x,isV (bq x)=true /\ (∀ f : Nat -> D,bY f (bq x)) /\ (∀ f : Nat -> D,dp f (bq x)=bq x) /\ ∀ ks,aW ks (bq x)=bq x:=fun x=>⟨rfl,fun _=>trivial,fun _=>rfl,fun _=>by simp [bq]⟩
 simp [v]
 refine aa (uL hC (k * k) f (by omega) (by omega) (by omega)) (.inl rfl) ?_
 simp [v]
 refine aa (x8 hC (k * k * f) l (by omega) (by omega) (by omega)) (.inl rfl) ?_
 simp [v]
 refine aa (yF hC (k * k * f / l)) (.inl rfl) ?_
 simp
theorem Dk (s : Sec) (fall len : Int) : C 47 [.agg (aP s),.int .i64 fall,.int .i64 len] (.tup [.int .i64 (fU s fall len).1,.int .i64 (fU s fall len).2]) []:=by
 have cap : C 53 [.agg (aP s),.int .i64 s.height,.int .i64 fall,.int .i64 len] (.tup [.int .i64 (fU s fall len).1,.int .i64 (fU s fall len).2]) []:=by
  refine ai hC (nf:=N53) rfl rfl ?_
  simp [N53,aP]
  have hvc:=qw hC s
  rw [aP] at hvc
  refine aa hvc (.inl rfl) ?_
  cases hv : ap s
  ·simp [fU,hv]
  have hh : ¬ s.height < 0:=by
   simp only [ap,x0a,x0b] at hv
   omega
  simp [hh]
  refine aa (uz hC fall len) (.inl rfl) ?_
  have es : (decide (0 <= fall) && decide (fall <= 4194304) && decide (1 <= len) && decide (len <= 16777216))=bB fall len:=rfl
  rw [es]
  cases hs : bB fall len
  ·simp [fU,hv,hs]
  simp
  have hcc:=vf hC s fall len hv hs
  rw [aP] at hcc
  refine aa hcc (.inl rfl) ?_
  simp
  refine ac (fun c=>?_) (fun c=>?_) <;> simp [c] <;> simp at c
  ·have c' : 1099511627776 < kC s fall len:=by omega
   simp [fU,hv,hs,c']
  ·have c' : ¬ 1099511627776 < kC s fall len:=by omega
   simp [fU,hv,hs,c']
 refine ai hC (nf:=N47) rfl rfl ?_
 simp [N47,aP]
 rw [aP] at cap
 refine aa cap (.inl rfl) ?_
 simp
end Go.Gv

namespace Go.Gv
def bg (l : List Sec) : Bool:=decide (l.length <= 40) && l.all ap && decide ((l.map (·.name)).Nodup)
def gH (l : List Sec) : List D:=((l.map (·.name)).reverse).map D.str
theorem pc : ∀ (xs : List (List UInt8)) (n : Nat),n=xs.length -> ∀ s,(dV (xs.map D.str) (List.replicate n (.bool true)) (.str s)).getD (.bool false)=.bool (decide (s ∈ xs))
 | [],n,h,s=>by simp [dV]
 | x::xs,n,h,s=>by
  obtain ⟨m,rfl⟩ : ∃ m,n=m + 1:=⟨n - 1,by simp at h;omega⟩
  have ih:=pc xs m (by simpa using h) s
  simp only [x0J,List.replicate_succ,dV,eqD,qJ,x0b]
  by_cases e : s=x
  ·subst e;simp
  ·rw [if_neg e,ih];simp [e]
variable {C : CC} (hC : aw prog C)
include hC
theorem ne (b : Bool) (l : List Sec) : C 44 [slx b (l.map aP)] (.bool (bg l)) []:=by
 refine ai hC (nf:=N44) rfl rfl ?_
 simp [N44]
 refine ac (fun h=>?_) (fun h=>?_) <;> simp at h
 ·simp [bg];omega
 simp
 refine au Nat (fun i=>[(3,.mrf 10144),(10144,.mp 0 1 (gH (l.take i)) (List.replicate i (.bool true))),(10,slx b (l.map aP)),(11,.int .i64 l.length),(12,.int .i64 i)])
  (fun i=>i <= l.length /\ (∀ x ∈ l.take i,ap x=true) /\ ((l.map (·.name)).take i).Nodup) (fun i=>l.length - i) 0 (by simp) (by simp [gH]) ?_
 rintro i ⟨hi,hv,hn⟩
 simp
 refine ac (fun h3=>?_) (fun h3=>?_) <;> simp at h3
 ·have ht : l.take (i + 1)=l.take i++[l[i]]:=x0v h3
  have hg:=pc ((l.take i).map (·.name)).reverse i (by simp;omega) l[i].name
  rw [show ((l.take i).map (·.name)).reverse.map D.str=gH (l.take i) from rfl] at hg
  have hk : D.str l[i].name::gH (l.take i)=gH (l.take (i + 1)):=by
   rw [gH,gH,ht]
   simp only [x1o,x0J,x01,List.reverse_append,List.reverse_cons,List.reverse_nil,x1R,x1I]
  have hlen : (gH (l.take i)).length < maxLen:=by
   have : (gH (l.take i)).length <= 40:=by simp [gH];omega
   unfold maxLen;omega
  have hw : IntKind.wrap .i64 ((i : Int) + 1)=((i + 1 : Nat) : Int):=wrap_i64 (by omega) (by omega)
  have bad1 : ap l[i]=false -> bg l=false:=fun e=>by
   simp only [bg,x08,x1E]
   exact .inl (.inr ⟨l[i],x0h h3,by simp [e]⟩)
  have h5 : (l.map (·.name)).take (i + 1)=(l.map (·.name)).take i++[l[i].name]:=by
   rw [x0v (by simpa using h3)];simp
  have bad2 : l[i].name ∈ (l.map (·.name)).take i -> bg l=false:=fun e=>by
   simp only [bg,x08,x0H]
   right
   intro hnd
   have h6:=(List.take_sublist (i + 1) _).nodup hnd
   rw [h5,x1g] at h6
   exact h6.2.2 _ e _ (by simp) rfl
  simp [h3,aP]
  have hvc:=qw hC l[i]
  rw [aP] at hvc
  refine aa hvc (.inl rfl) ?_
  cases hvi : ap l[i]
  ·simp [bad1 hvi]
  ·have hnm : l[i].name.length <= maxLen:=by
    simp only [ap,bz,x0a,x0b] at hvi
    unfold maxLen;omega
   simp [hg,hnm]
   refine ac (fun h4=>?_) (fun h4=>?_) <;> simp [h4] <;> simp at h4
   ·exact bad2 h4
   ·simp [hlen,hnm,hw]
    refine ⟨i + 1,⟨by omega,?_,?_⟩,by omega,⟨hk,?_⟩,rfl⟩
    ·intro x hx
     rw [ht] at hx
     rcases x0o.1 hx with hx | hx
     ·exact hv x hx
     ·simp at hx;subst hx;exact hvi
    ·rw [h5,x1g]
     refine ⟨hn,by simp,fun a ha b hb=>?_⟩
     simp at hb
     subst hb
     rintro rfl
     exact h4 ha
    ·rw [List.replicate_succ]
 ·have hil : i=l.length:=by omega
  subst hil
  rw [x0q (by simp)] at hn
  simp at hv
  simp [bg,hn]
  exact ⟨by omega,hv⟩
end Go.Gv

namespace Go.Gv
def jR (nm : List UInt8) : Nod:={ name:=nm,kind:=1,x:=0,y:=0,invert:=0,ground:=1,shapeN:=false,shape:=[(0,0),(1,1)],prot:=false,reserve:=0 }
def lU (nm : List UInt8) : Nod:={ name:=nm,kind:=3,x:=0,y:=0,invert:=0,ground:=0,shapeN:=true,shape:=[],prot:=false,reserve:=0 }
theorem jV {α : Type} {p : α -> Bool} {x : α} {l : List α} (h : p x=true) : bx p (x::l)=0:=by
 unfold bx
 rw [List.findIdx?_cons,h]
 rfl
theorem xJ {α : Type} {p : α -> Bool} {x y : α} (h : p x=false) (h2 : p y=true) : bx p [x,y]=1:=by
 unfold bx
 rw [List.findIdx?_cons,h,List.findIdx?_cons,h2]
 rfl
theorem tg (l : Lnk) : bP [jR l.src,lU l.dst] [l]=co l:=by
 cases h : co l
 ·simp [bP,dg,h]
 have h':=h
 simp only [co,x0a,x0t,x0H] at h
 obtain ⟨⟨⟨⟨⟨⟨h1,h2⟩,h3⟩,h4⟩,h5⟩,h6⟩,h7⟩:=h
 have a1 : f8 (jR l.src)=true:=by
  have : bD [(0,0),(1,1)] 1 1125899906842624=true:=by decide +kernel
  simp [f8,jR,h2,li,aG,bj,this]
 have a2 : f8 (lU l.dst)=true:=by
  simp [f8,lU,h3,ui,aG,bj]
 have b1 : bI l.src (jR l.src)=true:=by simp [bI,jR]
 have b2 : bI l.dst (lU l.dst)=true:=by simp [bI,lU]
 have b3 : bI l.dst (jR l.src)=false:=by simp [bI,jR,h4]
 have c1 : bx (bI l.src) [jR l.src,lU l.dst]=0:=jV b1
 have c2 : bx (bI l.dst) [jR l.src,lU l.dst]=1:=xJ b3 b2
 have c3 : bx (jd l.name) [l]=0:=jV (by simp [jd])
 have d1 : (jR l.src).name=l.src:=rfl
 have d2 : (lU l.dst).name=l.dst:=rfl
 have d3 : (jR l.src).kind=1:=rfl
 have e1 : (List.range 2).all (go [jR l.src,lU l.dst])=true:=by
  simp [x1w,go,a1,a2,c1,c2,d1,d2]
 have e2 : (List.range 1).all (dg [jR l.src,lU l.dst] [l])=true:=by
  simp [x1w,dg,h',c1,c2,c3,gD,d3]
 have e3 : dg [jR l.src,lU l.dst] [l] 0=true:=by simpa using e2
 simp [bP,e1,e3]
theorem pK (s : Sec) : bg [s]=ap s:=by
 simp [bg]
def jj (l : Lnk) (s : Sec) : Int:=if co l && ap s then (if l.kind=1 then (if l.sect=s.name then 0 else 25) else 11) else 1
variable {C : CC} (hC : aw prog C)
include hC
theorem mb (n a b : Int) : C 161 [.int .i64 n,.int .i64 a,.int .i64 b] (.bool (aG n a b)) []:=by
 refine ai hC (nf:=N161) rfl rfl ?_
 simp [N161,aG]
 refine ac (fun h=>?_) (fun h=>?_) <;> simp at h <;> simp [h] <;> omega
theorem yb (l : Lnk) (s : Sec) (hl : l.curve.length < 2 ^ 62) : C 160 [.agg (ay l),.agg (aP s)] (.int .i64 (jj l s)) []:=by
 have k1:=qb hC false false [jR l.src,lU l.dst] [l] (by simpa using hl)
 rw [tg] at k1
 have k2:=ne hC false [s]
 rw [pK] at k2
 simp only [ii,List.map,jR,lU,aQ,ay,aP,knD] at k1 k2
 obtain ⟨r,hr⟩ : ∃ r,r=jj l s:=⟨_,rfl⟩
 rw [<- hr]
 unfold jj at hr
 refine ai hC (nf:=N160) rfl rfl ?_
 have e0 : slx true []=D.nils:=rfl
 rw [e0] at k1
 simp [N160,ay,aP]
 refine aa k1 (.inl rfl) ?_
 cases h1 : co l
 ·simp [hr,h1]
 simp
 refine aa k2 (.inl rfl) ?_
 cases h2 : ap s
 ·simp [hr,h2]
 simp
 refine ac (fun c=>?_) (fun c=>?_) <;> simp at c <;> simp [c]
 ·simp [hr,h1,h2,c]
 refine ac (fun c3=>?_) (fun c3=>?_) <;> simp at c3 <;> simp [c3]
 ·simp [hr,h1,h2,c,c3]
 ·simp [hr,h1,h2,c,c3]
end Go.Gv

namespace Go.Gv
open Go.Lib
theorem QZ (a m : Nat) (hm : m=a * 16 % 18446744073709551616) : IntKind.u64.wrap ((a : Int) * 2 ^ min 4 IntKind.u64.bits)=(m : Int):=BF a 4 m hm
theorem LT (a m : Nat) (hm : m=a * 1152921504606846976 % 18446744073709551616) : IntKind.u64.wrap ((a : Int) * 2 ^ min 60 IntKind.u64.bits)=(m : Int):=BF a 60 m hm
theorem LU (a : Nat) : Int.fdiv (a : Int) (2 ^ min 60 IntKind.u64.bits)=((a / 1152921504606846976 : Nat) : Int):=mK a 60
theorem Ra (a : Nat) : Int.fdiv (a : Int) (2 ^ min 4 IntKind.u64.bits)=((a / 16 : Nat) : Int):=mK a 4
theorem Ec (a : Nat) (ha : a < 18446744073709551616) : bits .and .u64 (a : Int) 1152921504606846975=((a % 1152921504606846976 : Nat) : Int):=by
 have h:=bits_and_u64_nat a 1152921504606846975 ha (by omega)
 have e : a &&& 1152921504606846975=a % 1152921504606846976:=Nat.and_two_pow_sub_one_eq_mod a 60
 rw [e] at h
 exact h
theorem QW (a b : Nat) (hb : b < 16) (h : a * 16 + b < 18446744073709551616) : bits .or .u64 ((a * 16 : Nat) : Int) (b : Int)=((a * 16 + b : Nat) : Int):=orN a b 4 hb h
theorem QX (a b : Nat) (hb : b < 1152921504606846976) (h : a * 1152921504606846976 + b < 18446744073709551616) : bits .or .u64 ((a * 1152921504606846976 : Nat) : Int) (b : Int)=((a * 1152921504606846976 + b : Nat) : Int):=orN a b 60 hb h
def fv (p : Nat) (neg : Bool) : D:=.agg [.int .u64 ((p / 18446744073709551616 : Nat) : Int),.int .u64 ((p % 18446744073709551616 : Nat) : Int),.bool neg]
def wiD (p : Nat) : D:=.agg [.int .i64 ((p / 1152921504606846976 : Nat) : Int),.int .i64 ((p % 1152921504606846976 : Nat) : Int)]
variable {C : CC} (hC : aw prog C)
include hC
theorem m3 (n : Nat) (h : n < 9223372036854775808) : C 112 [.int .i64 n] (.int .u64 (n : Int)) []:=by
 refine ai hC (nf:=N112) rfl rfl ?_
 have h0 : ¬ (n : Int) < 0:=by omega
 simp [N112,h0,bu n (by omega)]
theorem jr (a b : Int) (n : Bool) : C 113 [.int .u64 a,.int .u64 b,.bool n] (.agg [.int .u64 a,.int .u64 b,.bool (n && (!decide (a=0) || !decide (b=0)))]) []:=by
 refine ai hC (nf:=N113) rfl rfl ?_
 simp [N113]
 cases n <;> simp
 by_cases h : a=0 <;> simp [h]
theorem sq (x y : Nat) (hx : x < 9223372036854775808) (hy : y < 9223372036854775808) : C 103 [.int .i64 x,.int .i64 y] (fv (x * y) false) []:=by
 refine ai hC (nf:=N103) rfl rfl ?_
 have h0 : ¬ (x : Int) < 0:=by omega
 have h1 : ¬ (y : Int) < 0:=by omega
 have hm:=iu hC x y (by omega) (by omega)
 rw [fv]
 obtain ⟨zh,hzh⟩ : ∃ zh,zh=x * y / 18446744073709551616:=⟨_,rfl⟩
 obtain ⟨zl,hzl⟩ : ∃ zl,zl=x * y % 18446744073709551616:=⟨_,rfl⟩
 rw [<- hzh,<- hzl] at hm ⊢
 simp [N103]
 refine aa (m3 hC x hx) (.inl rfl) ?_
 simp
 refine aa (m3 hC y hy) (.inl rfl) ?_
 simp
 refine aa hm (.inl rfl) ?_
 simp [h0,h1]
 refine aa (jr hC zh zl false) (.inl rfl) ?_
 simp
theorem lp (n : Nat) (h : n < 9223372036854775808) : C 110 [.int .u64 n,.bool false] (.tup [.int .i64 n,.int .i64 0]) []:=by
 refine ai hC (nf:=N110) rfl rfl ?_
 have h1 : (n : Int) <= 9223372036854775807:=by omega
 have h2 : IntKind.i64.wrap (n : Int)=(n : Int):=wrap_i64 rfl (by omega)
 simp [N110,h1,h2]
theorem nP (p d : Nat) (up : Bool) (q : Nat) (hd : d < 9223372036854775808) (hp : p / 18446744073709551616 < d) (hq : q < 9223372036854775808) (hv : q=if up then (p + d - 1) / d else p / d) (hqd : p / d + 1 < 9223372036854775808) : C 104 [fv p false,.int .i64 d,.bool up] (.tup [.int .i64 q,.int .i64 0]) []:=by
 obtain ⟨ph,hph⟩ : ∃ z,z=p / 18446744073709551616:=⟨_,rfl⟩
 obtain ⟨pl,hpl⟩ : ∃ z,z=p % 18446744073709551616:=⟨_,rfl⟩
 have hpp : ph * 18446744073709551616 + pl=p:=by omega
 obtain ⟨q0,hq0⟩ : ∃ z,z=p / d:=⟨_,rfl⟩
 obtain ⟨r0,hr0⟩ : ∃ z,z=p % d:=⟨_,rfl⟩
 have hdiv:=tC hC ph pl d (by omega) (by omega) (by omega)
 rw [hpp,<- hq0,<- hr0] at hdiv
 have hd0 : 0 < d:=by omega
 have hdp : d * q0 + r0=p:=by rw [hq0,hr0];exact x06 p d
 have hrd : r0 < d:=by rw [hr0];exact x1b _ hd0
 have hup : up=true -> q=if 0 < r0 then q0 + 1 else q0:=by
  rintro rfl
  simp only [if_true] at hv
  rw [hv,<- hdp]
  by_cases h : 0 < r0
  ·rw [if_pos h,show d * q0 + r0 + d - 1=d * q0 + (d + (r0 - 1)) by omega,Nat.mul_add_div hd0,Nat.add_div_left _ hd0,Nat.div_eq_of_lt (by omega)]
  ·rw [if_neg h,show d * q0 + r0 + d - 1=d * q0 + (d - 1) by omega,Nat.mul_add_div hd0,Nat.div_eq_of_lt (by omega)]
   rfl
 rw [fv,<- hph,<- hpl]
 have h1 : ¬ (d : Int) <= (ph : Int):=by omega
 have h2 : ¬ (d : Int) < 0:=by omega
 have h3 : IntKind.u64.wrap ((q0 : Int) + 1)=((q0 + 1 : Nat) : Int):=uw (by omega) (by omega)
 refine ai hC (nf:=N104) rfl rfl ?_
 simp [N104]
 refine aa (m3 hC d hd) (.inl rfl) ?_
 simp [h1]
 refine aa hdiv (.inl rfl) ?_
 simp [h2]
 cases up
 ·have e : q=q0:=by rw [hv,hq0];rfl
  subst e
  refine ac (fun h=>?_) (fun h=>?_) <;> simp at h <;> simp [h]
  ·refine aa (lp hC q hq) (.inl rfl) ?_
   simp
  ·refine aa (lp hC q hq) (.inl rfl) ?_
   simp
 ·have hv:=hup rfl
  by_cases h : 0 < r0
  ·have hi : (0 : Int) < r0:=by omega
   rw [if_pos h] at hv
   subst hv
   have h4 : ¬ ((q0 : Int) + 1=0):=by omega
   simp [hi,h3,h4,h]
   refine aa (lp hC (q0 + 1) hq) (.inl rfl) ?_
   simp
  ·have hi : ¬ (0 : Int) < r0:=by omega
   rw [if_neg h] at hv
   subst hv
   simp [hi,h]
   refine aa (lp hC q hq) (.inl rfl) ?_
   simp
end Go.Gv

namespace Go.Gv
open Go.Lib
variable {C : CC} (hC : aw prog C)
include hC
theorem oy (p : Nat) (h : p < 1329227995784915872903807060280344576) : C 106 [wiD p] (.bool true) []:=by
 obtain ⟨ph,hph⟩ : ∃ z,z=p / 1152921504606846976:=⟨_,rfl⟩
 obtain ⟨pl,hpl⟩ : ∃ z,z=p % 1152921504606846976:=⟨_,rfl⟩
 rw [wiD,<- hph,<- hpl]
 have h1 : (-1152921504606846976 : Int) <= ph:=by omega
 have h2 : (ph : Int) < 1152921504606846976:=by omega
 have h3 : (0 : Int) <= pl:=by omega
 have h4 : (pl : Int) < 1152921504606846976:=by omega
 refine ai hC (nf:=N106) rfl rfl ?_
 simp [N106,h1,h2,h3,h4]
theorem rF (p : Nat) (h : p < 1329227995784915872903807060280344576) : C 105 [fv p false] (.tup [wiD p,.int .i64 0]) []:=by
 obtain ⟨ph,hph⟩ : ∃ z,z=p / 1152921504606846976:=⟨_,rfl⟩
 obtain ⟨pl,hpl⟩ : ∃ z,z=p % 1152921504606846976:=⟨_,rfl⟩
 obtain ⟨zh,hzh⟩ : ∃ z,z=p / 18446744073709551616:=⟨_,rfl⟩
 obtain ⟨zl,hzl⟩ : ∃ z,z=p % 18446744073709551616:=⟨_,rfl⟩
 rw [wiD,fv,<- hph,<- hpl,<- hzh,<- hzl]
 obtain ⟨zt,hzt⟩ : ∃ z,z=zl / 1152921504606846976:=⟨_,rfl⟩
 have h1 : ¬ (72057594037927936 : Int) < zh:=by omega
 have h2 : ¬ (zh : Int)=72057594037927936:=by omega
 have e1:=QZ zh (zh * 16) (by omega)
 have e2:=LU zl
 rw [<- hzt] at e2
 have e3:=QW zh zt (by omega) (by omega)
 have e4 : IntKind.i64.wrap ((zh * 16 + zt : Nat) : Int)=(ph : Int):=wrap_i64 (by omega) (by omega)
 have e5:=Ec zl (by omega)
 have e6 : IntKind.i64.wrap ((zl % 1152921504606846976 : Nat) : Int)=(pl : Int):=wrap_i64 (by omega) (by omega)
 refine ai hC (nf:=N105) rfl rfl ?_
 simp [N105,h1,h2,e2,-Int.natCast_mul,-Int.natCast_emod]
 refine ⟨am (by decide +kernel),?_⟩
 rw [e1,e3,e4,e5,e6]
 simp
theorem qx (p : Nat) (h : p < 1329227995784915872903807060280344576) : C 108 [wiD p] (fv p false) []:=by
 obtain ⟨ph,hph⟩ : ∃ z,z=p / 1152921504606846976:=⟨_,rfl⟩
 obtain ⟨pl,hpl⟩ : ∃ z,z=p % 1152921504606846976:=⟨_,rfl⟩
 obtain ⟨zh,hzh⟩ : ∃ z,z=p / 18446744073709551616:=⟨_,rfl⟩
 obtain ⟨zl,hzl⟩ : ∃ z,z=p % 18446744073709551616:=⟨_,rfl⟩
 rw [wiD,fv,<- hph,<- hpl,<- hzh,<- hzl]
 have h1 : (0 : Int) <= ph:=by omega
 obtain ⟨w,hw⟩ : ∃ z,z=ph % 16:=⟨_,rfl⟩
 have e1 : Int.fdiv (ph : Int) (2 ^ min 4 IntKind.u64.bits)=(zh : Int):=by rw [Ra];omega
 have e2 : IntKind.u64.wrap ((ph : Int) * 2 ^ min 60 IntKind.u64.bits)=((w * 1152921504606846976 : Nat) : Int):=LT ph _ (by omega)
 have e3 : IntKind.u64.wrap (pl : Int)=(pl : Int):=bu pl (by omega)
 have e4 : bits .or .u64 ((w * 1152921504606846976 : Nat) : Int) (pl : Int)=(zl : Int):=by
  rw [QX w pl (by omega) (by omega)];omega
 refine ai hC (nf:=N108) rfl rfl ?_
 simp [N108]
 refine aa (m3 hC ph (by omega)) (.inl rfl) ?_
 simp [h1]
 rw [e1,e2,e3,e4]
 simp
theorem A6 (p : Nat) : C 109 [fv p false] (fv p (decide (p ≠ 0))) []:=by
 obtain ⟨zh,hzh⟩ : ∃ z,z=p / 18446744073709551616:=⟨_,rfl⟩
 obtain ⟨zl,hzl⟩ : ∃ z,z=p % 18446744073709551616:=⟨_,rfl⟩
 have e : decide (p ≠ 0)=(true && (!decide ((zh : Int)=0) || !decide ((zl : Int)=0))):=by
  rw [x0x];simp;omega
 rw [fv,fv,<- hzh,<- hzl,e]
 refine ai hC (nf:=N109) rfl rfl ?_
 simp [N109]
 refine aa (jr hC zh zl true) (.inl rfl) ?_
 simp
set_option maxHeartbeats 4000000 in
theorem LY (p r : Nat) (hr : r <= p) (hp : p < 1329227995784915872903807060280344576) : C 107 [fv p false,fv r (decide (r ≠ 0))] (fv (p - r) false) []:=by
 obtain ⟨ph,hph⟩ : ∃ z,z=p / 18446744073709551616:=⟨_,rfl⟩
 obtain ⟨pl,hpl⟩ : ∃ z,z=p % 18446744073709551616:=⟨_,rfl⟩
 obtain ⟨rh,hrh⟩ : ∃ z,z=r / 18446744073709551616:=⟨_,rfl⟩
 obtain ⟨rl,hrl⟩ : ∃ z,z=r % 18446744073709551616:=⟨_,rfl⟩
 obtain ⟨dh,hdh⟩ : ∃ z,z=(p - r) / 18446744073709551616:=⟨_,rfl⟩
 obtain ⟨dl,hdl⟩ : ∃ z,z=(p - r) % 18446744073709551616:=⟨_,rfl⟩
 have k0 : (0 : Int) <= ph:=by omega
 have k1 : (0 : Int) <= pl:=by omega
 have k2 : (0 : Int) <= rl:=by omega
 have k3 : (pl : Int) < 18446744073709551616:=by omega
 have k4 : (rl : Int) < 18446744073709551616:=by omega
 by_cases h0 : r=0
 ·subst h0
  have hrh0 : rh=0:=by omega
  have hrl0 : rl=0:=by omega
  subst hrh0 hrl0
  rw [fv,fv,fv,<- hph,<- hpl,<- hrh,<- hrl,<- hdh,<- hdl]
  have e1 : (pl : Int) % 18446744073709551616=(pl : Int):=by omega
  have e2 : (pl : Int) / 18446744073709551616=0:=by omega
  have e3 : IntKind.u64.wrap (ph : Int)=(ph : Int):=bu ph (by omega)
  have e4 : dh=ph:=by omega
  have e5 : dl=pl:=by omega
  refine ai hC (nf:=N107) rfl rfl ?_
  simp [N107,k3,e1,e2,e3]
  refine aa (jr hC ph pl false) (.inl rfl) ?_
  simp [e4,e5]
 ·have hne : decide (r ≠ 0)=true:=by simp [h0]
  rw [hne,fv,fv,fv,<- hph,<- hpl,<- hrh,<- hrl,<- hdh,<- hdl]
  have c1 : ¬ (ph : Int) < rh:=by omega
  have c2 : (ph : Int)=rh -> ¬ (pl : Int) < rl:=by omega
  have e1 : ((pl : Int) - rl) % 18446744073709551616=(dl : Int):=by omega
  have e2 : IntKind.u64.wrap ((ph : Int) - rh)=((ph - rh : Nat) : Int):=uw (by omega) (by omega)
  have e3 : IntKind.u64.wrap (((ph - rh : Nat) : Int) - (if pl < rl then 1 else 0))=(dh : Int):=by
   split <;> exact uw (by omega) (by omega)
  refine ai hC (nf:=N107) rfl rfl ?_
  simp [N107,c1,k3,k4,e1,e2]
  refine ac (fun c=>?_) (fun c=>?_) <;> simp at c <;> simp [c]
  ·have c3:=c2 (by omega)
   refine ac (fun c4=>?_) (fun c4=>?_) <;> simp at c4 <;> simp [c4]
   ·omega
   have hd0 : dh=0:=by omega
   have c5 : ¬ pl < rl:=by omega
   have hz : IntKind.u64.wrap 0=0:=bu 0 (by omega)
   simp [k3,k4,e1,hz,c5]
   refine aa (jr hC 0 dl false) (.inl rfl) ?_
   simp [hd0]
  ·simp [k3,k4,e1,e2]
   rw [e3]
   refine aa (jr hC dh dl false) (.inl rfl) ?_
   simp
end Go.Gv

namespace Go.Gv
theorem kS (p : Nat) : ∃ a b : Int,fv p false=.agg [.int .u64 a,.int .u64 b,.bool false]:=⟨_,_,rfl⟩
theorem xY (p : Nat) (n : Bool) : ∃ a b : Int,fv p n=.agg [.int .u64 a,.int .u64 b,.bool n]:=⟨_,_,rfl⟩
theorem ju (p : Nat) : ∃ a b : Int,wiD p=.agg [.int .i64 a,.int .i64 b]:=⟨_,_,rfl⟩
variable {C : CC} (hC : aw prog C)
include hC
theorem oJ (x y : Nat) (hx : x < 9223372036854775808) (hy : y < 9223372036854775808) (h : x * y < 1329227995784915872903807060280344576) : C 99 [.int .i64 x,.int .i64 y] (.tup [wiD (x * y),.int .i64 0]) []:=by
 have k1:=sq hC x y hx hy
 have k2:=rF hC (x * y) h
 obtain ⟨a,b,e1⟩:=kS (x * y)
 obtain ⟨c,d,e2⟩:=ju (x * y)
 rw [e1] at k1 k2
 rw [e2] at k2 ⊢
 refine ai hC (nf:=N99) rfl rfl ?_
 simp [N99]
 refine aa k1 (.inl rfl) ?_
 simp
 refine aa k2 (.inr rfl) ?_
 simp
theorem H0 (p : Nat) (h : p < 9223372036854775808) : C 101 [wiD p] (.tup [.int .i64 p,.int .i64 0]) []:=by
 have k1:=oy hC p (by omega)
 have k2:=qx hC p (by omega)
 have e1 : fv p false=.agg [.int .u64 0,.int .u64 p,.bool false]:=by
  rw [fv,show p / 18446744073709551616=0 by omega,show p % 18446744073709551616=p by omega];rfl
 obtain ⟨c,d,e2⟩:=ju p
 rw [e1] at k2
 rw [e2] at k1 k2 ⊢
 refine ai hC (nf:=N101) rfl rfl ?_
 simp [N101]
 refine aa k1 (.inl rfl) ?_
 simp
 refine aa k2 (.inl rfl) ?_
 simp
 refine aa (lp hC p h) (.inl rfl) ?_
 simp
theorem H2 (p r : Nat) (hr : r <= p) (h : p < 1329227995784915872903807060280344576) : C 100 [wiD p,wiD r] (.tup [wiD (p - r),.int .i64 0]) []:=by
 have k1:=oy hC p h
 have k2:=oy hC r (by omega)
 have k3:=qx hC p h
 have k4:=qx hC r (by omega)
 have k5:=A6 hC r
 have k6:=LY hC p r hr h
 have k7:=rF hC (p - r) (by omega)
 obtain ⟨a1,a2,e1⟩:=ju p
 obtain ⟨b1,b2,e2⟩:=ju r
 obtain ⟨c1,c2,e3⟩:=ju (p - r)
 obtain ⟨d1,d2,e4⟩:=kS p
 obtain ⟨f1,f2,e5⟩:=kS r
 obtain ⟨g1,g2,e6⟩:=xY r (decide (r ≠ 0))
 obtain ⟨i1,i2,e7⟩:=kS (p - r)
 obtain ⟨z,hz⟩ : ∃ z,z=decide (r ≠ 0):=⟨_,rfl⟩
 rw [<- hz] at k5 k6 e6
 rw [e1] at k1 k3 ⊢
 rw [e2] at k2 k4 ⊢
 rw [e3] at k7 ⊢
 rw [e4] at k3 k6
 rw [e5] at k4 k5
 rw [e6] at k5 k6
 rw [e7] at k6 k7
 refine ai hC (nf:=N100) rfl rfl ?_
 simp [N100]
 refine aa k1 (.inl rfl) ?_
 simp
 refine aa k2 (.inl rfl) ?_
 simp
 refine aa k3 (.inl rfl) ?_
 simp
 refine aa k4 (.inl rfl) ?_
 simp
 refine aa k5 (.inl rfl) ?_
 simp
 refine aa k6 (.inl rfl) ?_
 simp
 refine aa k7 (.inr rfl) ?_
 simp
 exact am (by decide +kernel)
theorem Ai (u a d : Nat) (hu : u < 4503599627370496) (ha : a < d) (hd : d < 4503599627370496) : C 98 [.int .i64 u,.int .i64 a,.int .i64 d] (.tup [.int .i64 (u * a / d : Nat),.int .i64 ((u * a + d - 1) / d : Nat),.int .i64 0]) []:=by
 have h1 : u * a <= u * d:=x1f _ (by omega)
 have h1' : u * d=d * u:=x0U _ _
 have h2 : u * a / d <= u:=Nat.le_of_lt_succ (x1T (by rw [x1X,x1G];omega))
 have h3 : (u * a + d - 1) / d <= u:=Nat.le_of_lt_succ (x1T (by rw [x1X,x1G];omega))
 have h4 : u * a / 18446744073709551616 < d:=by
  have h5 : u * d <= 4503599627370496 * d:=x0s _ (by omega)
  omega
 have k1:=sq hC u a (by omega) (by omega)
 have k2:=nP hC (u * a) d false (u * a / d) (by omega) h4 (by omega) rfl (by omega)
 have k3:=nP hC (u * a) d true ((u * a + d - 1) / d) (by omega) h4 (by omega) rfl (by omega)
 obtain ⟨q1,e1⟩ : ∃ q,q=u * a / d:=⟨_,rfl⟩
 obtain ⟨q2,e2⟩ : ∃ q,q=(u * a + d - 1) / d:=⟨_,rfl⟩
 obtain ⟨a1,a2,e3⟩:=kS (u * a)
 rw [e3] at k1 k2 k3
 rw [<- e1] at k2 ⊢
 rw [<- e2] at k3 ⊢
 have hd0 : ¬ (d : Int)=0:=by omega
 clear h1 h1' h2 h3 h4 e1 e2 e3
 refine ai hC (nf:=N98) rfl rfl ?_
 simp [N98]
 refine ac (fun c=>?_) (fun c=>?_) <;> simp at c <;> simp [c]
 ·omega
 refine aa k1 (.inr rfl) ?_
 simp
 refine aa k2 (.inl rfl) ?_
 simp
 refine aa k3 (.inl rfl) ?_
 simp
end Go.Gv

namespace Go.Gv
def aT (t : List (Int × Int)) (x : Int) : Nat:=t.findIdx fun k=>decide (x <= k.1)
def atK (t : List (Int × Int)) (x : Int) : Bool:=decide (aT t x < t.length) && decide (t[aT t x]!.1=x)
def u5 (a b : Int × Int) (x : Int) : Int × Int × Int:=(a.2 + (b.2 - a.2) * (x - a.1) / (b.1 - a.1),(b.2 - a.2) * (x - a.1) % (b.1 - a.1),b.1 - a.1)
def bf (t : List (Int × Int)) (x : Int) : Int × Int × Int :=
 if atK t x || decide (aT t x=0) then (t[aT t x]!.2,0,1)
 else if aT t x=t.length then (t[aT t x - 1]!.2,0,1)
 else u5 t[aT t x - 1]! t[aT t x]! x
theorem dX (t : List (Int × Int)) (x : Int) : aT t x <= t.length:=List.findIdx_le_length
theorem kY {t : List (Int × Int)} {x : Int} {j : Nat} (h : j < aT t x) (hl : j < t.length) : t[j].1 < x:=by
 have:=List.not_of_lt_findIdx h
 simp at this
 exact this
theorem gr {t : List (Int × Int)} {x : Int} (h : aT t x < t.length) : x <= t[aT t x].1:=by
 have h2:=List.findIdx_getElem (w:=h)
 exact of_decide_eq_true h2
theorem eP {t : List (Int × Int)} {x : Int} {j : Nat} (hl : j < t.length) (h : x <= t[j].1) : aT t x <= j:=by
 apply x1B
 intro hj
 have:=kY hj hl
 omega
theorem lm {t : List (Int × Int)} (h : aq t=true) {j i : Nat} (hi : i < t.length) (hj : j <= i) : t[j].1 <= t[i].1:=by
 rcases Nat.lt_or_eq_of_le hj with h1 | rfl
 ·have:=im h j i hi h1;omega
 ·exact x0S _
theorem kg {t : List (Int × Int)} (hv : aq t=true) {x : Int} {j : Nat} (hl : j < t.length) (h : t[j].1 < x) : j < aT t x:=by
 apply Nat.lt_of_not_le
 intro hj
 have h1:=gr (t:=t) (x:=x) (by omega)
 have h2:=lm hv hl hj
 omega
theorem fc {t : List (Int × Int)} {x : Int} (h : aq t=true) (h0 : aT t x ≠ 0) (h1 : aT t x < t.length) (h2 : atK t x=false) :
  ∃ k u a d : Nat,aT t x=k + 1 /\ k + 1 < t.length /\ ∃ (g0 : k < t.length) (g1 : k + 1 < t.length),t[k + 1].2 - t[k].2=u /\ x - t[k].1=a /\ t[k + 1].1 - t[k].1=d /\ u < 4503599627370496 /\ 0 < a /\ a < d /\ d < 4503599627370496 /\ -1125899906842624 <= t[k].2 /\ t[k].2 <= 1125899906842624 /\ t[k].2 + u <= 1125899906842624 /\ t[aT t x - 1]! = t[k] /\ t[aT t x]! = t[k + 1] /\ -1125899906842624 <= t[k].1 /\ t[k].1 <= 1125899906842624 /\ t[k + 1].1 <= 1125899906842624:=by
 obtain ⟨k,hk⟩ : ∃ k,aT t x=k + 1:=⟨aT t x - 1,by omega⟩
 have hlt : t[k].1 < x:=kY (by omega) (by omega)
 have hge:=gr h1
 have e1 : t[aT t x]! = t[aT t x]:=x0f t _ h1
 simp only [atK,h1,decide_true,x0Z,x0H,e1] at h2
 rw [hk] at h1
 simp only [hk] at hge h2 e1
 obtain ⟨f1,f2,f3⟩:=dA h (show k < t.length by omega)
 obtain ⟨f4,f5,f6⟩:=dA h h1
 have f7:=f6 k rfl
 simp only [fg,x0a,x0b] at f1 f2 f4 f5
 refine ⟨k,(t[k + 1].2 - t[k].2).toNat,(x - t[k].1).toNat,(t[k + 1].1 - t[k].1).toNat,hk,h1,by omega,h1,by omega,by omega,by omega,by omega,by omega,by omega,by omega,by omega,by omega,by omega,?_,?_,by omega,by omega,by omega⟩
 ·rw [hk];exact x0f t k (by omega)
 ·rw [hk];exact e1
theorem u6 {p q : Int × Int} {u a d : Nat} {x : Int} (h1 : q.2 - p.2=u) (h2 : x - p.1=a) (h3 : q.1 - p.1=d) : u5 p q x=(p.2 + ((u * a / d : Nat) : Int),((u * a % d : Nat) : Int),(d : Int)):=by
 simp only [u5,h1,h2,h3]
 push_cast
 rfl
variable {C : CC} (hC : aw prog C)
include hC
theorem DS (b : Bool) (t : List (Int × Int)) (x : Int) (h : aq t=true) : C 96 [slx b (t.map knD),.int .i64 x,.fn 97 []] (.tup [.int .i64 (aT t x),.bool (atK t x)]) []:=by
 obtain ⟨l1,l2⟩:=bk h
 have hpl:=dX t x
 obtain ⟨n,hn⟩ : ∃ n,n=aT t x:=⟨_,rfl⟩
 obtain ⟨r,hr⟩ : ∃ r,r=atK t x:=⟨_,rfl⟩
 have hlt : ∀ j,(hj : j < t.length) -> t[j].1 < x -> j < n:=fun j hj h1=>hn ▸ kg h hj h1
 have hle : ∀ j,(hj : j < t.length) -> x <= t[j].1 -> n <= j:=fun j hj h1=>hn ▸ eP hj h1
 rw [<- hn] at hpl ⊢
 rw [<- hr]
 rw [atK,<- hn] at hr
 refine ai hC (nf:=N96) rfl rfl ?_
 simp [N96]
 refine au (Nat × Nat) (fun s=>[(0,slx b (t.map knD)),(1,.int .i64 x),(2,.fn 97 []),(8,.int .i64 t.length),(9,.int .i64 s.1),(10,.int .i64 s.2)]) (fun s=>s.1 <= n /\ n <= s.2 /\ s.2 <= t.length) (fun s=>s.2 - s.1) (0,t.length) (by simp;omega) (by simp) ?_
 rintro ⟨i,j⟩ ⟨h1,h2,h3⟩
 simp only at h1 h2 h3
 simp
 refine ac (fun c=>?_) (fun c=>?_) <;> simp [c] <;> simp at c
 ·obtain ⟨m,hm⟩ : ∃ m,m=(i + j) / 2:=⟨_,rfl⟩
  have e1 : IntKind.wrap .i64 ((i : Int) + (j : Int))=((i + j : Nat) : Int):=wrap_i64 (by omega) (by omega)
  obtain ⟨s,hs⟩ : ∃ s,s=i + j:=⟨_,rfl⟩
  rw [<- hs] at e1 hm
  have e2 : Int.fdiv (s : Int) (2 ^ min 1 IntKind.u64.bits)=(m : Int):=by rw [hm];exact mK s 1
  have e3 : IntKind.wrap .i64 (m : Int)=(m : Int):=wrap_i64 rfl (by omega)
  have e4 : IntKind.wrap .i64 ((m : Int) + 1)=((m + 1 : Nat) : Int):=wrap_i64 (by omega) (by omega)
  have hml : m < t.length:=by omega
  simp [e1,bu s (by omega),e2,e3,hml]
  have hc:=jx hC t[m] x
  simp [knD] at hc ⊢
  refine aa hc (.inl rfl) ?_
  by_cases hmn : t[m].1 < x
  ·have:=hlt m hml hmn
   simp [hmn,e4]
   exact ⟨m + 1,j,⟨by omega,h2,h3⟩,by omega,by omega,by omega⟩
  ·have:=hle m hml (by omega)
   have hz : ¬ (if x < t[m].1 then (1 : Int) else 0) < 0:=by split <;> omega
   simp [hmn,hz]
   exact ⟨i,m,⟨by omega,by omega,by omega⟩,by omega,by omega,by omega⟩
 ·have : i=n:=by omega
  subst this
  refine ac (fun c2=>?_) (fun c2=>?_) <;> simp at c2 <;> simp [c2]
  ·have hc:=jx hC t[i] x
   have hge : ¬ t[i].1 < x:=fun e=>by have:=hlt i c2 e;omega
   have e1 : t[i]! = t[i]:=x0f t i c2
   simp [knD] at hc ⊢
   refine aa hc (.inl rfl) ?_
   simp [hge,hr,c2,e1]
   omega
  ·have : ¬ i < t.length:=by omega
   simp [hr,this]
set_option maxHeartbeats 4000000 in
theorem x9 (b : Bool) (t : List (Int × Int)) (x : Int) (h : aq t=true) : C 90 [slx b (t.map knD),.int .i64 x] (.tup [.int .i64 (bf t x).1,.int .i64 (bf t x).2.1,.int .i64 (bf t x).2.2]) []:=by
 obtain ⟨l1,l2⟩:=bk h
 have hpl:=dX t x
 have hk:=DS hC b t x h
 obtain ⟨p1,hp1⟩ : ∃ z,z=(bf t x).1:=⟨_,rfl⟩
 obtain ⟨p2,hp2⟩ : ∃ z,z=(bf t x).2.1:=⟨_,rfl⟩
 obtain ⟨p3,hp3⟩ : ∃ z,z=(bf t x).2.2:=⟨_,rfl⟩
 rw [<- hp1,<- hp2,<- hp3]
 unfold bf at hp1 hp2 hp3
 refine ai hC (nf:=N90) rfl rfl ?_
 simp [N90]
 refine aa hk (.inl rfl) ?_
 cases ha : atK t x
 ·simp
  refine ac (fun c=>?_) (fun c=>?_) <;> simp at c <;> simp [c]
  ·have h0 : 0 < t.length:=by omega
   have e0 : t[0]! = t[0]:=x0f t 0 h0
   rw [if_pos (by simp [c]),c,e0] at hp1 hp2 hp3
   simp [h0,knD,hp1,hp2,hp3]
  refine ac (fun c2=>?_) (fun c2=>?_) <;> simp at c2 <;> simp [c2]
  ·obtain ⟨n,hn⟩ : ∃ n,n + 1=t.length:=⟨t.length - 1,by omega⟩
   have e1 : IntKind.wrap .i64 ((t.length : Int) - 1)=(n : Int):=wrap_i64 (by omega) (by omega)
   have hnl : n < t.length:=by omega
   have e0 : t[aT t x - 1]! = t[n]:=by rw [show aT t x - 1=n by omega];exact x0f t n hnl
   rw [if_neg (by simp [ha,c]),if_pos (by omega),e0] at hp1 hp2 hp3
   simp [e1,hnl,knD,hp1,hp2,hp3]
  ·obtain ⟨k,u,a,d,q1,q2,g0,g1,r1,r2,r3,r4,r5,r6,r7,r8,r9,r10,s1,s2,r11,r12,r13⟩:=fc h c (by omega) ha
   rw [if_neg (by simp [ha,c]),if_neg (by omega),s1,s2,u6 r1 r2 r3] at hp1 hp2 hp3
   simp only at hp1 hp2 hp3
   have ew1 : IntKind.wrap .i64 (k : Int)=(k : Int):=wrap_i64 rfl (by omega)
   have ew2 : IntKind.wrap .i64 (t[k + 1].2 - t[k].2)=(u : Int):=wrap_i64 r1 (by omega)
   have ew3 : IntKind.wrap .i64 (x - t[k].1)=(a : Int):=wrap_i64 r2 (by omega)
   have ew4 : IntKind.wrap .i64 (t[k + 1].1 - t[k].1)=(d : Int):=wrap_i64 r3 (by omega)
   have b1 : u * a < 1329227995784915872903807060280344576:=by
    have:=x0O (show u <= 4503599627370496 by omega) (show a <= 4503599627370496 by omega)
    omega
   have b2 : u * a / d * d <= u * a:=Nat.div_mul_le_self _ _
   have b3 : u * a - u * a / d * d=u * a % d:=by
    have:=x1t (u * a) d
    omega
   have b4 : u * a % d < d:=x1b _ (by omega)
   have b5 : u * a / d <= u:=by
    have h1 : u * a <= u * d:=x1f _ (by omega)
    have h1' : u * d=d * u:=x0U _ _
    exact Nat.le_of_lt_succ (x1T (by rw [x1X,x1G];omega))
   have k1:=Ai hC u a d r4 r6 r7
   have k2:=oJ hC u a (by omega) (by omega) b1
   have k3:=oJ hC (u * a / d) d (by omega) (by omega) (by omega)
   have k4:=H2 hC (u * a) (u * a / d * d) b2 b1
   have k5:=H0 hC (u * a % d) (by omega)
   rw [b3] at k4
   obtain ⟨v1,v2,f1⟩:=ju (u * a)
   obtain ⟨v3,v4,f2⟩:=ju (u * a / d * d)
   obtain ⟨v5,v6,f3⟩:=ju (u * a % d)
   rw [f1] at k2 k4
   rw [f2] at k3 k4
   rw [f3] at k4 k5
   clear b1 b2 b3 f1 f2 f3
   obtain ⟨q,eq⟩ : ∃ q,q=u * a / d:=⟨_,rfl⟩
   obtain ⟨q',eq'⟩ : ∃ q,q=(u * a + d - 1) / d:=⟨_,rfl⟩
   obtain ⟨m,em⟩ : ∃ q,q=u * a % d:=⟨_,rfl⟩
   rw [<- eq] at k1 k3 b5 hp1
   rw [<- eq'] at k1
   rw [<- em] at k5 hp2
   have ew5 : IntKind.wrap .i64 (t[k].2 + (q : Int))=t[k].2 + (q : Int):=wrap_i64 rfl (by omega)
   simp [ew1,q1,g0,g1,knD]
   refine ⟨am (by decide +kernel),?_⟩
   simp [ew2,ew3,ew4]
   refine ⟨am (by decide +kernel),?_⟩
   refine aa k1 (.inl rfl) ?_
   simp
   refine aa k2 (.inr rfl) ?_
   simp
   refine aa k3 (.inr rfl) ?_
   simp
   refine aa k4 (.inr rfl) ?_
   simp
   refine aa k5 (.inl rfl) ?_
   simp [ew5,hp1,hp2,hp3]
 ·have hlt : aT t x < t.length:=by simp [atK] at ha;exact ha.1
  have e0 : t[aT t x]! = t[aT t x]:=x0f t _ hlt
  rw [if_pos (by simp [ha]),e0] at hp1 hp2 hp3
  simp [hlt,knD,hp1,hp2,hp3]
theorem wx (b : Bool) (t : List (Int × Int)) (x : Int) (h : aq t=true) : C 73 [slx b (t.map knD),.int .i64 x] (.tup [.int .i64 (bf t x).1,.int .i64 0]) []:=by
 refine ai hC (nf:=N73) rfl rfl ?_
 simp [N73]
 refine aa (dY hC b t) (.inl rfl) ?_
 simp [h]
 refine aa (x9 hC b t x h) (.inl rfl) ?_
 simp
end Go.Gv

namespace Go.Gv
def bis (p : Nat -> Bool) : Nat -> Nat -> Nat -> Nat
 | 0,lo,_=>lo
 | f + 1,lo,hi=>if lo < hi then (if p ((lo + hi) / 2) then bis p f lo ((lo + hi) / 2) else bis p f ((lo + hi) / 2 + 1) hi) else lo
theorem mN (p : Nat -> Bool) (f lo hi : Nat) (h : hi <= lo) : bis p f lo hi=lo:=by
 cases f with
 | zero=>rfl
 | succ f=>simp only [bis];rw [if_neg (by omega)]
theorem na {p : Nat -> Bool} {f lo hi : Nat} (h : lo < hi) (hf : hi - lo < 2 ^ f) : ∃ f',hi - (lo + hi) / 2 < 2 ^ f /\ ((lo + hi) / 2 - lo < 2 ^ f') /\ (hi - ((lo + hi) / 2 + 1) < 2 ^ f') /\ bis p f lo hi=if p ((lo + hi) / 2) then bis p f' lo ((lo + hi) / 2) else bis p f' ((lo + hi) / 2 + 1) hi:=by
 cases f with
 | zero=>simp at hf;omega
 | succ f =>
  rw [x1S] at hf
  refine ⟨f,by rw [x1S];omega,by omega,by omega,?_⟩
  simp only [bis]
  rw [if_pos h]
theorem de (p : Nat -> Bool) : ∀ (f lo hi : Nat),lo <= hi -> lo <= bis p f lo hi /\ bis p f lo hi <= hi
 | 0,lo,hi,h=>⟨x0p _,h⟩
 | f + 1,lo,hi,h=>by
  simp only [bis]
  split
  ·split
   ·have:=de p f lo ((lo + hi) / 2) (by omega);omega
   ·have:=de p f ((lo + hi) / 2 + 1) hi (by omega);omega
  ·omega
theorem kB {p q : Nat -> Bool} (h : ∀ n,q n=true -> p n=true) : ∀ (f lo hi : Nat),lo <= hi -> bis p f lo hi <= bis q f lo hi
 | 0,lo,hi,_=>x0p _
 | f + 1,lo,hi,hlh=>by
  simp only [bis]
  split
  ·cases hp : p ((lo + hi) / 2)
   ·have hq : q ((lo + hi) / 2)=false:=by
     cases hq : q ((lo + hi) / 2)
     ·rfl
     ·rw [h _ hq] at hp;cases hp
    rw [hq]
    simp only [x0k,if_false]
    exact kB h f _ _ (by omega)
   ·cases hq : q ((lo + hi) / 2)
    ·simp only [x0k,if_false,if_true]
     have h1:=de p f lo ((lo + hi) / 2) (by omega)
     have h2:=de q f ((lo + hi) / 2 + 1) hi (by omega)
     omega
    ·simp only [if_true]
     exact kB h f _ _ (by omega)
  ·exact x0p _
theorem cR {t : List (Int × Int)} (h : aq t=true) : ∀ {i j : Nat} (hi : i < t.length) (hj : j <= i),t[j].2 <= t[i].2:=by
 intro i
 induction i with
 | zero=>intro j hi hj;have : j=0:=(by omega);subst this;exact x0S _
 | succ i ih =>
  intro j hi hj
  rcases Nat.lt_or_eq_of_le hj with h1 | rfl
  ·have h2:=((dA h hi).2.2 i rfl).2
   have:=ih (by omega) (show j <= i by omega)
   omega
  ·exact x0S _
theorem qd {t : List (Int × Int)} (h : aq t=true) (x : Int) : ∃ i j : Nat,∃ (hi : i < t.length) (hj : j < t.length),t[i].2 <= (bf t x).1 /\ (bf t x).1 <= t[j].2:=by
 obtain ⟨l1,l2⟩:=bk h
 have hpl:=dX t x
 unfold bf
 cases ha : atK t x
 ·by_cases c : aT t x=0
  ·have h0 : 0 < t.length:=by omega
   rw [if_pos (by simp [c]),c,x0f t 0 h0]
   exact ⟨0,0,h0,h0,x0S _,x0S _⟩
  rw [if_neg (by simp [c])]
  by_cases c2 : aT t x=t.length
  ·obtain ⟨n,hn⟩ : ∃ n,n + 1=t.length:=⟨t.length - 1,by omega⟩
   have hnl : n < t.length:=by omega
   rw [if_pos c2,show aT t x - 1=n by omega,x0f t n hnl]
   exact ⟨n,n,hnl,hnl,x0S _,x0S _⟩
  ·obtain ⟨k,u,a,d,q1,q2,g0,g1,r1,r2,r3,r4,r5,r6,r7,r8,r9,r10,s1,s2,r11,r12,r13⟩:=fc h c (by omega) ha
   rw [if_neg c2,s1,s2,u6 r1 r2 r3]
   have b5 : u * a / d <= u:=by
    have h1 : u * a <= u * d:=x1f _ (by omega)
    have h1' : u * d=d * u:=x0U _ _
    exact Nat.le_of_lt_succ (x1T (by rw [x1X,x1G];omega))
   generalize u * a / d=q at b5
   exact ⟨k,k + 1,g0,g1,by simp only;omega,by simp only;omega⟩
 ·have hlt : aT t x < t.length:=by simp [atK] at ha;exact ha.1
  rw [if_pos (by simp),x0f t _ hlt]
  exact ⟨_,_,hlt,hlt,x0S _,x0S _⟩
theorem qe {t : List (Int × Int)} (h : aq t=true) (x : Int) : t[0]!.2 <= (bf t x).1 /\ (bf t x).1 <= (cZ t).2:=by
 obtain ⟨l1,l2⟩:=bk h
 obtain ⟨i,j,hi,hj,h1,h2⟩:=qd h x
 obtain ⟨n,hn⟩ : ∃ n,n + 1=t.length:=⟨t.length - 1,by omega⟩
 have h0 : 0 < t.length:=by omega
 rw [bZ hn,x0f t 0 h0]
 have k1:=cR h hi (show 0 <= i by omega)
 have k2:=cR h (show n < t.length by omega) (show j <= n by omega)
 omega
def iW (s : Sec) (depth fall len : Int) : Nat:=di ((bf s.conv depth).1.toNat * (bf s.conv depth).1.toNat * fall.toNat / len.toNat)
def bS (s : Sec) (flow fall len : Int) (m : Nat) : Bool:=decide (flow <= (iW s m fall len : Int))
def gE (s : Sec) (flow fall len : Int) : Nat:=bis (bS s flow fall len) 40 0 (s.height.toNat + 1)
def cD (s : Sec) (flow fall len : Int) : Int × Int :=
 if ap s then (if 0 <= flow /\ flow <= 1099511627776 /\ bB fall len=true then (if s.height.toNat < gE s flow fall len then (0,28) else (gE s flow fall len,0)) else (0,2)) else (0,1)
theorem kG {s : Sec} (h : ap s=true) (x : Int) : 0 <= (bf s.conv x).1 /\ (bf s.conv x).1 <= 1099511627776:=by
 obtain ⟨h1,h2,h3,h4⟩:=dM h
 have hr:=qe h1 x
 simp only [ap,bD,x0a,x0b,x0n] at h
 have h0:=h.2.1.1.2.2
 omega
variable {C : CC} (hC : aw prog C)
include hC
theorem sB (s : Sec) (depth fall len : Int) (hv : ap s=true) (hs : bB fall len=true) : C 61 [.agg (aP s),.int .i64 depth,.int .i64 fall,.int .i64 len] (.tup [.int .i64 (iW s depth fall len),.int .i64 0]) []:=by
 obtain ⟨c1,_,_,_⟩:=dM hv
 obtain ⟨c3,c4⟩:=kG hv depth
 simp only [bB,x0a,x0b] at hs
 have hF:=wx hC s.convN s.conv depth c1
 obtain ⟨k,hk⟩ : ∃ k : Nat,(bf s.conv depth).1=k:=⟨(bf s.conv depth).1.toNat,by omega⟩
 obtain ⟨f,rfl⟩ : ∃ f : Nat,fall=f:=⟨fall.toNat,by omega⟩
 obtain ⟨l,rfl⟩ : ∃ l : Nat,len=l:=⟨len.toNat,by omega⟩
 have hcap : iW s depth f l=di (k * k * f / l):=by simp [iW,hk]
 rw [hk] at hF
 rw [hcap]
 have hb:=sA (k:=k) (f:=f) (by omega) (by omega)
 have hb0 : k * k <= 1208925819614629174706176:=x0O (show k <= 1099511627776 by omega) (show k <= 1099511627776 by omega)
 have hb2:=Nat.div_le_self (k * k * f) l
 refine ai hC (nf:=N61) rfl rfl ?_
 simp [N61,aP]
 refine aa hF (.inl rfl) ?_
 simp
 refine aa (pp hC k k (by omega) (by omega)) (.inl rfl) ?_
 have v : ∀ x,isV (bq x)=true /\ (∀ f : Nat -> D,bY f (bq x)) /\ (∀ f : Nat -> D,dp f (bq x)=bq x) /\ ∀ ks,aW ks (bq x)=bq x:=fun x=>⟨rfl,fun _=>trivial,fun _=>rfl,fun _=>by simp [bq]⟩
 simp [v]
 refine aa (uL hC (k * k) f (by omega) (by omega) (by omega)) (.inl rfl) ?_
 simp [v]
 refine aa (x8 hC (k * k * f) l (by omega) (by omega) (by omega)) (.inl rfl) ?_
 simp [v]
 refine aa (yF hC (k * k * f / l)) (.inl rfl) ?_
 simp
theorem Ae (s : Sec) (flow fall len : Int) : C 165 [.agg (aP s),.int .i64 flow,.int .i64 fall,.int .i64 len] (.tup [.int .i64 (cD s flow fall len).1,.int .i64 (cD s flow fall len).2]) []:=by
 obtain ⟨r,hr⟩ : ∃ r,r=cD s flow fall len:=⟨_,rfl⟩
 rw [<- hr]
 unfold cD at hr
 have hvc:=qw hC s
 have hsl:=uz hC fall len
 have es : (decide (0 <= fall) && decide (fall <= 4194304) && decide (1 <= len) && decide (len <= 16777216))=bB fall len:=rfl
 rw [es] at hsl
 rw [aP] at hvc
 refine ai hC (nf:=N165) rfl rfl ?_
 simp [N165,aP]
 refine aa hvc (.inl rfl) ?_
 cases hv : ap s
 ·rw [if_neg (by simp [hv])] at hr
  simp [hr]
 rw [if_pos hv] at hr
 have hh : 1 <= s.height /\ s.height <= 32768:=by
  simp only [ap,x0a,x0b] at hv
  omega
 obtain ⟨H,hH⟩ : ∃ H : Nat,s.height=H:=⟨s.height.toNat,by omega⟩
 simp
 refine ac (fun c1=>?_) (fun c1=>?_) <;> simp at c1 <;> simp [c1]
 ·rw [if_neg (by omega)] at hr
  simp [hr]
 refine ac (fun c2=>?_) (fun c2=>?_) <;> simp at c2 <;> simp [c2]
 ·rw [if_neg (by omega)] at hr
  simp [hr]
 refine aa hsl (.inl rfl) ?_
 cases hs : bB fall len
 ·rw [if_neg (by simp [hs])] at hr
  simp [hr]
 rw [if_pos ⟨by omega,by omega,hs⟩] at hr
 have e1 : IntKind.wrap .i64 (s.height + 1)=((H + 1 : Nat) : Int):=wrap_i64 (by omega) (by omega)
 simp [e1]
 refine ⟨am (by decide +kernel),?_⟩
 have hl : gE s flow fall len=bis (bS s flow fall len) 40 0 (H + 1):=by rw [gE,hH];rfl
 obtain ⟨L,hL⟩ : ∃ L,L=gE s flow fall len:=⟨_,rfl⟩
 rw [<- hL] at hl hr
 rw [hH] at hr
 have hcc:=fun m : Nat=>sB hC s m fall len hv hs
 simp only [aP,hH] at hcc
 simp only [hH]
 refine au (Nat × Nat × Nat) (fun z=>[(1,.int .i64 flow),(2,.int .i64 fall),(3,.int .i64 len),(4,.ptr [.str s.name,.int .i64 H,.int .i64 s.price,slx s.areaN (s.area.map knD),slx s.convN (s.conv.map knD)]),(10,.int .i64 z.2.1),(11,.int .i64 z.2.2)])
  (fun z=>z.2.1 <= z.2.2 /\ z.2.2 <= H + 1 /\ z.2.2 - z.2.1 < 2 ^ z.1 /\ bis (bS s flow fall len) z.1 z.2.1 z.2.2=L) (fun z=>z.2.2 - z.2.1) (40,0,H + 1) ⟨by simp,by simp,by simp;omega,by rw [hl]⟩ (by simp) ?_
 rintro ⟨f,lo,hi⟩ ⟨i1,i2,i3,i4⟩
 simp only at i1 i2 i3 i4
 simp
 refine ac (fun c=>?_) (fun c=>?_) <;> simp at c <;> simp [c]
 ·obtain ⟨f',_,j2,j3,j4⟩:=na (p:=bS s flow fall len) c i3
  obtain ⟨sm,hsm⟩ : ∃ sm,sm=lo + hi:=⟨_,rfl⟩
  rw [<- hsm] at j2 j3 j4
  obtain ⟨m,hm⟩ : ∃ m,m=sm / 2:=⟨_,rfl⟩
  rw [<- hm] at j2 j3 j4
  have e2 : IntKind.wrap .i64 ((lo : Int) + (hi : Int))=(sm : Int):=wrap_i64 (by omega) (by omega)
  have e3 : Int.tdiv (sm : Int) 2=(m : Int):=by rw [hm];exact ou sm 2
  have e4 : IntKind.wrap .i64 (m : Int)=(m : Int):=wrap_i64 rfl (by omega)
  have e5 : IntKind.wrap .i64 ((m : Int) + 1)=((m + 1 : Nat) : Int):=wrap_i64 (by omega) (by omega)
  rw [i4] at j4
  simp [e2,e3,e4]
  refine aa (hcc m) (.inl rfl) ?_
  simp
  refine ac (fun c3=>?_) (fun c3=>?_) <;> simp at c3 <;> simp [c3]
  ·rw [if_pos (by simp [bS,c3])] at j4
   exact ⟨f',lo,m,⟨by omega,by omega,j2,j4.symm⟩,by omega,by omega,by omega⟩
  ·rw [if_neg (by simp [bS];omega)] at j4
   simp [e5]
   exact ⟨f',m + 1,hi,⟨by omega,by omega,j3,j4.symm⟩,by omega,by omega,by omega⟩
 ·rw [mN _ _ _ _ c] at i4
  subst i4
  refine ac (fun c3=>?_) (fun c3=>?_) <;> simp at c3 <;> simp [c3]
  ·rw [if_pos (by simp;omega)] at hr
   simp [hr]
  ·rw [if_neg (by simp;omega)] at hr
   simp [hr]
end Go.Gv

namespace Go.Gv
def ca (k flow len n : Nat) : Bool:=decide (flow * flow * len <= k * k * n)
def fo (k flow len : Nat) : Int × Int:=if flow=0 then (0,0) else if k=0 then (0,16) else if ca k flow len 1073741824 then (bis (ca k flow len) 40 0 1073741824,0) else (0,5)
def b9 (l : Lnk) (s : Sec) (flow : Int) : Int × Int:=fo (cZ s.conv).2.toNat flow.toNat l.len.toNat
theorem ze {q n : Nat} (hq : q <= 1099511627776) (hn : n <= 1073741824) : q * q * n <= 1298074214633706907132624082305024:=x0O (x0O hq hq) hn
variable {C : CC} (hC : aw prog C)
include hC
theorem sd (q n : Nat) (hq : q < 9223372036854775808) (hn : n < 9223372036854775808) (hx : q * q < 340282366920938463463374607431768211456) (hxk : q * q * n < 340282366920938463463374607431768211456) : C 166 [.int .i64 q,.int .i64 n] (.tup [.int .u64 ((q * q * n / 18446744073709551616 : Nat) : Int),.int .u64 ((q * q * n % 18446744073709551616 : Nat) : Int)]) []:=by
 have k1:=iu hC q q (by omega) (by omega)
 obtain ⟨x,hxx⟩ : ∃ x,x=q * q:=⟨_,rfl⟩
 rw [<- hxx] at hx hxk k1 ⊢
 have e:=p9 (x:=x) (k:=n)
 obtain ⟨h,hh⟩ : ∃ h,h=x / 18446744073709551616:=⟨_,rfl⟩
 obtain ⟨l,hl⟩ : ∃ l,l=x % 18446744073709551616:=⟨_,rfl⟩
 have hh' : h < 18446744073709551616:=by omega
 have hl' : l < 18446744073709551616:=by omega
 rw [<- hh,<- hl] at e k1
 have k2:=iu hC l n hl' (by omega)
 obtain ⟨p,hp⟩ : ∃ p,p=l * n / 18446744073709551616:=⟨_,rfl⟩
 obtain ⟨r,hr⟩ : ∃ r,r=l * n % 18446744073709551616:=⟨_,rfl⟩
 rw [<- hp,<- hr] at e k2
 have hq' : r < 18446744073709551616:=by omega
 obtain ⟨z,hz⟩ : ∃ z,z=h * n:=⟨_,rfl⟩
 obtain ⟨y,hy⟩ : ∃ y,y=x * n:=⟨_,rfl⟩
 rw [<- hz,<- hy] at e
 rw [<- hy] at hxk ⊢
 obtain ⟨t,ht⟩ : ∃ t,t=z + p:=⟨_,rfl⟩
 rw [<- ht] at e
 have e1 : y / 18446744073709551616=t:=by omega
 have e2 : y % 18446744073709551616=r:=by omega
 have ht' : t < 18446744073709551616:=by omega
 have et : IntKind.u64.wrap ((p : Int) + IntKind.u64.wrap ((h : Int) * (n : Int)))=(t : Int):=by
  rw [p8 h n,<- hz,ft,ft]
  clear hxk hx e e1 e2 hr hp hl hh hy hz
  omega
 rw [e1,e2]
 clear e1 e2 e hh hl hx hxk hxx hp hr hz hy ht
 refine ai hC (nf:=N166) rfl rfl ?_
 simp [N166,bu q (by omega),bu n (by omega)]
 refine aa k1 (.inl rfl) ?_
 simp [bu n (by omega)]
 refine aa k2 (.inl rfl) ?_
 simp [et,bu n (by omega)]
theorem xp (k n a b : Nat) (hk : k <= 1099511627776) (hn : n <= 1073741824) (hb : b < 18446744073709551616) : C 167 [.int .i64 n,.ptr [.int .i64 k],.ptr [.int .u64 a],.ptr [.int .u64 b]] (.bool (decide (a * 18446744073709551616 + b <= k * k * n))) []:=by
 have h1:=ze hk hn
 have h2 : k * k <= 1208925819614629174706176:=x0O hk hk
 have k1:=sd hC k n (by omega) (by omega) (by omega) (by omega)
 obtain ⟨z,hz⟩ : ∃ z,z=k * k * n:=⟨_,rfl⟩
 rw [<- hz] at k1 ⊢
 obtain ⟨h,hh⟩ : ∃ h,h=z / 18446744073709551616:=⟨_,rfl⟩
 obtain ⟨l,hl⟩ : ∃ l,l=z % 18446744073709551616:=⟨_,rfl⟩
 rw [<- hh,<- hl] at k1
 have e : decide (a * 18446744073709551616 + b <= z)=(decide (a < h) || (decide (h=a) && decide (b <= l))):=by
  rw [x0x];simp;omega
 rw [e]
 clear hz h1 h2
 refine ai hC (nf:=N167) rfl rfl ?_
 simp [N167]
 refine aa k1 (.inl rfl) ?_
 simp
 refine ac (fun c=>?_) (fun c=>?_) <;> simp at c <;> simp [c]
 refine ac (fun c2=>?_) (fun c2=>?_) <;> simp at c2 <;> simp [c2]
 ·simp [show ¬ a < h by omega,show h=a by omega]
 ·omega
theorem tc (l : Lnk) (s : Sec) (flow : Int) (hv : ap s=true) (hl : 1 <= l.len /\ l.len <= 16777216) (hf : 0 <= flow /\ flow <= 1099511627776) : C 163 [.agg (ay l),.agg (aP s),.int .i64 flow] (.tup [.int .i64 (b9 l s flow).1,.int .i64 (b9 l s flow).2]) []:=by
 obtain ⟨c1,c2,c3,c4⟩:=dM hv
 obtain ⟨l1,l2⟩:=bk c1
 obtain ⟨m,hm⟩ : ∃ m,m + 1=s.conv.length:=⟨s.conv.length - 1,by omega⟩
 have hml : m < s.conv.length:=by omega
 have e1 : IntKind.wrap .i64 ((s.conv.length : Int) - 1)=(m : Int):=wrap_i64 (by omega) (by omega)
 obtain ⟨k,hk⟩ : ∃ k : Nat,(cZ s.conv).2=k:=⟨(cZ s.conv).2.toNat,by omega⟩
 obtain ⟨f,rfl⟩ : ∃ f : Nat,flow=f:=⟨flow.toNat,by omega⟩
 obtain ⟨n,hn⟩ : ∃ n : Nat,l.len=n:=⟨l.len.toNat,by omega⟩
 have hk' : s.conv[m].2=k:=by rw [<- hk,bZ hm]
 obtain ⟨r,hr⟩ : ∃ r,r=b9 l s f:=⟨_,rfl⟩
 rw [<- hr]
 rw [b9,hk,hn] at hr
 simp only [x1D] at hr
 unfold fo at hr
 have g1 : f * f * n <= 1298074214633706907132624082305024:=ze (by omega) (by omega)
 have g2 : f * f <= 1208925819614629174706176:=x0O (show f <= 1099511627776 by omega) (show f <= 1099511627776 by omega)
 have k1:=sd hC f n (by omega) (by omega) (by omega) (by omega)
 obtain ⟨F,hF⟩ : ∃ F,F=f * f * n:=⟨_,rfl⟩
 obtain ⟨a,ha⟩ : ∃ a,a=F / 18446744073709551616:=⟨_,rfl⟩
 obtain ⟨b,hb⟩ : ∃ b,b=F % 18446744073709551616:=⟨_,rfl⟩
 rw [<- hF,<- ha,<- hb] at k1
 have hab : a * 18446744073709551616 + b=F:=by omega
 have k2:=fun (i : Nat) (hi : i <= 1073741824)=>xp hC k i a b (by omega) hi (by omega)
 have hen : ∀ i,decide (a * 18446744073709551616 + b <= k * k * i)=ca k f n i:=fun i=>by rw [ca,hab,hF]
 simp only [hen] at k2
 clear g1 g2 hF ha hb hab hen
 refine ai hC (nf:=N163) rfl rfl ?_
 simp [N163,ay,aP]
 refine ac (fun c=>?_) (fun c=>?_) <;> simp at c <;> simp [c]
 ·rw [if_pos (by omega)] at hr
  simp [hr]
 rw [if_neg (by omega)] at hr
 simp [e1,hml,knD,hk']
 refine ac (fun c5=>?_) (fun c5=>?_) <;> simp at c5 <;> simp [c5]
 ·rw [if_pos (by omega)] at hr
  simp [hr]
 rw [if_neg (by omega)] at hr
 simp [hn]
 refine aa k1 (.inl rfl) ?_
 simp
 have k3:=k2 1073741824 (by omega)
 rw [show ((1073741824 : Nat) : Int)=1073741824 from rfl] at k3
 refine aa k3 (.inl rfl) ?_
 cases h3 : ca k f n 1073741824
 ·rw [if_neg (by simp [h3])] at hr
  simp [hr]
 rw [if_pos h3] at hr
 simp
 obtain ⟨L,hL⟩ : ∃ L,L=bis (ca k f n) 40 0 1073741824:=⟨_,rfl⟩
 rw [<- hL] at hr
 refine au (Nat × Nat × Nat) (fun z=>[(11,.fnx 167 [.adr (.r 10128) 0 0,.adr (.r 10144) 0 0,.adr (.r 10160) 0 0]),(12,.int .i64 z.2.1),(13,.int .i64 z.2.2),(10128,.blk 1 [[.int .i64 k]]),(10144,.blk 1 [[.int .u64 a]]),(10160,.blk 1 [[.int .u64 b]])])
  (fun z=>z.2.1 <= z.2.2 /\ z.2.2 <= 1073741824 /\ z.2.2 - z.2.1 < 2 ^ z.1 /\ bis (ca k f n) z.1 z.2.1 z.2.2=L) (fun z=>z.2.2 - z.2.1) (40,0,1073741824) ⟨by simp,by simp,by simp,by rw [hL]⟩ (by simp) ?_
 rintro ⟨fu,lo,hi⟩ ⟨i1,i2,i3,i4⟩
 simp only at i1 i2 i3 i4
 simp
 refine ac (fun c=>?_) (fun c=>?_) <;> simp at c <;> simp [c]
 ·obtain ⟨f',_,j2,j3,j4⟩:=na (p:=ca k f n) c i3
  obtain ⟨sm,hsm⟩ : ∃ sm,sm=lo + hi:=⟨_,rfl⟩
  rw [<- hsm] at j2 j3 j4
  obtain ⟨m,hm⟩ : ∃ m,m=sm / 2:=⟨_,rfl⟩
  rw [<- hm] at j2 j3 j4
  have e2 : IntKind.wrap .i64 ((lo : Int) + (hi : Int))=(sm : Int):=wrap_i64 (by omega) (by omega)
  have e3 : Int.tdiv (sm : Int) 2=(m : Int):=by rw [hm];exact ou sm 2
  have e4 : IntKind.wrap .i64 (m : Int)=(m : Int):=wrap_i64 rfl (by omega)
  have e5 : IntKind.wrap .i64 ((m : Int) + 1)=((m + 1 : Nat) : Int):=wrap_i64 (by omega) (by omega)
  rw [i4] at j4
  simp [e2,e3,e4]
  refine aa (k2 m (by omega)) (.inl rfl) ?_
  cases h4 : ca k f n m
  ·rw [if_neg (by simp [h4])] at j4
   simp [e5]
   exact ⟨f',m + 1,hi,⟨by omega,by omega,j3,j4.symm⟩,by omega,by omega,by omega⟩
  ·rw [if_pos h4] at j4
   simp
   exact ⟨f',lo,m,⟨by omega,by omega,j2,j4.symm⟩,by omega,by omega,by omega⟩
 ·rw [mN _ _ _ _ c] at i4
  subst i4
  simp [hr]
end Go.Gv

namespace Go.Gv
def ng (x b : Nat) : Nat:=if x % b=0 then x / b else x / b + 1
def nC (k f n : Nat) : Int × Int:=if f=0 then (0,0) else if k=0 then (0,16) else if 1073741824 < ng (f * f * n) (k * k) then (0,5) else (ng (f * f * n) (k * k),0)
def gX (l : Lnk) (s : Sec) (flow : Int) : Int × Int:=nC (cZ s.conv).2.toNat flow.toNat l.len.toNat
variable {C : CC} (hC : aw prog C)
include hC
theorem yL (x n : Nat) (hn : n < 18446744073709551616) (hx : x < 340282366920938463463374607431768211456) (hxk : x * n < 340282366920938463463374607431768211456) : C 195 [bq x,.int .u64 n] (bq (x * n)) []:=by
 have e:=p9 (x:=x) (k:=n)
 obtain ⟨h,hh⟩ : ∃ h,h=x / 18446744073709551616:=⟨_,rfl⟩
 obtain ⟨l,hl⟩ : ∃ l,l=x % 18446744073709551616:=⟨_,rfl⟩
 have hh' : h < 18446744073709551616:=by omega
 have hl' : l < 18446744073709551616:=by omega
 rw [<- hh,<- hl] at e
 have k2:=nQ hC l n hl' hn
 rw [bq] at k2
 obtain ⟨p,hp⟩ : ∃ p,p=l * n / 18446744073709551616:=⟨_,rfl⟩
 obtain ⟨r,hr⟩ : ∃ r,r=l * n % 18446744073709551616:=⟨_,rfl⟩
 rw [<- hp,<- hr] at e k2
 have hq' : r < 18446744073709551616:=by omega
 obtain ⟨z,hz⟩ : ∃ z,z=h * n:=⟨_,rfl⟩
 obtain ⟨y,hy⟩ : ∃ y,y=x * n:=⟨_,rfl⟩
 rw [<- hz,<- hy] at e
 rw [<- hy] at hxk ⊢
 obtain ⟨t,ht⟩ : ∃ t,t=z + p:=⟨_,rfl⟩
 rw [<- ht] at e
 have e1 : y / 18446744073709551616=t:=by omega
 have e2 : y % 18446744073709551616=r:=by omega
 have ht' : t < 18446744073709551616:=by omega
 have et : IntKind.u64.wrap ((p : Int) + IntKind.u64.wrap ((h : Int) * (n : Int)))=(t : Int):=by
  rw [p8 h n,<- hz,ft,ft]
  clear hxk hx e e1 e2 hr hp hl hh hy hz
  omega
 rw [bq,bq,e1,e2,<- hh,<- hl]
 clear e1 e2 e hh hl hx hxk hp hr hz hy ht
 refine ai hC (nf:=N195) rfl rfl ?_
 simp [N195]
 refine aa k2 (.inr rfl) ?_
 simp [et]
theorem yq (q : Nat) (h : q + 1 < 340282366920938463463374607431768211456) : C 83 [bq q,.agg [.int .u64 0,.int .u64 1]] (bq (q + 1)) []:=by
 obtain ⟨qh,hqh⟩ : ∃ z,z=q / 18446744073709551616:=⟨_,rfl⟩
 obtain ⟨ql,hql⟩ : ∃ z,z=q % 18446744073709551616:=⟨_,rfl⟩
 obtain ⟨rh,hrh⟩ : ∃ z,z=(q + 1) / 18446744073709551616:=⟨_,rfl⟩
 obtain ⟨rl,hrl⟩ : ∃ z,z=(q + 1) % 18446744073709551616:=⟨_,rfl⟩
 rw [bq,bq,<- hqh,<- hql,<- hrh,<- hrl]
 have w1 : IntKind.u64.wrap ((ql : Int) + 1)=(rl : Int):=uw (by omega) (by omega)
 have w2 : IntKind.u64.wrap (qh : Int)=(qh : Int):=bu qh (by omega)
 have w3 : rl < ql -> IntKind.u64.wrap ((qh : Int) + 1)=(rh : Int):=fun h=>uw (by omega) (by omega)
 have w4 : ¬ rl < ql -> qh=rh:=fun h=>by omega
 refine ai hC (nf:=N83) rfl rfl ?_
 simp [N83,w1,w2]
 refine ac (fun c=>?_) (fun c=>?_) <;> simp at c <;> simp [c]
 ·exact w3 c
 ·rw [w4 (by omega)]
theorem xT (l : Lnk) (s : Sec) (flow : Int) (hv : ap s=true) (hl : 1 <= l.len /\ l.len <= 16777216) (hf : 0 <= flow /\ flow <= 1099511627776) : C 191 [.agg (ay l),.agg (aP s),.int .i64 flow] (.tup [.int .i64 (gX l s flow).1,.int .i64 (gX l s flow).2]) []:=by
 obtain ⟨c1,c2,c3,c4⟩:=dM hv
 obtain ⟨l1,l2⟩:=bk c1
 obtain ⟨m,hm⟩ : ∃ m,m + 1=s.conv.length:=⟨s.conv.length - 1,by omega⟩
 have hml : m < s.conv.length:=by omega
 have e1 : IntKind.wrap .i64 ((s.conv.length : Int) - 1)=(m : Int):=wrap_i64 (by omega) (by omega)
 obtain ⟨k,hk⟩ : ∃ k : Nat,(cZ s.conv).2=k:=⟨(cZ s.conv).2.toNat,by omega⟩
 obtain ⟨f,rfl⟩ : ∃ f : Nat,flow=f:=⟨flow.toNat,by omega⟩
 obtain ⟨n,hn⟩ : ∃ n : Nat,l.len=n:=⟨l.len.toNat,by omega⟩
 have hk' : s.conv[m].2=k:=by rw [<- hk,bZ hm]
 obtain ⟨r,hr⟩ : ∃ r,r=gX l s f:=⟨_,rfl⟩
 rw [<- hr]
 rw [gX,hk,hn] at hr
 simp only [x1D] at hr
 unfold nC at hr
 have g1 : f * f * n <= 1298074214633706907132624082305024:=ze (by omega) (by omega)
 have g2 : f * f <= 1208925819614629174706176:=x0O (show f <= 1099511627776 by omega) (show f <= 1099511627776 by omega)
 have g3 : k * k <= 1208925819614629174706176:=x0O (show k <= 1099511627776 by omega) (show k <= 1099511627776 by omega)
 have wf : IntKind.u64.wrap (f : Int)=(f : Int):=bu f (by omega)
 have wn : IntKind.u64.wrap (n : Int)=(n : Int):=bu n (by omega)
 have wk : IntKind.u64.wrap (k : Int)=(k : Int):=bu k (by omega)
 have k1:=nQ hC f f (by omega) (by omega)
 have k2:=yL hC (f * f) n (by omega) (by omega) (by omega)
 have k3:=nQ hC k k (by omega) (by omega)
 obtain ⟨a1,a2,e2⟩ : ∃ a b : Int,bq (f * f)=.agg [.int .u64 a,.int .u64 b]:=⟨_,_,rfl⟩
 obtain ⟨b1,b2,e3⟩ : ∃ a b : Int,bq (f * f * n)=.agg [.int .u64 a,.int .u64 b]:=⟨_,_,rfl⟩
 obtain ⟨d1,d2,e4⟩ : ∃ a b : Int,bq (k * k)=.agg [.int .u64 a,.int .u64 b]:=⟨_,_,rfl⟩
 refine ai hC (nf:=N191) rfl rfl ?_
 simp [N191,ay,aP]
 refine ac (fun c=>?_) (fun c=>?_) <;> simp at c <;> simp [c]
 ·rw [if_pos (by omega)] at hr
  simp [hr]
 rw [if_neg (by omega)] at hr
 simp [e1,hml,knD,hk']
 refine ac (fun c5=>?_) (fun c5=>?_) <;> simp at c5 <;> simp [c5]
 ·rw [if_pos (by omega)] at hr
  simp [hr]
 rw [if_neg (by omega)] at hr
 have hkk : 0 < k * k:=Nat.mul_pos (by omega) (by omega)
 have k4 : C 82 [bq (f * f * n),bq (k * k)] (.tup [bq (f * f * n / (k * k)),bq (f * f * n % (k * k))]) []:=Bl hC (f * f * n) (k * k) (by omega) hkk (by omega)
 obtain ⟨X,hX⟩ : ∃ X,X=f * f * n:=⟨_,rfl⟩
 obtain ⟨K,hK⟩ : ∃ K,K=k * k:=⟨_,rfl⟩
 rw [<- hX] at g1 k2 k4 e3 hr
 rw [<- hK] at g3 k3 k4 e4 hr hkk
 have hq:=Nat.div_le_self X K
 have hz:=x1b X hkk
 have k5:=yq hC (X / K) (by omega)
 unfold ng at hr
 obtain ⟨Q,hQ⟩ : ∃ Q,Q=X / K:=⟨_,rfl⟩
 obtain ⟨Z,hZ⟩ : ∃ Z,Z=X % K:=⟨_,rfl⟩
 rw [<- hQ] at k4 k5 hr hq
 rw [<- hZ] at k4 hr hz
 rw [e2] at k1 k2
 rw [e3] at k2 k4
 rw [e4] at k3 k4
 obtain ⟨qh,hqh⟩ : ∃ z,z=Q / 18446744073709551616:=⟨_,rfl⟩
 obtain ⟨ql,hql⟩ : ∃ z,z=Q % 18446744073709551616:=⟨_,rfl⟩
 obtain ⟨rh,hrh⟩ : ∃ z,z=(Q + 1) / 18446744073709551616:=⟨_,rfl⟩
 obtain ⟨rl,hrl⟩ : ∃ z,z=(Q + 1) % 18446744073709551616:=⟨_,rfl⟩
 obtain ⟨zh,hzh⟩ : ∃ z,z=Z / 18446744073709551616:=⟨_,rfl⟩
 obtain ⟨zl,hzl⟩ : ∃ z,z=Z % 18446744073709551616:=⟨_,rfl⟩
 simp only [bq] at k4 k5
 rw [<- hqh,<- hql,<- hzh,<- hzl] at k4
 rw [<- hqh,<- hql,<- hrh,<- hrl] at k5
 clear hX hK hQ e2 e3 e4 c1 c2 c3 c4 hk
 simp [wf,hn,wn]
 refine aa k1 (.inr rfl) ?_
 simp [wf,hn,wn]
 refine aa k2 (.inr rfl) ?_
 simp [wk]
 refine ⟨am (by decide +kernel),?_⟩
 refine aa k3 (.inr rfl) ?_
 simp
 refine aa k4 (.inr rfl) ?_
 simp
 refine ⟨am (by decide +kernel),?_⟩
 have z0 : (zh=0 /\ zl=0) ↔ Z=0:=by omega
 refine ac (fun c6=>?_) (fun c6=>?_) <;> simp at c6 <;> simp [c6]
 ·have hz0 : ¬ Z=0:=fun e=>by have:=z0.2 e;rcases c6 with h | h <;> omega
  rw [if_neg hz0] at hr
  refine aa k5 (.inr rfl) ?_
  simp
  refine ac (fun c7=>?_) (fun c7=>?_) <;> simp at c7 <;> simp [c7]
  ·rw [if_pos (by omega)] at hr
   simp [hr]
  refine ac (fun c8=>?_) (fun c8=>?_) <;> simp at c8 <;> simp [c8]
  ·rw [if_pos (by omega)] at hr
   simp [hr]
  ·rw [if_neg (by omega)] at hr
   have w : IntKind.i64.wrap (rl : Int)=((Q + 1 : Nat) : Int):=wrap_i64 (by omega) (by omega)
   simp [hr,w]
 ·have hz0 : Z=0:=z0.1 (by omega)
  rw [if_pos hz0] at hr
  refine ac (fun c7=>?_) (fun c7=>?_) <;> simp at c7 <;> simp [c7]
  ·rw [if_pos (by omega)] at hr
   simp [hr]
  refine ac (fun c8=>?_) (fun c8=>?_) <;> simp at c8 <;> simp [c8]
  ·rw [if_pos (by omega)] at hr
   simp [hr]
  ·rw [if_neg (by omega)] at hr
   have w : IntKind.i64.wrap (ql : Int)=(Q : Int):=wrap_i64 (by omega) (by omega)
   simp [hr,w]
end Go.Gv

namespace Go.Gv
variable {C : CC} (hC : aw prog C)
include hC
theorem yj (c : Int) : C 78 [.int .u8 c] (.bool (iw c)) []:=by
 refine ai hC (nf:=N78) rfl rfl ?_
 simp [N78,iw]
 refine ac (fun h=>?_) (fun h=>?_) <;> simp at h <;> simp [h] <;> omega
theorem pq (c : Int) : C 62 [.int .u8 c] (.bool (dS c)) []:=by
 refine ai hC (nf:=N62) rfl rfl ?_
 simp [N62,dS]
 repeat' (refine ac (fun h=>?_) (fun h=>?_) <;> simp at h <;> simp [h] <;> try omega)
theorem Bz (s : List UInt8) (hs : s.length < 2 ^ 62) : C 63 [.str s,.int .i64 0] (.int .i64 (cb s)) []:=by
 refine ai hC (nf:=N63) rfl rfl ?_
 simp [N63]
 refine au Nat (fun i=>[(0,.str s),(1,.int .i64 i)]) (fun i=>i <= cb s) (fun i=>cb s - i) 0 (by simp) (by simp) ?_
 intro i hi
 have hle : cb s <= s.length:=ow s
 by_cases hl : i < s.length
 ·simp [hl]
  refine aa (pq hC _) (.inl rfl) ?_
  have hstep : dT s[i]=true -> i + 1 <= cb s:=lq hl hi
  have hstop : dT s[i]=false -> i=cb s:=lr hl hi
  simp only [dT] at hstep hstop
  have hw : IntKind.wrap .i64 ((i : Int) + 1)=((i + 1 : Nat) : Int):=wrap_i64 (by omega) (by omega)
  cases h1 : dS s[i].toNat with
  | true =>
   simp [h1,hw] at hstep ⊢
   exact ⟨i + 1,by omega,by omega,rfl⟩
  | false =>
   simp [h1,hl]
   refine aa (yj hC _) (.inl rfl) ?_
   cases h2 : iw s[i].toNat with
   | true =>
    simp [h1,h2,hw] at hstep ⊢
    exact ⟨i + 1,by omega,by omega,rfl⟩
   | false =>
    simp [hl]
    refine ac (fun h3=>?_) (fun h3=>?_) <;> simp at h3
    ·simp [hw,hl]
     have:=hstep (by simp [show s[i].toNat=95 by omega])
     exact ⟨i + 1,this,by omega,rfl⟩
    ·have h4 : ¬ s[i].toNat=95:=by omega
     simp [h1,h2,h4] at hstop ⊢
     omega
 ·simp [hl]
  have : i=cb s:=by omega
  omega
theorem fQ (s : List UInt8) : C 54 [.str s] (.bool (bz s)) []:=by
 refine ai hC (nf:=N54) rfl rfl ?_
 simp [N54]
 refine ac (fun h=>?_) (fun h=>?_) <;> simp at h
 ·subst h
  simp [bz]
 ·have hp : 0 < s.length:=List.length_pos_iff.2 h
  simp [h,hp]
  refine ac (fun h2=>?_) (fun h2=>?_) <;> simp at h2
  ·simp [h2,bz]
   omega
  ·simp [h2,hp]
   refine aa (pq hC _) (.inl rfl) ?_
   simp
   cases h3 : dS s[0].toNat
   ·simp [h3,bz,h,hp]
   ·simp [h3,h2]
    refine aa (Bz hC s (by omega)) (.inl rfl) ?_
    simp [bz,h,h3,show s.length <= 20 by omega,hp,Int.ofNat_inj]
    rw [x0x];simp
theorem pt (n : Int) : C 79 [.int .i64 n] (.bool (fg n)) []:=by
 refine ai hC (nf:=N79) rfl rfl ?_
 simp [N79,fg]
 refine ac (fun h=>?_) (fun h=>?_) <;> simp at h <;> simp [h] <;> omega
theorem nR (b : Bool) (t : List (Int × Int)) : C 64 [slx b (t.map knD)] (.bool (aq t)) []:=by
 refine ai hC (nf:=N64) rfl rfl ?_
 simp [N64]
 refine ac (fun h=>?_) (fun h=>?_) <;> simp at h
 ·simp [aq,show t.length=0 by omega]
 simp [h]
 refine ac (fun h2=>?_) (fun h2=>?_) <;> simp at h2
 ·simp [aq,h,h2]
  omega
 simp
 refine au Nat (fun i=>[(0,slx b (t.map knD)),(3,.int .i64 i)]) (fun i=>i <= t.length /\ ∀ j < i,kT t j=true) (fun i=>t.length - i) 0 (by simp) (by simp) ?_
 rintro i ⟨hi,hj⟩
 simp
 refine ac (fun h3=>?_) (fun h3=>?_) <;> simp at h3
 ·have bad : kT t i=false -> aq t=false:=fun hb=>by
   simp only [aq,x08,x1E]
   exact .inr ⟨i,by simpa using h3,by simp [hb]⟩
  have e1 : t[i]! = t[i]:=x0f t i h3
  have e2 : t[i - 1]! = t[i - 1]:=x0f t (i - 1) (by omega)
  simp only [kT,e1,e2] at bad
  have hw1 : IntKind.wrap .i64 ((i : Int) + 1)=((i + 1 : Nat) : Int):=wrap_i64 (by omega) (by omega)
  have next : kT t i=true -> ∃ s' : Nat,(s' <= t.length /\ ∀ j < s',kT t j=true) /\ t.length - s' < t.length - i /\ s'=i + 1:=fun ho =>
   ⟨i + 1,⟨by omega,fun j hjj=>by
    rcases x0i.1 hjj with h | rfl
    ·exact hj j h
    ·exact ho⟩,by omega,rfl⟩
  simp only [kT,e1,e2] at next
  simp [h3,knD]
  refine aa (pt hC _) (.inl rfl) ?_
  cases f1 : fg t[i].1
  ·simp
   exact bad (by simp [f1])
  simp [h3,knD]
  refine aa (pt hC _) (.inl rfl) ?_
  cases f2 : fg t[i].2
  ·simp
   exact bad (by simp [f2])
  simp [h3,knD]
  refine ac (fun h4=>?_) (fun h4=>?_) <;> simp at h4
  ·have hw : IntKind.wrap .i64 ((i : Int) - 1)=((i - 1 : Nat) : Int):=wrap_i64 (by omega) (by omega)
   have h5 : i - 1 < t.length:=by omega
   simp [h4,hw,h5,h3,knD]
   refine ac (fun h6=>?_) (fun h6=>?_) <;> simp [h6,hw,h5,h3,knD] <;> simp at h6
   ·refine ⟨am (by decide +kernel),bad ?_⟩
    simp [f1,f2]
    omega
   ·refine ⟨am (by decide +kernel),?_⟩
    refine ac (fun h7=>?_) (fun h7=>?_) <;> simp [h7,hw1] <;> simp at h7
    ·refine bad ?_
     simp [f1,f2]
     omega
    ·obtain ⟨s',g1,g2,rfl⟩:=next (by simp [f1,f2,h6,h7])
     exact ⟨_,g1,g2,rfl⟩
  ·have hi0 : i=0:=by omega
   subst hi0
   simp at hw1
   simp [hw1]
   refine ⟨am (by decide +kernel),?_⟩
   obtain ⟨s',g1,g2,rfl⟩:=next (by simp [f1,f2])
   exact ⟨_,g1,g2,rfl⟩
 ·have : i=t.length:=by omega
  subst this
  simp [aq,h,h2]
  exact ⟨⟨by omega,by omega⟩,hj⟩
end Go.Gv

namespace Go.Gv
def j5 (l : List (Int × Int)) : Bool:=aq l && decide (0 <= l[0]!.1) && decide ((cZ l).1 <= 4194304) && decide (0 <= l[0]!.2) && decide ((cZ l).2 <= 1099511627776)
def xL (l : Lnk) : Bool :=
 if l.kind=1 then aG l.len 1 16777216 && bz l.sect && decide (l.width=0) && decide (l.height=0) && decide (l.curve.length=0)
 else if l.kind=2 then decide (l.len=0) && decide (l.down=0) && decide (l.sect=[]) && aG l.width 1 1048576 && decide (l.height=0) && decide (l.curve.length=0)
 else if l.kind=3 then decide (l.len=0) && decide (l.down=0) && decide (l.sect=[]) && aG l.width 1 32768 && aG l.height 1 32768 && decide (l.curve.length=0)
 else if l.kind=4 then decide (l.len=0) && decide (l.down < l.up) && decide (l.sect=[]) && decide (l.width=0) && decide (l.height=0) && j5 l.curve
 else false
def ra (l : Lnk) : Bool:=bz l.name && bz l.src && bz l.dst && !decide (l.src=l.dst) && bj l.up && bj l.down && xL l
variable {C : CC} (hC : aw prog C)
include hC
theorem la (n : Int) : C 199 [.int .i64 n] (.bool (bj n)) []:=by
 refine ai hC (nf:=N199) rfl rfl ?_
 simp [N199,bj]
 refine ac (fun h=>?_) (fun h=>?_) <;> simp at h <;> simp [h] <;> omega
theorem jF (n a : Int) : C 200 [.int .i64 n,.int .i64 a] (.bool (aG n 1 a)) []:=by
 refine ai hC (nf:=N200) rfl rfl ?_
 simp [N200,aG]
 refine ac (fun h=>?_) (fun h=>?_) <;> simp at h <;> simp [h] <;> omega
theorem yg (b : Bool) (t : List (Int × Int)) : C 201 [slx b (t.map knD)] (.bool (j5 t)) []:=by
 refine ai hC (nf:=N201) rfl rfl ?_
 simp [N201]
 refine aa (nR hC b t) (.inl rfl) ?_
 cases hv : aq t
 ·simp [j5,hv]
 obtain ⟨l1,l2⟩:=bk hv
 obtain ⟨n,hn⟩ : ∃ n,n + 1=t.length:=⟨t.length - 1,by omega⟩
 have e1 : IntKind.wrap .i64 ((t.length : Int) - 1)=(n : Int):=wrap_i64 (by omega) (by omega)
 have hnl : n < t.length:=by omega
 have h0 : 0 < t.length:=by omega
 have e0 : t[0]! = t[0]:=x0f t 0 h0
 rw [j5,hv,e0,bZ hn]
 simp [h0,knD]
 refine ac (fun c1=>?_) (fun c1=>?_) <;> simp at c1 <;> simp [c1,e1,hnl,knD,h0]
 ·refine ac (fun c2=>?_) (fun c2=>?_) <;> simp at c2 <;> simp [c2,e1,hnl,knD,h0]
  ·refine ac (fun c3=>?_) (fun c3=>?_) <;> simp at c3 <;> simp [c3,e1,hnl,knD,h0]
   ·omega
   ·intro _ _ _;omega
  ·omega
 ·omega
theorem A4 (l : Lnk) : C 194 [.agg (ay l)] (.bool (ra l)) []:=by
 have k1:=fQ hC l.name
 have k2:=fQ hC l.src
 have k3:=fQ hC l.dst
 have k4:=la hC l.up
 have k5:=la hC l.down
 have k6:=fQ hC l.sect
 obtain ⟨r,hr⟩ : ∃ r,r=ra l:=⟨_,rfl⟩
 rw [<- hr]
 unfold ra at hr
 refine ai hC (nf:=N194) rfl rfl ?_
 simp [N194,ay]
 refine aa k1 (.inl rfl) ?_
 cases h1 : bz l.name
 ·simp [hr,h1]
 simp
 refine aa k2 (.inl rfl) ?_
 cases h2 : bz l.src
 ·simp [hr,h2]
 simp
 refine aa k3 (.inl rfl) ?_
 cases h3 : bz l.dst
 ·simp [hr,h3]
 simp
 refine ac (fun h4=>?_) (fun h4=>?_) <;> simp at h4 <;> simp [h4]
 ·simp [hr,h4]
 refine aa k4 (.inl rfl) ?_
 cases h5 : bj l.up
 ·simp [hr,h5]
 simp
 refine aa k5 (.inl rfl) ?_
 cases h6 : bj l.down
 ·simp [hr,h6]
 simp
 rw [h1,h2,h3,decide_eq_false h4,h5,h6] at hr
 simp only [x0Z,Bool.not_false] at hr
 unfold xL at hr
 clear k1 k2 k3 k4 k5 h1 h2 h3 h4 h5 h6
 refine ac (fun h7=>?_) (fun h7=>?_) <;> simp at h7 <;> simp [h7]
 ·rw [if_pos h7] at hr
  refine aa (jF hC l.len 16777216) (.inl rfl) ?_
  cases a1 : aG l.len 1 16777216
  ·simp [hr,a1]
  simp
  refine aa k6 (.inl rfl) ?_
  cases a2 : bz l.sect
  ·simp [hr,a2]
  simp
  refine ac (fun a3=>?_) (fun a3=>?_) <;> simp at a3 <;> simp [a3]
  rotate_left
  ·simp [hr,a3]
  refine ac (fun a4=>?_) (fun a4=>?_) <;> simp at a4 <;> simp [a4]
  rotate_left
  ·simp [hr,a4]
  simp [hr,a1,a2,a3,a4]
 rw [if_neg h7] at hr
 refine ac (fun h8=>?_) (fun h8=>?_) <;> simp at h8 <;> simp [h8]
 ·rw [if_pos h8] at hr
  refine ac (fun a1=>?_) (fun a1=>?_) <;> simp at a1 <;> simp [a1]
  rotate_left
  ·simp [hr,a1]
  refine ac (fun a2=>?_) (fun a2=>?_) <;> simp at a2 <;> simp [a2]
  rotate_left
  ·simp [hr,a2]
  refine ac (fun a3=>?_) (fun a3=>?_) <;> simp at a3 <;> simp [a3]
  rotate_left
  ·simp [hr,a3]
  refine aa (jF hC l.width 1048576) (.inl rfl) ?_
  cases a4 : aG l.width 1 1048576
  ·simp [hr,a4]
  simp
  refine ac (fun a5=>?_) (fun a5=>?_) <;> simp at a5 <;> simp [a5]
  rotate_left
  ·simp [hr,a5]
  simp [hr,a1,a2,a3,a4,a5]
 rw [if_neg h8] at hr
 refine ac (fun h9=>?_) (fun h9=>?_) <;> simp at h9 <;> simp [h9]
 ·rw [if_pos h9] at hr
  refine ac (fun a1=>?_) (fun a1=>?_) <;> simp at a1 <;> simp [a1]
  rotate_left
  ·simp [hr,a1]
  refine ac (fun a2=>?_) (fun a2=>?_) <;> simp at a2 <;> simp [a2]
  rotate_left
  ·simp [hr,a2]
  refine ac (fun a3=>?_) (fun a3=>?_) <;> simp at a3 <;> simp [a3]
  rotate_left
  ·simp [hr,a3]
  refine aa (jF hC l.width 32768) (.inl rfl) ?_
  cases a4 : aG l.width 1 32768
  ·simp [hr,a4]
  simp
  refine aa (jF hC l.height 32768) (.inl rfl) ?_
  cases a5 : aG l.height 1 32768
  ·simp [hr,a5]
  simp [hr,a1,a2,a3,a4,a5]
 rw [if_neg h9] at hr
 refine ac (fun h10=>?_) (fun h10=>?_) <;> simp at h10 <;> simp [h10]
 ·rw [if_pos h10] at hr
  refine ac (fun a1=>?_) (fun a1=>?_) <;> simp at a1 <;> simp [a1]
  rotate_left
  ·simp [hr,a1]
  refine ac (fun a2=>?_) (fun a2=>?_) <;> simp at a2 <;> simp [a2]
  rotate_left
  ·simp [hr,show ¬ l.down < l.up by omega]
  refine ac (fun a3=>?_) (fun a3=>?_) <;> simp at a3 <;> simp [a3]
  rotate_left
  ·simp [hr,a3]
  refine ac (fun a4=>?_) (fun a4=>?_) <;> simp at a4 <;> simp [a4]
  rotate_left
  ·simp [hr,a4]
  refine ac (fun a5=>?_) (fun a5=>?_) <;> simp at a5 <;> simp [a5]
  rotate_left
  ·simp [hr,a5]
  refine aa (yg hC l.curveN l.curve) (.inl rfl) ?_
  simp [hr,a1,a2,a3,a4,a5]
 ·rw [if_neg h10] at hr
  simp [hr]
end Go.Gv

namespace Go.Gv
theorem rU : ∀ (i x r : Nat),r + 2 ^ i <= 9223372036854775808 -> ga x i r < 9223372036854775808
 | 0,x,r,h=>by simp only [ga];simp at h;omega
 | i + 1,x,r,h=>by
  rw [iE]
  have:=x1v i
  rw [x1S] at h
  split <;> exact rU i x _ (by omega)
theorem yE (x : Nat) : di x < 9223372036854775808:=rU 63 x 0 (by decide)
variable {C : CC} (hC : aw prog C)
include hC
theorem ul (x b : Nat) (hx : x < 340282366920938463463374607431768211456) (hb0 : 0 < b) (hb : b < 9223372036854775808) : C 66 [.agg [.int .u64 ((x / 18446744073709551616 : Nat) : Int),.int .u64 ((x % 18446744073709551616 : Nat) : Int),.bool false],.agg [.int .u64 0,.int .u64 b,.bool false]]
  (.agg [.int .u64 ((x / b / 18446744073709551616 : Nat) : Int),.int .u64 ((x / b % 18446744073709551616 : Nat) : Int),.bool false]) []:=by
 have hd:=EP hC x b hx hb0 hb
 obtain ⟨xh,hxh⟩ : ∃ xh,xh=x / 18446744073709551616:=⟨_,rfl⟩
 obtain ⟨xl,hxl⟩ : ∃ xl,xl=x % 18446744073709551616:=⟨_,rfl⟩
 obtain ⟨yh,hyh⟩ : ∃ yh,yh=x / b / 18446744073709551616:=⟨_,rfl⟩
 obtain ⟨yl,hyl⟩ : ∃ yl,yl=x / b % 18446744073709551616:=⟨_,rfl⟩
 obtain ⟨z,hz⟩ : ∃ z,z=x % b:=⟨_,rfl⟩
 rw [<- hxh,<- hxl,<- hyh,<- hyl,<- hz] at hd
 rw [<- hxh,<- hxl,<- hyh,<- hyl]
 refine ai hC (nf:=N66) rfl rfl ?_
 simp [N66]
 refine aa hd (.inr rfl) ?_
 simp
 refine aa (qj hC yh yl) (.inl rfl) ?_
 simp
theorem Bo (x : Nat) : C 69 [.agg [.int .u64 ((x / 18446744073709551616 : Nat) : Int),.int .u64 ((x % 18446744073709551616 : Nat) : Int)]] (.int .u64 (di x)) []:=by
 obtain ⟨h,hh⟩ : ∃ h,h=x / 18446744073709551616:=⟨_,rfl⟩
 obtain ⟨l,hl⟩ : ∃ l,l=x % 18446744073709551616:=⟨_,rfl⟩
 rw [<- hh,<- hl]
 obtain ⟨N,hN⟩ : ∃ N,N=di x:=⟨_,rfl⟩
 rw [<- hN]
 refine ai hC (nf:=N69) rfl rfl ?_
 simp [N69]
 refine au (Nat × Nat) (fun s=>[(1,.ptr [.int .u64 (h : Int),.int .u64 (l : Int)]),(3,.int .u64 s.2),(4,.int .i64 ((63 - s.1 : Nat) : Int))])
  (fun s=>s.1 <= 63 /\ s.2 + 2 ^ s.1 <= 9223372036854775808 /\ ga x s.1 s.2=N) (fun s=>s.1) (63,0) ⟨by omega,by decide,by rw [hN];rfl⟩ (by simp) ?_
 rintro ⟨i,r⟩ ⟨h1,h2,h3⟩
 simp only at h1 h2 h3
 simp
 refine ac (fun c=>?_) (fun c=>?_) <;> simp at c <;> simp [c]
 ·obtain ⟨j,rfl⟩ : ∃ j,i=j + 1:=⟨i - 1,by omega⟩
  have e62 : IntKind.i64.wrap (62 - ((62 - j : Nat) : Int))=(j : Int):=wrap_i64 (by omega) (by omega)
  have ej : IntKind.u64.wrap (j : Int)=(j : Int):=bu j (by omega)
  have hw : IntKind.wrap .i64 (((62 - j : Nat) : Int) + 1)=((63 - j : Nat) : Int):=wrap_i64 (by omega) (by omega)
  obtain ⟨V,hV⟩ : ∃ V,V=2 ^ j:=⟨_,rfl⟩
  have hV2 : 2 ^ (j + 1)=2 * V:=by rw [x1S,hV];omega
  rw [hV2] at h2
  have hVp : 0 < V:=by rw [hV];exact x1v j
  have hmin : min j IntKind.u64.bits=j:=Nat.min_eq_left (by show j <= 64;omega)
  have esh : IntKind.u64.wrap (2 ^ j)=(V : Int):=by
   have : (2 : Int) ^ j=((2 ^ j : Nat) : Int):=by push_cast;rfl
   rw [this,<- hV];exact bu V (by omega)
  obtain ⟨y,hy⟩ : ∃ y,y=r + V:=⟨_,rfl⟩
  have ey : IntKind.u64.wrap ((r : Int) + (V : Int))=(y : Int):=uw (.inl (by omega)) (by omega)
  have hm:=nQ hC y y (by omega) (by omega)
  rw [bq] at hm
  obtain ⟨Z,hZ⟩ : ∃ Z,Z=y * y:=⟨_,rfl⟩
  obtain ⟨zh,hzh⟩ : ∃ zh,zh=Z / 18446744073709551616:=⟨_,rfl⟩
  obtain ⟨zl,hzl⟩ : ∃ zl,zl=Z % 18446744073709551616:=⟨_,rfl⟩
  rw [<- hZ,<- hzh,<- hzl] at hm
  have hls:=qi hC h l zh zl
  have hcmp : (h < zh \/ (h=zh /\ l < zl)) ↔ x < Z:=by
   rw [hh,hl,hzh,hzl];omega
  have hdc : decide (h < zh \/ (h=zh /\ l < zl))=decide (x < Z):=decide_eq_decide.2 hcmp
  rw [hdc] at hls
  rw [iE,<- hV,<- hy,<- hZ] at h3
  simp [e62,ej,hmin,esh,ey]
  refine aa hm (.inl rfl) ?_
  simp
  refine aa hls (.inl rfl) ?_
  simp
  refine ⟨am (by decide +kernel),?_⟩
  by_cases d : x < Z
  ·simp [d,hw]
   rw [if_neg (show ¬ Z <= x by omega)] at h3
   exact ⟨j,r,⟨by omega,by rw [<- hV];omega,h3⟩,by omega,rfl,rfl⟩
  ·simp [d,hw]
   rw [if_pos (show Z <= x by omega)] at h3
   exact ⟨j,y,⟨by omega,by rw [<- hV];omega,h3⟩,by omega,rfl,rfl⟩
 ·obtain rfl : i=0:=by omega
  have h4 : r=N:=h3
  rw [h4]
theorem yt (a b n : Nat) (ha : a < 9223372036854775808) (hb : b < 9223372036854775808) (hn : 0 < n) (hn2 : n < 9223372036854775808) : C 57 [.int .i64 a,.int .i64 b,.int .i64 n] (.int .i64 (di (a * b / n))) []:=by
 have hab : a * b < 340282366920938463463374607431768211456:=by
  have : a * b <= 9223372036854775808 * 9223372036854775808:=x0O (by omega) (by omega)
  omega
 have h1:=rL hC a b ha hb
 have h2:=ul hC (a * b) n hab hn hn2
 have h3:=Bo hC (a * b / n)
 have h4:=yE (a * b / n)
 obtain ⟨P,hP⟩ : ∃ P,P=a * b:=⟨_,rfl⟩
 rw [<- hP] at h1 h2 h3 h4 ⊢
 obtain ⟨p,hp⟩ : ∃ p,p=P / 18446744073709551616:=⟨_,rfl⟩
 obtain ⟨q,hq⟩ : ∃ q,q=P % 18446744073709551616:=⟨_,rfl⟩
 rw [<- hp,<- hq] at h1 h2
 obtain ⟨Q,hQ⟩ : ∃ Q,Q=P / n:=⟨_,rfl⟩
 rw [<- hQ] at h2 h3 h4 ⊢
 obtain ⟨u,hu⟩ : ∃ u,u=Q / 18446744073709551616:=⟨_,rfl⟩
 obtain ⟨v,hv⟩ : ∃ v,v=Q % 18446744073709551616:=⟨_,rfl⟩
 rw [<- hu,<- hv] at h2 h3
 obtain ⟨N,hN⟩ : ∃ N,N=di Q:=⟨_,rfl⟩
 rw [<- hN] at h3 h4 ⊢
 refine ai hC (nf:=N57) rfl rfl ?_
 have hw : IntKind.i64.wrap (N : Int)=(N : Int):=wrap_i64 rfl (by omega)
 simp [N57]
 refine aa h1 (.inl rfl) ?_
 simp
 refine aa (rI hC n hn2) (.inl rfl) ?_
 simp
 refine aa h2 (.inl rfl) ?_
 simp
 refine aa h3 (.inl rfl) ?_
 simp [hw]
end Go.Gv

namespace Go.Gv
def zK (t : List (Int × Int)) (x : Int) : Int :=
 if aT t (x + 1)=0 then t[0]!.2 else if aT t (x + 1)=t.length then t[aT t (x + 1) - 1]!.2 else (u5 t[aT t (x + 1) - 1]! t[aT t (x + 1)]! x).1
theorem pn {t : List (Int × Int)} (hv : aq t=true) (x : Int) : aT t (x + 1)=if atK t x then aT t x + 1 else aT t x:=by
 have h1:=dX t x
 have h2:=dX t (x + 1)
 cases ha : atK t x
 ·rw [if_neg (by simp)]
  apply Nat.le_antisymm
  ·by_cases hl : aT t x < t.length
   ·have h3:=gr hl
    have e : t[aT t x]! = t[aT t x]:=x0f t _ hl
    simp only [atK,hl,decide_true,x0Z,x0H,e] at ha
    exact eP hl (by omega)
   ·omega
  ·apply x1B
   intro h
   have h4:=gr (t:=t) (x:=x + 1) (by omega)
   have h5:=kY (t:=t) (x:=x) h (by omega)
   omega
 ·rw [if_pos rfl]
  have hl : aT t x < t.length:=by simp [atK] at ha;exact ha.1
  have e : t[aT t x]! = t[aT t x]:=x0f t _ hl
  simp only [atK,hl,decide_true,x0Z,x0b,e] at ha
  apply Nat.le_antisymm
  ·by_cases hl2 : aT t x + 1 < t.length
   ·have:=im hv (aT t x) (aT t x + 1) hl2 (by omega)
    exact eP hl2 (by omega)
   ·omega
  ·have:=kg hv (x:=x + 1) hl (by omega)
   omega
theorem eO {t : List (Int × Int)} {x : Int} (h : atK t x=true \/ aT t x=0) : (bf t x).1=t[aT t x]!.2:=by
 unfold bf;rw [if_pos (by rcases h with h | h <;> simp [h])]
theorem iC {t : List (Int × Int)} {x : Int} (h : ¬ atK t x=true) (h0 : ¬ aT t x=0) (h1 : aT t x=t.length) : (bf t x).1=t[aT t x - 1]!.2:=by
 unfold bf;rw [if_neg (by simp [h,h0]),if_pos h1]
theorem iB {t : List (Int × Int)} {x : Int} (h : ¬ atK t x=true) (h0 : ¬ aT t x=0) (h1 : ¬ aT t x=t.length) : (bf t x).1=(u5 t[aT t x - 1]! t[aT t x]! x).1:=by
 unfold bf;rw [if_neg (by simp [h,h0]),if_neg h1]
theorem Cg {t : List (Int × Int)} (hv : aq t=true) (x : Int) : zK t x=(bf t x).1:=by
 obtain ⟨l1,l2⟩:=bk hv
 have hn:=pn hv x
 unfold zK
 by_cases ha : atK t x=true
 ·rw [if_pos ha] at hn
  rw [eO (.inl ha)]
  have hl : aT t x < t.length:=by simp [atK] at ha;exact ha.1
  have e : t[aT t x]! = t[aT t x]:=x0f t _ hl
  simp only [atK,hl,decide_true,x0Z,x0b,e] at ha
  rw [hn,if_neg (by omega),Nat.add_sub_cancel,e]
  by_cases h1 : aT t x + 1=t.length
  ·rw [if_pos h1]
  ·rw [if_neg h1]
   simp only [u5,ha,Int.sub_self,Int.mul_zero,Int.zero_ediv,Int.add_zero]
 ·rw [if_neg ha] at hn
  rw [hn]
  by_cases h0 : aT t x=0
  ·rw [if_pos h0,eO (.inr h0),h0]
  ·rw [if_neg h0]
   by_cases h1 : aT t x=t.length
   ·rw [if_pos h1,iC ha h0 h1]
   ·rw [if_neg h1,iB ha h0 h1]
variable {C : CC} (hC : aw prog C)
include hC
theorem tm (b : Bool) (t : List (Int × Int)) (x : Int) (hv : aq t=true) : C 80 [slx b (t.map knD),.int .i64 x] (.int .i64 ((aT t (x + 1) : Int) - 1)) []:=by
 obtain ⟨l1,l2⟩:=bk hv
 have hpl:=dX t (x + 1)
 have hlt : ∀ j,(hj : j < t.length) -> t[j].1 <= x -> j < aT t (x + 1):=fun j hj h1=>kg hv hj (by omega)
 have hge : ∀ j,(hj : j < t.length) -> ¬ t[j].1 <= x -> aT t (x + 1) <= j:=fun j hj h1=>eP hj (by omega)
 obtain ⟨p,hp⟩ : ∃ p,p=aT t (x + 1):=⟨_,rfl⟩
 rw [<- hp] at hpl ⊢
 simp only [<- hp] at hlt hge
 refine ai hC (nf:=N80) rfl rfl ?_
 simp [N80]
 refine au Nat (fun i=>[(0,slx b (t.map knD)),(1,.int .i64 x),(5,.int .i64 (((if i <= p then i else p : Nat) : Int) - 1)),(6,.int .i64 i)]) (fun i=>i <= t.length) (fun i=>t.length - i) 0 (by simp) (by simp) ?_
 rintro i hi
 simp
 refine ac (fun h1=>?_) (fun h1=>?_) <;> simp at h1 <;> simp [h1]
 ·have hw : IntKind.wrap .i64 ((i : Int) + 1)=((i + 1 : Nat) : Int):=wrap_i64 (by omega) (by omega)
  simp [h1,knD]
  refine ac (fun h2=>?_) (fun h2=>?_) <;> simp at h2 <;> simp [h2,hw]
  ·have:=hlt i h1 h2
   exact ⟨i + 1,by omega,by omega,by rw [if_pos (by omega)];omega,by omega⟩
  ·have:=hge i h1 (by omega)
   refine ⟨i + 1,by omega,by omega,?_,by omega⟩
   rw [if_neg (show ¬ i + 1 <= p by omega)]
   split <;> omega
 ·split <;> omega
theorem yo (q : Nat) (h : q < 9223372036854775808) : C 93 [.agg [.int .u64 0,.int .u64 q,.bool false]] (.tup [.int .i64 q,.bool true]) []:=by
 have e1 : IntKind.i64.wrap (q : Int)=(q : Int):=wrap_i64 rfl (by omega)
 have e2 : (q : Int) < 9223372036854775808:=by omega
 refine ai hC (nf:=N93) rfl rfl ?_
 simp [N93,e1,e2]
 exact am (by decide +kernel)
theorem tl (u a d : Nat) (hu : u < 9223372036854775808) (ha : a < 9223372036854775808) (hd0 : 0 < d) (hd : d < 9223372036854775808) (hq : u * a / d < 9223372036854775808) : C 81 [.int .i64 u,.int .i64 a,.int .i64 d] (.int .i64 (u * a / d : Nat)) []:=by
 have hx : u * a < 340282366920938463463374607431768211456:=by
  have:=x0O (show u <= 9223372036854775808 by omega) (show a <= 9223372036854775808 by omega)
  omega
 have k1:=rL hC u a hu ha
 have k2:=rI hC d hd
 have k3:=ul hC (u * a) d hx hd0 hd
 have k4:=yo hC (u * a / d) hq
 obtain ⟨q,e⟩ : ∃ q,q=u * a / d:=⟨_,rfl⟩
 obtain ⟨xh,hxh⟩ : ∃ z,z=u * a / 18446744073709551616:=⟨_,rfl⟩
 obtain ⟨xl,hxl⟩ : ∃ z,z=u * a % 18446744073709551616:=⟨_,rfl⟩
 rw [<- e] at k3 k4 hq ⊢
 rw [<- hxh,<- hxl] at k1 k3
 rw [show q / 18446744073709551616=0 by omega,show q % 18446744073709551616=q by omega] at k3
 clear hx hq
 simp only [Int.natCast_zero] at k3
 refine ai hC (nf:=N81) rfl rfl ?_
 simp [N81]
 refine aa k1 (.inr rfl) ?_
 simp
 refine aa k2 (.inr rfl) ?_
 simp
 refine aa k3 (.inr rfl) ?_
 simp
 refine aa k4 (.inl rfl) ?_
 simp
set_option maxRecDepth 8000 in
set_option maxHeartbeats 2000000 in
theorem vU (b : Bool) (t : List (Int × Int)) (x : Int) (hv : aq t=true) : ∃ y z : Int,C 65 [slx b (t.map knD),.int .i64 x] (.tup [.int .i64 (zK t x),.int .i64 y,.int .i64 z]) []:=by
 obtain ⟨l1,l2⟩:=bk hv
 have hb:=tm hC b t x hv
 have hpl:=dX t (x + 1)
 have hn:=pn hv x
 obtain ⟨r,hr⟩ : ∃ r,r=zK t x:=⟨_,rfl⟩
 rw [<- hr]
 unfold zK at hr
 have hw : IntKind.i64.wrap ((t.length : Int) - 1)=(t.length : Int) - 1:=wrap_i64 rfl (by omega)
 have st : ∀ y z : Int,(∀ K : Prop,K -> K) -> True:=fun _ _ _=>trivial
 by_cases h0 : aT t (x + 1)=0
 ·refine ⟨0,1,?_⟩
  rw [if_pos h0] at hr
  rw [h0] at hb
  have hl0 : 0 < t.length:=by omega
  have e0 : t[0]! = t[0]:=x0f t 0 hl0
  rw [e0] at hr
  refine ai hC (nf:=N65) rfl rfl ?_
  simp [N65]
  refine aa hb (.inl rfl) ?_
  simp [hl0,knD,hr]
 rw [if_neg h0] at hr
 obtain ⟨k,hk⟩ : ∃ k,aT t (x + 1)=k + 1:=⟨aT t (x + 1) - 1,by omega⟩
 have hkl : k < t.length:=by omega
 have e1 : t[k]! = t[k]:=x0f t k hkl
 have h2 : ¬ (k : Int) < 0:=by omega
 rw [hk] at hb
 simp only [hk,Nat.add_sub_cancel,e1] at hr
 have e2 : ((k + 1 : Nat) : Int) - 1=(k : Int):=by omega
 rw [e2] at hb
 by_cases h1 : k + 1=t.length
 ·refine ⟨0,1,?_⟩
  rw [if_pos h1] at hr
  have h3 : (k : Int)=(t.length : Int) - 1:=by omega
  refine ai hC (nf:=N65) rfl rfl ?_
  simp [N65]
  refine aa hb (.inl rfl) ?_
  have hw' : IntKind.i64.wrap ((t.length : Int) - 1)=(k : Int):=wrap_i64 (by omega) (by omega)
  simp [h2,hw',hkl,knD,hr]
 ·rw [if_neg h1] at hr
  have hkl2 : k + 1 < t.length:=by omega
  have e3 : t[k + 1]! = t[k + 1]:=x0f t (k + 1) hkl2
  rw [e3] at hr
  have f7:=(dA hv hkl2).2.2 k rfl
  have f1:=(dA hv hkl).1
  have f2:=(dA hv hkl).2.1
  have f4:=(dA hv hkl2).1
  have f5:=(dA hv hkl2).2.1
  simp only [fg,x0a,x0b] at f1 f2 f4 f5
  have hx1 : t[k].1 < x + 1:=kY (by omega) hkl
  have hx2 : x + 1 <= t[k + 1].1:=by
   have:=gr (t:=t) (x:=x + 1) (by omega)
   simp only [hk] at this
   exact this
  obtain ⟨u,hu⟩ : ∃ u : Nat,t[k + 1].2 - t[k].2=u:=⟨(t[k + 1].2 - t[k].2).toNat,by omega⟩
  obtain ⟨a,ha⟩ : ∃ a : Nat,x - t[k].1=a:=⟨(x - t[k].1).toNat,by omega⟩
  obtain ⟨d,hd⟩ : ∃ d : Nat,t[k + 1].1 - t[k].1=d:=⟨(t[k + 1].1 - t[k].1).toNat,by omega⟩
  rw [u6 hu ha hd] at hr
  simp only at hr
  have b5 : u * a / d <= u:=by
   have h1 : u * a <= u * d:=x1f _ (by omega)
   have h1' : u * d=d * u:=x0U _ _
   exact Nat.le_of_lt_succ (x1T (by rw [x1X,x1G];omega))
  have kf:=tl hC u a d (by omega) (by omega) (by omega) (by omega) (by omega)
  obtain ⟨q,hq⟩ : ∃ q,q=u * a / d:=⟨_,rfl⟩
  rw [<- hq] at kf hr b5
  have w1 : IntKind.i64.wrap ((k : Int) + 1)=((k + 1 : Nat) : Int):=wrap_i64 (by omega) (by omega)
  have w2 : IntKind.i64.wrap (t[k + 1].2 - t[k].2)=(u : Int):=wrap_i64 hu (by omega)
  have w3 : IntKind.i64.wrap (t[k + 1].1 - t[k].1)=(d : Int):=wrap_i64 hd (by omega)
  have w4 : IntKind.i64.wrap (x - t[k].1)=(a : Int):=wrap_i64 ha (by omega)
  have w5 : IntKind.i64.wrap (t[k].2 + (q : Int))=t[k].2 + (q : Int):=wrap_i64 rfl (by omega)
  have h4 : ¬ (k : Int)=(t.length : Int) - 1:=by omega
  refine ⟨IntKind.i64.wrap (IntKind.i64.wrap ((u : Int) * (a : Int)) - IntKind.i64.wrap ((q : Int) * (d : Int))),(d : Int),?_⟩
  refine ai hC (nf:=N65) rfl rfl ?_
  simp [N65]
  refine aa hb (.inl rfl) ?_
  simp [h2,hw,h4,w1,hkl,hkl2,knD]
  refine ⟨by omega,am (by decide +kernel),by omega,am (by decide +kernel),?_⟩
  rw [w2,w3,w4]
  refine aa kf (.inl rfl) ?_
  simp [hkl,knD,w5,hr]
  exact ⟨am (by decide +kernel),by rw [w4]⟩
theorem vQ (b : Bool) (t : List (Int × Int)) (x : Int) (hv : aq t=true) : C 56 [slx b (t.map knD),.int .i64 x] (.int .i64 (bf t x).1) []:=by
 obtain ⟨y,z,h⟩:=vU hC b t x hv
 rw [Cg hv] at h
 refine ai hC (nf:=N56) rfl rfl ?_
 simp [N56]
 refine aa h (.inl rfl) ?_
 simp
end Go.Gv

namespace Go.Gv
variable {C : CC} (hC : aw prog C)
include hC
theorem ut (b : Bool) (t : List (Int × Int)) (hgt most : Int) : C 55 [slx b (t.map knD),.int .i64 hgt,.int .i64 most] (.bool (bD t hgt most)) []:=by
 refine ai hC (nf:=N55) rfl rfl ?_
 simp [N55]
 refine aa (nR hC b t) (.inl rfl) ?_
 cases hv : aq t
 ·simp [bD,hv]
 obtain ⟨l1,l2⟩:=bk hv
 obtain ⟨n,hn⟩ : ∃ n,n + 1=t.length:=⟨t.length - 1,by omega⟩
 have e1 : IntKind.wrap .i64 ((t.length : Int) - 1)=(n : Int):=wrap_i64 (by omega) (by omega)
 have hnl : n < t.length:=by omega
 have h0 : 0 < t.length:=by omega
 have e0 : t[0]! = t[0]:=x0f t 0 h0
 simp [e1,hnl,h0,knD]
 rw [bD,bZ hn,e0,hv]
 refine ac (fun c=>?_) (fun c=>?_) <;> simp [h0,knD] at c <;> simp [c,h0,hnl,knD]
 refine ac (fun c2=>?_) (fun c2=>?_) <;> simp [h0,knD] at c2 <;> simp [c2,h0,hnl,knD]
 refine ac (fun c3=>?_) (fun c3=>?_) <;> simp [h0,knD] at c3 <;> simp [c3,h0,hnl,knD]
 exact fun _=>⟨c,c2⟩
theorem rJ (s : Sec) : C 48 [.agg (aP s)] (.bool (ap s)) []:=by
 refine ai hC (nf:=N48) rfl rfl ?_
 simp [N48,aP]
 refine aa (fQ hC s.name) (.inl rfl) ?_
 cases h1 : bz s.name
 ·simp [ap,h1]
 simp
 refine ac (fun c1=>?_) (fun c1=>?_) <;> simp [c1] <;> simp at c1
 ·simp [ap];omega
 refine ac (fun c2=>?_) (fun c2=>?_) <;> simp [c2] <;> simp at c2
 ·simp [ap];omega
 refine ac (fun c3=>?_) (fun c3=>?_) <;> simp [c3] <;> simp at c3
 ·simp [ap];omega
 refine ac (fun c4=>?_) (fun c4=>?_) <;> simp [c4] <;> simp at c4
 ·simp [ap];omega
 refine aa (ut hC _ _ _ _) (.inl rfl) ?_
 cases h5 : bD s.area s.height 1073741824
 ·simp [ap,h5]
 simp
 refine aa (ut hC _ _ _ _) (.inl rfl) ?_
 have d1 : 1 <= s.height:=by omega
 simp [ap,h1,d1,c2,c3,c4,h5]
end Go.Gv

namespace Go.Gv
def dt (s : Sec) (flow fall len : Int) : Int × Int :=
 if ap s then (if 0 <= flow /\ flow <= 1099511627776 /\ bB fall len=true then (if (iW s s.height fall len : Int) < flow then (0,28) else (bis (bS s flow fall len) 40 0 s.height.toNat,0)) else (0,2)) else (0,1)
variable {C : CC} (hC : aw prog C)
include hC
theorem yv (n l : Int) : C 202 [.int .i64 n,.int .i64 l] (.bool (bB n l)) []:=by
 refine ai hC (nf:=N202) rfl rfl ?_
 simp [N202,bB]
 refine ac (fun h=>?_) (fun h=>?_) <;> simp at h <;> simp [h]
 ·refine ac (fun h2=>?_) (fun h2=>?_) <;> simp at h2 <;> simp [h2]
  ·refine ac (fun h3=>?_) (fun h3=>?_) <;> simp at h3 <;> simp [h3] <;> omega
  ·omega
 ·omega
theorem rG (s : Sec) (depth fall len : Int) (hs : ap s=true) (hsl : bB fall len=true) : C 50 [.agg (aP s),.int .i64 depth,.int .i64 fall,.int .i64 len] (.int .i64 (iW s depth fall len)) []:=by
 obtain ⟨h1,_,_,_⟩:=dM hs
 obtain ⟨h3,h4⟩:=kG hs depth
 have hf:=vQ hC s.convN s.conv depth h1
 obtain ⟨y,hy⟩ : ∃ y : Nat,(bf s.conv depth).1=(y : Int):=⟨(bf s.conv depth).1.toNat,by omega⟩
 simp only [bB,x0a,x0b] at hsl
 obtain ⟨f,rfl⟩ : ∃ f : Nat,fall=(f : Int):=⟨fall.toNat,by omega⟩
 obtain ⟨n,rfl⟩ : ∃ n : Nat,len=(n : Int):=⟨len.toNat,by omega⟩
 rw [iW,hy,x1D,x1D,x1D,x1a]
 rw [hy] at hf h3 h4
 have hyf : y * f <= 1099511627776 * 4194304:=x0O (by omega) (by omega)
 have hr:=yt hC y (y * f) n (by omega) (by omega) (by omega) (by omega)
 have hw : IntKind.i64.wrap ((y : Int) * (f : Int))=((y * f : Nat) : Int):=wrap_i64 (by push_cast;rfl) (by omega)
 obtain ⟨N,hN⟩ : ∃ N,N=di (y * (y * f) / n):=⟨_,rfl⟩
 rw [<- hN] at hr ⊢
 obtain ⟨g,hg⟩ : ∃ g,g=y * f:=⟨_,rfl⟩
 rw [<- hg] at hr hw
 refine ai hC (nf:=N50) rfl rfl ?_
 simp [N50,aP]
 refine aa hf (.inl rfl) ?_
 simp [hw]
 refine aa hr (.inl rfl) ?_
 simp
theorem yi (s : Sec) (flow fall len : Int) : C 197 [.agg (aP s),.int .i64 flow,.int .i64 fall,.int .i64 len] (.tup [.int .i64 (dt s flow fall len).1,.int .i64 (dt s flow fall len).2]) []:=by
 obtain ⟨r,hr⟩ : ∃ r,r=dt s flow fall len:=⟨_,rfl⟩
 rw [<- hr]
 unfold dt at hr
 have hvc:=rJ hC s
 have hsl:=yv hC fall len
 have hcc:=fun (m : Int) (hv : ap s=true) (hs : bB fall len=true)=>rG hC s m fall len hv hs
 simp only [aP] at hvc hcc
 refine ai hC (nf:=N197) rfl rfl ?_
 simp [N197,aP]
 refine aa hvc (.inl rfl) ?_
 cases hv : ap s
 ·rw [if_neg (by simp [hv])] at hr
  simp [hr]
 rw [if_pos hv] at hr
 have hh : 1 <= s.height /\ s.height <= 32768:=by
  simp only [ap,x0a,x0b] at hv
  omega
 obtain ⟨H,hH⟩ : ∃ H : Nat,s.height=H:=⟨s.height.toNat,by omega⟩
 simp
 refine ac (fun c1=>?_) (fun c1=>?_) <;> simp at c1 <;> simp [c1]
 ·rw [if_neg (by omega)] at hr
  simp [hr]
 refine ac (fun c2=>?_) (fun c2=>?_) <;> simp at c2 <;> simp [c2]
 ·rw [if_neg (by omega)] at hr
  simp [hr]
 refine aa hsl (.inl rfl) ?_
 cases hs : bB fall len
 ·rw [if_neg (by simp [hs])] at hr
  simp [hr]
 rw [if_pos ⟨by omega,by omega,hs⟩] at hr
 simp
 have hcc:=fun m=>hcc m hv hs
 refine aa (hcc s.height) (.inl rfl) ?_
 simp
 refine ac (fun c3=>?_) (fun c3=>?_) <;> simp at c3 <;> simp [c3]
 ·rw [if_pos c3] at hr
  simp [hr]
 rw [if_neg (by omega)] at hr
 obtain ⟨L,hL⟩ : ∃ L,L=bis (bS s flow fall len) 40 0 s.height.toNat:=⟨_,rfl⟩
 rw [<- hL] at hr
 have hl : L=bis (bS s flow fall len) 40 0 H:=by rw [hL,hH];rfl
 simp only [hH] at hcc ⊢
 refine ⟨am (by decide +kernel),?_⟩
 refine au (Nat × Nat × Nat) (fun z=>[(1,.int .i64 flow),(2,.int .i64 fall),(3,.int .i64 len),(4,.ptr [.str s.name,.int .i64 H,.int .i64 s.price,slx s.areaN (s.area.map knD),slx s.convN (s.conv.map knD)]),(10,.int .i64 z.2.1),(11,.int .i64 z.2.2)])
  (fun z=>z.2.1 <= z.2.2 /\ z.2.2 <= H /\ z.2.2 - z.2.1 < 2 ^ z.1 /\ bis (bS s flow fall len) z.1 z.2.1 z.2.2=L) (fun z=>z.2.2 - z.2.1) (40,0,H) ⟨by simp,by simp,by simp;omega,by rw [hl]⟩ (by simp) ?_
 rintro ⟨f,lo,hi⟩ ⟨i1,i2,i3,i4⟩
 simp only at i1 i2 i3 i4
 simp
 refine ac (fun c=>?_) (fun c=>?_) <;> simp at c <;> simp [c]
 ·obtain ⟨f',_,j2,j3,j4⟩:=na (p:=bS s flow fall len) c i3
  obtain ⟨sm,hsm⟩ : ∃ sm,sm=lo + hi:=⟨_,rfl⟩
  rw [<- hsm] at j2 j3 j4
  obtain ⟨m,hm⟩ : ∃ m,m=sm / 2:=⟨_,rfl⟩
  rw [<- hm] at j2 j3 j4
  have e2 : IntKind.wrap .i64 ((lo : Int) + (hi : Int))=(sm : Int):=wrap_i64 (by omega) (by omega)
  have e3 : Int.tdiv (sm : Int) 2=(m : Int):=by rw [hm];exact ou sm 2
  have e4 : IntKind.wrap .i64 (m : Int)=(m : Int):=wrap_i64 rfl (by omega)
  have e5 : IntKind.wrap .i64 ((m : Int) + 1)=((m + 1 : Nat) : Int):=wrap_i64 (by omega) (by omega)
  rw [i4] at j4
  simp [e2,e3,e4]
  refine aa (hcc m) (.inl rfl) ?_
  simp
  refine ac (fun c3=>?_) (fun c3=>?_) <;> simp at c3 <;> simp [c3]
  ·rw [if_pos (by simp [bS,c3])] at j4
   exact ⟨f',lo,m,⟨by omega,by omega,j2,j4.symm⟩,by omega,by omega,by omega⟩
  ·rw [if_neg (by simp [bS];omega)] at j4
   simp [e5]
   exact ⟨f',m + 1,hi,⟨by omega,by omega,j3,j4.symm⟩,by omega,by omega,by omega⟩
 ·rw [mN _ _ _ _ c] at i4
  subst i4
  simp [hr]
end Go.Gv

namespace Go.Gv
def mxI (a b : Int) : Int:=if a < b then b else a
def bE (l : Lnk) : Int:=if 4194304 < l.up - l.down then 4194304 else l.up - l.down
def iy (l : Lnk) (s : Sec) (flow level : Int) : Bool:=decide (level < l.down + s.height) && (decide ((fU s (bE l) l.len).2=5) || (decide ((fU s (bE l) l.len).2=0) && decide (flow <= (fU s (bE l) l.len).1)))
def i8 (l : Lnk) (s : Sec) (flow level : Int) : Int × Int :=
 if (b9 l s flow).2=0 then (if 1099511627776 < mxI (l.up + s.height) (level + (b9 l s flow).1) then (0,5) else (mxI (l.up + s.height) (level + (b9 l s flow).1),0)) else (0,(b9 l s flow).2)
def oE (l : Lnk) (s : Sec) (flow level : Int) : Int × Int :=
 if (cD s flow (bE l) l.len).2=0 then (mxI (l.up + (cD s flow (bE l) l.len).1) level,0) else (0,(cD s flow (bE l) l.len).2)
def bR (l : Lnk) (s : Sec) (flow level : Int) : Int × Int:=if iy l s flow level then oE l s flow level else i8 l s flow level
def zJ (l : Lnk) (s : Sec) (flow level : Int) : Int × Int :=
 if jj l s=0 then (if l.up < l.down then (0,23) else if aG flow 0 1099511627776 && aG level (-4194304) 1099511627776 then bR l s flow level else (0,2)) else (0,jj l s)
def ri (l : Lnk) (s : Sec) (flow : Int) : Int × Int :=
 if jj l s=0 then (if aG flow 0 1099511627776 then b9 l s flow else (0,2)) else (0,jj l s)
theorem gm (k f n : Nat) : 0 <= (fo k f n).1 /\ (fo k f n).1 <= 1073741824:=by
 unfold fo
 have:=de (ca k f n) 40 0 1073741824 (by omega)
 split
 ·simp
 split
 ·simp
 split
 ·simp only;omega
 ·simp
theorem kH {s : Sec} (hv : ap s=true) (flow fall len : Int) : 0 <= (cD s flow fall len).1 /\ (cD s flow fall len).1 <= s.height:=by
 have hh : 1 <= s.height /\ s.height <= 32768:=by
  simp only [ap,x0a,x0b] at hv
  omega
 unfold cD
 rw [if_pos hv]
 split
 ·split
  ·simp only;omega
  ·simp only;omega
 ·simp only;omega
theorem nM {l : Lnk} {s : Sec} (h : jj l s=0) : ap s=true /\ 1 <= l.len /\ l.len <= 16777216 /\ bj l.up=true /\ bj l.down=true:=by
 unfold jj at h
 split at h
 ·rename_i h1
  rw [x0a] at h1
  obtain ⟨h1,h2⟩:=h1
  split at h
  ·rename_i hk
   simp only [co,jc,hk,if_true,x0a,aG,x0b] at h1
   obtain ⟨⟨⟨_,h5⟩,_⟩,⟨h6,h7⟩,_⟩:=h1
   exact ⟨h2,h6.1,h6.2,h5,h7⟩
  ·omega
 ·omega
variable {C : CC} (hC : aw prog C)
include hC
theorem pG (l : Lnk) (s : Sec) (flow level : Int) (hv : ap s=true) (hl : 1 <= l.len /\ l.len <= 16777216) (hu : bj l.up=true) (hd : bj l.down=true) (hf : 0 <= flow /\ flow <= 1099511627776) (hlv : -4194304 <= level /\ level <= 1099511627776) :
  C 162 [.agg (ay l),.agg (aP s),.int .i64 flow,.int .i64 level] (.tup [.int .i64 (bR l s flow level).1,.int .i64 (bR l s flow level).2]) []:=by
 have b1 : -4194304 <= l.up /\ l.up <= 4194304:=by simpa [bj] using hu
 have b2 : -4194304 <= l.down /\ l.down <= 4194304:=by simpa [bj] using hd
 have hh : 1 <= s.height /\ s.height <= 32768:=by
  simp only [ap,x0a,x0b] at hv
  omega
 have r1:=kH hv flow (bE l) l.len
 have r2 : 0 <= (b9 l s flow).1 /\ (b9 l s flow).1 <= 1073741824:=gm _ _ _
 have k1:=Dk hC s (bE l) l.len
 have k2:=Ae hC s flow (bE l) l.len
 have k3:=tc hC l s flow hv hl hf
 have efall : (if 4194304 < l.up - l.down then 4194304 else l.up - l.down)=bE l:=rfl
 obtain ⟨r,hr⟩ : ∃ r,r=bR l s flow level:=⟨_,rfl⟩
 rw [<- hr]
 unfold bR iy i8 oE at hr
 obtain ⟨f1,hf1⟩ : ∃ z,z=(fU s (bE l) l.len).1:=⟨_,rfl⟩
 obtain ⟨f2,hf2⟩ : ∃ z,z=(fU s (bE l) l.len).2:=⟨_,rfl⟩
 obtain ⟨d1,hd1⟩ : ∃ z,z=(cD s flow (bE l) l.len).1:=⟨_,rfl⟩
 obtain ⟨d2,hd2⟩ : ∃ z,z=(cD s flow (bE l) l.len).2:=⟨_,rfl⟩
 obtain ⟨x1,hx1⟩ : ∃ z,z=(b9 l s flow).1:=⟨_,rfl⟩
 obtain ⟨x2,hx2⟩ : ∃ z,z=(b9 l s flow).2:=⟨_,rfl⟩
 rw [<- hf1,<- hf2] at k1 hr
 rw [<- hd1,<- hd2] at k2 hr
 rw [<- hx1,<- hx2] at k3 hr
 rw [<- hd1] at r1
 rw [<- hx1] at r2
 obtain ⟨fa,hfa⟩ : ∃ z,z=bE l:=⟨_,rfl⟩
 rw [<- hfa] at k1 k2 efall
 clear hf1 hf2 hd1 hd2 hx1 hx2 hfa
 simp only [aP,ay] at k1 k2 k3
 have w1 : IntKind.wrap .i64 (l.up - l.down)=l.up - l.down:=wrap_i64 rfl (by omega)
 have w2 : IntKind.wrap .i64 (l.down + s.height)=l.down + s.height:=wrap_i64 rfl (by omega)
 have w3 : IntKind.wrap .i64 (l.up + s.height)=l.up + s.height:=wrap_i64 rfl (by omega)
 have w4 : IntKind.wrap .i64 (level + x1)=level + x1:=wrap_i64 rfl (by omega)
 have w5 : IntKind.wrap .i64 (l.up + d1)=l.up + d1:=wrap_i64 rfl (by omega)
 have m1 : ∀ a b : Int,(if a < b then b else a)=mxI a b:=fun _ _=>rfl
 refine ai hC (nf:=N162) rfl rfl ?_
 simp [N162,aP,ay,w1,efall]
 refine aa k1 (.inl rfl) ?_
 simp [w2]
 refine ac (fun c1=>?_) (fun c1=>?_) <;> simp at c1 <;> simp [c1]
 ·refine ac (fun c2=>?_) (fun c2=>?_) <;> simp at c2 <;> simp [c2]
  ·rw [if_pos (by simp [c1,c2])] at hr
   refine aa k2 (.inl rfl) ?_
   simp
   refine ac (fun g=>?_) (fun g=>?_) <;> simp at g <;> simp [g]
   ·rw [if_neg g] at hr
    simp [hr]
   ·rw [if_pos g] at hr
    simp [w5,m1,hr]
  refine ac (fun c3=>?_) (fun c3=>?_) <;> simp at c3 <;> simp [c3]
  ·refine ac (fun c4=>?_) (fun c4=>?_) <;> simp at c4 <;> simp [c4]
   ·rw [if_pos (by simp [c1,c3,c4])] at hr
    refine aa k2 (.inl rfl) ?_
    simp
    refine ac (fun g=>?_) (fun g=>?_) <;> simp at g <;> simp [g]
    ·rw [if_neg g] at hr
     simp [hr]
    ·rw [if_pos g] at hr
     simp [w5,m1,hr]
   ·rw [if_neg (by simp [c3,show ¬ flow <= f1 by omega])] at hr
    refine aa k3 (.inl rfl) ?_
    simp
    refine ac (fun g=>?_) (fun g=>?_) <;> simp at g <;> simp [g]
    ·rw [if_neg g] at hr
     simp [hr]
    rw [if_pos g] at hr
    simp [w3,w4,m1]
    refine ac (fun g2=>?_) (fun g2=>?_) <;> simp at g2 <;> simp [g2]
    ·rw [if_pos g2] at hr
     simp [hr]
    ·rw [if_neg (by omega)] at hr
     simp [hr,w3,w4,m1]
  ·rw [if_neg (by simp [c2,c3])] at hr
   refine aa k3 (.inl rfl) ?_
   simp
   refine ac (fun g=>?_) (fun g=>?_) <;> simp at g <;> simp [g]
   ·rw [if_neg g] at hr
    simp [hr]
   rw [if_pos g] at hr
   simp [w3,w4,m1]
   refine ac (fun g2=>?_) (fun g2=>?_) <;> simp at g2 <;> simp [g2]
   ·rw [if_pos g2] at hr
    simp [hr]
   ·rw [if_neg (by omega)] at hr
    simp [hr,w3,w4,m1]
 ·rw [if_neg (by simp [show ¬ level < l.down + s.height by omega])] at hr
  refine aa k3 (.inl rfl) ?_
  simp
  refine ac (fun g=>?_) (fun g=>?_) <;> simp at g <;> simp [g]
  ·rw [if_neg g] at hr
   simp [hr]
  rw [if_pos g] at hr
  simp [w3,w4,m1]
  refine ac (fun g2=>?_) (fun g2=>?_) <;> simp at g2 <;> simp [g2]
  ·rw [if_pos g2] at hr
   simp [hr]
  ·rw [if_neg (by omega)] at hr
   simp [hr,w3,w4,m1]
theorem PM (l : Lnk) (s : Sec) (flow level : Int) (hc : l.curve.length < 2 ^ 62) : C 156 [.agg (ay l),.agg (aP s),.int .i64 flow,.int .i64 level] (.tup [.int .i64 (zJ l s flow level).1,.int .i64 (zJ l s flow level).2]) []:=by
 have k1:=yb hC l s hc
 obtain ⟨r,hr⟩ : ∃ r,r=zJ l s flow level:=⟨_,rfl⟩
 rw [<- hr]
 unfold zJ at hr
 have ka:=fun h1 h2 h3 h4 h5=>pG hC l s flow level h1 h2 h3 h4 h5
 have hz:=@nM l s
 obtain ⟨e,he⟩ : ∃ e,e=jj l s:=⟨_,rfl⟩
 rw [<- he] at k1 hr hz
 simp only [aP,ay] at k1 ka
 refine ai hC (nf:=N156) rfl rfl ?_
 simp [N156,aP,ay]
 refine aa k1 (.inl rfl) ?_
 simp
 refine ac (fun g=>?_) (fun g=>?_) <;> simp at g <;> simp [g]
 ·rw [if_neg g] at hr
  simp [hr]
 rw [if_pos g] at hr
 obtain ⟨z1,z2,z3,z4,z5⟩:=hz g
 refine ac (fun g1=>?_) (fun g1=>?_) <;> simp at g1 <;> simp [g1]
 ·rw [if_pos g1] at hr
  simp [hr]
 rw [if_neg (by omega)] at hr
 refine aa (mb hC flow 0 1099511627776) (.inl rfl) ?_
 cases g2 : aG flow 0 1099511627776
 ·rw [if_neg (by simp [g2])] at hr
  simp [hr]
 simp
 refine aa (mb hC level (-4194304) 1099511627776) (.inl rfl) ?_
 cases g3 : aG level (-4194304) 1099511627776
 ·rw [if_neg (by simp [g3])] at hr
  simp [hr]
 rw [if_pos (by simp [g2,g3])] at hr
 simp
 simp only [aG,x0a,x0b] at g2 g3
 refine aa (ka z1 ⟨z2,z3⟩ z4 z5 g2 g3) (.inl rfl) ?_
 simp [hr]
theorem Ah (l : Lnk) (s : Sec) (flow : Int) (hc : l.curve.length < 2 ^ 62) : C 157 [.agg (ay l),.agg (aP s),.int .i64 flow] (.tup [.int .i64 (ri l s flow).1,.int .i64 (ri l s flow).2]) []:=by
 have k1:=yb hC l s hc
 obtain ⟨r,hr⟩ : ∃ r,r=ri l s flow:=⟨_,rfl⟩
 rw [<- hr]
 unfold ri at hr
 have ka:=fun h1 h2 h3=>tc hC l s flow h1 h2 h3
 have hz:=@nM l s
 obtain ⟨e,he⟩ : ∃ e,e=jj l s:=⟨_,rfl⟩
 rw [<- he] at k1 hr hz
 simp only [aP,ay] at k1 ka
 refine ai hC (nf:=N157) rfl rfl ?_
 simp [N157,aP,ay]
 refine aa k1 (.inl rfl) ?_
 simp
 refine ac (fun g=>?_) (fun g=>?_) <;> simp at g <;> simp [g]
 ·rw [if_neg g] at hr
  simp [hr]
 rw [if_pos g] at hr
 obtain ⟨z1,z2,z3,z4,z5⟩:=hz g
 refine aa (mb hC flow 0 1099511627776) (.inl rfl) ?_
 cases g2 : aG flow 0 1099511627776
 ·rw [if_neg (by simp [g2])] at hr
  simp [hr]
 rw [if_pos g2] at hr
 simp
 simp only [aG,x0a,x0b] at g2
 refine aa (ka z1 ⟨z2,z3⟩ g2) (.inl rfl) ?_
 simp [hr]
end Go.Gv

namespace Go.Gv
def grI (a b : Int) : Int:=if b < a then a else b
def tT (l : Lnk) (s : Sec) (flow level : Int) : Int × Int :=
 if (gX l s flow).2=0 then (if 1099511627776 < grI (l.up + s.height) (level + (gX l s flow).1) then (0,5) else (grI (l.up + s.height) (level + (gX l s flow).1),0)) else (0,(gX l s flow).2)
def lx (l : Lnk) (s : Sec) (flow level : Int) : Int × Int :=
 if (dt s flow (bE l) l.len).2=0 /\ level < l.down + s.height then (grI (l.up + (dt s flow (bE l) l.len).1) level,0) else tT l s flow level
theorem pO {s : Sec} (hv : ap s=true) (flow fall len : Int) : 0 <= (dt s flow fall len).1 /\ (dt s flow fall len).1 <= s.height:=by
 have hh : 1 <= s.height /\ s.height <= 32768:=by
  simp only [ap,x0a,x0b] at hv
  omega
 have hb:=de (bS s flow fall len) 40 0 s.height.toNat (by omega)
 unfold dt
 rw [if_pos hv]
 split
 ·split
  ·simp only;omega
  ·simp only;omega
 ·simp only;omega
theorem rk (k f n : Nat) : 0 <= (nC k f n).1 /\ (nC k f n).1 <= 1073741824:=by
 unfold nC
 split
 ·simp
 split
 ·simp
 split
 ·simp
 ·simp only;omega
variable {C : CC} (hC : aw prog C)
include hC
theorem lJ (a b : Int) : C 198 [.int .i64 a,.int .i64 b] (.int .i64 (grI a b)) []:=by
 refine ai hC (nf:=N198) rfl rfl ?_
 simp [N198,grI]
 refine ac (fun h=>?_) (fun h=>?_) <;> simp at h <;> simp [h]
 intro _;omega
theorem Bm (l : Lnk) (h : -9223372036854775808 <= l.up - l.down /\ l.up - l.down < 9223372036854775808) : C 196 [.agg (ay l)] (.int .i64 (bE l)) []:=by
 have w : IntKind.wrap .i64 (l.up - l.down)=l.up - l.down:=wrap_i64 rfl h
 refine ai hC (nf:=N196) rfl rfl ?_
 simp [N196,ay,w,bE]
 refine ac (fun h=>?_) (fun h=>?_) <;> simp at h <;> simp [h]
 rw [w,if_neg (by omega)]
theorem wO (l : Lnk) (s : Sec) (flow level : Int) (hv : ap s=true) (hl : 1 <= l.len /\ l.len <= 16777216) (hu : bj l.up=true) (hd : bj l.down=true) (hf : 0 <= flow /\ flow <= 1099511627776) (hlv : -4194304 <= level /\ level <= 1099511627776) :
  C 193 [.agg (ay l),.agg (aP s),.int .i64 flow,.int .i64 level] (.tup [.int .i64 (lx l s flow level).1,.int .i64 (lx l s flow level).2]) []:=by
 have b1 : -4194304 <= l.up /\ l.up <= 4194304:=by simpa [bj] using hu
 have b2 : -4194304 <= l.down /\ l.down <= 4194304:=by simpa [bj] using hd
 have hh : 1 <= s.height /\ s.height <= 32768:=by
  simp only [ap,x0a,x0b] at hv
  omega
 have r1:=pO hv flow (bE l) l.len
 have r2 : 0 <= (gX l s flow).1 /\ (gX l s flow).1 <= 1073741824:=rk _ _ _
 have k1:=Bm hC l (by omega)
 have k2:=yi hC s flow (bE l) l.len
 have k3:=xT hC l s flow hv hl hf
 obtain ⟨r,hr⟩ : ∃ r,r=lx l s flow level:=⟨_,rfl⟩
 rw [<- hr]
 unfold lx tT at hr
 obtain ⟨d1,hd1⟩ : ∃ z,z=(dt s flow (bE l) l.len).1:=⟨_,rfl⟩
 obtain ⟨d2,hd2⟩ : ∃ z,z=(dt s flow (bE l) l.len).2:=⟨_,rfl⟩
 obtain ⟨x1,hx1⟩ : ∃ z,z=(gX l s flow).1:=⟨_,rfl⟩
 obtain ⟨x2,hx2⟩ : ∃ z,z=(gX l s flow).2:=⟨_,rfl⟩
 rw [<- hd1,<- hd2] at k2 hr
 rw [<- hx1,<- hx2] at k3 hr
 rw [<- hd1] at r1
 rw [<- hx1] at r2
 obtain ⟨fa,hfa⟩ : ∃ z,z=bE l:=⟨_,rfl⟩
 rw [<- hfa] at k1 k2
 clear hd1 hd2 hx1 hx2 hfa
 simp only [aP,ay] at k1 k2 k3
 have w2 : IntKind.wrap .i64 (l.down + s.height)=l.down + s.height:=wrap_i64 rfl (by omega)
 have w3 : IntKind.wrap .i64 (l.up + s.height)=l.up + s.height:=wrap_i64 rfl (by omega)
 have w4 : IntKind.wrap .i64 (level + x1)=level + x1:=wrap_i64 rfl (by omega)
 have w5 : IntKind.wrap .i64 (l.up + d1)=l.up + d1:=wrap_i64 rfl (by omega)
 have g1:=lJ hC (l.up + d1) level
 have g2:=lJ hC (l.up + s.height) (level + x1)
 refine ai hC (nf:=N193) rfl rfl ?_
 simp [N193,aP,ay]
 refine aa k1 (.inl rfl) ?_
 simp
 refine aa k2 (.inl rfl) ?_
 simp
 refine ac (fun c1=>?_) (fun c1=>?_) <;> simp at c1 <;> simp [c1]
 ·simp [w2]
  refine ac (fun c2=>?_) (fun c2=>?_) <;> simp at c2 <;> simp [c2]
  ·rw [if_pos ⟨c1,c2⟩] at hr
   simp [w5]
   refine aa g1 (.inl rfl) ?_
   simp [hr]
  ·rw [if_neg (by omega)] at hr
   refine aa k3 (.inl rfl) ?_
   simp
   refine ac (fun g=>?_) (fun g=>?_) <;> simp at g <;> simp [g]
   ·rw [if_neg g] at hr
    simp [hr]
   rw [if_pos g] at hr
   simp [w3,w4]
   refine aa g2 (.inl rfl) ?_
   simp
   refine ac (fun g3=>?_) (fun g3=>?_) <;> simp at g3 <;> simp [g3]
   ·rw [if_pos g3] at hr
    simp [hr]
   ·rw [if_neg (by omega)] at hr
    simp [hr]
 ·rw [if_neg (by omega)] at hr
  refine aa k3 (.inl rfl) ?_
  simp
  refine ac (fun g=>?_) (fun g=>?_) <;> simp at g <;> simp [g]
  ·rw [if_neg g] at hr
   simp [hr]
  rw [if_pos g] at hr
  simp [w3,w4]
  refine aa g2 (.inl rfl) ?_
  simp
  refine ac (fun g3=>?_) (fun g3=>?_) <;> simp at g3 <;> simp [g3]
  ·rw [if_pos g3] at hr
   simp [hr]
  ·rw [if_neg (by omega)] at hr
   simp [hr]
end Go.Gv

namespace Go.Gv
theorem xX (a b : Int) : a <= mxI a b /\ b <= mxI a b:=by unfold mxI;split <;> omega
theorem fZ {a b c d : Int} (h1 : a <= c) (h2 : b <= d) : mxI a b <= mxI c d:=by
 unfold mxI;split <;> split <;> omega
theorem kM {k f g n i : Nat} (h : f <= g) (he : ca k g n i=true) : ca k f n i=true:=by
 simp only [ca,x0b] at he ⊢
 exact x1h (x0s _ (x0O h h)) he
theorem tb {k f g n : Nat} (h : f <= g) (h1 : (fo k f n).2=0) (h2 : (fo k g n).2=0) : (fo k f n).1 <= (fo k g n).1:=by
 have hr:=gm k g n
 by_cases f0 : f=0
 ·have : fo k f n=(0,0):=by simp [fo,f0]
  rw [this];exact hr.1
 ·have g0 : ¬ g=0:=by omega
  unfold fo at h1 h2 ⊢
  rw [if_neg f0] at h1 ⊢
  rw [if_neg g0] at h2 ⊢
  by_cases k0 : k=0
  ·rw [if_pos k0] at h1;simp at h1
  ·rw [if_neg k0] at h1 h2 ⊢
   rw [if_neg k0]
   by_cases e1 : ca k f n 1073741824=true
   ·rw [if_pos e1]
    by_cases e2 : ca k g n 1073741824=true
    ·rw [if_pos e2]
     have:=kB (p:=ca k f n) (q:=ca k g n) (fun i hi=>kM h hi) 40 0 1073741824 (by omega)
     simp only
     omega
    ·rw [if_neg e2] at h2;simp at h2
   ·rw [if_neg e1] at h1;simp at h1
theorem qW {s : Sec} {f g fall len : Int} (h : f <= g) : gE s f fall len <= gE s g fall len:=by
 refine kB (fun n hn=>?_) _ _ _ (by omega)
 simp only [bS,x0b] at hn ⊢
 omega
theorem lF {s : Sec} {f fall len : Int} (h : (cD s f fall len).2=0) : ap s=true /\ 0 <= f /\ (cD s f fall len).1=gE s f fall len /\ gE s f fall len <= s.height.toNat:=by
 unfold cD at h ⊢
 split at h
 ·rename_i hv
  rw [if_pos hv]
  split at h
  ·rename_i hc
   rw [if_pos hc]
   split at h
   ·simp at h
   ·rename_i hl
    rw [if_neg hl]
    exact ⟨hv,hc.1,rfl,by omega⟩
  ·simp at h
 ·simp at h
theorem vE {l : Lnk} {s : Sec} {f g level : Int} (h : f <= g) (hb : iy l s g level=true) : iy l s f level=true:=by
 simp only [iy,x0a,x0F,x0b] at hb ⊢
 refine ⟨hb.1,?_⟩
 rcases hb.2 with h1 | ⟨h1,h2⟩
 ·exact .inl h1
 ·exact .inr ⟨h1,by omega⟩
theorem td {l : Lnk} {s : Sec} {f a b : Int} (h : a <= b) (hb : iy l s f b=true) : iy l s f a=true:=by
 simp only [iy,x0a,x0b] at hb ⊢
 exact ⟨by omega,hb.2⟩
theorem i9 {l : Lnk} {s : Sec} {f v : Int} (h : (i8 l s f v).2=0) : (b9 l s f).2=0 /\ (i8 l s f v).1=mxI (l.up + s.height) (v + (b9 l s f).1):=by
 unfold i8 at h ⊢
 split at h
 ·rename_i h1
  rw [if_pos h1]
  split at h
  ·simp at h
  ·rename_i h2
   rw [if_neg h2]
   exact ⟨h1,rfl⟩
 ·rename_i h1;exact absurd h h1
theorem kP {l : Lnk} {s : Sec} {f v : Int} (h : (oE l s f v).2=0) : (cD s f (bE l) l.len).2=0 /\ (oE l s f v).1=mxI (l.up + (cD s f (bE l) l.len).1) v:=by
 unfold oE at h ⊢
 split at h
 ·rename_i h1
  rw [if_pos h1]
  exact ⟨h1,rfl⟩
 ·rename_i h1;exact absurd h h1
theorem mm {l : Lnk} {s : Sec} {f g v w : Int} (hv : v <= w) (h1 : (oE l s f v).2=0) (h2 : (i8 l s g w).2=0) : (oE l s f v).1 <= (i8 l s g w).1:=by
 obtain ⟨a1,a2⟩:=kP h1
 obtain ⟨b1,b2⟩:=i9 h2
 obtain ⟨c1,c2,c3,c4⟩:=lF a1
 have hh : 1 <= s.height:=by
  simp only [ap,x0a,x0b] at c1
  omega
 have hr : 0 <= (b9 l s g).1:=(gm _ _ _).1
 rw [a2,b2,c3]
 exact fZ (by omega) (by omega)
theorem dK {l : Lnk} {s : Sec} {f v : Int} (b : iy l s f v=true) : bR l s f v=oE l s f v:=by unfold bR;rw [if_pos b]
theorem eE {l : Lnk} {s : Sec} {f v : Int} (b : ¬ iy l s f v=true) : bR l s f v=i8 l s f v:=by unfold bR;rw [if_neg b]
theorem qz {l : Lnk} {s : Sec} {f g v : Int} (h : f <= g) (h1 : (bR l s f v).2=0) (h2 : (bR l s g v).2=0) : (bR l s f v).1 <= (bR l s g v).1:=by
 by_cases b2 : iy l s g v=true
 ·have b1:=vE h b2
  rw [dK b2] at h2 ⊢
  rw [dK b1] at h1 ⊢
  obtain ⟨a1,a2⟩:=kP h1
  obtain ⟨c1,c2⟩:=kP h2
  obtain ⟨_,_,d3,_⟩:=lF a1
  obtain ⟨_,_,e3,_⟩:=lF c1
  rw [a2,c2,d3,e3]
  have:=qW (s:=s) (fall:=bE l) (len:=l.len) h
  exact fZ (by omega) (x0S _)
 ·rw [eE b2] at h2 ⊢
  by_cases b1 : iy l s f v=true
  ·rw [dK b1] at h1 ⊢
   exact mm (x0S _) h1 h2
  ·rw [eE b1] at h1 ⊢
   obtain ⟨a1,a2⟩:=i9 h1
   obtain ⟨c1,c2⟩:=i9 h2
   rw [a2,c2]
   have hl : (b9 l s f).1 <= (b9 l s g).1:=tb (by omega) a1 c1
   exact fZ (x0S _) (by omega)
theorem pF {l : Lnk} {s : Sec} {f v w : Int} (h : v <= w) (h1 : (bR l s f v).2=0) (h2 : (bR l s f w).2=0) : (bR l s f v).1 <= (bR l s f w).1:=by
 by_cases b2 : iy l s f w=true
 ·have b1:=td h b2
  rw [dK b2] at h2 ⊢
  rw [dK b1] at h1 ⊢
  obtain ⟨a1,a2⟩:=kP h1
  obtain ⟨c1,c2⟩:=kP h2
  rw [a2,c2]
  exact fZ (x0S _) h
 ·rw [eE b2] at h2 ⊢
  by_cases b1 : iy l s f v=true
  ·rw [dK b1] at h1 ⊢
   exact mm h h1 h2
  ·rw [eE b1] at h1 ⊢
   obtain ⟨a1,a2⟩:=i9 h1
   obtain ⟨c1,c2⟩:=i9 h2
   rw [a2,c2]
   exact fZ (x0S _) (by omega)
end Go.Gv

namespace Go.Gv
theorem Bk (l : List (Int × Int)) : (aq l && !(l.any fun k=>!gJ k))=j5 l:=by
 by_cases hv : aq l=true
 ·obtain ⟨l1,l2⟩:=bk hv
  obtain ⟨n,hn⟩ : ∃ n,n + 1=l.length:=⟨l.length - 1,by omega⟩
  have h0 : 0 < l.length:=by omega
  have hnl : n < l.length:=by omega
  have hany : (!(l.any fun k=>!gJ k))=l.all gJ:=by rw [x0x];simp
  rw [hany,j5,hv,bZ hn,x0f l 0 h0,x0x]
  simp only [x0Z,x0g,x0a,x0b]
  constructor
  ·intro h
   have ha:=h l[0] (x0h h0)
   have hb:=h l[n] (x0h hnl)
   simp only [gJ,aG,x0a,x0b] at ha hb
   omega
  ·intro h k hk
   obtain ⟨i,hi,rfl⟩:=x0G hk
   have a1:=lm hv hi (show 0 <= i by omega)
   have a2:=lm hv hnl (show i <= n by omega)
   have a3:=cR hv hi (show 0 <= i by omega)
   have a4:=cR hv hnl (show i <= n by omega)
   simp only [gJ,aG,x0a,x0b]
   omega
 ·simp [j5,hv]
theorem xN (l : Lnk) : ra l=co l:=by
 have hcur : ∀ x : List (Int × Int),decide (x.length=0)=decide (x=[]):=fun x=>by
  rw [x0x];simp
 have hp:=Bk l.curve
 unfold ra co xL jc gb jk
 simp only [hcur]
 have l0 : bj 0=true:=by decide
 by_cases h1 : l.kind=1
 ·simp [h1]
  ac_rfl
 by_cases h2 : l.kind=2
 ·by_cases hd : l.down=0
  ·simp [h2,hd,l0]
   ac_rfl
  ·simp [h2,hd]
 by_cases h3 : l.kind=3
 ·by_cases hd : l.down=0
  ·simp [h3,hd,l0]
   ac_rfl
  ·simp [h3,hd]
 by_cases h4 : l.kind=4
 ·simp [h4]
  rw [<- hp]
  ac_rfl
 ·simp [h1,h2,h3,h4]
end Go.Gv

namespace Go.Gv
theorem jw {p : Nat -> Bool} (hm : ∀ a b,a <= b -> p a=true -> p b=true) : ∀ (f lo hi : Nat),lo <= hi -> hi - lo < 2 ^ f -> (∀ m,lo <= m -> m < bis p f lo hi -> p m=false) /\ (bis p f lo hi < hi -> p (bis p f lo hi)=true)
 | 0,lo,hi,h1,h2=>by
  simp at h2
  have : lo=hi:=by omega
  subst this
  exact ⟨fun m h3 h4=>absurd h4 (by simp only [bis];omega),fun h3=>absurd h3 (by simp only [bis];omega)⟩
 | f + 1,lo,hi,h1,h2=>by
  rw [x1S] at h2
  by_cases h : lo < hi
  ·by_cases hp : p ((lo + hi) / 2)=true
   ·have e : bis p (f + 1) lo hi=bis p f lo ((lo + hi) / 2):=by simp only [bis];rw [if_pos h,if_pos hp]
    have ih:=jw hm f lo ((lo + hi) / 2) (by omega) (by omega)
    have hr:=de p f lo ((lo + hi) / 2) (by omega)
    rw [e]
    refine ⟨ih.1,fun _=>?_⟩
    by_cases h5 : bis p f lo ((lo + hi) / 2) < (lo + hi) / 2
    ·exact ih.2 h5
    ·have : bis p f lo ((lo + hi) / 2)=(lo + hi) / 2:=by omega
     rw [this];exact hp
   ·have e : bis p (f + 1) lo hi=bis p f ((lo + hi) / 2 + 1) hi:=by simp only [bis];rw [if_pos h,if_neg hp]
    have ih:=jw hm f ((lo + hi) / 2 + 1) hi (by omega) (by omega)
    rw [e]
    refine ⟨fun m h3 h4=>?_,ih.2⟩
    by_cases h5 : (lo + hi) / 2 + 1 <= m
    ·exact ih.1 m h5 h4
    ·cases hpm : p m
     ·rfl
     ·exact absurd (hm m ((lo + hi) / 2) (by omega) hpm) hp
  ·have e : bis p (f + 1) lo hi=lo:=mN p _ _ _ (by omega)
   rw [e]
   exact ⟨fun m h3 h4=>absurd h4 (by omega),fun h3=>absurd h3 h⟩
theorem wT {p : Nat -> Bool} (hm : ∀ a b,a <= b -> p a=true -> p b=true) {f lo hi r : Nat} (h1 : lo <= r) (h2 : r <= hi) (hf : hi - lo < 2 ^ f) (h3 : ∀ m,lo <= m -> m < r -> p m=false) (h4 : r < hi -> p r=true) : bis p f lo hi=r:=by
 obtain ⟨a,b⟩:=jw hm f lo hi (by omega) hf
 obtain ⟨c,d⟩:=de p f lo hi (by omega)
 rcases Nat.lt_trichotomy (bis p f lo hi) r with h | h | h
 ·have e1:=h3 _ c h
  rw [b (by omega)] at e1;cases e1
 ·exact h
 ·have e1:=a r h1 h
  rw [h4 (by omega)] at e1;cases e1
theorem wW {x b n : Nat} (hb : 0 < b) : ng x b <= n ↔ x <= b * n:=by
 have h1:=x06 x b
 have h2:=x1b x hb
 unfold ng
 constructor
 ·intro h
  split at h
  ·have:=x1f b h
   omega
  ·have:=x1f b h
   rw [x1G,Nat.mul_one] at this
   omega
 ·intro h
  split
  ·refine Nat.le_of_mul_le_mul_left (c:=b) ?_ hb
   omega
  ·refine Nat.lt_of_mul_lt_mul_left (a:=b) ?_
   omega
theorem xS (k f n : Nat) : nC k f n=fo k f n:=by
 unfold nC fo
 by_cases hf : f=0
 ·rw [if_pos hf,if_pos hf]
 rw [if_neg hf,if_neg hf]
 by_cases hk : k=0
 ·rw [if_pos hk,if_pos hk]
 rw [if_neg hk,if_neg hk]
 have hkk : 0 < k * k:=Nat.mul_pos (by omega) (by omega)
 have key : ∀ i,ca k f n i=decide (ng (f * f * n) (k * k) <= i):=fun i=>by
  rw [x0x,ca,x0b,x0b,wW hkk]
 obtain ⟨c,hc⟩ : ∃ c,c=ng (f * f * n) (k * k):=⟨_,rfl⟩
 rw [<- hc] at key ⊢
 by_cases h : 1073741824 < c
 ·rw [if_pos h,if_neg (by rw [key,x0b];omega)]
 ·rw [if_neg h,if_pos (by rw [key,x0b];omega)]
  rw [wT (p:=ca k f n) (r:=c) (fun a b hab ha=>?_) (by omega) (by omega) (by decide) (fun m _ hm=>?_) (fun _=>?_)]
  ·rw [key,x0b] at ha ⊢;omega
  ·rw [key,x0H];omega
  ·rw [key,x0b];exact x0p _
theorem ko : ∀ (i x r : Nat),r * r <= x -> x < (r + 2 ^ i) * (r + 2 ^ i) -> ga x i r * ga x i r <= x /\ x < (ga x i r + 1) * (ga x i r + 1)
 | 0,x,r,h1,h2=>⟨h1,h2⟩
 | i + 1,x,r,h1,h2=>by
  rw [iE]
  have e : (2 : Nat) ^ (i + 1)=2 ^ i + 2 ^ i:=by rw [x1S];omega
  rw [e,<- x0L] at h2
  by_cases h : (r + 2 ^ i) * (r + 2 ^ i) <= x
  ·rw [if_pos h];exact ko i x _ h h2
  ·rw [if_neg h];exact ko i x _ h1 (by omega)
theorem nY {x : Nat} (h : x < 85070591730234615865843651857942052864) : di x * di x <= x /\ x < (di x + 1) * (di x + 1):=by
 refine ko 63 x 0 (by omega) ?_
 have e : (0 + 2 ^ 63) * (0 + 2 ^ 63)=85070591730234615865843651857942052864:=by decide +kernel
 rw [e];exact h
theorem tq {x y : Nat} (h : x <= y) (hy : y < 85070591730234615865843651857942052864) : di x <= di y:=by
 obtain ⟨a,_⟩:=nY (x:=x) (by omega)
 obtain ⟨_,d⟩:=nY hy
 apply x1B
 intro hlt
 have:=x0O (show di y + 1 <= di x from hlt) (show di y + 1 <= di x from hlt)
 omega
theorem oM {t : List (Int × Int)} {x : Int} (hv : aq t=true) (ha : ¬ atK t x=true) (h0 : ¬ aT t x=0) (h1 : ¬ aT t x=t.length) :
  ∃ k,∃ (g0 : k < t.length) (g1 : k + 1 < t.length),aT t x=k + 1 /\ t[k].1 < x /\ x < t[k + 1].1 /\ t[k].2 <= (bf t x).1 /\ (bf t x).1 <= t[k + 1].2:=by
 have hpl:=dX t x
 obtain ⟨k,u,a,d,q1,q2,g0,g1,r1,r2,r3,r4,r5,r6,r7,r8,r9,r10,s1,s2,r11,r12,r13⟩:=fc hv h0 (by omega) (by simpa using ha)
 rw [iB ha h0 h1,s1,s2,u6 r1 r2 r3]
 have b5 : u * a / d <= u:=by
  have h1 : u * a <= u * d:=x1f _ (by omega)
  have h1' : u * d=d * u:=x0U _ _
  exact Nat.le_of_lt_succ (x1T (by rw [x1X,x1G];omega))
 generalize u * a / d=q at b5
 exact ⟨k,g0,g1,q1,by omega,by omega,by simp only;omega,by simp only;omega⟩
theorem mM {t : List (Int × Int)} {x : Int} (ha : atK t x=true) : ∃ (hl : aT t x < t.length),t[aT t x].1=x /\ (bf t x).1=t[aT t x].2:=by
 have hl : aT t x < t.length:=by simp [atK] at ha;exact ha.1
 have e : t[aT t x]! = t[aT t x]:=x0f t _ hl
 have h1:=eO (.inl ha)
 simp only [atK,hl,decide_true,x0Z,x0b,e] at ha
 exact ⟨hl,ha,by rw [h1,e]⟩
theorem rE {t : List (Int × Int)} (hv : aq t=true) {x : Int} {j : Nat} (hj : j < t.length) (h : x <= t[j].1) : (bf t x).1 <= t[j].2:=by
 have hp:=eP hj h
 by_cases ha : atK t x=true
 ·obtain ⟨hl,_,e⟩:=mM ha
  rw [e];exact cR hv hj hp
 by_cases h0 : aT t x=0
 ·rw [eO (.inr h0),h0,x0f t 0 (by omega)]
  exact cR hv hj (by omega)
 obtain ⟨k,g0,g1,q1,_,_,_,q2⟩:=oM hv ha h0 (by omega)
 have:=cR hv hj (show k + 1 <= j by omega)
 omega
theorem pm {t : List (Int × Int)} (hv : aq t=true) {x : Int} {i : Nat} (hi : i < t.length) (h : t[i].1 <= x) : t[i].2 <= (bf t x).1:=by
 have hpl:=dX t x
 by_cases ha : atK t x=true
 ·obtain ⟨hl,e1,e⟩:=mM ha
  rw [e]
  by_cases hip : i <= aT t x
  ·exact cR hv hl hip
  ·have:=im hv (aT t x) i hi (by omega)
   omega
 by_cases h0 : aT t x=0
 ·rw [eO (.inr h0),h0,x0f t 0 (by omega)]
  have h1:=gr (t:=t) (x:=x) (by omega)
  simp only [h0] at h1
  have hi0 : i=0:=by
   apply Classical.byContradiction
   intro hne
   have:=im hv 0 i hi (by omega)
   omega
  subst hi0
  exact x0S _
 by_cases h1 : aT t x=t.length
 ·obtain ⟨n,hn⟩ : ∃ n,n + 1=t.length:=⟨t.length - 1,by omega⟩
  rw [iC ha h0 h1,show aT t x - 1=n by omega,x0f t n (by omega)]
  exact cR hv (by omega) (by omega)
 obtain ⟨k,g0,g1,q1,_,q3,q4,_⟩:=oM hv ha h0 h1
 have hik : i <= k:=by
  apply x1B
  intro hne
  have:=lm hv hi (show k + 1 <= i by omega)
  omega
 have:=cR hv g0 hik
 omega
theorem tj {t : List (Int × Int)} (hv : aq t=true) {x y : Int} (h : x <= y) : (bf t x).1 <= (bf t y).1:=by
 obtain ⟨l1,l2⟩:=bk hv
 have hpx:=dX t x
 have hpy:=dX t y
 by_cases hk : ∃ j,∃ (hj : j < t.length),x <= t[j].1 /\ t[j].1 <= y
 ·obtain ⟨j,hj,h1,h2⟩:=hk
  have:=rE hv hj h1
  have:=pm hv hj h2
  omega
 have nk : ∀ j,(hj : j < t.length) -> x <= t[j].1 -> y < t[j].1:=fun j hj h1=>by
  apply Classical.byContradiction
  intro hn
  exact hk ⟨j,hj,h1,by omega⟩
 have hax : ¬ atK t x=true:=fun ha=>by
  obtain ⟨hl,e1,_⟩:=mM ha
  have:=nk _ hl (by omega)
  omega
 have hay : ¬ atK t y=true:=fun ha=>by
  obtain ⟨hl,e1,_⟩:=mM ha
  exact hk ⟨_,hl,by omega,by omega⟩
 have hpp : aT t y=aT t x:=by
  apply Nat.le_antisymm
  ·by_cases hl : aT t x < t.length
   ·have h1:=gr hl
    have:=nk _ hl h1
    exact eP hl (by omega)
   ·omega
  ·apply x1B
   intro hlt
   have h1:=gr (t:=t) (x:=y) (by omega)
   have h2:=kY (t:=t) (x:=x) hlt (by omega)
   omega
 by_cases h0 : aT t x=0
 ·rw [eO (.inr h0),eO (.inr (by omega)),hpp];exact x0S _
 by_cases h1 : aT t x=t.length
 ·rw [iC hax h0 h1,iC hay (by omega) (by omega),hpp];exact x0S _
 obtain ⟨k,u,a,d,q1,q2,g0,g1,r1,r2,r3,r4,r5,r6,r7,r8,r9,r10,s1,s2,r11,r12,r13⟩:=fc hv h0 (by omega) (by simpa using hax)
 rw [iB hax h0 h1,iB hay (by omega) (by omega),hpp,s1,s2,u6 r1 r2 r3]
 have r2' : y - t[k].1=((a + (y - x).toNat : Nat) : Int):=by omega
 rw [u6 r1 r2' r3]
 have:=Nat.div_le_div_right (c:=d) (x1f u (show a <= a + (y - x).toNat by omega))
 simp only
 omega
theorem ve {s : Sec} (hv : ap s=true) {fall len x y : Int} (hs : bB fall len=true) (h : x <= y) : iW s x fall len <= iW s y fall len:=by
 obtain ⟨h1,_,_,_⟩:=dM hv
 have c1:=kG hv x
 have c2:=kG hv y
 have hm:=tj h1 h
 simp only [bB,x0a,x0b] at hs
 unfold iW
 have hk : (bf s.conv x).1.toNat <= (bf s.conv y).1.toNat:=by omega
 have hb:=sA (k:=(bf s.conv y).1.toNat) (f:=fall.toNat) (by omega) (by omega)
 have hb2:=Nat.div_le_self ((bf s.conv y).1.toNat * (bf s.conv y).1.toNat * fall.toNat) len.toNat
 refine tq (Nat.div_le_div_right (x0s _ (x0O hk hk))) (by omega)
theorem oU (s : Sec) (flow fall len : Int) : dt s flow fall len=cD s flow fall len:=by
 unfold dt cD
 by_cases hv : ap s=true
 ·rw [if_pos hv,if_pos hv]
  by_cases hc : 0 <= flow /\ flow <= 1099511627776 /\ bB fall len=true
  ·rw [if_pos hc,if_pos hc]
   have hh : 1 <= s.height /\ s.height <= 32768:=by
    simp only [ap,x0a,x0b] at hv
    omega
   have h40 : (2 : Nat) ^ 40=1099511627776:=by decide +kernel
   obtain ⟨H,hH⟩ : ∃ H : Nat,s.height=H:=⟨s.height.toNat,by omega⟩
   have hm : ∀ a b,a <= b -> bS s flow fall len a=true -> bS s flow fall len b=true:=fun a b hab ha=>by
    simp only [bS,x0b] at ha ⊢
    have:=ve hv hc.2.2 (show (a : Int) <= (b : Int) by omega)
    omega
   rw [hH,x1D]
   unfold gE
   rw [hH,x1D]
   have hp : ((iW s H fall len : Int) < flow) ↔ ¬ bS s flow fall len H=true:=by
    simp only [bS,x0b];omega
   obtain ⟨a,b⟩:=jw hm 40 0 (H + 1) (by omega) (by rw [h40];omega)
   have hr:=de (bS s flow fall len) 40 0 (H + 1) (by omega)
   obtain ⟨L,hL⟩ : ∃ L,L=bis (bS s flow fall len) 40 0 (H + 1):=⟨_,rfl⟩
   rw [<- hL] at a b hr ⊢
   by_cases he : bS s flow fall len H=true
   ·have hLH : L <= H:=by
     apply x1B
     intro hlt
     have:=a H (by omega) hlt
     rw [he] at this;cases this
    rw [if_neg (by rw [hp];simp [he]),if_neg (by omega)]
    rw [wT hm (r:=L) (by omega) hLH (by rw [h40];omega) a (fun _=>b (by omega))]
   ·have hLH : H < L:=by
     apply Nat.lt_of_not_le
     intro hle
     exact he (hm L H hle (b (by omega)))
    rw [if_pos (hp.2 he),if_pos hLH]
  ·rw [if_neg hc,if_neg hc]
 ·rw [if_neg hv,if_neg hv]
theorem sT (a b : Int) : grI a b=mxI a b:=by unfold grI mxI;split <;> split <;> omega
theorem rj (l : Lnk) (s : Sec) (f : Int) : gX l s f=b9 l s f:=xS _ _ _
theorem xI (l : Lnk) (s : Sec) (f v : Int) : tT l s f v=i8 l s f v:=by
 unfold tT i8
 rw [rj,sT]
theorem wV {s : Sec} (hv : ap s=true) (fall len : Int) : iW s s.height fall len=kC s fall len:=by
 obtain ⟨h1,h2,_,_⟩:=dM hv
 obtain ⟨l1,l2⟩:=bk h1
 obtain ⟨n,hn⟩ : ∃ n,n + 1=s.conv.length:=⟨s.conv.length - 1,by omega⟩
 have hnl : n < s.conv.length:=by omega
 have e : (bf s.conv s.height).1=(cZ s.conv).2:=by
  rw [bZ hn] at h2 ⊢
  have a:=rE h1 hnl (x:=s.height) (by omega)
  have b:=pm h1 hnl (x:=s.height) (by omega)
  omega
 unfold iW kC
 rw [e]
theorem uW {l : Lnk} {s : Sec} {f v : Int} (hv : ap s=true) (hl : 1 <= l.len /\ l.len <= 16777216) (hd : l.down <= l.up) (hf : 0 <= f /\ f <= 1099511627776) : lx l s f v=bR l s f v:=by
 have hs : bB (bE l) l.len=true:=by
  simp only [bB,x0a,x0b]
  unfold bE
  split <;> omega
 have hcap:=wV hv (bE l) l.len
 have hD : (dt s f (bE l) l.len).2=0 ↔ f <= (kC s (bE l) l.len : Int):=by
  unfold dt
  rw [if_pos hv,if_pos ⟨hf.1,hf.2,hs⟩,hcap]
  constructor
  ·intro h
   split at h
   ·simp at h
   ·omega
  ·intro h
   rw [if_neg (by omega)]
 have hL : iy l s f v=true ↔ (v < l.down + s.height /\ f <= (kC s (bE l) l.len : Int)):=by
  simp only [iy,x0a,x0F,x0b]
  unfold fU
  rw [if_pos hv,if_pos hs]
  by_cases hc : 1099511627776 < kC s (bE l) l.len
  ·rw [if_pos hc]
   simp only
   constructor
   ·intro h;exact ⟨h.1,by omega⟩
   ·intro h;exact ⟨h.1,.inl trivial⟩
  ·rw [if_neg hc]
   simp only
   constructor
   ·intro h;exact ⟨h.1,by rcases h.2 with h | h <;> omega⟩
   ·intro h;exact ⟨h.1,.inr ⟨trivial,h.2⟩⟩
 unfold lx
 by_cases hb : iy l s f v=true
 ·have h1:=hL.1 hb
  rw [dK hb,if_pos ⟨hD.2 h1.2,h1.1⟩]
  have h2:=hD.2 h1.2
  unfold oE
  rw [oU] at h2 ⊢
  rw [if_pos h2,sT]
 ·rw [eE hb,if_neg (fun h=>hb (hL.2 ⟨h.2,hD.1 h.1⟩)),xI]
end Go.Gv

namespace Go.Gv
abbrev Edg:=Nat × Nat
def edK (e : Edg) : List D:=knD ((e.1 : Int),(e.2 : Int))
def edI (e : Edg) : Int × Int:=((e.1 : Int),(e.2 : Int))
theorem tL (es : List Edg) : es.map edK=(es.map edI).map knD:=by simp [edK,edI]
def a7 (l : List Nat) : List (List D):=l.map fun k : Nat=>[.int .i64 (k : Int)]
def inG (n : Nat) (es : List Edg) : Prop:=∀ e ∈ es,e.1 < n /\ e.2 < n
def nxt (n : Nat) (es : List Edg) (i : Nat) : List Nat:=(List.range n).filter fun k=>es.contains (i,k)
theorem gn {n : Nat} {es : List Edg} {i k : Nat} : k ∈ nxt n es i ↔ k < n /\ (i,k) ∈ es:=by simp [nxt]
theorem pg (n : Nat) (es : List Edg) (i : Nat) : (nxt n es i).Nodup:=List.Pairwise.filter _ List.nodup_range
theorem ud (n : Nat) (es : List Edg) (i : Nat) : (nxt n es i).length <= n:=by
 have:=x03 (fun k=>es.contains (i,k)) (List.range n)
 simpa [nxt] using this
theorem iH {α : Type} {n k : Nat} {f : Nat -> α} (x : α) : ((List.range n).map f).set k x=(List.range n).map fun v=>if v=k then x else f v:=by
 apply x1L
 ·simp
 ·intro i h1 h2
  simp only [List.getElem_set,x1K,List.getElem_range]
  by_cases e : k=i
  ·rw [if_pos e,if_pos e.symm]
  ·rw [if_neg e,if_neg (Ne.symm e)]
def tgs (es : List Edg) (i : Nat) : List Nat:=(es.filter fun e=>e.1 == i).map (·.2)
theorem mS {es : List Edg} {i k : Nat} : k ∈ tgs es i ↔ (i,k) ∈ es:=by
 unfold tgs
 simp only [x0u,List.mem_filter,x0n]
 constructor
 ·rintro ⟨⟨a,b⟩,⟨h1,h2⟩,h3⟩
  simp only at h2 h3
  subst h2 h3
  exact h1
 ·intro h
  exact ⟨(i,k),⟨h,rfl⟩,rfl⟩
theorem si {es : List Edg} {j : Nat} (hj : j < es.length) (v : Nat) : tgs (es.take (j + 1)) v=tgs (es.take j) v++(if es[j].1=v then [es[j].2] else []):=by
 unfold tgs
 rw [x0v hj,x1P,x1o]
 congr 1
 by_cases h : es[j].1=v <;> simp [h]
theorem mZ (es : List Edg) (i : Nat) : (tgs es i).length <= es.length:=by
 unfold tgs
 rw [x1n]
 exact x03 _ _
def f9 (es : List Edg) (out : List Nat) (v : Nat) : Bool:=es.all fun e=>!(e.2 == v) || out.contains e.1
theorem kZ {es : List Edg} {out : List Nat} {v : Nat} : f9 es out v=true ↔ ∀ u,(u,v) ∈ es -> u ∈ out:=by
 unfold f9
 simp only [x0g,x0F,x0t,beq_eq_false_iff_ne,x0I]
 constructor
 ·intro h u hu
  rcases h _ hu with h | h
  ·exact absurd rfl h
  ·exact h
 ·rintro h ⟨a,b⟩ he
  by_cases e : b=v
  ·subst e;exact .inr (h a he)
  ·exact .inl e
def cI (n : Nat) (es : List Edg) (out : List Nat) : List Nat:=(List.range n).filter fun v=>!out.contains v && f9 es out v
theorem gY {n : Nat} {es : List Edg} {out : List Nat} {v : Nat} : v ∈ cI n es out ↔ v < n /\ v ∉ out /\ ∀ u,(u,v) ∈ es -> u ∈ out:=by
 simp only [cI,List.mem_filter,x1C,x0a,x0t,<- kZ]
 simp
def jt (n : Nat) (es : List Edg) (out : List Nat) : List Nat:=match cI n es out with
 | []=>out
 | v::_=>out++[v]
def aF (n : Nat) (es : List Edg) : Nat -> List Nat
 | 0=>[]
 | m + 1=>jt n es (aF n es m)
def bi (n : Nat) (es : List Edg) : List Nat:=aF n es n
def fe (n : Nat) (es : List Edg) (out : List Nat) (k : Nat) : Nat:=((List.range n).filter fun u=>es.contains (u,k) && !out.contains u).length
def lE (es : List Edg) (i k : Nat) : Nat:=((List.range i).filter fun u=>es.contains (u,k)).length
theorem w6 (n : Nat) (es : List Edg) (k : Nat) : lE es n k=fe n es [] k:=by
 unfold lE fe
 congr 1
 apply List.filter_congr
 simp
theorem vh (es : List Edg) (i k : Nat) : lE es (i + 1) k=lE es i k + (if (i,k) ∈ es then 1 else 0):=by
 unfold lE
 rw [x1w,x1P,x0T]
 by_cases h : (i,k) ∈ es <;> simp [h]
theorem Av (es : List Edg) (i k : Nat) : lE es i k <= i:=by
 have:=x03 (fun u=>es.contains (u,k)) (List.range i)
 simpa [lE] using this
theorem oP {n : Nat} {es : List Edg} (hg : inG n es) {out : List Nat} {k : Nat} : fe n es out k=0 ↔ f9 es out k=true:=by
 rw [kZ]
 unfold fe
 rw [List.length_eq_zero_iff,List.filter_eq_nil_iff]
 constructor
 ·intro h u hu
  have:=h u (by simpa using (hg _ hu).1)
  simp at this
  exact this hu
 ·intro h u hu
  simp
  exact fun he=>h u he
theorem lH {α : Type} (l : List α) (p q : α -> Bool) : (l.filter p).length=(l.filter fun a=>p a && q a).length + (l.filter fun a=>p a && !q a).length:=by
 induction l with
 | nil=>rfl
 | cons a l ih =>
  simp only [List.filter_cons]
  cases p a <;> cases q a <;> simp <;> omega
theorem oO {n : Nat} {es : List Edg} {out : List Nat} {i : Nat} (hi : i < n) (ho : i ∉ out) (k : Nat) : fe n es out k=fe n es (out++[i]) k + (if (i,k) ∈ es then 1 else 0):=by
 unfold fe
 rw [lH (List.range n) (fun u=>es.contains (u,k) && !out.contains u) (fun u=>!(u == i))]
 congr 1
 ·congr 1
  apply List.filter_congr
  intro u _
  rw [x0x]
  simp [and_assoc]
 ·have e : (List.range n).filter (fun a=>(es.contains (a,k) && !out.contains a) && !!(a == i))=if (i,k) ∈ es then [i] else []:=by
   have h1 : (List.range n).filter (fun a=>(es.contains (a,k) && !out.contains a) && !!(a == i))=((List.range n).filter (fun a=>a == i)).filter fun a=>es.contains (a,k) && !out.contains a:=by
    rw [List.filter_filter]
    apply List.filter_congr
    intro u _
    simp
   have h2 : (List.range n).filter (fun a=>a == i)=[i]:=by
    have : (List.range n).filter (fun a=>a == i)=List.replicate ((List.range n).count i) i:=List.filter_beq i
    rw [this,List.nodup_range.count,if_pos (by simpa using hi)]
    rfl
   rw [h1,h2]
   by_cases h : (i,k) ∈ es <;> simp [h,ho]
  rw [e]
  split <;> rfl
end Go.Gv

namespace Go.Gv
structure SlC (C : CC) : Prop where
 sort : ∀ zs : List Int,zs.length < 2 ^ 40 -> C 366 [.own 1 (zs.map fun n=>[.int .i64 n])] .any [.own 1 ((zs.mergeSort fun x y=>decide (x <= y)).map fun n=>[.int .i64 n]),.nilp]
 compact : ∀ zs : List Int,zs.length < 2 ^ 40 -> C 523 [.own 1 (zs.map fun n=>[.int .i64 n])] .any [.own 1 ((Lib.compact zs).map fun n=>[.int .i64 n]),.nils,.nils]
 insert : ∀ (zs : List Int) (i : Nat) (x : Int),i <= zs.length -> zs.length < 2 ^ 40 -> C 519 [.own 1 (zs.map fun n=>[.int .i64 n]),.int .i64 i,.own 1 [[.int .i64 x]]] .any [.own 1 ((zs.take i++x::zs.drop i).map fun n=>[.int .i64 n]),.nils,.nils]
theorem ku : ∀ {l l' : List Int},l.Pairwise (· < ·) -> l'.Pairwise (· < ·) -> (∀ x,x ∈ l ↔ x ∈ l') -> l=l'
 | [],[],_,_,_=>rfl
 | [],b::_,_,_,h=>by simpa using (h b).2 (by simp)
 | a::_,[],_,_,h=>by simpa using (h a).1 (by simp)
 | a::l,b::l',h1,h2,h=>by
  rw [List.pairwise_cons] at h1 h2
  have e : a=b:=by
   have x1:=(h a).1 (by simp)
   have x2:=(h b).2 (by simp)
   simp only [x0N] at x1 x2
   rcases x1 with x1 | x1
   ·exact x1
   ·rcases x2 with x2 | x2
    ·exact x2.symm
    ·have:=h2.1 a x1;have:=h1.1 b x2;omega
  subst e
  congr 1
  refine ku h1.2 h2.2 fun x=>?_
  have:=h x
  simp only [x0N] at this
  constructor
  ·intro hx
   have h3:=h1.1 x hx
   rcases this.1 (.inr hx) with h4 | h4
   ·omega
   ·exact h4
  ·intro hx
   have h3:=h2.1 x hx
   rcases this.2 (.inr hx) with h4 | h4
   ·omega
   ·exact h4
theorem kF {d : Array Int} (hs : ∀ j,0 < j -> j < d.size -> d[j - 1]! <= d[j]!) : ∀ m,m <= d.size -> (Lib.compactUpTo d m).Pairwise (· < ·) /\ (∀ x,x ∈ Lib.compactUpTo d m ↔ ∃ j,j < m /\ d[j]! = x) /\ ∀ x ∈ Lib.compactUpTo d m,x <= d[m - 1]!
 | 0,_=>by simp [Lib.compactUpTo]
 | m + 1,hm=>by
  obtain ⟨h1,h2,h3⟩:=kF hs m (by omega)
  rw [Lib.compactUpTo_succ]
  by_cases hk : Lib.keeps d m=true
  ·rw [if_pos hk]
   have hlt : ∀ x ∈ Lib.compactUpTo d m,x < d[m]!:=fun x hx=>by
    have h4:=h3 x hx
    simp only [Lib.keeps,x0b] at hk
    rcases hk with rfl | hk
    ·obtain ⟨j,hj,_⟩:=(h2 x).1 hx;omega
    ·rcases x0V m with h0 | h0
     ·subst h0;obtain ⟨j,hj,_⟩:=(h2 x).1 hx;omega
     ·have:=hs m h0 (by omega);omega
   refine ⟨List.pairwise_append.2 ⟨h1,by simp,fun a ha b hb=>by simp at hb;subst hb;exact hlt a ha⟩,fun x=>?_,fun x hx=>?_⟩
   ·simp only [x0o,x1c,h2]
    constructor
    ·rintro (⟨j,hj,rfl⟩ | rfl)
     ·exact ⟨j,by omega,rfl⟩
     ·exact ⟨m,by omega,rfl⟩
    ·rintro ⟨j,hj,rfl⟩
     by_cases e : j=m
     ·exact .inr (by rw [e])
     ·exact .inl ⟨j,by omega,rfl⟩
   ·simp only [x0o,x1c] at hx
    rcases hx with hx | hx
    ·exact Int.le_of_lt (hlt x hx)
    ·rw [hx];exact x0S _
  ·rw [if_neg hk,x02]
   have hm0 : 0 < m:=by
    rcases x0V m with h | h
    ·subst h;exact absurd (Lib.keeps_lt_one d 0 (by omega)) hk
    ·exact h
   have he : d[m]! = d[m - 1]!:=by
    apply Classical.byContradiction
    intro h
    exact hk (Lib.keeps_pos h)
   refine ⟨h1,fun x=>?_,fun x hx=>?_⟩
   ·rw [h2]
    constructor
    ·rintro ⟨j,hj,rfl⟩;exact ⟨j,by omega,rfl⟩
    ·rintro ⟨j,hj,rfl⟩
     by_cases e : j=m
     ·subst e;exact ⟨j - 1,by omega,he.symm⟩
     ·exact ⟨j,by omega,rfl⟩
   ·have:=h3 x hx
    simp only [Nat.add_sub_cancel,he]
    exact this
theorem pN {n : Nat} {es : List Edg} (hg : inG n es) (i : Nat) : Lib.compact (((tgs es i).map fun k : Nat=>(k : Int)).mergeSort fun x y=>decide (x <= y))=(nxt n es i).map fun k : Nat=>(k : Int):=by
 obtain ⟨zs,hz⟩ : ∃ zs,zs=((tgs es i).map fun k : Nat=>(k : Int)).mergeSort fun x y=>decide (x <= y):=⟨_,rfl⟩
 rw [<- hz]
 have hp : zs.Pairwise (· <= ·):=by
  have h:=List.pairwise_mergeSort (le:=fun x y : Int=>decide (x <= y)) (fun a b c h1 h2=>by simp at *;omega) (fun a b=>by simp;omega) ((tgs es i).map fun k : Nat=>(k : Int))
  rw [<- hz] at h
  exact h.imp fun h=>by simpa using h
 have hm : ∀ x,x ∈ zs ↔ ∃ k : Nat,(i,k) ∈ es /\ (k : Int)=x:=fun x=>by
  rw [hz,List.mem_mergeSort,x0u]
  simp only [mS]
 have hs : ∀ j,0 < j -> j < zs.toArray.size -> zs.toArray[j - 1]! <= zs.toArray[j]!:=fun j h1 h2=>by
  have h3 : j < zs.length:=by simpa using h2
  rw [x0f zs.toArray (j - 1) (by simpa using (by omega : j - 1 < zs.length)),x0f zs.toArray j h2]
  exact List.pairwise_iff_getElem.1 hp (j - 1) j (by omega) h3 (by omega)
 obtain ⟨h1,h2,_⟩:=kF hs zs.length (by simp)
 refine ku h1 ?_ fun x=>?_
 ·rw [List.pairwise_map]
  have : (nxt n es i).Pairwise (· < ·):=List.Pairwise.filter _ x1H
  exact this.imp fun h=>by omega
 ·unfold Lib.compact
  rw [h2,x0u]
  constructor
  ·rintro ⟨j,hj,rfl⟩
   rw [x0f zs.toArray j (by simpa using hj)]
   obtain ⟨k,k1,k2⟩:=(hm _).1 (x0h (l:=zs) hj)
   exact ⟨k,gn.2 ⟨(hg _ k1).2,k1⟩,by simpa using k2⟩
  ·rintro ⟨k,hk,rfl⟩
   obtain ⟨j,hj,e⟩:=x0A.1 ((hm k).2 ⟨k,(gn.1 hk).2,rfl⟩)
   exact ⟨j,hj,by rw [x0f zs.toArray j (by simpa using hj)];simpa using e⟩
variable {C : CC} (hC : aw prog C)
include hC
theorem KH (n i : Int) : C 516 [.int .i64 n,.int .i64 i] (.bool (decide (0 <= i) && decide (i < n))) []:=by
 refine ai hC (nf:=N516) rfl rfl ?_
 simp [N516]
 refine ac (fun h=>?_) (fun h=>?_) <;> simp at h <;> simp [h] <;> omega
theorem AV {b : Bool} {xs : List (Int × Int)} {g : Nat} {cs : List D} (p : (Int × Int) -> Bool) (hs : xs.length < 2 ^ 62) (hp : ∀ x ∈ xs,C g (.agg (knD x)::cs) (.bool (p x)) []) : C 522 [slx b (xs.map fun x=>knD x),.fn g cs] (.int .i64 (bx p xs)) []:=by
 refine ai hC (nf:=N522) rfl rfl ?_
 simp [N522]
 refine au Nat (fun i=>[(0,slx b (xs.map fun x=>knD x)),(1,.fn g cs),(7,.int .i64 xs.length),(8,.int .i64 i)]) (fun i=>i <= xs.length /\ ∀ (j : Nat) (h : j < xs.length),j < i -> p xs[j]=false) (fun i=>xs.length - i) 0 (by simp) (by simp) ?_
 rintro i ⟨hi,hj⟩
 simp
 refine ac (fun h=>?_) (fun h=>?_) <;> simp [h] <;> simp at h
 ·have hw : IntKind.wrap .i64 ((i : Int) + 1)=((i + 1 : Nat) : Int):=wrap_i64 (by omega) (by omega)
  have hc:=hp _ (x0h h)
  simp [h,knD] at hc ⊢
  refine aa hc (.inl rfl) ?_
  simp
  refine ac (fun h1=>?_) (fun h1=>?_) <;> simp [h1,hw]
  ·rw [cz hj h h1]
  ·refine ⟨i + 1,⟨by omega,fun j hl hjj=>?_⟩,by omega,rfl⟩
   rcases x0i.1 hjj with h2 | rfl
   ·exact hj j hl h2
   ·exact h1
 ·rw [cH (fun j hl=>hj j hl (by omega))]
theorem AS {b : Bool} {xs : List (Int × Int)} {g : Nat} {cs : List D} (p : (Int × Int) -> Bool) (hs : xs.length < 2 ^ 62) (hp : ∀ x ∈ xs,C g (.agg (knD x)::cs) (.bool (p x)) []) : C 514 [slx b (xs.map fun x=>knD x),.fn g cs] (.bool (xs.any p)) []:=by
 refine ai hC (nf:=N514) rfl rfl ?_
 simp [N514]
 refine aa (AV hC p hs hp) (.inl rfl) ?_
 simp [fX]
def qH (n : Int) (e : Int × Int) : Bool:=!((decide (0 <= e.1) && decide (e.1 < n)) && (decide (0 <= e.2) && decide (e.2 < n)))
theorem Az (n : Int) (e : Int × Int) : C 515 [.agg (knD e),.ptr [.int .i64 n]] (.bool (qH n e)) []:=by
 refine ai hC (nf:=N515) rfl rfl ?_
 simp [N515,knD]
 refine aa (KH hC n e.1) (.inl rfl) ?_
 unfold qH
 cases h : (decide (0 <= e.1) && decide (e.1 < n))
 ·simp
 ·simp
  refine aa (KH hC n e.2) (.inl rfl) ?_
  simp
def gOk (n : Int) (es : List (Int × Int)) : Bool:=decide (0 <= n) && decide (n <= 300) && decide (es.length <= 1000) && !es.any (qH n)
theorem qO (b : Bool) (n : Int) (es : List (Int × Int)) (hl : es.length < 2 ^ 62) : C 503 [.int .i64 n,slx b (es.map knD)] (.bool (gOk n es)) []:=by
 have k1:=AS hC (b:=b) (xs:=es) (g:=515) (cs:=[.ptr [.int .i64 n]]) (qH n) hl (fun x _=>Az hC n x)
 refine ai hC (nf:=N503) rfl rfl ?_
 simp [N503]
 by_cases h1 : n < 0
 ·simp [h1,gOk,show ¬ 0 <= n by omega]
 by_cases h2 : 300 < n
 ·simp [h1,h2,gOk,show ¬ n <= 300 by omega]
 by_cases h3 : (1000 : Int) < es.length
 ·simp [h1,h2,h3,gOk,show ¬ es.length <= 1000 by omega]
 simp [h1,h2,h3]
 refine aa k1 (.inl rfl) ?_
 simp [gOk,show 0 <= n by omega,show n <= 300 by omega,show es.length <= 1000 by omega]
theorem xB {n : Nat} {es : List Edg} (hn : n <= 300) (he : es.length <= 1000) (hg : inG n es) : gOk n (es.map edI)=true:=by
 unfold gOk
 simp only [x0a,x0b,x1n,x0t,x0R,x0u]
 refine ⟨⟨⟨by omega,by omega⟩,he⟩,?_⟩
 rintro x ⟨e,h1,rfl⟩
 obtain ⟨h2,h3⟩:=hg e h1
 simp only [qH,edI,x0t,Bool.not_eq_false',x0a,x0b]
 simp
 omega
end Go.Gv

namespace Go.Gv
section
variable {C : CC} {hs : Option (List Nat)} {K : Env -> Prop} {ns : List az} {dst : Option Nat} {u : Tag (hs,K,ns)} {e : Env} {R : List Nat} {acc : List (List Nat × List Nat)}
theorem bU {sz : Nat} {es : List (List D)} {i : Nat} {c : List D} (h : es[i]? = some c) : jP C hs K ns dst u e R acc sz es i=(c.length=sz /\ dW C hs K ns dst ⟨⟩ e R acc (.ptr c)):=by
 apply propext
 unfold jP dW
 rw [h]
 exact ⟨fun ⟨_,h1,h2⟩=>by cases h1;exact h2,fun h2=>⟨c,rfl,h2⟩⟩
theorem aE {n : Nat} {ag : Bool} {p : Pa} {es : List (List D)} {i off : Nat} {r : List D} (hr : es[i]? = some r) : lY C hs K ns dst u e R acc n ag p es i off=(off + n <= r.length /\ match ag with
    | true=>(((r.drop off).take n).all isV=true -> dW C hs K ns dst ⟨⟩ e R acc (.agg ((r.drop off).take n))) /\
      (((r.drop off).take n).all isV=false -> dW C hs K ns dst ⟨⟩ e R acc (.agx (((r.drop off).take n).mapIdx fun j c=>ldc p i (off + j) c)))
    | false=>dW C hs K ns dst ⟨⟩ e R acc (ldc p i off ((r.drop off).headD .any))):=by
 apply propext
 constructor
 ·rintro ⟨r',h,h1,h2⟩
  rw [hr] at h
  cases h
  refine ⟨h1,?_⟩
  cases ag <;> exact h2
 ·rintro ⟨h1,h2⟩
  refine uv hr h1 ?_
  cases ag <;> exact h2
@[simp] theorem Jj {sz : Nat} {c0 : List D} {es : List (List D)} : jP C hs K ns dst u e R acc sz (c0::es) 0=(c0.length=sz /\ dW C hs K ns dst ⟨⟩ e R acc (.ptr c0)):=bU rfl
theorem yG {n : Nat} {ag : Bool} {p : Pa} {off : Nat} {c0 : List D} {es : List (List D)} : lY C hs K ns dst u e R acc n ag p (c0::es) 0 off=(off + n <= c0.length /\ match ag with
    | true=>(((c0.drop off).take n).all isV=true -> dW C hs K ns dst ⟨⟩ e R acc (.agg ((c0.drop off).take n))) /\
      (((c0.drop off).take n).all isV=false -> dW C hs K ns dst ⟨⟩ e R acc (.agx (((c0.drop off).take n).mapIdx fun j c=>ldc p 0 (off + j) c)))
    | false=>dW C hs K ns dst ⟨⟩ e R acc (ldc p 0 off ((c0.drop off).headD .any))):=aE rfl
@[simp] theorem Jk {sz : Nat} {c0 c1 : List D} {es : List (List D)} : jP C hs K ns dst u e R acc sz (c0::c1::es) 1=(c1.length=sz /\ dW C hs K ns dst ⟨⟩ e R acc (.ptr c1)):=bU rfl
theorem yH {n : Nat} {ag : Bool} {p : Pa} {off : Nat} {c0 c1 : List D} {es : List (List D)} : lY C hs K ns dst u e R acc n ag p (c0::c1::es) 1 off=(off + n <= c1.length /\ match ag with
    | true=>(((c1.drop off).take n).all isV=true -> dW C hs K ns dst ⟨⟩ e R acc (.agg ((c1.drop off).take n))) /\
      (((c1.drop off).take n).all isV=false -> dW C hs K ns dst ⟨⟩ e R acc (.agx (((c1.drop off).take n).mapIdx fun j c=>ldc p 1 (off + j) c)))
    | false=>dW C hs K ns dst ⟨⟩ e R acc (ldc p 1 off ((c1.drop off).headD .any))):=aE rfl
@[simp] theorem Jl {sz : Nat} {c0 c1 c2 : List D} {es : List (List D)} : jP C hs K ns dst u e R acc sz (c0::c1::c2::es) 2=(c2.length=sz /\ dW C hs K ns dst ⟨⟩ e R acc (.ptr c2)):=bU rfl
theorem yI {n : Nat} {ag : Bool} {p : Pa} {off : Nat} {c0 c1 c2 : List D} {es : List (List D)} : lY C hs K ns dst u e R acc n ag p (c0::c1::c2::es) 2 off=(off + n <= c2.length /\ match ag with
    | true=>(((c2.drop off).take n).all isV=true -> dW C hs K ns dst ⟨⟩ e R acc (.agg ((c2.drop off).take n))) /\
      (((c2.drop off).take n).all isV=false -> dW C hs K ns dst ⟨⟩ e R acc (.agx (((c2.drop off).take n).mapIdx fun j c=>ldc p 2 (off + j) c)))
    | false=>dW C hs K ns dst ⟨⟩ e R acc (ldc p 2 off ((c2.drop off).headD .any))):=aE rfl
@[simp] theorem Jm {sz : Nat} {c0 c1 c2 c3 : List D} {es : List (List D)} : jP C hs K ns dst u e R acc sz (c0::c1::c2::c3::es) 3=(c3.length=sz /\ dW C hs K ns dst ⟨⟩ e R acc (.ptr c3)):=bU rfl
theorem yJ {n : Nat} {ag : Bool} {p : Pa} {off : Nat} {c0 c1 c2 c3 : List D} {es : List (List D)} : lY C hs K ns dst u e R acc n ag p (c0::c1::c2::c3::es) 3 off=(off + n <= c3.length /\ match ag with
    | true=>(((c3.drop off).take n).all isV=true -> dW C hs K ns dst ⟨⟩ e R acc (.agg ((c3.drop off).take n))) /\
      (((c3.drop off).take n).all isV=false -> dW C hs K ns dst ⟨⟩ e R acc (.agx (((c3.drop off).take n).mapIdx fun j c=>ldc p 3 (off + j) c)))
    | false=>dW C hs K ns dst ⟨⟩ e R acc (ldc p 3 off ((c3.drop off).headD .any))):=aE rfl
@[simp] theorem Jn {sz : Nat} {c0 c1 c2 c3 c4 : List D} {es : List (List D)} : jP C hs K ns dst u e R acc sz (c0::c1::c2::c3::c4::es) 4=(c4.length=sz /\ dW C hs K ns dst ⟨⟩ e R acc (.ptr c4)):=bU rfl
theorem yK {n : Nat} {ag : Bool} {p : Pa} {off : Nat} {c0 c1 c2 c3 c4 : List D} {es : List (List D)} : lY C hs K ns dst u e R acc n ag p (c0::c1::c2::c3::c4::es) 4 off=(off + n <= c4.length /\ match ag with
    | true=>(((c4.drop off).take n).all isV=true -> dW C hs K ns dst ⟨⟩ e R acc (.agg ((c4.drop off).take n))) /\
      (((c4.drop off).take n).all isV=false -> dW C hs K ns dst ⟨⟩ e R acc (.agx (((c4.drop off).take n).mapIdx fun j c=>ldc p 4 (off + j) c)))
    | false=>dW C hs K ns dst ⟨⟩ e R acc (ldc p 4 off ((c4.drop off).headD .any))):=aE rfl
attribute [simp] yG yH yI yJ yK
end
end Go.Gv
