/-
  Texts of the proof: Q12, Q22, BL1, BL2, BL3, BL4, S4, S3, Q8, Q9, Q10, K13, M2, Q14, Q15, GvX3, GvX4, BT0, Q16, Q17, Q11, Q13, Q18, Q19, Q23, Q20, Q24, Q26, BT1, BT2, BT3, BT3b, Q28, S0, Q29, Q30, Q25, Q31, Q32, Q33, Q34, Q35, BT4, BT5, B10a, BT6, BT7, BT8, Q37, Q38, BT9, BT10.
-/
import Derived.Test.YtabkicbiibfnbaaGreatX7
import Derived.Test.YtabkicbiibfnbaaGreatX6
set_option linter.all false
namespace Go.Gv
def wS (s : Sp) : Sp:=(IntKind.wrap .i64 s.1,IntKind.wrap .i64 s.2)
def adS (a b : Sp) : Sp:=(a.1 + b.1,a.2 + b.2)
theorem yc (a b : Int) : IntKind.wrap .i64 (IntKind.wrap .i64 a + b)=IntKind.wrap .i64 (a + b):=by
 simp only [IntKind.wrap_i64]
 omega
theorem BY (a b : Sp) : vw (wS a) b=wS (adS a b):=by
 simp only [vw,wS,adS,yc]
def di (P : Nat -> Bool) (o : Nat -> Sp) : Nat -> Sp
 | 0=>(0,0)
 | k + 1=>if P k then adS (di P o k) (o k) else di P o k
theorem dZ {P P' : Nat -> Bool} {o o' : Nat -> Sp} : ∀ {K : Nat},(∀ k,k < K -> P k=P' k /\ (P k=true -> o k=o' k)) -> di P o K=di P' o' K
 | 0,_=>rfl
 | K + 1,h=>by
  obtain ⟨h1,h2⟩:=h K (by omega)
  have ih:=dZ (K:=K) (fun k hk=>h k (by omega))
  unfold di
  rw [ih,<- h1]
  cases hP : P K
  ·rfl
  ·simp only [if_true];rw [h2 hP]
theorem gj (a : Sp) : adS a (0,0)=a:=by simp [adS]
theorem uo (a b c : Sp) : adS (adS a b) c=adS (adS a c) b:=by simp only [adS];congr 1 <;> omega
theorem oo (a b c : Sp) : adS (adS a b) c=adS a (adS b c):=by simp only [adS];congr 1 <;> omega
theorem rn {P P' : Nat -> Bool} {o o' : Nat -> Sp} {k0 : Nat} (h : ∀ k,k ≠ k0 -> P' k=P k /\ o' k=o k) (h0 : P k0=false) : ∀ K,di P' o' K=adS (di P o K) (if k0 < K /\ P' k0=true then o' k0 else (0,0))
 | 0=>by simp [di,adS]
 | K + 1=>by
  have ih:=rn h h0 K
  unfold di
  by_cases e : K=k0
  ·subst e
   have e1 : ¬ (K < K /\ P' K=true):=fun h=>Nat.lt_irrefl _ h.1
   rw [if_neg e1,gj] at ih
   rw [h0,ih]
   cases hP : P' K
   ·simp [adS]
   ·simp
  ·obtain ⟨h1,h2⟩:=h K e
   rw [h1,h2,ih]
   have e2 : (k0 < K + 1 /\ P' k0=true) ↔ (k0 < K /\ P' k0=true):=⟨fun x=>⟨by omega,x.2⟩,fun x=>⟨by omega,x.2⟩⟩
   by_cases c : k0 < K /\ P' k0=true
   ·rw [if_pos c,if_pos (e2.2 c)]
    cases P K
    ·rfl
    ·simp only [if_true];exact uo _ _ _
   ·rw [if_neg c,if_neg (fun x=>c (e2.1 x)),gj,gj]
theorem mZ {es : List Edg} {i : Nat} {s : FSt} : ∀ {K : Nat},K <= es.length -> (∀ k,(h : k < es.length) -> k < K -> es[k].1 ≠ i) -> flI es i s K=s
 | 0,_,_=>rfl
 | K + 1,hK,h=>by
  have hk : K < es.length:=by omega
  unfold flI
  rw [mZ (by omega) (fun k h1 h2=>h k h1 (by omega)),x0g es K hk,lW,if_neg (h K hk (by omega))]
theorem tm {es : List Edg} {i : Nat} {s : FSt} {k0 : Nat} (hk0 : k0 < es.length) (hi : es[k0].1=i) (hu : ∀ k,(h : k < es.length) -> es[k].1=i -> k=k0) : ∀ {K : Nat},K <= es.length -> k0 < K -> flI es i s K=lW i k0 es[k0] s
 | 0,_,h=>by omega
 | K + 1,hK,h=>by
  have hk : K < es.length:=by omega
  unfold flI
  rw [x0g es K hk]
  by_cases e : K=k0
  ·subst e
   rw [mZ (by omega) (fun k h1 h2 e=>by have:=hu k h1 e;omega)]
  ·rw [tm hk0 hi hu (by omega) (by omega),lW,if_neg (fun e2=>e (hu K hk e2))]
theorem qP (n : Nat) (es : List Edg) (m : Nat) : ∀ k,aM n es m <+: aM n es (m + k)
 | 0=>List.prefix_refl _
 | k + 1=>by
  refine (qP n es m k).trans ?_
  show _ <+: iT n es (aM n es (m + k))
  unfold iT
  split
  ·exact List.prefix_refl _
  ·exact List.prefix_append _ _
theorem lH (n : Nat) (es : List Edg) : ∀ m k,(aM n es (m + k)).length <= (aM n es m).length + k
 | m,0=>by simp
 | m,k + 1=>by
  have ih:=lH n es m k
  show (iT n es (aM n es (m + k))).length <= _
  unfold iT
  split
  ·omega
  ·simp;omega
theorem jh {n : Nat} {es : List Edg} (h : (aX n es).length=n) {m : Nat} (hm : m <= n) : (aX n es).take m=aM n es m /\ (aM n es m).length=m:=by
 have h1:=lH n es 0 m
 have h2:=lH n es m (n - m)
 have h3:=qP n es m (n - m)
 rw [show m + (n - m)=n by omega] at h2 h3
 simp only [x05] at h1
 have h4 : (aM n es 0).length=0:=rfl
 have hl : (aM n es m).length=m:=by
  have h5 : (aM n es n).length=n:=h
  omega
 refine ⟨?_,hl⟩
 obtain ⟨t,ht⟩:=h3
 show (aM n es n).take m=_
 rw [<- ht,List.take_append_of_le_length (by omega),x0p (by omega)]
theorem nR {es : List Edg} (h : (es.map (·.1)).Nodup) {k k' : Nat} (hk : k < es.length) (hk' : k' < es.length) (e : es[k].1=es[k'].1) : k=k':=by
 have h1 : k < (es.map (·.1)).length:=by simpa using hk
 have h2 : k' < (es.map (·.1)).length:=by simpa using hk'
 have:=(List.getElem_inj (xs:=es.map (·.1)) (i:=k) (j:=k') (h₀:=h1) (h₁:=h2) h).1 (by simpa using e)
 exact this
def inT (es : List Edg) (v : Nat) (done : List Nat) (k : Nat) : Bool:=decide (es[k]!.2=v) && done.contains es[k]!.1
theorem tn {n : Nat} {es : List Edg} (hg : inG n es) (ht : cw n es=true) {l : List Sp} (hl : ∀ v,v < n -> wS l[v]! = l[v]!) : ∀ m,m <= n ->
  (∀ k,(h : k < es.length) -> es[k].1 ∈ (aX n es).take m -> (flO es (aX n es) (flS l) m).2 k=(flO es (aX n es) (flS l) m).1 es[k].1) /\
  (∀ v,v < n -> (flO es (aX n es) (flS l) m).1 v=wS (adS l[v]! (di (inT es v ((aX n es).take m)) (flO es (aX n es) (flS l) m).2 es.length)))
 | 0,_=>by
  refine ⟨fun k h hk=>by simp at hk,fun v hv=>?_⟩
  have : di (inT es v ((aX n es).take 0)) (flS l).2 es.length=di (fun _=>false) (flS l).2 es.length:=dZ fun k hk=>⟨by simp [inT],fun h=>by simp [inT] at h⟩
  have hz : ∀ K,di (fun _=>false) (flS l).2 K=(0,0):=fun K=>by
   induction K with
   | zero=>rfl
   | succ K ih=>unfold di;simpa using ih
  show l[v]! = wS (adS l[v]! (di (inT es v ((aX n es).take 0)) (flS l).2 es.length))
  rw [this,hz,gj,hl v hv]
 | m + 1,hm=>by
  simp only [cw,x0a,x0c] at ht
  obtain ⟨hnd,hlen⟩:=ht
  obtain ⟨ih1,ih2⟩:=tn hg (by simp [cw,hnd,hlen]) hl m (by omega)
  obtain ⟨t1,t2⟩:=jh hlen (show m <= n by omega)
  obtain ⟨t3,t4⟩:=jh hlen hm
  have hml : m < (aX n es).length:=by omega
  have hI:=gT n es m
  have hI':=gT n es (m + 1)
  have htk : (aX n es).take (m + 1)=(aX n es).take m++[(aX n es)[m]]:=x0u hml
  obtain ⟨i,hi⟩ : ∃ i,i=(aX n es)[m]:=⟨_,rfl⟩
  rw [<- hi] at htk
  have hin : i ∈ aM n es (m + 1):=by rw [<- t3,htk];simp
  have hni : i ∉ (aX n es).take m:=by
   have:=hI'.nd
   rw [<- t3,htk,x1t] at this
   exact fun h=>this.2.2 i h i (by simp) rfl
  have hcl : ∀ u v,u ∈ (aX n es).take m -> (v,u) ∈ es -> v ∈ (aX n es).take m:=fun u v hu he=>by rw [t1] at hu ⊢;exact hI.pre u hu v he
  have hself : (i,i) ∉ es:=by
   intro he
   have : cT n es (aM n es m) ≠ []:=by
    intro e
    have:=kM e 1
    rw [this] at t4
    omega
   cases hr : cT n es (aM n es m) with
   | nil=>exact this hr
   | cons j r =>
    have e1:=lI hr
    have e2 : j=i:=by
     have h5 : aM n es m++[j]=aM n es m++[i]:=by rw [<- e1,<- t3,htk,t1]
     simpa using h5
    have hj : j ∈ cT n es (aM n es m):=by rw [hr];simp
    rw [e2] at hj
    obtain ⟨_,h6,h7⟩:=gx.1 hj
    exact h6 (h7 i he)
  obtain ⟨s,hs⟩ : ∃ s,s=flO es (aX n es) (flS l) m:=⟨_,rfl⟩
  have efl : flO es (aX n es) (flS l) (m + 1)=flI es i s es.length:=by rw [flO,x0g _ m hml,<- hi,<- hs]
  rw [efl]
  rw [<- hs] at ih1 ih2
  by_cases hx : ∃ k,∃ h : k < es.length,es[k].1=i
  ·obtain ⟨k0,hk0,e0⟩:=hx
   have hu : ∀ k,(h : k < es.length) -> es[k].1=i -> k=k0:=fun k h e=>nR hnd h hk0 (e.trans e0.symm)
   rw [tm hk0 e0 hu (x0k _) hk0,lW,if_pos e0]
   have het : (i,es[k0].2) ∈ es:=by rw [<- e0];exact x0h hk0
   have hti : es[k0].2 ≠ i:=fun e=>hself (by rw [e] at het;exact het)
   have htm : es[k0].2 ∉ (aX n es).take m:=fun h=>hni (hcl _ _ h het)
   refine ⟨fun k h hk=>?_,fun v hv=>?_⟩
   ·rw [htk] at hk
    rcases x0j.1 hk with hk | hk
    ·have hne : k ≠ k0:=by rintro rfl;exact hni (e0 ▸ hk)
     have hnt : es[k].1 ≠ es[k0].2:=fun e=>htm (e ▸ hk)
     simp only [if_neg hne,if_neg hnt]
     exact ih1 k h hk
    ·simp only [x0Q] at hk
     have : k=k0:=hu k h hk
     subst this
     simp only [if_true]
     rw [if_neg (by rw [hk];exact Ne.symm hti),hk]
   ·have hsum : di (inT es v ((aX n es).take (m + 1))) (fun q=>if q=k0 then s.1 i else s.2 q) es.length=adS (di (inT es v ((aX n es).take m)) s.2 es.length) (if es[k0].2=v then s.1 i else (0,0)):=by
     have eK : di (fun k=>decide (k < es.length) && inT es v ((aX n es).take (m + 1)) k) (fun q=>if q=k0 then s.1 i else s.2 q) es.length=di (inT es v ((aX n es).take (m + 1))) (fun q=>if q=k0 then s.1 i else s.2 q) es.length:=dZ fun k hk=>⟨by simp [hk],fun _=>rfl⟩
     have eK2 : di (fun k=>decide (k < es.length) && inT es v ((aX n es).take m) k) s.2 es.length=di (inT es v ((aX n es).take m)) s.2 es.length:=dZ fun k hk=>⟨by simp [hk],fun _=>rfl⟩
     rw [<- eK,<- eK2,rn (P:=fun k=>decide (k < es.length) && inT es v ((aX n es).take m) k) (o:=s.2) (k0:=k0) (fun k hk=>⟨?_,by simp [hk]⟩) (by simp [inT,x0g es k0 hk0,e0,hni])]
     ·congr 1
      simp only [if_true]
      by_cases c : es[k0].2=v
      ·rw [if_pos c,if_pos ⟨hk0,by simp [hk0,inT,x0g es k0 hk0,e0,c,htk]⟩]
      ·rw [if_neg c,if_neg (fun h=>by simp [inT,x0g es k0 hk0,c] at h)]
     ·by_cases hkl : k < es.length
      ·have hne : es[k].1 ≠ i:=fun e=>hk (hu k hkl e)
       simp [hkl,inT,htk,hne]
      ·simp [hkl]
    rw [hsum]
    by_cases c : v=es[k0].2
    ·simp only [if_pos c,if_pos c.symm]
     rw [<- c,ih2 v hv,BY,oo]
    ·simp only [if_neg c,if_neg (Ne.symm c),gj]
     exact ih2 v hv
  ·have hno : ∀ k,(h : k < es.length) -> es[k].1 ≠ i:=fun k h e=>hx ⟨k,h,e⟩
   rw [mZ (x0k _) (fun k h _=>hno k h)]
   refine ⟨fun k h hk=>?_,fun v hv=>?_⟩
   ·rw [htk] at hk
    rcases x0j.1 hk with hk | hk
    ·exact ih1 k h hk
    ·exact absurd (by simpa using hk) (hno k h)
   ·rw [ih2 v hv]
    congr 2
    refine dZ fun k hk=>⟨?_,fun _=>rfl⟩
    simp [inT,x0g es k hk,htk,hno k hk]
def uu (es : List Edg) (fl : List Sp) (s0 : Sp) (v : Nat) : Nat -> Sp
 | 0=>s0
 | k + 1=>if es[k]!.2=v then vw (uu es fl s0 v k) fl[k]! else uu es fl s0 v k
theorem pg (es : List Edg) (fl : List Sp) (s0 : Sp) (h0 : wS s0=s0) (v : Nat) : ∀ K,uu es fl s0 v K=wS (adS s0 (di (fun k=>decide (es[k]!.2=v)) (fun k=>fl[k]!) K))
 | 0=>by simp [uu,di,gj,h0]
 | K + 1=>by
  have ih:=pg es fl s0 h0 v K
  unfold uu di
  by_cases c : es[K]!.2=v
  ·rw [if_pos c,if_pos (by simpa using c),ih,BY,oo]
  ·rw [if_neg c,if_neg (by simpa using c),ih]
theorem yD {n : Nat} {es : List Edg} (hg : inG n es) (ht : cw n es=true) {l : List Sp} (hl : ∀ v,v < n -> wS l[v]! = l[v]!) {i : Nat} (hi : i < es.length) : (aA n es l)[i]! = uu es (aA n es l) l[es[i].1]! es[i].1 es.length:=by
 have ht2:=ht
 simp only [cw,x0a,x0c] at ht2
 obtain ⟨h1,h2⟩:=tn hg ht hl n (x0k _)
 have hv:=(hg _ (x0h hi)).1
 have hfull : (aX n es).take n=aX n es:=x0p (by omega)
 have hI:=gT n es n
 have hmem : ∀ v,v < n -> v ∈ aX n es:=by
  intro v hv
  apply Classical.byContradiction
  intro hn
  have hnd : (v::aX n es).Nodup:=List.nodup_cons.2 ⟨hn,hI.nd⟩
  have hsub : (v::aX n es) ⊆ List.range n:=by
   intro u hu
   rcases x0O.1 hu with rfl | hu
   ·simpa using hv
   ·simpa using hI.lt u hu
  have:=List.Nodup.length_le_of_subset hnd hsub
  simp at this
  omega
 have eF : ∀ k,k < es.length -> (aA n es l)[k]! = (flO es (aX n es) (flS l) n).2 k:=fun k hk=>by
  unfold aA
  rw [ht2.2,x0g _ k (by simpa using hk)]
  simp
 rw [pg _ _ _ (hl _ hv),eF i hi,h1 i hi (by rw [hfull];exact hmem _ hv),h2 _ hv]
 congr 2
 refine dZ fun k hk=>⟨?_,fun _=>(eF k hk).symm⟩
 have:=hmem _ (hg _ (x0h hk)).1
 simp [inT,x0g es k hk,hfull,this]
end Go.Gv

namespace Go.Gv
def a7 (f : Nat -> Int) : Nat -> Int
 | 0=>0
 | k + 1=>a7 f k + f k
theorem ci {f g : Nat -> Int} : ∀ {K : Nat},(∀ k,k < K -> f k=g k) -> a7 f K=a7 g K
 | 0,_=>rfl
 | K + 1,h=>by unfold a7;rw [ci (K:=K) (fun k hk=>h k (by omega)),h K (by omega)]
theorem nV (f g : Nat -> Int) : ∀ K,a7 (fun k=>f k + g k) K=a7 f K + a7 g K
 | 0=>rfl
 | K + 1=>by unfold a7;rw [nV f g K];omega
theorem dA {f : Nat -> Int} : ∀ {K : Nat},(∀ k,k < K -> f k=0) -> a7 f K=0
 | 0,_=>rfl
 | K + 1,h=>by unfold a7;rw [dA (K:=K) (fun k hk=>h k (by omega)),h K (by omega)];rfl
theorem iU {f : Nat -> Int} {k0 : Nat} : ∀ {K : Nat},k0 < K -> (∀ k,k < K -> k ≠ k0 -> f k=0) -> a7 f K=f k0
 | 0,h,_=>by omega
 | K + 1,h,h2=>by
  unfold a7
  by_cases e : K=k0
  ·subst e
   rw [dA (fun k hk=>h2 k (by omega) (by omega))];omega
  ·rw [iU (by omega) (fun k hk hn=>h2 k (by omega) hn),h2 K (by omega) e];omega
theorem jk (f : Nat -> Nat -> Int) (A : Nat) : ∀ B,a7 (fun b=>a7 (fun a=>f a b) A) B=a7 (fun a=>a7 (fun b=>f a b) B) A
 | 0=>(dA fun _ _=>rfl).symm
 | B + 1=>by
  have e : (fun a=>a7 (fun b=>f a b) (B + 1))=fun a=>a7 (fun b=>f a b) B + f a B:=rfl
  rw [e,nV,<- jk f A B]
  rfl
theorem nW (f : Nat -> Int) : ∀ M,a7 f (M + 1)=f 0 + a7 (fun m=>f (m + 1)) M
 | 0=>by simp [a7]
 | M + 1=>by
  have ih:=nW f M
  show a7 f (M + 1) + f (M + 1)=f 0 + (a7 (fun m=>f (m + 1)) M + f (M + 1))
  omega
theorem ua (c : Prop) [Decidable c] (f : Nat -> Int) (K : Nat) : a7 (fun k=>if c then f k else 0) K=if c then a7 f K else 0:=by
 by_cases h : c
 ·rw [if_pos h];exact ci fun k _=>if_pos h
 ·rw [if_neg h];exact dA fun k _=>if_neg h
theorem mI {f g : Nat -> Int} : ∀ {K : Nat},(∀ k,k < K -> f k <= g k) -> a7 f K <= a7 g K
 | 0,_=>x0M _
 | K + 1,h=>by
  have:=mI (K:=K) (fun k hk=>h k (by omega))
  have:=h K (by omega)
  unfold a7
  omega
theorem jZ (B : Int) : ∀ K : Nat,a7 (fun _=>B) K=K * B
 | 0=>by simp [a7]
 | K + 1=>by unfold a7;rw [jZ B K];push_cast;rw [Int.add_mul];omega
def stp (es : List Edg) (v : Nat) : Option Nat:=(es.find? fun e=>e.1 == v).map (·.2)
def wat (es : List Edg) : Nat -> Nat -> Option Nat
 | 0,v=>some v
 | m + 1,v=>(wat es m v).bind (stp es)
def upB (n : Nat) (es : List Edg) (v x : Nat) : Bool:=(List.range n).any fun m=>wat es m v == some x
theorem nT {es : List Edg} {y z : Nat} (h : stp es y=some z) : (y,z) ∈ es:=by
 unfold stp at h
 cases e : es.find? (fun e=>e.1 == y) with
 | none=>rw [e] at h;cases h
 | some p =>
  rw [e] at h
  have h1:=List.find?_some e
  have h2:=List.mem_of_find?_eq_some e
  simp at h1 h
  obtain ⟨a,b⟩:=p
  simp only at h1 h
  subst h1 h
  exact h2
theorem xU {es : List Edg} (hnd : (es.map (·.1)).Nodup) {y z : Nat} (h : (y,z) ∈ es) : stp es y=some z:=by
 unfold stp
 cases e : es.find? (fun e=>e.1 == y) with
 | none =>
  have:=List.find?_eq_none.1 e _ h
  simp at this
 | some p =>
  have h1:=List.find?_some e
  have h2:=List.mem_of_find?_eq_some e
  obtain ⟨a,b⟩:=p
  simp at h1
  subst h1
  obtain ⟨k,hk,ek⟩:=x0Y h
  obtain ⟨j,hj,ej⟩:=x0Y h2
  have:=nR hnd hk hj (by rw [ek,ej])
  subst this
  rw [ek] at ej
  cases ej
  rfl
theorem gz {n : Nat} {es : List Edg} (hg : inG n es) (hlen : (aX n es).length=n) {u v : Nat} (he : (u,v) ∈ es) : (aX n es).idxOf u < (aX n es).idxOf v /\ (aX n es).idxOf v < n:=by
 have hI:=gT n es n
 have hmem : ∀ v,v < n -> v ∈ aX n es:=by
  intro v hv
  apply Classical.byContradiction
  intro hn
  have hnd : (v::aX n es).Nodup:=List.nodup_cons.2 ⟨hn,hI.nd⟩
  have hsub : (v::aX n es) ⊆ List.range n:=by
   intro u hu
   rcases x0O.1 hu with rfl | hu
   ·simpa using hv
   ·simpa using hI.lt u hu
  have:=List.Nodup.length_le_of_subset hnd hsub
  simp at this
  omega
 obtain ⟨h1,h2⟩:=hg _ he
 have hv:=hmem v h2
 have hi:=List.idxOf_lt_length_iff.2 hv
 obtain ⟨m,hm⟩ : ∃ m,m=(aX n es).idxOf v:=⟨_,rfl⟩
 rw [<- hm] at hi ⊢
 have hget : (aX n es)[m]=v:=by
  subst hm
  exact List.getElem_idxOf hi
 obtain ⟨t1,t2⟩:=jh hlen (show m <= n by omega)
 obtain ⟨t3,t4⟩:=jh hlen (show m + 1 <= n by omega)
 have htk : (aX n es).take (m + 1)=(aX n es).take m++[(aX n es)[m]]:=x0u hi
 have hu : u ∈ (aX n es).take m:=by
  rw [t1]
  cases hr : cT n es (aM n es m) with
  | nil =>
   have:=kM hr 1
   rw [this] at t4
   omega
  | cons j r =>
   have e1:=lI hr
   have e2 : j=v:=by
    have h5 : aM n es m++[j]=aM n es m++[v]:=by rw [<- e1,<- t3,htk,t1,hget]
    simpa using h5
   have hj : j ∈ cT n es (aM n es m):=by rw [hr];simp
   rw [e2] at hj
   exact (gx.1 hj).2.2 u he
 refine ⟨?_,by omega⟩
 obtain ⟨a,ha,e⟩:=x0Y hu
 have ha2 : a < m:=by simp at ha;omega
 have e2 : (aX n es)[a]'(by omega)=u:=by rw [<- e];simp
 have e3 : (aX n es).idxOf ((aX n es)[a]'(by omega))=a:=hI.nd.idxOf_getElem a (show a < (aX n es).length by omega)
 rw [e2] at e3
 omega
theorem fG {n : Nat} {es : List Edg} (hg : inG n es) (hlen : (aX n es).length=n) : ∀ {m v x : Nat},wat es m v=some x -> (aX n es).idxOf v + m <= (aX n es).idxOf x /\ (m ≠ 0 -> (aX n es).idxOf x < n)
 | 0,v,x,h=>by
  simp [wat] at h
  subst h
  exact ⟨x0k _,fun h=>absurd rfl h⟩
 | m + 1,v,x,h=>by
  unfold wat at h
  cases e : wat es m v with
  | none=>rw [e] at h;cases h
  | some y =>
   rw [e] at h
   obtain ⟨i1,_⟩:=fG hg hlen e
   obtain ⟨r1,r2⟩:=gz hg hlen (nT h)
   exact ⟨by omega,fun _=>r2⟩
def nX (n : Nat) (es : List Edg) (g : Nat -> Int) (m x : Nat) : Int:=a7 (fun v=>if wat es m v=some x then g v else 0) n
theorem vB {n : Nat} {es : List Edg} (hnd : (es.map (·.1)).Nodup) (g : Nat -> Int) (m x : Nat) : nX n es g (m + 1) x=a7 (fun k=>if es[k]!.2=x then nX n es g m es[k]!.1 else 0) es.length:=by
 have h1 : ∀ v,v < n -> (if wat es (m + 1) v=some x then g v else 0)=a7 (fun k=>if es[k]!.2=x then (if wat es m v=some es[k]!.1 then g v else 0) else 0) es.length:=fun v _=>by
  cases e : wat es m v with
  | none =>
   have : wat es (m + 1) v=none:=by unfold wat;rw [e];rfl
   rw [this,if_neg (by simp),dA (fun k _=>by simp)]
  | some y =>
   have e1 : wat es (m + 1) v=stp es y:=by
    show (wat es m v).bind (stp es)=_
    rw [e];rfl
   rw [e1]
   cases e2 : stp es y with
   | none =>
    rw [if_neg (by simp),dA fun k hk=>?_]
    by_cases c : es[k]!.2=x
    ·rw [if_pos c]
     by_cases d : y=es[k]!.1
     ·have:=xU (es:=es) hnd (y:=y) (z:=es[k]!.2) (by rw [d,x0g es k hk];exact x0h hk)
      rw [e2] at this;cases this
     ·rw [if_neg (by simpa using d)]
    ·rw [if_neg c]
   | some z =>
    obtain ⟨k0,hk0,ek0⟩:=x0Y (nT e2)
    rw [iU (k0:=k0) hk0 fun k hk hne=>?_]
    ·rw [x0g es k0 hk0,ek0]
     simp
    ·by_cases d : y=es[k]!.1
     ·exact absurd (nR hnd hk hk0 (by rw [ek0,<- x0g es k hk,d])) hne
     ·rw [if_neg (show ¬ some y=some es[k]!.1 by simpa using d)];simp
 unfold nX
 rw [ci h1,jk]
 exact ci fun k _=>ua _ _ _
theorem vC {n : Nat} {es : List Edg} (g : Nat -> Int) {x : Nat} (hx : x < n) : nX n es g 0 x=g x:=by
 unfold nX
 rw [iU (k0:=x) hx fun k _ hne=>?_]
 ·simp [wat]
 ·simp [wat,hne]
theorem x9 {n : Nat} {es : List Edg} (hg : inG n es) (hlen : (aX n es).length=n) (g : Nat -> Int) {m x : Nat} (hm : n <= m) : nX n es g m x=0:=by
 refine dA fun v hv=>if_neg fun h=>?_
 obtain ⟨h1,h2⟩:=fG hg hlen h
 have:=h2 (by omega)
 omega
def upS (n : Nat) (es : List Edg) (g : Nat -> Int) (x : Nat) : Int:=a7 (fun v=>if upB n es v x=true then g v else 0) n
theorem uf {n : Nat} {es : List Edg} (hg : inG n es) (hlen : (aX n es).length=n) (g : Nat -> Int) (x : Nat) : upS n es g x=a7 (fun m=>nX n es g m x) n:=by
 unfold nX upS
 rw [jk]
 refine ci fun v _=>?_
 by_cases h : upB n es v x=true
 ·rw [if_pos h]
  obtain ⟨m,hm,e⟩:=x0H.1 h
  simp at hm e
  rw [iU (k0:=m) hm fun k _ hne=>if_neg fun h2=>?_,if_pos e]
  have a:=(fG hg hlen e).1
  have b:=(fG hg hlen h2).1
  rcases Nat.lt_or_gt_of_ne hne with h3 | h3
  ·have : ∀ d,wat es (k + d) v=(wat es d x):=fun d=>by
    induction d with
    | zero=>exact h2
    | succ d ih =>
     show (wat es (k + d) v).bind _=_
     rw [ih];rfl
   have h4:=this (m - k)
   rw [show k + (m - k)=m by omega,e] at h4
   have:=(fG hg hlen h4.symm).1
   omega
  ·have : ∀ d,wat es (m + d) v=(wat es d x):=fun d=>by
    induction d with
    | zero=>exact e
    | succ d ih =>
     show (wat es (m + d) v).bind _=_
     rw [ih];rfl
   have h4:=this (k - m)
   rw [show m + (k - m)=k by omega,h2] at h4
   have:=(fG hg hlen h4.symm).1
   omega
 ·rw [if_neg h,dA fun k hk=>if_neg fun h2=>h (x0H.2 ⟨k,by simpa using hk,by simp [h2]⟩)]
theorem ue {n : Nat} {es : List Edg} (hg : inG n es) (ht : cw n es=true) (g : Nat -> Int) {x : Nat} (hx : x < n) : upS n es g x=g x + a7 (fun k=>if es[k]!.2=x then upS n es g es[k]!.1 else 0) es.length:=by
 simp only [cw,x0a,x0c] at ht
 obtain ⟨hnd,hlen⟩:=ht
 have e1 : a7 (fun m=>nX n es g m x) n=a7 (fun m=>nX n es g m x) (n + 1):=by
  show _=a7 _ n + nX n es g n x
  rw [x9 hg hlen g (x0k _)];omega
 rw [uf hg hlen,e1,nW,vC g hx]
 congr 1
 rw [ci fun m _=>vB hnd g m x,jk]
 refine ci fun k _=>?_
 rw [ua]
 by_cases c : es[k]!.2=x
 ·rw [if_pos c,if_pos c,uf hg hlen]
 ·rw [if_neg c,if_neg c]
theorem jm {n : Nat} {es : List Edg} {g : Nat -> Int} {B : Int} (hB : 0 <= B) (h : ∀ v,v < n -> 0 <= g v /\ g v <= B) (x : Nat) : 0 <= upS n es g x /\ upS n es g x <= n * B:=by
 unfold upS
 constructor
 ·have:=mI (f:=fun _=>0) (g:=fun v=>if upB n es v x=true then g v else 0) (K:=n) fun k hk=>by
   have:=h k hk
   show 0 <= if upB n es k x=true then g k else 0
   split <;> omega
  rw [jZ] at this
  simpa using this
 ·rw [<- jZ]
  exact mI fun k hk=>by
   have:=h k hk
   show (if upB n es k x=true then g k else 0) <= B
   split <;> omega
theorem xW (P : Nat -> Bool) (o : Nat -> Sp) : ∀ K,(di P o K).1=a7 (fun k=>if P k=true then (o k).1 else 0) K
 | 0=>rfl
 | K + 1=>by
  have ih:=xW P o K
  unfold di a7
  by_cases h : P K=true
  ·rw [if_pos h,if_pos h,<- ih];rfl
  ·rw [if_neg h,if_neg h,<- ih];omega
theorem xX (P : Nat -> Bool) (o : Nat -> Sp) : ∀ K,(di P o K).2=a7 (fun k=>if P k=true then (o k).2 else 0) K
 | 0=>rfl
 | K + 1=>by
  have ih:=xX P o K
  unfold di a7
  by_cases h : P K=true
  ·rw [if_pos h,if_pos h,<- ih];rfl
  ·rw [if_neg h,if_neg h,<- ih];omega
theorem qj {n : Nat} {es : List Edg} (hn : n <= 300) (hg : inG n es) (ht : cw n es=true) {l : List Sp} (hl : ∀ v,v < n -> 0 <= l[v]!.1 /\ l[v]!.1 <= l[v]!.2 /\ l[v]!.2 <= 1099511627776) :
  ∀ (r i : Nat) (hi : i < es.length),(aX n es).idxOf es[i].1 < r -> (aA n es l)[i]! = (upS n es (fun v=>l[v]!.1) es[i].1,upS n es (fun v=>l[v]!.2) es[i].1)
 | 0,_,_,h=>by omega
 | r + 1,i,hi,hr=>by
  have hw : ∀ v,v < n -> wS l[v]! = l[v]!:=fun v hv=>by
   have:=hl v hv
   unfold wS
   rw [wrap_i64 rfl (by omega),wrap_i64 rfl (by omega)]
  have hb:=yD hg ht hw hi
  have hv:=(hg _ (x0h hi)).1
  have ht2:=ht
  simp only [cw,x0a,x0c] at ht2
  have ih : ∀ k,k < es.length -> es[k]!.2=es[i].1 -> (aA n es l)[k]! = (upS n es (fun v=>l[v]!.1) es[k]!.1,upS n es (fun v=>l[v]!.2) es[k]!.1):=fun k hk e=>by
   rw [x0g es k hk] at e ⊢
   have hm : (es[k].1,es[i].1) ∈ es:=by rw [<- e];exact x0h hk
   have:=(gz hg ht2.2 hm).1
   exact qj hn hg ht hl r k hk (by omega)
  have r1:=jm (n:=n) (es:=es) (g:=fun v=>l[v]!.1) (B:=1099511627776) (by omega) (fun v hv=>by have:=hl v hv;omega) es[i].1
  have r2:=jm (n:=n) (es:=es) (g:=fun v=>l[v]!.2) (B:=1099511627776) (by omega) (fun v hv=>by have:=hl v hv;omega) es[i].1
  rw [hb,pg _ _ _ (hw _ hv)]
  have s1:=ue hg ht (fun v=>l[v]!.1) hv
  have s2:=ue hg ht (fun v=>l[v]!.2) hv
  have e1 : (di (fun k=>decide (es[k]!.2=es[i].1)) (fun k=>(aA n es l)[k]!) es.length).1=a7 (fun k=>if es[k]!.2=es[i].1 then upS n es (fun v=>l[v]!.1) es[k]!.1 else 0) es.length:=by
   rw [xW]
   refine ci fun k hk=>?_
   by_cases c : es[k]!.2=es[i].1
   ·rw [if_pos (by simpa using c),if_pos c,ih k hk c]
   ·rw [if_neg (by simpa using c),if_neg c]
  have e2 : (di (fun k=>decide (es[k]!.2=es[i].1)) (fun k=>(aA n es l)[k]!) es.length).2=a7 (fun k=>if es[k]!.2=es[i].1 then upS n es (fun v=>l[v]!.2) es[k]!.1 else 0) es.length:=by
   rw [xX]
   refine ci fun k hk=>?_
   by_cases c : es[k]!.2=es[i].1
   ·rw [if_pos (by simpa using c),if_pos c,ih k hk c]
   ·rw [if_neg (by simpa using c),if_neg c]
  have e3 : adS l[es[i].1]! (di (fun k=>decide (es[k]!.2=es[i].1)) (fun k=>(aA n es l)[k]!) es.length)=(upS n es (fun v=>l[v]!.1) es[i].1,upS n es (fun v=>l[v]!.2) es[i].1):=by
   unfold adS
   rw [e1,e2,s1,s2]
  rw [e3]
  unfold wS
  rw [wrap_i64 rfl (by simp only;omega),wrap_i64 rfl (by simp only;omega)]
theorem kr {n : Nat} {es : List Edg} (hn : n <= 300) (hg : inG n es) (ht : cw n es=true) {l : List Sp} (hl : ∀ v,v < n -> 0 <= l[v]!.1 /\ l[v]!.1 <= l[v]!.2 /\ l[v]!.2 <= 1099511627776) {i : Nat} (hi : i < es.length) : (aA n es l)[i]! = (upS n es (fun v=>l[v]!.1) es[i].1,upS n es (fun v=>l[v]!.2) es[i].1) :=
 qj hn hg ht hl _ i hi (Nat.lt_succ_self _)
end Go.Gv

namespace Go.Gv
theorem vV {l : Lnk} {s : Sec} {f v : Int} (hv : ap s=true) (hl : 1 <= l.len /\ l.len <= 16777216) (hd : l.down <= l.up) (hf : 0 <= f /\ f <= 1099511627776) (hlo : (cd l s f).2=0) (hu : -4194304 <= l.up /\ l.up <= 4194304) (hvl : v <= 1098437885952) :
  (bz l s f v).2=0 /\ v <= (bz l s f v).1 /\ (bz l s f v).1 <= mxI 8388608 (v + 1073741824):=by
 have hh : 1 <= s.height /\ s.height <= 32768:=by
  simp only [ap,x0a,x0c] at hv
  omega
 have hs : bV (cv l) l.len=true:=by
  simp only [bV,x0a,x0c]
  unfold cv
  split <;> omega
 have hr:=fS (dP s.conv).2.toNat f.toNat l.len.toNat
 have hr' : 0 <= (cd l s f).1 /\ (cd l s f).1 <= 1073741824:=hr
 by_cases hb : js l s f v=true
 ·rw [dR hb]
  have hcap:=Cv hv (cv l) l.len
  have hfc : f <= (mV s (cv l) l.len : Int):=by
   simp only [js,x0a,x0K,x0c] at hb
   obtain ⟨_,hb⟩:=hb
   unfold fL at hb
   rw [if_pos hv,if_pos hs] at hb
   by_cases hc : 1099511627776 < mV s (cv l) l.len
   ·omega
   ·rw [if_neg hc] at hb
    simp only at hb
    rcases hb with hb | hb
    ·omega
    ·exact hb.2
  have hD : (cr s f (cv l) l.len).2=0:=by
   rw [<- uL]
   unfold rP
   rw [if_pos hv,if_pos ⟨hf.1,hf.2,hs⟩,hcap,if_neg (by omega)]
  have hdr:=kh hv f (cv l) l.len
  unfold pG
  rw [if_pos hD]
  simp only
  have h1:=wY (l.up + (cr s f (cv l) l.len).1) v
  refine ⟨trivial,h1.2,?_⟩
  unfold mxI
  split <;> split <;> omega
 ·rw [fy hb]
  unfold ky
  have h1:=wY (l.up + s.height) (v + (cd l s f).1)
  have h2 : mxI (l.up + s.height) (v + (cd l s f).1) <= mxI 8388608 (v + 1073741824):=dI (by omega) (by omega)
  have h3 : mxI 8388608 (v + 1073741824) <= 1099511627776:=by unfold mxI;split <;> omega
  rw [if_pos hlo,if_neg (by omega)]
  simp only
  exact ⟨trivial,by omega,h2⟩
theorem oF {l : Lnk} {s : Sec} {f g : Int} (h0 : 0 <= f) (h : f <= g) (hg : (cd l s g).2=0) : (cd l s f).2=0:=by
 unfold cd fR at *
 by_cases f0 : f.toNat=0
 ·rw [if_pos f0]
 rw [if_neg f0]
 rw [if_neg (show ¬ g.toNat=0 by omega)] at hg
 by_cases k0 : (dP s.conv).2.toNat=0
 ·rw [if_pos k0] at hg;simp at hg
 rw [if_neg k0] at hg ⊢
 by_cases e : ck (dP s.conv).2.toNat g.toNat l.len.toNat 1073741824=true
 ·rw [if_pos (kq (show f.toNat <= g.toNat by omega) e)]
 ·rw [if_neg e] at hg;simp at hg
def ju (es : List Edg) (v : Nat) : Option Nat:=es.findIdx? fun e=>e.1 == v
theorem ft {es : List Edg} {v k : Nat} (h : ju es v=some k) : ∃ hk : k < es.length,es[k].1=v:=by
 unfold ju at h
 obtain ⟨hk,h1,_⟩:=x0L.1 h
 exact ⟨hk,by simpa using h1⟩
def gc (es : List Edg) (ab : Nat -> Int -> Int) (base : Nat -> Int) : Nat -> Nat -> Int
 | 0,i=>base i
 | f + 1,i=>match ju es i with
  | none=>base i
  | some k=>ab k (gc es ab base f es[k]!.2)
def rkO (n : Nat) (es : List Edg) (i : Nat) : Nat:=(aX n es).idxOf i
theorem oG {n : Nat} {es : List Edg} (hg : inG n es) (hlen : (aX n es).length=n) (ab : Nat -> Int -> Int) (base : Nat -> Int) : ∀ (f i : Nat),n <= f + rkO n es i -> rkO n es i < n -> gc es ab base (f + 1) i=gc es ab base f i
 | 0,i,h1,h2=>by omega
 | f + 1,i,h1,h2=>by
  rw [gc,gc]
  cases h : ju es i with
  | none=>rfl
  | some k =>
   obtain ⟨hk,e⟩:=ft h
   have hm : (i,es[k].2) ∈ es:=by
    have:=x0h hk
    rwa [show es[k]=(i,es[k].2) from Prod.ext e rfl] at this
   have hr:=gz hg hlen hm
   simp only
   rw [x0g es k hk,oG hg hlen ab base f es[k].2 (by unfold rkO at *;omega) hr.2]
def sB (n : Nat) (es : List Edg) (ab : Nat -> Int -> Int) (base : Nat -> Int) (i : Nat) : Int:=gc es ab base n i
theorem oI (n : Nat) {es : List Edg} (ab : Nat -> Int -> Int) (base : Nat -> Int) {i : Nat} (h : ju es i=none) : sB n es ab base i=base i:=by
 unfold sB
 cases n with
 | zero=>rfl
 | succ n=>rw [gc,h]
theorem oJ {n : Nat} {es : List Edg} (hg : inG n es) (hlen : (aX n es).length=n) (ab : Nat -> Int -> Int) (base : Nat -> Int) {i k : Nat} (hi : rkO n es i < n) (h : ju es i=some k) : sB n es ab base i=ab k (sB n es ab base es[k]!.2):=by
 unfold sB
 rw [<- oG hg hlen ab base n i (by omega) hi,gc,h]
theorem qD {es : List Edg} {ab : Nat -> Int -> Int} {base : Nat -> Int} {Q : Nat -> Nat -> Int -> Prop} (h0 : ∀ f i,Q f i (base i)) (h1 : ∀ f i k (hk : k < es.length),es[k].1=i -> ∀ v,Q f es[k].2 v -> Q (f + 1) i (ab k v)) : ∀ f i,Q f i (gc es ab base f i)
 | 0,i=>h0 0 i
 | f + 1,i=>by
  rw [gc]
  cases h : ju es i with
  | none=>exact h0 _ i
  | some k =>
   obtain ⟨hk,e⟩:=ft h
   simp only
   rw [x0g es k hk]
   exact h1 f i k hk e _ (qD h0 h1 f es[k].2)
theorem oH {es : List Edg} {ab ab' : Nat -> Int -> Int} {base base' : Nat -> Int} {Q : Nat -> Nat -> Int -> Int -> Prop} (h0 : ∀ f i,Q f i (base i) (base' i)) (h1 : ∀ f i k (hk : k < es.length),es[k].1=i -> ∀ v w,Q f es[k].2 v w -> Q (f + 1) i (ab k v) (ab' k w)) : ∀ f i,Q f i (gc es ab base f i) (gc es ab' base' f i)
 | 0,i=>h0 0 i
 | f + 1,i=>by
  rw [gc,gc]
  cases h : ju es i with
  | none=>exact h0 _ i
  | some k =>
   obtain ⟨hk,e⟩:=ft h
   simp only
   rw [x0g es k hk]
   exact h1 f i k hk e _ _ (oH h0 h1 f es[k].2)
end Go.Gv

namespace Go.Gv
def abL (ls : List Lnk) (ss : List Sec) (q : Nat -> Int) (k : Nat) (v : Int) : Int:=(bz ls[k]! ss[k]! (q k) v).1
structure TrO (ls : List Lnk) (ss : List Sec) (fh : Nat -> Int) : Prop where
 sec : ∀ k,k < ls.length -> ap ss[k]! = true
 len : ∀ k,k < ls.length -> 1 <= ls[k]!.len /\ ls[k]!.len <= 16777216
 fall : ∀ k,k < ls.length -> ls[k]!.down <= ls[k]!.up
 up : ∀ k,k < ls.length -> -4194304 <= ls[k]!.up /\ ls[k]!.up <= 4194304
 flow : ∀ k,k < ls.length -> fh k <= 1099511627776
 loss : ∀ k,k < ls.length -> (cd ls[k]! ss[k]! (fh k)).2=0
def mm (f : Nat) (v : Int) : Prop:=-4194304 <= v /\ v <= 8388608 + (f : Int) * 1073741824
theorem TrO.step {ls : List Lnk} {ss : List Sec} {fh : Nat -> Int} (T : TrO ls ss fh) {k : Nat} (hk : k < ls.length) {q : Int} (h0 : 0 <= q) (h1 : q <= fh k) {f : Nat} (hf : f <= 400) {v : Int} (hv : mm f v) :
  (bz ls[k]! ss[k]! q v).2=0 /\ v <= (bz ls[k]! ss[k]! q v).1 /\ mm (f + 1) (bz ls[k]! ss[k]! q v).1:=by
 have hfl:=T.flow k hk
 obtain ⟨v1,v2⟩:=hv
 have hm : (f : Int) * 1073741824 <= 400 * 1073741824:=by omega
 have h:=vV (v:=v) (T.sec k hk) (T.len k hk) (T.fall k hk) ⟨h0,by omega⟩ (oF h0 h1 (T.loss k hk)) (T.up k hk) (by omega)
 refine ⟨h.1,h.2.1,by omega,?_⟩
 have h3:=h.2.2
 have hm2 : ((f + 1 : Nat) : Int) * 1073741824=(f : Int) * 1073741824 + 1073741824:=by omega
 rw [hm2]
 unfold mxI at h3
 split at h3 <;> omega
theorem TrO.rng {ls : List Lnk} {ss : List Sec} {fh : Nat -> Int} (T : TrO ls ss fh) {es : List Edg} (he : es.length=ls.length) {q : Nat -> Int} (h0 : ∀ k,k < ls.length -> 0 <= q k /\ q k <= fh k) {base : Nat -> Int} (hb : ∀ i,-4194304 <= base i /\ base i <= 8388608) : ∀ f i,f <= 400 -> mm f (gc es (abL ls ss q) base f i):=by
 refine qD (Q:=fun f _ v=>f <= 400 -> mm f v) (fun f i hf=>?_) (fun f i k hk e v ih hf=>?_)
 ·have:=hb i
  exact ⟨this.1,by omega⟩
 ·have hk' : k < ls.length:=by omega
  exact (T.step hk' (h0 k hk').1 (h0 k hk').2 (by omega) (ih (by omega))).2.2
theorem TrO.mono {ls : List Lnk} {ss : List Sec} {fh : Nat -> Int} (T : TrO ls ss fh) {es : List Edg} (he : es.length=ls.length) {q q' : Nat -> Int} (h0 : ∀ k,k < ls.length -> 0 <= q k /\ q k <= q' k /\ q' k <= fh k) {base base' : Nat -> Int} (hb : ∀ i,-4194304 <= base i /\ base i <= base' i /\ base' i <= 8388608) :
  ∀ f i,f <= 400 -> gc es (abL ls ss q) base f i <= gc es (abL ls ss q') base' f i:=by
 have key : ∀ f i,f <= 400 -> mm f (gc es (abL ls ss q) base f i) /\ mm f (gc es (abL ls ss q') base' f i) /\ gc es (abL ls ss q) base f i <= gc es (abL ls ss q') base' f i:=by
  refine oH (Q:=fun f _ v w=>f <= 400 -> mm f v /\ mm f w /\ v <= w) (fun f i hf=>?_) (fun f i k hk e v w ih hf=>?_)
  ·have:=hb i
   exact ⟨⟨this.1,by omega⟩,⟨by omega,by omega⟩,this.2.1⟩
  ·have hk' : k < ls.length:=by omega
   obtain ⟨a1,a2,a3⟩:=h0 k hk'
   obtain ⟨i1,i2,i3⟩:=ih (by omega)
   have s1:=T.step hk' a1 (by omega : q k <= fh k) (by omega) i1
   have s2:=T.step hk' (by omega : 0 <= q' k) a3 (by omega) i2
   have s3:=T.step hk' (by omega : 0 <= q' k) a3 (by omega) i1
   refine ⟨s1.2.2,s2.2.2,?_⟩
   have m1:=pZ (l:=ls[k]!) (s:=ss[k]!) (v:=v) a2 s1.1 s3.1
   have m2:=pd (l:=ls[k]!) (s:=ss[k]!) (f:=q' k) i3 s3.1 s2.1
   exact Int.le_trans m1 m2
 exact fun f i hf=>(key f i hf).2.2
end Go.Gv

namespace Go.Gv
structure TrS (n : Nat) (es : List Edg) (ls : List Lnk) (ss : List Sec) (fl : List (Int × Int)) : Prop where
 ing : inG n es
 full : (aX n es).length=n
 nd : (es.map (·.1)).Nodup
 cnt : es.length=ls.length
 small : n <= 300
 tro : TrO ls ss fun k=>fl[k]!.2
 low : ∀ k,k < ls.length -> 0 <= fl[k]!.1 /\ fl[k]!.1 <= fl[k]!.2
def p8 (ns : List Nod) (h : Int) (i : Nat) : Int:=mxI ns[i]!.invert h
def fF (n : Nat) (es : List Edg) (ns : List Nod) (ls : List Lnk) (ss : List Sec) (fl : List (Int × Int)) (o : Int × Int) (i : Nat) : Int × Int :=
 (sB n es (abL ls ss fun k=>fl[k]!.1) (p8 ns o.1) i,sB n es (abL ls ss fun k=>fl[k]!.2) (p8 ns o.2) i)
theorem DD {a b c d : Int} (h1 : c <= a) (h2 : a <= d) (h4 : b <= d) : c <= mxI a b /\ mxI a b <= d:=by
 unfold mxI
 split <;> omega
theorem i7 {ns : List Nod} (hn : ∀ i : Nat,-4194304 <= ns[i]!.invert /\ ns[i]!.invert <= 4194304) {h : Int} (hh : h <= 4194304) (i : Nat) : -4194304 <= p8 ns h i /\ p8 ns h i <= 8388608:=DD (hn i).1 (by have:=(hn i).2;omega) (by omega)
section
variable {n : Nat} {es : List Edg} {ns : List Nod} {ls : List Lnk} {ss : List Sec} {fl : List (Int × Int)} {o : Int × Int}
theorem mC (T : TrS n es ls ss fl) (hn : ∀ i : Nat,-4194304 <= ns[i]!.invert /\ ns[i]!.invert <= 4194304) (ho : o.1 <= o.2 /\ o.2 <= 4194304) (i : Nat) : mm n (fF n es ns ls ss fl o i).1 /\ mm n (fF n es ns ls ss fl o i).2 /\ (fF n es ns ls ss fl o i).1 <= (fF n es ns ls ss fl o i).2:=by
 have hs:=T.small
 have b1:=i7 hn (h:=o.1) (by omega)
 have b2:=i7 hn (h:=o.2) ho.2
 refine ⟨T.tro.rng T.cnt (fun k hk=>⟨(T.low k hk).1,(T.low k hk).2⟩) b1 n i (by omega),T.tro.rng T.cnt (fun k hk=>⟨Int.le_trans (T.low k hk).1 (T.low k hk).2,x0M _⟩) b2 n i (by omega),?_⟩
 exact T.tro.mono T.cnt (fun k hk=>⟨(T.low k hk).1,(T.low k hk).2,x0M _⟩) (fun j=>⟨(b1 j).1,dI (x0M _) ho.1,(b2 j).2⟩) n i (by omega)
theorem oK {i : Nat} (h : ju es i=none) : fF n es ns ls ss fl o i=(p8 ns o.1 i,p8 ns o.2 i):=by
 unfold fF
 rw [oI n _ _ h,oI n _ _ h]
theorem oL (T : TrS n es ls ss fl) (hn : ∀ i : Nat,-4194304 <= ns[i]!.invert /\ ns[i]!.invert <= 4194304) (ho : o.1 <= o.2 /\ o.2 <= 4194304) {i k : Nat} (hi : rkO n es i < n) (h : ju es i=some k) :
  ∃ w,w=es[k]!.2 /\ rkO n es i < rkO n es w /\ rkO n es w < n /\
   (bz ls[k]! ss[k]! fl[k]!.1 (fF n es ns ls ss fl o w).1).2=0 /\ (bz ls[k]! ss[k]! fl[k]!.2 (fF n es ns ls ss fl o w).2).2=0 /\
   fF n es ns ls ss fl o i=((bz ls[k]! ss[k]! fl[k]!.1 (fF n es ns ls ss fl o w).1).1,(bz ls[k]! ss[k]! fl[k]!.2 (fF n es ns ls ss fl o w).2).1):=by
 obtain ⟨hk,e⟩:=ft h
 have hk' : k < ls.length:=by have:=T.cnt;omega
 have hm : (i,es[k].2) ∈ es:=by
  have:=x0h hk
  rwa [show es[k]=(i,es[k].2) from Prod.ext e rfl] at this
 have hr:=gz T.ing T.full hm
 have hw : es[k]!.2=es[k].2:=by rw [x0g es k hk]
 obtain ⟨r1,r2,_⟩:=mC (ns:=ns) T hn ho es[k]!.2
 have hs:=T.small
 have s1:=T.tro.step hk' (T.low k hk').1 (T.low k hk').2 (by omega : n <= 400) r1
 have s2:=T.tro.step hk' (Int.le_trans (T.low k hk').1 (T.low k hk').2) (x0M _) (by omega : n <= 400) r2
 refine ⟨es[k]!.2,rfl,by rw [hw];exact hr.1,by rw [hw];exact hr.2,s1.1,s2.1,?_⟩
 unfold fF
 rw [oJ T.ing T.full _ _ hi h,oJ T.ing T.full _ _ hi h]
 rfl
end
end Go.Gv

namespace Go.Gv
section
variable {n : Nat} {es : List Edg} {ns : List Nod} {ls : List Lnk} {ss : List Sec} {fl fl' : List (Int × Int)} {o o' : Int × Int}
def Iy (ls : List Lnk) (fl fl' : List (Int × Int)) : Prop:=∀ k,k < ls.length -> fl[k]!.1 <= fl'[k]!.1 /\ fl'[k]!.1 <= fl'[k]!.2 /\ fl'[k]!.2 <= fl[k]!.2
theorem zT (T : TrS n es ls ss fl) (h : Iy ls fl fl') (hn : ∀ i : Nat,-4194304 <= ns[i]!.invert /\ ns[i]!.invert <= 4194304) (ho : o.1 <= o'.1 /\ o'.1 <= o'.2 /\ o'.2 <= o.2 /\ o.2 <= 4194304) (i : Nat) :
  (fF n es ns ls ss fl o i).1 <= (fF n es ns ls ss fl' o' i).1 /\ (fF n es ns ls ss fl' o' i).2 <= (fF n es ns ls ss fl o i).2:=by
 have hs:=T.small
 have b1:=i7 hn (h:=o.1) (by omega)
 have b2:=i7 hn (h:=o'.1) (by omega)
 have b3:=i7 hn (h:=o'.2) (by omega)
 have b4:=i7 hn (h:=o.2) (by omega)
 constructor
 ·exact T.tro.mono T.cnt (fun k hk=>⟨(T.low k hk).1,(h k hk).1,Int.le_trans (h k hk).2.1 (h k hk).2.2⟩) (fun j=>⟨(b1 j).1,dI (x0M _) ho.1,(b2 j).2⟩) n i (by omega)
 ·exact T.tro.mono T.cnt (fun k hk=>⟨Int.le_trans (T.low k hk).1 (Int.le_trans (h k hk).1 (h k hk).2.1),(h k hk).2.2,x0M _⟩) (fun j=>⟨(b3 j).1,dI (x0M _) ho.2.2.1,(b4 j).2⟩) n i (by omega)
theorem qE (hf : ∀ k : Nat,fl[k]!.1=fl[k]!.2) (ho : o.1=o.2) (i : Nat) : (fF n es ns ls ss fl o i).1=(fF n es ns ls ss fl o i).2:=by
 unfold fF
 have e : (fun k : Nat=>fl[k]!.1)=fun k=>fl[k]!.2:=funext hf
 rw [ho,e]
end
end Go.Gv

namespace Go.Gv
def fE (es : List Edg) (v : Nat) : Option Nat:=es.findIdx? fun e=>e.1 == v
def frI : Option Nat -> Int
 | some i=>i
 | none=>-1
theorem zj {es : List Edg} {v i : Nat} (h : fE es v=some i) : ∃ hi : i < es.length,es[i].1=v /\ ∀ j (hj : j < i),¬ es[j].1=v:=by
 unfold fE at h
 rw [x0L] at h
 obtain ⟨h1,h2,h3⟩:=h
 exact ⟨h1,by simpa using h2,fun j hj=>by simpa using h3 j hj⟩
theorem pv {es : List Edg} {v : Nat} : fE es v=none ↔ v ∉ es.map (·.1):=by
 unfold fE
 rw [x1G]
 simp only [beq_eq_false_iff_ne,ne_eq,x0t,not_exists,not_and]
theorem zu {es : List Edg} {j : Nat} (hj : j < es.length) (v : Nat) : fE (es.take (j + 1)) v=(fE (es.take j) v).or (if es[j].1=v then some j else none):=by
 have hl : (es.take j).length=j:=by simp;omega
 unfold fE
 rw [x0u hj,List.findIdx?_append]
 congr 1
 by_cases h : es[j].1=v
 ·rw [if_pos h];simp [List.findIdx?_cons,h,hl]
 ·rw [if_neg h];simp [List.findIdx?_cons,h]
def frA (n : Nat) (es : List Edg) (j : Nat) : List (List D):=(List.range n).map fun v=>[.int .i64 (frI (fE (es.take j) v))]
theorem wF (n : Nat) (es : List Edg) : frA n es 0=List.replicate n [.int .i64 (-1)]:=by
 apply List.ext_getElem
 ·simp [frA]
 ·intro i h1 h2
  simp [frA,fE,frI]
theorem mz (n : Nat) (es : List Edg) (j : Nat) : (frA n es j).length=n:=by simp [frA]
theorem pA {n v : Nat} (es : List Edg) (j : Nat) (h : v < n) : (frA n es j)[v]? = some [.int .i64 (frI (fE (es.take j) v))]:=by simp [frA,h]
theorem zz {n : Nat} {es : List Edg} {j : Nat} (hj : j < es.length) (h : fE (es.take j) es[j].1=none) : (frA n es j).set es[j].1 [.int .i64 (j : Int)]=frA n es (j + 1):=by
 unfold frA
 rw [iP]
 apply x0i
 intro v _
 rw [zu hj]
 by_cases e : v=es[j].1
 ·subst e
  rw [if_pos rfl,h,if_pos rfl];rfl
 ·rw [if_neg e,if_neg (Ne.symm e),Option.or_none]
theorem zZ {es : List Edg} {j : Nat} (hj : j < es.length) (h : ((es.take j).map (·.1)).Nodup) : ((es.take (j + 1)).map (·.1)).Nodup ↔ fE (es.take j) es[j].1=none:=by
 rw [x0u hj,x1b,x1t,pv]
 simp only [x0G,x0X,x0O,x1n,or_false,forall_eq,List.nodup_cons,not_false_eq_true,List.nodup_nil,and_self,true_and,h]
 constructor
 ·intro h1 h2;exact h1 _ h2 rfl
 ·rintro h1 a ha rfl;exact h1 ha
end Go.Gv

set_option maxRecDepth 4000
namespace Go.Gv
def gV (n m : Nat) (v : Int) : List (List D):=List.replicate m [.int .i64 v]++List.replicate (n - m) [.int .i64 0]
theorem qY {n m : Nat} {v : Int} (h : m <= n) : (gV n m v).length=n:=by simp [gV];omega
theorem nE (n m : Nat) (v : Int) : ∀ e ∈ gV n m v,e.length=1 /\ ∀ c ∈ e,aE c=true:=by
 intro e he
 rcases x0j.1 he with h | h <;> (rw [(List.mem_replicate.1 h).2];simp [aE])
theorem oZ (n m : Nat) (v : Int) : ∀ e ∈ gV n m v,∀ c ∈ e,aE c=true:=fun e he=>(nE n m v e he).2
theorem oY (n : Nat) (v : Int) : gV n n v=List.replicate n [.int .i64 v]:=by simp [gV]
theorem o4 {n m : Nat} {v : Int} (h : m <= n) : iu (gV n m v) m (((gV n m v).take m).take (n - m))=gV n (min n (m + m)) v:=by
 have h1 : (gV n m v).take m=List.replicate m [.int .i64 v]:=by
  unfold gV
  rw [List.take_append_of_le_length (by simp)]
  simp
 rw [h1,List.take_replicate]
 unfold iu
 rw [h1,List.length_replicate]
 unfold gV
 rw [List.drop_append,List.drop_eq_nil_of_le (by simp),List.nil_append,List.length_replicate,List.drop_replicate]
 have e1 : min n (m + m)=m + min (n - m) m:=by omega
 rw [e1,<- List.replicate_append_replicate]
 congr 2
 omega
theorem sK {n : Nat} {v : Int} (h : 0 < n) : iu (List.replicate n [D.int .i64 0]) 0 ([[D.int .i64 v]].take n)=gV n 1 v:=by
 have : [[D.int .i64 v]].take n=[[.int .i64 v]]:=by
  rw [x0p (by simp;omega)]
 rw [this]
 unfold iu gV
 simp
variable {C : CC} (hC : al prog C)
include hC
theorem xo (v : Int) (n : Nat) (hn : n < 2 ^ 40) : C 315 [.sl [[.int .i64 v]],.int .i64 n] .any [.own 1 (List.replicate n [.int .i64 v])]:=by
 have k0:=gM hC 1 n (by omega) (by omega)
 have k1 : C 333 [.int .u64 1,.int .u64 n] (.tup [.int .u64 0,.int .u64 n]) []:=by
  have e1 : 1 * n / 2 ^ 64=0:=by omega
  have e2 : 1 * n % 2 ^ 64=n:=by omega
  rw [e1,e2] at k0
  refine aj hC (nf:=N333) rfl rfl ?_
  simp [N333]
  simp at k0
  refine aa k0 (.inl rfl) ?_
  simp
 have w1 : IntKind.wrap .u64 (n : Int)=n:=by
  have e : (2 : Int) ^ IntKind.bits .u64=18446744073709551616:=by decide
  have e2 : IntKind.signed .u64=false:=rfl
  simp only [IntKind.wrap,e,e2,Bool.false_and,x0l,if_false]
  omega
 have w2 : IntKind.wrap .i64 (n : Int)=n:=wrap_i64 (by omega) (by omega)
 refine iS hC (nf:=N315) rfl rfl ?_
 have hn0 : ¬ (n : Int) < 0:=by omega
 have hn1 : ¬ (9223372036854775807 : Int) < n:=by omega
 have hn2 : (n : Int) * 8 <= 140737488355328:=by omega
 simp [N315,w1,hn0]
 refine aa k1 (.inl rfl) ?_
 simp [w2,hn1,hn2,aE]
 refine ⟨fun h0=>?_,fun h0=>?_⟩
 ·refine az Nat (fun m=>[(7,.ref (.r 10112) 0 n),(8,.int .i64 m),(10112,.blk 1 (gV n m v))]) (fun m=>m <= n /\ (0 < n -> 0 < m)) (fun m=>n - m) 0 ⟨by omega,by omega⟩ (by subst h0;simp [gV]) ?_
  rintro m ⟨hm,hm0⟩
  simp
  refine ac (fun h=>?_) (fun h=>?_) <;> simp at h
  ·have hm1 : 0 < m:=hm0 (by omega)
   have hl:=qY (v:=v) hm
   have hnx:=o4 (v:=v) hm
   have hc:=nE n m v
   have hc1:=oZ n m v
   have hnm : ¬ n - m=0:=by omega
   have hpos : 0 < n - m:=by omega
   have htk : ∀ e ∈ (gV n m v).take m,∀ c ∈ e,aE c=true:=fun e he=>hc1 e (x0J he)
   have hw : IntKind.wrap .i64 ((m : Int) + ((min m (n - m) : Nat) : Int))=((min n (m + m) : Nat) : Int):=wrap_i64 (by omega) (by omega)
   simp [h,hl,hm,qO]
   try refine ⟨htk,hm1,fun hz=>absurd hz hnm,fun _=>⟨hc1,htk,ar (by decide +kernel),min n (m + m),⟨by omega,fun _=>by omega⟩,by omega,hw,hnx⟩⟩
  ·have e : m=n:=by omega
   subst e
   simp [oY]
 ·rw [sK h0]
  have h01 : min 1 n=1:=by omega
  refine az Nat (fun m=>[(7,.ref (.r 10112) 0 n),(8,.int .i64 m),(10112,.blk 1 (gV n m v))]) (fun m=>m <= n /\ (0 < n -> 0 < m)) (fun m=>n - m) 1 ⟨by omega,by omega⟩ (by simp [h01]) ?_
  rintro m ⟨hm,hm0⟩
  simp
  refine ac (fun h=>?_) (fun h=>?_) <;> simp at h
  ·have hm1 : 0 < m:=hm0 (by omega)
   have hl:=qY (v:=v) hm
   have hnx:=o4 (v:=v) hm
   have hc:=nE n m v
   have hc1:=oZ n m v
   have hnm : ¬ n - m=0:=by omega
   have hpos : 0 < n - m:=by omega
   have htk : ∀ e ∈ (gV n m v).take m,∀ c ∈ e,aE c=true:=fun e he=>hc1 e (x0J he)
   have hw : IntKind.wrap .i64 ((m : Int) + ((min m (n - m) : Nat) : Int))=((min n (m + m) : Nat) : Int):=wrap_i64 (by omega) (by omega)
   simp [h,hl,hm,qO]
   try refine ⟨htk,hm1,fun hz=>absurd hz hnm,fun _=>⟨hc1,htk,ar (by decide +kernel),min n (m + m),⟨by omega,fun _=>by omega⟩,by omega,hw,hnx⟩⟩
  ·have e : m=n:=by omega
   subst e
   simp [oY]
end Go.Gv

namespace Go.Gv
variable {C : CC} (hC : al prog C)
include hC
end Go.Gv

namespace Go.Gv
variable {C : CC} (hC : al prog C)
include hC
end Go.Gv

namespace Go.Gv
variable {C : CC} (hC : al prog C)
include hC
end Go.Gv

namespace Go.Gv
structure Job where
 below : SlI
 lengths : SlI
 flows : SlI
 falls : SlI
 room : SlI
 secN : Bool
 secs : List Sec
 deriving Inhabited
@[simp] theorem OK {x : SlI} : slI x=slx x.n (x.l.map fun n=>[.int .i64 n]):=zR
variable {C : CC} (hC : al prog C)
include hC
end Go.Gv

namespace Go.Gv
def cl (nm : List UInt8) (s : Sec) : Bool:=s.name == nm
theorem pm (l : List Sec) : bl l=true ↔ l.length <= 40 /\ (∀ (i : Nat) (h : i < l.length),ap l[i]=true /\ a8 (cl l[i].name) l=i):=by
 simp only [bl,x0a,x0c,x0f]
 constructor
 ·rintro ⟨⟨h1,h2⟩,h3⟩
  refine ⟨h1,fun i h=>⟨h2 _ (x0h h),?_⟩⟩
  refine cK (fun k hk hki=>?_) h (by simp [cl])
  rw [cl,beq_eq_false_iff_ne]
  intro e
  exact List.pairwise_iff_getElem.1 h3 k i (by simpa using hk) (by simpa using h) hki (by simpa using e)
 ·rintro ⟨h1,h2⟩
  refine ⟨⟨h1,fun x hx=>?_⟩,?_⟩
  ·obtain ⟨i,h,rfl⟩:=x0Y hx
   exact (h2 i h).1
  ·refine List.pairwise_iff_getElem.2 fun a b ha hb hab e=>?_
   simp only [x1a] at ha hb
   simp only [List.getElem_map] at e
   have h3:=(h2 b hb).2
   have h4 : ∃ k,k <= a /\ a8 (cl l[b].name) l=(k : Int):=by
    unfold a8
    cases hf : l.findIdx? (cl l[b].name) with
    | none =>
     rw [x1G] at hf
     have:=hf l[a] (x0h _)
     simp [cl,e] at this
    | some k =>
     refine ⟨k,?_,rfl⟩
     rw [x0L] at hf
     obtain ⟨q1,q2,q3⟩:=hf
     rcases x1d a k with hak | hak
     ·exact absurd (by simp [cl,e]) (q3 a hak)
     ·exact hak
   obtain ⟨k,h5,h6⟩:=h4
   omega
variable {C : CC} (hC : al prog C)
include hC
theorem Ah (b : Bool) (l : List Sec) (nm : List UInt8) (hl : l.length < 2 ^ 62) : C 49 [slx b (l.map aY),.str nm] (.int .i64 (a8 (cl nm) l)) []:=by
 refine aj hC (nf:=N49) rfl rfl ?_
 simp [N49]
 refine az Nat (fun i=>[(0,slx b (l.map aY)),(1,.str nm),(5,.int .i64 i)]) (fun i=>i <= l.length /\ ∀ (k : Nat) (h : k < l.length),k < i -> cl nm l[k]=false) (fun i=>l.length - i) 0 (by simp) (by simp) ?_
 rintro i ⟨hi,hj⟩
 simp
 refine ac (fun h=>?_) (fun h=>?_) <;> simp at h <;> simp [h]
 ·have hw : IntKind.wrap .i64 ((i : Int) + 1)=((i + 1 : Nat) : Int):=wrap_i64 (by omega) (by omega)
  simp [h,aY]
  refine ac (fun h2=>?_) (fun h2=>?_) <;> simp at h2 <;> simp [h2,hw]
  ·rw [cK hj h (by simp [cl,h2])]
  ·refine ⟨i + 1,⟨by omega,fun k hk hki=>?_⟩,by omega,by simp⟩
   rcases x0y.1 hki with h5 | rfl
   ·exact hj k hk h5
   ·simp [cl,h2]
 ·rw [cW (fun k hk=>hj k hk (by omega))]
end Go.Gv

namespace Go.Gv
def mt (ss : List Sec) (nm : List UInt8) : Int:=a8 (cl nm) ss
def Bv (ss : List Sec) (nm : List UInt8) : Int × Int:=if bl ss then (if 0 <= mt ss nm then (mt ss nm,0) else (0,9)) else (0,1)
def ma (ss : List Sec) (l : Lnk) : Bool:=decide (mt ss l.sect < 0)
def iW (l : Lnk) : Bool:=decide (l.up < l.down)
def jO (ls : List Lnk) (ss : List Sec) : Int:=if ls.any (ma ss) then 9 else if ls.any iW then 23 else 0
def ku (ns : List Nod) (ls : List Lnk) (ss : List Sec) (q : List Sp) (count : Int) : Int:=if cx ns ls && bl ss then (if gf q count=0 then jO ls ss else gf q count) else 1
structure gh (ss : List Sec) (l : Lnk) : Prop where
 idx : ∃ k,mt ss l.sect=(k : Nat) /\ k < ss.length
 le : l.down <= l.up
 up : -4194304 <= l.up /\ l.up <= 4194304
 down : -4194304 <= l.down /\ l.down <= 4194304
 len : 1 <= l.len /\ l.len <= 16777216
theorem vx {ns : List Nod} {ls : List Lnk} (h : cx ns ls=true) {l : Lnk} (hl : l ∈ ls) : bU l.up=true /\ bU l.down=true /\ aT l.len 1 16777216=true /\ ct l.sect=true:=by
 simp only [cx,x0a,x0f,x0c] at h
 obtain ⟨⟨hv,hk⟩,_⟩:=h
 obtain ⟨i,hi,rfl⟩:=x0Y hl
 have h1:=(fq hv hi).1
 have h2:=hk _ hl
 simp only [ca,jJ,h2,if_true,x0a] at h1
 exact ⟨h1.1.1.2,h1.2.1.2,h1.2.1.1,h1.2.2⟩
theorem tJ {ns : List Nod} {ls : List Lnk} {ss : List Sec} (ht : cx ns ls=true) (h : jO ls ss=0) : ∀ l ∈ ls,gh ss l:=by
 intro l hl
 obtain ⟨a,b,c,_⟩:=vx ht hl
 simp only [bU,aT,x0a,x0c] at a b c
 unfold jO at h
 split at h
 ·cases h
 rename_i h1
 split at h
 ·cases h
 rename_i h2
 simp only [x1B,x0S,ma,iW,x0c] at h1 h2
 have e1:=h1 l hl
 have e2:=h2 l hl
 have hi : 0 <= mt ss l.sect:=by omega
 refine ⟨⟨(mt ss l.sect).toNat,by omega,jf hi⟩,by omega,a,b,c⟩
theorem gh.fall {ss : List Sec} {l : Lnk} (h : gh ss l) : bV (cv l) l.len=true:=by
 have:=h.le;have:=h.len;have:=h.up;have:=h.down
 by_cases h : 4194304 < l.up - l.down <;> simp [bV,cv,h] <;> omega
theorem kw {ns : List Nod} {ls : List Lnk} {ss : List Sec} {q : List Sp} {count : Int} (h : ku ns ls ss q count=0) : cx ns ls=true /\ bl ss=true /\ gf q count=0 /\ jO ls ss=0:=by
 unfold ku at h
 split at h
 ·rename_i h1
  simp only [x0a] at h1
  split at h
  ·rename_i h2
   exact ⟨h1.1,h1.2,h2,h⟩
  ·rename_i h2
   exact absurd h h2
 ·cases h
theorem pp {ss : List Sec} (h : bl ss=true) {k : Nat} (hk : k < ss.length) : ap ss[k]=true:=((pm ss).1 h).2 k hk |>.1
variable {C : CC} (hC : al prog C)
include hC
end Go.Gv

namespace Go.Gv
def yJ (s : Sec) (depth fall len : Int) : Int × Int:=if ap s then (if 0 <= depth /\ depth <= s.height /\ bV fall len=true then (if 1099511627776 < (jD s depth fall len : Int) then (0,5) else (jD s depth fall len,0)) else (0,2)) else (0,1)
def cI (ss : List Sec) (l : Lnk) : Sec:=ss[(mt ss l.sect).toNat]?.getD ⟨[],0,0,true,[],true,[]⟩
theorem gh.sec {ss : List Sec} {l : Lnk} (h : gh ss l) : ∃ k,mt ss l.sect=(k : Nat) /\ ∃ hk : k < ss.length,cI ss l=ss[k]:=by
 obtain ⟨k,hk,hl⟩:=h.idx
 refine ⟨k,hk,hl,?_⟩
 simp [cI,hk,hl]
theorem gh.find {ss : List Sec} {l : Lnk} (hv : bl ss=true) (h : gh ss l) : Bv ss l.sect=(mt ss l.sect,0):=by
 obtain ⟨k,hk,hl⟩:=h.idx
 simp [Bv,hv,hk]
theorem gh.valid {ss : List Sec} {l : Lnk} (hv : bl ss=true) (h : gh ss l) : ap (cI ss l)=true:=by
 obtain ⟨k,hk,hl,e⟩:=h.sec
 rw [e]
 exact pp hv hl
theorem gh.wrap {ss : List Sec} {l : Lnk} (h : gh ss l) : IntKind.wrap .i64 (l.up - l.down)=l.up - l.down:=by
 have:=h.up;have:=h.down
 exact wrap_i64 rfl (by omega)
variable {C : CC} (hC : al prog C)
include hC
end Go.Gv

namespace Go.Gv
section
variable {C : CC} {hs : Option (List Nat)} {K : Env -> Prop} {ns : List am} {e : Env} {R : List Nat} {acc : List (List Nat × List Nat)}
end
end Go.Gv

namespace Go.Gv
section
variable {C : CC} {hs : Option (List Nat)} {K : Env -> Prop} {ns : List am} {e : Env} {R : List Nat} {acc : List (List Nat × List Nat)}
theorem tZ {x : Opd} {s c : Nat} {v1 : _} {sz : Nat} {row : List D} {b i1 o1 i off sz0 sz1 : Nat} {es0 es : List (List D)} {row0 r : List D} (hs0 : s < 10000) (hfs : ae e s=.adr (.r c) 0 0) (hfc : ae e c=.blk sz [row]) (hrow : ∀ d ∈ row,aE d=true) (hx : vd (ae e) x=.adr (.n b i1 o1) i off) (hbc : b ≠ c) (hb : ae e b=.blk sz0 es0)
  (h1 : es0[i1]? = some row0) (h2 : row0[o1]? = some (.own sz1 es)) (h3 : es[i]? = some r) (h4 : off + 1 <= r.length)
  (hk : doW C hs K ns ⟨⟩ e R acc [(b,.blk sz0 (bg es0 i1 o1 1 [.own sz1 (bg es i off 1 [.ptr row])])),(s,.ptr row),(c,.any)] []) : opW C hs K ns none (.stP x (.t s)) v1 e R acc:=by
 unfold opW
 simp only [aD]
 refine ⟨trivial,hs0,?_⟩
 rw [hfs]
 refine ⟨rfl,rfl,?_⟩
 rw [hfc]
 refine ⟨hrow,?_⟩
 rw [hx]
 refine ⟨hbc,?_⟩
 rw [hb]
 exact ⟨row0,h1,sz1,es,h2,r,h3,h4,hk⟩
theorem tY {n : Nat} {y : Opd} {s c : Nat} {v1 : _} {sz : Nat} {row ds : List D} (hs0 : s < 10000) (hfs : ae e s=.adr (.r c) 0 0) (hfc : ae e c=.blk sz [row]) (hl : row.length=n) (hp : mf (vd (ae e) y)=some ds) (hd : ds.length=n) (h1 : ds.all qr=true)
  (hk : doW C hs K ns ⟨⟩ e R acc [(s,.ptx ds),(c,.any)] []) : opW C hs K ns none (.stF n (.t s) y) v1 e R acc:=by
 unfold opW
 simp only [aD]
 refine ⟨trivial,hs0,?_⟩
 rw [hfs]
 refine ⟨rfl,rfl,?_⟩
 rw [hfc]
 exact ⟨hl,ds,hp,hd,h1,hk⟩
end
end Go.Gv

namespace Go.Gv
section
variable {C : CC} {hs : Option (List Nat)} {K : Env -> Prop} {ns : List am} {e : Env} {R : List Nat} {acc : List (List Nat × List Nat)}
theorem ux {t m : Nat} {ms : List Nat} {x : Opd} {v1 : _} {ds cs : List D} {bs : List Nat} (hv : vd (ae e) x=.agx ds) (hl : (m::ms).length=ds.length) (hab : ∀ Q : List D -> List Nat -> Prop,Q cs bs -> ip (ae e) ds Q) (hd : bA bs=true) (hbs : bs.contains (rt t 0)=false)
  (hk : doW C hs K ns ⟨⟩ e R acc ((t,.adr (.r (rt t 0)) 0 0)::(rt t 0,.blk (dN (m::ms) cs).length [dN (m::ms) cs])::bY bs) [(rt t 0,true)]) : opW C hs K ns (some t) (.box (m::ms) x) v1 e R acc:=by
 unfold opW
 simp only [aD]
 rw [hv]
 simp only [eX]
 exact ⟨.inr hl,hab _ ⟨hd,hbs,hk⟩⟩
end
def oh (ns : List Nod) (es : List Edg) : Bool:=(List.range ns.length).any fun i=>!decide (ns[i]!.kind=3) && (fE es i).isNone
def gP (ls : List Lnk) (ss : List Sec) (fl : List Sp) (k : Nat) : Int:=(cd ls[k]! (cI ss ls[k]!) fl[k]!.2).2
def iE (ls : List Lnk) (ss : List Sec) (fl : List Sp) : Int:=if (List.range ls.length).any (fun k=>decide (gP ls ss fl k=16)) then 16 else if (List.range ls.length).any (fun k=>decide (gP ls ss fl k=5)) then 5 else 0
def eG (o : Sp) : Bool:=decide (o.1 < -4194304) || decide (4194304 < o.2)
def cJ (ns : List Nod) (ls : List Lnk) (ss : List Sec) (q : List Sp) (o : Sp) : Int :=
 if ku ns ls ss q ns.length=1 \/ dC o=false then 1
 else if ku ns ls ss q ns.length=3 then 3
 else if ku ns ls ss q ns.length=2 \/ eG o=true then 2
 else if ku ns ls ss q ns.length ≠ 0 then ku ns ls ss q ns.length
 else if oh ns (av ns ls) then 24
 else if b9 ns.length (av ns ls) q ≠ 0 then b9 ns.length (av ns ls) q
 else iE ls ss (aA ns.length (av ns ls) q)
def gI (ns : List Nod) (ls : List Lnk) (ss : List Sec) (q : List Sp) (o : Sp) : Bool:=decide (ku ns ls ss q ns.length=0) && dC o && !eG o && !oh ns (av ns ls) && decide (b9 ns.length (av ns ls) q=0) && !decide (iE ls ss (aA ns.length (av ns ls) q)=16)
theorem sw (ls : List Lnk) (ss : List Sec) (fl : List Sp) : iE ls ss fl=0 \/ iE ls ss fl=5 \/ iE ls ss fl=16:=by
 unfold iE
 split
 ·simp
 ·split <;> simp
theorem sS {ns : List Nod} {ls : List Lnk} {ss : List Sec} {q : List Sp} {o : Sp} (h : gI ns ls ss q o=true) : cJ ns ls ss q o=iE ls ss (aA ns.length (av ns ls) q) /\ (cJ ns ls ss q o=0 \/ cJ ns ls ss q o=5):=by
 simp only [gI,x0a,x0q,x0c,x0E] at h
 obtain ⟨⟨⟨⟨⟨h1,h2⟩,h3⟩,h4⟩,h5⟩,h6⟩:=h
 have e : cJ ns ls ss q o=iE ls ss (aA ns.length (av ns ls) q):=by
  unfold cJ
  rw [h1,h3,h4,h5]
  simp [h2]
 refine ⟨e,?_⟩
 rw [e]
 rcases sw ls ss (aA ns.length (av ns ls) q) with h | h | h
 ·exact .inl h
 ·exact .inr h
 ·exact absurd h h6
theorem A0 {ns : List Nod} {ls : List Lnk} {ss : List Sec} {q : List Sp} {o : Sp} {e : Int} (he : e=cJ ns ls ss q o) (h : ¬ (e=0 \/ e=5)) : gI ns ls ss q o=false:=by
 rw [<- x1B]
 intro h2
 rw [he] at h
 exact h (sS h2).2
def iO (ss : List Sec) (ls : List Lnk) (j : Nat) : List (List D):=(ls.take j).map fun l=>aY (cI ss l)
theorem DS (ss : List Sec) (ls : List Lnk) : iO ss ls 0=[]:=rfl
theorem vi {ss : List Sec} {ls : List Lnk} {j : Nat} (h : j < ls.length) : iO ss ls (j + 1)=iO ss ls j++[aY (cI ss ls[j])]:=by
 unfold iO
 rw [x0u h,x1b]
 rfl
theorem gE {ss : List Sec} {ls : List Lnk} {j : Nat} (h : j <= ls.length) : (iO ss ls j).length=j:=by simp [iO];omega
theorem Av (ss : List Sec) (ls : List Lnk) (j : Nat) : ∀ e ∈ iO ss ls j,∀ c ∈ e,aE c=true:=by
 intro e he
 simp only [iO,x0t] at he
 obtain ⟨l,_,rfl⟩:=he
 simp [aY]
theorem rf {ss : List Sec} {ls : List Lnk} {j k : Nat} (hk : k < j) (hj : k < ls.length) : (iO ss ls j)[k]? = some (aY (cI ss ls[k])):=by
 simp [iO,hk,hj]
def toT (es : List Edg) (j : Nat) : List (List D):=(es.take j).map fun e=>[.int .i64 (e.2 : Int)]
theorem KW (es : List Edg) : toT es 0=[]:=rfl
theorem xZ {es : List Edg} {j : Nat} (h : j < es.length) : toT es (j + 1)=toT es j++[[.int .i64 (es[j].2 : Int)]]:=by
 unfold toT
 rw [x0u h,x1b]
 rfl
theorem uc {es : List Edg} {j : Nat} (h : j <= es.length) : (toT es j).length=j:=by simp [toT];omega
theorem AX {es : List Edg} {j k : Nat} (hk : k < j) (hj : k < es.length) : (toT es j)[k]? = some [.int .i64 (es[k].2 : Int)]:=by
 simp [toT,hk,hj]
def fg (b1 b2 : Bool) (ns : List Nod) (ls : List Lnk) (ss : List Sec) (es : List Edg) (fl : List Sp) (o : Sp) (dn : List (List D)) : List D :=
 [slx b1 (ns.map aR),slx b2 (ls.map aF),.sl (fl.map knD),.own 5 (iO ss ls ls.length),.own 1 (frA ns.length es es.length),.own 1 (toT es es.length),.int .i64 o.1,.int .i64 o.2,.own 1 dn]
variable {C : CC} (hC : al prog C)
include hC
theorem xR (s : Sp) : C 641 [.agg (knD s)] (.bool (!dC s)) []:=by
 refine aj hC (nf:=N641) rfl rfl ?_
 simp [N641,knD]
 refine aa (sQ hC s) (.inl rfl) ?_
 simp
theorem AN (s : Sp) : C 642 [.agg (knD s)] (.bool (iR s)) []:=by
 refine aj hC (nf:=N642) rfl rfl ?_
 simp [N642,knD,iR]
 by_cases h : s.1 < 0 <;> simp [h]
theorem xE (l : Lnk) (s : Sec) : C 643 (.agg (aY s)::[.ptr (aF l)]) (.bool (cl l.sect s)) []:=by
 refine aj hC (nf:=N643) rfl rfl ?_
 simp [N643,aY,aF,cl]
 rw [x0x];simp
theorem vA (l : Lnk) : C 644 [.agg (aF l)] (.bool (iW l)) []:=by
 refine aj hC (nf:=N644) rfl rfl ?_
 simp [N644,aF,iW]
end Go.Gv

namespace Go.Gv
variable {C : CC} (hC : al prog C)
include hC
end Go.Gv

namespace Go.Gv
def spT (l : List Sp) (j : Nat) : List (List D):=(l.take j).map knD
theorem nQ {l : List Sp} {j : Nat} (h : j < l.length) : spT l (j + 1)=spT l j++[knD l[j]]:=by
 rw [spT,x0u h,x1b];rfl
theorem AP {l : List Sp} {j : Nat} (h : j <= l.length) : (spT l j).length=j:=by simp [spT];omega
theorem AO (l : List Sp) : spT l l.length=l.map knD:=by simp [spT]
theorem KU (l : List Sp) (j : Nat) : (spT l j).map (fun e=>e.map aL)=spT l j:=by
 unfold spT
 rw [x1w]
 apply x0i
 intro v _
 simp [knD,aL]
theorem gH {q : List Sp} {n : Nat} (h : gf q n=0) : q.length=n /\ ∀ s ∈ q,0 <= s.1 /\ s.1 <= s.2 /\ s.2 <= 1099511627776:=by
 unfold gf at h
 split at h
 ·cases h
 rename_i h1
 split at h
 ·rename_i h0
  split at h
  ·cases h
  ·rename_i h2
   refine ⟨by omega,fun s hs=>?_⟩
   simp only [x1B,x0S] at h1 h2
   have a:=h1 s hs
   have b:=h2 s hs
   simp only [dC,iR,x0q,Bool.not_eq_false',x0a,x0c,x0K,not_or] at a b
   simp at a b
   omega
 ·cases h
variable {C : CC} (hC : al prog C)
include hC
end Go.Gv

namespace Go.Gv
variable {C : CC} (hC : al prog C)
include hC
end Go.Gv

namespace Go.Gv
theorem dU (n : Nat) (es : List Edg) (l : List Sp) : (aA n es l).length=es.length:=by simp [aA]
variable {C : CC} (hC : al prog C)
include hC
end Go.Gv

namespace Go.Gv
structure sZ (s : Sec) (fall len : Int) (y : Sp) : Prop where
 lo : 0 <= y.1
 hi : y.1 <= s.height
 fl : y.2 <= 1099511627776
 yes : y.2 <= (jD s y.1 fall len : Int)
 no : 0 < y.1 -> (jD s (y.1 - 1) fall len : Int) < y.2
theorem sZ.cap {s : Sec} {fall len : Int} {y : Sp} (h : sZ s fall len y) (hs : ap s=true) (hf : bV fall len=true) : (yJ s y.1 fall len).2=5 \/ ((yJ s y.1 fall len).2=0 /\ y.2 <= (yJ s y.1 fall len).1):=by
 have:=h.yes
 unfold yJ
 rw [if_pos hs,if_pos ⟨h.lo,h.hi,hf⟩]
 split
 ·exact .inl rfl
 ·exact .inr ⟨rfl,this⟩
variable {C : CC} (hC : al prog C)
include hC
end Go.Gv

namespace Go.Gv
variable {C : CC} (hC : al prog C)
include hC
end Go.Gv

namespace Go.Gv
def cm (l : List (List UInt8)) : List (List D):=l.map fun s=>[.str s]
theorem db (l : List (List UInt8)) : (cm l).length=l.length:=by simp [cm]
theorem xV (l : List (List UInt8)) : (cm l).map (fun e=>e.map aL)=cm l:=by
 unfold cm
 rw [x1w]
 apply x0i
 intro v _
 simp [aL]
theorem la (l : List (List UInt8)) (s : List UInt8) : cm l++[[.str s]]=cm (l++[s]):=by simp [cm]
variable {C : CC} (hC : al prog C)
include hC
end Go.Gv

namespace Go.Gv
variable {C : CC} (hC : al prog C)
include hC
end Go.Gv

namespace Go.Gv
def ptN (at' : List Int) (i : Nat) (s : Sp) : Int:=if at'.length=0 then s.1 else s.1 + at'[i % at'.length]! % (s.2 - s.1 + 1)
def eL (at' : List Int) (i : Nat) (s : Sp) : Sp:=(ptN at' i s,ptN at' i s)
def ptL (at' : List Int) (q : List Sp) : List Sp:=(List.range q.length).map fun i=>eL at' i q[i]!
theorem kT (at' : List Int) (q : List Sp) : (ptL at' q).length=q.length:=by simp [ptL]
theorem tM {at' : List Int} {q : List Sp} {i : Nat} (h : i < (ptL at' q).length) (h2 : i < q.length) : (ptL at' q)[i]=eL at' i q[i]:=by
 have e : q[i]! = q[i]:=x0g q i h2
 rw [<- e]
 simp only [ptL,List.getElem_map,List.getElem_range]
theorem pN {at' : List Int} {i : Nat} {s : Sp} (h : s.1 <= s.2) : s.1 <= ptN at' i s /\ ptN at' i s <= s.2:=by
 unfold ptN
 split
 ·omega
 ·have h1:=Int.emod_nonneg at'[i % at'.length]! (show s.2 - s.1 + 1 ≠ 0 by omega)
  have h2:=Int.emod_lt_of_pos at'[i % at'.length]! (show 0 < s.2 - s.1 + 1 by omega)
  omega
variable {C : CC} (hC : al prog C)
include hC
end Go.Gv

namespace Go.Gv
theorem AR {l : List Sp} {n : Nat} (h : l.length=n) (h2 : ∀ s ∈ l,0 <= s.1 /\ s.1 <= s.2 /\ s.2 <= 1099511627776) : gf l n=0:=by
 unfold gf
 have a : l.any (fun s=>!dC s)=false:=by
  rw [x0S]
  intro s hs
  have:=h2 s hs
  simp [dC,rY]
  omega
 have b : l.any iR=false:=by
  rw [x0S]
  intro s hs
  have:=h2 s hs
  simp [iR]
  omega
 rw [a,b]
 simp [h]
structure rF (a b : List Sp) : Prop where
 len : b.length=a.length
 get : ∀ (i : Nat) (h : i < a.length) (h' : i < b.length),0 <= a[i].1 /\ a[i].1 <= b[i].1 /\ b[i].1=b[i].2 /\ b[i].2 <= a[i].2
theorem sW {n : Nat} {es : List Edg} {g g' : Nat -> Int} (h : ∀ v,v < n -> g v <= g' v) (x : Nat) : upS n es g x <= upS n es g' x:=by
 unfold upS
 refine mI fun v hv=>?_
 have:=h v hv
 show (if upB n es v x=true then g v else 0) <= if upB n es v x=true then g' v else 0
 split <;> omega
theorem ic {l : List Sp} {v : Nat} (h : v < l.length) : l[v]! = l[v]:=x0g l v h
theorem Pk {n : Nat} {es : List Edg} (hn : n <= 300) (hg : inG n es) (ht : cw n es=true) {q p : List Sp} (hq : q.length=n) (hqr : ∀ s ∈ q,0 <= s.1 /\ s.1 <= s.2 /\ s.2 <= 1099511627776) (h : rF q p) : rF (aA n es q) (aA n es p):=by
 have hl1 : ∀ v,v < n -> 0 <= q[v]!.1 /\ q[v]!.1 <= q[v]!.2 /\ q[v]!.2 <= 1099511627776:=fun v hv=>by
  rw [ic (by omega)]
  exact hqr _ (x0h _)
 have hpl:=h.len
 have hl2 : ∀ v,v < n -> 0 <= p[v]!.1 /\ p[v]!.1 <= p[v]!.2 /\ p[v]!.2 <= 1099511627776:=fun v hv=>by
  have h1:=h.get v (by omega) (by omega)
  have h2:=hl1 v hv
  rw [ic (by omega)] at h2
  rw [ic (by omega)]
  omega
 refine ⟨by simp [aA],fun i hi hi'=>?_⟩
 have hie : i < es.length:=by simpa [aA] using hi
 have f1:=kr hn hg ht hl1 hie
 have f2:=kr hn hg ht hl2 hie
 rw [ic hi] at f1
 rw [ic hi'] at f2
 rw [f1,f2]
 have r1:=jm (n:=n) (es:=es) (g:=fun v=>q[v]!.1) (B:=1099511627776) (by omega) (fun v hv=>by have:=hl1 v hv;omega) es[i].1
 have m1:=sW (n:=n) (es:=es) (g:=fun v=>q[v]!.1) (g':=fun v=>p[v]!.1) (fun v hv=>by
  have h1:=h.get v (by omega) (by omega)
  rw [ic (by omega),ic (by omega)]
  omega) es[i].1
 have m2:=sW (n:=n) (es:=es) (g:=fun v=>p[v]!.2) (g':=fun v=>q[v]!.2) (fun v hv=>by
  have h1:=h.get v (by omega) (by omega)
  rw [ic (by omega),ic (by omega)]
  omega) es[i].1
 have m3 : upS n es (fun v=>p[v]!.1) es[i].1=upS n es (fun v=>p[v]!.2) es[i].1:=by
  unfold upS
  refine ci fun v hv=>?_
  have h1:=h.get v (by omega) (by omega)
  simp only
  rw [ic (by omega)]
  rw [h1.2.2.1]
 exact ⟨r1.1,m1,m3,m2⟩
theorem DN {at' : List Int} {q : List Sp} (hqr : ∀ s ∈ q,0 <= s.1 /\ s.1 <= s.2 /\ s.2 <= 1099511627776) : rF q (ptL at' q):=by
 refine ⟨kT _ _,fun i h h'=>?_⟩
 have h1:=hqr _ (x0h h)
 have h2:=pN (at':=at') (i:=i) (s:=q[i]) (by omega)
 rw [tM h' h]
 exact ⟨by omega,h2.1,rfl,h2.2⟩
theorem rF.rng {a b : List Sp} (h : rF a b) (ha : ∀ s ∈ a,0 <= s.1 /\ s.1 <= s.2 /\ s.2 <= 1099511627776) : ∀ s ∈ b,0 <= s.1 /\ s.1 <= s.2 /\ s.2 <= 1099511627776:=by
 intro s hs
 obtain ⟨i,hi,rfl⟩:=x0Y hs
 have hl:=h.len
 have h1:=h.get i (by omega) hi
 have h2:=ha _ (x0h (show i < a.length by omega))
 omega
theorem yF {fl : List Sp} (h : jp fl=false) : ∀ s ∈ fl,s.2 <= 1099511627776:=fun s hs=>by
 have:=x0S.1 h s hs
 simp at this
 omega
theorem yG {fl : List Sp} (h : ∀ s ∈ fl,s.2 <= 1099511627776) : jp fl=false:=by
 unfold jp
 rw [x0S]
 intro s hs
 have:=h s hs
 simp
 omega
theorem rF.rng2 {a b : List Sp} (h : rF a b) (hb : jp a=false) : ∀ s ∈ a,0 <= s.1 /\ s.1 <= s.2 /\ s.2 <= 1099511627776:=by
 intro s hs
 have h3:=yF hb s hs
 obtain ⟨i,hi,rfl⟩:=x0Y hs
 have hl:=h.len
 have h1:=h.get i hi (by omega)
 omega
end Go.Gv

set_option maxRecDepth 4000
namespace Go.Gv
theorem x3 {ns : List Nod} {ls : List Lnk} {ss : List Sec} {q : List Sp} {o : Sp} (h : ¬ (cx ns ls=true /\ bl ss=true /\ dC o=true /\ q.any (fun s=>!dC s)=false)) : cJ ns ls ss q o=1:=by
 unfold cJ
 rw [if_pos]
 by_cases h1 : dC o=true
 ·left
  unfold ku
  by_cases h2 : cx ns ls=true
  ·by_cases h3 : bl ss=true
   ·have h4 : q.any (fun s=>!dC s)=true:=by
     apply Classical.byContradiction
     intro h5
     exact h ⟨h2,h3,h1,by simpa using h5⟩
    have h5 : gf q ns.length=1:=by unfold gf;rw [if_pos h4]
    rw [if_pos (by simp [h2,h3]),h5,if_neg (by decide)]
   ·rw [if_neg (by simp [h3])]
  ·rw [if_neg (by simp [h2])]
 ·right
  simpa using h1
theorem x4 {ns : List Nod} {ls : List Lnk} {ss : List Sec} {q : List Sp} (h1 : cx ns ls=true) (h2 : bl ss=true) (h3 : q.any (fun s=>!dC s)=false) :
  ku ns ls ss q ns.length=if q.length=ns.length then (if q.any iR then 2 else jO ls ss) else 3:=by
 have e : gf q ns.length=if q.length=ns.length then (if q.any iR then 2 else 0) else 3:=by
  unfold gf
  rw [if_neg (by simp [h3])]
  by_cases h4 : q.length=ns.length
  ·rw [if_pos (by omega),if_pos h4]
  ·rw [if_neg (by omega),if_neg h4]
 unfold ku
 rw [if_pos (by simp [h1,h2]),e]
 by_cases h4 : q.length=ns.length
 ·rw [if_pos h4,if_pos h4]
  by_cases h5 : q.any iR=true
  ·rw [if_pos h5,if_pos h5,if_neg (by decide)]
  ·rw [if_neg h5,if_neg h5,if_pos rfl]
 ·rw [if_neg h4,if_neg h4,if_neg (by decide)]
theorem u5 (d : D) : dM 0 d=d:=by cases d <;> rfl
theorem DF : dM 5 .nils=.own 5 []:=rfl
theorem DE : dM 1 .nils=.own 1 []:=rfl
theorem xi {ls : List Lnk} {ss : List Sec} {k : Nat} (hk : k < ls.length) (h : ma ss ls[k]=true) : jO ls ss=9:=by
 unfold jO
 rw [if_pos (x0H.2 ⟨_,x0h hk,h⟩)]
theorem tp {n : Nat} {es : List Edg} (hn : n <= 300) (hg : inG n es) (ht : cw n es=true) {q : List Sp} (hq : q.length=n) (hqr : ∀ s ∈ q,0 <= s.1 /\ s.1 <= s.2 /\ s.2 <= 1099511627776) {k : Nat} (hk : k < es.length) : 0 <= (aA n es q)[k]!.1 /\ (aA n es q)[k]!.1 <= (aA n es q)[k]!.2:=by
 have hl1 : ∀ v,v < n -> 0 <= q[v]!.1 /\ q[v]!.1 <= q[v]!.2 /\ q[v]!.2 <= 1099511627776:=fun v hv=>by
  rw [ic (by omega)]
  exact hqr _ (x0h _)
 rw [kr hn hg ht hl1 hk]
 have r1:=jm (n:=n) (es:=es) (g:=fun v=>q[v]!.1) (B:=1099511627776) (by omega) (fun v hv=>by have:=hl1 v hv;omega) es[k].1
 exact ⟨r1.1,sW (fun v hv=>(hl1 v hv).2.1) _⟩
theorem px {n : Nat} {es : List Edg} {q : List Sp} (hb : jp (aA n es q)=false) {k : Nat} (hk : k < es.length) : (aA n es q)[k]!.2 <= 1099511627776:=by
 have hl : k < (aA n es q).length:=by rw [dU];exact hk
 rw [ic hl]
 simp only [jp,x0S,x0c] at hb
 have:=hb _ (x0h hl)
 omega
def oa (ls : List Lnk) (ss : List Sec) (fl : List Sp) (j : Nat) : Int:=if (List.range j).any (fun k=>decide (gP ls ss fl k=5)) then 5 else 0
theorem Ee {ls : List Lnk} {ss : List Sec} {fl : List Sp} {j : Nat} (h : gP ls ss fl j=5) : oa ls ss fl (j + 1)=5:=by
 unfold oa
 rw [if_pos]
 rw [x0H]
 exact ⟨j,by simp,by simpa using h⟩
theorem Ef {ls : List Lnk} {ss : List Sec} {fl : List Sp} {j : Nat} (h : gP ls ss fl j ≠ 5) : oa ls ss fl (j + 1)=oa ls ss fl j:=by
 unfold oa
 rw [List.range_succ,List.any_append]
 simp [h]
theorem zS {ls : List Lnk} {ss : List Sec} {fl : List Sp} {j : Nat} (hj : j < ls.length) (h : gP ls ss fl j=16) : iE ls ss fl=16:=by
 unfold iE
 rw [if_pos]
 rw [x0H]
 exact ⟨j,by simpa using hj,by simpa using h⟩
theorem Db {ls : List Lnk} {ss : List Sec} {fl : List Sp} (h : ∀ k,k < ls.length -> gP ls ss fl k ≠ 16) : iE ls ss fl=oa ls ss fl ls.length:=by
 unfold iE oa
 rw [if_neg]
 rw [x0H]
 rintro ⟨k,h1,h2⟩
 exact h k (by simpa using h1) (by simpa using h2)
theorem A5 (ls : List Lnk) (ss : List Sec) (fl : List Sp) (j : Nat) : oa ls ss fl j ≠ 16:=by
 unfold oa
 split <;> decide
theorem tr {ns : List Nod} {es : List Edg} {k : Nat} (hk : k < ns.length) (h1 : ns[k].kind ≠ 3) (h2 : fE es k=none) : oh ns es=true:=by
 unfold oh
 rw [x0H]
 exact ⟨k,by simpa using hk,by rw [x0g ns k hk];simp [h1,h2]⟩
theorem zB {ns : List Nod} {es : List Edg} (h : ∀ k (hk : k < ns.length),ns[k].kind ≠ 3 -> fE es k ≠ none) : oh ns es=false:=by
 unfold oh
 rw [x0S]
 intro k hk
 have hk' : k < ns.length:=by simpa using hk
 rw [x0g ns k hk']
 by_cases h1 : ns[k].kind=3
 ·simp [h1]
 ·have:=h k hk' h1
  simp [h1,this]
theorem qR {ls : List Lnk} {ss : List Sec} : jO ls ss=0 \/ jO ls ss=9 \/ jO ls ss=23:=by
 unfold jO
 split
 ·simp
 ·split <;> simp
variable {C : CC} (hC : al prog C)
include hC
set_option maxHeartbeats 2000000 in
theorem rq (hS : SlC C) (b1 b2 b b' : Bool) (ns : List Nod) (ls : List Lnk) (ss : List Sec) (q : List Sp) (o : Sp) (hls : ls.length < 2 ^ 62) (hss : ss.length < 2 ^ 62) (hq : q.length < 2 ^ 62) (hcv : ∀ l ∈ ls,l.curve.length < 2 ^ 62) {Q : cc -> Env -> Prop}
  (hnot : ∀ e : Int,e=cJ ns ls ss q o -> gI ns ls ss q o=false -> bu Q ⟨⟩ .ret [(8,.nilp),(9,.int .i64 e)])
  (hok : gI ns ls ss q o=true -> bu Q ⟨⟩ .ret [(8,.adr (.r 11200) 0 0),(9,.int .i64 (cJ ns ls ss q o)),(11200,.blk 9 [fg b1 b2 ns ls ss (av ns ls) (aA ns.length (av ns ls) q) o (List.replicate ns.length [.nilp])])]) :
  wN C N618.body Q ⟨⟩ (params 0 [.agg [slx b1 (ns.map aR),slx b2 (ls.map aF)],slx b (ss.map aY),slx b' (q.map knD),.agg (knD o)]):=by
 have hbad : ∀ e : Int,e=cJ ns ls ss q o -> ¬ (e=0 \/ e=5) -> bu Q ⟨⟩ .ret [(8,.nilp),(9,.int .i64 e)]:=fun e h1 h2=>hnot e h1 (A0 h1 h2)
 have k1:=tQ hC hS b1 b2 ns ls hls hcv
 have k2:=mW hC b ss
 have k3:=sQ hC o
 have k4:=kx hC (b:=b') (xs:=q) (g:=641) (cs:=[]) (fun s=>!dC s) hq (fun x _=>xR hC x)
 have k5:=kx hC (b:=b') (xs:=q) (g:=642) (cs:=[]) iR hq (fun x _=>AN hC x)
 have bad1 : ¬ (cx ns ls=true /\ bl ss=true /\ dC o=true /\ q.any (fun s=>!dC s)=false) -> bu Q ⟨⟩ .ret [(8,.nilp),(9,.int .i64 1)]:=fun h=>hbad 1 (x3 h).symm (by decide)
 simp [N618,knD]
 refine aa k1 (.inl rfl) ?_
 by_cases h1 : cx ns ls=true
 case neg =>
  simp [h1]
  exact bad1 (fun h=>h1 h.1)
 simp [h1]
 refine aa k2 (.inl rfl) ?_
 by_cases h2 : bl ss=true
 case neg =>
  simp [h2]
  exact bad1 (fun h=>h2 h.2.1)
 simp [h2]
 refine aa (by simpa [knD] using k3) (.inl rfl) ?_
 by_cases h3 : dC o=true
 case neg =>
  simp [h3]
  exact bad1 (fun h=>h3 h.2.2.1)
 simp [h3]
 refine aa k4 (.inl rfl) ?_
 by_cases h4 : q.any (fun s=>!dC s)=true
 case pos =>
  rw [h4]
  simp
  exact bad1 (fun h=>by rw [h4] at h;exact absurd h.2.2.2 (by decide))
 have h4' : q.any (fun s=>!dC s)=false:=by simpa using h4
 rw [h4']
 simp
 clear bad1 k3 k4 k2
 have hg:=x4 (ls:=ls) (ss:=ss) h1 h2 h4'
 by_cases h5 : q.length=ns.length
 case neg =>
  have h5' : ¬ ((q.length : Int)=ns.length):=by omega
  simp [h5,h5']
  refine hbad 3 ?_ (by decide)
  unfold cJ
  rw [hg,if_neg h5,if_neg (by simp [h3]),if_pos rfl]
 simp [h5]
 refine aa k5 (.inl rfl) ?_
 rw [if_pos h5] at hg
 have ho2 : ¬ eG o=true -> ¬ (o.1 < -4194304) /\ ¬ (4194304 < o.2):=fun h=>by
  simp only [eG,x0K,x0c] at h
  omega
 have bad2 : q.any iR=true \/ eG o=true -> bu Q ⟨⟩ .ret [(8,.nilp),(9,.int .i64 2)]:=fun h=>hbad 2 (by
  unfold cJ
  rw [hg]
  rcases qR (ls:=ls) (ss:=ss) with e | e | e <;> rw [e] <;> rcases h with h | h <;> simp [h,h3] <;> (try split) <;> simp) (by decide)
 by_cases h6 : q.any iR=true
 case pos =>
  rw [h6]
  simp
  exact bad2 (.inl h6)
 rw [if_neg h6] at hg
 have h6' : q.any iR=false:=by simpa using h6
 rw [h6']
 simp
 by_cases h7 : eG o=true
 case pos =>
  have h7':=h7
  simp only [eG,x0K,x0c] at h7'
  by_cases h8 : o.1 < -4194304
  ·simp [h8]
   exact bad2 (.inr h7)
  ·have h9 : 4194304 < o.2:=by omega
   simp [h8,h9]
   exact bad2 (.inr h7)
 obtain ⟨h8,h9⟩:=ho2 h7
 simp [h8,h9]
 clear bad2 ho2 k5
 have htE : cJ ns ls ss q o=if jO ls ss ≠ 0 then jO ls ss else if oh ns (av ns ls) then 24 else if b9 ns.length (av ns ls) q ≠ 0 then b9 ns.length (av ns ls) q else iE ls ss (aA ns.length (av ns ls) q):=by
  unfold cJ
  rw [hg]
  rcases qR (ls:=ls) (ss:=ss) with e | e | e <;> rw [e] <;> simp [h3,h7]
 have hv : bO ns ls=true:=by
  simp only [cx,x0a] at h1
  exact h1.1.1
 obtain ⟨hnl,hll⟩:=cn hv
 have k6:=xo hC (-1) ns.length (by omega)
 refine i9 k6 ?_
 simp
 refine ⟨by omega,?_⟩
 refine ux (ds:=[slx b1 (ns.map aR),slx b2 (ls.map aF),.nils,.nils,.ref (.r 11104) 0 ns.length,.nils,.int .i64 o.1,.int .i64 o.2,.ref (.r 11168) 0 ns.length]) (cs:=[slx b1 (ns.map aR),slx b2 (ls.map aF),.nils,.nils,.own 1 (List.replicate ns.length [.int .i64 (-1)]),.nils,.int .i64 o.1,.int .i64 o.2,.own 1 (List.replicate ns.length [.nilp])]) (bs:=[11104,11168]) (by simp) rfl ?_ (by decide) (by decide) ?_
 ·intro Q hQ
  simp [ip,cY,aE]
  rcases dY b1 (ns.map aR) with e1 | ⟨e1,_⟩ <;> rcases dY b2 (ls.map aF) with e2 | ⟨e2,_⟩ <;> rw [e1,e2] at hQ ⊢ <;> simp [ip,cY,aE] <;> exact hQ
 simp [dN,u5,DF,DE]
 refine ⟨ar (by decide +kernel),?_⟩
 refine az Nat (fun j=>[(1,slx b (ss.map aY)),(2,slx b' (q.map knD)),(4,.ptr [slx b1 (ns.map aR),slx b2 (ls.map aF)]),(10,.adr (.r 11200) 0 0),(77,slx b2 (ls.map aF)),(78,.int .i64 ls.length),(79,.int .i64 j),(11200,.blk 9 [[slx b1 (ns.map aR),slx b2 (ls.map aF),.nils,.own 5 (iO ss ls j),.own 1 (List.replicate ns.length [.int .i64 (-1)]),.own 1 [],.int .i64 o.1,.int .i64 o.2,.own 1 (List.replicate ns.length [.nilp])]])])
  (fun j=>j <= ls.length /\ ∀ k (hk : k < ls.length),k < j -> ma ss ls[k]=false) (fun j=>ls.length - j) 0 ⟨by omega,fun k _ h=>absurd h (Nat.not_lt_zero _)⟩ (by simp [DS]) ?_
 rintro j ⟨hj,hno⟩
 simp
 refine ac (fun h=>?_) (fun h=>?_) <;> simp at h
 ·have hw : IntKind.wrap .i64 ((j : Int) + 1)=((j + 1 : Nat) : Int):=wrap_i64 (by omega) (by omega)
  have k7:=qo hC (b:=b) (xs:=ss) (g:=643) (cs:=[.ptr (aF ls[j])]) (cl ls[j].sect) hss (fun x _=>xE hC ls[j] x)
  simp [h,aF]
  refine aa (by simpa [aF] using k7) (.inl rfl) ?_
  simp
  by_cases hi : a8 (cl ls[j].sect) ss < 0
  ·simp [hi]
   have h9:=xi (ss:=ss) h (show ma ss ls[j]=true by simp [ma,mt,hi])
   refine hbad 9 ?_ (by decide)
   rw [htE,h9,if_pos (by decide)]
  ·obtain ⟨m,hm⟩ : ∃ m : Nat,a8 (cl ls[j].sect) ss=(m : Int):=⟨(a8 (cl ls[j].sect) ss).toNat,by omega⟩
   have hml : m < ss.length:=by
    have:=jf (show 0 <= a8 (cl ls[j].sect) ss by omega)
    omega
   have hsl : cI ss ls[j]=ss[m]:=by
    unfold cI mt
    rw [hm]
    simp [hml]
   have hsn:=vi (ss:=ss) h
   rw [hsl] at hsn
   have hlen:=gE (ss:=ss) (Nat.le_of_lt h)
   have hm0 : ¬ ((m : Int) < 0):=by omega
   simp [hm,hm0,hml,aY,hlen]
   have htk : List.take j (iO ss ls j)=iO ss ls j:=x0p (by omega)
   refine ⟨by omega,fun e he=>?_,ar (by decide +kernel),j + 1,⟨by omega,fun k hk hkj=>?_⟩,by omega,hw,?_⟩
   ·rcases he with he | rfl
    ·exact Av ss ls j e (x0J he)
    ·simp
   ·rcases x0y.1 hkj with h8 | rfl
    ·exact hno k hk h8
    ·simp [ma,mt,hm]
   ·rw [htk,hsn]
    rfl
 ·have ej : j=ls.length:=by omega
  subst ej
  have hn9 : ls.any (ma ss)=false:=by
   rw [x0S]
   intro l hl
   obtain ⟨k,hk,rfl⟩:=x0Y hl
   simp [hno k hk hk]
  have k8:=m6 hC (b:=b2) (xs:=ls) (g:=644) (cs:=[]) iW hls (fun x _=>vA hC x)
  simp [h]
  refine aa k8 (.inl rfl) ?_
  have hpE : jO ls ss=if ls.any iW then 23 else 0:=by
   unfold jO
   rw [if_neg (by simp [hn9])]
  by_cases hu : ls.any iW=true
  ·rw [hu]
   simp
   refine hbad 23 ?_ (by decide)
   rw [htE,hpE,if_pos hu,if_pos (by decide)]
  have hu' : ls.any iW=false:=by simpa using hu
  rw [if_neg hu] at hpE
  rw [hpE,if_neg (by decide)] at htE
  rw [hu']
  have k9:=mS hC b1 b2 ns ls hcv
  rw [hv,if_pos rfl] at k9
  simp
  refine aa k9 (.inr rfl) ?_
  simp
  clear k9 k8 k6 k1
  have hge:=fc hv
  have hel:=aZ ns ls
  have htf : cw ns.length (av ns ls)=true:=by
   simp only [cx,x0a] at h1
   exact h1.2
  have hnd : ((av ns ls).map (·.1)).Nodup:=by
   simp only [cw,x0a,x0c] at htf
   exact htf.1
  have k10:=yw hC hS b1 b2 b' ns ls q hls hq hcv
  have hsp : gf q ns.length=0:=by
   unfold gf
   rw [if_neg (by simp [h4']),if_pos (by omega),if_neg (by simp [h6'])]
  have hFE : mP ns ls q=b9 ns.length (av ns ls) q:=by
   unfold mP
   rw [if_pos h1,if_pos hsp]
  unfold rG at k10
  rw [hFE] at k10
  have htM : gI ns ls ss q o=(!oh ns (av ns ls) && decide (b9 ns.length (av ns ls) q=0) && !decide (iE ls ss (aA ns.length (av ns ls) q)=16)):=by
   have ho : eG o=false:=by simpa using h7
   unfold gI
   rw [hg,hpE,h3,ho]
   simp
  generalize av ns ls=es at *
  refine az Nat (fun j=>[(2,slx b' (q.map knD)),(4,.ptr [slx b1 (ns.map aR),slx b2 (ls.map aF)]),(10,.adr (.r 11200) 0 0),(113,.sl (es.map edK)),(114,.int .i64 es.length),(115,.int .i64 j),(11200,.blk 9 [[slx b1 (ns.map aR),slx b2 (ls.map aF),.nils,.own 5 (iO ss ls ls.length),.own 1 (frA ns.length es j),.own 1 (toT es j),.int .i64 o.1,.int .i64 o.2,.own 1 (List.replicate ns.length [.nilp])]])])
   (fun j=>j <= es.length) (fun j=>es.length - j) 0 (by simp) (by simp [KW,wF]) ?_
  rintro j hj
  simp
  refine ac (fun g=>?_) (fun g=>?_) <;> simp at g
  ·have hw : IntKind.wrap .i64 ((j : Int) + 1)=((j + 1 : Nat) : Int):=wrap_i64 (by omega) (by omega)
   have he:=hge _ (x0h g)
   have hfj : fE (es.take j) es[j].1=none:=(zZ g ((((List.take_sublist j es).map _).nodup) hnd)).1 ((((List.take_sublist (j + 1) es).map _).nodup) hnd)
   have hset:=zz (n:=ns.length) g hfj
   have hts:=xZ g
   have hgt:=pA es j he.1
   have htl:=uc (Nat.le_of_lt g)
   simp [g,edK,knD,he.1,mz,aB hgt,hgt,hset]
   have hA : (frA ns.length es j)[es[j].1]'(by rw [mz];exact he.1)=[.int .i64 (frI (fE (es.take j) es[j].1))]:=(x0b.1 hgt).2
   have hC1 : ∀ e ∈ toT es j,∀ c ∈ e,aE c=true:=by
    intro e he
    simp only [toT,x0t] at he
    obtain ⟨x,_,rfl⟩:=he
    simp [aE]
   rw [hA]
   refine ⟨by simp,ar (by decide +kernel),by omega,fun e he=>?_,ar (by decide +kernel),j + 1,by omega,by omega,hw,?_,hts.symm⟩
   ·rcases he with he | rfl
    ·exact hC1 e he
    ·simp [aE]
   ·simpa using hset
  ·have ej : j=es.length:=by omega
   subst ej
   simp [g]
   refine az Nat (fun j=>[(2,slx b' (q.map knD)),(4,.ptr [slx b1 (ns.map aR),slx b2 (ls.map aF)]),(10,.adr (.r 11200) 0 0),(141,slx b1 (ns.map aR)),(142,.int .i64 ns.length),(143,.int .i64 j),(11200,.blk 9 [[slx b1 (ns.map aR),slx b2 (ls.map aF),.nils,.own 5 (iO ss ls ls.length),.own 1 (frA ns.length es es.length),.own 1 (toT es es.length),.int .i64 o.1,.int .i64 o.2,.own 1 (List.replicate ns.length [.nilp])]])])
    (fun j=>j <= ns.length /\ ∀ k (hk : k < ns.length),k < j -> ns[k].kind ≠ 3 -> fE es k ≠ none) (fun j=>ns.length - j) 0 ⟨by omega,fun k _ h=>absurd h (Nat.not_lt_zero _)⟩ (by simp) ?_
   rintro j ⟨hj2,hgp⟩
   simp
   refine ac (fun g2=>?_) (fun g2=>?_) <;> simp at g2
   ·have hw : IntKind.wrap .i64 ((j : Int) + 1)=((j + 1 : Nat) : Int):=wrap_i64 (by omega) (by omega)
    have hgt:=pA es es.length g2
    rw [x1m] at hgt
    simp [g2,aR]
    by_cases c1 : ns[j].kind=3
    ·simp [c1]
     refine ⟨j + 1,⟨by omega,fun k hk hkj h3=>?_⟩,by omega,hw⟩
     rcases x0y.1 hkj with h8 | rfl
     ·exact hgp k hk h8 h3
     ·exact absurd c1 h3
    ·simp [c1,mz,g2,aB hgt]
     cases hf : fE es j with
     | none =>
      simp [frI]
      refine hbad 24 ?_ (by decide)
      rw [htE,tr g2 c1 hf]
      simp
     | some x =>
      have hx0 : ¬ ((x : Int) < 0):=by omega
      simp [frI,hx0]
      refine ⟨j + 1,⟨by omega,fun k hk hkj h3=>?_⟩,by omega,hw⟩
      rcases x0y.1 hkj with h8 | rfl
      ·exact hgp k hk h8 h3
      ·rw [hf];simp
   ·have ej : j=ns.length:=by omega
    subst ej
    have hgap : oh ns es=false:=zB fun k hk h3=>hgp k hk hk h3
    rw [hgap] at htE
    simp [g2]
    refine aa k10 (.inr (by simp)) ?_
    have hF5 : b9 ns.length es q=0 \/ b9 ns.length es q=5:=by
     unfold b9;split <;> simp
    by_cases hf0 : b9 ns.length es q=0
    case neg =>
     have hf5 : b9 ns.length es q=5:=by rcases hF5 with h | h;exact absurd h hf0;exact h
     rw [if_neg hf0,hf5]
     simp
     refine hnot 5 ?_ ?_
     ·rw [htE,hf5];simp
     ·rw [htM,hf5];simp
    have hbig : jp (aA ns.length es q)=false:=by
     unfold b9 at hf0
     split at hf0
     ·cases hf0
     ·rename_i h;simpa using h
    obtain ⟨hq1,hq2⟩:=gH hsp
    have hfr : ∀ k,k < es.length -> (0 <= (aA ns.length es q)[k]!.1 /\ (aA ns.length es q)[k]!.1 <= (aA ns.length es q)[k]!.2) /\ (aA ns.length es q)[k]!.2 <= 1099511627776:=fun k hk=>⟨tp hnl hge htf h5 hq2 hk,px hbig hk⟩
    have hfl:=dU ns.length es q
    rw [if_pos hf0,hf0]
    rw [hgap,hf0] at htM
    simp at htM
    rw [if_neg (by decide),if_neg (by simp [hf0])] at htE
    clear hF5 hbig k10
    have hpo:=tJ h1 hpE
    rw [htE] at hok hnot
    clear hbad
    generalize aA ns.length es q=fl at *
    simp
    refine az Nat (fun j=>[(10,.adr (.r 11200) 0 0),(20,.int .i64 (oa ls ss fl j)),(175,slx b2 (ls.map aF)),(176,.int .i64 ls.length),(177,.int .i64 j),(11200,.blk 9 [[slx b1 (ns.map aR),slx b2 (ls.map aF),.sl (fl.map knD),.own 5 (iO ss ls ls.length),.own 1 (frA ns.length es es.length),.own 1 (toT es es.length),.int .i64 o.1,.int .i64 o.2,.own 1 (List.replicate ns.length [.nilp])]])])
     (fun j=>j <= ls.length /\ ∀ k,k < j -> gP ls ss fl k ≠ 16) (fun j=>ls.length - j) 0 ⟨by omega,fun k h=>absurd h (Nat.not_lt_zero _)⟩ (by simp [oa]) ?_
    rintro j ⟨hj3,h16⟩
    simp
    refine ac (fun g3=>?_) (fun g3=>?_) <;> simp at g3
    ·have hw : IntKind.wrap .i64 ((j : Int) + 1)=((j + 1 : Nat) : Int):=wrap_i64 (by omega) (by omega)
     have hP:=hpo _ (x0h g3)
     have hje : j < es.length:=by omega
     have hjf : j < fl.length:=by omega
     obtain ⟨⟨f0,f1⟩,f2⟩:=hfr j hje
     have hlK : gP ls ss fl j=(cd ls[j] (cI ss ls[j]) fl[j].2).2:=by
      unfold gP
      rw [x0g ls j g3,ic hjf]
     rw [ic hjf] at f0 f1 f2
     have k11:=sy hC ls[j] (cI ss ls[j]) fl[j].2 (hP.valid h2) hP.len ⟨by omega,f2⟩
     have hsg:=rf (ss:=ss) (j:=ls.length) g3 g3
     rw [<- hlK] at k11
     generalize hr : (cd ls[j] (cI ss ls[j]) fl[j].2).1=r at *
     generalize hLe : gP ls ss fl j=e at *
     simp [g3,aF,gE,bI hsg,aB hsg,hjf,knD,aY]
     refine aa (by simpa [aF,aY] using k11) (.inr rfl) ?_
     have ext : ∀ e',e' ≠ 16 -> gP ls ss fl j=e' -> ∀ k,k < j + 1 -> ¬ gP ls ss fl k=16:=fun e' h1 h2 k hk=>by
      rcases x0y.1 hk with h8 | rfl
      ·exact h16 k h8
      ·rw [h2];exact h1
     by_cases c1 : e=16
     ·have h5:=zS g3 (by rw [hLe,c1])
      subst c1
      simp
      refine ⟨ar (by decide +kernel),?_⟩
      refine hnot 16 h5.symm ?_
      rw [htM,h5];rfl
     ·by_cases c2 : e=5
      ·have hn:=Ee (hLe.trans c2)
       subst c2
       simp
       exact ⟨ar (by decide +kernel),j + 1,⟨by omega,ext 5 (by decide) hLe⟩,by omega,hn.symm,hw⟩
      ·have hn:=Ef (ls:=ls) (ss:=ss) (fl:=fl) (j:=j) (by rw [hLe];exact c2)
       simp [c1,c2]
       exact ⟨ar (by decide +kernel),j + 1,⟨by omega,ext e c1 hLe⟩,by omega,hn.symm,hw⟩
    ·have ej : j=ls.length:=by omega
     subst ej
     simp [g3]
     have hw:=Db h16
     rw [hw] at hok htM
     have ht : gI ns ls ss q o=true:=by
      rw [htM]
      simp [A5]
     exact hok ht
theorem sT (hS : SlC C) (b1 b2 b b' : Bool) (ns : List Nod) (ls : List Lnk) (ss : List Sec) (q : List Sp) (o : Sp) (hls : ls.length < 2 ^ 62) (hss : ss.length < 2 ^ 62) (hq : q.length < 2 ^ 62) (hcv : ∀ l ∈ ls,l.curve.length < 2 ^ 62) (hM : gI ns ls ss q o=false) :
  C 618 [.agg [slx b1 (ns.map aR),slx b2 (ls.map aF)],slx b (ss.map aY),slx b' (q.map knD),.agg (knD o)] (.tup [.nilp,.int .i64 (cJ ns ls ss q o)]) []:=by
 refine aj hC (nf:=N618) rfl rfl ?_
 refine rq hC hS b1 b2 b b' ns ls ss q o hls hss hq hcv (fun e he _=>?_) (fun h=>?_)
 ·subst he
  simp [N618]
 ·rw [hM] at h;cases h
theorem vy (hS : SlC C) (b1 b2 b b' : Bool) (ns : List Nod) (ls : List Lnk) (ss : List Sec) (q : List Sp) (o : Sp) (hls : ls.length < 2 ^ 62) (hss : ss.length < 2 ^ 62) (hq : q.length < 2 ^ 62) (hcv : ∀ l ∈ ls,l.curve.length < 2 ^ 62) (hM : gI ns ls ss q o=true) :
  C 618 [.agg [slx b1 (ns.map aR),slx b2 (ls.map aF)],slx b (ss.map aY),slx b' (q.map knD),.agg (knD o)] (.tup [.blk 9 [fg b1 b2 ns ls ss (av ns ls) (aA ns.length (av ns ls) q) o (List.replicate ns.length [.nilp])],.int .i64 (cJ ns ls ss q o)]) [.nils]:=by
 refine D3 hC (nf:=N618) rfl rfl rfl ?_
 refine rq hC hS b1 b2 b b' ns ls ss q o hls hss hq hcv (fun e he h=>?_) (fun h=>?_)
 ·rw [hM] at h;cases h
 ·simp [N618]
end Go.Gv

set_option maxRecDepth 4000
namespace Go.Gv
theorem xq {n : Nat} {es : List Edg} (hlen : (aX n es).length=n) {v : Nat} (hv : v < n) : rkO n es v < n:=by
 have hI:=gT n es n
 have hmem : v ∈ aX n es:=by
  apply Classical.byContradiction
  intro hn
  have hnd : (v::aX n es).Nodup:=List.nodup_cons.2 ⟨hn,hI.nd⟩
  have hsub : (v::aX n es) ⊆ List.range n:=by
   intro u hu
   rcases x0O.1 hu with rfl | hu
   ·simpa using hv
   ·simpa using hI.lt u hu
  have:=List.Nodup.length_le_of_subset hnd hsub
  simp at this
  omega
 have:=List.idxOf_lt_length_iff.2 hmem
 unfold rkO
 omega
structure TrX (ns : List Nod) (ls : List Lnk) (ss : List Sec) (es : List Edg) (fl : List Sp) : Prop where
 trs : TrS ns.length es ls (ls.map (cI ss)) fl
 lnk : ∀ l ∈ ls,gh ss l
 cat : bl ss=true
 kind : ∀ i (h : i < ns.length),ns[i].kind=3 ↔ fE es i=none
 inv : ∀ i : Nat,-4194304 <= ns[i]!.invert /\ ns[i]!.invert <= 4194304
 fln : fl.length=ls.length
theorem kX {ls : List Lnk} {ss : List Sec} {k : Nat} (hk : k < ls.length) : (ls.map (cI ss))[k]! = cI ss ls[k]!:=by
 rw [x0g (ls.map (cI ss)) k (by simpa using hk),x0g ls k hk,List.getElem_map]
theorem j1 {ns : List Nod} {ls : List Lnk} {ss : List Sec} {q : List Sp} {o : Sp} (hM : gI ns ls ss q o=true) (h0 : cJ ns ls ss q o=0) :
  TrX ns ls ss (av ns ls) (aA ns.length (av ns ls) q) /\ -4194304 <= o.1 /\ o.1 <= o.2 /\ o.2 <= 4194304:=by
 have hE:=(sS hM).1
 rw [h0] at hE
 simp only [gI,x0a,x0q,x0c,x0E] at hM
 obtain ⟨⟨⟨⟨⟨h1,h2⟩,h3⟩,h4⟩,h5⟩,h6⟩:=hM
 obtain ⟨ht,hc,hs,hp⟩:=kw h1
 have hv : bO ns ls=true:=by simp only [cx,x0a] at ht;exact ht.1.1
 have htf : cw ns.length (av ns ls)=true:=by simp only [cx,x0a] at ht;exact ht.2
 obtain ⟨hnl,hll⟩:=cn hv
 have hg:=fc hv
 have hel:=aZ ns ls
 have hpo:=tJ ht hp
 obtain ⟨hq1,hq2⟩:=gH hs
 have hq1' : q.length=ns.length:=by omega
 have hbig : jp (aA ns.length (av ns ls) q)=false:=by
  unfold b9 at h5
  split at h5
  ·cases h5
  ·rename_i h;simpa using h
 have hnd : ((av ns ls).map (·.1)).Nodup /\ (aX ns.length (av ns ls)).length=ns.length:=by
  simpa only [cw,x0a,x0c] using htf
 have hlos : ∀ k,k < ls.length -> (cd ls[k]! (cI ss ls[k]!) (aA ns.length (av ns ls) q)[k]!.2).2=0:=by
  intro k hk
  have hle : gP ls ss (aA ns.length (av ns ls) q) k=0 \/ gP ls ss (aA ns.length (av ns ls) q) k=5 \/ gP ls ss (aA ns.length (av ns ls) q) k=16:=by
   unfold gP cd fR
   split
   ·simp
   ·split
    ·simp
    ·split <;> simp
  unfold iE at hE
  split at hE
  ·cases hE
  ·rename_i n16
   split at hE
   ·cases hE
   ·rename_i n5
    rw [x1B,x0S] at n16 n5
    have a:=n16 k (by simpa using hk)
    have b:=n5 k (by simpa using hk)
    simp only [x0c] at a b
    rcases hle with h | h | h
    ·exact h
    ·exact absurd h b
    ·exact absurd h a
 have ho : dC o=true:=h2
 have ho2 : -4194304 <= o.1 /\ o.2 <= 4194304:=by
  simp only [eG,Bool.or_eq_false_iff,x0E] at h3
  omega
 have ho1 : o.1 <= o.2:=by
  simp only [dC,x0a,x0c] at ho
  exact ho.1.1
 refine ⟨⟨⟨hg,hnd.2,hnd.1,hel,hnl,⟨fun k hk=>?_,fun k hk=>?_,fun k hk=>?_,fun k hk=>?_,fun k hk=>?_,fun k hk=>?_⟩,fun k hk=>?_⟩,hpo,hc,fun i hi=>?_,fun i=>?_,by rw [dU,hel]⟩,ho2.1,ho1,ho2.2⟩
 ·rw [kX hk,x0g ls k hk]
  exact (hpo _ (x0h hk)).valid hc
 ·rw [x0g ls k hk]
  exact (hpo _ (x0h hk)).len
 ·rw [x0g ls k hk]
  exact (hpo _ (x0h hk)).le
 ·rw [x0g ls k hk]
  exact (hpo _ (x0h hk)).up
 ·exact px hbig (by omega)
 ·rw [kX hk]
  exact hlos k hk
 ·exact tp hnl hg htf hq1' hq2 (by omega)
 ·constructor
  ·intro h
   rw [pv]
   intro hm
   obtain ⟨e,he,hee⟩:=x0t.1 hm
   obtain ⟨k,hk,rfl⟩:=x0Y he
   have hk' : k < ls.length:=by omega
   have hl : fB ns ls k=true:=by
    simp only [bO,x0a,x0f] at hv
    exact hv.2 k (by simpa using hk')
   simp only [fB,jG,x0a,x0c,x0q,x0E] at hl
   have h8:=hl.1.2.2
   rw [x0g ls k hk'] at h8
   have e1 : (a8 (bq ls[k].src) ns).toNat=i:=by
    rw [<- hee]
    simp [av]
   rw [e1,x0g ns i hi] at h8
   exact h8 h
  ·intro h
   apply Classical.byContradiction
   intro h9
   rw [tr hi h9 h] at h4
   cases h4
 ·by_cases hi : i < ns.length
  ·rw [x0g ns i hi]
   have:=(jg hv hi).1
   simp only [iG,bU,x0a,x0c] at this
   omega
  ·rw [getElem!_neg ns i hi]
   decide
def uM (sp : Nat -> Sp) (n : Nat) (dn : List (List D)) : Prop:=dn.length=n /\ ∀ j,j < n -> dn[j]? = some [.nilp] \/ dn[j]? = some [.ptr [.int .i64 (sp j).1,.int .i64 (sp j).2]]
theorem CI (sp : Nat -> Sp) (n : Nat) : uM sp n (List.replicate n [.nilp]):=⟨by simp,fun j hj=>.inl (by simp [hj])⟩
theorem qd {sp : Nat -> Sp} {n : Nat} {dn : List (List D)} (h : uM sp n dn) {i : Nat} (hi : i < n) : uM sp n (dn.set i [.ptr [.int .i64 (sp i).1,.int .i64 (sp i).2]]):=by
 refine ⟨by simp [h.1],fun j hj=>?_⟩
 by_cases e : i=j
 ·subst e
  right
  rw [List.getElem?_set_self (by rw [h.1];exact hj)]
 ·rw [List.getElem?_set_ne e]
  exact h.2 j hj
def lvX (ns : List Nod) (ls : List Lnk) (ss : List Sec) (es : List Edg) (fl : List Sp) (o : Sp) (i : Nat) : Sp:=fF ns.length es ns ls (ls.map (cI ss)) fl o i
variable {C : CC} (hC : al prog C)
include hC
set_option maxHeartbeats 2000000 in
theorem qx (b1 b2 : Bool) {ns : List Nod} {ls : List Lnk} {ss : List Sec} {es : List Edg} {fl : List Sp} {o : Sp} (T : TrX ns ls ss es fl) (ho : -4194304 <= o.1 /\ o.1 <= o.2 /\ o.2 <= 4194304) : ∀ (r i : Nat),i < ns.length -> ns.length <= r + rkO ns.length es i -> ∀ dn,uM (lvX ns ls ss es fl o) ns.length dn ->
  ∃ dn',uM (lvX ns ls ss es fl o) ns.length dn' /\ C 619 [.blk 9 [fg b1 b2 ns ls ss es fl o dn],.int .i64 i] (.tup [.agg [.int .i64 (lvX ns ls ss es fl o i).1,.int .i64 (lvX ns ls ss es fl o i).2],.int .i64 0]) [.blk 9 [fg b1 b2 ns ls ss es fl o dn']]
 | 0,i,hi,hr,dn,hd=>by
  have:=xq T.trs.full hi
  omega
 | r + 1,i,hi,hr,dn,hd=>by
  obtain ⟨sp,hsp⟩ : ∃ sp,sp=lvX ns ls ss es fl o:=⟨_,rfl⟩
  rw [<- hsp] at hd ⊢
  have hdl:=hd.1
  rcases hd.2 i hi with hdi | hdi
  case inr =>
   refine ⟨dn,hd,?_⟩
   have hA : dn[i]'(by omega)=[.ptr [.int .i64 (sp i).1,.int .i64 (sp i).2]]:=(x0b.1 hdi).2
   refine sR hC (nf:=N619) rfl rfl ?_
   simp [N619,fg,hdl,hi,aB hdi]
  have hA : dn[i]'(by omega)=[.nilp]:=(x0b.1 hdi).2
  cases hf : fE es i with
  | none =>
   have hk:=(T.kind i hi).2 hf
   refine ⟨_,qd hd hi,?_⟩
   have hs : sp i=(mxI ns[i].invert o.1,mxI ns[i].invert o.2):=by
    rw [hsp]
    unfold lvX
    rw [oK (show ju es i=none from hf)]
    unfold p8
    rw [x0g ns i hi]
   refine sR hC (nf:=N619) rfl rfl ?_
   simp [N619,fg,hdl,hi,aB hdi,aR,hk]
   refine ⟨ar (by decide +kernel),?_⟩
   refine tZ (s:=6) (c:=10096) (sz:=2) (row:=[.int .i64 (sp i).1,.int .i64 (sp i).2]) (b:=10015) (i1:=0) (o1:=8) (i:=i) (off:=0) (sz0:=9) (sz1:=1) (es0:=[fg b1 b2 ns ls ss es fl o dn]) (row0:=fg b1 b2 ns ls ss es fl o dn) (es:=dn) (r:=[.nilp]) (by decide) (by simp) (by simp [hs,mxI]) (by simp [aE]) (by simp) (by decide) (by simp [fg]) rfl rfl hdi (by simp) ?_
   simp [fg,hA,hdl,hi]
  | some k =>
   obtain ⟨hk,hek⟩:=ft (show ju es i=some k from hf)
   have hkl : k < ls.length:=by have:=T.trs.cnt;omega
   have hfl:=T.fln
   have hkf : k < fl.length:=by omega
   have hnk : ¬ ns[i].kind=3:=fun h=>by rw [(T.kind i hi).1 h] at hf;cases hf
   obtain ⟨w,hw,r1,r2,e1,e2,hS⟩:=oL (ns:=ns) (o:=o) T.trs T.inv ⟨ho.2.1,ho.2.2⟩ (xq T.trs.full hi) (show ju es i=some k from hf)
   rw [x0g es k hk] at hw
   have hwn : w < ns.length:=by rw [hw];exact (T.trs.ing _ (x0h hk)).2
   obtain ⟨b1',b2',b3'⟩:=mC (ns:=ns) (o:=o) T.trs T.inv ⟨ho.2.1,ho.2.2⟩ w
   have hP:=T.lnk _ (x0h hkl)
   obtain ⟨f0,f1⟩:=T.trs.low k hkl
   have f2:=T.trs.tro.flow k hkl
   rw [kX hkl,x0g ls k hkl,x0g fl k hkf] at hS e1 e2
   rw [x0g fl k hkf] at f0 f1 f2
   have hsm:=T.trs.small
   obtain ⟨dn1,hd1,kc⟩:=qx b1 b2 T ho r w hwn (by omega) dn (by rw [<- hsp];exact hd)
   have hS2 : lvX ns ls ss es fl o i=((bz ls[k] (cI ss ls[k]) fl[k].1 (lvX ns ls ss es fl o w).1).1,(bz ls[k] (cI ss ls[k]) fl[k].2 (lvX ns ls ss es fl o w).2).1):=hS
   change mm ns.length (lvX ns ls ss es fl o w).1 at b1'
   change mm ns.length (lvX ns ls ss es fl o w).2 at b2'
   change (bz ls[k] (cI ss ls[k]) fl[k].1 (lvX ns ls ss es fl o w).1).2=0 at e1
   change (bz ls[k] (cI ss ls[k]) fl[k].2 (lvX ns ls ss es fl o w).2).2=0 at e2
   rw [<- hsp] at kc hS2 b1' b2' e1 e2 hd1
   have hb1 : -4194304 <= (sp w).1 /\ (sp w).1 <= 1099511627776:=⟨b1'.1,by have:=b1'.2;omega⟩
   have hb2 : -4194304 <= (sp w).2 /\ (sp w).2 <= 1099511627776:=⟨b2'.1,by have:=b2'.2;omega⟩
   have hu : bU ls[k].up=true:=by
    have:=hP.up
    simp only [bU,x0a,x0c]
    exact this
   have hdw : bU ls[k].down=true:=by
    have:=hP.down
    simp only [bU,x0a,x0c]
    exact this
   have ka:=pe hC ls[k] (cI ss ls[k]) fl[k].1 (sp w).1 (hP.valid T.cat) hP.len hu hdw ⟨f0,by omega⟩ hb1
   have kb:=pe hC ls[k] (cI ss ls[k]) fl[k].2 (sp w).2 (hP.valid T.cat) hP.len hu hdw ⟨by omega,f2⟩ hb2
   rw [e1] at ka
   rw [e2] at kb
   have s1 : (sp i).1=(bz ls[k] (cI ss ls[k]) fl[k].1 (sp w).1).1:=by rw [hS2]
   have s2 : (sp i).2=(bz ls[k] (cI ss ls[k]) fl[k].2 (sp w).2).1:=by rw [hS2]
   rw [<- s1] at ka
   rw [<- s2] at kb
   refine ⟨_,qd hd1 hi,?_⟩
   have hdl1:=hd1.1
   have hgt:=pA es es.length hi
   rw [x1m,hf] at hgt
   have hto:=AX (es:=es) (j:=es.length) hk hk
   rw [<- hw] at hto
   have hsg:=rf (ss:=ss) (j:=ls.length) hkl hkl
   clear hS hS2 e1 e2 s1 s2 b1' b2' b3'
   refine sR hC (nf:=N619) rfl rfl ?_
   simp [N619,fg,hdl,hi,aB hdi,aR,hnk,mz,aB hgt,frI,hk,uc,aB hto]
   refine tw (by simpa [fg] using kc) (by simp) ?_
   simp [hkf,knD]
   refine ⟨ar (by decide +kernel),?_⟩
   refine az Nat (fun j=>[(0,.adr (.r 10015) 0 0),(1,.int .i64 i),(4,.adr (.r 10064) 0 0),(6,.adr (.r 10096) 0 0),(8,.int .i64 k),(105,.rfx 2 3 [.int .i64 fl[k].1,.int .i64 (sp w).1,.adr (.r 10096) 0 0,.int .i64 fl[k].2,.int .i64 (sp w).2,.adr (.r 10096) 0 1]),(106,.int .i64 2),(107,.int .i64 j),
     (10015,.blk 9 [fg b1 b2 ns ls ss es fl o dn1]),(10064,.blk 2 [[.int .i64 0,.int .i64 0]]),(10096,.blk 2 [[.int .i64 (if 0 < j then (sp i).1 else 0),.int .i64 (if 1 < j then (sp i).2 else 0)]])]) (fun j=>j <= 2) (fun j=>2 - j) 0 (by simp) (by simp [fg]) ?_
   intro j hj
   simp
   refine ac (fun g=>?_) (fun g=>?_) <;> simp at g
   ·rcases (show j=0 \/ j=1 by omega) with rfl | rfl
    ·simp [fg,hkl,aF,gE,aB hsg]
     refine tY (s:=12) (c:=10192) (sz:=3) (row:=[.int .i64 0,.int .i64 0,.nilp]) (ds:=[.int .i64 fl[k].1,.int .i64 (sp w).1,.adr (.r 10096) 0 0]) (by decide) (by simp) (by simp) rfl (by simp [mf]) rfl (by simp [qr]) ?_
     simp [fg,hkl,aF,aY,gE,aB hsg]
     refine aa (by simpa [aF,aY] using ka) (.inr rfl) ?_
     simp
     exact ⟨ar (by decide +kernel),1,by omega,by omega,rfl,by simp⟩
    ·simp [fg,hkl,aF,gE,aB hsg]
     refine tY (s:=12) (c:=10192) (sz:=3) (row:=[.int .i64 0,.int .i64 0,.nilp]) (ds:=[.int .i64 fl[k].2,.int .i64 (sp w).2,.adr (.r 10096) 0 1]) (by decide) (by simp) (by simp) rfl (by simp [mf]) rfl (by simp [qr]) ?_
     simp [fg,hkl,aF,aY,gE,aB hsg]
     refine aa (by simpa [aF,aY] using kb) (.inr rfl) ?_
     simp
     exact ⟨ar (by decide +kernel),2,by omega,by omega,rfl,by simp⟩
   ·have ej : j=2:=by omega
    subst ej
    obtain ⟨r',hr',hrl⟩ : ∃ r',dn1[i]? = some r' /\ r'.length=1:=by
     rcases hd1.2 i hi with h | h
     ·exact ⟨_,h,rfl⟩
     ·exact ⟨_,h,rfl⟩
    have hA1 : dn1[i]'(by omega)=r':=(x0b.1 hr').2
    simp [fg,hdl1,hi]
    refine tZ (s:=6) (c:=10096) (sz:=2) (row:=[.int .i64 (sp i).1,.int .i64 (sp i).2]) (b:=10015) (i1:=0) (o1:=8) (i:=i) (off:=0) (sz0:=9) (sz1:=1) (es0:=[fg b1 b2 ns ls ss es fl o dn1]) (row0:=fg b1 b2 ns ls ss es fl o dn1) (es:=dn1) (r:=r') (by decide) (by simp) (by simp) (by simp [aE]) (by simp) (by decide) (by simp [fg]) rfl rfl hr' (by omega) ?_
    have hsg1 : bg dn1 i 0 1 [.ptr [.int .i64 (sp i).1,.int .i64 (sp i).2]]=dn1.set i [.ptr [.int .i64 (sp i).1,.int .i64 (sp i).2]]:=by
     unfold bg
     rw [hr']
     obtain ⟨x,rfl⟩ : ∃ x,r'=[x]:=List.length_eq_one_iff.1 hrl
     rfl
    rw [hsg1]
    simp [fg]
end Go.Gv

set_option maxRecDepth 4000
namespace Go.Gv
theorem j0 {ns : List Nod} {ls : List Lnk} {ss : List Sec} {q : List Sp} {o : Sp} (h : cJ ns ls ss q o=0) : gI ns ls ss q o=true:=by
 unfold cJ at h
 split at h
 ·cases h
 rename_i h1
 split at h
 ·cases h
 split at h
 ·cases h
 rename_i h2
 split at h
 ·rename_i h3;exact absurd h h3
 rename_i h3
 split at h
 ·cases h
 rename_i h4
 split at h
 ·rename_i h5;exact absurd h h5
 rename_i h5
 have h3' : ku ns ls ss q ns.length=0:=Classical.byContradiction h3
 have h5' : b9 ns.length (av ns ls) q=0:=Classical.byContradiction h5
 have h6 : dC o=true:=by
  apply Classical.byContradiction
  intro h7
  exact h1 (.inr (by simpa using h7))
 have h7 : eG o=false:=by
  rw [<- x1B]
  intro h8
  exact h2 (.inr h8)
 have h8 : oh ns (av ns ls)=false:=by simpa using h4
 unfold gI
 rw [h3',h5',h6,h7,h8,h]
 rfl
def lvT (sp : Nat -> Sp) (j : Nat) : List Sp:=(List.range j).map sp
theorem J5 (sp : Nat -> Sp) : lvT sp 0=[]:=rfl
theorem wV (sp : Nat -> Sp) (j : Nat) : lvT sp (j + 1)=lvT sp j++[sp j]:=by simp [lvT,List.range_succ]
theorem cq (sp : Nat -> Sp) (j : Nat) : (lvT sp j).length=j:=by simp [lvT]
theorem fD (sp : Nat -> Sp) {i j : Nat} (h : i < (lvT sp j).length) : (lvT sp j)[i]=sp i:=by simp [lvT]
theorem Bz (sp : Nat -> Sp) (n : Nat) : List.map knD (lvT sp n)=List.take n (List.map ((fun e=>List.map aL e) ∘ knD) (lvT sp n)):=by
 rw [x0p (by simp [cq])]
 apply x0i
 intro x _
 simp [knD,aL]
theorem fw (l : List (List UInt8)) : cm l=List.take l.length (cm l):=by rw [x0p (by rw [db];exact x0k _)]
def gb (ns : List Nod) (ls : List Lnk) (ss : List Sec) (q : List Sp) (o : Sp) : Nat -> Sp:=lvX ns ls ss (av ns ls) (aA ns.length (av ns ls) q) o
def mQ (ns : List Nod) (ls : List Lnk) (ss : List Sec) (q : List Sp) (o : Sp) : D:=if cJ ns ls ss q o=0 then .sl ((lvT (gb ns ls ss q o) ns.length).map knD) else .nils
def ro (ns : List Nod) (sp : Nat -> Sp) (hi : Bool) (i : Nat) : Bool:=!decide (ns[i]!.kind=3) && decide (ns[i]!.ground < (if hi then (sp i).2 else (sp i).1))
def ff (ns : List Nod) (sp : Nat -> Sp) (hi : Bool) (j : Nat) : List (List UInt8):=((List.range j).filter (ro ns sp hi)).map fun i=>ns[i]!.name
theorem D6 (ns : List Nod) (sp : Nat -> Sp) (hi : Bool) : ff ns sp hi 0=[]:=rfl
theorem o7 (ns : List Nod) (sp : Nat -> Sp) (hi : Bool) (j : Nat) : ff ns sp hi (j + 1)=ff ns sp hi j++(if ro ns sp hi j then [ns[j]!.name] else []):=by
 unfold ff
 rw [List.range_succ,List.filter_append,x1b]
 congr 1
 by_cases h : ro ns sp hi j=true <;> simp [h]
theorem iV (ns : List Nod) (sp : Nat -> Sp) (hi : Bool) (j : Nat) : (ff ns sp hi j).length <= j:=by
 unfold ff
 rw [x1a]
 exact x07 (x02 _ _) (by simp)
variable {C : CC} (hC : al prog C)
include hC
set_option maxHeartbeats 2000000 in
theorem pY (hS : SlC C) (b1 b2 b b' : Bool) (ns : List Nod) (ls : List Lnk) (ss : List Sec) (q : List Sp) (o : Sp) (hls : ls.length < 2 ^ 62) (hss : ss.length < 2 ^ 62) (hq : q.length < 2 ^ 62) (hcv : ∀ l ∈ ls,l.curve.length < 2 ^ 62) {Q : cc -> Env -> Prop}
  (hbad : ¬ cJ ns ls ss q o=0 -> bu Q ⟨⟩ .ret [(8,.nils),(9,.int .i64 (cJ ns ls ss q o))])
  (hok : cJ ns ls ss q o=0 -> bu Q ⟨⟩ .ret [(8,.ref (.r 10128) 0 ns.length),(9,.int .i64 0),(10128,.blk 2 ((lvT (gb ns ls ss q o) ns.length).map knD))]) :
  wN C N573.body Q ⟨⟩ (params 0 [.agg [slx b1 (ns.map aR),slx b2 (ls.map aF)],slx b (ss.map aY),slx b' (q.map knD),.agg (knD o)]):=by
 simp [N573,knD]
 by_cases hM : gI ns ls ss q o=true
 case neg =>
  have hM' : gI ns ls ss q o=false:=by simpa using hM
  have hne : ¬ cJ ns ls ss q o=0:=fun h=>hM (j0 h)
  refine uA (by simpa [knD] using sT hC hS b1 b2 b b' ns ls ss q o hls hss hq hcv hM') ?_
  simp [hne]
  exact hbad hne
 refine uB (by simpa [knD] using vy hC hS b1 b2 b b' ns ls ss q o hls hss hq hcv hM) rfl ?_
 by_cases h0 : cJ ns ls ss q o=0
 case neg =>
  simp [h0]
  exact hbad h0
 obtain ⟨T,ho⟩:=j1 hM h0
 have hok':=hok h0
 unfold gb at hok'
 clear hok hbad
 rw [h0]
 have hnl:=T.trs.small
 generalize av ns ls=es at *
 generalize aA ns.length es q=fl at *
 simp
 refine az (Nat × List (List D)) (fun s=>[(10,.adr (.r 10337) 0 0),(12,.ref (.r 10192) 0 s.1),(29,.int .i64 ns.length),(30,.int .i64 s.1),(10192,.blk 2 ((lvT (lvX ns ls ss es fl o) s.1).map knD)),(10337,.blk 9 [fg b1 b2 ns ls ss es fl o s.2])])
  (fun s=>s.1 <= ns.length /\ uM (lvX ns ls ss es fl o) ns.length s.2) (fun s=>ns.length - s.1) (0,List.replicate ns.length [.nilp]) ⟨by omega,CI _ _⟩ (by simp [J5]) ?_
 rintro ⟨j,dn⟩ ⟨hj,hd⟩
 simp at hj hd
 simp
 refine ac (fun h=>?_) (fun h=>?_) <;> simp at h
 ·have hw : IntKind.wrap .i64 ((j : Int) + 1)=((j + 1 : Nat) : Int):=wrap_i64 (by omega) (by omega)
  obtain ⟨dn',hd',kc⟩:=qx hC b1 b2 T ho ns.length j h (by omega) dn hd
  have hsu:=wV (lvX ns ls ss es fl o) j
  have hln:=cq (lvX ns ls ss es fl o) j
  simp [h]
  refine tw kc (by simp) ?_
  generalize lvX ns ls ss es fl o=sp at *
  simp [hln]
  refine ⟨by omega,j + 1,dn',⟨by omega,hd'⟩,by omega,rfl,hw,?_,rfl⟩
  rw [x0p (by simp [cq]),hsu,x1b]
  rfl
 ·have ej : j=ns.length:=by omega
  subst ej
  simp [h]
  exact hok'
theorem mR (hS : SlC C) (b1 b2 b b' : Bool) (ns : List Nod) (ls : List Lnk) (ss : List Sec) (q : List Sp) (o : Sp) (hls : ls.length < 2 ^ 62) (hss : ss.length < 2 ^ 62) (hq : q.length < 2 ^ 62) (hcv : ∀ l ∈ ls,l.curve.length < 2 ^ 62) :
  C 573 [.agg [slx b1 (ns.map aR),slx b2 (ls.map aF)],slx b (ss.map aY),slx b' (q.map knD),.agg (knD o)] (.tup [mQ ns ls ss q o,.int .i64 (cJ ns ls ss q o)]) []:=by
 refine aj hC (nf:=N573) rfl rfl ?_
 refine pY hC hS b1 b2 b b' ns ls ss q o hls hss hq hcv (fun h=>?_) (fun h=>?_)
 ·unfold mQ
  rw [if_neg h]
  simp [N573]
 ·unfold mQ
  rw [if_pos h,h]
  simp [N573,cq]
  exact Bz _ _
theorem vI (hS : SlC C) (b1 b2 b b' : Bool) (ns : List Nod) (ls : List Lnk) (ss : List Sec) (q : List Sp) (o : Sp) (hls : ls.length < 2 ^ 62) (hss : ss.length < 2 ^ 62) (hq : q.length < 2 ^ 62) (hcv : ∀ l ∈ ls,l.curve.length < 2 ^ 62) :
  C 573 [.agg [slx b1 (ns.map aR),slx b2 (ls.map aF)],slx b (ss.map aY),slx b' (q.map knD),.agg (knD o)] (.tup [mQ ns ls ss q o,.int .i64 (cJ ns ls ss q o)]) [.nilp]:=by
 refine D4 hC (nf:=N573) rfl rfl ?_
 refine pY hC hS b1 b2 b b' ns ls ss q o hls hss hq hcv (fun h=>?_) (fun h=>?_)
 ·unfold mQ
  rw [if_neg h]
  simp [N573]
 ·unfold mQ
  rw [if_pos h,h]
  simp [N573,cq]
  refine ⟨Bz _ _,fun r x y _ h c hc=>?_⟩
  subst h
  simp [knD] at hc
  rcases hc with rfl | rfl <;> rfl
set_option maxHeartbeats 2000000 in
theorem j7 (hS : SlC C) (b1 b2 b b' : Bool) (ns : List Nod) (ls : List Lnk) (ss : List Sec) (q : List Sp) (o : Sp) (hls : ls.length < 2 ^ 62) (hss : ss.length < 2 ^ 62) (hq : q.length < 2 ^ 62) (hcv : ∀ l ∈ ls,l.curve.length < 2 ^ 62) :
  C 574 [.agg [slx b1 (ns.map aR),slx b2 (ls.map aF)],slx b (ss.map aY),slx b' (q.map knD),.agg (knD o)] (.tup (if cJ ns ls ss q o=0 then [.sl (cm (ff ns (gb ns ls ss q o) false ns.length)),.sl (cm (ff ns (gb ns ls ss q o) true ns.length)),.int .i64 0] else [.nils,.nils,.int .i64 (cJ ns ls ss q o)])) []:=by
 have k1:=mR hC hS b1 b2 b b' ns ls ss q o hls hss hq hcv
 refine aj hC (nf:=N574) rfl rfl ?_
 simp [N574,knD]
 refine aa (by simpa [knD] using k1) (.inr (by simp)) ?_
 by_cases h0 : cJ ns ls ss q o=0
 case neg =>
  unfold mQ
  rw [if_neg h0,if_neg h0]
  simp [h0]
 have hnl:=(j1 (j0 h0) h0).1.trs.small
 unfold mQ
 rw [if_pos h0,if_pos h0,h0]
 generalize gb ns ls ss q o=sp at *
 simp
 refine az Nat (fun j=>[(11,.sl ((lvT sp ns.length).map knD)),(13,.ref (.r 10208) 0 (ff ns sp false j).length),(14,.ref (.r 10224) 0 (ff ns sp true j).length),(29,slx b1 (ns.map aR)),(30,.int .i64 ns.length),(31,.int .i64 j),(10208,.blk 1 (cm (ff ns sp false j))),(10224,.blk 1 (cm (ff ns sp true j)))]) (fun j=>j <= ns.length) (fun j=>ns.length - j) 0 (by simp) (by simp [D6,cm]) ?_
 intro j hj
 simp
 refine ac (fun h=>?_) (fun h=>?_) <;> simp at h
 ·have hw : IntKind.wrap .i64 ((j : Int) + 1)=((j + 1 : Nat) : Int):=wrap_i64 (by omega) (by omega)
  have e1:=o7 ns sp false j
  have e2:=o7 ns sp true j
  have l1:=iV ns sp false j
  have l2:=iV ns sp true j
  unfold ro at e1 e2
  rw [x0g ns j h] at e1 e2
  simp [h,aR]
  by_cases c : ns[j].kind=3
  ·simp [c] at e1 e2
   simp [c]
   exact ⟨j + 1,by omega,by omega,by rw [e1],by rw [e2],hw,by rw [e1],by rw [e2]⟩
  ·simp [c] at e1 e2
   simp [c,cq,h,fD,knD]
   refine ⟨ar (by decide +kernel),?_⟩
   by_cases g1 : ns[j].ground < (sp j).1
   ·rw [if_pos g1] at e1
    by_cases g2 : ns[j].ground < (sp j).2
    ·rw [if_pos g2] at e2
     simp [g1,g2,cq,h,fD,knD,db]
     exact ⟨by omega,ar (by decide +kernel),by omega,j + 1,by omega,by omega,by simp [e1],by simp [e2],hw,by rw [e1,<- fw,la],by rw [e2,<- fw,la]⟩
    ·rw [if_neg g2,x08] at e2
     simp [g1,g2,cq,h,fD,knD,db]
     exact ⟨by omega,ar (by decide +kernel),j + 1,by omega,by omega,by simp [e1],by simp [e2],hw,by rw [e1,<- fw,la],by rw [e2]⟩
   ·rw [if_neg g1,x08] at e1
    by_cases g2 : ns[j].ground < (sp j).2
    ·rw [if_pos g2] at e2
     simp [g1,g2,cq,h,fD,knD,db]
     exact ⟨ar (by decide +kernel),by omega,j + 1,by omega,by omega,by simp [e1],by simp [e2],hw,by rw [e1],by rw [e2,<- fw,la]⟩
    ·rw [if_neg g2,x08] at e2
     simp [g1,g2,cq,h,fD,knD,db]
     exact ⟨ar (by decide +kernel),j + 1,by omega,by omega,by simp [e1],by simp [e2],hw,by rw [e1],by rw [e2]⟩
 ·have ej : j=ns.length:=by omega
  subst ej
  simp [h,db,xV]
  exact ⟨fw _,fw _⟩
end Go.Gv

namespace Go.Gv
def jX (nm : List UInt8) (l : Lnk) : Bool:=l.src == nm
theorem qJ {ns : List Nod} {ls : List Lnk} (hv : bO ns ls=true) {nm : List UInt8} {v : Nat} (h : a8 (bq nm) ns=(v : Int)) : ∃ hv : v < ns.length,ns[v].name=nm:=by
 unfold a8 at h
 split at h
 ·rename_i i hi
  rw [x0L] at hi
  obtain ⟨h1,h2,_⟩:=hi
  have e : i=v:=by omega
  subst e
  exact ⟨h1,by simpa [bq] using h2⟩
 ·omega
theorem qf {ns : List Nod} {ls : List Lnk} (hv : bO ns ls=true) {i : Nat} (hi : i < ls.length) : ∃ (h1 : ((av ns ls)[i]'(by rw [aZ];exact hi)).1 < ns.length) (h2 : ((av ns ls)[i]'(by rw [aZ];exact hi)).2 < ns.length),(ns[((av ns ls)[i]'(by rw [aZ];exact hi)).1]'h1).name=ls[i].src /\ (ns[((av ns ls)[i]'(by rw [aZ];exact hi)).2]'h2).name=ls[i].dst /\ a8 (bq ls[i].src) ns=((((av ns ls)[i]'(by rw [aZ];exact hi)).1 : Nat) : Int) /\ a8 (bq ls[i].dst) ns=((((av ns ls)[i]'(by rw [aZ];exact hi)).2 : Nat) : Int):=by
 obtain ⟨_,_,h1,h2⟩:=fq hv hi
 have e1 : ((av ns ls)[i]'(by rw [aZ];exact hi)).1=(a8 (bq ls[i].src) ns).toNat:=by simp [av]
 have e2 : ((av ns ls)[i]'(by rw [aZ];exact hi)).2=(a8 (bq ls[i].dst) ns).toNat:=by simp [av]
 have a1 : a8 (bq ls[i].src) ns=((((av ns ls)[i]'(by rw [aZ];exact hi)).1 : Nat) : Int):=by rw [e1];omega
 have a2 : a8 (bq ls[i].dst) ns=((((av ns ls)[i]'(by rw [aZ];exact hi)).2 : Nat) : Int):=by rw [e2];omega
 obtain ⟨b1,c1⟩:=qJ hv a1
 obtain ⟨b2,c2⟩:=qJ hv a2
 exact ⟨b1,b2,c1,c2,a1,a2⟩
theorem lF {ns : List Nod} {ls : List Lnk} (hv : bO ns ls=true) {i j : Nat} (hi : i < ns.length) (hj : j < ns.length) (h : ns[i].name=ns[j].name) : i=j:=by
 have h1:=(jg hv hi).2
 have h2:=(jg hv hj).2
 rw [h,h2] at h1
 omega
theorem Aa {ns : List Nod} {ls : List Lnk} (hv : bO ns ls=true) {v : Nat} (h : v < ns.length) : a8 (jX ns[v].name) ls=frI (fE (av ns ls) v):=by
 have hel:=aZ ns ls
 have key : ∀ i (hi : i < ls.length),jX ns[v].name ls[i]=(((av ns ls)[i]'(by rw [hel];exact hi)).1 == v):=by
  intro i hi
  obtain ⟨h1,h2,h3,_⟩:=qf hv hi
  rw [x0x]
  simp only [jX,x0o]
  rw [<- h3]
  constructor
  ·intro e;exact lF hv h1 h e
  ·intro e;simp only [e]
 have : ls.findIdx? (jX ns[v].name)=fE (av ns ls) v:=by
  cases hx : fE (av ns ls) v with
  | some x =>
   obtain ⟨h1,h2,h3⟩:=zj hx
   rw [x0L]
   refine ⟨by omega,?_,fun j hj=>?_⟩
   ·rw [key x (by omega)];simpa using h2
   ·have:=h3 j hj
    rw [key j (by omega)];simpa using this
  | none =>
   rw [pv] at hx
   rw [x1G]
   intro l hl
   obtain ⟨i,hi,rfl⟩:=x0Y hl
   rw [key i hi]
   simp only [beq_eq_false_iff_ne]
   intro e
   exact hx (x0t.2 ⟨_,x0h (by rw [hel];exact hi),e⟩)
 unfold a8
 rw [this]
 cases fE (av ns ls) v <;> rfl
end Go.Gv

namespace Go.Gv
inductive Pth (es : List Edg) : Nat -> Nat -> Prop
 | refl (v : Nat) : Pth es v v
 | step {u v w : Nat} : (u,v) ∈ es -> Pth es v w -> Pth es u w
theorem Pth.snoc {es : List Edg} {u v w : Nat} (h : Pth es u v) (e : (v,w) ∈ es) : Pth es u w:=by
 induction h with
 | refl v=>exact .step e (.refl _)
 | step e' _ ih=>exact .step e' (ih e)
theorem Pth.trans {es : List Edg} {u v w : Nat} (h : Pth es u v) (h2 : Pth es v w) : Pth es u w:=by
 induction h with
 | refl v=>exact h2
 | step e _ ih=>exact .step e (ih h2)
def RR (es : List Edg) (fr : List Nat) (v : Nat) : Prop:=∃ s ∈ fr,Pth es s v
noncomputable def rB (es : List Edg) (fr : List Nat) (v : Nat) : Bool:=@decide (RR es fr v) (Classical.propDecidable _)
theorem sJ {es : List Edg} {fr : List Nat} {v : Nat} : rB es fr v=true ↔ RR es fr v:=by
 unfold rB
 exact @decide_eq_true_iff _ (Classical.propDecidable _)
theorem ve {es : List Edg} {fr : List Nat} {out : Nat -> Bool} (h1 : ∀ v,out v=true -> RR es fr v) (h2 : ∀ s ∈ fr,out s=true) (h3 : ∀ u w,(u,w) ∈ es -> out u=true -> out w=true) (v : Nat) : out v=rB es fr v:=by
 have key : ∀ {u w : Nat},Pth es u w -> out u=true -> out w=true:=fun {u w} h=>by
  induction h with
  | refl v=>exact _root_.id
  | step e _ ih=>exact fun hu=>ih (h3 _ _ e hu)
 rw [x0x,sJ]
 refine ⟨h1 v,fun ⟨s,hs,hp⟩=>key hp (h2 s hs)⟩
def cZ (n : Nat) (f : Nat -> Bool) : List (List D):=(List.range n).map fun v=>[.bool (f v)]
theorem fk (n : Nat) (f : Nat -> Bool) : (cZ n f).length=n:=by simp [cZ]
theorem fj {n v : Nat} (f : Nat -> Bool) (h : v < n) : (cZ n f)[v]? = some [.bool (f v)]:=by simp [cZ,h]
theorem uv {n v : Nat} (f : Nat -> Bool) (x : Bool) : (cZ n f).set v [.bool x]=cZ n fun u=>if u=v then x else f u:=by
 unfold cZ
 rw [iP]
 apply x0i
 intro u _
 by_cases h : u=v <;> simp [h]
theorem qa {n : Nat} {f g : Nat -> Bool} (h : ∀ v,v < n -> f v=g v) : cZ n f=cZ n g:=by
 unfold cZ
 apply x0i
 intro v hv
 rw [h v (by simpa using hv)]
theorem yH (n : Nat) (f : Nat -> Bool) : (cZ n f).map (fun e=>e.map aL)=cZ n f:=by
 unfold cZ
 rw [x1w]
 apply x0i
 intro v _
 simp [aL]
def wtS (f : Nat -> Nat) : Nat -> Nat
 | 0=>0
 | k + 1=>wtS f k + f k
theorem pa {f g : Nat -> Nat} : ∀ {K : Nat},(∀ k,k < K -> f k=g k) -> wtS f K=wtS g K
 | 0,_=>rfl
 | K + 1,h=>by unfold wtS;rw [pa (K:=K) (fun k hk=>h k (by omega)),h K (by omega)]
theorem uj {f g : Nat -> Nat} {i : Nat} : ∀ {K : Nat},i < K -> (∀ k,k ≠ i -> g k=f k) -> g i=0 -> wtS f K=wtS g K + f i
 | 0,h,_,_=>by omega
 | K + 1,h,h1,h2=>by
  unfold wtS
  by_cases e : K=i
  ·subst e
   rw [pa (f:=g) (g:=f) (fun k hk=>h1 k (by omega)),h2]
   omega
  ·rw [uj (f:=f) (g:=g) (K:=K) (by omega) h1 h2,h1 K e]
   omega
theorem yg {f : Nat -> Nat} {B : Nat} : ∀ {K : Nat},(∀ k,k < K -> f k <= B) -> wtS f K <= K * B
 | 0,_=>by simp [wtS]
 | K + 1,h=>by
  have:=yg (K:=K) (fun k hk=>h k (by omega))
  have:=h K (by omega)
  unfold wtS
  rw [x0C]
  omega
end Go.Gv

namespace Go.Gv
variable {C : CC} (hC : al prog C)
include hC
theorem yu (b : Bool) (xs : List Int) (h2 : xs.length < 2 ^ 40) : C 42 [slx b (xs.map fun n=>[.int .i64 n])] .any [.own 1 (xs.map fun n=>[.int .i64 n])]:=by
 cases xs with
 | nil =>
  cases b with
  | true =>
   show C 42 [.nils] .any [.own 1 []]
   refine iS hC (nf:=N42) rfl rfl ?_
   simp [N42]
  | false =>
   show C 42 [.sl []] .any [.own 1 []]
   refine iS hC (nf:=N42) rfl rfl ?_
   simp [N42]
 | cons x xs =>
  have e : slx b ((x::xs).map fun n=>[D.int .i64 n])=.sl ((x::xs).map fun n=>[D.int .i64 n]):=by cases b <;> rfl
  rw [e]
  obtain ⟨l,hl⟩ : ∃ l,l=x::xs:=⟨_,rfl⟩
  rw [<- hl] at h2 ⊢
  have h : 0 < l.length:=by rw [hl];simp
  refine iS hC (nf:=N42) rfl rfl ?_
  simp [N42]
  refine ⟨fun _=>?_,fun h0=>?_⟩
  ·have : l.length < 1099511627776:=h2
   omega
  ·subst h0
   simp at h
end Go.Gv

namespace Go.Gv
def uV (n : Nat) (es : List Edg) (out : Nat -> Bool) : Nat:=wtS (fun v=>if out v=true then 0 else 1 + (nxt n es v).length) n
theorem uW {n : Nat} {es : List Edg} {out : Nat -> Bool} {i : Nat} (hi : i < n) (ho : out i=false) : uV n es out=uV n es (fun u=>if u=i then true else out u) + (1 + (nxt n es i).length):=by
 unfold uV
 rw [uj (f:=fun v=>if out v=true then 0 else 1 + (nxt n es v).length) (g:=fun v=>if (if v=i then true else out v)=true then 0 else 1 + (nxt n es v).length) hi (fun k hk=>by simp only [if_neg hk]) (by simp)]
 simp [ho]
theorem zQ (n : Nat) (es : List Edg) (out : Nat -> Bool) : uV n es out <= n * (1 + n):=by
 refine yg fun k _=>?_
 have:=mD n es k
 split <;> omega
theorem qq (l : List Nat) : aW l=(l.map fun k : Nat=>(k : Int)).map fun n=>[.int .i64 n]:=by simp [aW]
variable {C : CC} (hC : al prog C)
include hC
set_option maxHeartbeats 2000000 in
theorem Ao {b : Bool} {n : Nat} {es : List Edg} (hn : n <= 300) (hg : inG n es) (fr : List Nat) (hf : ∀ s ∈ fr,s < n) (hl : fr.length <= 1000) : C 521 [sE n es,slx b (aW fr)] (.sl (cZ n (rB es fr))) []:=by
 have k1:=yu hC b (fr.map fun k : Nat=>(k : Int)) (by simp;omega)
 rw [<- qq] at k1
 obtain ⟨R,hR,hRg⟩ : ∃ R,sE n es=.sl R /\ ∀ v,v < n -> R[v]? = some [ndD (nxt n es v)]:=⟨_,rfl,fun v hv=>by simp [hv]⟩
 have hRl : R.length=n:=by
  have:=congrArg (fun d=>match d with | .sl r=>r.length | _=>0) hR
  simpa [sE] using this.symm
 rw [hR]
 refine aj hC (nf:=N521) rfl rfl ?_
 simp [N521,hRl]
 refine ⟨by omega,?_⟩
 refine i9 k1 ?_
 simp [aV]
 refine az ((Nat -> Bool) × List Nat × List (List D)) (fun s=>[(0,.sl R),(5,.ref (.r 10080) 0 n),(10080,.blk 1 (cZ n s.1)),(6,.ref (.r 10096) 0 s.2.1.length),(10096,.blk 1 s.2.2)])
  (fun s=>s.2.2.take s.2.1.length=aW s.2.1 /\ (∀ v,s.1 v=true -> RR es fr v) /\ (∀ v ∈ s.2.1,v < n /\ RR es fr v) /\ (∀ v ∈ fr,s.1 v=true \/ v ∈ s.2.1) /\ (∀ u w,(u,w) ∈ es -> s.1 u=true -> s.1 w=true \/ w ∈ s.2.1) /\ s.2.1.length + uV n es s.1 <= 1000 + n * (1 + n))
  (fun s=>s.2.1.length + uV n es s.1) ((fun _=>false),fr,aW fr) ⟨by simp [<- aV fr],by simp,fun v hv=>⟨hf v hv,v,hv,.refl v⟩,fun v hv=>.inr hv,by simp,by have:=zQ n es (fun _=>false);simp only;omega⟩ (by simp [cZ,kV]) ?_
 rintro ⟨out,st,rows⟩ ⟨i1,i2,i3,i4,i5,i6⟩
 simp only at i1 i2 i3 i4 i5 i6
 simp
 refine ac (fun h=>?_) (fun h=>?_) <;> simp at h
 ·obtain ⟨st',i,rfl⟩ : ∃ st' i,st=st'++[i]:=by
   rcases List.eq_nil_or_concat st with e | ⟨l,x,e⟩
   ·rw [e] at h;simp at h
   ·exact ⟨l,x,by simpa using e⟩
  obtain ⟨m,hm⟩ : ∃ m,m=st'.length:=⟨_,rfl⟩
  have hlen : (st'++[i]).length=m + 1:=by simp [hm]
  rw [hlen] at i1 i6
  have hrl : m + 1 <= rows.length:=by
   have:=congrArg List.length i1
   rw [x03,aV,hlen] at this
   omega
  have hg1 : rows[m]? = some [.int .i64 (i : Int)]:=by
   have:=congrArg (fun l=>l[m]?) i1
   simp only [x0U,if_pos (Nat.lt_succ_self m)] at this
   rw [this]
   simp [aW,hm]
  have hg2 : rows.take m=aW st':=by
   have:=congrArg (List.take m) i1
   rw [List.take_take,Nat.min_eq_left (by omega)] at this
   rw [this]
   simp [aW,hm,List.take_left' ]
  have hi:=i3 i (by simp)
  have h300 : n * (1 + n) <= 300 * 301:=x01 hn (by omega)
  have hwm : IntKind.wrap .i64 (m : Int)=(m : Int):=wrap_i64 rfl (by omega)
  simp only [hlen]
  simp [hwm,aB hg1,hg1]
  refine ⟨hi.1,?_⟩
  simp [aB (fj out hi.1),fj out hi.1]
  refine ac (fun ho=>?_) (fun ho=>?_) <;> simp at ho
  ·have hstep:=uW (es:=es) hi.1 ho
   have hnl:=mD n es i
   simp [hi.1,fk,aB (fj out hi.1),fj out hi.1,bI (hRg i hi.1),hRg i hi.1,hRl,ndD]
   have hb1 : 1 <= ((cZ n out)[i]'(by rw [fk];exact hi.1)).length:=by simp [cZ]
   have hfl : ∀ e ∈ aW (nxt n es i),e.length=1 /\ ∀ c ∈ e,aE c=true:=fun e he=>by
    obtain ⟨k,_,rfl⟩:=x0t.1 he
    simp [aE]
   refine ⟨hb1,hfl,by omega,by rw [aV];omega,fun u=>if u=i then true else out u,st'++nxt n es i,rows.take m++aW (nxt n es i),⟨?_,fun v hv=>?_,fun v hv=>?_,fun v hv=>?_,fun u w e hu=>?_,?_⟩,?_,?_,?_,?_⟩
   ·rw [hg2,x0p (by simp [aW])];simp [aW]
   ·by_cases e : v=i
    ·rw [e];exact hi.2
    ·simp only [if_neg e] at hv;exact i2 v hv
   ·rcases x0j.1 hv with h1 | h1
    ·exact i3 v (by simp [h1])
    ·obtain ⟨h2,h3⟩:=ee.1 h1
     obtain ⟨s0,hs0,hp⟩:=hi.2
     exact ⟨h2,s0,hs0,hp.snoc h3⟩
   ·rcases i4 v hv with h1 | h1
    ·left;simp only;split <;> simp [h1]
    ·rcases x0j.1 h1 with h2 | h2
     ·exact .inr (by simp [h2])
     ·rw [x0Q.1 h2];exact .inl (by simp)
   ·by_cases e2 : u=i
    ·subst e2
     exact .inr (x0j.2 (.inr (ee.2 ⟨(hg _ e).2,e⟩)))
    ·simp only [if_neg e2] at hu
     rcases i5 u w e hu with h1 | h1
     ·left;simp only;split <;> simp [h1]
     ·rcases x0j.1 h1 with h2 | h2
      ·exact .inr (by simp [h2])
      ·rw [x0Q.1 h2];exact .inl (by simp)
   ·rw [x0I];omega
   ·rw [x0I];omega
   ·have e9 : ((cZ n out)[i]'(by rw [fk];exact hi.1)).tail=[]:=by simp [cZ]
    rw [e9]
    exact uv out true
   ·rw [aV,x0I,hm]
   ·trivial
  ·simp
   refine ⟨out,st',rows,⟨by rw [<- hm];exact hg2,i2,fun v hv=>i3 v (by simp [hv]),fun v hv=>?_,fun u w e hu=>?_,by omega⟩,by omega,rfl,by omega,rfl⟩
   ·rcases i4 v hv with h1 | h1
    ·exact .inl h1
    ·rcases x0j.1 h1 with h2 | h2
     ·exact .inr h2
     ·rw [x0Q.1 h2];exact .inl ho
   ·rcases i5 u w e hu with h1 | h1
    ·exact .inl h1
    ·rcases x0j.1 h1 with h2 | h2
     ·exact .inr h2
     ·rw [x0Q.1 h2];exact .inl ho
 ·have hst : st=[]:=by
   cases st with
   | nil=>rfl
   | cons x l=>simp at h
  subst hst
  simp at i4 i5
  have hcl:=ve i2 (fun s hs=>i4 s hs) (fun u w e hu=>i5 u w e hu)
  simp [h]
  rw [yH,x0p (by rw [fk];exact x0k _)]
  exact ⟨by simp [fk],qa fun v _=>hcl v⟩
end Go.Gv

namespace Go.Gv
variable {C : CC} (hC : al prog C)
include hC
theorem u4 (b1 b2 : Bool) (ns : List Nod) (ls : List Lnk) (hv : bO ns ls=true) : C 499 [.agg [slx b1 (ns.map aR),slx b2 (ls.map aF)]] .any [.own 2 ((av ns ls).map edK)]:=by
 obtain ⟨hl1,hl2⟩:=cn hv
 refine iS hC (nf:=N499) rfl rfl ?_
 simp [N499]
 refine az Nat (fun j=>[(1,.ptr [slx b1 (ns.map aR),slx b2 (ls.map aF)]),(3,.ref (.r 10048) 0 j),(10048,.blk 2 (edT (av ns ls) j)),(7,slx b2 (ls.map aF)),(8,.int .i64 ls.length),(9,.int .i64 j)]) (fun j=>j <= ls.length) (fun j=>ls.length - j) 0 (by simp) (by simp) ?_
 rintro j hj
 simp
 refine ac (fun h=>?_) (fun h=>?_) <;> simp [h] <;> simp at h
 ·have hw : IntKind.wrap .i64 ((j : Int) + 1)=((j + 1 : Nat) : Int):=wrap_i64 (by omega) (by omega)
  obtain ⟨_,_,g1,g2⟩:=fq hv h
  have k1:=gR hC b1 b2 ns ls ls[j].src (by omega)
  have k2:=gR hC b1 b2 ns ls ls[j].dst (by omega)
  have hjl : j < (av ns ls).length:=by rw [aZ];exact h
  have el:=my (es:=av ns ls) (j:=j) (by omega)
  simp [h,aF,el]
  refine aa k1 (.inl rfl) ?_
  simp
  refine aa k2 (.inl rfl) ?_
  simp [el]
  refine ⟨by omega,ar (by decide +kernel),j + 1,by omega,by omega,rfl,?_,hw⟩
  have e2 : (edT (av ns ls) j).take j=edT (av ns ls) j:=x0p (by omega)
  rw [e2,qe hjl]
  congr 2
  simp only [av,List.getElem_map,edK,knD]
  rw [Int.toNat_of_nonneg g1,Int.toNat_of_nonneg g2]
 ·have ej : j=ls.length:=by omega
  subst ej
  have e0:=ti (av ns ls)
  have el:=my (es:=av ns ls) (j:=ls.length) (by rw [aZ];exact x0k _)
  rw [aZ] at e0
  simp [el,<- e0]
  exact ⟨fun r x y _ e c hc=>by subst e;simp [edK,knD] at hc;rcases hc with rfl | rfl <;> rfl,(aZ ns ls).symm⟩
theorem wI (hS : SlC C) {b b' : Bool} {n : Nat} {es : List Edg} (hn : n <= 300) (he : es.length <= 1000) (hg : inG n es) (fr : List Nat) (hf : ∀ s ∈ fr,s < n) (hl : fr.length <= 1000) : C 512 [.int .i64 n,slx b (es.map edK),slx b' (aW fr)] (.tup [.sl (cZ n (rB es fr)),.int .i64 0]) []:=by
 have k1:=m5 hC b n (es.map edI) (by simp;omega)
 rw [<- pt] at k1
 have e1 : gOk n (es.map edI)=true:=by
  unfold gOk
  simp only [x0a,x0c,x0q,x0S,x1a]
  refine ⟨⟨⟨by omega,by omega⟩,by omega⟩,fun e h=>?_⟩
  obtain ⟨x,hx,rfl⟩:=x0t.1 h
  have:=hg x hx
  simp [oA,edI]
  omega
 rw [e1] at k1
 have k2 : ∀ x ∈ fr.map fun k : Nat=>(k : Int),C 520 (.int .i64 x::[.ptr [.int .i64 n]]) (.bool false) []:=fun x hx=>by
  obtain ⟨k,hk,rfl⟩:=x0t.1 hx
  have hk2:=hf k hk
  have k0:=C0 hC n k
  rw [show (decide ((0 : Int) <= k) && decide ((k : Int) < n))=true by simp;omega] at k0
  refine aj hC (nf:=N520) rfl rfl ?_
  simp [N520]
  refine aa k0 (.inl rfl) ?_
  simp
 have k3:=ql hC (b:=b') (xs:=fr.map fun k : Nat=>(k : Int)) (g:=520) (cs:=[.ptr [.int .i64 n]]) (fun _=>false) (by simp;omega) k2
 rw [<- qq] at k3
 have e3 : (fr.map fun k : Nat=>(k : Int)).any (fun _=>false)=false:=by simp
 rw [e3] at k3
 have k4:=wZ hC hS (b:=b) hn he hg
 have k5:=Ao hC (b:=b') hn hg fr hf hl
 obtain ⟨R,hR⟩ : ∃ R,sE n es=.sl R:=⟨_,rfl⟩
 rw [hR] at k4 k5
 refine aj hC (nf:=N512) rfl rfl ?_
 simp [N512]
 refine aa k1 (.inl rfl) ?_
 simp [aV,show ¬ (1000 : Int) < fr.length by omega]
 refine aa k3 (.inl rfl) ?_
 simp
 refine aa k4 (.inr rfl) ?_
 simp
 refine aa k5 (.inr rfl) ?_
 simp
end Go.Gv

namespace Go.Gv
variable {C : CC} (hC : al prog C)
include hC
theorem sk (b : Bool) (xs : List (List UInt8)) (s : List UInt8) (hs : xs.length < 2 ^ 62) : C 485 [slx b (cm xs),.str s] (.int .i64 (a8 (fun x=>x == s) xs)) []:=by
 refine aj hC (nf:=N485) rfl rfl ?_
 simp [N485,cm]
 refine az Nat (fun i=>[(0,slx b (cm xs)),(1,.str s),(7,.int .i64 xs.length),(8,.int .i64 i)]) (fun i=>i <= xs.length /\ ∀ (j : Nat) (h : j < xs.length),j < i -> (xs[j] == s)=false) (fun i=>xs.length - i) 0 (by simp) (by simp [cm]) ?_
 rintro i ⟨hi,hj⟩
 simp [cm]
 refine ac (fun h=>?_) (fun h=>?_) <;> simp [h] <;> simp at h
 ·have hw : IntKind.wrap .i64 ((i : Int) + 1)=((i + 1 : Nat) : Int):=wrap_i64 (by omega) (by omega)
  simp [h]
  by_cases h1 : s=xs[i]
  ·simp [<- h1]
   rw [cK hj h (by simp [h1])]
  ·simp [h1,hw]
   refine ⟨i + 1,⟨by omega,fun j hl hjj=>?_⟩,by omega,by omega⟩
   rcases x0y.1 hjj with h2 | rfl
   ·simpa using hj j hl h2
   ·exact fun e=>h1 e.symm
 ·rw [cW (fun j hl=>by simpa using hj j hl (by omega))]
theorem qm (b : Bool) (xs : List (List UInt8)) (s : List UInt8) (hs : xs.length < 2 ^ 62) : C 450 [slx b (cm xs),.str s] (.bool (xs.contains s)) []:=by
 have hss : slx b (cm xs)=.nils \/ slx b (cm xs)=.sl (cm xs):=by
  unfold slx;split
  ·exact .inl rfl
  ·exact .inr rfl
 have k:=sk hC b xs s hs
 have e : xs.contains s=xs.any (fun x=>x == s):=by
  rw [x0x];simp
 rw [e]
 refine aj hC (nf:=N450) rfl rfl ?_
 simp only [N450]
 simp
 refine aa k (.inl rfl) ?_
 simp [ev]
theorem za (b b' : Bool) (xs ys : List (List UInt8)) (hx : xs.length < 2 ^ 62) (hy : ys.length < 2 ^ 62) : C 435 [slx b (cm xs),slx b' (cm ys)] (.bool (decide (xs=ys))) []:=by
 obtain ⟨r,hr⟩ : ∃ r,r=decide (xs=ys):=⟨_,rfl⟩
 rw [<- hr]
 refine aj hC (nf:=N435) rfl rfl ?_
 simp [N435,cm]
 refine ac (fun h=>?_) (fun h=>?_) <;> simp at h <;> simp [h]
 ·rw [hr,decide_eq_false]
  intro e
  exact h (by rw [e])
 have h' : xs.length=ys.length:=by omega
 refine az Nat (fun i=>[(0,slx b (cm xs)),(1,slx b' (cm ys)),(12,.int .i64 xs.length),(13,.int .i64 i)])
  (fun i=>i <= xs.length /\ ∀ (k : Nat) (h1 : k < xs.length) (h2 : k < ys.length),k < i -> xs[k]=ys[k]) (fun i=>xs.length - i) 0 (by simp) (by simp [h',cm]) ?_
 rintro i ⟨hi,hok⟩
 simp [cm]
 refine ac (fun h1=>?_) (fun h1=>?_) <;> simp at h1 <;> simp [h1]
 ·have hw : IntKind.wrap .i64 ((i : Int) + 1)=((i + 1 : Nat) : Int):=wrap_i64 (by omega) (by omega)
  have hy1 : i < ys.length:=by omega
  simp [h1,hy1]
  refine ⟨ar (by decide +kernel),?_⟩
  by_cases h2 : xs[i]=ys[i]
  ·simp [h2,hw]
   refine ⟨i + 1,⟨by omega,fun k hk hk' hki=>?_⟩,by omega,by omega⟩
   rcases x0y.1 hki with h3 | rfl
   ·exact hok k hk hk' h3
   ·exact h2
  ·simp [h2]
   rw [hr,decide_eq_false]
   intro e
   subst e
   exact h2 rfl
 ·rw [hr]
  have : xs=ys:=by
   apply List.ext_getElem h'
   intro k a1 a2
   exact hok k a1 a2 (by omega)
  simp [this]
end Go.Gv

namespace Go.Gv
def trn (es : List Edg) : List Edg:=es.map fun e=>(e.2,e.1)
theorem A1 (es : List Edg) : (trn es).length=es.length:=by simp [trn]
theorem D7 {n : Nat} {es : List Edg} (h : inG n es) : inG n (trn es):=fun e he=>by
 obtain ⟨x,hx,rfl⟩:=x0t.1 he
 exact ⟨(h x hx).2,(h x hx).1⟩
def qK (ns : List Nod) (k : Nat) : List UInt8:=(ns[k]?.map (·.name)).getD []
def nmT (ns : List Nod) (f : Nat -> Bool) : Nat -> List (List UInt8)
 | 0=>[]
 | k + 1=>nmT ns f k++(if f k=true then [qK ns k] else [])
theorem pI (ns : List Nod) (f : Nat -> Bool) : ∀ k,(nmT ns f k).length <= k
 | 0=>by simp [nmT]
 | k + 1=>by
  have:=pI ns f k
  unfold nmT
  split <;> simp <;> omega
theorem oS {ns : List Nod} {k : Nat} (h : k < ns.length) : qK ns k=ns[k].name:=by simp [qK,h]
def trA (es : List Edg) (j : Nat) : List (List D):=(List.range es.length).map fun k=>edK (if k < j then (es[k]!.2,es[k]!.1) else es[k]!)
theorem mK (es : List Edg) (j : Nat) : (trA es j).length=es.length:=by simp [trA]
theorem KY (es : List Edg) : trA es 0=es.map edK:=by
 apply List.ext_getElem
 ·simp [trA]
 ·intro i h1 h2
  have h3 : i < es.length:=by simpa using h2
  simp [trA,h3]
theorem ud (es : List Edg) : trA es es.length=(trn es).map edK:=by
 apply List.ext_getElem
 ·simp [trA,trn]
 ·intro i h1 h2
  have h3 : i < es.length:=by simpa [trn] using h2
  simp [trA,trn,h3]
theorem pR {es : List Edg} {j : Nat} (h : j < es.length) : (trA es j)[j]? = some [.int .i64 es[j].1,.int .i64 es[j].2]:=by
 simp [trA,h,edK,knD]
theorem AY {es : List Edg} {j : Nat} (h : j < es.length) : (trA es j).set j [.int .i64 es[j].2,.int .i64 es[j].1]=trA es (j + 1):=by
 unfold trA
 rw [iP]
 apply x0i
 intro k hk
 by_cases e : k=j
 ·subst e
  simp [h,edK,knD]
 ·have : (k < j)=(k < j + 1):=by apply propext;omega
  simp only [if_neg e,this]
theorem KZ (es : List Edg) (j : Nat) : (trA es j).map (fun e=>e.map aL)=trA es j:=by
 unfold trA
 rw [x1w]
 apply x0i
 intro v _
 simp [edK,knD,aL]
def uh (ns : List Nod) (nm : List UInt8) : Int:=if 0 <= a8 (bq nm) ns then 0 else 9
noncomputable def ya (ns : List Nod) (te : List Edg) (nm : List UInt8) : List (List UInt8):=nmT ns (rB te (tgs te (a8 (bq nm) ns).toNat)) ns.length
noncomputable def o9 (ns : List Nod) (te : List Edg) (nm : List UInt8) : D:=if 0 <= a8 (bq nm) ns then .sl (cm (ya ns te nm)) else .nils
variable {C : CC} (hC : al prog C)
include hC
theorem tq (d : List D) (i : Int) : C 498 [.agg d,.int .i64 i] (.tup [.int .i64 (if i < 0 then 0 else i),.int .i64 (if i < 0 then 9 else 0)]) []:=by
 refine aj hC (nf:=N498) rfl rfl ?_
 simp [N498]
 refine ac (fun h=>?_) (fun h=>?_) <;> simp at h <;> simp [h]
 omega
set_option maxHeartbeats 2000000 in
theorem Ec (hS : SlC C) (b1 b2 b : Bool) (ns : List Nod) (ls : List Lnk) (te : List Edg) (nm : List UInt8) (hn : ns.length <= 300) (he : te.length <= 1000) (hg : inG ns.length te) : C 500 [.agg [slx b1 (ns.map aR),slx b2 (ls.map aF)],.str nm,slx b (te.map edK)] (.tup [o9 ns te nm,.int .i64 (uh ns nm)]) []:=by
 have k1:=gR hC b1 b2 ns ls nm (by omega)
 have k2:=tq hC [slx b1 (ns.map aR),slx b2 (ls.map aF)] (a8 (bq nm) ns)
 refine aj hC (nf:=N500) rfl rfl ?_
 simp [N500]
 refine aa k1 (.inl rfl) ?_
 simp
 refine aa k2 (.inl rfl) ?_
 simp
 refine ⟨ar (by decide +kernel),?_⟩
 unfold o9 uh
 by_cases h0 : a8 (bq nm) ns < 0
 ·simp [h0,show ¬ 0 <= a8 (bq nm) ns by omega]
 have hx:=jf (show 0 <= a8 (bq nm) ns by omega)
 unfold ya
 obtain ⟨x,hxe⟩ : ∃ x : Nat,a8 (bq nm) ns=x:=⟨(a8 (bq nm) ns).toNat,by omega⟩
 rw [hxe] at hx ⊢
 simp at hx
 have h0' : ¬ (x : Int) < 0:=by omega
 have hgl:=mJ te x
 have hgf : ∀ s ∈ tgs te x,s < ns.length:=fun s hs=>(hg _ (kD.1 hs)).2
 have k3:=wI hC hS (b:=b) (b':=false) hn he hg (tgs te x) hgf (by omega)
 rw [dz] at k3
 simp [h0']
 refine az Nat (fun j=>[(2,slx b (te.map edK)),(3,.ptr [slx b1 (ns.map aR),slx b2 (ls.map aF)]),(8,.int .i64 x),(10,.ref (.r 10160) 0 (tgs (te.take j) x).length),(10160,.blk 1 (aW (tgs (te.take j) x))),(28,slx b (te.map edK)),(29,.int .i64 te.length),(30,.int .i64 j)]) (fun j=>j <= te.length) (fun j=>te.length - j) 0 (by simp) (by simp [tgs,aW]) ?_
 rintro j hj
 simp
 refine ac (fun h=>?_) (fun h=>?_) <;> simp [h] <;> simp at h
 ·have hw : IntKind.wrap .i64 ((j : Int) + 1)=((j + 1 : Nat) : Int):=wrap_i64 (by omega) (by omega)
  have ht:=rp h x
  have hl1:=mJ (te.take j) x
  have hl2 : (te.take j).length=j:=by simp;omega
  generalize tgs (te.take j) x=T at *
  have hT : (aW T).take T.length=aW T:=x0p (by rw [aV];exact x0k _)
  simp [h,edK,knD]
  by_cases c : te[j].1=x
  ·rw [if_pos c] at ht
   simp [c,h]
   refine ⟨by rw [aV];exact x0k _,by omega,?_⟩
   simp [hw]
   refine ⟨j + 1,by omega,by omega,?_⟩
   rw [ht,hT]
   simp [aW]
  ·rw [if_neg c,x08] at ht
   have c' : ¬ (te[j].1 : Int)=x:=by omega
   simp [c,c',hw]
   exact ⟨j + 1,by omega,by omega,by rw [ht];simp⟩
 ·have ej : j=te.length:=by omega
  subst ej
  rw [x0p (x0k te.length)]
  have hV : List.take (tgs te x).length (List.map (fun e=>List.map aL e) (aW (tgs te x)))=aW (tgs te x):=by
   have e1 : List.map (fun e=>List.map aL e) (aW (tgs te x))=aW (tgs te x):=by
    unfold aW
    rw [x1w]
    apply x0i
    intro v _
    simp [aL]
   rw [e1,x0p (by rw [aV];exact x0k _)]
  simp [aV,hV]
  clear hj h
  refine aa k3 (.inr rfl) ?_
  generalize rB te (tgs te x)=f at *
  simp
  refine az Nat (fun j=>[(13,.sl (cZ ns.length f)),(14,.ref (.r 10224) 0 (nmT ns f j).length),(10224,.blk 1 (cm (nmT ns f j))),(57,slx b1 (ns.map aR)),(58,.int .i64 ns.length),(59,.int .i64 j)]) (fun j=>j <= ns.length) (fun j=>ns.length - j) 0 (by simp) (by simp [nmT,cm]) ?_
  rintro j hj
  simp
  refine ac (fun h=>?_) (fun h=>?_) <;> simp [h] <;> simp at h
  ·have hw : IntKind.wrap .i64 ((j : Int) + 1)=((j + 1 : Nat) : Int):=wrap_i64 (by omega) (by omega)
   have ht : nmT ns f (j + 1)=nmT ns f j++(if f j=true then [qK ns j] else []):=rfl
   rw [oS h] at ht
   have hl1:=pI ns f j
   generalize nmT ns f j=T at *
   have hT : (cm T).take T.length=cm T:=x0p (by rw [db];exact x0k _)
   simp [h,aR,bI (fj f h),fj f h,fk]
   by_cases c : f j=true
   ·rw [if_pos c] at ht
    simp [c,h]
    refine ⟨by rw [db];exact x0k _,by omega,?_⟩
    simp [hw]
    refine ⟨j + 1,by omega,by omega,?_⟩
    rw [ht,hT]
    simp [cm]
   ·rw [if_neg c,x08] at ht
    have c' : f j=false:=by simpa using c
    simp [c',hw]
    exact ⟨j + 1,by omega,by omega,by rw [ht];simp⟩
  ·have ej : j=ns.length:=by omega
   subst ej
   rw [xV,x0p (by rw [db];exact x0k _)]
   exact ⟨by rw [db];exact x0k _,rfl⟩
set_option maxHeartbeats 2000000 in
theorem yr (hS : SlC C) (b1 b2 : Bool) (ns : List Nod) (ls : List Lnk) (nm : List UInt8) (hcv : ∀ l ∈ ls,l.curve.length < 2 ^ 62) (hv : bO ns ls=true) : C 464 [.agg [slx b1 (ns.map aR),slx b2 (ls.map aF)],.str nm] (.tup [o9 ns (trn (av ns ls)) nm,.int .i64 (uh ns nm)]) []:=by
 have k1:=kE hC b1 b2 ns ls hcv
 have k2:=u4 hC b1 b2 ns ls hv
 obtain ⟨l1,l2⟩:=cn hv
 have hg:=fc hv
 have hel:=aZ ns ls
 have k3:=Ec hC hS b1 b2 false ns ls (trn (av ns ls)) nm l1 (by rw [A1];omega) (D7 hg)
 rw [dz] at k3
 rw [hv] at k1
 have hV : ∃ c l,o9 ns (trn (av ns ls)) nm=slx c (cm l):=by
  unfold o9
  split
  ·exact ⟨false,_,rfl⟩
  ·exact ⟨true,[],rfl⟩
 obtain ⟨c,l,hV⟩:=hV
 rw [hV] at k3 ⊢
 generalize av ns ls=es at *
 refine aj hC (nf:=N464) rfl rfl ?_
 simp [N464]
 refine aa k1 (.inl rfl) ?_
 simp
 refine i9 k2 ?_
 simp
 refine az Nat (fun j=>[(1,.str nm),(2,.ptr [slx b1 (ns.map aR),slx b2 (ls.map aF)]),(6,.ref (.r 10096) 0 es.length),(14,.ref (.r 10096) 0 es.length),(15,.int .i64 es.length),(16,.int .i64 j),(10096,.blk 2 (trA es j))]) (fun j=>j <= es.length) (fun j=>es.length - j) 0 (by simp) (by simp [KY]) ?_
 rintro j hj
 simp
 refine ac (fun h=>?_) (fun h=>?_) <;> simp [h] <;> simp at h
 ·have hw : IntKind.wrap .i64 ((j : Int) + 1)=((j + 1 : Nat) : Int):=wrap_i64 (by omega) (by omega)
  have hs:=AY h
  have hgj : (trA es j)[j]'(by rw [mK];exact h)=[.int .i64 es[j].1,.int .i64 es[j].2]:=by
   have:=pR h
   rw [x0e (by rw [mK];exact h)] at this
   exact Option.some.inj this
  simp [h,mK,aB (pR h),pR h,hgj,hw]
  exact ⟨j + 1,by omega,by omega,by omega,hs⟩
 ·have ej : j=es.length:=by omega
  subst ej
  have hV : List.take es.length (List.map (fun e=>List.map aL e) (List.map edK (trn es)))=List.map edK (trn es):=by
   rw [<- ud,KZ,x0p (by rw [mK];exact x0k _)]
  rw [ud,hV]
  refine ⟨by simp [trn],?_⟩
  refine aa k3 (.inr rfl) ?_
  simp
end Go.Gv

namespace Go.Gv
variable {C : CC} (hC : al prog C)
include hC
end Go.Gv

namespace Go.Gv
noncomputable def lb (es : List Edg) (x : Nat) : Nat -> Bool:=rB (trn es) (tgs (trn es) x)
variable {C : CC} (hC : al prog C)
include hC
end Go.Gv

namespace Go.Gv
theorem Pth.wat {es : List Edg} (hnd : (es.map (·.1)).Nodup) {v x : Nat} (h : Pth es v x) : ∃ m,wat es m v=some x:=by
 have cons : ∀ {u v : Nat},(u,v) ∈ es -> ∀ m,Go.Gv.wat es (m + 1) u=Go.Gv.wat es m v:=fun {u v} e m=>by
  induction m with
  | zero=>show (some u).bind (stp es)=some v;exact xU hnd e
  | succ m ih =>
   show (Go.Gv.wat es (m + 1) u).bind (stp es)=(Go.Gv.wat es m v).bind (stp es)
   rw [ih]
 induction h with
 | refl v=>exact ⟨0,rfl⟩
 | step e _ ih =>
  obtain ⟨m,hm⟩:=ih
  exact ⟨m + 1,by rw [cons e];exact hm⟩
theorem ug {es : List Edg} {v : Nat} : ∀ {m x : Nat},wat es m v=some x -> Pth es v x
 | 0,x,h=>by simp [wat] at h;subst h;exact .refl v
 | m + 1,x,h=>by
  unfold wat at h
  cases e : wat es m v with
  | none=>rw [e] at h;cases h
  | some y =>
   rw [e] at h
   exact (ug e).snoc (nT h)
theorem Pth.turn {es : List Edg} {v x : Nat} (h : Pth es v x) : Pth (trn es) x v:=by
 induction h with
 | refl v=>exact .refl v
 | step e _ ih=>exact ih.snoc (x0t.2 ⟨_,e,rfl⟩)
theorem Pth.turn2 {es : List Edg} {v x : Nat} (h : Pth (trn es) x v) : Pth es v x:=by
 have:=h.turn
 have e : trn (trn es)=es:=by
  unfold trn
  rw [x1w]
  exact List.map_id es
 rwa [e] at this
theorem Ea {n : Nat} {es : List Edg} (hg : inG n es) (ht : cw n es=true) {x v : Nat} (hv : v < n) : (if v=x then true else lb es x v)=upB n es v x:=by
 simp only [cw,x0a,x0c] at ht
 obtain ⟨hnd,hlen⟩:=ht
 have key : upB n es v x=true ↔ Pth es v x:=by
  unfold upB
  rw [x0H]
  constructor
  ·rintro ⟨m,_,e⟩
   exact ug (by simpa using e)
  ·intro h
   obtain ⟨m,hm⟩:=h.wat hnd
   refine ⟨m,?_,by simp [hm]⟩
   rw [x1o]
   have:=fG hg hlen hm
   by_cases e : m=0
   ·omega
   ·have:=this.2 e;omega
 rw [x0x,key]
 by_cases e : v=x
 ·rw [if_pos e,e]
  exact ⟨fun _=>.refl x,fun _=>rfl⟩
 ·rw [if_neg e]
  unfold lb
  rw [sJ]
  constructor
  ·rintro ⟨s,hs,hp⟩
   exact (Pth.step (kD.1 hs) hp).turn2
  ·intro h
   have h2:=h.turn
   cases h2 with
   | refl=>exact absurd rfl e
   | step e2 h3=>exact ⟨_,kD.2 e2,h3⟩
variable {C : CC} (hC : al prog C)
include hC
end Go.Gv

namespace Go.Gv
variable {C : CC} (hC : al prog C)
include hC
end Go.Gv

set_option maxRecDepth 4000
namespace Go.Gv
variable {C : CC} (hC : al prog C)
include hC
end Go.Gv

set_option maxRecDepth 4000
namespace Go.Gv
variable {C : CC} (hC : al prog C)
include hC
end Go.Gv

namespace Go.Gv
def uO : Lnk:={ name:=[112],src:=[97],dst:=[98],kind:=1,len:=10000,up:=1000,down:=900,sect:=[115],width:=0,height:=0,curveN:=true,curve:=[] }
def exS : Sec:={ name:=[115],height:=300,price:=0,areaN:=false,area:=[(0,0),(300,70000)],convN:=false,conv:=[(0,0),(300,200000)] }
def tx (l : Lnk) : Bool:=decide (20 < l.curve.length) || decide (60 < l.name.length) || decide (60 < l.src.length) || decide (60 < l.dst.length) || decide (60 < l.sect.length)
def tC (s : Sec) : Bool:=decide (20 < s.area.length) || decide (20 < s.conv.length) || decide (60 < s.name.length)
theorem ze : qC uO exS 10000=(25,0):=by decide +kernel
theorem Id : sV uO exS 10000 1250=(1300,0):=by decide +kernel
variable {C : CC} (hC : al prog C)
include hC
theorem wy : C 158 [] (.tup [.agg (aF uO),.agg (aY exS)]) []:=by
 refine aj hC (nf:=N158) rfl rfl ?_
 simp [N158,aF,uO,exS,aY,knD]
 rfl
theorem oq : C 153 [] (.bool true) []:=by
 have k1:=wy hC
 have k2:=yy hC uO exS 10000 (by decide)
 have k3:=G7 hC uO exS 10000 1250 (by decide)
 rw [ze] at k2
 rw [Id] at k3
 simp only [aF,aY] at k1 k2 k3
 refine aj hC (nf:=N153) rfl rfl ?_
 simp [N153]
 refine aa k1 (.inr rfl) ?_
 simp
 refine aa k2 (.inl rfl) ?_
 simp
 refine aa k3 (.inl rfl) ?_
 simp
theorem wR (l : Lnk) : C 154 [.agg (aF l)] (.bool (tx l)) []:=by
 refine aj hC (nf:=N154) rfl rfl ?_
 simp [N154,aF,tx]
 refine ac (fun h0=>?_) (fun h0=>?_) <;> simp at h0
 ·simp [show 20 < l.curve.length by omega]
 simp [show ¬ 20 < l.curve.length by omega]
 refine ac (fun h1=>?_) (fun h1=>?_) <;> simp at h1
 ·simp [show 60 < l.name.length by omega]
 simp [show ¬ 60 < l.name.length by omega]
 refine ac (fun h2=>?_) (fun h2=>?_) <;> simp at h2
 ·simp [show 60 < l.src.length by omega]
 simp [show ¬ 60 < l.src.length by omega]
 refine ac (fun h3=>?_) (fun h3=>?_) <;> simp at h3
 ·simp [show 60 < l.dst.length by omega]
 simp [show ¬ 60 < l.dst.length by omega]
 rw [x0x]
 simp
 omega
end Go.Gv

set_option maxRecDepth 4000
namespace Go.Gv
def mU (n : Nod) : Bool:=decide (20 < n.shape.length) || decide (60 < n.name.length)
def tA (ns : List Nod) (ls : List Lnk) : Bool:=decide (14 < ns.length) || decide (16 < ls.length) || ns.any mU || ls.any tx
def tD (ss : List Sec) : Bool:=decide (8 < ss.length) || ss.any tC
variable {C : CC} (hC : al prog C)
include hC
theorem vY (n : Nod) : C 617 [.agg (aR n)] (.bool (mU n)) []:=by
 refine aj hC (nf:=N617) rfl rfl ?_
 simp [N617,aR,mU]
 by_cases c1 : (20 : Int) < n.shape.length
 ·simp [c1,show 20 < n.shape.length by omega]
 ·simp [c1,show ¬ 20 < n.shape.length by omega]
  omega
theorem tB (b1 b2 : Bool) (ns : List Nod) (ls : List Lnk) (h1 : ns.length < 2 ^ 62) (h2 : ls.length < 2 ^ 62) : C 572 [.agg [slx b1 (ns.map aR),slx b2 (ls.map aF)]] (.bool (tA ns ls)) []:=by
 have k1:=wL hC (b:=b1) (xs:=ns) (g:=617) (cs:=[]) mU h1 (fun x _=>vY hC x)
 have k2:=m6 hC (b:=b2) (xs:=ls) (g:=154) (cs:=[]) tx h2 (fun x _=>wR hC x)
 refine aj hC (nf:=N572) rfl rfl ?_
 simp [N572]
 unfold tA
 by_cases c1 : (14 : Int) < ns.length
 ·simp [c1,show 14 < ns.length by omega]
 by_cases c2 : (16 : Int) < ls.length
 ·simp [c1,c2,show 16 < ls.length by omega]
 simp [c1,c2,show ¬ 14 < ns.length by omega,show ¬ 16 < ls.length by omega]
 refine aa k1 (.inl rfl) ?_
 cases d1 : ns.any mU
 ·simp
  refine aa k2 (.inl rfl) ?_
  simp
  intro h;omega
 ·simp
theorem oM (b : Bool) (ss : List Sec) (hs : ss.length < 2 ^ 62) : C 155 [slx b (ss.map aY)] (.bool (tD ss)) []:=by
 have k0 : ∀ x ∈ ss,C 159 (.agg (aY x)::[]) (.bool (tC x)) []:=fun x _=>by
  refine aj hC (nf:=N159) rfl rfl ?_
  simp [N159,aY,tC]
  refine ac (fun h0=>?_) (fun h0=>?_) <;> simp at h0
  ·simp [show 20 < x.area.length by omega]
  simp [show ¬ 20 < x.area.length by omega]
  refine ac (fun h1=>?_) (fun h1=>?_) <;> simp at h1
  ·simp [show 20 < x.conv.length by omega]
  simp [show ¬ 20 < x.conv.length by omega]
  rw [x0x]
  simp
  omega
 have k1:=wM hC (b:=b) (xs:=ss) (g:=159) (cs:=[]) tC hs k0
 refine aj hC (nf:=N155) rfl rfl ?_
 simp [N155]
 unfold tD
 by_cases c1 : (8 : Int) < ss.length
 ·simp [c1,show 8 < ss.length by omega]
 simp [c1,show ¬ 8 < ss.length by omega]
 refine aa k1 (.inl rfl) ?_
 simp
 intro h;omega
end Go.Gv

set_option maxRecDepth 4000
namespace Go.Gv
theorem Ag {at' : List Int} {i : Nat} {s : Sp} (h : s.1 <= s.2) : s.1 <= (eL at' i s).1 /\ (eL at' i s).1=(eL at' i s).2 /\ (eL at' i s).2 <= s.2:=by
 have:=pN (at':=at') (i:=i) h
 exact ⟨this.1,rfl,this.2⟩
theorem AZ {ns : List Nod} {ls : List Lnk} {ss : List Sec} {q : List Sp} {o : Sp} (at' : List Int) (h : cJ ns ls ss q o=0) :
  cJ ns ls ss (ptL at' q) (eL at' 0 o)=0 /\ ∀ i,(gb ns ls ss q o i).1 <= (gb ns ls ss (ptL at' q) (eL at' 0 o) i).1 /\ (gb ns ls ss (ptL at' q) (eL at' 0 o) i).2 <= (gb ns ls ss q o i).2 /\
   (gb ns ls ss (ptL at' q) (eL at' 0 o) i).1=(gb ns ls ss (ptL at' q) (eL at' 0 o) i).2 /\ (gb ns ls ss q o i).1 <= (gb ns ls ss q o i).2:=by
 have hM:=j0 h
 obtain ⟨T,ho⟩:=j1 hM h
 have hE:=(sS hM).1
 rw [h] at hE
 have hM2:=hM
 simp only [gI,x0a,x0q,x0c,x0E] at hM2
 obtain ⟨⟨⟨⟨⟨h1,h2⟩,h3⟩,h4⟩,h5⟩,h6⟩:=hM2
 obtain ⟨ht,hc,hs,hp⟩:=kw h1
 have hv : bO ns ls=true:=by simp only [cx,x0a] at ht;exact ht.1.1
 have htf : cw ns.length (av ns ls)=true:=by simp only [cx,x0a] at ht;exact ht.2
 obtain ⟨hnl,hll⟩:=cn hv
 have hg:=fc hv
 have hel:=aZ ns ls
 obtain ⟨hq1,hq2⟩:=gH hs
 have hq1' : q.length=ns.length:=by omega
 have hbig : jp (aA ns.length (av ns ls) q)=false:=by
  unfold b9 at h5
  split at h5
  ·cases h5
  ·rename_i h;simpa using h
 have hI:=DN (at':=at') hq2
 have hF:=Pk hnl hg htf hq1' hq2 hI
 have hr:=hI.rng hq2
 have hFr:=hF.rng2 hbig
 have hs' : gf (ptL at' q) ns.length=0:=AR (by rw [kT];exact hq1') hr
 have hg' : ku ns ls ss (ptL at' q) ns.length=0:=by
  unfold ku
  rw [if_pos (by simp [ht,hc]),if_pos hs',hp]
 have hlF:=dU ns.length (av ns ls) q
 have hlF':=dU ns.length (av ns ls) (ptL at' q)
 have hb' : jp (aA ns.length (av ns ls) (ptL at' q))=false:=by
  refine yG fun s hs=>?_
  obtain ⟨i,hi,rfl⟩:=x0Y hs
  have h8:=hF.get i (by omega) hi
  have h9:=hFr _ (x0h (show i < (aA ns.length (av ns ls) q).length by omega))
  omega
 have h5' : b9 ns.length (av ns ls) (ptL at' q)=0:=by
  unfold b9
  rw [hb']
  rfl
 obtain ⟨p1,p2,p3⟩:=Ag (at':=at') (i:=0) ho.2.1
 have hsp : dC (eL at' 0 o)=true:=by
  simp only [dC,rY,x0a,x0c]
  omega
 have hob : eG (eL at' 0 o)=false:=by
  simp only [eG,Bool.or_eq_false_iff,x0E]
  omega
 have hin : Iy ls (aA ns.length (av ns ls) q) (aA ns.length (av ns ls) (ptL at' q)):=by
  intro k hk
  have h8:=hF.get k (by omega) (by omega)
  rw [ic (by omega),ic (by omega)]
  omega
 have hlk : ∀ k,k < ls.length -> gP ls ss (aA ns.length (av ns ls) (ptL at' q)) k=0:=by
  intro k hk
  have h8:=T.trs.tro.loss k hk
  rw [kX hk] at h8
  have h9:=T.trs.low k hk
  have h10:=hin k hk
  unfold gP
  exact oF (by omega) h10.2.2 h8
 have hl' : iE ls ss (aA ns.length (av ns ls) (ptL at' q))=0:=by
  unfold iE
  rw [if_neg,if_neg]
  ·rw [x0H]
   rintro ⟨k,hk,h9⟩
   rw [hlk k (by simpa using hk)] at h9
   simp at h9
  ·rw [x0H]
   rintro ⟨k,hk,h9⟩
   rw [hlk k (by simpa using hk)] at h9
   simp at h9
 have hE' : cJ ns ls ss (ptL at' q) (eL at' 0 o)=0:=by
  unfold cJ
  rw [hg',hob,h4,h5',hl']
  simp [hsp]
 refine ⟨hE',fun i=>?_⟩
 obtain ⟨T',ho'⟩:=j1 (j0 hE') hE'
 have a1:=zT (ns:=ns) (o:=o) (o':=eL at' 0 o) T.trs hin T.inv ⟨by omega,by omega,by omega,by omega⟩ i
 have a2:=mC (ns:=ns) (o:=o) T.trs T.inv ⟨ho.2.1,ho.2.2⟩ i
 have a3 : (fF ns.length (av ns ls) ns ls (ls.map (cI ss)) (aA ns.length (av ns ls) (ptL at' q)) (eL at' 0 o) i).1=(fF ns.length (av ns ls) ns ls (ls.map (cI ss)) (aA ns.length (av ns ls) (ptL at' q)) (eL at' 0 o) i).2:=by
  refine qE (fun k=>?_) rfl i
  by_cases hk : k < (aA ns.length (av ns ls) (ptL at' q)).length
  ·have h8:=hF.get k (by omega) hk
   rw [ic hk]
   exact h8.2.2.1
  ·rw [getElem!_neg _ k hk]
   rfl
 exact ⟨a1.1,a1.2,a3,a2.2.2⟩
variable {C : CC} (hC : al prog C)
include hC
set_option maxHeartbeats 1000000 in
theorem nY (b b' : Bool) (q : List Sp) (at' : List Int) (hq : q.length < 2 ^ 40) (ha : at'.length < 2 ^ 62) (hr : ∀ s ∈ q,-4194304 <= s.1 /\ s.1 <= s.2 /\ s.2 <= 1099511627776) (hat : ∀ x ∈ at',0 <= x /\ x < 4294967296) : C 577 [slx b (q.map knD),slx b' (at'.map fun n=>[.int .u32 n])] (.sl ((ptL at' q).map knD)) []:=by
 have hdl:=kT at' q
 have hdg : ∀ (k : Nat) (h2 : k < q.length),∃ h : k < (ptL at' q).length,(ptL at' q)[k]=eL at' k q[k]:=fun k h2=>⟨by omega,tM _ h2⟩
 refine aj hC (nf:=N577) rfl rfl ?_
 simp [N577]
 generalize ptL at' q=fl at *
 refine az Nat (fun i=>[(1,slx b' (at'.map fun n=>[.int .u32 n])),(5,.ref (.r 10080) 0 i),(10080,.blk 2 (spT fl i)),(9,slx b (q.map knD)),(10,.int .i64 q.length),(11,.int .i64 i)]) (fun i=>i <= q.length) (fun i=>q.length - i) 0 (by simp) (by simp [spT]) ?_
 rintro i hi
 simp
 refine ac (fun h=>?_) (fun h=>?_) <;> simp [h] <;> simp at h
 ·have hw : IntKind.wrap .i64 ((i : Int) + 1)=((i + 1 : Nat) : Int):=wrap_i64 (by omega) (by omega)
  obtain ⟨hfi,hfg⟩:=hdg i h
  have hri:=hr _ (x0h h)
  have hsl : (spT fl i).length=i:=AP (by omega)
  have w0 : IntKind.wrap .i64 q[i].1=q[i].1:=wrap_i64 rfl (by omega)
  have hqd : q[i]?.getD default=q[i]:=by simp [h]
  simp [h,knD,hqd]
  by_cases ha0 : at'.length=0
  ·simp [ha0,hw,w0,hqd]
   refine ⟨by omega,by omega,i + 1,by omega,by omega,rfl,?_,by omega⟩
   rw [nQ hfi,hfg,x0p (by omega)]
   simp [eL,ptN,ha0,knD]
  ·have ha1 : 0 < at'.length:=by omega
   by_cases hlt : q[i].1 < q[i].2
   ·have hm : i % at'.length < at'.length:=x1x _ (by omega)
    have e1 : Int.tmod (i : Int) at'.length=((i % at'.length : Nat) : Int):=rfl
    have w1 : IntKind.wrap .i64 ((i % at'.length : Nat) : Int)=((i % at'.length : Nat) : Int):=wrap_i64 rfl (by omega)
    have hx:=hat _ (x0h hm)
    have eq1 : at'[i % at'.length]! = at'[i % at'.length]:=x0g at' _ hm
    have hpn : ptN at' i q[i]=q[i].1 + at'[i % at'.length] % (q[i].2 - q[i].1 + 1):=by rw [ptN,if_neg ha0,eq1]
    have hin:=pN (at':=at') (i:=i) hri.2.1
    generalize i % at'.length=j at *
    have w2 : IntKind.wrap .i64 at'[j]=at'[j]:=wrap_i64 rfl (by omega)
    have w3 : IntKind.wrap .i64 (q[i].2 - q[i].1)=q[i].2 - q[i].1:=wrap_i64 rfl (by omega)
    have w4 : IntKind.wrap .i64 (q[i].2 - q[i].1 + 1)=q[i].2 - q[i].1 + 1:=wrap_i64 rfl (by omega)
    have e2 : Int.tmod at'[j] (q[i].2 - q[i].1 + 1)=at'[j] % (q[i].2 - q[i].1 + 1):=Int.tmod_eq_emod_of_nonneg hx.1
    have h1:=Int.emod_nonneg at'[j] (show q[i].2 - q[i].1 + 1 ≠ 0 by omega)
    have h2:=Int.emod_lt_of_pos at'[j] (show 0 < q[i].2 - q[i].1 + 1 by omega)
    have w5 : IntKind.wrap .i64 (at'[j] % (q[i].2 - q[i].1 + 1))=at'[j] % (q[i].2 - q[i].1 + 1):=wrap_i64 rfl (by omega)
    have w6 : IntKind.wrap .i64 (q[i].1 + at'[j] % (q[i].2 - q[i].1 + 1))=q[i].1 + at'[j] % (q[i].2 - q[i].1 + 1):=wrap_i64 rfl (by omega)
    have z : ¬ q[i].2 - q[i].1 + 1=0:=by omega
    simp [ha0,ha1,hlt,e1,w1,hm,w2,w3,w4,e2,w5,w6,z,hw,hqd]
    refine ⟨ar (by decide +kernel),by omega,by omega,i + 1,by omega,by omega,rfl,?_,by omega⟩
    rw [nQ hfi,hfg,x0p (by omega)]
    simp only [eL,hpn,knD]
   ·have hpn : ptN at' i q[i]=q[i].1:=by
     have hin:=pN (at':=at') (i:=i) hri.2.1
     omega
    simp [ha0,ha1,hlt,hw,w0,hqd]
    refine ⟨by omega,by omega,i + 1,by omega,by omega,rfl,?_,by omega⟩
    rw [nQ hfi,hfg,x0p (by omega)]
    simp only [eL,hpn,knD]
 ·have ek : i=q.length:=by omega
  subst ek
  rw [KU,<- hdl,AO,x0p (by simp)]
  exact ⟨by simp,rfl⟩
end Go.Gv

set_option maxRecDepth 4000
namespace Go.Gv
theorem AW {ns : List Nod} {ls : List Lnk} (hv : bO ns ls=true) (sp : Nat -> Sp) (hi : Bool) {i : Nat} (h : i < ns.length) : (ff ns sp hi ns.length).contains ns[i].name=ro ns sp hi i:=by
 rw [x0x,x0F]
 unfold ff
 simp only [x0t,List.mem_filter,x1o]
 constructor
 ·rintro ⟨j,⟨hj,h1⟩,h2⟩
  rw [x0g ns j hj] at h2
  have:=lF hv hj h h2
  subst this
  exact h1
 ·intro h1
  exact ⟨i,⟨h,h1⟩,by rw [x0g ns i h]⟩
theorem xY {ns : List Nod} {sp : Nat -> Sp} (h : ∀ i,(sp i).1=(sp i).2) (n : Nat) : ff ns sp true n=ff ns sp false n:=by
 unfold ff
 congr 1
 congr 1
 funext i
 unfold ro
 rw [h i]
 rfl
variable {C : CC} (hC : al prog C)
include hC
set_option maxHeartbeats 4000000 in
theorem il (hS : SlC C) (b1 b2 : Bool) (ns : List Nod) (ls : List Lnk) (h1 : ns.length < 2 ^ 62) (h2 : ls.length < 2 ^ 62) (hcv : ∀ l ∈ ls,l.curve.length < 2 ^ 62) (b : Bool) (ss : List Sec) (h3 : ss.length < 2 ^ 62) (b' : Bool) (q : List Sp) (h4 : q.length < 2 ^ 62) (o : Sp) (b'' : Bool) (at' : List Int) (h5 : at'.length < 2 ^ 62) (hat : ∀ x ∈ at',0 <= x /\ x < 4294967296) :
  C 536 [.agg [slx b1 (ns.map aR),slx b2 (ls.map aF)],slx b (ss.map aY),slx b' (q.map knD),.agg (knD o),slx b'' (at'.map fun n=>[.int .u32 n])] (.bool true) []:=by
 have k0:=oq hC
 have k1:=tB hC b1 b2 ns ls h1 h2
 have k2:=oM hC b ss h3
 have k3:=mR hC hS b1 b2 b b' ns ls ss q o h2 h3 h4 hcv
 have k4:=j7 hC hS b1 b2 b b' ns ls ss q o h2 h3 h4 hcv
 refine aj hC (nf:=N536) rfl rfl ?_
 simp [N536,knD]
 refine aa k0 (.inl rfl) ?_
 simp
 refine aa k1 (.inl rfl) ?_
 by_cases c1 : tA ns ls=true
 ·simp [c1]
 simp [c1]
 refine aa k2 (.inl rfl) ?_
 by_cases c2 : tD ss=true
 ·simp [c2]
 simp [c2]
 by_cases c3 : (20 : Int) < q.length
 ·simp [c3]
 simp [c3]
 refine aa (by simpa [knD] using k3) (.inr (by simp)) ?_
 unfold mQ
 by_cases h0 : cJ ns ls ss q o=0
 case neg =>
  rw [if_neg h0]
  simp [h0]
 rw [if_pos h0] at k4
 rw [if_pos h0,h0]
 obtain ⟨hE',hpt⟩:=AZ at' h0
 have hM:=j0 h0
 obtain ⟨T,ho⟩:=j1 hM h0
 have hM2:=hM
 simp only [gI,x0a,x0q,x0c,x0E] at hM2
 obtain ⟨⟨⟨⟨⟨hg,_⟩,_⟩,_⟩,_⟩,_⟩:=hM2
 obtain ⟨ht,hc,hs,hp⟩:=kw hg
 have hv : bO ns ls=true:=by simp only [cx,x0a] at ht;exact ht.1.1
 obtain ⟨hq1,hq2⟩:=gH hs
 have hnl:=T.trs.small
 have hql : q.length=ns.length:=by omega
 have k5:=nY hC b' b'' q at' (by omega) h5 (fun s hs=>by have:=hq2 s hs;omega) hat
 have k6:=nY hC false b'' [o] at' (by simp) h5 (fun s hs=>by
  simp at hs
  subst hs
  omega) hat
 have e6 : ptL at' [o]=[eL at' 0 o]:=rfl
 rw [e6] at k6
 have k7:=mR hC hS b1 b2 b false ns ls ss (ptL at' q) (eL at' 0 o) h2 h3 (by rw [kT];omega) hcv
 have k8:=j7 hC hS b1 b2 b false ns ls ss (ptL at' q) (eL at' 0 o) h2 h3 (by rw [kT];omega) hcv
 unfold mQ at k7
 rw [if_pos hE',hE'] at k7
 rw [if_pos hE'] at k8
 obtain ⟨⟨x0,x1⟩,hpo⟩ : ∃ p,p=eL at' 0 o:=⟨_,rfl⟩
 rw [<- hpo] at k6 k7 k8 hpt
 generalize hsp : gb ns ls ss q o=sp at *
 generalize hsp' : gb ns ls ss (ptL at' q) (x0,x1)=sp' at *
 have hone : ∀ i,(sp' i).1=(sp' i).2:=fun i=>(hpt i).2.2.1
 rw [xY hone] at k8
 have kc:=fun s x=>qm hC false (ff ns s x ns.length)
 have kc' : ∀ (s : Nat -> Sp) (x : Bool) (i : Nat) (hi : i < ns.length),C 450 [.sl (cm (ff ns s x ns.length)),.str ns[i].name] (.bool (ro ns s x i)) []:=fun s x i hi=>by
  have:=kc s x ns[i].name (by have:=iV ns s x ns.length;omega)
  rw [AW hv s x hi,dz] at this
  exact this
 have k9:=za hC false false (ff ns sp' false ns.length) (ff ns sp' false ns.length) (by have:=iV ns sp' false ns.length;omega) (by have:=iV ns sp' false ns.length;omega)
 simp only [dz] at k9 k7 k8 k6
 simp only [knD,x0G,x0X] at k6 k7 k8
 simp
 refine aa (by simpa [knD] using k4) (.inr (by simp)) ?_
 simp
 refine aa k5 (.inr (by simp)) ?_
 simp
 refine aa k6 (.inr (by simp)) ?_
 simp
 refine ⟨ar (by decide +kernel),?_⟩
 refine aa (by simpa [knD] using k7) (.inr (by simp)) ?_
 simp
 refine aa (by simpa [knD] using k8) (.inr (by simp)) ?_
 simp [cq]
 refine aa k9 (.inl rfl) ?_
 simp
 refine az Nat (fun j=>[(11,.sl ((lvT sp ns.length).map knD)),(13,.sl (cm (ff ns sp false ns.length))),(14,.sl (cm (ff ns sp true ns.length))),(18,.sl ((lvT sp' ns.length).map knD)),(20,.sl (cm (ff ns sp' false ns.length))),(120,slx b1 (ns.map aR)),(121,.int .i64 ns.length),(122,.int .i64 j)]) (fun j=>j <= ns.length) (fun j=>ns.length - j) 0 (by simp) (by simp) ?_
 intro j hj
 simp
 refine ac (fun h=>?_) (fun h=>?_) <;> simp at h
 ·have hw : IntKind.wrap .i64 ((j : Int) + 1)=((j + 1 : Nat) : Int):=wrap_i64 (by omega) (by omega)
  obtain ⟨p1,p2,p3,p4⟩:=hpt j
  have ka:=kc' sp' false j h
  have kb:=kc' sp false j h
  have kd:=kc' sp true j h
  unfold ro at ka kb kd
  rw [x0g ns j h] at ka kb kd
  simp only [if_true,x0l,if_false] at ka kb kd
  have n1 : ¬ (sp' j).2 < (sp j).1:=by omega
  have n2 : ¬ (sp j).2 < (sp' j).2:=by omega
  have n4 : ¬ (sp j).2 < (sp j).1:=by omega
  rw [p3] at ka
  simp [h,aR,cq,fD,knD,p3,n1,n2,n4]
  refine ⟨ar (by decide +kernel),?_⟩
  refine aa ka (.inl rfl) ?_
  by_cases c : ns[j].kind=3
  ·simp [c] at ka kb kd
   simp [c]
   refine aa kb (.inl rfl) ?_
   simp
   exact ⟨ar (by decide +kernel),j + 1,by omega,by omega,hw⟩
  ·simp [c] at ka kb kd
   by_cases g : ns[j].ground < (sp' j).2
   ·have g3 : ns[j].ground < (sp j).2:=by omega
    simp [g,g3] at ka kb kd
    simp [c,h,cq,fD,knD,p3,g]
    refine aa kb (.inl rfl) ?_
    by_cases g1 : ns[j].ground < (sp j).1
    ·simp [g1]
     refine aa kd (.inl rfl) ?_
     simp
     exact ⟨ar (by decide +kernel),j + 1,by omega,by omega,hw⟩
    ·simp [g1]
     refine aa kd (.inl rfl) ?_
     simp
     exact ⟨ar (by decide +kernel),j + 1,by omega,by omega,hw⟩
   ·have g3 : ¬ ns[j].ground < (sp j).1:=by omega
    simp [g,g3] at ka kb kd
    simp [c,h,cq,fD,knD,p3,g]
    refine aa kb (.inl rfl) ?_
    simp
    exact ⟨ar (by decide +kernel),j + 1,by omega,by omega,hw⟩
 ·simp [h]
end Go.Gv

namespace Go.Gv
end Go.Gv

namespace Go.Gv
variable {C : CC} (hC : al prog C)
include hC
theorem Cj (b1 b2 : Bool) (ns : List Nod) (ls : List Lnk) (nm : List UInt8) (hcv : ∀ l ∈ ls,l.curve.length < 2 ^ 62) (hv : bO ns ls=true) : C 482 [.agg [slx b1 (ns.map aR),slx b2 (ls.map aF)],.str nm] (.tup [.int .i64 (if a8 (bq nm) ns < 0 then 0 else a8 (bq nm) ns),.int .i64 (if a8 (bq nm) ns < 0 then 9 else 0)]) []:=by
 have k0:=kE hC b1 b2 ns ls hcv
 rw [hv] at k0
 have k1:=gR hC b1 b2 ns ls nm (by have:=(cn hv).1;omega)
 have k2:=tq hC [slx b1 (ns.map aR),slx b2 (ls.map aF)] (a8 (bq nm) ns)
 refine aj hC (nf:=N482) rfl rfl ?_
 simp [N482]
 refine aa k0 (.inl rfl) ?_
 simp
 refine aa k1 (.inl rfl) ?_
 simp
 refine aa k2 (.inl rfl) ?_
 simp
 exact ar (by decide +kernel)
end Go.Gv

namespace Go.Gv
theorem x7 {n : Nat} {es : List Edg} (hg : inG n es) (hlen : (aX n es).length=n) (x : Nat) : lb es x x=false:=by
 rw [<- x1B]
 intro h
 unfold lb at h
 rw [sJ] at h
 obtain ⟨s,hs,hp⟩:=h
 have hm : (s,x) ∈ es:=by
  have:=kD.1 hs
  unfold trn at this
  obtain ⟨e,he,h2⟩:=x0t.1 this
  obtain ⟨a,b⟩:=e
  simp at h2
  obtain ⟨rfl,rfl⟩:=h2
  exact he
 have hr:=gz hg hlen hm
 have pth : ∀ {u v : Nat},Pth es u v -> (aX n es).idxOf u <= (aX n es).idxOf v:=by
  intro u v h
  induction h with
  | refl=>exact x0k _
  | step e _ ih=>exact x07 (Nat.le_of_lt (gz hg hlen e).1) ih
 have:=pth hp.turn2
 omega
theorem z6 {ns : List Nod} {ls : List Lnk} (hv : bO ns ls=true) (f : Nat -> Bool) {i : Nat} (h : i < ns.length) : (nmT ns f ns.length).contains ns[i].name=f i:=by
 have key : ∀ K,K <= ns.length -> ((nmT ns f K).contains ns[i].name=true ↔ i < K /\ f i=true):=by
  intro K
  induction K with
  | zero=>intro _;simp [nmT]
  | succ K ih =>
   intro hK
   have ihK:=ih (by omega)
   have e : qK ns K=ns[K].name:=oS (by omega)
   unfold nmT
   by_cases hf : f K=true
   ·rw [if_pos hf]
    rw [x0F] at ihK ⊢
    rw [x0j,ihK,e]
    simp only [x0Q]
    constructor
    ·rintro (h1 | h1)
     ·exact ⟨by omega,h1.2⟩
     ·have:=lF hv h (show K < ns.length by omega) h1
      subst this
      exact ⟨by omega,hf⟩
    ·rintro ⟨h1,h2⟩
     by_cases h3 : i=K
     ·subst h3;exact .inr rfl
     ·exact .inl ⟨by omega,h2⟩
   ·rw [if_neg hf,x08,ihK]
    constructor
    ·rintro ⟨h1,h2⟩;exact ⟨by omega,h2⟩
    ·rintro ⟨h1,h2⟩
     refine ⟨?_,h2⟩
     rcases x0y.1 h1 with h3 | h3
     ·exact h3
     ·subst h3;exact absurd h2 hf
 rw [x0x,key _ (x0k _)]
 exact ⟨fun h=>h.2,fun h2=>⟨h,h2⟩⟩
theorem vz {n : Nat} {es : List Edg} (hg : inG n es) (ht : cw n es=true) (g : Nat -> Int) {x : Nat} (hx : x < n) : upS n es g x=g x + a7 (fun v=>if lb es x v=true then g v else 0) n:=by
 have hlen : (aX n es).length=n:=by simp only [cw,x0a,x0c] at ht;exact ht.2
 have hs:=x7 hg hlen x
 have e1 : g x=a7 (fun v=>if v=x then g v else 0) n:=by
  rw [iU hx (fun k _ hk=>by rw [if_neg hk]),if_pos rfl]
 conv=>rhs;rw [e1]
 rw [<- nV]
 unfold upS
 refine ci fun v hv=>?_
 have h1:=Ea hg ht (x:=x) hv
 by_cases h : v=x
 ·subst h
  rw [if_pos rfl] at h1
  rw [<- h1,hs]
  simp
 ·rw [if_neg h] at h1
  rw [<- h1,if_neg h]
  omega
def b8 (xs : List Int) : List Sp:=xs.map fun x=>(x,x)
theorem tH {xs : List Int} {i : Nat} (h : i < xs.length) : (b8 xs)[i]! = (xs[i],xs[i]):=by
 rw [x0g (b8 xs) i (by simpa [b8] using h)]
 simp [b8]
structure OR (ns : List Nod) (ls : List Lnk) (ss : List Sec) (g : Nat -> Int) (sp : Nat -> Sp) (i k w : Nat) : Prop where
 kl : k < ls.length
 wn : w < ns.length
 pip : gh ss ls[k]!
 dst : a8 (bq ls[k]!.dst) ns=(w : Int)
 src : ls[k]!.src=ns[i]!.name
 lk : ca ls[k]! = true
 kd : ls[k]!.kind=1
 nm : (cI ss ls[k]!).name=ls[k]!.sect
 fl : 0 <= upS ns.length (av ns ls) g i /\ upS ns.length (av ns ls) g i <= 1099511627776
 lo : -4194304 <= (sp w).1 /\ (sp w).1 <= 1099511627776
 err : (bz ls[k]! (cI ss ls[k]!) (upS ns.length (av ns ls) g i) (sp w).1).2=0
 lev : sp i=((bz ls[k]! (cI ss ls[k]!) (upS ns.length (av ns ls) g i) (sp w).1).1,(bz ls[k]! (cI ss ls[k]!) (upS ns.length (av ns ls) g i) (sp w).1).1)
 up : (sp w).1 <= (bz ls[k]! (cI ss ls[k]!) (upS ns.length (av ns ls) g i) (sp w).1).1
theorem D5 {ns : List Nod} {ls : List Lnk} {ss : List Sec} {xs : List Int} {h : Int} (h0 : cJ ns ls ss (b8 xs) (h,h)=0) {i : Nat} (hi : i < ns.length) :
  (fE (av ns ls) i=none /\ gb ns ls ss (b8 xs) (h,h) i=(mxI ns[i].invert h,mxI ns[i].invert h)) \/
  ∃ k w,fE (av ns ls) i=some k /\ OR ns ls ss (fun v=>(b8 xs)[v]!.1) (gb ns ls ss (b8 xs) (h,h)) i k w:=by
 have hM:=j0 h0
 obtain ⟨T,ho⟩:=j1 hM h0
 simp only at ho
 have hM2:=hM
 simp only [gI,x0a,x0q,x0c,x0E] at hM2
 obtain ⟨⟨⟨⟨⟨hg,_⟩,_⟩,_⟩,hf0⟩,_⟩:=hM2
 obtain ⟨ht,hc,hs,hp⟩:=kw hg
 have hv : bO ns ls=true:=by simp only [cx,x0a] at ht;exact ht.1.1
 have htf : cw ns.length (av ns ls)=true:=by simp only [cx,x0a] at ht;exact ht.2
 have hkd : ∀ l ∈ ls,l.kind=1:=by simp only [cx,x0a,x0f,x0c] at ht;exact ht.1.2
 obtain ⟨hnl,hll⟩:=cn hv
 have hgi:=fc hv
 obtain ⟨hq1,hq2⟩:=gH hs
 have hq1' : (b8 xs).length=ns.length:=by omega
 have hl1 : ∀ v,v < ns.length -> 0 <= (b8 xs)[v]!.1 /\ (b8 xs)[v]!.1 <= (b8 xs)[v]!.2 /\ (b8 xs)[v]!.2 <= 1099511627776:=fun v hv=>by
  rw [ic (by omega)]
  exact hq2 _ (x0h _)
 cases hf : fE (av ns ls) i with
 | none =>
  left
  refine ⟨rfl,?_⟩
  unfold gb lvX
  rw [oK (show ju (av ns ls) i=none from hf)]
  unfold p8
  rw [x0g ns i hi]
 | some k =>
  right
  obtain ⟨hk,hek⟩:=ft (show ju (av ns ls) i=some k from hf)
  have hkl : k < ls.length:=by rw [<- aZ ns ls];exact hk
  obtain ⟨w,hw,r1,r2,e1,e2,hS⟩:=oL (ns:=ns) (o:=(h,h)) T.trs T.inv ⟨ho.2.1,ho.2.2⟩ (xq T.trs.full hi) (show ju (av ns ls) i=some k from hf)
  rw [x0g (av ns ls) k hk] at hw
  have hwn : w < ns.length:=by rw [hw];exact (T.trs.ing _ (x0h hk)).2
  obtain ⟨b1',b2',b3'⟩:=mC (ns:=ns) (o:=(h,h)) T.trs T.inv ⟨ho.2.1,ho.2.2⟩ w
  obtain ⟨g1,g2,n1,n2,a1,a2⟩:=qf hv hkl
  have hfu:=kr hnl hgi htf hl1 hk
  have hso : (fun v : Nat=>((b8 xs)[v]! : Sp).2)=fun v : Nat=>((b8 xs)[v]! : Sp).1:=by
   funext v
   by_cases hvx : v < xs.length
   ·rw [tH hvx]
   ·rw [getElem!_neg (b8 xs) v (by simpa [b8] using hvx)]
    rfl
  rw [hso,hek] at hfu
  have hbig : jp (aA ns.length (av ns ls) (b8 xs))=false:=by
   unfold b9 at hf0
   split at hf0
   ·cases hf0
   ·rename_i h;simpa using h
  have hfb:=px hbig hk
  have hlo:=T.trs.low k hkl
  have hone:=qE (n:=ns.length) (es:=av ns ls) (ns:=ns) (ls:=ls) (ss:=ls.map (cI ss)) (fl:=aA ns.length (av ns ls) (b8 xs)) (o:=(h,h)) (fun j=>by
   by_cases hj : j < (av ns ls).length
   ·rw [kr hnl hgi htf hl1 hj,hso]
   ·rw [getElem!_neg (aA ns.length (av ns ls) (b8 xs)) j (by rw [dU];exact hj)]
    rfl) rfl w
  rw [hfu] at hS e1 e2 hlo hfb
  have hst:=T.trs.tro.step hkl (q:=upS ns.length (av ns ls) (fun v=>(b8 xs)[v]!.1) i) hlo.1 (by rw [hfu];exact x0M _) (by omega : ns.length <= 400) b1'
  rw [kX hkl] at hS e1 e2 hst
  simp only at hS e1 e2
  rw [<- hone] at hS
  have hlev : gb ns ls ss (b8 xs) (h,h)=fF ns.length (av ns ls) ns ls (ls.map (cI ss)) (aA ns.length (av ns ls) (b8 xs)) (h,h):=rfl
  rw [hlev]
  have hP:=T.lnk _ (x0h hkl)
  obtain ⟨m,hm1,hm2,hm3⟩:=hP.sec
  have hlk:=(fq hv hkl).1
  have hlk1 : ls[k]! = ls[k]:=x0g ls k hkl
  refine ⟨k,w,rfl,⟨hkl,hwn,by rw [hlk1];exact hP,?_,?_,by rw [hlk1];exact hlk,by rw [hlk1];exact hkd _ (x0h hkl),?_,⟨hlo.1,hfb⟩,⟨b1'.1,by have:=b1'.2;omega⟩,e1,hS,hst.2.1⟩⟩
  ·rw [hlk1,hw];exact a2
  ·rw [hlk1,x0g ns i hi,<- n1]
   congr 1
   exact getElem_congr_idx hek
  ·rw [hlk1,hm3]
   change a8 (cl ls[k].sect) ss=_ at hm1
   unfold a8 at hm1
   split at hm1
   ·rename_i j hj
    rw [x0L] at hj
    obtain ⟨h1,h2,_⟩:=hj
    have e : j=m:=by omega
    subst e
    simpa [cl] using h2
   ·omega
end Go.Gv

set_option maxRecDepth 4000
namespace Go.Gv
def lG (xs : List Int) (j : Nat) : List (List D):=(b8 (xs.take j)).map knD
theorem DH (xs : List Int) : lG xs 0=[]:=by simp [lG,b8]
theorem u9 {xs : List Int} {j : Nat} (h : j < xs.length) : lG xs (j + 1)=lG xs j++[[.int .i64 xs[j],.int .i64 xs[j]]]:=by
 unfold lG b8
 rw [x0u h,x1b,x1b]
 rfl
theorem qN {xs : List Int} {j : Nat} (h : j <= xs.length) : (lG xs j).length=j:=by simp [lG,b8];omega
theorem w9 (xs : List Int) : lG xs xs.length=(b8 xs).map knD:=by simp [lG]
theorem DI (xs : List Int) (j : Nat) : (lG xs j).map (fun e=>e.map aL)=lG xs j:=by
 unfold lG
 rw [x1w]
 apply x0i
 intro x _
 simp [knD,aL]
theorem x5 {l : Lnk} {s : Sec} {f v : Int} (h1 : ca l=true) (h2 : ap s=true) (h3 : l.kind=1) (h4 : s.name=l.sect) (h5 : l.down <= l.up) (h6 : 0 <= f /\ f <= 1099511627776) (h7 : -4194304 <= v /\ v <= 1099511627776) : sV l s f v=bz l s f v:=by
 unfold sV hJ
 rw [if_pos (show (ca l && ap s)=true by simp [h1,h2]),if_pos h3,if_pos h4.symm,if_pos rfl,if_neg (by omega),if_pos]
 simp only [aT,x0a,x0c]
 exact ⟨h6,h7⟩
noncomputable def upQ (g : Nat -> Int) (es : List Edg) (i j : Nat) : Int:=g i + a7 (fun v=>if lb es i v=true then g v else 0) j
theorem A4 {g : Nat -> Int} {es : List Edg} {i n : Nat} (hi : i < n) (hg : ∀ v,v < n -> 0 <= g v /\ g v <= 1099511627776) : ∀ j,j <= n -> 0 <= upQ g es i j /\ upQ g es i j <= (j + 1) * 1099511627776:=by
 intro j
 induction j with
 | zero =>
  intro _
  have:=hg i hi
  unfold upQ
  simp only [a7]
  omega
 | succ j ih =>
  intro h
  have h1:=ih (by omega)
  have h2:=hg j (by omega)
  unfold upQ at *
  simp only [a7]
  split <;> omega
theorem x6 (g : Nat -> Int) (es : List Edg) (i j : Nat) : upQ g es i (j + 1)=if lb es i j=true then upQ g es i j + g j else upQ g es i j:=by
 unfold upQ
 simp only [a7]
 split <;> omega
variable {C : CC} (hC : al prog C)
include hC
theorem D2 (l : Lnk) (x : Nod) : C 582 (.agg (aF l)::[.ptr (aR x)]) (.bool (jX x.name l)) []:=by
 refine aj hC (nf:=N582) rfl rfl ?_
 simp [N582,aF,aR,jX]
 rw [x0x];simp
set_option maxHeartbeats 4000000 in
theorem lf (hS : SlC C) (b1 b2 : Bool) (ns : List Nod) (ls : List Lnk) (h1 : ns.length < 2 ^ 62) (h2 : ls.length < 2 ^ 62) (hcv : ∀ l ∈ ls,l.curve.length < 2 ^ 62) (b : Bool) (ss : List Sec) (h3 : ss.length < 2 ^ 62) (b'' : Bool) (xs : List Int) (h5 : xs.length < 2 ^ 62) (hat : ∀ x ∈ xs,0 <= x /\ x < 4294967296) (h : Int) :
  C 538 [.agg [slx b1 (ns.map aR),slx b2 (ls.map aF)],slx b (ss.map aY),slx b'' (xs.map fun n=>[.int .u32 n]),.int .i64 h] (.bool true) []:=by
 have k0:=oq hC
 have k1:=tB hC b1 b2 ns ls h1 h2
 have k2:=oM hC b ss h3
 have hol : (b8 xs).length=xs.length:=by simp [b8]
 have k3:=vI hC hS b1 b2 b false ns ls ss (b8 xs) (h,h) h2 h3 (by omega) hcv
 refine aj hC (nf:=N538) rfl rfl ?_
 simp [N538]
 refine aa k0 (.inl rfl) ?_
 simp
 refine aa k1 (.inl rfl) ?_
 by_cases c1 : tA ns ls=true
 ·simp [c1]
 simp [c1]
 refine aa k2 (.inl rfl) ?_
 by_cases c2 : tD ss=true
 ·simp [c2]
 simp [c2]
 by_cases c3 : (20 : Int) < xs.length
 ·simp [c3]
 simp [c3]
 refine az Nat (fun j=>[(1,slx b (ss.map aY)),(3,.int .i64 h),(4,.ptr [slx b1 (ns.map aR),slx b2 (ls.map aF)]),(9,.ref (.r 10144) 0 j),(10144,.blk 2 (lG xs j)),(41,slx b'' (xs.map fun n=>[.int .u32 n])),(42,.int .i64 xs.length),(43,.int .i64 j)]) (fun j=>j <= xs.length) (fun j=>xs.length - j) 0 (by simp) (by simp [DH]) ?_
 intro j hj
 simp
 refine ac (fun g=>?_) (fun g=>?_) <;> simp at g
 ·have hw : IntKind.wrap .i64 ((j : Int) + 1)=((j + 1 : Nat) : Int):=wrap_i64 (by omega) (by omega)
  have hx:=hat _ (x0h g)
  have hwx : IntKind.wrap .i64 xs[j]=xs[j]:=wrap_i64 rfl (by omega)
  have hsu:=u9 g
  have hln:=qN (Nat.le_of_lt g)
  simp [g,hwx,hln]
  refine ⟨by omega,j + 1,by omega,by omega,rfl,?_,hw⟩
  rw [x0p (by omega),hsu]
 ·have ej : j=xs.length:=by omega
  subst ej
  have hln:=qN (x0k xs.length)
  simp [g,hln,DI,w9]
  refine ⟨by omega,?_⟩
  have htk : List.take xs.length (List.map ((fun e=>List.map aL e) ∘ knD) (b8 xs))=(b8 xs).map knD:=by
   rw [x0p (by simp [b8])]
   apply x0i
   intro x _
   simp [knD,aL]
  refine uC (by rw [htk];simpa [knD] using k3) ?_
  unfold mQ
  by_cases h0 : cJ ns ls ss (b8 xs) (h,h)=0
  case neg =>
   rw [if_neg h0]
   simp [h0]
  rw [if_pos h0,h0]
  have hM:=j0 h0
  obtain ⟨T,ho⟩:=j1 hM h0
  simp only at ho
  have hM2:=hM
  simp only [gI,x0a,x0q,x0c,x0E] at hM2
  obtain ⟨⟨⟨⟨⟨hg,_⟩,_⟩,_⟩,hf0⟩,_⟩:=hM2
  obtain ⟨ht,hc,hs,hp⟩:=kw hg
  have hv : bO ns ls=true:=by simp only [cx,x0a] at ht;exact ht.1.1
  have htf : cw ns.length (av ns ls)=true:=by simp only [cx,x0a] at ht;exact ht.2
  have hgi:=fc hv
  obtain ⟨hq1,hq2⟩:=gH hs
  have hxn : xs.length=ns.length:=by omega
  have hxb : ∀ v (hv : v < xs.length),0 <= xs[v] /\ xs[v] <= 1099511627776:=fun v hv=>by
   have:=hat _ (x0h hv)
   omega
  have stp:=fun i hi=>D5 h0 (i:=i) hi
  obtain ⟨hnl,hll⟩:=cn hv
  generalize gb ns ls ss (b8 xs) (h,h)=sp at *
  simp
  have stp2 : ∀ i (hi : i < ns.length),C 181 [slx b2 (ls.map aF),.fn 582 [.ptr (aR ns[i])]] (.int .i64 (frI (fE (av ns ls) i))) []:=fun i hi=>by
   have:=ne hC (b:=b2) (xs:=ls) (g:=582) (cs:=[.ptr (aR ns[i])]) (jX ns[i].name) h2 (fun x _=>D2 hC x ns[i])
   rw [Aa hv hi] at this
   exact this
  have kA : ∀ i (hi : i < ns.length),C 464 [.agg [slx b1 (ns.map aR),slx b2 (ls.map aF)],.str ns[i].name] (.tup [.sl (cm (nmT ns (lb (av ns ls) i) ns.length)),.int .i64 0]) []:=fun i hi=>by
   have:=yr hC hS b1 b2 ns ls ns[i].name hcv hv
   have hx:=(jg hv hi).2
   unfold o9 uh ya at this
   rw [hx,if_pos (by omega),if_pos (by omega)] at this
   exact this
  have kH : ∀ i j (hj : j < ns.length),C 450 [.sl (cm (nmT ns (lb (av ns ls) i) ns.length)),.str ns[j].name] (.bool (lb (av ns ls) i j)) []:=fun i j hj=>by
   have:=qm hC false (nmT ns (lb (av ns ls) i) ns.length) ns[j].name (by have:=pI ns (lb (av ns ls) i) ns.length;omega)
   rw [z6 hv _ hj,dz] at this
   exact this
  have hgx : ∀ v (hv : v < ns.length),((b8 xs)[v]! : Sp).1=xs[v]:=fun v hv=>by rw [tH (by omega)]
  have hsplit:=fun i hi=>vz hgi htf (fun v : Nat=>((b8 xs)[v]! : Sp).1) (x:=i) hi
  have hqr:=fun i (hi : i < ns.length)=>A4 (g:=fun v : Nat=>((b8 xs)[v]! : Sp).1) (es:=av ns ls) hi (fun v hv=>by
   have e:=hgx v hv
   have:=hxb v (by omega)
   rw [<- e] at this
   exact this)
  generalize hes : av ns ls=es at *
  refine az Nat (fun i=>[(1,slx b (ss.map aY)),(3,.int .i64 h),(4,.ptr [slx b1 (ns.map aR),slx b2 (ls.map aF)]),(9,.ref (.r 10144) 0 xs.length),(10144,.blk 2 ((b8 xs).map knD)),(12,.sl ((lvT sp ns.length).map knD)),(72,slx b1 (ns.map aR)),(73,.int .i64 ns.length),(74,.int .i64 i)]) (fun i=>i <= ns.length) (fun i=>ns.length - i) 0 (by simp) (by simp) ?_
  intro i hi
  simp
  refine ac (fun g2=>?_) (fun g2=>?_) <;> simp at g2
  rotate_left
  ·simp [g2]
  have hw : IntKind.wrap .i64 ((i : Int) + 1)=((i + 1 : Nat) : Int):=wrap_i64 (by omega) (by omega)
  simp [g2,aR]
  refine aa (by simpa [aR] using stp2 i g2) (.inl rfl) ?_
  rcases stp i g2 with ⟨hf,hl⟩ | ⟨k,w,hf,X⟩
  ·rw [hf]
   have l1 : (sp i).1=if ns[i].invert < h then h else ns[i].invert:=by rw [hl];rfl
   have l2 : (sp i).2=if ns[i].invert < h then h else ns[i].invert:=by rw [hl];rfl
   simp [frI,cq,g2,fD,knD,l1,l2]
   exact ⟨i + 1,by omega,by omega,hw⟩
  ·rw [hf]
   obtain ⟨hkl,hwn,hP,hdst,hsrc,hlk,hkd,hnm,⟨hf0',hf1⟩,hlo,herr,hlev,hup⟩:=X
   rw [x0g ls k hkl] at hP hdst hsrc hlk hkd hnm herr hlev hup
   have hk0 : ¬ ((k : Int) < 0):=by omega
   have hix : i < xs.length:=by omega
   have hoi : (b8 xs)[i]? = some (xs[i],xs[i]):=by simp [b8,hix]
   simp [frI,hk0,g2,aR]
   have hrow : ∀ v (hv : v < xs.length),((b8 xs).map knD)[v]? = some [.int .i64 xs[v],.int .i64 xs[v]]:=fun v hv=>by simp [b8,hv,knD]
   refine aa (kA i g2) (.inr rfl) ?_
   simp [hix,hol,aB (hrow i hix)]
   have hq0 : upQ (fun v : Nat=>((b8 xs)[v]! : Sp).1) es i 0=xs[i]:=by
    unfold upQ
    simp only [a7]
    rw [hgx i g2]
    omega
   have hqn : upQ (fun v : Nat=>((b8 xs)[v]! : Sp).1) es i ns.length=upS ns.length es (fun v : Nat=>((b8 xs)[v]! : Sp).1) i:=(hsplit i g2).symm
   have hqs:=x6 (fun v : Nat=>((b8 xs)[v]! : Sp).1) es i
   have hqri:=hqr i g2
   generalize upQ (fun v : Nat=>((b8 xs)[v]! : Sp).1) es i=Q at *
   rw [hes,<- hqn] at hf0' hf1 herr hlev hup
   refine az Nat (fun j=>[(1,slx b (ss.map aY)),(3,.int .i64 h),(4,.ptr [slx b1 (ns.map aR),slx b2 (ls.map aF)]),(9,.ref (.r 10144) 0 xs.length),(10144,.blk 2 ((b8 xs).map knD)),(12,.sl ((lvT sp ns.length).map knD)),(14,.int .i64 i),(16,.int .i64 k),(18,.sl (cm (nmT ns (lb es i) ns.length))),(19,.int .i64 0),(20,.int .i64 (Q j)),(72,slx b1 (ns.map aR)),(73,.int .i64 ns.length),(74,.int .i64 i),(110,slx b1 (ns.map aR)),(111,.int .i64 ns.length),(112,.int .i64 j)]) (fun j=>j <= ns.length) (fun j=>ns.length - j) 0 (by simp) (by simp [hq0]) ?_
   intro j hj
   simp
   refine ac (fun g3=>?_) (fun g3=>?_) <;> simp at g3
   ·have hw3 : IntKind.wrap .i64 ((j : Int) + 1)=((j + 1 : Nat) : Int):=wrap_i64 (by omega) (by omega)
    have hjx : j < xs.length:=by omega
    have hq1:=hqri j hj
    have hq2:=hqri (j + 1) (by omega)
    have hqj:=hqs j
    rw [hgx j g3] at hqj
    simp [g3,aR]
    refine aa (kH i j g3) (.inl rfl) ?_
    by_cases hu : lb es i j=true
    ·rw [if_pos hu] at hqj
     have hwq : IntKind.wrap .i64 (Q j + xs[j])=Q (j + 1):=by
      rw [hqj]
      exact wrap_i64 rfl (by rw [<- hqj];omega)
     simp [hu,hjx,hol,aB (hrow j hjx),hwq,hw3]
     exact ⟨j + 1,by omega,by omega,rfl,by omega⟩
    ·rw [if_neg hu] at hqj
     simp [hu,hw3]
     exact ⟨j + 1,by omega,by omega,hqj.symm,by omega⟩
   ·have ej : j=ns.length:=by omega
    subst ej
    simp [g3,hkl,aF]
    have kN:=Cj hC b1 b2 ns ls ls[k].dst hcv hv
    rw [hdst,if_neg (by omega),if_neg (by omega)] at kN
    obtain ⟨m,hm1,hm2,hm3⟩:=hP.sec
    change a8 (cl ls[k].sect) ss=_ at hm1
    have kF:=Ah hC b ss ls[k].sect h3
    rw [hm1] at kF
    have hm0 : ¬ ((m : Int) < 0):=by omega
    have kU:=G7 hC ls[k] (cI ss ls[k]) (Q ns.length) (sp w).1 (hcv _ (x0h hkl))
    rw [x5 hlk (hP.valid hc) hkd hnm hP.le ⟨hf0',hf1⟩ hlo,herr] at kU
    have hl1 : (sp i).1=(bz ls[k] (cI ss ls[k]) (Q ns.length) (sp w).1).1:=by rw [hlev]
    have hl2 : (sp i).2=(bz ls[k] (cI ss ls[k]) (Q ns.length) (sp w).1).1:=by rw [hlev]
    rw [hm3] at kU
    rw [hm3] at hl1 hl2 hup
    generalize (bz ls[k] ss[m] (Q ns.length) (sp w).1).1=R at *
    have hnu : ¬ R < (sp w).1:=by omega
    refine aa kN (.inl rfl) ?_
    simp
    refine ⟨ar (by decide +kernel),?_⟩
    simp [hkl,aF]
    refine aa kF (.inl rfl) ?_
    simp [hm0,hkl,hm2,aF,aY,hwn,cq,fD,knD]
    refine aa (by simpa [aF,aY] using kU) (.inl rfl) ?_
    simp [g2,cq,fD,knD,hl1,hl2,hwn,hnu]
    exact ⟨ar (by decide +kernel),i + 1,by omega,by omega,hw⟩
end Go.Gv
