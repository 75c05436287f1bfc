/-
  Texts of the proof: Q30, Q25, Q31, Q32, Q33, Q34, Q35, BT4, BT5, B10a, BT6.
-/
import Derived.Test.YtabkicbiibfnbaaGreatX8
import Derived.Test.YtabkicbiibfnbaaGreatX7
set_option linter.all false
namespace Go.Gv
variable {C : CC} (hC : aw prog C)
include hC
theorem vP (b1 b2 : Bool) (ns : List Nod) (ls : List Lnk) (hv : bP ns ls=true) : C 429 [.agg [slx b1 (ns.map aQ),slx b2 (ls.map ay)]] .any [.own 2 ((av ns ls).map edK)]:=by
 obtain ⟨hl1,hl2⟩:=ci hv
 refine kq hC (nf:=N429) rfl rfl ?_
 simp [N429]
 refine au Nat (fun j=>[(1,.ptr [slx b1 (ns.map aQ),slx b2 (ls.map ay)]),(3,.ref (.r 10048) 0 j),(10048,.blk 2 (edT (av ns ls) j)),(4,.int .i64 j)]) (fun j=>j <= ls.length) (fun j=>ls.length - j) 0 (by simp) (by simp) ?_
 rintro j hj
 simp
 refine ac (fun h=>?_) (fun h=>?_) <;> simp [h] <;> simp at h
 ·have hw : IntKind.wrap .i64 ((j : Int) + 1)=((j + 1 : Nat) : Int):=wrap_i64 (by omega) (by omega)
  obtain ⟨_,_,g1,g2⟩:=eM hv h
  have k1:=fI hC b1 b2 ns ls ls[j].src (by omega)
  have k2:=fI hC b1 b2 ns ls ls[j].dst (by omega)
  have hjl : j < (av ns ls).length:=by rw [aH];exact h
  have el:=jB (es:=av ns ls) (j:=j) (by omega)
  simp [h,ay,el]
  refine aa k1 (.inl rfl) ?_
  simp [h,ay]
  refine aa k2 (.inl rfl) ?_
  simp [el]
  refine ⟨by omega,am (by decide +kernel),j + 1,by omega,by omega,rfl,?_,hw⟩
  have e2 : (edT (av ns ls) j).take j=edT (av ns ls) j:=x0q (by omega)
  rw [e2,ni hjl]
  congr 2
  simp only [av,x1K,edK,knD]
  rw [x1Y g1,x1Y g2]
 ·have ej : j=ls.length:=by omega
  subst ej
  have e0:=pP (av ns ls)
  have el:=jB (es:=av ns ls) (j:=ls.length) (by rw [aH];exact x0p _)
  rw [aH] at e0
  simp [el,<- e0]
  exact ⟨fun r x y _ e c hc=>by subst e;simp [edK,knD] at hc;rcases hc with rfl | rfl <;> rfl,(aH ns ls).symm⟩
end Go.Gv

namespace Go.Gv
variable {C : CC} (hC : aw prog C)
include hC
theorem AM (b b' : Bool) (xs ys : List (List UInt8)) (hx : xs.length < 2 ^ 62) (hy : ys.length < 2 ^ 62) : C 435 [slx b (eX xs),slx b' (eX ys)] (.bool (decide (xs=ys))) []:=by
 obtain ⟨r,hr⟩ : ∃ r,r=decide (xs=ys):=⟨_,rfl⟩
 rw [<- hr]
 refine ai hC (nf:=N435) rfl rfl ?_
 simp [N435,eX]
 refine ac (fun h=>?_) (fun h=>?_) <;> simp at h <;> simp [h]
 ·rw [hr,decide_eq_false]
  intro e
  exact h (by rw [e])
 have h' : xs.length=ys.length:=by omega
 refine au Nat (fun i=>[(0,slx b (eX xs)),(1,slx b' (eX ys)),(12,.int .i64 xs.length),(13,.int .i64 i)])
  (fun i=>i <= xs.length /\ ∀ (k : Nat) (h1 : k < xs.length) (h2 : k < ys.length),k < i -> xs[k]=ys[k]) (fun i=>xs.length - i) 0 (by simp) (by simp [h',eX]) ?_
 rintro i ⟨hi,hok⟩
 simp [eX]
 refine ac (fun h1=>?_) (fun h1=>?_) <;> simp at h1 <;> simp [h1]
 ·have hw : IntKind.wrap .i64 ((i : Int) + 1)=((i + 1 : Nat) : Int):=wrap_i64 (by omega) (by omega)
  have hy1 : i < ys.length:=by omega
  simp [h1,hy1]
  refine ⟨am (by decide +kernel),?_⟩
  by_cases h2 : xs[i]=ys[i]
  ·simp [h2,hw]
   refine ⟨i + 1,⟨by omega,fun k hk hk' hki=>?_⟩,by omega,by omega⟩
   rcases x0i.1 hki with h3 | rfl
   ·exact hok k hk hk' h3
   ·exact h2
  ·simp [h2]
   rw [hr,decide_eq_false]
   intro e
   subst e
   exact h2 rfl
 ·rw [hr]
  have : xs=ys:=by
   apply x1L h'
   intro k a1 a2
   exact hok k a1 a2 (by omega)
  simp [this]
end Go.Gv

namespace Go.Gv
def trn (es : List Edg) : List Edg:=es.map fun e=>(e.2,e.1)
theorem Ce (es : List Edg) : (trn es).length=es.length:=by simp [trn]
theorem E6 {n : Nat} {es : List Edg} (h : inG n es) : inG n (trn es):=fun e he=>by
 obtain ⟨x,hx,rfl⟩:=x0u.1 he
 exact ⟨(h x hx).2,(h x hx).1⟩
def trA (es : List Edg) (j : Nat) : List (List D):=(List.range es.length).map fun k=>edK (if k < j then (es[k]!.2,es[k]!.1) else es[k]!)
theorem jM (es : List Edg) (j : Nat) : (trA es j).length=es.length:=by simp [trA]
theorem L1 (es : List Edg) : trA es 0=es.map edK:=by
 apply x1L
 ·simp [trA]
 ·intro i h1 h2
  have h3 : i < es.length:=by simpa using h2
  simp [trA,h3]
theorem Cc (es : List Edg) : trA es es.length=(trn es).map edK:=by
 apply x1L
 ·simp [trA,trn]
 ·intro i h1 h2
  have h3 : i < es.length:=by simpa [trn] using h2
  simp [trA,trn,h3]
theorem qq {es : List Edg} {j : Nat} (h : j < es.length) : (trA es j)[j]? = some [.int .i64 es[j].1,.int .i64 es[j].2]:=by
 simp [trA,h,edK,knD]
theorem Cd {es : List Edg} {j : Nat} (h : j < es.length) : (trA es j).set j [.int .i64 es[j].2,.int .i64 es[j].1]=trA es (j + 1):=by
 unfold trA
 rw [iH]
 apply x0j
 intro k hk
 by_cases e : k=j
 ·subst e
  simp [h,edK,knD]
 ·have : (k < j)=(k < j + 1):=by apply propext;omega
  simp only [if_neg e,this]
theorem L2 (es : List Edg) (j : Nat) : (trA es j).map (fun e=>e.map aS)=trA es j:=by
 unfold trA
 rw [x1U]
 apply x0j
 intro v _
 simp [edK,knD,aS]
variable {C : CC} (hC : aw prog C)
include hC
end Go.Gv

namespace Go.Gv
def mr (n : Nat) (out : Nat -> Bool) : Nat:=wtS (fun v=>if out v=true then 0 else 1) n
theorem th {n : Nat} {out : Nat -> Bool} {i : Nat} (hi : i < n) (ho : out i=false) : mr n out=mr n (fun u=>if u=i then true else out u) + 1:=by
 unfold mr
 rw [uT (f:=fun v=>if out v=true then 0 else 1) (g:=fun v=>if (if v=i then true else out v)=true then 0 else 1) hi (fun k hk=>by simp only [if_neg hk]) (by simp)]
 simp [ho]
variable {C : CC} (hC : aw prog C)
include hC
set_option maxHeartbeats 4000000 in
theorem vS {b b' : Bool} {n : Nat} {es : List Edg} (hn : n <= 300) (he : es.length <= 1000) (hg : inG n es) (fr : List Nat) (hf : ∀ s ∈ fr,s < n) (hl : fr.length <= 1000) : C 513 [.int .i64 n,slx b (es.map edK),slx b' (a7 fr)] .any [.own 1 (cc n (rB es fr))]:=by
 refine kq hC (nf:=N513) rfl rfl ?_
 simp [N513]
 refine ⟨by omega,?_⟩
 refine au Nat (fun j=>[(1,slx b (es.map edK)),(2,slx b' (a7 fr)),(7,.ref (.r 10112) 0 n),(10112,.blk 1 (cc n fun v=>decide (v ∈ fr.take j))),(8,.int .i64 j)]) (fun j=>j <= fr.length) (fun j=>fr.length - j) 0 (by simp) (by simp [cc,jG]) ?_
 rintro j hj
 simp [aZ]
 refine ac (fun h=>?_) (fun h=>?_) <;> simp [h] <;> simp at h
 ·have hw : IntKind.wrap .i64 ((j : Int) + 1)=((j + 1 : Nat) : Int):=wrap_i64 (by omega) (by omega)
  have hfj:=hf _ (x0h h)
  have hgj : (a7 fr)[j]? = some [.int .i64 (fr[j] : Int)]:=by simp [a7,h]
  have hb1 : 1 <= ((cc n fun v=>decide (v ∈ fr.take j))[fr[j]]'(by rw [bX];exact hfj)).length:=by simp [cc]
  have hb2 : ((cc n fun v=>decide (v ∈ fr.take j))[fr[j]]'(by rw [bX];exact hfj)).tail=[]:=by simp [cc]
  have hset:=lC (n:=n) (v:=fr[j]) (fun v=>decide (v ∈ fr.take j)) true
  have hnx : (cc n fun u=>if u=fr[j] then true else decide (u ∈ fr.take j))=cc n fun v=>decide (v ∈ fr.take (j + 1)):=mf fun v _=>by
   have e0 : decide (v ∈ fr.take (j + 1))=decide (v ∈ fr.take j \/ v=fr[j]):=decide_eq_decide.2 (tf h)
   rw [e0]
   by_cases e : v=fr[j]
   ·rw [if_pos e];exact (decide_eq_true (.inr e)).symm
   ·rw [if_neg e];exact decide_eq_decide.2 ⟨.inl,fun h=>h.resolve_right e⟩
  simp [bU hgj,hgj,h,aZ,hfj,bX,hb1,hb2,hw]
  exact ⟨j + 1,by omega,by omega,by rw [<- hnx];exact hset,by omega⟩
 have ej : j=fr.length:=by omega
 subst ej
 clear h hj
 rw [x0q (x0p fr.length)]
 refine au ((Nat -> Bool) × Nat) (fun s=>[(1,slx b (es.map edK)),(7,.ref (.r 10112) 0 n),(10112,.blk 1 (cc n s.1)),(9,.bool (decide (s.2=1)))])
  (fun s=>(∀ v,s.1 v=true -> RR es fr v) /\ (∀ v ∈ fr,s.1 v=true) /\ (s.2 ≠ 1 -> ∀ u w,(u,w) ∈ es -> s.1 u=true -> s.1 w=true))
  (fun s=>2 * mr n s.1 + if s.2=1 then 1 else 0) ((fun v=>decide (v ∈ fr)),1) ⟨fun v hv=>⟨v,by simpa using hv,.refl v⟩,fun v hv=>by simpa using hv,fun h=>absurd rfl h⟩ (by simp) ?_
 rintro ⟨out,more⟩ ⟨i1,i2,i3⟩
 simp only at i1 i2 i3
 simp
 by_cases hmo : more=1
 rotate_left
 ·have hcl:=vO i1 i2 (i3 hmo)
  simp [hmo]
  exact ⟨fun r hr c hc=>by
   obtain ⟨v,_,rfl⟩:=x0u.1 hr
   simp at hc;subst hc;rfl,by rw [bX],mf fun v _=>hcl v⟩
 ·simp [hmo]
  refine au ((Nat -> Bool) × Nat × Nat) (fun s=>[(1,slx b (es.map edK)),(7,.ref (.r 10112) 0 n),(10112,.blk 1 (cc n s.1)),(9,.bool (decide (s.2.1=1))),(10,.int .i64 s.2.2)])
   (fun s=>s.2.2 <= es.length /\ (∀ v,s.1 v=true -> RR es fr v) /\ (∀ v ∈ fr,s.1 v=true) /\ (s.2.1 ≠ 1 -> mr n s.1=mr n out /\ ∀ (j : Nat) (h : j < es.length),j < s.2.2 -> s.1 es[j].1=true -> s.1 es[j].2=true) /\ (s.2.1=1 -> mr n s.1 < mr n out))
   (fun s=>es.length - s.2.2) (out,0,0) ⟨Nat.zero_le _,i1,i2,fun _=>⟨rfl,fun j h h2=>absurd h2 (Nat.not_lt_zero _)⟩,fun h=>by simp at h⟩ (by simp) ?_
  clear i1 i2 i3
  rintro ⟨o2,m,k⟩ ⟨j0,j1,j2,j3,j4⟩
  simp only at j0 j1 j2 j3 j4
  simp
  refine ac (fun h=>?_) (fun h=>?_) <;> simp [h] <;> simp at h
  ·have hw : IntKind.wrap .i64 ((k : Int) + 1)=((k + 1 : Nat) : Int):=wrap_i64 (by omega) (by omega)
   obtain ⟨g1,g2⟩:=hg _ (x0h h)
   simp [h,edK,knD,g1,g2,bX,aE (fM o2 g1),fM o2 g1]
   have e1 : (es[k].1,es[k].2) ∈ es:=x0h h
   cases c1 : o2 es[k].1
   ·simp [hw]
    refine ⟨o2,m,k + 1,⟨by omega,j1,j2,fun hm=>⟨(j3 hm).1,fun j hj hjk h2=>?_⟩,j4⟩,by omega,rfl,Iff.rfl,by omega⟩
    rcases x0i.1 hjk with h3 | rfl
    ·exact (j3 hm).2 j hj h3 h2
    ·rw [c1] at h2;cases h2
   ·simp [h,edK,knD,g1,g2,bX,aE (fM o2 g2),fM o2 g2]
    cases c2 : o2 es[k].2
    ·have hb1 : 1 <= ((cc n o2)[es[k].2]'(by rw [bX];exact g2)).length:=by simp [cc]
     have hb2 : ((cc n o2)[es[k].2]'(by rw [bX];exact g2)).tail=[]:=by simp [cc]
     have hset:=lC (n:=n) (v:=es[k].2) o2 true
     have hst:=th g2 c2
     simp [h,edK,knD,g2,bX,hb1,hb2,hw]
     refine ⟨fun u=>if u=es[k].2 then true else o2 u,1,k + 1,⟨by omega,fun v hv=>?_,fun v hv=>?_,fun hm=>absurd rfl hm,fun _=>?_⟩,by omega,hset,rfl,by omega⟩
     ·by_cases e : v=es[k].2
      ·rw [e]
       obtain ⟨s0,hs0,hp⟩:=j1 _ c1
       exact ⟨s0,hs0,hp.snoc e1⟩
      ·simp only [if_neg e] at hv;exact j1 v hv
     ·simp only;split
      ·rfl
      ·exact j2 v hv
     ·by_cases e : m=1
      ·have:=j4 e;omega
      ·have:=(j3 e).1;omega
    ·simp [hw]
     refine ⟨o2,m,k + 1,⟨by omega,j1,j2,fun hm=>⟨(j3 hm).1,fun j hj hjk h2=>?_⟩,j4⟩,by omega,rfl,Iff.rfl,by omega⟩
     rcases x0i.1 hjk with h3 | rfl
     ·exact (j3 hm).2 j hj h3 h2
     ·exact c2
  ·have ek : k=es.length:=by omega
   subst ek
   refine ⟨o2,m,⟨j1,j2,fun hm u w e hu=>?_⟩,?_,rfl,Iff.rfl⟩
   ·obtain ⟨j,hj,ej⟩:=x0G e
    have:=(j3 hm).2 j hj hj
    rw [ej] at this
    exact this hu
   ·by_cases e : m=1
    ·have:=j4 e;simp only [if_pos e,if_pos hmo];omega
    ·have:=(j3 e).1;simp only [if_neg e,if_pos hmo];omega
end Go.Gv

namespace Go.Gv
theorem ll {es : List Edg} {j : Nat} (h : j < es.length) : (trA es (j + 1))[j]? = some [.int .i64 es[j].2,.int .i64 es[j].1]:=by
 simp [trA,h,edK,knD]
theorem DY (l : List Nat) : List.map (fun e=>List.map aS e) (a7 l)=a7 l:=by
 unfold a7
 rw [x1U]
 apply x0j
 intro v _
 simp [aS]
noncomputable def wr (es : List Edg) (x : Nat) : Nat -> Bool:=rB (trn es) (tgs (trn es) x)
variable {C : CC} (hC : aw prog C)
include hC
set_option maxHeartbeats 2000000 in
theorem yx (b1 b2 : Bool) (ns : List Nod) (ls : List Lnk) (x : Nat) (hv : bP ns ls=true) : C 502 [.agg [slx b1 (ns.map aQ),slx b2 (ls.map ay)],.int .i64 x,.bool true] .any [.own 1 (cc ns.length (wr (av ns ls) x))]:=by
 have k2:=vP hC b1 b2 ns ls hv
 obtain ⟨l1,l2⟩:=ci hv
 have hg:=E6 (fd hv)
 have hel:=aH ns ls
 have hgl:=mZ (trn (av ns ls)) x
 have htl:=Ce (av ns ls)
 have k3:=vS hC (b:=false) (b':=false) l1 (es:=trn (av ns ls)) (by omega) hg (tgs (trn (av ns ls)) x) (fun s hs=>(hg _ (mS.1 hs)).2) (by omega)
 simp only [ii] at k3
 unfold wr
 generalize av ns ls=es at *
 refine kq hC (nf:=N502) rfl rfl ?_
 simp [N502]
 refine gP k2 ?_
 simp
 refine au Nat (fun j=>[(1,.int .i64 x),(2,.bool true),(3,.ptr [slx b1 (ns.map aQ),slx b2 (ls.map ay)]),(7,.ref (.r 10112) 0 es.length),(10112,.blk 2 (trA es j)),(8,.ref (.r 10128) 0 (tgs ((trn es).take j) x).length),(10128,.blk 1 (a7 (tgs ((trn es).take j) x))),(9,.int .i64 j)]) (fun j=>j <= es.length) (fun j=>es.length - j) 0 (by simp) (by simp [L1,tgs,a7]) ?_
 rintro j hj
 simp
 refine ac (fun h=>?_) (fun h=>?_) <;> simp [h] <;> simp at h
 ·have hw : IntKind.wrap .i64 ((j : Int) + 1)=((j + 1 : Nat) : Int):=wrap_i64 (by omega) (by omega)
  have hs:=Cd h
  have hgj : (trA es j)[j]'(by rw [jM];exact h)=[.int .i64 es[j].1,.int .i64 es[j].2]:=by
   have:=qq h
   rw [x0e (by rw [jM];exact h)] at this
   exact Option.some.inj this
  have hjt : j < (trn es).length:=by omega
  have ht:=si hjt x
  have e0 : (trn es)[j]=(es[j].2,es[j].1):=by simp [trn]
  rw [e0] at ht
  have hl1:=mZ ((trn es).take j) x
  have hl2 : ((trn es).take j).length=j:=by simp;omega
  generalize tgs ((trn es).take j) x=T at *
  have hT : (a7 T).take T.length=a7 T:=x0q (by rw [aZ];exact x0p _)
  simp [h,jM,aE (qq h),qq h,hgj,hs]
  refine ⟨am (by decide +kernel),?_⟩
  simp [aE (ll h),ll h]
  by_cases c : es[j].2=x
  ·rw [if_pos c] at ht
   simp [c,h,jM,aE (ll h),ll h]
   refine ⟨by rw [aZ];exact x0p _,by omega,?_⟩
   simp [hw]
   refine ⟨j + 1,by omega,by omega,?_⟩
   rw [ht,hT]
   simp [a7]
  ·rw [if_neg c,x02] at ht
   have c' : ¬ (es[j].2 : Int)=x:=by omega
   simp [c,c',hw]
   exact ⟨j + 1,by omega,by omega,by rw [ht];simp⟩
 ·have ej : j=es.length:=by omega
  subst ej
  have e1 : (trn es).take es.length=trn es:=by rw [<- htl,x1d]
  have hV : List.take es.length (List.map (fun e=>List.map aS e) (trA es es.length))=List.map edK (trn es):=by
   rw [L2,x0q (by rw [jM];exact x0p _),Cc]
  have hV2 : List.take (tgs (trn es) x).length (List.map (fun e=>List.map aS e) (a7 (tgs (trn es) x)))=a7 (tgs (trn es) x):=by
   rw [DY,x0q (by rw [aZ];exact x0p _)]
  simp [jM,aZ,e1,hV,hV2]
  refine gP k3 ?_
  simp [bX]
  exact fun r hr c hc=>by
   obtain ⟨v,_,rfl⟩:=x0u.1 hr
   simp at hc;subst hc;rfl
noncomputable def upX (ns : List Nod) (ls : List Lnk) (x v : Nat) : Bool:=if v=x then true else wr (av ns ls) x v
theorem xf {ns : List Nod} {ls : List Lnk} (hv : bP ns ls=true) {k : Nat} (hk : k < ls.length) : bx (bI ls[k].src) ns=(((av ns ls)[k]'(by rw [aH];exact hk)).1 : Nat):=by
 obtain ⟨_,_,g1,g2⟩:=eM hv hk
 simp only [av,x1K]
 omega
set_option maxHeartbeats 2000000 in
theorem yw (b1 b2 : Bool) (ns : List Nod) (ls : List Lnk) (k : Nat) (hv : bP ns ls=true) (hk : k < ls.length) : C 468 [.agg [slx b1 (ns.map aQ),slx b2 (ls.map ay)],.int .i64 k] (.sl (cc ns.length (upX ns ls ((av ns ls)[k]'(by rw [aH];exact hk)).1))) []:=by
 obtain ⟨l1,l2⟩:=ci hv
 have k1:=fI hC b1 b2 ns ls ls[k].src (by omega)
 have hx:=(fd hv _ (x0h (show k < (av ns ls).length by rw [aH];exact hk))).1
 rw [xf hC hv hk] at k1
 have k2:=yx hC b1 b2 ns ls ((av ns ls)[k]'(by rw [aH];exact hk)).1 hv
 unfold upX
 generalize ((av ns ls)[k]'(by rw [aH];exact hk)).1=x at *
 generalize wr (av ns ls) x=f at *
 have hb1 : 1 <= ((cc ns.length f)[x]'(by rw [bX];exact hx)).length:=by simp [cc]
 have hb2 : ((cc ns.length f)[x]'(by rw [bX];exact hx)).tail=[]:=by simp [cc]
 have hset:=lC (n:=ns.length) (v:=x) f true
 refine ai hC (nf:=N468) rfl rfl ?_
 simp [N468,hk,ay]
 refine aa k1 (.inl rfl) ?_
 simp
 refine ⟨am (by decide +kernel),?_⟩
 refine gP k2 ?_
 simp [bX,hx,hb1,hb2,hset]
 rw [An,x0q (by rw [bX];exact x0p _)]
end Go.Gv

namespace Go.Gv
theorem Pth.wat {es : List Edg} (hnd : (es.map (·.1)).Nodup) {v x : Nat} (h : Pth es v x) : ∃ m,wat es m v=some x:=by
 have cons : ∀ {u v : Nat},(u,v) ∈ es -> ∀ m,Go.Gv.wat es (m + 1) u=Go.Gv.wat es m v:=fun {u v} e m=>by
  induction m with
  | zero=>show (some u).bind (stp es)=some v;exact zj hnd e
  | succ m ih =>
   show (Go.Gv.wat es (m + 1) u).bind (stp es)=(Go.Gv.wat es m v).bind (stp es)
   rw [ih]
 induction h with
 | refl v=>exact ⟨0,rfl⟩
 | step e _ ih =>
  obtain ⟨m,hm⟩:=ih
  exact ⟨m + 1,by rw [cons e];exact hm⟩
theorem uQ {es : List Edg} {v : Nat} : ∀ {m x : Nat},wat es m v=some x -> Pth es v x
 | 0,x,h=>by simp [wat] at h;subst h;exact .refl v
 | m + 1,x,h=>by
  unfold wat at h
  cases e : wat es m v with
  | none=>rw [e] at h;cases h
  | some y =>
   rw [e] at h
   exact (uQ e).snoc (oo h)
theorem Pth.turn {es : List Edg} {v x : Nat} (h : Pth es v x) : Pth (trn es) x v:=by
 induction h with
 | refl v=>exact .refl v
 | step e _ ih=>exact ih.snoc (x0u.2 ⟨_,e,rfl⟩)
theorem Pth.turn2 {es : List Edg} {v x : Nat} (h : Pth (trn es) x v) : Pth es v x:=by
 have:=h.turn
 have e : trn (trn es)=es:=by
  unfold trn
  rw [x1U]
  exact List.map_id es
 rwa [e] at this
theorem Fa {n : Nat} {es : List Edg} (hg : inG n es) (ht : cN n es=true) {x v : Nat} (hv : v < n) : (if v=x then true else wr es x v)=upB n es v x:=by
 simp only [cN,x0a,x0b] at ht
 obtain ⟨hnd,hlen⟩:=ht
 have key : upB n es v x=true ↔ Pth es v x:=by
  unfold upB
  rw [x0E]
  constructor
  ·rintro ⟨m,_,e⟩
   exact uQ (by simpa using e)
  ·intro h
   obtain ⟨m,hm⟩:=h.wat hnd
   refine ⟨m,?_,by simp [hm]⟩
   rw [x1C]
   have:=gc hg hlen hm
   by_cases e : m=0
   ·omega
   ·have:=this.2 e;omega
 rw [x0x,key]
 by_cases e : v=x
 ·rw [if_pos e,e]
  exact ⟨fun _=>.refl x,fun _=>rfl⟩
 ·rw [if_neg e]
  unfold wr
  rw [ye]
  constructor
  ·rintro ⟨s,hs,hp⟩
   exact (Pth.step (mS.1 hs) hp).turn2
  ·intro h
   have h2:=h.turn
   cases h2 with
   | refl=>exact absurd rfl e
   | step e2 h3=>exact ⟨_,mS.2 e2,h3⟩
def fB (q : List Sp) (f : Nat -> Bool) (k : Nat) : Sp:=(bn (fun v=>if f v=true then q[v]!.1 else 0) k,bn (fun v=>if f v=true then q[v]!.2 else 0) k)
theorem l9 {q : List Sp} {f : Nat -> Bool} (hq : ∀ s ∈ q,0 <= s.1 /\ s.1 <= s.2 /\ s.2 <= 1099511627776) : ∀ {k : Nat},k <= q.length -> 0 <= (fB q f k).1 /\ (fB q f k).1 <= k * 1099511627776 /\ 0 <= (fB q f k).2 /\ (fB q f k).2 <= k * 1099511627776
 | 0,_=>by simp [fB,bn]
 | k + 1,h=>by
  have ih:=l9 hq (k:=k) (f:=f) (by omega)
  have:=hq _ (x0h (show k < q.length by omega))
  simp only [fB,bn] at ih ⊢
  rw [oB (show k < q.length by omega)]
  by_cases c : f k=true
  ·rw [if_pos c,if_pos c];push_cast;omega
  ·rw [if_neg c,if_neg c];push_cast;omega
variable {C : CC} (hC : aw prog C)
include hC
set_option maxHeartbeats 4000000 in
theorem EO (b1 b2 b : Bool) (ns : List Nod) (ls : List Lnk) (q : List Sp) (ht : cx ns ls=true) (hq : q.length=ns.length) (hqr : ∀ s ∈ q,0 <= s.1 /\ s.1 <= s.2 /\ s.2 <= 1099511627776) : C 466 [.agg [slx b1 (ns.map aQ),slx b2 (ls.map ay)],slx b (q.map knD)] (.tup [if iV (aD ns.length (av ns ls) q) then .nils else .sl ((aD ns.length (av ns ls) q).map knD),.bool (!iV (aD ns.length (av ns ls) q))]) []:=by
 have ht2:=ht
 simp only [cx,x0a] at ht2
 obtain ⟨⟨hv,_⟩,htf⟩:=ht2
 obtain ⟨l1,l2⟩:=ci hv
 have hg:=fd hv
 have hel:=aH ns ls
 have hl1 : ∀ v,v < ns.length -> 0 <= q[v]!.1 /\ q[v]!.1 <= q[v]!.2 /\ q[v]!.2 <= 1099511627776:=fun v hv=>by
  rw [oB (by omega)]
  exact hqr _ (x0h _)
 have k1:=fun k (hk : k < ls.length)=>yw hC b1 b2 ns ls k hv hk
 have hfl : ∀ (k : Nat) (hk : k < ls.length),(aD ns.length (av ns ls) q)[k]? = some (fB q (upX ns ls ((av ns ls)[k]'(by rw [aH];exact hk)).1) ns.length):=fun k hk=>by
  have hke : k < (av ns ls).length:=by rw [aH];exact hk
  have f1:=tR l1 hg htf hl1 hke
  have hkl : k < (aD ns.length (av ns ls) q).length:=by simp [aD,hel,hk]
  rw [oB hkl] at f1
  rw [x0e hkl,f1]
  congr 1
  unfold fB upS
  have e : ∀ v,v < ns.length -> upX ns ls ((av ns ls)[k]'(by rw [aH];exact hk)).1 v=upB ns.length (av ns ls) v (av ns ls)[k].1:=fun v hv=>Fa hg htf hv
  rw [cv (f:=fun v=>if upB ns.length (av ns ls) v (av ns ls)[k].1=true then q[v]!.1 else 0) (g:=fun v=>if upX ns ls ((av ns ls)[k]'(by rw [aH];exact hk)).1 v=true then q[v]!.1 else 0) (fun v hv=>by rw [e v hv])]
  rw [cv (f:=fun v=>if upB ns.length (av ns ls) v (av ns ls)[k].1=true then q[v]!.2 else 0) (g:=fun v=>if upX ns ls ((av ns ls)[k]'(by rw [aH];exact hk)).1 v=true then q[v]!.2 else 0) (fun v hv=>by rw [e v hv])]
 have hfll : (aD ns.length (av ns ls) q).length=ls.length:=by simp [aD,hel]
 generalize aD ns.length (av ns ls) q=fl at *
 refine ai hC (nf:=N466) rfl rfl ?_
 simp [N466]
 refine au Nat (fun i=>[(1,slx b (q.map knD)),(2,.ptr [slx b1 (ns.map aQ),slx b2 (ls.map ay)]),(6,.ref (.r 10096) 0 i),(10096,.blk 2 (spT fl i)),(7,.int .i64 i)]) (fun i=>i <= ls.length /\ ∀ (j : Nat) (h : j < fl.length),j < i -> fl[j].2 <= 1099511627776) (fun i=>ls.length - i) 0 (by simp) (by simp [spT]) ?_
 rintro i ⟨hi,hj⟩
 simp
 refine ac (fun h=>?_) (fun h=>?_) <;> simp [h] <;> simp at h
 ·have hw : IntKind.wrap .i64 ((i : Int) + 1)=((i + 1 : Nat) : Int):=wrap_i64 (by omega) (by omega)
  have hif : i < fl.length:=by omega
  have k2:=k1 i h
  have hfi:=hfl i h
  rw [x0e hif] at hfi
  have hfi:=Option.some.inj hfi
  refine aa k2 (.inr rfl) ?_
  generalize upX ns ls ((av ns ls)[i]'(by rw [aH];exact h)).1=f at *
  simp
  refine au Nat (fun k=>[(1,slx b (q.map knD)),(2,.ptr [slx b1 (ns.map aQ),slx b2 (ls.map ay)]),(6,.ref (.r 10096) 0 i),(10096,.blk 2 (spT fl i)),(7,.int .i64 i),(8,.sl (cc ns.length f)),(9,.adr (.r 10144) 0 0),(10144,.blk 2 [knD (fB q f k)]),(10,.int .i64 k)]) (fun k=>k <= ns.length) (fun k=>ns.length - k) 0 (by simp) (by simp [fB,bn,knD]) ?_
  rintro k hk
  simp
  refine ac (fun g=>?_) (fun g=>?_) <;> simp [g] <;> simp at g
  ·have hwk : IntKind.wrap .i64 ((k : Int) + 1)=((k + 1 : Nat) : Int):=wrap_i64 (by omega) (by omega)
   have hkq : k < q.length:=by omega
   have r1:=l9 hqr (f:=f) (k:=k) (by omega)
   have r2:=l9 hqr (f:=f) (k:=k + 1) (by omega)
   have e1 : fB q f (k + 1)=if f k=true then ((fB q f k).1 + q[k].1,(fB q f k).2 + q[k].2) else fB q f k:=by
    simp only [fB,bn]
    rw [oB hkq]
    by_cases c : f k=true
    ·rw [if_pos c,if_pos c,if_pos c]
    ·rw [if_neg c,if_neg c,if_neg c];congr 1 <;> omega
   generalize fB q f k=s at *
   simp [g,bX,bU (fM f g),fM f g]
   by_cases c : f k=true
   ·rw [if_pos c] at e1
    rw [e1] at r2
    simp only at r2
    have w1 : IntKind.wrap .i64 (s.1 + q[k].1)=s.1 + q[k].1:=wrap_i64 rfl (by omega)
    have w2 : IntKind.wrap .i64 (s.2 + q[k].2)=s.2 + q[k].2:=wrap_i64 rfl (by omega)
    simp [c,hkq,knD,w1,w2]
    refine ⟨am (by decide +kernel),k + 1,by omega,by omega,?_,hwk⟩
    rw [e1]
    exact ⟨rfl,rfl⟩
   ·rw [if_neg c] at e1
    have c' : f k=false:=by simpa using c
    simp [c',hwk]
    exact ⟨k + 1,by omega,by omega,by rw [e1],by omega⟩
  ·have ek : k=ns.length:=by omega
   subst ek
   rw [<- hfi]
   have hsl : (spT fl i).length=i:=BX (by omega)
   simp [knD]
   by_cases c : 1099511627776 < fl[i].2
   ·have hb : iV fl=true:=x0E.2 ⟨fl[i],x0h hif,by simpa using c⟩
    simp [c,hb]
   ·simp [c,hw]
    refine ⟨by omega,by omega,i + 1,⟨by omega,fun j hl hjj=>?_⟩,by omega,rfl,?_,by omega⟩
    ·rcases x0i.1 hjj with h2 | rfl
     ·exact hj j hl h2
     ·omega
    ·rw [y9 hif,x0q (by omega)]
     rfl
 ·have ek : i=ls.length:=by omega
  subst ek
  have hb : iV fl=false:=Am fun s hs=>by
   obtain ⟨j,hjl,rfl⟩:=x0G hs
   exact hj j hjl (by omega)
  simp [hb]
  rw [LX,<- hfll,BW,x0q (by simp)]
  exact ⟨by simp,rfl⟩
end Go.Gv

namespace Go.Gv
variable {C : CC} (hC : aw prog C)
include hC
theorem ym (b1 b2 b : Bool) (ns : List Nod) (ls : List Lnk) (q : List Sp) (hq : q.length < 2 ^ 62) : C 431 [.agg [slx b1 (ns.map aQ),slx b2 (ls.map ay)],slx b (q.map knD)] (.tup [lv ns ls q,.int .i64 (ir ns ls q)]) []:=by
 have k1:=uq hC b1 b2 ns ls
 have k2:=rK hC b q ns.length hq
 refine ai hC (nf:=N431) rfl rfl ?_
 simp [N431]
 refine aa k1 (.inl rfl) ?_
 unfold lv ir
 cases ht : cx ns ls
 ·simp
 simp
 refine aa k2 (.inl rfl) ?_
 by_cases h0 : fy q ns.length=0
 ·obtain ⟨hql,hqr⟩:=lf h0
  have k3:=EO hC b1 b2 b ns ls q ht hql hqr
  unfold bK
  simp [h0]
  refine aa k3 (.inr rfl) ?_
  cases hb : iV (aD ns.length (av ns ls) q) <;> simp [h0]
 ·simp [h0]
end Go.Gv

set_option maxRecDepth 4000
namespace Go.Gv
def CkV (ns : List Nod) (ls : List Lnk) (ss : List Sec) (q : List Sp) (o : Sp) : D:=if gf ns ls ss q o=true then .sl ((aD ns.length (av ns ls) q).map knD) else .nils
theorem wl {ns : List Nod} {ls : List Lnk} {ss : List Sec} {q : List Sp} : ee ns ls ss q ns.length=0 \/ ee ns ls ss q ns.length=1 \/ ee ns ls ss q ns.length=2 \/ ee ns ls ss q ns.length=3 \/ ee ns ls ss q ns.length=9 \/ ee ns ls ss q ns.length=23:=by
 unfold ee
 split
 ·split
  ·rcases nL (ls:=ls) (ss:=ss) with h | h | h <;> simp [h]
  ·unfold fy
   split
   ·simp
   ·split
    ·split <;> simp
    ·simp
 ·simp
variable {C : CC} (hC : aw prog C)
include hC
theorem uh (b1 b2 : Bool) (ns : List Nod) (ls : List Lnk) (hv : bP ns ls=true) {v : Nat} (hvn : v < ns.length) : C 645 [.agg [slx b1 (ns.map aQ),slx b2 (ls.map ay)],.int .i64 v] (.int .i64 (frI (fE (av ns ls) v))) []:=by
 obtain ⟨hnl,hll⟩:=ci hv
 rw [<- Bd hv hvn]
 obtain ⟨r,hr⟩ : ∃ r,r=bx (js ns[v].name) ls:=⟨_,rfl⟩
 rw [<- hr]
 refine ai hC (nf:=N645) rfl rfl ?_
 simp [N645]
 refine au Nat (fun i=>[(1,.int .i64 v),(2,.ptr [slx b1 (ns.map aQ),slx b2 (ls.map ay)]),(5,.int .i64 i)]) (fun i=>i <= ls.length /\ ∀ (j : Nat) (h : j < ls.length),j < i -> js ns[v].name ls[j]=false) (fun i=>ls.length - i) 0 ⟨by omega,fun j _ h=>absurd h (Nat.not_lt_zero _)⟩ (by simp) ?_
 rintro i ⟨hi,hj⟩
 simp
 refine ac (fun h=>?_) (fun h=>?_) <;> simp at h
 ·have hw : IntKind.wrap .i64 ((i : Int) + 1)=((i + 1 : Nat) : Int):=wrap_i64 (by omega) (by omega)
  simp [h,ay,aQ,hvn]
  refine ⟨am (by decide +kernel),?_⟩
  by_cases e : ls[i].src=ns[v].name
  ·have e1 : r=(i : Int):=by rw [hr];exact cz hj h (by simp [js,e])
   simp [e,e1]
  ·simp [e]
   exact ⟨i + 1,⟨by omega,fun j hl hij=>by rcases x0i.1 hij with h8 | rfl;exact hj j hl h8;simp [js,e]⟩,by omega,hw⟩
 ·have e1 : r=-1:=by rw [hr];exact cH (fun j hl=>hj j hl (by omega))
  simp [h,e1]
theorem mB (b : Bool) (ss : List Sec) (l : Lnk) (hss : ss.length < 2 ^ 62) (hP : gL ss l) : C 646 [.agg (ay l),slx b (ss.map aP)] (.agg (aP (cS ss l))) []:=by
 obtain ⟨k,h1,hk,h2⟩:=hP.sec
 have k1:=qg hC b ss l.sect hss
 change bx (cu l.sect) ss=_ at h1
 rw [h1] at k1
 rw [h2]
 refine ai hC (nf:=N646) rfl rfl ?_
 simp [N646,ay]
 refine aa k1 (.inl rfl) ?_
 simp [hk,aP]
set_option maxHeartbeats 2000000 in
theorem yf (b1 b2 b b' : Bool) (ns : List Nod) (ls : List Lnk) (ss : List Sec) (q : List Sp) (o : Sp) (hls : ls.length < 2 ^ 62) (hss : ss.length < 2 ^ 62) (hq : q.length < 2 ^ 62) :
  C 620 [.agg [slx b1 (ns.map aQ),slx b2 (ls.map ay)],slx b (ss.map aP),slx b' (q.map knD),.agg (knD o)] (.tup [CkV ns ls ss q o,.int .i64 (cw ns ls ss q o)]) []:=by
 have k1:=yn hC b1 b2 b b' true ns ls ss q hls hss hq
 simp only [if_true] at k1
 have k2:=uo hC o
 have k3:=ym hC b1 b2 b' ns ls q hq
 refine ai hC (nf:=N620) rfl rfl ?_
 simp [N620,knD]
 refine aa (by simpa [knD] using k1) (.inl rfl) ?_
 have hg:=wl (ns:=ns) (ls:=ls) (ss:=ss) (q:=q)
 have nilV : ∀ e : Int,e=cw ns ls ss q o -> ¬ (e=0 \/ e=5) -> CkV ns ls ss q o=.nils /\ cw ns ls ss q o=e:=fun e h1 h2=>by
  refine ⟨?_,h1.symm⟩
  unfold CkV
  rw [if_neg (by rw [uN h1 h2];decide)]
 simp
 by_cases g1 : ee ns ls ss q ns.length=1
 ·obtain ⟨e1,e2⟩:=nilV 1 (by unfold cw;rw [if_pos (.inl g1)]) (by decide)
  simp [g1,e1,e2]
 simp [g1]
 refine aa (by simpa [knD] using k2) (.inl rfl) ?_
 by_cases g2 : da o=true
 case neg =>
  have g2' : da o=false:=by simpa using g2
  obtain ⟨e1,e2⟩:=nilV 1 (by unfold cw;rw [if_pos (.inr g2')]) (by decide)
  simp [g2,e1,e2]
 have n1 : ¬ (ee ns ls ss q ns.length=1 \/ da o=false):=by simp [g1,g2]
 simp [g2]
 by_cases g3 : ee ns ls ss q ns.length=3
 ·obtain ⟨e1,e2⟩:=nilV 3 (by unfold cw;rw [if_neg n1,if_pos g3]) (by decide)
  simp [g3,e1,e2]
 simp [g3]
 by_cases g4 : ee ns ls ss q ns.length=2
 ·obtain ⟨e1,e2⟩:=nilV 2 (by unfold cw;rw [if_neg n1,if_neg g3,if_pos (.inl g4)]) (by decide)
  simp [g4,e1,e2]
 by_cases g5 : dE o=true
 ·obtain ⟨e1,e2⟩:=nilV 2 (by unfold cw;rw [if_neg n1,if_neg g3,if_pos (.inr g5)]) (by decide)
  have h7':=g5
  simp only [dE,x0F,x0b] at h7'
  by_cases h8 : o.1 < -4194304
  ·simp [g4,h8,e1,e2]
  ·have h9 : 4194304 < o.2:=by omega
   simp [g4,h8,h9,e1,e2]
 have n2 : ¬ (ee ns ls ss q ns.length=2 \/ dE o=true):=by simp [g4,g5]
 obtain ⟨o1,o2⟩ : ¬ (o.1 < -4194304) /\ ¬ (4194304 < o.2):=by
  simp only [dE,x0F,x0b] at g5
  omega
 simp [g4,o1,o2]
 by_cases g0 : ee ns ls ss q ns.length=0
 case neg =>
  obtain ⟨e1,e2⟩:=nilV (ee ns ls ss q ns.length) (by unfold cw;rw [if_neg n1,if_neg g3,if_neg n2,if_pos g0]) (by omega)
  simp [g0,e1,e2]
 simp [g0]
 obtain ⟨ht,hc,hsp,hp⟩:=pX g0
 have hv : bP ns ls=true:=by simp only [cx,x0a] at ht;exact ht.1.1
 have htf : cN ns.length (av ns ls)=true:=by simp only [cx,x0a] at ht;exact ht.2
 obtain ⟨hnl,hll⟩:=ci hv
 have hge:=fd hv
 have hel:=aH ns ls
 have hpo:=qf ht hp
 obtain ⟨hq1,hq2⟩:=lf hsp
 have hq1' : q.length=ns.length:=by omega
 have k4 : ∀ v,v < ns.length -> _:=fun v hvn=>uh hC b1 b2 ns ls hv hvn
 have k5:=fun l hl=>mB hC b ss l hss (hpo l hl)
 have hFE : ir ns ls q=bK ns.length (av ns ls) q:=by
  unfold ir
  rw [if_pos ht,if_pos hsp]
 unfold lv at k3
 rw [hFE] at k3
 have htE : cw ns ls ss q o=if lI ns (av ns ls) then 24 else if bK ns.length (av ns ls) q ≠ 0 then bK ns.length (av ns ls) q else jf ls ss (aD ns.length (av ns ls) q):=by
  unfold cw
  rw [if_neg n1,if_neg g3,if_neg n2,if_neg (by simp [g0])]
 have htM : gf ns ls ss q o=(!lI ns (av ns ls) && decide (bK ns.length (av ns ls) q=0) && !decide (jf ls ss (aD ns.length (av ns ls) q)=16)):=by
  have ho : dE o=false:=by simpa using g5
  unfold gf
  rw [g0,g2,ho]
  simp
 unfold CkV
 have nilW : gf ns ls ss q o=false -> (if gf ns ls ss q o=true then D.sl ((aD ns.length (av ns ls) q).map knD) else .nils)=.nils:=fun h=>by rw [if_neg (by rw [h];decide)]
 clear nilV k1 k2 hg g1 g3 g4 n1 n2
 generalize av ns ls=es at *
 refine au Nat (fun j=>[(1,slx b (ss.map aP)),(2,slx b' (q.map knD)),(4,.ptr [slx b1 (ns.map aQ),slx b2 (ls.map ay)]),(11,.int .i64 j)]) (fun j=>j <= ns.length /\ ∀ k (hk : k < ns.length),k < j -> ns[k].kind ≠ 3 -> fE es k ≠ none) (fun j=>ns.length - j) 0 ⟨by omega,fun k _ h=>absurd h (Nat.not_lt_zero _)⟩ (by simp) ?_
 rintro j ⟨hj2,hgp⟩
 simp
 refine ac (fun h2=>?_) (fun h2=>?_) <;> simp at h2
 ·have hw : IntKind.wrap .i64 ((j : Int) + 1)=((j + 1 : Nat) : Int):=wrap_i64 (by omega) (by omega)
  simp [h2,aQ]
  by_cases c1 : ns[j].kind=3
  ·simp [c1]
   refine ⟨j + 1,⟨by omega,fun k hk hkj h3=>?_⟩,by omega,hw⟩
   rcases x0i.1 hkj with h8 | rfl
   ·exact hgp k hk h8 h3
   ·exact absurd c1 h3
  ·simp [c1]
   refine aa (k4 j h2) (.inl rfl) ?_
   cases hf : fE es j with
   | none =>
    have e1 : cw ns ls ss q o=24:=by rw [htE,mQ h2 c1 hf,if_pos rfl]
    have e2:=nilW (by rw [htM,mQ h2 c1 hf];rfl)
    simp only [frI]
    rw [e1,e2]
    simp
   | some x =>
    have hx0 : ¬ ((x : Int) < 0):=by omega
    simp [frI,hx0]
    refine ⟨j + 1,⟨by omega,fun k hk hkj h3=>?_⟩,by omega,hw⟩
    rcases x0i.1 hkj with h8 | rfl
    ·exact hgp k hk h8 h3
    ·rw [hf];simp
 ·have ej : j=ns.length:=by omega
  subst ej
  have hgap : lI ns es=false:=tS fun k hk h3=>hgp k hk hk h3
  rw [hgap,if_neg (by decide)] at htE
  rw [hgap] at htM
  simp [h2]
  refine aa k3 (.inr (by simp)) ?_
  have hF5 : bK ns.length es q=0 \/ bK ns.length es q=5:=by
   unfold bK;split <;> simp
  by_cases hf0 : bK ns.length es q=0
  case neg =>
   have hf5 : bK ns.length es q=5:=by rcases hF5 with h | h;exact absurd h hf0;exact h
   have e1 : cw ns ls ss q o=5:=by rw [htE,hf5,if_pos (by decide)]
   have e2:=nilW (by rw [htM,hf5];rfl)
   rw [if_neg hf0,hf5,e1,e2]
   simp
  have hbig : iV (aD ns.length es q)=false:=by
   unfold bK at hf0
   split at hf0
   ·cases hf0
   ·rename_i h;simpa using h
  have hfr : ∀ k,k < es.length -> (0 <= (aD ns.length es q)[k]!.1 /\ (aD ns.length es q)[k]!.1 <= (aD ns.length es q)[k]!.2) /\ (aD ns.length es q)[k]!.2 <= 1099511627776:=fun k hk=>⟨pU hnl hge htf hq1' hq2 hk,pT hbig hk⟩
  have hfl:=iv ns.length es q
  rw [if_pos hf0,hf0]
  rw [hf0] at htM
  rw [if_neg (by simp [hf0])] at htE
  clear hF5 hbig k3
  rw [htE,htM]
  rw [htM] at nilW
  generalize aD ns.length es q=fl at *
  simp
  refine au Nat (fun j=>[(1,slx b (ss.map aP)),(4,.ptr [slx b1 (ns.map aQ),slx b2 (ls.map ay)]),(12,.sl (fl.map knD)),(13,.int .i64 (jU ls ss fl j)),(14,.int .i64 j)])
   (fun j=>j <= ls.length /\ ∀ k,k < j -> fG ls ss fl k ≠ 16) (fun j=>ls.length - j) 0 ⟨by omega,fun k h=>absurd h (Nat.not_lt_zero _)⟩ (by simp [jU]) ?_
  rintro j ⟨hj3,h16⟩
  simp
  refine ac (fun g3=>?_) (fun g3=>?_) <;> simp at g3
  ·have hw : IntKind.wrap .i64 ((j : Int) + 1)=((j + 1 : Nat) : Int):=wrap_i64 (by omega) (by omega)
   have hP:=hpo _ (x0h g3)
   have hje : j < es.length:=by omega
   have hjf : j < fl.length:=by omega
   obtain ⟨⟨f0,f1⟩,f2⟩:=hfr j hje
   have hlK : fG ls ss fl j=(b9 ls[j] (cS ss ls[j]) fl[j].2).2:=by
    unfold fG
    rw [x0f ls j g3,oB hjf]
   rw [oB hjf] at f0 f1 f2
   have k11:=xT hC ls[j] (cS ss ls[j]) fl[j].2 (hP.valid hc) hP.len ⟨by omega,f2⟩
   rw [rj,<- hlK] at k11
   have k12:=k5 _ (x0h g3)
   generalize hr : (b9 ls[j] (cS ss ls[j]) fl[j].2).1=r at *
   generalize hLe : fG ls ss fl j=e at *
   simp [g3,ay]
   refine aa (by simpa [ay] using k12) (.inr rfl) ?_
   simp [hjf,knD]
   refine aa (by simpa [ay] using k11) (.inr rfl) ?_
   have ext : ∀ e',e' ≠ 16 -> fG ls ss fl j=e' -> ∀ k,k < j + 1 -> ¬ fG ls ss fl k=16:=fun e' h1 h2 k hk=>by
    rcases x0i.1 hk with h8 | rfl
    ·exact h16 k h8
    ·rw [h2];exact h1
   have he : e=0 \/ e=5 \/ e=16:=by
    rw [<- hLe]
    unfold fG b9 fo
    split
    ·simp
    ·split
     ·simp
     ·split <;> simp
   have hw0 : jU ls ss fl j=0 \/ jU ls ss fl j=5:=by
    unfold jU;split <;> simp
   rcases he with rfl | rfl | rfl
   ·have hn:=zU (ls:=ls) (ss:=ss) (fl:=fl) (j:=j) (by rw [hLe];decide)
    rcases hw0 with h0 | h0
    ·rw [h0] at hn ⊢
     simp
     exact ⟨am (by decide +kernel),j + 1,⟨by omega,ext 0 (by decide) hLe⟩,by omega,hn.symm,hw⟩
    ·rw [h0] at hn ⊢
     simp
     exact ⟨am (by decide +kernel),j + 1,⟨by omega,ext 0 (by decide) hLe⟩,by omega,hn.symm,hw⟩
   ·have hn:=zT hLe
    rcases hw0 with h0 | h0
    ·rw [h0]
     simp
     exact ⟨am (by decide +kernel),j + 1,⟨by omega,ext 5 (by decide) hLe⟩,by omega,hn.symm,hw⟩
    ·rw [h0]
     simp
     exact ⟨am (by decide +kernel),j + 1,⟨by omega,ext 5 (by decide) hLe⟩,by omega,hn.symm,hw⟩
   ·have h5:=t8 g3 hLe
    rw [h5]
    simp
    exact am (by decide +kernel)
  ·have ej : j=ls.length:=by omega
   subst ej
   have hw:=xR h16
   rw [hw]
   simp [g3,uR]
end Go.Gv

set_option maxRecDepth 4000
namespace Go.Gv
def hlO (hi : Bool) (s : Sp) : Int:=if hi then s.2 else s.1
variable {C : CC} (hC : aw prog C)
include hC
set_option maxHeartbeats 2000000 in
theorem pr (b1 b2 b : Bool) {ns : List Nod} {ls : List Lnk} {ss : List Sec} {fl : List Sp} {o : Sp} (hv : bP ns ls=true) (T : TrX ns ls ss (av ns ls) fl) (ho : -4194304 <= o.1 /\ o.1 <= o.2 /\ o.2 <= 4194304) (hss : ss.length < 2 ^ 62) (hi : Bool) : ∀ (r i : Nat),i < ns.length -> ns.length <= r + rkO ns.length (av ns ls) i ->
  C 621 [.agg [slx b1 (ns.map aQ),slx b2 (ls.map ay)],slx b (ss.map aP),.sl (fl.map knD),.agg (knD o),.int .i64 i,.bool hi] (.int .i64 (hlO hi (lvX ns ls ss (av ns ls) fl o i))) []
 | 0,i,hi',hr=>by
  have:=uu T.trs.full hi'
  omega
 | r + 1,i,hi',hr=>by
  have k1:=uh hC b1 b2 ns ls hv hi'
  have hh : (if hi=true then o.2 else o.1)=hlO hi o:=by cases hi <;> rfl
  cases hf : fE (av ns ls) i with
  | none =>
   rw [hf] at k1
   have hs : hlO hi (lvX ns ls ss (av ns ls) fl o i)=grI ns[i].invert (hlO hi o):=by
    unfold lvX
    rw [o8 (show jS (av ns ls) i=none from hf)]
    unfold qD
    rw [x0f ns i hi',sT]
    cases hi <;> rfl
   rw [hs]
   have k2:=lJ hC ns[i].invert (hlO hi o)
   refine ai hC (nf:=N621) rfl rfl ?_
   cases hi
   ·simp [N621,knD]
    refine aa k1 (.inl rfl) ?_
    simp [frI,hi',aQ]
    refine aa (by simpa [hlO] using k2) (.inl rfl) ?_
    simp [hlO]
   ·simp [N621,knD]
    refine aa k1 (.inl rfl) ?_
    simp [frI,hi',aQ]
    refine aa (by simpa [hlO] using k2) (.inl rfl) ?_
    simp [hlO]
  | some k =>
   rw [hf] at k1
   obtain ⟨hk,hek⟩:=fP (show jS (av ns ls) i=some k from hf)
   have hkl : k < ls.length:=by rw [<- aH ns ls];exact hk
   have hfl:=T.fln
   have hkf : k < fl.length:=by omega
   obtain ⟨w,hw,r1,r2,e1,e2,hS⟩:=o9 (ns:=ns) (o:=o) T.trs T.inv ⟨ho.2.1,ho.2.2⟩ (uu T.trs.full hi') (show jS (av ns ls) i=some k from hf)
   rw [x0f (av ns ls) k hk] at hw
   have hwn : w < ns.length:=by rw [hw];exact (T.trs.ing _ (x0h hk)).2
   obtain ⟨b1',b2',b3'⟩:=p7 (ns:=ns) (o:=o) T.trs T.inv ⟨ho.2.1,ho.2.2⟩ w
   have hP:=T.lnk _ (x0h hkl)
   obtain ⟨f0,f1⟩:=T.trs.low k hkl
   have f2:=T.trs.tro.flow k hkl
   rw [mV hkl,x0f ls k hkl,x0f fl k hkf] at hS e1 e2
   rw [x0f fl k hkf] at f0 f1 f2
   have hsm:=T.trs.small
   have kr:=pr b1 b2 b hv T ho hss hi r w hwn (by omega)
   have hS2 : lvX ns ls ss (av ns ls) fl o i=((bR ls[k] (cS ss ls[k]) fl[k].1 (lvX ns ls ss (av ns ls) fl o w).1).1,(bR ls[k] (cS ss ls[k]) fl[k].2 (lvX ns ls ss (av ns ls) fl o w).2).1):=hS
   change lb ns.length (lvX ns ls ss (av ns ls) fl o w).1 at b1'
   change lb ns.length (lvX ns ls ss (av ns ls) fl o w).2 at b2'
   obtain ⟨_,_,_,_,_,a2⟩:=qI hv hkl
   rw [<- hw] at a2
   have kn:=fI hC b1 b2 ns ls ls[k].dst (by omega)
   rw [a2] at kn
   have hu : bj ls[k].up=true:=by
    have:=hP.up
    simp only [bj,x0a,x0b]
    exact this
   have hdw : bj ls[k].down=true:=by
    have:=hP.down
    simp only [bj,x0a,x0b]
    exact this
   have ks:=mB hC b ss ls[k] hss hP
   generalize lvX ns ls ss (av ns ls) fl o=sp at *
   have hb1 : -4194304 <= (sp w).1 /\ (sp w).1 <= 1099511627776:=⟨b1'.1,by have:=b1'.2;omega⟩
   have hb2 : -4194304 <= (sp w).2 /\ (sp w).2 <= 1099511627776:=⟨b2'.1,by have:=b2'.2;omega⟩
   have hqb : 0 <= hlO hi fl[k] /\ hlO hi fl[k] <= 1099511627776:=by
    cases hi <;> simp only [hlO,if_true,x0k,if_false] <;> omega
   have hsb : -4194304 <= hlO hi (sp w) /\ hlO hi (sp w) <= 1099511627776:=by
    cases hi
    ·exact hb1
    ·exact hb2
   have ka:=wO hC ls[k] (cS ss ls[k]) (hlO hi fl[k]) (hlO hi (sp w)) (hP.valid T.cat) hP.len hu hdw hqb hsb
   rw [uW (hP.valid T.cat) hP.len hP.le hqb] at ka
   have s1 : hlO hi (sp i)=(bR ls[k] (cS ss ls[k]) (hlO hi fl[k]) (hlO hi (sp w))).1:=by
    rw [hS2]
    cases hi <;> rfl
   rw [<- s1] at ka
   clear hS hS2 e1 e2 s1 b1' b2' b3' hb1 hb2 hqb hsb
   generalize (bR ls[k] (cS ss ls[k]) (hlO hi fl[k]) (hlO hi (sp w))).2=er at ka
   refine ai hC (nf:=N621) rfl rfl ?_
   have hk0 : ¬ ((k : Int) < 0):=by omega
   cases hi
   ·have ka' : C 193 [.agg (ay ls[k]),.agg (aP (cS ss ls[k])),.int .i64 fl[k].1,.int .i64 (hlO false (sp w))] (.tup [.int .i64 (hlO false (sp i)),.int .i64 er]) []:=ka
    simp only [ay] at ka' ks
    simp [N621,knD]
    refine aa k1 (.inl rfl) ?_
    simp [frI,hk0,hkf,hkl,ay,knD]
    refine aa kn (.inl rfl) ?_
    simp
    refine aa (by simpa [knD] using kr) (.inl rfl) ?_
    simp [hkl,ay]
    refine ⟨am (by decide +kernel),?_⟩
    refine aa ks (.inr rfl) ?_
    simp
    refine aa ka' (.inl rfl) ?_
    simp
    exact am (by decide +kernel)
   ·have ka' : C 193 [.agg (ay ls[k]),.agg (aP (cS ss ls[k])),.int .i64 fl[k].2,.int .i64 (hlO true (sp w))] (.tup [.int .i64 (hlO true (sp i)),.int .i64 er]) []:=ka
    simp only [ay] at ka' ks
    simp [N621,knD]
    refine aa k1 (.inl rfl) ?_
    simp [frI,hk0,hkf,hkl,ay,knD]
    refine aa kn (.inl rfl) ?_
    simp
    refine aa (by simpa [knD] using kr) (.inl rfl) ?_
    simp [hkl,ay]
    refine ⟨am (by decide +kernel),?_⟩
    refine aa ks (.inr rfl) ?_
    simp
    refine aa ka' (.inl rfl) ?_
    simp
    exact am (by decide +kernel)
set_option maxHeartbeats 2000000 in
theorem vR (b1 b2 b b' : Bool) (ns : List Nod) (ls : List Lnk) (ss : List Sec) (q : List Sp) (o : Sp) (hls : ls.length < 2 ^ 62) (hss : ss.length < 2 ^ 62) (hq : q.length < 2 ^ 62) :
  C 575 [.agg [slx b1 (ns.map aQ),slx b2 (ls.map ay)],slx b (ss.map aP),slx b' (q.map knD),.agg (knD o)] (.tup [pC ns ls ss q o,.int .i64 (cw ns ls ss q o)]) []:=by
 have k1:=yf hC b1 b2 b b' ns ls ss q o hls hss hq
 refine ai hC (nf:=N575) rfl rfl ?_
 simp [N575,knD]
 refine aa (by simpa [knD] using k1) (.inr (by simp)) ?_
 by_cases h0 : cw ns ls ss q o=0
 case neg =>
  unfold pC CkV
  rw [if_neg h0]
  split <;> simp [h0]
 have hM:=qt h0
 obtain ⟨T,ho⟩:=qu hM h0
 have hv : bP ns ls=true:=by
  simp only [gf,x0a,x0t,x0b,x0H] at hM
  have:=(pX hM.1.1.1.1.1).1
  simp only [cx,x0a] at this
  exact this.1.1
 have hnl:=T.trs.small
 have kl:=fun hi j (hj : j < ns.length)=>pr hC b1 b2 b hv T ho hss hi ns.length j hj (by omega)
 unfold pC CkV
 rw [if_pos h0,if_pos hM,h0]
 unfold qY
 generalize aD ns.length (av ns ls) q=fl at *
 generalize lvX ns ls ss (av ns ls) fl o=sp at *
 simp
 refine au Nat (fun j=>[(1,slx b (ss.map aP)),(4,.ptr [slx b1 (ns.map aQ),slx b2 (ls.map ay)]),(7,.ptr [.int .i64 o.1,.int .i64 o.2]),(10,.sl (fl.map knD)),(12,.ref (.r 10192) 0 j),(13,.int .i64 j),(10192,.blk 2 ((lvT sp j).map knD))]) (fun j=>j <= ns.length) (fun j=>ns.length - j) 0 (by simp) (by simp [CN]) ?_
 intro j hj
 simp
 refine ac (fun h=>?_) (fun h=>?_) <;> simp at h
 ·have hw : IntKind.wrap .i64 ((j : Int) + 1)=((j + 1 : Nat) : Int):=wrap_i64 (by omega) (by omega)
  have hsu:=rn sp j
  have hln:=cp sp j
  simp [h]
  refine aa (by simpa [knD] using kl false j h) (.inl rfl) ?_
  simp
  refine aa (by simpa [knD] using kl true j h) (.inl rfl) ?_
  simp [hln]
  refine ⟨by omega,am (by decide +kernel),j + 1,by omega,by omega,rfl,hw,?_⟩
  rw [x0q (by simp [cp]),hsu,x1o]
  rfl
 ·have ej : j=ns.length:=by omega
  subst ej
  simp [h,cp]
  exact CO _ _
set_option maxHeartbeats 2000000 in
theorem oG (b1 b2 : Bool) (ns : List Nod) (ls : List Lnk) (sp : Nat -> Sp) (hnl : ns.length <= 300) :
  C 576 [.agg [slx b1 (ns.map aQ),slx b2 (ls.map ay)],.sl ((lvT sp ns.length).map knD)] (.tup [.sl (eX (ik ns sp false ns.length)),.sl (eX (ik ns sp true ns.length))]) []:=by
 refine ai hC (nf:=N576) rfl rfl ?_
 simp [N576]
 refine au Nat (fun j=>[(1,.sl ((lvT sp ns.length).map knD)),(2,.ptr [slx b1 (ns.map aQ),slx b2 (ls.map ay)]),(6,.ref (.r 10096) 0 (ik ns sp false j).length),(7,.ref (.r 10112) 0 (ik ns sp true j).length),(8,.int .i64 j),(10096,.blk 1 (eX (ik ns sp false j))),(10112,.blk 1 (eX (ik ns sp true j)))]) (fun j=>j <= ns.length) (fun j=>ns.length - j) 0 (by simp) (by simp [zD,eX]) ?_
 intro j hj
 simp
 refine ac (fun h=>?_) (fun h=>?_) <;> simp at h
 ·have hw : IntKind.wrap .i64 ((j : Int) + 1)=((j + 1 : Nat) : Int):=wrap_i64 (by omega) (by omega)
  have e1:=jL ns sp false j
  have e2:=jL ns sp true j
  have l1:=il ns sp false j
  have l2:=il ns sp true j
  unfold zB at e1 e2
  rw [x0f ns j h] at e1 e2
  simp [h,aQ]
  by_cases c : ns[j].kind=3
  ·simp [c] at e1 e2
   simp [c]
   exact ⟨j + 1,by omega,by omega,by rw [e1],by rw [e2],hw,by rw [e1],by rw [e2]⟩
  ·simp [c] at e1 e2
   simp [c,cp,h,gF,knD]
   refine ⟨am (by decide +kernel),?_⟩
   by_cases g1 : ns[j].ground < (sp j).1
   ·rw [if_pos g1] at e1
    by_cases g2 : ns[j].ground < (sp j).2
    ·rw [if_pos g2] at e2
     simp [g1,g2,cp,h,gF,knD,db]
     exact ⟨by omega,am (by decide +kernel),by omega,j + 1,by omega,by omega,by simp [e1],by simp [e2],hw,by rw [e1,<- cA,fq],by rw [e2,<- cA,fq]⟩
    ·rw [if_neg g2,x02] at e2
     simp [g1,g2,cp,h,gF,knD,db]
     exact ⟨by omega,am (by decide +kernel),j + 1,by omega,by omega,by simp [e1],by simp [e2],hw,by rw [e1,<- cA,fq],by rw [e2]⟩
   ·rw [if_neg g1,x02] at e1
    by_cases g2 : ns[j].ground < (sp j).2
    ·rw [if_pos g2] at e2
     simp [g1,g2,cp,h,gF,knD,db]
     exact ⟨am (by decide +kernel),by omega,j + 1,by omega,by omega,by simp [e1],by simp [e2],hw,by rw [e1],by rw [e2,<- cA,fq]⟩
    ·rw [if_neg g2,x02] at e2
     simp [g1,g2,cp,h,gF,knD,db]
     exact ⟨am (by decide +kernel),j + 1,by omega,by omega,by simp [e1],by simp [e2],hw,by rw [e1],by rw [e2]⟩
 ·have ej : j=ns.length:=by omega
  subst ej
  simp [h,db,zu]
  exact ⟨cA _,cA _⟩
end Go.Gv

namespace Go.Gv
def vo : Lnk:={ name:=[112],src:=[97],dst:=[98],kind:=1,len:=10000,up:=1000,down:=900,sect:=[115],width:=0,height:=0,curveN:=true,curve:=[] }
def exS : Sec:={ name:=[115],height:=300,price:=0,areaN:=false,area:=[(0,0),(300,70000)],convN:=false,conv:=[(0,0),(300,200000)] }
def tY (l : Lnk) : Bool:=decide (20 < l.curve.length) || decide (60 < l.name.length) || decide (60 < l.src.length) || decide (60 < l.dst.length) || decide (60 < l.sect.length)
def ub (s : Sec) : Bool:=decide (20 < s.area.length) || decide (20 < s.conv.length) || decide (60 < s.name.length)
theorem AN : ri vo exS 10000=(25,0):=by decide +kernel
theorem I8 : zJ vo exS 10000 1250=(1300,0):=by decide +kernel
variable {C : CC} (hC : aw prog C)
include hC
theorem xr : C 158 [] (.tup [.agg (ay vo),.agg (aP exS)]) []:=by
 refine ai hC (nf:=N158) rfl rfl ?_
 simp [N158,ay,vo,exS,aP,knD]
 rfl
theorem u3 : C 153 [] (.bool true) []:=by
 have k1:=xr hC
 have k2:=Ah hC vo exS 10000 (by decide)
 have k3:=PM hC vo exS 10000 1250 (by decide)
 rw [AN] at k2
 rw [I8] at k3
 simp only [ay,aP] at k1 k2 k3
 refine ai hC (nf:=N153) rfl rfl ?_
 simp [N153]
 refine aa k1 (.inr rfl) ?_
 simp
 refine aa k2 (.inl rfl) ?_
 simp
 refine aa k3 (.inl rfl) ?_
 simp
theorem xO (l : Lnk) : C 154 [.agg (ay l)] (.bool (tY l)) []:=by
 refine ai hC (nf:=N154) rfl rfl ?_
 simp [N154,ay,tY]
 refine ac (fun h0=>?_) (fun h0=>?_) <;> simp at h0
 ·simp [show 20 < l.curve.length by omega]
 simp [show ¬ 20 < l.curve.length by omega]
 refine ac (fun h1=>?_) (fun h1=>?_) <;> simp at h1
 ·simp [show 60 < l.name.length by omega]
 simp [show ¬ 60 < l.name.length by omega]
 refine ac (fun h2=>?_) (fun h2=>?_) <;> simp at h2
 ·simp [show 60 < l.src.length by omega]
 simp [show ¬ 60 < l.src.length by omega]
 refine ac (fun h3=>?_) (fun h3=>?_) <;> simp at h3
 ·simp [show 60 < l.dst.length by omega]
 simp [show ¬ 60 < l.dst.length by omega]
 rw [x0x]
 simp
 omega
end Go.Gv

set_option maxRecDepth 4000
namespace Go.Gv
def m9 (n : Nod) : Bool:=decide (20 < n.shape.length) || decide (60 < n.name.length)
def xU (ns : List Nod) (ls : List Lnk) : Bool:=decide (14 < ns.length) || decide (16 < ls.length) || ns.any m9 || ls.any tY
def xW (ss : List Sec) : Bool:=decide (8 < ss.length) || ss.any ub
variable {C : CC} (hC : aw prog C)
include hC
theorem wR (n : Nod) : C 617 [.agg (aQ n)] (.bool (m9 n)) []:=by
 refine ai hC (nf:=N617) rfl rfl ?_
 simp [N617,aQ,m9]
 by_cases c1 : (20 : Int) < n.shape.length
 ·simp [c1,show 20 < n.shape.length by omega]
 ·simp [c1,show ¬ 20 < n.shape.length by omega]
  omega
theorem A5 (b1 b2 : Bool) (ns : List Nod) (ls : List Lnk) (h1 : ns.length < 2 ^ 62) (h2 : ls.length < 2 ^ 62) : C 572 [.agg [slx b1 (ns.map aQ),slx b2 (ls.map ay)]] (.bool (xU ns ls)) []:=by
 have k1:=xG hC (b:=b1) (xs:=ns) (g:=617) (cs:=[]) m9 h1 (fun x _=>wR hC x)
 have k2:=nu hC (b:=b2) (xs:=ls) (g:=154) (cs:=[]) tY h2 (fun x _=>xO hC x)
 refine ai hC (nf:=N572) rfl rfl ?_
 simp [N572]
 unfold xU
 by_cases c1 : (14 : Int) < ns.length
 ·simp [c1,show 14 < ns.length by omega]
 by_cases c2 : (16 : Int) < ls.length
 ·simp [c1,c2,show 16 < ls.length by omega]
 simp [c1,c2,show ¬ 14 < ns.length by omega,show ¬ 16 < ls.length by omega]
 refine aa k1 (.inl rfl) ?_
 cases d1 : ns.any m9
 ·simp
  refine aa k2 (.inl rfl) ?_
  simp
  intro h;omega
 ·simp
theorem vF (b : Bool) (ss : List Sec) (hs : ss.length < 2 ^ 62) : C 155 [slx b (ss.map aP)] (.bool (xW ss)) []:=by
 have k0 : ∀ x ∈ ss,C 159 (.agg (aP x)::[]) (.bool (ub x)) []:=fun x _=>by
  refine ai hC (nf:=N159) rfl rfl ?_
  simp [N159,aP,ub]
  refine ac (fun h0=>?_) (fun h0=>?_) <;> simp at h0
  ·simp [show 20 < x.area.length by omega]
  simp [show ¬ 20 < x.area.length by omega]
  refine ac (fun h1=>?_) (fun h1=>?_) <;> simp at h1
  ·simp [show 20 < x.conv.length by omega]
  simp [show ¬ 20 < x.conv.length by omega]
  rw [x0x]
  simp
  omega
 have k1:=xH hC (b:=b) (xs:=ss) (g:=159) (cs:=[]) ub hs k0
 refine ai hC (nf:=N155) rfl rfl ?_
 simp [N155]
 unfold xW
 by_cases c1 : (8 : Int) < ss.length
 ·simp [c1,show 8 < ss.length by omega]
 simp [c1,show ¬ 8 < ss.length by omega]
 refine aa k1 (.inl rfl) ?_
 simp
 intro h;omega
set_option maxHeartbeats 2000000 in
theorem lu (hS : SlC C) (b1 b2 : Bool) (ns : List Nod) (ls : List Lnk) (h1 : ns.length < 2 ^ 62) (h2 : ls.length < 2 ^ 62) (hcv : ∀ l ∈ ls,l.curve.length < 2 ^ 62) (b : Bool) (ss : List Sec) (h3 : ss.length < 2 ^ 62) (b' : Bool) (q : List Sp) (h4 : q.length < 2 ^ 62) (o : Sp) :
  C 535 [.agg [slx b1 (ns.map aQ),slx b2 (ls.map ay)],slx b (ss.map aP),slx b' (q.map knD),.agg (knD o)] (.bool true) []:=by
 have k0:=u3 hC
 have k1:=A5 hC b1 b2 ns ls h1 h2
 have k2:=vF hC b ss h3
 have k3:=qy hC hS b1 b2 b b' ns ls ss q o h2 h3 h4 hcv
 have k4:=pE hC hS b1 b2 b b' ns ls ss q o h2 h3 h4 hcv
 have k5:=vR hC b1 b2 b b' ns ls ss q o h2 h3 h4
 refine ai hC (nf:=N535) rfl rfl ?_
 simp [N535,knD]
 refine aa k0 (.inl rfl) ?_
 simp
 refine aa k1 (.inl rfl) ?_
 by_cases c1 : xU ns ls=true
 ·simp [c1]
 simp [c1]
 refine aa k2 (.inl rfl) ?_
 by_cases c2 : xW ss=true
 ·simp [c2]
 simp [c2]
 by_cases c3 : (20 : Int) < q.length
 ·simp [c3]
 simp [c3]
 refine aa (by simpa [knD] using k3) (.inr (by simp)) ?_
 unfold pC at k5 ⊢
 by_cases h0 : cw ns ls ss q o=0
 ·rw [if_pos h0,h0] at k5
  rw [if_pos h0] at k4
  rw [if_pos h0,h0]
  have hnl:=(qu (qt h0) h0).1.trs.small
  generalize qY ns ls ss q o=sp at *
  have k6:=oG hC b1 b2 ns ls sp hnl
  have k7:=DP hC false false (lvT sp ns.length) (lvT sp ns.length) (by rw [cp];omega) (by rw [cp];omega)
  have k8:=fun hi=>AM hC false false (ik ns sp hi ns.length) (ik ns sp hi ns.length) (by have:=il ns sp hi ns.length;omega) (by have:=il ns sp hi ns.length;omega)
  simp only [ii] at k7 k8
  simp
  refine aa (by simpa [knD] using k4) (.inr (by simp)) ?_
  simp
  refine aa (by simpa [knD] using k5) (.inr (by simp)) ?_
  simp
  refine aa k6 (.inr (by simp)) ?_
  simp
  refine aa k7 (.inl rfl) ?_
  simp
  refine aa (k8 false) (.inl rfl) ?_
  simp
  refine aa (k8 true) (.inl rfl) ?_
  simp
 ·rw [if_neg h0] at k5 k4
  rw [if_neg h0]
  simp
  refine aa (by simpa [knD] using k4) (.inr (by simp)) ?_
  simp
  refine aa (by simpa [knD] using k5) (.inr (by simp)) ?_
  simp [h0]
end Go.Gv
