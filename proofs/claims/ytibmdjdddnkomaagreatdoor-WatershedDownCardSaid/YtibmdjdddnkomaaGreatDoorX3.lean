/-
  Texts of the proof: GvF6, GvF7, GvF8, GvF9, GvF10, GvF11, GvF12, GvF13, GvF14, GvF15, GvF16, GvF17, GvG, GvH, GvI0, GvI.
-/
import Derived.Test.YtibmdjdddnkomaaGreatDoorX2
import Derived.Test.YtibmdjdddnkomaaGreatDoorX1
import Derived.Orders
set_option linter.all false
namespace Go.Gv
open Go.RowKit
section
variable {P : Program} {F : Fid} {C : Nat -> List D -> D -> List D -> Prop} {nt : Nat} {S : Nat -> Prop} {L : Nat -> Option Loc} {w0 : World} {M0 : Mem} {f : Nat -> D} {M : Mem} {a : Act} {w w' : World} {o : Oper} {d : D} {Q : Exit -> Act -> World -> Prop} {ρ : Pa -> Loc} {ω : Nat -> Option Pa} {New : Nat -> Prop} {K : List (Nat × D) -> List (Nat × Bool) -> Prop}
theorem iS {t b : Nat} {d x : D} {q : Nat × D} (hq : isB q.2=true \/ q.2=.any) : eff [(t,d),(b,x)] [(b,true)] (eff [q] [] f)=eff [(t,d),(b,x),q] [(b,true)] f:=by
 funext s
 obtain ⟨c,y⟩:=q
 unfold eff
 by_cases e1 : s=t
 ·subst e1;simp
 ·have h1 : (s == t)=false:=by simpa using e1
  by_cases e2 : s=b
  ·subst e2;simp [x0e,h1]
  ·have h2 : (s == b)=false:=by simpa using e2
   by_cases e3 : s=c
   ·subst e3
    simp only [x0e,h1,h2,x0B,beq_self_eq_true]
    rcases hq with hq | hq
    ·rw [nh hq];rfl
    ·simp only at hq
     subst hq
     simp [aF,cz,aA]
   ·have h3 : (s == c)=false:=by simpa using e3
    simp only [x0e,h1,h2,h3,x0B,jQ,x0i,if_false]
theorem mV (p : Pa) : (cM f p).1=p.root:=by
 cases p with
 | r c=>rfl
 | n c i o =>
  simp only [cM,Pa.root]
  split <;> rfl
theorem se (p : Pa) : isB (cM f p).2=true \/ (cM f p).2=.any:=by
 cases p with
 | r c=>exact .inr rfl
 | n c i o =>
  simp only [cM]
  split
  ·exact .inl rfl
  ·exact .inr rfl
theorem tZ {b i off sz : Nat} {es : List (List D)} (hg : bm f (.n b i off)=some (sz,es)) : ∃ sz0 es0 row0,f b=.blk sz0 es0 /\ es0[i]? = some row0 /\ row0[off]? = some (.own sz es):=by
 simp only [bm] at hg
 split at hg
 ·rename_i sz' es' e
  split at hg
  ·rename_i sz2 r hr
   simp only [x0j,Prod.mk.injEq] at hg
   obtain ⟨rfl,rfl⟩:=hg
   cases hi : es'[i]? with
   | none=>rw [hi] at hr;simp at hr
   | some row =>
    rw [hi] at hr
    exact ⟨sz',es',row,e,hi,by simpa using hr⟩
  ·cases hg
 ·cases hg
theorem SR.leave (h : SR F nt S L w0 M0 f M a w) (ho : Own F L (fun k=>S k \/ w0.heap.size <= k) f M a w ρ ω) {p : Pa} {sz : Nat} {es : List (List D)} (hg : bm f p=some (sz,es)) (hch : Ch S w0 w') (hsz : w.heap.size <= w'.heap.size) (hholds : ∀ p v,M p=some v -> w'.cell? p=some v)
  (hk : ∀ k q,ω k=some q -> q ≠ p -> w'.heap[k]? = w.heap[k]?) : SR F nt S L w0 M0 (eff [cM f p] [] f) M a w' where
 hnt:=h.hnt
 size:=h.size
 defers:=h.defers
 ch:=hch
 holds:=hholds
 ext:=h.ext
 fresh:=h.fresh
 own:=by
  have hp:=cO ho hg
  obtain ⟨sz0,es0,hf⟩:=(ho.get hp hg).2
  have hlk : ∀ s,s ≠ p.root -> [cM f p].lookup s=none:=fun s hs=>by
   have:=cy (b:=(cM f p).1) (d:=(cM f p).2) (s:=s) (by rw [mV];exact hs)
   exact this
  refine ⟨ρ,ω,ho.step (ks:=[]) (fun p hp=>absurd rfl hp) (Mem.le_refl _) hsz (fun t ht=>.inl ?_) (fun c hc=>?_) (fun k q e=>.inl ⟨q,e⟩) ho.apart (fun c l hc hl hB=>⟨rfl,?_⟩)⟩
  ·rcases br (f:=f) (ks:=[]) (hlk t (by omega)) with h2 | h2
   ·exact .inl h2
   ·exact .inr ⟨h2.1,rfl,h2.2⟩
  ·by_cases e : c=p.root
   ·cases p with
    | r b =>
     left;left
     have e : c=b:=e
     subst e
     rw [aG (d:=.any) (by simp [cM])];rfl
    | n b i off =>
     have e : c=b:=e
     subst e
     right
     obtain ⟨sz1,es1,row0,hf1,hi0,ho0⟩:=tZ hg
     have hf1' : f c=.blk sz0 es0:=hf
     rw [hf1'] at hf1
     cases hf1
     have hdd : cM f (.n c i off)=(c,.blk sz0 (bC es0 i off 1 [.any])):=by simp only [cM,hf1']
     have hlt : off < row0.length:=(x0c.1 ho0).1
     refine .inl ⟨sz0,bC es0 i off 1 [.any],aG (by rw [hdd];simp),?_⟩
     rcases ho.roots c sz0 es0 hc hf1' with ⟨e0,_⟩ | ⟨hω,h0,vs,T,h1,h2,h3,h4,h5⟩
     ·rw [e0] at hi0;simp at hi0
     ·refine .inr ⟨hω,h0,vs,T,(hk _ _ hω (by simp)).trans h1,h2,by rw [dV];exact h3,ew h4 hi0 (by omega) rfl,fun i' r off' d hi hr=>?_⟩
      rcases ic hi0 (show off + 1 <= row0.length by omega) rfl hi hr with ⟨rfl,g1,g2,g3⟩ | ⟨g1,r0,g2,g3⟩
      ·have : off'=off:=by omega
       subst this
       simp at g3
       subst g3
       obtain ⟨v,k1,k2⟩:=h5 i' row0 off' _ hi0 ho0
       exact ⟨v,k1,by simp [bR,ac]⟩
      ·obtain ⟨v,k1,k2⟩:=h5 i' r0 off' d g2 g3
       exact ⟨v,k1,bR.frame k2 (Mem.le_refl _) ⟨rfl,fun e=>⟨e,hk _ _ e (by
        intro h;cases h
        exact g1 ⟨rfl,by omega,by omega⟩)⟩⟩⟩
   ·left
    rcases bD (f:=f) (ks:=[]) (hlk c e) with h1 | h1
    ·exact .inl h1
    ·exact .inr ⟨h1,fun q hq=>⟨rfl,fun e'=>⟨e',hk _ _ e' (by rintro rfl;exact e hq.symm)⟩⟩⟩
  ·by_cases e : c=p.root
   ·rw [e,hf];rfl
   ·rcases bD (f:=f) (ks:=[]) (hlk c e) with h1 | h1
    ·rw [hB] at h1;cases h1
    ·rw [<- h1];exact hB
theorem SR.newRow0 (h : SR F nt S L w0 M0 f M a w) {sz : Nat} {es' : List (List D)} {v : Value} (hu : ∀ e ∈ es',e.length=sz /\ ∀ c ∈ e,aW c=true) (hb : Bel w w') (hn : dI F M w w' sz es' v) {t b' : Nat} (ht : t < nt) (hb0 : 10000 <= b') (hL : L b'=none) :
  SR F nt S L w0 M0 (eff [(t,.ref (.r b') 0 es'.length),(b',.blk sz es')] [(b',true)] f) M (a.put (some t) v) w':=by
 obtain ⟨B,o,T,us,cap,rfl,hB,hh,hcap,⟨hlen,hmc⟩,hrep⟩:=hn
 have hle : o + es'.length * sz <= us.length:=by
  have:=x0n sz hcap
  omega
 exact h.makeAt (t:=t) (b:=b') (B:=B) (o:=o) (bs:=[]) (es:=es') (sz:=sz) (src:=fun _ _=>none) (vs:=us) (T:=T) (d:=.ref (.r b') 0 es'.length) (v:=.slice (some ⟨B,o,none⟩) es'.length cap) ht hb0 hL hb hB hh hle (fun e he=>(hu e he).1)
  (fun i r off c hi hr=>by
   obtain ⟨u,k1,k2⟩:=hrep i r off c hi hr
   exact ⟨u,k1,.inl ⟨dD ((hu r (x0b hi)).2 c (x0b hr)),k2⟩⟩) (fun _ _ _ _ _ e=>(by cases e)) (fun _ _ _ e=>(by cases e))
  (fun ρ M e=>by
   rw [am rfl]
   simp only [av,e]
   exact .inr ⟨cap,by simp,hcap,by simpa using hlen,hmc⟩)
theorem rq {b : Option Nat} {v : Value} (h : isO d=false) : Fy F M w b d v ↔ ac F M d v:=by
 cases d <;> first | exact Iff.rfl | (simp [isO] at h)
theorem rg (h : isV d=true) : isO d=false:=by
 cases d <;> first | rfl | (simp [isV] at h)
theorem fB (hO : Own F L New f M a w ρ ω) {p : Pa} {k n sz : Nat} {es : List (List D)} {v : Value} (hg : bm f p=some (sz,es)) (hkn : k + n <= es.length) (hv : av F M ρ (.ref p k n) v) (hfl : ∀ e ∈ (es.drop k).take n,∀ c ∈ e,isO c=false) :
  (∃ A,v=.slice A 0 0 /\ n=0) \/ ∃ (cap : Nat) (us : List Value) (T : TypeId),v=.slice (some ⟨(ρ p).blk,(ρ p).base + k * sz,none⟩) n cap /\ (n <= cap /\ cap <= 9223372036854775807) /\ (ρ p).base + k * sz + cap * sz <= (ρ p).len /\ ω (ρ p).blk=some p /\ (ρ p).sz=sz /\
   w.heap[(ρ p).blk]? = some (.cells us.toArray T (0,0)) /\ us.length=(ρ p).len /\ (∀ e ∈ es,e.length=sz) /\
   (∀ i r off d,((es.drop k).take n)[i]? = some r -> r[off]? = some d -> ∃ u,us[(ρ p).base + k * sz + i * sz + off]? = some u /\ ac F M d u):=by
 have hp:=cO hO hg
 obtain ⟨hpath,_⟩:=hO.get hp hg
 simp only [av] at hv
 rcases hv with ⟨h0,A,hv⟩ | ⟨cap,hv,hcap,hcl,hmc⟩
 ·exact .inl ⟨A,hv,h0⟩
 ·rcases hpath with ⟨e0,e1,e2,e3⟩ | ⟨hω,g0,us,T,g1,g2,g3,g4,g5⟩
  ·have hn0 : n=0:=by rw [e0] at hkn;simp at hkn;omega
   have hc0 : cap=0:=by
    rw [e1,e2] at hcl
    rcases x0N cap with h | h
    ·exact h
    ·have:=Nat.mul_pos (show 0 < k + cap by omega) e3;omega
   subst hc0
   exact .inl ⟨_,by rw [hv,hn0],hn0⟩
  ·have e1 : (k + cap) * sz=k * sz + cap * sz:=x0E _ _ _
   rw [g0,e1] at hcl
   refine .inr ⟨cap,us,T,by rw [hv,g0],⟨hcap,hmc⟩,by omega,hω,g0,g1,g2,g4,fun i r off d h1 h2=>?_⟩
   have hin : i < n:=by have:=(x0c.1 h1).1;simp at this;omega
   have hO':=hfl r (x0b h1) d (x0b h2)
   rw [x0A hin,x0r] at h1
   obtain ⟨u,k1,k2⟩:=g5 (k + i) r off d h1 h2
   refine ⟨u,?_,?_⟩
   ·rw [<- k1,x0E];congr 1;omega
   ·cases p with
    | r b =>
     have k2' : bR F M ω ρ w b (k + i) off d u:=k2
     rwa [aY hO'] at k2'
    | n b i' o'=>exact k2
theorem sR (hC : bz P F C) (h : SR F nt S L w0 M0 f M a w) {t : Nat} (hd : o.dst=some t) (ht : t < nt) (hL : L (rt t 0)=none) {g fi : Nat} {x : Opd} {xs : List Opd} {y : Operand} {ys : List Operand} {ts : Array TypeId} (ho : o.op=.call { callee:=.value (.func fi),args:=⟨y::ys⟩,argTypes:=ts }) (hx0 : aj F x y=true) (hx : bB F xs ys=true)
  (hg : F g=some fi) (hr : match vd f x with
   | .ref p k n=>match bm f p with
    | some (sz,es)=>k + n <= es.length /\ p.root ≠ rt t 0 /\ 0 < sz /\ (∀ e ∈ (es.drop k).take n,∀ c ∈ e,aW c=true) /\ (∀ x ∈ xs,kQ f p.root x) /\ ∃ es' : List (List D),(∀ e ∈ es',e.length=sz /\ ∀ c ∈ e,aW c=true) /\
      C g (.own sz ((es.drop k).take n)::xs.map (jz f)) .any [.own sz es',.nils,.nils] /\ K [(t,.ref (.r (rt t 0)) 0 es'.length),(rt t 0,.blk sz es'),cM f p] [(rt t 0,true)]
    | none=>False
   | _=>False) : o.wp P a w (PostX F nt S L w0 M0 f K) Q:=by
 split at hr
 ·rename_i p k n hvx
  split at hr
  ·rename_i sz es hgp
   obtain ⟨hkn,hpt,hsz,hfl,harg,es',hu,hc,hK⟩:=hr
   have hrun : (execOp a.eval o).run P w=(callFunc fi (a.eval y::ys.map a.eval).toArray).run P w:=by
    simp only [execOp,ho,resolve,Act.eval,Deferred.ofValue,Sem.run_bind,Sem.run_pure,Result.andThen_ok,invoke]
    congr 2
    rw [x1E,x1f]
    apply Array.ext'
    simp
    cases y <;> simp [Act.eval]
   obtain ⟨ρ,ω,hO⟩:=h.own
   have hp:=cO hO hgp
   have hv:=hO.opd hx0
   rw [hvx,am rfl] at hv
   have hargs : ∀ b : Option Nat,(∀ B,b=some B -> ω B=some p) -> lm F M w b (xs.map (jz f)) (ys.map a.eval):=by
    intro bo hbo
    have hx':=hx
    simp only [bB,x0a,x0k,x0f] at hx'
    refine ⟨by simpa using hx'.1,fun i d v h1 h2=>?_⟩
    rw [x0x,x0h] at h1 h2
    obtain ⟨x1,h1,rfl⟩:=h1
    obtain ⟨y1,h2,rfl⟩:=h2
    have hok : aj F x1 y1=true:=hx'.2 (x1,y1) (x1D.2 ⟨i,by rw [x1o];exact ⟨h1,h2⟩⟩)
    have hE:=harg x1 (x0b h1)
    have hV:=hO.opd hok
    have hP:=fun hh=>h.opd hok hh
    unfold kQ at hE
    unfold jz
    revert hE hV hP
    generalize vd f x1=d1
    intro hE hV hP
    cases d1 <;> first | exact (rq (rg hE)).2 (hP hE) | skip
    rename_i q k1 n1
    cases q with
    | n c i o=>simp [isV] at hE
    | r c =>
     simp only at hE ⊢
     obtain ⟨rfl,hcb,hE⟩:=hE
     split at hE
     ·rename_i sz1 es1 hfc
      obtain ⟨rfl,hfl1⟩:=hE
      have hg1 : bm f (.r c)=some (sz1,es1):=by simp [bm,hfc]
      have hq:=fB hO hg1 (by omega) hV (fun e he c hc=>by
       rw [List.drop_zero,List.take_length] at he
       exact dD (hfl1 e he c hc))
      show _ \/ _
      rcases hq with ⟨A,q1,q2⟩ | ⟨cap,us,T,q1,⟨q2,_⟩,q3,q4,q5,q6,q7,q8,q9⟩
      ·exact .inl ⟨x0v q2,A,q1⟩
      ·simp only [List.drop_zero,List.take_length,x1q,x1b] at q1 q3 q9
       refine .inr ⟨_,_,T,us,cap,q1,fun e=>?_,q6,q2,by rw [q7];exact q3,q9⟩
       have:=hbo _ e
       rw [q4] at this
       cases this
       exact hcb rfl
     ·exact hE.elim
   have hI:=hC.runsI g fi sz _ _ es' hg hc M w (ys.map a.eval) h.holds
   unfold Oper.wp
   rw [hrun,cu (hC.body g fi hg),Oper.upon_enter]
   have hWn : ((es.drop k).take n).length=n:=by simp;omega
   have hfst:=mV (f:=f) p
   have hsnd:=se (f:=f) p
   rw [hd]
   rcases fB hO hgp hkn hv (fun e he c hc=>dD (hfl e he c hc)) with ⟨A,hv,hn0⟩ | ⟨cap,us,T,hv,⟨hcap,hmc⟩,hcl,hω,g0,g1,g2,g4,g5⟩
   ·have e : (es.drop k).take n=[]:=x0v (by omega)
    have h0:=h.leave hO hgp h.ch (x0l _) h.holds (fun _ _ _ _=>rfl)
    rw [hv]
    refine (hI.1 e A (hargs none (fun B e=>by cases e))).mono ?_
    rintro e0 w' ⟨v,rfl,hw,⟨e',A',rfl⟩ | hn⟩
    ·refine ⟨_,_,M,hK,?_⟩
     subst e'
     rw [<- iS hsnd]
     exact (h0.grow hw).nilA ht hL hsz A'
    ·refine ⟨_,_,M,hK,?_⟩
     rw [<- iS hsnd]
     exact h0.newRow0 hu hw hn ht (rt_big t 0) hL
   ·rw [hv]
    have hMb : ∀ q : Addr,q.block=(ρ p).blk -> M q=none:=fun q hq=>hO.apart q p (by rw [hq];exact hω)
    have hnew:=hO.new _ _ hω
    have hblt:=hO.lt _ _ hω
    have hrun2:=hI.2 (ρ p).blk ((ρ p).base + k * sz) T us cap (hargs (some (ρ p).blk) (fun B e=>by cases e;exact hω)) hMb hblt g1 (by rw [hWn];exact hcap) hmc (by rw [g2];exact hcl) (fun e he=>g4 e (x1k (x0F he))) g5
    rw [hWn] at hrun2
    refine hrun2.mono ?_
    have away : ∀ w' : World,Ch (fun k=>k=(ρ p).blk) w w' -> ∃ w2 : World,Bel w2 w' /\ w2.heap.size=w.heap.size /\ SR F nt S L w0 M0 (eff [cM f p] [] f) M a w2:=by
     intro w' q4
     obtain ⟨B0,hB0⟩ : ∃ B0,B0=(ρ p).blk:=⟨_,rfl⟩
     rw [<- hB0] at q4 hblt
     obtain ⟨ob,q1⟩ : ∃ ob,w'.heap[B0]? = some ob:=⟨_,x08 (x1e hblt q4.size)⟩
     obtain ⟨w2,hw2⟩ : ∃ w2 : World,w2={ w with heap:=w.heap.setIfInBounds B0 ob }:=⟨_,rfl⟩
     have y1 : ∀ k,k ≠ B0 -> w2.heap[k]? = w.heap[k]?:=fun k hk=>by
      rw [hw2];simp only [x1s];rw [if_neg (Ne.symm hk)]
     have y2 : w2.heap[B0]? = some ob:=by
      rw [hw2];simp only [x1s];simp [hblt]
     have y3 : w2.heap.size=w.heap.size:=by rw [hw2];simp
     have c2 : Ch (fun k=>k=B0) w w2:=⟨by rw [hw2],by rw [hw2],by rw [hw2],Nat.le_of_eq y3.symm,fun k _ hk=>y1 k hk,by rw [hw2];exact x0l _⟩
     have hb2 : Bel w2 w':=⟨by rw [q4.os,hw2],by rw [q4.tape,hw2],by rw [q4.output,hw2],by rw [y3];exact q4.size,fun k hk=>by
      by_cases e : k=B0
      ·subst e;rw [y2,q1]
      ·rw [y1 k e];exact q4.block k (by rw [<- y3];exact hk) e,by have:=q4.drawn;rw [hw2];exact this⟩
     have hch2 : Ch S w0 w2:=h.ch.trans c2 (fun k hk e=>by rw [e,hB0];rw [e,hB0] at hk;rcases hnew with h7 | h7;exact h7;omega)
     have hh2 : ∀ p v,M p=some v -> w2.cell? p=some v:=fun q v hq=>by
      have hne : q.block ≠ B0:=fun e=>by rw [hMb q (by rw [e,hB0])] at hq;cases hq
      rw [World.cell?_of_block (y1 _ hne)]
      exact h.holds q v hq
     exact ⟨w2,hb2,y3,h.leave (w':=w2) hO hgp hch2 (Nat.le_of_eq y3.symm) hh2 (fun k' q hk' hq=>y1 k' (by rintro rfl;rw [hB0,hω] at hk';cases hk';exact hq rfl))⟩
    rintro e0 w' ⟨v,rfl,q4,⟨e',A',rfl⟩ | ⟨o2,cap2,T2,us',rfl,q1,hl,hmc2,hcl2,q3⟩ | hn⟩
    ·obtain ⟨w2,hb2,_,h0⟩:=away w' q4
     refine ⟨_,_,M,hK,?_⟩
     subst e'
     rw [<- iS hsnd]
     exact (h0.grow hb2).nilA ht hL hsz A'
    ·have hchS : Ch S w0 w':=h.ch.trans q4 (fun k hk e=>by rcases hnew with h7 | h7;rw [e];exact h7;omega)
     have hh : ∀ p v,M p=some v -> w'.cell? p=some v:=fun q v hq=>by
      have hne : q.block ≠ (ρ p).blk:=fun e=>by rw [hMb q e] at hq;cases hq
      have h8:=h.holds q v hq
      rw [World.cell?_of_block (q4.block _ (World.block_lt_of_cell? w q h8) hne)]
      exact h8
     have ht10 : t < 10000:=x1e ht h.hnt
     have hrb : 10000 <= rt t 0:=rt_big t 0
     have hpr : p.root ≠ t:=by omega
     have hrt : rt t 0 ≠ t:=by omega
     obtain ⟨dq,hdq⟩ : ∃ dq,dq=cM f p:=⟨_,rfl⟩
     rw [<- hdq] at hfst hsnd
     have lk : ∀ s,s ≠ t -> s ≠ rt t 0 -> s ≠ p.root -> [(t,D.ref (.r (rt t 0)) 0 es'.length),(rt t 0,.blk sz es'),dq].lookup s=none:=fun s s1 s2 s3=>by
      have e1 : (s == t)=false:=by simpa using s1
      have e2 : (s == rt t 0)=false:=by simpa using s2
      obtain ⟨c,y⟩:=dq
      simp only at hfst
      have e3 : (s == c)=false:=by rw [hfst];simpa using s3
      simp only [x0e,e1,e2,e3,x0B]
     have lkp : [(t,D.ref (.r (rt t 0)) 0 es'.length),(rt t 0,.blk sz es'),dq].lookup p.root=some dq.2:=by
      have e1 : (p.root == t)=false:=by simpa using hpr
      have e2 : (p.root == rt t 0)=false:=by simpa using hpt
      obtain ⟨c,y⟩:=dq
      simp only at hfst
      subst hfst
      simp only [x0e,e1,e2,beq_self_eq_true]
     have key:=h.app_core hO (f':=eff [(t,.ref (.r (rt t 0)) 0 es'.length),(rt t 0,.blk sz es'),dq] [(rt t 0,true)] f) (w':=w') (t:=t) (b:=rt t 0) (sz:=sz) (n:=es'.length) (m:=0) (rows:=es') (rowsY:=[]) (src:=some (p,k)) (inp:=true) (c2:=none)
      (l:=⟨(ρ p).blk,o2,sz,us'.length⟩) (nb:=none) (v:=.slice (some ⟨(ρ p).blk,o2,none⟩) es'.length cap2) ht hL rfl rfl (by simpa [aM] using hpt) (by simp) (fun c e=>by cases e)
      (aG (by simp)) (by
       rw [List.append_nil]
       refine aG ?_
       have e1 : (rt t 0 == t)=false:=by simpa using hrt
       simp [x0e,e1])
      (fun s hs hst=>br (lk s hst (by omega) (by omega)))
      (fun c hc hcb hcs _=>bD (lk c (by omega) hcb (by simpa [aM] using fun e : c=p.root=>hcs (by simp [aM,e]))))
      (fun c e=>by cases e)
      (fun c k' e=>by
       cases e
       have:=aG (f:=f) (ks:=[(rt t 0,true)]) lkp
       rw [hdq] at this ⊢
       exact this ▸ rfl)
      (fun c i o k' e=>by
       cases e
       obtain ⟨sz0,es0,row0,z1,z2,z3⟩:=tZ hgp
       refine ⟨sz0,es0,z1,?_,row0,z2,(x0c.1 z3).1⟩
       have:=aG (f:=f) (ks:=[(rt t 0,true)]) lkp
       rw [hdq] at this
       simp only [cM,z1] at this
       rw [hdq]
       simp only [cM,z1]
       exact this)
      (fun k e=>by cases e) q4.size hchS hh
      (fun k' q hk' hq=>q4.block k' (hO.lt _ _ hk') (by rintro rfl;rw [hω] at hk';cases hk';exact hq rfl rfl))
      (by simp only [av,if_true];exact .inr ⟨cap2,by simp,by simpa using hl,by simpa using hcl2,hmc2⟩)
      (.inr ⟨.inr ⟨rfl,p,k,rfl,hω,rfl⟩,rfl,us',T2,q1,rfl,(by
       have:=x0n sz hl
       simp only [x1b]
       omega),fun e he=>(hu e (by simpa using he)).1,fun i r off d h1 h2=>by
        obtain ⟨u,k1,k2⟩:=q3 i r off d h1 h2
        refine ⟨u,k1,?_⟩
        have hO':=dD ((hu r (x0b h1)).2 d (x0b h2))
        cases p with
        | r c=>show bR F M ω ρ w c _ off d u;rw [aY hO'];exact k2
        | n c i' o'=>exact ⟨hO',k2⟩,fun i r off d h1 _=>by simp at h1⟩)
     refine ⟨_,_,M,hK,?_⟩
     rw [hdq] at key
     exact key
    ·obtain ⟨w2,hb2,y3,h0⟩:=away w' q4
     have hn2 : dI F M w2 w' sz es' v:=by
      obtain ⟨B,o,T,us,cap,z1,z2,z3⟩:=hn
      exact ⟨B,o,T,us,cap,z1,by rw [y3];exact z2,z3⟩
     refine ⟨_,_,M,hK,?_⟩
     rw [<- iS hsnd]
     exact h0.newRow0 hu hb2 hn2 ht (rt_big t 0) hL
  ·exact hr.elim
 ·exact hr.elim
end
end Go.Gv

namespace Go.Gv
section
variable {P : Program} {F : Fid} {C : Nat -> List D -> D -> List D -> Prop} {nt : Nat} {S : Nat -> Prop} {L : Nat -> Option Loc} {w0 : World} {M0 : Mem} {f : Nat -> D} {M : Mem} {a : Act} {w : World} {o : Oper} {d : D} {Q : Exit -> Act -> World -> Prop} {ρ : Pa -> Loc} {ω : Nat -> Option Pa} {New : Nat -> Prop} {K : List (Nat × D) -> List (Nat × Bool) -> Prop}
def nj (ω : Nat -> Option Pa) (c : Nat) : Nat -> Option Pa:=fun k=>match ω k with
 | some p=>if p.root=c then some p else none
 | none=>none
theorem dO {c k : Nat} {p : Pa} (h : nj ω c k=some p) : ω k=some p /\ p.root=c:=by
 unfold nj at h
 split at h
 ·rename_i q hq
  split at h
  ·cases h
   exact ⟨hq,by assumption⟩
  ·cases h
 ·cases h
theorem lU {c k : Nat} {p : Pa} (h : ω k=some p) (hp : p.root=c) : nj ω c k=some p:=by
 simp only [nj,h,if_pos hp]
def fcE (f : Nat -> D) (c : Nat) : Nat -> D:=fun t=>if t=c then f t else .any
theorem Own.only (h : Own F L New f M a w ρ ω) {c : Nat} (hc : 10000 <= c) : Own F L New (fcE f c) M a w ρ (nj ω c):=by
 have hne : ∀ {t : Nat},t ≠ c -> fcE f c t=.any:=fun {t} ht=>by simp only [fcE,if_neg ht]
 have hcc : fcE f c c=f c:=by simp [fcE]
 refine h.step (ks:=[]) (fun p hp=>absurd rfl hp) (Mem.le_refl _) (x0l _) (fun t ht=>.inl (.inl (hne (by omega)))) (fun b hb=>?_) (fun k p e=>.inl ⟨p,(dO e).1⟩) (fun p q e=>h.apart p q (dO e).1) (fun b l hb hl hB=>?_)
 ·by_cases e : b=c
  ·subst e
   exact .inl (.inr ⟨hcc,fun p hp=>⟨rfl,fun hw=>⟨lU hw hp,rfl⟩⟩⟩)
  ·exact .inl (.inl (by rw [hne e];rfl))
 ·by_cases e : b=c
  ·subst e
   rw [hcc] at hB
   exact ⟨rfl,hB⟩
  ·rw [hne e] at hB;cases hB
end
end Go.Gv

namespace Go.Gv
section
variable {P : Program} {F : Fid} {C : Nat -> List D -> D -> List D -> Prop} {nt : Nat} {S : Nat -> Prop} {L : Nat -> Option Loc} {w0 : World} {M0 : Mem} {f : Nat -> D} {M : Mem} {a : Act} {w : World} {o : Oper} {d : D} {Q : Exit -> Act -> World -> Prop} {ρ : Pa -> Loc} {ω : Nat -> Option Pa} {New : Nat -> Prop} {K : List (Nat × D) -> List (Nat × Bool) -> Prop}
def lz : D -> Prop
 | .any=>True
 | .nils=>True
 | .ref _ _ _=>True
 | .blk _ es=>∀ r ∈ es,∀ c ∈ r,aW c=true
 | d=>aW d=true
theorem su {d : D} {v : Value} {M' : Mem} (hf : lz d) (hn : d ≠ .any) (hb : isB d=false) (h : a7 F M ρ d v) : a7 F M' ρ d v:=by
 cases d <;> simp only [lz] at hf <;> first | exact h | (simp [aW] at hf;done) | (simp [isB] at hb;done) | (rw [am rfl] at h ⊢;simp only [av] at h ⊢;exact eC hf h) | exact absurd rfl hn
theorem SR.flat (h : SR F nt S L w0 M0 f M a w) (hf : ∀ t,lz (f t)) (hsl : ∀ t,t < 10000 -> isB (f t)=false) : SR F nt S L w0 (fun _=>none) f (fun _=>none) a w where
 hnt:=h.hnt
 size:=h.size
 defers:=h.defers
 ch:=h.ch
 holds p v e:=by cases e
 ext:=Mem.le_refl _
 fresh p _ e:=absurd rfl e
 own:=by
  obtain ⟨ρ,ω,hO⟩:=h.own
  refine ⟨ρ,ω,⟨fun t ht=>?_,fun b sz es hb e=>?_,fun b kt et ks vs hb e=>?_,hO.lt,hO.new,fun _ _ _=>rfl,hO.lent⟩⟩
  ·rcases hO.slots t ht with h1 | ⟨v,h1,h2⟩
   ·exact .inl h1
   ·by_cases e : f t=.any
    ·exact .inl e
    ·exact .inr ⟨v,h1,su (hf t) e (hsl t ht) h2⟩
  ·have h1:=hO.roots b sz es hb e
   have h2:=hf b
   rw [e] at h2
   simp only [lz] at h2
   unfold cX bQ at h1 ⊢
   rcases h1 with h1 | ⟨h1,h3,vs,T,g1,g2,g3,g4,g5⟩
   ·exact .inl h1
   ·refine .inr ⟨h1,h3,vs,T,g1,g2,g3,g4,fun i r off d e1 e2=>?_⟩
    obtain ⟨v,k1,k2⟩:=g5 i r off d e1 e2
    have hf1:=h2 r (x0b e1) d (x0b e2)
    have k3 : bR F M ω ρ w b i off d v:=k2
    rw [aY (dD hf1)] at k3
    refine ⟨v,k1,?_⟩
    show bR F (fun _=>none) ω ρ w b i off d v
    rw [aY (dD hf1)]
    exact eC hf1 k3
  ·have h2:=hf b
   rw [e] at h2
   simp [lz,aW] at h2
end
end Go.Gv

namespace Go.Gv
open Go.RowKit
section
variable {P : Program} {F : Fid} {C : Nat -> List D -> D -> List D -> Prop} {nt : Nat} {S : Nat -> Prop} {L : Nat -> Option Loc} {w0 : World} {M0 : Mem} {f : Nat -> D} {M M' : Mem} {a : Act} {w w' : World} {o : Oper} {d : D} {Q : Exit -> Act -> World -> Prop} {ρ ρ' : Pa -> Loc} {ω ω' : Nat -> Option Pa} {New : Nat -> Prop} {K : List (Nat × D) -> List (Nat × Bool) -> Prop}
def Pa.to (c : Nat) : Pa -> Pa
 | .r _=>.r c
 | .n _ i o=>.n c i o
theorem Pa.to_root (c : Nat) (p : Pa) : (p.to c).root=c:=by cases p <;> rfl
theorem Pa.to_to (b c : Nat) (p : Pa) (h : p.root=b) : (p.to c).to b=p:=by cases p <;> simp only [Pa.root] at h <;> subst h <;> rfl
theorem cX.carry {b c sz : Nat} {es : List (List D)} (h : cX F M ω ρ w b sz es) (hM : M.le M') (hs : ∀ p : Pa,p.root=b -> ρ' (p.to c)=ρ p /\ (ω (ρ p).blk=some p -> ω' (ρ p).blk=some (p.to c) /\ w'.heap[(ρ p).blk]? = w.heap[(ρ p).blk]?)) : cX F M' ω' ρ' w' c sz es:=by
 have path : ∀ (p : Pa) (sz : Nat) (es : List (List D)) (R R' : Nat -> Nat -> D -> Value -> Prop),p.root=b -> bQ ω ρ w p sz es R -> (∀ i r off d v,es[i]? = some r -> r[off]? = some d -> R i off d v -> R' i off d v) -> bQ ω' ρ' w' (p.to c) sz es R':=by
  intro p sz es R R' hp h hR
  obtain ⟨e1,e2⟩:=hs p hp
  unfold bQ at h ⊢
  rw [e1]
  rcases h with h | ⟨h1,h2⟩
  ·exact .inl h
  ·obtain ⟨g1,g2⟩:=e2 h1
   exact .inr ⟨g1,h2.frame g2 hR⟩
 unfold cX at h ⊢
 refine path (.r b) sz es _ _ rfl h (fun i r off d v k1 k2 hr=>?_)
 cases d
 case own sz2 es2 =>
  obtain ⟨h1,h2⟩:=hr
  refine ⟨?_,path (.n b i off) sz2 es2 _ _ rfl h2 (fun _ _ _ d v _ _ hr=>ac.mono hM d v hr)⟩
  have:=(hs (.n b i off) rfl).1
  simp only [av,Pa.to] at h1 this ⊢
  rw [this]
  exact h1
 all_goals exact ac.mono hM _ _ hr
theorem SR.lendX (h : SR F nt S L w0 M0 f M a w) (hO : Own F L (fun k=>S k \/ w0.heap.size <= k) f M a w ρ ω) {b sz : Nat} {es es' : List (List D)} (hf : f b=.blk sz es) (hb : 10000 <= b) (hω : ω (ρ (.r b)).blk=some (.r b)) {ρ1 : Pa -> Loc} {ω1 : Nat -> Option Pa}
  (hρ1 : ∀ p : Pa,p.root=b -> ρ1 (p.to ao)=ρ p) (hω1 : ∀ k q,ω1 k=some q ↔ ∃ p : Pa,ω k=some p /\ p.root=b /\ q=p.to ao)
  (hch : Ch (fun k=>∃ p,ω1 k=some p) w w') (hM : M.le M') (hfr : ∀ p,M p=none -> M' p ≠ none -> (∃ q,ω1 p.block=some q) \/ w.heap.size <= p.block) (hh : ∀ p v,M' p=some v -> w'.cell? p=some v)
  (hρ' : ρ' (.r ao)=ρ1 (.r ao)) (hl : my F M' w' ρ' ω' ao sz es') (hnew : ∀ k p,ω' k=some p -> (∃ q,ω1 k=some q) \/ w.heap.size <= k)
  {dst : Option Nat} (ht : ∀ t,dst=some t -> t < nt) {v : Value} (hv : ac F M' d v) :
  ∃ ρ2 ω2,(∀ p : Pa,p.root=b -> ρ2 p=ρ' (p.to ao)) /\ (∀ p : Pa,p.root ≠ b -> ρ2 p=ρ p) /\ Own F L (fun k=>S k \/ w0.heap.size <= k) (eff (bU dst d++[(b,.blk sz es')]) [(b,false)] f) M' (a.put dst v) w' ρ2 ω2 /\ SR F nt S L w0 M0 (eff (bU dst d++[(b,.blk sz es')]) [(b,false)] f) M' (a.put dst v) w':=by
 have hS1 : ∀ k q,ω1 k=some q -> ∃ p,ω k=some p /\ p.root=b:=fun k q e=>by
  obtain ⟨p,h1,h2,_⟩:=(hω1 k q).1 e
  exact ⟨p,h1,h2⟩
 have other : ∀ k p,ω k=some p -> p.root ≠ b -> (∀ q,ω1 k ≠ some q) /\ ω' k=none /\ w'.heap[k]? = w.heap[k]?:=fun k p e hp=>by
  have h1 : ∀ q,ω1 k ≠ some q:=fun q e1=>by
   obtain ⟨p',h1,h2⟩:=hS1 k q e1
   rw [e] at h1;cases h1;exact hp h2
  refine ⟨h1,?_,hch.block k (hO.lt _ _ e) (fun ⟨q,e1⟩=>h1 q e1)⟩
  cases e2 : ω' k with
  | none=>rfl
  | some q =>
   rcases hnew k q e2 with ⟨q,e1⟩ | h2
   ·exact absurd e1 (h1 q)
   ·have:=hO.lt _ _ e;omega
 obtain ⟨ρ2,hρ2⟩ : ∃ ρ2 : Pa -> Loc,ρ2=fun p=>if p.root=b then ρ' (p.to ao) else ρ p:=⟨_,rfl⟩
 obtain ⟨ω2,hω2⟩ : ∃ ω2 : Nat -> Option Pa,ω2=fun k=>match ω' k with
  | some q=>some (q.to b)
  | none=>match ω k with
   | some p=>if p.root=b then none else some p
   | none=>none:=⟨_,rfl⟩
 have r1 : ∀ p : Pa,p.root=b -> ρ2 p=ρ' (p.to ao):=fun p hp=>by rw [hρ2];simp only [if_pos hp]
 have r2 : ∀ p : Pa,p.root ≠ b -> ρ2 p=ρ p:=fun p hp=>by rw [hρ2];simp only [if_neg hp]
 have o1 : ∀ k q,ω' k=some q -> ω2 k=some (q.to b):=fun k q e=>by rw [hω2];simp only [e]
 have o2 : ∀ k p,ω k=some p -> p.root ≠ b -> ω2 k=some p:=fun k p e hp=>by rw [hω2];simp only [(other k p e hp).2.1,e,if_neg hp]
 have o3 : ∀ k p,ω2 k=some p -> (∃ q,ω' k=some q /\ p=q.to b) \/ (ω k=some p /\ p.root ≠ b):=fun k p e=>by
  rw [hω2] at e
  simp only at e
  cases e1 : ω' k with
  | some q=>rw [e1] at e;cases e;exact .inl ⟨q,rfl,rfl⟩
  | none =>
   rw [e1] at e
   simp only at e
   cases e2 : ω k with
   | none=>rw [e2] at e;cases e
   | some p' =>
    rw [e2] at e
    simp only at e
    split at e
    ·cases e
    ·cases e;exact .inr ⟨rfl,by assumption⟩
 have hrb : ρ2 (.r b)=ρ (.r b):=by
  rw [r1 (.r b) rfl]
  show ρ' (.r ao)=_
  rw [hρ',<- hρ1 (.r b) rfl]
  rfl
 have hfb : eff (bU dst d++[(b,.blk sz es')]) [(b,false)] f b=.blk sz es':=aG (by
  cases dst with
  | none=>simp [bU]
  | some t =>
   have : (b == t)=false:=by have:=ht t rfl;have:=h.hnt;simp;omega
   simp [bU,x0e,this])
 have lk : ∀ s,s ≠ b -> dst ≠ some s -> (bU dst d++[(b,D.blk sz es')]).lookup s=none:=fun s h1 h2=>by
  have e1 : (s == b)=false:=by simpa using h1
  cases dst with
  | none=>simp only [bU,x1d,x0e,e1,x0B]
  | some t =>
   have e2 : (s == t)=false:=by simp;rintro rfl;exact h2 rfl
   simp only [bU,x06,x1d,x0e,e1,e2,x0B]
 have hsize : (a.put dst v).tmps.size=nt:=by cases dst <;> simp [Act.put,h.size]
 have main : Own F L (fun k=>S k \/ w0.heap.size <= k) (eff (bU dst d++[(b,.blk sz es')]) [(b,false)] f) M' (a.put dst v) w' ρ2 ω2 -> SR F nt S L w0 M0 (eff (bU dst d++[(b,.blk sz es')]) [(b,false)] f) M' (a.put dst v) w':=fun own =>
  ⟨h.hnt,hsize,by cases dst <;> simp [Act.put,h.defers],h.ch.trans hch (fun k hk ⟨q,e⟩=>by
   obtain ⟨p,e1,_⟩:=hS1 k q e
   rcases hO.new _ _ e1 with h3 | h3
   ·exact h3
   ·omega),hh,Mem.le_trans h.ext hM,fun p h1 h2=>by
   by_cases e : M p=none
   ·rcases hfr p e h2 with ⟨q,e1⟩ | h3
    ·obtain ⟨p',e2,_⟩:=hS1 _ q e1
     exact hO.new _ _ e2
    ·exact .inr (x1u h.ch.size h3)
   ·exact h.fresh p h1 e,ρ2,ω2,own⟩
 refine ⟨ρ2,ω2,r1,r2,(fun x=>⟨x,main x⟩) ?_⟩
 ·refine hO.step (ks:=[(b,false)]) (fun p hp=>?_) hM hch.size (fun s hs=>?_) (fun c hc=>?_) (fun k p e=>?_) (fun p q e=>?_) (fun c l hc hl' hB=>?_)
  ·refine ⟨(b,false),by simp,?_⟩
   by_cases e : p.root=b
   ·cases p with
    | r x =>
     simp only [Pa.root] at e
     subst e
     exact absurd hrb hp
    | n x i off =>
     simp only [Pa.root] at e
     subst e
     simp [bg]
   ·exact absurd (r2 p e) hp
  ·by_cases e : dst=some s
   ·right
    have hst:=ht s e
    subst e
    have e1 : eff (bU (some s) d++[(b,.blk sz es')]) [(b,false)] f s=d:=aG (by simp [bU])
    refine .inr ⟨v,getElem?_put_same (by rw [h.size];exact hst),?_⟩
    rw [e1]
    exact a7.of_pure hv
   ·left
    rcases br (f:=f) (ks:=[(b,false)]) (lk s (by omega) e) with h1 | h1
    ·exact .inl h1
    ·refine .inr ⟨h1.1,?_,h1.2⟩
     cases dst with
     | none=>rfl
     | some t=>exact getElem?_put (fun x=>e (by rw [x]))
  ·by_cases e : c=b
   ·subst e
    right
    refine .inl ⟨sz,es',hfb,hl.rows.carry (Mem.le_refl _) (fun p hp=>?_)⟩
    have e1 : ρ2 (p.to c)=ρ' p:=by rw [r1 _ (Pa.to_root _ _),Pa.to_to ao c p hp]
    exact ⟨e1,fun e2=>⟨o1 _ _ e2,rfl⟩⟩
   ·left
    rcases bD (f:=f) (ks:=[(b,false)]) (lk c e (fun x=>by have:=ht c x;have:=h.hnt;omega)) with h1 | h1
    ·exact .inl h1
    ·refine .inr ⟨h1,fun p hp=>?_⟩
     have hpb : p.root ≠ b:=by rw [hp];exact e
     exact ⟨r2 p hpb,fun hw=>⟨o2 _ _ hw hpb,(other _ _ hw hpb).2.2⟩⟩
  ·rcases o3 k p e with ⟨q,e1,_⟩ | ⟨e1,_⟩
   ·rcases hnew k q e1 with ⟨q',e2⟩ | h2
    ·obtain ⟨p',e3,_⟩:=hS1 k q' e2
     exact .inl ⟨p',e3⟩
    ·exact .inr ⟨hl.lt k q e1,.inr (x1u h.ch.size h2)⟩
   ·exact .inl ⟨p,e1⟩
  ·rcases o3 _ q e with ⟨q',e1,_⟩ | ⟨e1,e2⟩
   ·exact hl.apart p q' e1
   ·have h1:=hO.apart p q e1
    cases e3 : M' p with
    | none=>rfl
    | some u =>
     rcases hfr p h1 (by rw [e3];simp) with ⟨q',e4⟩ | h4
     ·exact absurd e4 ((other _ _ e1 e2).1 q')
     ·have:=hO.lt _ _ e1;omega
  ·by_cases e : c=b
   ·subst e
    exact ⟨hrb,by rw [hf];rfl⟩
   ·have hcb : (Pa.r c).root ≠ b:=e
    refine ⟨r2 _ hcb,?_⟩
    rcases bD (f:=f) (ks:=[(b,false)]) (lk c e (fun x=>by have:=ht c x;have:=h.hnt;omega)) with h1 | h1
    ·rw [hB] at h1;cases h1
    ·rw [<- h1];exact hB
theorem SR.lend (h : SR F nt S L w0 M0 f M a w) (hO : Own F L (fun k=>S k \/ w0.heap.size <= k) f M a w ρ ω) {b sz : Nat} {es es' : List (List D)} (hf : f b=.blk sz es) (hb : 10000 <= b) (hω : ω (ρ (.r b)).blk=some (.r b)) {ρ1 : Pa -> Loc} {ω1 : Nat -> Option Pa}
  (hρ1 : ∀ p : Pa,p.root=b -> ρ1 (p.to ao)=ρ p) (hω1 : ∀ k q,ω1 k=some q ↔ ∃ p : Pa,ω k=some p /\ p.root=b /\ q=p.to ao)
  (hch : Ch (fun k=>∃ p,ω1 k=some p) w w') (hM : M.le M') (hfr : ∀ p,M p=none -> M' p ≠ none -> (∃ q,ω1 p.block=some q) \/ w.heap.size <= p.block) (hh : ∀ p v,M' p=some v -> w'.cell? p=some v)
  (hρ' : ρ' (.r ao)=ρ1 (.r ao)) (hl : my F M' w' ρ' ω' ao sz es') (hnew : ∀ k p,ω' k=some p -> (∃ q,ω1 k=some q) \/ w.heap.size <= k)
  {dst : Option Nat} (ht : ∀ t,dst=some t -> t < nt) {v : Value} (hv : ac F M' d v) :
  SR F nt S L w0 M0 (eff (bU dst d++[(b,.blk sz es')]) [(b,false)] f) M' (a.put dst v) w':=by
 obtain ⟨_,_,_,_,_,hs⟩:=h.lendX hO hf hb hω hρ1 hω1 hch hM hfr hh hρ' hl hnew ht hv
 exact hs
end
end Go.Gv

namespace Go.Gv
open Go.RowKit
section
variable {P : Program} {F : Fid} {C : Nat -> List D -> D -> List D -> Prop} {nt : Nat} {S : Nat -> Prop} {L : Nat -> Option Loc} {w0 : World} {M0 : Mem} {f : Nat -> D} {M M' : Mem} {a : Act} {w w' : World} {o : Oper} {d : D} {Q : Exit -> Act -> World -> Prop} {ρ ρ' : Pa -> Loc} {ω ω' : Nat -> Option Pa} {New : Nat -> Prop} {K : List (Nat × D) -> List (Nat × Bool) -> Prop}
theorem pf (p : Pa) : bg p.root true p=true:=by cases p <;> simp [bg,Pa.root]
theorem iC {t i b : Nat} {x d : D} (h : (b,x) ∈ cR t i d) : b=rt t i /\ ∃ sz es,x=.blk sz es /\ ∀ t',(rt t' i,x) ∈ cR t' i d:=by
 cases d <;> simp only [cR,x0I,x07,or_false,Prod.mk.injEq] at h
 all_goals exact ⟨h.1,_,_,h.2,fun t'=>by rw [h.2];simp [cR]⟩
theorem iD {t b : Nat} {x : D} : ∀ {ds : List D} {i : Nat},(b,x) ∈ bM t i ds -> ∃ j,i <= j /\ j < i + ds.length /\ b=rt t j /\ ∃ sz es,x=.blk sz es /\ ∀ t',(rt t' j,x) ∈ bM t' i ds
 | [],_,h=>by simp [bM] at h
 | d::ds,i,h=>by
  simp only [bM,x0m] at h
  rcases h with h | h
  ·obtain ⟨e,sz,es,e2,h2⟩:=iC h
   exact ⟨i,x0l _,by simp,e,sz,es,e2,fun t'=>by simp only [bM,x0m];exact .inl (h2 t')⟩
  ·obtain ⟨j,h1,h2,e,sz,es,e2,h3⟩:=iD h
   exact ⟨j,by omega,by simp;omega,e,sz,es,e2,fun t'=>by simp only [bM,x0m];exact .inr (h3 t')⟩
theorem gy {t b : Nat} {x y : D} : ∀ {ds : List D} {i : Nat},(b,x) ∈ bM t i ds -> (b,y) ∈ bM t i ds -> x=y
 | [],_,h,_=>by simp [bM] at h
 | d::ds,i,h,h'=>by
  simp only [bM,x0m] at h h'
  have far : ∀ {z : D},(b,z) ∈ bM t (i + 1) ds -> b ≠ rt t i:=fun hz e=>by
   obtain ⟨j,h1,_,e2,_⟩:=iD hz
   rw [e] at e2
   unfold rt at e2
   omega
  rcases h with h | h <;> rcases h' with h' | h'
  ·cases d <;> simp only [cR,x0I,x07,or_false,Prod.mk.injEq] at h h'
   all_goals rw [h.2,h'.2]
  ·exact absurd (iC h).1 (far h')
  ·exact absurd (iC h').1 (far h)
  ·exact gy h h'
theorem uh {b : Nat} {x : D} : ∀ {l : List (Nat × D)},(∀ y,(b,y) ∈ l -> y=x) -> (b,x) ∈ l -> l.lookup b=some x
 | [],_,h=>by simp at h
 | (c,y)::l,hu,h=>by
  by_cases e : b=c
  ·subst e
   rw [hu y (by simp)]
   simp
  ·have e1 : (b == c)=false:=by simpa using e
   simp only [x0e,e1]
   refine uh (fun y hy=>hu y (by simp [hy])) ?_
   rcases x0I.1 h with h | h
   ·cases h;exact absurd rfl e
   ·exact h
theorem ui {b : Nat} : ∀ {l : List (Nat × D)},(∀ y,(b,y) ∉ l) -> l.lookup b=none
 | [],_=>rfl
 | (c,y)::l,h=>by
  have e : b ≠ c:=fun e=>h y (by simp [e])
  have e1 : (b == c)=false:=by simpa using e
  simp only [x0e,e1]
  exact ui fun y hy=>h y (by simp [hy])
theorem sy {t b : Nat} {x R : D} (hok : okR R=true) (h : (b,x) ∈ bT t R) : ∃ j,1 <= j /\ j <= 14 /\ b=rt t j /\ ∃ sz es,x=.blk sz es /\ ∀ t',(rt t' j,x) ∈ bT t' R:=by
 obtain ⟨j,h1,h2,h3,h4⟩:=iD h
 refine ⟨j,h1,?_,h3,h4⟩
 have : (jV R).length <= 14:=by
  cases R <;> simp only [okR,x0a,x0g,x0i] at hok <;> first | exact hok.1 | simp [jV]
 omega
end
end Go.Gv

namespace Go.Gv
section
variable {P : Program} {F : Fid} {C : Nat -> List D -> D -> List D -> Prop} {nt : Nat} {S : Nat -> Prop} {L : Nat -> Option Loc} {w0 : World} {M0 : Mem} {f : Nat -> D} {M : Mem} {a : Act} {w : World} {o : Oper} {d : D} {Q : Exit -> Act -> World -> Prop} {ρ : Pa -> Loc} {ω : Nat -> Option Pa} {New : Nat -> Prop} {K : List (Nat × D) -> List (Nat × Bool) -> Prop}
end
end Go.Gv
namespace Go.Gv
section
variable {P : Program} {F : Fid} {C : Nat -> List D -> D -> List D -> Prop} {nt : Nat} {S : Nat -> Prop} {L : Nat -> Option Loc} {w0 : World} {M0 : Mem} {f : Nat -> D} {M : Mem} {a : Act} {w : World} {o : Oper} {d : D} {Q : Exit -> Act -> World -> Prop} {ρ : Pa -> Loc} {ω : Nat -> Option Pa} {New : Nat -> Prop} {K : List (Nat × D) -> List (Nat × Bool) -> Prop}
theorem lG {t : Nat} : ∀ {ds : List D} {i j : Nat},(cq t i ds)[j]? = (ds[j]?).map (gx t (i + j))
 | [],i,j=>by simp [cq]
 | d::ds,i,j=>by
  cases j with
  | zero=>simp [cq]
  | succ j =>
   simp only [cq,x1i]
   rw [lG,show i + 1 + j=i + (j + 1) by omega]
theorem lH {t : Nat} : ∀ {ds : List D} {i : Nat},(cq t i ds).length=ds.length
 | [],i=>rfl
 | d::ds,i=>by simp [cq,lH]
theorem kC {t b : Nat} {x : D} : ∀ {ds : List D} {i : Nat},(b,x) ∈ bM t i ds -> ∃ j d,ds[j]? = some d /\ (b,x) ∈ cR t (i + j) d
 | [],i,h=>by simp [bM] at h
 | d::ds,i,h=>by
  simp only [bM,x0m] at h
  rcases h with h | h
  ·exact ⟨0,d,by simp,h⟩
  ·obtain ⟨j,d',h1,h2⟩:=kC h
   exact ⟨j + 1,d',by simpa using h1,by rwa [show i + (j + 1)=i + 1 + j by omega]⟩
theorem kD {t b : Nat} {x : D} : ∀ {ds : List D} {i j : Nat} {d : D},ds[j]? = some d -> (b,x) ∈ cR t (i + j) d -> (b,x) ∈ bM t i ds
 | [],i,j,d,h,_=>by simp at h
 | d0::ds,i,j,d,h,hx=>by
  simp only [bM,x0m]
  cases j with
  | zero=>simp at h;subst h;exact .inl hx
  | succ j=>exact .inr (kD (j:=j) (by simpa using h) (by rwa [show i + (j + 1)=i + 1 + j by omega] at hx))
theorem lJ {t j sz : Nat} {ds : List D} {es : List (List D)} (h : ds[j]? = some (.own sz es)) : (rt t (1 + j),D.blk sz es) ∈ bM t 1 ds:=kD h (by simp [cR])
theorem SR.unpack (h : SR F nt S L w0 M0 f M a w) (hL : ∀ t i,i < 15 -> L (rt t i)=none) {t : Nat} (ht : t < nt) {c sz : Nat} {row : List D} (hg : f c=.blk sz [row]) (hok : okR (.agg row)=true) (hcn : ∀ x,(c,x) ∉ bT t (.agg row)) {v : Value}
  (hv : ∀ ρ ω,Own F L (fun k=>S k \/ w0.heap.size <= k) f M a w ρ ω -> ∃ vs : List Value,v=.agg vs.toArray /\ vs.length=row.length /\ ∀ (j : Nat) (d : D) (u : Value),row[j]? = some d -> vs[j]? = some u -> bR F M ω ρ w c 0 j d u) :
  SR F nt S L w0 M0 (eff ((t,kA t (.agg row))::(c,.any)::bT t (.agg row)) (kB t (.agg row)) f) M (a.put (some t) v) w:=by
 obtain ⟨ρ,ω,hO⟩:=h.own
 obtain ⟨vs,hv1,hv2,hv3⟩:=hv ρ ω hO
 have hc10 : 10000 <= c:=hO.big hg
 have ht10 : t < 10000:=x1e ht h.hnt
 have hct0 : c ≠ t:=by omega
 obtain ⟨R,hR⟩ : ∃ R,R=D.agg row:=⟨_,rfl⟩
 rw [<- hR] at hok hcn ⊢
 have mem : ∀ b,((bT t R).any fun q=>q.1 == b)=true ↔ ∃ x,(b,x) ∈ bT t R:=fun b=>by
  simp only [x0y,x0k]
  constructor
  ·rintro ⟨⟨c,x⟩,h1,rfl⟩;exact ⟨x,h1⟩
  ·rintro ⟨x,h1⟩;exact ⟨(b,x),h1,rfl⟩
 have inR : ∀ j sz es,row[j]? = some (.own sz es) -> (rt t (1 + j),D.blk sz es) ∈ bT t R:=fun j sz es hj=>by
  rw [hR];exact lJ hj
 have ofR : ∀ b x,(b,x) ∈ bT t R -> ∃ j sz es,b=rt t (1 + j) /\ row[j]? = some (.own sz es) /\ x=.blk sz es:=fun b x hx=>by
  rw [hR] at hx
  obtain ⟨j,d,hj,hd⟩:=kC hx
  have hj' : j < vs.length:=by rw [hv2];exact (x0c.1 hj).1
  have hcell:=hv3 j d _ hj (x0d hj')
  cases d <;> simp only [cR,x0I,x07,or_false,Prod.mk.injEq] at hd
  case own sz es=>exact ⟨j,sz,es,hd.1,hj,hd.2⟩
  case blk sz es=>simp [bR,ac] at hcell
 obtain ⟨ρ2,hρ2⟩ : ∃ ρ2 : Pa -> Loc,ρ2=fun p=>match p with
  | .r b=>if ((bT t R).any fun q=>q.1 == b)=true then ρ (.n c 0 (b - rt t 1)) else ρ p
  | .n _ _ _=>ρ p:=⟨_,rfl⟩
 obtain ⟨ω2,hω2⟩ : ∃ ω2 : Nat -> Option Pa,ω2=fun k=>match ω k with
  | some p=>if p.root=c then (match p with
    | .n _ i o=>if i=0 /\ ((bT t R).any fun q=>q.1 == rt t (1 + o))=true then some (.r (rt t (1 + o))) else none
    | .r _=>none) else if ((bT t R).any fun q=>q.1 == p.root)=true then none else some p
  | none=>none:=⟨_,rfl⟩
 have r1 : ∀ j x,(rt t (1 + j),x) ∈ bT t R -> ρ2 (.r (rt t (1 + j)))=ρ (.n c 0 j):=fun j x hx=>by
  rw [hρ2];simp only [(mem _).2 ⟨x,hx⟩,if_true]
  have : rt t (1 + j) - rt t 1=j:=by unfold rt;omega
  rw [this]
 have r2 : ∀ p : Pa,¬ (∃ x,(p.root,x) ∈ bT t R) -> ρ2 p=ρ p:=fun p hp=>by
  rw [hρ2]
  cases p with
  | r b =>
   have : ¬ ((bT t R).any fun q=>q.1 == b)=true:=fun e=>hp ((mem _).1 e)
   simp only [if_neg this]
  | n b i o=>rfl
 have o1 : ∀ k j x,ω k=some (.n c 0 j) -> (rt t (1 + j),x) ∈ bT t R -> ω2 k=some (.r (rt t (1 + j))):=fun k j x e hx=>by
  rw [hω2];simp only [e,Pa.root,if_true,(mem _).2 ⟨x,hx⟩,and_self]
 have o2 : ∀ k p,ω k=some p -> p.root ≠ c -> ¬ (∃ x,(p.root,x) ∈ bT t R) -> ω2 k=some p:=fun k p e hpc hp=>by
  have : ¬ ((bT t R).any fun q=>q.1 == p.root)=true:=fun e=>hp ((mem _).1 e)
  rw [hω2];simp only [e,if_neg hpc,if_neg this]
 have o3 : ∀ k p,ω2 k=some p -> ∃ q,ω k=some q:=fun k p e=>by
  rw [hω2] at e
  simp only at e
  cases e1 : ω k with
  | some q=>exact ⟨q,rfl⟩
  | none=>rw [e1] at e;cases e
 have lkn : ∀ s,s ≠ t -> s ≠ c -> ¬ (∃ x,(s,x) ∈ bT t R) -> ((t,kA t R)::(c,D.any)::bT t R).lookup s=none:=fun s h1 h2 h3=>by
  have e1 : (s == t)=false:=by simpa using h1
  have e2 : (s == c)=false:=by simpa using h2
  simp only [x0e,e1,e2]
  exact ui fun y hy=>h3 ⟨y,hy⟩
 have small : ∀ s,s < 10000 -> ¬ (∃ x,(s,x) ∈ bT t R):=fun s hs ⟨x,hx⟩=>by
  obtain ⟨j,_,_,h3,_⟩:=ofR s x hx
  unfold rt at h3;omega
 refine ⟨h.hnt,by simp [Act.put,h.size],by simp [Act.put,h.defers],h.ch,h.holds,h.ext,h.fresh,ρ2,ω2,hO.step (ks:=kB t R) (fun p hp=>?_) (Mem.le_refl _) (x0l _) (fun s hs=>?_) (fun b hb=>?_) (fun k p e=>.inl (o3 k p e)) (fun p q e=>?_) (fun b l hb hl hB=>?_)⟩
 ·by_cases e : ∃ x,(p.root,x) ∈ bT t R
  ·obtain ⟨x,hx⟩:=e
   exact ⟨(p.root,true),x0q.2 ⟨_,hx,rfl⟩,pf p⟩
  ·exact absurd (r2 p e) hp
 ·by_cases e : s=t
  ·right
   subst e
   have e1 : eff ((s,kA s R)::(c,D.any)::bT s R) (kB s R) f s=kA s R:=aG (by simp)
   refine .inr ⟨v,getElem?_put_same (by rw [h.size];exact ht),?_⟩
   rw [e1,hR]
   refine ⟨vs,hv1,by rw [lH];exact hv2.symm,fun j d u h1 h2=>?_⟩
   rw [lG,x0h] at h1
   obtain ⟨d',h1,rfl⟩:=h1
   have hcell:=hv3 j d' u h1 h2
   cases d'
   case own sz' es' =>
    simp only [gx,av]
    rw [r1 j _ (inR j _ _ h1)]
    exact hcell.1
   all_goals first | exact av.of_pure hcell | (simp [bR,ac] at hcell;done)
  ·left
   rcases br (f:=f) (ks:=kB t R) (lkn s e (by omega) (small s hs)) with h1 | h1
   ·exact .inl h1
   ·exact .inr ⟨h1.1,getElem?_put e,h1.2⟩
 ·by_cases e : ∃ x,(b,x) ∈ bT t R
  ·obtain ⟨x,hx⟩:=e
   obtain ⟨j,sz',es',h3,h4,rfl⟩:=ofR b x hx
   right
   have hct : (b == t)=false:=by simp;omega
   have hbc : b ≠ c:=fun e=>hcn _ (e ▸ hx)
   have hct2 : (b == c)=false:=by simpa using hbc
   have hlk : ((t,kA t R)::(c,D.any)::bT t R).lookup b=some (.blk sz' es'):=by
    simp only [x0e,hct,hct2]
    exact uh (fun y hy=>(gy hx hy).symm) hx
   refine .inl ⟨sz',es',aG hlk,?_⟩
   have hj' : j < vs.length:=by rw [hv2];exact (x0c.1 h4).1
   have hcell:=hv3 j _ _ h4 (x0d hj')
   subst h3
   have e1:=r1 j _ hx
   unfold cX bQ
   rw [e1]
   rcases hcell.2 with h5 | ⟨h5,h6,us,T,g1,g2,g3,g4,g5⟩
   ·exact .inl h5
   ·refine .inr ⟨o1 _ j _ h5 hx,h6,us,T,g1,g2,g3,g4,fun i r off d k1 k2=>?_⟩
    obtain ⟨u,k3,k4⟩:=g5 i r off d k1 k2
    refine ⟨u,k3,?_⟩
    cases d
    case own=>simp [ac] at k4
    all_goals exact k4
  ·by_cases ebc : b=c
   ·subst ebc
    refine .inl (.inl ?_)
    have hct : (b == t)=false:=by simp;omega
    rw [aG (d:=.any) (by simp [x0e,hct])]
    rfl
   ·left
    rcases bD (f:=f) (ks:=kB t R) (lkn b (by omega) ebc e) with h1 | h1
    ·exact .inl h1
    ·refine .inr ⟨h1,fun p hp=>?_⟩
     have hpe : ¬ (∃ x,(p.root,x) ∈ bT t R):=by rw [hp];exact e
     exact ⟨r2 p hpe,fun hw=>⟨o2 _ _ hw (by rw [hp];exact ebc) hpe,rfl⟩⟩
 ·obtain ⟨q',e1⟩:=o3 _ q e
  exact hO.apart p q' e1
 ·by_cases e : ∃ x,(b,x) ∈ bT t R
  ·obtain ⟨x,hx⟩:=e
   obtain ⟨j,h1,h2,h3,_⟩:=sy hok hx
   rw [h3,hL t j (by omega)] at hl;cases hl
  ·have hct : (b == t)=false:=by simp;omega
   by_cases ebc : b=c
   ·subst ebc
    rw [aG (d:=.any) (by simp [x0e,hct])] at hB;cases hB
   ·refine ⟨r2 _ e,?_⟩
    rcases bD (f:=f) (ks:=kB t R) (lkn b (by omega) ebc e) with h1 | h1
    ·rw [hB] at h1;cases h1
    ·rw [<- h1];exact hB
end
end Go.Gv

namespace Go.Gv
section
variable {P : Program} {F : Fid} {C : Nat -> List D -> D -> List D -> Prop} {nt : Nat} {S : Nat -> Prop} {L : Nat -> Option Loc} {w0 : World} {M0 : Mem} {f : Nat -> D} {M : Mem} {a : Act} {w : World} {o : Oper} {d : D} {Q : Exit -> Act -> World -> Prop} {ρ : Pa -> Loc} {ω : Nat -> Option Pa} {New : Nat -> Prop} {K : List (Nat × D) -> List (Nat × Bool) -> Prop}
theorem tw {es rs : List (List D)} {k : Nat} (h : k + rs.length <= es.length) : (gh es k rs).length=es.length:=by
 simp only [gh,x0M,x0L,List.length_drop];omega
theorem tv {es rs : List (List D)} {k i : Nat} (h : k + rs.length <= es.length) : (gh es k rs)[i]? = if k <= i /\ i < k + rs.length then rs[i - k]? else es[i]?:=by
 unfold gh
 have hl : (es.take k).length=k:=by simp;omega
 by_cases h1 : i < k
 ·rw [if_neg (by omega),x0Y,x0C (by omega),x0A h1]
 ·by_cases h2 : i < k + rs.length
  ·rw [if_pos (by omega),x0Y,x0z (by omega),hl,x0C (by omega)]
  ·rw [if_neg (by omega),x0z (by rw [x0M,hl];omega),x0M,hl,x0r]
   congr 1;omega
theorem tx {es rs : List (List D)} {k : Nat} {e : List D} (he : e ∈ gh es k rs) : e ∈ rs \/ e ∈ es:=by
 unfold gh at he
 rcases x0m.1 he with he | he
 ·rcases x0m.1 he with he | he
  ·exact .inr (x0F he)
  ·exact .inl he
 ·exact .inr (x1k he)
def mU (P : Program) (t sz : Nat) : Bool:=match P.underlying t with
 | some (.slice e)=>(match P.info? e with
  | some i=>i.size == sz
  | none=>false)
 | _=>false
theorem uS {T T2 sz : Nat} {ty : TypeId} (hk : mU P T sz=true) {g o n m cap cap2 : Nat} {ad : Addr} {cur news : List Value} {T0 : TypeId} (hg : w.heap[g]? = some (.cells cur.toArray T0 (0,0))) (hl : o + min m n * sz <= cur.length)
  (hnl : news.length=m * sz) (hnews : ∀ j u,news[j]? = some u -> w.cell? (ad.add j)=some u) (hone : ∀ u ∈ news,u.oneCell'=true) :
  ∃ w',(Builtin.copy_ #[T,T2] ty #[.slice (some ⟨g,o,none⟩) n cap,.slice (some ad) m cap2]).run P w=.ok (.int .i64 (min m n : Nat)) w' /\ w'.heap[g]? = some (.cells (cur.take o++news.take (min m n * sz)++cur.drop (o + min m n * sz)).toArray T0 (0,0)) /\ Ch (fun k=>k=g) w w':=by
 unfold mU at hk
 split at hk
 ·rename_i e hu
  split at hk
  ·rename_i i hi
   have hsz : i.size=sz:=by simpa using hk
   have hle : min m n * sz <= m * sz:=x0n _ (Nat.min_le_left _ _)
   have hnl2 : (news.take (min m n * sz)).length=min m n * sz:=by rw [x0L];omega
   obtain ⟨w',e1,e2,e3,e4,e5,e6,e7,e8⟩:=df (P:=P) g T0 o (news.take (min m n * sz)) 0 cur w hg (by rw [hnl2];omega) (fun v hv=>hone v (x0F hv))
   refine ⟨w',?_,by rw [e2];simp only [x1b,hnl2],⟨e5,e6,e7,by omega,fun k _ hk=>e3 k hk,by omega⟩⟩
   have hld:=run_loadCells_list (P:=P) w ad (news.take (min m n * sz)) (fun j v hj=>hnews j v (by rw [x0P] at hj;split at hj;exact hj;cases hj))
   rw [hnl2] at hld
   have hmn : Nat.min m n=min m n:=rfl
   simp [Builtin.copy_,run_underlying hu,sizeOf,typeInfo,hi,Builtin.lenOf,Builtin.firstCells,hsz,hmn,hld,e1,goInt]
  ·cases hk
 ·cases hk
theorem sO {T T2 sz : Nat} {ty : TypeId} (hk : mU P T sz=true) (A : Option Addr) (cap : Nat) (ad : Addr) (m cap2 : Nat) : (Builtin.copy_ #[T,T2] ty #[.slice A 0 cap,.slice (some ad) m cap2]).run P w=.ok (.int .i64 0) w:=by
 unfold mU at hk
 split at hk
 ·rename_i e hu
  split at hk
  ·rename_i i hi
   have hmn : Nat.min m 0=0:=Nat.min_zero m
   cases A <;> simp [Builtin.copy_,run_underlying hu,sizeOf,typeInfo,hi,Builtin.lenOf,Builtin.firstCells,hmn,loadCells,loadCellsFrom,storeCells,goInt]
  ·cases hk
 ·cases hk
theorem xy (h : SR F nt S L w0 M0 f M a w) {t : Nat} (hd : o.dst=some t) (ht : t < nt) {sz : Nat} {x y : Opd} {x' y' : Operand} {T T2 : TypeId} (ho : o.op=.call { callee:=.builtin .copy,args:=#[x',y'],argTypes:=#[T,T2] }) (hx : aj F x x'=true) (hy : aj F y y'=true) (hk : mU P T sz=true)
  (hr : ek f false (vd f y) sz fun rows bs=>bs=[] /\ 0 < rows.length /\ match vd f x with
   | .ref (.r b) k n=>(n=0 -> K [(t,.int .i64 0)] []) /\ (0 < n -> match f b with
    | .blk sz' es=>sz'=sz /\ k + n <= es.length /\ (∀ e ∈ es,∀ c ∈ e,aC c=true) /\ (∀ e ∈ rows,∀ c ∈ e,aC c=true) /\ K [(t,.int .i64 (min rows.length n : Nat)),(b,.blk sz (gh es k (rows.take n)))] []
    | _=>False)
   | _=>False) : o.wp P a w (PostX F nt S L w0 M0 f K) Q:=by
 obtain ⟨ρ,ω,hO⟩:=h.own
 obtain ⟨rows,bs,c2,⟨hbs0,hrl,hr⟩,hbs,_,huY,A2,m,cap2,news,ey,hm,hnl,hA2,hone,hY⟩:=mf h hO hy hr
 have hc2 : c2=none:=by
  rw [hbs0] at hbs
  cases c2 with
  | none=>rfl
  | some c=>simp at hbs
 subst hc2
 have hv:=hO.opd hx
 split at hr
 ·rename_i b k n hvx
  rw [hvx,am rfl] at hv
  obtain ⟨ad0,hA0,_⟩:=hA2 (by omega)
  rcases x0N n with hn | hn
  ·have hK:=hr.1 hn
   subst hn
   have hv0 : ∃ A cap,a.eval x'=.slice A 0 cap:=by
    simp only [av] at hv
    rcases hv with ⟨_,A,e⟩ | ⟨cap,e,_⟩
    ·exact ⟨A,0,e⟩
    ·exact ⟨_,cap,e⟩
   obtain ⟨A,cap,hv0⟩:=hv0
   refine postX_val hd (v:=.int .i64 0) (w':=w) ?_ hK (h.put ht (fun ρ ω _=>by rw [am rfl];simp only [av,ac]))
   subst hA0
   have e1:=sO (P:=P) (w:=w) (T2:=T2) (ty:=o.type) hk A cap ad0 m cap2
   simp only [execOp,ho,resolve,invoke,builtin,List.map_toArray,x0D,x0U,Sem.run_bind,Sem.run_pure,Result.andThen_ok,hv0,ey,e1]
  have hr:=hr.2 hn
  split at hr
  ·rename_i sz' es hf
   obtain ⟨rfl,hkn,hes1,hrow1,hK⟩:=hr
   have hb:=hO.big hf
   have hgp : bm f (.r b)=some (sz',es):=by simp [bm,hf]
   obtain ⟨ad,rfl,hnews⟩:=hA2 (by omega)
   rcases fB hO hgp hkn hv (fun e he c hc=>co (hes1 e (x1k (x0F he)) c hc)) with ⟨A,hv,hn0⟩ | ⟨cap,us,T0,hv,⟨hcap,hmc⟩,hcl,hω,g0,g1,g2,g4,g5⟩
   ·omega
   ·have hrows : eI w (ρ (.r b)) sz' es (fun i off d v=>bR F M ω ρ w b i off d v):=by
     rcases hO.roots b sz' es hb hf with ⟨e0,_⟩ | ⟨_,hr⟩
     ·rw [e0] at hkn;simp at hkn;omega
     ·exact hr
    obtain ⟨q0,us0,T1,q1,q2,q3,q4,q5⟩:=id hrows
    rw [g1] at q1
    simp only [x0j,Obj.cells.injEq,and_true] at q1
    obtain ⟨q1,rfl⟩:=q1
    obtain rfl : us=us0:=by simpa using congrArg Array.toList q1
    have hle : k * sz' + n * sz' <= es.length * sz':=by rw [<- x0E];exact x0n _ hkn
    have hmn : min m n * sz' <= n * sz':=x0n _ (Nat.min_le_right _ _)
    obtain ⟨w',e1,e2,e3⟩:=uS (P:=P) (w:=w) (T2:=T2) (ty:=o.type) hk (m:=m) (n:=n) (cap:=cap) (cap2:=cap2) (o:=(ρ (.r b)).base + k * sz') g1 (by rw [g2];omega) hnl hnews hone
    have hmin : (rows.take n).length=min m n:=by rw [x0L,hm,Nat.min_comm]
    have hfit : k + (rows.take n).length <= es.length:=by rw [hmin];omega
    have hml : min m n * sz' <= m * sz':=x0n _ (Nat.min_le_left _ _)
    have hN : (news.take (min m n * sz')).length=min m n * sz':=by rw [x0L];omega
    have hfill:=h.fill hO hf hω hrows (es':=gh es k (rows.take n)) (us:=us.take ((ρ (.r b)).base + k * sz')++news.take (min m n * sz')++us.drop ((ρ (.r b)).base + k * sz' + min m n * sz')) (w':=w') (Nat.le_of_eq (tw hfit)) (fun e he=>by
     rcases tx he with he | he
     ·have he:=x0F he
      exact ⟨huY e he,hrow1 e he⟩
     ·exact ⟨g4 e he,hes1 e he⟩) e3 e2 (by simp only [x0M,x0L,List.length_drop] at hN ⊢;omega) (fun i r off d h1 h2=>by
     have hget:=fun x=>fZ (vs:=us) (us:=news.take (min m n * sz')) (q:=(ρ (.r b)).base + k * sz') (n:=min m n * sz') (x:=x) hN (by omega)
     rw [tv hfit,hmin] at h1
     split at h1
     ·rename_i hi
      have hil : i - k < (rows.take n).length:=by rw [hmin];omega
      have hin : i - k < n:=by rw [hmin] at hil;omega
      rw [x0A hin] at h1
      obtain ⟨u,k1,k2⟩:=hY (i - k) r off d h1 h2
      have hof : off < sz':=by rw [<- huY r (x0b h1)];exact (x0c.1 h2).1
      have h3:=ee (sz:=sz') (show i - k < min m n by omega) hof
      have h4 : (i - k) * sz' + k * sz'=i * sz':=by rw [<- x0E];congr 1;omega
      refine ⟨u,?_,k2.2⟩
      rw [hget,if_pos (by omega),show (ρ (.r b)).base + i * sz' + off - ((ρ (.r b)).base + k * sz')=(i - k) * sz' + off by omega,x0A h3]
      exact k1
     ·rename_i hi
      obtain ⟨u,k1,k2⟩:=q5 i r off d h1 h2
      have hof : off < sz':=by rw [<- g4 r (x0b h1)];exact (x0c.1 h2).1
      rw [aY (co (hes1 r (x0b h1) d (x0b h2)))] at k2
      refine ⟨u,?_,k2⟩
      have h5 : ¬ ((ρ (.r b)).base + k * sz' <= (ρ (.r b)).base + i * sz' + off /\ (ρ (.r b)).base + i * sz' + off < (ρ (.r b)).base + k * sz' + min m n * sz'):=by
       rintro ⟨h6,h7⟩
       rcases x1a i k with h8 | h8
       ·have:=ee (sz:=sz') h8 hof;omega
       ·have h9 : (k + min m n) * sz' <= i * sz':=x0n _ (by omega)
        rw [x0E] at h9;omega
      rw [hget,if_neg h5]
      exact k1)
    obtain ⟨_,_,_,_,hs⟩:=hfill
    have hs2:=hs.put (t:=t) (d:=.int .i64 (min rows.length n : Nat)) (v:=.int .i64 (min m n : Nat)) ht (fun _ _ _=>by rw [am rfl,hm];simp only [av,ac])
    refine fK (v:=.int .i64 (min m n : Nat)) (w':=w') ?_ ?_
    ·simp only [execOp,ho,resolve,invoke,builtin,List.map_toArray,x0D,x0U,Sem.run_bind,Sem.run_pure,Result.andThen_ok,hv,ey,e1]
    ·rw [hd]
     refine ⟨_,_,M,hK,?_⟩
     have : eff [(t,D.int .i64 (min rows.length n : Nat)),(b,D.blk sz' (gh es k (rows.take n)))] [] f=eff [(t,.int .i64 (min rows.length n : Nat))] [] (eff [(b,.blk sz' (gh es k (rows.take n)))] [] f):=by
      funext s
      unfold eff
      by_cases h1 : s=t
      ·subst h1;simp
      ·have e1 : (s == t)=false:=by simpa using h1
       simp only [x0e,e1,x0B,aF,x1m,x0i,if_false]
     rw [this]
     exact hs2
  ·exact hr.elim
 ·exact hr.elim
end
end Go.Gv

namespace Go.Gv
section
variable {P : Program} {F : Fid} {C : Nat -> List D -> D -> List D -> Prop} {nt : Nat} {S : Nat -> Prop} {L : Nat -> Option Loc} {w0 : World} {M0 : Mem} {f : Nat -> D} {M : Mem} {a : Act} {w : World} {o : Oper} {d : D} {Q : Exit -> Act -> World -> Prop} {ρ : Pa -> Loc} {ω : Nat -> Option Pa} {New : Nat -> Prop} {K : List (Nat × D) -> List (Nat × Bool) -> Prop}
end
end Go.Gv

namespace Go.Gv
section
variable {P : Program} {F : Fid} {C : Nat -> List D -> D -> List D -> Prop} {nt : Nat} {S : Nat -> Prop} {L : Nat -> Option Loc} {w0 : World} {M0 : Mem} {f : Nat -> D} {M : Mem} {a : Act} {w : World} {o : Oper} {Q : Exit -> Act -> World -> Prop} {K : List (Nat × D) -> List (Nat × Bool) -> Prop}
end
end Go.Gv

namespace Go.Gv
open Go.RowKit
section
variable {P : Program} {F : Fid} {C : Nat -> List D -> D -> List D -> Prop} {nt : Nat} {S : Nat -> Prop} {L : Nat -> Option Loc} {w0 : World} {M0 : Mem} {f : Nat -> D} {M M' : Mem} {a : Act} {w w' : World} {o : Oper} {d : D} {Q : Exit -> Act -> World -> Prop} {ρ ρ' : Pa -> Loc} {ω ω' : Nat -> Option Pa} {New : Nat -> Prop} {K : List (Nat × D) -> List (Nat × Bool) -> Prop}
def kw (P : Program) (T : Nat) : Bool:=match P.underlying T with
 | some (.interface _)=>false
 | some _=>true
 | none=>false
theorem xh {T : Nat} (hk : kw P T=true) (v : Value) : (Instr.makeInterface T v).run P w=.ok (.iface T v) w:=by
 unfold kw at hk
 split at hk
 ·cases hk
 ·rename_i u hu hn
  unfold Instr.makeInterface
  simp only [Sem.run_bind,run_underlying hn w,Result.andThen_ok]
  rfl
 ·cases hk
theorem xj {T xT : Nat} (hk : kw P T=true) (v : Value) : (Instr.typeAssert (.iface T v) xT T false).run P w=.ok v w:=by
 unfold kw at hk
 split at hk
 ·cases hk
 ·rename_i u hu hn
  unfold Instr.typeAssert
  simp only [Sem.run_bind,run_underlying hn w,Result.andThen_ok]
  cases u <;> first | (exact absurd hn (hu _)) | simp
 ·cases hk
theorem xD (h : SR F nt S L w0 M0 f M a w) (hp : bJ nt f o.dst) {T : Nat} {x : Opd} {x' : Operand} {t : TypeId} (ho : o.op=.makeInterface t x') (hT : F.ty T=t) (hk : kw P t=true) (hx : aj F x x'=true)
  (hr : res f (·=d) (.mkI T x)) : o.wp P a w (bP F nt S L w0 M0 f o.dst d) Q:=by
 subst hT
 simp only [res] at hr
 have run : (execOp a.eval o).run P w=.ok (.value (.iface (F.ty T) (a.eval x'))) w:=by
  simp only [execOp,ho,Sem.run_bind,xh hk,Result.andThen_ok,Sem.run_pure]
 split at hr
 ·rename_i p i off e
  subst hr
  refine bp h hp (fun ρ ω hO=>⟨_,?_,run⟩)
  have h1:=hO.opd hx
  rw [e,am rfl] at h1
  rw [am rfl]
  simp only [av] at h1 ⊢
  rw [h1]
 ·rename_i k n e
  obtain ⟨rfl,rfl⟩:=hr
  have h1:=h.opd hx (by simp [e,isV])
  rw [e] at h1
  simp only [ac] at h1
  exact aS h hp (by simp only [ac];rw [h1]) run
 ·exact hr.elim
theorem xJ (h : SR F nt S L w0 M0 f M a w) (hp : bJ nt f o.dst) {T : Nat} {x : Opd} {x' : Operand} {t xt : TypeId} (ho : o.op=.typeAssert x' xt t false) (hT : F.ty T=t) (hk : kw P t=true) (hx : aj F x x'=true)
  (hr : res f (·=d) (.tya T x)) : o.wp P a w (bP F nt S L w0 M0 f o.dst d) Q:=by
 subst hT
 simp only [res] at hr
 split at hr
 ·rename_i T' n e
  obtain ⟨rfl,rfl⟩:=hr
  have h1:=h.opd hx (by simp [e,isV])
  rw [e] at h1
  simp only [ac] at h1
  refine aS h hp (v:=.int .i64 n) (by simp only [ac]) ?_
  simp only [execOp,ho,h1,Sem.run_bind,xj hk,Result.andThen_ok,Sem.run_pure]
 ·exact hr.elim
theorem j4 (hC : bz P F C) (h : SR F nt S L w0 M0 f M a w) (hp : ∀ t,o.dst=some t -> t < nt) {g fi : Nat} (hg : F g=some fi) (hO : Own F L (fun k=>S k \/ w0.heap.size <= k) f M a w ρ ω) {b sz : Nat} {es es' : List (List D)} {W : List D} {vs : List Value}
  (hf : f b=.blk sz es) (hpos : 0 < es.length) (hc : C g (.blk sz es::W) d [.blk sz es',.nilp]) (hlen : vs.length=W.length)
  (hrep : ∀ ρ1 : Pa -> Loc,ρ1 (.r ao)=ρ (.r b) -> ∀ (i : Nat) (d : D) (v : Value),W[i]? = some d -> vs[i]? = some v -> a7 F M ρ1 d v)
  (hrun : (execOp a.eval o).run P w=(callFunc fi vs.toArray).run P w) (hK : K (bU o.dst d++[(b,.blk sz es')]) [(b,false)]) : o.wp P a w (PostX F nt S L w0 M0 f K) Q:=by
 have hb:=hO.big hf
 have hroot:=hO.roots b sz es hb hf
 have hω : ω (ρ (.r b)).blk=some (.r b):=by
  rcases hroot with ⟨e0,_⟩ | ⟨hω,_⟩
  ·rw [e0] at hpos;simp at hpos
  ·exact hω
 obtain ⟨ρ1,hρ1⟩ : ∃ ρ1 : Pa -> Loc,ρ1=fun p=>ρ (p.to b):=⟨_,rfl⟩
 obtain ⟨ω1,hω1⟩ : ∃ ω1 : Nat -> Option Pa,ω1=fun k=>match ω k with
  | some p=>if p.root=b then some (p.to ao) else none
  | none=>none:=⟨_,rfl⟩
 have w1 : ∀ k q,ω1 k=some q ↔ ∃ p : Pa,ω k=some p /\ p.root=b /\ q=p.to ao:=fun k q=>by
  rw [hω1]
  simp only
  constructor
  ·intro e
   split at e
   ·rename_i p hp
    split at e
    ·cases e;exact ⟨p,hp,by assumption,rfl⟩
    ·cases e
   ·cases e
  ·rintro ⟨p,e1,e2,rfl⟩
   simp only [e1,if_pos e2]
 have p1 : ∀ p : Pa,p.root=b -> ρ1 (p.to ao)=ρ p:=fun p hp=>by
  rw [hρ1]
  simp only
  rw [Pa.to_to b ao p hp]
 have lent : my F M w ρ1 ω1 ao sz es:=by
  refine ⟨(w1 _ _).2 ⟨.r b,?_,rfl,rfl⟩,cX.carry hroot (Mem.le_refl _) (fun p hp=>⟨p1 p hp,fun e=>⟨(w1 _ _).2 ⟨p,e,hp,rfl⟩,rfl⟩⟩),fun k p e=>?_,fun k p e=>?_,fun p q e=>?_⟩
  ·have:=p1 (.r b) rfl
   simp only [Pa.to] at this
   rw [this];exact hω
  ·obtain ⟨p',e1,_⟩:=(w1 _ _).1 e
   exact hO.lt _ _ e1
  ·obtain ⟨p',_,_,rfl⟩:=(w1 _ _).1 e
   exact Pa.to_root _ _
  ·obtain ⟨p',e1,_⟩:=(w1 _ _).1 e
   exact hO.apart p p' e1
 have e1 : ρ1 (.r ao)=ρ (.r b):=p1 (.r b) rfl
 have hM:=hC.runsM g fi sz es _ d es' hg hc M w vs ρ1 ω1 h.holds hlen (hrep ρ1 e1) lent
 unfold Oper.wp
 rw [hrun,cu (hC.body g fi hg),Oper.upon_enter]
 refine hM.mono ?_
 rintro e0 w' ⟨v,M',ρ',ω',rfl,q1,q2,q3,q4,q5,q6,q7,q8⟩
 exact ⟨_,_,M',hK,h.lend hO hf hb hω p1 w1 q1 q2 q3 q4 (by rw [q6,e1]) q7 q8 hp q5⟩
def n5 (P : Program) (T : Nat) (m : String) (fi : Nat) : Bool:=match P.info? T,P.underlying T with
 | some i,some (.pointer _)=>match i.methods.find? (·.name == m) with
  | some mm=>mm.path.isEmpty && (match mm.func with
   | some (f,true)=>f == fi
   | _=>false)
  | none=>false
 | _,_=>false
theorem uT {t : TypeId} {i : TypeInfo} (h : P.info? t=some i) : (typeInfo t).run P w=.ok i w:=by
 unfold typeInfo
 simp only [Sem.run_bind,run_program,Result.andThen_ok,h,Sem.run_pure]
theorem qH {T fi : Nat} {m : String} (hk : n5 P T m fi=true) (a : Addr) (args : Array Value) : (callMethod (.iface T (.pointer (some a))) m args).run P w=(callFunc fi (#[.pointer (some a)]++args)).run P w:=by
 unfold n5 at hk
 split at hk
 ·rename_i i el hi hu
  split at hk
  ·rename_i mm hm
   simp only [x0a] at hk
   obtain ⟨h1,h2⟩:=hk
   split at h2
   ·rename_i f hf
    obtain rfl : f=fi:=by simpa using h2
    have hmd : 0 < Made.depth:=by decide
    obtain ⟨n,hn⟩ : ∃ n,P.types.size + Made.depth=n + 1:=⟨P.types.size + Made.depth - 1,by omega⟩
    have hp : mm.path.toList=[]:=by
     have : mm.path=#[]:=by simpa using h1
     rw [this]
    unfold callMethod
    simp only [Sem.run_bind,run_program,Result.andThen_ok,hn]
    unfold method
    simp only [Sem.run_bind,uT hi,Result.andThen_ok,hm,hp,follow,Sem.run_pure,hf,h1,if_true,receiverAt,run_underlying hu w,Place.get]
   ·cases h2
  ·cases hk
 ·cases hk
theorem sT (hC : bz P F C) (h : SR F nt S L w0 M0 f M a w) (hp : ∀ t,o.dst=some t -> t < nt) {g fi T : Nat} {m : String} {x : Opd} {xs : List Opd} {y : Operand} {ys : Array Operand} {ts : Array TypeId} (ho : o.op=.call { callee:=.invoke y m,args:=ys,argTypes:=ts }) (hx0 : aj F x y=true) (hx : bB F xs ys.toList=true)
  (hg : F g=some fi) (hk : n5 P (F.ty T) m fi=true) (hr : match vd f x with
  | .ifa T' (.r b) i off=>T'=T /\ i=0 /\ off=0 /\ match f b with
   | .blk sz es=>0 < es.length /\ (∀ x ∈ xs,isV (vd f x)=true) /\ ∃ d,∃ es' : List (List D),0 < es'.length /\ C g (.blk sz es::.adr (.r 10015) 0 0::xs.map (vd f)) d [.blk sz es',.nilp] /\ K (bU o.dst d++[(b,.blk sz es')]) [(b,false)]
   | _=>False
  | _=>False) : o.wp P a w (PostX F nt S L w0 M0 f K) Q:=by
 split at hr
 ·rename_i T' b i off hvx
  obtain ⟨rfl,rfl,rfl,hr⟩:=hr
  split at hr
  ·rename_i sz es hf
   obtain ⟨hpos,hxs,d,es',hpos',hc,hK⟩:=hr
   obtain ⟨ρ,ω,hO⟩:=h.own
   have hv:=hO.opd hx0
   rw [hvx,am rfl] at hv
   simp only [av,x1q,x1b] at hv
   have hrep : au F M (xs.map (vd f)) (ys.toList.map a.eval):=by
    have h1:=dP h hx (by rw [x0f];exact hxs)
    rwa [x0o (g:=vd f) fun x hx'=>by unfold dpv;exact (iR (hxs x hx')).1] at h1
   refine j4 hC h hp hg hO hf hpos hc (vs:=.pointer (some ⟨(ρ (.r b)).blk,(ρ (.r b)).base,none⟩)::ys.toList.map a.eval) (by simp [hrep.length]) (fun ρ1 e1 i d v k1 k2=>?_) ?_ hK
   ·cases i with
    | zero =>
     simp at k1 k2
     subst k1;subst k2
     rw [am rfl]
     simp [av,<- e1,ao]
    | succ i =>
     simp only [x1i] at k1 k2
     obtain ⟨v',hv',rv⟩:=hrep.get k1
     rw [k2] at hv'
     cases hv'
     exact a7.of_pure rv
   ·simp only [execOp,ho,resolve,Sem.run_bind,Sem.run_pure,Result.andThen_ok,invoke,hv]
    have e0 : (#[Value.iface (F.ty T') (.pointer (some ⟨(ρ (.r b)).blk,(ρ (.r b)).base,none⟩))]++ys.map a.eval)[0]? = some (Value.iface (F.ty T') (.pointer (some ⟨(ρ (.r b)).blk,(ρ (.r b)).base,none⟩))):=by
     rw [Array.getElem?_append_left (by simp)];rfl
    simp only [e0,qH hk]
    congr 2
    apply Array.ext'
    simp
    exact x0u (by simp)
  ·exact hr.elim
 ·exact hr.elim
theorem sU (hC : bz P F C) (h : SR F nt S L w0 M0 f M a w) (hp : ∀ t,o.dst=some t -> t < nt) {g fi : Nat} {x : Opd} {xs : List Opd} {y : Operand} {ys : List Operand} {ts : Array TypeId} (ho : o.op=.call { callee:=.value (.func fi),args:=⟨y::ys⟩,argTypes:=ts }) (hx0 : aj F x y=true) (hx : bB F xs ys=true)
  (hg : F g=some fi) (hr : match vd f x with
  | .ifa T (.r b) i off=>i=0 /\ off=0 /\ match f b with
   | .blk sz es=>0 < es.length /\ (∀ x ∈ xs,isV (vd f x)=true) /\ ∃ d,∃ es' : List (List D),0 < es'.length /\ C g (.blk sz es::.ifa T (.r 10015) 0 0::xs.map (vd f)) d [.blk sz es',.nilp] /\ K (bU o.dst d++[(b,.blk sz es')]) [(b,false)]
   | _=>False
  | _=>False) : o.wp P a w (PostX F nt S L w0 M0 f K) Q:=by
 split at hr
 ·rename_i T b i off hvx
  obtain ⟨rfl,rfl,hr⟩:=hr
  split at hr
  ·rename_i sz es hf
   obtain ⟨hpos,hxs,d,es',hpos',hc,hK⟩:=hr
   obtain ⟨ρ,ω,hO⟩:=h.own
   have hv:=hO.opd hx0
   rw [hvx,am rfl] at hv
   simp only [av,x1q,x1b] at hv
   have hrep : au F M (xs.map (vd f)) (ys.map a.eval):=by
    have h1:=dP h hx (by rw [x0f];exact hxs)
    rwa [x0o (g:=vd f) fun x hx'=>by unfold dpv;exact (iR (hxs x hx')).1] at h1
   refine j4 hC h hp hg hO hf hpos hc (vs:=a.eval y::ys.map a.eval) (by simp [hrep.length]) (fun ρ1 e1 i d v k1 k2=>?_) ?_ hK
   ·cases i with
    | zero =>
     simp at k1 k2
     subst k1;subst k2
     rw [am rfl,hv]
     simp [av,<- e1,ao]
    | succ i =>
     simp only [x1i] at k1 k2
     obtain ⟨v',hv',rv⟩:=hrep.get k1
     rw [k2] at hv'
     cases hv'
     exact a7.of_pure rv
   ·simp only [execOp,ho,resolve,Act.eval,Deferred.ofValue,Sem.run_bind,Sem.run_pure,Result.andThen_ok,invoke]
    congr 2
    rw [x1E,x1f]
    apply Array.ext'
    simp
    cases y <;> simp [Act.eval]
  ·exact hr.elim
 ·exact hr.elim
theorem sW (hC : bz P F C) (h : SR F nt S L w0 M0 f M a w) (hp : ∀ t,o.dst=some t -> t < nt) {g fi : Nat} {x : Opd} {xs : List Opd} {y : Operand} {ys : List Operand} {ts : Array TypeId} (ho : o.op=.call { callee:=.value (.func fi),args:=⟨y::ys⟩,argTypes:=ts }) (hx0 : aj F x y=true) (hx : bB F xs ys=true)
  (hg : F g=some fi) (hr : match vd f x with
  | .ref (.r b) k n=>k=0 /\ match f b with
   | .blk sz es=>0 < es.length /\ es.length=n /\ (∀ x ∈ xs,isV (vd f x)=true) /\ ∃ d,∃ es' : List (List D),0 < es'.length /\ C g (.blk sz es::.ref (.r 10015) 0 n::xs.map (vd f)) d [.blk sz es',.nilp] /\ K (bU o.dst d++[(b,.blk sz es')]) [(b,false)]
   | _=>False
  | _=>False) : o.wp P a w (PostX F nt S L w0 M0 f K) Q:=by
 split at hr
 ·rename_i b k n hvx
  obtain ⟨rfl,hr⟩:=hr
  split at hr
  ·rename_i sz es hf
   obtain ⟨hpos,hln,hxs,d,es',hpos',hc,hK⟩:=hr
   obtain ⟨ρ,ω,hO⟩:=h.own
   have hv:=hO.opd hx0
   rw [hvx,am rfl] at hv
   have hrep : au F M (xs.map (vd f)) (ys.map a.eval):=by
    have h1:=dP h hx (by rw [x0f];exact hxs)
    rwa [x0o (g:=vd f) fun x hx'=>by unfold dpv;exact (iR (hxs x hx')).1] at h1
   refine j4 hC h hp hg hO hf hpos hc (vs:=a.eval y::ys.map a.eval) (by simp [hrep.length]) (fun ρ1 e1 i d v k1 k2=>?_) ?_ hK
   ·cases i with
    | zero =>
     simp at k1 k2
     subst k1;subst k2
     rw [am rfl]
     simp only [av] at hv ⊢
     rw [show (10015 : Nat)=ao from rfl,e1]
     exact hv
    | succ i =>
     simp only [x1i] at k1 k2
     obtain ⟨v',hv',rv⟩:=hrep.get k1
     rw [k2] at hv'
     cases hv'
     exact a7.of_pure rv
   ·simp only [execOp,ho,resolve,Act.eval,Deferred.ofValue,Sem.run_bind,Sem.run_pure,Result.andThen_ok,invoke]
    congr 2
    rw [x1E,x1f]
    apply Array.ext'
    simp
    cases y <;> simp [Act.eval]
  ·exact hr.elim
 ·exact hr.elim
theorem SR.cutN (h : SR F nt S L w0 M0 f M a w) (ho : Own F L (fun k=>S k \/ w0.heap.size <= k) f M a w ρ ω) {b sz0 i0 o0 sz n : Nat} {es0 es : List (List D)} {row0 : List D} (hf : f b=.blk sz0 es0) (hi0 : es0[i0]? = some row0) (ho0 : row0[o0]? = some (.own sz es)) (hn : n <= es.length)
  {v : Value} (hv : av F M ρ (.ref (.n b i0 o0) 0 n) v) (hω : ω (ρ (.r b)).blk=some (.r b)) (hw : nC w (ρ (.r b)).blk ((ρ (.r b)).base + i0 * sz0 + o0) 1 [v] w') :
  SR F nt S L w0 M0 (eff [(b,.blk sz0 (bC es0 i0 o0 1 [.own sz (es.take n)]))] [] f) M a w':=by
 have hb:=ho.big hf
 have hlt : o0 < row0.length:=(x0c.1 ho0).1
 rcases ho.roots b sz0 es0 hb hf with ⟨e0,_⟩ | ⟨_,hrows⟩
 ·rw [e0] at hi0;simp at hi0
 obtain ⟨h0,vs,T,h1,h2,h3,h4,h5⟩:=id hrows
 have hnew:=ho.new _ _ hω
 have hMb : ∀ p : Addr,p.block=(ρ (.r b)).blk -> M p=none:=fun p hp=>ho.apart p (.r b) (by rw [hp];exact hω)
 have rest : ∀ (p : Pa),p ≠ .r b -> ω (ρ p).blk=some p -> w'.heap[(ρ p).blk]? = w.heap[(ρ p).blk]?:=fun p hp e=>hw.rest _ (by
  intro e2
  rw [e2,hω] at e
  cases e;exact hp rfl)
 have hfb : eff [(b,.blk sz0 (bC es0 i0 o0 1 [.own sz (es.take n)]))] [] f b=.blk sz0 (bC es0 i0 o0 1 [.own sz (es.take n)]):=aG (by simp)
 refine { hnt:=h.hnt,size:=h.size,defers:=h.defers,ch:=lp h.ch hnew hw.rest hw.size hw.os hw.tape hw.output (Nat.le_of_eq hw.drawn.symm),holds:=fun p v hp=>?_,ext:=h.ext,fresh:=h.fresh,own:=⟨ρ,ω,?_⟩ }
 ·have hne : p.block ≠ (ρ (.r b)).blk:=fun e=>by rw [hMb p e] at hp;cases hp
  rw [World.cell?_of_block (hw.rest _ hne)]
  exact h.holds p v hp
 ·refine ho.step (ks:=[]) (fun p hp=>absurd rfl hp) (Mem.le_refl _) (Nat.le_of_eq hw.size.symm) (fun t ht=>.inl ?_) (fun c hc=>?_) (fun k p e=>.inl ⟨p,e⟩) ho.apart (fun c l hc hl hB=>⟨rfl,?_⟩)
  ·rcases br (f:=f) (ks:=[]) (cy (d:=.blk sz0 (bC es0 i0 o0 1 [.own sz (es.take n)])) (show t ≠ b by omega)) with h2 | h2
   ·exact .inl h2
   ·exact .inr ⟨h2.1,rfl,h2.2⟩
  ·by_cases e : c=b
   ·subst e
    right
    refine .inl ⟨sz0,_,hfb,.inr ⟨hω,?_⟩⟩
    refine hrows.set hi0 (show o0 + 1 <= row0.length by omega) rfl h1 rfl (hw.cells _ _ h1) (fun i' r' off' d v' k1 k2 k3 k4=>bR.frame k4 (Mem.le_refl _) ⟨rfl,fun e=>⟨e,rest _ (by simp) e⟩⟩) (fun j d u k1 k2=>?_)
    cases j with
    | succ j=>simp at k1
    | zero =>
     simp at k1 k2
     subst k1;subst k2
     obtain ⟨v',_,_,k4⟩:=h5 i0 row0 o0 _ hi0 ho0
     have hl : (es.take n).length=n:=by simp;omega
     refine ⟨by rw [hl];exact hv,?_⟩
     rcases k4 with ⟨rfl,k5⟩ | ⟨k5,k6⟩
     ·exact .inl ⟨by simp,k5⟩
     ·refine .inr ⟨k5,?_⟩
      obtain ⟨g0,us,T',g1,g2,g3,g4,g5⟩:=k6
      refine ⟨g0,us,T',(rest _ (by simp) k5).trans g1,g2,?_,fun e he=>g4 e (x0F he),fun i r off d hi hr=>?_⟩
      ·rw [hl]
       have : n * sz <= es.length * sz:=x0n _ hn
       show (ρ (.n c i0 o0)).base + n * sz <= (ρ (.n c i0 o0)).len
       omega
      ·have hin : i < n:=by have:=(x0c.1 hi).1;omega
       rw [x0A hin] at hi
       exact g5 i r off d hi hr
   ·left
    have hl:=cy (s:=c) (b:=b) (d:=.blk sz0 (bC es0 i0 o0 1 [.own sz (es.take n)])) e
    rcases bD (f:=f) (ks:=[]) hl with h1 | h1
    ·exact .inl h1
    ·exact .inr ⟨h1,fun p hp=>⟨rfl,fun e'=>⟨e',rest _ (by rintro rfl;exact e hp.symm) e'⟩⟩⟩
  ·by_cases e : c=b
   ·subst e;rw [hf];rfl
   ·rcases bD (f:=f) (ks:=[]) (cy (s:=c) (b:=b) (d:=.blk sz0 (bC es0 i0 o0 1 [.own sz (es.take n)])) e) with h1 | h1
    ·rw [hB] at h1;cases h1
    ·rw [<- h1];exact hB
theorem xI (h : SR F nt S L w0 M0 f M a w) {x v : Opd} {x' v' : Operand} {t : TypeId} (ho : o.op=.store t x' v') (hx : aj F x x'=true) (hv : aj F v v'=true) (hk : iv P t 1=true)
  (hr : aD C f o.dst K (.stL x v)) : o.wp P a w (PostX F nt S L w0 M0 f K) Q:=by
 simp only [aD] at hr
 obtain ⟨hd,hr⟩:=hr
 obtain ⟨ρ,ω,hO⟩:=h.own
 split at hr
 ·rename_i b i off b' i' o' k n ex ev
  obtain ⟨rfl,rfl,rfl,rfl,hr⟩:=hr
  split at hr
  ·rename_i sz0 es0 hf
   obtain ⟨row0,hi0,sz,es,ho0,hn,hK⟩:=hr
   have hxv:=hO.opd hx
   have hvv:=hO.opd hv
   rw [ex,am rfl] at hxv
   rw [ev,am rfl] at hvv
   obtain ⟨vs,T,hω,h0,hl,g1,g2,g3,g4⟩:=hO.row (p:=.r b') (hO.big hf) (show bm f (.r b')=some (sz0,es0) by simp [bm,hf]) hi0
   have hlt : o' < row0.length:=(x0c.1 ho0).1
   have h1 : (a.eval v').cells=#[a.eval v'] /\ (a.eval v').oneCell'=true:=by
    simp only [av] at hvv
    rcases hvv with ⟨_,A,e⟩ | ⟨cap,e,_⟩ <;> rw [e] <;> exact ⟨rfl,rfl⟩
   simp only [av] at hxv
   rw [h0] at hxv
   obtain ⟨w',k1,k2,k3,k4,k5,k6,k7⟩:=gP (P:=P) (off:=(ρ (.r b')).base + i' * sz0 + o') hk g1 (by rw [h1.1];rfl) (by omega) (v:=a.eval v') (fun u hu=>by rw [h1.1] at hu;simp at hu;subst hu;exact h1.2)
   rw [h1.1] at k2
   refine mw (w':=w') (by simp only [execOp,ho,hxv,Sem.run_bind,k1,Result.andThen_ok,Sem.run_pure]) ?_
   rw [hd]
   exact ⟨_,_,M,hK,by simpa [Act.put] using h.cutN hO hf hi0 ho0 hn hvv hω (j5 g1 k2 k3 k4 k5 k6 k7)⟩
  ·exact hr.elim
 ·exact hr.elim
end
end Go.Gv

namespace Go.Gv
open Go.RowKit
section
variable {P : Program} {F : Fid} {C : Nat -> List D -> D -> List D -> Prop} {nt : Nat} {S : Nat -> Prop} {L : Nat -> Option Loc} {w0 : World} {M0 : Mem} {f : Nat -> D} {M M' : Mem} {a : Act} {w w' : World} {o : Oper} {d : D} {Q : Exit -> Act -> World -> Prop} {ρ ρ' : Pa -> Loc} {ω ω' : Nat -> Option Pa} {New : Nat -> Prop} {K : List (Nat × D) -> List (Nat × Bool) -> Prop}
theorem Own.know (h : Own F L New f M a w ρ ω) {s : Nat} (hs : s < 10000) {v : Value} (hv : a.tmps[s]? = some v) (r : a7 F M ρ d v) (hB : isB d=false) : Own F L New (eff [(s,d)] [] f) M a w ρ ω:=by
 have key : ∀ t,t ≠ s -> eff [(s,d)] [] f t=f t:=fun t ht=>by
  have e1 : (t == s)=false:=by simpa using ht
  simp [eff,x0e,e1,aF]
 refine h.step (ks:=[]) (fun p hp=>absurd rfl hp) (Mem.le_refl _) (x0l _) (fun t ht=>?_) (fun c hc=>.inl (.inr ⟨key c (by omega),fun p _=>⟨rfl,fun e=>⟨e,rfl⟩⟩⟩)) (fun k p e=>.inl ⟨p,e⟩) h.apart (fun c l hc hl hB'=>⟨rfl,?_⟩)
 ·by_cases e : t=s
  ·subst e
   exact .inr (.inr ⟨v,hv,by rw [aG (d:=d) (by simp)];exact r⟩)
  ·exact .inl (.inr ⟨key t e,rfl,rfl⟩)
 ·rw [key c (by omega)] at hB';exact hB'
theorem SR.know (h : SR F nt S L w0 M0 f M a w) {s : Nat} (ho : Own F L (fun k=>S k \/ w0.heap.size <= k) (eff [(s,d)] [] f) M a w ρ ω) : SR F nt S L w0 M0 (eff [(s,d)] [] f) M a w :=
 ⟨h.hnt,h.size,h.defers,h.ch,h.holds,h.ext,h.fresh,ρ,ω,ho⟩
theorem SR.same {g : Nat -> D} (h : SR F nt S L w0 M0 f M a w) (e : g=f) : SR F nt S L w0 M0 g M a w:=by rw [e];exact h
theorem oK {p : Addr} : ∀ {vs us : List Value},bH M p vs -> bH M p us -> vs.length=us.length -> vs=us:=by
 intro vs us h1 h2 hl
 apply x1B hl
 intro i k1 k2
 have e1:=h1 i _ (x0d k1)
 have e2:=h2 i _ (x0d k2)
 rw [e1] at e2
 exact Option.some.inj e2
theorem u6 (h : SR F nt S L w0 M0 f M a w) {t : Nat} (hd : o.dst=some t) (ht : t < nt) (hL : L (rt t 0)=none) {s : Nat} {x : Opd} {x' : Operand} {T : TypeId} (ho : o.op=.box T x') (hx : aj F x x'=true)
  (hr : aD C f (some t) K (.boxK s x)) : o.wp P a w (PostX F nt S L w0 M0 f K) Q:=by
 simp only [aD] at hr
 obtain ⟨hs,hst,hr⟩:=hr
 split at hr
 ·rename_i c k n ex
  obtain ⟨rfl,hcb,hr⟩:=hr
  split at hr
  ·rename_i sz es hf
   obtain ⟨hsz,hn,hc1,hr⟩:=hr
   split at hr
   ·rename_i ds hfs
    obtain ⟨hment,hK⟩:=hr
    obtain ⟨ρ,ω,hO⟩:=h.own
    have hc:=hO.big hf
    have hb:=rt_big t 0
    obtain ⟨us,hval,hus⟩ : ∃ us : List Value,a.eval x'=.agg us.toArray /\ cw F M ρ [.nils,.ref (.r c) 0 n] us:=by
     have:=hO.opd hx
     rw [ex] at this
     exact this
    obtain ⟨u0,u1,rfl⟩ : ∃ u0 u1,us=[u0,u1]:=by
     have:=hus.1
     match us,this with
     | [u0,u1],_=>exact ⟨u0,u1,rfl⟩
    have hu0 : u0=.slice none 0 0:=by
     have:=hus.2 0 _ _ rfl rfl
     simpa only [av,ac] using this
    have hu1 : ∀ ρ ω,Own F L (fun k=>S k \/ w0.heap.size <= k) f M a w ρ ω -> av F M ρ (.ref (.r c) 0 n) u1:=fun ρ ω hO=>by
     have:=hO.opd hx
     rw [ex] at this
     obtain ⟨us',e1,e2⟩:=this
     rw [hval] at e1
     have e3 : [u0,u1]=us':=by simpa using e1
     subst e3
     exact e2.2 1 _ _ rfl rfl
    obtain ⟨w1,hw1⟩ : ∃ w1,w1=w.alloc (.cells (a.eval x').cells.toList.toArray T):=⟨_,rfl⟩
    have hcells : (a.eval x').cells.toList=[u0,u1]:=by rw [hval];rfl
    have hrun : (execOp a.eval o).run P w=.ok (.value (.pointer (some ⟨w.heap.size,0,none⟩))) w1:=by
     rw [hw1]
     simp only [execOp,ho,Instr.box,Sem.run_bind,run_newVar,Result.andThen_ok,Sem.run_pure]
    by_cases hnz : n=0
    ·rw [if_pos hnz] at hK
     refine fK hrun ?_
     rw [hd]
     refine ⟨_,_,M,hK,?_⟩
     refine h.make (es:=[[.own sz [],.any]]) (sz:=2) (bs:=[]) (src:=fun _ _=>none) (vs:=[u0,u1]) (T:=T) ht hb hL (by rw [hw1];exact alloc_below _ _) (by rw [hw1];simp) (by rw [hw1,hcells];exact heap_alloc_at _ _) (by simp) (by simp) (fun i r off c' hi hr'=>?_) (fun i off i' off' c' e1 e2=>by cases e1) (fun i off c' e=>by cases e) (fun ρ M e=>?_)
     ·cases i with
      | succ i=>simp at hi
      | zero =>
       simp at hi;subst hi
       match off,hr' with
       | 0,hr' =>
        simp at hr';subst hr'
        exact ⟨u0,rfl,.inr (.inl ⟨sz,rfl,hsz,rfl,none,hu0⟩)⟩
       | 1,hr' =>
        simp at hr';subst hr'
        exact ⟨u1,rfl,.inl ⟨rfl,by simp only [ac]⟩⟩
       | off + 2,hr'=>simp at hr'
     ·rw [am rfl];simp [av,e]
    rw [if_neg hnz] at hK
    have hn0 : 0 < n:=Nat.pos_of_ne_zero hnz
    have hslot : ∀ {f' : Nat -> D} {a' : Act} {w' : World} {ρ' : Pa -> Loc} {ω' : Nat -> Option Pa},Own F L (fun k=>S k \/ w0.heap.size <= k) f' M a' w' ρ' ω' -> f' s=.ptx ds -> ∃ (p : Addr) (vs : List Value),a'.tmps[s]? = some (.pointer (some p)) /\ cw F M ρ' ds vs /\ bH M p vs:=fun {f' a' w' ρ' ω'} hO' e=>by
     rcases hO'.slots s hs with h1 | ⟨v,h1,h2⟩
     ·rw [e] at h1;cases h1
     ·rw [e] at h2
      obtain ⟨p,vs,rfl,h3,h4⟩:=h2
      exact ⟨p,vs,h1,h3,h4⟩
    have hmake : SR F nt S L w0 M0 (eff ((t,.adr (.r (rt t 0)) 0 0)::(rt t 0,.blk 2 [[.own sz [],.own sz es]])::b7 [c]) [(rt t 0,true)] f) M (a.put (some t) (.pointer (some ⟨w.heap.size,0,none⟩))) w1:=by
     refine h.make (es:=[[.own sz [],.own sz es]]) (sz:=2) (src:=fun i off=>if i=0 /\ off=1 then some c else none) (vs:=[u0,u1]) (T:=T) ht hb hL (by rw [hw1];exact alloc_below _ _) (by rw [hw1];simp) (by rw [hw1,hcells];exact heap_alloc_at _ _) (by simp) (by simp) (fun i r off c' hi hr'=>?_) (fun i off i' off' c' e1 e2=>?_) (fun i off c' e=>?_) (fun ρ M e=>?_)
     ·cases i with
      | succ i=>simp at hi
      | zero =>
       simp at hi;subst hi
       match off,hr' with
       | 0,hr' =>
        simp at hr';subst hr'
        exact ⟨u0,rfl,.inr (.inl ⟨sz,rfl,hsz,by simp,none,hu0⟩)⟩
       | 1,hr' =>
        simp at hr';subst hr'
        exact ⟨u1,rfl,.inr (.inr ⟨sz,es,c,by simp,rfl,hf,hc1,fun ρ ω hO=>by rw [hn];exact hu1 ρ ω hO⟩)⟩
       | off + 2,hr'=>simp at hr'
     ·split at e1
      ·split at e2
       ·rename_i k1 k2;exact ⟨by omega,by omega⟩
       ·cases e2
      ·cases e1
     ·split at e
      ·cases e;exact ⟨by simp,hcb⟩
      ·cases e
     ·rw [am rfl];simp [av,e]
    refine fK hrun ?_
    rw [hd]
    refine ⟨_,_,M,hK,?_⟩
    obtain ⟨f1,hf1⟩ : ∃ f1,f1=eff ((t,.adr (.r (rt t 0)) 0 0)::(rt t 0,.blk 2 [[.own sz [],.own sz es]])::b7 [c]) [(rt t 0,true)] f:=⟨_,rfl⟩
    rw [<- hf1] at hmake
    have htb : rt t 0 ≠ t:=by unfold rt;omega
    have hfin : eff [(t,.adr (.r (rt t 0)) 0 0),(rt t 0,.blk 2 [[.own sz [],.own sz es]]),(c,.any),(s,.ptx (ds.map (jg c (.n (rt t 0) 0 1))))] [(rt t 0,true)] f=eff [(s,.ptx (ds.map (jg c (.n (rt t 0) 0 1))))] [] f1:=by
     funext y
     by_cases e : y=s
     ·subst e
      have e1 : (y == t)=false:=by simpa using hst
      have e2 : (y == rt t 0)=false:=by simp;omega
      have e3 : (y == c)=false:=by simp;omega
      rw [aG (d:=.ptx (ds.map (jg c (.n (rt t 0) 0 1)))) (by simp only [x0e,e1,e2,e3,beq_self_eq_true]),aG (d:=.ptx (ds.map (jg c (.n (rt t 0) 0 1)))) (by simp)]
     ·have e1 : (y == s)=false:=by simpa using e
      have k1 : eff [(s,.ptx (ds.map (jg c (.n (rt t 0) 0 1))))] [] f1 y=f1 y:=by
       simp [eff,x0e,e1,aF]
      rw [k1,hf1]
      unfold eff
      simp only [b7,x0D,x0U,x0e,e1,x0B]
    rw [hfin]
    obtain ⟨ρ',ω',hO'⟩:=hmake.own
    have hfs1 : f1 s=.ptx ds:=by
     rw [hf1]
     have e1 : (s == t)=false:=by simpa using hst
     have e2 : (s == rt t 0)=false:=by simp;omega
     have e3 : (s == c)=false:=by simp;omega
     have e4 : (ds.any (aA (rt t 0) true))=false:=by
      simp only [List.any_eq_false]
      intro y hy
      have:=x0f.1 hment y hy
      simpa using this
     have e5 : aF [(rt t 0,true)] (f s)=false:=by
      rw [hfs]
      simp only [aF,x1x,x1m,cz,e4,Bool.or_false]
     have e6 : ((t,D.adr (.r (rt t 0)) 0 0)::(rt t 0,D.blk 2 [[.own sz [],.own sz es]])::b7 [c]).lookup s=none:=by
      simp only [b7,x0D,x0U,x0e,e1,e2,e3,x0B]
     unfold eff
     rw [e6]
     simp only [e5]
     exact hfs
    obtain ⟨p,vs,g1,g2,g3⟩:=hslot hO hfs
    obtain ⟨p',vs',g1',g2',g3'⟩:=hslot hO' hfs1
    have htm : (a.put (some t) (.pointer (some ⟨w.heap.size,0,none⟩))).tmps[s]? = a.tmps[s]?:=getElem?_put hst
    rw [htm,g1] at g1'
    cases g1'
    obtain rfl : vs=vs':=oK g3 g3' (by rw [<- g2.1,<- g2'.1])
    have hfb : f1 (rt t 0)=.blk 2 [[.own sz [],.own sz es]]:=by
     rw [hf1]
     refine aG ?_
     have e1 : (rt t 0 == t)=false:=by simpa using htb
     simp [x0e,e1]
    have hft : f1 t=.adr (.r (rt t 0)) 0 0:=by rw [hf1];exact aG (by simp)
    have hwh : w1.heap[w.heap.size]? = some (.cells [u0,u1].toArray T (0,0)):=by rw [hw1,hcells];exact heap_alloc_at _ _
    have hloc : ρ' (.n (rt t 0) 0 1)=ρ (.r c):=by
     have ha : (ρ' (.r (rt t 0))).blk=w.heap.size /\ (ρ' (.r (rt t 0))).base=0:=by
      rcases hO'.slots t (by have:=h.hnt;omega) with k1 | ⟨v,k1,k2⟩
      ·rw [hft] at k1;cases k1
      ·rw [getElem?_put_same (by rw [h.size];exact ht)] at k1
       cases k1
       rw [hft,am rfl] at k2
       simp only [av,Value.pointer.injEq,x0j,Addr.mk.injEq,and_true] at k2
       exact ⟨k2.1.symm,by omega⟩
     rcases hO'.roots (rt t 0) 2 _ hb hfb with ⟨e0,_⟩ | ⟨_,q0,us,T0,q1,q2,q3,q4,q5⟩
     ·cases e0
     ·rw [ha.1,hwh] at q1
      simp only [x0j,Obj.cells.injEq,and_true] at q1
      obtain rfl : [u0,u1]=us:=by simpa using congrArg Array.toList q1.1
      obtain ⟨v,k1,k2,k3⟩:=q5 0 _ 1 _ rfl rfl
      rw [ha.2] at k1
      simp at k1
      subst k1
      have r0:=hu1 ρ ω hO
      rw [hn] at k2
      simp only [av] at k2 r0
      rcases r0 with ⟨z,_⟩ | ⟨cap,r1,r2,r3,_⟩
      ·omega
      rcases k2 with ⟨z,_⟩ | ⟨cap',r1',r2',r3',_⟩
      ·omega
      rw [r1] at r1'
      simp only [Value.slice.injEq,x0j,Addr.mk.injEq,x1q,x1b,and_true,true_and] at r1'
      obtain ⟨⟨l1,l2⟩,l3⟩:=r1'
      rcases hO.roots c sz es hc hf with ⟨z,_⟩ | ⟨m0,m1,us1,T1,m2,m3,m4,m5,m6⟩
      ·rw [z] at hn;simp at hn;omega
      rcases k3 with ⟨z,_⟩ | ⟨m0',m1',us1',T1',m2',m3',m4',m5',m6'⟩
      ·rw [z] at hn;simp at hn;omega
      have hlt:=hO.lt _ _ m0
      have hh : w1.heap[(ρ (.r c)).blk]? = w.heap[(ρ (.r c)).blk]?:=by
       rw [hw1];exact (alloc_below w _).block _ hlt
      rw [<- l1,hh,m2] at m2'
      simp only [x0j,Obj.cells.injEq,and_true] at m2'
      obtain rfl : us1=us1':=by simpa using congrArg Array.toList m2'.1
      have k4 : ∀ x y : Loc,x.blk=y.blk -> x.base=y.base -> x.sz=y.sz -> x.len=y.len -> x=y:=by
       intro x y;cases x;cases y;simp;omega
      exact k4 _ _ l1.symm l2.symm (by rw [m1',m1]) (by rw [<- m3',<- m3])
    refine hmake.know (hO'.know hs (v:=.pointer (some p)) (by rw [htm];exact g1) ⟨p,vs,rfl,⟨by simp [g2.1],fun i d v e1 e2=>?_⟩,g3⟩ rfl)
    rw [x0x,x0h] at e1
    obtain ⟨d0,e1,rfl⟩:=e1
    have r:=g2.2 i d0 v e1 e2
    have r':=g2'.2 i d0 v e1 e2
    unfold jg
    split
    ·split
     ·rename_i c' k m e
      subst e
      simp only [av] at r ⊢
      rw [hloc]
      exact r
     ·exact r'
    ·exact r'
   ·exact hr.elim
  ·exact hr.elim
 ·exact hr.elim
end
end Go.Gv

namespace Go.Gv
open Go.RowKit
section
variable {P : Program} {F : Fid} {C : Nat -> List D -> D -> List D -> Prop} {nt : Nat} {S : Nat -> Prop} {L : Nat -> Option Loc} {w0 : World} {M0 : Mem} {f : Nat -> D} {M M' : Mem} {a : Act} {w w' : World} {o : Oper} {d : D} {Q : Exit -> Act -> World -> Prop} {ρ ρ' : Pa -> Loc} {ω ω' : Nat -> Option Pa} {New : Nat -> Prop} {K : List (Nat × D) -> List (Nat × Bool) -> Prop}
theorem yF {x y : Nat -> Value} {v : Value} (h1 : aW d=true) (h2 : ac { F with vals:=x } M d v) : ac { F with vals:=y } M' d v:=by
 cases d <;> first | (simp [aW] at h1;done) | (simp only [ac] at h2 ⊢;exact h2) | (simp only [ac])
theorem GW {y : Nat -> Value} {v : Value} (h1 : aW d=true) (h2 : ac F M d v) : ac { F with vals:=y } M' d v:=yF (x:=F.vals) h1 h2
theorem GX {y : Nat -> Value} {v : Value} (h1 : aW d=true) (h2 : ac { F with vals:=y } M d v) : ac F M' d v:=yF (y:=F.vals) h1 h2
def xm (ω : Nat -> Option Pa) (b : Nat) : Nat -> Option Pa:=fun k=>match ω k with
 | some p=>if p=.n b 0 1 then some p else none
 | none=>none
theorem ml {b k : Nat} {p : Pa} : xm ω b k=some p ↔ ω k=some (.n b 0 1) /\ p=.n b 0 1:=by
 unfold xm
 split
 ·rename_i q hq
  split
  ·rename_i e;subst e;simp [hq];exact eq_comm
  ·rename_i e
   constructor
   ·intro h;cases h
   ·rintro ⟨h,rfl⟩;rw [hq] at h;cases h;exact absurd rfl e
 ·rename_i hq
  simp [hq]
theorem sV (hC : bz P F C) (h : SR F nt S L w0 M0 f M a w) (hp : ∀ t,o.dst=some t -> t < nt) {g fi s : Nat} {x : Opd} {xs : List Opd} {y : Operand} {ys : List Operand} {ts : Array TypeId} (ho : o.op=.call { callee:=.value (.func fi),args:=⟨y::ys⟩,argTypes:=ts }) (hx0 : aj F x y=true) (hx : bB F xs ys=true)
  (hg : F g=some fi) (hr : aD C f o.dst K (.callQ g s x xs)) : o.wp P a w (PostX F nt S L w0 M0 f K) Q:=by
 simp only [aD] at hr
 split at hr
 ·rename_i T b i off hvx
  obtain ⟨rfl,rfl,hs,hst,hxs,hr⟩:=hr
  split at hr
  ·rename_i sz sz1 fs sz2 sp hf
   split at hr
   ·rename_i ds hfs
    obtain ⟨hkeep,hfl1,hfl2,d,fs',hd1,hfl3,hc,hK⟩:=hr
    obtain ⟨ρ,ω,hO⟩:=h.own
    have hb:=hO.big hf
    have hv:=hO.opd hx0
    rw [hvx,am rfl] at hv
    simp only [av,x1q,x1b] at hv
    obtain ⟨hω,q0,us0,T0,q1,q2,q3,q4,q5⟩ : ω (ρ (.r b)).blk=some (.r b) /\ eI w (ρ (.r b)) sz [[.own sz1 fs,.own sz2 sp]] (fun i off d v=>bR F M ω ρ w b i off d v):=by
     rcases hO.roots b sz _ hb hf with ⟨e0,_⟩ | hh
     ·cases e0
     ·exact hh
    obtain ⟨v0,k0,c0⟩:=q5 0 _ 0 _ rfl rfl
    obtain ⟨v1,k1,c1⟩:=q5 0 _ 1 _ rfl rfl
    obtain ⟨c01,c02⟩:=c0
    obtain ⟨c11,c12⟩:=c1
    obtain ⟨M1,hM1⟩ : ∃ M1,M1=bS (xm ω b) M w:=⟨_,rfl⟩
    have hMle : M.le M1:=by
     intro p v hp
     rw [hM1]
     unfold bS
     split
     ·rename_i q hq
      obtain ⟨e1,e2⟩:=ml.1 hq
      rw [hO.apart p _ e1] at hp;cases hp
     ·exact hp
    have hMh : ∀ p v,M1 p=some v -> w.cell? p=some v:=by rw [hM1];exact cg h.holds
    obtain ⟨F1,hF1⟩ : ∃ F1 : Fid,F1={ F with vals:=fun _=>v1 }:=⟨_,rfl⟩
    have up : ∀ {d : D} {v : Value} {M2 : Mem},aW d=true -> ac F M d v -> ac F1 M2 d v:=fun h1 h2=>by rw [hF1];exact GW h1 h2
    have dn : ∀ {d : D} {v : Value} {M2 : Mem},aW d=true -> ac F1 M2 d v -> ac F M d v:=fun h1 h2=>by rw [hF1] at h2;exact GX h1 h2
    have hslv : ac F1 M1 (.slv 0 sp) v1:=by
     have h1 : bQ (xm ω b) ρ w (.n b 0 1) sz2 sp (fun _ _ d v=>ac F M d v):=by
      rcases c12 with e | ⟨e1,e2⟩
      ·exact .inl e
      ·exact .inr ⟨ml.2 ⟨e1,rfl⟩,e2⟩
     have h2:=j0 (F:=F1) (M:=M) h1 (fun d=>d) (fun i r off d v hi hr hc=>up (hfl2 r (x0b hi) d (x0b hr)) hc) (k:=0) (n:=sp.length) (by omega) (by
      simpa only [av] using c11)
     rw [<- hM1] at h2
     simp only [List.drop_zero,List.take_length,List.map_id'] at h2
     simp only [ac] at h2 ⊢
     refine ⟨by rw [hF1],?_⟩
     simpa using h2
    obtain ⟨ρ1,hρ1⟩ : ∃ ρ1 : Pa -> Loc,ρ1=fun p=>ρ (p.to b):=⟨_,rfl⟩
    obtain ⟨ω1,hω1⟩ : ∃ ω1 : Nat -> Option Pa,ω1=fun k=>match ω k with
     | some p=>if p.root=b then some (p.to ao) else none
     | none=>none:=⟨_,rfl⟩
    obtain ⟨ω3,hω3⟩ : ∃ ω3 : Nat -> Option Pa,ω3=fun k=>match ω k with
     | some p=>if p.root=b /\ p ≠ .n b 0 1 then some (p.to ao) else none
     | none=>none:=⟨_,rfl⟩
    have w1 : ∀ k q,ω1 k=some q ↔ ∃ p : Pa,ω k=some p /\ p.root=b /\ q=p.to ao:=fun k q=>by
     rw [hω1]
     simp only
     constructor
     ·intro e
      split at e
      ·rename_i p hp
       split at e
       ·cases e;exact ⟨p,hp,by assumption,rfl⟩
       ·cases e
      ·cases e
     ·rintro ⟨p,e1,e2,rfl⟩
      simp only [e1,if_pos e2]
    have w3 : ∀ k q,ω3 k=some q ↔ ∃ p : Pa,ω k=some p /\ p.root=b /\ p ≠ .n b 0 1 /\ q=p.to ao:=fun k q=>by
     rw [hω3]
     simp only
     constructor
     ·intro e
      split at e
      ·rename_i p hp
       split at e
       ·rename_i e2;cases e;exact ⟨p,hp,e2.1,e2.2,rfl⟩
       ·cases e
      ·cases e
     ·rintro ⟨p,e1,e2,e3,rfl⟩
      simp only [e1,if_pos (And.intro e2 e3)]
    have p1 : ∀ p : Pa,p.root=b -> ρ1 (p.to ao)=ρ p:=fun p hp=>by
     rw [hρ1]
     simp only
     rw [Pa.to_to b ao p hp]
    have pr : ρ1 (.r ao)=ρ (.r b):=p1 (.r b) rfl
    have pn : ∀ i o,ρ1 (.n ao i o)=ρ (.n b i o):=fun i o=>p1 (.n b i o) rfl
    have lent : my F1 M1 w ρ1 ω3 ao sz [[.own sz1 fs,.slv 0 sp]]:=by
     refine ⟨(w3 _ _).2 ⟨.r b,by rw [pr];exact hω,rfl,by simp,rfl⟩,.inr ⟨(w3 _ _).2 ⟨.r b,by rw [pr];exact hω,rfl,by simp,rfl⟩,?_⟩,fun k p e=>?_,fun k p e=>?_,fun p q e=>?_⟩
     ·rw [pr]
      refine ⟨q0,us0,T0,q1,q2,q3,fun e he=>?_,fun i r off d hi hr=>?_⟩
      ·have:=q4 _ (x05.2 rfl)
       rw [x05.1 he,<- this];rfl
      ·cases i with
       | succ i=>simp at hi
       | zero =>
        simp at hi;subst hi
        match off,hr with
        | 0,hr =>
         simp at hr;subst hr
         refine ⟨v0,k0,?_,?_⟩
         ·simp only [av] at c01 ⊢
          rw [pn];exact c01
         ·unfold bQ at c02 ⊢
          rw [pn]
          rcases c02 with e | ⟨e1,g0,us,T2,g1,g2,g3,g4,g5⟩
          ·exact .inl e
          ·refine .inr ⟨(w3 _ _).2 ⟨.n b 0 0,e1,rfl,by simp,rfl⟩,g0,us,T2,g1,g2,g3,g4,fun i r off d hi hr=>?_⟩
           obtain ⟨u,m1,m2⟩:=g5 i r off d hi hr
           exact ⟨u,m1,up (hfl1 r (x0b hi) d (x0b hr)) m2⟩
        | 1,hr =>
         simp at hr;subst hr
         exact ⟨v1,k1,hslv⟩
        | off + 2,hr=>simp at hr
     ·obtain ⟨p',e1,_⟩:=(w3 _ _).1 e
      exact hO.lt _ _ e1
     ·obtain ⟨p',_,_,_,rfl⟩:=(w3 _ _).1 e
      exact Pa.to_root _ _
     ·obtain ⟨p',e1,_,e3,_⟩:=(w3 _ _).1 e
      rw [hM1]
      unfold bS
      split
      ·rename_i q' hq
       obtain ⟨e4,_⟩:=ml.1 hq
       rw [e1] at e4;cases e4;exact absurd rfl e3
      ·exact hO.apart p p' e1
    have hrep : au F M (xs.map (vd f)) (ys.map a.eval):=by
     have hxV : ∀ x ∈ xs,isV (vd f x)=true:=fun x hx=>by
      have:=hxs x hx
      cases hq : vd f x <;> first | rfl | (rw [hq] at this;simp [aW] at this)
     have h1:=dP h hx (by rw [x0f];exact hxV)
     rwa [x0o (g:=vd f) fun x hx'=>by unfold dpv;exact (iR (hxV x hx')).1] at h1
    have hQ:=hC.runsQ g fi sz _ _ d _ hg hc (fun _=>v1)
    rw [<- hF1] at hQ
    have hrun : (execOp a.eval o).run P w=(callFunc fi (a.eval y::ys.map a.eval).toArray).run P w:=by
     simp only [execOp,ho,resolve,Act.eval,Deferred.ofValue,Sem.run_bind,Sem.run_pure,Result.andThen_ok,invoke]
     congr 2
     rw [x1E,x1f]
     apply Array.ext'
     simp
     cases y <;> simp [Act.eval]
    have hM:=hQ M1 w (a.eval y::ys.map a.eval) ρ1 ω3 hMh (by simp [hrep.length]) (fun i d v k1 k2=>by
     cases i with
     | zero =>
      simp at k1 k2
      subst k1;subst k2
      rw [am rfl,hv]
      rw [show (10015 : Nat)=ao from rfl]
      simp only [av,pr,hF1,x1q,x1b]
     | succ i =>
      simp only [x1i] at k1 k2
      obtain ⟨v',hv',rv⟩:=hrep.get k1
      rw [k2] at hv'
      cases hv'
      rw [x0x,x0h] at k1
      obtain ⟨x1,e1,rfl⟩:=k1
      exact a7.of_pure (up (hxs x1 (x0b e1)) rv)) lent
    unfold Oper.wp
    rw [hrun,cu (hC.body g fi hg),Oper.upon_enter]
    refine hM.mono ?_
    rintro e0 w' ⟨v,M',ρ',ω',rfl,r1,r2,r3,r4,r5,r6,r7,r8⟩
    have hout : ∀ k,k < w.heap.size -> (∀ p : Pa,ω k=some p -> p.root=b -> p=.n b 0 1) -> w'.heap[k]? = w.heap[k]?:=fun k hk hq=>r1.block k hk (fun ⟨q,e⟩=>by
     obtain ⟨p,e1,e2,e3,_⟩:=(w3 _ _).1 e
     exact e3 (hq p e1 e2))
    have hnotin : ∀ k,ω k=some (.n b 0 1) -> ω' k=none:=fun k e=>by
     cases e1 : ω' k with
     | none=>rfl
     | some q =>
      rcases r8 k q e1 with ⟨q',e2⟩ | e2
      ·obtain ⟨p',e3,_,e4,_⟩:=(w3 _ _).1 e2
       rw [e] at e3;cases e3;exact absurd rfl e4
      ·have:=hO.lt _ _ e;omega
    obtain ⟨ρ2,hρ2⟩ : ∃ ρ2 : Pa -> Loc,ρ2=fun p=>if p=.n ao 0 1 then ρ (.n b 0 1) else ρ' p:=⟨_,rfl⟩
    obtain ⟨ω2,hω2⟩ : ∃ ω2 : Nat -> Option Pa,ω2=fun k=>if ω k=some (.n b 0 1) then some (.n ao 0 1) else ω' k:=⟨_,rfl⟩
    have a1 : ρ2 (.n ao 0 1)=ρ (.n b 0 1):=by rw [hρ2];simp
    have a2 : ∀ p,p ≠ .n ao 0 1 -> ρ2 p=ρ' p:=fun p hp=>by rw [hρ2];simp only [if_neg hp]
    have b1 : ∀ k,ω k=some (.n b 0 1) -> ω2 k=some (.n ao 0 1):=fun k e=>by rw [hω2];simp only [if_pos e]
    have b2 : ∀ k q,ω' k=some q -> ω2 k=some q:=fun k q e=>by
     rw [hω2]
     simp only
     rw [if_neg (fun e1=>by rw [hnotin k e1] at e;cases e)]
     exact e
    have b3 : ∀ k q,ω2 k=some q -> (ω k=some (.n b 0 1) /\ q=.n ao 0 1) \/ ω' k=some q:=fun k q e=>by
     rw [hω2] at e
     simp only at e
     split at e
     ·cases e;exact .inl ⟨by assumption,rfl⟩
     ·exact .inr e
    have hlent2 : my F M w' ρ2 ω2 ao sz [[.own sz1 fs',.own sz2 sp]]:=by
     have hown:=r7.own
     refine ⟨by rw [a2 _ (by simp)];exact b2 _ _ hown,?_,fun k p e=>?_,fun k p e=>?_,fun p q e=>?_⟩
     ·rcases r7.rows with ⟨e0,_⟩ | ⟨_,m0,us,T2,m1,m2,m3,m4,m5⟩
      ·cases e0
      ·unfold cX bQ
       rw [a2 (.r ao) (by simp)]
       refine .inr ⟨b2 _ _ hown,m0,us,T2,m1,m2,m3,fun e he=>?_,fun i r off d hi hr=>?_⟩
       ·have:=m4 _ (x05.2 rfl)
        rw [x05.1 he,<- this];rfl
       ·cases i with
        | succ i=>simp at hi
        | zero =>
         simp at hi;subst hi
         match off,hr with
         | 0,hr =>
          simp at hr;subst hr
          obtain ⟨u,n1,n2,n3⟩:=m5 0 _ 0 _ rfl rfl
          refine ⟨u,n1,?_,?_⟩
          ·simp only [av] at n2 ⊢
           rw [a2 _ (by simp)];exact n2
          ·unfold bQ at n3 ⊢
           rw [a2 _ (by simp)]
           rcases n3 with e | ⟨e1,g0,us3,T3,g1,g2,g3,g4,g5⟩
           ·exact .inl e
           ·refine .inr ⟨b2 _ _ e1,g0,us3,T3,g1,g2,g3,g4,fun i r off d hi hr=>?_⟩
            obtain ⟨u,l1,l2⟩:=g5 i r off d hi hr
            exact ⟨u,l1,dn (hfl3 r (x0b hi) d (x0b hr)) l2⟩
         | 1,hr =>
          simp at hr;subst hr
          obtain ⟨u,n1,n2⟩:=m5 0 _ 1 _ rfl rfl
          have hu : u=v1:=by
           have h2 : ac F1 M' (.slv 0 sp) u:=n2
           simp only [ac] at h2
           rw [h2.1,hF1]
          subst hu
          refine ⟨u,n1,?_,?_⟩
          ·simp only [av] at c11 ⊢
           rw [a1];exact c11
          ·unfold bQ at c12 ⊢
           rw [a1]
           rcases c12 with e | ⟨e1,g0,us3,T3,g1,g2,g3,g4,g5⟩
           ·exact .inl e
           ·exact .inr ⟨b1 _ e1,g0,us3,T3,(hout _ (hO.lt _ _ e1) (fun p e2 _=>by rw [e1] at e2;cases e2;rfl)).trans g1,g2,g3,g4,g5⟩
         | off + 2,hr=>simp at hr
     ·rcases b3 k p e with ⟨e1,_⟩ | e1
      ·exact x1e (hO.lt _ _ e1) r1.size
      ·exact r7.lt _ _ e1
     ·rcases b3 k p e with ⟨_,rfl⟩ | e1
      ·rfl
      ·exact r7.root _ _ e1
     ·rcases b3 _ q e with ⟨e1,_⟩ | e1
      ·exact hO.apart p _ e1
      ·have:=r7.apart p q e1
       cases e2 : M p with
       | none=>rfl
       | some u=>rw [r2 p u (hMle p u e2)] at this;cases this
    have hdv : ac F M d v:=by
     rcases hd1 with h1 | rfl
     ·exact dn h1 r5
     ·simp only [ac] at r5 ⊢
      obtain ⟨us,e1,e2⟩:=r5
      refine ⟨us,e1,?_⟩
      simpa only [au] using e2
    have hch1 : Ch (fun k=>∃ p,ω1 k=some p) w w':=⟨r1.os,r1.tape,r1.output,r1.size,fun k hk hn=>r1.block k hk (fun ⟨q,e⟩=>hn (by
     obtain ⟨p,e1,e2,e3,e4⟩:=(w3 _ _).1 e
     exact ⟨_,(w1 _ _).2 ⟨p,e1,e2,rfl⟩⟩)),r1.drawn⟩
    have hhold : ∀ p v,M p=some v -> w'.cell? p=some v:=fun p v e=>r4 p v (r2 p v (hMle p v e))
    obtain ⟨ρ4,ω4,x1,x2,x3,x4⟩:=h.lendX (M':=M) hO hf hb hω p1 w1 hch1 (Mem.le_refl _) (fun p e e'=>absurd e e') hhold (by rw [a2 _ (by simp),r6]) hlent2 (fun k p e=>by
     rcases b3 k p e with ⟨e1,_⟩ | e1
     ·exact .inl ⟨_,(w1 _ _).2 ⟨_,e1,rfl,rfl⟩⟩
     ·rcases r8 k p e1 with ⟨q,e2⟩ | e2
      ·obtain ⟨p',e3,e4,_⟩:=(w3 _ _).1 e2
       exact .inl ⟨_,(w1 _ _).2 ⟨p',e3,e4,rfl⟩⟩
      ·exact .inr e2) hp hdv
    refine ⟨_,_,M,hK,?_⟩
    obtain ⟨f1,hf1⟩ : ∃ f1,f1=eff (bU o.dst d++[(b,.blk sz [[.own sz1 fs',.own sz2 sp]])]) [(b,false)] f:=⟨_,rfl⟩
    rw [<- hf1] at x3 x4
    have hlk : ∀ y,y ≠ s -> (bU o.dst d++[(b,D.blk sz [[.own sz1 fs',.own sz2 sp]]),(s,.ptx ds)]).lookup y=(bU o.dst d++[(b,D.blk sz [[.own sz1 fs',.own sz2 sp]])]).lookup y:=fun y hy=>by
     have e1 : (y == s)=false:=by simpa using hy
     cases o.dst with
     | none=>simp only [bU,x1d,x0e,e1,x0B]
     | some t=>simp only [bU,x06,x1d,x0e,e1,x0B]
    have hfin : eff (bU o.dst d++[(b,.blk sz [[.own sz1 fs',.own sz2 sp]]),(s,.ptx ds)]) [(b,false)] f=eff [(s,.ptx ds)] [] f1:=by
     funext y
     by_cases e : y=s
     ·subst e
      rw [aG (d:=.ptx ds) (by
       have e2 : (y == b)=false:=by simp;omega
       cases hdst : o.dst with
       | none=>simp only [bU,x1d,x0e,e2,beq_self_eq_true]
       | some t =>
        have e1 : (y == t)=false:=by
         simp
         rintro rfl
         exact hst hdst
        simp only [bU,x06,x1d,x0e,e1,e2,beq_self_eq_true]),aG (d:=.ptx ds) (by simp)]
     ·have e1 : (y == s)=false:=by simpa using e
      have k1 : eff [(s,D.ptx ds)] [] f1 y=f1 y:=by
       simp [eff,x0e,e1,aF]
      rw [k1,hf1]
      unfold eff
      rw [hlk y e]
    rw [hfin]
    rcases hO.slots s hs with z1 | ⟨vS,z1,z2⟩
    ·rw [hfs] at z1;cases z1
    ·rw [hfs] at z2
     obtain ⟨pS,vs,rfl,z3,z4⟩:=z2
     have htm : (a.put o.dst v).tmps[s]? = a.tmps[s]?:=by
      cases hdst : o.dst with
      | none=>rfl
      | some t=>exact getElem?_put (fun e=>hst (by rw [hdst,e]))
     have hsame : ∀ p : Pa,bg b false p=false \/ p=.n b 0 1 -> ρ4 p=ρ p:=fun p hp=>by
      by_cases e : p.root=b
      ·rw [x1 p e]
       cases p with
       | r c =>
        simp only [Pa.root] at e
        subst e
        show ρ2 (.r ao)=_
        rw [a2 _ (by simp),r6,pr]
       | n c i o =>
        simp only [Pa.root] at e
        subst e
        rcases hp with hp | hp
        ·simp [bg] at hp
        ·cases hp
         exact a1
      ·exact x2 p e
     refine x4.know (x3.know hs (v:=.pointer (some pS)) (by rw [htm];exact z1) ⟨pS,vs,rfl,⟨z3.1,fun i d0 v0 e1 e2=>?_⟩,z4⟩ rfl)
     have r:=z3.2 i d0 v0 e1 e2
     have hk:=x0f.1 hkeep d0 (x0b e1)
     cases d0
     case ref p k n =>
      have : ρ4 p=ρ p:=by
       cases p with
       | r c=>exact hsame _ (.inl (by simp [bg]))
       | n c i o =>
        simp only [gB,x02,x0a,bne_iff_ne,x0k] at hk
        by_cases e : c=b
        ·subst e
         rcases hk with hk | ⟨rfl,rfl⟩
         ·exact absurd rfl hk
         ·exact hsame _ (.inr rfl)
        ·exact hsame _ (.inl (by simp [bg,e]))
      simp only [av] at r ⊢
      rw [this];exact r
     case adr p k n =>
      have : ρ4 p=ρ p:=hsame _ (.inl (by simpa [gB,aA] using hk))
      simp only [av] at r ⊢
      rw [this];exact r
     case ifa T' p k n =>
      have : ρ4 p=ρ p:=hsame _ (.inl (by simpa [gB,aA] using hk))
      simp only [av] at r ⊢
      rw [this];exact r
     case mrf c =>
      have : ρ4 (.r c)=ρ (.r c):=hsame _ (.inl (by simp [bg]))
      simp only [av] at r ⊢
      rw [this];exact r
     all_goals exact r
   ·exact hr.elim
  ·exact hr.elim
 ·exact hr.elim
end
end Go.Gv

namespace Go.Gv
open Go.RowKit
abbrev Env:=List (Nat × D)
def ab : Env -> Nat -> D
 | [],_=>.any
 | (s,d)::r,t=>if s=t then d else ab r t
def dE (ks : List (Nat × Bool)) (e : Env) : Env:=if ks=[] then e else e.map fun p=>(p.1,if aF ks p.2 then .any else p.2)
theorem uj (ws : List (Nat × D)) (e : Env) (t : Nat) : ab (ws++e) t=match ws.lookup t with
  | some d=>d
  | none=>ab e t:=by
 induction ws with
 | nil=>rfl
 | cons p ws ih =>
  obtain ⟨s,d⟩:=p
  simp only [x06,ab,x0e]
  by_cases h : s=t
  ·subst h;simp
  ·have h1 : (t == s)=false:=by simp;exact fun e=>h e.symm
   rw [if_neg h,h1]
   exact ih
theorem sC (ks : List (Nat × Bool)) : ∀ (e : Env) (t : Nat),ab (dE ks e) t=if aF ks (ab e t) then .any else ab e t:=by
 intro e t
 unfold dE
 by_cases hk : ks=[]
 ·subst hk;simp [jQ]
 ·rw [if_neg hk]
  induction e with
  | nil =>
   show D.any=if aF ks D.any=true then D.any else D.any
   by_cases hm : aF ks D.any=true
   ·rw [if_pos hm]
   ·rw [if_neg hm]
  | cons p e ih =>
   obtain ⟨s,d⟩:=p
   by_cases h : s=t
   ·simp [ab,h]
   ·have h1 : ab ((s,d)::e) t=ab e t:=by simp [ab,h]
    rw [h1,<- ih]
    simp [ab,h]
theorem gD (ws : List (Nat × D)) (ks : List (Nat × Bool)) (e : Env) : ab (ws++dE ks e)=eff ws ks (ab e):=by
 funext t
 rw [uj]
 unfold eff
 cases List.lookup t ws with
 | some d=>rfl
 | none=>exact sC ks e t
def iw (e : Env) (dst : Option Nat) (K : Env -> Prop) : Prop :=
 match dst with
 | none=>K e
 | some t=>K ((t,.tup [])::e)
def pH (C : Nat -> List D -> D -> List D -> Prop) (dst : Option Nat) (K : Env -> Prop) (e : Env) (op : NOp) : Prop:=aD C (ab e) dst (fun ws ks=>K (ws++dE ks e)) op
def iM (C : Nat -> List D -> D -> List D -> Prop) (K : Env -> Prop) : List ar -> Env -> Prop
 | [],e=>K e
 | o::os,e=>match o.guard with
  | none=>pH C o.dst (iM C K os) e o.op
  | some (s,want)=>match ab e s with
   | .bool b=>(b=want -> pH C o.dst (iM C K os) ((s,.bool want)::e) o.op) /\ (b=!want -> iw ((s,.bool !want)::e) o.dst (iM C K os))
   | .tup []=>iw e o.dst (iM C K os)
   | _=>False
section
variable {P : Program} {F : Fid} {C : Nat -> List D -> D -> List D -> Prop} {nt : Nat} {S : Nat -> Prop} {L : Nat -> Option Loc} {w0 : World} {M0 : Mem} {f : Nat -> D} {M : Mem} {a : Act} {w : World} {o : Oper} {d : D} {Q : Exit -> Act -> World -> Prop} {ρ : Pa -> Loc} {ω : Nat -> Option Pa} {New : Nat -> Prop} {K : List (Nat × D) -> List (Nat × Bool) -> Prop}
def nk (P : Program) (F : Fid) : NOp -> Op -> Bool
 | .asg x,.move y=>aj F x y
 | .asg x,.assign y=>aj F x y
 | .ldQ _ x,.load t x'=>tyS P t 1 false && aj F x x'
 | .appQ _ sz by_ x y,.call { callee:=.builtin .append,args:=⟨[x',y']⟩,argTypes:=⟨[t,t']⟩ }=>t == t' && qR P t sz by_ && aj F x x' && aj F y y'
 | .cpy sz x y,.call { callee:=.builtin .copy,args:=⟨[x',y']⟩,argTypes:=⟨[t,_]⟩ }=>mU P t sz && aj F x x' && aj F y y'
 | .stL x y,.store t x' y'=>iv P t 1 && aj F x x' && aj F y y'
 | .mkI T x,.makeInterface t x'=>F.ty T == t && kw P t && aj F x x'
 | .tya T x,.typeAssert x' _ t false=>F.ty T == t && kw P t && aj F x x'
 | .callI g m T x xs,.call { callee:=.invoke y m',args:=ys,argTypes:=_ }=>m == m' && (match F g with
  | some fi=>n5 P (F.ty T) m fi
  | none=>false) && aj F x y && bB F xs ys.toList
 | .callM g x xs,.call { callee:=.value (.func fi),args:=⟨y::ys⟩,argTypes:=_ }=>F g == some fi && aj F x y && bB F xs ys
 | .callR g x xs,.call { callee:=.value (.func fi),args:=⟨y::ys⟩,argTypes:=_ }=>F g == some fi && aj F x y && bB F xs ys
 | .callQ g _ x xs,.call { callee:=.value (.func fi),args:=⟨y::ys⟩,argTypes:=_ }=>F g == some fi && aj F x y && bB F xs ys
 | .boxK _ x,.box _ x'=>aj F x x'
 | .slM len sz x,.slice t x' none none none=>(fk P t len sz && decide (len <= 16777216)) && aj F x x'
 | .nilo _,.move y=>aj F (.c .nils) y
 | .nilo _,.assign y=>aj F (.c .nils) y
 | .box _ x,.box _ x'=>aj F x x'
 | .alc zs,.alloc t=>zeroOk P t zs
 | .bls sz len zs _ ps,.buildSlice t len' ps'=>len == len' && blsOk P F t sz len zs ps ps'.toList
 | .mks sz by_ zs n c,.makeSlice t n' c'=>mksOk P t sz by_ zs && aj F n n' && aj F c c'
 | .call g xs _,.call { callee:=.value (.func fi),args:=ys,argTypes:=_ }=>F g == some fi && bB F xs ys.toList
 | .callF g xs,.call { callee:=.value (.func fi),args:=ys,argTypes:=_ }=>F g == some fi && bB F xs ys.toList
 | .callS g x xs,.call { callee:=.value (.func fi),args:=⟨y::ys⟩,argTypes:=_ }=>F g == some fi && aj F x y && bB F xs ys
 | .callE g x xs,.call { callee:=.value (.func fi),args:=⟨y::ys⟩,argTypes:=_ }=>F g == some fi && aj F x y && bB F xs ys
 | .callv x xs,.call { callee:=.value x',args:=ys,argTypes:=_ }=>aj F x x' && bB F xs ys.toList
 | .st n _ x v,.store t x' v'=>iv P t n && aj F x x' && aj F v v'
 | .app sz by_ _ x y,.call { callee:=.builtin .append,args:=⟨[x',y']⟩,argTypes:=⟨[t,t']⟩ }=>t == t' && qR P t sz by_ && aj F x x' && aj F y y'
 | .mkm _ _,.makeMap _ none=>true
 | .mpu sh kt et z m x v,.mapUpdate t m' x' v'=>mapOk F t kt et sh z && aj F m m' && aj F x x' && aj F v v'
 | .dead,_=>true
 | p,q=>pk P F p q
theorem fN {t : Option Nat} (hK : dJ t K d) : ∀ a' w',bP F nt S L w0 M0 f t d a' w' -> PostX F nt S L w0 M0 f K a' w':=by
 rintro a' w' ⟨M',h⟩
 cases t with
 | none=>exact ⟨[],[],M',hK,by rw [kW];exact h⟩
 | some t=>exact ⟨_,_,M',hK,h⟩
theorem uy (hl : laidOutB F.P=true) (hP : P=F.P) (h : SR F nt S L w0 M0 f M a w) {n : NOp} {q : Op} (hp : bJ nt f o.dst) (ho : o.op=q) (hk : pk P F n q=true) (hr : res f (·=d) n) : o.wp P a w (bP F nt S L w0 M0 f o.dst d) Q:=by
 unfold pk at hk
 split at hk <;> (try simp only [x0a,x0k] at hk)
 ·exact rD h hp (.inl ho) hk hr
 ·exact rD h hp (.inr ho) hk hr
 ·exact xE h hp ho hk hr
 ·exact vf h hp ho hk.1.1 hk.1.2 hk.2 hr
 ·obtain ⟨⟨rfl,h1⟩,h2⟩:=hk;exact xw h hp ho h1 h2 hr
 ·obtain ⟨rfl,h1⟩:=hk;exact BW h hp ho h1 hr
 ·exact u9 h hp ho hk.2 hk.1 hr
 ·exact vc h hp ho hk.1.2 hk.2 hk.1.1 hr
 ·obtain ⟨rfl,h1⟩:=hk;exact xA h hp ho h1 hr
 ·exact xB h hp ho hk.2 hk.1 hr
 ·exact vb h hp ho hk.1.2 hk.2 hk.1.1 hr
 ·exact va h hp ho hk.1.2 hk.2 hk.1.1 hr
 ·exact BR h hp ho hk.2 hk.1 hr
 ·exact snd_boxF h hp ho hk hr
 ·obtain ⟨rfl,h1⟩:=hk;exact u5 h hp ho h1 hr
 ·exact xx h hp ho hk hr
 ·exact xC h hp ho hk.2 hk.1 hr
 ·exact ve h hp ho hk.2 hk.1 hr
 ·exact BS h hp ho hk.1.2 hk.2 hk.1.1 hr
 ·exact xH h hp ho hk.1.1.2 hk.1.2 hk.2 hk.1.1.1 hr
 ·exact xF h hp ho hk.2 hk.1 hr
 ·exact xz h hp ho hk.2 hk.1 hr
 ·exact BT h hp ho hk.1 hk.2 hr
 ·exact BU h hp ho hk.1 hk.2 hr
 ·obtain ⟨⟨⟨rfl,h1⟩,h2⟩,h3⟩:=hk;exact xu h hp ho h2 h3 h1 hr
 ·obtain ⟨⟨⟨rfl,h1⟩,h2⟩,h3⟩:=hk;exact snd_mpl hl h hp ho h2 h3 h1 hP hr
 ·cases hk
theorem tk {t q sz by_ : Nat} {x y : Opd} (h : aD C f (some t) K (.appQ q sz by_ x y)) : aD C f (some t) K (.app sz by_ false x y):=by
 simp only [aD] at h ⊢
 split at h
 ·rename_i c i o' k n ex
  obtain ⟨rfl,h⟩:=h
  obtain ⟨rows,bs,⟨h1,h2,h⟩,hg⟩:=dt h
  refine hg _ ?_
  subst h1
  simp only [ex]
  split at h
  ·rename_i sz0 es0 hf
   obtain ⟨row0,h3,es,h4,h5,h6,h7⟩:=h
   refine ⟨rfl,h2,rfl,?_⟩
   first | (rw [hf]) | skip
   exact ⟨row0,h3,es,h4,h5,h6,h7⟩
  ·exact h.elim
 ·exact h.elim
theorem AW {dst : Option Nat} {q : Nat} {x : Opd} (h : aD C f dst K (.ldQ q x)) : aD C f dst K (.ld 1 false x):=by
 simp only [aD,res] at h ⊢
 split at h
 ·rename_i c i off ex
  obtain ⟨rfl,h⟩:=h
  split at h
  ·rename_i sz es hf
   obtain ⟨r,h1,d,h2,h3⟩:=h
   have hl:=(x0c.1 h2).1
   have gp : bm f (.r c)=some (sz,es):=by simp only [bm,hf]
   simp only [ex,gp]
   refine ⟨r,h1,by omega,?_⟩
   have : (r.drop off).headD .any=d:=by
    rw [List.headD_eq_head?_getD,List.head?_drop,h2];rfl
   rw [this]
   exact h3
  ·exact h.elim
 ·exact h.elim
def NoL (L : Nat -> Option Loc) : Prop:=∀ t i,i < 15 -> L (rt t i)=none
theorem Bz (hC : bz P F C) (hL : NoL L) (h : SR F nt S L w0 M0 f M a w) {n : NOp} {q : Op} (hd : ∀ t,o.dst=some t -> t < nt) (ho : o.op=q) (hk : nk P F n q=true) (hr : aD C f o.dst K n) : o.wp P a w (PostX F nt S L w0 M0 f K) Q:=by
 have hp : bJ nt f o.dst:=by
  unfold bJ
  split
  ·trivial
  ·rename_i t e;exact hd t e
 unfold nk at hk
 have dst : ∀ {n : NOp},aD C f none K n -> (∀ x,n ≠ .asg x) -> (∀ x,n ≠ .nilo x) -> True:=fun _ _ _=>trivial
 split at hk <;> (try simp only [x0a,x0k] at hk)
 ·cases hdst : o.dst with
  | none=>rw [hdst] at hr;exact hr.elim
  | some t=>rw [hdst] at hr;exact rC h hdst (hd t hdst) (hL t 0 (by decide)) (.inl ho) hk hr
 ·cases hdst : o.dst with
  | none=>rw [hdst] at hr;exact hr.elim
  | some t=>rw [hdst] at hr;exact rC h hdst (hd t hdst) (hL t 0 (by decide)) (.inr ho) hk hr
 ·have hr' : res f (dJ o.dst K) (.ld 1 false _):=AW hr
  obtain ⟨d,h1,h2⟩:=jh hr'
  exact Oper.wp_mono (fN h1) (uy (n:=.ld 1 false _) hC.laid hC.prog h hp ho (by simp only [pk,x0a];exact hk) (h2 _ rfl))
 ·obtain ⟨⟨⟨rfl,h1⟩,h2⟩,h3⟩:=hk
  cases hdst : o.dst with
  | none=>rw [hdst] at hr;exact hr.elim
  | some t=>rw [hdst] at hr;exact rB h hdst (hd t hdst) (hL t 0 (by decide)) ho rfl h2 h3 h1 (tk hr)
 ·simp only [aD] at hr
  cases hdst : o.dst with
  | none=>rw [hdst] at hr;exact hr.elim
  | some t=>rw [hdst] at hr;exact xy h hdst (hd t hdst) ho hk.1.2 hk.2 hk.1.1 hr
 ·exact xI h ho hk.1.2 hk.2 hk.1.1 hr
 ·have hr' : res f (dJ o.dst K) (.mkI _ _):=hr
  obtain ⟨d,h1,h2⟩:=jh hr'
  exact Oper.wp_mono (fN h1) (xD h hp ho hk.1.1 hk.1.2 hk.2 (h2 _ rfl))
 ·have hr' : res f (dJ o.dst K) (.tya _ _):=hr
  obtain ⟨d,h1,h2⟩:=jh hr'
  exact Oper.wp_mono (fN h1) (xJ h hp ho hk.1.1 hk.1.2 hk.2 (h2 _ rfl))
 ·obtain ⟨⟨⟨rfl,h1⟩,h2⟩,h3⟩:=hk
  split at h1
  ·rename_i fi hg
   simp only [aD] at hr
   exact sT hC h hd ho h2 h3 hg h1 hr
  ·cases h1
 ·simp only [aD] at hr
  exact sU hC h hd ho hk.1.2 hk.2 hk.1.1 hr
 ·simp only [aD] at hr
  exact sW hC h hd ho hk.1.2 hk.2 hk.1.1 hr
 ·exact sV hC h hd ho hk.1.2 hk.2 hk.1.1 hr
 ·cases hdst : o.dst with
  | none=>rw [hdst] at hr;exact hr.elim
  | some t=>rw [hdst] at hr;exact u6 h hdst (hd t hdst) (hL t 0 (by decide)) ho hk hr
 ·cases hdst : o.dst with
  | none=>rw [hdst] at hr;exact hr.elim
  | some t=>rw [hdst] at hr;exact xG h hdst (hd t hdst) (hL t 0 (by decide)) ho hk.2 hk.1.1 (of_decide_eq_true hk.1.2) hr
 ·cases hdst : o.dst with
  | none=>rw [hdst] at hr;exact hr.elim
  | some t=>rw [hdst] at hr;exact pD h hdst (hd t hdst) (hL t 0 (by decide)) (.inl ho) hk hr
 ·cases hdst : o.dst with
  | none=>rw [hdst] at hr;exact hr.elim
  | some t=>rw [hdst] at hr;exact pD h hdst (hd t hdst) (hL t 0 (by decide)) (.inr ho) hk hr
 ·cases hdst : o.dst with
  | none=>rw [hdst] at hr;exact hr.elim
  | some t=>rw [hdst] at hr;exact snd_box h hdst (hd t hdst) (hL t 0 (by decide)) ho hk hr
 ·cases hdst : o.dst with
  | none=>rw [hdst] at hr;exact hr.elim
  | some t=>rw [hdst] at hr;exact snd_alc h hdst (hd t hdst) (hL t 0 (by decide)) ho hk hr
 ·obtain ⟨rfl,hk⟩:=hk
  cases hdst : o.dst with
  | none=>rw [hdst] at hr;exact hr.elim
  | some t=>rw [hdst] at hr;exact snd_bls h hdst (hd t hdst) (hL t 0 (by decide)) ho hk hr
 ·cases hdst : o.dst with
  | none=>rw [hdst] at hr;exact hr.elim
  | some t=>rw [hdst] at hr;exact snd_mks h hdst (hd t hdst) (hL t 0 (by decide)) ho hk.1.2 hk.2 hk.1.1 hr
 ·exact u7 hC h hp ho hk.2 hk.1 hr
 ·simp only [aD] at hr
  cases hdst : o.dst with
  | none=>rw [hdst] at hr;exact hr.2.elim
  | some t=>rw [hdst] at hr;exact sS hC h hdst (hd t hdst) (hL t 0 (by decide)) ho hk.2 hk.1 hr
 ·simp only [aD] at hr
  exact sX hC h (fun t=>hL t 0 (by decide)) hd ho hk.1.2 hk.2 hk.1.1 hr
 ·simp only [aD] at hr
  cases hdst : o.dst with
  | none=>rw [hdst] at hr;exact hr.elim
  | some t=>rw [hdst] at hr;exact sR hC h hdst (hd t hdst) (hL t 0 (by decide)) ho hk.1.2 hk.2 hk.1.1 hr
 ·exact sY hC h hp ho hk.1 hk.2 hr
 ·have hdst : o.dst=none:=hr.1
  exact BV h hdst ho hk.1.2 hk.2 hk.1.1 (by rw [hdst] at hr;exact hr)
 ·obtain ⟨⟨⟨rfl,h1⟩,h2⟩,h3⟩:=hk
  cases hdst : o.dst with
  | none=>rw [hdst] at hr;exact hr.elim
  | some t=>rw [hdst] at hr;exact rB h hdst (hd t hdst) (hL t 0 (by decide)) ho rfl h2 h3 h1 hr
 ·cases hdst : o.dst with
  | none=>rw [hdst] at hr;exact hr.elim
  | some t=>rw [hdst] at hr;exact snd_mkm h hdst (hd t hdst) (hL t 0 (by decide)) ho hr
 ·have hdst : o.dst=none:=hr.1
  exact snd_mpu hC.laid h hdst ho hk.1.1.2 hk.1.2 hk.2 hk.1.1.1 hC.prog (by rw [hdst] at hr;exact hr)
 ·exact hr.elim
 ·have hr' : res f (dJ o.dst K) n:=by
   clear dst
   cases n <;> first | exact hr | (simp [pk] at hk)
  obtain ⟨d,h1,h2⟩:=jh hr'
  exact Oper.wp_mono (fN h1) (uy hC.laid hC.prog h hp ho hk (h2 _ rfl))
def yz (nt : Nat) : Option Nat -> Bool
 | none=>true
 | some t=>decide (t < nt)
def nU (ops : Array Oper) : Option (Nat × Bool) -> Option (Nat × Bool) -> Bool
 | none,none=>true
 | some (j,b),some (s,b')=>b == b' && decide (s < 10000) && (match ops[j]? with
  | some o=>o.dst == some s
  | none=>false)
 | _,_=>false
def ni (P : Program) (F : Fid) (nt : Nat) (ops : Array Oper) (n : ar) (o : Oper) : Bool :=
 n.dst == o.dst && yz nt n.dst && nU ops o.guard n.guard && nk P F n.op o.op
theorem qN {ops : Array Oper} {tmps : Array Value} {j s : Nat} {b : Bool} {o : Oper} (h1 : ops[j]? = some o) (h2 : o.dst=some s) (h3 : tmps[s]? = some (.bool b)) : yielded ops tmps j=some b:=by
 simp [yielded,h1,h2,h3]
theorem pJ {ops : Array Oper} {tmps : Array Value} {j s : Nat} {o : Oper} (h1 : ops[j]? = some o) (h2 : o.dst=some s) {vs : Array Value} (h3 : tmps[s]? = some (.tuple vs)) : yielded ops tmps j=none:=by
 simp [yielded,h1,h2,h3]
def Skp (want : Bool) (d : D) : Prop:=d=.bool (!want) \/ d=.tup []
theorem vr {ops : Array Oper} {n : ar} {o : Oper} (h : nU ops o.guard n.guard=true) {f : Nat -> D} {M : Mem} {a : Act} {w : World} (hs : SR F nt S L w0 M0 f M a w) :
  (n.guard=none -> Region.wanted o (yielded ops a.tmps)=true) /\
  (∀ s want b,n.guard=some (s,want) -> f s=.bool b -> Region.wanted o (yielded ops a.tmps)=(b == want)) /\
  (∀ s want,n.guard=some (s,want) -> f s=.tup [] -> Region.wanted o (yielded ops a.tmps)=false):=by
 unfold nU at h
 split at h
 ·rename_i e1 e2
  exact ⟨fun _=>by simp [Region.wanted,e1],fun s want b e3=>(by rw [e2] at e3;cases e3),fun s want e3=>(by rw [e2] at e3;cases e3)⟩
 ·rename_i j b s b' e1 e2
  simp only [x0a,x0k,x0g] at h
  obtain ⟨⟨rfl,hs10⟩,h⟩:=h
  split at h
  ·rename_i o' ho'
   simp only [x0k] at h
   obtain ⟨ρ,ω,hO⟩:=hs.own
   refine ⟨fun e3=>(by rw [e2] at e3;cases e3),fun s1 want b1 e3 e4=>?_,fun s1 want e3 e4=>?_⟩
   ·rw [e2] at e3
    cases e3
    rcases hO.slots s hs10 with h5 | ⟨v,h5,h6⟩
    ·rw [e4] at h5;cases h5
    ·rw [e4] at h6
     simp only [a7,av,ac] at h6
     subst h6
     simp [Region.wanted,e1,qN ho' h h5]
   ·rw [e2] at e3
    cases e3
    rcases hO.slots s hs10 with h5 | ⟨v,h5,h6⟩
    ·rw [e4] at h5;cases h5
    ·rw [e4] at h6
     simp only [a7,av,ac] at h6
     obtain ⟨vs,rfl,_⟩:=h6
     simp [Region.wanted,e1,pJ ho' h h5]
  ·cases h
 ·cases h
theorem oI {e : Env} {s : Nat} {b : Bool} (h : ab e s=.bool b) : ab ((s,.bool b)::e)=ab e:=by
 funext t
 simp only [ab]
 by_cases ht : s=t
 ·subst ht;rw [if_pos rfl,h]
 ·rw [if_neg ht]
def gc (C : Nat -> List D -> D -> List D -> Prop) (n : ar) (f : Nat -> D) (x : Option (List (Nat × D) × List (Nat × Bool))) : Prop :=
 match x with
 | some (ws,ks)=>(∀ s b,n.guard=some (s,b) -> f s=.bool b) /\ aD C f n.dst (fun ws' ks'=>ws'=ws /\ ks'=ks) n.op
 | none=>∃ s b,n.guard=some (s,b) /\ Skp b (f s)
def mA (n : ar) : Option (List (Nat × D) × List (Nat × Bool)) -> (Nat -> D) -> (Nat -> D)
 | some (ws,ks)=>eff ws ks
 | none=>match n.dst with
  | some t=>eff [(t,.tup [])] []
  | none=>fun f=>f
theorem zF (hC : bz P F C) (hL : NoL L) {ops : Array Oper} {n : ar} (hk : ni P F nt ops n o=true) (h : SR F nt S L w0 M0 f M a w) {x : Option (List (Nat × D) × List (Nat × Bool))} (hr : gc C n f x) {R : Act -> World -> Prop}
  (hR : ∀ M' a' w',SR F nt S L w0 M0 (mA n x f) M' a' w' -> R a' w') :
  if Region.wanted o (yielded ops a.tmps) then o.wp P a w R Q \/ (o.asks P a w /\ LetsOut Q) else R (a.put o.dst undef) w:=by
 unfold ni at hk
 simp only [x0a,x0k] at hk
 obtain ⟨⟨⟨hd,hdo⟩,hgu⟩,hop⟩:=hk
 have hw:=vr hgu h
 have hdst : ∀ t,o.dst=some t -> t < nt:=fun t e=>by
  rw [<- hd] at e
  rw [e] at hdo
  simpa [yz] using hdo
 cases x with
 | some y =>
  obtain ⟨ws,ks⟩:=y
  obtain ⟨h1,h2⟩:=hr
  have hwant : Region.wanted o (yielded ops a.tmps)=true:=by
   cases hg : n.guard with
   | none=>exact hw.1 hg
   | some p=>obtain ⟨s,b⟩:=p;rw [hw.2.1 s b b hg (h1 s b hg)];simp
  rw [hwant,if_pos rfl]
  left
  rw [hd] at h2
  refine Oper.wp_mono ?_ (Bz hC hL h hdst rfl hop h2)
  rintro a' w' ⟨ws',ks',M',⟨rfl,rfl⟩,h'⟩
  exact hR M' a' w' h'
 | none =>
  obtain ⟨s,b,h1,h2⟩:=hr
  have hno : Region.wanted o (yielded ops a.tmps)=false:=by
   rcases h2 with h2 | h2
   ·rw [hw.2.1 s b (!b) h1 h2];cases b <;> rfl
   ·exact hw.2.2 s b h1 h2
  rw [hno,if_neg Bool.false_ne_true]
  refine hR M _ w ?_
  unfold mA
  rw [hd]
  cases hdd : o.dst with
  | none=>exact h
  | some t=>exact h.put (hdst t hdd) (fun _ _ _=>by simp [a7,av,ac,au,undef])
theorem sZ {K : Env -> Prop} {n : ar} {ns : List ar} {e : Env} (h : iM C K (n::ns) e) : ∃ x e',gc C n (ab e) x /\ ab e'=mA n x (ab e) /\ iM C K ns e':=by
 have run : ∀ e1,ab e1=ab e -> (∀ s b,n.guard=some (s,b) -> ab e s=.bool b) -> pH C n.dst (iM C K ns) e1 n.op -> ∃ x e',gc C n (ab e) x /\ ab e'=mA n x (ab e) /\ iM C K ns e':=by
  intro e1 he hg h1
  unfold pH at h1
  obtain ⟨ws,ks,h2,h3⟩:=pw h1
  rw [he] at h3
  exact ⟨some (ws,ks),_,⟨hg,h3 _ ⟨rfl,rfl⟩⟩,by rw [gD,he];rfl,h2⟩
 rw [iM] at h
 split at h
 ·rename_i hg
  exact run e rfl (fun s b e'=>(by rw [hg] at e';cases e')) h
 ·rename_i s want hg
  split at h
  ·rename_i b hb
   by_cases hbw : b=want
   ·subst hbw
    exact run _ (oI hb) (fun s' b' e'=>(by rw [hg] at e';cases e';exact hb)) (h.1 rfl)
   ·have hb' : b=!want:=by cases b <;> cases want <;> simp_all
    have h1:=h.2 hb'
    rw [hb'] at hb
    have he:=oI hb
    refine ⟨none,?_⟩
    unfold iw at h1
    unfold mA
    split at h1
    ·rename_i hd
     exact ⟨_,⟨s,want,hg,.inl hb⟩,by rw [hd];exact he,h1⟩
    ·rename_i t hd
     refine ⟨_,⟨s,want,hg,.inl hb⟩,?_,h1⟩
     rw [hd]
     have:=gD [(t,.tup [])] [] ((s,.bool !want)::e)
     simp only [dE,if_true] at this
     rw [he] at this
     exact this
  ·rename_i hb
   refine ⟨none,?_⟩
   unfold iw at h
   unfold mA
   split at h
   ·rename_i hd
    exact ⟨_,⟨s,want,hg,.inr hb⟩,by rw [hd],h⟩
   ·rename_i t hd
    refine ⟨_,⟨s,want,hg,.inr hb⟩,?_,h⟩
    rw [hd]
    have:=gD [(t,.tup [])] [] e
    simp only [dE,if_true] at this
    exact this
  ·exact h.elim
theorem s4 (hC : bz P F C) (hL : NoL L) {ops : Array Oper} {K : Env -> Prop} (hQ : ∀ e M a w,SR F nt S L w0 M0 (ab e) M a w -> K e -> Q .normal a w) (ns : List ar) : ∀ (os : List Oper),ns.length=os.length -> (∀ p ∈ ns.zip os,ni P F nt ops p.1 p.2=true) ->
  ∀ (e : Env) (M : Mem) (a : Act) (w : World),SR F nt S L w0 M0 (ab e) M a w -> iM C K ns e -> wpList P ops Q os a w:=by
 induction ns with
 | nil =>
  intro os hl _ e M a w h hr
  cases os with
  | nil=>exact hQ e M a w h hr
  | cons o os=>simp at hl
 | cons n ns ih =>
  intro os hl hk e M a w h hr
  cases os with
  | nil=>simp at hl
  | cons o os =>
   obtain ⟨x,e',h1,h2,h3⟩:=sZ hr
   rw [wpList]
   exact zF hC hL (hk (n,o) (by simp)) h h1 (fun M' a' w' h'=>ih os (by simpa using hl) (fun p hp=>hk p (by simp [hp])) e' M' a' w' (by rw [h2];exact h') h3)
def kJ (P : Program) (F : Fid) (nt : Nat) (ns : List ar) (ops : Array Oper) : Bool:=ns.length == ops.toList.length && (ns.zip ops.toList).all fun p=>ni P F nt ops p.1 p.2
theorem pu (hC : bz P F C) (hL : NoL L) {ops : Array Oper} {ns : List ar} (hk : kJ P F nt ns ops=true) {id : Nat} {K : Env -> Prop} {e : Env} (h : SR F nt S L w0 M0 (ab e) M a w) (hr : iM C K ns e) (hQ : ∀ e M a w,SR F nt S L w0 M0 (ab e) M a w -> K e -> Q .normal a w) :
  (Code.region id ops false).wp P Q a w:=by
 simp only [kJ,x0a,x0k,x0f] at hk
 exact wp_region_list (s4 hC hL hQ ns ops.toList hk.1 hk.2 e M a w h hr)
end
end Go.Gv

namespace Go.Gv
open Go.RowKit
def mF : Option Opd -> List Opd
 | some x=>[x]
 | none=>[]
def af : NOp -> List Opd
 | .mov x=>[x]
 | .asg x=>[x]
 | .stL x y=>[x,y]
 | .mkI _ x=>[x]
 | .tya _ x=>[x]
 | .callI _ _ _ x xs=>x::xs
 | .callM _ x xs=>x::xs
 | .callR _ x xs=>x::xs
 | .callQ _ s x xs=>x::.t s::xs
 | .boxK s x=>[x,.t s]
 | .ldQ _ x=>[x]
 | .appQ _ _ _ x y=>[x,y]
 | .cpy _ x y=>[x,y]
 | .nilo _=>[]
 | .nck x=>[x]
 | .boxF x=>[x]
 | .blsF _ _ _ ps=>ps.map fun p=>p.2
 | .pick c a b=>[c,a,b]
 | .bin _ x y=>[x,y]
 | .beq _ _ x y=>[x,y]
 | .un _ x=>[x]
 | .conv _ x=>[x]
 | .idxA _ _ _ x i=>[x,i]
 | .ext _ x=>[x]
 | .fad _ x=>[x]
 | .iadS _ x i=>[x,i]
 | .iadA _ _ x i=>[x,i]
 | .ld _ _ x=>[x]
 | .box _ x=>[x]
 | .alc _=>[]
 | .mkm _ _=>[]
 | .mpl _ _ _ _ _ m x=>[m,x]
 | .mpu _ _ _ _ m x v=>[m,x,v]
 | .bld _ ps=>ps.map fun p=>p.2.2
 | .bls _ _ _ _ ps=>ps.map fun p=>p.2
 | .mks _ _ _ n c=>[n,c]
 | .len x=>[x]
 | .lens x=>[x]
 | .call _ xs _=>xs
 | .callv x xs=>x::xs
 | .callF _ xs=>xs
 | .callS _ x xs=>x::xs
 | .callE _ x xs=>x::xs
 | .mk _ xs=>xs
 | .slc _ x lo hi=>x::(mF lo++mF hi)
 | .slA _ _ x=>[x]
 | .slM _ _ x=>[x]
 | .cvS x=>[x]
 | .mn x y=>[x,y]
 | .mx x y=>[x,y]
 | .st _ _ a v=>[a,v]
 | .app _ _ _ x y=>[x,y]
 | .dead=>[]
section
variable {C : Nat -> List D -> D -> List D -> Prop} {f g : Nat -> D}
def cI (f g : Nat -> D) (d : D) : Prop:=∀ b,cz b true d=true -> g b=f b
theorem eM (p : Pa) : bg p.root true p=true:=by cases p <;> simp [bg,Pa.root]
theorem cP {p : Pa} (h : g p.root=f p.root) : bm g p=bm f p:=by
 cases p <;> simp only [bm,Pa.root] at h ⊢ <;> rw [h]
theorem cI.ref {p : Pa} {k n : Nat} (h : cI f g (.ref p k n)) : g p.root=f p.root:=h _ (by simp only [cz,aA];exact eM p)
theorem cI.adr {p : Pa} {i o : Nat} (h : cI f g (.adr p i o)) : g p.root=f p.root:=h _ (by simp only [cz,aA];exact eM p)
theorem cI.ifa {T : Nat} {p : Pa} {i o : Nat} (h : cI f g (.ifa T p i o)) : g p.root=f p.root:=h _ (by simp only [cz,aA];exact eM p)
theorem cI.mrf {b : Nat} (h : cI f g (.mrf b)) : g b=f b:=h _ (by simp [cz,aA])
theorem eB {d : D} (h : ∀ b,aA b true d=true -> g b=f b) : dp1 g d=dp1 f d /\ (aU g d ↔ aU f d):=by
 cases d <;> try exact ⟨rfl,Iff.rfl⟩
 case ref p k n =>
  have e:=cP (p:=p) (h _ (by simp only [aA];exact eM p))
  simp only [dp1,aU,e,and_self]
 case adr p i off =>
  have e:=cP (p:=p) (h _ (by simp only [aA];exact eM p))
  simp only [dp1,aU,e,and_self]
theorem eE {b : Nat} {ds : List D} {d : D} (h : d ∈ ds) (hm : aA b true d=true) : ds.any (aA b true)=true:=x0y.2 ⟨d,h,hm⟩
theorem tD {d : D} (h : isX d=false) (ha : cI f g d) : dp g d=dp f d /\ (bu g d ↔ bu f d):=by
 have e : ∀ f : Nat -> D,dp f d=dp1 f d /\ (bu f d ↔ aU f d) /\ ∀ b,cz b true d=aA b true d:=fun f=>by
  cases d <;> first | exact ⟨rfl,Iff.rfl,fun _=>rfl⟩ | (simp [isX] at h)
 obtain ⟨e1,e2,e3⟩:=e f
 obtain ⟨g1,g2,_⟩:=e g
 obtain ⟨h1,h2⟩:=eB (f:=f) (g:=g) (d:=d) (fun b hb=>ha b (by rw [e3];exact hb))
 exact ⟨by rw [g1,e1,h1],by rw [g2,e2];exact h2⟩
theorem iQ {d : D} (h : cI f g d) : dp g d=dp f d /\ (bu g d ↔ bu f d):=by
 cases d
 case agx ds =>
  have e : ∀ d ∈ ds,dp1 g d=dp1 f d /\ (aU g d ↔ aU f d):=fun d hd=>eB fun b hb=>h b (eE hd hb)
  simp only [dp,bu]
  exact ⟨by rw [x0o fun d hd=>(e d hd).1],⟨fun x d hd=>(e d hd).2.1 (x d hd),fun x d hd=>(e d hd).2.2 (x d hd)⟩⟩
 case tpx ds =>
  have e : ∀ d ∈ ds,dp1 g d=dp1 f d /\ (aU g d ↔ aU f d):=fun d hd=>eB fun b hb=>h b (eE hd hb)
  simp only [dp,bu]
  exact ⟨by rw [x0o fun d hd=>(e d hd).1],⟨fun x d hd=>(e d hd).2.1 (x d hd),fun x d hd=>(e d hd).2.2 (x d hd)⟩⟩
 case ptx ds =>
  have e : ∀ d ∈ ds,dp1 g d=dp1 f d /\ (aU g d ↔ aU f d):=fun d hd=>eB fun b hb=>h b (eE hd hb)
  simp only [dp,bu]
  exact ⟨by rw [x0o fun d hd=>(e d hd).1],⟨fun x d hd=>(e d hd).2.1 (x d hd),fun x d hd=>(e d hd).2.2 (x d hd)⟩⟩
 case rfx n sz ds=>exact ⟨rfl,Iff.rfl⟩
 case fny g ds cs=>exact ⟨rfl,Iff.rfl⟩
 case fnx k ds =>
  have e : ∀ d ∈ ds,dp1 g d=dp1 f d /\ (aU g d ↔ aU f d):=fun d hd=>eB fun b hb=>h b (eE hd hb)
  simp only [dp,bu]
  exact ⟨by rw [x0o fun d hd=>(e d hd).1],⟨fun x d hd=>(e d hd).2.1 (x d hd),fun x d hd=>(e d hd).2.2 (x d hd)⟩⟩
 all_goals
  exact tD rfl h
theorem ki {d : D} {K : D -> List Nat -> Prop} (h : ∀ b,aA b true d=true -> g b=f b) (hr : dy f d K) : dy g d K:=by
 unfold dy at hr ⊢
 split at hr
 ·rename_i b k n
  rw [h b (by simp [aA,bg])]
  exact hr
 ·exact hr
theorem km : ∀ {ds : List D} {K : List D -> List Nat -> Prop},(∀ d ∈ ds,∀ b,aA b true d=true -> g b=f b) -> kj f ds K -> kj g ds K
 | [],K,_,hr=>hr
 | d::ds,K,h,hr=>by
  obtain ⟨c,bs,h1,h2⟩:=jw hr
  obtain ⟨cs,bs',h3,h4⟩:=jx h1
  refine ki (h d (by simp)) (h2 _ (km (fun d hd=>h d (by simp [hd])) (h4 _ h3)))
theorem iz {d : D} {ns : List Nat} {K : List D -> List Nat -> Prop} (h : cI f g d) (hr : eQ f d ns K) : eQ g d ns K:=by
 unfold eQ at hr ⊢
 split at hr
 ·exact hr
 ·exact ⟨hr.1,km (fun d hd b hb=>h b (eE hd hb)) hr.2⟩
 ·rename_i hne1 hne2
  refine ⟨hr.1,ki (fun b hb=>h b ?_) hr.2⟩
  cases d <;> first | exact hb | (exact absurd rfl (hne2 _)) | (simp [aA] at hb)
theorem ja {sz : Nat} {ns : List Nat} : ∀ {ps : List (Nat × Opd)} {es : List (List D)} {bs : List Nat} {K : List (List D) -> List Nat -> Prop},(∀ p ∈ ps,vd g p.2=vd f p.2 /\ cI f g (vd f p.2)) -> d7 f sz ns ps es bs K -> d7 g sz ns ps es bs K
 | [],es,bs,K,_,hr=>hr
 | (i,x)::ps,es,bs,K,h,hr=>by
  obtain ⟨h0,hr⟩:=hr
  obtain ⟨e1,e2⟩:=h (i,x) (by simp)
  obtain ⟨cs,b1,⟨h1,h1'⟩,h2⟩:=gd hr
  refine ⟨h0,?_⟩
  simp only at e1 e2
  rw [e1]
  exact iz e2 (h2 _ ⟨h1,ja (fun p hp=>h p (by simp [hp])) h1'⟩)
theorem gM {mv : Bool} {d : D} {sz : Nat} {K : List (List D) -> List Nat -> Prop} (h : cI f g d) (hr : ek f mv d sz K) : ek g mv d sz K:=by
 unfold ek at hr ⊢
 split at hr
 ·exact hr
 ·exact hr
 ·rename_i p k n
  cases mv with
  | true =>
   obtain ⟨h0,hr⟩:=hr
   refine ⟨h0,?_⟩
   cases p with
   | r b=>simp only at hr ⊢;rw [show g b=f b from h.ref];exact hr
   | n b i o=>exact hr
  | false=>simp only at hr ⊢;rw [cP h.ref];exact hr
 ·exact hr
theorem dh {x : Option Opd} {n : Nat} {K : Nat -> Prop} (h : ∀ y ∈ mF x,vd g y=vd f y) (hr : dH f x n K) : dH g x n K:=by
 unfold dH at hr ⊢
 split at hr
 ·exact hr
 ·rename_i y
  rw [h y (by simp [mF])]
  exact hr
theorem gq : ∀ {ps : List (Nat × Opd)} {es : List (List D)},(∀ p ∈ ps,vd g p.2=vd f p.2) -> fy g ps es=fy f ps es
 | [],_,_=>rfl
 | p::ps,es,h=>by
  simp only [fy]
  rw [h p (by simp)]
  exact gq fun q hq=>h q (by simp [hq])
theorem sM {o : NOp} {K : D -> Prop} (hv : ∀ x ∈ af o,vd g x=vd f x) (ha : ∀ x ∈ af o,cI f g (vd f x)) (hr : res f K o) : res g K o:=by
 cases o with
 | ld n ag x =>
  have e:=hv x (by simp [af]);have a:=ha x (by simp [af])
  simp only [res,e] at hr ⊢
  split at hr
  ·rename_i ex;rw [ex] at a;rw [cP a.adr];exact hr
  ·exact hr
  ·exact hr
  ·exact hr
 | iadS sz x i =>
  have e:=hv x (by simp [af]);have a:=ha x (by simp [af]);have e2:=hv i (by simp [af])
  simp only [res,e,e2] at hr ⊢
  split at hr
  ·exact hr
  ·exact hr
  ·exact hr
  ·rename_i ex _;rw [ex] at a;rw [cP a.ref];exact hr
  ·exact hr
 | slc sz x lo hi =>
  have e:=hv x (by simp [af]);have a:=ha x (by simp [af])
  have hlo : ∀ y ∈ mF lo,vd g y=vd f y:=fun y hy=>hv y (by simp [af,hy])
  have hhi : ∀ y ∈ mF hi,vd g y=vd f y:=fun y hy=>hv y (by simp [af,hy])
  simp only [res,e] at hr ⊢
  split at hr
  ·exact ⟨hr.1,dh hhi (iA hr.2 fun m h=>dh hlo h)⟩
  ·exact dh hhi (iA hr fun m h=>dh hlo h)
  ·rename_i ex
   rw [ex] at a;rw [cP a.ref]
   split at hr
   ·exact ⟨hr.1,dh hhi (iA hr.2 fun m h=>dh hlo h)⟩
   ·exact hr
  ·exact hr
 | bld zs ps =>
  have e : ∀ p ∈ ps,vd g p.2.2=vd f p.2.2:=fun p hp=>hv _ (x0q.2 ⟨p,hp,rfl⟩)
  simp only [res] at hr ⊢
  obtain ⟨h1,h2,h3⟩:=hr
  have e2 : (ps.all fun p=>isV (vd g p.2.2))=(ps.all fun p=>isV (vd f p.2.2)):=by
   rw [x1c,x0f,x0f]
   exact ⟨fun h p hp=>by rw [<- e p hp];exact h p hp,fun h p hp=>by rw [e p hp];exact h p hp⟩
  have m1 : (ps.map fun p=>(p.1,p.2.1,vd g p.2.2))=ps.map fun p=>(p.1,p.2.1,vd f p.2.2):=x0o fun p hp=>by rw [e p hp]
  have m2 : (ps.map fun p=>(p.1,p.2.1,bI (vd g p.2.2)))=ps.map fun p=>(p.1,p.2.1,bI (vd f p.2.2)):=x0o fun p hp=>by rw [e p hp]
  rw [e2,m1,m2]
  exact ⟨fun p hp=>by rw [e p hp];exact h1 p hp,h2,h3⟩
 | mk k xs =>
  have e : ∀ x ∈ xs,vd g x=vd f x:=fun x hx=>hv x hx
  simp only [res] at hr ⊢
  obtain ⟨h1,h2,h3⟩:=hr
  have e2 : (xs.all fun x=>isV (vd g x))=(xs.all fun x=>isV (vd f x)):=by
   rw [x1c,x0f,x0f]
   exact ⟨fun h p hp=>by rw [<- e p hp];exact h p hp,fun h p hp=>by rw [e p hp];exact h p hp⟩
  rw [e2,x0o e]
  exact ⟨fun p hp=>by rw [e p hp];exact h1 p hp,h2,h3⟩
 | pick c x y=>simp only [res,hv c (by simp [af]),hv x (by simp [af]),hv y (by simp [af])] at hr ⊢;exact hr
 | bin op x y=>simp only [res,hv x (by simp [af]),hv y (by simp [af])] at hr ⊢;exact hr
 | beq op ks x y=>simp only [res,hv x (by simp [af]),hv y (by simp [af])] at hr ⊢;exact hr
 | idxA l s g x i=>simp only [res,hv x (by simp [af]),hv i (by simp [af])] at hr ⊢;exact hr
 | iadA l s x i=>simp only [res,hv x (by simp [af]),hv i (by simp [af])] at hr ⊢;exact hr
 | mn x y=>simp only [res,hv x (by simp [af]),hv y (by simp [af])] at hr ⊢;exact hr
 | mx x y=>simp only [res,hv x (by simp [af]),hv y (by simp [af])] at hr ⊢;exact hr
 | mov x=>simp only [res,hv x (by simp [af])] at hr ⊢;exact hr
 | nck x=>simp only [res,hv x (by simp [af])] at hr ⊢;exact hr
 | un op x=>simp only [res,hv x (by simp [af])] at hr ⊢;exact hr
 | conv k x=>simp only [res,hv x (by simp [af])] at hr ⊢;exact hr
 | slA l s x=>simp only [res,hv x (by simp [af])] at hr ⊢;exact hr
 | cvS x=>simp only [res,hv x (by simp [af])] at hr ⊢;exact hr
 | ext i x=>simp only [res,hv x (by simp [af])] at hr ⊢;exact hr
 | fad i x=>simp only [res,hv x (by simp [af])] at hr ⊢;exact hr
 | mkI T x=>simp only [res,hv x (by simp [af])] at hr ⊢;exact hr
 | tya T x=>simp only [res,hv x (by simp [af])] at hr ⊢;exact hr
 | len x=>simp only [res,hv x (by simp [af])] at hr ⊢;exact hr
 | boxF x=>simp only [res,hv x (by simp [af])] at hr ⊢;exact hr
 | blsF sz len zs ps =>
  have e : ∀ p ∈ ps,vd g p.2=vd f p.2:=fun p hp=>hv _ (x0q.2 ⟨p,hp,rfl⟩)
  simp only [res] at hr ⊢
  rw [gq e]
  exact ⟨fun p hp=>by rw [e p hp];exact hr.1 p hp,hr.2⟩
 | lens x=>simp only [res,hv x (by simp [af])] at hr ⊢;exact hr
 | mpl sh kt et ok z m x =>
  have e:=hv m (by simp [af]);have a:=ha m (by simp [af]);have e2:=hv x (by simp [af])
  simp only [res,e,e2] at hr ⊢
  split at hr
  ·rename_i b ex
   rw [ex] at a
   rw [a.mrf]
   exact hr
  ·exact hr
 | _=>simp only [res] at hr
theorem qA {o : NOp} {dst : Option Nat} {K : List (Nat × D) -> List (Nat × Bool) -> Prop} (hv : ∀ x ∈ af o,vd g x=vd f x) (ha : ∀ x ∈ af o,cI f g (vd f x)) (hr : aD C f dst K o) : aD C g dst K o:=by
 cases o with
 | asg x =>
  have e:=hv x (by simp [af]);have a:=ha x (by simp [af])
  cases dst with
  | none=>exact hr
  | some t =>
   simp only [aD,e] at hr ⊢
   split at hr
   ·rename_i c k n ex
    rw [ex] at a
    rw [show g c=f c from a.ref]
    exact hr
   ·exact hr
 | ldQ q x =>
  have e:=hv x (by simp [af]);have a:=ha x (by simp [af])
  simp only [aD,e] at hr ⊢
  split at hr
  ·rename_i c i off ex
   rw [ex] at a
   rw [show g c=f c from a.adr]
   exact hr
  ·exact hr
 | appQ q sz by_ x y =>
  have e:=hv x (by simp [af]);have a:=ha x (by simp [af]);have e2:=hv y (by simp [af]);have a2:=ha y (by simp [af])
  cases dst with
  | none=>exact hr
  | some t =>
   simp only [aD,e,e2] at hr ⊢
   split at hr
   ·rename_i c i o k n ex
    rw [ex] at a
    obtain ⟨h0,hr⟩:=hr
    obtain ⟨rows,bs,⟨h1,h1',h2⟩,h3⟩:=dt hr
    refine ⟨h0,gM a2 (h3 _ ⟨h1,h1',?_⟩)⟩
    rw [show g c=f c from a.ref]
    exact h2
   ·exact hr
 | cpy sz x y =>
  have e:=hv x (by simp [af]);have a:=ha x (by simp [af]);have e2:=hv y (by simp [af]);have a2:=ha y (by simp [af])
  cases dst with
  | none=>exact hr
  | some t =>
   simp only [aD,e,e2] at hr ⊢
   obtain ⟨rows,bs,⟨h1,h1',h2⟩,h3⟩:=dt hr
   refine gM a2 (h3 _ ⟨h1,h1',?_⟩)
   split at h2
   ·rename_i c k n ex;rw [ex] at a;rw [show g c=f c from a.ref];exact h2
   ·exact h2
 | stL x y =>
  have e:=hv x (by simp [af]);have a:=ha x (by simp [af]);have e2:=hv y (by simp [af])
  simp only [aD,e,e2] at hr ⊢
  refine ⟨hr.1,?_⟩
  have hr:=hr.2
  split at hr
  ·rename_i b i off b' i' o' k n ex ey
   rw [ex] at a
   rw [show g b=f b from a.adr]
   exact hr
  ·exact hr
 | boxK s x =>
  have e:=hv x (by simp [af]);have a:=ha x (by simp [af]);have e2:=hv (.t s) (by simp [af])
  simp only [vd] at e2
  cases dst with
  | none=>exact hr
  | some t =>
   simp only [aD,e,e2] at hr ⊢
   refine ⟨hr.1,hr.2.1,?_⟩
   have hr:=hr.2.2
   split at hr
   ·rename_i c k n ex
    rw [ex] at a
    rw [show g c=f c from a c (by simp [cz,aA,bg])]
    exact hr
   ·exact hr
 | callI k m T x0 xs =>
  have e0:=hv x0 (by simp [af]);have a0:=ha x0 (by simp [af])
  have e : ∀ x ∈ xs,vd g x=vd f x:=fun x hx=>hv x (by simp [af,hx])
  simp only [aD,e0] at hr ⊢
  split at hr
  ·rename_i T' b i o hvx
   rw [hvx] at a0
   have hb : g b=f b:=a0.ifa
   rw [hb,x0o e]
   obtain ⟨h0,h1,h2,hr⟩:=hr
   refine ⟨h0,h1,h2,?_⟩
   split at hr
   ·exact ⟨hr.1,fun x hx=>by rw [e x hx];exact hr.2.1 x hx,hr.2.2⟩
   ·exact hr.elim
  ·exact hr.elim
 | callM k x0 xs =>
  have e0:=hv x0 (by simp [af]);have a0:=ha x0 (by simp [af])
  have e : ∀ x ∈ xs,vd g x=vd f x:=fun x hx=>hv x (by simp [af,hx])
  simp only [aD,e0] at hr ⊢
  split at hr
  ·rename_i T' b i o hvx
   rw [hvx] at a0
   have hb : g b=f b:=a0.ifa
   rw [hb,x0o e]
   obtain ⟨h1,h2,hr⟩:=hr
   refine ⟨h1,h2,?_⟩
   split at hr
   ·exact ⟨hr.1,fun x hx=>by rw [e x hx];exact hr.2.1 x hx,hr.2.2⟩
   ·exact hr.elim
  ·exact hr.elim
 | callR k x0 xs =>
  have e0:=hv x0 (by simp [af]);have a0:=ha x0 (by simp [af])
  have e : ∀ x ∈ xs,vd g x=vd f x:=fun x hx=>hv x (by simp [af,hx])
  simp only [aD,e0] at hr ⊢
  split at hr
  ·rename_i b i o hvx
   rw [hvx] at a0
   have hb : g b=f b:=a0.ref
   rw [hb,x0o e]
   obtain ⟨h1,hr⟩:=hr
   refine ⟨h1,?_⟩
   split at hr
   ·exact ⟨hr.1,hr.2.1,fun x hx=>by rw [e x hx];exact hr.2.2.1 x hx,hr.2.2.2⟩
   ·exact hr.elim
  ·exact hr.elim
 | callQ k s x0 xs =>
  have e0:=hv x0 (by simp [af]);have a0:=ha x0 (by simp [af]);have e2:=hv (.t s) (by simp [af])
  simp only [vd] at e2
  have e : ∀ x ∈ xs,vd g x=vd f x:=fun x hx=>hv x (by simp [af,hx])
  simp only [aD,e0,e2] at hr ⊢
  split at hr
  ·rename_i T' b i o hvx
   rw [hvx] at a0
   have hb : g b=f b:=a0.ifa
   rw [hb,x0o e]
   obtain ⟨h1,h2,h3,h4,h5,hr⟩:=hr
   exact ⟨h1,h2,h3,h4,fun x hx=>by rw [e x hx];exact h5 x hx,hr⟩
  ·exact hr.elim
 | slM len sz x =>
  have e:=hv x (by simp [af]);have a:=ha x (by simp [af])
  cases dst with
  | none=>exact hr
  | some t =>
   simp only [aD,e] at hr ⊢
   split at hr
   ·rename_i c i off ex
    rw [ex] at a
    rw [show g c=f c from a.adr]
    exact hr
   ·exact hr
 | nilo sz=>exact hr
 | alc zs=>exact hr
 | mkm kt et=>exact hr
 | mpu sh kt et z m x v =>
  have e:=hv m (by simp [af]);have a:=ha m (by simp [af]);have e2:=hv x (by simp [af]);have e3:=hv v (by simp [af])
  simp only [aD,e,e2,e3] at hr ⊢
  refine ⟨hr.1,?_⟩
  have hr:=hr.2
  split at hr
  ·rename_i b ex
   rw [ex] at a
   rw [a.mrf]
   exact hr
  ·exact hr
 | box ns x =>
  have e:=hv x (by simp [af]);have a:=ha x (by simp [af])
  cases dst with
  | none=>exact hr
  | some t=>simp only [aD,e] at hr ⊢;exact iz a hr
 | bls sz len zs ns ps =>
  cases dst with
  | none=>exact hr
  | some t=>simp only [aD] at hr ⊢;exact ja (fun p hp=>⟨hv _ (x0q.2 ⟨p,hp,rfl⟩),ha _ (x0q.2 ⟨p,hp,rfl⟩)⟩) hr
 | mks sz by_ zs n c =>
  have e:=hv n (by simp [af]);have e2:=hv c (by simp [af])
  cases dst with
  | none=>exact hr
  | some t=>simp only [aD,e,e2] at hr ⊢;exact hr
 | st n ns x v =>
  have e:=hv x (by simp [af]);have a:=ha x (by simp [af]);have e2:=hv v (by simp [af]);have a2:=ha v (by simp [af])
  simp only [aD,e,e2] at hr ⊢
  obtain ⟨h0,hr⟩:=hr
  refine ⟨h0,?_⟩
  obtain ⟨cs,bs,⟨h1,h2⟩,h3⟩:=gd hr
  refine iz a2 (h3 _ ⟨h1,?_⟩)
  split at h2
  ·rename_i b i off ex;rw [ex] at a;rw [show g b=f b from a.adr];exact h2
  ·rename_i b i0 o0 i off ex;rw [ex] at a;rw [show g b=f b from a.adr];exact h2
  ·exact h2
 | app sz by_ mv x y =>
  have e:=hv x (by simp [af]);have a:=ha x (by simp [af]);have e2:=hv y (by simp [af]);have a2:=ha y (by simp [af])
  cases dst with
  | none=>exact hr
  | some t =>
   simp only [aD,e,e2] at hr ⊢
   obtain ⟨rows,bs,⟨h1,h2⟩,h3⟩:=dt hr
   refine gM a2 (h3 _ ⟨h1,?_⟩)
   split at h2
   ·exact h2
   ·rename_i c k n ex;rw [ex] at a;rw [show g c=f c from a.ref];exact h2
   ·rename_i c i o k n ex;rw [ex] at a;rw [show g c=f c from a.ref];exact h2
   ·exact h2
 | call k xs ms =>
  simp only [aD] at hr ⊢
  obtain ⟨h0,d,h1,h2,h3⟩:=hr
  have e : ∀ x ∈ xs,dpv g x=dpv f x /\ (bu g (vd g x) ↔ bu f (vd f x)):=fun x hx=>by
   have:=iQ (ha x hx)
   unfold dpv
   rw [hv x hx]
   exact this
  refine ⟨fun x hx=>(e x hx).2.2 (h0 x hx),d,by rw [x0o fun x hx=>(e x hx).1];exact h1,h2.imp id (fun h=>?_),h3⟩
  rw [x0f] at h ⊢
  exact fun x hx=>by rw [hv x hx];exact h x hx
 | callF k xs =>
  have e : ∀ x ∈ xs,dpv g x=dpv f x /\ (bu g (vd g x) ↔ bu f (vd f x)):=fun x hx=>by
   have:=iQ (ha x hx)
   unfold dpv
   rw [hv x hx]
   exact this
  simp only [aD] at hr ⊢
  rw [x0o fun x hx=>(e x hx).1]
  exact ⟨fun x hx=>(e x hx).2.2 (hr.1 x hx),hr.2⟩
 | callS k x0 xs =>
  have e0:=hv x0 (by simp [af]);have a0:=ha x0 (by simp [af])
  have eb : ∀ b,∀ x ∈ xs,vd (fbE g b) x=vd (fbE f b) x /\ cI (fbE f b) (fbE g b) (vd (fbE f b) x):=fun b x hx=>by
   have h1:=hv x (by simp [af,hx])
   have h2:=ha x (by simp [af,hx])
   have hag : cI (fbE f b) (fbE g b) (vd f x):=fun c hc=>by
    unfold fbE
    split
    ·rfl
    ·exact h2 c hc
   cases x with
   | t t =>
    simp only [vd] at h1 hag ⊢
    unfold fbE
    split
    ·exact ⟨rfl,fun c hc=>by simp [cz,aA] at hc⟩
    ·exact ⟨h1,hag⟩
   | c d=>exact ⟨rfl,hag⟩
  have ed : ∀ b,∀ x ∈ xs,dpv (fbE g b) x=dpv (fbE f b) x /\ (bu (fbE g b) (vd (fbE g b) x) ↔ bu (fbE f b) (vd (fbE f b) x)):=fun b x hx=>by
   have:=iQ (eb b x hx).2
   unfold dpv
   rw [(eb b x hx).1]
   exact this
  have eo : ∀ b es',mE (fbE g b) xs es' ↔ mE (fbE f b) xs es':=fun b es'=>by
   unfold mE
   rw [x0f,x0f]
   exact or_congr ⟨fun h x hx=>by rw [<- (eb b x hx).1];exact h x hx,fun h x hx=>by rw [(eb b x hx).1];exact h x hx⟩ Iff.rfl
  simp only [aD,e0] at hr ⊢
  split at hr
  ·rename_i b k n hvx
   rw [hvx] at a0
   have hb : g b=f b:=a0.ref
   rw [hb,x0o fun x hx=>(ed b x hx).1]
   simp only [eo]
   obtain ⟨h1,hr⟩:=hr
   refine ⟨h1,?_⟩
   split at hr
   ·exact ⟨hr.1,hr.2.1,fun x hx=>(ed b x hx).2.2 (hr.2.2.1 x hx),hr.2.2.2⟩
   ·exact hr.elim
  ·exact hr.elim
 | callE k x0 xs =>
  have e0:=hv x0 (by simp [af]);have a0:=ha x0 (by simp [af])
  have e : ∀ x ∈ xs,jz g x=jz f x /\ ∀ b,kQ g b x ↔ kQ f b x:=fun x hx=>by
   have h1:=hv x (by simp [af,hx])
   have h2:=ha x (by simp [af,hx])
   unfold jz kQ
   rw [h1]
   revert h2
   generalize vd f x=d
   intro h2
   cases d <;> first | exact ⟨rfl,fun _=>Iff.rfl⟩ | skip
   rename_i p k n
   cases p with
   | r c =>
    have hb : g c=f c:=h2.ref
    exact ⟨by simp only [hb],fun _=>by simp only [hb]⟩
   | n c i o=>exact ⟨rfl,fun _=>Iff.rfl⟩
  simp only [aD,e0] at hr ⊢
  split at hr
  ·split at hr
   ·rename_i p k n hvx
    rw [hvx] at a0
    have hb : g p.root=f p.root:=a0.ref
    have hd : cM g p=cM f p:=by
     cases p with
     | r c=>rfl
     | n c i o=>simp only [cM];rw [show g c=f c from hb]
    simp only [cP hb,hd]
    rw [x0o fun x hx=>(e x hx).1]
    split at hr
    ·obtain ⟨h1,h2,h3,h4,h5,h6⟩:=hr
     exact ⟨h1,h2,h3,h4,fun x hx=>((e x hx).2 _).2 (h5 x hx),h6⟩
    ·exact hr.elim
   ·exact hr.elim
  ·exact hr.elim
 | callv x0 xs =>
  have e0:=hv x0 (by simp [af]);have a0:=ha x0 (by simp [af])
  have e : ∀ x ∈ xs,dpv g x=dpv f x /\ (bu g (vd g x) ↔ bu f (vd f x)):=fun x hx=>by
   have:=iQ (ha x (by simp [af,hx]))
   unfold dpv
   rw [hv x (by simp [af,hx])]
   exact this
  simp only [aD,e0] at hr ⊢
  split at hr
  ·obtain ⟨h0,d,h1,h2,h3⟩:=hr
   refine ⟨fun x hx=>(e x hx).2.2 (h0 x hx),d,by rw [x0o fun x hx=>(e x hx).1];exact h1,h2.imp id (fun h=>?_),h3⟩
   rw [x0f] at h ⊢
   exact fun x hx=>by rw [hv x (by simp [af,hx])];exact h x hx
  ·rename_i k cs ex
   rw [ex] at a0
   obtain ⟨h0,h0',d,h1,h2,h3⟩:=hr
   have ec : ∀ c ∈ cs,dp1 g c=dp1 f c /\ (aU g c ↔ aU f c):=fun c hc=>eB fun b hb=>a0 b (eE hc hb)
   exact ⟨fun x hx=>(e x hx).2.2 (h0 x hx),fun c hc=>(ec c hc).2.2 (h0' c hc),d,by rw [x0o fun x hx=>(e x hx).1,x0o fun c hc=>(ec c hc).1];exact h1,h2,h3⟩
  ·exact hr
 | _=>(simp only [aD] at hr ⊢;exact sM hv ha hr)
end
end Go.Gv

namespace Go.Gv
open Go.RowKit
def aB : D -> List Nat
 | .ref p _ _=>[p.root]
 | .adr p _ _=>[p.root]
 | .ifa _ p _ _=>[p.root]
 | .mrf b=>[b]
 | _=>[]
def a8 : D -> List Nat
 | .agx ds=>ds.flatMap aB
 | .tpx ds=>ds.flatMap aB
 | .ptx ds=>ds.flatMap aB
 | .rfx _ _ ds=>ds.flatMap aB
 | .fnx _ ds=>ds.flatMap aB
 | .fny _ ds cs=>ds.flatMap aB++cs.flatMap aB
 | d=>aB d
theorem lQ {b : Nat} {all : Bool} {p : Pa} (h : bg b all p=true) : b=p.root:=by
 cases p <;> simp [bg,Pa.root] at h ⊢ <;> simp_all
theorem kE {b : Nat} {all : Bool} {d : D} (h : aA b all d=true) : b ∈ aB d:=by
 cases d <;> simp only [aA,x0i] at h
 case ref p k n=>simp [aB,lQ h]
 case adr p i o=>simp [aB,lQ h]
 case ifa T p i o=>simp [aB,lQ h]
 case mrf c=>simp at h;simp [aB,h.2]
theorem iF {b : Nat} {all : Bool} {d : D} (h : cz b all d=true) : b ∈ a8 d:=by
 have part : ∀ ds : List D,ds.any (aA b all)=true -> b ∈ ds.flatMap aB:=fun ds h=>by
  obtain ⟨d,h1,h2⟩:=x0y.1 h
  exact x1l.2 ⟨d,h1,kE h2⟩
 cases d
 case agx ds=>exact part ds h
 case tpx ds=>exact part ds h
 case ptx ds=>exact part ds h
 case rfx n sz ds=>exact part ds h
 case fnx g ds=>exact part ds h
 case fny g ds cs =>
  simp only [cz,x02] at h
  simp only [a8,x0m]
  rcases h with h | h
  ·exact .inl (part ds h)
  ·exact .inr (part cs h)
 all_goals (simp only [cz] at h;simp only [a8];exact kE h)
theorem jP (ks : List (Nat × Bool)) : aF ks .any=false:=by
 simp [aF,cz,aA]
theorem lP {ks : List (Nat × Bool)} {d : D} (h : aF ks d=true) : ∃ k ∈ ks,cz k.1 k.2 d=true:=by
 simpa [aF] using h
theorem fT {ws : List (Nat × D)} {k : Nat} {d : D} (h : ws.lookup k=some d) : (k,d) ∈ ws:=by
 induction ws with
 | nil=>cases h
 | cons p ws ih =>
  obtain ⟨s,x⟩:=p
  rw [x0e] at h
  cases e : k == s with
  | true=>rw [e] at h;simp at e h;subst e;subst h;simp
  | false=>rw [e] at h;simp [ih h]
theorem pc {ws : List (Nat × D)} {k : Nat} (h : ws.lookup k=none) : k ∉ ws.map (·.1):=by
 induction ws with
 | nil=>simp
 | cons p ws ih =>
  obtain ⟨s,x⟩:=p
  rw [x0e] at h
  cases e : k == s with
  | true=>rw [e] at h;cases h
  | false=>rw [e] at h;simp at e;simp only [x0D,x0I,not_or];exact ⟨e,ih h⟩
theorem eL {ws : List (Nat × D)} {k : Nat} (h : k ∉ ws.map (·.1)) : ws.lookup k=none:=by
 refine pd fun d hd=>h (x0q.2 ⟨_,hd,rfl⟩)
structure Fam where
 n : Nat
 ws : Nat -> List (Nat × D)
 ks : Nat -> List (Nat × Bool)
 rd : Nat -> List Nat
 mn : Nat -> List Nat
 fr : Nat -> List (Nat × Nat)
 bef : Nat -> Nat -> Bool
 f0 : Nat -> D
def Fam.W (A : Fam) (i : Nat) : List Nat:=(A.ws i).map (·.1)
def Fam.E (A : Fam) (i : Nat) : (Nat -> D) -> (Nat -> D):=eff (A.ws i) (A.ks i)
def Fam.G (A : Fam) (l : Nat -> Bool) : Nat -> (Nat -> D)
 | 0=>A.f0
 | m + 1=>if l m then A.E m (A.G l m) else A.G l m
def Fam.St (A : Fam) (m : Nat) : Nat -> D:=A.G (fun _=>true) m
def eR (m : Nat) : D -> Option (List (Option D))
 | .blk _ es=>some (es.map fun r=>r[m]?)
 | _=>none
def Fam.Pres (A : Fam) (i k m : Nat) : Prop:=eR m (A.St (i + 1) k)=eR m (A.St i k)
def Fam.Apart (A : Fam) (i j : Nat) : Prop:=(∀ k ∈ A.W i,k ∉ A.rd j /\ k ∉ A.W j /\ ∀ m,(k,m) ∈ A.fr j -> A.Pres i k m) /\ ∀ k ∈ A.ks i,k.1 ∉ A.mn j
def Fam.Ind (A : Fam) (i j : Nat) : Prop:=A.Apart i j /\ A.Apart j i
structure Fam.Ok (A : Fam) : Prop where
 kills : ∀ i,i < A.n -> ∀ k ∈ A.ks i,k.1 ∈ A.W i
 vals : ∀ i,i < A.n -> ∀ p ∈ A.ws i,∀ b all,cz b all p.2=true -> b ∈ A.mn i \/ b ∈ A.W i
 closed : ∀ i,i < A.n -> ∀ k ∈ A.rd i,∀ b all,cz b all (A.St i k)=true -> b ∈ A.mn i
 fine : ∀ i,i < A.n -> ∀ p ∈ A.fr i,p.1 ∉ A.W i
 known : ∀ i,i < A.n -> ∀ k ∈ A.rd i,A.St i k ≠ .any
 pairs : ∀ i j,i < j -> j < A.n -> A.bef j i=true \/ A.Ind i j
section
variable {A : Fam}
theorem dT {ws : List (Nat × D)} {ks : List (Nat × Bool)} {f : Nat -> D} {k : Nat} {d : D} (h : ws.lookup k=some d) : eff ws ks f k=d:=aG h
theorem cD {ws : List (Nat × D)} {ks : List (Nat × Bool)} {f : Nat -> D} {k : Nat} (h : ws.lookup k=none) : eff ws ks f k=if aF ks (f k) then .any else f k:=by
 unfold eff;rw [h]
theorem Fam.Ok.noKill (h : A.Ok) {i j : Nat} (hi : i < A.n) (hj : j < A.n) (hI : A.Apart j i) {p : Nat × D} (hp : p ∈ A.ws i) : aF (A.ks j) p.2=false:=by
 cases hm : aF (A.ks j) p.2 with
 | false=>rfl
 | true =>
  obtain ⟨k,h1,h2⟩:=lP hm
  have h3:=h.kills j hj k h1
  have h5:=(hI.1 _ h3).2.1
  have h4:=hI.2 k h1
  rcases h.vals i hi p hp _ _ h2 with h6 | h6
  ·exact absurd h6 h4
  ·exact absurd h6 h5
theorem Fam.Ok.comm (h : A.Ok) {i j : Nat} (hi : i < A.n) (hj : j < A.n) (hI : A.Ind i j) (f : Nat -> D) : A.E i (A.E j f)=A.E j (A.E i f):=by
 funext k
 unfold Fam.E
 cases h1 : (A.ws i).lookup k with
 | some d =>
  have hk : k ∈ A.W i:=x0q.2 ⟨_,fT h1,rfl⟩
  have h2 : (A.ws j).lookup k=none:=eL (hI.1.1 k hk).2.1
  have h3:=h.noKill hi hj hI.2 (fT h1)
  rw [dT h1,cD h2,dT h1]
  simp only at h3
  rw [h3];rfl
 | none =>
  cases h2 : (A.ws j).lookup k with
  | some d =>
   have h3:=h.noKill hj hi hI.1 (fT h2)
   rw [cD h1,dT h2,dT h2]
   simp only at h3
   rw [h3];rfl
  | none =>
   rw [cD h1,cD h2,cD h2,cD h1]
   cases e1 : aF (A.ks i) (f k) <;> cases e2 : aF (A.ks j) (f k) <;> simp [e1,e2,jP]
def tg (A : Fam) (l : Nat -> Bool) : Prop:=∀ j,j < A.n -> l j=true -> ∀ i,i < j -> A.bef j i=true -> l i=true
open Classical in
noncomputable def cT (A : Fam) (l : Nat -> Bool) (m : Nat) (d : D) : D:=if ∃ u,u < m /\ l u=false /\ aF (A.ks u) d=true then .any else d
theorem ne (l : Nat -> Bool) (m : Nat) : cT A l m .any=.any:=by
 unfold cT;split <;> rfl
theorem zu (h : A.Ok) {l : Nat -> Bool} (hs : tg A l) : ∀ m,m <= A.n -> ∀ k,(∀ u,u < m -> l u=false -> k ∉ A.W u) -> A.St m k=cT A l m (A.G l m k)
 | 0,_,k,_=>by
  unfold cT
  rw [if_neg (by rintro ⟨u,hu,_⟩;omega)]
  rfl
 | m + 1,hm,k,hk=>by
  have ih:=zu h hs m (by omega) k (fun u hu=>hk u (by omega))
  have e1 : A.St (m + 1) k=A.E m (A.St m) k:=by simp [Fam.St,Fam.G]
  rw [e1]
  cases hl : l m with
  | true =>
   have e2 : A.G l (m + 1) k=A.E m (A.G l m) k:=by simp [Fam.G,hl]
   rw [e2]
   unfold Fam.E
   cases h1 : (A.ws m).lookup k with
   | some d =>
    rw [dT h1,dT h1]
    unfold cT
    rw [if_neg]
    rintro ⟨u,hu,hlu,hmu⟩
    have hum : u < m:=by
     rcases x1a u m with h | h
     ·exact h
     ·have : u=m:=by omega
      subst this;rw [hl] at hlu;cases hlu
    rcases h.pairs u m hum (by omega) with h2 | h2
    ·rw [hs m (by omega) hl u hum h2] at hlu;cases hlu
    ·have:=h.noKill (i:=m) (j:=u) (by omega) (by omega) h2.1 (fT h1)
     simp only at this
     rw [this] at hmu;cases hmu
   | none =>
    rw [cD h1,cD h1,ih]
    have same : ∀ d,cT A l (m + 1) d=cT A l m d:=fun d=>by
     unfold cT
     congr 1
     refine propext ⟨fun ⟨u,h3,h4,h5⟩=>⟨u,?_,h4,h5⟩,fun ⟨u,h3,h4,h5⟩=>⟨u,by omega,h4,h5⟩⟩
     rcases x1a u m with h | h
     ·exact h
     ·have : u=m:=by omega
      subst this;rw [hl] at h4;cases h4
    rw [same]
    generalize A.G l m k=g
    by_cases hc : ∃ u,u < m /\ l u=false /\ aF (A.ks u) g=true
    ·have e3 : cT A l m g=.any:=by unfold cT;rw [if_pos hc]
     rw [e3,jP]
     cases hg : aF (A.ks m) g with
     | true=>simp only [if_true];rw [ne];rfl
     | false=>simp only [x0i,if_false];rw [e3]
    ·have e3 : cT A l m g=g:=by unfold cT;rw [if_neg hc]
     rw [e3]
     cases hg : aF (A.ks m) g with
     | true=>simp only [if_true];rw [ne]
     | false=>simp only [x0i,if_false];rw [e3]
  | false =>
   have e2 : A.G l (m + 1) k=A.G l m k:=by simp [Fam.G,hl]
   rw [e2]
   unfold Fam.E
   rw [cD (eL (hk m (by omega) hl)),ih]
   generalize A.G l m k=g
   by_cases hc : ∃ u,u < m /\ l u=false /\ aF (A.ks u) g=true
   ·have e3 : cT A l m g=.any:=by unfold cT;rw [if_pos hc]
    have e4 : cT A l (m + 1) g=.any:=by
     unfold cT
     obtain ⟨u,h1,h2⟩:=hc
     rw [if_pos ⟨u,by omega,h2⟩]
    rw [e3,e4,jP];rfl
   ·have e3 : cT A l m g=g:=by unfold cT;rw [if_neg hc]
    rw [e3]
    cases hg : aF (A.ks m) g with
    | true =>
     have e4 : cT A l (m + 1) g=.any:=by unfold cT;exact if_pos ⟨m,by omega,hl,hg⟩
     rw [e4];rfl
    | false =>
     have e4 : cT A l (m + 1) g=g:=by
      unfold cT
      refine if_neg ?_
      rintro ⟨u,h1,h2,h3⟩
      rcases x1a u m with h | h
      ·exact hc ⟨u,h,h2,h3⟩
      ·have : u=m:=by omega
       subst this;rw [hg] at h3;cases h3
     rw [e4];rfl
theorem Fam.Ok.reads (h : A.Ok) {l : Nat -> Bool} (hs : tg A l) {j : Nat} (hj : j < A.n) (hlj : l j=false) (hb : ∀ i,i < j -> A.bef j i=true -> l i=true) : ∀ k ∈ A.rd j,A.G l A.n k=A.St j k:=by
 intro k hk
 have h1 : A.G l j k=A.St j k:=by
  have h2:=zu h hs j (by omega) k (fun u hu hlu=>by
   rcases h.pairs u j hu hj with h3 | h3
   ·rw [hb u hu h3] at hlu;cases hlu
   ·exact fun h4=>(h3.1.1 k h4).1 hk)
  have h3:=h.known j hj k hk
  rw [h2] at h3 ⊢
  unfold cT at h3 ⊢
  split at h3
  ·exact absurd rfl h3
  ·rename_i hc;rw [if_neg hc]
 have h2 : ∀ m,j <= m -> m <= A.n -> A.G l m k=A.St j k:=by
  intro m
  induction m with
  | zero=>intro h3 _;have : j=0:=(by omega);subst this;exact h1
  | succ m ih =>
   intro h3 h4
   rcases x1a m j with h5 | h5
   ·have : j=m + 1:=by omega
    rw [<- this];exact h1
   ·have ihm:=ih h5 (by omega)
    cases hl : l m with
    | false=>simp [Fam.G,hl,ihm]
    | true =>
     have hjm : j < m:=by
      rcases x1a j m with h | h
      ·exact h
      ·have : j=m:=by omega
       subst this;rw [hl] at hlj;cases hlj
     rcases h.pairs j m hjm (by omega) with h6 | h6
     ·rw [hs m (by omega) hl j hjm h6] at hlj;cases hlj
     ·have h7 : (A.ws m).lookup k=none:=eL (fun h8=>(h6.2.1 k h8).1 hk)
      have h8 : aF (A.ks m) (A.St j k)=false:=by
       cases hm : aF (A.ks m) (A.St j k) with
       | false=>rfl
       | true =>
        obtain ⟨q,h9,h10⟩:=lP hm
        exact absurd (h.closed j hj k hk _ _ h10) (h6.2.2 q h9)
      simp only [Fam.G,hl,if_true,Fam.E]
      rw [cD h7,ihm,h8];rfl
 exact h2 A.n (by omega) (x0l _)
theorem mQ (m : Nat) (ks : List (Nat × Bool)) (d : D) : eR m (if aF ks d then .any else d)=eR m d:=by
 cases d
 case blk sz es=>rw [nh rfl];rfl
 all_goals (split <;> rfl)
theorem gU (A : Fam) (f g : Nat -> D) (i k m : Nat) (h : k ∉ A.W i) : eR m (A.E i f k)=eR m (f k):=by
 unfold Fam.E
 rw [cD (eL h),mQ]
theorem mS (A : Fam) (f g : Nat -> D) (i k : Nat) (h : k ∈ A.W i) : A.E i f k=A.E i g k:=by
 unfold Fam.E
 cases h1 : (A.ws i).lookup k with
 | none=>exact absurd h (pc h1)
 | some d=>rw [dT h1,dT h1]
theorem iO (A : Fam) (m : Nat) : A.St (m + 1)=A.E m (A.St m):=by simp [Fam.St,Fam.G]
theorem Fam.Ok.readsC (h : A.Ok) {l : Nat -> Bool} (hs : tg A l) {j : Nat} (hj : j < A.n) (hlj : l j=false) (hb : ∀ i,i < j -> A.bef j i=true -> l i=true) : ∀ p ∈ A.fr j,eR p.2 (A.G l A.n p.1)=eR p.2 (A.St j p.1):=by
 rintro ⟨k,c⟩ hk
 simp only
 have hkj:=h.fine j hj _ hk
 simp only at hkj
 have low : ∀ m,m <= j -> eR c (A.G l m k)=eR c (A.St m k):=by
  intro m
  induction m with
  | zero=>intro _;rfl
  | succ m ih =>
   intro hm
   have ihm:=ih (by omega)
   rw [iO]
   by_cases hw : k ∈ A.W m
   ·cases hl : l m with
    | true =>
     simp only [Fam.G,hl,if_true]
     rw [mS A _ (A.St m) m k hw]
    | false =>
     simp only [Fam.G,hl,x0i,if_false]
     rcases h.pairs m j (by omega) hj with h1 | h1
     ·rw [hb m (by omega) h1] at hl;cases hl
     ·have h2:=(h1.1.1 k hw).2.2 c hk
      unfold Fam.Pres at h2
      rw [iO] at h2
      rw [h2,ihm]
   ·rw [gU A _ (A.St m) m k c hw]
    cases hl : l m with
    | true =>
     simp only [Fam.G,hl,if_true]
     rw [gU A _ (A.St m) m k c hw,ihm]
    | false=>simp only [Fam.G,hl,x0i,if_false];exact ihm
 have run : ∀ m,j <= m -> m <= A.n -> (∀ u,j < u -> u < m -> k ∈ A.W u -> A.Pres u k c) -> eR c (A.St m k)=eR c (A.St j k):=by
  intro m
  induction m with
  | zero=>intro h1 _ _;have : j=0:=(by omega);subst this;rfl
  | succ m ih =>
   intro h1 h2 h3
   rcases x1a m j with h4 | h4
   ·have : j=m + 1:=by omega
    rw [<- this]
   ·have ihm:=ih h4 (by omega) (fun u h5 h6 h7=>h3 u h5 (by omega) h7)
    by_cases hw : k ∈ A.W m
    ·have hjm : j < m:=by
      rcases x1a j m with h | h
      ·exact h
      ·have : j=m:=by omega
       subst this;exact absurd hw hkj
     have:=h3 m hjm (by omega) hw
     unfold Fam.Pres at this
     rw [this,ihm]
    ·rw [iO,gU A _ (A.St m) m k c hw,ihm]
 have high : ∀ m,j <= m -> m <= A.n -> eR c (A.G l m k)=eR c (A.St j k):=by
  intro m
  induction m with
  | zero=>intro h1 _;have : j=0:=(by omega);subst this;exact low 0 (x0l _)
  | succ m ih =>
   intro h1 h2
   rcases x1a m j with h4 | h4
   ·have : j=m + 1:=by omega
    rw [<- this];exact low j (x0l _)
   ·have ihm:=ih h4 (by omega)
    cases hl : l m with
    | false=>simp only [Fam.G,hl,x0i,if_false];exact ihm
    | true =>
     simp only [Fam.G,hl,if_true]
     by_cases hw : k ∈ A.W m
     ·have hjm : j < m:=by
       rcases x1a j m with h | h
       ·exact h
       ·have : j=m:=by omega
        subst this;rw [hl] at hlj;cases hlj
      have pres : ∀ u,j < u -> u < A.n -> k ∈ A.W u -> l u=true -> A.Pres u k c:=fun u h5 h6 h7 h8=>by
       rcases h.pairs j u h5 h6 with h9 | h9
       ·rw [hs u h6 h8 j h5 h9] at hlj;cases hlj
       ·exact (h9.2.1 k h7).2.2 c hk
      have h5:=run m h4 (by omega) (fun u h5 h6 h7=>pres u h5 (by omega) h7 (by
       rcases h.pairs u m h6 (by omega) with h9 | h9
       ·exact hs m (by omega) hl u h6 h9
       ·exact absurd hw (h9.1.1 k h7).2.1))
      have h6:=pres m hjm (by omega) hw hl
      unfold Fam.Pres at h6
      rw [mS A _ (A.St m) m k hw,<- iO,h6,h5]
     ·rw [gU A _ (A.St m) m k c hw,ihm]
 exact high A.n (by omega) (x0l _)
theorem Fam.Ok.more (h : A.Ok) {l l' : Nat -> Bool} (hs : tg A l) {j : Nat} (hj : j < A.n) (hlj : l j=false) (hj' : l' j=true) (hl' : ∀ i,i ≠ j -> l' i=l i) : A.G l' A.n=A.E j (A.G l A.n):=by
 have low : ∀ m,m <= j -> A.G l' m=A.G l m:=by
  intro m
  induction m with
  | zero=>intro _;rfl
  | succ m ih =>
   intro hm
   simp only [Fam.G]
   rw [ih (by omega),hl' m (by omega)]
 have high : ∀ m,j < m -> m <= A.n -> A.G l' m=A.E j (A.G l m):=by
  intro m
  induction m with
  | zero=>intro h1;omega
  | succ m ih =>
   intro h1 h2
   rcases x1a j m with h3 | h3
   ·have ihm:=ih h3 (by omega)
    simp only [Fam.G]
    rw [hl' m (by omega),ihm]
    cases hl : l m with
    | false=>rfl
    | true =>
     simp only [if_true]
     rcases h.pairs j m h3 (by omega) with h4 | h4
     ·rw [hs m (by omega) hl j h3 h4] at hlj;cases hlj
     ·exact (h.comm hj (by omega) h4 _).symm
   ·have : m=j:=by omega
    subst this
    simp only [Fam.G]
    rw [hj',hlj,low m (x0l _)]
    rfl
 exact high A.n hj (x0l _)
end
end Go.Gv

namespace Go.Gv
open Go.RowKit
def gH : Opd -> List Nat
 | .t s=>[s]
 | .c _=>[]
def oX : Option (Nat × Bool) -> List Nat
 | some (s,_)=>[s]
 | none=>[]
def rdS (n : ar) : List Nat:=(af n.op).flatMap gH++oX n.guard
def BA : NOp -> List Opd
 | .mov _=>[]
 | .nck _=>[]
 | .pick _ _ _=>[]
 | .bin _ _ _=>[]
 | .un _ _=>[]
 | .conv _ _=>[]
 | .ext _ _=>[]
 | .fad _ _=>[]
 | .ld _ _ _=>[]
 | .ldQ _ _=>[]
 | .mk _ _=>[]
 | .bld _ _=>[]
 | .boxF _=>[]
 | .blsF _ _ _ _=>[]
 | .len _=>[]
 | .iadA _ _ _ _=>[]
 | o=>af o
def ldN : NOp -> List Opd
 | .ld _ _ x=>[x]
 | _=>[]
def rdR (f : Nat -> D) (n : ar) : List Nat:=((BA n.op).flatMap fun x=>a8 (vd f x))++((ldN n.op).flatMap fun x=>aB (vd f x))
def mnR (f : Nat -> D) (n : ar) : List Nat:=(af n.op).flatMap fun x=>a8 (vd f x)
def frR (f : Nat -> D) (n : ar) : List (Nat × Nat):=match n.op with
 | .ldQ o x=>match vd f x with
  | .adr (.r c) _ _=>[(c,o)]
  | _=>[]
 | _=>[]
def fwR (f : Nat -> D) (n : ar) : List (Nat × Nat):=match n.op with
 | .appQ o _ _ x _=>match vd f x with
  | .ref (.n c _ _) _ _=>[(c,o)]
  | _=>[]
 | _=>[]
abbrev Rds:=List Nat × List Nat × List (Nat × Nat) × List (Nat × Nat)
def fj (x : Rds) : List Nat:=x.1.map (4 * ·)++x.2.1.map (4 * · + 1)++x.2.2.1.map (fun p=>4 * (64 * p.1 + p.2 % 64) + 2)++x.2.2.2.map (fun p=>4 * (64 * p.1 + p.2 % 64) + 3)
def rdN (f : Nat -> D) (n : ar) : Rds:=(rdS n++rdR f n,mnR f n,frR f n,fwR f n)
def gj (f : Nat -> D) (n : ar) : List Nat:=fj (rdN f n)
def wrK (ws : List (Nat × D)) (ks : List (Nat × Bool)) : List Nat:=(ws.map fun p=>4 * p.1)++ks.map fun k=>4 * k.1 + 1
def cd : D -> Bool
 | .any=>true
 | _=>false
def chk (f : Nat -> D) (n : ar) : Bool:=((rdS n).all fun s=>!cd (f s)) && ((rdR f n).all fun b=>isB (f b)) && ((frR f n).all fun p=>!(n.dst == some p.1)) && (fwR f n).all fun p=>!(n.dst == some p.1)
def wOk (R : List Nat) (ws : List (Nat × D)) (ks : List (Nat × Bool)) : Bool :=
 (ks.all fun k=>(ws.map (·.1)).contains k.1) && ws.all fun p=>(a8 p.2).all fun b=>R.contains (4 * b + 1) || (ws.map (·.1)).contains b
def tu (q : Nat) (r0 : List Nat) : Bool:=r0.any fun z=>decide (z % 4=3) && decide (z / 256=q / 256) && !decide (z / 4 % 64=q / 4 % 64)
def pL (x r0 : List Nat) (r w : List Nat) : Bool:=x.all fun k=>!r.contains k && !w.contains k && r.all fun q=>!(decide (q % 4=2) && decide (k=4 * (q / 256))) || tu q r0
def iZ (hs : List Nat) (rw : List (List Nat × List Nat)) : Bool :=
 rw.zipIdx.all fun p=>rw.zipIdx.all fun q=>!decide (p.2 < q.2) || (hs.getD q.2 0).testBit p.2 || (pL p.1.2 p.1.1 q.1.1 q.1.2 && pL q.1.2 q.1.1 p.1.1 p.1.2)
def sg : Option Nat -> List Nat
 | some t=>[4 * t]
 | none=>[]
def j9 (C : Nat -> List D -> D -> List D -> Prop) (hs : List Nat) (K : Env -> Prop) : List ar -> Env -> List (List Nat × List Nat) -> Prop
 | [],e,acc=>iZ hs acc.reverse=true /\ K e
 | o::os,e,acc=>chk (ab e) o=true /\ match o.guard with
  | none=>aD C (ab e) o.dst (fun ws ks=>wOk (gj (ab e) o) ws ks=true /\ j9 C hs K os (ws++dE ks e) ((gj (ab e) o,wrK ws ks)::acc)) o.op
  | some (s,want)=>match ab e s with
   | .bool b=>(b=want -> aD C (ab e) o.dst (fun ws ks=>wOk (gj (ab e) o) ws ks=true /\ j9 C hs K os (ws++dE ks e) ((gj (ab e) o,wrK ws ks)::acc)) o.op) /\
     (b=!want -> iw e o.dst fun e'=>j9 C hs K os e' ((gj (ab e) o,sg o.dst)::acc))
   | .tup []=>iw e o.dst fun e'=>j9 C hs K os e' ((gj (ab e) o,sg o.dst)::acc)
   | _=>False
def dg (n : ar) : Option (List (Nat × D) × List (Nat × Bool)) -> List (Nat × D)
 | some (ws,_)=>ws
 | none=>match n.dst with
  | some t=>[(t,.tup [])]
  | none=>[]
def dU : Option (List (Nat × D) × List (Nat × Bool)) -> List (Nat × Bool)
 | some (_,ks)=>ks
 | none=>[]
theorem v6 (n : ar) (x : Option (List (Nat × D) × List (Nat × Bool))) (f : Nat -> D) : mA n x f=eff (dg n x) (dU x) f:=by
 cases x with
 | some y=>rfl
 | none =>
  unfold mA dg dU
  cases n.dst with
  | some t=>rfl
  | none=>exact (kW f).symm
abbrev eS:=ar × Option (List (Nat × D) × List (Nat × Bool)) × Rds
def Tr (C : Nat -> List D -> D -> List D -> Prop) : List eS -> (Nat -> D) -> (Nat -> D) -> Prop
 | [],f,f'=>f'=f
 | (n,x,rd)::ts,f,f'=>gc C n f x /\ chk f n=true /\ wOk (gj f n) (dg n x) (dU x)=true /\ rd=rdN f n /\ Tr C ts (eff (dg n x) (dU x) f) f'
section
variable {C : Nat -> List D -> D -> List D -> Prop}
theorem zH {hs : List Nat} {K : Env -> Prop} : ∀ (ns : List ar) (e : Env) (acc : List (List Nat × List Nat)),j9 C hs K ns e acc -> ∃ (ts : List eS) (e' : Env),ts.map (·.1)=ns /\ Tr C ts (ab e) (ab e') /\ iZ hs (acc.reverse++ts.map fun t=>(fj t.2.2,wrK (dg t.1 t.2.1) (dU t.2.1)))=true /\ K e'
 | [],e,acc,h=>⟨[],e,rfl,rfl,by simpa using h.1,h.2⟩
 | n::ns,e,acc,h=>by
  obtain ⟨h0,h⟩:=h
  have fin : ∀ (x : Option (List (Nat × D) × List (Nat × Bool))) (e1 : Env),gc C n (ab e) x -> wOk (gj (ab e) n) (dg n x) (dU x)=true -> ab e1=eff (dg n x) (dU x) (ab e) -> j9 C hs K ns e1 ((gj (ab e) n,wrK (dg n x) (dU x))::acc) ->
    ∃ (ts : List eS) (e' : Env),ts.map (·.1)=n::ns /\ Tr C ts (ab e) (ab e') /\ iZ hs (acc.reverse++ts.map fun t=>(fj t.2.2,wrK (dg t.1 t.2.1) (dU t.2.1)))=true /\ K e':=by
   intro x e1 h1 h2 h3 h4
   obtain ⟨ts,e',g1,g2,g3,g4⟩:=zH ns e1 _ h4
   refine ⟨(n,x,rdN (ab e) n)::ts,e',by simp [g1],⟨h1,h0,h2,rfl,by rw [<- h3];exact g2⟩,?_,g4⟩
   simpa [gj] using g3
  have run : (∀ s b,n.guard=some (s,b) -> ab e s=.bool b) -> aD C (ab e) n.dst (fun ws ks=>wOk (gj (ab e) n) ws ks=true /\ j9 C hs K ns (ws++dE ks e) ((gj (ab e) n,wrK ws ks)::acc)) n.op ->
    ∃ (ts : List eS) (e' : Env),ts.map (·.1)=n::ns /\ Tr C ts (ab e) (ab e') /\ iZ hs (acc.reverse++ts.map fun t=>(fj t.2.2,wrK (dg t.1 t.2.1) (dU t.2.1)))=true /\ K e':=by
   intro hg h1
   obtain ⟨ws,ks,⟨h2,h3⟩,h4⟩:=pw h1
   exact fin (some (ws,ks)) _ ⟨hg,h4 _ ⟨rfl,rfl⟩⟩ h2 (gD ws ks e) h3
  have skp : ∀ s want,n.guard=some (s,want) -> Skp want (ab e s) -> iw e n.dst (fun e'=>j9 C hs K ns e' ((gj (ab e) n,sg n.dst)::acc)) ->
    ∃ (ts : List eS) (e' : Env),ts.map (·.1)=n::ns /\ Tr C ts (ab e) (ab e') /\ iZ hs (acc.reverse++ts.map fun t=>(fj t.2.2,wrK (dg t.1 t.2.1) (dU t.2.1)))=true /\ K e':=by
   intro s want hg hb h1
   unfold iw at h1
   split at h1
   ·rename_i hd
    refine fin none e ⟨s,want,hg,hb⟩ (by simp [wOk,dg,dU,hd]) (by simp [dg,dU,hd,kW]) ?_
    simpa [dg,dU,wrK,hd,sg] using h1
   ·rename_i t hd
    refine fin none ((t,.tup [])::e) ⟨s,want,hg,hb⟩ (by simp [wOk,dg,dU,hd,a8,aB]) ?_ ?_
    ·have:=gD [(t,.tup [])] [] e
     simp only [dE,if_true] at this
     simpa [dg,dU,hd] using this
    ·simpa [dg,dU,wrK,hd,sg] using h1
  split at h
  ·rename_i hg
   exact run (fun s b e'=>(by rw [hg] at e';cases e')) h
  ·rename_i s want hg
   split at h
   ·rename_i b hb
    by_cases hbw : b=want
    ·subst hbw
     exact run (fun s' b' e'=>(by rw [hg] at e';cases e';exact hb)) (h.1 rfl)
    ·have hb' : b=!want:=by cases b <;> cases want <;> simp_all
     have h1:=h.2 hb'
     rw [hb'] at hb
     exact skp s want hg (.inl hb) h1
   ·rename_i hb
    exact skp s want hg (.inr hb) h
   ·exact h.elim
def aV (hs : List Nat) (ts : List eS) (f : Nat -> D) : Fam where
 n:=ts.length
 ws i:=match ts[i]? with
  | some t=>dg t.1 t.2.1
  | none=>[]
 ks i:=match ts[i]? with
  | some t=>dU t.2.1
  | none=>[]
 rd i:=match ts[i]? with
  | some t=>t.2.2.1
  | none=>[]
 mn i:=match ts[i]? with
  | some t=>t.2.2.2.1
  | none=>[]
 fr i:=match ts[i]? with
  | some t=>t.2.2.2.2.1
  | none=>[]
 bef j i:=(hs.getD j 0).testBit i
 f0:=f
theorem jE (hs : List Nat) (t : eS) (ts : List eS) (f : Nat -> D) : ∀ i,(aV hs (t::ts) f).St (i + 1)=(aV hs ts (eff (dg t.1 t.2.1) (dU t.2.1) f)).St i
 | 0=>by simp [Fam.St,Fam.G,Fam.E,aV]
 | i + 1=>by
  have ih:=jE hs t ts f i
  have e1 : ∀ (A : Fam) (m : Nat),A.St (m + 1)=A.E m (A.St m):=fun A m=>by simp [Fam.St,Fam.G]
  rw [e1,ih,e1]
  simp [Fam.E,aV]
theorem oy (hs : List Nat) : ∀ (ts : List eS) (f f' : Nat -> D),Tr C ts f f' -> f'=(aV hs ts f).St ts.length /\ ∀ (i : Nat) (t : eS),ts[i]? = some t -> gc C t.1 ((aV hs ts f).St i) t.2.1 /\ chk ((aV hs ts f).St i) t.1=true /\ wOk (fj t.2.2) (dg t.1 t.2.1) (dU t.2.1)=true /\ t.2.2=rdN ((aV hs ts f).St i) t.1
 | [],f,f',h=>⟨h,fun i t h=>by simp at h⟩
 | (n,x,rd)::ts,f,f',h=>by
  obtain ⟨h1,h2,h3,rfl,h4⟩:=h
  obtain ⟨g1,g2⟩:=oy hs ts _ f' h4
  refine ⟨by rw [x0O,jE];exact g1,fun i t hi=>?_⟩
  cases i with
  | zero=>simp at hi;subst hi;exact ⟨h1,h2,by simpa [gj] using h3,rfl⟩
  | succ i=>rw [jE];exact g2 i t (by simpa using hi)
theorem vt {f : Nat -> D} {n : ar} {x : Option (List (Nat × D) × List (Nat × Bool))} {c : Nat} (h2 : (n.dst == some c)=false) (hx : x=none \/ ∃ d ks,x=some ((match n.dst with | some t=>[(t,d)] | none=>[]),ks)) : c ∉ (dg n x).map (·.1):=by
 have h3 : n.dst ≠ some c:=by simpa using h2
 rcases hx with rfl | ⟨d,ks,rfl⟩
 ·simp only [dg]
  split
  ·rename_i t e
   rw [e] at h3
   simp only [x0D,x0U,x0I,x07,or_false]
   exact fun e=>h3 (by rw [e])
  ·simp
 ·simp only [dg]
  split
  ·rename_i t e
   rw [e] at h3
   simp only [x0D,x0U,x0I,x07,or_false]
   exact fun e=>h3 (by rw [e])
  ·simp
theorem Av {f : Nat -> D} {n : ar} {x : Option (List (Nat × D) × List (Nat × Bool))} (h : gc C n f x) (h2 : chk f n=true) {p : Nat × Nat} (hp : p ∈ frR f n) : p.1 ∉ (dg n x).map (·.1):=by
 have h3 : (n.dst == some p.1)=false:=by
  simp only [chk,x0a,x0f] at h2
  simpa using h2.1.2 p hp
 refine vt (f:=f) h3 ?_
 cases x with
 | none=>exact .inl rfl
 | some y =>
  obtain ⟨ws,ks⟩:=y
  right
  have h:=h.2
  unfold frR at hp
  split at hp
  ·rename_i q x0 heq
   rw [heq] at h
   simp only [aD] at h
   split at h
   ·obtain ⟨_,h⟩:=h
    split at h
    ·obtain ⟨r,_,d,_,h⟩:=h
     unfold dJ at h
     split at h
     ·rename_i t e
      obtain ⟨rfl,rfl⟩:=h
      exact ⟨_,_,by rw [e]⟩
     ·rename_i e
      obtain ⟨rfl,rfl⟩:=h
      exact ⟨.any,_,by rw [e]⟩
    ·exact h.elim
   ·exact h.elim
  ·cases hp
theorem sc {es : List (List D)} {sz i o m : Nat} {row : List D} (h : es[i]? = some row) (ho : o < row.length) (hm : o ≠ m) : eR m (.blk sz (bC es i o 1 [.any]))=eR m (.blk sz es):=by
 simp only [eR,bC,h,x1y,x0j]
 apply List.ext_getElem?
 intro j
 rw [x0x,x0x,List.getElem?_set]
 split
 ·rename_i e
  subst e
  split
  ·rw [h]
   simp only [x04,x0j]
   have hl : (row.take o).length=o:=by simp;omega
   rw [x0Y]
   by_cases h1 : m < o
   ·rw [x0C (by omega),x0A h1]
   ·rw [x0z (by omega),hl,x0z (by simp;omega),x0r]
    congr 1;simp only [x0O,List.length_nil];omega
  ·rename_i h1
   rw [x0K (by omega)]
 ·rfl
theorem Au {f : Nat -> D} {n : ar} {x : Option (List (Nat × D) × List (Nat × Bool))} (h : gc C n f x) (h2 : chk f n=true) {p : Nat × Nat} (hp : p ∈ fwR f n) {m : Nat} (hm : p.2 ≠ m) : eR m (eff (dg n x) (dU x) f p.1)=eR m (f p.1):=by
 have h3 : (n.dst == some p.1)=false:=by
  simp only [chk,x0a,x0f] at h2
  simpa using h2.2 p hp
 cases x with
 | none =>
  rw [cD (eL (vt (f:=f) h3 (.inl rfl)))]
  exact mQ _ _ _
 | some y =>
  obtain ⟨ws,ks⟩:=y
  have h:=h.2
  have h30 : n.dst ≠ some p.1:=by simpa using h3
  unfold fwR at hp
  split at hp
  ·rename_i q sz by_ x0 y0 heq
   rw [heq] at h
   simp only [aD] at h
   split at h
   ·rename_i t hd
    split at h
    ·rename_i c i o' k n' ex
     rw [ex] at hp
     simp only [x0I,x07,or_false] at hp
     subst hp
     simp only at hm h30 ⊢
     obtain ⟨rfl,h⟩:=h
     obtain ⟨rows,bs,⟨h4,h5,h⟩,_⟩:=dt h
     split at h
     ·rename_i sz0 es0 hf
      obtain ⟨row0,h6,es,h7,h8,h9,h10,h11⟩:=h
      subst h10 h11
      have e1 : (c == t)=false:=by simp only [beq_eq_false_iff_ne,ne_eq];exact fun e=>h30 (by rw [hd,e])
      have e2 : (c == rt t 0)=false:=by simpa using h5
      simp only [dg]
      rw [aG (d:=.blk sz0 (bC es0 i o' 1 [.any])) (by simp [x0e,e1,e2]),hf]
      exact sc h6 (x0c.1 h7).1 hm
     ·exact h.elim
    ·exact h.elim
   ·exact h.elim
  ·cases hp
theorem Ar {hs : List Nat} {ts : List eS} {f f' : Nat -> D} (h : Tr C ts f f') (hi : iZ hs (ts.map fun t=>(fj t.2.2,wrK (dg t.1 t.2.1) (dU t.2.1)))=true) : (aV hs ts f).Ok:=by
 obtain ⟨_,hs'⟩:=oy hs ts f f' h
 have get : ∀ i,i < ts.length -> ∃ t,ts[i]? = some t:=fun i hi=>⟨_,x0d hi⟩
 have e4 : ∀ {x : Rds} {z : Nat},z ∈ fj x -> (∃ k ∈ x.1,z=4 * k) \/ (∃ k ∈ x.2.1,z=4 * k + 1) \/ (∃ p ∈ x.2.2.1,z=4 * (64 * p.1 + p.2 % 64) + 2) \/ ∃ p ∈ x.2.2.2,z=4 * (64 * p.1 + p.2 % 64) + 3:=by
  intro x z hz
  simp only [fj,x0m,x0q] at hz
  rcases hz with ((⟨k,h1,h2⟩ | ⟨k,h1,h2⟩) | ⟨p,h1,h2⟩) | ⟨p,h1,h2⟩
  ·exact .inl ⟨k,h1,h2.symm⟩
  ·exact .inr (.inl ⟨k,h1,h2.symm⟩)
  ·exact .inr (.inr (.inl ⟨p,h1,h2.symm⟩))
  ·exact .inr (.inr (.inr ⟨p,h1,h2.symm⟩))
 have e1 : ∀ {x : Rds} {k : Nat},k ∈ x.1 -> 4 * k ∈ fj x:=fun {x k} hk=>by
  simp only [fj,x0m,x0q];exact .inl (.inl (.inl ⟨k,hk,rfl⟩))
 have e2 : ∀ {x : Rds} {k : Nat},k ∈ x.2.1 -> 4 * k + 1 ∈ fj x:=fun {x k} hk=>by
  simp only [fj,x0m,x0q];exact .inl (.inl (.inr ⟨k,hk,rfl⟩))
 have e3 : ∀ {x : Rds} {p : Nat × Nat},p ∈ x.2.2.1 -> 4 * (64 * p.1 + p.2 % 64) + 2 ∈ fj x:=fun {x p} hk=>by
  simp only [fj,x0m,x0q];exact .inl (.inr ⟨p,hk,rfl⟩)
 refine ⟨fun i hn k hk=>?_,fun i hn p hp b all hb=>?_,fun i hn k hk b all hb=>?_,fun i hn p hp hk=>?_,fun i hn k hk=>?_,fun i j hij hn=>?_⟩
 ·obtain ⟨t,ht⟩:=get i hn
  obtain ⟨_,_,h3,_⟩:=hs' i t ht
  simp only [aV,ht] at hk
  simp only [Fam.W,aV,ht]
  simp only [wOk,x0a,x0f] at h3
  exact x0Q.1 (h3.1 k hk)
 ·obtain ⟨t,ht⟩:=get i hn
  obtain ⟨_,_,h3,_⟩:=hs' i t ht
  simp only [aV,ht] at hp
  simp only [Fam.W,aV,ht]
  simp only [wOk,x0a,x0f,x02] at h3
  rcases h3.2 p hp b (iF hb) with h4 | h4
  ·left
   have h5:=x0Q.1 h4
   rcases e4 h5 with ⟨x,_,h6⟩ | ⟨x,h7,h6⟩ | ⟨x,_,h6⟩ | ⟨x,_,h6⟩
   ·omega
   ·have : x=b:=by omega
    subst this;exact h7
   ·omega
   ·omega
  ·exact .inr (x0Q.1 h4)
 ·obtain ⟨t,ht⟩:=get i hn
  obtain ⟨h1,h2,_,h4⟩:=hs' i t ht
  simp only [aV,ht] at hk ⊢
  rw [h4] at hk ⊢
  simp only [chk,x0a,x0f] at h2
  rcases x0m.1 hk with h5 | h5
  ·simp only [rdS] at h5
   rcases x0m.1 h5 with h6 | h6
   ·obtain ⟨x,h7,h8⟩:=x1l.1 h6
    cases x with
    | t s =>
     simp only [gH,x05] at h8
     subst h8
     refine x1l.2 ⟨_,h7,?_⟩
     exact iF hb
    | c d=>simp [gH] at h8
   ·
    have : (∃ bb,(aV hs ts f).St i k=.bool bb) \/ (aV hs ts f).St i k=.tup []:=by
     cases hg : t.1.guard with
     | none=>rw [hg] at h6;simp [oX] at h6
     | some q =>
      obtain ⟨s,want⟩:=q
      rw [hg] at h6
      simp only [oX,x05] at h6
      subst h6
      unfold gc at h1
      split at h1
      ·exact .inl ⟨want,h1.1 k want hg⟩
      ·obtain ⟨s',b',h7,h8⟩:=h1
       rw [hg] at h7;cases h7
       exact h8.imp (fun h8=>⟨_,h8⟩) id
    simp only [aV] at this hb
    rcases this with ⟨bb,hbb⟩ | hbb <;> rw [hbb] at hb <;> simp [cz,aA] at hb
  ·have h6:=h2.1.1.2 k h5
   simp only [aV] at h6 hb
   have h7 : ∀ d : D,isB d=true -> cz b all d=false:=fun d hd=>by cases d <;> first | rfl | (simp [isB] at hd)
   rw [h7 _ h6] at hb;cases hb
 ·
  obtain ⟨t,ht⟩:=get i hn
  obtain ⟨h1,h2,h3,h4⟩:=hs' i t ht
  simp only [aV,ht] at hp
  simp only [Fam.W,aV,ht] at hk
  rw [h4] at hp
  simp only [rdN] at hp
  exact Av h1 h2 hp hk
 ·obtain ⟨t,ht⟩:=get i hn
  obtain ⟨h1,h2,_,h4⟩:=hs' i t ht
  simp only [aV,ht] at hk ⊢
  rw [h4] at hk
  simp only [chk,x0a,x0f] at h2
  rcases x0m.1 hk with h5 | h5
  ·have:=h2.1.1.1 k h5
   intro e
   simp only [aV] at this
   rw [e] at this
   simp [cd] at this
  ·have:=h2.1.1.2 k h5
   intro e
   simp only [aV] at this
   rw [e] at this
   simp [isB] at this
 ·obtain ⟨t,ht⟩:=get i (Nat.lt_trans hij hn)
  obtain ⟨u,hu⟩:=get j hn
  simp only [iZ,x0f] at hi
  have h1:=hi ((fj t.2.2,wrK (dg t.1 t.2.1) (dU t.2.1)),i) (List.mem_zipIdx_iff_getElem?.2 (by simp [ht])) ((fj u.2.2,wrK (dg u.1 u.2.1) (dU u.2.1)),j) (List.mem_zipIdx_iff_getElem?.2 (by simp [hu]))
  simp only [x02,x0s,x0p,x0a] at h1
  rcases h1 with (h1 | h1) | h1
  ·exact absurd hij h1
  ·exact .inl h1
  ·right
   simp only [pL,x0f,x0a,x0s] at h1
   have nm : ∀ {l : List Nat} {k : Nat},l.contains k=false -> k ∉ l:=fun h hm=>by
    have:=x0Q.2 hm
    rw [h] at this;cases this
   have one : ∀ (a b : eS) (x y : Nat),ts[x]? = some a -> ts[y]? = some b -> (∀ k ∈ wrK (dg a.1 a.2.1) (dU a.2.1),((fj b.2.2).contains k=false /\ (wrK (dg b.1 b.2.1) (dU b.2.1)).contains k=false) /\ ∀ q ∈ fj b.2.2,(!(decide (q % 4=2) && decide (k=4 * (q / 256))) || tu q (fj a.2.2))=true) -> (aV hs ts f).Apart x y:=by
    intro a b x y ha hb hab
    refine ⟨fun k hk=>?_,fun k hk hm=>?_⟩
    ·have hk0:=hk
     simp only [Fam.W,aV,ha] at hk
     obtain ⟨p,hp,rfl⟩:=x0q.1 hk
     obtain ⟨⟨h2,h3⟩,h4⟩:=hab (4 * p.1) (x0m.2 (.inl (x0q.2 ⟨p,hp,rfl⟩)))
     refine ⟨fun hr=>nm h2 (e1 (by simp only [aV,hb] at hr;exact hr)),fun hw=>nm h3 (x0m.2 (.inl ?_)),fun m hm=>?_⟩
     ·simp only [Fam.W,aV,hb] at hw
      obtain ⟨q,hq,e⟩:=x0q.1 hw
      exact x0q.2 ⟨q,hq,by rw [e]⟩
     ·simp only [aV,hb] at hm
      have h5:=h4 _ (e3 hm)
      have h6 : (4 * (64 * p.1 + m % 64) + 2) % 4=2:=by omega
      have h7 : (4 * (64 * p.1 + m % 64) + 2) / 256=p.1:=by omega
      have h8 : (4 * (64 * p.1 + m % 64) + 2) / 4 % 64=m % 64:=by omega
      simp only [h6,h7,decide_true,Bool.and_self,Bool.not_true,Bool.false_or,tu,h8,x0y,x0a,x0g,x0s,x0p] at h5
      obtain ⟨z,hz,⟨hz3,hzc⟩,hzo⟩:=h5
      obtain ⟨g1,g2,_,g4⟩:=hs' x a ha
      rcases e4 hz with ⟨_,_,h9⟩ | ⟨_,_,h9⟩ | ⟨_,_,h9⟩ | ⟨p',hp',h9⟩
      ·omega
      ·omega
      ·omega
      ·have e5 : p'.1=p.1:=by omega
       have e6 : p'.2 % 64 ≠ m % 64:=fun e=>hzo (by omega)
       rw [g4] at hp'
       simp only [rdN] at hp'
       have:=Au g1 g2 hp' (m:=m) (fun e=>e6 (by rw [e]))
       unfold Fam.Pres
       rw [iO]
       unfold Fam.E
       simp only [aV,ha] at this ⊢
       rw [e5] at this
       exact this
    ·simp only [aV,ha] at hk
     obtain ⟨⟨h2,_⟩,_⟩:=hab (4 * k.1 + 1) (x0m.2 (.inr (x0q.2 ⟨k,hk,rfl⟩)))
     refine nm h2 (e2 ?_)
     simp only [aV,hb] at hm;exact hm
   exact ⟨one t u i j ht hu h1.1,one u t j i hu ht h1.2⟩
end
def uH (ops : Array Oper) (H : Array Nat) (j : Nat) : Nat:=match ops[j]? with
 | some o=>o.after.toList.foldl (fun s e=>if Region.binds .any e then s ||| 2 ^ e.on ||| H.getD e.on 0 else s) 0
 | none=>0
def qU (ops : Array Oper) (j : Nat) : Bool:=match ops[j]? with
 | some o=>o.after.toList.all fun e=>!Region.binds .any e || decide (e.on < j)
 | none=>true
theorem lB (H : Array Nat) (i : Nat) : ∀ (l : List Edge) (s : Nat),(l.foldl (fun s e=>if Region.binds .any e then s ||| 2 ^ e.on ||| H.getD e.on 0 else s) s).testBit i=true ->
  s.testBit i=true \/ ∃ e ∈ l,Region.binds .any e=true /\ (i=e.on \/ (H.getD e.on 0).testBit i=true)
 | [],s,h=>.inl h
 | e::l,s,h=>by
  simp only [List.foldl_cons] at h
  rcases lB H i l _ h with h1 | ⟨e',h1,h2⟩
  ·split at h1
   ·rename_i hb
    simp only [Nat.testBit_or,x02,Nat.testBit_two_pow,x0g] at h1
    rcases h1 with (h1 | h1) | h1
    ·exact .inl h1
    ·exact .inr ⟨e,by simp,hb,.inl h1.symm⟩
    ·exact .inr ⟨e,by simp,hb,.inr h1⟩
   ·exact .inl h1
  ·exact .inr ⟨e',by simp [h1],h2⟩
theorem xS {ops : Array Oper} {H : Array Nat} {j i : Nat} (h : (uH ops H j).testBit i=true) : ∃ o,ops[j]? = some o /\ ∃ e ∈ o.after.toList,Region.binds .any e=true /\ (i=e.on \/ (H.getD e.on 0).testBit i=true):=by
 unfold uH at h
 split at h
 ·rename_i o ho
  rcases lB H i _ 0 h with h1 | h1
  ·simp at h1
  ·exact ⟨o,ho,h1⟩
 ·simp at h
def pW (hs : List Nat) (ops : Array Oper) : Bool:=(List.range ops.size).all fun j=>hs.getD j 0 == uH ops hs.toArray j && qU ops j
def left (n : Nat) (l : Nat -> Bool) : Nat:=((List.range n).filter fun i=>!l i).length
theorem mZ {p q : Nat -> Bool} {j : Nat} (hpq : ∀ i,q i=true -> p i=true) (hp : p j=true) (hq : q j=false) : ∀ (l : List Nat),j ∈ l -> (l.filter q).length < (l.filter p).length
 | [],h=>by simp at h
 | i::l,h=>by
  have hle : (l.filter q).length <= (l.filter p).length:=by
   clear h
   induction l with
   | nil=>simp
   | cons x l ih =>
    simp only [List.filter_cons]
    cases hqx : q x with
    | true=>simp [hpq x hqx,ih]
    | false=>cases p x <;> simp <;> omega
  by_cases hij : i=j
  ·subst hij
   simp [hp,hq]
   omega
  ·have:=mZ hpq hp hq l (by simpa [Ne.symm hij] using h)
   simp only [List.filter_cons]
   cases hqx : q i with
   | true=>simp [hpq i hqx,this]
   | false=>cases p i <;> simp <;> omega
section
variable {P : Program} {F : Fid} {C : Nat -> List D -> D -> List D -> Prop} {nt : Nat} {S : Nat -> Prop} {L : Nat -> Option Loc} {w0 : World} {M0 : Mem} {f : Nat -> D} {M : Mem} {a : Act} {w : World} {Q : Exit -> Act -> World -> Prop}
def lst (listed : Array Bool) : Nat -> Bool:=fun i=>listed.getD i true
theorem iE {ops : Array Oper} {listed : Array Bool} {i : Nat} : i ∈ Region.ready .any ops listed ↔ i < ops.size /\ lst listed i=false /\ ∃ o,ops[i]? = some o /\ ∀ e ∈ o.after,Region.binds .any e=true -> listed.getD e.on false=true:=by
 simp only [Region.ready,List.mem_filter,x0G,x0a,x0s,lst]
 constructor
 ·rintro ⟨h1,h2,h3⟩
  refine ⟨h1,h2,ops[i],x08 h1,fun e he hb=>?_⟩
  rw [x08 h1] at h3
  simp only [x04,x1y,Array.all_eq_true_iff_forall_mem,x02,x0s] at h3
  rcases h3 e he with h4 | h4
  ·rw [hb] at h4;cases h4
  ·exact h4
 ·rintro ⟨h1,h2,o,h3,h4⟩
  refine ⟨h1,h2,?_⟩
  rw [h3]
  simp only [x04,x1y,Array.all_eq_true_iff_forall_mem,x02,x0s]
  intro e he
  cases hb : Region.binds .any e with
  | false=>exact .inl rfl
  | true=>exact .inr (h4 e he hb)
theorem tY (hs : List Nat) (j : Nat) : hs.toArray.getD j 0=hs.getD j 0:=by
 simp [x1g,x1n]
theorem sL {f g : Nat -> D} {n : ar} {dst : Option Nat} {K : List (Nat × D) -> List (Nat × Bool) -> Prop} (hv : ∀ x ∈ af n.op,vd g x=vd f x) (hr : ∀ b ∈ rdR f n,g b=f b) (hc : ∀ p ∈ frR f n,eR p.2 (g p.1)=eR p.2 (f p.1)) (h : aD C f dst K n.op) : aD C g dst K n.op:=by
 obtain ⟨d0,o,g0⟩:=n
 simp only at hv h ⊢
 have full : (∀ x ∈ af o,x ∈ BA o) -> aD C g dst K o:=fun hN=>qA hv (fun x hx b hb=>hr b (x0m.2 (.inl (x1l.2 ⟨x,hN x hx,iF hb⟩)))) h
 cases o with
 | mov x=>simp only [aD,res,hv x (by simp [af])] at h ⊢;exact h
 | nck x=>simp only [aD,res,hv x (by simp [af])] at h ⊢;exact h
 | un op x=>simp only [aD,res,hv x (by simp [af])] at h ⊢;exact h
 | conv k x=>simp only [aD,res,hv x (by simp [af])] at h ⊢;exact h
 | ext i x=>simp only [aD,res,hv x (by simp [af])] at h ⊢;exact h
 | fad i x=>simp only [aD,res,hv x (by simp [af])] at h ⊢;exact h
 | boxF x=>simp only [aD,res,hv x (by simp [af])] at h ⊢;exact h
 | blsF sz len zs ps =>
  have e : ∀ p ∈ ps,vd g p.2=vd f p.2:=fun p hp=>hv _ (x0q.2 ⟨p,hp,rfl⟩)
  simp only [aD,res] at h ⊢
  rw [gq e]
  exact ⟨fun p hp=>by rw [e p hp];exact h.1 p hp,h.2⟩
 | len x=>simp only [aD,res,hv x (by simp [af])] at h ⊢;exact h
 | pick c x y=>simp only [aD,res,hv c (by simp [af]),hv x (by simp [af]),hv y (by simp [af])] at h ⊢;exact h
 | bin op x y=>simp only [aD,res,hv x (by simp [af]),hv y (by simp [af])] at h ⊢;exact h
 | iadA l s x i=>simp only [aD,res,hv x (by simp [af]),hv i (by simp [af])] at h ⊢;exact h
 | bld zs ps =>
  have e : ∀ p ∈ ps,vd g p.2.2=vd f p.2.2:=fun p hp=>hv _ (x0q.2 ⟨p,hp,rfl⟩)
  simp only [aD,res] at h ⊢
  obtain ⟨h1,h2,h3⟩:=h
  have e2 : (ps.all fun p=>isV (vd g p.2.2))=(ps.all fun p=>isV (vd f p.2.2)):=by
   rw [x1c,x0f,x0f]
   exact ⟨fun h p hp=>by rw [<- e p hp];exact h p hp,fun h p hp=>by rw [e p hp];exact h p hp⟩
  have m1 : (ps.map fun p=>(p.1,p.2.1,vd g p.2.2))=ps.map fun p=>(p.1,p.2.1,vd f p.2.2):=x0o fun p hp=>by rw [e p hp]
  have m2 : (ps.map fun p=>(p.1,p.2.1,bI (vd g p.2.2)))=ps.map fun p=>(p.1,p.2.1,bI (vd f p.2.2)):=x0o fun p hp=>by rw [e p hp]
  rw [e2,m1,m2]
  exact ⟨fun p hp=>by rw [e p hp];exact h1 p hp,h2,h3⟩
 | mk k xs =>
  have e : ∀ x ∈ xs,vd g x=vd f x:=fun x hx=>hv x hx
  simp only [aD,res] at h ⊢
  obtain ⟨h1,h2,h3⟩:=h
  have e2 : (xs.all fun x=>isV (vd g x))=(xs.all fun x=>isV (vd f x)):=by
   rw [x1c,x0f,x0f]
   exact ⟨fun h p hp=>by rw [<- e p hp];exact h p hp,fun h p hp=>by rw [e p hp];exact h p hp⟩
  rw [e2,x0o e]
  exact ⟨fun p hp=>by rw [e p hp];exact h1 p hp,h2,h3⟩
 | ldQ q x =>
  have e:=hv x (by simp [af])
  simp only [aD,e] at h ⊢
  split at h
  ·rename_i c i off ex
   obtain ⟨rfl,h⟩:=h
   split at h
   ·rename_i sz es hf
    obtain ⟨r,h1,d,h2,h3⟩:=h
    have h4:=hc (c,off) (by simp [frR,ex])
    simp only [hf,eR] at h4
    refine ⟨rfl,?_⟩
    split at h4
    ·rename_i sz' es' hg
     simp only [x0j] at h4
     have h5:=congrArg (fun l=>l[i]?) h4
     simp only [x0x,h1,x04] at h5
     rw [x0h] at h5
     obtain ⟨r',h6,h7⟩:=h5
     simp only [hg]
     exact ⟨r',h6,d,by rw [h7];exact h2,h3⟩
    ·cases h4
   ·exact h.elim
  ·exact h.elim
 | ld n ag x =>
  have e:=hv x (by simp [af])
  simp only [aD,res,e] at h ⊢
  split at h
  ·rename_i p i off ex
   rw [cP (p:=p) (hr _ (x0m.2 (.inr (x1l.2 ⟨x,by simp [ldN],by rw [ex];simp [aB]⟩))))]
   exact h
  ·exact h
  ·exact h
  ·exact h
 | _=>exact full (fun x hx=>hx)
theorem rU (hC : bz P F C) (hL : NoL L) {hs : List Nat} {ops : Array Oper} {ts : List eS} {f' : Nat -> D} (htr : Tr C ts f f') (hok : (aV hs ts f).Ok) (hlen : ts.length=ops.size) (hb : ∀ j,j < ops.size -> hs.getD j 0=uH ops hs.toArray j) (hed : ∀ (j : Nat) (o : Oper),ops[j]? = some o -> ∀ e ∈ o.after,Region.binds .any e=true -> e.on < j)
  (hk : ∀ (j : Nat) (t : eS) (o : Oper),ts[j]? = some t -> ops[j]? = some o -> ni P F nt ops t.1 o=true)
  (hQ : ∀ M a w,SR F nt S L w0 M0 f' M a w -> Q .normal a w) : ∀ (fuel : Nat) (listed : Array Bool) (M : Mem) (a : Act) (w : World),listed.size=ops.size -> left ops.size (lst listed) <= fuel ->
   (∀ j,j < ops.size -> lst listed j=true -> ∀ i,(hs.getD j 0).testBit i=true -> i < ops.size /\ lst listed i=true) -> SR F nt S L w0 M0 ((aV hs ts f).G (lst listed) ts.length) M a w -> wpAny P .any ops Q fuel listed a w:=by
 obtain ⟨hf',hsp⟩:=oy hs ts f f' htr
 have hall : ∀ (listed : Array Bool),(∀ i,i < ops.size -> lst listed i=true) -> (aV hs ts f).G (lst listed) ts.length=f':=by
  intro listed h
  rw [hf']
  unfold Fam.St
  have : ∀ m,m <= ts.length -> (aV hs ts f).G (lst listed) m=(aV hs ts f).G (fun _=>true) m:=by
   intro m
   induction m with
   | zero=>intro _;rfl
   | succ m ih =>
    intro hm
    simp only [Fam.G]
    rw [h m (by omega),ih (by omega)]
    rfl
  exact this _ (x0l _)
 intro fuel
 induction fuel with
 | zero =>
  intro listed M a w hs' hf hcl h
  have hal : ∀ i,i < ops.size -> lst listed i=true:=by
   intro i hi
   cases hl : lst listed i with
   | true=>rfl
   | false =>
    have : i ∈ (List.range ops.size).filter fun i=>!lst listed i:=by simp [hi,hl]
    have:=List.length_pos_of_mem this
    unfold left at hf
    omega
  refine ⟨?_,hQ M a w (by rw [<- hall listed hal];exact h)⟩
  rw [List.eq_nil_iff_forall_not_mem]
  intro i hi
  obtain ⟨h1,h2,_⟩:=iE.1 hi
  rw [hal i h1] at h2
  cases h2
 | succ fuel ih =>
  intro listed M a w hs' hf hcl h
  refine ⟨fun hr=>hQ M a w ?_,fun j hj=>?_⟩
  ·have hal : ∀ i,i < ops.size -> lst listed i=true:=by
    intro i
    induction i using Nat.strongRecOn with
    | _ i ihi =>
     intro hi
     cases hl : lst listed i with
     | true=>rfl
     | false =>
      have : i ∈ Region.ready .any ops listed:=iE.2 ⟨hi,hl,ops[i],x08 hi,fun e he hb=>by
       have h1:=hed i _ (x08 hi) e he hb
       have h2:=ihi e.on h1 (by omega)
       unfold lst at h2
       rw [x1g] at h2 ⊢
       rw [x08 (by omega)] at h2 ⊢
       simpa using h2⟩
      rw [hr] at this
      cases this
   rw [<- hall listed hal]
   exact h
  ·obtain ⟨h1,h2,o,h3,h4⟩:=iE.1 hj
   obtain ⟨t,ht⟩ : ∃ t,ts[j]? = some t:=⟨ts[j]'(by omega),x0d (by omega)⟩
   have hanc : ∀ i,(hs.getD j 0).testBit i=true -> i < ops.size /\ lst listed i=true:=by
    intro i hi
    rw [hb j h1] at hi
    obtain ⟨o',ho',e,he,hbd,h5⟩:=xS hi
    rw [h3] at ho'
    cases ho'
    have h6:=hed j o h3 e (by simpa using he) hbd
    have h7:=h4 e (by simpa using he) hbd
    have h8 : lst listed e.on=true:=by
     unfold lst
     rw [x1g] at h7 ⊢
     rw [x08 (by omega)] at h7 ⊢
     simpa using h7
    rcases h5 with rfl | h5
    ·exact ⟨by omega,h8⟩
    ·rw [tY] at h5
     exact hcl e.on (by omega) h8 i h5
   have hshut : tg (aV hs ts f) (lst listed):=fun j' hj' hl' i _ hbf=>(hcl j' (by simpa [aV,hlen] using hj') hl' i hbf).2
   have hjn : j < (aV hs ts f).n:=by simp only [aV];omega
   have hreads:=hok.reads hshut hjn h2 (fun i _ hbf=>(hanc i hbf).2)
   have hcols:=hok.readsC hshut hjn h2 (fun i _ hbf=>(hanc i hbf).2)
   obtain ⟨g1,g2,g3,g4⟩:=hsp j t ht
   have hrd : (aV hs ts f).rd j=t.2.2.1:=by simp [aV,ht]
   have hn : (aV hs ts f).n=ts.length:=rfl
   rw [hrd,hn,g4] at hreads
   have hfr : (aV hs ts f).fr j=frR ((aV hs ts f).St j) t.1:=by
    have : (aV hs ts f).fr j=t.2.2.2.2.1:=by simp [aV,ht]
    rw [this,g4];rfl
   rw [hfr,hn] at hcols
   have hstep : gc C t.1 ((aV hs ts f).G (lst listed) ts.length) t.2.1:=by
    have hv : ∀ x ∈ af t.1.op,vd ((aV hs ts f).G (lst listed) ts.length) x=vd ((aV hs ts f).St j) x:=fun x hx=>by
     cases x with
     | t s=>exact hreads s (x0m.2 (.inl (x0m.2 (.inl (x1l.2 ⟨_,hx,by simp [gH]⟩)))))
     | c d=>rfl
    have ha : ∀ b ∈ rdR ((aV hs ts f).St j) t.1,(aV hs ts f).G (lst listed) ts.length b=(aV hs ts f).St j b:=fun b hb=>hreads b (x0m.2 (.inr hb))
    have hg : ∀ s b,t.1.guard=some (s,b) -> (aV hs ts f).G (lst listed) ts.length s=(aV hs ts f).St j s:=fun s b e =>
     hreads s (x0m.2 (.inl (x0m.2 (.inr (by rw [e];simp [oX])))))
    unfold gc at g1 ⊢
    split at g1
    ·exact ⟨fun s b e=>by rw [hg s b e];exact g1.1 s b e,sL hv ha hcols g1.2⟩
    ·obtain ⟨s,b,e1,e2⟩:=g1
     exact ⟨s,b,e1,by rw [hg s b e1];exact e2⟩
   have hlst : ∀ i,lst (listed.setIfInBounds j true) i=(if i=j then true else lst listed i):=by
    intro i
    unfold lst
    rw [x1g,x1g,x1s]
    by_cases hij : i=j
    ·subst hij;simp [show i < listed.size from by omega]
    ·simp [hij,Ne.symm hij]
   have hlst' : ∀ i,i ≠ j -> lst (listed.setIfInBounds j true) i=lst listed i:=fun i hi=>by rw [hlst,if_neg hi]
   have hlstj : lst (listed.setIfInBounds j true) j=true:=by rw [hlst,if_pos rfl]
   have hmore : (aV hs ts f).G (lst (listed.setIfInBounds j true)) ts.length=mA t.1 t.2.1 ((aV hs ts f).G (lst listed) ts.length):=by
    rw [v6]
    have:=hok.more hshut hjn h2 hlstj hlst'
    rw [hn] at this
    rw [this]
    simp [Fam.E,aV,ht]
   have hfin : ∀ M' a' w',SR F nt S L w0 M0 (mA t.1 t.2.1 ((aV hs ts f).G (lst listed) ts.length)) M' a' w' -> wpAny P .any ops Q fuel (listed.setIfInBounds j true) a' w':=by
    intro M' a' w' h'
    refine ih _ M' a' w' (by simpa using hs') ?_ (fun j' hj' hl' i hi=>?_) (by rw [hmore];exact h')
    ·have : left ops.size (lst (listed.setIfInBounds j true)) < left ops.size (lst listed):=by
      refine mZ (j:=j) (fun i hi=>?_) (by simp [h2]) (by simp [hlstj]) _ (by simpa using h1)
      by_cases hij : i=j
      ·subst hij;simp [h2]
      ·rw [hlst' i hij] at hi;exact hi
     omega
    ·by_cases hjj : j'=j
     ·subst hjj
      obtain ⟨q1,q2⟩:=hanc i hi
      refine ⟨q1,?_⟩
      rw [hlst];split
      ·rfl
      ·exact q2
     ·rw [hlst' j' hjj] at hl'
      obtain ⟨q1,q2⟩:=hcl j' hj' hl' i hi
      refine ⟨q1,?_⟩
      rw [hlst];split
      ·rfl
      ·exact q2
   have:=zF hC hL (hk j t o ht h3) h hstep (R:=wpAny P .any ops Q fuel (listed.setIfInBounds j true)) hfin (Q:=Q)
   unfold wpOp
   rw [h3]
   exact this
theorem pt (hC : bz P F C) (hL : NoL L) (hm : P.follows .mixedOrders=true) {hs : List Nat} {ops : Array Oper} {ns : List ar} (hk : kJ P F nt ns ops=true) (hdr : pW hs ops=true) {id : Nat} {K : Env -> Prop} {e : Env} (h : SR F nt S L w0 M0 (ab e) M a w) (hr : j9 C hs K ns e [])
  (hQ : ∀ e M a w,SR F nt S L w0 M0 (ab e) M a w -> K e -> Q .normal a w) : (Code.region id ops true).wp P Q a w:=by
 simp only [kJ,x0a,x0k,x0f] at hk
 obtain ⟨ts,e',g1,g2,g3,g4⟩:=zH ns e [] hr
 have hlen : ts.length=ops.size:=by
  have : ts.length=ns.length:=by rw [<- g1];simp
  rw [this];simpa using hk.1
 have hok:=Ar g2 (by simpa using g3)
 simp only [pW,x0f,x0G,x0a,x0k] at hdr
 refine wp_region_any hm (rU hC hL (hs:=hs) g2 hok hlen (fun j hj=>(hdr j hj).1) (fun j o ho e he hb=>?_) (fun j t o ht ho=>?_) (fun M a w hs=>hQ e' M a w hs g4) _ _ M a _ (by simp) ?_ ?_ ?_)
 ·obtain ⟨hj,_⟩:=Array.getElem?_eq_some_iff.1 ho
  have:=(hdr j hj).2
  simp only [qU,ho,x0f,x02,x0s,x0g] at this
  rcases this e (by simpa using he) with h5 | h5
  ·rw [hb] at h5;cases h5
  ·exact h5
 ·refine hk.2 (t.1,o) ?_
  rw [x1D]
  refine ⟨j,?_⟩
  rw [x1o]
  refine ⟨?_,by simpa using ho⟩
  rw [<- g1]
  simp [ht]
 ·have:=List.length_filter_le (fun i=>!lst (Array.replicate ops.size false) i) (List.range ops.size)
  simpa [left] using this
 ·intro j hj hl
  simp [lst,hj] at hl
 ·have h0 : ∀ m,m <= ts.length -> (aV hs ts (ab e)).G (lst (Array.replicate ops.size false)) m=ab e:=by
   intro m
   induction m with
   | zero=>intro _;rfl
   | succ m ih =>
    intro hm
    simp only [Fam.G]
    rw [ih (by omega)]
    have : lst (Array.replicate ops.size false) m=false:=by simp [lst,show m < ops.size from by omega]
    rw [this];rfl
  rw [h0 _ (x0l _)]
  exact h.grow (Bel.drew _)
end
end Go.Gv
