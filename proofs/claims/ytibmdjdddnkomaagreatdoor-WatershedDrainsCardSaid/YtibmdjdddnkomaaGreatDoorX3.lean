/-
  Texts of the proof: GvF6, GvF7, GvF8, GvF9, GvF10, GvF11, GvF12, GvF13, GvF14, GvF15, GvF16, GvF17, GvG, GvH, GvI0, GvI.
-/
import Derived.Test.YtibmdjdddnkomaaGreatDoorX2
import Derived.Test.YtibmdjdddnkomaaGreatDoorX1
import Derived.Orders
set_option linter.all false
namespace Go.Gv
open Go.RowKit
section
variable {P : Program} {F : Fid} {C : Nat -> List D -> D -> List D -> Prop} {nt : Nat} {S : Nat -> Prop} {L : Nat -> Option Loc} {w0 : World} {M0 : Mem} {f : Nat -> D} {M : Mem} {a : Act} {w w' : World} {o : Oper} {d : D} {Q : Exit -> Act -> World -> Prop} {ρ : Pa -> Loc} {ω : Nat -> Option Pa} {New : Nat -> Prop} {K : List (Nat × D) -> List (Nat × Bool) -> Prop}
theorem jp {t b : Nat} {d x : D} {q : Nat × D} (hq : isB q.2=true \/ q.2=.any) : eff [(t,d),(b,x)] [(b,true)] (eff [q] [] f)=eff [(t,d),(b,x),q] [(b,true)] f:=by
 funext s
 obtain ⟨c,y⟩:=q
 unfold eff
 by_cases e1 : s=t
 ·subst e1;simp
 ·have h1 : (s == t)=false:=by simpa using e1
  by_cases e2 : s=b
  ·subst e2;simp [x0e,h1]
  ·have h2 : (s == b)=false:=by simpa using e2
   by_cases e3 : s=c
   ·subst e3
    simp only [x0e,h1,h2,x0B,beq_self_eq_true]
    rcases hq with hq | hq
    ·rw [nT hq];rfl
    ·simp only at hq
     subst hq
     simp [aM,cK,aG]
   ·have h3 : (s == c)=false:=by simpa using e3
    simp only [x0e,h1,h2,h3,x0B,kz,x0i,if_false]
theorem nJ (p : Pa) : (cY f p).1=p.root:=by
 cases p with
 | r c=>rfl
 | n c i o =>
  simp only [cY,Pa.root]
  split <;> rfl
theorem tj (p : Pa) : isB (cY f p).2=true \/ (cY f p).2=.any:=by
 cases p with
 | r c=>exact .inr rfl
 | n c i o =>
  simp only [cY]
  split
  ·exact .inl rfl
  ·exact .inr rfl
theorem va {b i off sz : Nat} {es : List (List D)} (hg : bu f (.n b i off)=some (sz,es)) : ∃ sz0 es0 row0,f b=.blk sz0 es0 /\ es0[i]? = some row0 /\ row0[off]? = some (.own sz es):=by
 simp only [bu] at hg
 split at hg
 ·rename_i sz' es' e
  split at hg
  ·rename_i sz2 r hr
   simp only [x0j,Prod.mk.injEq] at hg
   obtain ⟨rfl,rfl⟩:=hg
   cases hi : es'[i]? with
   | none=>rw [hi] at hr;simp at hr
   | some row =>
    rw [hi] at hr
    exact ⟨sz',es',row,e,hi,by simpa using hr⟩
  ·cases hg
 ·cases hg
theorem SR.leave (h : SR F nt S L w0 M0 f M a w) (ho : Own F L (fun k=>S k \/ w0.heap.size <= k) f M a w ρ ω) {p : Pa} {sz : Nat} {es : List (List D)} (hg : bu f p=some (sz,es)) (hch : Ch S w0 w') (hsz : w.heap.size <= w'.heap.size) (hholds : ∀ p v,M p=some v -> w'.cell? p=some v)
  (hk : ∀ k q,ω k=some q -> q ≠ p -> w'.heap[k]? = w.heap[k]?) : SR F nt S L w0 M0 (eff [cY f p] [] f) M a w' where
 hnt:=h.hnt
 size:=h.size
 defers:=h.defers
 ch:=hch
 holds:=hholds
 ext:=h.ext
 fresh:=h.fresh
 own:=by
  have hp:=cZ ho hg
  obtain ⟨sz0,es0,hf⟩:=(ho.get hp hg).2
  have hlk : ∀ s,s ≠ p.root -> [cY f p].lookup s=none:=fun s hs=>by
   have:=cJ (b:=(cY f p).1) (d:=(cY f p).2) (s:=s) (by rw [nJ];exact hs)
   exact this
  refine ⟨ρ,ω,ho.step (ks:=[]) (fun p hp=>absurd rfl hp) (Mem.le_refl _) hsz (fun t ht=>.inl ?_) (fun c hc=>?_) (fun k q e=>.inl ⟨q,e⟩) ho.apart (fun c l hc hl hB=>⟨rfl,?_⟩)⟩
  ·rcases bA (f:=f) (ks:=[]) (hlk t (by omega)) with h2 | h2
   ·exact .inl h2
   ·exact .inr ⟨h2.1,rfl,h2.2⟩
  ·by_cases e : c=p.root
   ·cases p with
    | r b =>
     left;left
     have e : c=b:=e
     subst e
     rw [aN (d:=.any) (by simp [cY])];rfl
    | n b i off =>
     have e : c=b:=e
     subst e
     right
     obtain ⟨sz1,es1,row0,hf1,hi0,ho0⟩:=va hg
     have hf1' : f c=.blk sz0 es0:=hf
     rw [hf1'] at hf1
     cases hf1
     have hdd : cY f (.n c i off)=(c,.blk sz0 (bJ es0 i off 1 [.any])):=by simp only [cY,hf1']
     have hlt : off < row0.length:=(x0c.1 ho0).1
     refine .inl ⟨sz0,bJ es0 i off 1 [.any],aN (by rw [hdd];simp),?_⟩
     rcases ho.roots c sz0 es0 hc hf1' with ⟨e0,_⟩ | ⟨hω,h0,vs,T,h1,h2,h3,h4,h5⟩
     ·rw [e0] at hi0;simp at hi0
     ·refine .inr ⟨hω,h0,vs,T,(hk _ _ hω (by simp)).trans h1,h2,by rw [eg];exact h3,eM h4 hi0 (by omega) rfl,fun i' r off' d hi hr=>?_⟩
      rcases iH hi0 (show off + 1 <= row0.length by omega) rfl hi hr with ⟨rfl,g1,g2,g3⟩ | ⟨g1,r0,g2,g3⟩
      ·have : off'=off:=by omega
       subst this
       simp at g3
       subst g3
       obtain ⟨v,k1,k2⟩:=h5 i' row0 off' _ hi0 ho0
       exact ⟨v,k1,by simp [b4,ae]⟩
      ·obtain ⟨v,k1,k2⟩:=h5 i' r0 off' d g2 g3
       exact ⟨v,k1,b4.frame k2 (Mem.le_refl _) ⟨rfl,fun e=>⟨e,hk _ _ e (by
        intro h;cases h
        exact g1 ⟨rfl,by omega,by omega⟩)⟩⟩⟩
   ·left
    rcases bK (f:=f) (ks:=[]) (hlk c e) with h1 | h1
    ·exact .inl h1
    ·exact .inr ⟨h1,fun q hq=>⟨rfl,fun e'=>⟨e',hk _ _ e' (by rintro rfl;exact e hq.symm)⟩⟩⟩
  ·by_cases e : c=p.root
   ·rw [e,hf];rfl
   ·rcases bK (f:=f) (ks:=[]) (hlk c e) with h1 | h1
    ·rw [hB] at h1;cases h1
    ·rw [<- h1];exact hB
theorem SR.newRow0 (h : SR F nt S L w0 M0 f M a w) {sz : Nat} {es' : List (List D)} {v : Value} (hu : ∀ e ∈ es',e.length=sz /\ ∀ c ∈ e,a6 c=true) (hb : Bel w w') (hn : dV F M w w' sz es' v) {t b' : Nat} (ht : t < nt) (hb0 : 10000 <= b') (hL : L b'=none) :
  SR F nt S L w0 M0 (eff [(t,.ref (.r b') 0 es'.length),(b',.blk sz es')] [(b',true)] f) M (a.put (some t) v) w':=by
 obtain ⟨B,o,T,us,cap,rfl,hB,hh,hcap,⟨hlen,hmc⟩,hrep⟩:=hn
 have hle : o + es'.length * sz <= us.length:=by
  have:=x0n sz hcap
  omega
 exact h.makeAt (t:=t) (b:=b') (B:=B) (o:=o) (bs:=[]) (es:=es') (sz:=sz) (src:=fun _ _=>none) (vs:=us) (T:=T) (d:=.ref (.r b') 0 es'.length) (v:=.slice (some ⟨B,o,none⟩) es'.length cap) ht hb0 hL hb hB hh hle (fun e he=>(hu e he).1)
  (fun i r off c hi hr=>by
   obtain ⟨u,k1,k2⟩:=hrep i r off c hi hr
   exact ⟨u,k1,.inl ⟨dN ((hu r (x0b hi)).2 c (x0b hr)),k2⟩⟩) (fun _ _ _ _ _ e=>(by cases e)) (fun _ _ _ e=>(by cases e))
  (fun ρ M e=>by
   rw [ar rfl]
   simp only [aC,e]
   exact .inr ⟨cap,by simp,hcap,by simpa using hlen,hmc⟩)
theorem sD {b : Option Nat} {v : Value} (h : isO d=false) : GI F M w b d v ↔ ae F M d v:=by
 cases d <;> first | exact Iff.rfl | (simp [isO] at h)
theorem su (h : isV d=true) : isO d=false:=by
 cases d <;> first | rfl | (simp [isV] at h)
theorem fQ (hO : Own F L New f M a w ρ ω) {p : Pa} {k n sz : Nat} {es : List (List D)} {v : Value} (hg : bu f p=some (sz,es)) (hkn : k + n <= es.length) (hv : aC F M ρ (.ref p k n) v) (hfl : ∀ e ∈ (es.drop k).take n,∀ c ∈ e,isO c=false) :
  (∃ A,v=.slice A 0 0 /\ n=0) \/ ∃ (cap : Nat) (us : List Value) (T : TypeId),v=.slice (some ⟨(ρ p).blk,(ρ p).base + k * sz,none⟩) n cap /\ (n <= cap /\ cap <= 9223372036854775807) /\ (ρ p).base + k * sz + cap * sz <= (ρ p).len /\ ω (ρ p).blk=some p /\ (ρ p).sz=sz /\
   w.heap[(ρ p).blk]? = some (.cells us.toArray T (0,0)) /\ us.length=(ρ p).len /\ (∀ e ∈ es,e.length=sz) /\
   (∀ i r off d,((es.drop k).take n)[i]? = some r -> r[off]? = some d -> ∃ u,us[(ρ p).base + k * sz + i * sz + off]? = some u /\ ae F M d u):=by
 have hp:=cZ hO hg
 obtain ⟨hpath,_⟩:=hO.get hp hg
 simp only [aC] at hv
 rcases hv with ⟨h0,A,hv⟩ | ⟨cap,hv,hcap,hcl,hmc⟩
 ·exact .inl ⟨A,hv,h0⟩
 ·rcases hpath with ⟨e0,e1,e2,e3⟩ | ⟨hω,g0,us,T,g1,g2,g3,g4,g5⟩
  ·have hn0 : n=0:=by rw [e0] at hkn;simp at hkn;omega
   have hc0 : cap=0:=by
    rw [e1,e2] at hcl
    rcases x0P cap with h | h
    ·exact h
    ·have:=Nat.mul_pos (show 0 < k + cap by omega) e3;omega
   subst hc0
   exact .inl ⟨_,by rw [hv,hn0],hn0⟩
  ·have e1 : (k + cap) * sz=k * sz + cap * sz:=x0D _ _ _
   rw [g0,e1] at hcl
   refine .inr ⟨cap,us,T,by rw [hv,g0],⟨hcap,hmc⟩,by omega,hω,g0,g1,g2,g4,fun i r off d h1 h2=>?_⟩
   have hin : i < n:=by have:=(x0c.1 h1).1;simp at this;omega
   have hO':=hfl r (x0b h1) d (x0b h2)
   rw [x0A hin,x0t] at h1
   obtain ⟨u,k1,k2⟩:=g5 (k + i) r off d h1 h2
   refine ⟨u,?_,?_⟩
   ·rw [<- k1,x0D];congr 1;omega
   ·cases p with
    | r b =>
     have k2' : b4 F M ω ρ w b (k + i) off d u:=k2
     rwa [bf hO'] at k2'
    | n b i' o'=>exact k2
theorem tU (hC : bG P F C) (h : SR F nt S L w0 M0 f M a w) {t : Nat} (hd : o.dst=some t) (ht : t < nt) (hL : L (rt t 0)=none) {g fi : Nat} {x : Opd} {xs : List Opd} {y : Operand} {ys : List Operand} {ts : Array TypeId} (ho : o.op=.call { callee:=.value (.func fi),args:=⟨y::ys⟩,argTypes:=ts }) (hx0 : ao F x y=true) (hx : bI F xs ys=true)
  (hg : F g=some fi) (hr : match vd f x with
   | .ref p k n=>match bu f p with
    | some (sz,es)=>k + n <= es.length /\ p.root ≠ rt t 0 /\ 0 < sz /\ (∀ e ∈ (es.drop k).take n,∀ c ∈ e,a6 c=true) /\ (∀ x ∈ xs,lB f p.root x) /\ ∃ es' : List (List D),(∀ e ∈ es',e.length=sz /\ ∀ c ∈ e,a6 c=true) /\
      C g (.own sz ((es.drop k).take n)::xs.map (j0 f)) .any [.own sz es',.nils,.nils] /\ K [(t,.ref (.r (rt t 0)) 0 es'.length),(rt t 0,.blk sz es'),cY f p] [(rt t 0,true)]
    | none=>False
   | _=>False) : o.wp P a w (PostX F nt S L w0 M0 f K) Q:=by
 split at hr
 ·rename_i p k n hvx
  split at hr
  ·rename_i sz es hgp
   obtain ⟨hkn,hpt,hsz,hfl,harg,es',hu,hc,hK⟩:=hr
   have hrun : (execOp a.eval o).run P w=(callFunc fi (a.eval y::ys.map a.eval).toArray).run P w:=by
    simp only [execOp,ho,resolve,Act.eval,Deferred.ofValue,Sem.run_bind,Sem.run_pure,Result.andThen_ok,invoke]
    congr 2
    rw [x1F,x1g]
    apply Array.ext'
    simp
    cases y <;> simp [Act.eval]
   obtain ⟨ρ,ω,hO⟩:=h.own
   have hp:=cZ hO hgp
   have hv:=hO.opd hx0
   rw [hvx,ar rfl] at hv
   have hargs : ∀ b : Option Nat,(∀ B,b=some B -> ω B=some p) -> lV F M w b (xs.map (j0 f)) (ys.map a.eval):=by
    intro bo hbo
    have hx':=hx
    simp only [bI,x0a,x0k,x0f] at hx'
    refine ⟨by simpa using hx'.1,fun i d v h1 h2=>?_⟩
    rw [x0y,x0h] at h1 h2
    obtain ⟨x1,h1,rfl⟩:=h1
    obtain ⟨y1,h2,rfl⟩:=h2
    have hok : ao F x1 y1=true:=hx'.2 (x1,y1) (x1E.2 ⟨i,by rw [x1r];exact ⟨h1,h2⟩⟩)
    have hE:=harg x1 (x0b h1)
    have hV:=hO.opd hok
    have hP:=fun hh=>h.opd hok hh
    unfold lB at hE
    unfold j0
    revert hE hV hP
    generalize vd f x1=d1
    intro hE hV hP
    cases d1 <;> first | exact (sD (su hE)).2 (hP hE) | skip
    rename_i q k1 n1
    cases q with
    | n c i o=>simp [isV] at hE
    | r c =>
     simp only at hE ⊢
     obtain ⟨rfl,hcb,hE⟩:=hE
     split at hE
     ·rename_i sz1 es1 hfc
      obtain ⟨rfl,hfl1⟩:=hE
      have hg1 : bu f (.r c)=some (sz1,es1):=by simp [bu,hfc]
      have hq:=fQ hO hg1 (by omega) hV (fun e he c hc=>by
       rw [List.drop_zero,List.take_length] at he
       exact dN (hfl1 e he c hc))
      show _ \/ _
      rcases hq with ⟨A,q1,q2⟩ | ⟨cap,us,T,q1,⟨q2,_⟩,q3,q4,q5,q6,q7,q8,q9⟩
      ·exact .inl ⟨x0v q2,A,q1⟩
      ·simp only [List.drop_zero,List.take_length,x1t,x1c] at q1 q3 q9
       refine .inr ⟨_,_,T,us,cap,q1,fun e=>?_,q6,q2,by rw [q7];exact q3,q9⟩
       have:=hbo _ e
       rw [q4] at this
       cases this
       exact hcb rfl
     ·exact hE.elim
   have hI:=hC.runsI g fi sz _ _ es' hg hc M w (ys.map a.eval) h.holds
   unfold Oper.wp
   rw [hrun,cC (hC.body g fi hg),Oper.upon_enter]
   have hWn : ((es.drop k).take n).length=n:=by simp;omega
   have hfst:=nJ (f:=f) p
   have hsnd:=tj (f:=f) p
   rw [hd]
   rcases fQ hO hgp hkn hv (fun e he c hc=>dN (hfl e he c hc)) with ⟨A,hv,hn0⟩ | ⟨cap,us,T,hv,⟨hcap,hmc⟩,hcl,hω,g0,g1,g2,g4,g5⟩
   ·have e : (es.drop k).take n=[]:=x0v (by omega)
    have h0:=h.leave hO hgp h.ch (x0l _) h.holds (fun _ _ _ _=>rfl)
    rw [hv]
    refine (hI.1 e A (hargs none (fun B e=>by cases e))).mono ?_
    rintro e0 w' ⟨v,rfl,hw,⟨e',A',rfl⟩ | hn⟩
    ·refine ⟨_,_,M,hK,?_⟩
     subst e'
     rw [<- jp hsnd]
     exact (h0.grow hw).nilA ht hL hsz A'
    ·refine ⟨_,_,M,hK,?_⟩
     rw [<- jp hsnd]
     exact h0.newRow0 hu hw hn ht (rt_big t 0) hL
   ·rw [hv]
    have hMb : ∀ q : Addr,q.block=(ρ p).blk -> M q=none:=fun q hq=>hO.apart q p (by rw [hq];exact hω)
    have hnew:=hO.new _ _ hω
    have hblt:=hO.lt _ _ hω
    have hrun2:=hI.2 (ρ p).blk ((ρ p).base + k * sz) T us cap (hargs (some (ρ p).blk) (fun B e=>by cases e;exact hω)) hMb hblt g1 (by rw [hWn];exact hcap) hmc (by rw [g2];exact hcl) (fun e he=>g4 e (x1l (x0J he))) g5
    rw [hWn] at hrun2
    refine hrun2.mono ?_
    have away : ∀ w' : World,Ch (fun k=>k=(ρ p).blk) w w' -> ∃ w2 : World,Bel w2 w' /\ w2.heap.size=w.heap.size /\ SR F nt S L w0 M0 (eff [cY f p] [] f) M a w2:=by
     intro w' q4
     obtain ⟨B0,hB0⟩ : ∃ B0,B0=(ρ p).blk:=⟨_,rfl⟩
     rw [<- hB0] at q4 hblt
     obtain ⟨ob,q1⟩ : ∃ ob,w'.heap[B0]? = some ob:=⟨_,x1a (x1f hblt q4.size)⟩
     obtain ⟨w2,hw2⟩ : ∃ w2 : World,w2={ w with heap:=w.heap.setIfInBounds B0 ob }:=⟨_,rfl⟩
     have y1 : ∀ k,k ≠ B0 -> w2.heap[k]? = w.heap[k]?:=fun k hk=>by
      rw [hw2];simp only [x1w];rw [if_neg (Ne.symm hk)]
     have y2 : w2.heap[B0]? = some ob:=by
      rw [hw2];simp only [x1w];simp [hblt]
     have y3 : w2.heap.size=w.heap.size:=by rw [hw2];simp
     have c2 : Ch (fun k=>k=B0) w w2:=⟨by rw [hw2],by rw [hw2],by rw [hw2],Nat.le_of_eq y3.symm,fun k _ hk=>y1 k hk,by rw [hw2];exact x0l _⟩
     have hb2 : Bel w2 w':=⟨by rw [q4.os,hw2],by rw [q4.tape,hw2],by rw [q4.output,hw2],by rw [y3];exact q4.size,fun k hk=>by
      by_cases e : k=B0
      ·subst e;rw [y2,q1]
      ·rw [y1 k e];exact q4.block k (by rw [<- y3];exact hk) e,by have:=q4.drawn;rw [hw2];exact this⟩
     have hch2 : Ch S w0 w2:=h.ch.trans c2 (fun k hk e=>by rw [e,hB0];rw [e,hB0] at hk;rcases hnew with h7 | h7;exact h7;omega)
     have hh2 : ∀ p v,M p=some v -> w2.cell? p=some v:=fun q v hq=>by
      have hne : q.block ≠ B0:=fun e=>by rw [hMb q (by rw [e,hB0])] at hq;cases hq
      rw [World.cell?_of_block (y1 _ hne)]
      exact h.holds q v hq
     exact ⟨w2,hb2,y3,h.leave (w':=w2) hO hgp hch2 (Nat.le_of_eq y3.symm) hh2 (fun k' q hk' hq=>y1 k' (by rintro rfl;rw [hB0,hω] at hk';cases hk';exact hq rfl))⟩
    rintro e0 w' ⟨v,rfl,q4,⟨e',A',rfl⟩ | ⟨o2,cap2,T2,us',rfl,q1,hl,hmc2,hcl2,q3⟩ | hn⟩
    ·obtain ⟨w2,hb2,_,h0⟩:=away w' q4
     refine ⟨_,_,M,hK,?_⟩
     subst e'
     rw [<- jp hsnd]
     exact (h0.grow hb2).nilA ht hL hsz A'
    ·have hchS : Ch S w0 w':=h.ch.trans q4 (fun k hk e=>by rcases hnew with h7 | h7;rw [e];exact h7;omega)
     have hh : ∀ p v,M p=some v -> w'.cell? p=some v:=fun q v hq=>by
      have hne : q.block ≠ (ρ p).blk:=fun e=>by rw [hMb q e] at hq;cases hq
      have h8:=h.holds q v hq
      rw [World.cell?_of_block (q4.block _ (World.block_lt_of_cell? w q h8) hne)]
      exact h8
     have ht10 : t < 10000:=x1f ht h.hnt
     have hrb : 10000 <= rt t 0:=rt_big t 0
     have hpr : p.root ≠ t:=by omega
     have hrt : rt t 0 ≠ t:=by omega
     obtain ⟨dq,hdq⟩ : ∃ dq,dq=cY f p:=⟨_,rfl⟩
     rw [<- hdq] at hfst hsnd
     have lk : ∀ s,s ≠ t -> s ≠ rt t 0 -> s ≠ p.root -> [(t,D.ref (.r (rt t 0)) 0 es'.length),(rt t 0,.blk sz es'),dq].lookup s=none:=fun s s1 s2 s3=>by
      have e1 : (s == t)=false:=by simpa using s1
      have e2 : (s == rt t 0)=false:=by simpa using s2
      obtain ⟨c,y⟩:=dq
      simp only at hfst
      have e3 : (s == c)=false:=by rw [hfst];simpa using s3
      simp only [x0e,e1,e2,e3,x0B]
     have lkp : [(t,D.ref (.r (rt t 0)) 0 es'.length),(rt t 0,.blk sz es'),dq].lookup p.root=some dq.2:=by
      have e1 : (p.root == t)=false:=by simpa using hpr
      have e2 : (p.root == rt t 0)=false:=by simpa using hpt
      obtain ⟨c,y⟩:=dq
      simp only at hfst
      subst hfst
      simp only [x0e,e1,e2,beq_self_eq_true]
     have key:=h.app_core hO (f':=eff [(t,.ref (.r (rt t 0)) 0 es'.length),(rt t 0,.blk sz es'),dq] [(rt t 0,true)] f) (w':=w') (t:=t) (b:=rt t 0) (sz:=sz) (n:=es'.length) (m:=0) (rows:=es') (rowsY:=[]) (src:=some (p,k)) (inp:=true) (c2:=none)
      (l:=⟨(ρ p).blk,o2,sz,us'.length⟩) (nb:=none) (v:=.slice (some ⟨(ρ p).blk,o2,none⟩) es'.length cap2) ht hL rfl rfl (by simpa [aQ] using hpt) (by simp) (fun c e=>by cases e)
      (aN (by simp)) (by
       rw [List.append_nil]
       refine aN ?_
       have e1 : (rt t 0 == t)=false:=by simpa using hrt
       simp [x0e,e1])
      (fun s hs hst=>bA (lk s hst (by omega) (by omega)))
      (fun c hc hcb hcs _=>bK (lk c (by omega) hcb (by simpa [aQ] using fun e : c=p.root=>hcs (by simp [aQ,e]))))
      (fun c e=>by cases e)
      (fun c k' e=>by
       cases e
       have:=aN (f:=f) (ks:=[(rt t 0,true)]) lkp
       rw [hdq] at this ⊢
       exact this ▸ rfl)
      (fun c i o k' e=>by
       cases e
       obtain ⟨sz0,es0,row0,z1,z2,z3⟩:=va hgp
       refine ⟨sz0,es0,z1,?_,row0,z2,(x0c.1 z3).1⟩
       have:=aN (f:=f) (ks:=[(rt t 0,true)]) lkp
       rw [hdq] at this
       simp only [cY,z1] at this
       rw [hdq]
       simp only [cY,z1]
       exact this)
      (fun k e=>by cases e) q4.size hchS hh
      (fun k' q hk' hq=>q4.block k' (hO.lt _ _ hk') (by rintro rfl;rw [hω] at hk';cases hk';exact hq rfl rfl))
      (by simp only [aC,if_true];exact .inr ⟨cap2,by simp,by simpa using hl,by simpa using hcl2,hmc2⟩)
      (.inr ⟨.inr ⟨rfl,p,k,rfl,hω,rfl⟩,rfl,us',T2,q1,rfl,(by
       have:=x0n sz hl
       simp only [x1c]
       omega),fun e he=>(hu e (by simpa using he)).1,fun i r off d h1 h2=>by
        obtain ⟨u,k1,k2⟩:=q3 i r off d h1 h2
        refine ⟨u,k1,?_⟩
        have hO':=dN ((hu r (x0b h1)).2 d (x0b h2))
        cases p with
        | r c=>show b4 F M ω ρ w c _ off d u;rw [bf hO'];exact k2
        | n c i' o'=>exact ⟨hO',k2⟩,fun i r off d h1 _=>by simp at h1⟩)
     refine ⟨_,_,M,hK,?_⟩
     rw [hdq] at key
     exact key
    ·obtain ⟨w2,hb2,y3,h0⟩:=away w' q4
     have hn2 : dV F M w2 w' sz es' v:=by
      obtain ⟨B,o,T,us,cap,z1,z2,z3⟩:=hn
      exact ⟨B,o,T,us,cap,z1,by rw [y3];exact z2,z3⟩
     refine ⟨_,_,M,hK,?_⟩
     rw [<- jp hsnd]
     exact h0.newRow0 hu hb2 hn2 ht (rt_big t 0) hL
  ·exact hr.elim
 ·exact hr.elim
end
end Go.Gv

namespace Go.Gv
section
variable {P : Program} {F : Fid} {C : Nat -> List D -> D -> List D -> Prop} {nt : Nat} {S : Nat -> Prop} {L : Nat -> Option Loc} {w0 : World} {M0 : Mem} {f : Nat -> D} {M : Mem} {a : Act} {w : World} {o : Oper} {d : D} {Q : Exit -> Act -> World -> Prop} {ρ : Pa -> Loc} {ω : Nat -> Option Pa} {New : Nat -> Prop} {K : List (Nat × D) -> List (Nat × Bool) -> Prop}
def nV (ω : Nat -> Option Pa) (c : Nat) : Nat -> Option Pa:=fun k=>match ω k with
 | some p=>if p.root=c then some p else none
 | none=>none
theorem d3 {c k : Nat} {p : Pa} (h : nV ω c k=some p) : ω k=some p /\ p.root=c:=by
 unfold nV at h
 split at h
 ·rename_i q hq
  split at h
  ·cases h
   exact ⟨hq,by assumption⟩
  ·cases h
 ·cases h
theorem mH {c k : Nat} {p : Pa} (h : ω k=some p) (hp : p.root=c) : nV ω c k=some p:=by
 simp only [nV,h,if_pos hp]
def fcE (f : Nat -> D) (c : Nat) : Nat -> D:=fun t=>if t=c then f t else .any
theorem Own.only (h : Own F L New f M a w ρ ω) {c : Nat} (hc : 10000 <= c) : Own F L New (fcE f c) M a w ρ (nV ω c):=by
 have hne : ∀ {t : Nat},t ≠ c -> fcE f c t=.any:=fun {t} ht=>by simp only [fcE,if_neg ht]
 have hcc : fcE f c c=f c:=by simp [fcE]
 refine h.step (ks:=[]) (fun p hp=>absurd rfl hp) (Mem.le_refl _) (x0l _) (fun t ht=>.inl (.inl (hne (by omega)))) (fun b hb=>?_) (fun k p e=>.inl ⟨p,(d3 e).1⟩) (fun p q e=>h.apart p q (d3 e).1) (fun b l hb hl hB=>?_)
 ·by_cases e : b=c
  ·subst e
   exact .inl (.inr ⟨hcc,fun p hp=>⟨rfl,fun hw=>⟨mH hw hp,rfl⟩⟩⟩)
  ·exact .inl (.inl (by rw [hne e];rfl))
 ·by_cases e : b=c
  ·subst e
   rw [hcc] at hB
   exact ⟨rfl,hB⟩
  ·rw [hne e] at hB;cases hB
end
end Go.Gv

namespace Go.Gv
section
variable {P : Program} {F : Fid} {C : Nat -> List D -> D -> List D -> Prop} {nt : Nat} {S : Nat -> Prop} {L : Nat -> Option Loc} {w0 : World} {M0 : Mem} {f : Nat -> D} {M : Mem} {a : Act} {w : World} {o : Oper} {d : D} {Q : Exit -> Act -> World -> Prop} {ρ : Pa -> Loc} {ω : Nat -> Option Pa} {New : Nat -> Prop} {K : List (Nat × D) -> List (Nat × Bool) -> Prop}
def mb : D -> Prop
 | .any=>True
 | .nils=>True
 | .ref _ _ _=>True
 | .blk _ es=>∀ r ∈ es,∀ c ∈ r,a6 c=true
 | d=>a6 d=true
theorem tv {d : D} {v : Value} {M' : Mem} (hf : mb d) (hn : d ≠ .any) (hb : isB d=false) (h : bi F M ρ d v) : bi F M' ρ d v:=by
 cases d <;> simp only [mb] at hf <;> first | exact h | (simp [a6] at hf;done) | (simp [isB] at hb;done) | (rw [ar rfl] at h ⊢;simp only [aC] at h ⊢;exact eQ hf h) | exact absurd rfl hn
theorem SR.flat (h : SR F nt S L w0 M0 f M a w) (hf : ∀ t,mb (f t)) (hsl : ∀ t,t < 10000 -> isB (f t)=false) : SR F nt S L w0 (fun _=>none) f (fun _=>none) a w where
 hnt:=h.hnt
 size:=h.size
 defers:=h.defers
 ch:=h.ch
 holds p v e:=by cases e
 ext:=Mem.le_refl _
 fresh p _ e:=absurd rfl e
 own:=by
  obtain ⟨ρ,ω,hO⟩:=h.own
  refine ⟨ρ,ω,⟨fun t ht=>?_,fun b sz es hb e=>?_,fun b kt et ks vs hb e=>?_,hO.lt,hO.new,fun _ _ _=>rfl,hO.lent⟩⟩
  ·rcases hO.slots t ht with h1 | ⟨v,h1,h2⟩
   ·exact .inl h1
   ·by_cases e : f t=.any
    ·exact .inl e
    ·exact .inr ⟨v,h1,tv (hf t) e (hsl t ht) h2⟩
  ·have h1:=hO.roots b sz es hb e
   have h2:=hf b
   rw [e] at h2
   simp only [mb] at h2
   unfold df bY at h1 ⊢
   rcases h1 with h1 | ⟨h1,h3,vs,T,g1,g2,g3,g4,g5⟩
   ·exact .inl h1
   ·refine .inr ⟨h1,h3,vs,T,g1,g2,g3,g4,fun i r off d e1 e2=>?_⟩
    obtain ⟨v,k1,k2⟩:=g5 i r off d e1 e2
    have hf1:=h2 r (x0b e1) d (x0b e2)
    have k3 : b4 F M ω ρ w b i off d v:=k2
    rw [bf (dN hf1)] at k3
    refine ⟨v,k1,?_⟩
    show b4 F (fun _=>none) ω ρ w b i off d v
    rw [bf (dN hf1)]
    exact eQ hf1 k3
  ·have h2:=hf b
   rw [e] at h2
   simp [mb,a6] at h2
end
end Go.Gv

namespace Go.Gv
open Go.RowKit
section
variable {P : Program} {F : Fid} {C : Nat -> List D -> D -> List D -> Prop} {nt : Nat} {S : Nat -> Prop} {L : Nat -> Option Loc} {w0 : World} {M0 : Mem} {f : Nat -> D} {M M' : Mem} {a : Act} {w w' : World} {o : Oper} {d : D} {Q : Exit -> Act -> World -> Prop} {ρ ρ' : Pa -> Loc} {ω ω' : Nat -> Option Pa} {New : Nat -> Prop} {K : List (Nat × D) -> List (Nat × Bool) -> Prop}
def Pa.to (c : Nat) : Pa -> Pa
 | .r _=>.r c
 | .n _ i o=>.n c i o
theorem Pa.to_root (c : Nat) (p : Pa) : (p.to c).root=c:=by cases p <;> rfl
theorem Pa.to_to (b c : Nat) (p : Pa) (h : p.root=b) : (p.to c).to b=p:=by cases p <;> simp only [Pa.root] at h <;> subst h <;> rfl
theorem df.carry {b c sz : Nat} {es : List (List D)} (h : df F M ω ρ w b sz es) (hM : M.le M') (hs : ∀ p : Pa,p.root=b -> ρ' (p.to c)=ρ p /\ (ω (ρ p).blk=some p -> ω' (ρ p).blk=some (p.to c) /\ w'.heap[(ρ p).blk]? = w.heap[(ρ p).blk]?)) : df F M' ω' ρ' w' c sz es:=by
 have path : ∀ (p : Pa) (sz : Nat) (es : List (List D)) (R R' : Nat -> Nat -> D -> Value -> Prop),p.root=b -> bY ω ρ w p sz es R -> (∀ i r off d v,es[i]? = some r -> r[off]? = some d -> R i off d v -> R' i off d v) -> bY ω' ρ' w' (p.to c) sz es R':=by
  intro p sz es R R' hp h hR
  obtain ⟨e1,e2⟩:=hs p hp
  unfold bY at h ⊢
  rw [e1]
  rcases h with h | ⟨h1,h2⟩
  ·exact .inl h
  ·obtain ⟨g1,g2⟩:=e2 h1
   exact .inr ⟨g1,h2.frame g2 hR⟩
 unfold df at h ⊢
 refine path (.r b) sz es _ _ rfl h (fun i r off d v k1 k2 hr=>?_)
 cases d
 case own sz2 es2 =>
  obtain ⟨h1,h2⟩:=hr
  refine ⟨?_,path (.n b i off) sz2 es2 _ _ rfl h2 (fun _ _ _ d v _ _ hr=>ae.mono hM d v hr)⟩
  have:=(hs (.n b i off) rfl).1
  simp only [aC,Pa.to] at h1 this ⊢
  rw [this]
  exact h1
 all_goals exact ae.mono hM _ _ hr
theorem SR.lendX (h : SR F nt S L w0 M0 f M a w) (hO : Own F L (fun k=>S k \/ w0.heap.size <= k) f M a w ρ ω) {b sz : Nat} {es es' : List (List D)} (hf : f b=.blk sz es) (hb : 10000 <= b) (hω : ω (ρ (.r b)).blk=some (.r b)) {ρ1 : Pa -> Loc} {ω1 : Nat -> Option Pa}
  (hρ1 : ∀ p : Pa,p.root=b -> ρ1 (p.to au)=ρ p) (hω1 : ∀ k q,ω1 k=some q ↔ ∃ p : Pa,ω k=some p /\ p.root=b /\ q=p.to au)
  (hch : Ch (fun k=>∃ p,ω1 k=some p) w w') (hM : M.le M') (hfr : ∀ p,M p=none -> M' p ≠ none -> (∃ q,ω1 p.block=some q) \/ w.heap.size <= p.block) (hh : ∀ p v,M' p=some v -> w'.cell? p=some v)
  (hρ' : ρ' (.r au)=ρ1 (.r au)) (hl : nh F M' w' ρ' ω' au sz es') (hnew : ∀ k p,ω' k=some p -> (∃ q,ω1 k=some q) \/ w.heap.size <= k)
  {dst : Option Nat} (ht : ∀ t,dst=some t -> t < nt) {v : Value} (hv : ae F M' d v) :
  ∃ ρ2 ω2,(∀ p : Pa,p.root=b -> ρ2 p=ρ' (p.to au)) /\ (∀ p : Pa,p.root ≠ b -> ρ2 p=ρ p) /\ Own F L (fun k=>S k \/ w0.heap.size <= k) (eff (b7 dst d++[(b,.blk sz es')]) [(b,false)] f) M' (a.put dst v) w' ρ2 ω2 /\ SR F nt S L w0 M0 (eff (b7 dst d++[(b,.blk sz es')]) [(b,false)] f) M' (a.put dst v) w':=by
 have hS1 : ∀ k q,ω1 k=some q -> ∃ p,ω k=some p /\ p.root=b:=fun k q e=>by
  obtain ⟨p,h1,h2,_⟩:=(hω1 k q).1 e
  exact ⟨p,h1,h2⟩
 have other : ∀ k p,ω k=some p -> p.root ≠ b -> (∀ q,ω1 k ≠ some q) /\ ω' k=none /\ w'.heap[k]? = w.heap[k]?:=fun k p e hp=>by
  have h1 : ∀ q,ω1 k ≠ some q:=fun q e1=>by
   obtain ⟨p',h1,h2⟩:=hS1 k q e1
   rw [e] at h1;cases h1;exact hp h2
  refine ⟨h1,?_,hch.block k (hO.lt _ _ e) (fun ⟨q,e1⟩=>h1 q e1)⟩
  cases e2 : ω' k with
  | none=>rfl
  | some q =>
   rcases hnew k q e2 with ⟨q,e1⟩ | h2
   ·exact absurd e1 (h1 q)
   ·have:=hO.lt _ _ e;omega
 obtain ⟨ρ2,hρ2⟩ : ∃ ρ2 : Pa -> Loc,ρ2=fun p=>if p.root=b then ρ' (p.to au) else ρ p:=⟨_,rfl⟩
 obtain ⟨ω2,hω2⟩ : ∃ ω2 : Nat -> Option Pa,ω2=fun k=>match ω' k with
  | some q=>some (q.to b)
  | none=>match ω k with
   | some p=>if p.root=b then none else some p
   | none=>none:=⟨_,rfl⟩
 have r1 : ∀ p : Pa,p.root=b -> ρ2 p=ρ' (p.to au):=fun p hp=>by rw [hρ2];simp only [if_pos hp]
 have r2 : ∀ p : Pa,p.root ≠ b -> ρ2 p=ρ p:=fun p hp=>by rw [hρ2];simp only [if_neg hp]
 have o1 : ∀ k q,ω' k=some q -> ω2 k=some (q.to b):=fun k q e=>by rw [hω2];simp only [e]
 have o2 : ∀ k p,ω k=some p -> p.root ≠ b -> ω2 k=some p:=fun k p e hp=>by rw [hω2];simp only [(other k p e hp).2.1,e,if_neg hp]
 have o3 : ∀ k p,ω2 k=some p -> (∃ q,ω' k=some q /\ p=q.to b) \/ (ω k=some p /\ p.root ≠ b):=fun k p e=>by
  rw [hω2] at e
  simp only at e
  cases e1 : ω' k with
  | some q=>rw [e1] at e;cases e;exact .inl ⟨q,rfl,rfl⟩
  | none =>
   rw [e1] at e
   simp only at e
   cases e2 : ω k with
   | none=>rw [e2] at e;cases e
   | some p' =>
    rw [e2] at e
    simp only at e
    split at e
    ·cases e
    ·cases e;exact .inr ⟨rfl,by assumption⟩
 have hrb : ρ2 (.r b)=ρ (.r b):=by
  rw [r1 (.r b) rfl]
  show ρ' (.r au)=_
  rw [hρ',<- hρ1 (.r b) rfl]
  rfl
 have hfb : eff (b7 dst d++[(b,.blk sz es')]) [(b,false)] f b=.blk sz es':=aN (by
  cases dst with
  | none=>simp [b7]
  | some t =>
   have : (b == t)=false:=by have:=ht t rfl;have:=h.hnt;simp;omega
   simp [b7,x0e,this])
 have lk : ∀ s,s ≠ b -> dst ≠ some s -> (b7 dst d++[(b,D.blk sz es')]).lookup s=none:=fun s h1 h2=>by
  have e1 : (s == b)=false:=by simpa using h1
  cases dst with
  | none=>simp only [b7,x1d,x0e,e1,x0B]
  | some t =>
   have e2 : (s == t)=false:=by simp;rintro rfl;exact h2 rfl
   simp only [b7,x08,x1d,x0e,e1,e2,x0B]
 have hsize : (a.put dst v).tmps.size=nt:=by cases dst <;> simp [Act.put,h.size]
 have main : Own F L (fun k=>S k \/ w0.heap.size <= k) (eff (b7 dst d++[(b,.blk sz es')]) [(b,false)] f) M' (a.put dst v) w' ρ2 ω2 -> SR F nt S L w0 M0 (eff (b7 dst d++[(b,.blk sz es')]) [(b,false)] f) M' (a.put dst v) w':=fun own =>
  ⟨h.hnt,hsize,by cases dst <;> simp [Act.put,h.defers],h.ch.trans hch (fun k hk ⟨q,e⟩=>by
   obtain ⟨p,e1,_⟩:=hS1 k q e
   rcases hO.new _ _ e1 with h3 | h3
   ·exact h3
   ·omega),hh,Mem.le_trans h.ext hM,fun p h1 h2=>by
   by_cases e : M p=none
   ·rcases hfr p e h2 with ⟨q,e1⟩ | h3
    ·obtain ⟨p',e2,_⟩:=hS1 _ q e1
     exact hO.new _ _ e2
    ·exact .inr (x1x h.ch.size h3)
   ·exact h.fresh p h1 e,ρ2,ω2,own⟩
 refine ⟨ρ2,ω2,r1,r2,(fun x=>⟨x,main x⟩) ?_⟩
 ·refine hO.step (ks:=[(b,false)]) (fun p hp=>?_) hM hch.size (fun s hs=>?_) (fun c hc=>?_) (fun k p e=>?_) (fun p q e=>?_) (fun c l hc hl' hB=>?_)
  ·refine ⟨(b,false),by simp,?_⟩
   by_cases e : p.root=b
   ·cases p with
    | r x =>
     simp only [Pa.root] at e
     subst e
     exact absurd hrb hp
    | n x i off =>
     simp only [Pa.root] at e
     subst e
     simp [bm]
   ·exact absurd (r2 p e) hp
  ·by_cases e : dst=some s
   ·right
    have hst:=ht s e
    subst e
    have e1 : eff (b7 (some s) d++[(b,.blk sz es')]) [(b,false)] f s=d:=aN (by simp [b7])
    refine .inr ⟨v,getElem?_put_same (by rw [h.size];exact hst),?_⟩
    rw [e1]
    exact bi.of_pure hv
   ·left
    rcases bA (f:=f) (ks:=[(b,false)]) (lk s (by omega) e) with h1 | h1
    ·exact .inl h1
    ·refine .inr ⟨h1.1,?_,h1.2⟩
     cases dst with
     | none=>rfl
     | some t=>exact getElem?_put (fun x=>e (by rw [x]))
  ·by_cases e : c=b
   ·subst e
    right
    refine .inl ⟨sz,es',hfb,hl.rows.carry (Mem.le_refl _) (fun p hp=>?_)⟩
    have e1 : ρ2 (p.to c)=ρ' p:=by rw [r1 _ (Pa.to_root _ _),Pa.to_to au c p hp]
    exact ⟨e1,fun e2=>⟨o1 _ _ e2,rfl⟩⟩
   ·left
    rcases bK (f:=f) (ks:=[(b,false)]) (lk c e (fun x=>by have:=ht c x;have:=h.hnt;omega)) with h1 | h1
    ·exact .inl h1
    ·refine .inr ⟨h1,fun p hp=>?_⟩
     have hpb : p.root ≠ b:=by rw [hp];exact e
     exact ⟨r2 p hpb,fun hw=>⟨o2 _ _ hw hpb,(other _ _ hw hpb).2.2⟩⟩
  ·rcases o3 k p e with ⟨q,e1,_⟩ | ⟨e1,_⟩
   ·rcases hnew k q e1 with ⟨q',e2⟩ | h2
    ·obtain ⟨p',e3,_⟩:=hS1 k q' e2
     exact .inl ⟨p',e3⟩
    ·exact .inr ⟨hl.lt k q e1,.inr (x1x h.ch.size h2)⟩
   ·exact .inl ⟨p,e1⟩
  ·rcases o3 _ q e with ⟨q',e1,_⟩ | ⟨e1,e2⟩
   ·exact hl.apart p q' e1
   ·have h1:=hO.apart p q e1
    cases e3 : M' p with
    | none=>rfl
    | some u =>
     rcases hfr p h1 (by rw [e3];simp) with ⟨q',e4⟩ | h4
     ·exact absurd e4 ((other _ _ e1 e2).1 q')
     ·have:=hO.lt _ _ e1;omega
  ·by_cases e : c=b
   ·subst e
    exact ⟨hrb,by rw [hf];rfl⟩
   ·have hcb : (Pa.r c).root ≠ b:=e
    refine ⟨r2 _ hcb,?_⟩
    rcases bK (f:=f) (ks:=[(b,false)]) (lk c e (fun x=>by have:=ht c x;have:=h.hnt;omega)) with h1 | h1
    ·rw [hB] at h1;cases h1
    ·rw [<- h1];exact hB
theorem SR.lend (h : SR F nt S L w0 M0 f M a w) (hO : Own F L (fun k=>S k \/ w0.heap.size <= k) f M a w ρ ω) {b sz : Nat} {es es' : List (List D)} (hf : f b=.blk sz es) (hb : 10000 <= b) (hω : ω (ρ (.r b)).blk=some (.r b)) {ρ1 : Pa -> Loc} {ω1 : Nat -> Option Pa}
  (hρ1 : ∀ p : Pa,p.root=b -> ρ1 (p.to au)=ρ p) (hω1 : ∀ k q,ω1 k=some q ↔ ∃ p : Pa,ω k=some p /\ p.root=b /\ q=p.to au)
  (hch : Ch (fun k=>∃ p,ω1 k=some p) w w') (hM : M.le M') (hfr : ∀ p,M p=none -> M' p ≠ none -> (∃ q,ω1 p.block=some q) \/ w.heap.size <= p.block) (hh : ∀ p v,M' p=some v -> w'.cell? p=some v)
  (hρ' : ρ' (.r au)=ρ1 (.r au)) (hl : nh F M' w' ρ' ω' au sz es') (hnew : ∀ k p,ω' k=some p -> (∃ q,ω1 k=some q) \/ w.heap.size <= k)
  {dst : Option Nat} (ht : ∀ t,dst=some t -> t < nt) {v : Value} (hv : ae F M' d v) :
  SR F nt S L w0 M0 (eff (b7 dst d++[(b,.blk sz es')]) [(b,false)] f) M' (a.put dst v) w':=by
 obtain ⟨_,_,_,_,_,hs⟩:=h.lendX hO hf hb hω hρ1 hω1 hch hM hfr hh hρ' hl hnew ht hv
 exact hs
end
end Go.Gv

namespace Go.Gv
open Go.RowKit
section
variable {P : Program} {F : Fid} {C : Nat -> List D -> D -> List D -> Prop} {nt : Nat} {S : Nat -> Prop} {L : Nat -> Option Loc} {w0 : World} {M0 : Mem} {f : Nat -> D} {M M' : Mem} {a : Act} {w w' : World} {o : Oper} {d : D} {Q : Exit -> Act -> World -> Prop} {ρ ρ' : Pa -> Loc} {ω ω' : Nat -> Option Pa} {New : Nat -> Prop} {K : List (Nat × D) -> List (Nat × Bool) -> Prop}
theorem pV (p : Pa) : bm p.root true p=true:=by cases p <;> simp [bm,Pa.root]
theorem i6 {t i b : Nat} {x d : D} (h : (b,x) ∈ da t i d) : b=rt t i /\ ∃ sz es,x=.blk sz es /\ ∀ t',(rt t' i,x) ∈ da t' i d:=by
 cases d <;> simp only [da,x0K,x09,or_false,Prod.mk.injEq] at h
 all_goals exact ⟨h.1,_,_,h.2,fun t'=>by rw [h.2];simp [da]⟩
theorem i7 {t b : Nat} {x : D} : ∀ {ds : List D} {i : Nat},(b,x) ∈ bU t i ds -> ∃ j,i <= j /\ j < i + ds.length /\ b=rt t j /\ ∃ sz es,x=.blk sz es /\ ∀ t',(rt t' j,x) ∈ bU t' i ds
 | [],_,h=>by simp [bU] at h
 | d::ds,i,h=>by
  simp only [bU,x0m] at h
  rcases h with h | h
  ·obtain ⟨e,sz,es,e2,h2⟩:=i6 h
   exact ⟨i,x0l _,by simp,e,sz,es,e2,fun t'=>by simp only [bU,x0m];exact .inl (h2 t')⟩
  ·obtain ⟨j,h1,h2,e,sz,es,e2,h3⟩:=i7 h
   exact ⟨j,by omega,by simp;omega,e,sz,es,e2,fun t'=>by simp only [bU,x0m];exact .inr (h3 t')⟩
theorem gW {t b : Nat} {x y : D} : ∀ {ds : List D} {i : Nat},(b,x) ∈ bU t i ds -> (b,y) ∈ bU t i ds -> x=y
 | [],_,h,_=>by simp [bU] at h
 | d::ds,i,h,h'=>by
  simp only [bU,x0m] at h h'
  have far : ∀ {z : D},(b,z) ∈ bU t (i + 1) ds -> b ≠ rt t i:=fun hz e=>by
   obtain ⟨j,h1,_,e2,_⟩:=i7 hz
   rw [e] at e2
   unfold rt at e2
   omega
  rcases h with h | h <;> rcases h' with h' | h'
  ·cases d <;> simp only [da,x0K,x09,or_false,Prod.mk.injEq] at h h'
   all_goals rw [h.2,h'.2]
  ·exact absurd (i6 h).1 (far h')
  ·exact absurd (i6 h').1 (far h)
  ·exact gW h h'
theorem vn {b : Nat} {x : D} : ∀ {l : List (Nat × D)},(∀ y,(b,y) ∈ l -> y=x) -> (b,x) ∈ l -> l.lookup b=some x
 | [],_,h=>by simp at h
 | (c,y)::l,hu,h=>by
  by_cases e : b=c
  ·subst e
   rw [hu y (by simp)]
   simp
  ·have e1 : (b == c)=false:=by simpa using e
   simp only [x0e,e1]
   refine vn (fun y hy=>hu y (by simp [hy])) ?_
   rcases x0K.1 h with h | h
   ·cases h;exact absurd rfl e
   ·exact h
theorem vo {b : Nat} : ∀ {l : List (Nat × D)},(∀ y,(b,y) ∉ l) -> l.lookup b=none
 | [],_=>rfl
 | (c,y)::l,h=>by
  have e : b ≠ c:=fun e=>h y (by simp [e])
  have e1 : (b == c)=false:=by simpa using e
  simp only [x0e,e1]
  exact vo fun y hy=>h y (by simp [hy])
theorem tA {t b : Nat} {x R : D} (hok : okR R=true) (h : (b,x) ∈ b6 t R) : ∃ j,1 <= j /\ j <= 14 /\ b=rt t j /\ ∃ sz es,x=.blk sz es /\ ∀ t',(rt t' j,x) ∈ b6 t' R:=by
 obtain ⟨j,h1,h2,h3,h4⟩:=i7 h
 refine ⟨j,h1,?_,h3,h4⟩
 have : (kD R).length <= 14:=by
  cases R <;> simp only [okR,x0a,x0g,x0i] at hok <;> first | exact hok.1 | simp [kD]
 omega
end
end Go.Gv

namespace Go.Gv
section
variable {P : Program} {F : Fid} {C : Nat -> List D -> D -> List D -> Prop} {nt : Nat} {S : Nat -> Prop} {L : Nat -> Option Loc} {w0 : World} {M0 : Mem} {f : Nat -> D} {M : Mem} {a : Act} {w : World} {o : Oper} {d : D} {Q : Exit -> Act -> World -> Prop} {ρ : Pa -> Loc} {ω : Nat -> Option Pa} {New : Nat -> Prop} {K : List (Nat × D) -> List (Nat × Bool) -> Prop}
end
end Go.Gv
namespace Go.Gv
section
variable {P : Program} {F : Fid} {C : Nat -> List D -> D -> List D -> Prop} {nt : Nat} {S : Nat -> Prop} {L : Nat -> Option Loc} {w0 : World} {M0 : Mem} {f : Nat -> D} {M : Mem} {a : Act} {w : World} {o : Oper} {d : D} {Q : Exit -> Act -> World -> Prop} {ρ : Pa -> Loc} {ω : Nat -> Option Pa} {New : Nat -> Prop} {K : List (Nat × D) -> List (Nat × Bool) -> Prop}
theorem mi {t : Nat} : ∀ {ds : List D} {i j : Nat},(cz t i ds)[j]? = (ds[j]?).map (gV t (i + j))
 | [],i,j=>by simp [cz]
 | d::ds,i,j=>by
  cases j with
  | zero=>simp [cz]
  | succ j =>
   simp only [cz,x1j]
   rw [mi,show i + 1 + j=i + (j + 1) by omega]
theorem mj {t : Nat} : ∀ {ds : List D} {i : Nat},(cz t i ds).length=ds.length
 | [],i=>rfl
 | d::ds,i=>by simp [cz,mj]
theorem lh {t b : Nat} {x : D} : ∀ {ds : List D} {i : Nat},(b,x) ∈ bU t i ds -> ∃ j d,ds[j]? = some d /\ (b,x) ∈ da t (i + j) d
 | [],i,h=>by simp [bU] at h
 | d::ds,i,h=>by
  simp only [bU,x0m] at h
  rcases h with h | h
  ·exact ⟨0,d,by simp,h⟩
  ·obtain ⟨j,d',h1,h2⟩:=lh h
   exact ⟨j + 1,d',by simpa using h1,by rwa [show i + (j + 1)=i + 1 + j by omega]⟩
theorem li {t b : Nat} {x : D} : ∀ {ds : List D} {i j : Nat} {d : D},ds[j]? = some d -> (b,x) ∈ da t (i + j) d -> (b,x) ∈ bU t i ds
 | [],i,j,d,h,_=>by simp at h
 | d0::ds,i,j,d,h,hx=>by
  simp only [bU,x0m]
  cases j with
  | zero=>simp at h;subst h;exact .inl hx
  | succ j=>exact .inr (li (j:=j) (by simpa using h) (by rwa [show i + (j + 1)=i + 1 + j by omega] at hx))
theorem mo {t j sz : Nat} {ds : List D} {es : List (List D)} (h : ds[j]? = some (.own sz es)) : (rt t (1 + j),D.blk sz es) ∈ bU t 1 ds:=li h (by simp [da])
theorem SR.unpack (h : SR F nt S L w0 M0 f M a w) (hL : ∀ t i,i < 15 -> L (rt t i)=none) {t : Nat} (ht : t < nt) {c sz : Nat} {row : List D} (hg : f c=.blk sz [row]) (hok : okR (.agg row)=true) (hcn : ∀ x,(c,x) ∉ b6 t (.agg row)) {v : Value}
  (hv : ∀ ρ ω,Own F L (fun k=>S k \/ w0.heap.size <= k) f M a w ρ ω -> ∃ vs : List Value,v=.agg vs.toArray /\ vs.length=row.length /\ ∀ (j : Nat) (d : D) (u : Value),row[j]? = some d -> vs[j]? = some u -> b4 F M ω ρ w c 0 j d u) :
  SR F nt S L w0 M0 (eff ((t,lc t (.agg row))::(c,.any)::b6 t (.agg row)) (lg t (.agg row)) f) M (a.put (some t) v) w:=by
 obtain ⟨ρ,ω,hO⟩:=h.own
 obtain ⟨vs,hv1,hv2,hv3⟩:=hv ρ ω hO
 have hc10 : 10000 <= c:=hO.big hg
 have ht10 : t < 10000:=x1f ht h.hnt
 have hct0 : c ≠ t:=by omega
 obtain ⟨R,hR⟩ : ∃ R,R=D.agg row:=⟨_,rfl⟩
 rw [<- hR] at hok hcn ⊢
 have mem : ∀ b,((b6 t R).any fun q=>q.1 == b)=true ↔ ∃ x,(b,x) ∈ b6 t R:=fun b=>by
  simp only [x0x,x0k]
  constructor
  ·rintro ⟨⟨c,x⟩,h1,rfl⟩;exact ⟨x,h1⟩
  ·rintro ⟨x,h1⟩;exact ⟨(b,x),h1,rfl⟩
 have inR : ∀ j sz es,row[j]? = some (.own sz es) -> (rt t (1 + j),D.blk sz es) ∈ b6 t R:=fun j sz es hj=>by
  rw [hR];exact mo hj
 have ofR : ∀ b x,(b,x) ∈ b6 t R -> ∃ j sz es,b=rt t (1 + j) /\ row[j]? = some (.own sz es) /\ x=.blk sz es:=fun b x hx=>by
  rw [hR] at hx
  obtain ⟨j,d,hj,hd⟩:=lh hx
  have hj' : j < vs.length:=by rw [hv2];exact (x0c.1 hj).1
  have hcell:=hv3 j d _ hj (x0d hj')
  cases d <;> simp only [da,x0K,x09,or_false,Prod.mk.injEq] at hd
  case own sz es=>exact ⟨j,sz,es,hd.1,hj,hd.2⟩
  case blk sz es=>simp [b4,ae] at hcell
 obtain ⟨ρ2,hρ2⟩ : ∃ ρ2 : Pa -> Loc,ρ2=fun p=>match p with
  | .r b=>if ((b6 t R).any fun q=>q.1 == b)=true then ρ (.n c 0 (b - rt t 1)) else ρ p
  | .n _ _ _=>ρ p:=⟨_,rfl⟩
 obtain ⟨ω2,hω2⟩ : ∃ ω2 : Nat -> Option Pa,ω2=fun k=>match ω k with
  | some p=>if p.root=c then (match p with
    | .n _ i o=>if i=0 /\ ((b6 t R).any fun q=>q.1 == rt t (1 + o))=true then some (.r (rt t (1 + o))) else none
    | .r _=>none) else if ((b6 t R).any fun q=>q.1 == p.root)=true then none else some p
  | none=>none:=⟨_,rfl⟩
 have r1 : ∀ j x,(rt t (1 + j),x) ∈ b6 t R -> ρ2 (.r (rt t (1 + j)))=ρ (.n c 0 j):=fun j x hx=>by
  rw [hρ2];simp only [(mem _).2 ⟨x,hx⟩,if_true]
  have : rt t (1 + j) - rt t 1=j:=by unfold rt;omega
  rw [this]
 have r2 : ∀ p : Pa,¬ (∃ x,(p.root,x) ∈ b6 t R) -> ρ2 p=ρ p:=fun p hp=>by
  rw [hρ2]
  cases p with
  | r b =>
   have : ¬ ((b6 t R).any fun q=>q.1 == b)=true:=fun e=>hp ((mem _).1 e)
   simp only [if_neg this]
  | n b i o=>rfl
 have o1 : ∀ k j x,ω k=some (.n c 0 j) -> (rt t (1 + j),x) ∈ b6 t R -> ω2 k=some (.r (rt t (1 + j))):=fun k j x e hx=>by
  rw [hω2];simp only [e,Pa.root,if_true,(mem _).2 ⟨x,hx⟩,and_self]
 have o2 : ∀ k p,ω k=some p -> p.root ≠ c -> ¬ (∃ x,(p.root,x) ∈ b6 t R) -> ω2 k=some p:=fun k p e hpc hp=>by
  have : ¬ ((b6 t R).any fun q=>q.1 == p.root)=true:=fun e=>hp ((mem _).1 e)
  rw [hω2];simp only [e,if_neg hpc,if_neg this]
 have o3 : ∀ k p,ω2 k=some p -> ∃ q,ω k=some q:=fun k p e=>by
  rw [hω2] at e
  simp only at e
  cases e1 : ω k with
  | some q=>exact ⟨q,rfl⟩
  | none=>rw [e1] at e;cases e
 have lkn : ∀ s,s ≠ t -> s ≠ c -> ¬ (∃ x,(s,x) ∈ b6 t R) -> ((t,lc t R)::(c,D.any)::b6 t R).lookup s=none:=fun s h1 h2 h3=>by
  have e1 : (s == t)=false:=by simpa using h1
  have e2 : (s == c)=false:=by simpa using h2
  simp only [x0e,e1,e2]
  exact vo fun y hy=>h3 ⟨y,hy⟩
 have small : ∀ s,s < 10000 -> ¬ (∃ x,(s,x) ∈ b6 t R):=fun s hs ⟨x,hx⟩=>by
  obtain ⟨j,_,_,h3,_⟩:=ofR s x hx
  unfold rt at h3;omega
 refine ⟨h.hnt,by simp [Act.put,h.size],by simp [Act.put,h.defers],h.ch,h.holds,h.ext,h.fresh,ρ2,ω2,hO.step (ks:=lg t R) (fun p hp=>?_) (Mem.le_refl _) (x0l _) (fun s hs=>?_) (fun b hb=>?_) (fun k p e=>.inl (o3 k p e)) (fun p q e=>?_) (fun b l hb hl hB=>?_)⟩
 ·by_cases e : ∃ x,(p.root,x) ∈ b6 t R
  ·obtain ⟨x,hx⟩:=e
   exact ⟨(p.root,true),x0s.2 ⟨_,hx,rfl⟩,pV p⟩
  ·exact absurd (r2 p e) hp
 ·by_cases e : s=t
  ·right
   subst e
   have e1 : eff ((s,lc s R)::(c,D.any)::b6 s R) (lg s R) f s=lc s R:=aN (by simp)
   refine .inr ⟨v,getElem?_put_same (by rw [h.size];exact ht),?_⟩
   rw [e1,hR]
   refine ⟨vs,hv1,by rw [mj];exact hv2.symm,fun j d u h1 h2=>?_⟩
   rw [mi,x0h] at h1
   obtain ⟨d',h1,rfl⟩:=h1
   have hcell:=hv3 j d' u h1 h2
   cases d'
   case own sz' es' =>
    simp only [gV,aC]
    rw [r1 j _ (inR j _ _ h1)]
    exact hcell.1
   all_goals first | exact aC.of_pure hcell | (simp [b4,ae] at hcell;done)
  ·left
   rcases bA (f:=f) (ks:=lg t R) (lkn s e (by omega) (small s hs)) with h1 | h1
   ·exact .inl h1
   ·exact .inr ⟨h1.1,getElem?_put e,h1.2⟩
 ·by_cases e : ∃ x,(b,x) ∈ b6 t R
  ·obtain ⟨x,hx⟩:=e
   obtain ⟨j,sz',es',h3,h4,rfl⟩:=ofR b x hx
   right
   have hct : (b == t)=false:=by simp;omega
   have hbc : b ≠ c:=fun e=>hcn _ (e ▸ hx)
   have hct2 : (b == c)=false:=by simpa using hbc
   have hlk : ((t,lc t R)::(c,D.any)::b6 t R).lookup b=some (.blk sz' es'):=by
    simp only [x0e,hct,hct2]
    exact vn (fun y hy=>(gW hx hy).symm) hx
   refine .inl ⟨sz',es',aN hlk,?_⟩
   have hj' : j < vs.length:=by rw [hv2];exact (x0c.1 h4).1
   have hcell:=hv3 j _ _ h4 (x0d hj')
   subst h3
   have e1:=r1 j _ hx
   unfold df bY
   rw [e1]
   rcases hcell.2 with h5 | ⟨h5,h6,us,T,g1,g2,g3,g4,g5⟩
   ·exact .inl h5
   ·refine .inr ⟨o1 _ j _ h5 hx,h6,us,T,g1,g2,g3,g4,fun i r off d k1 k2=>?_⟩
    obtain ⟨u,k3,k4⟩:=g5 i r off d k1 k2
    refine ⟨u,k3,?_⟩
    cases d
    case own=>simp [ae] at k4
    all_goals exact k4
  ·by_cases ebc : b=c
   ·subst ebc
    refine .inl (.inl ?_)
    have hct : (b == t)=false:=by simp;omega
    rw [aN (d:=.any) (by simp [x0e,hct])]
    rfl
   ·left
    rcases bK (f:=f) (ks:=lg t R) (lkn b (by omega) ebc e) with h1 | h1
    ·exact .inl h1
    ·refine .inr ⟨h1,fun p hp=>?_⟩
     have hpe : ¬ (∃ x,(p.root,x) ∈ b6 t R):=by rw [hp];exact e
     exact ⟨r2 p hpe,fun hw=>⟨o2 _ _ hw (by rw [hp];exact ebc) hpe,rfl⟩⟩
 ·obtain ⟨q',e1⟩:=o3 _ q e
  exact hO.apart p q' e1
 ·by_cases e : ∃ x,(b,x) ∈ b6 t R
  ·obtain ⟨x,hx⟩:=e
   obtain ⟨j,h1,h2,h3,_⟩:=tA hok hx
   rw [h3,hL t j (by omega)] at hl;cases hl
  ·have hct : (b == t)=false:=by simp;omega
   by_cases ebc : b=c
   ·subst ebc
    rw [aN (d:=.any) (by simp [x0e,hct])] at hB;cases hB
   ·refine ⟨r2 _ e,?_⟩
    rcases bK (f:=f) (ks:=lg t R) (lkn b (by omega) ebc e) with h1 | h1
    ·rw [hB] at h1;cases h1
    ·rw [<- h1];exact hB
end
end Go.Gv

namespace Go.Gv
section
variable {P : Program} {F : Fid} {C : Nat -> List D -> D -> List D -> Prop} {nt : Nat} {S : Nat -> Prop} {L : Nat -> Option Loc} {w0 : World} {M0 : Mem} {f : Nat -> D} {M : Mem} {a : Act} {w : World} {o : Oper} {d : D} {Q : Exit -> Act -> World -> Prop} {ρ : Pa -> Loc} {ω : Nat -> Option Pa} {New : Nat -> Prop} {K : List (Nat × D) -> List (Nat × Bool) -> Prop}
theorem uD {es rs : List (List D)} {k : Nat} (h : k + rs.length <= es.length) : (gJ es k rs).length=es.length:=by
 simp only [gJ,x0I,x0O,List.length_drop];omega
theorem uC {es rs : List (List D)} {k i : Nat} (h : k + rs.length <= es.length) : (gJ es k rs)[i]? = if k <= i /\ i < k + rs.length then rs[i - k]? else es[i]?:=by
 unfold gJ
 have hl : (es.take k).length=k:=by simp;omega
 by_cases h1 : i < k
 ·rw [if_neg (by omega),x01,x0E (by omega),x0A h1]
 ·by_cases h2 : i < k + rs.length
  ·rw [if_pos (by omega),x01,x0z (by omega),hl,x0E (by omega)]
  ·rw [if_neg (by omega),x0z (by rw [x0I,hl];omega),x0I,hl,x0t]
   congr 1;omega
theorem uE {es rs : List (List D)} {k : Nat} {e : List D} (he : e ∈ gJ es k rs) : e ∈ rs \/ e ∈ es:=by
 unfold gJ at he
 rcases x0m.1 he with he | he
 ·rcases x0m.1 he with he | he
  ·exact .inr (x0J he)
  ·exact .inl he
 ·exact .inr (x1l he)
def nI (P : Program) (t sz : Nat) : Bool:=match P.underlying t with
 | some (.slice e)=>(match P.info? e with
  | some i=>i.size == sz
  | none=>false)
 | _=>false
theorem v8 {T T2 sz : Nat} {ty : TypeId} (hk : nI P T sz=true) {g o n m cap cap2 : Nat} {ad : Addr} {cur news : List Value} {T0 : TypeId} (hg : w.heap[g]? = some (.cells cur.toArray T0 (0,0))) (hl : o + min m n * sz <= cur.length)
  (hnl : news.length=m * sz) (hnews : ∀ j u,news[j]? = some u -> w.cell? (ad.add j)=some u) (hone : ∀ u ∈ news,u.oneCell'=true) :
  ∃ w',(Builtin.copy_ #[T,T2] ty #[.slice (some ⟨g,o,none⟩) n cap,.slice (some ad) m cap2]).run P w=.ok (.int .i64 (min m n : Nat)) w' /\ w'.heap[g]? = some (.cells (cur.take o++news.take (min m n * sz)++cur.drop (o + min m n * sz)).toArray T0 (0,0)) /\ Ch (fun k=>k=g) w w':=by
 unfold nI at hk
 split at hk
 ·rename_i e hu
  split at hk
  ·rename_i i hi
   have hsz : i.size=sz:=by simpa using hk
   have hle : min m n * sz <= m * sz:=x0n _ (Nat.min_le_left _ _)
   have hnl2 : (news.take (min m n * sz)).length=min m n * sz:=by rw [x0O];omega
   obtain ⟨w',e1,e2,e3,e4,e5,e6,e7,e8⟩:=dy (P:=P) g T0 o (news.take (min m n * sz)) 0 cur w hg (by rw [hnl2];omega) (fun v hv=>hone v (x0J hv))
   refine ⟨w',?_,by rw [e2];simp only [x1c,hnl2],⟨e5,e6,e7,by omega,fun k _ hk=>e3 k hk,by omega⟩⟩
   have hld:=run_loadCells_list (P:=P) w ad (news.take (min m n * sz)) (fun j v hj=>hnews j v (by rw [x0Q] at hj;split at hj;exact hj;cases hj))
   rw [hnl2] at hld
   have hmn : Nat.min m n=min m n:=rfl
   simp [Builtin.copy_,run_underlying hu,sizeOf,typeInfo,hi,Builtin.lenOf,Builtin.firstCells,hsz,hmn,hld,e1,goInt]
  ·cases hk
 ·cases hk
theorem tR {T T2 sz : Nat} {ty : TypeId} (hk : nI P T sz=true) (A : Option Addr) (cap : Nat) (ad : Addr) (m cap2 : Nat) : (Builtin.copy_ #[T,T2] ty #[.slice A 0 cap,.slice (some ad) m cap2]).run P w=.ok (.int .i64 0) w:=by
 unfold nI at hk
 split at hk
 ·rename_i e hu
  split at hk
  ·rename_i i hi
   have hmn : Nat.min m 0=0:=Nat.min_zero m
   cases A <;> simp [Builtin.copy_,run_underlying hu,sizeOf,typeInfo,hi,Builtin.lenOf,Builtin.firstCells,hmn,loadCells,loadCellsFrom,storeCells,goInt]
  ·cases hk
 ·cases hk
theorem yP (h : SR F nt S L w0 M0 f M a w) {t : Nat} (hd : o.dst=some t) (ht : t < nt) {sz : Nat} {x y : Opd} {x' y' : Operand} {T T2 : TypeId} (ho : o.op=.call { callee:=.builtin .copy,args:=#[x',y'],argTypes:=#[T,T2] }) (hx : ao F x x'=true) (hy : ao F y y'=true) (hk : nI P T sz=true)
  (hr : eH f false (vd f y) sz fun rows bs=>bs=[] /\ 0 < rows.length /\ match vd f x with
   | .ref (.r b) k n=>(n=0 -> K [(t,.int .i64 0)] []) /\ (0 < n -> match f b with
    | .blk sz' es=>sz'=sz /\ k + n <= es.length /\ (∀ e ∈ es,∀ c ∈ e,aK c=true) /\ (∀ e ∈ rows,∀ c ∈ e,aK c=true) /\ K [(t,.int .i64 (min rows.length n : Nat)),(b,.blk sz (gJ es k (rows.take n)))] []
    | _=>False)
   | _=>False) : o.wp P a w (PostX F nt S L w0 M0 f K) Q:=by
 obtain ⟨ρ,ω,hO⟩:=h.own
 obtain ⟨rows,bs,c2,⟨hbs0,hrl,hr⟩,hbs,_,huY,A2,m,cap2,news,ey,hm,hnl,hA2,hone,hY⟩:=mX h hO hy hr
 have hc2 : c2=none:=by
  rw [hbs0] at hbs
  cases c2 with
  | none=>rfl
  | some c=>simp at hbs
 subst hc2
 have hv:=hO.opd hx
 split at hr
 ·rename_i b k n hvx
  rw [hvx,ar rfl] at hv
  obtain ⟨ad0,hA0,_⟩:=hA2 (by omega)
  rcases x0P n with hn | hn
  ·have hK:=hr.1 hn
   subst hn
   have hv0 : ∃ A cap,a.eval x'=.slice A 0 cap:=by
    simp only [aC] at hv
    rcases hv with ⟨_,A,e⟩ | ⟨cap,e,_⟩
    ·exact ⟨A,0,e⟩
    ·exact ⟨_,cap,e⟩
   obtain ⟨A,cap,hv0⟩:=hv0
   refine postX_val hd (v:=.int .i64 0) (w':=w) ?_ hK (h.put ht (fun ρ ω _=>by rw [ar rfl];simp only [aC,ae]))
   subst hA0
   have e1:=tR (P:=P) (w:=w) (T2:=T2) (ty:=o.type) hk A cap ad0 m cap2
   simp only [execOp,ho,resolve,invoke,builtin,List.map_toArray,x0G,x0W,Sem.run_bind,Sem.run_pure,Result.andThen_ok,hv0,ey,e1]
  have hr:=hr.2 hn
  split at hr
  ·rename_i sz' es hf
   obtain ⟨rfl,hkn,hes1,hrow1,hK⟩:=hr
   have hb:=hO.big hf
   have hgp : bu f (.r b)=some (sz',es):=by simp [bu,hf]
   obtain ⟨ad,rfl,hnews⟩:=hA2 (by omega)
   rcases fQ hO hgp hkn hv (fun e he c hc=>cw (hes1 e (x1l (x0J he)) c hc)) with ⟨A,hv,hn0⟩ | ⟨cap,us,T0,hv,⟨hcap,hmc⟩,hcl,hω,g0,g1,g2,g4,g5⟩
   ·omega
   ·have hrows : eV w (ρ (.r b)) sz' es (fun i off d v=>b4 F M ω ρ w b i off d v):=by
     rcases hO.roots b sz' es hb hf with ⟨e0,_⟩ | ⟨_,hr⟩
     ·rw [e0] at hkn;simp at hkn;omega
     ·exact hr
    obtain ⟨q0,us0,T1,q1,q2,q3,q4,q5⟩:=id hrows
    rw [g1] at q1
    simp only [x0j,Obj.cells.injEq,and_true] at q1
    obtain ⟨q1,rfl⟩:=q1
    obtain rfl : us=us0:=by simpa using congrArg Array.toList q1
    have hle : k * sz' + n * sz' <= es.length * sz':=by rw [<- x0D];exact x0n _ hkn
    have hmn : min m n * sz' <= n * sz':=x0n _ (Nat.min_le_right _ _)
    obtain ⟨w',e1,e2,e3⟩:=v8 (P:=P) (w:=w) (T2:=T2) (ty:=o.type) hk (m:=m) (n:=n) (cap:=cap) (cap2:=cap2) (o:=(ρ (.r b)).base + k * sz') g1 (by rw [g2];omega) hnl hnews hone
    have hmin : (rows.take n).length=min m n:=by rw [x0O,hm,Nat.min_comm]
    have hfit : k + (rows.take n).length <= es.length:=by rw [hmin];omega
    have hml : min m n * sz' <= m * sz':=x0n _ (Nat.min_le_left _ _)
    have hN : (news.take (min m n * sz')).length=min m n * sz':=by rw [x0O];omega
    have hfill:=h.fill hO hf hω hrows (es':=gJ es k (rows.take n)) (us:=us.take ((ρ (.r b)).base + k * sz')++news.take (min m n * sz')++us.drop ((ρ (.r b)).base + k * sz' + min m n * sz')) (w':=w') (Nat.le_of_eq (uD hfit)) (fun e he=>by
     rcases uE he with he | he
     ·have he:=x0J he
      exact ⟨huY e he,hrow1 e he⟩
     ·exact ⟨g4 e he,hes1 e he⟩) e3 e2 (by simp only [x0I,x0O,List.length_drop] at hN ⊢;omega) (fun i r off d h1 h2=>by
     have hget:=fun x=>gn (vs:=us) (us:=news.take (min m n * sz')) (q:=(ρ (.r b)).base + k * sz') (n:=min m n * sz') (x:=x) hN (by omega)
     rw [uC hfit,hmin] at h1
     split at h1
     ·rename_i hi
      have hil : i - k < (rows.take n).length:=by rw [hmin];omega
      have hin : i - k < n:=by rw [hmin] at hil;omega
      rw [x0A hin] at h1
      obtain ⟨u,k1,k2⟩:=hY (i - k) r off d h1 h2
      have hof : off < sz':=by rw [<- huY r (x0b h1)];exact (x0c.1 h2).1
      have h3:=eD (sz:=sz') (show i - k < min m n by omega) hof
      have h4 : (i - k) * sz' + k * sz'=i * sz':=by rw [<- x0D];congr 1;omega
      refine ⟨u,?_,k2.2⟩
      rw [hget,if_pos (by omega),show (ρ (.r b)).base + i * sz' + off - ((ρ (.r b)).base + k * sz')=(i - k) * sz' + off by omega,x0A h3]
      exact k1
     ·rename_i hi
      obtain ⟨u,k1,k2⟩:=q5 i r off d h1 h2
      have hof : off < sz':=by rw [<- g4 r (x0b h1)];exact (x0c.1 h2).1
      rw [bf (cw (hes1 r (x0b h1) d (x0b h2)))] at k2
      refine ⟨u,?_,k2⟩
      have h5 : ¬ ((ρ (.r b)).base + k * sz' <= (ρ (.r b)).base + i * sz' + off /\ (ρ (.r b)).base + i * sz' + off < (ρ (.r b)).base + k * sz' + min m n * sz'):=by
       rintro ⟨h6,h7⟩
       rcases x1b i k with h8 | h8
       ·have:=eD (sz:=sz') h8 hof;omega
       ·have h9 : (k + min m n) * sz' <= i * sz':=x0n _ (by omega)
        rw [x0D] at h9;omega
      rw [hget,if_neg h5]
      exact k1)
    obtain ⟨_,_,_,_,hs⟩:=hfill
    have hs2:=hs.put (t:=t) (d:=.int .i64 (min rows.length n : Nat)) (v:=.int .i64 (min m n : Nat)) ht (fun _ _ _=>by rw [ar rfl,hm];simp only [aC,ae])
    refine fZ (v:=.int .i64 (min m n : Nat)) (w':=w') ?_ ?_
    ·simp only [execOp,ho,resolve,invoke,builtin,List.map_toArray,x0G,x0W,Sem.run_bind,Sem.run_pure,Result.andThen_ok,hv,ey,e1]
    ·rw [hd]
     refine ⟨_,_,M,hK,?_⟩
     have : eff [(t,D.int .i64 (min rows.length n : Nat)),(b,D.blk sz' (gJ es k (rows.take n)))] [] f=eff [(t,.int .i64 (min rows.length n : Nat))] [] (eff [(b,.blk sz' (gJ es k (rows.take n)))] [] f):=by
      funext s
      unfold eff
      by_cases h1 : s=t
      ·subst h1;simp
      ·have e1 : (s == t)=false:=by simpa using h1
       simp only [x0e,e1,x0B,aM,x1o,x0i,if_false]
     rw [this]
     exact hs2
  ·exact hr.elim
 ·exact hr.elim
end
end Go.Gv

namespace Go.Gv
section
variable {P : Program} {F : Fid} {C : Nat -> List D -> D -> List D -> Prop} {nt : Nat} {S : Nat -> Prop} {L : Nat -> Option Loc} {w0 : World} {M0 : Mem} {f : Nat -> D} {M : Mem} {a : Act} {w : World} {o : Oper} {d : D} {Q : Exit -> Act -> World -> Prop} {ρ : Pa -> Loc} {ω : Nat -> Option Pa} {New : Nat -> Prop} {K : List (Nat × D) -> List (Nat × Bool) -> Prop}
end
end Go.Gv

namespace Go.Gv
section
variable {P : Program} {F : Fid} {C : Nat -> List D -> D -> List D -> Prop} {nt : Nat} {S : Nat -> Prop} {L : Nat -> Option Loc} {w0 : World} {M0 : Mem} {f : Nat -> D} {M : Mem} {a : Act} {w : World} {o : Oper} {Q : Exit -> Act -> World -> Prop} {K : List (Nat × D) -> List (Nat × Bool) -> Prop}
end
end Go.Gv

namespace Go.Gv
open Go.RowKit
section
variable {P : Program} {F : Fid} {C : Nat -> List D -> D -> List D -> Prop} {nt : Nat} {S : Nat -> Prop} {L : Nat -> Option Loc} {w0 : World} {M0 : Mem} {f : Nat -> D} {M M' : Mem} {a : Act} {w w' : World} {o : Oper} {d : D} {Q : Exit -> Act -> World -> Prop} {ρ ρ' : Pa -> Loc} {ω ω' : Nat -> Option Pa} {New : Nat -> Prop} {K : List (Nat × D) -> List (Nat × Bool) -> Prop}
def kZ (P : Program) (T : Nat) : Bool:=match P.underlying T with
 | some (.interface _)=>false
 | some _=>true
 | none=>false
theorem yD {T : Nat} (hk : kZ P T=true) (v : Value) : (Instr.makeInterface T v).run P w=.ok (.iface T v) w:=by
 unfold kZ at hk
 split at hk
 ·cases hk
 ·rename_i u hu hn
  unfold Instr.makeInterface
  simp only [Sem.run_bind,run_underlying hn w,Result.andThen_ok]
  rfl
 ·cases hk
theorem yE {T xT : Nat} (hk : kZ P T=true) (v : Value) : (Instr.typeAssert (.iface T v) xT T false).run P w=.ok v w:=by
 unfold kZ at hk
 split at hk
 ·cases hk
 ·rename_i u hu hn
  unfold Instr.typeAssert
  simp only [Sem.run_bind,run_underlying hn w,Result.andThen_ok]
  cases u <;> first | (exact absurd hn (hu _)) | simp
 ·cases hk
theorem yU (h : SR F nt S L w0 M0 f M a w) (hp : bR nt f o.dst) {T : Nat} {x : Opd} {x' : Operand} {t : TypeId} (ho : o.op=.makeInterface t x') (hT : F.ty T=t) (hk : kZ P t=true) (hx : ao F x x'=true)
  (hr : res f (·=d) (.mkI T x)) : o.wp P a w (bX F nt S L w0 M0 f o.dst d) Q:=by
 subst hT
 simp only [res] at hr
 have run : (execOp a.eval o).run P w=.ok (.value (.iface (F.ty T) (a.eval x'))) w:=by
  simp only [execOp,ho,Sem.run_bind,yD hk,Result.andThen_ok,Sem.run_pure]
 split at hr
 ·rename_i p i off e
  subst hr
  refine bv h hp (fun ρ ω hO=>⟨_,?_,run⟩)
  have h1:=hO.opd hx
  rw [e,ar rfl] at h1
  rw [ar rfl]
  simp only [aC] at h1 ⊢
  rw [h1]
 ·rename_i k n e
  obtain ⟨rfl,rfl⟩:=hr
  have h1:=h.opd hx (by simp [e,isV])
  rw [e] at h1
  simp only [ae] at h1
  exact aU h hp (by simp only [ae];rw [h1]) run
 ·exact hr.elim
theorem y4 (h : SR F nt S L w0 M0 f M a w) (hp : bR nt f o.dst) {T : Nat} {x : Opd} {x' : Operand} {t xt : TypeId} (ho : o.op=.typeAssert x' xt t false) (hT : F.ty T=t) (hk : kZ P t=true) (hx : ao F x x'=true)
  (hr : res f (·=d) (.tya T x)) : o.wp P a w (bX F nt S L w0 M0 f o.dst d) Q:=by
 subst hT
 simp only [res] at hr
 split at hr
 ·rename_i T' n e
  obtain ⟨rfl,rfl⟩:=hr
  have h1:=h.opd hx (by simp [e,isV])
  rw [e] at h1
  simp only [ae] at h1
  refine aU h hp (v:=.int .i64 n) (by simp only [ae]) ?_
  simp only [execOp,ho,h1,Sem.run_bind,yE hk,Result.andThen_ok,Sem.run_pure]
 ·exact hr.elim
theorem kM (hC : bG P F C) (h : SR F nt S L w0 M0 f M a w) (hp : ∀ t,o.dst=some t -> t < nt) {g fi : Nat} (hg : F g=some fi) (hO : Own F L (fun k=>S k \/ w0.heap.size <= k) f M a w ρ ω) {b sz : Nat} {es es' : List (List D)} {W : List D} {vs : List Value}
  (hf : f b=.blk sz es) (hpos : 0 < es.length) (hc : C g (.blk sz es::W) d [.blk sz es',.nilp]) (hlen : vs.length=W.length)
  (hrep : ∀ ρ1 : Pa -> Loc,ρ1 (.r au)=ρ (.r b) -> ∀ (i : Nat) (d : D) (v : Value),W[i]? = some d -> vs[i]? = some v -> bi F M ρ1 d v)
  (hrun : (execOp a.eval o).run P w=(callFunc fi vs.toArray).run P w) (hK : K (b7 o.dst d++[(b,.blk sz es')]) [(b,false)]) : o.wp P a w (PostX F nt S L w0 M0 f K) Q:=by
 have hb:=hO.big hf
 have hroot:=hO.roots b sz es hb hf
 have hω : ω (ρ (.r b)).blk=some (.r b):=by
  rcases hroot with ⟨e0,_⟩ | ⟨hω,_⟩
  ·rw [e0] at hpos;simp at hpos
  ·exact hω
 obtain ⟨ρ1,hρ1⟩ : ∃ ρ1 : Pa -> Loc,ρ1=fun p=>ρ (p.to b):=⟨_,rfl⟩
 obtain ⟨ω1,hω1⟩ : ∃ ω1 : Nat -> Option Pa,ω1=fun k=>match ω k with
  | some p=>if p.root=b then some (p.to au) else none
  | none=>none:=⟨_,rfl⟩
 have w1 : ∀ k q,ω1 k=some q ↔ ∃ p : Pa,ω k=some p /\ p.root=b /\ q=p.to au:=fun k q=>by
  rw [hω1]
  simp only
  constructor
  ·intro e
   split at e
   ·rename_i p hp
    split at e
    ·cases e;exact ⟨p,hp,by assumption,rfl⟩
    ·cases e
   ·cases e
  ·rintro ⟨p,e1,e2,rfl⟩
   simp only [e1,if_pos e2]
 have p1 : ∀ p : Pa,p.root=b -> ρ1 (p.to au)=ρ p:=fun p hp=>by
  rw [hρ1]
  simp only
  rw [Pa.to_to b au p hp]
 have lent : nh F M w ρ1 ω1 au sz es:=by
  refine ⟨(w1 _ _).2 ⟨.r b,?_,rfl,rfl⟩,df.carry hroot (Mem.le_refl _) (fun p hp=>⟨p1 p hp,fun e=>⟨(w1 _ _).2 ⟨p,e,hp,rfl⟩,rfl⟩⟩),fun k p e=>?_,fun k p e=>?_,fun p q e=>?_⟩
  ·have:=p1 (.r b) rfl
   simp only [Pa.to] at this
   rw [this];exact hω
  ·obtain ⟨p',e1,_⟩:=(w1 _ _).1 e
   exact hO.lt _ _ e1
  ·obtain ⟨p',_,_,rfl⟩:=(w1 _ _).1 e
   exact Pa.to_root _ _
  ·obtain ⟨p',e1,_⟩:=(w1 _ _).1 e
   exact hO.apart p p' e1
 have e1 : ρ1 (.r au)=ρ (.r b):=p1 (.r b) rfl
 have hM:=hC.runsM g fi sz es _ d es' hg hc M w vs ρ1 ω1 h.holds hlen (hrep ρ1 e1) lent
 unfold Oper.wp
 rw [hrun,cC (hC.body g fi hg),Oper.upon_enter]
 refine hM.mono ?_
 rintro e0 w' ⟨v,M',ρ',ω',rfl,q1,q2,q3,q4,q5,q6,q7,q8⟩
 exact ⟨_,_,M',hK,h.lend hO hf hb hω p1 w1 q1 q2 q3 q4 (by rw [q6,e1]) q7 q8 hp q5⟩
def oG (P : Program) (T : Nat) (m : String) (fi : Nat) : Bool:=match P.info? T,P.underlying T with
 | some i,some (.pointer _)=>match i.methods.find? (·.name == m) with
  | some mm=>mm.path.isEmpty && (match mm.func with
   | some (f,true)=>f == fi
   | _=>false)
  | none=>false
 | _,_=>false
theorem wa {t : TypeId} {i : TypeInfo} (h : P.info? t=some i) : (typeInfo t).run P w=.ok i w:=by
 unfold typeInfo
 simp only [Sem.run_bind,run_program,Result.andThen_ok,h,Sem.run_pure]
theorem rI {T fi : Nat} {m : String} (hk : oG P T m fi=true) (a : Addr) (args : Array Value) : (callMethod (.iface T (.pointer (some a))) m args).run P w=(callFunc fi (#[.pointer (some a)]++args)).run P w:=by
 unfold oG at hk
 split at hk
 ·rename_i i el hi hu
  split at hk
  ·rename_i mm hm
   simp only [x0a] at hk
   obtain ⟨h1,h2⟩:=hk
   split at h2
   ·rename_i f hf
    obtain rfl : f=fi:=by simpa using h2
    have hmd : 0 < Made.depth:=by decide
    obtain ⟨n,hn⟩ : ∃ n,P.types.size + Made.depth=n + 1:=⟨P.types.size + Made.depth - 1,by omega⟩
    have hp : mm.path.toList=[]:=by
     have : mm.path=#[]:=by simpa using h1
     rw [this]
    unfold callMethod
    simp only [Sem.run_bind,run_program,Result.andThen_ok,hn]
    unfold method
    simp only [Sem.run_bind,wa hi,Result.andThen_ok,hm,hp,follow,Sem.run_pure,hf,h1,if_true,receiverAt,run_underlying hu w,Place.get]
   ·cases h2
  ·cases hk
 ·cases hk
theorem tW (hC : bG P F C) (h : SR F nt S L w0 M0 f M a w) (hp : ∀ t,o.dst=some t -> t < nt) {g fi T : Nat} {m : String} {x : Opd} {xs : List Opd} {y : Operand} {ys : Array Operand} {ts : Array TypeId} (ho : o.op=.call { callee:=.invoke y m,args:=ys,argTypes:=ts }) (hx0 : ao F x y=true) (hx : bI F xs ys.toList=true)
  (hg : F g=some fi) (hk : oG P (F.ty T) m fi=true) (hr : match vd f x with
  | .ifa T' (.r b) i off=>T'=T /\ i=0 /\ off=0 /\ match f b with
   | .blk sz es=>0 < es.length /\ (∀ x ∈ xs,isV (vd f x)=true) /\ ∃ d,∃ es' : List (List D),0 < es'.length /\ C g (.blk sz es::.adr (.r 10015) 0 0::xs.map (vd f)) d [.blk sz es',.nilp] /\ K (b7 o.dst d++[(b,.blk sz es')]) [(b,false)]
   | _=>False
  | _=>False) : o.wp P a w (PostX F nt S L w0 M0 f K) Q:=by
 split at hr
 ·rename_i T' b i off hvx
  obtain ⟨rfl,rfl,rfl,hr⟩:=hr
  split at hr
  ·rename_i sz es hf
   obtain ⟨hpos,hxs,d,es',hpos',hc,hK⟩:=hr
   obtain ⟨ρ,ω,hO⟩:=h.own
   have hv:=hO.opd hx0
   rw [hvx,ar rfl] at hv
   simp only [aC,x1t,x1c] at hv
   have hrep : aB F M (xs.map (vd f)) (ys.toList.map a.eval):=by
    have h1:=d4 h hx (by rw [x0f];exact hxs)
    rwa [x0o (g:=vd f) fun x hx'=>by unfold dpv;exact (jo (hxs x hx')).1] at h1
   refine kM hC h hp hg hO hf hpos hc (vs:=.pointer (some ⟨(ρ (.r b)).blk,(ρ (.r b)).base,none⟩)::ys.toList.map a.eval) (by simp [hrep.length]) (fun ρ1 e1 i d v k1 k2=>?_) ?_ hK
   ·cases i with
    | zero =>
     simp at k1 k2
     subst k1;subst k2
     rw [ar rfl]
     simp [aC,<- e1,au]
    | succ i =>
     simp only [x1j] at k1 k2
     obtain ⟨v',hv',rv⟩:=hrep.get k1
     rw [k2] at hv'
     cases hv'
     exact bi.of_pure rv
   ·simp only [execOp,ho,resolve,Sem.run_bind,Sem.run_pure,Result.andThen_ok,invoke,hv]
    have e0 : (#[Value.iface (F.ty T') (.pointer (some ⟨(ρ (.r b)).blk,(ρ (.r b)).base,none⟩))]++ys.map a.eval)[0]? = some (Value.iface (F.ty T') (.pointer (some ⟨(ρ (.r b)).blk,(ρ (.r b)).base,none⟩))):=by
     rw [Array.getElem?_append_left (by simp)];rfl
    simp only [e0,rI hk]
    congr 2
    apply Array.ext'
    simp
    exact x0q (by simp)
  ·exact hr.elim
 ·exact hr.elim
theorem tX (hC : bG P F C) (h : SR F nt S L w0 M0 f M a w) (hp : ∀ t,o.dst=some t -> t < nt) {g fi : Nat} {x : Opd} {xs : List Opd} {y : Operand} {ys : List Operand} {ts : Array TypeId} (ho : o.op=.call { callee:=.value (.func fi),args:=⟨y::ys⟩,argTypes:=ts }) (hx0 : ao F x y=true) (hx : bI F xs ys=true)
  (hg : F g=some fi) (hr : match vd f x with
  | .ifa T (.r b) i off=>i=0 /\ off=0 /\ match f b with
   | .blk sz es=>0 < es.length /\ (∀ x ∈ xs,isV (vd f x)=true) /\ ∃ d,∃ es' : List (List D),0 < es'.length /\ C g (.blk sz es::.ifa T (.r 10015) 0 0::xs.map (vd f)) d [.blk sz es',.nilp] /\ K (b7 o.dst d++[(b,.blk sz es')]) [(b,false)]
   | _=>False
  | _=>False) : o.wp P a w (PostX F nt S L w0 M0 f K) Q:=by
 split at hr
 ·rename_i T b i off hvx
  obtain ⟨rfl,rfl,hr⟩:=hr
  split at hr
  ·rename_i sz es hf
   obtain ⟨hpos,hxs,d,es',hpos',hc,hK⟩:=hr
   obtain ⟨ρ,ω,hO⟩:=h.own
   have hv:=hO.opd hx0
   rw [hvx,ar rfl] at hv
   simp only [aC,x1t,x1c] at hv
   have hrep : aB F M (xs.map (vd f)) (ys.map a.eval):=by
    have h1:=d4 h hx (by rw [x0f];exact hxs)
    rwa [x0o (g:=vd f) fun x hx'=>by unfold dpv;exact (jo (hxs x hx')).1] at h1
   refine kM hC h hp hg hO hf hpos hc (vs:=a.eval y::ys.map a.eval) (by simp [hrep.length]) (fun ρ1 e1 i d v k1 k2=>?_) ?_ hK
   ·cases i with
    | zero =>
     simp at k1 k2
     subst k1;subst k2
     rw [ar rfl,hv]
     simp [aC,<- e1,au]
    | succ i =>
     simp only [x1j] at k1 k2
     obtain ⟨v',hv',rv⟩:=hrep.get k1
     rw [k2] at hv'
     cases hv'
     exact bi.of_pure rv
   ·simp only [execOp,ho,resolve,Act.eval,Deferred.ofValue,Sem.run_bind,Sem.run_pure,Result.andThen_ok,invoke]
    congr 2
    rw [x1F,x1g]
    apply Array.ext'
    simp
    cases y <;> simp [Act.eval]
  ·exact hr.elim
 ·exact hr.elim
theorem tZ (hC : bG P F C) (h : SR F nt S L w0 M0 f M a w) (hp : ∀ t,o.dst=some t -> t < nt) {g fi : Nat} {x : Opd} {xs : List Opd} {y : Operand} {ys : List Operand} {ts : Array TypeId} (ho : o.op=.call { callee:=.value (.func fi),args:=⟨y::ys⟩,argTypes:=ts }) (hx0 : ao F x y=true) (hx : bI F xs ys=true)
  (hg : F g=some fi) (hr : match vd f x with
  | .ref (.r b) k n=>k=0 /\ match f b with
   | .blk sz es=>0 < es.length /\ es.length=n /\ (∀ x ∈ xs,isV (vd f x)=true) /\ ∃ d,∃ es' : List (List D),0 < es'.length /\ C g (.blk sz es::.ref (.r 10015) 0 n::xs.map (vd f)) d [.blk sz es',.nilp] /\ K (b7 o.dst d++[(b,.blk sz es')]) [(b,false)]
   | _=>False
  | _=>False) : o.wp P a w (PostX F nt S L w0 M0 f K) Q:=by
 split at hr
 ·rename_i b k n hvx
  obtain ⟨rfl,hr⟩:=hr
  split at hr
  ·rename_i sz es hf
   obtain ⟨hpos,hln,hxs,d,es',hpos',hc,hK⟩:=hr
   obtain ⟨ρ,ω,hO⟩:=h.own
   have hv:=hO.opd hx0
   rw [hvx,ar rfl] at hv
   have hrep : aB F M (xs.map (vd f)) (ys.map a.eval):=by
    have h1:=d4 h hx (by rw [x0f];exact hxs)
    rwa [x0o (g:=vd f) fun x hx'=>by unfold dpv;exact (jo (hxs x hx')).1] at h1
   refine kM hC h hp hg hO hf hpos hc (vs:=a.eval y::ys.map a.eval) (by simp [hrep.length]) (fun ρ1 e1 i d v k1 k2=>?_) ?_ hK
   ·cases i with
    | zero =>
     simp at k1 k2
     subst k1;subst k2
     rw [ar rfl]
     simp only [aC] at hv ⊢
     rw [show (10015 : Nat)=au from rfl,e1]
     exact hv
    | succ i =>
     simp only [x1j] at k1 k2
     obtain ⟨v',hv',rv⟩:=hrep.get k1
     rw [k2] at hv'
     cases hv'
     exact bi.of_pure rv
   ·simp only [execOp,ho,resolve,Act.eval,Deferred.ofValue,Sem.run_bind,Sem.run_pure,Result.andThen_ok,invoke]
    congr 2
    rw [x1F,x1g]
    apply Array.ext'
    simp
    cases y <;> simp [Act.eval]
  ·exact hr.elim
 ·exact hr.elim
theorem SR.cutN (h : SR F nt S L w0 M0 f M a w) (ho : Own F L (fun k=>S k \/ w0.heap.size <= k) f M a w ρ ω) {b sz0 i0 o0 sz n : Nat} {es0 es : List (List D)} {row0 : List D} (hf : f b=.blk sz0 es0) (hi0 : es0[i0]? = some row0) (ho0 : row0[o0]? = some (.own sz es)) (hn : n <= es.length)
  {v : Value} (hv : aC F M ρ (.ref (.n b i0 o0) 0 n) v) (hω : ω (ρ (.r b)).blk=some (.r b)) (hw : od w (ρ (.r b)).blk ((ρ (.r b)).base + i0 * sz0 + o0) 1 [v] w') :
  SR F nt S L w0 M0 (eff [(b,.blk sz0 (bJ es0 i0 o0 1 [.own sz (es.take n)]))] [] f) M a w':=by
 have hb:=ho.big hf
 have hlt : o0 < row0.length:=(x0c.1 ho0).1
 rcases ho.roots b sz0 es0 hb hf with ⟨e0,_⟩ | ⟨_,hrows⟩
 ·rw [e0] at hi0;simp at hi0
 obtain ⟨h0,vs,T,h1,h2,h3,h4,h5⟩:=id hrows
 have hnew:=ho.new _ _ hω
 have hMb : ∀ p : Addr,p.block=(ρ (.r b)).blk -> M p=none:=fun p hp=>ho.apart p (.r b) (by rw [hp];exact hω)
 have rest : ∀ (p : Pa),p ≠ .r b -> ω (ρ p).blk=some p -> w'.heap[(ρ p).blk]? = w.heap[(ρ p).blk]?:=fun p hp e=>hw.rest _ (by
  intro e2
  rw [e2,hω] at e
  cases e;exact hp rfl)
 have hfb : eff [(b,.blk sz0 (bJ es0 i0 o0 1 [.own sz (es.take n)]))] [] f b=.blk sz0 (bJ es0 i0 o0 1 [.own sz (es.take n)]):=aN (by simp)
 refine { hnt:=h.hnt,size:=h.size,defers:=h.defers,ch:=lY h.ch hnew hw.rest hw.size hw.os hw.tape hw.output (Nat.le_of_eq hw.drawn.symm),holds:=fun p v hp=>?_,ext:=h.ext,fresh:=h.fresh,own:=⟨ρ,ω,?_⟩ }
 ·have hne : p.block ≠ (ρ (.r b)).blk:=fun e=>by rw [hMb p e] at hp;cases hp
  rw [World.cell?_of_block (hw.rest _ hne)]
  exact h.holds p v hp
 ·refine ho.step (ks:=[]) (fun p hp=>absurd rfl hp) (Mem.le_refl _) (Nat.le_of_eq hw.size.symm) (fun t ht=>.inl ?_) (fun c hc=>?_) (fun k p e=>.inl ⟨p,e⟩) ho.apart (fun c l hc hl hB=>⟨rfl,?_⟩)
  ·rcases bA (f:=f) (ks:=[]) (cJ (d:=.blk sz0 (bJ es0 i0 o0 1 [.own sz (es.take n)])) (show t ≠ b by omega)) with h2 | h2
   ·exact .inl h2
   ·exact .inr ⟨h2.1,rfl,h2.2⟩
  ·by_cases e : c=b
   ·subst e
    right
    refine .inl ⟨sz0,_,hfb,.inr ⟨hω,?_⟩⟩
    refine hrows.set hi0 (show o0 + 1 <= row0.length by omega) rfl h1 rfl (hw.cells _ _ h1) (fun i' r' off' d v' k1 k2 k3 k4=>b4.frame k4 (Mem.le_refl _) ⟨rfl,fun e=>⟨e,rest _ (by simp) e⟩⟩) (fun j d u k1 k2=>?_)
    cases j with
    | succ j=>simp at k1
    | zero =>
     simp at k1 k2
     subst k1;subst k2
     obtain ⟨v',_,_,k4⟩:=h5 i0 row0 o0 _ hi0 ho0
     have hl : (es.take n).length=n:=by simp;omega
     refine ⟨by rw [hl];exact hv,?_⟩
     rcases k4 with ⟨rfl,k5⟩ | ⟨k5,k6⟩
     ·exact .inl ⟨by simp,k5⟩
     ·refine .inr ⟨k5,?_⟩
      obtain ⟨g0,us,T',g1,g2,g3,g4,g5⟩:=k6
      refine ⟨g0,us,T',(rest _ (by simp) k5).trans g1,g2,?_,fun e he=>g4 e (x0J he),fun i r off d hi hr=>?_⟩
      ·rw [hl]
       have : n * sz <= es.length * sz:=x0n _ hn
       show (ρ (.n c i0 o0)).base + n * sz <= (ρ (.n c i0 o0)).len
       omega
      ·have hin : i < n:=by have:=(x0c.1 hi).1;omega
       rw [x0A hin] at hi
       exact g5 i r off d hi hr
   ·left
    have hl:=cJ (s:=c) (b:=b) (d:=.blk sz0 (bJ es0 i0 o0 1 [.own sz (es.take n)])) e
    rcases bK (f:=f) (ks:=[]) hl with h1 | h1
    ·exact .inl h1
    ·exact .inr ⟨h1,fun p hp=>⟨rfl,fun e'=>⟨e',rest _ (by rintro rfl;exact e hp.symm) e'⟩⟩⟩
  ·by_cases e : c=b
   ·subst e;rw [hf];rfl
   ·rcases bK (f:=f) (ks:=[]) (cJ (s:=c) (b:=b) (d:=.blk sz0 (bJ es0 i0 o0 1 [.own sz (es.take n)])) e) with h1 | h1
    ·rw [hB] at h1;cases h1
    ·rw [<- h1];exact hB
theorem yZ (h : SR F nt S L w0 M0 f M a w) {x v : Opd} {x' v' : Operand} {t : TypeId} (ho : o.op=.store t x' v') (hx : ao F x x'=true) (hv : ao F v v'=true) (hk : iV P t 1=true)
  (hr : aL C f o.dst K (.stL x v)) : o.wp P a w (PostX F nt S L w0 M0 f K) Q:=by
 simp only [aL] at hr
 obtain ⟨hd,hr⟩:=hr
 obtain ⟨ρ,ω,hO⟩:=h.own
 split at hr
 ·rename_i b i off b' i' o' k n ex ev
  obtain ⟨rfl,rfl,rfl,rfl,hr⟩:=hr
  split at hr
  ·rename_i sz0 es0 hf
   obtain ⟨row0,hi0,sz,es,ho0,hn,hK⟩:=hr
   have hxv:=hO.opd hx
   have hvv:=hO.opd hv
   rw [ex,ar rfl] at hxv
   rw [ev,ar rfl] at hvv
   obtain ⟨vs,T,hω,h0,hl,g1,g2,g3,g4⟩:=hO.row (p:=.r b') (hO.big hf) (show bu f (.r b')=some (sz0,es0) by simp [bu,hf]) hi0
   have hlt : o' < row0.length:=(x0c.1 ho0).1
   have h1 : (a.eval v').cells=#[a.eval v'] /\ (a.eval v').oneCell'=true:=by
    simp only [aC] at hvv
    rcases hvv with ⟨_,A,e⟩ | ⟨cap,e,_⟩ <;> rw [e] <;> exact ⟨rfl,rfl⟩
   simp only [aC] at hxv
   rw [h0] at hxv
   obtain ⟨w',k1,k2,k3,k4,k5,k6,k7⟩:=il (P:=P) (off:=(ρ (.r b')).base + i' * sz0 + o') hk g1 (by rw [h1.1];rfl) (by omega) (v:=a.eval v') (fun u hu=>by rw [h1.1] at hu;simp at hu;subst hu;exact h1.2)
   rw [h1.1] at k2
   refine ng (w':=w') (by simp only [execOp,ho,hxv,Sem.run_bind,k1,Result.andThen_ok,Sem.run_pure]) ?_
   rw [hd]
   exact ⟨_,_,M,hK,by simpa [Act.put] using h.cutN hO hf hi0 ho0 hn hvv hω (kO g1 k2 k3 k4 k5 k6 k7)⟩
  ·exact hr.elim
 ·exact hr.elim
end
end Go.Gv

namespace Go.Gv
open Go.RowKit
section
variable {P : Program} {F : Fid} {C : Nat -> List D -> D -> List D -> Prop} {nt : Nat} {S : Nat -> Prop} {L : Nat -> Option Loc} {w0 : World} {M0 : Mem} {f : Nat -> D} {M M' : Mem} {a : Act} {w w' : World} {o : Oper} {d : D} {Q : Exit -> Act -> World -> Prop} {ρ ρ' : Pa -> Loc} {ω ω' : Nat -> Option Pa} {New : Nat -> Prop} {K : List (Nat × D) -> List (Nat × Bool) -> Prop}
theorem Own.know (h : Own F L New f M a w ρ ω) {s : Nat} (hs : s < 10000) {v : Value} (hv : a.tmps[s]? = some v) (r : bi F M ρ d v) (hB : isB d=false) : Own F L New (eff [(s,d)] [] f) M a w ρ ω:=by
 have key : ∀ t,t ≠ s -> eff [(s,d)] [] f t=f t:=fun t ht=>by
  have e1 : (t == s)=false:=by simpa using ht
  simp [eff,x0e,e1,aM]
 refine h.step (ks:=[]) (fun p hp=>absurd rfl hp) (Mem.le_refl _) (x0l _) (fun t ht=>?_) (fun c hc=>.inl (.inr ⟨key c (by omega),fun p _=>⟨rfl,fun e=>⟨e,rfl⟩⟩⟩)) (fun k p e=>.inl ⟨p,e⟩) h.apart (fun c l hc hl hB'=>⟨rfl,?_⟩)
 ·by_cases e : t=s
  ·subst e
   exact .inr (.inr ⟨v,hv,by rw [aN (d:=d) (by simp)];exact r⟩)
  ·exact .inl (.inr ⟨key t e,rfl,rfl⟩)
 ·rw [key c (by omega)] at hB';exact hB'
theorem SR.know (h : SR F nt S L w0 M0 f M a w) {s : Nat} (ho : Own F L (fun k=>S k \/ w0.heap.size <= k) (eff [(s,d)] [] f) M a w ρ ω) : SR F nt S L w0 M0 (eff [(s,d)] [] f) M a w :=
 ⟨h.hnt,h.size,h.defers,h.ch,h.holds,h.ext,h.fresh,ρ,ω,ho⟩
theorem SR.same {g : Nat -> D} (h : SR F nt S L w0 M0 f M a w) (e : g=f) : SR F nt S L w0 M0 g M a w:=by rw [e];exact h
theorem pt {p : Addr} : ∀ {vs us : List Value},bO M p vs -> bO M p us -> vs.length=us.length -> vs=us:=by
 intro vs us h1 h2 hl
 apply x1m hl
 intro i k1 k2
 have e1:=h1 i _ (x0d k1)
 have e2:=h2 i _ (x0d k2)
 rw [e1] at e2
 exact Option.some.inj e2
theorem wt (h : SR F nt S L w0 M0 f M a w) {t : Nat} (hd : o.dst=some t) (ht : t < nt) (hL : L (rt t 0)=none) {s : Nat} {x : Opd} {x' : Operand} {T : TypeId} (ho : o.op=.box T x') (hx : ao F x x'=true)
  (hr : aL C f (some t) K (.boxK s x)) : o.wp P a w (PostX F nt S L w0 M0 f K) Q:=by
 simp only [aL] at hr
 obtain ⟨hs,hst,hr⟩:=hr
 split at hr
 ·rename_i c k n ex
  obtain ⟨rfl,hcb,hr⟩:=hr
  split at hr
  ·rename_i sz es hf
   obtain ⟨hsz,hn,hc1,hr⟩:=hr
   split at hr
   ·rename_i ds hfs
    obtain ⟨hment,hK⟩:=hr
    obtain ⟨ρ,ω,hO⟩:=h.own
    have hc:=hO.big hf
    have hb:=rt_big t 0
    obtain ⟨us,hval,hus⟩ : ∃ us : List Value,a.eval x'=.agg us.toArray /\ cG F M ρ [.nils,.ref (.r c) 0 n] us:=by
     have:=hO.opd hx
     rw [ex] at this
     exact this
    obtain ⟨u0,u1,rfl⟩ : ∃ u0 u1,us=[u0,u1]:=by
     have:=hus.1
     match us,this with
     | [u0,u1],_=>exact ⟨u0,u1,rfl⟩
    have hu0 : u0=.slice none 0 0:=by
     have:=hus.2 0 _ _ rfl rfl
     simpa only [aC,ae] using this
    have hu1 : ∀ ρ ω,Own F L (fun k=>S k \/ w0.heap.size <= k) f M a w ρ ω -> aC F M ρ (.ref (.r c) 0 n) u1:=fun ρ ω hO=>by
     have:=hO.opd hx
     rw [ex] at this
     obtain ⟨us',e1,e2⟩:=this
     rw [hval] at e1
     have e3 : [u0,u1]=us':=by simpa using e1
     subst e3
     exact e2.2 1 _ _ rfl rfl
    obtain ⟨w1,hw1⟩ : ∃ w1,w1=w.alloc (.cells (a.eval x').cells.toList.toArray T):=⟨_,rfl⟩
    have hcells : (a.eval x').cells.toList=[u0,u1]:=by rw [hval];rfl
    have hrun : (execOp a.eval o).run P w=.ok (.value (.pointer (some ⟨w.heap.size,0,none⟩))) w1:=by
     rw [hw1]
     simp only [execOp,ho,Instr.box,Sem.run_bind,run_newVar,Result.andThen_ok,Sem.run_pure]
    by_cases hnz : n=0
    ·rw [if_pos hnz] at hK
     refine fZ hrun ?_
     rw [hd]
     refine ⟨_,_,M,hK,?_⟩
     refine h.make (es:=[[.own sz [],.any]]) (sz:=2) (bs:=[]) (src:=fun _ _=>none) (vs:=[u0,u1]) (T:=T) ht hb hL (by rw [hw1];exact alloc_below _ _) (by rw [hw1];simp) (by rw [hw1,hcells];exact heap_alloc_at _ _) (by simp) (by simp) (fun i r off c' hi hr'=>?_) (fun i off i' off' c' e1 e2=>by cases e1) (fun i off c' e=>by cases e) (fun ρ M e=>?_)
     ·cases i with
      | succ i=>simp at hi
      | zero =>
       simp at hi;subst hi
       match off,hr' with
       | 0,hr' =>
        simp at hr';subst hr'
        exact ⟨u0,rfl,.inr (.inl ⟨sz,rfl,hsz,rfl,none,hu0⟩)⟩
       | 1,hr' =>
        simp at hr';subst hr'
        exact ⟨u1,rfl,.inl ⟨rfl,by simp only [ae]⟩⟩
       | off + 2,hr'=>simp at hr'
     ·rw [ar rfl];simp [aC,e]
    rw [if_neg hnz] at hK
    have hn0 : 0 < n:=Nat.pos_of_ne_zero hnz
    have hslot : ∀ {f' : Nat -> D} {a' : Act} {w' : World} {ρ' : Pa -> Loc} {ω' : Nat -> Option Pa},Own F L (fun k=>S k \/ w0.heap.size <= k) f' M a' w' ρ' ω' -> f' s=.ptx ds -> ∃ (p : Addr) (vs : List Value),a'.tmps[s]? = some (.pointer (some p)) /\ cG F M ρ' ds vs /\ bO M p vs:=fun {f' a' w' ρ' ω'} hO' e=>by
     rcases hO'.slots s hs with h1 | ⟨v,h1,h2⟩
     ·rw [e] at h1;cases h1
     ·rw [e] at h2
      obtain ⟨p,vs,rfl,h3,h4⟩:=h2
      exact ⟨p,vs,h1,h3,h4⟩
    have hmake : SR F nt S L w0 M0 (eff ((t,.adr (.r (rt t 0)) 0 0)::(rt t 0,.blk 2 [[.own sz [],.own sz es]])::cg [c]) [(rt t 0,true)] f) M (a.put (some t) (.pointer (some ⟨w.heap.size,0,none⟩))) w1:=by
     refine h.make (es:=[[.own sz [],.own sz es]]) (sz:=2) (src:=fun i off=>if i=0 /\ off=1 then some c else none) (vs:=[u0,u1]) (T:=T) ht hb hL (by rw [hw1];exact alloc_below _ _) (by rw [hw1];simp) (by rw [hw1,hcells];exact heap_alloc_at _ _) (by simp) (by simp) (fun i r off c' hi hr'=>?_) (fun i off i' off' c' e1 e2=>?_) (fun i off c' e=>?_) (fun ρ M e=>?_)
     ·cases i with
      | succ i=>simp at hi
      | zero =>
       simp at hi;subst hi
       match off,hr' with
       | 0,hr' =>
        simp at hr';subst hr'
        exact ⟨u0,rfl,.inr (.inl ⟨sz,rfl,hsz,by simp,none,hu0⟩)⟩
       | 1,hr' =>
        simp at hr';subst hr'
        exact ⟨u1,rfl,.inr (.inr ⟨sz,es,c,by simp,rfl,hf,hc1,fun ρ ω hO=>by rw [hn];exact hu1 ρ ω hO⟩)⟩
       | off + 2,hr'=>simp at hr'
     ·split at e1
      ·split at e2
       ·rename_i k1 k2;exact ⟨by omega,by omega⟩
       ·cases e2
      ·cases e1
     ·split at e
      ·cases e;exact ⟨by simp,hcb⟩
      ·cases e
     ·rw [ar rfl];simp [aC,e]
    refine fZ hrun ?_
    rw [hd]
    refine ⟨_,_,M,hK,?_⟩
    obtain ⟨f1,hf1⟩ : ∃ f1,f1=eff ((t,.adr (.r (rt t 0)) 0 0)::(rt t 0,.blk 2 [[.own sz [],.own sz es]])::cg [c]) [(rt t 0,true)] f:=⟨_,rfl⟩
    rw [<- hf1] at hmake
    have htb : rt t 0 ≠ t:=by unfold rt;omega
    have hfin : eff [(t,.adr (.r (rt t 0)) 0 0),(rt t 0,.blk 2 [[.own sz [],.own sz es]]),(c,.any),(s,.ptx (ds.map (jL c (.n (rt t 0) 0 1))))] [(rt t 0,true)] f=eff [(s,.ptx (ds.map (jL c (.n (rt t 0) 0 1))))] [] f1:=by
     funext y
     by_cases e : y=s
     ·subst e
      have e1 : (y == t)=false:=by simpa using hst
      have e2 : (y == rt t 0)=false:=by simp;omega
      have e3 : (y == c)=false:=by simp;omega
      rw [aN (d:=.ptx (ds.map (jL c (.n (rt t 0) 0 1)))) (by simp only [x0e,e1,e2,e3,beq_self_eq_true]),aN (d:=.ptx (ds.map (jL c (.n (rt t 0) 0 1)))) (by simp)]
     ·have e1 : (y == s)=false:=by simpa using e
      have k1 : eff [(s,.ptx (ds.map (jL c (.n (rt t 0) 0 1))))] [] f1 y=f1 y:=by
       simp [eff,x0e,e1,aM]
      rw [k1,hf1]
      unfold eff
      simp only [cg,x0G,x0W,x0e,e1,x0B]
    rw [hfin]
    obtain ⟨ρ',ω',hO'⟩:=hmake.own
    have hfs1 : f1 s=.ptx ds:=by
     rw [hf1]
     have e1 : (s == t)=false:=by simpa using hst
     have e2 : (s == rt t 0)=false:=by simp;omega
     have e3 : (s == c)=false:=by simp;omega
     have e4 : (ds.any (aG (rt t 0) true))=false:=by
      simp only [x1I]
      intro y hy
      have:=x0f.1 hment y hy
      simpa using this
     have e5 : aM [(rt t 0,true)] (f s)=false:=by
      rw [hfs]
      simp only [aM,x1A,x1o,cK,e4,Bool.or_false]
     have e6 : ((t,D.adr (.r (rt t 0)) 0 0)::(rt t 0,D.blk 2 [[.own sz [],.own sz es]])::cg [c]).lookup s=none:=by
      simp only [cg,x0G,x0W,x0e,e1,e2,e3,x0B]
     unfold eff
     rw [e6]
     simp only [e5]
     exact hfs
    obtain ⟨p,vs,g1,g2,g3⟩:=hslot hO hfs
    obtain ⟨p',vs',g1',g2',g3'⟩:=hslot hO' hfs1
    have htm : (a.put (some t) (.pointer (some ⟨w.heap.size,0,none⟩))).tmps[s]? = a.tmps[s]?:=getElem?_put hst
    rw [htm,g1] at g1'
    cases g1'
    obtain rfl : vs=vs':=pt g3 g3' (by rw [<- g2.1,<- g2'.1])
    have hfb : f1 (rt t 0)=.blk 2 [[.own sz [],.own sz es]]:=by
     rw [hf1]
     refine aN ?_
     have e1 : (rt t 0 == t)=false:=by simpa using htb
     simp [x0e,e1]
    have hft : f1 t=.adr (.r (rt t 0)) 0 0:=by rw [hf1];exact aN (by simp)
    have hwh : w1.heap[w.heap.size]? = some (.cells [u0,u1].toArray T (0,0)):=by rw [hw1,hcells];exact heap_alloc_at _ _
    have hloc : ρ' (.n (rt t 0) 0 1)=ρ (.r c):=by
     have ha : (ρ' (.r (rt t 0))).blk=w.heap.size /\ (ρ' (.r (rt t 0))).base=0:=by
      rcases hO'.slots t (by have:=h.hnt;omega) with k1 | ⟨v,k1,k2⟩
      ·rw [hft] at k1;cases k1
      ·rw [getElem?_put_same (by rw [h.size];exact ht)] at k1
       cases k1
       rw [hft,ar rfl] at k2
       simp only [aC,Value.pointer.injEq,x0j,Addr.mk.injEq,and_true] at k2
       exact ⟨k2.1.symm,by omega⟩
     rcases hO'.roots (rt t 0) 2 _ hb hfb with ⟨e0,_⟩ | ⟨_,q0,us,T0,q1,q2,q3,q4,q5⟩
     ·cases e0
     ·rw [ha.1,hwh] at q1
      simp only [x0j,Obj.cells.injEq,and_true] at q1
      obtain rfl : [u0,u1]=us:=by simpa using congrArg Array.toList q1.1
      obtain ⟨v,k1,k2,k3⟩:=q5 0 _ 1 _ rfl rfl
      rw [ha.2] at k1
      simp at k1
      subst k1
      have r0:=hu1 ρ ω hO
      rw [hn] at k2
      simp only [aC] at k2 r0
      rcases r0 with ⟨z,_⟩ | ⟨cap,r1,r2,r3,_⟩
      ·omega
      rcases k2 with ⟨z,_⟩ | ⟨cap',r1',r2',r3',_⟩
      ·omega
      rw [r1] at r1'
      simp only [Value.slice.injEq,x0j,Addr.mk.injEq,x1t,x1c,and_true,true_and] at r1'
      obtain ⟨⟨l1,l2⟩,l3⟩:=r1'
      rcases hO.roots c sz es hc hf with ⟨z,_⟩ | ⟨m0,m1,us1,T1,m2,m3,m4,m5,m6⟩
      ·rw [z] at hn;simp at hn;omega
      rcases k3 with ⟨z,_⟩ | ⟨m0',m1',us1',T1',m2',m3',m4',m5',m6'⟩
      ·rw [z] at hn;simp at hn;omega
      have hlt:=hO.lt _ _ m0
      have hh : w1.heap[(ρ (.r c)).blk]? = w.heap[(ρ (.r c)).blk]?:=by
       rw [hw1];exact (alloc_below w _).block _ hlt
      rw [<- l1,hh,m2] at m2'
      simp only [x0j,Obj.cells.injEq,and_true] at m2'
      obtain rfl : us1=us1':=by simpa using congrArg Array.toList m2'.1
      have k4 : ∀ x y : Loc,x.blk=y.blk -> x.base=y.base -> x.sz=y.sz -> x.len=y.len -> x=y:=by
       intro x y;cases x;cases y;simp;omega
      exact k4 _ _ l1.symm l2.symm (by rw [m1',m1]) (by rw [<- m3',<- m3])
    refine hmake.know (hO'.know hs (v:=.pointer (some p)) (by rw [htm];exact g1) ⟨p,vs,rfl,⟨by simp [g2.1],fun i d v e1 e2=>?_⟩,g3⟩ rfl)
    rw [x0y,x0h] at e1
    obtain ⟨d0,e1,rfl⟩:=e1
    have r:=g2.2 i d0 v e1 e2
    have r':=g2'.2 i d0 v e1 e2
    unfold jL
    split
    ·split
     ·rename_i c' k m e
      subst e
      simp only [aC] at r ⊢
      rw [hloc]
      exact r
     ·exact r'
    ·exact r'
   ·exact hr.elim
  ·exact hr.elim
 ·exact hr.elim
end
end Go.Gv

namespace Go.Gv
open Go.RowKit
section
variable {P : Program} {F : Fid} {C : Nat -> List D -> D -> List D -> Prop} {nt : Nat} {S : Nat -> Prop} {L : Nat -> Option Loc} {w0 : World} {M0 : Mem} {f : Nat -> D} {M M' : Mem} {a : Act} {w w' : World} {o : Oper} {d : D} {Q : Exit -> Act -> World -> Prop} {ρ ρ' : Pa -> Loc} {ω ω' : Nat -> Option Pa} {New : Nat -> Prop} {K : List (Nat × D) -> List (Nat × Bool) -> Prop}
theorem An {x y : Nat -> Value} {v : Value} (h1 : a6 d=true) (h2 : ae { F with vals:=x } M d v) : ae { F with vals:=y } M' d v:=by
 cases d <;> first | (simp [a6] at h1;done) | (simp only [ae] at h2 ⊢;exact h2) | (simp only [ae])
theorem Id {y : Nat -> Value} {v : Value} (h1 : a6 d=true) (h2 : ae F M d v) : ae { F with vals:=y } M' d v:=An (x:=F.vals) h1 h2
theorem Ie {y : Nat -> Value} {v : Value} (h1 : a6 d=true) (h2 : ae { F with vals:=y } M d v) : ae F M' d v:=An (y:=F.vals) h1 h2
def yG (ω : Nat -> Option Pa) (b : Nat) : Nat -> Option Pa:=fun k=>match ω k with
 | some p=>if p=.n b 0 1 then some p else none
 | none=>none
theorem m9 {b k : Nat} {p : Pa} : yG ω b k=some p ↔ ω k=some (.n b 0 1) /\ p=.n b 0 1:=by
 unfold yG
 split
 ·rename_i q hq
  split
  ·rename_i e;subst e;simp [hq];exact eq_comm
  ·rename_i e
   constructor
   ·intro h;cases h
   ·rintro ⟨h,rfl⟩;rw [hq] at h;cases h;exact absurd rfl e
 ·rename_i hq
  simp [hq]
theorem tY (hC : bG P F C) (h : SR F nt S L w0 M0 f M a w) (hp : ∀ t,o.dst=some t -> t < nt) {g fi s : Nat} {x : Opd} {xs : List Opd} {y : Operand} {ys : List Operand} {ts : Array TypeId} (ho : o.op=.call { callee:=.value (.func fi),args:=⟨y::ys⟩,argTypes:=ts }) (hx0 : ao F x y=true) (hx : bI F xs ys=true)
  (hg : F g=some fi) (hr : aL C f o.dst K (.callQ g s x xs)) : o.wp P a w (PostX F nt S L w0 M0 f K) Q:=by
 simp only [aL] at hr
 split at hr
 ·rename_i T b i off hvx
  obtain ⟨rfl,rfl,hs,hst,hxs,hr⟩:=hr
  split at hr
  ·rename_i sz sz1 fs sz2 sp hf
   split at hr
   ·rename_i ds hfs
    obtain ⟨hkeep,hfl1,hfl2,d,fs',hd1,hfl3,hc,hK⟩:=hr
    obtain ⟨ρ,ω,hO⟩:=h.own
    have hb:=hO.big hf
    have hv:=hO.opd hx0
    rw [hvx,ar rfl] at hv
    simp only [aC,x1t,x1c] at hv
    obtain ⟨hω,q0,us0,T0,q1,q2,q3,q4,q5⟩ : ω (ρ (.r b)).blk=some (.r b) /\ eV w (ρ (.r b)) sz [[.own sz1 fs,.own sz2 sp]] (fun i off d v=>b4 F M ω ρ w b i off d v):=by
     rcases hO.roots b sz _ hb hf with ⟨e0,_⟩ | hh
     ·cases e0
     ·exact hh
    obtain ⟨v0,k0,c0⟩:=q5 0 _ 0 _ rfl rfl
    obtain ⟨v1,k1,c1⟩:=q5 0 _ 1 _ rfl rfl
    obtain ⟨c01,c02⟩:=c0
    obtain ⟨c11,c12⟩:=c1
    obtain ⟨M1,hM1⟩ : ∃ M1,M1=b5 (yG ω b) M w:=⟨_,rfl⟩
    have hMle : M.le M1:=by
     intro p v hp
     rw [hM1]
     unfold b5
     split
     ·rename_i q hq
      obtain ⟨e1,e2⟩:=m9.1 hq
      rw [hO.apart p _ e1] at hp;cases hp
     ·exact hp
    have hMh : ∀ p v,M1 p=some v -> w.cell? p=some v:=by rw [hM1];exact ct h.holds
    obtain ⟨F1,hF1⟩ : ∃ F1 : Fid,F1={ F with vals:=fun _=>v1 }:=⟨_,rfl⟩
    have up : ∀ {d : D} {v : Value} {M2 : Mem},a6 d=true -> ae F M d v -> ae F1 M2 d v:=fun h1 h2=>by rw [hF1];exact Id h1 h2
    have dn : ∀ {d : D} {v : Value} {M2 : Mem},a6 d=true -> ae F1 M2 d v -> ae F M d v:=fun h1 h2=>by rw [hF1] at h2;exact Ie h1 h2
    have hslv : ae F1 M1 (.slv 0 sp) v1:=by
     have h1 : bY (yG ω b) ρ w (.n b 0 1) sz2 sp (fun _ _ d v=>ae F M d v):=by
      rcases c12 with e | ⟨e1,e2⟩
      ·exact .inl e
      ·exact .inr ⟨m9.2 ⟨e1,rfl⟩,e2⟩
     have h2:=kK (F:=F1) (M:=M) h1 (fun d=>d) (fun i r off d v hi hr hc=>up (hfl2 r (x0b hi) d (x0b hr)) hc) (k:=0) (n:=sp.length) (by omega) (by
      simpa only [aC] using c11)
     rw [<- hM1] at h2
     simp only [List.drop_zero,List.take_length,List.map_id'] at h2
     simp only [ae] at h2 ⊢
     refine ⟨by rw [hF1],?_⟩
     simpa using h2
    obtain ⟨ρ1,hρ1⟩ : ∃ ρ1 : Pa -> Loc,ρ1=fun p=>ρ (p.to b):=⟨_,rfl⟩
    obtain ⟨ω1,hω1⟩ : ∃ ω1 : Nat -> Option Pa,ω1=fun k=>match ω k with
     | some p=>if p.root=b then some (p.to au) else none
     | none=>none:=⟨_,rfl⟩
    obtain ⟨ω3,hω3⟩ : ∃ ω3 : Nat -> Option Pa,ω3=fun k=>match ω k with
     | some p=>if p.root=b /\ p ≠ .n b 0 1 then some (p.to au) else none
     | none=>none:=⟨_,rfl⟩
    have w1 : ∀ k q,ω1 k=some q ↔ ∃ p : Pa,ω k=some p /\ p.root=b /\ q=p.to au:=fun k q=>by
     rw [hω1]
     simp only
     constructor
     ·intro e
      split at e
      ·rename_i p hp
       split at e
       ·cases e;exact ⟨p,hp,by assumption,rfl⟩
       ·cases e
      ·cases e
     ·rintro ⟨p,e1,e2,rfl⟩
      simp only [e1,if_pos e2]
    have w3 : ∀ k q,ω3 k=some q ↔ ∃ p : Pa,ω k=some p /\ p.root=b /\ p ≠ .n b 0 1 /\ q=p.to au:=fun k q=>by
     rw [hω3]
     simp only
     constructor
     ·intro e
      split at e
      ·rename_i p hp
       split at e
       ·rename_i e2;cases e;exact ⟨p,hp,e2.1,e2.2,rfl⟩
       ·cases e
      ·cases e
     ·rintro ⟨p,e1,e2,e3,rfl⟩
      simp only [e1,if_pos (And.intro e2 e3)]
    have p1 : ∀ p : Pa,p.root=b -> ρ1 (p.to au)=ρ p:=fun p hp=>by
     rw [hρ1]
     simp only
     rw [Pa.to_to b au p hp]
    have pr : ρ1 (.r au)=ρ (.r b):=p1 (.r b) rfl
    have pn : ∀ i o,ρ1 (.n au i o)=ρ (.n b i o):=fun i o=>p1 (.n b i o) rfl
    have lent : nh F1 M1 w ρ1 ω3 au sz [[.own sz1 fs,.slv 0 sp]]:=by
     refine ⟨(w3 _ _).2 ⟨.r b,by rw [pr];exact hω,rfl,by simp,rfl⟩,.inr ⟨(w3 _ _).2 ⟨.r b,by rw [pr];exact hω,rfl,by simp,rfl⟩,?_⟩,fun k p e=>?_,fun k p e=>?_,fun p q e=>?_⟩
     ·rw [pr]
      refine ⟨q0,us0,T0,q1,q2,q3,fun e he=>?_,fun i r off d hi hr=>?_⟩
      ·have:=q4 _ (x07.2 rfl)
       rw [x07.1 he,<- this];rfl
      ·cases i with
       | succ i=>simp at hi
       | zero =>
        simp at hi;subst hi
        match off,hr with
        | 0,hr =>
         simp at hr;subst hr
         refine ⟨v0,k0,?_,?_⟩
         ·simp only [aC] at c01 ⊢
          rw [pn];exact c01
         ·unfold bY at c02 ⊢
          rw [pn]
          rcases c02 with e | ⟨e1,g0,us,T2,g1,g2,g3,g4,g5⟩
          ·exact .inl e
          ·refine .inr ⟨(w3 _ _).2 ⟨.n b 0 0,e1,rfl,by simp,rfl⟩,g0,us,T2,g1,g2,g3,g4,fun i r off d hi hr=>?_⟩
           obtain ⟨u,m1,m2⟩:=g5 i r off d hi hr
           exact ⟨u,m1,up (hfl1 r (x0b hi) d (x0b hr)) m2⟩
        | 1,hr =>
         simp at hr;subst hr
         exact ⟨v1,k1,hslv⟩
        | off + 2,hr=>simp at hr
     ·obtain ⟨p',e1,_⟩:=(w3 _ _).1 e
      exact hO.lt _ _ e1
     ·obtain ⟨p',_,_,_,rfl⟩:=(w3 _ _).1 e
      exact Pa.to_root _ _
     ·obtain ⟨p',e1,_,e3,_⟩:=(w3 _ _).1 e
      rw [hM1]
      unfold b5
      split
      ·rename_i q' hq
       obtain ⟨e4,_⟩:=m9.1 hq
       rw [e1] at e4;cases e4;exact absurd rfl e3
      ·exact hO.apart p p' e1
    have hrep : aB F M (xs.map (vd f)) (ys.map a.eval):=by
     have hxV : ∀ x ∈ xs,isV (vd f x)=true:=fun x hx=>by
      have:=hxs x hx
      cases hq : vd f x <;> first | rfl | (rw [hq] at this;simp [a6] at this)
     have h1:=d4 h hx (by rw [x0f];exact hxV)
     rwa [x0o (g:=vd f) fun x hx'=>by unfold dpv;exact (jo (hxV x hx')).1] at h1
    have hQ:=hC.runsQ g fi sz _ _ d _ hg hc (fun _=>v1)
    rw [<- hF1] at hQ
    have hrun : (execOp a.eval o).run P w=(callFunc fi (a.eval y::ys.map a.eval).toArray).run P w:=by
     simp only [execOp,ho,resolve,Act.eval,Deferred.ofValue,Sem.run_bind,Sem.run_pure,Result.andThen_ok,invoke]
     congr 2
     rw [x1F,x1g]
     apply Array.ext'
     simp
     cases y <;> simp [Act.eval]
    have hM:=hQ M1 w (a.eval y::ys.map a.eval) ρ1 ω3 hMh (by simp [hrep.length]) (fun i d v k1 k2=>by
     cases i with
     | zero =>
      simp at k1 k2
      subst k1;subst k2
      rw [ar rfl,hv]
      rw [show (10015 : Nat)=au from rfl]
      simp only [aC,pr,hF1,x1t,x1c]
     | succ i =>
      simp only [x1j] at k1 k2
      obtain ⟨v',hv',rv⟩:=hrep.get k1
      rw [k2] at hv'
      cases hv'
      rw [x0y,x0h] at k1
      obtain ⟨x1,e1,rfl⟩:=k1
      exact bi.of_pure (up (hxs x1 (x0b e1)) rv)) lent
    unfold Oper.wp
    rw [hrun,cC (hC.body g fi hg),Oper.upon_enter]
    refine hM.mono ?_
    rintro e0 w' ⟨v,M',ρ',ω',rfl,r1,r2,r3,r4,r5,r6,r7,r8⟩
    have hout : ∀ k,k < w.heap.size -> (∀ p : Pa,ω k=some p -> p.root=b -> p=.n b 0 1) -> w'.heap[k]? = w.heap[k]?:=fun k hk hq=>r1.block k hk (fun ⟨q,e⟩=>by
     obtain ⟨p,e1,e2,e3,_⟩:=(w3 _ _).1 e
     exact e3 (hq p e1 e2))
    have hnotin : ∀ k,ω k=some (.n b 0 1) -> ω' k=none:=fun k e=>by
     cases e1 : ω' k with
     | none=>rfl
     | some q =>
      rcases r8 k q e1 with ⟨q',e2⟩ | e2
      ·obtain ⟨p',e3,_,e4,_⟩:=(w3 _ _).1 e2
       rw [e] at e3;cases e3;exact absurd rfl e4
      ·have:=hO.lt _ _ e;omega
    obtain ⟨ρ2,hρ2⟩ : ∃ ρ2 : Pa -> Loc,ρ2=fun p=>if p=.n au 0 1 then ρ (.n b 0 1) else ρ' p:=⟨_,rfl⟩
    obtain ⟨ω2,hω2⟩ : ∃ ω2 : Nat -> Option Pa,ω2=fun k=>if ω k=some (.n b 0 1) then some (.n au 0 1) else ω' k:=⟨_,rfl⟩
    have a1 : ρ2 (.n au 0 1)=ρ (.n b 0 1):=by rw [hρ2];simp
    have a2 : ∀ p,p ≠ .n au 0 1 -> ρ2 p=ρ' p:=fun p hp=>by rw [hρ2];simp only [if_neg hp]
    have b1 : ∀ k,ω k=some (.n b 0 1) -> ω2 k=some (.n au 0 1):=fun k e=>by rw [hω2];simp only [if_pos e]
    have b2 : ∀ k q,ω' k=some q -> ω2 k=some q:=fun k q e=>by
     rw [hω2]
     simp only
     rw [if_neg (fun e1=>by rw [hnotin k e1] at e;cases e)]
     exact e
    have b3 : ∀ k q,ω2 k=some q -> (ω k=some (.n b 0 1) /\ q=.n au 0 1) \/ ω' k=some q:=fun k q e=>by
     rw [hω2] at e
     simp only at e
     split at e
     ·cases e;exact .inl ⟨by assumption,rfl⟩
     ·exact .inr e
    have hlent2 : nh F M w' ρ2 ω2 au sz [[.own sz1 fs',.own sz2 sp]]:=by
     have hown:=r7.own
     refine ⟨by rw [a2 _ (by simp)];exact b2 _ _ hown,?_,fun k p e=>?_,fun k p e=>?_,fun p q e=>?_⟩
     ·rcases r7.rows with ⟨e0,_⟩ | ⟨_,m0,us,T2,m1,m2,m3,m4,m5⟩
      ·cases e0
      ·unfold df bY
       rw [a2 (.r au) (by simp)]
       refine .inr ⟨b2 _ _ hown,m0,us,T2,m1,m2,m3,fun e he=>?_,fun i r off d hi hr=>?_⟩
       ·have:=m4 _ (x07.2 rfl)
        rw [x07.1 he,<- this];rfl
       ·cases i with
        | succ i=>simp at hi
        | zero =>
         simp at hi;subst hi
         match off,hr with
         | 0,hr =>
          simp at hr;subst hr
          obtain ⟨u,n1,n2,n3⟩:=m5 0 _ 0 _ rfl rfl
          refine ⟨u,n1,?_,?_⟩
          ·simp only [aC] at n2 ⊢
           rw [a2 _ (by simp)];exact n2
          ·unfold bY at n3 ⊢
           rw [a2 _ (by simp)]
           rcases n3 with e | ⟨e1,g0,us3,T3,g1,g2,g3,g4,g5⟩
           ·exact .inl e
           ·refine .inr ⟨b2 _ _ e1,g0,us3,T3,g1,g2,g3,g4,fun i r off d hi hr=>?_⟩
            obtain ⟨u,l1,l2⟩:=g5 i r off d hi hr
            exact ⟨u,l1,dn (hfl3 r (x0b hi) d (x0b hr)) l2⟩
         | 1,hr =>
          simp at hr;subst hr
          obtain ⟨u,n1,n2⟩:=m5 0 _ 1 _ rfl rfl
          have hu : u=v1:=by
           have h2 : ae F1 M' (.slv 0 sp) u:=n2
           simp only [ae] at h2
           rw [h2.1,hF1]
          subst hu
          refine ⟨u,n1,?_,?_⟩
          ·simp only [aC] at c11 ⊢
           rw [a1];exact c11
          ·unfold bY at c12 ⊢
           rw [a1]
           rcases c12 with e | ⟨e1,g0,us3,T3,g1,g2,g3,g4,g5⟩
           ·exact .inl e
           ·exact .inr ⟨b1 _ e1,g0,us3,T3,(hout _ (hO.lt _ _ e1) (fun p e2 _=>by rw [e1] at e2;cases e2;rfl)).trans g1,g2,g3,g4,g5⟩
         | off + 2,hr=>simp at hr
     ·rcases b3 k p e with ⟨e1,_⟩ | e1
      ·exact x1f (hO.lt _ _ e1) r1.size
      ·exact r7.lt _ _ e1
     ·rcases b3 k p e with ⟨_,rfl⟩ | e1
      ·rfl
      ·exact r7.root _ _ e1
     ·rcases b3 _ q e with ⟨e1,_⟩ | e1
      ·exact hO.apart p _ e1
      ·have:=r7.apart p q e1
       cases e2 : M p with
       | none=>rfl
       | some u=>rw [r2 p u (hMle p u e2)] at this;cases this
    have hdv : ae F M d v:=by
     rcases hd1 with h1 | rfl
     ·exact dn h1 r5
     ·simp only [ae] at r5 ⊢
      obtain ⟨us,e1,e2⟩:=r5
      refine ⟨us,e1,?_⟩
      simpa only [aB] using e2
    have hch1 : Ch (fun k=>∃ p,ω1 k=some p) w w':=⟨r1.os,r1.tape,r1.output,r1.size,fun k hk hn=>r1.block k hk (fun ⟨q,e⟩=>hn (by
     obtain ⟨p,e1,e2,e3,e4⟩:=(w3 _ _).1 e
     exact ⟨_,(w1 _ _).2 ⟨p,e1,e2,rfl⟩⟩)),r1.drawn⟩
    have hhold : ∀ p v,M p=some v -> w'.cell? p=some v:=fun p v e=>r4 p v (r2 p v (hMle p v e))
    obtain ⟨ρ4,ω4,x1,x2,x3,x4⟩:=h.lendX (M':=M) hO hf hb hω p1 w1 hch1 (Mem.le_refl _) (fun p e e'=>absurd e e') hhold (by rw [a2 _ (by simp),r6]) hlent2 (fun k p e=>by
     rcases b3 k p e with ⟨e1,_⟩ | e1
     ·exact .inl ⟨_,(w1 _ _).2 ⟨_,e1,rfl,rfl⟩⟩
     ·rcases r8 k p e1 with ⟨q,e2⟩ | e2
      ·obtain ⟨p',e3,e4,_⟩:=(w3 _ _).1 e2
       exact .inl ⟨_,(w1 _ _).2 ⟨p',e3,e4,rfl⟩⟩
      ·exact .inr e2) hp hdv
    refine ⟨_,_,M,hK,?_⟩
    obtain ⟨f1,hf1⟩ : ∃ f1,f1=eff (b7 o.dst d++[(b,.blk sz [[.own sz1 fs',.own sz2 sp]])]) [(b,false)] f:=⟨_,rfl⟩
    rw [<- hf1] at x3 x4
    have hlk : ∀ y,y ≠ s -> (b7 o.dst d++[(b,D.blk sz [[.own sz1 fs',.own sz2 sp]]),(s,.ptx ds)]).lookup y=(b7 o.dst d++[(b,D.blk sz [[.own sz1 fs',.own sz2 sp]])]).lookup y:=fun y hy=>by
     have e1 : (y == s)=false:=by simpa using hy
     cases o.dst with
     | none=>simp only [b7,x1d,x0e,e1,x0B]
     | some t=>simp only [b7,x08,x1d,x0e,e1,x0B]
    have hfin : eff (b7 o.dst d++[(b,.blk sz [[.own sz1 fs',.own sz2 sp]]),(s,.ptx ds)]) [(b,false)] f=eff [(s,.ptx ds)] [] f1:=by
     funext y
     by_cases e : y=s
     ·subst e
      rw [aN (d:=.ptx ds) (by
       have e2 : (y == b)=false:=by simp;omega
       cases hdst : o.dst with
       | none=>simp only [b7,x1d,x0e,e2,beq_self_eq_true]
       | some t =>
        have e1 : (y == t)=false:=by
         simp
         rintro rfl
         exact hst hdst
        simp only [b7,x08,x1d,x0e,e1,e2,beq_self_eq_true]),aN (d:=.ptx ds) (by simp)]
     ·have e1 : (y == s)=false:=by simpa using e
      have k1 : eff [(s,D.ptx ds)] [] f1 y=f1 y:=by
       simp [eff,x0e,e1,aM]
      rw [k1,hf1]
      unfold eff
      rw [hlk y e]
    rw [hfin]
    rcases hO.slots s hs with z1 | ⟨vS,z1,z2⟩
    ·rw [hfs] at z1;cases z1
    ·rw [hfs] at z2
     obtain ⟨pS,vs,rfl,z3,z4⟩:=z2
     have htm : (a.put o.dst v).tmps[s]? = a.tmps[s]?:=by
      cases hdst : o.dst with
      | none=>rfl
      | some t=>exact getElem?_put (fun e=>hst (by rw [hdst,e]))
     have hsame : ∀ p : Pa,bm b false p=false \/ p=.n b 0 1 -> ρ4 p=ρ p:=fun p hp=>by
      by_cases e : p.root=b
      ·rw [x1 p e]
       cases p with
       | r c =>
        simp only [Pa.root] at e
        subst e
        show ρ2 (.r au)=_
        rw [a2 _ (by simp),r6,pr]
       | n c i o =>
        simp only [Pa.root] at e
        subst e
        rcases hp with hp | hp
        ·simp [bm] at hp
        ·cases hp
         exact a1
      ·exact x2 p e
     refine x4.know (x3.know hs (v:=.pointer (some pS)) (by rw [htm];exact z1) ⟨pS,vs,rfl,⟨z3.1,fun i d0 v0 e1 e2=>?_⟩,z4⟩ rfl)
     have r:=z3.2 i d0 v0 e1 e2
     have hk:=x0f.1 hkeep d0 (x0b e1)
     cases d0
     case ref p k n =>
      have : ρ4 p=ρ p:=by
       cases p with
       | r c=>exact hsame _ (.inl (by simp [bm]))
       | n c i o =>
        simp only [gY,x05,x0a,bne_iff_ne,x0k] at hk
        by_cases e : c=b
        ·subst e
         rcases hk with hk | ⟨rfl,rfl⟩
         ·exact absurd rfl hk
         ·exact hsame _ (.inr rfl)
        ·exact hsame _ (.inl (by simp [bm,e]))
      simp only [aC] at r ⊢
      rw [this];exact r
     case adr p k n =>
      have : ρ4 p=ρ p:=hsame _ (.inl (by simpa [gY,aG] using hk))
      simp only [aC] at r ⊢
      rw [this];exact r
     case ifa T' p k n =>
      have : ρ4 p=ρ p:=hsame _ (.inl (by simpa [gY,aG] using hk))
      simp only [aC] at r ⊢
      rw [this];exact r
     case mrf c =>
      have : ρ4 (.r c)=ρ (.r c):=hsame _ (.inl (by simp [bm]))
      simp only [aC] at r ⊢
      rw [this];exact r
     all_goals exact r
   ·exact hr.elim
  ·exact hr.elim
 ·exact hr.elim
end
end Go.Gv

namespace Go.Gv
open Go.RowKit
abbrev Env:=List (Nat × D)
def ac : Env -> Nat -> D
 | [],_=>.any
 | (s,d)::r,t=>if s=t then d else ac r t
def dO (ks : List (Nat × Bool)) (e : Env) : Env:=if ks=[] then e else e.map fun p=>(p.1,if aM ks p.2 then .any else p.2)
theorem vp (ws : List (Nat × D)) (e : Env) (t : Nat) : ac (ws++e) t=match ws.lookup t with
  | some d=>d
  | none=>ac e t:=by
 induction ws with
 | nil=>rfl
 | cons p ws ih =>
  obtain ⟨s,d⟩:=p
  simp only [x08,ac,x0e]
  by_cases h : s=t
  ·subst h;simp
  ·have h1 : (t == s)=false:=by simp;exact fun e=>h e.symm
   rw [if_neg h,h1]
   exact ih
theorem tD (ks : List (Nat × Bool)) : ∀ (e : Env) (t : Nat),ac (dO ks e) t=if aM ks (ac e t) then .any else ac e t:=by
 intro e t
 unfold dO
 by_cases hk : ks=[]
 ·subst hk;simp [kz]
 ·rw [if_neg hk]
  induction e with
  | nil =>
   show D.any=if aM ks D.any=true then D.any else D.any
   by_cases hm : aM ks D.any=true
   ·rw [if_pos hm]
   ·rw [if_neg hm]
  | cons p e ih =>
   obtain ⟨s,d⟩:=p
   by_cases h : s=t
   ·simp [ac,h]
   ·have h1 : ac ((s,d)::e) t=ac e t:=by simp [ac,h]
    rw [h1,<- ih]
    simp [ac,h]
theorem hD (ws : List (Nat × D)) (ks : List (Nat × Bool)) (e : Env) : ac (ws++dO ks e)=eff ws ks (ac e):=by
 funext t
 rw [vp]
 unfold eff
 cases List.lookup t ws with
 | some d=>rfl
 | none=>exact tD ks e t
def iX (e : Env) (dst : Option Nat) (K : Env -> Prop) : Prop :=
 match dst with
 | none=>K e
 | some t=>K ((t,.tup [])::e)
def qu (C : Nat -> List D -> D -> List D -> Prop) (dst : Option Nat) (K : Env -> Prop) (e : Env) (op : NOp) : Prop:=aL C (ac e) dst (fun ws ks=>K (ws++dO ks e)) op
def jg (C : Nat -> List D -> D -> List D -> Prop) (K : Env -> Prop) : List aA -> Env -> Prop
 | [],e=>K e
 | o::os,e=>match o.guard with
  | none=>qu C o.dst (jg C K os) e o.op
  | some (s,want)=>match ac e s with
   | .bool b=>(b=want -> qu C o.dst (jg C K os) ((s,.bool want)::e) o.op) /\ (b=!want -> iX ((s,.bool !want)::e) o.dst (jg C K os))
   | .tup []=>iX e o.dst (jg C K os)
   | _=>False
section
variable {P : Program} {F : Fid} {C : Nat -> List D -> D -> List D -> Prop} {nt : Nat} {S : Nat -> Prop} {L : Nat -> Option Loc} {w0 : World} {M0 : Mem} {f : Nat -> D} {M : Mem} {a : Act} {w : World} {o : Oper} {d : D} {Q : Exit -> Act -> World -> Prop} {ρ : Pa -> Loc} {ω : Nat -> Option Pa} {New : Nat -> Prop} {K : List (Nat × D) -> List (Nat × Bool) -> Prop}
def nW (P : Program) (F : Fid) : NOp -> Op -> Bool
 | .asg x,.move y=>ao F x y
 | .asg x,.assign y=>ao F x y
 | .ldQ _ x,.load t x'=>tyS P t 1 false && ao F x x'
 | .appQ _ sz by_ x y,.call { callee:=.builtin .append,args:=⟨[x',y']⟩,argTypes:=⟨[t,t']⟩ }=>t == t' && rX P t sz by_ && ao F x x' && ao F y y'
 | .cpy sz x y,.call { callee:=.builtin .copy,args:=⟨[x',y']⟩,argTypes:=⟨[t,_]⟩ }=>nI P t sz && ao F x x' && ao F y y'
 | .stL x y,.store t x' y'=>iV P t 1 && ao F x x' && ao F y y'
 | .mkI T x,.makeInterface t x'=>F.ty T == t && kZ P t && ao F x x'
 | .tya T x,.typeAssert x' _ t false=>F.ty T == t && kZ P t && ao F x x'
 | .callI g m T x xs,.call { callee:=.invoke y m',args:=ys,argTypes:=_ }=>m == m' && (match F g with
  | some fi=>oG P (F.ty T) m fi
  | none=>false) && ao F x y && bI F xs ys.toList
 | .callM g x xs,.call { callee:=.value (.func fi),args:=⟨y::ys⟩,argTypes:=_ }=>F g == some fi && ao F x y && bI F xs ys
 | .callR g x xs,.call { callee:=.value (.func fi),args:=⟨y::ys⟩,argTypes:=_ }=>F g == some fi && ao F x y && bI F xs ys
 | .callQ g _ x xs,.call { callee:=.value (.func fi),args:=⟨y::ys⟩,argTypes:=_ }=>F g == some fi && ao F x y && bI F xs ys
 | .boxK _ x,.box _ x'=>ao F x x'
 | .slM len sz x,.slice t x' none none none=>(fD P t len sz && decide (len <= 16777216)) && ao F x x'
 | .nilo _,.move y=>ao F (.c .nils) y
 | .nilo _,.assign y=>ao F (.c .nils) y
 | .box _ x,.box _ x'=>ao F x x'
 | .alc zs,.alloc t=>zeroOk P t zs
 | .bls sz len zs _ ps,.buildSlice t len' ps'=>len == len' && blsOk P F t sz len zs ps ps'.toList
 | .mks sz by_ zs n c,.makeSlice t n' c'=>mksOk P t sz by_ zs && ao F n n' && ao F c c'
 | .call g xs _,.call { callee:=.value (.func fi),args:=ys,argTypes:=_ }=>F g == some fi && bI F xs ys.toList
 | .callF g xs,.call { callee:=.value (.func fi),args:=ys,argTypes:=_ }=>F g == some fi && bI F xs ys.toList
 | .callS g x xs,.call { callee:=.value (.func fi),args:=⟨y::ys⟩,argTypes:=_ }=>F g == some fi && ao F x y && bI F xs ys
 | .callE g x xs,.call { callee:=.value (.func fi),args:=⟨y::ys⟩,argTypes:=_ }=>F g == some fi && ao F x y && bI F xs ys
 | .callv x xs,.call { callee:=.value x',args:=ys,argTypes:=_ }=>ao F x x' && bI F xs ys.toList
 | .st n _ x v,.store t x' v'=>iV P t n && ao F x x' && ao F v v'
 | .app sz by_ _ x y,.call { callee:=.builtin .append,args:=⟨[x',y']⟩,argTypes:=⟨[t,t']⟩ }=>t == t' && rX P t sz by_ && ao F x x' && ao F y y'
 | .mkm _ _,.makeMap _ none=>true
 | .mpu sh kt et z m x v,.mapUpdate t m' x' v'=>mapOk F t kt et sh z && ao F m m' && ao F x x' && ao F v v'
 | .dead,_=>true
 | p,q=>pZ P F p q
theorem f7 {t : Option Nat} (hK : dX t K d) : ∀ a' w',bX F nt S L w0 M0 f t d a' w' -> PostX F nt S L w0 M0 f K a' w':=by
 rintro a' w' ⟨M',h⟩
 cases t with
 | none=>exact ⟨[],[],M',hK,by rw [lG];exact h⟩
 | some t=>exact ⟨_,_,M',hK,h⟩
theorem vD (hl : laidOutB F.P=true) (hP : P=F.P) (h : SR F nt S L w0 M0 f M a w) {n : NOp} {q : Op} (hp : bR nt f o.dst) (ho : o.op=q) (hk : pZ P F n q=true) (hr : res f (·=d) n) : o.wp P a w (bX F nt S L w0 M0 f o.dst d) Q:=by
 unfold pZ at hk
 split at hk <;> (try simp only [x0a,x0k] at hk)
 ·exact sL h hp (.inl ho) hk hr
 ·exact sL h hp (.inr ho) hk hr
 ·exact yV h hp ho hk hr
 ·exact wB h hp ho hk.1.1 hk.1.2 hk.2 hr
 ·obtain ⟨⟨rfl,h1⟩,h2⟩:=hk;exact yN h hp ho h1 h2 hr
 ·obtain ⟨rfl,h1⟩:=hk;exact Db h hp ho h1 hr
 ·exact wv h hp ho hk.2 hk.1 hr
 ·exact wz h hp ho hk.1.2 hk.2 hk.1.1 hr
 ·obtain ⟨rfl,h1⟩:=hk;exact yR h hp ho h1 hr
 ·exact yS h hp ho hk.2 hk.1 hr
 ·exact wy h hp ho hk.1.2 hk.2 hk.1.1 hr
 ·exact wx h hp ho hk.1.2 hk.2 hk.1.1 hr
 ·exact C6 h hp ho hk.2 hk.1 hr
 ·exact snd_boxF h hp ho hk hr
 ·obtain ⟨rfl,h1⟩:=hk;exact wr h hp ho h1 hr
 ·exact yO h hp ho hk hr
 ·exact yT h hp ho hk.2 hk.1 hr
 ·exact wA h hp ho hk.2 hk.1 hr
 ·exact C7 h hp ho hk.1.2 hk.2 hk.1.1 hr
 ·exact yY h hp ho hk.1.1.2 hk.1.2 hk.2 hk.1.1.1 hr
 ·exact yW h hp ho hk.2 hk.1 hr
 ·exact yQ h hp ho hk.2 hk.1 hr
 ·exact C8 h hp ho hk.1 hk.2 hr
 ·exact C9 h hp ho hk.1 hk.2 hr
 ·obtain ⟨⟨⟨rfl,h1⟩,h2⟩,h3⟩:=hk;exact yM h hp ho h2 h3 h1 hr
 ·obtain ⟨⟨⟨rfl,h1⟩,h2⟩,h3⟩:=hk;exact snd_mpl hl h hp ho h2 h3 h1 hP hr
 ·cases hk
theorem ur {t q sz by_ : Nat} {x y : Opd} (h : aL C f (some t) K (.appQ q sz by_ x y)) : aL C f (some t) K (.app sz by_ false x y):=by
 simp only [aL] at h ⊢
 split at h
 ·rename_i c i o' k n ex
  obtain ⟨rfl,h⟩:=h
  obtain ⟨rows,bs,⟨h1,h2,h⟩,hg⟩:=dE h
  refine hg _ ?_
  subst h1
  simp only [ex]
  split at h
  ·rename_i sz0 es0 hf
   obtain ⟨row0,h3,es,h4,h5,h6,h7⟩:=h
   refine ⟨rfl,h2,rfl,?_⟩
   first | (rw [hf]) | skip
   exact ⟨row0,h3,es,h4,h5,h6,h7⟩
  ·exact h.elim
 ·exact h.elim
theorem B8 {dst : Option Nat} {q : Nat} {x : Opd} (h : aL C f dst K (.ldQ q x)) : aL C f dst K (.ld 1 false x):=by
 simp only [aL,res] at h ⊢
 split at h
 ·rename_i c i off ex
  obtain ⟨rfl,h⟩:=h
  split at h
  ·rename_i sz es hf
   obtain ⟨r,h1,d,h2,h3⟩:=h
   have hl:=(x0c.1 h2).1
   have gp : bu f (.r c)=some (sz,es):=by simp only [bu,hf]
   simp only [ex,gp]
   refine ⟨r,h1,by omega,?_⟩
   have : (r.drop off).headD .any=d:=by
    rw [List.headD_eq_head?_getD,List.head?_drop,h2];rfl
   rw [this]
   exact h3
  ·exact h.elim
 ·exact h.elim
def NoL (L : Nat -> Option Loc) : Prop:=∀ t i,i < 15 -> L (rt t i)=none
theorem CN (hC : bG P F C) (hL : NoL L) (h : SR F nt S L w0 M0 f M a w) {n : NOp} {q : Op} (hd : ∀ t,o.dst=some t -> t < nt) (ho : o.op=q) (hk : nW P F n q=true) (hr : aL C f o.dst K n) : o.wp P a w (PostX F nt S L w0 M0 f K) Q:=by
 have hp : bR nt f o.dst:=by
  unfold bR
  split
  ·trivial
  ·rename_i t e;exact hd t e
 unfold nW at hk
 have dst : ∀ {n : NOp},aL C f none K n -> (∀ x,n ≠ .asg x) -> (∀ x,n ≠ .nilo x) -> True:=fun _ _ _=>trivial
 split at hk <;> (try simp only [x0a,x0k] at hk)
 ·cases hdst : o.dst with
  | none=>rw [hdst] at hr;exact hr.elim
  | some t=>rw [hdst] at hr;exact sK h hdst (hd t hdst) (hL t 0 (by decide)) (.inl ho) hk hr
 ·cases hdst : o.dst with
  | none=>rw [hdst] at hr;exact hr.elim
  | some t=>rw [hdst] at hr;exact sK h hdst (hd t hdst) (hL t 0 (by decide)) (.inr ho) hk hr
 ·have hr' : res f (dX o.dst K) (.ld 1 false _):=B8 hr
  obtain ⟨d,h1,h2⟩:=jM hr'
  exact Oper.wp_mono (f7 h1) (vD (n:=.ld 1 false _) hC.laid hC.prog h hp ho (by simp only [pZ,x0a];exact hk) (h2 _ rfl))
 ·obtain ⟨⟨⟨rfl,h1⟩,h2⟩,h3⟩:=hk
  cases hdst : o.dst with
  | none=>rw [hdst] at hr;exact hr.elim
  | some t=>rw [hdst] at hr;exact sJ h hdst (hd t hdst) (hL t 0 (by decide)) ho rfl h2 h3 h1 (ur hr)
 ·simp only [aL] at hr
  cases hdst : o.dst with
  | none=>rw [hdst] at hr;exact hr.elim
  | some t=>rw [hdst] at hr;exact yP h hdst (hd t hdst) ho hk.1.2 hk.2 hk.1.1 hr
 ·exact yZ h ho hk.1.2 hk.2 hk.1.1 hr
 ·have hr' : res f (dX o.dst K) (.mkI _ _):=hr
  obtain ⟨d,h1,h2⟩:=jM hr'
  exact Oper.wp_mono (f7 h1) (yU h hp ho hk.1.1 hk.1.2 hk.2 (h2 _ rfl))
 ·have hr' : res f (dX o.dst K) (.tya _ _):=hr
  obtain ⟨d,h1,h2⟩:=jM hr'
  exact Oper.wp_mono (f7 h1) (y4 h hp ho hk.1.1 hk.1.2 hk.2 (h2 _ rfl))
 ·obtain ⟨⟨⟨rfl,h1⟩,h2⟩,h3⟩:=hk
  split at h1
  ·rename_i fi hg
   simp only [aL] at hr
   exact tW hC h hd ho h2 h3 hg h1 hr
  ·cases h1
 ·simp only [aL] at hr
  exact tX hC h hd ho hk.1.2 hk.2 hk.1.1 hr
 ·simp only [aL] at hr
  exact tZ hC h hd ho hk.1.2 hk.2 hk.1.1 hr
 ·exact tY hC h hd ho hk.1.2 hk.2 hk.1.1 hr
 ·cases hdst : o.dst with
  | none=>rw [hdst] at hr;exact hr.elim
  | some t=>rw [hdst] at hr;exact wt h hdst (hd t hdst) (hL t 0 (by decide)) ho hk hr
 ·cases hdst : o.dst with
  | none=>rw [hdst] at hr;exact hr.elim
  | some t=>rw [hdst] at hr;exact yX h hdst (hd t hdst) (hL t 0 (by decide)) ho hk.2 hk.1.1 (of_decide_eq_true hk.1.2) hr
 ·cases hdst : o.dst with
  | none=>rw [hdst] at hr;exact hr.elim
  | some t=>rw [hdst] at hr;exact qo h hdst (hd t hdst) (hL t 0 (by decide)) (.inl ho) hk hr
 ·cases hdst : o.dst with
  | none=>rw [hdst] at hr;exact hr.elim
  | some t=>rw [hdst] at hr;exact qo h hdst (hd t hdst) (hL t 0 (by decide)) (.inr ho) hk hr
 ·cases hdst : o.dst with
  | none=>rw [hdst] at hr;exact hr.elim
  | some t=>rw [hdst] at hr;exact snd_box h hdst (hd t hdst) (hL t 0 (by decide)) ho hk hr
 ·cases hdst : o.dst with
  | none=>rw [hdst] at hr;exact hr.elim
  | some t=>rw [hdst] at hr;exact snd_alc h hdst (hd t hdst) (hL t 0 (by decide)) ho hk hr
 ·obtain ⟨rfl,hk⟩:=hk
  cases hdst : o.dst with
  | none=>rw [hdst] at hr;exact hr.elim
  | some t=>rw [hdst] at hr;exact snd_bls h hdst (hd t hdst) (hL t 0 (by decide)) ho hk hr
 ·cases hdst : o.dst with
  | none=>rw [hdst] at hr;exact hr.elim
  | some t=>rw [hdst] at hr;exact snd_mks h hdst (hd t hdst) (hL t 0 (by decide)) ho hk.1.2 hk.2 hk.1.1 hr
 ·exact wu hC h hp ho hk.2 hk.1 hr
 ·simp only [aL] at hr
  cases hdst : o.dst with
  | none=>rw [hdst] at hr;exact hr.2.elim
  | some t=>rw [hdst] at hr;exact tV hC h hdst (hd t hdst) (hL t 0 (by decide)) ho hk.2 hk.1 hr
 ·simp only [aL] at hr
  exact t6 hC h (fun t=>hL t 0 (by decide)) hd ho hk.1.2 hk.2 hk.1.1 hr
 ·simp only [aL] at hr
  cases hdst : o.dst with
  | none=>rw [hdst] at hr;exact hr.elim
  | some t=>rw [hdst] at hr;exact tU hC h hdst (hd t hdst) (hL t 0 (by decide)) ho hk.1.2 hk.2 hk.1.1 hr
 ·exact t7 hC h hp ho hk.1 hk.2 hr
 ·have hdst : o.dst=none:=hr.1
  exact Da h hdst ho hk.1.2 hk.2 hk.1.1 (by rw [hdst] at hr;exact hr)
 ·obtain ⟨⟨⟨rfl,h1⟩,h2⟩,h3⟩:=hk
  cases hdst : o.dst with
  | none=>rw [hdst] at hr;exact hr.elim
  | some t=>rw [hdst] at hr;exact sJ h hdst (hd t hdst) (hL t 0 (by decide)) ho rfl h2 h3 h1 hr
 ·cases hdst : o.dst with
  | none=>rw [hdst] at hr;exact hr.elim
  | some t=>rw [hdst] at hr;exact snd_mkm h hdst (hd t hdst) (hL t 0 (by decide)) ho hr
 ·have hdst : o.dst=none:=hr.1
  exact snd_mpu hC.laid h hdst ho hk.1.1.2 hk.1.2 hk.2 hk.1.1.1 hC.prog (by rw [hdst] at hr;exact hr)
 ·exact hr.elim
 ·have hr' : res f (dX o.dst K) n:=by
   clear dst
   cases n <;> first | exact hr | (simp [pZ] at hk)
  obtain ⟨d,h1,h2⟩:=jM hr'
  exact Oper.wp_mono (f7 h1) (vD hC.laid hC.prog h hp ho hk (h2 _ rfl))
def Ah (nt : Nat) : Option Nat -> Bool
 | none=>true
 | some t=>decide (t < nt)
def oz (ops : Array Oper) : Option (Nat × Bool) -> Option (Nat × Bool) -> Bool
 | none,none=>true
 | some (j,b),some (s,b')=>b == b' && decide (s < 10000) && (match ops[j]? with
  | some o=>o.dst == some s
  | none=>false)
 | _,_=>false
def nU (P : Program) (F : Fid) (nt : Nat) (ops : Array Oper) (n : aA) (o : Oper) : Bool :=
 n.dst == o.dst && Ah nt n.dst && oz ops o.guard n.guard && nW P F n.op o.op
theorem rT {ops : Array Oper} {tmps : Array Value} {j s : Nat} {b : Bool} {o : Oper} (h1 : ops[j]? = some o) (h2 : o.dst=some s) (h3 : tmps[s]? = some (.bool b)) : yielded ops tmps j=some b:=by
 simp [yielded,h1,h2,h3]
theorem qw {ops : Array Oper} {tmps : Array Value} {j s : Nat} {o : Oper} (h1 : ops[j]? = some o) (h2 : o.dst=some s) {vs : Array Value} (h3 : tmps[s]? = some (.tuple vs)) : yielded ops tmps j=none:=by
 simp [yielded,h1,h2,h3]
def Skp (want : Bool) (d : D) : Prop:=d=.bool (!want) \/ d=.tup []
theorem wJ {ops : Array Oper} {n : aA} {o : Oper} (h : oz ops o.guard n.guard=true) {f : Nat -> D} {M : Mem} {a : Act} {w : World} (hs : SR F nt S L w0 M0 f M a w) :
  (n.guard=none -> Region.wanted o (yielded ops a.tmps)=true) /\
  (∀ s want b,n.guard=some (s,want) -> f s=.bool b -> Region.wanted o (yielded ops a.tmps)=(b == want)) /\
  (∀ s want,n.guard=some (s,want) -> f s=.tup [] -> Region.wanted o (yielded ops a.tmps)=false):=by
 unfold oz at h
 split at h
 ·rename_i e1 e2
  exact ⟨fun _=>by simp [Region.wanted,e1],fun s want b e3=>(by rw [e2] at e3;cases e3),fun s want e3=>(by rw [e2] at e3;cases e3)⟩
 ·rename_i j b s b' e1 e2
  simp only [x0a,x0k,x0g] at h
  obtain ⟨⟨rfl,hs10⟩,h⟩:=h
  split at h
  ·rename_i o' ho'
   simp only [x0k] at h
   obtain ⟨ρ,ω,hO⟩:=hs.own
   refine ⟨fun e3=>(by rw [e2] at e3;cases e3),fun s1 want b1 e3 e4=>?_,fun s1 want e3 e4=>?_⟩
   ·rw [e2] at e3
    cases e3
    rcases hO.slots s hs10 with h5 | ⟨v,h5,h6⟩
    ·rw [e4] at h5;cases h5
    ·rw [e4] at h6
     simp only [bi,aC,ae] at h6
     subst h6
     simp [Region.wanted,e1,rT ho' h h5]
   ·rw [e2] at e3
    cases e3
    rcases hO.slots s hs10 with h5 | ⟨v,h5,h6⟩
    ·rw [e4] at h5;cases h5
    ·rw [e4] at h6
     simp only [bi,aC,ae] at h6
     obtain ⟨vs,rfl,_⟩:=h6
     simp [Region.wanted,e1,qw ho' h h5]
  ·cases h
 ·cases h
theorem pp {e : Env} {s : Nat} {b : Bool} (h : ac e s=.bool b) : ac ((s,.bool b)::e)=ac e:=by
 funext t
 simp only [ac]
 by_cases ht : s=t
 ·subst ht;rw [if_pos rfl,h]
 ·rw [if_neg ht]
def gC (C : Nat -> List D -> D -> List D -> Prop) (n : aA) (f : Nat -> D) (x : Option (List (Nat × D) × List (Nat × Bool))) : Prop :=
 match x with
 | some (ws,ks)=>(∀ s b,n.guard=some (s,b) -> f s=.bool b) /\ aL C f n.dst (fun ws' ks'=>ws'=ws /\ ks'=ks) n.op
 | none=>∃ s b,n.guard=some (s,b) /\ Skp b (f s)
def nj (n : aA) : Option (List (Nat × D) × List (Nat × Bool)) -> (Nat -> D) -> (Nat -> D)
 | some (ws,ks)=>eff ws ks
 | none=>match n.dst with
  | some t=>eff [(t,.tup [])] []
  | none=>fun f=>f
theorem AZ (hC : bG P F C) (hL : NoL L) {ops : Array Oper} {n : aA} (hk : nU P F nt ops n o=true) (h : SR F nt S L w0 M0 f M a w) {x : Option (List (Nat × D) × List (Nat × Bool))} (hr : gC C n f x) {R : Act -> World -> Prop}
  (hR : ∀ M' a' w',SR F nt S L w0 M0 (nj n x f) M' a' w' -> R a' w') :
  if Region.wanted o (yielded ops a.tmps) then o.wp P a w R Q \/ (o.asks P a w /\ LetsOut Q) else R (a.put o.dst undef) w:=by
 unfold nU at hk
 simp only [x0a,x0k] at hk
 obtain ⟨⟨⟨hd,hdo⟩,hgu⟩,hop⟩:=hk
 have hw:=wJ hgu h
 have hdst : ∀ t,o.dst=some t -> t < nt:=fun t e=>by
  rw [<- hd] at e
  rw [e] at hdo
  simpa [Ah] using hdo
 cases x with
 | some y =>
  obtain ⟨ws,ks⟩:=y
  obtain ⟨h1,h2⟩:=hr
  have hwant : Region.wanted o (yielded ops a.tmps)=true:=by
   cases hg : n.guard with
   | none=>exact hw.1 hg
   | some p=>obtain ⟨s,b⟩:=p;rw [hw.2.1 s b b hg (h1 s b hg)];simp
  rw [hwant,if_pos rfl]
  left
  rw [hd] at h2
  refine Oper.wp_mono ?_ (CN hC hL h hdst rfl hop h2)
  rintro a' w' ⟨ws',ks',M',⟨rfl,rfl⟩,h'⟩
  exact hR M' a' w' h'
 | none =>
  obtain ⟨s,b,h1,h2⟩:=hr
  have hno : Region.wanted o (yielded ops a.tmps)=false:=by
   rcases h2 with h2 | h2
   ·rw [hw.2.1 s b (!b) h1 h2];cases b <;> rfl
   ·exact hw.2.2 s b h1 h2
  rw [hno,if_neg Bool.false_ne_true]
  refine hR M _ w ?_
  unfold nj
  rw [hd]
  cases hdd : o.dst with
  | none=>exact h
  | some t=>exact h.put (hdst t hdd) (fun _ _ _=>by simp [bi,aC,ae,aB,undef])
theorem t8 {K : Env -> Prop} {n : aA} {ns : List aA} {e : Env} (h : jg C K (n::ns) e) : ∃ x e',gC C n (ac e) x /\ ac e'=nj n x (ac e) /\ jg C K ns e':=by
 have run : ∀ e1,ac e1=ac e -> (∀ s b,n.guard=some (s,b) -> ac e s=.bool b) -> qu C n.dst (jg C K ns) e1 n.op -> ∃ x e',gC C n (ac e) x /\ ac e'=nj n x (ac e) /\ jg C K ns e':=by
  intro e1 he hg h1
  unfold qu at h1
  obtain ⟨ws,ks,h2,h3⟩:=qh h1
  rw [he] at h3
  exact ⟨some (ws,ks),_,⟨hg,h3 _ ⟨rfl,rfl⟩⟩,by rw [hD,he];rfl,h2⟩
 rw [jg] at h
 split at h
 ·rename_i hg
  exact run e rfl (fun s b e'=>(by rw [hg] at e';cases e')) h
 ·rename_i s want hg
  split at h
  ·rename_i b hb
   by_cases hbw : b=want
   ·subst hbw
    exact run _ (pp hb) (fun s' b' e'=>(by rw [hg] at e';cases e';exact hb)) (h.1 rfl)
   ·have hb' : b=!want:=by cases b <;> cases want <;> simp_all
    have h1:=h.2 hb'
    rw [hb'] at hb
    have he:=pp hb
    refine ⟨none,?_⟩
    unfold iX at h1
    unfold nj
    split at h1
    ·rename_i hd
     exact ⟨_,⟨s,want,hg,.inl hb⟩,by rw [hd];exact he,h1⟩
    ·rename_i t hd
     refine ⟨_,⟨s,want,hg,.inl hb⟩,?_,h1⟩
     rw [hd]
     have:=hD [(t,.tup [])] [] ((s,.bool !want)::e)
     simp only [dO,if_true] at this
     rw [he] at this
     exact this
  ·rename_i hb
   refine ⟨none,?_⟩
   unfold iX at h
   unfold nj
   split at h
   ·rename_i hd
    exact ⟨_,⟨s,want,hg,.inr hb⟩,by rw [hd],h⟩
   ·rename_i t hd
    refine ⟨_,⟨s,want,hg,.inr hb⟩,?_,h⟩
    rw [hd]
    have:=hD [(t,.tup [])] [] e
    simp only [dO,if_true] at this
    exact this
  ·exact h.elim
theorem ua (hC : bG P F C) (hL : NoL L) {ops : Array Oper} {K : Env -> Prop} (hQ : ∀ e M a w,SR F nt S L w0 M0 (ac e) M a w -> K e -> Q .normal a w) (ns : List aA) : ∀ (os : List Oper),ns.length=os.length -> (∀ p ∈ ns.zip os,nU P F nt ops p.1 p.2=true) ->
  ∀ (e : Env) (M : Mem) (a : Act) (w : World),SR F nt S L w0 M0 (ac e) M a w -> jg C K ns e -> wpList P ops Q os a w:=by
 induction ns with
 | nil =>
  intro os hl _ e M a w h hr
  cases os with
  | nil=>exact hQ e M a w h hr
  | cons o os=>simp at hl
 | cons n ns ih =>
  intro os hl hk e M a w h hr
  cases os with
  | nil=>simp at hl
  | cons o os =>
   obtain ⟨x,e',h1,h2,h3⟩:=t8 hr
   rw [wpList]
   exact AZ hC hL (hk (n,o) (by simp)) h h1 (fun M' a' w' h'=>ih os (by simpa using hl) (fun p hp=>hk p (by simp [hp])) e' M' a' w' (by rw [h2];exact h') h3)
def lu (P : Program) (F : Fid) (nt : Nat) (ns : List aA) (ops : Array Oper) : Bool:=ns.length == ops.toList.length && (ns.zip ops.toList).all fun p=>nU P F nt ops p.1 p.2
theorem qf (hC : bG P F C) (hL : NoL L) {ops : Array Oper} {ns : List aA} (hk : lu P F nt ns ops=true) {id : Nat} {K : Env -> Prop} {e : Env} (h : SR F nt S L w0 M0 (ac e) M a w) (hr : jg C K ns e) (hQ : ∀ e M a w,SR F nt S L w0 M0 (ac e) M a w -> K e -> Q .normal a w) :
  (Code.region id ops false).wp P Q a w:=by
 simp only [lu,x0a,x0k,x0f] at hk
 exact wp_region_list (ua hC hL hQ ns ops.toList hk.1 hk.2 e M a w h hr)
end
end Go.Gv

namespace Go.Gv
open Go.RowKit
def nv : Option Opd -> List Opd
 | some x=>[x]
 | none=>[]
def am : NOp -> List Opd
 | .mov x=>[x]
 | .asg x=>[x]
 | .stL x y=>[x,y]
 | .mkI _ x=>[x]
 | .tya _ x=>[x]
 | .callI _ _ _ x xs=>x::xs
 | .callM _ x xs=>x::xs
 | .callR _ x xs=>x::xs
 | .callQ _ s x xs=>x::.t s::xs
 | .boxK s x=>[x,.t s]
 | .ldQ _ x=>[x]
 | .appQ _ _ _ x y=>[x,y]
 | .cpy _ x y=>[x,y]
 | .nilo _=>[]
 | .nck x=>[x]
 | .boxF x=>[x]
 | .blsF _ _ _ ps=>ps.map fun p=>p.2
 | .pick c a b=>[c,a,b]
 | .bin _ x y=>[x,y]
 | .beq _ _ x y=>[x,y]
 | .un _ x=>[x]
 | .conv _ x=>[x]
 | .idxA _ _ _ x i=>[x,i]
 | .ext _ x=>[x]
 | .fad _ x=>[x]
 | .iadS _ x i=>[x,i]
 | .iadA _ _ x i=>[x,i]
 | .ld _ _ x=>[x]
 | .box _ x=>[x]
 | .alc _=>[]
 | .mkm _ _=>[]
 | .mpl _ _ _ _ _ m x=>[m,x]
 | .mpu _ _ _ _ m x v=>[m,x,v]
 | .bld _ ps=>ps.map fun p=>p.2.2
 | .bls _ _ _ _ ps=>ps.map fun p=>p.2
 | .mks _ _ _ n c=>[n,c]
 | .len x=>[x]
 | .lens x=>[x]
 | .call _ xs _=>xs
 | .callv x xs=>x::xs
 | .callF _ xs=>xs
 | .callS _ x xs=>x::xs
 | .callE _ x xs=>x::xs
 | .mk _ xs=>xs
 | .slc _ x lo hi=>x::(nv lo++nv hi)
 | .slA _ _ x=>[x]
 | .slM _ _ x=>[x]
 | .cvS x=>[x]
 | .mn x y=>[x,y]
 | .mx x y=>[x,y]
 | .st _ _ a v=>[a,v]
 | .app _ _ _ x y=>[x,y]
 | .dead=>[]
section
variable {C : Nat -> List D -> D -> List D -> Prop} {f g : Nat -> D}
def cU (f g : Nat -> D) (d : D) : Prop:=∀ b,cK b true d=true -> g b=f b
theorem fb (p : Pa) : bm p.root true p=true:=by cases p <;> simp [bm,Pa.root]
theorem c8 {p : Pa} (h : g p.root=f p.root) : bu g p=bu f p:=by
 cases p <;> simp only [bu,Pa.root] at h ⊢ <;> rw [h]
theorem cU.ref {p : Pa} {k n : Nat} (h : cU f g (.ref p k n)) : g p.root=f p.root:=h _ (by simp only [cK,aG];exact fb p)
theorem cU.adr {p : Pa} {i o : Nat} (h : cU f g (.adr p i o)) : g p.root=f p.root:=h _ (by simp only [cK,aG];exact fb p)
theorem cU.ifa {T : Nat} {p : Pa} {i o : Nat} (h : cU f g (.ifa T p i o)) : g p.root=f p.root:=h _ (by simp only [cK,aG];exact fb p)
theorem cU.mrf {b : Nat} (h : cU f g (.mrf b)) : g b=f b:=h _ (by simp [cK,aG])
theorem eP {d : D} (h : ∀ b,aG b true d=true -> g b=f b) : dp1 g d=dp1 f d /\ (aY g d ↔ aY f d):=by
 cases d <;> try exact ⟨rfl,Iff.rfl⟩
 case ref p k n =>
  have e:=c8 (p:=p) (h _ (by simp only [aG];exact fb p))
  simp only [dp1,aY,e,and_self]
 case adr p i off =>
  have e:=c8 (p:=p) (h _ (by simp only [aG];exact fb p))
  simp only [dp1,aY,e,and_self]
theorem eR {b : Nat} {ds : List D} {d : D} (h : d ∈ ds) (hm : aG b true d=true) : ds.any (aG b true)=true:=x0x.2 ⟨d,h,hm⟩
theorem uK {d : D} (h : isX d=false) (ha : cU f g d) : dp g d=dp f d /\ (bD g d ↔ bD f d):=by
 have e : ∀ f : Nat -> D,dp f d=dp1 f d /\ (bD f d ↔ aY f d) /\ ∀ b,cK b true d=aG b true d:=fun f=>by
  cases d <;> first | exact ⟨rfl,Iff.rfl,fun _=>rfl⟩ | (simp [isX] at h)
 obtain ⟨e1,e2,e3⟩:=e f
 obtain ⟨g1,g2,_⟩:=e g
 obtain ⟨h1,h2⟩:=eP (f:=f) (g:=g) (d:=d) (fun b hb=>ha b (by rw [e3];exact hb))
 exact ⟨by rw [g1,e1,h1],by rw [g2,e2];exact h2⟩
theorem jn {d : D} (h : cU f g d) : dp g d=dp f d /\ (bD g d ↔ bD f d):=by
 cases d
 case agx ds =>
  have e : ∀ d ∈ ds,dp1 g d=dp1 f d /\ (aY g d ↔ aY f d):=fun d hd=>eP fun b hb=>h b (eR hd hb)
  simp only [dp,bD]
  exact ⟨by rw [x0o fun d hd=>(e d hd).1],⟨fun x d hd=>(e d hd).2.1 (x d hd),fun x d hd=>(e d hd).2.2 (x d hd)⟩⟩
 case tpx ds =>
  have e : ∀ d ∈ ds,dp1 g d=dp1 f d /\ (aY g d ↔ aY f d):=fun d hd=>eP fun b hb=>h b (eR hd hb)
  simp only [dp,bD]
  exact ⟨by rw [x0o fun d hd=>(e d hd).1],⟨fun x d hd=>(e d hd).2.1 (x d hd),fun x d hd=>(e d hd).2.2 (x d hd)⟩⟩
 case ptx ds =>
  have e : ∀ d ∈ ds,dp1 g d=dp1 f d /\ (aY g d ↔ aY f d):=fun d hd=>eP fun b hb=>h b (eR hd hb)
  simp only [dp,bD]
  exact ⟨by rw [x0o fun d hd=>(e d hd).1],⟨fun x d hd=>(e d hd).2.1 (x d hd),fun x d hd=>(e d hd).2.2 (x d hd)⟩⟩
 case rfx n sz ds=>exact ⟨rfl,Iff.rfl⟩
 case fny g ds cs=>exact ⟨rfl,Iff.rfl⟩
 case fnx k ds =>
  have e : ∀ d ∈ ds,dp1 g d=dp1 f d /\ (aY g d ↔ aY f d):=fun d hd=>eP fun b hb=>h b (eR hd hb)
  simp only [dp,bD]
  exact ⟨by rw [x0o fun d hd=>(e d hd).1],⟨fun x d hd=>(e d hd).2.1 (x d hd),fun x d hd=>(e d hd).2.2 (x d hd)⟩⟩
 all_goals
  exact uK rfl h
theorem kU {d : D} {K : D -> List Nat -> Prop} (h : ∀ b,aG b true d=true -> g b=f b) (hr : dI f d K) : dI g d K:=by
 unfold dI at hr ⊢
 split at hr
 ·rename_i b k n
  rw [h b (by simp [aG,bm])]
  exact hr
 ·exact hr
theorem kW : ∀ {ds : List D} {K : List D -> List Nat -> Prop},(∀ d ∈ ds,∀ b,aG b true d=true -> g b=f b) -> kV f ds K -> kV g ds K
 | [],K,_,hr=>hr
 | d::ds,K,h,hr=>by
  obtain ⟨c,bs,h1,h2⟩:=jX hr
  obtain ⟨cs,bs',h3,h4⟩:=jY h1
  refine kU (h d (by simp)) (h2 _ (kW (fun d hd=>h d (by simp [hd])) (h4 _ h3)))
theorem i4 {d : D} {ns : List Nat} {K : List D -> List Nat -> Prop} (h : cU f g d) (hr : fg f d ns K) : fg g d ns K:=by
 unfold fg at hr ⊢
 split at hr
 ·exact hr
 ·exact ⟨hr.1,kW (fun d hd b hb=>h b (eR hd hb)) hr.2⟩
 ·rename_i hne1 hne2
  refine ⟨hr.1,kU (fun b hb=>h b ?_) hr.2⟩
  cases d <;> first | exact hb | (exact absurd rfl (hne2 _)) | (simp [aG] at hb)
theorem jF {sz : Nat} {ns : List Nat} : ∀ {ps : List (Nat × Opd)} {es : List (List D)} {bs : List Nat} {K : List (List D) -> List Nat -> Prop},(∀ p ∈ ps,vd g p.2=vd f p.2 /\ cU f g (vd f p.2)) -> eC f sz ns ps es bs K -> eC g sz ns ps es bs K
 | [],es,bs,K,_,hr=>hr
 | (i,x)::ps,es,bs,K,h,hr=>by
  obtain ⟨h0,hr⟩:=hr
  obtain ⟨e1,e2⟩:=h (i,x) (by simp)
  obtain ⟨cs,b1,⟨h1,h1'⟩,h2⟩:=gD hr
  refine ⟨h0,?_⟩
  simp only at e1 e2
  rw [e1]
  exact i4 e2 (h2 _ ⟨h1,jF (fun p hp=>h p (by simp [hp])) h1'⟩)
theorem ij {mv : Bool} {d : D} {sz : Nat} {K : List (List D) -> List Nat -> Prop} (h : cU f g d) (hr : eH f mv d sz K) : eH g mv d sz K:=by
 unfold eH at hr ⊢
 split at hr
 ·exact hr
 ·exact hr
 ·rename_i p k n
  cases mv with
  | true =>
   obtain ⟨h0,hr⟩:=hr
   refine ⟨h0,?_⟩
   cases p with
   | r b=>simp only at hr ⊢;rw [show g b=f b from h.ref];exact hr
   | n b i o=>exact hr
  | false=>simp only at hr ⊢;rw [c8 h.ref];exact hr
 ·exact hr
theorem dA {x : Option Opd} {n : Nat} {K : Nat -> Prop} (h : ∀ y ∈ nv x,vd g y=vd f y) (hr : dU f x n K) : dU g x n K:=by
 unfold dU at hr ⊢
 split at hr
 ·exact hr
 ·rename_i y
  rw [h y (by simp [nv])]
  exact hr
theorem gR : ∀ {ps : List (Nat × Opd)} {es : List (List D)},(∀ p ∈ ps,vd g p.2=vd f p.2) -> fM g ps es=fM f ps es
 | [],_,_=>rfl
 | p::ps,es,h=>by
  simp only [fM]
  rw [h p (by simp)]
  exact gR fun q hq=>h q (by simp [hq])
theorem tQ {o : NOp} {K : D -> Prop} (hv : ∀ x ∈ am o,vd g x=vd f x) (ha : ∀ x ∈ am o,cU f g (vd f x)) (hr : res f K o) : res g K o:=by
 cases o with
 | ld n ag x =>
  have e:=hv x (by simp [am]);have a:=ha x (by simp [am])
  simp only [res,e] at hr ⊢
  split at hr
  ·rename_i ex;rw [ex] at a;rw [c8 a.adr];exact hr
  ·exact hr
  ·exact hr
  ·exact hr
 | iadS sz x i =>
  have e:=hv x (by simp [am]);have a:=ha x (by simp [am]);have e2:=hv i (by simp [am])
  simp only [res,e,e2] at hr ⊢
  split at hr
  ·exact hr
  ·exact hr
  ·exact hr
  ·rename_i ex _;rw [ex] at a;rw [c8 a.ref];exact hr
  ·exact hr
 | slc sz x lo hi =>
  have e:=hv x (by simp [am]);have a:=ha x (by simp [am])
  have hlo : ∀ y ∈ nv lo,vd g y=vd f y:=fun y hy=>hv y (by simp [am,hy])
  have hhi : ∀ y ∈ nv hi,vd g y=vd f y:=fun y hy=>hv y (by simp [am,hy])
  simp only [res,e] at hr ⊢
  split at hr
  ·exact ⟨hr.1,dA hhi (i5 hr.2 fun m h=>dA hlo h)⟩
  ·exact dA hhi (i5 hr fun m h=>dA hlo h)
  ·rename_i ex
   rw [ex] at a;rw [c8 a.ref]
   split at hr
   ·exact ⟨hr.1,dA hhi (i5 hr.2 fun m h=>dA hlo h)⟩
   ·exact hr
  ·exact hr
 | bld zs ps =>
  have e : ∀ p ∈ ps,vd g p.2.2=vd f p.2.2:=fun p hp=>hv _ (x0s.2 ⟨p,hp,rfl⟩)
  simp only [res] at hr ⊢
  obtain ⟨h1,h2,h3⟩:=hr
  have e2 : (ps.all fun p=>isV (vd g p.2.2))=(ps.all fun p=>isV (vd f p.2.2)):=by
   rw [x04,x0f,x0f]
   exact ⟨fun h p hp=>by rw [<- e p hp];exact h p hp,fun h p hp=>by rw [e p hp];exact h p hp⟩
  have m1 : (ps.map fun p=>(p.1,p.2.1,vd g p.2.2))=ps.map fun p=>(p.1,p.2.1,vd f p.2.2):=x0o fun p hp=>by rw [e p hp]
  have m2 : (ps.map fun p=>(p.1,p.2.1,bP (vd g p.2.2)))=ps.map fun p=>(p.1,p.2.1,bP (vd f p.2.2)):=x0o fun p hp=>by rw [e p hp]
  rw [e2,m1,m2]
  exact ⟨fun p hp=>by rw [e p hp];exact h1 p hp,h2,h3⟩
 | mk k xs =>
  have e : ∀ x ∈ xs,vd g x=vd f x:=fun x hx=>hv x hx
  simp only [res] at hr ⊢
  obtain ⟨h1,h2,h3⟩:=hr
  have e2 : (xs.all fun x=>isV (vd g x))=(xs.all fun x=>isV (vd f x)):=by
   rw [x04,x0f,x0f]
   exact ⟨fun h p hp=>by rw [<- e p hp];exact h p hp,fun h p hp=>by rw [e p hp];exact h p hp⟩
  rw [e2,x0o e]
  exact ⟨fun p hp=>by rw [e p hp];exact h1 p hp,h2,h3⟩
 | pick c x y=>simp only [res,hv c (by simp [am]),hv x (by simp [am]),hv y (by simp [am])] at hr ⊢;exact hr
 | bin op x y=>simp only [res,hv x (by simp [am]),hv y (by simp [am])] at hr ⊢;exact hr
 | beq op ks x y=>simp only [res,hv x (by simp [am]),hv y (by simp [am])] at hr ⊢;exact hr
 | idxA l s g x i=>simp only [res,hv x (by simp [am]),hv i (by simp [am])] at hr ⊢;exact hr
 | iadA l s x i=>simp only [res,hv x (by simp [am]),hv i (by simp [am])] at hr ⊢;exact hr
 | mn x y=>simp only [res,hv x (by simp [am]),hv y (by simp [am])] at hr ⊢;exact hr
 | mx x y=>simp only [res,hv x (by simp [am]),hv y (by simp [am])] at hr ⊢;exact hr
 | mov x=>simp only [res,hv x (by simp [am])] at hr ⊢;exact hr
 | nck x=>simp only [res,hv x (by simp [am])] at hr ⊢;exact hr
 | un op x=>simp only [res,hv x (by simp [am])] at hr ⊢;exact hr
 | conv k x=>simp only [res,hv x (by simp [am])] at hr ⊢;exact hr
 | slA l s x=>simp only [res,hv x (by simp [am])] at hr ⊢;exact hr
 | cvS x=>simp only [res,hv x (by simp [am])] at hr ⊢;exact hr
 | ext i x=>simp only [res,hv x (by simp [am])] at hr ⊢;exact hr
 | fad i x=>simp only [res,hv x (by simp [am])] at hr ⊢;exact hr
 | mkI T x=>simp only [res,hv x (by simp [am])] at hr ⊢;exact hr
 | tya T x=>simp only [res,hv x (by simp [am])] at hr ⊢;exact hr
 | len x=>simp only [res,hv x (by simp [am])] at hr ⊢;exact hr
 | boxF x=>simp only [res,hv x (by simp [am])] at hr ⊢;exact hr
 | blsF sz len zs ps =>
  have e : ∀ p ∈ ps,vd g p.2=vd f p.2:=fun p hp=>hv _ (x0s.2 ⟨p,hp,rfl⟩)
  simp only [res] at hr ⊢
  rw [gR e]
  exact ⟨fun p hp=>by rw [e p hp];exact hr.1 p hp,hr.2⟩
 | lens x=>simp only [res,hv x (by simp [am])] at hr ⊢;exact hr
 | mpl sh kt et ok z m x =>
  have e:=hv m (by simp [am]);have a:=ha m (by simp [am]);have e2:=hv x (by simp [am])
  simp only [res,e,e2] at hr ⊢
  split at hr
  ·rename_i b ex
   rw [ex] at a
   rw [a.mrf]
   exact hr
  ·exact hr
 | _=>simp only [res] at hr
theorem rC {o : NOp} {dst : Option Nat} {K : List (Nat × D) -> List (Nat × Bool) -> Prop} (hv : ∀ x ∈ am o,vd g x=vd f x) (ha : ∀ x ∈ am o,cU f g (vd f x)) (hr : aL C f dst K o) : aL C g dst K o:=by
 cases o with
 | asg x =>
  have e:=hv x (by simp [am]);have a:=ha x (by simp [am])
  cases dst with
  | none=>exact hr
  | some t =>
   simp only [aL,e] at hr ⊢
   split at hr
   ·rename_i c k n ex
    rw [ex] at a
    rw [show g c=f c from a.ref]
    exact hr
   ·exact hr
 | ldQ q x =>
  have e:=hv x (by simp [am]);have a:=ha x (by simp [am])
  simp only [aL,e] at hr ⊢
  split at hr
  ·rename_i c i off ex
   rw [ex] at a
   rw [show g c=f c from a.adr]
   exact hr
  ·exact hr
 | appQ q sz by_ x y =>
  have e:=hv x (by simp [am]);have a:=ha x (by simp [am]);have e2:=hv y (by simp [am]);have a2:=ha y (by simp [am])
  cases dst with
  | none=>exact hr
  | some t =>
   simp only [aL,e,e2] at hr ⊢
   split at hr
   ·rename_i c i o k n ex
    rw [ex] at a
    obtain ⟨h0,hr⟩:=hr
    obtain ⟨rows,bs,⟨h1,h1',h2⟩,h3⟩:=dE hr
    refine ⟨h0,ij a2 (h3 _ ⟨h1,h1',?_⟩)⟩
    rw [show g c=f c from a.ref]
    exact h2
   ·exact hr
 | cpy sz x y =>
  have e:=hv x (by simp [am]);have a:=ha x (by simp [am]);have e2:=hv y (by simp [am]);have a2:=ha y (by simp [am])
  cases dst with
  | none=>exact hr
  | some t =>
   simp only [aL,e,e2] at hr ⊢
   obtain ⟨rows,bs,⟨h1,h1',h2⟩,h3⟩:=dE hr
   refine ij a2 (h3 _ ⟨h1,h1',?_⟩)
   split at h2
   ·rename_i c k n ex;rw [ex] at a;rw [show g c=f c from a.ref];exact h2
   ·exact h2
 | stL x y =>
  have e:=hv x (by simp [am]);have a:=ha x (by simp [am]);have e2:=hv y (by simp [am])
  simp only [aL,e,e2] at hr ⊢
  refine ⟨hr.1,?_⟩
  have hr:=hr.2
  split at hr
  ·rename_i b i off b' i' o' k n ex ey
   rw [ex] at a
   rw [show g b=f b from a.adr]
   exact hr
  ·exact hr
 | boxK s x =>
  have e:=hv x (by simp [am]);have a:=ha x (by simp [am]);have e2:=hv (.t s) (by simp [am])
  simp only [vd] at e2
  cases dst with
  | none=>exact hr
  | some t =>
   simp only [aL,e,e2] at hr ⊢
   refine ⟨hr.1,hr.2.1,?_⟩
   have hr:=hr.2.2
   split at hr
   ·rename_i c k n ex
    rw [ex] at a
    rw [show g c=f c from a c (by simp [cK,aG,bm])]
    exact hr
   ·exact hr
 | callI k m T x0 xs =>
  have e0:=hv x0 (by simp [am]);have a0:=ha x0 (by simp [am])
  have e : ∀ x ∈ xs,vd g x=vd f x:=fun x hx=>hv x (by simp [am,hx])
  simp only [aL,e0] at hr ⊢
  split at hr
  ·rename_i T' b i o hvx
   rw [hvx] at a0
   have hb : g b=f b:=a0.ifa
   rw [hb,x0o e]
   obtain ⟨h0,h1,h2,hr⟩:=hr
   refine ⟨h0,h1,h2,?_⟩
   split at hr
   ·exact ⟨hr.1,fun x hx=>by rw [e x hx];exact hr.2.1 x hx,hr.2.2⟩
   ·exact hr.elim
  ·exact hr.elim
 | callM k x0 xs =>
  have e0:=hv x0 (by simp [am]);have a0:=ha x0 (by simp [am])
  have e : ∀ x ∈ xs,vd g x=vd f x:=fun x hx=>hv x (by simp [am,hx])
  simp only [aL,e0] at hr ⊢
  split at hr
  ·rename_i T' b i o hvx
   rw [hvx] at a0
   have hb : g b=f b:=a0.ifa
   rw [hb,x0o e]
   obtain ⟨h1,h2,hr⟩:=hr
   refine ⟨h1,h2,?_⟩
   split at hr
   ·exact ⟨hr.1,fun x hx=>by rw [e x hx];exact hr.2.1 x hx,hr.2.2⟩
   ·exact hr.elim
  ·exact hr.elim
 | callR k x0 xs =>
  have e0:=hv x0 (by simp [am]);have a0:=ha x0 (by simp [am])
  have e : ∀ x ∈ xs,vd g x=vd f x:=fun x hx=>hv x (by simp [am,hx])
  simp only [aL,e0] at hr ⊢
  split at hr
  ·rename_i b i o hvx
   rw [hvx] at a0
   have hb : g b=f b:=a0.ref
   rw [hb,x0o e]
   obtain ⟨h1,hr⟩:=hr
   refine ⟨h1,?_⟩
   split at hr
   ·exact ⟨hr.1,hr.2.1,fun x hx=>by rw [e x hx];exact hr.2.2.1 x hx,hr.2.2.2⟩
   ·exact hr.elim
  ·exact hr.elim
 | callQ k s x0 xs =>
  have e0:=hv x0 (by simp [am]);have a0:=ha x0 (by simp [am]);have e2:=hv (.t s) (by simp [am])
  simp only [vd] at e2
  have e : ∀ x ∈ xs,vd g x=vd f x:=fun x hx=>hv x (by simp [am,hx])
  simp only [aL,e0,e2] at hr ⊢
  split at hr
  ·rename_i T' b i o hvx
   rw [hvx] at a0
   have hb : g b=f b:=a0.ifa
   rw [hb,x0o e]
   obtain ⟨h1,h2,h3,h4,h5,hr⟩:=hr
   exact ⟨h1,h2,h3,h4,fun x hx=>by rw [e x hx];exact h5 x hx,hr⟩
  ·exact hr.elim
 | slM len sz x =>
  have e:=hv x (by simp [am]);have a:=ha x (by simp [am])
  cases dst with
  | none=>exact hr
  | some t =>
   simp only [aL,e] at hr ⊢
   split at hr
   ·rename_i c i off ex
    rw [ex] at a
    rw [show g c=f c from a.adr]
    exact hr
   ·exact hr
 | nilo sz=>exact hr
 | alc zs=>exact hr
 | mkm kt et=>exact hr
 | mpu sh kt et z m x v =>
  have e:=hv m (by simp [am]);have a:=ha m (by simp [am]);have e2:=hv x (by simp [am]);have e3:=hv v (by simp [am])
  simp only [aL,e,e2,e3] at hr ⊢
  refine ⟨hr.1,?_⟩
  have hr:=hr.2
  split at hr
  ·rename_i b ex
   rw [ex] at a
   rw [a.mrf]
   exact hr
  ·exact hr
 | box ns x =>
  have e:=hv x (by simp [am]);have a:=ha x (by simp [am])
  cases dst with
  | none=>exact hr
  | some t=>simp only [aL,e] at hr ⊢;exact i4 a hr
 | bls sz len zs ns ps =>
  cases dst with
  | none=>exact hr
  | some t=>simp only [aL] at hr ⊢;exact jF (fun p hp=>⟨hv _ (x0s.2 ⟨p,hp,rfl⟩),ha _ (x0s.2 ⟨p,hp,rfl⟩)⟩) hr
 | mks sz by_ zs n c =>
  have e:=hv n (by simp [am]);have e2:=hv c (by simp [am])
  cases dst with
  | none=>exact hr
  | some t=>simp only [aL,e,e2] at hr ⊢;exact hr
 | st n ns x v =>
  have e:=hv x (by simp [am]);have a:=ha x (by simp [am]);have e2:=hv v (by simp [am]);have a2:=ha v (by simp [am])
  simp only [aL,e,e2] at hr ⊢
  obtain ⟨h0,hr⟩:=hr
  refine ⟨h0,?_⟩
  obtain ⟨cs,bs,⟨h1,h2⟩,h3⟩:=gD hr
  refine i4 a2 (h3 _ ⟨h1,?_⟩)
  split at h2
  ·rename_i b i off ex;rw [ex] at a;rw [show g b=f b from a.adr];exact h2
  ·rename_i b i0 o0 i off ex;rw [ex] at a;rw [show g b=f b from a.adr];exact h2
  ·exact h2
 | app sz by_ mv x y =>
  have e:=hv x (by simp [am]);have a:=ha x (by simp [am]);have e2:=hv y (by simp [am]);have a2:=ha y (by simp [am])
  cases dst with
  | none=>exact hr
  | some t =>
   simp only [aL,e,e2] at hr ⊢
   obtain ⟨rows,bs,⟨h1,h2⟩,h3⟩:=dE hr
   refine ij a2 (h3 _ ⟨h1,?_⟩)
   split at h2
   ·exact h2
   ·rename_i c k n ex;rw [ex] at a;rw [show g c=f c from a.ref];exact h2
   ·rename_i c i o k n ex;rw [ex] at a;rw [show g c=f c from a.ref];exact h2
   ·exact h2
 | call k xs ms =>
  simp only [aL] at hr ⊢
  obtain ⟨h0,d,h1,h2,h3⟩:=hr
  have e : ∀ x ∈ xs,dpv g x=dpv f x /\ (bD g (vd g x) ↔ bD f (vd f x)):=fun x hx=>by
   have:=jn (ha x hx)
   unfold dpv
   rw [hv x hx]
   exact this
  refine ⟨fun x hx=>(e x hx).2.2 (h0 x hx),d,by rw [x0o fun x hx=>(e x hx).1];exact h1,h2.imp id (fun h=>?_),h3⟩
  rw [x0f] at h ⊢
  exact fun x hx=>by rw [hv x hx];exact h x hx
 | callF k xs =>
  have e : ∀ x ∈ xs,dpv g x=dpv f x /\ (bD g (vd g x) ↔ bD f (vd f x)):=fun x hx=>by
   have:=jn (ha x hx)
   unfold dpv
   rw [hv x hx]
   exact this
  simp only [aL] at hr ⊢
  rw [x0o fun x hx=>(e x hx).1]
  exact ⟨fun x hx=>(e x hx).2.2 (hr.1 x hx),hr.2⟩
 | callS k x0 xs =>
  have e0:=hv x0 (by simp [am]);have a0:=ha x0 (by simp [am])
  have eb : ∀ b,∀ x ∈ xs,vd (fbE g b) x=vd (fbE f b) x /\ cU (fbE f b) (fbE g b) (vd (fbE f b) x):=fun b x hx=>by
   have h1:=hv x (by simp [am,hx])
   have h2:=ha x (by simp [am,hx])
   have hag : cU (fbE f b) (fbE g b) (vd f x):=fun c hc=>by
    unfold fbE
    split
    ·rfl
    ·exact h2 c hc
   cases x with
   | t t =>
    simp only [vd] at h1 hag ⊢
    unfold fbE
    split
    ·exact ⟨rfl,fun c hc=>by simp [cK,aG] at hc⟩
    ·exact ⟨h1,hag⟩
   | c d=>exact ⟨rfl,hag⟩
  have ed : ∀ b,∀ x ∈ xs,dpv (fbE g b) x=dpv (fbE f b) x /\ (bD (fbE g b) (vd (fbE g b) x) ↔ bD (fbE f b) (vd (fbE f b) x)):=fun b x hx=>by
   have:=jn (eb b x hx).2
   unfold dpv
   rw [(eb b x hx).1]
   exact this
  have eo : ∀ b es',nu (fbE g b) xs es' ↔ nu (fbE f b) xs es':=fun b es'=>by
   unfold nu
   rw [x0f,x0f]
   exact or_congr ⟨fun h x hx=>by rw [<- (eb b x hx).1];exact h x hx,fun h x hx=>by rw [(eb b x hx).1];exact h x hx⟩ Iff.rfl
  simp only [aL,e0] at hr ⊢
  split at hr
  ·rename_i b k n hvx
   rw [hvx] at a0
   have hb : g b=f b:=a0.ref
   rw [hb,x0o fun x hx=>(ed b x hx).1]
   simp only [eo]
   obtain ⟨h1,hr⟩:=hr
   refine ⟨h1,?_⟩
   split at hr
   ·exact ⟨hr.1,hr.2.1,fun x hx=>(ed b x hx).2.2 (hr.2.2.1 x hx),hr.2.2.2⟩
   ·exact hr.elim
  ·exact hr.elim
 | callE k x0 xs =>
  have e0:=hv x0 (by simp [am]);have a0:=ha x0 (by simp [am])
  have e : ∀ x ∈ xs,j0 g x=j0 f x /\ ∀ b,lB g b x ↔ lB f b x:=fun x hx=>by
   have h1:=hv x (by simp [am,hx])
   have h2:=ha x (by simp [am,hx])
   unfold j0 lB
   rw [h1]
   revert h2
   generalize vd f x=d
   intro h2
   cases d <;> first | exact ⟨rfl,fun _=>Iff.rfl⟩ | skip
   rename_i p k n
   cases p with
   | r c =>
    have hb : g c=f c:=h2.ref
    exact ⟨by simp only [hb],fun _=>by simp only [hb]⟩
   | n c i o=>exact ⟨rfl,fun _=>Iff.rfl⟩
  simp only [aL,e0] at hr ⊢
  split at hr
  ·split at hr
   ·rename_i p k n hvx
    rw [hvx] at a0
    have hb : g p.root=f p.root:=a0.ref
    have hd : cY g p=cY f p:=by
     cases p with
     | r c=>rfl
     | n c i o=>simp only [cY];rw [show g c=f c from hb]
    simp only [c8 hb,hd]
    rw [x0o fun x hx=>(e x hx).1]
    split at hr
    ·obtain ⟨h1,h2,h3,h4,h5,h6⟩:=hr
     exact ⟨h1,h2,h3,h4,fun x hx=>((e x hx).2 _).2 (h5 x hx),h6⟩
    ·exact hr.elim
   ·exact hr.elim
  ·exact hr.elim
 | callv x0 xs =>
  have e0:=hv x0 (by simp [am]);have a0:=ha x0 (by simp [am])
  have e : ∀ x ∈ xs,dpv g x=dpv f x /\ (bD g (vd g x) ↔ bD f (vd f x)):=fun x hx=>by
   have:=jn (ha x (by simp [am,hx]))
   unfold dpv
   rw [hv x (by simp [am,hx])]
   exact this
  simp only [aL,e0] at hr ⊢
  split at hr
  ·obtain ⟨h0,d,h1,h2,h3⟩:=hr
   refine ⟨fun x hx=>(e x hx).2.2 (h0 x hx),d,by rw [x0o fun x hx=>(e x hx).1];exact h1,h2.imp id (fun h=>?_),h3⟩
   rw [x0f] at h ⊢
   exact fun x hx=>by rw [hv x (by simp [am,hx])];exact h x hx
  ·rename_i k cs ex
   rw [ex] at a0
   obtain ⟨h0,h0',d,h1,h2,h3⟩:=hr
   have ec : ∀ c ∈ cs,dp1 g c=dp1 f c /\ (aY g c ↔ aY f c):=fun c hc=>eP fun b hb=>a0 b (eR hc hb)
   exact ⟨fun x hx=>(e x hx).2.2 (h0 x hx),fun c hc=>(ec c hc).2.2 (h0' c hc),d,by rw [x0o fun x hx=>(e x hx).1,x0o fun c hc=>(ec c hc).1];exact h1,h2,h3⟩
  ·exact hr
 | _=>(simp only [aL] at hr ⊢;exact tQ hv ha hr)
end
end Go.Gv

namespace Go.Gv
open Go.RowKit
def aJ : D -> List Nat
 | .ref p _ _=>[p.root]
 | .adr p _ _=>[p.root]
 | .ifa _ p _ _=>[p.root]
 | .mrf b=>[b]
 | _=>[]
def bj : D -> List Nat
 | .agx ds=>ds.flatMap aJ
 | .tpx ds=>ds.flatMap aJ
 | .ptx ds=>ds.flatMap aJ
 | .rfx _ _ ds=>ds.flatMap aJ
 | .fnx _ ds=>ds.flatMap aJ
 | .fny _ ds cs=>ds.flatMap aJ++cs.flatMap aJ
 | d=>aJ d
theorem mC {b : Nat} {all : Bool} {p : Pa} (h : bm b all p=true) : b=p.root:=by
 cases p <;> simp [bm,Pa.root] at h ⊢ <;> simp_all
theorem lj {b : Nat} {all : Bool} {d : D} (h : aG b all d=true) : b ∈ aJ d:=by
 cases d <;> simp only [aG,x0i] at h
 case ref p k n=>simp [aJ,mC h]
 case adr p i o=>simp [aJ,mC h]
 case ifa T p i o=>simp [aJ,mC h]
 case mrf c=>simp at h;simp [aJ,h.2]
theorem i9 {b : Nat} {all : Bool} {d : D} (h : cK b all d=true) : b ∈ bj d:=by
 have part : ∀ ds : List D,ds.any (aG b all)=true -> b ∈ ds.flatMap aJ:=fun ds h=>by
  obtain ⟨d,h1,h2⟩:=x0x.1 h
  exact x1n.2 ⟨d,h1,lj h2⟩
 cases d
 case agx ds=>exact part ds h
 case tpx ds=>exact part ds h
 case ptx ds=>exact part ds h
 case rfx n sz ds=>exact part ds h
 case fnx g ds=>exact part ds h
 case fny g ds cs =>
  simp only [cK,x05] at h
  simp only [bj,x0m]
  rcases h with h | h
  ·exact .inl (part ds h)
  ·exact .inr (part cs h)
 all_goals (simp only [cK] at h;simp only [bj];exact lj h)
theorem ky (ks : List (Nat × Bool)) : aM ks .any=false:=by
 simp [aM,cK,aG]
theorem mB {ks : List (Nat × Bool)} {d : D} (h : aM ks d=true) : ∃ k ∈ ks,cK k.1 k.2 d=true:=by
 simpa [aM] using h
theorem gg {ws : List (Nat × D)} {k : Nat} {d : D} (h : ws.lookup k=some d) : (k,d) ∈ ws:=by
 induction ws with
 | nil=>cases h
 | cons p ws ih =>
  obtain ⟨s,x⟩:=p
  rw [x0e] at h
  cases e : k == s with
  | true=>rw [e] at h;simp at e h;subst e;subst h;simp
  | false=>rw [e] at h;simp [ih h]
theorem pT {ws : List (Nat × D)} {k : Nat} (h : ws.lookup k=none) : k ∉ ws.map (·.1):=by
 induction ws with
 | nil=>simp
 | cons p ws ih =>
  obtain ⟨s,x⟩:=p
  rw [x0e] at h
  cases e : k == s with
  | true=>rw [e] at h;cases h
  | false=>rw [e] at h;simp at e;simp only [x0G,x0K,not_or];exact ⟨e,ih h⟩
theorem fa {ws : List (Nat × D)} {k : Nat} (h : k ∉ ws.map (·.1)) : ws.lookup k=none:=by
 refine pU fun d hd=>h (x0s.2 ⟨_,hd,rfl⟩)
structure Fam where
 n : Nat
 ws : Nat -> List (Nat × D)
 ks : Nat -> List (Nat × Bool)
 rd : Nat -> List Nat
 mn : Nat -> List Nat
 fr : Nat -> List (Nat × Nat)
 bef : Nat -> Nat -> Bool
 f0 : Nat -> D
def Fam.W (A : Fam) (i : Nat) : List Nat:=(A.ws i).map (·.1)
def Fam.E (A : Fam) (i : Nat) : (Nat -> D) -> (Nat -> D):=eff (A.ws i) (A.ks i)
def Fam.G (A : Fam) (l : Nat -> Bool) : Nat -> (Nat -> D)
 | 0=>A.f0
 | m + 1=>if l m then A.E m (A.G l m) else A.G l m
def Fam.St (A : Fam) (m : Nat) : Nat -> D:=A.G (fun _=>true) m
def fh (m : Nat) : D -> Option (List (Option D))
 | .blk _ es=>some (es.map fun r=>r[m]?)
 | _=>none
def Fam.Pres (A : Fam) (i k m : Nat) : Prop:=fh m (A.St (i + 1) k)=fh m (A.St i k)
def Fam.Apart (A : Fam) (i j : Nat) : Prop:=(∀ k ∈ A.W i,k ∉ A.rd j /\ k ∉ A.W j /\ ∀ m,(k,m) ∈ A.fr j -> A.Pres i k m) /\ ∀ k ∈ A.ks i,k.1 ∉ A.mn j
def Fam.Ind (A : Fam) (i j : Nat) : Prop:=A.Apart i j /\ A.Apart j i
structure Fam.Ok (A : Fam) : Prop where
 kills : ∀ i,i < A.n -> ∀ k ∈ A.ks i,k.1 ∈ A.W i
 vals : ∀ i,i < A.n -> ∀ p ∈ A.ws i,∀ b all,cK b all p.2=true -> b ∈ A.mn i \/ b ∈ A.W i
 closed : ∀ i,i < A.n -> ∀ k ∈ A.rd i,∀ b all,cK b all (A.St i k)=true -> b ∈ A.mn i
 fine : ∀ i,i < A.n -> ∀ p ∈ A.fr i,p.1 ∉ A.W i
 known : ∀ i,i < A.n -> ∀ k ∈ A.rd i,A.St i k ≠ .any
 pairs : ∀ i j,i < j -> j < A.n -> A.bef j i=true \/ A.Ind i j
section
variable {A : Fam}
theorem d9 {ws : List (Nat × D)} {ks : List (Nat × Bool)} {f : Nat -> D} {k : Nat} {d : D} (h : ws.lookup k=some d) : eff ws ks f k=d:=aN h
theorem cO {ws : List (Nat × D)} {ks : List (Nat × Bool)} {f : Nat -> D} {k : Nat} (h : ws.lookup k=none) : eff ws ks f k=if aM ks (f k) then .any else f k:=by
 unfold eff;rw [h]
theorem Fam.Ok.noKill (h : A.Ok) {i j : Nat} (hi : i < A.n) (hj : j < A.n) (hI : A.Apart j i) {p : Nat × D} (hp : p ∈ A.ws i) : aM (A.ks j) p.2=false:=by
 cases hm : aM (A.ks j) p.2 with
 | false=>rfl
 | true =>
  obtain ⟨k,h1,h2⟩:=mB hm
  have h3:=h.kills j hj k h1
  have h5:=(hI.1 _ h3).2.1
  have h4:=hI.2 k h1
  rcases h.vals i hi p hp _ _ h2 with h6 | h6
  ·exact absurd h6 h4
  ·exact absurd h6 h5
theorem Fam.Ok.comm (h : A.Ok) {i j : Nat} (hi : i < A.n) (hj : j < A.n) (hI : A.Ind i j) (f : Nat -> D) : A.E i (A.E j f)=A.E j (A.E i f):=by
 funext k
 unfold Fam.E
 cases h1 : (A.ws i).lookup k with
 | some d =>
  have hk : k ∈ A.W i:=x0s.2 ⟨_,gg h1,rfl⟩
  have h2 : (A.ws j).lookup k=none:=fa (hI.1.1 k hk).2.1
  have h3:=h.noKill hi hj hI.2 (gg h1)
  rw [d9 h1,cO h2,d9 h1]
  simp only at h3
  rw [h3];rfl
 | none =>
  cases h2 : (A.ws j).lookup k with
  | some d =>
   have h3:=h.noKill hj hi hI.1 (gg h2)
   rw [cO h1,d9 h2,d9 h2]
   simp only at h3
   rw [h3];rfl
  | none =>
   rw [cO h1,cO h2,cO h2,cO h1]
   cases e1 : aM (A.ks i) (f k) <;> cases e2 : aM (A.ks j) (f k) <;> simp [e1,e2,ky]
def ul (A : Fam) (l : Nat -> Bool) : Prop:=∀ j,j < A.n -> l j=true -> ∀ i,i < j -> A.bef j i=true -> l i=true
open Classical in
noncomputable def dc (A : Fam) (l : Nat -> Bool) (m : Nat) (d : D) : D:=if ∃ u,u < m /\ l u=false /\ aM (A.ks u) d=true then .any else d
theorem nS (l : Nat -> Bool) (m : Nat) : dc A l m .any=.any:=by
 unfold dc;split <;> rfl
theorem AS (h : A.Ok) {l : Nat -> Bool} (hs : ul A l) : ∀ m,m <= A.n -> ∀ k,(∀ u,u < m -> l u=false -> k ∉ A.W u) -> A.St m k=dc A l m (A.G l m k)
 | 0,_,k,_=>by
  unfold dc
  rw [if_neg (by rintro ⟨u,hu,_⟩;omega)]
  rfl
 | m + 1,hm,k,hk=>by
  have ih:=AS h hs m (by omega) k (fun u hu=>hk u (by omega))
  have e1 : A.St (m + 1) k=A.E m (A.St m) k:=by simp [Fam.St,Fam.G]
  rw [e1]
  cases hl : l m with
  | true =>
   have e2 : A.G l (m + 1) k=A.E m (A.G l m) k:=by simp [Fam.G,hl]
   rw [e2]
   unfold Fam.E
   cases h1 : (A.ws m).lookup k with
   | some d =>
    rw [d9 h1,d9 h1]
    unfold dc
    rw [if_neg]
    rintro ⟨u,hu,hlu,hmu⟩
    have hum : u < m:=by
     rcases x1b u m with h | h
     ·exact h
     ·have : u=m:=by omega
      subst this;rw [hl] at hlu;cases hlu
    rcases h.pairs u m hum (by omega) with h2 | h2
    ·rw [hs m (by omega) hl u hum h2] at hlu;cases hlu
    ·have:=h.noKill (i:=m) (j:=u) (by omega) (by omega) h2.1 (gg h1)
     simp only at this
     rw [this] at hmu;cases hmu
   | none =>
    rw [cO h1,cO h1,ih]
    have same : ∀ d,dc A l (m + 1) d=dc A l m d:=fun d=>by
     unfold dc
     congr 1
     refine propext ⟨fun ⟨u,h3,h4,h5⟩=>⟨u,?_,h4,h5⟩,fun ⟨u,h3,h4,h5⟩=>⟨u,by omega,h4,h5⟩⟩
     rcases x1b u m with h | h
     ·exact h
     ·have : u=m:=by omega
      subst this;rw [hl] at h4;cases h4
    rw [same]
    generalize A.G l m k=g
    by_cases hc : ∃ u,u < m /\ l u=false /\ aM (A.ks u) g=true
    ·have e3 : dc A l m g=.any:=by unfold dc;rw [if_pos hc]
     rw [e3,ky]
     cases hg : aM (A.ks m) g with
     | true=>simp only [if_true];rw [nS];rfl
     | false=>simp only [x0i,if_false];rw [e3]
    ·have e3 : dc A l m g=g:=by unfold dc;rw [if_neg hc]
     rw [e3]
     cases hg : aM (A.ks m) g with
     | true=>simp only [if_true];rw [nS]
     | false=>simp only [x0i,if_false];rw [e3]
  | false =>
   have e2 : A.G l (m + 1) k=A.G l m k:=by simp [Fam.G,hl]
   rw [e2]
   unfold Fam.E
   rw [cO (fa (hk m (by omega) hl)),ih]
   generalize A.G l m k=g
   by_cases hc : ∃ u,u < m /\ l u=false /\ aM (A.ks u) g=true
   ·have e3 : dc A l m g=.any:=by unfold dc;rw [if_pos hc]
    have e4 : dc A l (m + 1) g=.any:=by
     unfold dc
     obtain ⟨u,h1,h2⟩:=hc
     rw [if_pos ⟨u,by omega,h2⟩]
    rw [e3,e4,ky];rfl
   ·have e3 : dc A l m g=g:=by unfold dc;rw [if_neg hc]
    rw [e3]
    cases hg : aM (A.ks m) g with
    | true =>
     have e4 : dc A l (m + 1) g=.any:=by unfold dc;exact if_pos ⟨m,by omega,hl,hg⟩
     rw [e4];rfl
    | false =>
     have e4 : dc A l (m + 1) g=g:=by
      unfold dc
      refine if_neg ?_
      rintro ⟨u,h1,h2,h3⟩
      rcases x1b u m with h | h
      ·exact hc ⟨u,h,h2,h3⟩
      ·have : u=m:=by omega
       subst this;rw [hg] at h3;cases h3
     rw [e4];rfl
theorem Fam.Ok.reads (h : A.Ok) {l : Nat -> Bool} (hs : ul A l) {j : Nat} (hj : j < A.n) (hlj : l j=false) (hb : ∀ i,i < j -> A.bef j i=true -> l i=true) : ∀ k ∈ A.rd j,A.G l A.n k=A.St j k:=by
 intro k hk
 have h1 : A.G l j k=A.St j k:=by
  have h2:=AS h hs j (by omega) k (fun u hu hlu=>by
   rcases h.pairs u j hu hj with h3 | h3
   ·rw [hb u hu h3] at hlu;cases hlu
   ·exact fun h4=>(h3.1.1 k h4).1 hk)
  have h3:=h.known j hj k hk
  rw [h2] at h3 ⊢
  unfold dc at h3 ⊢
  split at h3
  ·exact absurd rfl h3
  ·rename_i hc;rw [if_neg hc]
 have h2 : ∀ m,j <= m -> m <= A.n -> A.G l m k=A.St j k:=by
  intro m
  induction m with
  | zero=>intro h3 _;have : j=0:=(by omega);subst this;exact h1
  | succ m ih =>
   intro h3 h4
   rcases x1b m j with h5 | h5
   ·have : j=m + 1:=by omega
    rw [<- this];exact h1
   ·have ihm:=ih h5 (by omega)
    cases hl : l m with
    | false=>simp [Fam.G,hl,ihm]
    | true =>
     have hjm : j < m:=by
      rcases x1b j m with h | h
      ·exact h
      ·have : j=m:=by omega
       subst this;rw [hl] at hlj;cases hlj
     rcases h.pairs j m hjm (by omega) with h6 | h6
     ·rw [hs m (by omega) hl j hjm h6] at hlj;cases hlj
     ·have h7 : (A.ws m).lookup k=none:=fa (fun h8=>(h6.2.1 k h8).1 hk)
      have h8 : aM (A.ks m) (A.St j k)=false:=by
       cases hm : aM (A.ks m) (A.St j k) with
       | false=>rfl
       | true =>
        obtain ⟨q,h9,h10⟩:=mB hm
        exact absurd (h.closed j hj k hk _ _ h10) (h6.2.2 q h9)
      simp only [Fam.G,hl,if_true,Fam.E]
      rw [cO h7,ihm,h8];rfl
 exact h2 A.n (by omega) (x0l _)
theorem nF (m : Nat) (ks : List (Nat × Bool)) (d : D) : fh m (if aM ks d then .any else d)=fh m d:=by
 cases d
 case blk sz es=>rw [nT rfl];rfl
 all_goals (split <;> rfl)
theorem iu (A : Fam) (f g : Nat -> D) (i k m : Nat) (h : k ∉ A.W i) : fh m (A.E i f k)=fh m (f k):=by
 unfold Fam.E
 rw [cO (fa h),nF]
theorem nG (A : Fam) (f g : Nat -> D) (i k : Nat) (h : k ∈ A.W i) : A.E i f k=A.E i g k:=by
 unfold Fam.E
 cases h1 : (A.ws i).lookup k with
 | none=>exact absurd h (pT h1)
 | some d=>rw [d9 h1,d9 h1]
theorem ji (A : Fam) (m : Nat) : A.St (m + 1)=A.E m (A.St m):=by simp [Fam.St,Fam.G]
theorem Fam.Ok.readsC (h : A.Ok) {l : Nat -> Bool} (hs : ul A l) {j : Nat} (hj : j < A.n) (hlj : l j=false) (hb : ∀ i,i < j -> A.bef j i=true -> l i=true) : ∀ p ∈ A.fr j,fh p.2 (A.G l A.n p.1)=fh p.2 (A.St j p.1):=by
 rintro ⟨k,c⟩ hk
 simp only
 have hkj:=h.fine j hj _ hk
 simp only at hkj
 have low : ∀ m,m <= j -> fh c (A.G l m k)=fh c (A.St m k):=by
  intro m
  induction m with
  | zero=>intro _;rfl
  | succ m ih =>
   intro hm
   have ihm:=ih (by omega)
   rw [ji]
   by_cases hw : k ∈ A.W m
   ·cases hl : l m with
    | true =>
     simp only [Fam.G,hl,if_true]
     rw [nG A _ (A.St m) m k hw]
    | false =>
     simp only [Fam.G,hl,x0i,if_false]
     rcases h.pairs m j (by omega) hj with h1 | h1
     ·rw [hb m (by omega) h1] at hl;cases hl
     ·have h2:=(h1.1.1 k hw).2.2 c hk
      unfold Fam.Pres at h2
      rw [ji] at h2
      rw [h2,ihm]
   ·rw [iu A _ (A.St m) m k c hw]
    cases hl : l m with
    | true =>
     simp only [Fam.G,hl,if_true]
     rw [iu A _ (A.St m) m k c hw,ihm]
    | false=>simp only [Fam.G,hl,x0i,if_false];exact ihm
 have run : ∀ m,j <= m -> m <= A.n -> (∀ u,j < u -> u < m -> k ∈ A.W u -> A.Pres u k c) -> fh c (A.St m k)=fh c (A.St j k):=by
  intro m
  induction m with
  | zero=>intro h1 _ _;have : j=0:=(by omega);subst this;rfl
  | succ m ih =>
   intro h1 h2 h3
   rcases x1b m j with h4 | h4
   ·have : j=m + 1:=by omega
    rw [<- this]
   ·have ihm:=ih h4 (by omega) (fun u h5 h6 h7=>h3 u h5 (by omega) h7)
    by_cases hw : k ∈ A.W m
    ·have hjm : j < m:=by
      rcases x1b j m with h | h
      ·exact h
      ·have : j=m:=by omega
       subst this;exact absurd hw hkj
     have:=h3 m hjm (by omega) hw
     unfold Fam.Pres at this
     rw [this,ihm]
    ·rw [ji,iu A _ (A.St m) m k c hw,ihm]
 have high : ∀ m,j <= m -> m <= A.n -> fh c (A.G l m k)=fh c (A.St j k):=by
  intro m
  induction m with
  | zero=>intro h1 _;have : j=0:=(by omega);subst this;exact low 0 (x0l _)
  | succ m ih =>
   intro h1 h2
   rcases x1b m j with h4 | h4
   ·have : j=m + 1:=by omega
    rw [<- this];exact low j (x0l _)
   ·have ihm:=ih h4 (by omega)
    cases hl : l m with
    | false=>simp only [Fam.G,hl,x0i,if_false];exact ihm
    | true =>
     simp only [Fam.G,hl,if_true]
     by_cases hw : k ∈ A.W m
     ·have hjm : j < m:=by
       rcases x1b j m with h | h
       ·exact h
       ·have : j=m:=by omega
        subst this;rw [hl] at hlj;cases hlj
      have pres : ∀ u,j < u -> u < A.n -> k ∈ A.W u -> l u=true -> A.Pres u k c:=fun u h5 h6 h7 h8=>by
       rcases h.pairs j u h5 h6 with h9 | h9
       ·rw [hs u h6 h8 j h5 h9] at hlj;cases hlj
       ·exact (h9.2.1 k h7).2.2 c hk
      have h5:=run m h4 (by omega) (fun u h5 h6 h7=>pres u h5 (by omega) h7 (by
       rcases h.pairs u m h6 (by omega) with h9 | h9
       ·exact hs m (by omega) hl u h6 h9
       ·exact absurd hw (h9.1.1 k h7).2.1))
      have h6:=pres m hjm (by omega) hw hl
      unfold Fam.Pres at h6
      rw [nG A _ (A.St m) m k hw,<- ji,h6,h5]
     ·rw [iu A _ (A.St m) m k c hw,ihm]
 exact high A.n (by omega) (x0l _)
theorem Fam.Ok.more (h : A.Ok) {l l' : Nat -> Bool} (hs : ul A l) {j : Nat} (hj : j < A.n) (hlj : l j=false) (hj' : l' j=true) (hl' : ∀ i,i ≠ j -> l' i=l i) : A.G l' A.n=A.E j (A.G l A.n):=by
 have low : ∀ m,m <= j -> A.G l' m=A.G l m:=by
  intro m
  induction m with
  | zero=>intro _;rfl
  | succ m ih =>
   intro hm
   simp only [Fam.G]
   rw [ih (by omega),hl' m (by omega)]
 have high : ∀ m,j < m -> m <= A.n -> A.G l' m=A.E j (A.G l m):=by
  intro m
  induction m with
  | zero=>intro h1;omega
  | succ m ih =>
   intro h1 h2
   rcases x1b j m with h3 | h3
   ·have ihm:=ih h3 (by omega)
    simp only [Fam.G]
    rw [hl' m (by omega),ihm]
    cases hl : l m with
    | false=>rfl
    | true =>
     simp only [if_true]
     rcases h.pairs j m h3 (by omega) with h4 | h4
     ·rw [hs m (by omega) hl j h3 h4] at hlj;cases hlj
     ·exact (h.comm hj (by omega) h4 _).symm
   ·have : m=j:=by omega
    subst this
    simp only [Fam.G]
    rw [hj',hlj,low m (x0l _)]
    rfl
 exact high A.n hj (x0l _)
end
end Go.Gv

namespace Go.Gv
open Go.RowKit
def ia : Opd -> List Nat
 | .t s=>[s]
 | .c _=>[]
def pH : Option (Nat × Bool) -> List Nat
 | some (s,_)=>[s]
 | none=>[]
def rdS (n : aA) : List Nat:=(am n.op).flatMap ia++pH n.guard
def CO : NOp -> List Opd
 | .mov _=>[]
 | .nck _=>[]
 | .pick _ _ _=>[]
 | .bin _ _ _=>[]
 | .un _ _=>[]
 | .conv _ _=>[]
 | .ext _ _=>[]
 | .fad _ _=>[]
 | .ld _ _ _=>[]
 | .ldQ _ _=>[]
 | .mk _ _=>[]
 | .bld _ _=>[]
 | .boxF _=>[]
 | .blsF _ _ _ _=>[]
 | .len _=>[]
 | .iadA _ _ _ _=>[]
 | o=>am o
def ldN : NOp -> List Opd
 | .ld _ _ x=>[x]
 | _=>[]
def rdR (f : Nat -> D) (n : aA) : List Nat:=((CO n.op).flatMap fun x=>bj (vd f x))++((ldN n.op).flatMap fun x=>aJ (vd f x))
def mnR (f : Nat -> D) (n : aA) : List Nat:=(am n.op).flatMap fun x=>bj (vd f x)
def frR (f : Nat -> D) (n : aA) : List (Nat × Nat):=match n.op with
 | .ldQ o x=>match vd f x with
  | .adr (.r c) _ _=>[(c,o)]
  | _=>[]
 | _=>[]
def fwR (f : Nat -> D) (n : aA) : List (Nat × Nat):=match n.op with
 | .appQ o _ _ x _=>match vd f x with
  | .ref (.n c _ _) _ _=>[(c,o)]
  | _=>[]
 | _=>[]
abbrev Rds:=List Nat × List Nat × List (Nat × Nat) × List (Nat × Nat)
def fC (x : Rds) : List Nat:=x.1.map (4 * ·)++x.2.1.map (4 * · + 1)++x.2.2.1.map (fun p=>4 * (64 * p.1 + p.2 % 64) + 2)++x.2.2.2.map (fun p=>4 * (64 * p.1 + p.2 % 64) + 3)
def rdN (f : Nat -> D) (n : aA) : Rds:=(rdS n++rdR f n,mnR f n,frR f n,fwR f n)
def gL (f : Nat -> D) (n : aA) : List Nat:=fC (rdN f n)
def wrK (ws : List (Nat × D)) (ks : List (Nat × Bool)) : List Nat:=(ws.map fun p=>4 * p.1)++ks.map fun k=>4 * k.1 + 1
def cq : D -> Bool
 | .any=>true
 | _=>false
def chk (f : Nat -> D) (n : aA) : Bool:=((rdS n).all fun s=>!cq (f s)) && ((rdR f n).all fun b=>isB (f b)) && ((frR f n).all fun p=>!(n.dst == some p.1)) && (fwR f n).all fun p=>!(n.dst == some p.1)
def wOk (R : List Nat) (ws : List (Nat × D)) (ks : List (Nat × Bool)) : Bool :=
 (ks.all fun k=>(ws.map (·.1)).contains k.1) && ws.all fun p=>(bj p.2).all fun b=>R.contains (4 * b + 1) || (ws.map (·.1)).contains b
def uB (q : Nat) (r0 : List Nat) : Bool:=r0.any fun z=>decide (z % 4=3) && decide (z / 256=q / 256) && !decide (z / 4 % 64=q / 4 % 64)
def qy (x r0 : List Nat) (r w : List Nat) : Bool:=x.all fun k=>!r.contains k && !w.contains k && r.all fun q=>!(decide (q % 4=2) && decide (k=4 * (q / 256))) || uB q r0
def jy (hs : List Nat) (rw : List (List Nat × List Nat)) : Bool :=
 rw.zipIdx.all fun p=>rw.zipIdx.all fun q=>!decide (p.2 < q.2) || (hs.getD q.2 0).testBit p.2 || (qy p.1.2 p.1.1 q.1.1 q.1.2 && qy q.1.2 q.1.1 p.1.1 p.1.2)
def tm : Option Nat -> List Nat
 | some t=>[4 * t]
 | none=>[]
def kR (C : Nat -> List D -> D -> List D -> Prop) (hs : List Nat) (K : Env -> Prop) : List aA -> Env -> List (List Nat × List Nat) -> Prop
 | [],e,acc=>jy hs acc.reverse=true /\ K e
 | o::os,e,acc=>chk (ac e) o=true /\ match o.guard with
  | none=>aL C (ac e) o.dst (fun ws ks=>wOk (gL (ac e) o) ws ks=true /\ kR C hs K os (ws++dO ks e) ((gL (ac e) o,wrK ws ks)::acc)) o.op
  | some (s,want)=>match ac e s with
   | .bool b=>(b=want -> aL C (ac e) o.dst (fun ws ks=>wOk (gL (ac e) o) ws ks=true /\ kR C hs K os (ws++dO ks e) ((gL (ac e) o,wrK ws ks)::acc)) o.op) /\
     (b=!want -> iX e o.dst fun e'=>kR C hs K os e' ((gL (ac e) o,tm o.dst)::acc))
   | .tup []=>iX e o.dst fun e'=>kR C hs K os e' ((gL (ac e) o,tm o.dst)::acc)
   | _=>False
def dz (n : aA) : Option (List (Nat × D) × List (Nat × Bool)) -> List (Nat × D)
 | some (ws,_)=>ws
 | none=>match n.dst with
  | some t=>[(t,.tup [])]
  | none=>[]
def ee : Option (List (Nat × D) × List (Nat × Bool)) -> List (Nat × Bool)
 | some (_,ks)=>ks
 | none=>[]
theorem xA (n : aA) (x : Option (List (Nat × D) × List (Nat × Bool))) (f : Nat -> D) : nj n x f=eff (dz n x) (ee x) f:=by
 cases x with
 | some y=>rfl
 | none =>
  unfold nj dz ee
  cases n.dst with
  | some t=>rfl
  | none=>exact (lG f).symm
abbrev fj:=aA × Option (List (Nat × D) × List (Nat × Bool)) × Rds
def Tr (C : Nat -> List D -> D -> List D -> Prop) : List fj -> (Nat -> D) -> (Nat -> D) -> Prop
 | [],f,f'=>f'=f
 | (n,x,rd)::ts,f,f'=>gC C n f x /\ chk f n=true /\ wOk (gL f n) (dz n x) (ee x)=true /\ rd=rdN f n /\ Tr C ts (eff (dz n x) (ee x) f) f'
section
variable {C : Nat -> List D -> D -> List D -> Prop}
theorem A1 {hs : List Nat} {K : Env -> Prop} : ∀ (ns : List aA) (e : Env) (acc : List (List Nat × List Nat)),kR C hs K ns e acc -> ∃ (ts : List fj) (e' : Env),ts.map (·.1)=ns /\ Tr C ts (ac e) (ac e') /\ jy hs (acc.reverse++ts.map fun t=>(fC t.2.2,wrK (dz t.1 t.2.1) (ee t.2.1)))=true /\ K e'
 | [],e,acc,h=>⟨[],e,rfl,rfl,by simpa using h.1,h.2⟩
 | n::ns,e,acc,h=>by
  obtain ⟨h0,h⟩:=h
  have fin : ∀ (x : Option (List (Nat × D) × List (Nat × Bool))) (e1 : Env),gC C n (ac e) x -> wOk (gL (ac e) n) (dz n x) (ee x)=true -> ac e1=eff (dz n x) (ee x) (ac e) -> kR C hs K ns e1 ((gL (ac e) n,wrK (dz n x) (ee x))::acc) ->
    ∃ (ts : List fj) (e' : Env),ts.map (·.1)=n::ns /\ Tr C ts (ac e) (ac e') /\ jy hs (acc.reverse++ts.map fun t=>(fC t.2.2,wrK (dz t.1 t.2.1) (ee t.2.1)))=true /\ K e':=by
   intro x e1 h1 h2 h3 h4
   obtain ⟨ts,e',g1,g2,g3,g4⟩:=A1 ns e1 _ h4
   refine ⟨(n,x,rdN (ac e) n)::ts,e',by simp [g1],⟨h1,h0,h2,rfl,by rw [<- h3];exact g2⟩,?_,g4⟩
   simpa [gL] using g3
  have run : (∀ s b,n.guard=some (s,b) -> ac e s=.bool b) -> aL C (ac e) n.dst (fun ws ks=>wOk (gL (ac e) n) ws ks=true /\ kR C hs K ns (ws++dO ks e) ((gL (ac e) n,wrK ws ks)::acc)) n.op ->
    ∃ (ts : List fj) (e' : Env),ts.map (·.1)=n::ns /\ Tr C ts (ac e) (ac e') /\ jy hs (acc.reverse++ts.map fun t=>(fC t.2.2,wrK (dz t.1 t.2.1) (ee t.2.1)))=true /\ K e':=by
   intro hg h1
   obtain ⟨ws,ks,⟨h2,h3⟩,h4⟩:=qh h1
   exact fin (some (ws,ks)) _ ⟨hg,h4 _ ⟨rfl,rfl⟩⟩ h2 (hD ws ks e) h3
  have skp : ∀ s want,n.guard=some (s,want) -> Skp want (ac e s) -> iX e n.dst (fun e'=>kR C hs K ns e' ((gL (ac e) n,tm n.dst)::acc)) ->
    ∃ (ts : List fj) (e' : Env),ts.map (·.1)=n::ns /\ Tr C ts (ac e) (ac e') /\ jy hs (acc.reverse++ts.map fun t=>(fC t.2.2,wrK (dz t.1 t.2.1) (ee t.2.1)))=true /\ K e':=by
   intro s want hg hb h1
   unfold iX at h1
   split at h1
   ·rename_i hd
    refine fin none e ⟨s,want,hg,hb⟩ (by simp [wOk,dz,ee,hd]) (by simp [dz,ee,hd,lG]) ?_
    simpa [dz,ee,wrK,hd,tm] using h1
   ·rename_i t hd
    refine fin none ((t,.tup [])::e) ⟨s,want,hg,hb⟩ (by simp [wOk,dz,ee,hd,bj,aJ]) ?_ ?_
    ·have:=hD [(t,.tup [])] [] e
     simp only [dO,if_true] at this
     simpa [dz,ee,hd] using this
    ·simpa [dz,ee,wrK,hd,tm] using h1
  split at h
  ·rename_i hg
   exact run (fun s b e'=>(by rw [hg] at e';cases e')) h
  ·rename_i s want hg
   split at h
   ·rename_i b hb
    by_cases hbw : b=want
    ·subst hbw
     exact run (fun s' b' e'=>(by rw [hg] at e';cases e';exact hb)) (h.1 rfl)
    ·have hb' : b=!want:=by cases b <;> cases want <;> simp_all
     have h1:=h.2 hb'
     rw [hb'] at hb
     exact skp s want hg (.inl hb) h1
   ·rename_i hb
    exact skp s want hg (.inr hb) h
   ·exact h.elim
def aZ (hs : List Nat) (ts : List fj) (f : Nat -> D) : Fam where
 n:=ts.length
 ws i:=match ts[i]? with
  | some t=>dz t.1 t.2.1
  | none=>[]
 ks i:=match ts[i]? with
  | some t=>ee t.2.1
  | none=>[]
 rd i:=match ts[i]? with
  | some t=>t.2.2.1
  | none=>[]
 mn i:=match ts[i]? with
  | some t=>t.2.2.2.1
  | none=>[]
 fr i:=match ts[i]? with
  | some t=>t.2.2.2.2.1
  | none=>[]
 bef j i:=(hs.getD j 0).testBit i
 f0:=f
theorem j8 (hs : List Nat) (t : fj) (ts : List fj) (f : Nat -> D) : ∀ i,(aZ hs (t::ts) f).St (i + 1)=(aZ hs ts (eff (dz t.1 t.2.1) (ee t.2.1) f)).St i
 | 0=>by simp [Fam.St,Fam.G,Fam.E,aZ]
 | i + 1=>by
  have ih:=j8 hs t ts f i
  have e1 : ∀ (A : Fam) (m : Nat),A.St (m + 1)=A.E m (A.St m):=fun A m=>by simp [Fam.St,Fam.G]
  rw [e1,ih,e1]
  simp [Fam.E,aZ]
theorem o8 (hs : List Nat) : ∀ (ts : List fj) (f f' : Nat -> D),Tr C ts f f' -> f'=(aZ hs ts f).St ts.length /\ ∀ (i : Nat) (t : fj),ts[i]? = some t -> gC C t.1 ((aZ hs ts f).St i) t.2.1 /\ chk ((aZ hs ts f).St i) t.1=true /\ wOk (fC t.2.2) (dz t.1 t.2.1) (ee t.2.1)=true /\ t.2.2=rdN ((aZ hs ts f).St i) t.1
 | [],f,f',h=>⟨h,fun i t h=>by simp at h⟩
 | (n,x,rd)::ts,f,f',h=>by
  obtain ⟨h1,h2,h3,rfl,h4⟩:=h
  obtain ⟨g1,g2⟩:=o8 hs ts _ f' h4
  refine ⟨by rw [x0N,j8];exact g1,fun i t hi=>?_⟩
  cases i with
  | zero=>simp at hi;subst hi;exact ⟨h1,h2,by simpa [gL] using h3,rfl⟩
  | succ i=>rw [j8];exact g2 i t (by simpa using hi)
theorem wL {f : Nat -> D} {n : aA} {x : Option (List (Nat × D) × List (Nat × Bool))} {c : Nat} (h2 : (n.dst == some c)=false) (hx : x=none \/ ∃ d ks,x=some ((match n.dst with | some t=>[(t,d)] | none=>[]),ks)) : c ∉ (dz n x).map (·.1):=by
 have h3 : n.dst ≠ some c:=by simpa using h2
 rcases hx with rfl | ⟨d,ks,rfl⟩
 ·simp only [dz]
  split
  ·rename_i t e
   rw [e] at h3
   simp only [x0G,x0W,x0K,x09,or_false]
   exact fun e=>h3 (by rw [e])
  ·simp
 ·simp only [dz]
  split
  ·rename_i t e
   rw [e] at h3
   simp only [x0G,x0W,x0K,x09,or_false]
   exact fun e=>h3 (by rw [e])
  ·simp
theorem BG {f : Nat -> D} {n : aA} {x : Option (List (Nat × D) × List (Nat × Bool))} (h : gC C n f x) (h2 : chk f n=true) {p : Nat × Nat} (hp : p ∈ frR f n) : p.1 ∉ (dz n x).map (·.1):=by
 have h3 : (n.dst == some p.1)=false:=by
  simp only [chk,x0a,x0f] at h2
  simpa using h2.1.2 p hp
 refine wL (f:=f) h3 ?_
 cases x with
 | none=>exact .inl rfl
 | some y =>
  obtain ⟨ws,ks⟩:=y
  right
  have h:=h.2
  unfold frR at hp
  split at hp
  ·rename_i q x0 heq
   rw [heq] at h
   simp only [aL] at h
   split at h
   ·obtain ⟨_,h⟩:=h
    split at h
    ·obtain ⟨r,_,d,_,h⟩:=h
     unfold dX at h
     split at h
     ·rename_i t e
      obtain ⟨rfl,rfl⟩:=h
      exact ⟨_,_,by rw [e]⟩
     ·rename_i e
      obtain ⟨rfl,rfl⟩:=h
      exact ⟨.any,_,by rw [e]⟩
    ·exact h.elim
   ·exact h.elim
  ·cases hp
theorem th {es : List (List D)} {sz i o m : Nat} {row : List D} (h : es[i]? = some row) (ho : o < row.length) (hm : o ≠ m) : fh m (.blk sz (bJ es i o 1 [.any]))=fh m (.blk sz es):=by
 simp only [fh,bJ,h,x1B,x0j]
 apply List.ext_getElem?
 intro j
 rw [x0y,x0y,List.getElem?_set]
 split
 ·rename_i e
  subst e
  split
  ·rw [h]
   simp only [x06,x0j]
   have hl : (row.take o).length=o:=by simp;omega
   rw [x01]
   by_cases h1 : m < o
   ·rw [x0E (by omega),x0A h1]
   ·rw [x0z (by omega),hl,x0z (by simp;omega),x0t]
    congr 1;simp only [x0N,List.length_nil];omega
  ·rename_i h1
   rw [x0M (by omega)]
 ·rfl
theorem BF {f : Nat -> D} {n : aA} {x : Option (List (Nat × D) × List (Nat × Bool))} (h : gC C n f x) (h2 : chk f n=true) {p : Nat × Nat} (hp : p ∈ fwR f n) {m : Nat} (hm : p.2 ≠ m) : fh m (eff (dz n x) (ee x) f p.1)=fh m (f p.1):=by
 have h3 : (n.dst == some p.1)=false:=by
  simp only [chk,x0a,x0f] at h2
  simpa using h2.2 p hp
 cases x with
 | none =>
  rw [cO (fa (wL (f:=f) h3 (.inl rfl)))]
  exact nF _ _ _
 | some y =>
  obtain ⟨ws,ks⟩:=y
  have h:=h.2
  have h30 : n.dst ≠ some p.1:=by simpa using h3
  unfold fwR at hp
  split at hp
  ·rename_i q sz by_ x0 y0 heq
   rw [heq] at h
   simp only [aL] at h
   split at h
   ·rename_i t hd
    split at h
    ·rename_i c i o' k n' ex
     rw [ex] at hp
     simp only [x0K,x09,or_false] at hp
     subst hp
     simp only at hm h30 ⊢
     obtain ⟨rfl,h⟩:=h
     obtain ⟨rows,bs,⟨h4,h5,h⟩,_⟩:=dE h
     split at h
     ·rename_i sz0 es0 hf
      obtain ⟨row0,h6,es,h7,h8,h9,h10,h11⟩:=h
      subst h10 h11
      have e1 : (c == t)=false:=by simp only [beq_eq_false_iff_ne,ne_eq];exact fun e=>h30 (by rw [hd,e])
      have e2 : (c == rt t 0)=false:=by simpa using h5
      simp only [dz]
      rw [aN (d:=.blk sz0 (bJ es0 i o' 1 [.any])) (by simp [x0e,e1,e2]),hf]
      exact th h6 (x0c.1 h7).1 hm
     ·exact h.elim
    ·exact h.elim
   ·exact h.elim
  ·cases hp
theorem BC {hs : List Nat} {ts : List fj} {f f' : Nat -> D} (h : Tr C ts f f') (hi : jy hs (ts.map fun t=>(fC t.2.2,wrK (dz t.1 t.2.1) (ee t.2.1)))=true) : (aZ hs ts f).Ok:=by
 obtain ⟨_,hs'⟩:=o8 hs ts f f' h
 have get : ∀ i,i < ts.length -> ∃ t,ts[i]? = some t:=fun i hi=>⟨_,x0d hi⟩
 have e4 : ∀ {x : Rds} {z : Nat},z ∈ fC x -> (∃ k ∈ x.1,z=4 * k) \/ (∃ k ∈ x.2.1,z=4 * k + 1) \/ (∃ p ∈ x.2.2.1,z=4 * (64 * p.1 + p.2 % 64) + 2) \/ ∃ p ∈ x.2.2.2,z=4 * (64 * p.1 + p.2 % 64) + 3:=by
  intro x z hz
  simp only [fC,x0m,x0s] at hz
  rcases hz with ((⟨k,h1,h2⟩ | ⟨k,h1,h2⟩) | ⟨p,h1,h2⟩) | ⟨p,h1,h2⟩
  ·exact .inl ⟨k,h1,h2.symm⟩
  ·exact .inr (.inl ⟨k,h1,h2.symm⟩)
  ·exact .inr (.inr (.inl ⟨p,h1,h2.symm⟩))
  ·exact .inr (.inr (.inr ⟨p,h1,h2.symm⟩))
 have e1 : ∀ {x : Rds} {k : Nat},k ∈ x.1 -> 4 * k ∈ fC x:=fun {x k} hk=>by
  simp only [fC,x0m,x0s];exact .inl (.inl (.inl ⟨k,hk,rfl⟩))
 have e2 : ∀ {x : Rds} {k : Nat},k ∈ x.2.1 -> 4 * k + 1 ∈ fC x:=fun {x k} hk=>by
  simp only [fC,x0m,x0s];exact .inl (.inl (.inr ⟨k,hk,rfl⟩))
 have e3 : ∀ {x : Rds} {p : Nat × Nat},p ∈ x.2.2.1 -> 4 * (64 * p.1 + p.2 % 64) + 2 ∈ fC x:=fun {x p} hk=>by
  simp only [fC,x0m,x0s];exact .inl (.inr ⟨p,hk,rfl⟩)
 refine ⟨fun i hn k hk=>?_,fun i hn p hp b all hb=>?_,fun i hn k hk b all hb=>?_,fun i hn p hp hk=>?_,fun i hn k hk=>?_,fun i j hij hn=>?_⟩
 ·obtain ⟨t,ht⟩:=get i hn
  obtain ⟨_,_,h3,_⟩:=hs' i t ht
  simp only [aZ,ht] at hk
  simp only [Fam.W,aZ,ht]
  simp only [wOk,x0a,x0f] at h3
  exact x0R.1 (h3.1 k hk)
 ·obtain ⟨t,ht⟩:=get i hn
  obtain ⟨_,_,h3,_⟩:=hs' i t ht
  simp only [aZ,ht] at hp
  simp only [Fam.W,aZ,ht]
  simp only [wOk,x0a,x0f,x05] at h3
  rcases h3.2 p hp b (i9 hb) with h4 | h4
  ·left
   have h5:=x0R.1 h4
   rcases e4 h5 with ⟨x,_,h6⟩ | ⟨x,h7,h6⟩ | ⟨x,_,h6⟩ | ⟨x,_,h6⟩
   ·omega
   ·have : x=b:=by omega
    subst this;exact h7
   ·omega
   ·omega
  ·exact .inr (x0R.1 h4)
 ·obtain ⟨t,ht⟩:=get i hn
  obtain ⟨h1,h2,_,h4⟩:=hs' i t ht
  simp only [aZ,ht] at hk ⊢
  rw [h4] at hk ⊢
  simp only [chk,x0a,x0f] at h2
  rcases x0m.1 hk with h5 | h5
  ·simp only [rdS] at h5
   rcases x0m.1 h5 with h6 | h6
   ·obtain ⟨x,h7,h8⟩:=x1n.1 h6
    cases x with
    | t s =>
     simp only [ia,x07] at h8
     subst h8
     refine x1n.2 ⟨_,h7,?_⟩
     exact i9 hb
    | c d=>simp [ia] at h8
   ·
    have : (∃ bb,(aZ hs ts f).St i k=.bool bb) \/ (aZ hs ts f).St i k=.tup []:=by
     cases hg : t.1.guard with
     | none=>rw [hg] at h6;simp [pH] at h6
     | some q =>
      obtain ⟨s,want⟩:=q
      rw [hg] at h6
      simp only [pH,x07] at h6
      subst h6
      unfold gC at h1
      split at h1
      ·exact .inl ⟨want,h1.1 k want hg⟩
      ·obtain ⟨s',b',h7,h8⟩:=h1
       rw [hg] at h7;cases h7
       exact h8.imp (fun h8=>⟨_,h8⟩) id
    simp only [aZ] at this hb
    rcases this with ⟨bb,hbb⟩ | hbb <;> rw [hbb] at hb <;> simp [cK,aG] at hb
  ·have h6:=h2.1.1.2 k h5
   simp only [aZ] at h6 hb
   have h7 : ∀ d : D,isB d=true -> cK b all d=false:=fun d hd=>by cases d <;> first | rfl | (simp [isB] at hd)
   rw [h7 _ h6] at hb;cases hb
 ·
  obtain ⟨t,ht⟩:=get i hn
  obtain ⟨h1,h2,h3,h4⟩:=hs' i t ht
  simp only [aZ,ht] at hp
  simp only [Fam.W,aZ,ht] at hk
  rw [h4] at hp
  simp only [rdN] at hp
  exact BG h1 h2 hp hk
 ·obtain ⟨t,ht⟩:=get i hn
  obtain ⟨h1,h2,_,h4⟩:=hs' i t ht
  simp only [aZ,ht] at hk ⊢
  rw [h4] at hk
  simp only [chk,x0a,x0f] at h2
  rcases x0m.1 hk with h5 | h5
  ·have:=h2.1.1.1 k h5
   intro e
   simp only [aZ] at this
   rw [e] at this
   simp [cq] at this
  ·have:=h2.1.1.2 k h5
   intro e
   simp only [aZ] at this
   rw [e] at this
   simp [isB] at this
 ·obtain ⟨t,ht⟩:=get i (Nat.lt_trans hij hn)
  obtain ⟨u,hu⟩:=get j hn
  simp only [jy,x0f] at hi
  have h1:=hi ((fC t.2.2,wrK (dz t.1 t.2.1) (ee t.2.1)),i) (List.mem_zipIdx_iff_getElem?.2 (by simp [ht])) ((fC u.2.2,wrK (dz u.1 u.2.1) (ee u.2.1)),j) (List.mem_zipIdx_iff_getElem?.2 (by simp [hu]))
  simp only [x05,x0r,x0p,x0a] at h1
  rcases h1 with (h1 | h1) | h1
  ·exact absurd hij h1
  ·exact .inl h1
  ·right
   simp only [qy,x0f,x0a,x0r] at h1
   have nm : ∀ {l : List Nat} {k : Nat},l.contains k=false -> k ∉ l:=fun h hm=>by
    have:=x0R.2 hm
    rw [h] at this;cases this
   have one : ∀ (a b : fj) (x y : Nat),ts[x]? = some a -> ts[y]? = some b -> (∀ k ∈ wrK (dz a.1 a.2.1) (ee a.2.1),((fC b.2.2).contains k=false /\ (wrK (dz b.1 b.2.1) (ee b.2.1)).contains k=false) /\ ∀ q ∈ fC b.2.2,(!(decide (q % 4=2) && decide (k=4 * (q / 256))) || uB q (fC a.2.2))=true) -> (aZ hs ts f).Apart x y:=by
    intro a b x y ha hb hab
    refine ⟨fun k hk=>?_,fun k hk hm=>?_⟩
    ·have hk0:=hk
     simp only [Fam.W,aZ,ha] at hk
     obtain ⟨p,hp,rfl⟩:=x0s.1 hk
     obtain ⟨⟨h2,h3⟩,h4⟩:=hab (4 * p.1) (x0m.2 (.inl (x0s.2 ⟨p,hp,rfl⟩)))
     refine ⟨fun hr=>nm h2 (e1 (by simp only [aZ,hb] at hr;exact hr)),fun hw=>nm h3 (x0m.2 (.inl ?_)),fun m hm=>?_⟩
     ·simp only [Fam.W,aZ,hb] at hw
      obtain ⟨q,hq,e⟩:=x0s.1 hw
      exact x0s.2 ⟨q,hq,by rw [e]⟩
     ·simp only [aZ,hb] at hm
      have h5:=h4 _ (e3 hm)
      have h6 : (4 * (64 * p.1 + m % 64) + 2) % 4=2:=by omega
      have h7 : (4 * (64 * p.1 + m % 64) + 2) / 256=p.1:=by omega
      have h8 : (4 * (64 * p.1 + m % 64) + 2) / 4 % 64=m % 64:=by omega
      simp only [h6,h7,decide_true,Bool.and_self,Bool.not_true,Bool.false_or,uB,h8,x0x,x0a,x0g,x0r,x0p] at h5
      obtain ⟨z,hz,⟨hz3,hzc⟩,hzo⟩:=h5
      obtain ⟨g1,g2,_,g4⟩:=hs' x a ha
      rcases e4 hz with ⟨_,_,h9⟩ | ⟨_,_,h9⟩ | ⟨_,_,h9⟩ | ⟨p',hp',h9⟩
      ·omega
      ·omega
      ·omega
      ·have e5 : p'.1=p.1:=by omega
       have e6 : p'.2 % 64 ≠ m % 64:=fun e=>hzo (by omega)
       rw [g4] at hp'
       simp only [rdN] at hp'
       have:=BF g1 g2 hp' (m:=m) (fun e=>e6 (by rw [e]))
       unfold Fam.Pres
       rw [ji]
       unfold Fam.E
       simp only [aZ,ha] at this ⊢
       rw [e5] at this
       exact this
    ·simp only [aZ,ha] at hk
     obtain ⟨⟨h2,_⟩,_⟩:=hab (4 * k.1 + 1) (x0m.2 (.inr (x0s.2 ⟨k,hk,rfl⟩)))
     refine nm h2 (e2 ?_)
     simp only [aZ,hb] at hm;exact hm
   exact ⟨one t u i j ht hu h1.1,one u t j i hu ht h1.2⟩
end
def uH (ops : Array Oper) (H : Array Nat) (j : Nat) : Nat:=match ops[j]? with
 | some o=>o.after.toList.foldl (fun s e=>if Region.binds .any e then s ||| 2 ^ e.on ||| H.getD e.on 0 else s) 0
 | none=>0
def sc (ops : Array Oper) (j : Nat) : Bool:=match ops[j]? with
 | some o=>o.after.toList.all fun e=>!Region.binds .any e || decide (e.on < j)
 | none=>true
theorem md (H : Array Nat) (i : Nat) : ∀ (l : List Edge) (s : Nat),(l.foldl (fun s e=>if Region.binds .any e then s ||| 2 ^ e.on ||| H.getD e.on 0 else s) s).testBit i=true ->
  s.testBit i=true \/ ∃ e ∈ l,Region.binds .any e=true /\ (i=e.on \/ (H.getD e.on 0).testBit i=true)
 | [],s,h=>.inl h
 | e::l,s,h=>by
  simp only [List.foldl_cons] at h
  rcases md H i l _ h with h1 | ⟨e',h1,h2⟩
  ·split at h1
   ·rename_i hb
    simp only [Nat.testBit_or,x05,Nat.testBit_two_pow,x0g] at h1
    rcases h1 with (h1 | h1) | h1
    ·exact .inl h1
    ·exact .inr ⟨e,by simp,hb,.inl h1.symm⟩
    ·exact .inr ⟨e,by simp,hb,.inr h1⟩
   ·exact .inl h1
  ·exact .inr ⟨e',by simp [h1],h2⟩
theorem za {ops : Array Oper} {H : Array Nat} {j i : Nat} (h : (uH ops H j).testBit i=true) : ∃ o,ops[j]? = some o /\ ∃ e ∈ o.after.toList,Region.binds .any e=true /\ (i=e.on \/ (H.getD e.on 0).testBit i=true):=by
 unfold uH at h
 split at h
 ·rename_i o ho
  rcases md H i _ 0 h with h1 | h1
  ·simp at h1
  ·exact ⟨o,ho,h1⟩
 ·simp at h
def qJ (hs : List Nat) (ops : Array Oper) : Bool:=(List.range ops.size).all fun j=>hs.getD j 0 == uH ops hs.toArray j && sc ops j
def left (n : Nat) (l : Nat -> Bool) : Nat:=((List.range n).filter fun i=>!l i).length
theorem nM {p q : Nat -> Bool} {j : Nat} (hpq : ∀ i,q i=true -> p i=true) (hp : p j=true) (hq : q j=false) : ∀ (l : List Nat),j ∈ l -> (l.filter q).length < (l.filter p).length
 | [],h=>by simp at h
 | i::l,h=>by
  have hle : (l.filter q).length <= (l.filter p).length:=by
   clear h
   induction l with
   | nil=>simp
   | cons x l ih =>
    simp only [List.filter_cons]
    cases hqx : q x with
    | true=>simp [hpq x hqx,ih]
    | false=>cases p x <;> simp <;> omega
  by_cases hij : i=j
  ·subst hij
   simp [hp,hq]
   omega
  ·have:=nM hpq hp hq l (by simpa [Ne.symm hij] using h)
   simp only [List.filter_cons]
   cases hqx : q i with
   | true=>simp [hpq i hqx,this]
   | false=>cases p i <;> simp <;> omega
section
variable {P : Program} {F : Fid} {C : Nat -> List D -> D -> List D -> Prop} {nt : Nat} {S : Nat -> Prop} {L : Nat -> Option Loc} {w0 : World} {M0 : Mem} {f : Nat -> D} {M : Mem} {a : Act} {w : World} {Q : Exit -> Act -> World -> Prop}
def lst (listed : Array Bool) : Nat -> Bool:=fun i=>listed.getD i true
theorem i8 {ops : Array Oper} {listed : Array Bool} {i : Nat} : i ∈ Region.ready .any ops listed ↔ i < ops.size /\ lst listed i=false /\ ∃ o,ops[i]? = some o /\ ∀ e ∈ o.after,Region.binds .any e=true -> listed.getD e.on false=true:=by
 simp only [Region.ready,List.mem_filter,x0H,x0a,x0r,lst]
 constructor
 ·rintro ⟨h1,h2,h3⟩
  refine ⟨h1,h2,ops[i],x1a h1,fun e he hb=>?_⟩
  rw [x1a h1] at h3
  simp only [x06,x1B,Array.all_eq_true_iff_forall_mem,x05,x0r] at h3
  rcases h3 e he with h4 | h4
  ·rw [hb] at h4;cases h4
  ·exact h4
 ·rintro ⟨h1,h2,o,h3,h4⟩
  refine ⟨h1,h2,?_⟩
  rw [h3]
  simp only [x06,x1B,Array.all_eq_true_iff_forall_mem,x05,x0r]
  intro e he
  cases hb : Region.binds .any e with
  | false=>exact .inl rfl
  | true=>exact .inr (h4 e he hb)
theorem u9 (hs : List Nat) (j : Nat) : hs.toArray.getD j 0=hs.getD j 0:=by
 simp [x1h,x1p]
theorem tP {f g : Nat -> D} {n : aA} {dst : Option Nat} {K : List (Nat × D) -> List (Nat × Bool) -> Prop} (hv : ∀ x ∈ am n.op,vd g x=vd f x) (hr : ∀ b ∈ rdR f n,g b=f b) (hc : ∀ p ∈ frR f n,fh p.2 (g p.1)=fh p.2 (f p.1)) (h : aL C f dst K n.op) : aL C g dst K n.op:=by
 obtain ⟨d0,o,g0⟩:=n
 simp only at hv h ⊢
 have full : (∀ x ∈ am o,x ∈ CO o) -> aL C g dst K o:=fun hN=>rC hv (fun x hx b hb=>hr b (x0m.2 (.inl (x1n.2 ⟨x,hN x hx,i9 hb⟩)))) h
 cases o with
 | mov x=>simp only [aL,res,hv x (by simp [am])] at h ⊢;exact h
 | nck x=>simp only [aL,res,hv x (by simp [am])] at h ⊢;exact h
 | un op x=>simp only [aL,res,hv x (by simp [am])] at h ⊢;exact h
 | conv k x=>simp only [aL,res,hv x (by simp [am])] at h ⊢;exact h
 | ext i x=>simp only [aL,res,hv x (by simp [am])] at h ⊢;exact h
 | fad i x=>simp only [aL,res,hv x (by simp [am])] at h ⊢;exact h
 | boxF x=>simp only [aL,res,hv x (by simp [am])] at h ⊢;exact h
 | blsF sz len zs ps =>
  have e : ∀ p ∈ ps,vd g p.2=vd f p.2:=fun p hp=>hv _ (x0s.2 ⟨p,hp,rfl⟩)
  simp only [aL,res] at h ⊢
  rw [gR e]
  exact ⟨fun p hp=>by rw [e p hp];exact h.1 p hp,h.2⟩
 | len x=>simp only [aL,res,hv x (by simp [am])] at h ⊢;exact h
 | pick c x y=>simp only [aL,res,hv c (by simp [am]),hv x (by simp [am]),hv y (by simp [am])] at h ⊢;exact h
 | bin op x y=>simp only [aL,res,hv x (by simp [am]),hv y (by simp [am])] at h ⊢;exact h
 | iadA l s x i=>simp only [aL,res,hv x (by simp [am]),hv i (by simp [am])] at h ⊢;exact h
 | bld zs ps =>
  have e : ∀ p ∈ ps,vd g p.2.2=vd f p.2.2:=fun p hp=>hv _ (x0s.2 ⟨p,hp,rfl⟩)
  simp only [aL,res] at h ⊢
  obtain ⟨h1,h2,h3⟩:=h
  have e2 : (ps.all fun p=>isV (vd g p.2.2))=(ps.all fun p=>isV (vd f p.2.2)):=by
   rw [x04,x0f,x0f]
   exact ⟨fun h p hp=>by rw [<- e p hp];exact h p hp,fun h p hp=>by rw [e p hp];exact h p hp⟩
  have m1 : (ps.map fun p=>(p.1,p.2.1,vd g p.2.2))=ps.map fun p=>(p.1,p.2.1,vd f p.2.2):=x0o fun p hp=>by rw [e p hp]
  have m2 : (ps.map fun p=>(p.1,p.2.1,bP (vd g p.2.2)))=ps.map fun p=>(p.1,p.2.1,bP (vd f p.2.2)):=x0o fun p hp=>by rw [e p hp]
  rw [e2,m1,m2]
  exact ⟨fun p hp=>by rw [e p hp];exact h1 p hp,h2,h3⟩
 | mk k xs =>
  have e : ∀ x ∈ xs,vd g x=vd f x:=fun x hx=>hv x hx
  simp only [aL,res] at h ⊢
  obtain ⟨h1,h2,h3⟩:=h
  have e2 : (xs.all fun x=>isV (vd g x))=(xs.all fun x=>isV (vd f x)):=by
   rw [x04,x0f,x0f]
   exact ⟨fun h p hp=>by rw [<- e p hp];exact h p hp,fun h p hp=>by rw [e p hp];exact h p hp⟩
  rw [e2,x0o e]
  exact ⟨fun p hp=>by rw [e p hp];exact h1 p hp,h2,h3⟩
 | ldQ q x =>
  have e:=hv x (by simp [am])
  simp only [aL,e] at h ⊢
  split at h
  ·rename_i c i off ex
   obtain ⟨rfl,h⟩:=h
   split at h
   ·rename_i sz es hf
    obtain ⟨r,h1,d,h2,h3⟩:=h
    have h4:=hc (c,off) (by simp [frR,ex])
    simp only [hf,fh] at h4
    refine ⟨rfl,?_⟩
    split at h4
    ·rename_i sz' es' hg
     simp only [x0j] at h4
     have h5:=congrArg (fun l=>l[i]?) h4
     simp only [x0y,h1,x06] at h5
     rw [x0h] at h5
     obtain ⟨r',h6,h7⟩:=h5
     simp only [hg]
     exact ⟨r',h6,d,by rw [h7];exact h2,h3⟩
    ·cases h4
   ·exact h.elim
  ·exact h.elim
 | ld n ag x =>
  have e:=hv x (by simp [am])
  simp only [aL,res,e] at h ⊢
  split at h
  ·rename_i p i off ex
   rw [c8 (p:=p) (hr _ (x0m.2 (.inr (x1n.2 ⟨x,by simp [ldN],by rw [ex];simp [aJ]⟩))))]
   exact h
  ·exact h
  ·exact h
  ·exact h
 | _=>exact full (fun x hx=>hx)
theorem s9 (hC : bG P F C) (hL : NoL L) {hs : List Nat} {ops : Array Oper} {ts : List fj} {f' : Nat -> D} (htr : Tr C ts f f') (hok : (aZ hs ts f).Ok) (hlen : ts.length=ops.size) (hb : ∀ j,j < ops.size -> hs.getD j 0=uH ops hs.toArray j) (hed : ∀ (j : Nat) (o : Oper),ops[j]? = some o -> ∀ e ∈ o.after,Region.binds .any e=true -> e.on < j)
  (hk : ∀ (j : Nat) (t : fj) (o : Oper),ts[j]? = some t -> ops[j]? = some o -> nU P F nt ops t.1 o=true)
  (hQ : ∀ M a w,SR F nt S L w0 M0 f' M a w -> Q .normal a w) : ∀ (fuel : Nat) (listed : Array Bool) (M : Mem) (a : Act) (w : World),listed.size=ops.size -> left ops.size (lst listed) <= fuel ->
   (∀ j,j < ops.size -> lst listed j=true -> ∀ i,(hs.getD j 0).testBit i=true -> i < ops.size /\ lst listed i=true) -> SR F nt S L w0 M0 ((aZ hs ts f).G (lst listed) ts.length) M a w -> wpAny P .any ops Q fuel listed a w:=by
 obtain ⟨hf',hsp⟩:=o8 hs ts f f' htr
 have hall : ∀ (listed : Array Bool),(∀ i,i < ops.size -> lst listed i=true) -> (aZ hs ts f).G (lst listed) ts.length=f':=by
  intro listed h
  rw [hf']
  unfold Fam.St
  have : ∀ m,m <= ts.length -> (aZ hs ts f).G (lst listed) m=(aZ hs ts f).G (fun _=>true) m:=by
   intro m
   induction m with
   | zero=>intro _;rfl
   | succ m ih =>
    intro hm
    simp only [Fam.G]
    rw [h m (by omega),ih (by omega)]
    rfl
  exact this _ (x0l _)
 intro fuel
 induction fuel with
 | zero =>
  intro listed M a w hs' hf hcl h
  have hal : ∀ i,i < ops.size -> lst listed i=true:=by
   intro i hi
   cases hl : lst listed i with
   | true=>rfl
   | false =>
    have : i ∈ (List.range ops.size).filter fun i=>!lst listed i:=by simp [hi,hl]
    have:=List.length_pos_of_mem this
    unfold left at hf
    omega
  refine ⟨?_,hQ M a w (by rw [<- hall listed hal];exact h)⟩
  rw [List.eq_nil_iff_forall_not_mem]
  intro i hi
  obtain ⟨h1,h2,_⟩:=i8.1 hi
  rw [hal i h1] at h2
  cases h2
 | succ fuel ih =>
  intro listed M a w hs' hf hcl h
  refine ⟨fun hr=>hQ M a w ?_,fun j hj=>?_⟩
  ·have hal : ∀ i,i < ops.size -> lst listed i=true:=by
    intro i
    induction i using Nat.strongRecOn with
    | _ i ihi =>
     intro hi
     cases hl : lst listed i with
     | true=>rfl
     | false =>
      have : i ∈ Region.ready .any ops listed:=i8.2 ⟨hi,hl,ops[i],x1a hi,fun e he hb=>by
       have h1:=hed i _ (x1a hi) e he hb
       have h2:=ihi e.on h1 (by omega)
       unfold lst at h2
       rw [x1h] at h2 ⊢
       rw [x1a (by omega)] at h2 ⊢
       simpa using h2⟩
      rw [hr] at this
      cases this
   rw [<- hall listed hal]
   exact h
  ·obtain ⟨h1,h2,o,h3,h4⟩:=i8.1 hj
   obtain ⟨t,ht⟩ : ∃ t,ts[j]? = some t:=⟨ts[j]'(by omega),x0d (by omega)⟩
   have hanc : ∀ i,(hs.getD j 0).testBit i=true -> i < ops.size /\ lst listed i=true:=by
    intro i hi
    rw [hb j h1] at hi
    obtain ⟨o',ho',e,he,hbd,h5⟩:=za hi
    rw [h3] at ho'
    cases ho'
    have h6:=hed j o h3 e (by simpa using he) hbd
    have h7:=h4 e (by simpa using he) hbd
    have h8 : lst listed e.on=true:=by
     unfold lst
     rw [x1h] at h7 ⊢
     rw [x1a (by omega)] at h7 ⊢
     simpa using h7
    rcases h5 with rfl | h5
    ·exact ⟨by omega,h8⟩
    ·rw [u9] at h5
     exact hcl e.on (by omega) h8 i h5
   have hshut : ul (aZ hs ts f) (lst listed):=fun j' hj' hl' i _ hbf=>(hcl j' (by simpa [aZ,hlen] using hj') hl' i hbf).2
   have hjn : j < (aZ hs ts f).n:=by simp only [aZ];omega
   have hreads:=hok.reads hshut hjn h2 (fun i _ hbf=>(hanc i hbf).2)
   have hcols:=hok.readsC hshut hjn h2 (fun i _ hbf=>(hanc i hbf).2)
   obtain ⟨g1,g2,g3,g4⟩:=hsp j t ht
   have hrd : (aZ hs ts f).rd j=t.2.2.1:=by simp [aZ,ht]
   have hn : (aZ hs ts f).n=ts.length:=rfl
   rw [hrd,hn,g4] at hreads
   have hfr : (aZ hs ts f).fr j=frR ((aZ hs ts f).St j) t.1:=by
    have : (aZ hs ts f).fr j=t.2.2.2.2.1:=by simp [aZ,ht]
    rw [this,g4];rfl
   rw [hfr,hn] at hcols
   have hstep : gC C t.1 ((aZ hs ts f).G (lst listed) ts.length) t.2.1:=by
    have hv : ∀ x ∈ am t.1.op,vd ((aZ hs ts f).G (lst listed) ts.length) x=vd ((aZ hs ts f).St j) x:=fun x hx=>by
     cases x with
     | t s=>exact hreads s (x0m.2 (.inl (x0m.2 (.inl (x1n.2 ⟨_,hx,by simp [ia]⟩)))))
     | c d=>rfl
    have ha : ∀ b ∈ rdR ((aZ hs ts f).St j) t.1,(aZ hs ts f).G (lst listed) ts.length b=(aZ hs ts f).St j b:=fun b hb=>hreads b (x0m.2 (.inr hb))
    have hg : ∀ s b,t.1.guard=some (s,b) -> (aZ hs ts f).G (lst listed) ts.length s=(aZ hs ts f).St j s:=fun s b e =>
     hreads s (x0m.2 (.inl (x0m.2 (.inr (by rw [e];simp [pH])))))
    unfold gC at g1 ⊢
    split at g1
    ·exact ⟨fun s b e=>by rw [hg s b e];exact g1.1 s b e,tP hv ha hcols g1.2⟩
    ·obtain ⟨s,b,e1,e2⟩:=g1
     exact ⟨s,b,e1,by rw [hg s b e1];exact e2⟩
   have hlst : ∀ i,lst (listed.setIfInBounds j true) i=(if i=j then true else lst listed i):=by
    intro i
    unfold lst
    rw [x1h,x1h,x1w]
    by_cases hij : i=j
    ·subst hij;simp [show i < listed.size from by omega]
    ·simp [hij,Ne.symm hij]
   have hlst' : ∀ i,i ≠ j -> lst (listed.setIfInBounds j true) i=lst listed i:=fun i hi=>by rw [hlst,if_neg hi]
   have hlstj : lst (listed.setIfInBounds j true) j=true:=by rw [hlst,if_pos rfl]
   have hmore : (aZ hs ts f).G (lst (listed.setIfInBounds j true)) ts.length=nj t.1 t.2.1 ((aZ hs ts f).G (lst listed) ts.length):=by
    rw [xA]
    have:=hok.more hshut hjn h2 hlstj hlst'
    rw [hn] at this
    rw [this]
    simp [Fam.E,aZ,ht]
   have hfin : ∀ M' a' w',SR F nt S L w0 M0 (nj t.1 t.2.1 ((aZ hs ts f).G (lst listed) ts.length)) M' a' w' -> wpAny P .any ops Q fuel (listed.setIfInBounds j true) a' w':=by
    intro M' a' w' h'
    refine ih _ M' a' w' (by simpa using hs') ?_ (fun j' hj' hl' i hi=>?_) (by rw [hmore];exact h')
    ·have : left ops.size (lst (listed.setIfInBounds j true)) < left ops.size (lst listed):=by
      refine nM (j:=j) (fun i hi=>?_) (by simp [h2]) (by simp [hlstj]) _ (by simpa using h1)
      by_cases hij : i=j
      ·subst hij;simp [h2]
      ·rw [hlst' i hij] at hi;exact hi
     omega
    ·by_cases hjj : j'=j
     ·subst hjj
      obtain ⟨q1,q2⟩:=hanc i hi
      refine ⟨q1,?_⟩
      rw [hlst];split
      ·rfl
      ·exact q2
     ·rw [hlst' j' hjj] at hl'
      obtain ⟨q1,q2⟩:=hcl j' hj' hl' i hi
      refine ⟨q1,?_⟩
      rw [hlst];split
      ·rfl
      ·exact q2
   have:=AZ hC hL (hk j t o ht h3) h hstep (R:=wpAny P .any ops Q fuel (listed.setIfInBounds j true)) hfin (Q:=Q)
   unfold wpOp
   rw [h3]
   exact this
theorem qe (hC : bG P F C) (hL : NoL L) (hm : P.follows .mixedOrders=true) {hs : List Nat} {ops : Array Oper} {ns : List aA} (hk : lu P F nt ns ops=true) (hdr : qJ hs ops=true) {id : Nat} {K : Env -> Prop} {e : Env} (h : SR F nt S L w0 M0 (ac e) M a w) (hr : kR C hs K ns e [])
  (hQ : ∀ e M a w,SR F nt S L w0 M0 (ac e) M a w -> K e -> Q .normal a w) : (Code.region id ops true).wp P Q a w:=by
 simp only [lu,x0a,x0k,x0f] at hk
 obtain ⟨ts,e',g1,g2,g3,g4⟩:=A1 ns e [] hr
 have hlen : ts.length=ops.size:=by
  have : ts.length=ns.length:=by rw [<- g1];simp
  rw [this];simpa using hk.1
 have hok:=BC g2 (by simpa using g3)
 simp only [qJ,x0f,x0H,x0a,x0k] at hdr
 refine wp_region_any hm (s9 hC hL (hs:=hs) g2 hok hlen (fun j hj=>(hdr j hj).1) (fun j o ho e he hb=>?_) (fun j t o ht ho=>?_) (fun M a w hs=>hQ e' M a w hs g4) _ _ M a _ (by simp) ?_ ?_ ?_)
 ·obtain ⟨hj,_⟩:=Array.getElem?_eq_some_iff.1 ho
  have:=(hdr j hj).2
  simp only [sc,ho,x0f,x05,x0r,x0g] at this
  rcases this e (by simpa using he) with h5 | h5
  ·rw [hb] at h5;cases h5
  ·exact h5
 ·refine hk.2 (t.1,o) ?_
  rw [x1E]
  refine ⟨j,?_⟩
  rw [x1r]
  refine ⟨?_,by simpa using ho⟩
  rw [<- g1]
  simp [ht]
 ·have:=List.length_filter_le (fun i=>!lst (Array.replicate ops.size false) i) (List.range ops.size)
  simpa [left] using this
 ·intro j hj hl
  simp [lst,hj] at hl
 ·have h0 : ∀ m,m <= ts.length -> (aZ hs ts (ac e)).G (lst (Array.replicate ops.size false)) m=ac e:=by
   intro m
   induction m with
   | zero=>intro _;rfl
   | succ m ih =>
    intro hm
    simp only [Fam.G]
    rw [ih (by omega)]
    have : lst (Array.replicate ops.size false) m=false:=by simp [lst,show m < ops.size from by omega]
    rw [this];rfl
  rw [h0 _ (x0l _)]
  exact h.grow (Bel.drew _)
end
end Go.Gv
