/-
  Texts of the proof: GvF8, GvF9, GvF10, GvF11, GvF12, GvF13, GvF14, GvF15, GvF16, GvF17, GvF18, GvG, GvH, GvI0, GvI.
-/
import Derived.Test.YtlipihhhgpnjmaaGreatX2
import Derived.Orders
set_option linter.all false
namespace Go.Gv
variable[Drw]
section
variable{P:Program}{F:Fid}{C:Nat->List D->D->List D->Prop}{nt:Nat}{S:Nat->Prop}{L:Ln}{w0:World}{M0:Mem}{f:Nat->D}{M:Mem}{a:Act}{w:World}{o:Oper}{d:D}{Q:Exit->Act->World->Prop}{ρ:Pa->Loc}{ω:Nat->Option Pa}{New:Nat->Prop}{K:List (Nat×D)->List (Nat×Bool)->Prop}
def ml:D->Prop
 | .any=>True
 | .nils=>True
 | .ref _ _ _=>True
 | .blk _ es=>∀r∈es,∀c∈r,bP c=true
 | d=>bP d=true
theorem Ac{d:D}{v:Value}{M':Mem}(hf:ml d)(hn:d≠.any)(hb:isB d=false)(h:bC F M ρ d v):bC F M' ρ d v:=by
 cases d<;>simp only[ml]at hf<;>first|exact h|(simp[bP]at hf;done)|(simp[isB]at hb;done)|(rw[az rfl]at h ⊢;simp only[aC]at h ⊢;exact gH hf h)|exact absurd rfl hn
theorem SR.flat(h:SR F nt S L w0 M0 f M a w)(hf:∀t,ml (f t))(hsl:∀t,t<10000->isB (f t)=false):SR F nt S L w0 (fun _=>none) f (fun _=>none) a w where
 hnt:=h.hnt
 size:=h.size
 defers:=h.defers
 ch:=h.ch
 holds p v e:=by cases e
 ext:=Mem.le_refl _
 fresh p _ e:=absurd rfl e
 own:=by
  obtain⟨ρ,ω,hO⟩:=h.own
  refine⟨ρ,ω,⟨fun t ht=>?_,fun b sz es hb e=>?_,fun b kt et ks vs hb e=>?_,hO.lt,hO.new,fun _ _ _=>rfl,hO.lent⟩⟩
  ·rcases hO.slots t ht with h1|⟨v,h1,h2⟩
   ·exact .inl h1
   ·by_cases e:f t=.any
    ·exact .inl e
    ·exact .inr ⟨v,h1,Ac (hf t) e (hsl t ht) h2⟩
  ·have h1:=hO.roots b sz es hb e
   have h2:=hf b
   rw[e]at h2
   simp only[ml]at h2
   unfold dg cB at h1 ⊢
   rcases h1 with h1|⟨h1,h3,vs,T,g1,g2,g3,g4,g5⟩
   ·exact .inl h1
   ·refine .inr ⟨h1,h3,vs,T,g1,g2,g3,g4,fun i r off d e1 e2=>?_⟩
    obtain⟨v,k1,k2⟩:=g5 i r off d e1 e2
    have hf1:=h2 r (x0g e1) d (x0g e2)
    have k3:cE F M ω ρ w b i off d v:=k2
    rw[bx (fy hf1)]at k3
    refine⟨v,k1,?_⟩
    show cE F (fun _=>none) ω ρ w b i off d v
    rw[bx (fy hf1)]
    exact gH hf1 k3
  ·have h2:=hf b
   rw[e]at h2
   simp[ml,bP]at h2
end
end Go.Gv

namespace Go.Gv
variable[Drw]
open Go.RowKit
section
variable{P:Program}{F:Fid}{C:Nat->List D->D->List D->Prop}{nt:Nat}{S:Nat->Prop}{L:Ln}{w0:World}{M0:Mem}{f:Nat->D}{M M':Mem}{a:Act}{w w':World}{o:Oper}{d:D}{Q:Exit->Act->World->Prop}{ρ ρ':Pa->Loc}{ω ω':Nat->Option Pa}{New:Nat->Prop}{K:List (Nat×D)->List (Nat×Bool)->Prop}
def Pa.to(c:Nat):Pa->Pa
 | .r _=>.r c
 | .n _ i o=>.n c i o
theorem Pa.to_root(c:Nat)(p:Pa):(p.to c).root=c:=by cases p<;>rfl
theorem Pa.to_to(b c:Nat)(p:Pa)(h:p.root=b):(p.to c).to b=p:=by cases p<;>simp only[Pa.root]at h<;>subst h<;>rfl
theorem dg.carry{b c sz:Nat}{es:List (List D)}(h:dg F M ω ρ w b sz es)(hM:M.le M')(hs:∀p:Pa,p.root=b->ρ' (p.to c)=ρ p/\(ω (ρ p).blk=some p->ω' (ρ p).blk=some (p.to c)/\w'.heap[(ρ p).blk]? = w.heap[(ρ p).blk]?)):dg F M' ω' ρ' w' c sz es:=by
 have path:∀(p:Pa) (sz:Nat) (es:List (List D)) (R R':Nat->Nat->D->Value->Prop),p.root=b->cB ω ρ w p sz es R->(∀i r off d v,es[i]? = some r->r[off]? = some d->R i off d v->R' i off d v)->cB ω' ρ' w' (p.to c) sz es R':=by
  intro p sz es R R' hp h hR
  obtain⟨e1,e2⟩:=hs p hp
  unfold cB at h ⊢
  rw[e1]
  rcases h with h|⟨h1,h2⟩
  ·exact .inl h
  ·obtain⟨g1,g2⟩:=e2 h1
   exact .inr ⟨g1,h2.frame g2 hR⟩
 unfold dg at h ⊢
 refine path (.r b) sz es _ _ rfl h (fun i r off d v k1 k2 hr=>?_)
 cases d
 case own sz2 es2 =>
  obtain⟨h1,h2⟩:=hr
  refine⟨?_,path (.n b i off) sz2 es2 _ _ rfl h2 (fun _ _ _ d v _ _ hr=>ae.mono hM d v hr)⟩
  have:=(hs (.n b i off) rfl).1
  simp only[aC,Pa.to]at h1 this ⊢
  rw[this]
  exact h1
 all_goals exact ae.mono hM _ _ hr
theorem SR.lendX(h:SR F nt S L w0 M0 f M a w)(hO:Own F L (fun k=>S k\/w0.heap.size<=k) f M a w ρ ω){b sz:Nat}{es es':List (List D)}(hf:f b=.blk sz es)(hb:10000<=b)(hω:ω (ρ (.r b)).blk=some (.r b)){ρ1:Pa->Loc}{ω1:Nat->Option Pa}
  (hρ1:∀p:Pa,p.root=b->ρ1 (p.to ap)=ρ p) (hω1:∀k q,ω1 k=some q↔∃p:Pa,ω k=some p/\p.root=b/\q=p.to ap)
  (hch:Ch (fun k=>∃p,ω1 k=some p) w w') (hM:M.le M') (hfr:∀p,M p=none->M' p≠none->(∃q,ω1 p.block=some q)\/w.heap.size<=p.block) (hh:∀p v,M' p=some v->w'.cell? p=some v)
  (hρ':ρ' (.r ap)=ρ1 (.r ap)) (hl:ui F M' w' ρ' ω' ap sz es') (hnew:∀k p,ω' k=some p->(∃q,ω1 k=some q)\/w.heap.size<=k)
  {dst:Option Nat} (ht:∀t,dst=some t->t<nt) {v:Value} (hv:ae F M' d v) :
  ∃ρ2 ω2,(∀p:Pa,p.root=b->ρ2 p=ρ' (p.to ap))/\(∀p:Pa,p.root≠b->ρ2 p=ρ p)/\Own F L (fun k=>S k\/w0.heap.size<=k) (eff (jA dst d++[(b,.blk sz es')]) [(b,false)] f) M' (a.put dst v) w' ρ2 ω2/\SR F nt S L w0 M0 (eff (jA dst d++[(b,.blk sz es')]) [(b,false)] f) M' (a.put dst v) w':=by
 have hS1:∀k q,ω1 k=some q->∃p,ω k=some p/\p.root=b:=fun k q e=>by
  obtain⟨p,h1,h2,_⟩:=(hω1 k q).1 e
  exact⟨p,h1,h2⟩
 have other:∀k p,ω k=some p->p.root≠b->(∀q,ω1 k≠some q)/\ω' k=none/\w'.heap[k]? = w.heap[k]?:=fun k p e hp=>by
  have h1:∀q,ω1 k≠some q:=fun q e1=>by
   obtain⟨p',h1,h2⟩:=hS1 k q e1
   rw[e]at h1;cases h1;exact hp h2
  refine⟨h1,?_,hch.block k (hO.lt _ _ e) (fun⟨q,e1⟩=>h1 q e1)⟩
  cases e2:ω' k with
  | none=>rfl
  | some q =>
   rcases hnew k q e2 with ⟨q,e1⟩|h2
   ·exact absurd e1 (h1 q)
   ·have:=hO.lt _ _ e;omega
 obtain⟨ρ2,hρ2⟩:∃ρ2:Pa->Loc,ρ2=fun p=>if p.root=b then ρ' (p.to ap) else ρ p:=⟨_,rfl⟩
 obtain⟨ω2,hω2⟩:∃ω2:Nat->Option Pa,ω2=fun k=>match ω' k with
  | some q=>some (q.to b)
  | none=>match ω k with
   | some p=>if p.root=b then none else some p
   | none=>none:=⟨_,rfl⟩
 have r1:∀p:Pa,p.root=b->ρ2 p=ρ' (p.to ap):=fun p hp=>by rw[hρ2];simp only[if_pos hp]
 have r2:∀p:Pa,p.root≠b->ρ2 p=ρ p:=fun p hp=>by rw[hρ2];simp only[if_neg hp]
 have o1:∀k q,ω' k=some q->ω2 k=some (q.to b):=fun k q e=>by rw[hω2];simp only[e]
 have o2:∀k p,ω k=some p->p.root≠b->ω2 k=some p:=fun k p e hp=>by rw[hω2];simp only[(other k p e hp).2.1,e,if_neg hp]
 have o3:∀k p,ω2 k=some p->(∃q,ω' k=some q/\p=q.to b)\/(ω k=some p/\p.root≠b):=fun k p e=>by
  rw[hω2]at e
  simp only at e
  cases e1:ω' k with
  | some q=>rw[e1]at e;cases e;exact .inl ⟨q,rfl,rfl⟩
  | none =>
   rw[e1]at e
   simp only at e
   cases e2:ω k with
   | none=>rw[e2]at e;cases e
   | some p' =>
    rw[e2]at e
    simp only at e
    split at e
    ·cases e
    ·cases e;exact .inr ⟨rfl,by assumption⟩
 have hrb:ρ2 (.r b)=ρ (.r b):=by
  rw[r1 (.r b) rfl]
  show ρ' (.r ap)=_
  rw[hρ',<- hρ1 (.r b) rfl]
  rfl
 have hfb:eff (jA dst d++[(b,.blk sz es')]) [(b,false)] f b=.blk sz es':=aP (by
  cases dst with
  | none=>simp[jA]
  | some t =>
   have:(b==t)=false:=by have:=ht t rfl;have:=h.hnt;simp;omega
   simp[jA,x0l,this])
 have lk:∀s,s≠b->dst≠some s->(jA dst d++[(b,D.blk sz es')]).lookup s=none:=fun s h1 h2=>by
  have e1:(s==b)=false:=by simpa using h1
  cases dst with
  | none=>simp only[jA,x1v,x0l,e1,x0V]
  | some t =>
   have e2:(s==t)=false:=by simp;rintro rfl;exact h2 rfl
   simp only[jA,x1o,x1v,x0l,e1,e2,x0V]
 have hsize:(a.put dst v).tmps.size=nt:=by cases dst<;>simp[Act.put,h.size]
 have main:Own F L (fun k=>S k\/w0.heap.size<=k) (eff (jA dst d++[(b,.blk sz es')]) [(b,false)] f) M' (a.put dst v) w' ρ2 ω2->SR F nt S L w0 M0 (eff (jA dst d++[(b,.blk sz es')]) [(b,false)] f) M' (a.put dst v) w':=fun own =>
  ⟨h.hnt,hsize,by cases dst<;>simp[Act.put,h.defers],h.ch.trans hch (fun k hk ⟨q,e⟩=>by
   obtain⟨p,e1,_⟩:=hS1 k q e
   rcases hO.new _ _ e1 with h3|h3
   ·exact h3
   ·omega),hh,Mem.le_trans h.ext hM,fun p h1 h2=>by
   by_cases e:M p=none
   ·rcases hfr p e h2 with ⟨q,e1⟩|h3
    ·obtain⟨p',e2,_⟩:=hS1 _ q e1
     exact hO.new _ _ e2
    ·exact .inr (x09 h.ch.size h3)
   ·exact h.fresh p h1 e,ρ2,ω2,own⟩
 refine⟨ρ2,ω2,r1,r2,(fun x=>⟨x,main x⟩) ?_⟩
 ·refine hO.step (ks:=[(b,false)]) (fun p hp=>?_) hM hch.size (fun s hs=>?_) (fun c hc=>?_) (fun k p e=>?_) (fun p q e=>?_) (fun c l hc hl' hB=>?_)
  ·refine⟨(b,false),by simp,?_⟩
   by_cases e:p.root=b
   ·cases p with
    | r x =>
     simp only[Pa.root]at e
     subst e
     exact absurd hrb hp
    | n x i off =>
     simp only[Pa.root]at e
     subst e
     simp[cy]
   ·exact absurd (r2 p e) hp
  ·by_cases e:dst=some s
   ·right
    have hst:=ht s e
    subst e
    have e1:eff (jA (some s) d++[(b,.blk sz es')]) [(b,false)] f s=d:=aP (by simp[jA])
    refine .inr ⟨v,getElem?_put_same (by rw[h.size];exact hst),?_⟩
    rw[e1]
    exact bC.of_pure hv
   ·left
    rcases bO (f:=f) (ks:=[(b,false)]) (lk s (by omega) e)with h1|h1
    ·exact .inl h1
    ·refine .inr ⟨h1.1,?_,h1.2⟩
     cases dst with
     | none=>rfl
     | some t=>exact getElem?_put (fun x=>e (by rw[x]))
  ·by_cases e:c=b
   ·subst e
    right
    refine .inl ⟨sz,es',hfb,hl.rows.carry (Mem.le_refl _) (fun p hp=>?_)⟩
    have e1:ρ2 (p.to c)=ρ' p:=by rw[r1 _ (Pa.to_root _ _),Pa.to_to ap c p hp]
    exact⟨e1,fun e2=>⟨o1 _ _ e2,rfl⟩⟩
   ·left
    rcases ca (f:=f) (ks:=[(b,false)]) (lk c e (fun x=>by have:=ht c x;have:=h.hnt;omega))with h1|h1
    ·exact .inl h1
    ·refine .inr ⟨h1,fun p hp=>?_⟩
     have hpb:p.root≠b:=by rw[hp];exact e
     exact⟨r2 p hpb,fun hw=>⟨o2 _ _ hw hpb,(other _ _ hw hpb).2.2⟩⟩
  ·rcases o3 k p e with ⟨q,e1,_⟩|⟨e1,_⟩
   ·rcases hnew k q e1 with ⟨q',e2⟩|h2
    ·obtain⟨p',e3,_⟩:=hS1 k q' e2
     exact .inl ⟨p',e3⟩
    ·exact .inr ⟨hl.lt k q e1,.inr (x09 h.ch.size h2)⟩
   ·exact .inl ⟨p,e1⟩
  ·rcases o3 _ q e with ⟨q',e1,_⟩|⟨e1,e2⟩
   ·exact hl.apart p q' e1
   ·have h1:=hO.apart p q e1
    cases e3:M' p with
    | none=>rfl
    | some u =>
     rcases hfr p h1 (by rw[e3];simp)with ⟨q',e4⟩|h4
     ·exact absurd e4 ((other _ _ e1 e2).1 q')
     ·have:=hO.lt _ _ e1;omega
  ·by_cases e:c=b
   ·subst e
    exact⟨hrb,by rw[hf];rfl⟩
   ·have hcb:(Pa.r c).root≠b:=e
    refine⟨r2 _ hcb,?_⟩
    rcases ca (f:=f) (ks:=[(b,false)]) (lk c e (fun x=>by have:=ht c x;have:=h.hnt;omega))with h1|h1
    ·rw[hB]at h1;cases h1
    ·rw[<- h1];exact hB
theorem SR.lend(h:SR F nt S L w0 M0 f M a w)(hO:Own F L (fun k=>S k\/w0.heap.size<=k) f M a w ρ ω){b sz:Nat}{es es':List (List D)}(hf:f b=.blk sz es)(hb:10000<=b)(hω:ω (ρ (.r b)).blk=some (.r b)){ρ1:Pa->Loc}{ω1:Nat->Option Pa}
  (hρ1:∀p:Pa,p.root=b->ρ1 (p.to ap)=ρ p) (hω1:∀k q,ω1 k=some q↔∃p:Pa,ω k=some p/\p.root=b/\q=p.to ap)
  (hch:Ch (fun k=>∃p,ω1 k=some p) w w') (hM:M.le M') (hfr:∀p,M p=none->M' p≠none->(∃q,ω1 p.block=some q)\/w.heap.size<=p.block) (hh:∀p v,M' p=some v->w'.cell? p=some v)
  (hρ':ρ' (.r ap)=ρ1 (.r ap)) (hl:ui F M' w' ρ' ω' ap sz es') (hnew:∀k p,ω' k=some p->(∃q,ω1 k=some q)\/w.heap.size<=k)
  {dst:Option Nat} (ht:∀t,dst=some t->t<nt) {v:Value} (hv:ae F M' d v) :
  SR F nt S L w0 M0 (eff (jA dst d++[(b,.blk sz es')]) [(b,false)] f) M' (a.put dst v) w':=by
 obtain⟨_,_,_,_,_,hs⟩:=h.lendX hO hf hb hω hρ1 hω1 hch hM hfr hh hρ' hl hnew ht hv
 exact hs
theorem Bd(hC:bQ P F C)(h:SR F nt S L w0 M0 f M a w)(hp:∀t,o.dst=some t->t<nt){g fi:Nat}{x:Opd}{xs:List Opd}{y:Operand}{ys:List Operand}{ts:Array TypeId}(ho:o.op=.call { callee:=.value (.func fi),args:=⟨y::ys⟩,argTypes:=ts })(hx0:ao F x y=true)(hx:bY F xs ys=true)
  (hg:F g=some fi) (hr:match vd f x with
  | .adr (.r b) i off=>i=0/\off=0/\match f b with
   | .blk sz es=>0<es.length/\(∀x∈xs,isV (vd f x)=true)/\∃d,∃es':List (List D),0<es'.length/\C g (.blk sz es::xs.map (vd f)) d [.blk sz es']/\K (jA o.dst d++[(b,.blk sz es')]) [(b,false)]
   | _=>False
  | _=>False):o.wp P a w (PostX F nt S L w0 M0 f K) Q:=by
 split at hr
 ·rename_i b i off hvx
  obtain⟨rfl,rfl,hr⟩:=hr
  split at hr
  ·rename_i sz es hf
   obtain⟨hpos,hxs,d,es',hpos',hc,hK⟩:=hr
   have hrun:(execOp a.eval o).run P w=(callFunc fi (a.eval y::ys.map a.eval).toArray).run P w:=by
    simp only[execOp,ho,resolve,Act.eval,Deferred.ofValue,Sem.run_bind,Sem.run_pure,Result.andThen_ok,invoke]
    congr 2
    rw[x1R,x1y]
    apply Array.ext'
    simp
    cases y<;>simp[Act.eval]
   obtain⟨ρ,ω,hO⟩:=h.own
   have hb:=hO.big hf
   have hv:=hO.opd hx0
   rw[hvx,az rfl]at hv
   simp only[aC,Nat.zero_mul,x1r]at hv
   have hroot:=hO.roots b sz es hb hf
   have hω:ω (ρ (.r b)).blk=some (.r b):=by
    rcases hroot with ⟨e0,_⟩|⟨hω,_⟩
    ·rw[e0]at hpos;simp at hpos
    ·exact hω
   have hrep:av F M (xs.map (vd f)) (ys.map a.eval):=by
    have h1:=gJ h hx (by rw[x0f];exact hxs)
    rwa[x0j (g:=vd f) fun x hx'=>by unfold dpv;exact(kN (hxs x hx')).1]at h1
   obtain⟨ρ1,hρ1⟩:∃ρ1:Pa->Loc,ρ1=fun p=>ρ (p.to b):=⟨_,rfl⟩
   obtain⟨ω1,hω1⟩:∃ω1:Nat->Option Pa,ω1=fun k=>match ω k with
    | some p=>if p.root=b then some (p.to ap) else none
    | none=>none:=⟨_,rfl⟩
   have w1:∀k q,ω1 k=some q↔∃p:Pa,ω k=some p/\p.root=b/\q=p.to ap:=fun k q=>by
    rw[hω1]
    simp only
    constructor
    ·intro e
     split at e
     ·rename_i p hp
      split at e
      ·cases e;exact⟨p,hp,by assumption,rfl⟩
      ·cases e
     ·cases e
    ·rintro⟨p,e1,e2,rfl⟩
     simp only[e1,if_pos e2]
   have p1:∀p:Pa,p.root=b->ρ1 (p.to ap)=ρ p:=fun p hp=>by
    rw[hρ1]
    simp only
    rw[Pa.to_to b ap p hp]
   have lent:ui F M w ρ1 ω1 ap sz es:=by
    refine⟨(w1 _ _).2 ⟨.r b,?_,rfl,rfl⟩,dg.carry hroot (Mem.le_refl _) (fun p hp=>⟨p1 p hp,fun e=>⟨(w1 _ _).2 ⟨p,e,hp,rfl⟩,rfl⟩⟩),fun k p e=>?_,fun k p e=>?_,fun p q e=>?_⟩
    ·have:=p1 (.r b) rfl
     simp only[Pa.to]at this
     rw[this];exact hω
    ·obtain⟨p',e1,_⟩:=(w1 _ _).1 e
     exact hO.lt _ _ e1
    ·obtain⟨p',_,_,rfl⟩:=(w1 _ _).1 e
     exact Pa.to_root _ _
    ·obtain⟨p',e1,_⟩:=(w1 _ _).1 e
     exact hO.apart p p' e1
   have hL:=hC.runsL g fi sz es _ d es' hg hc M w _ ρ1 ω1 h.holds hrep lent
   have e1:ρ1 (.r ap)=ρ (.r b):=p1 (.r b) rfl
   rw[e1,<- hv]at hL
   unfold Oper.wp
   rw[hrun,cx (hC.body g fi hg),Oper.upon_enter]
   refine hL.mono ?_
   rintro e0 w' ⟨v,M',ρ',ω',rfl,q1,q2,q3,q4,q5,q6,q7,q8⟩
   exact⟨_,_,M',hK,h.lend hO hf hb hω p1 w1 q1 q2 q3 q4 (by rw[q6,e1]) q7 q8 hp q5⟩
  ·exact hr.elim
 ·exact hr.elim
theorem lf{es:List (List D)}{k n:Nat}{zs:List D}(h:k+n<=es.length):(eM es k n zs).length=es.length:=by
 simp[eM];omega
theorem Bp{es:List (List D)}{k n:Nat}{zs:List D}(h:k+n<=es.length)(i:Nat):(eM es k n zs)[i]? = if k<=i/\i<k+n then some zs else es[i]?:=by
 unfold eM
 rw[x1L]
 have hl:(es.take k).length=k:=by simp;omega
 by_cases h1:i<k
 ·rw[x0A (by omega),x0D h1,if_neg (by omega)]
 ·rw[x0B (by omega),hl]
  by_cases h2:i<k+n
  ·rw[x0A (by simp;omega),if_pos (by omega),List.getElem?_replicate,if_pos (by omega)]
  ·rw[x0B (by simp;omega),List.length_replicate,x0v,if_neg (by omega)]
   congr 1
   omega
theorem sB{es:List (List D)}{k n:Nat}{zs e:List D}(he:e∈eM es k n zs):e=zs\/e∈es:=by
 simp only[eM,x0n]at he
 rcases he with (h|h)|h
 ·exact .inr (x0O h)
 ·exact .inl (List.mem_replicate.1 h).2
 ·exact .inr (x1f h)
def uC(P:Program)(T:Nat)(zs:List D):Bool:=match P.underlying T with
 | some (.slice e)=>zeroOk P e zs
 | _=>false
theorem ri{z:Array Value}{n i off:Nat}{u:Value}(hi:i<n)(ho:z.toList[off]? = some u):(Builtin.zeroCells z n).toList[i*z.size+off]? = some u:=by
 have h1:off<z.size:=by have:=(x0d.1 ho).1;simpa using this
 have h2:i*z.size+z.size<=n*z.size:=by rw[<- x04];exact x0q _ hi
 have h3:(i*z.size+off)%z.size=off:=by
  rw[x1b,Nat.mul_add_mod,Nat.mod_eq_of_lt h1]
 unfold Builtin.zeroCells
 rw[Array.toList_map,x0z]
 rw[Array.toList_range,List.getElem?_range (show i*z.size+off<n*z.size by omega),x1m,h3]
 rw[x0c z off h1]
 have:=(x0d.1 ho).2
 rw[<- this];simp
theorem sr{T:Nat}{ty:TypeId}{zs:List D}(hk:uC P T zs=true)(hz1:∀c∈zs,aA c=true){g o n cap:Nat}{cur:List Value}{T0:TypeId}(hn:n≠0)(hg:w.heap[g]? = some (.cells cur.toArray T0 (0,0)))(hgl:g<w.heap.size)(hl:o+n*zs.length<=cur.length) :
  ∃(w':World) (Z:List Value),(Builtin.clear_ #[T] ty #[.slice (some ⟨g,o,none⟩) n cap]).run P w=.ok (.tuple #[]) w'/\w'.heap[g]? = some (.cells (cur.take o++Z++cur.drop (o+n*zs.length)).toArray T0 (0,0))/\Z.length=n*zs.length /\
   (∀i off c,i<n->zs[off]? = some c->∃u,Z[i*zs.length+off]? = some u/\∀(F:Fid) (M:Mem),ae F M c u)/\Ch (fun k=>k=g) w w':=by
 unfold uC at hk
 split at hk
 ·rename_i e hu
  obtain⟨z,i,hi,hiz,hz,hzs,hzc⟩:=zeroOk_z hk
  have hcell:∀(off:Nat) (c:D),zs[off]? = some c->∃u,z.cells.toList[off]? = some u/\u.oneCell'=true/\∀(F:Fid) (M:Mem),ae F M c u:=fun off c hc=>by
   have h1:off<z.cells.toList.length:=by have:=(x0d.1 hc).1;simp;omega
   have h2:∀(F:Fid) (M:Mem),ae F M c (z.cells.toList[off]):=fun F M=>by
    rcases hzc off c _ hc (x0e h1) (F:=F) (L:=.nil) (New:=fun _=>True) (f:=fun _=>.any) (M:=M) (a:={ tmps:=#[],defers:=[] }) (w:=w)with ⟨_,h3⟩|⟨n,rfl,_⟩|⟨_,_,_,h3,_⟩
    ·exact h3
    ·have:=hz1 _ (x0g hc);simp[aA]at this
    ·cases h3
   exact⟨_,x0e h1,oneCell_of (h2 ⟨P,fun _=>none,fun _=>0,fun _=>.nilIface⟩ (fun _=>none)) (hz1 _ (x0g hc)),h2⟩
  have hone:∀v∈(Builtin.zeroCells z.cells n).toList,v.oneCell'=true:=fun v hv=>by
   simp only[Builtin.zeroCells,Array.toList_map,x0w]at hv
   obtain⟨x,hx,rfl⟩:=hv
   have hx':x<n*z.cells.size:=by simpa using hx
   have hpos:0<z.cells.size:=by
    rcases x0X z.cells.size with h|h
    ·rw[h]at hx';simp at hx'
    ·exact h
   have hlt:=x1P x hpos
   obtain⟨u,k1,k2,_⟩:=hcell (x%z.cells.size) (zs[x%z.cells.size]'(by rw[<- hzs];exact hlt)) (x0e _)
   rw[x0c z.cells _ hlt]
   have:z.cells[x%z.cells.size]=u:=by
    have:=(x0d.1 k1).2
    simpa using this
   rw[this];exact k2
  have hZ:(Builtin.zeroCells z.cells n).toList.length=n*zs.length:=by
   simp[Builtin.zeroCells,hzs]
  obtain⟨w',e1,e2,e3,e4,e5,e6,e7,e8⟩:=dt (P:=P) g T0 o (Builtin.zeroCells z.cells n).toList 0 cur w hg (by rw[hZ];simpa using hl) hone
  refine⟨w',(Builtin.zeroCells z.cells n).toList,?_,?_,hZ,fun i off c hin hc=>?_,⟨e5,e6,e7,by omega,fun k _ hk=>e3 k hk,.of (by omega)⟩⟩
  ·have hu':(underlying T).run P w=.ok (.slice e) w:=run_underlying hu w
   unfold Builtin.clear_
   simp only[x1j,x1k,Sem.run_bind,hu',Result.andThen_ok]
   cases n with
   | zero=>exact absurd rfl hn
   | succ n=>simp only[hz,Result.andThen_ok,e1,Sem.run_pure]
  ·rw[e2];simp only[x1r,hZ]
  ·obtain⟨u,k1,_,k3⟩:=hcell off c hc
   exact⟨u,by rw[<- hzs];exact ri hin k1,k3⟩
 ·cases hk
theorem rC{base k n sz:Nat}{es:List (List D)}{zs:List D}{us Z:List Value}{R:D->Value->Prop}(hkn:k+n<=es.length)(hzs:zs.length=sz)(hes:∀e∈es,e.length=sz)(hlen:base+es.length*sz<=us.length)(hZl:Z.length=n*sz)(hZ:∀i off c,i<n->zs[off]? = some c->∃u,Z[i*sz+off]? = some u/\R c u)
  (hold:∀i r off d,es[i]? = some r->r[off]? = some d->∃u,us[base+i*sz+off]? = some u/\R d u):∀i r off d,(eM es k n zs)[i]? = some r->r[off]? = some d->∃u,(us.take (base+k*sz)++Z++us.drop (base+k*sz+n*sz))[base+i*sz+off]? = some u/\R d u:=by
 intro i r off d h1 h2
 have hle:k*sz+n*sz<=es.length*sz:=by rw[<- x0I];exact x0q _ hkn
 have hget:=fun x=>cU (vs:=us) (us:=Z) (q:=base+k*sz) (n:=n*sz) (x:=x) hZl (by omega)
 rw[Bp hkn]at h1
 split at h1
 ·rename_i hi
  cases h1
  have ho:off<sz:=by have:=(x0d.1 h2).1;omega
  obtain⟨u,k1,k2⟩:=hZ (i-k) off d (by omega) h2
  refine⟨u,?_,k2⟩
  have e1:i*sz=k*sz+(i-k)*sz:=by rw[<- x0I];congr 1;omega
  have e2:(i-k)*sz+sz<=n*sz:=by rw[<- x04];exact x0q _ (by omega)
  rw[hget,if_pos (by omega),<- k1]
  congr 1
  omega
 ·rename_i hi
  have ho:off<sz:=by have:=(x0d.1 h2).1;have:=hes r (x0g h1);omega
  obtain⟨u,k1,k2⟩:=hold i r off d h1 h2
  refine⟨u,?_,k2⟩
  rw[hget,if_neg,k1]
  intro hx
  by_cases hik:i<k
  ·have:i*sz+sz<=k*sz:=by rw[<- x04];exact x0q _ hik
   omega
  ·have:k*sz+n*sz<=i*sz:=by rw[<- x0I];exact x0q _ (by omega)
   omega
theorem Co{b:Nat}{x:D}(h:f b=x)(hx:isB x=true):eff [(b,x)] [] f=f:=by
 funext s
 unfold eff
 by_cases e:s=b
 ·subst e;simp[h]
 ·have e1:(s==b)=false:=by simpa using e
  simp[x0l,e1,aN]
theorem Gu(h:SR F nt S L w0 M0 f M a w)(hp:∀t,o.dst=some t->t<nt){zs:List D}{x:Opd}{y:Operand}{T:TypeId}(ho:o.op=.call { callee:=.builtin .clear,args:=#[y],argTypes:=#[T] })(hx:ao F x y=true)(hk:uC P T zs=true)
  (hr:match vd f x with
  | .nils=>K (fC o.dst) []
  | .ref (.r b) k n=>match f b with
   | .blk sz es=>k+n<=es.length/\zs.length=sz/\(∀e∈es,∀c∈e,aA c=true)/\(∀c∈zs,aA c=true)/\K (fC o.dst++[(b,.blk sz (eM es k n zs))]) []
   | _=>False
  | .ref (.n b i o') k n=>match f b with
   | .blk sz0 es0=>∃row0,es0[i]? = some row0/\∃sz es,row0[o']? = some (.own sz es)/\k+n<=es.length/\zs.length=sz/\(∀c∈zs,aA c=true)/\K (fC o.dst++[(b,.blk sz0 (bK es0 i o' 1 [.own sz (eM es k n zs)]))]) []
   | _=>False
  | _=>False):o.wp P a w (PostX F nt S L w0 M0 f K) Q:=by
 obtain⟨ρ,ω,hO⟩:=h.own
 have hv:=hO.opd hx
 have exec:∀v w',(Builtin.clear_ #[T] o.type #[a.eval y]).run P w=.ok v w'->(execOp a.eval o).run P w=.ok (.value v) w':=fun v w' e=>by
  simp only[execOp,ho,resolve,invoke,builtin,x1Q,x0F,x02,Sem.run_bind,Sem.run_pure,Result.andThen_ok,e]
 have noop:∀v:Value,(v=.slice none 0 0\/∃A cap,v=.slice A 0 cap)->a.eval y=v->(underlying T).run P w=.ok (match P.underlying T with|some u=>u|none=>default) w->(execOp a.eval o).run P w=.ok (.value (.tuple #[])) w:=by
  intro v hv' e hu
  refine exec _ _ ?_
  rw[e]
  unfold Builtin.clear_
  simp only[x1j,x1k,Sem.run_bind,hu,Result.andThen_ok]
  rcases hv' with rfl|⟨A,cap,rfl⟩
  ·simp
  ·cases A<;>simp
 have hu:(underlying T).run P w=.ok (match P.underlying T with|some u=>u|none=>default) w:=by
  unfold uC at hk
  split at hk
  ·rename_i e hu
   rw[run_underlying hu w,hu]
  ·cases hk
 have unit:∀(b:Nat) (x:D) (M':Mem) (w':World),SR F nt S L w0 M0 (eff [(b,x)] [] f) M' a w'->SR F nt S L w0 M0 (eff (fC o.dst++[(b,x)]) [] f) M' (a.put o.dst (.tuple #[])) w':=fun b x M' w' hs=>by
  rw[<- uN]
  cases hd:o.dst with
  | none=>simpa[Act.put]using hs
  | some t=>exact hs.put (hp t hd) fun _ _ _=>by rw[az rfl];simp[aC,ae,av]
 split at hr
 ·rename_i hvx
  rw[hvx,az rfl]at hv
  simp only[aC,ae]at hv
  refine dD (noop _ (.inl rfl) hv hu) ⟨_,_,M,hr,?_⟩
  cases hd:o.dst with
  | none=>simpa[Act.put,fC,mg]using h
  | some t=>exact h.put (hp t hd) fun _ _ _=>by rw[az rfl];simp[aC,ae,av]
 ·rename_i b k n hvx
  rw[hvx,az rfl]at hv
  split at hr
  ·rename_i sz es hf
   obtain⟨hkn,hzs,hes1,hz1,hK⟩:=hr
   have hb:=hO.big hf
   have hgp:aX f (.r b)=some (sz,es):=by simp[aX,hf]
   by_cases hn:n=0
   ·subst hn
    have e0:eM es k 0 zs=es:=by simp[eM]
    rw[e0]at hK
    have hv':∃A cap,a.eval y=.slice A 0 cap:=by
     simp only[aC]at hv
     rcases hv with ⟨_,A,e⟩|⟨cap,e,_⟩
     ·exact⟨A,0,e⟩
     ·exact⟨_,cap,e⟩
    refine dD (noop _ (.inr hv') rfl hu) ⟨_,_,M,hK,unit b _ M w ?_⟩
    rw[Co hf rfl];exact h
   ·rcases ip hO hgp hkn hv (fun e he c hc=>cQ (hes1 e (x1f (x0O he)) c hc))with ⟨A,hv,hn0⟩|⟨cap,us,T0,hv,⟨hcap,hmc⟩,hcl,hω,g0,g1,g2,g4,g5⟩
    ·exact absurd hn0 hn
    ·have hrows:fU w (ρ (.r b)) sz es (fun i off d v=>cE F M ω ρ w b i off d v):=by
      rcases hO.roots b sz es hb hf with ⟨e0,_⟩|⟨_,hr⟩
      ·rw[e0]at hkn;simp at hkn;omega
      ·exact hr
     obtain⟨q0,us0,T1,q1,q2,q3,q4,q5⟩:=id hrows
     rw[g1]at q1
     simp only[x0s,Obj.cells.injEq,and_true]at q1
     obtain⟨q1,rfl⟩:=q1
     obtain rfl:us=us0:=by simpa using congrArg Array.toList q1
     have hle:k*sz+n*sz<=es.length*sz:=by rw[<- x0I];exact x0q _ hkn
     obtain⟨w',Z,e1,e2,e3,e4,e5⟩:=sr (P:=P) (w:=w) (ty:=o.type) hk hz1 hn (cap:=cap) g1 (hO.lt _ _ hω) (o:=(ρ (.r b)).base+k*sz) (by rw[hzs,g2];omega)
     rw[hzs]at e2 e3 e4
     have hfill:=h.fill hO hf hω hrows (es':=eM es k n zs) (us:=us.take ((ρ (.r b)).base+k*sz)++Z++us.drop ((ρ (.r b)).base+k*sz+n*sz)) (w':=w') (Nat.le_of_eq (lf hkn)) (fun e he=>by
      rcases sB he with rfl|he
      ·exact⟨hzs,hz1⟩
      ·exact⟨g4 e he,hes1 e he⟩) e5 e2 (by simp;omega) (rC (R:=fun d v=>ae F M d v) hkn hzs g4 (by rw[g2];exact q3) e3 (fun i off c hi hc=>by
       obtain⟨u,k1,k2⟩:=e4 i off c hi hc
       exact⟨u,k1,k2 F M⟩) (fun i r off d h1 h2=>by
       obtain⟨u,k1,k2⟩:=q5 i r off d h1 h2
       rw[bx (cQ (hes1 r (x0g h1) d (x0g h2)))]at k2
       exact⟨u,k1,k2⟩))
     obtain⟨_,_,_,_,hs⟩:=hfill
     refine dD (exec _ _ (by rw[hv];exact e1)) ⟨_,_,M,hK,unit b _ M w' hs⟩
  ·exact hr.elim
 ·rename_i b i0 o0 k n hvx
  rw[hvx,az rfl]at hv
  split at hr
  ·rename_i sz0 es0 hf
   obtain⟨row0,hi0,sz,es,ho0,hkn,hzs,hz1,hK⟩:=hr
   have hb:=hO.big hf
   have hgp:aX f (.n b i0 o0)=some (sz,es):=by simp[aX,hf,hi0,ho0]
   have hpath:cB ω ρ w (.n b i0 o0) sz es (fun _ _ d v=>ae F M d v):=(hO.get (p:=.n b i0 o0) hb hgp).1
   have hnoO:∀e∈(es.drop k).take n,∀c∈e,isO c=false:=by
    intro e he c hc'
    have he:=x1f (x0O he)
    rcases hpath with ⟨e0,_⟩|⟨_,_,vs,T,_,_,_,_,h5⟩
    ·rw[e0]at he;cases he
    ·obtain⟨i,hi⟩:=x1i.1 he
     obtain⟨j,hj⟩:=x1i.1 hc'
     obtain⟨u,_,h6⟩:=h5 i e j c hi hj
     cases c<;>first|rfl|(simp[ae]at h6)
   by_cases hn:n=0
   ·subst hn
    have e0:eM es k 0 zs=es:=by simp[eM]
    rw[e0]at hK
    have hv':∃A cap,a.eval y=.slice A 0 cap:=by
     simp only[aC]at hv
     rcases hv with ⟨_,A,e⟩|⟨cap,e,_⟩
     ·exact⟨A,0,e⟩
     ·exact⟨_,cap,e⟩
    refine dD (noop _ (.inr hv') rfl hu) ⟨_,_,M,hK,unit b _ M w (h.fillN hO hf hi0 ho0 rfl h.ch (x0k _) h.holds hpath (fun _ _ _ _=>rfl))⟩
   ·rcases ip hO hgp hkn hv hnoO with ⟨A,hv,hn0⟩|⟨cap,us,T0,hv,⟨hcap,hmc⟩,hcl,hω,g0,g1,g2,g4,g5⟩
    ·exact absurd hn0 hn
    ·have hrows:fU w (ρ (.n b i0 o0)) sz es (fun _ _ d v=>ae F M d v):=by
      rcases hpath with ⟨e0,_⟩|⟨_,hr⟩
      ·rw[e0]at hkn;simp at hkn;omega
      ·exact hr
     obtain⟨q0,us0,T1,q1,q2,q3,q4,q5⟩:=id hrows
     rw[g1]at q1
     simp only[x0s,Obj.cells.injEq,and_true]at q1
     obtain⟨q1,rfl⟩:=q1
     obtain rfl:us=us0:=by simpa using congrArg Array.toList q1
     have hle:k*sz+n*sz<=es.length*sz:=by rw[<- x0I];exact x0q _ hkn
     obtain⟨w',Z,e1,e2,e3,e4,e5⟩:=sr (P:=P) (w:=w) (ty:=o.type) hk hz1 hn (cap:=cap) g1 (hO.lt _ _ hω) (o:=(ρ (.n b i0 o0)).base+k*sz) (by rw[hzs,g2];omega)
     rw[hzs]at e2 e3 e4
     have hnew:=hO.new _ _ hω
     have hMb:∀p:Addr,p.block=(ρ (.n b i0 o0)).blk->M p=none:=fun p hp=>hO.apart p (.n b i0 o0) (by rw[hp];exact hω)
     have hh:∀p v,M p=some v->w'.cell? p=some v:=fun p v hp=>by
      have hne:p.block≠(ρ (.n b i0 o0)).blk:=fun e=>by rw[hMb p e]at hp;cases hp
      have h8:=h.holds p v hp
      rw[World.cell?_of_block (e5.block _ (World.block_lt_of_cell? w p h8) hne)]
      exact h8
     refine dD (exec _ _ (by rw[hv];exact e1)) ⟨_,_,M,hK,unit b _ M w' (h.fillN hO hf hi0 ho0 (lf hkn) (h.ch.trans e5 (fun k hk e=>by rcases hnew with h7|h7;rw[e];exact h7;omega)) e5.size hh (.inr ⟨hω,g0,_,T0,e2,by simp;omega,by rw[lf hkn];exact q3,fun e he=>by
      rcases sB he with rfl|he
      ·exact hzs
      ·exact g4 e he,rC (R:=fun d v=>ae F M d v) hkn hzs g4 (by rw[g2];exact q3) e3 (fun i off c hi hc=>by
       obtain⟨u,k1,k2⟩:=e4 i off c hi hc
       exact⟨u,k1,k2 F M⟩) q5⟩) (fun k q hk hq=>e5.block k (hO.lt _ _ hk) (by rintro rfl;rw[hω]at hk;cases hk;exact hq rfl)))⟩
  ·exact hr.elim
 ·exact hr.elim
end
end Go.Gv

namespace Go.Gv
variable[Drw]
open Go.RowKit
section
variable{P:Program}{F:Fid}{C:Nat->List D->D->List D->Prop}{nt:Nat}{S:Nat->Prop}{L:Ln}{w0:World}{M0:Mem}{f:Nat->D}{M M':Mem}{a:Act}{w w':World}{o:Oper}{d:D}{Q:Exit->Act->World->Prop}{ρ ρ':Pa->Loc}{ω ω':Nat->Option Pa}{New:Nat->Prop}{K:List (Nat×D)->List (Nat×Bool)->Prop}
theorem oy(p:Pa):cy p.root true p=true:=by cases p<;>simp[cy,Pa.root]
theorem lD{t i b:Nat}{x d:D}(h:(b,x)∈cZ t i d):b=rt t i/\∃sz es,x=.blk sz es/\∀t',(rt t' i,x)∈cZ t' i d:=by
 cases d<;>simp only[cZ,x0H,x07,or_false,Prod.mk.injEq]at h
 all_goals exact⟨h.1,_,_,h.2,fun t'=>by rw[h.2];simp[cZ]⟩
theorem lE{t b:Nat}{x:D}:∀{ds:List D} {i:Nat},(b,x)∈bR t i ds->∃j,i<=j/\j<i+ds.length/\b=rt t j/\∃sz es,x=.blk sz es/\∀t',(rt t' j,x)∈bR t' i ds
 | [],_,h=>by simp[bR]at h
 | d::ds,i,h=>by
  simp only[bR,x0n]at h
  rcases h with h|h
  ·obtain⟨e,sz,es,e2,h2⟩:=lD h
   exact⟨i,x0k _,by simp,e,sz,es,e2,fun t'=>by simp only[bR,x0n];exact .inl (h2 t')⟩
  ·obtain⟨j,h1,h2,e,sz,es,e2,h3⟩:=lE h
   exact⟨j,by omega,by simp;omega,e,sz,es,e2,fun t'=>by simp only[bR,x0n];exact .inr (h3 t')⟩
theorem iq{t b:Nat}{x y:D}:∀{ds:List D} {i:Nat},(b,x)∈bR t i ds->(b,y)∈bR t i ds->x=y
 | [],_,h,_=>by simp[bR]at h
 | d::ds,i,h,h'=>by
  simp only[bR,x0n]at h h'
  have far:∀{z:D},(b,z)∈bR t (i+1) ds->b≠rt t i:=fun hz e=>by
   obtain⟨j,h1,_,e2,_⟩:=lE hz
   rw[e]at e2
   unfold rt at e2
   omega
  rcases h with h|h<;>rcases h' with h'|h'
  ·cases d<;>simp only[cZ,x0H,x07,or_false,Prod.mk.injEq]at h h'
   all_goals rw[h.2,h'.2]
  ·exact absurd (lD h).1 (far h')
  ·exact absurd (lD h').1 (far h)
  ·exact iq h h'
theorem yg{b:Nat}{x:D}:∀{l:List (Nat×D)},(∀y,(b,y)∈l->y=x)->(b,x)∈l->l.lookup b=some x
 | [],_,h=>by simp at h
 | (c,y)::l,hu,h=>by
  by_cases e:b=c
  ·subst e
   rw[hu y (by simp)]
   simp
  ·have e1:(b==c)=false:=by simpa using e
   simp only[x0l,e1]
   refine yg (fun y hy=>hu y (by simp[hy])) ?_
   rcases x0H.1 h with h|h
   ·cases h;exact absurd rfl e
   ·exact h
theorem wX{b:Nat}:∀{l:List (Nat×D)},(∀y,(b,y)∉l)->l.lookup b=none
 | [],_=>rfl
 | (c,y)::l,h=>by
  have e:b≠c:=fun e=>h y (by simp[e])
  have e1:(b==c)=false:=by simpa using e
  simp only[x0l,e1]
  exact wX fun y hy=>h y (by simp[hy])
theorem Am{t i:Nat}{d:D}{v:Value}(h:aC F M ρ (gU 0 i d) v)(he:∀x,(rt 0 i,x)∈cZ 0 i d->ρ' (.r (rt t i))=ρ (.r (rt 0 i)))(hp:∀p k n,d≠.ref p k n)(hp2:∀p k n,d≠.adr p k n)(hp3:∀b,d≠.mrf b)(hp4:∀T p k n,d≠.ifa T p k n):aC F M ρ' (gU t i d) v:=by
 cases d
 case own sz es =>
  have e:=he (.blk sz es) (by simp[cZ])
  simp only[gU,aC]at h ⊢
  rw[e];exact h
 case blk sz es =>
  have e:=he (.blk sz es) (by simp[cZ])
  simp only[gU,aC]at h ⊢
  rw[e];exact h
 case ref p k n=>exact absurd rfl (hp p k n)
 case adr p k n=>exact absurd rfl (hp2 p k n)
 case mrf b=>exact absurd rfl (hp3 b)
 case ifa T p k n=>exact absurd rfl (hp4 T p k n)
 all_goals exact h
theorem kQ{t:Nat}:∀{ds:List D} {i:Nat} {vs:List Value},df F M ρ (bU 0 i ds) vs->(∀j x,(rt 0 j,x)∈bR 0 i ds->ρ' (.r (rt t j))=ρ (.r (rt 0 j)))->(∀d∈ds,Dj d=true)->df F M ρ' (bU t i ds) vs
 | [],i,vs,h,_,_=>⟨by simpa[bU]using h.1,fun j d v h1=>by simp[bU]at h1⟩
 | d::ds,i,[],h,_,_=>by have:=h.1;simp[bU]at this
 | d::ds,i,v::vs,h,he,hk=>by
  have hd:=hk d (by simp)
  have ih:=kQ (t:=t) (ds:=ds) (i:=i+1) (vs:=vs) ⟨by have:=h.1;simpa[bU]using this,fun j d' v' h1 h2=>h.2 (j+1) d' v' (by simpa[bU]using h1) (by simpa using h2)⟩ (fun j x hx=>he j x (by simp only[bR,x0n];exact .inr hx)) (fun d' hd'=>hk d' (by simp[hd']))
  refine⟨by have:=ih.1;simp[bU,this],fun j d' v' h1 h2=>?_⟩
  cases j with
  | zero =>
   simp only[bU,x1k,x0s]at h1 h2
   subst h1 h2
   exact Am (h.2 0 _ _ (by simp[bU]) rfl) (fun x hx=>he i x (by simp only[bR,x0n];exact .inl hx)) (fun p k n e=>by rw[e]at hd;cases hd) (fun p k n e=>by rw[e]at hd;cases hd) (fun b e=>by rw[e]at hd;cases hd) (fun T p k n e=>by rw[e]at hd;cases hd)
  | succ j=>exact ih.2 j d' v' (by simpa[bU]using h1) (by simpa using h2)
theorem iS{t b:Nat}{x R:D}(hok:okR R=true)(h:(b,x)∈aS t R):∃j,1<=j/\j<=14/\b=rt t j/\∃sz es,x=.blk sz es/\∀t',(rt t' j,x)∈aS t' R:=by
 obtain⟨j,h1,h2,h3,h4⟩:=lE h
 refine⟨j,h1,?_,h3,h4⟩
 have:(j7 R).length<=14:=by
  cases R<;>simp only[okR,x0a,x0b,x0o]at hok<;>first|exact hok.1|simp[j7]
 omega
theorem AC{R:D}(hok:okR R=true):∀d∈j7 R,Dj d=true:=by
 cases R<;>simp only[okR,x0a,x0o,x0f]at hok<;>first|exact hok.2|(intro d hd;simp only[j7,x0H,x07,or_false]at hd;subst hd;rfl)
theorem Ba(hC:bQ P F C)(h:SR F nt S L w0 M0 f M a w)(hL:∀t i,i<15->L (rt t i)=none){t:Nat}(hd:o.dst=some t)(ht:t<nt){g fi:Nat}{xs:List Opd}{ys:Array Operand}{ts:Array TypeId}(ho:o.op=.call { callee:=.value (.func fi),args:=ys,argTypes:=ts })(hx:bY F xs ys.toList=true)
  (hg:F g=some fi) (hr:(∀x∈xs,isV (vd f x)=true)/\∃R,okR R=true/\C g (xs.map (vd f)) R [.nils]/\K ((t,fZ t R)::aS t R) (fF t R)):o.wp P a w (PostX F nt S L w0 M0 f K) Q:=by
 obtain⟨hxs,R,hok,hc,hK⟩:=hr
 have hrun:(execOp a.eval o).run P w=(callFunc fi (ys.toList.map a.eval).toArray).run P w:=by
  simp only[execOp,ho,resolve,Act.eval,Deferred.ofValue,Sem.run_bind,Sem.run_pure,Result.andThen_ok,invoke]
  congr 2
  rw[x1R,x1y]
  apply Array.ext'
  simp
 have hrep:av F M (xs.map (vd f)) (ys.toList.map a.eval):=by
  have h1:=gJ h hx (by rw[x0f];exact hxs)
  rwa[x0j (g:=vd f) fun x hx'=>by unfold dpv;exact(kN (hxs x hx')).1]at h1
 obtain⟨ρ,ω,hO⟩:=h.own
 have ht10:t<10000:=x1H ht h.hnt
 unfold Oper.wp
 rw[hrun,cx (hC.body g fi hg),Oper.upon_enter]
 refine(hC.runsA g fi _ R hg hc M w _ h.holds hrep).mono ?_
 rintro e w' ⟨v,M',ρ',ω',us,rfl,hb,hM,hfr,hh,hsh,hrl,hroot,hω',hap'⟩
 rw[hd]
 refine⟨_,_,M',hK,?_⟩
 have mem:∀b,((aS t R).any fun q=>q.1==b)=true↔∃x,(b,x)∈aS t R:=fun b=>by
  simp only[x1e,x0r]
  constructor
  ·rintro⟨⟨c,x⟩,h1,rfl⟩;exact⟨x,h1⟩
  ·rintro⟨x,h1⟩;exact⟨(b,x),h1,rfl⟩
 obtain⟨ρ2,hρ2⟩:∃ρ2:Pa->Loc,ρ2=fun p=>if ((aS t R).any fun q=>q.1==p.root)=true then ρ' (p.to (p.root-16*t)) else ρ p:=⟨_,rfl⟩
 obtain⟨ω2,hω2⟩:∃ω2:Nat->Option Pa,ω2=fun k=>match ω' k with
  | some q=>some (q.to (q.root+16*t))
  | none=>match ω k with
   | some p=>if ((aS t R).any fun q=>q.1==p.root)=true then none else some p
   | none=>none:=⟨_,rfl⟩
 have r1:∀p:Pa,(∃x,(p.root,x)∈aS t R)->ρ2 p=ρ' (p.to (p.root-16*t)):=fun p hp=>by rw[hρ2];simp only[(mem _).2 hp,if_true]
 have r2:∀p:Pa,¬(∃x,(p.root,x)∈aS t R)->ρ2 p=ρ p:=fun p hp=>by
  rw[hρ2]
  have:¬((aS t R).any fun q=>q.1==p.root)=true:=fun e=>hp ((mem _).1 e)
  simp only[if_neg this]
 have o1:∀k q,ω' k=some q->ω2 k=some (q.to (q.root+16*t)):=fun k q e=>by rw[hω2];simp only[e]
 have oldnew:∀k p q,ω k=some p->ω' k≠some q:=fun k p q e e'=>by
  have:=hO.lt k p e
  have:=(hω' k q e').1
  omega
 have o2:∀k p,ω k=some p->¬(∃x,(p.root,x)∈aS t R)->ω2 k=some p:=fun k p e hp=>by
  have e1:ω' k=none:=by
   cases e2:ω' k with
   | none=>rfl
   | some q=>exact absurd e2 (oldnew k p q e)
  have:¬((aS t R).any fun q=>q.1==p.root)=true:=fun e=>hp ((mem _).1 e)
  rw[hω2];simp only[e1,e,if_neg this]
 have o3:∀k p,ω2 k=some p->(∃q,ω' k=some q)\/ω k=some p:=fun k p e=>by
  rw[hω2]at e
  simp only at e
  cases e1:ω' k with
  | some q=>exact .inl ⟨q,rfl⟩
  | none =>
   rw[e1]at e
   simp only at e
   cases e2:ω k with
   | none=>rw[e2]at e;cases e
   | some p' =>
    rw[e2]at e
    simp only at e
    split at e
    ·cases e
    ·cases e;exact .inr rfl
 have hshift:∀j x,(rt 0 j,x)∈aS 0 R->ρ2 (.r (rt t j))=ρ' (.r (rt 0 j)):=fun j x hx=>by
  obtain⟨j',h1,h2,h3,sz,es,h4,h5⟩:=iS hok hx
  have ej:j=j':=by unfold rt at h3;omega
  subst ej
  rw[r1 (.r (rt t j)) ⟨x,h5 t⟩]
  show ρ' (.r (rt t j-16*t))=_
  have:rt t j-16*t=rt 0 j:=by unfold rt;omega
  rw[this]
 have lkn:∀s,s≠t->¬(∃x,(s,x)∈aS t R)->((t,fZ t R)::aS t R).lookup s=none:=fun s h1 h2=>by
  have e1:(s==t)=false:=by simpa using h1
  simp only[x0l,e1]
  exact wX fun y hy=>h2 ⟨y,hy⟩
 have small:∀s,s<10000->¬(∃x,(s,x)∈aS t R):=fun s hs ⟨x,hx⟩=>by
  obtain⟨j,_,_,h3,_⟩:=iS hok hx
  unfold rt at h3;omega
 refine⟨h.hnt,by simp[Act.put,h.size],by simp[Act.put,h.defers],h.ch.trans (Ch.of_below hb (fun _=>False)) (fun _ _ e=>e.elim),hh,Mem.le_trans h.ext hM,fun p h1 h2=>?_,ρ2,ω2,hO.step (ks:=fF t R) (fun p hp=>?_) hM hb.size (fun s hs=>?_) (fun c hc=>?_) (fun k p e=>?_) (fun p q e=>?_) (fun c l hc hl hB=>?_)⟩
 ·by_cases e:M p=none
  ·exact .inr (x09 h.ch.size (hfr p e h2))
  ·exact h.fresh p h1 e
 ·by_cases e:∃x,(p.root,x)∈aS t R
  ·obtain⟨x,hx⟩:=e
   exact⟨(p.root,true),x0w.2 ⟨_,hx,rfl⟩,oy p⟩
  ·exact absurd (r2 p e) hp
 ·by_cases e:s=t
  ·right
   subst e
   have e1:eff ((s,fZ s R)::aS s R) (fF s R) f s=fZ s R:=aP (by simp)
   refine .inr ⟨v,getElem?_put_same (by rw[h.size];exact ht),?_⟩
   rw[e1]
   have hp:=AC hok
   cases R<;>simp only[okR,x0o]at hok
   case agg ds=>exact⟨us,hsh,kQ hrl (fun j x hx=>hshift j x hx) hp⟩
   case tup ds=>exact⟨us,hsh,kQ hrl (fun j x hx=>hshift j x hx) hp⟩
   all_goals
    have h3:=kQ (t:=s) hrl (fun j x hx=>hshift j x hx) hp
    simp only[xA]at hsh
    subst hsh
    have h4:=h3.2 0 _ v rfl rfl
    exact h4
  ·left
   rcases bO (f:=f) (ks:=fF t R) (lkn s e (small s hs))with h1|h1
   ·exact .inl h1
   ·exact .inr ⟨h1.1,getElem?_put e,h1.2⟩
 ·by_cases e:∃x,(c,x)∈aS t R
  ·obtain⟨x,hx⟩:=e
   obtain⟨j,h1,h2,h3,sz,es,rfl,h5⟩:=iS hok hx
   right
   have hct:(c==t)=false:=by simp;omega
   have hlk:((t,fZ t R)::aS t R).lookup c=some (.blk sz es):=by
    simp only[x0l,hct]
    exact yg (fun y hy=>(iq hx hy).symm) hx
   have ec:c-16*t=rt 0 j:=by rw[h3];unfold rt;omega
   have ec2:rt 0 j+16*t=c:=by rw[h3];unfold rt;omega
   refine .inl ⟨sz,es,aP hlk,(hroot (rt 0 j) sz es (h5 0)).carry (Mem.le_refl _) (fun p hp=>?_)⟩
   refine⟨?_,fun e2=>⟨?_,rfl⟩⟩
   ·rw[r1 _ ⟨_,by rw[Pa.to_root];exact hx⟩,Pa.to_root,ec,Pa.to_to (rt 0 j) c p hp]
   ·rw[o1 _ _ e2,hp,ec2]
  ·left
   rcases ca (f:=f) (ks:=fF t R) (lkn c (by omega) e)with h1|h1
   ·exact .inl h1
   ·refine .inr ⟨h1,fun p hp=>?_⟩
    have hpe:¬(∃x,(p.root,x)∈aS t R):=by rw[hp];exact e
    exact⟨r2 p hpe,fun hw=>⟨o2 _ _ hw hpe,hb.block _ (hO.lt _ _ hw)⟩⟩
 ·rcases o3 k p e with ⟨q,e1⟩|e1
  ·exact .inr ⟨(hω' k q e1).2.1,.inr (x09 h.ch.size (hω' k q e1).1)⟩
  ·exact .inl ⟨p,e1⟩
 ·rcases o3 _ q e with ⟨q',e1⟩|e1
  ·exact hap' p q' e1
  ·cases e3:M' p with
   | none=>rfl
   | some u =>
    have h1:=hfr p (hO.apart p q e1) (by rw[e3];simp)
    have:=hO.lt _ _ e1
    omega
 ·by_cases e:∃x,(c,x)∈aS t R
  ·obtain⟨x,hx⟩:=e
   obtain⟨j,h1,h2,h3,_⟩:=iS hok hx
   rw[h3,hL t j (by omega)]at hl;cases hl
  ·have hpe:¬(∃x,((Pa.r c).root,x)∈aS t R):=e
   refine⟨r2 _ hpe,?_⟩
   rcases ca (f:=f) (ks:=fF t R) (lkn c (by omega) e)with h1|h1
   ·rw[hB]at h1;cases h1
   ·rw[<- h1];exact hB
end
end Go.Gv

namespace Go.Gv
variable[Drw]
section
variable{P:Program}{F:Fid}{C:Nat->List D->D->List D->Prop}{nt:Nat}{S:Nat->Prop}{L:Ln}{w0:World}{M0:Mem}{f:Nat->D}{M:Mem}{a:Act}{w:World}{o:Oper}{d:D}{Q:Exit->Act->World->Prop}{ρ:Pa->Loc}{ω:Nat->Option Pa}{New:Nat->Prop}{K:List (Nat×D)->List (Nat×Bool)->Prop}
theorem SR.frzS(h:SR F nt S L w0 M0 f M a w){t:Nat}(ht:t<nt){c:Nat}(hc:10000<=c){cs:List D}{v:Value}
  (hv:∀ρ ω,Own F L (fun k=>S k\/w0.heap.size<=k) f M a w ρ ω->ae F (bB (fz ω c) M w) (.agg cs) v) :
  ∃M',SR F nt S L w0 M0 (eff [(t,.agg cs),(c,.any)] [] f) M' (a.put (some t) v) w:=by
 obtain⟨ρ,ω,hO⟩:=h.own
 have hnt:=h.hnt
 have hsz:=h.size
 have hO1:=hO.only hc
 have hr:=hv ρ ω hO
 have hle:M.le (bB (fz ω c) M w):=cF hO1
 have hE:=hO.erase hc
 have hf':∀s,eff [(t,.agg cs),(c,.any)] [] f s=if s=t then .agg cs else fbE f c s:=fun s=>by
  unfold eff fbE
  by_cases e:s=t
  ·subst e;simp
  ·have b1:(s==t)=false:=by simpa using e
   by_cases e2:s=c
   ·subst e2
    simp only[List.lookup,b1,beq_self_eq_true,if_neg e,if_true]
   ·have b2:(s==c)=false:=by simpa using e2
    simp only[List.lookup,b1,b2,if_neg e,if_neg e2]
    simp[aN]
 refine⟨bB (fz ω c) M w,⟨hnt,by simp[Act.put,hsz],by simp[Act.put,h.defers],h.ch,cw h.holds,Mem.le_trans h.ext hle,fun p h1 h2=>?_,ρ,fp ω c,?_⟩⟩
 ·by_cases e:M p=none
  ·unfold bB at h2
   split at h2
   ·rename_i q hq
    exact hO.new _ _ (dR hq).1
   ·exact absurd e h2
  ·exact h.fresh p h1 e
 ·refine hE.step (ks:=[]) (fun p hp=>absurd rfl hp) hle (x0k _) (fun s hs=>?_) (fun b hb=>?_) (fun k p e=>.inl ⟨p,e⟩) (fun p q e=>?_) (fun b l hb hl hB=>?_)
  ·rw[hf']
   by_cases e:s=t
   ·subst e
    rw[if_pos rfl]
    refine .inr (.inr ⟨v,by simp[Act.put,hsz,ht],?_⟩)
    rw[hf',if_pos rfl,az rfl]
    exact hr
   ·rw[if_neg e]
    refine .inl (.inr ⟨rfl,?_,by simp[aN]⟩)
    simp[Act.put,x1l,Ne.symm e]
  ·have:b≠t:=by omega
   rw[hf',if_neg this]
   exact .inl (.inr ⟨rfl,fun p hp=>⟨rfl,fun hw=>⟨hw,rfl⟩⟩⟩)
  ·obtain⟨e2,e3⟩:=fg e
   have e4:fz ω c p.block=none:=by
    simp only[fz,e2,if_neg e3]
   simp only[bB,e4]
   exact hO.apart p q e2
  ·have:b≠t:=by omega
   rw[hf',if_neg this]at hB
   exact⟨rfl,hB⟩
theorem wv{v:Value}(h:ae F M d v):bq d=d:=by
 cases d<;>first|rfl|(simp[ae]at h)
theorem zQ(hO:Own F L New f M a w ρ ω){c:Nat}(hc:10000<=c){sz:Nat}{es:List (List D)}(hg:f c=.blk sz es){i:Nat}{r:List D}(hi:es[i]? = some r){off:Nat}(ho:r[off]? = some d){v:Value}(h:cE F M ω ρ w c i off d v):ae F (bB (fz ω c) M w) (bq d) v:=by
 have hO1:=hO.only hc
 cases d
 case own sz' rr =>
  obtain⟨h1,h2⟩:=h
  have hcc:fcE f c c=f c:=by simp[fcE]
  have e1:aX (fcE f c) (.n c i off)=some (sz',rr):=by simp only[aX,hcc,hg,hi,x1p,ho]
  have h3:=ma hO1 h1 (by simp only[bA,e1];omega)
  simp only[dp1,e1,List.drop_zero,x0L]at h3
  have h4:rr.map (fun e=>e.map bq)=rr:=by
   rcases h2 with ⟨h2,_⟩|⟨_,_,vs,T,_,_,_,_,h5⟩
   ·rw[h2];rfl
   ·conv=>rhs;rw[<- List.map_id rr]
    refine x0j fun e he=>?_
    conv=>rhs;rw[id_eq,<- List.map_id e]
    refine x0j fun x hx=>?_
    obtain⟨i',hi'⟩:=List.getElem?_of_mem he
    obtain⟨o',ho'⟩:=List.getElem?_of_mem hx
    obtain⟨u,_,hu⟩:=h5 i' e o' x hi' ho'
    exact wv hu
  rw[h4]at h3
  exact h3
 all_goals exact ae.mono (cF hO1) _ _ h
theorem GA(h:SR F nt S L w0 M0 f M a w){t0:Nat}(hd:o.dst=some t0)(ht:t0<nt){n:Nat}{x:Opd}{x':Operand}{t:TypeId}(ho:o.op=.load t x')(hx:ao F x x'=true)(hk:tyS P t n true=true)
  (hr:match vd f x with
   | .adr (.r c) i off=>match f c with
    | .blk _ es=>∃r,es[i]? = some r/\off+n<=r.length/\K [(t0,.agg (((r.drop off).take n).map bq)),(c,.any)] []
    | _=>False
   | _=>False):o.wp P a w (PostX F nt S L w0 M0 f K) Q:=by
 split at hr
 ·rename_i c i off ex
  split at hr
  ·rename_i sz es hg
   obtain⟨r,hi,hn,hK⟩:=hr
   have gp:aX f (.r c)=some (sz,es):=by simp only[aX,hg]
   obtain⟨ρ0,ω0,hO0⟩:=h.own
   have hc:10000<=c:=cY hO0 gp
   have run:∃v,(execOp a.eval o).run P w=.ok (.value v) w/\∀ρ ω,Own F L (fun k=>S k\/w0.heap.size<=k) f M a w ρ ω->ae F (bB (fz ω c) M w) (.agg (((r.drop off).take n).map bq)) v:=by
    have one:∀ρ ω,Own F L (fun k=>S k\/w0.heap.size<=k) f M a w ρ ω->∃v,(execOp a.eval o).run P w=.ok (.value v) w/\ae F (bB (fz ω c) M w) (.agg (((r.drop off).take n).map bq)) v:=by
     intro ρ ω hO
     have g1:=hO.opd hx
     rw[ex,az rfl]at g1
     simp only[aC]at g1
     obtain⟨vs,T,hω,h0,hl,h1,h2,h3,h4⟩:=hO.row (p:=.r c) hc gp hi
     rw[h0]at g1
     have hcells:∀j v,(vs.drop ((ρ (.r c)).base+i*sz+off))[j]? = some v->w.cell? ((⟨(ρ (.r c)).blk,(ρ (.r c)).base+i*sz+off,none⟩:Addr).add j)=some v:=by
      intro j v hj
      rw[dy]
      rw[x0v]at hj
      simp[World.cell?,h1,hj]
     refine⟨.agg ((vs.drop ((ρ (.r c)).base+i*sz+off)).take n).toArray,by simp only[execOp,ho,g1,Sem.run_bind,fa hk hcells (by simp;omega),Result.andThen_ok,Sem.run_pure,if_true],?_⟩
     simp only[ae]
     refine⟨_,rfl,av.of_forall' (by simp only[x0S,x06,x1I];omega) (fun j d v k1 k2=>?_)⟩
     rw[x0z,x0p]at k1
     obtain⟨d',k1,rfl⟩:=k1
     have hj:j<n:=by
      have:=(x0d.1 k1).1
      simp only[x06]at this;omega
     rw[x0D hj,x0v]at k1 k2
     obtain⟨v',k3,k4⟩:=h4 _ _ k1
     rw[x0Y,k3]at k2
     cases k2
     exact zQ hO hc hg hi k1 k4
    obtain⟨v,hv,_⟩:=one ρ0 ω0 hO0
    refine⟨v,hv,fun ρ ω hO=>?_⟩
    obtain⟨v',hv',h2⟩:=one ρ ω hO
    rw[hv]at hv'
    cases hv'
    exact h2
   obtain⟨v,hv,hrep⟩:=run
   obtain⟨M',hs⟩:=h.frzS ht hc hrep
   exact dD hv (by rw[hd];exact⟨_,_,M',hK,hs⟩)
  ·exact hr.elim
 ·exact hr.elim
end
end Go.Gv
namespace Go.Gv
variable[Drw]
section
variable{P:Program}{F:Fid}{C:Nat->List D->D->List D->Prop}{nt:Nat}{S:Nat->Prop}{L:Ln}{w0:World}{M0:Mem}{f:Nat->D}{M:Mem}{a:Act}{w:World}{o:Oper}{d:D}{Q:Exit->Act->World->Prop}{ρ:Pa->Loc}{ω:Nat->Option Pa}{New:Nat->Prop}{K:List (Nat×D)->List (Nat×Bool)->Prop}
theorem pM{t:Nat}:∀{ds:List D} {i j:Nat},(bU t i ds)[j]? =(ds[j]?).map (gU t (i+j))
 | [],i,j=>by simp[bU]
 | d::ds,i,j=>by
  cases j with
  | zero=>simp[bU]
  | succ j =>
   simp only[bU,List.getElem?_cons_succ]
   rw[pM,show i+1+j=i+(j+1) by omega]
theorem pN{t:Nat}:∀{ds:List D} {i:Nat},(bU t i ds).length=ds.length
 | [],i=>rfl
 | d::ds,i=>by simp[bU,pN]
theorem ot{t b:Nat}{x:D}:∀{ds:List D} {i:Nat},(b,x)∈bR t i ds->∃j d,ds[j]? = some d/\(b,x)∈cZ t (i+j) d
 | [],i,h=>by simp[bR]at h
 | d::ds,i,h=>by
  simp only[bR,x0n]at h
  rcases h with h|h
  ·exact⟨0,d,by simp,h⟩
  ·obtain⟨j,d',h1,h2⟩:=ot h
   exact⟨j+1,d',by simpa using h1,by rwa[show i+(j+1)=i+1+j by omega]⟩
theorem ou{t b:Nat}{x:D}:∀{ds:List D} {i j:Nat} {d:D},ds[j]? = some d->(b,x)∈cZ t (i+j) d->(b,x)∈bR t i ds
 | [],i,j,d,h,_=>by simp at h
 | d0::ds,i,j,d,h,hx=>by
  simp only[bR,x0n]
  cases j with
  | zero=>simp at h;subst h;exact .inl hx
  | succ j=>exact .inr (ou (j:=j) (by simpa using h) (by rwa[show i+(j+1)=i+1+j by omega]at hx))
theorem pP{t j sz:Nat}{ds:List D}{es:List (List D)}(h:ds[j]? = some (.own sz es)):(rt t (1+j),D.blk sz es)∈bR t 1 ds:=ou h (by simp[cZ])
theorem SR.unpack(h:SR F nt S L w0 M0 f M a w)(hL:∀t i,i<15->L (rt t i)=none){t:Nat}(ht:t<nt){c sz:Nat}{row:List D}(hg:f c=.blk sz [row])(hok:okR (.agg row)=true)(hcn:∀x,(c,x)∉aS t (.agg row)){v:Value}
  (hv:∀ρ ω,Own F L (fun k=>S k\/w0.heap.size<=k) f M a w ρ ω->∃vs:List Value,v=.agg vs.toArray/\vs.length=row.length/\∀(j:Nat) (d:D) (u:Value),row[j]? = some d->vs[j]? = some u->cE F M ω ρ w c 0 j d u) :
  SR F nt S L w0 M0 (eff ((t,fZ t (.agg row))::(c,.any)::aS t (.agg row)) (fF t (.agg row)) f) M (a.put (some t) v) w:=by
 obtain⟨ρ,ω,hO⟩:=h.own
 obtain⟨vs,hv1,hv2,hv3⟩:=hv ρ ω hO
 have hc10:10000<=c:=hO.big hg
 have ht10:t<10000:=x1H ht h.hnt
 have hct0:c≠t:=by omega
 obtain⟨R,hR⟩:∃R,R=D.agg row:=⟨_,rfl⟩
 rw[<- hR]at hok hcn ⊢
 have mem:∀b,((aS t R).any fun q=>q.1==b)=true↔∃x,(b,x)∈aS t R:=fun b=>by
  simp only[x1e,x0r]
  constructor
  ·rintro⟨⟨c,x⟩,h1,rfl⟩;exact⟨x,h1⟩
  ·rintro⟨x,h1⟩;exact⟨(b,x),h1,rfl⟩
 have inR:∀j sz es,row[j]? = some (.own sz es)->(rt t (1+j),D.blk sz es)∈aS t R:=fun j sz es hj=>by
  rw[hR];exact pP hj
 have ofR:∀b x,(b,x)∈aS t R->∃j sz es,b=rt t (1+j)/\row[j]? = some (.own sz es)/\x=.blk sz es:=fun b x hx=>by
  rw[hR]at hx
  obtain⟨j,d,hj,hd⟩:=ot hx
  have hj':j<vs.length:=by rw[hv2];exact(x0d.1 hj).1
  have hcell:=hv3 j d _ hj (x0e hj')
  cases d<;>simp only[cZ,x0H,x07,or_false,Prod.mk.injEq]at hd
  case own sz es=>exact⟨j,sz,es,hd.1,hj,hd.2⟩
  case blk sz es=>simp[cE,ae]at hcell
 obtain⟨ρ2,hρ2⟩:∃ρ2:Pa->Loc,ρ2=fun p=>match p with
  | .r b=>if ((aS t R).any fun q=>q.1==b)=true then ρ (.n c 0 (b-rt t 1)) else ρ p
  | .n _ _ _=>ρ p:=⟨_,rfl⟩
 obtain⟨ω2,hω2⟩:∃ω2:Nat->Option Pa,ω2=fun k=>match ω k with
  | some p=>if p.root=c then(match p with
    | .n _ i o=>if i=0/\((aS t R).any fun q=>q.1==rt t (1+o))=true then some (.r (rt t (1+o))) else none
    | .r _=>none) else if ((aS t R).any fun q=>q.1==p.root)=true then none else some p
  | none=>none:=⟨_,rfl⟩
 have r1:∀j x,(rt t (1+j),x)∈aS t R->ρ2 (.r (rt t (1+j)))=ρ (.n c 0 j):=fun j x hx=>by
  rw[hρ2];simp only[(mem _).2 ⟨x,hx⟩,if_true]
  have:rt t (1+j)-rt t 1=j:=by unfold rt;omega
  rw[this]
 have r2:∀p:Pa,¬(∃x,(p.root,x)∈aS t R)->ρ2 p=ρ p:=fun p hp=>by
  rw[hρ2]
  cases p with
  | r b =>
   have:¬((aS t R).any fun q=>q.1==b)=true:=fun e=>hp ((mem _).1 e)
   simp only[if_neg this]
  | n b i o=>rfl
 have o1:∀k j x,ω k=some (.n c 0 j)->(rt t (1+j),x)∈aS t R->ω2 k=some (.r (rt t (1+j))):=fun k j x e hx=>by
  rw[hω2];simp only[e,Pa.root,if_true,(mem _).2 ⟨x,hx⟩,and_self]
 have o2:∀k p,ω k=some p->p.root≠c->¬(∃x,(p.root,x)∈aS t R)->ω2 k=some p:=fun k p e hpc hp=>by
  have:¬((aS t R).any fun q=>q.1==p.root)=true:=fun e=>hp ((mem _).1 e)
  rw[hω2];simp only[e,if_neg hpc,if_neg this]
 have o3:∀k p,ω2 k=some p->∃q,ω k=some q:=fun k p e=>by
  rw[hω2]at e
  simp only at e
  cases e1:ω k with
  | some q=>exact⟨q,rfl⟩
  | none=>rw[e1]at e;cases e
 have lkn:∀s,s≠t->s≠c->¬(∃x,(s,x)∈aS t R)->((t,fZ t R)::(c,D.any)::aS t R).lookup s=none:=fun s h1 h2 h3=>by
  have e1:(s==t)=false:=by simpa using h1
  have e2:(s==c)=false:=by simpa using h2
  simp only[x0l,e1,e2]
  exact wX fun y hy=>h3 ⟨y,hy⟩
 have small:∀s,s<10000->¬(∃x,(s,x)∈aS t R):=fun s hs ⟨x,hx⟩=>by
  obtain⟨j,_,_,h3,_⟩:=ofR s x hx
  unfold rt at h3;omega
 refine⟨h.hnt,by simp[Act.put,h.size],by simp[Act.put,h.defers],h.ch,h.holds,h.ext,h.fresh,ρ2,ω2,hO.step (ks:=fF t R) (fun p hp=>?_) (Mem.le_refl _) (x0k _) (fun s hs=>?_) (fun b hb=>?_) (fun k p e=>.inl (o3 k p e)) (fun p q e=>?_) (fun b l hb hl hB=>?_)⟩
 ·by_cases e:∃x,(p.root,x)∈aS t R
  ·obtain⟨x,hx⟩:=e
   exact⟨(p.root,true),x0w.2 ⟨_,hx,rfl⟩,oy p⟩
  ·exact absurd (r2 p e) hp
 ·by_cases e:s=t
  ·right
   subst e
   have e1:eff ((s,fZ s R)::(c,D.any)::aS s R) (fF s R) f s=fZ s R:=aP (by simp)
   refine .inr ⟨v,getElem?_put_same (by rw[h.size];exact ht),?_⟩
   rw[e1,hR]
   refine⟨vs,hv1,by rw[pN];exact hv2.symm,fun j d u h1 h2=>?_⟩
   rw[pM,x0p]at h1
   obtain⟨d',h1,rfl⟩:=h1
   have hcell:=hv3 j d' u h1 h2
   cases d'
   case own sz' es' =>
    simp only[gU,aC]
    rw[r1 j _ (inR j _ _ h1)]
    exact hcell.1
   all_goals first|exact aC.of_pure hcell|(simp[cE,ae]at hcell;done)
  ·left
   rcases bO (f:=f) (ks:=fF t R) (lkn s e (by omega) (small s hs))with h1|h1
   ·exact .inl h1
   ·exact .inr ⟨h1.1,getElem?_put e,h1.2⟩
 ·by_cases e:∃x,(b,x)∈aS t R
  ·obtain⟨x,hx⟩:=e
   obtain⟨j,sz',es',h3,h4,rfl⟩:=ofR b x hx
   right
   have hct:(b==t)=false:=by simp;omega
   have hbc:b≠c:=fun e=>hcn _ (e▸hx)
   have hct2:(b==c)=false:=by simpa using hbc
   have hlk:((t,fZ t R)::(c,D.any)::aS t R).lookup b=some (.blk sz' es'):=by
    simp only[x0l,hct,hct2]
    exact yg (fun y hy=>(iq hx hy).symm) hx
   refine .inl ⟨sz',es',aP hlk,?_⟩
   have hj':j<vs.length:=by rw[hv2];exact(x0d.1 h4).1
   have hcell:=hv3 j _ _ h4 (x0e hj')
   subst h3
   have e1:=r1 j _ hx
   unfold dg cB
   rw[e1]
   rcases hcell.2 with h5|⟨h5,h6,us,T,g1,g2,g3,g4,g5⟩
   ·exact .inl h5
   ·refine .inr ⟨o1 _ j _ h5 hx,h6,us,T,g1,g2,g3,g4,fun i r off d k1 k2=>?_⟩
    obtain⟨u,k3,k4⟩:=g5 i r off d k1 k2
    refine⟨u,k3,?_⟩
    cases d
    case own=>simp[ae]at k4
    all_goals exact k4
  ·by_cases ebc:b=c
   ·subst ebc
    refine .inl (.inl ?_)
    have hct:(b==t)=false:=by simp;omega
    rw[aP (d:=.any) (by simp[x0l,hct])]
    rfl
   ·left
    rcases ca (f:=f) (ks:=fF t R) (lkn b (by omega) ebc e)with h1|h1
    ·exact .inl h1
    ·refine .inr ⟨h1,fun p hp=>?_⟩
     have hpe:¬(∃x,(p.root,x)∈aS t R):=by rw[hp];exact e
     exact⟨r2 p hpe,fun hw=>⟨o2 _ _ hw (by rw[hp];exact ebc) hpe,rfl⟩⟩
 ·obtain⟨q',e1⟩:=o3 _ q e
  exact hO.apart p q' e1
 ·by_cases e:∃x,(b,x)∈aS t R
  ·obtain⟨x,hx⟩:=e
   obtain⟨j,h1,h2,h3,_⟩:=iS hok hx
   rw[h3,hL t j (by omega)]at hl;cases hl
  ·have hct:(b==t)=false:=by simp;omega
   by_cases ebc:b=c
   ·subst ebc
    rw[aP (d:=.any) (by simp[x0l,hct])]at hB;cases hB
   ·refine⟨r2 _ e,?_⟩
    rcases ca (f:=f) (ks:=fF t R) (lkn b (by omega) ebc e)with h1|h1
    ·rw[hB]at h1;cases h1
    ·rw[<- h1];exact hB
end
end Go.Gv

namespace Go.Gv
variable[Drw]
section
variable{P:Program}{F:Fid}{C:Nat->List D->D->List D->Prop}{nt:Nat}{S:Nat->Prop}{L:Ln}{w0:World}{M0:Mem}{f:Nat->D}{M:Mem}{a:Act}{w:World}{o:Oper}{d:D}{Q:Exit->Act->World->Prop}{ρ:Pa->Loc}{ω:Nat->Option Pa}{New:Nat->Prop}{K:List (Nat×D)->List (Nat×Bool)->Prop}
theorem Cd{es rs:List (List D)}{k:Nat}(h:k+rs.length<=es.length):(jN es k rs).length=es.length:=by
 simp only[jN,x0C,x06,x1I];omega
theorem Cc{es rs:List (List D)}{k i:Nat}(h:k+rs.length<=es.length):(jN es k rs)[i]? = if k<=i/\i<k+rs.length then rs[i-k]? else es[i]?:=by
 unfold jN
 have hl:(es.take k).length=k:=by simp;omega
 by_cases h1:i<k
 ·rw[if_neg (by omega),x1L,x0A (by omega),x0D h1]
 ·by_cases h2:i<k+rs.length
  ·rw[if_pos (by omega),x1L,x0B (by omega),hl,x0A (by omega)]
  ·rw[if_neg (by omega),x0B (by rw[x0C,hl];omega),x0C,hl,x0v]
   congr 1;omega
theorem Ce{es rs:List (List D)}{k:Nat}{e:List D}(he:e∈jN es k rs):e∈rs\/e∈es:=by
 unfold jN at he
 rcases x0n.1 he with he|he
 ·rcases x0n.1 he with he|he
  ·exact .inr (x0O he)
  ·exact .inl he
 ·exact .inr (x1f he)
def rH(P:Program)(t sz:Nat):Bool:=match P.underlying t with
 | some (.slice e)=>(match P.info? e with
  | some i=>i.size==sz
  | none=>false)
 | _=>false
theorem DN{T T2 sz:Nat}{ty:TypeId}(hk:rH P T sz=true){g o n m cap cap2:Nat}{ad:Addr}{cur news:List Value}{T0:TypeId}(hg:w.heap[g]? = some (.cells cur.toArray T0 (0,0)))(hl:o+min m n*sz<=cur.length)
  (hnl:news.length=m*sz) (hnews:∀j u,news[j]? = some u->w.cell? (ad.add j)=some u) (hone:∀u∈news,u.oneCell'=true) :
  ∃w',(Builtin.copy_ #[T,T2] ty #[.slice (some ⟨g,o,none⟩) n cap,.slice (some ad) m cap2]).run P w=.ok (.int .i64 (min m n:Nat)) w'/\w'.heap[g]? = some (.cells (cur.take o++news.take (min m n*sz)++cur.drop (o+min m n*sz)).toArray T0 (0,0))/\Ch (fun k=>k=g) w w':=by
 unfold rH at hk
 split at hk
 ·rename_i e hu
  split at hk
  ·rename_i i hi
   have hsz:i.size=sz:=by simpa using hk
   have hle:min m n*sz<=m*sz:=x0q _ (Nat.min_le_left _ _)
   have hnl2:(news.take (min m n*sz)).length=min m n*sz:=by rw[x06];omega
   obtain⟨w',e1,e2,e3,e4,e5,e6,e7,e8⟩:=dt (P:=P) g T0 o (news.take (min m n*sz)) 0 cur w hg (by rw[hnl2];omega) (fun v hv=>hone v (x0O hv))
   refine⟨w',?_,by rw[e2];simp only[x1r,hnl2],⟨e5,e6,e7,by omega,fun k _ hk=>e3 k hk,.of (by omega)⟩⟩
   have hld:=run_loadCells_list (P:=P) w ad (news.take (min m n*sz)) (fun j v hj=>hnews j v (by rw[x1g]at hj;split at hj;exact hj;cases hj))
   rw[hnl2]at hld
   have hmn:Nat.min m n=min m n:=rfl
   simp[Builtin.copy_,run_underlying hu,sizeOf,typeInfo,hi,Builtin.lenOf,Builtin.firstCells,hsz,hmn,hld,e1,goInt]
  ·cases hk
 ·cases hk
theorem AW{T T2 sz:Nat}{ty:TypeId}(hk:rH P T sz=true)(A:Option Addr)(cap:Nat)(ad:Addr)(m cap2:Nat):(Builtin.copy_ #[T,T2] ty #[.slice A 0 cap,.slice (some ad) m cap2]).run P w=.ok (.int .i64 0) w:=by
 unfold rH at hk
 split at hk
 ·rename_i e hu
  split at hk
  ·rename_i i hi
   have hmn:Nat.min m 0=0:=Nat.min_zero m
   cases A<;>simp[Builtin.copy_,run_underlying hu,sizeOf,typeInfo,hi,Builtin.lenOf,Builtin.firstCells,hmn,loadCells,loadCellsFrom,storeCells,goInt]
  ·cases hk
 ·cases hk
theorem Gw(h:SR F nt S L w0 M0 f M a w){t:Nat}(hd:o.dst=some t)(ht:t<nt){sz:Nat}{x y:Opd}{x' y':Operand}{T T2:TypeId}(ho:o.op=.call { callee:=.builtin .copy,args:=#[x',y'],argTypes:=#[T,T2] })(hx:ao F x x'=true)(hy:ao F y y'=true)(hk:rH P T sz=true)
  (hr:fH f false (vd f y) sz fun rows bs=>bs=[]/\0<rows.length/\match vd f x with
   | .ref (.r b) k n=>(n=0->K [(t,.int .i64 0)] [])/\(0<n->match f b with
    | .blk sz' es=>sz'=sz/\k+n<=es.length/\(∀e∈es,∀c∈e,aA c=true)/\(∀e∈rows,∀c∈e,aA c=true)/\K [(t,.int .i64 (min rows.length n:Nat)),(b,.blk sz (jN es k (rows.take n)))] []
    | _=>False)
   | _=>False):o.wp P a w (PostX F nt S L w0 M0 f K) Q:=by
 obtain⟨ρ,ω,hO⟩:=h.own
 obtain⟨rows,bs,c2,⟨hbs0,hrl,hr⟩,hbs,_,huY,A2,m,cap2,news,ey,hm,hnl,hA2,hone,hY⟩:=qD h hO hy hr
 have hc2:c2=none:=by
  rw[hbs0]at hbs
  cases c2 with
  | none=>rfl
  | some c=>simp at hbs
 subst hc2
 have hv:=hO.opd hx
 split at hr
 ·rename_i b k n hvx
  rw[hvx,az rfl]at hv
  obtain⟨ad0,hA0,_⟩:=hA2 (by omega)
  rcases x0X n with hn|hn
  ·have hK:=hr.1 hn
   subst hn
   have hv0:∃A cap,a.eval x'=.slice A 0 cap:=by
    simp only[aC]at hv
    rcases hv with ⟨_,A,e⟩|⟨cap,e,_⟩
    ·exact⟨A,0,e⟩
    ·exact⟨_,cap,e⟩
   obtain⟨A,cap,hv0⟩:=hv0
   refine postX_val hd (v:=.int .i64 0) (w':=w) ?_ hK (h.put ht (fun ρ ω _=>by rw[az rfl];simp only[aC,ae]))
   subst hA0
   have e1:=AW (P:=P) (w:=w) (T2:=T2) (ty:=o.type) hk A cap ad0 m cap2
   simp only[execOp,ho,resolve,invoke,builtin,x1Q,x0F,x02,Sem.run_bind,Sem.run_pure,Result.andThen_ok,hv0,ey,e1]
  have hr:=hr.2 hn
  split at hr
  ·rename_i sz' es hf
   obtain⟨rfl,hkn,hes1,hrow1,hK⟩:=hr
   have hb:=hO.big hf
   have hgp:aX f (.r b)=some (sz',es):=by simp[aX,hf]
   obtain⟨ad,rfl,hnews⟩:=hA2 (by omega)
   rcases ip hO hgp hkn hv (fun e he c hc=>cQ (hes1 e (x1f (x0O he)) c hc))with ⟨A,hv,hn0⟩|⟨cap,us,T0,hv,⟨hcap,hmc⟩,hcl,hω,g0,g1,g2,g4,g5⟩
   ·omega
   ·have hrows:fU w (ρ (.r b)) sz' es (fun i off d v=>cE F M ω ρ w b i off d v):=by
     rcases hO.roots b sz' es hb hf with ⟨e0,_⟩|⟨_,hr⟩
     ·rw[e0]at hkn;simp at hkn;omega
     ·exact hr
    obtain⟨q0,us0,T1,q1,q2,q3,q4,q5⟩:=id hrows
    rw[g1]at q1
    simp only[x0s,Obj.cells.injEq,and_true]at q1
    obtain⟨q1,rfl⟩:=q1
    obtain rfl:us=us0:=by simpa using congrArg Array.toList q1
    have hle:k*sz'+n*sz'<=es.length*sz':=by rw[<- x0I];exact x0q _ hkn
    have hmn:min m n*sz'<=n*sz':=x0q _ (Nat.min_le_right _ _)
    obtain⟨w',e1,e2,e3⟩:=DN (P:=P) (w:=w) (T2:=T2) (ty:=o.type) hk (m:=m) (n:=n) (cap:=cap) (cap2:=cap2) (o:=(ρ (.r b)).base+k*sz') g1 (by rw[g2];omega) hnl hnews hone
    have hmin:(rows.take n).length=min m n:=by rw[x06,hm,Nat.min_comm]
    have hfit:k+(rows.take n).length<=es.length:=by rw[hmin];omega
    have hml:min m n*sz'<=m*sz':=x0q _ (Nat.min_le_left _ _)
    have hN:(news.take (min m n*sz')).length=min m n*sz':=by rw[x06];omega
    have hfill:=h.fill hO hf hω hrows (es':=jN es k (rows.take n)) (us:=us.take ((ρ (.r b)).base+k*sz')++news.take (min m n*sz')++us.drop ((ρ (.r b)).base+k*sz'+min m n*sz')) (w':=w') (Nat.le_of_eq (Cd hfit)) (fun e he=>by
     rcases Ce he with he|he
     ·have he:=x0O he
      exact⟨huY e he,hrow1 e he⟩
     ·exact⟨g4 e he,hes1 e he⟩) e3 e2 (by simp only[x0C,x06,x1I]at hN ⊢;omega) (fun i r off d h1 h2=>by
     have hget:=fun x=>cU (vs:=us) (us:=news.take (min m n*sz')) (q:=(ρ (.r b)).base+k*sz') (n:=min m n*sz') (x:=x) hN (by omega)
     rw[Cc hfit,hmin]at h1
     split at h1
     ·rename_i hi
      have hil:i-k<(rows.take n).length:=by rw[hmin];omega
      have hin:i-k<n:=by rw[hmin]at hil;omega
      rw[x0D hin]at h1
      obtain⟨u,k1,k2⟩:=hY (i-k) r off d h1 h2
      have hof:off<sz':=by rw[<- huY r (x0g h1)];exact(x0d.1 h2).1
      have h3:=gl (sz:=sz') (show i-k<min m n by omega) hof
      have h4:(i-k)*sz'+k*sz'=i*sz':=by rw[<- x0I];congr 1;omega
      refine⟨u,?_,k2.2⟩
      rw[hget,if_pos (by omega),show(ρ (.r b)).base+i*sz'+off-((ρ (.r b)).base+k*sz')=(i-k)*sz'+off by omega,x0D h3]
      exact k1
     ·rename_i hi
      obtain⟨u,k1,k2⟩:=q5 i r off d h1 h2
      have hof:off<sz':=by rw[<- g4 r (x0g h1)];exact(x0d.1 h2).1
      rw[bx (cQ (hes1 r (x0g h1) d (x0g h2)))]at k2
      refine⟨u,?_,k2⟩
      have h5:¬((ρ (.r b)).base+k*sz'<=(ρ (.r b)).base+i*sz'+off/\(ρ (.r b)).base+i*sz'+off<(ρ (.r b)).base+k*sz'+min m n*sz'):=by
       rintro⟨h6,h7⟩
       rcases x1q i k with h8|h8
       ·have:=gl (sz:=sz') h8 hof;omega
       ·have h9:(k+min m n)*sz'<=i*sz':=x0q _ (by omega)
        rw[x0I]at h9;omega
      rw[hget,if_neg h5]
      exact k1)
    obtain⟨_,_,_,_,hs⟩:=hfill
    have hs2:=hs.put (t:=t) (d:=.int .i64 (min rows.length n:Nat)) (v:=.int .i64 (min m n:Nat)) ht (fun _ _ _=>by rw[az rfl,hm];simp only[aC,ae])
    refine dD (v:=.int .i64 (min m n:Nat)) (w':=w') ?_ ?_
    ·simp only[execOp,ho,resolve,invoke,builtin,x1Q,x0F,x02,Sem.run_bind,Sem.run_pure,Result.andThen_ok,hv,ey,e1]
    ·rw[hd]
     refine⟨_,_,M,hK,?_⟩
     have:eff [(t,D.int .i64 (min rows.length n:Nat)),(b,D.blk sz' (jN es k (rows.take n)))] [] f=eff [(t,.int .i64 (min rows.length n:Nat))] [] (eff [(b,.blk sz' (jN es k (rows.take n)))] [] f):=by
      funext s
      unfold eff
      by_cases h1:s=t
      ·subst h1;simp
      ·have e1:(s==t)=false:=by simpa using h1
       simp only[x0l,e1,x0V,aN,List.any_nil,x0o,if_false]
     rw[this]
     exact hs2
  ·exact hr.elim
 ·exact hr.elim
end
end Go.Gv

namespace Go.Gv
variable[Drw]
section
variable{P:Program}{F:Fid}{C:Nat->List D->D->List D->Prop}{nt:Nat}{S:Nat->Prop}{L:Ln}{w0:World}{M0:Mem}{f:Nat->D}{M:Mem}{a:Act}{w:World}{o:Oper}{d:D}{Q:Exit->Act->World->Prop}{ρ:Pa->Loc}{ω:Nat->Option Pa}{New:Nat->Prop}{K:List (Nat×D)->List (Nat×Bool)->Prop}
end
end Go.Gv

namespace Go.Gv
variable[Drw]
section
variable{P:Program}{F:Fid}{C:Nat->List D->D->List D->Prop}{nt:Nat}{S:Nat->Prop}{L:Ln}{w0:World}{M0:Mem}{f:Nat->D}{M:Mem}{a:Act}{w:World}{o:Oper}{Q:Exit->Act->World->Prop}{K:List (Nat×D)->List (Nat×Bool)->Prop}
end
end Go.Gv

namespace Go.Gv
variable[Drw]
open Go.RowKit
section
variable{P:Program}{F:Fid}{C:Nat->List D->D->List D->Prop}{nt:Nat}{S:Nat->Prop}{L:Ln}{w0:World}{M0:Mem}{f:Nat->D}{M M':Mem}{a:Act}{w w':World}{o:Oper}{d:D}{Q:Exit->Act->World->Prop}{ρ ρ':Pa->Loc}{ω ω':Nat->Option Pa}{New:Nat->Prop}{K:List (Nat×D)->List (Nat×Bool)->Prop}
end
end Go.Gv

namespace Go.Gv
variable[Drw]
open Go.RowKit
section
variable{P:Program}{F:Fid}{C:Nat->List D->D->List D->Prop}{nt:Nat}{S:Nat->Prop}{L:Ln}{w0:World}{M0:Mem}{f:Nat->D}{M M':Mem}{a:Act}{w w':World}{o:Oper}{d:D}{Q:Exit->Act->World->Prop}{ρ ρ':Pa->Loc}{ω ω':Nat->Option Pa}{New:Nat->Prop}{K:List (Nat×D)->List (Nat×Bool)->Prop}
theorem Own.know(h:Own F L New f M a w ρ ω){s:Nat}(hs:s<10000){v:Value}(hv:a.tmps[s]? = some v)(r:bC F M ρ d v)(hB:isB d=false):Own F L New (eff [(s,d)] [] f) M a w ρ ω:=by
 have key:∀t,t≠s->eff [(s,d)] [] f t=f t:=fun t ht=>by
  have e1:(t==s)=false:=by simpa using ht
  simp[eff,x0l,e1,aN]
 refine h.step (ks:=[]) (fun p hp=>absurd rfl hp) (Mem.le_refl _) (x0k _) (fun t ht=>?_) (fun c hc=>.inl (.inr ⟨key c (by omega),fun p _=>⟨rfl,fun e=>⟨e,rfl⟩⟩⟩)) (fun k p e=>.inl ⟨p,e⟩) h.apart (fun c l hc hl hB'=>⟨rfl,?_⟩)
 ·by_cases e:t=s
  ·subst e
   exact .inr (.inr ⟨v,hv,by rw[aP (d:=d) (by simp)];exact r⟩)
  ·exact .inl (.inr ⟨key t e,rfl,rfl⟩)
 ·rw[key c (by omega)]at hB';exact hB'
theorem SR.know(h:SR F nt S L w0 M0 f M a w){s:Nat}(ho:Own F L (fun k=>S k\/w0.heap.size<=k) (eff [(s,d)] [] f) M a w ρ ω):SR F nt S L w0 M0 (eff [(s,d)] [] f) M a w :=
 ⟨h.hnt,h.size,h.defers,h.ch,h.holds,h.ext,h.fresh,ρ,ω,ho⟩
theorem SR.same{g:Nat->D}(h:SR F nt S L w0 M0 f M a w)(e:g=f):SR F nt S L w0 M0 g M a w:=by rw[e];exact h
end
end Go.Gv

namespace Go.Gv
variable[Drw]
open Go.RowKit
section
variable{P:Program}{F:Fid}{C:Nat->List D->D->List D->Prop}{nt:Nat}{S:Nat->Prop}{L:Ln}{w0:World}{M0:Mem}{f:Nat->D}{M M':Mem}{a:Act}{w w':World}{o:Oper}{d:D}{Q:Exit->Act->World->Prop}{ρ ρ':Pa->Loc}{ω ω':Nat->Option Pa}{New:Nat->Prop}{K:List (Nat×D)->List (Nat×Bool)->Prop}
end
end Go.Gv

namespace Go.Gv
variable[Drw]
section
variable{P:Program}{F:Fid}{C:Nat->List D->D->List D->Prop}{nt:Nat}{S:Nat->Prop}{L:Ln}{w0 w':World}{M0 M':Mem}{f:Nat->D}{M:Mem}{a:Act}{w:World}{o:Oper}{Q:Exit->Act->World->Prop}{K:List (Nat×D)->List (Nat×Bool)->Prop}{ρ ρ':Pa->Loc}{ω ω':Nat->Option Pa}{d:D}
end
end Go.Gv

namespace Go.Gv
variable[Drw]
open Go.RowKit
abbrev Env:=List (Nat×D)
def ac:Env->Nat->D
 | [],_=>.any
 | (s,d)::r,t=>if s=t then d else ac r t
def dG(ks:List (Nat×Bool))(e:Env):Env:=if ks=[] then e else e.map fun p=>(p.1,if aN ks p.2 then .any else p.2)
theorem C8(ws:List (Nat×D))(e:Env)(t:Nat):ac (ws++e) t=match ws.lookup t with
  | some d=>d
  | none=>ac e t:=by
 induction ws with
 | nil=>rfl
 | cons p ws ih =>
  obtain⟨s,d⟩:=p
  simp only[x1o,ac,x0l]
  by_cases h:s=t
  ·subst h;simp
  ·have h1:(t==s)=false:=by simp;exact fun e=>h e.symm
   rw[if_neg h,h1]
   exact ih
theorem At(ks:List (Nat×Bool)):∀(e:Env) (t:Nat),ac (dG ks e) t=if aN ks (ac e t) then .any else ac e t:=by
 intro e t
 unfold dG
 by_cases hk:ks=[]
 ·subst hk;simp[nN]
 ·rw[if_neg hk]
  induction e with
  | nil =>
   show D.any=if aN ks D.any=true then D.any else D.any
   by_cases hm:aN ks D.any=true
   ·rw[if_pos hm]
   ·rw[if_neg hm]
  | cons p e ih =>
   obtain⟨s,d⟩:=p
   by_cases h:s=t
   ·simp[ac,h]
   ·have h1:ac ((s,d)::e) t=ac e t:=by simp[ac,h]
    rw[h1,<- ih]
    simp[ac,h]
theorem jW(ws:List (Nat×D))(ks:List (Nat×Bool))(e:Env):ac (ws++dG ks e)=eff ws ks (ac e):=by
 funext t
 rw[C8]
 unfold eff
 cases List.lookup t ws with
 | some d=>rfl
 | none=>exact At ks e t
def iB(e:Env)(dst:Option Nat)(K:Env->Prop):Prop :=
 match dst with
 | none=>K e
 | some t=>K ((t,.tup [])::e)
def vZ(C:Nat->List D->D->List D->Prop)(dst:Option Nat)(K:Env->Prop)(e:Env)(op:NOp):Prop:=aG C (ac e) dst (fun ws ks=>K (ws++dG ks e)) op
def i9(C:Nat->List D->D->List D->Prop)(K:Env->Prop):List au->Env->Prop
 | [],e=>K e
 | o::os,e=>match o.guard with
  | none=>vZ C o.dst (i9 C K os) e o.op
  | some (s,want)=>match ac e s with
   | .bool b=>(b=want->vZ C o.dst (i9 C K os) ((s,.bool want)::e) o.op)/\(b=!want->iB ((s,.bool !want)::e) o.dst (i9 C K os))
   | .tup []=>iB e o.dst (i9 C K os)
   | _=>False
section
variable{P:Program}{F:Fid}{C:Nat->List D->D->List D->Prop}{nt:Nat}{S:Nat->Prop}{L:Ln}{w0:World}{M0:Mem}{f:Nat->D}{M:Mem}{a:Act}{w:World}{o:Oper}{d:D}{Q:Exit->Act->World->Prop}{ρ:Pa->Loc}{ω:Nat->Option Pa}{New:Nat->Prop}{K:List (Nat×D)->List (Nat×Bool)->Prop}
def sc(P:Program)(F:Fid):NOp->Op->Bool
 | .asg x,.move y=>ao F x y
 | .asg x,.assign y=>ao F x y
 | .frz x,.move y=>ao F x y
 | .frz x,.assign y=>ao F x y
 | .ldQ _ x,.load t x'=>tyS P t 1 false&&ao F x x'
 | .appQ _ sz by_ x y,.call { callee:=.builtin .append,args:=⟨[x',y']⟩,argTypes:=⟨[t,t']⟩ }=>t==t'&&xN P t sz by_&&ao F x x'&&ao F y y'
 | .cpy sz x y,.call { callee:=.builtin .copy,args:=⟨[x',y']⟩,argTypes:=⟨[t,_]⟩ }=>rH P t sz&&ao F x x'&&ao F y y'
 | .ldF n x,.load t x'=>tyS P t n true&&ao F x x'
 | .nilo _,.move y=>ao F (.c .nils) y
 | .nilo _,.assign y=>ao F (.c .nils) y
 | .box _ x,.box _ x'=>ao F x x'
 | .alc zs,.alloc t=>zeroOk P t zs
 | .bls sz len zs _ ps,.buildSlice t len' ps'=>len==len'&&blsOk P F t sz len zs ps ps'.toList
 | .mks sz by_ zs n c,.makeSlice t n' c'=>mksOk P t sz by_ zs&&ao F n n'&&ao F c c'
 | .call g xs _,.call { callee:=.value (.func fi),args:=ys,argTypes:=_ }=>F g==some fi&&bY F xs ys.toList
 | .callF g xs,.call { callee:=.value (.func fi),args:=ys,argTypes:=_ }=>F g==some fi&&bY F xs ys.toList
 | .callS g x xs,.call { callee:=.value (.func fi),args:=⟨y::ys⟩,argTypes:=_ }=>F g==some fi&&ao F x y&&bY F xs ys
 | .callN g x xs,.call { callee:=.value (.func fi),args:=⟨y::ys⟩,argTypes:=_ }=>F g==some fi&&ao F x y&&bY F xs ys
 | .callE g x xs,.call { callee:=.value (.func fi),args:=⟨y::ys⟩,argTypes:=_ }=>F g==some fi&&ao F x y&&bY F xs ys
 | .callA g xs,.call { callee:=.value (.func fi),args:=ys,argTypes:=_ }=>F g==some fi&&bY F xs ys.toList
 | .callL g x xs,.call { callee:=.value (.func fi),args:=⟨y::ys⟩,argTypes:=_ }=>F g==some fi&&ao F x y&&bY F xs ys
 | .clr zs x,.call { callee:=.builtin .clear,args:=⟨[y]⟩,argTypes:=⟨[t]⟩ }=>uC P t zs&&ao F x y
 | .callv x xs,.call { callee:=.value x',args:=ys,argTypes:=_ }=>ao F x x'&&bY F xs ys.toList
 | .st n _ x v,.store t x' v'=>ng P t n&&ao F x x'&&ao F v v'
 | .app sz by_ _ x y,.call { callee:=.builtin .append,args:=⟨[x',y']⟩,argTypes:=⟨[t,t']⟩ }=>t==t'&&xN P t sz by_&&ao F x x'&&ao F y y'
 | .mkm _ _,.makeMap _ none=>true
 | .mpu sh kt et z m x v,.mapUpdate t m' x' v'=>mapOk F t kt et sh z&&ao F m m'&&ao F x x'&&ao F v v'
 | .dead,_=>true
 | p,q=>vq P F p q
theorem px{t:Option Nat}(hK:en t K d):∀a' w',co F nt S L w0 M0 f t d a' w'->PostX F nt S L w0 M0 f K a' w':=by
 rintro a' w' ⟨M',h⟩
 cases t with
 | none=>exact⟨[],[],M',hK,by rw[mg];exact h⟩
 | some t=>exact⟨_,_,M',hK,h⟩
theorem Dk(hl:laidOutB F.P=true)(hP:P=F.P)(h:SR F nt S L w0 M0 f M a w){n:NOp}{q:Op}(hp:cd nt f o.dst)(ho:o.op=q)(hk:vq P F n q=true)(hr:res f (·=d) n):o.wp P a w (co F nt S L w0 M0 f o.dst d) Q:=by
 unfold vq at hk
 split at hk<;>(try simp only[x0a,x0r]at hk)
 ·exact yL h hp (.inl ho) hk hr
 ·exact yL h hp (.inr ho) hk hr
 ·exact GC h hp ho hk hr
 ·exact D8 h hp ho hk.1.1 hk.1.2 hk.2 hr
 ·obtain⟨⟨rfl,h1⟩,h2⟩:=hk;exact Gs h hp ho h1 h2 hr
 ·obtain⟨rfl,h1⟩:=hk;exact Jl h hp ho h1 hr
 ·exact D2 h hp ho hk.2 hk.1 hr
 ·exact D5 h hp ho hk.1.2 hk.2 hk.1.1 hr
 ·exact D6 h hp ho hk.1.2 hk.2 hk.1.1 hr
 ·obtain⟨rfl,h1⟩:=hk;exact Gy h hp ho h1 hr
 ·exact Gz h hp ho hk.2 hk.1 hr
 ·exact D4 h hp ho hk.1.2 hk.2 hk.1.1 hr
 ·exact D3 h hp ho hk.1.2 hk.2 hk.1.1 hr
 ·exact Jg h hp ho hk.2 hk.1 hr
 ·exact snd_boxF h hp ho hk hr
 ·obtain⟨rfl,h1⟩:=hk;exact D1 h hp ho h1 hr
 ·exact Gt h hp ho hk hr
 ·exact GB h hp ho hk.2 hk.1 hr
 ·exact D7 h hp ho hk.2 hk.1 hr
 ·exact Jh h hp ho hk.1.2 hk.2 hk.1.1 hr
 ·exact GD h hp ho hk.1.1.2 hk.1.2 hk.2 hk.1.1.1 hr
 ·exact Gx h hp ho hk.2 hk.1 hr
 ·exact Ji h hp ho hk.1 hk.2 hr
 ·exact Jj h hp ho hk.1 hk.2 hr
 ·obtain⟨⟨⟨rfl,h1⟩,h2⟩,h3⟩:=hk;exact Gr h hp ho h2 h3 h1 hr
 ·exact A0 h hp ho hk.1.1.1 hk.1.1.2 hk.1.2 hk.2 hr
 ·exact Bh h hp ho hk.1.1.1 hk.1.1.2 hk.1.2 hk.2 hr
 ·obtain⟨⟨⟨rfl,h1⟩,h2⟩,h3⟩:=hk;exact snd_mpl hl h hp ho h2 h3 h1 hP hr
 ·cases hk
theorem BJ{t q sz by_:Nat}{x y:Opd}(h:aG C f (some t) K (.appQ q sz by_ x y)):aG C f (some t) K (.app sz by_ false x y):=by
 simp only[aG]at h ⊢
 split at h
 ·rename_i c i o' k n ex
  obtain⟨rfl,h⟩:=h
  obtain⟨rows,bs,⟨h1,h2,h⟩,hg⟩:=fk h
  refine hg _ ?_
  subst h1
  simp only[ex]
  split at h
  ·rename_i sz0 es0 hf
   obtain⟨row0,h3,es,h4,h5,h6,h7⟩:=h
   refine⟨rfl,h2,rfl,?_⟩
   first|(rw[hf])|skip
   exact⟨row0,h3,es,h4,h5,h6,h7⟩
  ·exact h.elim
 ·exact h.elim
theorem IA{dst:Option Nat}{q:Nat}{x:Opd}(h:aG C f dst K (.ldQ q x)):aG C f dst K (.ld 1 false x):=by
 simp only[aG,res]at h ⊢
 split at h
 ·rename_i c i off ex
  obtain⟨rfl,h⟩:=h
  split at h
  ·rename_i sz es hf
   obtain⟨r,h1,d,h2,h3⟩:=h
   have hl:=(x0d.1 h2).1
   have gp:aX f (.r c)=some (sz,es):=by simp only[aX,hf]
   simp only[ex,gp]
   refine⟨r,h1,by omega,?_⟩
   have:(r.drop off).headD .any=d:=by
    rw[List.headD_eq_head?_getD,List.head?_drop,h2];rfl
   rw[this]
   exact h3
  ·exact h.elim
 ·exact h.elim
theorem wo{dst:Option Nat}{xs:List Opd}{g:Nat}(h0:∀x∈xs,isV (vd f x)=true)(hc:C g (xs.map (vd f)) d [])(hK:en dst K d):(∀x∈xs,bW f (vd f x))/\∃d,C g (xs.map (dpv f)) d []/\(isF d=true\/(xs.all fun x=>isV (vd f x))=true)/\en dst K d:=by
 have e:xs.map (dpv f)=xs.map (vd f):=x0j fun x hx=>(kN (h0 x hx)).1
 exact⟨fun x hx=>(kN (h0 x hx)).2,d,by rw[e];exact hc,.inr (x0f.2 h0),hK⟩
def NoL(L:Ln):Prop:=∀t i,i<15->L (rt t i)=none
theorem IY(hC:bQ P F C)(hL:NoL L)(h:SR F nt S L w0 M0 f M a w){n:NOp}{q:Op}(hd:∀t,o.dst=some t->t<nt)(ho:o.op=q)(hk:sc P F n q=true)(hr:aG C f o.dst K n):o.wp P a w (PostX F nt S L w0 M0 f K) Q:=by
 have hp:cd nt f o.dst:=by
  unfold cd
  split
  ·trivial
  ·rename_i t e;exact hd t e
 unfold sc at hk
 have dst:∀{n:NOp},aG C f none K n->(∀x,n≠.asg x)->(∀x,n≠.nilo x)->True:=fun _ _ _=>trivial
 split at hk<;>(try simp only[x0a,x0r]at hk)
 ·cases hdst:o.dst with
  | none=>rw[hdst]at hr;exact hr.elim
  | some t=>rw[hdst]at hr;exact yJ h hdst (hd t hdst) (hL t 0 (by decide)) (.inl ho) hk hr
 ·cases hdst:o.dst with
  | none=>rw[hdst]at hr;exact hr.elim
  | some t=>rw[hdst]at hr;exact yJ h hdst (hd t hdst) (hL t 0 (by decide)) (.inr ho) hk hr
 ·simp only[aG]at hr
  cases hdst:o.dst with
  | none=>rw[hdst]at hr;exact hr.elim
  | some t=>rw[hdst]at hr;exact yK h hdst (hd t hdst) (.inl ho) hk hr
 ·simp only[aG]at hr
  cases hdst:o.dst with
  | none=>rw[hdst]at hr;exact hr.elim
  | some t=>rw[hdst]at hr;exact yK h hdst (hd t hdst) (.inr ho) hk hr
 ·have hr':res f (en o.dst K) (.ld 1 false _):=IA hr
  obtain⟨d,h1,h2⟩:=tN hr'
  exact Oper.wp_mono (px h1) (Dk (n:=.ld 1 false _) hC.laid hC.prog h hp ho (by simp only[vq,x0a];exact hk) (h2 _ rfl))
 ·obtain⟨⟨⟨rfl,h1⟩,h2⟩,h3⟩:=hk
  cases hdst:o.dst with
  | none=>rw[hdst]at hr;exact hr.elim
  | some t=>rw[hdst]at hr;exact yI h hdst (hd t hdst) (hL t 0 (by decide)) ho rfl h2 h3 h1 (BJ hr)
 ·simp only[aG]at hr
  cases hdst:o.dst with
  | none=>rw[hdst]at hr;exact hr.elim
  | some t=>rw[hdst]at hr;exact Gw h hdst (hd t hdst) ho hk.1.2 hk.2 hk.1.1 hr
 ·simp only[aG]at hr
  cases hdst:o.dst with
  | none=>rw[hdst]at hr;exact hr.elim
  | some t=>rw[hdst]at hr;exact GA h hdst (hd t hdst) ho hk.2 hk.1 hr
 ·cases hdst:o.dst with
  | none=>rw[hdst]at hr;exact hr.elim
  | some t=>rw[hdst]at hr;exact vQ h hdst (hd t hdst) (hL t 0 (by decide)) (.inl ho) hk hr
 ·cases hdst:o.dst with
  | none=>rw[hdst]at hr;exact hr.elim
  | some t=>rw[hdst]at hr;exact vQ h hdst (hd t hdst) (hL t 0 (by decide)) (.inr ho) hk hr
 ·cases hdst:o.dst with
  | none=>rw[hdst]at hr;exact hr.elim
  | some t=>rw[hdst]at hr;exact snd_box h hdst (hd t hdst) (hL t 0 (by decide)) ho hk hr
 ·cases hdst:o.dst with
  | none=>rw[hdst]at hr;exact hr.elim
  | some t=>rw[hdst]at hr;exact snd_alc h hdst (hd t hdst) (hL t 0 (by decide)) ho hk hr
 ·obtain⟨rfl,hk⟩:=hk
  cases hdst:o.dst with
  | none=>rw[hdst]at hr;exact hr.elim
  | some t=>rw[hdst]at hr;exact snd_bls h hdst (hd t hdst) (hL t 0 (by decide)) ho hk hr
 ·cases hdst:o.dst with
  | none=>rw[hdst]at hr;exact hr.elim
  | some t=>rw[hdst]at hr;exact snd_mks h hdst (hd t hdst) (hL t 0 (by decide)) ho hk.1.2 hk.2 hk.1.1 hr
 ·exact vP hC h hp ho hk.2 hk.1 hr
 ·simp only[aG]at hr
  cases hdst:o.dst with
  | none=>rw[hdst]at hr;exact hr.2.elim
  | some t=>rw[hdst]at hr;exact Bc hC h hdst (hd t hdst) (hL t 0 (by decide)) ho hk.2 hk.1 hr
 ·simp only[aG]at hr
  exact Bf hC h (fun t=>hL t 0 (by decide)) hd ho hk.1.2 hk.2 hk.1.1 hr
 ·simp only[aG]at hr
  exact Be hC h hd ho hk.1.2 hk.2 hk.1.1 hr
 ·simp only[aG]at hr
  cases hdst:o.dst with
  | none=>rw[hdst]at hr;exact hr.elim
  | some t=>rw[hdst]at hr;exact Bb hC h hdst (hd t hdst) (hL t 0 (by decide)) ho hk.1.2 hk.2 hk.1.1 hr
 ·simp only[aG]at hr
  obtain⟨h0,hr⟩:=hr
  rcases hr with ⟨d,hc,hK⟩|hr
  ·exact vP hC h hp ho hk.2 hk.1 (wo h0 hc hK)
  ·cases hdst:o.dst with
   | none=>rw[hdst]at hr;exact hr.elim
   | some t=>rw[hdst]at hr;exact Ba hC h hL hdst (hd t hdst) ho hk.2 hk.1 ⟨h0,hr⟩
 ·simp only[aG]at hr
  exact Bd hC h hd ho hk.1.2 hk.2 hk.1.1 hr
 ·simp only[aG]at hr
  exact Gu h hd ho hk.2 hk.1 hr
 ·exact Bg hC h hp ho hk.1 hk.2 hr
 ·have hdst:o.dst=none:=hr.1
  exact Jk h hdst ho hk.1.2 hk.2 hk.1.1 (by rw[hdst]at hr;exact hr)
 ·obtain⟨⟨⟨rfl,h1⟩,h2⟩,h3⟩:=hk
  cases hdst:o.dst with
  | none=>rw[hdst]at hr;exact hr.elim
  | some t=>rw[hdst]at hr;exact yI h hdst (hd t hdst) (hL t 0 (by decide)) ho rfl h2 h3 h1 hr
 ·cases hdst:o.dst with
  | none=>rw[hdst]at hr;exact hr.elim
  | some t=>rw[hdst]at hr;exact snd_mkm h hdst (hd t hdst) (hL t 0 (by decide)) ho hr
 ·have hdst:o.dst=none:=hr.1
  exact snd_mpu hC.laid h hdst ho hk.1.1.2 hk.1.2 hk.2 hk.1.1.1 hC.prog (by rw[hdst]at hr;exact hr)
 ·exact hr.elim
 ·have hr':res f (en o.dst K) n:=by
   clear dst
   cases n<;>first|exact hr|(simp[vq]at hk)
  obtain⟨d,h1,h2⟩:=tN hr'
  exact Oper.wp_mono (px h1) (Dk hC.laid hC.prog h hp ho hk (h2 _ rfl))
def G8(nt:Nat):Option Nat->Bool
 | none=>true
 | some t=>decide (t<nt)
def ti(ops:Array Oper):Option (Nat×Bool)->Option (Nat×Bool)->Bool
 | none,none=>true
 | some (j,b),some (s,b')=>b==b'&&decide (s<10000)&&(match ops[j]? with
  | some o=>o.dst==some s
  | none=>false)
 | _,_=>false
def rZ(P:Program)(F:Fid)(nt:Nat)(ops:Array Oper)(n:au)(o:Oper):Bool :=
 n.dst==o.dst&&G8 nt n.dst&&ti ops o.guard n.guard&&sc P F n.op o.op
theorem xG{ops:Array Oper}{tmps:Array Value}{j s:Nat}{b:Bool}{o:Oper}(h1:ops[j]? = some o)(h2:o.dst=some s)(h3:tmps[s]? = some (.bool b)):yielded ops tmps j=some b:=by
 simp[yielded,h1,h2,h3]
theorem wa{ops:Array Oper}{tmps:Array Value}{j s:Nat}{o:Oper}(h1:ops[j]? = some o)(h2:o.dst=some s){vs:Array Value}(h3:tmps[s]? = some (.tuple vs)):yielded ops tmps j=none:=by
 simp[yielded,h1,h2,h3]
def Skp(want:Bool)(d:D):Prop:=d=.bool (!want)\/d=.tup []
theorem Eo{ops:Array Oper}{n:au}{o:Oper}(h:ti ops o.guard n.guard=true){f:Nat->D}{M:Mem}{a:Act}{w:World}(hs:SR F nt S L w0 M0 f M a w) :
  (n.guard=none->Region.wanted o (yielded ops a.tmps)=true) /\
  (∀s want b,n.guard=some (s,want)->f s=.bool b->Region.wanted o (yielded ops a.tmps)=(b==want)) /\
  (∀s want,n.guard=some (s,want)->f s=.tup []->Region.wanted o (yielded ops a.tmps)=false):=by
 unfold ti at h
 split at h
 ·rename_i e1 e2
  exact⟨fun _=>by simp[Region.wanted,e1],fun s want b e3=>(by rw[e2]at e3;cases e3),fun s want e3=>(by rw[e2]at e3;cases e3)⟩
 ·rename_i j b s b' e1 e2
  simp only[x0a,x0r,x0b]at h
  obtain⟨⟨rfl,hs10⟩,h⟩:=h
  split at h
  ·rename_i o' ho'
   simp only[x0r]at h
   obtain⟨ρ,ω,hO⟩:=hs.own
   refine⟨fun e3=>(by rw[e2]at e3;cases e3),fun s1 want b1 e3 e4=>?_,fun s1 want e3 e4=>?_⟩
   ·rw[e2]at e3
    cases e3
    rcases hO.slots s hs10 with h5|⟨v,h5,h6⟩
    ·rw[e4]at h5;cases h5
    ·rw[e4]at h6
     simp only[bC,aC,ae]at h6
     subst h6
     simp[Region.wanted,e1,xG ho' h h5]
   ·rw[e2]at e3
    cases e3
    rcases hO.slots s hs10 with h5|⟨v,h5,h6⟩
    ·rw[e4]at h5;cases h5
    ·rw[e4]at h6
     simp only[bC,aC,ae]at h6
     obtain⟨vs,rfl,_⟩:=h6
     simp[Region.wanted,e1,wa ho' h h5]
  ·cases h
 ·cases h
theorem uy{e:Env}{s:Nat}{b:Bool}(h:ac e s=.bool b):ac ((s,.bool b)::e)=ac e:=by
 funext t
 simp only[ac]
 by_cases ht:s=t
 ·subst ht;rw[if_pos rfl,h]
 ·rw[if_neg ht]
def jE(C:Nat->List D->D->List D->Prop)(n:au)(f:Nat->D)(x:Option (List (Nat×D)×List (Nat×Bool))):Prop :=
 match x with
 | some (ws,ks)=>(∀s b,n.guard=some (s,b)->f s=.bool b)/\aG C f n.dst (fun ws' ks'=>ws'=ws/\ks'=ks) n.op
 | none=>∃s b,n.guard=some (s,b)/\Skp b (f s)
def qY(n:au):Option (List (Nat×D)×List (Nat×Bool))->(Nat->D)->(Nat->D)
 | some (ws,ks)=>eff ws ks
 | none=>match n.dst with
  | some t=>eff [(t,.tup [])] []
  | none=>fun f=>f
theorem HC(hC:bQ P F C)(hL:NoL L){ops:Array Oper}{n:au}(hk:rZ P F nt ops n o=true)(h:SR F nt S L w0 M0 f M a w){x:Option (List (Nat×D)×List (Nat×Bool))}(hr:jE C n f x){R:Act->World->Prop}
  (hR:∀M' a' w',SR F nt S L w0 M0 (qY n x f) M' a' w'->R a' w') :
  if Region.wanted o (yielded ops a.tmps) then o.wp P a w R Q\/(o.asks P a w/\LetsOut Q) else R (a.put o.dst undef) w:=by
 unfold rZ at hk
 simp only[x0a,x0r]at hk
 obtain⟨⟨⟨hd,hdo⟩,hgu⟩,hop⟩:=hk
 have hw:=Eo hgu h
 have hdst:∀t,o.dst=some t->t<nt:=fun t e=>by
  rw[<- hd]at e
  rw[e]at hdo
  simpa[G8]using hdo
 cases x with
 | some y =>
  obtain⟨ws,ks⟩:=y
  obtain⟨h1,h2⟩:=hr
  have hwant:Region.wanted o (yielded ops a.tmps)=true:=by
   cases hg:n.guard with
   | none=>exact hw.1 hg
   | some p=>obtain⟨s,b⟩:=p;rw[hw.2.1 s b b hg (h1 s b hg)];simp
  rw[hwant,if_pos rfl]
  left
  rw[hd]at h2
  refine Oper.wp_mono ?_ (IY hC hL h hdst rfl hop h2)
  rintro a' w' ⟨ws',ks',M',⟨rfl,rfl⟩,h'⟩
  exact hR M' a' w' h'
 | none =>
  obtain⟨s,b,h1,h2⟩:=hr
  have hno:Region.wanted o (yielded ops a.tmps)=false:=by
   rcases h2 with h2|h2
   ·rw[hw.2.1 s b (!b) h1 h2];cases b<;>rfl
   ·exact hw.2.2 s b h1 h2
  rw[hno,if_neg Bool.false_ne_true]
  refine hR M _ w ?_
  unfold qY
  rw[hd]
  cases hdd:o.dst with
  | none=>exact h
  | some t=>exact h.put (hdst t hdd) (fun _ _ _=>by simp[bC,aC,ae,av,undef])
theorem Bn{K:Env->Prop}{n:au}{ns:List au}{e:Env}(h:i9 C K (n::ns) e):∃x e',jE C n (ac e) x/\ac e'=qY n x (ac e)/\i9 C K ns e':=by
 have run:∀e1,ac e1=ac e->(∀s b,n.guard=some (s,b)->ac e s=.bool b)->vZ C n.dst (i9 C K ns) e1 n.op->∃x e',jE C n (ac e) x/\ac e'=qY n x (ac e)/\i9 C K ns e':=by
  intro e1 he hg h1
  unfold vZ at h1
  obtain⟨ws,ks,h2,h3⟩:=qA h1
  rw[he]at h3
  exact⟨some (ws,ks),_,⟨hg,h3 _ ⟨rfl,rfl⟩⟩,by rw[jW,he];rfl,h2⟩
 rw[i9]at h
 split at h
 ·rename_i hg
  exact run e rfl (fun s b e'=>(by rw[hg]at e';cases e')) h
 ·rename_i s want hg
  split at h
  ·rename_i b hb
   by_cases hbw:b=want
   ·subst hbw
    exact run _ (uy hb) (fun s' b' e'=>(by rw[hg]at e';cases e';exact hb)) (h.1 rfl)
   ·have hb':b=!want:=by cases b<;>cases want<;>simp_all
    have h1:=h.2 hb'
    rw[hb']at hb
    have he:=uy hb
    refine⟨none,?_⟩
    unfold iB at h1
    unfold qY
    split at h1
    ·rename_i hd
     exact⟨_,⟨s,want,hg,.inl hb⟩,by rw[hd];exact he,h1⟩
    ·rename_i t hd
     refine⟨_,⟨s,want,hg,.inl hb⟩,?_,h1⟩
     rw[hd]
     have:=jW [(t,.tup [])] [] ((s,.bool !want)::e)
     simp only[dG,if_true]at this
     rw[he]at this
     exact this
  ·rename_i hb
   refine⟨none,?_⟩
   unfold iB at h
   unfold qY
   split at h
   ·rename_i hd
    exact⟨_,⟨s,want,hg,.inr hb⟩,by rw[hd],h⟩
   ·rename_i t hd
    refine⟨_,⟨s,want,hg,.inr hb⟩,?_,h⟩
    rw[hd]
    have:=jW [(t,.tup [])] [] e
    simp only[dG,if_true]at this
    exact this
  ·exact h.elim
theorem Bo(hC:bQ P F C)(hL:NoL L){ops:Array Oper}{K:Env->Prop}(hQ:∀e M a w,SR F nt S L w0 M0 (ac e) M a w->K e->Q .normal a w)(ns:List au):∀(os:List Oper),ns.length=os.length->(∀p∈ns.zip os,rZ P F nt ops p.1 p.2=true) ->
  ∀(e:Env) (M:Mem) (a:Act) (w:World),SR F nt S L w0 M0 (ac e) M a w->i9 C K ns e->wpList P ops Q os a w:=by
 induction ns with
 | nil =>
  intro os hl _ e M a w h hr
  cases os with
  | nil=>exact hQ e M a w h hr
  | cons o os=>simp at hl
 | cons n ns ih =>
  intro os hl hk e M a w h hr
  cases os with
  | nil=>simp at hl
  | cons o os =>
   obtain⟨x,e',h1,h2,h3⟩:=Bn hr
   rw[wpList]
   exact HC hC hL (hk (n,o) (by simp)) h h1 (fun M' a' w' h'=>ih os (by simpa using hl) (fun p hp=>hk p (by simp[hp])) e' M' a' w' (by rw[h2];exact h') h3)
def oE(P:Program)(F:Fid)(nt:Nat)(ns:List au)(ops:Array Oper):Bool:=ns.length==ops.toList.length&&(ns.zip ops.toList).all fun p=>rZ P F nt ops p.1 p.2
theorem vE(hC:bQ P F C)(hL:NoL L){ops:Array Oper}{ns:List au}(hk:oE P F nt ns ops=true){id:Nat}{K:Env->Prop}{e:Env}(h:SR F nt S L w0 M0 (ac e) M a w)(hr:i9 C K ns e)(hQ:∀e M a w,SR F nt S L w0 M0 (ac e) M a w->K e->Q .normal a w) :
  (Code.region id ops false).wp P Q a w:=by
 simp only[oE,x0a,x0r,x0f]at hk
 exact wp_region_list (Bo hC hL hQ ns ops.toList hk.1 hk.2 e M a w h hr)
end
end Go.Gv

namespace Go.Gv
variable[Drw]
open Go.RowKit
def vr:Option Opd->List Opd
 | some x=>[x]
 | none=>[]
def ai:NOp->List Opd
 | .mov x=>[x]
 | .asg x=>[x]
 | .frz x=>[x]
 | .ldF _ x=>[x]
 | .ldQ _ x=>[x]
 | .appQ _ _ _ x y=>[x,y]
 | .cpy _ x y=>[x,y]
 | .nilo _=>[]
 | .nck x=>[x]
 | .boxF x=>[x]
 | .blsF _ _ _ ps=>ps.map fun p=>p.2
 | .pick c a b=>[c,a,b]
 | .bin _ x y=>[x,y]
 | .beq _ _ x y=>[x,y]
 | .un _ x=>[x]
 | .conv _ x=>[x]
 | .idxA _ _ _ x i=>[x,i]
 | .idxS x i=>[x,i]
 | .ext _ x=>[x]
 | .fad _ x=>[x]
 | .iadS _ x i=>[x,i]
 | .iadA _ _ x i=>[x,i]
 | .ld _ _ x=>[x]
 | .box _ x=>[x]
 | .alc _=>[]
 | .mkm _ _=>[]
 | .mpl _ _ _ _ _ m x=>[m,x]
 | .mpu _ _ _ _ m x v=>[m,x,v]
 | .bld _ ps=>ps.map fun p=>p.2.2
 | .bls _ _ _ _ ps=>ps.map fun p=>p.2
 | .mks _ _ _ n c=>[n,c]
 | .len x=>[x]
 | .lens x=>[x]
 | .call _ xs _=>xs
 | .callv x xs=>x::xs
 | .callF _ xs=>xs
 | .callS _ x xs=>x::xs
 | .callN _ x xs=>x::xs
 | .callE _ x xs=>x::xs
 | .callL _ x xs=>x::xs
 | .callA _ xs=>xs
 | .clr _ x=>[x]
 | .mk _ xs=>xs
 | .slc _ x lo hi=>x::(vr lo++vr hi)
 | .cvB x=>[x]
 | .mn x y=>[x,y]
 | .mx x y=>[x,y]
 | .add64 x y c=>[x,y,c]
 | .sub64 x y c=>[x,y,c]
 | .st _ _ a v=>[a,v]
 | .app _ _ _ x y=>[x,y]
 | .dead=>[]
section
variable{C:Nat->List D->D->List D->Prop}{f g:Nat->D}
def dJ(f g:Nat->D)(d:D):Prop:=∀b,dP b true d=true->g b=f b
theorem gY(p:Pa):cy p.root true p=true:=by cases p<;>simp[cy,Pa.root]
theorem dM{p:Pa}(h:g p.root=f p.root):aX g p=aX f p:=by
 cases p<;>simp only[aX,Pa.root]at h ⊢<;>rw[h]
theorem dJ.ref{p:Pa}{k n:Nat}(h:dJ f g (.ref p k n)):g p.root=f p.root:=h _ (by simp only[dP,aT];exact gY p)
theorem dJ.adr{p:Pa}{i o:Nat}(h:dJ f g (.adr p i o)):g p.root=f p.root:=h _ (by simp only[dP,aT];exact gY p)
theorem dJ.ifa{T:Nat}{p:Pa}{i o:Nat}(h:dJ f g (.ifa T p i o)):g p.root=f p.root:=h _ (by simp only[dP,aT];exact gY p)
theorem dJ.mrf{b:Nat}(h:dJ f g (.mrf b)):g b=f b:=h _ (by simp[dP,aT])
theorem fM{d:D}(h:∀b,aT b true d=true->g b=f b):dp1 g d=dp1 f d/\(bA g d↔bA f d):=by
 cases d<;>try exact⟨rfl,Iff.rfl⟩
 case ref p k n =>
  have e:=dM (p:=p) (h _ (by simp only[aT];exact gY p))
  simp only[dp1,bA,e,and_self]
 case adr p i off =>
  have e:=dM (p:=p) (h _ (by simp only[aT];exact gY p))
  simp only[dp1,bA,e,and_self]
theorem gI{b:Nat}{ds:List D}{d:D}(h:d∈ds)(hm:aT b true d=true):ds.any (aT b true)=true:=x1e.2 ⟨d,h,hm⟩
theorem Cj{d:D}(h:isX d=false)(ha:dJ f g d):dp g d=dp f d/\(bW g d↔bW f d):=by
 have e:∀f:Nat->D,dp f d=dp1 f d/\(bW f d↔bA f d)/\∀b,dP b true d=aT b true d:=fun f=>by
  cases d<;>first|exact⟨rfl,Iff.rfl,fun _=>rfl⟩|(simp[isX]at h)
 obtain⟨e1,e2,e3⟩:=e f
 obtain⟨g1,g2,_⟩:=e g
 obtain⟨h1,h2⟩:=fM (f:=f) (g:=g) (d:=d) (fun b hb=>ha b (by rw[e3];exact hb))
 exact⟨by rw[g1,e1,h1],by rw[g2,e2];exact h2⟩
theorem md{d:D}(h:dJ f g d):dp g d=dp f d/\(bW g d↔bW f d):=by
 cases d
 case agx ds =>
  have e:∀d∈ds,dp1 g d=dp1 f d/\(bA g d↔bA f d):=fun d hd=>fM fun b hb=>h b (gI hd hb)
  simp only[dp,bW]
  exact⟨by rw[x0j fun d hd=>(e d hd).1],⟨fun x d hd=>(e d hd).2.1 (x d hd),fun x d hd=>(e d hd).2.2 (x d hd)⟩⟩
 case tpx ds =>
  have e:∀d∈ds,dp1 g d=dp1 f d/\(bA g d↔bA f d):=fun d hd=>fM fun b hb=>h b (gI hd hb)
  simp only[dp,bW]
  exact⟨by rw[x0j fun d hd=>(e d hd).1],⟨fun x d hd=>(e d hd).2.1 (x d hd),fun x d hd=>(e d hd).2.2 (x d hd)⟩⟩
 case ptx ds =>
  have e:∀d∈ds,dp1 g d=dp1 f d/\(bA g d↔bA f d):=fun d hd=>fM fun b hb=>h b (gI hd hb)
  simp only[dp,bW]
  exact⟨by rw[x0j fun d hd=>(e d hd).1],⟨fun x d hd=>(e d hd).2.1 (x d hd),fun x d hd=>(e d hd).2.2 (x d hd)⟩⟩
 case rfx n sz ds=>exact⟨rfl,Iff.rfl⟩
 case fny g ds cs=>exact⟨rfl,Iff.rfl⟩
 case fnx k ds =>
  have e:∀d∈ds,dp1 g d=dp1 f d/\(bA g d↔bA f d):=fun d hd=>fM fun b hb=>h b (gI hd hb)
  simp only[dp,bW]
  exact⟨by rw[x0j fun d hd=>(e d hd).1],⟨fun x d hd=>(e d hd).2.1 (x d hd),fun x d hd=>(e d hd).2.2 (x d hd)⟩⟩
 all_goals
  exact Cj rfl h
theorem oi{d:D}{K:D->List Nat->Prop}(h:∀b,aT b true d=true->g b=f b)(hr:eC f d K):eC g d K:=by
 unfold eC at hr ⊢
 split at hr
 ·rename_i b k n
  rw[h b (by simp[aT,cy])]
  exact hr
 ·exact hr
theorem oj:∀{ds:List D} {K:List D->List Nat->Prop},(∀d∈ds,∀b,aT b true d=true->g b=f b)->jG f ds K->jG g ds K
 | [],K,_,hr=>hr
 | d::ds,K,h,hr=>by
  obtain⟨c,bs,h1,h2⟩:=nl hr
  obtain⟨cs,bs',h3,h4⟩:=nq h1
  refine oi (h d (by simp)) (h2 _ (oj (fun d hd=>h d (by simp[hd])) (h4 _ h3)))
theorem lu{d:D}{ns:List Nat}{K:List D->List Nat->Prop}(h:dJ f g d)(hr:fV f d ns K):fV g d ns K:=by
 unfold fV at hr ⊢
 split at hr
 ·exact hr
 ·exact⟨hr.1,oj (fun d hd b hb=>h b (gI hd hb)) hr.2⟩
 ·rename_i hne1 hne2
  refine⟨hr.1,oi (fun b hb=>h b ?_) hr.2⟩
  cases d<;>first|exact hb|(exact absurd rfl (hne2 _))|(simp[aT]at hb)
theorem mS{sz:Nat}{ns:List Nat}:∀{ps:List (Nat×Opd)} {es:List (List D)} {bs:List Nat} {K:List (List D)->List Nat->Prop},(∀p∈ps,vd g p.2=vd f p.2/\dJ f g (vd f p.2))->fP f sz ns ps es bs K->fP g sz ns ps es bs K
 | [],es,bs,K,_,hr=>hr
 | (i,x)::ps,es,bs,K,h,hr=>by
  obtain⟨h0,hr⟩:=hr
  obtain⟨e1,e2⟩:=h (i,x) (by simp)
  obtain⟨cs,b1,⟨h1,h1'⟩,h2⟩:=jI hr
  refine⟨h0,?_⟩
  simp only at e1 e2
  rw[e1]
  exact lu e2 (h2 _ ⟨h1,mS (fun p hp=>h p (by simp[hp])) h1'⟩)
theorem ke{mv:Bool}{d:D}{sz:Nat}{K:List (List D)->List Nat->Prop}(h:dJ f g d)(hr:fH f mv d sz K):fH g mv d sz K:=by
 unfold fH at hr ⊢
 split at hr
 ·exact hr
 ·exact hr
 ·rename_i p k n
  cases mv with
  | true =>
   obtain⟨h0,hr⟩:=hr
   refine⟨h0,?_⟩
   cases p with
   | r b=>simp only at hr ⊢;rw[show g b=f b from h.ref];exact hr
   | n b i o=>exact hr
  | false=>simp only at hr ⊢;rw[dM h.ref];exact hr
 ·exact hr
theorem fe{x:Option Opd}{n:Nat}{K:Nat->Prop}(h:∀y∈vr x,vd g y=vd f y)(hr:eD f x n K):eD g x n K:=by
 unfold eD at hr ⊢
 split at hr
 ·exact hr
 ·rename_i y
  rw[h y (by simp[vr])]
  exact hr
theorem jQ:∀{ps:List (Nat×Opd)} {es:List (List D)},(∀p∈ps,vd g p.2=vd f p.2)->gT g ps es=gT f ps es
 | [],_,_=>rfl
 | p::ps,es,h=>by
  simp only[gT]
  rw[h p (by simp)]
  exact jQ fun q hq=>h q (by simp[hq])
theorem AP{o:NOp}{K:D->Prop}(hv:∀x∈ai o,vd g x=vd f x)(ha:∀x∈ai o,dJ f g (vd f x))(hr:res f K o):res g K o:=by
 cases o with
 | ld n ag x =>
  have e:=hv x (by simp[ai]);have a:=ha x (by simp[ai])
  simp only[res,e]at hr ⊢
  split at hr
  ·rename_i ex;rw[ex]at a;rw[dM a.adr];exact hr
  ·exact hr
  ·exact hr
  ·exact hr
 | iadS sz x i =>
  have e:=hv x (by simp[ai]);have a:=ha x (by simp[ai]);have e2:=hv i (by simp[ai])
  simp only[res,e,e2]at hr ⊢
  split at hr
  ·exact hr
  ·exact hr
  ·exact hr
  ·rename_i ex _;rw[ex]at a;rw[dM a.ref];exact hr
  ·exact hr
 | slc sz x lo hi =>
  have e:=hv x (by simp[ai]);have a:=ha x (by simp[ai])
  have hlo:∀y∈vr lo,vd g y=vd f y:=fun y hy=>hv y (by simp[ai,hy])
  have hhi:∀y∈vr hi,vd g y=vd f y:=fun y hy=>hv y (by simp[ai,hy])
  simp only[res,e]at hr ⊢
  split at hr
  ·exact⟨hr.1,fe hhi (ly hr.2 fun m h=>fe hlo h)⟩
  ·exact fe hhi (ly hr fun m h=>fe hlo h)
  ·rename_i ex
   rw[ex]at a;rw[dM a.ref]
   split at hr
   ·exact⟨hr.1,fe hhi (ly hr.2 fun m h=>fe hlo h)⟩
   ·exact hr
  ·exact hr
 | bld zs ps =>
  have e:∀p∈ps,vd g p.2.2=vd f p.2.2:=fun p hp=>hv _ (x0w.2 ⟨p,hp,rfl⟩)
  simp only[res]at hr ⊢
  obtain⟨h1,h2,h3⟩:=hr
  have e2:(ps.all fun p=>isV (vd g p.2.2))=(ps.all fun p=>isV (vd f p.2.2)):=by
   rw[x0J,x0f,x0f]
   exact⟨fun h p hp=>by rw[<- e p hp];exact h p hp,fun h p hp=>by rw[e p hp];exact h p hp⟩
  have m1:(ps.map fun p=>(p.1,p.2.1,vd g p.2.2))=ps.map fun p=>(p.1,p.2.1,vd f p.2.2):=x0j fun p hp=>by rw[e p hp]
  have m2:(ps.map fun p=>(p.1,p.2.1,fw (vd g p.2.2)))=ps.map fun p=>(p.1,p.2.1,fw (vd f p.2.2)):=x0j fun p hp=>by rw[e p hp]
  rw[e2,m1,m2]
  exact⟨fun p hp=>by rw[e p hp];exact h1 p hp,h2,h3⟩
 | mk k xs =>
  have e:∀x∈xs,vd g x=vd f x:=fun x hx=>hv x hx
  simp only[res]at hr ⊢
  obtain⟨h1,h2,h3⟩:=hr
  have e2:(xs.all fun x=>isV (vd g x))=(xs.all fun x=>isV (vd f x)):=by
   rw[x0J,x0f,x0f]
   exact⟨fun h p hp=>by rw[<- e p hp];exact h p hp,fun h p hp=>by rw[e p hp];exact h p hp⟩
  rw[e2,x0j e]
  exact⟨fun p hp=>by rw[e p hp];exact h1 p hp,h2,h3⟩
 | pick c x y=>simp only[res,hv c (by simp[ai]),hv x (by simp[ai]),hv y (by simp[ai])]at hr ⊢;exact hr
 | add64 x y c=>simp only[res,hv c (by simp[ai]),hv x (by simp[ai]),hv y (by simp[ai])]at hr ⊢;exact hr
 | sub64 x y c=>simp only[res,hv c (by simp[ai]),hv x (by simp[ai]),hv y (by simp[ai])]at hr ⊢;exact hr
 | bin op x y=>simp only[res,hv x (by simp[ai]),hv y (by simp[ai])]at hr ⊢;exact hr
 | beq op ks x y=>simp only[res,hv x (by simp[ai]),hv y (by simp[ai])]at hr ⊢;exact hr
 | idxA l s g x i=>simp only[res,hv x (by simp[ai]),hv i (by simp[ai])]at hr ⊢;exact hr
 | idxS x i=>simp only[res,hv x (by simp[ai]),hv i (by simp[ai])]at hr ⊢;exact hr
 | iadA l s x i=>simp only[res,hv x (by simp[ai]),hv i (by simp[ai])]at hr ⊢;exact hr
 | mn x y=>simp only[res,hv x (by simp[ai]),hv y (by simp[ai])]at hr ⊢;exact hr
 | mx x y=>simp only[res,hv x (by simp[ai]),hv y (by simp[ai])]at hr ⊢;exact hr
 | mov x=>simp only[res,hv x (by simp[ai])]at hr ⊢;exact hr
 | nck x=>simp only[res,hv x (by simp[ai])]at hr ⊢;exact hr
 | un op x=>simp only[res,hv x (by simp[ai])]at hr ⊢;exact hr
 | conv k x=>simp only[res,hv x (by simp[ai])]at hr ⊢;exact hr
 | cvB x=>simp only[res,hv x (by simp[ai])]at hr ⊢;exact hr
 | ext i x=>simp only[res,hv x (by simp[ai])]at hr ⊢;exact hr
 | fad i x=>simp only[res,hv x (by simp[ai])]at hr ⊢;exact hr
 | len x=>simp only[res,hv x (by simp[ai])]at hr ⊢;exact hr
 | boxF x=>simp only[res,hv x (by simp[ai])]at hr ⊢;exact hr
 | blsF sz len zs ps =>
  have e:∀p∈ps,vd g p.2=vd f p.2:=fun p hp=>hv _ (x0w.2 ⟨p,hp,rfl⟩)
  simp only[res]at hr ⊢
  rw[jQ e]
  exact⟨fun p hp=>by rw[e p hp];exact hr.1 p hp,hr.2⟩
 | lens x=>simp only[res,hv x (by simp[ai])]at hr ⊢;exact hr
 | mpl sh kt et ok z m x =>
  have e:=hv m (by simp[ai]);have a:=ha m (by simp[ai]);have e2:=hv x (by simp[ai])
  simp only[res,e,e2]at hr ⊢
  split at hr
  ·rename_i b ex
   rw[ex]at a
   rw[a.mrf]
   exact hr
  ·exact hr
 | _=>simp only[res]at hr
theorem xt{o:NOp}{dst:Option Nat}{K:List (Nat×D)->List (Nat×Bool)->Prop}(hv:∀x∈ai o,vd g x=vd f x)(ha:∀x∈ai o,dJ f g (vd f x))(hr:aG C f dst K o):aG C g dst K o:=by
 cases o with
 | frz x =>
  have e:=hv x (by simp[ai]);have a:=ha x (by simp[ai])
  cases dst with
  | none=>exact hr
  | some t =>
   simp only[aG,e]at hr ⊢
   split at hr
   ·rename_i c k n ex
    rw[ex]at a
    have hl:=fM (d:=.ref (.r c) k n) (f:=f) (g:=g) (fun b hb=>a b (by simp only[dP];exact hb))
    rw[hl.1]
    exact⟨hl.2.2 hr.1,hr.2⟩
   ·exact hr
 | asg x =>
  have e:=hv x (by simp[ai]);have a:=ha x (by simp[ai])
  cases dst with
  | none=>exact hr
  | some t =>
   simp only[aG,e]at hr ⊢
   split at hr
   ·rename_i c k n ex
    rw[ex]at a
    rw[show g c=f c from a.ref]
    exact hr
   ·exact hr
 | ldQ q x =>
  have e:=hv x (by simp[ai]);have a:=ha x (by simp[ai])
  simp only[aG,e]at hr ⊢
  split at hr
  ·rename_i c i off ex
   rw[ex]at a
   rw[show g c=f c from a.adr]
   exact hr
  ·exact hr
 | appQ q sz by_ x y =>
  have e:=hv x (by simp[ai]);have a:=ha x (by simp[ai]);have e2:=hv y (by simp[ai]);have a2:=ha y (by simp[ai])
  cases dst with
  | none=>exact hr
  | some t =>
   simp only[aG,e,e2]at hr ⊢
   split at hr
   ·rename_i c i o k n ex
    rw[ex]at a
    obtain⟨h0,hr⟩:=hr
    obtain⟨rows,bs,⟨h1,h1',h2⟩,h3⟩:=fk hr
    refine⟨h0,ke a2 (h3 _ ⟨h1,h1',?_⟩)⟩
    rw[show g c=f c from a.ref]
    exact h2
   ·exact hr
 | cpy sz x y =>
  have e:=hv x (by simp[ai]);have a:=ha x (by simp[ai]);have e2:=hv y (by simp[ai]);have a2:=ha y (by simp[ai])
  cases dst with
  | none=>exact hr
  | some t =>
   simp only[aG,e,e2]at hr ⊢
   obtain⟨rows,bs,⟨h1,h1',h2⟩,h3⟩:=fk hr
   refine ke a2 (h3 _ ⟨h1,h1',?_⟩)
   split at h2
   ·rename_i c k n ex;rw[ex]at a;rw[show g c=f c from a.ref];exact h2
   ·exact h2
 | ldF n x =>
  have e:=hv x (by simp[ai]);have a:=ha x (by simp[ai])
  cases dst with
  | none=>exact hr
  | some t =>
   simp only[aG,e]at hr ⊢
   split at hr
   ·rename_i c i off ex
    rw[ex]at a
    rw[show g c=f c from a.adr]
    exact hr
   ·exact hr
 | nilo sz=>exact hr
 | alc zs=>exact hr
 | mkm kt et=>exact hr
 | mpu sh kt et z m x v =>
  have e:=hv m (by simp[ai]);have a:=ha m (by simp[ai]);have e2:=hv x (by simp[ai]);have e3:=hv v (by simp[ai])
  simp only[aG,e,e2,e3]at hr ⊢
  refine⟨hr.1,?_⟩
  have hr:=hr.2
  split at hr
  ·rename_i b ex
   rw[ex]at a
   rw[a.mrf]
   exact hr
  ·exact hr
 | box ns x =>
  have e:=hv x (by simp[ai]);have a:=ha x (by simp[ai])
  cases dst with
  | none=>exact hr
  | some t=>simp only[aG,e]at hr ⊢;exact lu a hr
 | bls sz len zs ns ps =>
  cases dst with
  | none=>exact hr
  | some t=>simp only[aG]at hr ⊢;exact mS (fun p hp=>⟨hv _ (x0w.2 ⟨p,hp,rfl⟩),ha _ (x0w.2 ⟨p,hp,rfl⟩)⟩) hr
 | mks sz by_ zs n c =>
  have e:=hv n (by simp[ai]);have e2:=hv c (by simp[ai])
  cases dst with
  | none=>exact hr
  | some t=>simp only[aG,e,e2]at hr ⊢;exact hr
 | st n ns x v =>
  have e:=hv x (by simp[ai]);have a:=ha x (by simp[ai]);have e2:=hv v (by simp[ai]);have a2:=ha v (by simp[ai])
  simp only[aG,e,e2]at hr ⊢
  obtain⟨h0,hr⟩:=hr
  refine⟨h0,?_⟩
  obtain⟨cs,bs,⟨h1,h2⟩,h3⟩:=jI hr
  refine lu a2 (h3 _ ⟨h1,?_⟩)
  split at h2
  ·rename_i b i off ex;rw[ex]at a;rw[show g b=f b from a.adr];exact h2
  ·rename_i b i0 o0 i off ex;rw[ex]at a;rw[show g b=f b from a.adr];exact h2
  ·exact h2
 | app sz by_ mv x y =>
  have e:=hv x (by simp[ai]);have a:=ha x (by simp[ai]);have e2:=hv y (by simp[ai]);have a2:=ha y (by simp[ai])
  cases dst with
  | none=>exact hr
  | some t =>
   simp only[aG,e,e2]at hr ⊢
   obtain⟨rows,bs,⟨h1,h2⟩,h3⟩:=fk hr
   refine ke a2 (h3 _ ⟨h1,?_⟩)
   split at h2
   ·exact h2
   ·rename_i c k n ex;rw[ex]at a;rw[show g c=f c from a.ref];exact h2
   ·rename_i c i o k n ex;rw[ex]at a;rw[show g c=f c from a.ref];exact h2
   ·exact h2
 | call k xs ms =>
  simp only[aG]at hr ⊢
  obtain⟨h0,d,h1,h2,h3⟩:=hr
  have e:∀x∈xs,dpv g x=dpv f x/\(bW g (vd g x)↔bW f (vd f x)):=fun x hx=>by
   have:=md (ha x hx)
   unfold dpv
   rw[hv x hx]
   exact this
  refine⟨fun x hx=>(e x hx).2.2 (h0 x hx),d,by rw[x0j fun x hx=>(e x hx).1];exact h1,h2.imp id (fun h=>?_),h3⟩
  rw[x0f]at h ⊢
  exact fun x hx=>by rw[hv x hx];exact h x hx
 | callF k xs =>
  have e:∀x∈xs,dpv g x=dpv f x/\(bW g (vd g x)↔bW f (vd f x)):=fun x hx=>by
   have:=md (ha x hx)
   unfold dpv
   rw[hv x hx]
   exact this
  simp only[aG]at hr ⊢
  rw[x0j fun x hx=>(e x hx).1]
  exact⟨fun x hx=>(e x hx).2.2 (hr.1 x hx),hr.2⟩
 | callS k x0 xs =>
  have e0:=hv x0 (by simp[ai]);have a0:=ha x0 (by simp[ai])
  have eb:∀b,∀x∈xs,vd (fbE g b) x=vd (fbE f b) x/\dJ (fbE f b) (fbE g b) (vd (fbE f b) x):=fun b x hx=>by
   have h1:=hv x (by simp[ai,hx])
   have h2:=ha x (by simp[ai,hx])
   have hag:dJ (fbE f b) (fbE g b) (vd f x):=fun c hc=>by
    unfold fbE
    split
    ·rfl
    ·exact h2 c hc
   cases x with
   | t t =>
    simp only[vd]at h1 hag ⊢
    unfold fbE
    split
    ·exact⟨rfl,fun c hc=>by simp[dP,aT]at hc⟩
    ·exact⟨h1,hag⟩
   | c d=>exact⟨rfl,hag⟩
  have ed:∀b,∀x∈xs,dpv (fbE g b) x=dpv (fbE f b) x/\(bW (fbE g b) (vd (fbE g b) x)↔bW (fbE f b) (vd (fbE f b) x)):=fun b x hx=>by
   have:=md (eb b x hx).2
   unfold dpv
   rw[(eb b x hx).1]
   exact this
  have eo:∀b es',rb (fbE g b) xs es'↔rb (fbE f b) xs es':=fun b es'=>by
   unfold rb
   rw[x0f,x0f]
   exact or_congr ⟨fun h x hx=>by rw[<- (eb b x hx).1];exact h x hx,fun h x hx=>by rw[(eb b x hx).1];exact h x hx⟩ Iff.rfl
  simp only[aG,e0]at hr ⊢
  split at hr
  ·rename_i b k n hvx
   rw[hvx]at a0
   have hb:g b=f b:=a0.ref
   rw[hb,x0j fun x hx=>(ed b x hx).1]
   simp only[eo]
   obtain⟨h1,hr⟩:=hr
   refine⟨h1,?_⟩
   split at hr
   ·exact⟨hr.1,hr.2.1,fun x hx=>(ed b x hx).2.2 (hr.2.2.1 x hx),hr.2.2.2⟩
   ·exact hr.elim
  ·exact hr.elim
 | callN k x0 xs =>
  have e0:=hv x0 (by simp[ai]);have a0:=ha x0 (by simp[ai])
  have e:∀x∈xs,vd g x=vd f x:=fun x hx=>hv x (by simp[ai,hx])
  simp only[aG,e0]at hr ⊢
  split at hr
  ·rename_i b i o k n hvx
   rw[hvx]at a0
   have hb:g b=f b:=a0.ref
   rw[hb,x0j e]
   obtain⟨h1,hr⟩:=hr
   refine⟨h1,?_⟩
   split at hr
   ·obtain⟨row0,h2,sz,es,h3,h4,h5,h6⟩:=hr
    exact⟨row0,h2,sz,es,h3,h4,fun x hx=>by rw[e x hx];exact h5 x hx,h6⟩
   ·exact hr.elim
  ·exact hr.elim
 | callA k xs =>
  have e:∀x∈xs,vd g x=vd f x:=fun x hx=>hv x (by simp[ai,hx])
  simp only[aG]at hr ⊢
  rw[x0j e]
  exact⟨fun x hx=>by rw[e x hx];exact hr.1 x hx,hr.2⟩
 | callL k x0 xs =>
  have e0:=hv x0 (by simp[ai]);have a0:=ha x0 (by simp[ai])
  have e:∀x∈xs,vd g x=vd f x:=fun x hx=>hv x (by simp[ai,hx])
  simp only[aG,e0]at hr ⊢
  split at hr
  ·rename_i b i o hvx
   rw[hvx]at a0
   have hb:g b=f b:=a0.adr
   rw[hb,x0j e]
   obtain⟨h1,h2,hr⟩:=hr
   refine⟨h1,h2,?_⟩
   split at hr
   ·exact⟨hr.1,fun x hx=>by rw[e x hx];exact hr.2.1 x hx,hr.2.2⟩
   ·exact hr.elim
  ·exact hr.elim
 | clr zs x0 =>
  have e0:=hv x0 (by simp[ai]);have a0:=ha x0 (by simp[ai])
  simp only[aG,e0]at hr ⊢
  split at hr
  ·exact hr
  ·rename_i b k n hvx
   rw[hvx]at a0
   have hb:g b=f b:=a0.ref
   rw[hb]
   exact hr
  ·rename_i b i o k n hvx
   rw[hvx]at a0
   have hb:g b=f b:=a0.ref
   rw[hb]
   exact hr
  ·exact hr.elim
 | callE k x0 xs =>
  have e0:=hv x0 (by simp[ai]);have a0:=ha x0 (by simp[ai])
  have e:∀x∈xs,nr g x=nr f x/\∀b,oM g b x↔oM f b x:=fun x hx=>by
   have h1:=hv x (by simp[ai,hx])
   have h2:=ha x (by simp[ai,hx])
   unfold nr oM
   rw[h1]
   revert h2
   generalize vd f x=d
   intro h2
   cases d<;>first|exact⟨rfl,fun _=>Iff.rfl⟩|skip
   rename_i p k n
   cases p with
   | r c =>
    have hb:g c=f c:=h2.ref
    exact⟨by simp only[hb],fun _=>by simp only[hb]⟩
   | n c i o=>exact⟨rfl,fun _=>Iff.rfl⟩
  simp only[aG,e0]at hr ⊢
  split at hr
  ·split at hr
   ·rename_i p k n hvx
    rw[hvx]at a0
    have hb:g p.root=f p.root:=a0.ref
    have hd:dL g p=dL f p:=by
     cases p with
     | r c=>rfl
     | n c i o=>simp only[dL];rw[show g c=f c from hb]
    simp only[dM hb,hd]
    rw[x0j fun x hx=>(e x hx).1]
    split at hr
    ·obtain⟨h1,h2,h3,h4,h5,h6⟩:=hr
     exact⟨h1,h2,h3,h4,fun x hx=>((e x hx).2 _).2 (h5 x hx),h6⟩
    ·exact hr.elim
   ·exact hr.elim
  ·exact hr.elim
 | callv x0 xs =>
  have e0:=hv x0 (by simp[ai]);have a0:=ha x0 (by simp[ai])
  have e:∀x∈xs,dpv g x=dpv f x/\(bW g (vd g x)↔bW f (vd f x)):=fun x hx=>by
   have:=md (ha x (by simp[ai,hx]))
   unfold dpv
   rw[hv x (by simp[ai,hx])]
   exact this
  simp only[aG,e0]at hr ⊢
  split at hr
  ·obtain⟨h0,d,h1,h2,h3⟩:=hr
   refine⟨fun x hx=>(e x hx).2.2 (h0 x hx),d,by rw[x0j fun x hx=>(e x hx).1];exact h1,h2.imp id (fun h=>?_),h3⟩
   rw[x0f]at h ⊢
   exact fun x hx=>by rw[hv x (by simp[ai,hx])];exact h x hx
  ·rename_i k cs ex
   rw[ex]at a0
   obtain⟨h0,h0',d,h1,h2,h3⟩:=hr
   have ec:∀c∈cs,dp1 g c=dp1 f c/\(bA g c↔bA f c):=fun c hc=>fM fun b hb=>a0 b (gI hc hb)
   exact⟨fun x hx=>(e x hx).2.2 (h0 x hx),fun c hc=>(ec c hc).2.2 (h0' c hc),d,by rw[x0j fun x hx=>(e x hx).1,x0j fun c hc=>(ec c hc).1];exact h1,h2,h3⟩
  ·exact hr
 | _=>(simp only[aG]at hr ⊢;exact AP hv ha hr)
end
end Go.Gv

namespace Go.Gv
variable[Drw]
open Go.RowKit
def bE:D->List Nat
 | .ref p _ _=>[p.root]
 | .adr p _ _=>[p.root]
 | .ifa _ p _ _=>[p.root]
 | .mrf b=>[b]
 | _=>[]
def bV:D->List Nat
 | .agx ds=>ds.flatMap bE
 | .tpx ds=>ds.flatMap bE
 | .ptx ds=>ds.flatMap bE
 | .rfx _ _ ds=>ds.flatMap bE
 | .fnx _ ds=>ds.flatMap bE
 | .fny _ ds cs=>ds.flatMap bE++cs.flatMap bE
 | d=>bE d
theorem p9{b:Nat}{all:Bool}{p:Pa}(h:cy b all p=true):b=p.root:=by
 cases p<;>simp[cy,Pa.root]at h ⊢<;>simp_all
theorem ox{b:Nat}{all:Bool}{d:D}(h:aT b all d=true):b∈bE d:=by
 cases d<;>simp only[aT,x0o]at h
 case ref p k n=>simp[bE,p9 h]
 case adr p i o=>simp[bE,p9 h]
 case ifa T p i o=>simp[bE,p9 h]
 case mrf c=>simp at h;simp[bE,h.2]
theorem lG{b:Nat}{all:Bool}{d:D}(h:dP b all d=true):b∈bV d:=by
 have part:∀ds:List D,ds.any (aT b all)=true->b∈ds.flatMap bE:=fun ds h=>by
  obtain⟨d,h1,h2⟩:=x1e.1 h
  exact List.mem_flatMap.2 ⟨d,h1,ox h2⟩
 cases d
 case agx ds=>exact part ds h
 case tpx ds=>exact part ds h
 case ptx ds=>exact part ds h
 case rfx n sz ds=>exact part ds h
 case fnx g ds=>exact part ds h
 case fny g ds cs =>
  simp only[dP,x0u]at h
  simp only[bV,x0n]
  rcases h with h|h
  ·exact .inl (part ds h)
  ·exact .inr (part cs h)
 all_goals (simp only[dP]at h;simp only[bV];exact ox h)
theorem nM(ks:List (Nat×Bool)):aN ks .any=false:=by
 simp[aN,dP,aT]
theorem pZ{ks:List (Nat×Bool)}{d:D}(h:aN ks d=true):∃k∈ks,dP k.1 k.2 d=true:=by
 simpa[aN]using h
theorem jh{ws:List (Nat×D)}{k:Nat}{d:D}(h:ws.lookup k=some d):(k,d)∈ws:=by
 induction ws with
 | nil=>cases h
 | cons p ws ih =>
  obtain⟨s,x⟩:=p
  rw[x0l]at h
  cases e:k==s with
  | true=>rw[e]at h;simp at e h;subst e;subst h;simp
  | false=>rw[e]at h;simp[ih h]
theorem ve{ws:List (Nat×D)}{k:Nat}(h:ws.lookup k=none):k∉ws.map (·.1):=by
 induction ws with
 | nil=>simp
 | cons p ws ih =>
  obtain⟨s,x⟩:=p
  rw[x0l]at h
  cases e:k==s with
  | true=>rw[e]at h;cases h
  | false=>rw[e]at h;simp at e;simp only[x0F,x0H,not_or];exact⟨e,ih h⟩
theorem gX{ws:List (Nat×D)}{k:Nat}(h:k∉ws.map (·.1)):ws.lookup k=none:=by
 refine vf fun d hd=>h (x0w.2 ⟨_,hd,rfl⟩)
structure Fam where
 n:Nat
 ws:Nat->List (Nat×D)
 ks:Nat->List (Nat×Bool)
 rd:Nat->List Nat
 mn:Nat->List Nat
 fr:Nat->List (Nat×Nat)
 bef:Nat->Nat->Bool
 f0:Nat->D
def Fam.W(A:Fam)(i:Nat):List Nat:=(A.ws i).map (·.1)
def Fam.E(A:Fam)(i:Nat):(Nat->D)->(Nat->D):=eff (A.ws i) (A.ks i)
def Fam.G(A:Fam)(l:Nat->Bool):Nat->(Nat->D)
 | 0=>A.f0
 | m+1=>if l m then A.E m (A.G l m) else A.G l m
def Fam.St(A:Fam)(m:Nat):Nat->D:=A.G (fun _=>true) m
def ik(m:Nat):D->Option (List (Option D))
 | .blk _ es=>some (es.map fun r=>r[m]?)
 | _=>none
def Fam.Pres(A:Fam)(i k m:Nat):Prop:=ik m (A.St (i+1) k)=ik m (A.St i k)
def Fam.Apart(A:Fam)(i j:Nat):Prop:=(∀k∈A.W i,k∉A.rd j/\k∉A.W j/\∀m,(k,m)∈A.fr j->A.Pres i k m)/\∀k∈A.ks i,k.1∉A.mn j
def Fam.Ind(A:Fam)(i j:Nat):Prop:=A.Apart i j/\A.Apart j i
structure Fam.Ok (A:Fam):Prop where
 kills:∀i,i<A.n->∀k∈A.ks i,k.1∈A.W i
 vals:∀i,i<A.n->∀p∈A.ws i,∀b all,dP b all p.2=true->b∈A.mn i\/b∈A.W i
 closed:∀i,i<A.n->∀k∈A.rd i,∀b all,dP b all (A.St i k)=true->b∈A.mn i
 fine:∀i,i<A.n->∀p∈A.fr i,p.1∉A.W i
 known:∀i,i<A.n->∀k∈A.rd i,A.St i k≠.any
 pairs:∀i j,i<j->j<A.n->A.bef j i=true\/A.Ind i j
section
variable{A:Fam}
theorem fX{ws:List (Nat×D)}{ks:List (Nat×Bool)}{f:Nat->D}{k:Nat}{d:D}(h:ws.lookup k=some d):eff ws ks f k=d:=aP h
theorem dz{ws:List (Nat×D)}{ks:List (Nat×Bool)}{f:Nat->D}{k:Nat}(h:ws.lookup k=none):eff ws ks f k=if aN ks (f k) then .any else f k:=by
 unfold eff;rw[h]
theorem Fam.Ok.noKill(h:A.Ok){i j:Nat}(hi:i<A.n)(hj:j<A.n)(hI:A.Apart j i){p:Nat×D}(hp:p∈A.ws i):aN (A.ks j) p.2=false:=by
 cases hm:aN (A.ks j) p.2 with
 | false=>rfl
 | true =>
  obtain⟨k,h1,h2⟩:=pZ hm
  have h3:=h.kills j hj k h1
  have h5:=(hI.1 _ h3).2.1
  have h4:=hI.2 k h1
  rcases h.vals i hi p hp _ _ h2 with h6|h6
  ·exact absurd h6 h4
  ·exact absurd h6 h5
theorem Fam.Ok.comm(h:A.Ok){i j:Nat}(hi:i<A.n)(hj:j<A.n)(hI:A.Ind i j)(f:Nat->D):A.E i (A.E j f)=A.E j (A.E i f):=by
 funext k
 unfold Fam.E
 cases h1:(A.ws i).lookup k with
 | some d =>
  have hk:k∈A.W i:=x0w.2 ⟨_,jh h1,rfl⟩
  have h2:(A.ws j).lookup k=none:=gX (hI.1.1 k hk).2.1
  have h3:=h.noKill hi hj hI.2 (jh h1)
  rw[fX h1,dz h2,fX h1]
  simp only at h3
  rw[h3];rfl
 | none =>
  cases h2:(A.ws j).lookup k with
  | some d =>
   have h3:=h.noKill hj hi hI.1 (jh h2)
   rw[dz h1,fX h2,fX h2]
   simp only at h3
   rw[h3];rfl
  | none =>
   rw[dz h1,dz h2,dz h2,dz h1]
   cases e1:aN (A.ks i) (f k)<;>cases e2:aN (A.ks j) (f k)<;>simp[e1,e2,nM]
def BD(A:Fam)(l:Nat->Bool):Prop:=∀j,j<A.n->l j=true->∀i,i<j->A.bef j i=true->l i=true
open Classical in
noncomputable def dN(A:Fam)(l:Nat->Bool)(m:Nat)(d:D):D:=if ∃u,u<m/\l u=false/\aN (A.ks u) d=true then .any else d
theorem rS(l:Nat->Bool)(m:Nat):dN A l m .any=.any:=by
 unfold dN;split<;>rfl
theorem Hu(h:A.Ok){l:Nat->Bool}(hs:BD A l):∀m,m<=A.n->∀k,(∀u,u<m->l u=false->k∉A.W u)->A.St m k=dN A l m (A.G l m k)
 | 0,_,k,_=>by
  unfold dN
  rw[if_neg (by rintro⟨u,hu,_⟩;omega)]
  rfl
 | m+1,hm,k,hk=>by
  have ih:=Hu h hs m (by omega) k (fun u hu=>hk u (by omega))
  have e1:A.St (m+1) k=A.E m (A.St m) k:=by simp[Fam.St,Fam.G]
  rw[e1]
  cases hl:l m with
  | true =>
   have e2:A.G l (m+1) k=A.E m (A.G l m) k:=by simp[Fam.G,hl]
   rw[e2]
   unfold Fam.E
   cases h1:(A.ws m).lookup k with
   | some d =>
    rw[fX h1,fX h1]
    unfold dN
    rw[if_neg]
    rintro⟨u,hu,hlu,hmu⟩
    have hum:u<m:=by
     rcases x1q u m with h|h
     ·exact h
     ·have:u=m:=by omega
      subst this;rw[hl]at hlu;cases hlu
    rcases h.pairs u m hum (by omega)with h2|h2
    ·rw[hs m (by omega) hl u hum h2]at hlu;cases hlu
    ·have:=h.noKill (i:=m) (j:=u) (by omega) (by omega) h2.1 (jh h1)
     simp only at this
     rw[this]at hmu;cases hmu
   | none =>
    rw[dz h1,dz h1,ih]
    have same:∀d,dN A l (m+1) d=dN A l m d:=fun d=>by
     unfold dN
     congr 1
     refine propext ⟨fun⟨u,h3,h4,h5⟩=>⟨u,?_,h4,h5⟩,fun⟨u,h3,h4,h5⟩=>⟨u,by omega,h4,h5⟩⟩
     rcases x1q u m with h|h
     ·exact h
     ·have:u=m:=by omega
      subst this;rw[hl]at h4;cases h4
    rw[same]
    generalize A.G l m k=g
    by_cases hc:∃u,u<m/\l u=false/\aN (A.ks u) g=true
    ·have e3:dN A l m g=.any:=by unfold dN;rw[if_pos hc]
     rw[e3,nM]
     cases hg:aN (A.ks m) g with
     | true=>simp only[if_true];rw[rS];rfl
     | false=>simp only[x0o,if_false];rw[e3]
    ·have e3:dN A l m g=g:=by unfold dN;rw[if_neg hc]
     rw[e3]
     cases hg:aN (A.ks m) g with
     | true=>simp only[if_true];rw[rS]
     | false=>simp only[x0o,if_false];rw[e3]
  | false =>
   have e2:A.G l (m+1) k=A.G l m k:=by simp[Fam.G,hl]
   rw[e2]
   unfold Fam.E
   rw[dz (gX (hk m (by omega) hl)),ih]
   generalize A.G l m k=g
   by_cases hc:∃u,u<m/\l u=false/\aN (A.ks u) g=true
   ·have e3:dN A l m g=.any:=by unfold dN;rw[if_pos hc]
    have e4:dN A l (m+1) g=.any:=by
     unfold dN
     obtain⟨u,h1,h2⟩:=hc
     rw[if_pos ⟨u,by omega,h2⟩]
    rw[e3,e4,nM];rfl
   ·have e3:dN A l m g=g:=by unfold dN;rw[if_neg hc]
    rw[e3]
    cases hg:aN (A.ks m) g with
    | true =>
     have e4:dN A l (m+1) g=.any:=by unfold dN;exact if_pos ⟨m,by omega,hl,hg⟩
     rw[e4];rfl
    | false =>
     have e4:dN A l (m+1) g=g:=by
      unfold dN
      refine if_neg ?_
      rintro⟨u,h1,h2,h3⟩
      rcases x1q u m with h|h
      ·exact hc ⟨u,h,h2,h3⟩
      ·have:u=m:=by omega
       subst this;rw[hg]at h3;cases h3
     rw[e4];rfl
theorem Fam.Ok.reads(h:A.Ok){l:Nat->Bool}(hs:BD A l){j:Nat}(hj:j<A.n)(hlj:l j=false)(hb:∀i,i<j->A.bef j i=true->l i=true):∀k∈A.rd j,A.G l A.n k=A.St j k:=by
 intro k hk
 have h1:A.G l j k=A.St j k:=by
  have h2:=Hu h hs j (by omega) k (fun u hu hlu=>by
   rcases h.pairs u j hu hj with h3|h3
   ·rw[hb u hu h3]at hlu;cases hlu
   ·exact fun h4=>(h3.1.1 k h4).1 hk)
  have h3:=h.known j hj k hk
  rw[h2]at h3 ⊢
  unfold dN at h3 ⊢
  split at h3
  ·exact absurd rfl h3
  ·rename_i hc;rw[if_neg hc]
 have h2:∀m,j<=m->m<=A.n->A.G l m k=A.St j k:=by
  intro m
  induction m with
  | zero=>intro h3 _;have:j=0:=(by omega);subst this;exact h1
  | succ m ih =>
   intro h3 h4
   rcases x1q m j with h5|h5
   ·have:j=m+1:=by omega
    rw[<- this];exact h1
   ·have ihm:=ih h5 (by omega)
    cases hl:l m with
    | false=>simp[Fam.G,hl,ihm]
    | true =>
     have hjm:j<m:=by
      rcases x1q j m with h|h
      ·exact h
      ·have:j=m:=by omega
       subst this;rw[hl]at hlj;cases hlj
     rcases h.pairs j m hjm (by omega)with h6|h6
     ·rw[hs m (by omega) hl j hjm h6]at hlj;cases hlj
     ·have h7:(A.ws m).lookup k=none:=gX (fun h8=>(h6.2.1 k h8).1 hk)
      have h8:aN (A.ks m) (A.St j k)=false:=by
       cases hm:aN (A.ks m) (A.St j k) with
       | false=>rfl
       | true =>
        obtain⟨q,h9,h10⟩:=pZ hm
        exact absurd (h.closed j hj k hk _ _ h10) (h6.2.2 q h9)
      simp only[Fam.G,hl,if_true,Fam.E]
      rw[dz h7,ihm,h8];rfl
 exact h2 A.n (by omega) (x0k _)
theorem rF(m:Nat)(ks:List (Nat×Bool))(d:D):ik m (if aN ks d then .any else d)=ik m d:=by
 cases d
 case blk sz es=>rw[rW rfl];rfl
 all_goals (split<;>rfl)
theorem kJ(A:Fam)(f g:Nat->D)(i k m:Nat)(h:k∉A.W i):ik m (A.E i f k)=ik m (f k):=by
 unfold Fam.E
 rw[dz (gX h),rF]
theorem rG(A:Fam)(f g:Nat->D)(i k:Nat)(h:k∈A.W i):A.E i f k=A.E i g k:=by
 unfold Fam.E
 cases h1:(A.ws i).lookup k with
 | none=>exact absurd h (ve h1)
 | some d=>rw[fX h1,fX h1]
theorem lS(A:Fam)(m:Nat):A.St (m+1)=A.E m (A.St m):=by simp[Fam.St,Fam.G]
theorem Fam.Ok.readsC(h:A.Ok){l:Nat->Bool}(hs:BD A l){j:Nat}(hj:j<A.n)(hlj:l j=false)(hb:∀i,i<j->A.bef j i=true->l i=true):∀p∈A.fr j,ik p.2 (A.G l A.n p.1)=ik p.2 (A.St j p.1):=by
 rintro⟨k,c⟩ hk
 simp only
 have hkj:=h.fine j hj _ hk
 simp only at hkj
 have low:∀m,m<=j->ik c (A.G l m k)=ik c (A.St m k):=by
  intro m
  induction m with
  | zero=>intro _;rfl
  | succ m ih =>
   intro hm
   have ihm:=ih (by omega)
   rw[lS]
   by_cases hw:k∈A.W m
   ·cases hl:l m with
    | true =>
     simp only[Fam.G,hl,if_true]
     rw[rG A _ (A.St m) m k hw]
    | false =>
     simp only[Fam.G,hl,x0o,if_false]
     rcases h.pairs m j (by omega) hj with h1|h1
     ·rw[hb m (by omega) h1]at hl;cases hl
     ·have h2:=(h1.1.1 k hw).2.2 c hk
      unfold Fam.Pres at h2
      rw[lS]at h2
      rw[h2,ihm]
   ·rw[kJ A _ (A.St m) m k c hw]
    cases hl:l m with
    | true =>
     simp only[Fam.G,hl,if_true]
     rw[kJ A _ (A.St m) m k c hw,ihm]
    | false=>simp only[Fam.G,hl,x0o,if_false];exact ihm
 have run:∀m,j<=m->m<=A.n->(∀u,j<u->u<m->k∈A.W u->A.Pres u k c)->ik c (A.St m k)=ik c (A.St j k):=by
  intro m
  induction m with
  | zero=>intro h1 _ _;have:j=0:=(by omega);subst this;rfl
  | succ m ih =>
   intro h1 h2 h3
   rcases x1q m j with h4|h4
   ·have:j=m+1:=by omega
    rw[<- this]
   ·have ihm:=ih h4 (by omega) (fun u h5 h6 h7=>h3 u h5 (by omega) h7)
    by_cases hw:k∈A.W m
    ·have hjm:j<m:=by
      rcases x1q j m with h|h
      ·exact h
      ·have:j=m:=by omega
       subst this;exact absurd hw hkj
     have:=h3 m hjm (by omega) hw
     unfold Fam.Pres at this
     rw[this,ihm]
    ·rw[lS,kJ A _ (A.St m) m k c hw,ihm]
 have high:∀m,j<=m->m<=A.n->ik c (A.G l m k)=ik c (A.St j k):=by
  intro m
  induction m with
  | zero=>intro h1 _;have:j=0:=(by omega);subst this;exact low 0 (x0k _)
  | succ m ih =>
   intro h1 h2
   rcases x1q m j with h4|h4
   ·have:j=m+1:=by omega
    rw[<- this];exact low j (x0k _)
   ·have ihm:=ih h4 (by omega)
    cases hl:l m with
    | false=>simp only[Fam.G,hl,x0o,if_false];exact ihm
    | true =>
     simp only[Fam.G,hl,if_true]
     by_cases hw:k∈A.W m
     ·have hjm:j<m:=by
       rcases x1q j m with h|h
       ·exact h
       ·have:j=m:=by omega
        subst this;rw[hl]at hlj;cases hlj
      have pres:∀u,j<u->u<A.n->k∈A.W u->l u=true->A.Pres u k c:=fun u h5 h6 h7 h8=>by
       rcases h.pairs j u h5 h6 with h9|h9
       ·rw[hs u h6 h8 j h5 h9]at hlj;cases hlj
       ·exact(h9.2.1 k h7).2.2 c hk
      have h5:=run m h4 (by omega) (fun u h5 h6 h7=>pres u h5 (by omega) h7 (by
       rcases h.pairs u m h6 (by omega)with h9|h9
       ·exact hs m (by omega) hl u h6 h9
       ·exact absurd hw (h9.1.1 k h7).2.1))
      have h6:=pres m hjm (by omega) hw hl
      unfold Fam.Pres at h6
      rw[rG A _ (A.St m) m k hw,<- lS,h6,h5]
     ·rw[kJ A _ (A.St m) m k c hw,ihm]
 exact high A.n (by omega) (x0k _)
theorem Fam.Ok.more(h:A.Ok){l l':Nat->Bool}(hs:BD A l){j:Nat}(hj:j<A.n)(hlj:l j=false)(hj':l' j=true)(hl':∀i,i≠j->l' i=l i):A.G l' A.n=A.E j (A.G l A.n):=by
 have low:∀m,m<=j->A.G l' m=A.G l m:=by
  intro m
  induction m with
  | zero=>intro _;rfl
  | succ m ih =>
   intro hm
   simp only[Fam.G]
   rw[ih (by omega),hl' m (by omega)]
 have high:∀m,j<m->m<=A.n->A.G l' m=A.E j (A.G l m):=by
  intro m
  induction m with
  | zero=>intro h1;omega
  | succ m ih =>
   intro h1 h2
   rcases x1q j m with h3|h3
   ·have ihm:=ih h3 (by omega)
    simp only[Fam.G]
    rw[hl' m (by omega),ihm]
    cases hl:l m with
    | false=>rfl
    | true =>
     simp only[if_true]
     rcases h.pairs j m h3 (by omega)with h4|h4
     ·rw[hs m (by omega) hl j h3 h4]at hlj;cases hlj
     ·exact(h.comm hj (by omega) h4 _).symm
   ·have:m=j:=by omega
    subst this
    simp only[Fam.G]
    rw[hj',hlj,low m (x0k _)]
    rfl
 exact high A.n hj (x0k _)
end
end Go.Gv

namespace Go.Gv
variable[Drw]
open Go.RowKit
def jY:Opd->List Nat
 | .t s=>[s]
 | .c _=>[]
def uX:Option (Nat×Bool)->List Nat
 | some (s,_)=>[s]
 | none=>[]
def rdS(n:au):List Nat:=(ai n.op).flatMap jY++uX n.guard
def IZ:NOp->List Opd
 | .mov _=>[]
 | .nck _=>[]
 | .pick _ _ _=>[]
 | .bin _ _ _=>[]
 | .un _ _=>[]
 | .conv _ _=>[]
 | .ext _ _=>[]
 | .fad _ _=>[]
 | .ld _ _ _=>[]
 | .ldQ _ _=>[]
 | .mk _ _=>[]
 | .bld _ _=>[]
 | .boxF _=>[]
 | .blsF _ _ _ _=>[]
 | .len _=>[]
 | .iadA _ _ _ _=>[]
 | o=>ai o
def ldN:NOp->List Opd
 | .ld _ _ x=>[x]
 | _=>[]
def rdR(f:Nat->D)(n:au):List Nat:=((IZ n.op).flatMap fun x=>bV (vd f x))++((ldN n.op).flatMap fun x=>bE (vd f x))
def mnR(f:Nat->D)(n:au):List Nat:=(ai n.op).flatMap fun x=>bV (vd f x)
def frR(f:Nat->D)(n:au):List (Nat×Nat):=match n.op with
 | .ldQ o x=>match vd f x with
  | .adr (.r c) _ _=>[(c,o)]
  | _=>[]
 | _=>[]
def fwR(f:Nat->D)(n:au):List (Nat×Nat):=match n.op with
 | .appQ o _ _ x _=>match vd f x with
  | .ref (.n c _ _) _ _=>[(c,o)]
  | _=>[]
 | _=>[]
abbrev Rds:=List Nat×List Nat×List (Nat×Nat)×List (Nat×Nat)
def iF(x:Rds):List Nat:=x.1.map (4 * ·)++x.2.1.map (4 * ·+1)++x.2.2.1.map (fun p=>4*(64*p.1+p.2%64)+2)++x.2.2.2.map (fun p=>4*(64*p.1+p.2%64)+3)
def rdN(f:Nat->D)(n:au):Rds:=(rdS n++rdR f n,mnR f n,frR f n,fwR f n)
def gQ(f:Nat->D)(n:au):List Nat:=iF (rdN f n)
def wrK(ws:List (Nat×D))(ks:List (Nat×Bool)):List Nat:=(ws.map fun p=>4*p.1)++ks.map fun k=>4*k.1+1
def gm:D->Bool
 | .any=>true
 | _=>false
def chk(f:Nat->D)(n:au):Bool:=((rdS n).all fun s=>!gm (f s))&&((rdR f n).all fun b=>isB (f b))&&((frR f n).all fun p=>!(n.dst==some p.1))&&(fwR f n).all fun p=>!(n.dst==some p.1)
def wOk(R:List Nat)(ws:List (Nat×D))(ks:List (Nat×Bool)):Bool :=
 (ks.all fun k=>(ws.map (·.1)).contains k.1)&&ws.all fun p=>(bV p.2).all fun b=>R.contains (4*b+1)||(ws.map (·.1)).contains b
def BY(q:Nat)(r0:List Nat):Bool:=r0.any fun z=>decide (z%4=3)&&decide (z/256=q/256)&&!decide (z/4%64=q/4%64)
def wj(x r0:List Nat)(r w:List Nat):Bool:=x.all fun k=>!r.contains k&&!w.contains k&&r.all fun q=>!(decide (q%4=2)&&decide (k=4*(q/256)))||BY q r0
def lm(hs:List Nat)(rw:List (List Nat×List Nat)):Bool :=
 rw.zipIdx.all fun p=>rw.zipIdx.all fun q=>!decide (p.2<q.2)||(hs.getD q.2 0).testBit p.2||(wj p.1.2 p.1.1 q.1.1 q.1.2&&wj q.1.2 q.1.1 p.1.1 p.1.2)
def uK:Option Nat->List Nat
 | some t=>[4*t]
 | none=>[]
def jB(C:Nat->List D->D->List D->Prop)(hs:List Nat)(K:Env->Prop):List au->Env->List (List Nat×List Nat)->Prop
 | [],e,acc=>lm hs acc.reverse=true/\K e
 | o::os,e,acc=>chk (ac e) o=true/\match o.guard with
  | none=>aG C (ac e) o.dst (fun ws ks=>wOk (gQ (ac e) o) ws ks=true/\jB C hs K os (ws++dG ks e) ((gQ (ac e) o,wrK ws ks)::acc)) o.op
  | some (s,want)=>match ac e s with
   | .bool b=>(b=want->aG C (ac e) o.dst (fun ws ks=>wOk (gQ (ac e) o) ws ks=true/\jB C hs K os (ws++dG ks e) ((gQ (ac e) o,wrK ws ks)::acc)) o.op) /\
     (b=!want->iB e o.dst fun e'=>jB C hs K os e' ((gQ (ac e) o,uK o.dst)::acc))
   | .tup []=>iB e o.dst fun e'=>jB C hs K os e' ((gQ (ac e) o,uK o.dst)::acc)
   | _=>False
def fd(n:au):Option (List (Nat×D)×List (Nat×Bool))->List (Nat×D)
 | some (ws,_)=>ws
 | none=>match n.dst with
  | some t=>[(t,.tup [])]
  | none=>[]
def gb:Option (List (Nat×D)×List (Nat×Bool))->List (Nat×Bool)
 | some (_,ks)=>ks
 | none=>[]
theorem E4(n:au)(x:Option (List (Nat×D)×List (Nat×Bool)))(f:Nat->D):qY n x f=eff (fd n x) (gb x) f:=by
 cases x with
 | some y=>rfl
 | none =>
  unfold qY fd gb
  cases n.dst with
  | some t=>rfl
  | none=>exact(mg f).symm
abbrev im:=au×Option (List (Nat×D)×List (Nat×Bool))×Rds
def Tr(C:Nat->List D->D->List D->Prop):List im->(Nat->D)->(Nat->D)->Prop
 | [],f,f'=>f'=f
 | (n,x,rd)::ts,f,f'=>jE C n f x/\chk f n=true/\wOk (gQ f n) (fd n x) (gb x)=true/\rd=rdN f n/\Tr C ts (eff (fd n x) (gb x) f) f'
section
variable{C:Nat->List D->D->List D->Prop}
theorem HF{hs:List Nat}{K:Env->Prop}:∀(ns:List au) (e:Env) (acc:List (List Nat×List Nat)),jB C hs K ns e acc->∃(ts:List im) (e':Env),ts.map (·.1)=ns/\Tr C ts (ac e) (ac e')/\lm hs (acc.reverse++ts.map fun t=>(iF t.2.2,wrK (fd t.1 t.2.1) (gb t.2.1)))=true/\K e'
 | [],e,acc,h=>⟨[],e,rfl,rfl,by simpa using h.1,h.2⟩
 | n::ns,e,acc,h=>by
  obtain⟨h0,h⟩:=h
  have fin:∀(x:Option (List (Nat×D)×List (Nat×Bool))) (e1:Env),jE C n (ac e) x->wOk (gQ (ac e) n) (fd n x) (gb x)=true->ac e1=eff (fd n x) (gb x) (ac e)->jB C hs K ns e1 ((gQ (ac e) n,wrK (fd n x) (gb x))::acc) ->
    ∃(ts:List im) (e':Env),ts.map (·.1)=n::ns/\Tr C ts (ac e) (ac e')/\lm hs (acc.reverse++ts.map fun t=>(iF t.2.2,wrK (fd t.1 t.2.1) (gb t.2.1)))=true/\K e':=by
   intro x e1 h1 h2 h3 h4
   obtain⟨ts,e',g1,g2,g3,g4⟩:=HF ns e1 _ h4
   refine⟨(n,x,rdN (ac e) n)::ts,e',by simp[g1],⟨h1,h0,h2,rfl,by rw[<- h3];exact g2⟩,?_,g4⟩
   simpa[gQ]using g3
  have run:(∀s b,n.guard=some (s,b)->ac e s=.bool b)->aG C (ac e) n.dst (fun ws ks=>wOk (gQ (ac e) n) ws ks=true/\jB C hs K ns (ws++dG ks e) ((gQ (ac e) n,wrK ws ks)::acc)) n.op ->
    ∃(ts:List im) (e':Env),ts.map (·.1)=n::ns/\Tr C ts (ac e) (ac e')/\lm hs (acc.reverse++ts.map fun t=>(iF t.2.2,wrK (fd t.1 t.2.1) (gb t.2.1)))=true/\K e':=by
   intro hg h1
   obtain⟨ws,ks,⟨h2,h3⟩,h4⟩:=qA h1
   exact fin (some (ws,ks)) _ ⟨hg,h4 _ ⟨rfl,rfl⟩⟩ h2 (jW ws ks e) h3
  have skp:∀s want,n.guard=some (s,want)->Skp want (ac e s)->iB e n.dst (fun e'=>jB C hs K ns e' ((gQ (ac e) n,uK n.dst)::acc)) ->
    ∃(ts:List im) (e':Env),ts.map (·.1)=n::ns/\Tr C ts (ac e) (ac e')/\lm hs (acc.reverse++ts.map fun t=>(iF t.2.2,wrK (fd t.1 t.2.1) (gb t.2.1)))=true/\K e':=by
   intro s want hg hb h1
   unfold iB at h1
   split at h1
   ·rename_i hd
    refine fin none e ⟨s,want,hg,hb⟩ (by simp[wOk,fd,gb,hd]) (by simp[fd,gb,hd,mg]) ?_
    simpa[fd,gb,wrK,hd,uK]using h1
   ·rename_i t hd
    refine fin none ((t,.tup [])::e) ⟨s,want,hg,hb⟩ (by simp[wOk,fd,gb,hd,bV,bE]) ?_ ?_
    ·have:=jW [(t,.tup [])] [] e
     simp only[dG,if_true]at this
     simpa[fd,gb,hd]using this
    ·simpa[fd,gb,wrK,hd,uK]using h1
  split at h
  ·rename_i hg
   exact run (fun s b e'=>(by rw[hg]at e';cases e')) h
  ·rename_i s want hg
   split at h
   ·rename_i b hb
    by_cases hbw:b=want
    ·subst hbw
     exact run (fun s' b' e'=>(by rw[hg]at e';cases e';exact hb)) (h.1 rfl)
    ·have hb':b=!want:=by cases b<;>cases want<;>simp_all
     have h1:=h.2 hb'
     rw[hb']at hb
     exact skp s want hg (.inl hb) h1
   ·rename_i hb
    exact skp s want hg (.inr hb) h
   ·exact h.elim
def aW(hs:List Nat)(ts:List im)(f:Nat->D):Fam where
 n:=ts.length
 ws i:=match ts[i]? with
  | some t=>fd t.1 t.2.1
  | none=>[]
 ks i:=match ts[i]? with
  | some t=>gb t.2.1
  | none=>[]
 rd i:=match ts[i]? with
  | some t=>t.2.2.1
  | none=>[]
 mn i:=match ts[i]? with
  | some t=>t.2.2.2.1
  | none=>[]
 fr i:=match ts[i]? with
  | some t=>t.2.2.2.2.1
  | none=>[]
 bef j i:=(hs.getD j 0).testBit i
 f0:=f
theorem nC(hs:List Nat)(t:im)(ts:List im)(f:Nat->D):∀i,(aW hs (t::ts) f).St (i+1)=(aW hs ts (eff (fd t.1 t.2.1) (gb t.2.1) f)).St i
 | 0=>by simp[Fam.St,Fam.G,Fam.E,aW]
 | i+1=>by
  have ih:=nC hs t ts f i
  have e1:∀(A:Fam) (m:Nat),A.St (m+1)=A.E m (A.St m):=fun A m=>by simp[Fam.St,Fam.G]
  rw[e1,ih,e1]
  simp[Fam.E,aW]
theorem tY(hs:List Nat):∀(ts:List im) (f f':Nat->D),Tr C ts f f'->f'=(aW hs ts f).St ts.length/\∀(i:Nat) (t:im),ts[i]? = some t->jE C t.1 ((aW hs ts f).St i) t.2.1/\chk ((aW hs ts f).St i) t.1=true/\wOk (iF t.2.2) (fd t.1 t.2.1) (gb t.2.1)=true/\t.2.2=rdN ((aW hs ts f).St i) t.1
 | [],f,f',h=>⟨h,fun i t h=>by simp at h⟩
 | (n,x,rd)::ts,f,f',h=>by
  obtain⟨h1,h2,h3,rfl,h4⟩:=h
  obtain⟨g1,g2⟩:=tY hs ts _ f' h4
  refine⟨by rw[x0T,nC];exact g1,fun i t hi=>?_⟩
  cases i with
  | zero=>simp at hi;subst hi;exact⟨h1,h2,by simpa[gQ]using h3,rfl⟩
  | succ i=>rw[nC];exact g2 i t (by simpa using hi)
theorem Et{f:Nat->D}{n:au}{x:Option (List (Nat×D)×List (Nat×Bool))}{c:Nat}(h2:(n.dst==some c)=false)(hx:x=none\/∃d ks,x=some ((match n.dst with|some t=>[(t,d)]|none=>[]),ks)):c∉(fd n x).map (·.1):=by
 have h3:n.dst≠some c:=by simpa using h2
 rcases hx with rfl|⟨d,ks,rfl⟩
 ·simp only[fd]
  split
  ·rename_i t e
   rw[e]at h3
   simp only[x0F,x02,x0H,x07,or_false]
   exact fun e=>h3 (by rw[e])
  ·simp
 ·simp only[fd]
  split
  ·rename_i t e
   rw[e]at h3
   simp only[x0F,x02,x0H,x07,or_false]
   exact fun e=>h3 (by rw[e])
  ·simp
theorem Il{f:Nat->D}{n:au}{x:Option (List (Nat×D)×List (Nat×Bool))}(h:jE C n f x)(h2:chk f n=true){p:Nat×Nat}(hp:p∈frR f n):p.1∉(fd n x).map (·.1):=by
 have h3:(n.dst==some p.1)=false:=by
  simp only[chk,x0a,x0f]at h2
  simpa using h2.1.2 p hp
 refine Et (f:=f) h3 ?_
 cases x with
 | none=>exact .inl rfl
 | some y =>
  obtain⟨ws,ks⟩:=y
  right
  have h:=h.2
  unfold frR at hp
  split at hp
  ·rename_i q x0 heq
   rw[heq]at h
   simp only[aG]at h
   split at h
   ·obtain⟨_,h⟩:=h
    split at h
    ·obtain⟨r,_,d,_,h⟩:=h
     unfold en at h
     split at h
     ·rename_i t e
      obtain⟨rfl,rfl⟩:=h
      exact⟨_,_,by rw[e]⟩
     ·rename_i e
      obtain⟨rfl,rfl⟩:=h
      exact⟨.any,_,by rw[e]⟩
    ·exact h.elim
   ·exact h.elim
  ·cases hp
theorem zX{es:List (List D)}{sz i o m:Nat}{row:List D}(h:es[i]? = some row)(ho:o<row.length)(hm:o≠m):ik m (.blk sz (bK es i o 1 [.any]))=ik m (.blk sz es):=by
 simp only[ik,bK,h,x1p,x0s]
 apply List.ext_getElem?
 intro j
 rw[x0z,x0z,List.getElem?_set]
 split
 ·rename_i e
  subst e
  split
  ·rw[h]
   simp only[x1m,x0s]
   have hl:(row.take o).length=o:=by simp;omega
   rw[x1L]
   by_cases h1:m<o
   ·rw[x0A (by omega),x0D h1]
   ·rw[x0B (by omega),hl,x0B (by simp;omega),x0v]
    congr 1;simp only[x0T,x1E];omega
  ·rename_i h1
   rw[x01 (by omega)]
 ·rfl
theorem Ik{f:Nat->D}{n:au}{x:Option (List (Nat×D)×List (Nat×Bool))}(h:jE C n f x)(h2:chk f n=true){p:Nat×Nat}(hp:p∈fwR f n){m:Nat}(hm:p.2≠m):ik m (eff (fd n x) (gb x) f p.1)=ik m (f p.1):=by
 have h3:(n.dst==some p.1)=false:=by
  simp only[chk,x0a,x0f]at h2
  simpa using h2.2 p hp
 cases x with
 | none =>
  rw[dz (gX (Et (f:=f) h3 (.inl rfl)))]
  exact rF _ _ _
 | some y =>
  obtain⟨ws,ks⟩:=y
  have h:=h.2
  have h30:n.dst≠some p.1:=by simpa using h3
  unfold fwR at hp
  split at hp
  ·rename_i q sz by_ x0 y0 heq
   rw[heq]at h
   simp only[aG]at h
   split at h
   ·rename_i t hd
    split at h
    ·rename_i c i o' k n' ex
     rw[ex]at hp
     simp only[x0H,x07,or_false]at hp
     subst hp
     simp only at hm h30 ⊢
     obtain⟨rfl,h⟩:=h
     obtain⟨rows,bs,⟨h4,h5,h⟩,_⟩:=fk h
     split at h
     ·rename_i sz0 es0 hf
      obtain⟨row0,h6,es,h7,h8,h9,h10,h11⟩:=h
      subst h10 h11
      have e1:(c==t)=false:=by simp only[beq_eq_false_iff_ne,ne_eq];exact fun e=>h30 (by rw[hd,e])
      have e2:(c==rt t 0)=false:=by simpa using h5
      simp only[fd]
      rw[aP (d:=.blk sz0 (bK es0 i o' 1 [.any])) (by simp[x0l,e1,e2]),hf]
      exact zX h6 (x0d.1 h7).1 hm
     ·exact h.elim
    ·exact h.elim
   ·exact h.elim
  ·cases hp
theorem Ih{hs:List Nat}{ts:List im}{f f':Nat->D}(h:Tr C ts f f')(hi:lm hs (ts.map fun t=>(iF t.2.2,wrK (fd t.1 t.2.1) (gb t.2.1)))=true):(aW hs ts f).Ok:=by
 obtain⟨_,hs'⟩:=tY hs ts f f' h
 have get:∀i,i<ts.length->∃t,ts[i]? = some t:=fun i hi=>⟨_,x0e hi⟩
 have e4:∀{x:Rds} {z:Nat},z∈iF x->(∃k∈x.1,z=4*k)\/(∃k∈x.2.1,z=4*k+1)\/(∃p∈x.2.2.1,z=4*(64*p.1+p.2%64)+2)\/∃p∈x.2.2.2,z=4*(64*p.1+p.2%64)+3:=by
  intro x z hz
  simp only[iF,x0n,x0w]at hz
  rcases hz with ((⟨k,h1,h2⟩|⟨k,h1,h2⟩)|⟨p,h1,h2⟩)|⟨p,h1,h2⟩
  ·exact .inl ⟨k,h1,h2.symm⟩
  ·exact .inr (.inl ⟨k,h1,h2.symm⟩)
  ·exact .inr (.inr (.inl ⟨p,h1,h2.symm⟩))
  ·exact .inr (.inr (.inr ⟨p,h1,h2.symm⟩))
 have e1:∀{x:Rds} {k:Nat},k∈x.1->4*k∈iF x:=fun{x k} hk=>by
  simp only[iF,x0n,x0w];exact .inl (.inl (.inl ⟨k,hk,rfl⟩))
 have e2:∀{x:Rds} {k:Nat},k∈x.2.1->4*k+1∈iF x:=fun{x k} hk=>by
  simp only[iF,x0n,x0w];exact .inl (.inl (.inr ⟨k,hk,rfl⟩))
 have e3:∀{x:Rds} {p:Nat×Nat},p∈x.2.2.1->4*(64*p.1+p.2%64)+2∈iF x:=fun{x p} hk=>by
  simp only[iF,x0n,x0w];exact .inl (.inr ⟨p,hk,rfl⟩)
 refine⟨fun i hn k hk=>?_,fun i hn p hp b all hb=>?_,fun i hn k hk b all hb=>?_,fun i hn p hp hk=>?_,fun i hn k hk=>?_,fun i j hij hn=>?_⟩
 ·obtain⟨t,ht⟩:=get i hn
  obtain⟨_,_,h3,_⟩:=hs' i t ht
  simp only[aW,ht]at hk
  simp only[Fam.W,aW,ht]
  simp only[wOk,x0a,x0f]at h3
  exact x0R.1 (h3.1 k hk)
 ·obtain⟨t,ht⟩:=get i hn
  obtain⟨_,_,h3,_⟩:=hs' i t ht
  simp only[aW,ht]at hp
  simp only[Fam.W,aW,ht]
  simp only[wOk,x0a,x0f,x0u]at h3
  rcases h3.2 p hp b (lG hb)with h4|h4
  ·left
   have h5:=x0R.1 h4
   rcases e4 h5 with ⟨x,_,h6⟩|⟨x,h7,h6⟩|⟨x,_,h6⟩|⟨x,_,h6⟩
   ·omega
   ·have:x=b:=by omega
    subst this;exact h7
   ·omega
   ·omega
  ·exact .inr (x0R.1 h4)
 ·obtain⟨t,ht⟩:=get i hn
  obtain⟨h1,h2,_,h4⟩:=hs' i t ht
  simp only[aW,ht]at hk ⊢
  rw[h4]at hk ⊢
  simp only[chk,x0a,x0f]at h2
  rcases x0n.1 hk with h5|h5
  ·simp only[rdS]at h5
   rcases x0n.1 h5 with h6|h6
   ·obtain⟨x,h7,h8⟩:=List.mem_flatMap.1 h6
    cases x with
    | t s =>
     simp only[jY,x1h]at h8
     subst h8
     refine List.mem_flatMap.2 ⟨_,h7,?_⟩
     exact lG hb
    | c d=>simp[jY]at h8
   ·
    have:(∃bb,(aW hs ts f).St i k=.bool bb)\/(aW hs ts f).St i k=.tup []:=by
     cases hg:t.1.guard with
     | none=>rw[hg]at h6;simp[uX]at h6
     | some q =>
      obtain⟨s,want⟩:=q
      rw[hg]at h6
      simp only[uX,x1h]at h6
      subst h6
      unfold jE at h1
      split at h1
      ·exact .inl ⟨want,h1.1 k want hg⟩
      ·obtain⟨s',b',h7,h8⟩:=h1
       rw[hg]at h7;cases h7
       exact h8.imp (fun h8=>⟨_,h8⟩) id
    simp only[aW]at this hb
    rcases this with ⟨bb,hbb⟩|hbb<;>rw[hbb]at hb<;>simp[dP,aT]at hb
  ·have h6:=h2.1.1.2 k h5
   simp only[aW]at h6 hb
   have h7:∀d:D,isB d=true->dP b all d=false:=fun d hd=>by cases d<;>first|rfl|(simp[isB]at hd)
   rw[h7 _ h6]at hb;cases hb
 ·
  obtain⟨t,ht⟩:=get i hn
  obtain⟨h1,h2,h3,h4⟩:=hs' i t ht
  simp only[aW,ht]at hp
  simp only[Fam.W,aW,ht]at hk
  rw[h4]at hp
  simp only[rdN]at hp
  exact Il h1 h2 hp hk
 ·obtain⟨t,ht⟩:=get i hn
  obtain⟨h1,h2,_,h4⟩:=hs' i t ht
  simp only[aW,ht]at hk ⊢
  rw[h4]at hk
  simp only[chk,x0a,x0f]at h2
  rcases x0n.1 hk with h5|h5
  ·have:=h2.1.1.1 k h5
   intro e
   simp only[aW]at this
   rw[e]at this
   simp[gm]at this
  ·have:=h2.1.1.2 k h5
   intro e
   simp only[aW]at this
   rw[e]at this
   simp[isB]at this
 ·obtain⟨t,ht⟩:=get i (Nat.lt_trans hij hn)
  obtain⟨u,hu⟩:=get j hn
  simp only[lm,x0f]at hi
  have h1:=hi ((iF t.2.2,wrK (fd t.1 t.2.1) (gb t.2.1)),i) (List.mem_zipIdx_iff_getElem?.2 (by simp[ht])) ((iF u.2.2,wrK (fd u.1 u.2.1) (gb u.2.1)),j) (List.mem_zipIdx_iff_getElem?.2 (by simp[hu]))
  simp only[x0u,x0t,x0x,x0a]at h1
  rcases h1 with (h1|h1)|h1
  ·exact absurd hij h1
  ·exact .inl h1
  ·right
   simp only[wj,x0f,x0a,x0t]at h1
   have nm:∀{l:List Nat} {k:Nat},l.contains k=false->k∉l:=fun h hm=>by
    have:=x0R.2 hm
    rw[h]at this;cases this
   have one:∀(a b:im) (x y:Nat),ts[x]? = some a->ts[y]? = some b->(∀k∈wrK (fd a.1 a.2.1) (gb a.2.1),((iF b.2.2).contains k=false/\(wrK (fd b.1 b.2.1) (gb b.2.1)).contains k=false)/\∀q∈iF b.2.2,(!(decide (q%4=2)&&decide (k=4*(q/256)))||BY q (iF a.2.2))=true)->(aW hs ts f).Apart x y:=by
    intro a b x y ha hb hab
    refine⟨fun k hk=>?_,fun k hk hm=>?_⟩
    ·have hk0:=hk
     simp only[Fam.W,aW,ha]at hk
     obtain⟨p,hp,rfl⟩:=x0w.1 hk
     obtain⟨⟨h2,h3⟩,h4⟩:=hab (4*p.1) (x0n.2 (.inl (x0w.2 ⟨p,hp,rfl⟩)))
     refine⟨fun hr=>nm h2 (e1 (by simp only[aW,hb]at hr;exact hr)),fun hw=>nm h3 (x0n.2 (.inl ?_)),fun m hm=>?_⟩
     ·simp only[Fam.W,aW,hb]at hw
      obtain⟨q,hq,e⟩:=x0w.1 hw
      exact x0w.2 ⟨q,hq,by rw[e]⟩
     ·simp only[aW,hb]at hm
      have h5:=h4 _ (e3 hm)
      have h6:(4*(64*p.1+m%64)+2)%4=2:=by omega
      have h7:(4*(64*p.1+m%64)+2)/256=p.1:=by omega
      have h8:(4*(64*p.1+m%64)+2)/4%64=m%64:=by omega
      simp only[h6,h7,decide_true,Bool.and_self,Bool.not_true,Bool.false_or,BY,h8,x1e,x0a,x0b,x0t,x0x]at h5
      obtain⟨z,hz,⟨hz3,hzc⟩,hzo⟩:=h5
      obtain⟨g1,g2,_,g4⟩:=hs' x a ha
      rcases e4 hz with ⟨_,_,h9⟩|⟨_,_,h9⟩|⟨_,_,h9⟩|⟨p',hp',h9⟩
      ·omega
      ·omega
      ·omega
      ·have e5:p'.1=p.1:=by omega
       have e6:p'.2%64≠m%64:=fun e=>hzo (by omega)
       rw[g4]at hp'
       simp only[rdN]at hp'
       have:=Ik g1 g2 hp' (m:=m) (fun e=>e6 (by rw[e]))
       unfold Fam.Pres
       rw[lS]
       unfold Fam.E
       simp only[aW,ha]at this ⊢
       rw[e5]at this
       exact this
    ·simp only[aW,ha]at hk
     obtain⟨⟨h2,_⟩,_⟩:=hab (4*k.1+1) (x0n.2 (.inr (x0w.2 ⟨k,hk,rfl⟩)))
     refine nm h2 (e2 ?_)
     simp only[aW,hb]at hm;exact hm
   exact⟨one t u i j ht hu h1.1,one u t j i hu ht h1.2⟩
end
def uH(ops:Array Oper)(H:Array Nat)(j:Nat):Nat:=match ops[j]? with
 | some o=>o.after.toList.foldl (fun s e=>if Region.binds .any e then s ||| 2^e.on ||| H.getD e.on 0 else s) 0
 | none=>0
def xY(ops:Array Oper)(j:Nat):Bool:=match ops[j]? with
 | some o=>o.after.toList.all fun e=>!Region.binds .any e||decide (e.on<j)
 | none=>true
theorem pH(H:Array Nat)(i:Nat):∀(l:List Edge) (s:Nat),(l.foldl (fun s e=>if Region.binds .any e then s ||| 2^e.on ||| H.getD e.on 0 else s) s).testBit i=true ->
  s.testBit i=true\/∃e∈l,Region.binds .any e=true/\(i=e.on\/(H.getD e.on 0).testBit i=true)
 | [],s,h=>.inl h
 | e::l,s,h=>by
  simp only[List.foldl_cons]at h
  rcases pH H i l _ h with h1|⟨e',h1,h2⟩
  ·split at h1
   ·rename_i hb
    simp only[Nat.testBit_or,x0u,Nat.testBit_two_pow,x0b]at h1
    rcases h1 with (h1|h1)|h1
    ·exact .inl h1
    ·exact .inr ⟨e,by simp,hb,.inl h1.symm⟩
    ·exact .inr ⟨e,by simp,hb,.inr h1⟩
   ·exact .inl h1
  ·exact .inr ⟨e',by simp[h1],h2⟩
theorem GN{ops:Array Oper}{H:Array Nat}{j i:Nat}(h:(uH ops H j).testBit i=true):∃o,ops[j]? = some o/\∃e∈o.after.toList,Region.binds .any e=true/\(i=e.on\/(H.getD e.on 0).testBit i=true):=by
 unfold uH at h
 split at h
 ·rename_i o ho
  rcases pH H i _ 0 h with h1|h1
  ·simp at h1
  ·exact⟨o,ho,h1⟩
 ·simp at h
def wx(hs:List Nat)(ops:Array Oper):Bool:=(List.range ops.size).all fun j=>hs.getD j 0==uH ops hs.toArray j&&xY ops j
def left(n:Nat)(l:Nat->Bool):Nat:=((List.range n).filter fun i=>!l i).length
theorem rL{p q:Nat->Bool}{j:Nat}(hpq:∀i,q i=true->p i=true)(hp:p j=true)(hq:q j=false):∀(l:List Nat),j∈l->(l.filter q).length<(l.filter p).length
 | [],h=>by simp at h
 | i::l,h=>by
  have hle:(l.filter q).length<=(l.filter p).length:=by
   clear h
   induction l with
   | nil=>simp
   | cons x l ih =>
    simp only[List.filter_cons]
    cases hqx:q x with
    | true=>simp[hpq x hqx,ih]
    | false=>cases p x<;>simp<;>omega
  by_cases hij:i=j
  ·subst hij
   simp[hp,hq]
   omega
  ·have:=rL hpq hp hq l (by simpa[Ne.symm hij]using h)
   simp only[List.filter_cons]
   cases hqx:q i with
   | true=>simp[hpq i hqx,this]
   | false=>cases p i<;>simp<;>omega
section
variable{P:Program}{F:Fid}{C:Nat->List D->D->List D->Prop}{nt:Nat}{S:Nat->Prop}{L:Ln}{w0:World}{M0:Mem}{f:Nat->D}{M:Mem}{a:Act}{w:World}{Q:Exit->Act->World->Prop}
def lst(listed:Array Bool):Nat->Bool:=fun i=>listed.getD i true
theorem lF{ops:Array Oper}{listed:Array Bool}{i:Nat}:i∈Region.ready .any ops listed↔i<ops.size/\lst listed i=false/\∃o,ops[i]? = some o/\∀e∈o.after,Region.binds .any e=true->listed.getD e.on false=true:=by
 simp only[Region.ready,x1n,x0M,x0a,x0t,lst]
 constructor
 ·rintro⟨h1,h2,h3⟩
  refine⟨h1,h2,ops[i],x1c h1,fun e he hb=>?_⟩
  rw[x1c h1]at h3
  simp only[x1m,x1p,Array.all_eq_true_iff_forall_mem,x0u,x0t]at h3
  rcases h3 e he with h4|h4
  ·rw[hb]at h4;cases h4
  ·exact h4
 ·rintro⟨h1,h2,o,h3,h4⟩
  refine⟨h1,h2,?_⟩
  rw[h3]
  simp only[x1m,x1p,Array.all_eq_true_iff_forall_mem,x0u,x0t]
  intro e he
  cases hb:Region.binds .any e with
  | false=>exact .inl rfl
  | true=>exact .inr (h4 e he hb)
theorem CV(hs:List Nat)(j:Nat):hs.toArray.getD j 0=hs.getD j 0:=by
 simp[x1z,List.getD_eq_getElem?_getD]
theorem AO{f g:Nat->D}{n:au}{dst:Option Nat}{K:List (Nat×D)->List (Nat×Bool)->Prop}(hv:∀x∈ai n.op,vd g x=vd f x)(hr:∀b∈rdR f n,g b=f b)(hc:∀p∈frR f n,ik p.2 (g p.1)=ik p.2 (f p.1))(h:aG C f dst K n.op):aG C g dst K n.op:=by
 obtain⟨d0,o,g0⟩:=n
 simp only at hv h ⊢
 have full:(∀x∈ai o,x∈IZ o)->aG C g dst K o:=fun hN=>xt hv (fun x hx b hb=>hr b (x0n.2 (.inl (List.mem_flatMap.2 ⟨x,hN x hx,lG hb⟩)))) h
 cases o with
 | mov x=>simp only[aG,res,hv x (by simp[ai])]at h ⊢;exact h
 | nck x=>simp only[aG,res,hv x (by simp[ai])]at h ⊢;exact h
 | un op x=>simp only[aG,res,hv x (by simp[ai])]at h ⊢;exact h
 | conv k x=>simp only[aG,res,hv x (by simp[ai])]at h ⊢;exact h
 | ext i x=>simp only[aG,res,hv x (by simp[ai])]at h ⊢;exact h
 | fad i x=>simp only[aG,res,hv x (by simp[ai])]at h ⊢;exact h
 | boxF x=>simp only[aG,res,hv x (by simp[ai])]at h ⊢;exact h
 | blsF sz len zs ps =>
  have e:∀p∈ps,vd g p.2=vd f p.2:=fun p hp=>hv _ (x0w.2 ⟨p,hp,rfl⟩)
  simp only[aG,res]at h ⊢
  rw[jQ e]
  exact⟨fun p hp=>by rw[e p hp];exact h.1 p hp,h.2⟩
 | len x=>simp only[aG,res,hv x (by simp[ai])]at h ⊢;exact h
 | pick c x y=>simp only[aG,res,hv c (by simp[ai]),hv x (by simp[ai]),hv y (by simp[ai])]at h ⊢;exact h
 | bin op x y=>simp only[aG,res,hv x (by simp[ai]),hv y (by simp[ai])]at h ⊢;exact h
 | iadA l s x i=>simp only[aG,res,hv x (by simp[ai]),hv i (by simp[ai])]at h ⊢;exact h
 | bld zs ps =>
  have e:∀p∈ps,vd g p.2.2=vd f p.2.2:=fun p hp=>hv _ (x0w.2 ⟨p,hp,rfl⟩)
  simp only[aG,res]at h ⊢
  obtain⟨h1,h2,h3⟩:=h
  have e2:(ps.all fun p=>isV (vd g p.2.2))=(ps.all fun p=>isV (vd f p.2.2)):=by
   rw[x0J,x0f,x0f]
   exact⟨fun h p hp=>by rw[<- e p hp];exact h p hp,fun h p hp=>by rw[e p hp];exact h p hp⟩
  have m1:(ps.map fun p=>(p.1,p.2.1,vd g p.2.2))=ps.map fun p=>(p.1,p.2.1,vd f p.2.2):=x0j fun p hp=>by rw[e p hp]
  have m2:(ps.map fun p=>(p.1,p.2.1,fw (vd g p.2.2)))=ps.map fun p=>(p.1,p.2.1,fw (vd f p.2.2)):=x0j fun p hp=>by rw[e p hp]
  rw[e2,m1,m2]
  exact⟨fun p hp=>by rw[e p hp];exact h1 p hp,h2,h3⟩
 | mk k xs =>
  have e:∀x∈xs,vd g x=vd f x:=fun x hx=>hv x hx
  simp only[aG,res]at h ⊢
  obtain⟨h1,h2,h3⟩:=h
  have e2:(xs.all fun x=>isV (vd g x))=(xs.all fun x=>isV (vd f x)):=by
   rw[x0J,x0f,x0f]
   exact⟨fun h p hp=>by rw[<- e p hp];exact h p hp,fun h p hp=>by rw[e p hp];exact h p hp⟩
  rw[e2,x0j e]
  exact⟨fun p hp=>by rw[e p hp];exact h1 p hp,h2,h3⟩
 | ldQ q x =>
  have e:=hv x (by simp[ai])
  simp only[aG,e]at h ⊢
  split at h
  ·rename_i c i off ex
   obtain⟨rfl,h⟩:=h
   split at h
   ·rename_i sz es hf
    obtain⟨r,h1,d,h2,h3⟩:=h
    have h4:=hc (c,off) (by simp[frR,ex])
    simp only[hf,ik]at h4
    refine⟨rfl,?_⟩
    split at h4
    ·rename_i sz' es' hg
     simp only[x0s]at h4
     have h5:=congrArg (fun l=>l[i]?) h4
     simp only[x0z,h1,x1m]at h5
     rw[x0p]at h5
     obtain⟨r',h6,h7⟩:=h5
     simp only[hg]
     exact⟨r',h6,d,by rw[h7];exact h2,h3⟩
    ·cases h4
   ·exact h.elim
  ·exact h.elim
 | ld n ag x =>
  have e:=hv x (by simp[ai])
  simp only[aG,res,e]at h ⊢
  split at h
  ·rename_i p i off ex
   rw[dM (p:=p) (hr _ (x0n.2 (.inr (List.mem_flatMap.2 ⟨x,by simp[ldN],by rw[ex];simp[bE]⟩))))]
   exact h
  ·exact h
  ·exact h
  ·exact h
 | _=>exact full (fun x hx=>hx)
theorem zA(hC:bQ P F C)(hL:NoL L){hs:List Nat}{ops:Array Oper}{ts:List im}{f':Nat->D}(htr:Tr C ts f f')(hok:(aW hs ts f).Ok)(hlen:ts.length=ops.size)(hb:∀j,j<ops.size->hs.getD j 0=uH ops hs.toArray j)(hed:∀(j:Nat) (o:Oper),ops[j]? = some o->∀e∈o.after,Region.binds .any e=true->e.on<j)
  (hk:∀(j:Nat) (t:im) (o:Oper),ts[j]? = some t->ops[j]? = some o->rZ P F nt ops t.1 o=true)
  (hQ:∀M a w,SR F nt S L w0 M0 f' M a w->Q .normal a w):∀(fuel:Nat) (listed:Array Bool) (M:Mem) (a:Act) (w:World),listed.size=ops.size->left ops.size (lst listed)<=fuel ->
   (∀j,j<ops.size->lst listed j=true->∀i,(hs.getD j 0).testBit i=true->i<ops.size/\lst listed i=true)->SR F nt S L w0 M0 ((aW hs ts f).G (lst listed) ts.length) M a w->wpAny P .any ops Q fuel listed a w:=by
 obtain⟨hf',hsp⟩:=tY hs ts f f' htr
 have hall:∀(listed:Array Bool),(∀i,i<ops.size->lst listed i=true)->(aW hs ts f).G (lst listed) ts.length=f':=by
  intro listed h
  rw[hf']
  unfold Fam.St
  have:∀m,m<=ts.length->(aW hs ts f).G (lst listed) m=(aW hs ts f).G (fun _=>true) m:=by
   intro m
   induction m with
   | zero=>intro _;rfl
   | succ m ih =>
    intro hm
    simp only[Fam.G]
    rw[h m (by omega),ih (by omega)]
    rfl
  exact this _ (x0k _)
 intro fuel
 induction fuel with
 | zero =>
  intro listed M a w hs' hf hcl h
  have hal:∀i,i<ops.size->lst listed i=true:=by
   intro i hi
   cases hl:lst listed i with
   | true=>rfl
   | false =>
    have:i∈(List.range ops.size).filter fun i=>!lst listed i:=by simp[hi,hl]
    have:=List.length_pos_of_mem this
    unfold left at hf
    omega
  refine⟨?_,hQ M a w (by rw[<- hall listed hal];exact h)⟩
  rw[List.eq_nil_iff_forall_not_mem]
  intro i hi
  obtain⟨h1,h2,_⟩:=lF.1 hi
  rw[hal i h1]at h2
  cases h2
 | succ fuel ih =>
  intro listed M a w hs' hf hcl h
  refine⟨fun hr=>hQ M a w ?_,fun j hj=>?_⟩
  ·have hal:∀i,i<ops.size->lst listed i=true:=by
    intro i
    induction i using Nat.strongRecOn with
    | _ i ihi =>
     intro hi
     cases hl:lst listed i with
     | true=>rfl
     | false =>
      have:i∈Region.ready .any ops listed:=lF.2 ⟨hi,hl,ops[i],x1c hi,fun e he hb=>by
       have h1:=hed i _ (x1c hi) e he hb
       have h2:=ihi e.on h1 (by omega)
       unfold lst at h2
       rw[x1z]at h2 ⊢
       rw[x1c (by omega)]at h2 ⊢
       simpa using h2⟩
      rw[hr]at this
      cases this
   rw[<- hall listed hal]
   exact h
  ·obtain⟨h1,h2,o,h3,h4⟩:=lF.1 hj
   obtain⟨t,ht⟩:∃t,ts[j]? = some t:=⟨ts[j]'(by omega),x0e (by omega)⟩
   have hanc:∀i,(hs.getD j 0).testBit i=true->i<ops.size/\lst listed i=true:=by
    intro i hi
    rw[hb j h1]at hi
    obtain⟨o',ho',e,he,hbd,h5⟩:=GN hi
    rw[h3]at ho'
    cases ho'
    have h6:=hed j o h3 e (by simpa using he) hbd
    have h7:=h4 e (by simpa using he) hbd
    have h8:lst listed e.on=true:=by
     unfold lst
     rw[x1z]at h7 ⊢
     rw[x1c (by omega)]at h7 ⊢
     simpa using h7
    rcases h5 with rfl|h5
    ·exact⟨by omega,h8⟩
    ·rw[CV]at h5
     exact hcl e.on (by omega) h8 i h5
   have hshut:BD (aW hs ts f) (lst listed):=fun j' hj' hl' i _ hbf=>(hcl j' (by simpa[aW,hlen]using hj') hl' i hbf).2
   have hjn:j<(aW hs ts f).n:=by simp only[aW];omega
   have hreads:=hok.reads hshut hjn h2 (fun i _ hbf=>(hanc i hbf).2)
   have hcols:=hok.readsC hshut hjn h2 (fun i _ hbf=>(hanc i hbf).2)
   obtain⟨g1,g2,g3,g4⟩:=hsp j t ht
   have hrd:(aW hs ts f).rd j=t.2.2.1:=by simp[aW,ht]
   have hn:(aW hs ts f).n=ts.length:=rfl
   rw[hrd,hn,g4]at hreads
   have hfr:(aW hs ts f).fr j=frR ((aW hs ts f).St j) t.1:=by
    have:(aW hs ts f).fr j=t.2.2.2.2.1:=by simp[aW,ht]
    rw[this,g4];rfl
   rw[hfr,hn]at hcols
   have hstep:jE C t.1 ((aW hs ts f).G (lst listed) ts.length) t.2.1:=by
    have hv:∀x∈ai t.1.op,vd ((aW hs ts f).G (lst listed) ts.length) x=vd ((aW hs ts f).St j) x:=fun x hx=>by
     cases x with
     | t s=>exact hreads s (x0n.2 (.inl (x0n.2 (.inl (List.mem_flatMap.2 ⟨_,hx,by simp[jY]⟩)))))
     | c d=>rfl
    have ha:∀b∈rdR ((aW hs ts f).St j) t.1,(aW hs ts f).G (lst listed) ts.length b=(aW hs ts f).St j b:=fun b hb=>hreads b (x0n.2 (.inr hb))
    have hg:∀s b,t.1.guard=some (s,b)->(aW hs ts f).G (lst listed) ts.length s=(aW hs ts f).St j s:=fun s b e =>
     hreads s (x0n.2 (.inl (x0n.2 (.inr (by rw[e];simp[uX])))))
    unfold jE at g1 ⊢
    split at g1
    ·exact⟨fun s b e=>by rw[hg s b e];exact g1.1 s b e,AO hv ha hcols g1.2⟩
    ·obtain⟨s,b,e1,e2⟩:=g1
     exact⟨s,b,e1,by rw[hg s b e1];exact e2⟩
   have hlst:∀i,lst (listed.setIfInBounds j true) i=(if i=j then true else lst listed i):=by
    intro i
    unfold lst
    rw[x1z,x1z,x1l]
    by_cases hij:i=j
    ·subst hij;simp[show i<listed.size from by omega]
    ·simp[hij,Ne.symm hij]
   have hlst':∀i,i≠j->lst (listed.setIfInBounds j true) i=lst listed i:=fun i hi=>by rw[hlst,if_neg hi]
   have hlstj:lst (listed.setIfInBounds j true) j=true:=by rw[hlst,if_pos rfl]
   have hmore:(aW hs ts f).G (lst (listed.setIfInBounds j true)) ts.length=qY t.1 t.2.1 ((aW hs ts f).G (lst listed) ts.length):=by
    rw[E4]
    have:=hok.more hshut hjn h2 hlstj hlst'
    rw[hn]at this
    rw[this]
    simp[Fam.E,aW,ht]
   have hfin:∀M' a' w',SR F nt S L w0 M0 (qY t.1 t.2.1 ((aW hs ts f).G (lst listed) ts.length)) M' a' w'->wpAny P .any ops Q fuel (listed.setIfInBounds j true) a' w':=by
    intro M' a' w' h'
    refine ih _ M' a' w' (by simpa using hs') ?_ (fun j' hj' hl' i hi=>?_) (by rw[hmore];exact h')
    ·have:left ops.size (lst (listed.setIfInBounds j true))<left ops.size (lst listed):=by
      refine rL (j:=j) (fun i hi=>?_) (by simp[h2]) (by simp[hlstj]) _ (by simpa using h1)
      by_cases hij:i=j
      ·subst hij;simp[h2]
      ·rw[hlst' i hij]at hi;exact hi
     omega
    ·by_cases hjj:j'=j
     ·subst hjj
      obtain⟨q1,q2⟩:=hanc i hi
      refine⟨q1,?_⟩
      rw[hlst];split
      ·rfl
      ·exact q2
     ·rw[hlst' j' hjj]at hl'
      obtain⟨q1,q2⟩:=hcl j' hj' hl' i hi
      refine⟨q1,?_⟩
      rw[hlst];split
      ·rfl
      ·exact q2
   have:=HC hC hL (hk j t o ht h3) h hstep (R:=wpAny P .any ops Q fuel (listed.setIfInBounds j true)) hfin (Q:=Q)
   unfold wpOp
   rw[h3]
   exact this
theorem vD(hC:bQ P F C)(hL:NoL L)(hm:P.follows .mixedOrders=true){hs:List Nat}{ops:Array Oper}{ns:List au}(hk:oE P F nt ns ops=true)(hdr:wx hs ops=true){id:Nat}{K:Env->Prop}{e:Env}(h:SR F nt S L w0 M0 (ac e) M a w)(hr:jB C hs K ns e [])
  (hQ:∀e M a w,SR F nt S L w0 M0 (ac e) M a w->K e->Q .normal a w):(Code.region id ops true).wp P Q a w:=by
 simp only[oE,x0a,x0r,x0f]at hk
 obtain⟨ts,e',g1,g2,g3,g4⟩:=HF ns e [] hr
 have hlen:ts.length=ops.size:=by
  have:ts.length=ns.length:=by rw[<- g1];simp
  rw[this];simpa using hk.1
 have hok:=Ih g2 (by simpa using g3)
 simp only[wx,x0f,x0M,x0a,x0r]at hdr
 refine wp_region_any hm (zA hC hL (hs:=hs) g2 hok hlen (fun j hj=>(hdr j hj).1) (fun j o ho e he hb=>?_) (fun j t o ht ho=>?_) (fun M a w hs=>hQ e' M a w hs g4) _ _ M a _ (by simp) ?_ ?_ ?_)
 ·obtain⟨hj,_⟩:=x1O.1 ho
  have:=(hdr j hj).2
  simp only[xY,ho,x0f,x0u,x0t,x0b]at this
  rcases this e (by simpa using he)with h5|h5
  ·rw[hb]at h5;cases h5
  ·exact h5
 ·refine hk.2 (t.1,o) ?_
  rw[x1i]
  refine⟨j,?_⟩
  rw[x1D]
  refine⟨?_,by simpa using ho⟩
  rw[<- g1]
  simp[ht]
 ·have:=x08 (fun i=>!lst (Array.replicate ops.size false) i) (List.range ops.size)
  simpa[left]using this
 ·intro j hj hl
  simp[lst,hj]at hl
 ·have h0:∀m,m<=ts.length->(aW hs ts (ac e)).G (lst (Array.replicate ops.size false)) m=ac e:=by
   intro m
   induction m with
   | zero=>intro _;rfl
   | succ m ih =>
    intro hm
    simp only[Fam.G]
    rw[ih (by omega)]
    have:lst (Array.replicate ops.size false) m=false:=by simp[lst,show m<ops.size from by omega]
    rw[this];rfl
  rw[h0 _ (x0k _)]
  exact h.grow (Bel.drew _)
end
end Go.Gv
