/-
  Texts of the proof: GvF7, GvF8, GvF9, GvF10, GvF11, GvF12, GvF13, GvF14, GvF15, GvF16, GvF17, GvF18, GvG, GvH, GvI0.
-/
import Derived.Test.YtjlibcgkjgglkaaGreatDoorX2
set_option linter.all false
namespace Go.Gv
section
variable{P:Program}{F:Fid}{C:Nat->List D->D->List D->Prop}{nt:Nat}{S:Nat->Prop}{L:Ln}{w0:World}{M0:Mem}{f:Nat->D}{M:Mem}{a:Act}{w:World}{o:Oper}{d:D}{Q:Exit->Act->World->Prop}{ρ:Pa->Loc}{ω:Nat->Option Pa}{New:Nat->Prop}{K:List (Nat×D)->List (Nat×Bool)->Prop}
def cG(ω:Nat->Option Pa)(c:Nat):Nat->Option Pa:=fun k=>match ω k with
 | some p=>if p.root=c then some p else none
 | none=>none
theorem cM{c k:Nat}{p:Pa}(h:cG ω c k=some p):ω k=some p/\p.root=c:=by
 unfold cG at h
 split at h
 ·rename_i q hq
  split at h
  ·cases h
   exact⟨hq,by assumption⟩
  ·cases h
 ·cases h
theorem nT{c k:Nat}{p:Pa}(h:ω k=some p)(hp:p.root=c):cG ω c k=some p:=by
 simp only[cG,h,if_pos hp]
def fcE(f:Nat->D)(c:Nat):Nat->D:=fun t=>if t=c then f t else .any
theorem Own.only(h:Own F L New f M a w ρ ω){c:Nat}(hc:10000<=c):Own F L New (fcE f c) M a w ρ (cG ω c):=by
 have hne:∀{t:Nat},t≠c->fcE f c t=.any:=fun{t} ht=>by simp only[fcE,if_neg ht]
 have hcc:fcE f c c=f c:=by simp[fcE]
 refine h.step (ks:=[]) (fun p hp=>absurd rfl hp) (Mem.le_refl _) (x0k _) (fun t ht=>.inl (.inl (hne (by omega)))) (fun b hb=>?_) (fun k p e=>.inl ⟨p,(cM e).1⟩) (fun p q e=>h.apart p q (cM e).1) (fun b l hb hl hB=>?_)
 ·by_cases e:b=c
  ·subst e
   exact .inl (.inr ⟨hcc,fun p hp=>⟨rfl,fun hw=>⟨nT hw hp,rfl⟩⟩⟩)
  ·exact .inl (.inl (by rw[hne e];rfl))
 ·by_cases e:b=c
  ·subst e
   rw[hcc]at hB
   exact⟨rfl,hB⟩
  ·rw[hne e]at hB;cases hB
theorem vL{c:Nat}(_:Nat):aQ (fcE f c) (.r c)=aQ f (.r c):=by simp[aQ,fcE]
theorem SR.frz(h:SR F nt S L w0 M0 f M a w){t:Nat}(ht:t<nt){c k n:Nat}(hc:10000<=c){v:Value}(hv:∀ρ ω,Own F L (fun k=>S k\/w0.heap.size<=k) f M a w ρ ω->au F M ρ (.ref (.r c) k n) v)(hk:bu f (.ref (.r c) k n)) :
  ∃M',SR F nt S L w0 M0 (eff [(t,dp1 f (.ref (.r c) k n)),(c,.any)] [] f) M' (a.put (some t) v) w:=by
 obtain⟨ρ,ω,hO⟩:=h.own
 have hnt:=h.hnt
 have hsz:=h.size
 have hO1:=hO.only hc
 have e1:aQ (fcE f c) (.r c)=aQ f (.r c):=vL 0
 have hk1:bu (fcE f c) (.ref (.r c) k n):=by simp only[bu,e1]at hk ⊢;exact hk
 have ed:dp1 (fcE f c) (.ref (.r c) k n)=dp1 f (.ref (.r c) k n):=by simp only[dp1,e1]
 have hr:=j8 hO1 (hv ρ ω hO) hk1
 rw[ed]at hr
 have hle:M.le (aT (cG ω c) M w):=cc hO1
 have hE:=hO.erase hc
 have hpure:isX (dp1 f (.ref (.r c) k n))=false/\isB (dp1 f (.ref (.r c) k n))=false/\∀ρ',au F (aT (cG ω c) M w) ρ' (dp1 f (.ref (.r c) k n)) v:=by
  simp only[dp1]at hr ⊢
  split
  ·rename_i e
   rw[e]at hr
   exact⟨rfl,rfl,fun _=>hr⟩
  ·rename_i e
   rw[e]at hr
   exact⟨rfl,rfl,fun _=>hr⟩
 generalize dp1 f (.ref (.r c) k n)=x at *
 have hf':∀s,eff [(t,x),(c,.any)] [] f s=if s=t then x else fbE f c s:=fun s=>by
  unfold eff fbE
  by_cases e:s=t
  ·subst e;simp
  ·have b1:(s==t)=false:=by simpa using e
   by_cases e2:s=c
   ·subst e2
    simp only[List.lookup,b1,beq_self_eq_true,if_neg e,if_true]
   ·have b2:(s==c)=false:=by simpa using e2
    simp only[List.lookup,b1,b2,if_neg e,if_neg e2]
    simp[aG]
 refine⟨aT (cG ω c) M w,⟨hnt,by simp[Act.put,hsz],by simp[Act.put,h.defers],h.ch,a8 h.holds,Mem.le_trans h.ext hle,fun p h1 h2=>?_,ρ,dJ ω c,?_⟩⟩
 ·by_cases e:M p=none
  ·unfold aT at h2
   split at h2
   ·rename_i q hq
    exact hO.new _ _ (cM hq).1
   ·exact absurd e h2
  ·exact h.fresh p h1 e
 ·refine hE.step (ks:=[]) (fun p hp=>absurd rfl hp) hle (x0k _) (fun s hs=>?_) (fun b hb=>?_) (fun k p e=>.inl ⟨p,e⟩) (fun p q e=>?_) (fun b l hb hl hB=>?_)
  ·rw[hf']
   by_cases e:s=t
   ·subst e
    rw[if_pos rfl]
    refine .inr (.inr ⟨v,by simp[Act.put,hsz,ht],?_⟩)
    rw[hf',if_pos rfl,ar hpure.1]
    exact hpure.2.2 ρ
   ·rw[if_neg e]
    refine .inl (.inr ⟨rfl,?_,by simp[aG]⟩)
    simp[Act.put,x01,Ne.symm e]
  ·have:b≠t:=by omega
   rw[hf',if_neg this]
   exact .inl (.inr ⟨rfl,fun p hp=>⟨rfl,fun hw=>⟨hw,rfl⟩⟩⟩)
  ·obtain⟨e2,e3⟩:=dy e
   have e4:cG ω c p.block=none:=by
    simp only[cG,e2,if_neg e3]
   simp only[aT,e4]
   exact hO.apart p q e2
  ·have:b≠t:=by omega
   rw[hf',if_neg this]at hB
   exact⟨rfl,hB⟩
theorem u6(h:SR F nt S L w0 M0 f M a w){t:Nat}(hd:o.dst=some t)(ht:t<nt){x:Opd}{x':Operand}(ho:o.op=.move x'\/o.op=.assign x')(hx:am F x x'=true)
  (hr:match vd f x with
   | .ref (.r c) k n=>bu f (.ref (.r c) k n)/\K [(t,dp1 f (.ref (.r c) k n)),(c,.any)] []
   | d=>isS d=true/\K [(t,d)] []):o.wp P a w (PostX F nt S L w0 M0 f K) Q:=by
 have hrun:(execOp a.eval o).run P w=.ok (.value (a.eval x')) w:=by rcases ho with ho|ho<;>simp[execOp,ho]
 split at hr
 ·rename_i c k n ex
  have hc:10000<=c:=by
   obtain⟨ρ,ω,hO⟩:=h.own
   have h1:=hr.1
   simp only[bu]at h1
   split at h1
   ·rename_i e;exact co hO e
   ·exact h1.elim
  obtain⟨M',hs⟩:=h.frz ht hc (v:=a.eval x') (fun ρ ω hO=>by have:=hO.opd hx;rwa[ex,ar rfl]at this) hr.1
  exact fc hrun (by rw[hd];exact⟨_,_,M',hr.2,hs⟩)
 ·exact postX_val hd hrun hr.2 (h.put ht (fun ρ ω hO=>hO.opd hx))
end
end Go.Gv

namespace Go.Gv
section
variable{P:Program}{F:Fid}{C:Nat->List D->D->List D->Prop}{nt:Nat}{S:Nat->Prop}{L:Ln}{w0:World}{M0:Mem}{f:Nat->D}{M:Mem}{a:Act}{w:World}{o:Oper}{d:D}{Q:Exit->Act->World->Prop}{ρ:Pa->Loc}{ω:Nat->Option Pa}{New:Nat->Prop}{K:List (Nat×D)->List (Nat×Bool)->Prop}
theorem wn(hC:bC P F C)(h:SR F nt S L w0 M0 f M a w)(hp:bM nt f o.dst){g fi:Nat}{xs:List Opd}{ys:Array Operand}{ts:Array TypeId}(ho:o.op=.call { callee:=.value (.func fi),args:=ys,argTypes:=ts })(hx:bK F xs ys.toList=true)
  (hg:F g=some fi) (hr:(∀x∈xs,bS f (vd f x))/\∃d,C g (xs.map (dpv f)) d [.nilp]/\df o.dst K d):o.wp P a w (PostX F nt S L w0 M0 f K) Q:=by
 obtain⟨h0,d,h1,hK⟩:=hr
 have hrun:(execOp a.eval o).run P w=(callFunc fi (ys.toList.map a.eval).toArray).run P w:=by
  simp only[execOp,ho,resolve,Act.eval,Deferred.ofValue,Sem.run_bind,Sem.run_pure,Result.andThen_ok,invoke]
  congr 2
  rw[x1q,x09]
  apply Array.ext'
  simp
 obtain⟨ρ,ω,hO⟩:=h.own
 unfold Oper.wp
 rw[hrun,bI (hC.body g fi hg),Oper.upon_enter]
 refine(hC.runsG g fi _ d hg h1 (aT ω M w) w _ (a8 h.holds) (jv hO hx h0)).mono ?_
 rintro e w' ⟨v,M2,rfl,hb,hf,hh,rv⟩
 have hnone:∀p,w.heap.size<=p.block->M p=none:=fun p hp=>by
  cases e:M p with
  | none=>rfl
  | some u =>
   have:=World.block_lt_of_cell? w p (h.holds p u e)
   omega
 have hM:M.le (fun p=>match M p with|some v=>some v|none=>M2 p):=fun p u e=>by simp only[e]
 have hM2:M2.le (fun p=>match M p with|some v=>some v|none=>M2 p):=fun p u e=>by
  simp only[hnone p (hf p (by rw[e];simp)),e]
 have h':SR F nt S L w0 M0 f (fun p=>match M p with|some v=>some v|none=>M2 p) a w':=h.world hb hM (fun p e e'=>by
  simp only[e]at e'
  exact hf p e') (fun p u e=>by
  cases e1:M p with
  | none=>simp only[e1]at e;exact hh p u e
  | some u' =>
   simp only[e1]at e
   cases e
   have h1:=h.holds p _ e1
   rw[hb.cell (World.block_lt_of_cell? w p h1)]
   exact h1)
 have rv2:=ae.mono hM2 _ _ rv
 generalize o.dst=t at hp hK ⊢
 cases t with
 | none=>exact⟨[],[],_,hK,by simpa[Act.put,ki]using h'⟩
 | some t=>exact⟨_,_,_,hK,h'.put hp (fun _ _ _=>aY.of_pure rv2)⟩
def kB:D->Prop
 | .any=>True
 | .nils=>True
 | .ref _ _ _=>True
 | .blk _ es=>∀r∈es,∀c∈r,bq c=true
 | d=>bq d=true
theorem vH{d:D}{v:Value}{M':Mem}(hf:kB d)(hn:d≠.any)(hb:isB d=false)(h:aY F M ρ d v):aY F M' ρ d v:=by
 cases d<;>simp only[kB]at hf<;>first|exact h|(simp[bq]at hf;done)|(simp[isB]at hb;done)|(rw[ar rfl]at h ⊢;simp only[au]at h ⊢;exact dz hf h)|exact absurd rfl hn
theorem SR.flat(h:SR F nt S L w0 M0 f M a w)(hf:∀t,kB (f t))(hsl:∀t,t<10000->isB (f t)=false):SR F nt S L w0 (fun _=>none) f (fun _=>none) a w where
 hnt:=h.hnt
 size:=h.size
 defers:=h.defers
 ch:=h.ch
 holds p v e:=by cases e
 ext:=Mem.le_refl _
 fresh p _ e:=absurd rfl e
 own:=by
  obtain⟨ρ,ω,hO⟩:=h.own
  refine⟨ρ,ω,⟨fun t ht=>?_,fun b sz es hb e=>?_,fun b kt et ks vs hb e=>?_,hO.lt,hO.new,fun _ _ _=>rfl,hO.lent⟩⟩
  ·rcases hO.slots t ht with h1|⟨v,h1,h2⟩
   ·exact .inl h1
   ·by_cases e:f t=.any
    ·exact .inl e
    ·exact .inr ⟨v,h1,vH (hf t) e (hsl t ht) h2⟩
  ·have h1:=hO.roots b sz es hb e
   have h2:=hf b
   rw[e]at h2
   simp only[kB]at h2
   unfold cy bV at h1 ⊢
   rcases h1 with h1|⟨h1,h3,vs,T,g1,g2,g3,g4,g5⟩
   ·exact .inl h1
   ·refine .inr ⟨h1,h3,vs,T,g1,g2,g3,g4,fun i r off d e1 e2=>?_⟩
    obtain⟨v,k1,k2⟩:=g5 i r off d e1 e2
    have hf1:=h2 r (x0d e1) d (x0d e2)
    have k3:bX F M ω ρ w b i off d v:=k2
    rw[aU (d4 hf1)]at k3
    refine⟨v,k1,?_⟩
    show bX F (fun _=>none) ω ρ w b i off d v
    rw[aU (d4 hf1)]
    exact dz hf1 k3
  ·have h2:=hf b
   rw[e]at h2
   simp[kB,bq]at h2
end
end Go.Gv

namespace Go.Gv
open Go.RowKit
section
variable{P:Program}{F:Fid}{C:Nat->List D->D->List D->Prop}{nt:Nat}{S:Nat->Prop}{L:Ln}{w0:World}{M0:Mem}{f:Nat->D}{M M':Mem}{a:Act}{w w':World}{o:Oper}{d:D}{Q:Exit->Act->World->Prop}{ρ ρ':Pa->Loc}{ω ω':Nat->Option Pa}{New:Nat->Prop}{K:List (Nat×D)->List (Nat×Bool)->Prop}
def Pa.to(c:Nat):Pa->Pa
 | .r _=>.r c
 | .n _ i o=>.n c i o
theorem Pa.to_root(c:Nat)(p:Pa):(p.to c).root=c:=by cases p<;>rfl
theorem Pa.to_to(b c:Nat)(p:Pa)(h:p.root=b):(p.to c).to b=p:=by cases p<;>simp only[Pa.root]at h<;>subst h<;>rfl
theorem cy.carry{b c sz:Nat}{es:List (List D)}(h:cy F M ω ρ w b sz es)(hM:M.le M')(hs:∀p:Pa,p.root=b->ρ' (p.to c)=ρ p/\(ω (ρ p).blk=some p->ω' (ρ p).blk=some (p.to c)/\w'.heap[(ρ p).blk]? = w.heap[(ρ p).blk]?)):cy F M' ω' ρ' w' c sz es:=by
 have path:∀(p:Pa) (sz:Nat) (es:List (List D)) (R R':Nat->Nat->D->Value->Prop),p.root=b->bV ω ρ w p sz es R->(∀i r off d v,es[i]? = some r->r[off]? = some d->R i off d v->R' i off d v)->bV ω' ρ' w' (p.to c) sz es R':=by
  intro p sz es R R' hp h hR
  obtain⟨e1,e2⟩:=hs p hp
  unfold bV at h ⊢
  rw[e1]
  rcases h with h|⟨h1,h2⟩
  ·exact .inl h
  ·obtain⟨g1,g2⟩:=e2 h1
   exact .inr ⟨g1,h2.frame g2 hR⟩
 unfold cy at h ⊢
 refine path (.r b) sz es _ _ rfl h (fun i r off d v k1 k2 hr=>?_)
 cases d
 case own sz2 es2 =>
  obtain⟨h1,h2⟩:=hr
  refine⟨?_,path (.n b i off) sz2 es2 _ _ rfl h2 (fun _ _ _ d v _ _ hr=>ae.mono hM d v hr)⟩
  have:=(hs (.n b i off) rfl).1
  simp only[au,Pa.to]at h1 this ⊢
  rw[this]
  exact h1
 all_goals exact ae.mono hM _ _ hr
theorem SR.lendX(h:SR F nt S L w0 M0 f M a w)(hO:Own F L (fun k=>S k\/w0.heap.size<=k) f M a w ρ ω){b sz:Nat}{es es':List (List D)}(hf:f b=.blk sz es)(hb:10000<=b)(hω:ω (ρ (.r b)).blk=some (.r b)){ρ1:Pa->Loc}{ω1:Nat->Option Pa}
  (hρ1:∀p:Pa,p.root=b->ρ1 (p.to ap)=ρ p) (hω1:∀k q,ω1 k=some q↔∃p:Pa,ω k=some p/\p.root=b/\q=p.to ap)
  (hch:Ch (fun k=>∃p,ω1 k=some p) w w') (hM:M.le M') (hfr:∀p,M p=none->M' p≠none->(∃q,ω1 p.block=some q)\/w.heap.size<=p.block) (hh:∀p v,M' p=some v->w'.cell? p=some v)
  (hρ':ρ' (.r ap)=ρ1 (.r ap)) (hl:oA F M' w' ρ' ω' ap sz es') (hnew:∀k p,ω' k=some p->(∃q,ω1 k=some q)\/w.heap.size<=k)
  {dst:Option Nat} (ht:∀t,dst=some t->t<nt) {v:Value} (hv:ae F M' d v) :
  ∃ρ2 ω2,(∀p:Pa,p.root=b->ρ2 p=ρ' (p.to ap))/\(∀p:Pa,p.root≠b->ρ2 p=ρ p)/\Own F L (fun k=>S k\/w0.heap.size<=k) (eff (bL dst d++[(b,.blk sz es')]) [(b,false)] f) M' (a.put dst v) w' ρ2 ω2/\SR F nt S L w0 M0 (eff (bL dst d++[(b,.blk sz es')]) [(b,false)] f) M' (a.put dst v) w':=by
 have hS1:∀k q,ω1 k=some q->∃p,ω k=some p/\p.root=b:=fun k q e=>by
  obtain⟨p,h1,h2,_⟩:=(hω1 k q).1 e
  exact⟨p,h1,h2⟩
 have other:∀k p,ω k=some p->p.root≠b->(∀q,ω1 k≠some q)/\ω' k=none/\w'.heap[k]? = w.heap[k]?:=fun k p e hp=>by
  have h1:∀q,ω1 k≠some q:=fun q e1=>by
   obtain⟨p',h1,h2⟩:=hS1 k q e1
   rw[e]at h1;cases h1;exact hp h2
  refine⟨h1,?_,hch.block k (hO.lt _ _ e) (fun⟨q,e1⟩=>h1 q e1)⟩
  cases e2:ω' k with
  | none=>rfl
  | some q =>
   rcases hnew k q e2 with ⟨q,e1⟩|h2
   ·exact absurd e1 (h1 q)
   ·have:=hO.lt _ _ e;omega
 obtain⟨ρ2,hρ2⟩:∃ρ2:Pa->Loc,ρ2=fun p=>if p.root=b then ρ' (p.to ap) else ρ p:=⟨_,rfl⟩
 obtain⟨ω2,hω2⟩:∃ω2:Nat->Option Pa,ω2=fun k=>match ω' k with
  | some q=>some (q.to b)
  | none=>match ω k with
   | some p=>if p.root=b then none else some p
   | none=>none:=⟨_,rfl⟩
 have r1:∀p:Pa,p.root=b->ρ2 p=ρ' (p.to ap):=fun p hp=>by rw[hρ2];simp only[if_pos hp]
 have r2:∀p:Pa,p.root≠b->ρ2 p=ρ p:=fun p hp=>by rw[hρ2];simp only[if_neg hp]
 have o1:∀k q,ω' k=some q->ω2 k=some (q.to b):=fun k q e=>by rw[hω2];simp only[e]
 have o2:∀k p,ω k=some p->p.root≠b->ω2 k=some p:=fun k p e hp=>by rw[hω2];simp only[(other k p e hp).2.1,e,if_neg hp]
 have o3:∀k p,ω2 k=some p->(∃q,ω' k=some q/\p=q.to b)\/(ω k=some p/\p.root≠b):=fun k p e=>by
  rw[hω2]at e
  simp only at e
  cases e1:ω' k with
  | some q=>rw[e1]at e;cases e;exact .inl ⟨q,rfl,rfl⟩
  | none =>
   rw[e1]at e
   simp only at e
   cases e2:ω k with
   | none=>rw[e2]at e;cases e
   | some p' =>
    rw[e2]at e
    simp only at e
    split at e
    ·cases e
    ·cases e;exact .inr ⟨rfl,by assumption⟩
 have hrb:ρ2 (.r b)=ρ (.r b):=by
  rw[r1 (.r b) rfl]
  show ρ' (.r ap)=_
  rw[hρ',<- hρ1 (.r b) rfl]
  rfl
 have hfb:eff (bL dst d++[(b,.blk sz es')]) [(b,false)] f b=.blk sz es':=aE (by
  cases dst with
  | none=>simp[bL]
  | some t =>
   have:(b==t)=false:=by have:=ht t rfl;have:=h.hnt;simp;omega
   simp[bL,x0g,this])
 have lk:∀s,s≠b->dst≠some s->(bL dst d++[(b,D.blk sz es')]).lookup s=none:=fun s h1 h2=>by
  have e1:(s==b)=false:=by simpa using h1
  cases dst with
  | none=>simp only[bL,x03,x0g,e1,x0w]
  | some t =>
   have e2:(s==t)=false:=by simp;rintro rfl;exact h2 rfl
   simp only[bL,x05,x03,x0g,e1,e2,x0w]
 have hsize:(a.put dst v).tmps.size=nt:=by cases dst<;>simp[Act.put,h.size]
 have main:Own F L (fun k=>S k\/w0.heap.size<=k) (eff (bL dst d++[(b,.blk sz es')]) [(b,false)] f) M' (a.put dst v) w' ρ2 ω2->SR F nt S L w0 M0 (eff (bL dst d++[(b,.blk sz es')]) [(b,false)] f) M' (a.put dst v) w':=fun own =>
  ⟨h.hnt,hsize,by cases dst<;>simp[Act.put,h.defers],h.ch.trans hch (fun k hk ⟨q,e⟩=>by
   obtain⟨p,e1,_⟩:=hS1 k q e
   rcases hO.new _ _ e1 with h3|h3
   ·exact h3
   ·omega),hh,Mem.le_trans h.ext hM,fun p h1 h2=>by
   by_cases e:M p=none
   ·rcases hfr p e h2 with ⟨q,e1⟩|h3
    ·obtain⟨p',e2,_⟩:=hS1 _ q e1
     exact hO.new _ _ e2
    ·exact .inr (x1v h.ch.size h3)
   ·exact h.fresh p h1 e,ρ2,ω2,own⟩
 refine⟨ρ2,ω2,r1,r2,(fun x=>⟨x,main x⟩) ?_⟩
 ·refine hO.step (ks:=[(b,false)]) (fun p hp=>?_) hM hch.size (fun s hs=>?_) (fun c hc=>?_) (fun k p e=>?_) (fun p q e=>?_) (fun c l hc hl' hB=>?_)
  ·refine⟨(b,false),by simp,?_⟩
   by_cases e:p.root=b
   ·cases p with
    | r x =>
     simp only[Pa.root]at e
     subst e
     exact absurd hrb hp
    | n x i off =>
     simp only[Pa.root]at e
     subst e
     simp[a7]
   ·exact absurd (r2 p e) hp
  ·by_cases e:dst=some s
   ·right
    have hst:=ht s e
    subst e
    have e1:eff (bL (some s) d++[(b,.blk sz es')]) [(b,false)] f s=d:=aE (by simp[bL])
    refine .inr ⟨v,getElem?_put_same (by rw[h.size];exact hst),?_⟩
    rw[e1]
    exact aY.of_pure hv
   ·left
    rcases bk (f:=f) (ks:=[(b,false)]) (lk s (by omega) e)with h1|h1
    ·exact .inl h1
    ·refine .inr ⟨h1.1,?_,h1.2⟩
     cases dst with
     | none=>rfl
     | some t=>exact getElem?_put (fun x=>e (by rw[x]))
  ·by_cases e:c=b
   ·subst e
    right
    refine .inl ⟨sz,es',hfb,hl.rows.carry (Mem.le_refl _) (fun p hp=>?_)⟩
    have e1:ρ2 (p.to c)=ρ' p:=by rw[r1 _ (Pa.to_root _ _),Pa.to_to ap c p hp]
    exact⟨e1,fun e2=>⟨o1 _ _ e2,rfl⟩⟩
   ·left
    rcases bj (f:=f) (ks:=[(b,false)]) (lk c e (fun x=>by have:=ht c x;have:=h.hnt;omega))with h1|h1
    ·exact .inl h1
    ·refine .inr ⟨h1,fun p hp=>?_⟩
     have hpb:p.root≠b:=by rw[hp];exact e
     exact⟨r2 p hpb,fun hw=>⟨o2 _ _ hw hpb,(other _ _ hw hpb).2.2⟩⟩
  ·rcases o3 k p e with ⟨q,e1,_⟩|⟨e1,_⟩
   ·rcases hnew k q e1 with ⟨q',e2⟩|h2
    ·obtain⟨p',e3,_⟩:=hS1 k q' e2
     exact .inl ⟨p',e3⟩
    ·exact .inr ⟨hl.lt k q e1,.inr (x1v h.ch.size h2)⟩
   ·exact .inl ⟨p,e1⟩
  ·rcases o3 _ q e with ⟨q',e1,_⟩|⟨e1,e2⟩
   ·exact hl.apart p q' e1
   ·have h1:=hO.apart p q e1
    cases e3:M' p with
    | none=>rfl
    | some u =>
     rcases hfr p h1 (by rw[e3];simp)with ⟨q',e4⟩|h4
     ·exact absurd e4 ((other _ _ e1 e2).1 q')
     ·have:=hO.lt _ _ e1;omega
  ·by_cases e:c=b
   ·subst e
    exact⟨hrb,by rw[hf];rfl⟩
   ·have hcb:(Pa.r c).root≠b:=e
    refine⟨r2 _ hcb,?_⟩
    rcases bj (f:=f) (ks:=[(b,false)]) (lk c e (fun x=>by have:=ht c x;have:=h.hnt;omega))with h1|h1
    ·rw[hB]at h1;cases h1
    ·rw[<- h1];exact hB
theorem SR.lend(h:SR F nt S L w0 M0 f M a w)(hO:Own F L (fun k=>S k\/w0.heap.size<=k) f M a w ρ ω){b sz:Nat}{es es':List (List D)}(hf:f b=.blk sz es)(hb:10000<=b)(hω:ω (ρ (.r b)).blk=some (.r b)){ρ1:Pa->Loc}{ω1:Nat->Option Pa}
  (hρ1:∀p:Pa,p.root=b->ρ1 (p.to ap)=ρ p) (hω1:∀k q,ω1 k=some q↔∃p:Pa,ω k=some p/\p.root=b/\q=p.to ap)
  (hch:Ch (fun k=>∃p,ω1 k=some p) w w') (hM:M.le M') (hfr:∀p,M p=none->M' p≠none->(∃q,ω1 p.block=some q)\/w.heap.size<=p.block) (hh:∀p v,M' p=some v->w'.cell? p=some v)
  (hρ':ρ' (.r ap)=ρ1 (.r ap)) (hl:oA F M' w' ρ' ω' ap sz es') (hnew:∀k p,ω' k=some p->(∃q,ω1 k=some q)\/w.heap.size<=k)
  {dst:Option Nat} (ht:∀t,dst=some t->t<nt) {v:Value} (hv:ae F M' d v) :
  SR F nt S L w0 M0 (eff (bL dst d++[(b,.blk sz es')]) [(b,false)] f) M' (a.put dst v) w':=by
 obtain⟨_,_,_,_,_,hs⟩:=h.lendX hO hf hb hω hρ1 hω1 hch hM hfr hh hρ' hl hnew ht hv
 exact hs
end
end Go.Gv

namespace Go.Gv
open Go.RowKit
section
variable{P:Program}{F:Fid}{C:Nat->List D->D->List D->Prop}{nt:Nat}{S:Nat->Prop}{L:Ln}{w0:World}{M0:Mem}{f:Nat->D}{M M':Mem}{a:Act}{w w':World}{o:Oper}{d:D}{Q:Exit->Act->World->Prop}{ρ ρ':Pa->Loc}{ω ω':Nat->Option Pa}{New:Nat->Prop}{K:List (Nat×D)->List (Nat×Bool)->Prop}
theorem mq(p:Pa):a7 p.root true p=true:=by cases p<;>simp[a7,Pa.root]
theorem jR{t i b:Nat}{x d:D}(h:(b,x)∈cF t i d):b=rt t i/\∃sz es,x=.blk sz es/\∀t',(rt t' i,x)∈cF t' i d:=by
 cases d<;>simp only[cF,x0B,x1e,or_false,Prod.mk.injEq]at h
 all_goals exact⟨h.1,_,_,h.2,fun t'=>by rw[h.2];simp[cF]⟩
theorem jS{t b:Nat}{x:D}:∀{ds:List D} {i:Nat},(b,x)∈bT t i ds->∃j,i<=j/\j<i+ds.length/\b=rt t j/\∃sz es,x=.blk sz es/\∀t',(rt t' j,x)∈bT t' i ds
 | [],_,h=>by simp[bT]at h
 | d::ds,i,h=>by
  simp only[bT,x0n]at h
  rcases h with h|h
  ·obtain⟨e,sz,es,e2,h2⟩:=jR h
   exact⟨i,x0k _,by simp,e,sz,es,e2,fun t'=>by simp only[bT,x0n];exact .inl (h2 t')⟩
  ·obtain⟨j,h1,h2,e,sz,es,e2,h3⟩:=jS h
   exact⟨j,by omega,by simp;omega,e,sz,es,e2,fun t'=>by simp only[bT,x0n];exact .inr (h3 t')⟩
theorem f7{t b:Nat}{x y:D}:∀{ds:List D} {i:Nat},(b,x)∈bT t i ds->(b,y)∈bT t i ds->x=y
 | [],_,h,_=>by simp[bT]at h
 | d::ds,i,h,h'=>by
  simp only[bT,x0n]at h h'
  have far:∀{z:D},(b,z)∈bT t (i+1) ds->b≠rt t i:=fun hz e=>by
   obtain⟨j,h1,_,e2,_⟩:=jS hz
   rw[e]at e2
   unfold rt at e2
   omega
  rcases h with h|h<;>rcases h' with h'|h'
  ·cases d<;>simp only[cF,x0B,x1e,or_false,Prod.mk.injEq]at h h'
   all_goals rw[h.2,h'.2]
  ·exact absurd (jR h).1 (far h')
  ·exact absurd (jR h').1 (far h)
  ·exact f7 h h'
theorem uO{b:Nat}{x:D}:∀{l:List (Nat×D)},(∀y,(b,y)∈l->y=x)->(b,x)∈l->l.lookup b=some x
 | [],_,h=>by simp at h
 | (c,y)::l,hu,h=>by
  by_cases e:b=c
  ·subst e
   rw[hu y (by simp)]
   simp
  ·have e1:(b==c)=false:=by simpa using e
   simp only[x0g,e1]
   refine uO (fun y hy=>hu y (by simp[hy])) ?_
   rcases x0B.1 h with h|h
   ·cases h;exact absurd rfl e
   ·exact h
theorem tB{b:Nat}:∀{l:List (Nat×D)},(∀y,(b,y)∉l)->l.lookup b=none
 | [],_=>rfl
 | (c,y)::l,h=>by
  have e:b≠c:=fun e=>h y (by simp[e])
  have e1:(b==c)=false:=by simpa using e
  simp only[x0g,e1]
  exact tB fun y hy=>h y (by simp[hy])
theorem vO{t i:Nat}{d:D}{v:Value}(h:au F M ρ (fR 0 i d) v)(he:∀x,(rt 0 i,x)∈cF 0 i d->ρ' (.r (rt t i))=ρ (.r (rt 0 i)))(hp:∀p k n,d≠.ref p k n)(hp2:∀p k n,d≠.adr p k n)(hp3:∀b,d≠.mrf b)(hp4:∀T p k n,d≠.ifa T p k n):au F M ρ' (fR t i d) v:=by
 cases d
 case own sz es =>
  have e:=he (.blk sz es) (by simp[cF])
  simp only[fR,au]at h ⊢
  rw[e];exact h
 case blk sz es =>
  have e:=he (.blk sz es) (by simp[cF])
  simp only[fR,au]at h ⊢
  rw[e];exact h
 case ref p k n=>exact absurd rfl (hp p k n)
 case adr p k n=>exact absurd rfl (hp2 p k n)
 case mrf b=>exact absurd rfl (hp3 b)
 case ifa T p k n=>exact absurd rfl (hp4 T p k n)
 all_goals exact h
theorem jt{t:Nat}:∀{ds:List D} {i:Nat} {vs:List Value},cw F M ρ (bZ 0 i ds) vs->(∀j x,(rt 0 j,x)∈bT 0 i ds->ρ' (.r (rt t j))=ρ (.r (rt 0 j)))->(∀d∈ds,yk d=true)->cw F M ρ' (bZ t i ds) vs
 | [],i,vs,h,_,_=>⟨by simpa[bZ]using h.1,fun j d v h1=>by simp[bZ]at h1⟩
 | d::ds,i,[],h,_,_=>by have:=h.1;simp[bZ]at this
 | d::ds,i,v::vs,h,he,hk=>by
  have hd:=hk d (by simp)
  have ih:=jt (t:=t) (ds:=ds) (i:=i+1) (vs:=vs) ⟨by have:=h.1;simpa[bZ]using this,fun j d' v' h1 h2=>h.2 (j+1) d' v' (by simpa[bZ]using h1) (by simpa using h2)⟩ (fun j x hx=>he j x (by simp only[bT,x0n];exact .inr hx)) (fun d' hd'=>hk d' (by simp[hd']))
  refine⟨by have:=ih.1;simp[bZ,this],fun j d' v' h1 h2=>?_⟩
  cases j with
  | zero =>
   simp only[bZ,x1i,x0h]at h1 h2
   subst h1 h2
   exact vO (h.2 0 _ _ (by simp[bZ]) rfl) (fun x hx=>he i x (by simp only[bT,x0n];exact .inl hx)) (fun p k n e=>by rw[e]at hd;cases hd) (fun p k n e=>by rw[e]at hd;cases hd) (fun b e=>by rw[e]at hd;cases hd) (fun T p k n e=>by rw[e]at hd;cases hd)
  | succ j=>exact ih.2 j d' v' (by simpa[bZ]using h1) (by simpa using h2)
theorem gR{t b:Nat}{x R:D}(hok:okR R=true)(h:(b,x)∈aW t R):∃j,1<=j/\j<=14/\b=rt t j/\∃sz es,x=.blk sz es/\∀t',(rt t' j,x)∈aW t' R:=by
 obtain⟨j,h1,h2,h3,h4⟩:=jS h
 refine⟨j,h1,?_,h3,h4⟩
 have:(je R).length<=14:=by
  cases R<;>simp only[okR,x0a,x0b,x0j]at hok<;>first|exact hok.1|simp[je]
 omega
theorem vY{R:D}(hok:okR R=true):∀d∈je R,yk d=true:=by
 cases R<;>simp only[okR,x0a,x0j,x0f]at hok<;>first|exact hok.2|(intro d hd;simp only[je,x0B,x1e,or_false]at hd;subst hd;rfl)
theorem wj(hC:bC P F C)(h:SR F nt S L w0 M0 f M a w)(hL:∀t i,i<15->L (rt t i)=none){t:Nat}(hd:o.dst=some t)(ht:t<nt){g fi:Nat}{xs:List Opd}{ys:Array Operand}{ts:Array TypeId}(ho:o.op=.call { callee:=.value (.func fi),args:=ys,argTypes:=ts })(hx:bK F xs ys.toList=true)
  (hg:F g=some fi) (hr:(∀x∈xs,isV (vd f x)=true)/\∃R,okR R=true/\C g (xs.map (vd f)) R [.nils]/\K ((t,fQ t R)::aW t R) (fx t R)):o.wp P a w (PostX F nt S L w0 M0 f K) Q:=by
 obtain⟨hxs,R,hok,hc,hK⟩:=hr
 have hrun:(execOp a.eval o).run P w=(callFunc fi (ys.toList.map a.eval).toArray).run P w:=by
  simp only[execOp,ho,resolve,Act.eval,Deferred.ofValue,Sem.run_bind,Sem.run_pure,Result.andThen_ok,invoke]
  congr 2
  rw[x1q,x09]
  apply Array.ext'
  simp
 have hrep:aA F M (xs.map (vd f)) (ys.toList.map a.eval):=by
  have h1:=eJ h hx (by rw[x0f];exact hxs)
  rwa[x0m (g:=vd f) fun x hx'=>by unfold dpv;exact(iu (hxs x hx')).1]at h1
 obtain⟨ρ,ω,hO⟩:=h.own
 have ht10:t<10000:=x1p ht h.hnt
 unfold Oper.wp
 rw[hrun,bI (hC.body g fi hg),Oper.upon_enter]
 refine(hC.runsA g fi _ R hg hc M w _ h.holds hrep).mono ?_
 rintro e w' ⟨v,M',ρ',ω',us,rfl,hb,hM,hfr,hh,hsh,hrl,hroot,hω',hap'⟩
 rw[hd]
 refine⟨_,_,M',hK,?_⟩
 have mem:∀b,((aW t R).any fun q=>q.1==b)=true↔∃x,(b,x)∈aW t R:=fun b=>by
  simp only[x0P,x0l]
  constructor
  ·rintro⟨⟨c,x⟩,h1,rfl⟩;exact⟨x,h1⟩
  ·rintro⟨x,h1⟩;exact⟨(b,x),h1,rfl⟩
 obtain⟨ρ2,hρ2⟩:∃ρ2:Pa->Loc,ρ2=fun p=>if ((aW t R).any fun q=>q.1==p.root)=true then ρ' (p.to (p.root-16*t)) else ρ p:=⟨_,rfl⟩
 obtain⟨ω2,hω2⟩:∃ω2:Nat->Option Pa,ω2=fun k=>match ω' k with
  | some q=>some (q.to (q.root+16*t))
  | none=>match ω k with
   | some p=>if ((aW t R).any fun q=>q.1==p.root)=true then none else some p
   | none=>none:=⟨_,rfl⟩
 have r1:∀p:Pa,(∃x,(p.root,x)∈aW t R)->ρ2 p=ρ' (p.to (p.root-16*t)):=fun p hp=>by rw[hρ2];simp only[(mem _).2 hp,if_true]
 have r2:∀p:Pa,¬(∃x,(p.root,x)∈aW t R)->ρ2 p=ρ p:=fun p hp=>by
  rw[hρ2]
  have:¬((aW t R).any fun q=>q.1==p.root)=true:=fun e=>hp ((mem _).1 e)
  simp only[if_neg this]
 have o1:∀k q,ω' k=some q->ω2 k=some (q.to (q.root+16*t)):=fun k q e=>by rw[hω2];simp only[e]
 have oldnew:∀k p q,ω k=some p->ω' k≠some q:=fun k p q e e'=>by
  have:=hO.lt k p e
  have:=(hω' k q e').1
  omega
 have o2:∀k p,ω k=some p->¬(∃x,(p.root,x)∈aW t R)->ω2 k=some p:=fun k p e hp=>by
  have e1:ω' k=none:=by
   cases e2:ω' k with
   | none=>rfl
   | some q=>exact absurd e2 (oldnew k p q e)
  have:¬((aW t R).any fun q=>q.1==p.root)=true:=fun e=>hp ((mem _).1 e)
  rw[hω2];simp only[e1,e,if_neg this]
 have o3:∀k p,ω2 k=some p->(∃q,ω' k=some q)\/ω k=some p:=fun k p e=>by
  rw[hω2]at e
  simp only at e
  cases e1:ω' k with
  | some q=>exact .inl ⟨q,rfl⟩
  | none =>
   rw[e1]at e
   simp only at e
   cases e2:ω k with
   | none=>rw[e2]at e;cases e
   | some p' =>
    rw[e2]at e
    simp only at e
    split at e
    ·cases e
    ·cases e;exact .inr rfl
 have hshift:∀j x,(rt 0 j,x)∈aW 0 R->ρ2 (.r (rt t j))=ρ' (.r (rt 0 j)):=fun j x hx=>by
  obtain⟨j',h1,h2,h3,sz,es,h4,h5⟩:=gR hok hx
  have ej:j=j':=by unfold rt at h3;omega
  subst ej
  rw[r1 (.r (rt t j)) ⟨x,h5 t⟩]
  show ρ' (.r (rt t j-16*t))=_
  have:rt t j-16*t=rt 0 j:=by unfold rt;omega
  rw[this]
 have lkn:∀s,s≠t->¬(∃x,(s,x)∈aW t R)->((t,fQ t R)::aW t R).lookup s=none:=fun s h1 h2=>by
  have e1:(s==t)=false:=by simpa using h1
  simp only[x0g,e1]
  exact tB fun y hy=>h2 ⟨y,hy⟩
 have small:∀s,s<10000->¬(∃x,(s,x)∈aW t R):=fun s hs ⟨x,hx⟩=>by
  obtain⟨j,_,_,h3,_⟩:=gR hok hx
  unfold rt at h3;omega
 refine⟨h.hnt,by simp[Act.put,h.size],by simp[Act.put,h.defers],h.ch.trans (Ch.of_below hb (fun _=>False)) (fun _ _ e=>e.elim),hh,Mem.le_trans h.ext hM,fun p h1 h2=>?_,ρ2,ω2,hO.step (ks:=fx t R) (fun p hp=>?_) hM hb.size (fun s hs=>?_) (fun c hc=>?_) (fun k p e=>?_) (fun p q e=>?_) (fun c l hc hl hB=>?_)⟩
 ·by_cases e:M p=none
  ·exact .inr (x1v h.ch.size (hfr p e h2))
  ·exact h.fresh p h1 e
 ·by_cases e:∃x,(p.root,x)∈aW t R
  ·obtain⟨x,hx⟩:=e
   exact⟨(p.root,true),x0p.2 ⟨_,hx,rfl⟩,mq p⟩
  ·exact absurd (r2 p e) hp
 ·by_cases e:s=t
  ·right
   subst e
   have e1:eff ((s,fQ s R)::aW s R) (fx s R) f s=fQ s R:=aE (by simp)
   refine .inr ⟨v,getElem?_put_same (by rw[h.size];exact ht),?_⟩
   rw[e1]
   have hp:=vY hok
   cases R<;>simp only[okR,x0j]at hok
   case agg ds=>exact⟨us,hsh,jt hrl (fun j x hx=>hshift j x hx) hp⟩
   case tup ds=>exact⟨us,hsh,jt hrl (fun j x hx=>hshift j x hx) hp⟩
   all_goals
    have h3:=jt (t:=s) hrl (fun j x hx=>hshift j x hx) hp
    simp only[tX]at hsh
    subst hsh
    have h4:=h3.2 0 _ v rfl rfl
    exact h4
  ·left
   rcases bk (f:=f) (ks:=fx t R) (lkn s e (small s hs))with h1|h1
   ·exact .inl h1
   ·exact .inr ⟨h1.1,getElem?_put e,h1.2⟩
 ·by_cases e:∃x,(c,x)∈aW t R
  ·obtain⟨x,hx⟩:=e
   obtain⟨j,h1,h2,h3,sz,es,rfl,h5⟩:=gR hok hx
   right
   have hct:(c==t)=false:=by simp;omega
   have hlk:((t,fQ t R)::aW t R).lookup c=some (.blk sz es):=by
    simp only[x0g,hct]
    exact uO (fun y hy=>(f7 hx hy).symm) hx
   have ec:c-16*t=rt 0 j:=by rw[h3];unfold rt;omega
   have ec2:rt 0 j+16*t=c:=by rw[h3];unfold rt;omega
   refine .inl ⟨sz,es,aE hlk,(hroot (rt 0 j) sz es (h5 0)).carry (Mem.le_refl _) (fun p hp=>?_)⟩
   refine⟨?_,fun e2=>⟨?_,rfl⟩⟩
   ·rw[r1 _ ⟨_,by rw[Pa.to_root];exact hx⟩,Pa.to_root,ec,Pa.to_to (rt 0 j) c p hp]
   ·rw[o1 _ _ e2,hp,ec2]
  ·left
   rcases bj (f:=f) (ks:=fx t R) (lkn c (by omega) e)with h1|h1
   ·exact .inl h1
   ·refine .inr ⟨h1,fun p hp=>?_⟩
    have hpe:¬(∃x,(p.root,x)∈aW t R):=by rw[hp];exact e
    exact⟨r2 p hpe,fun hw=>⟨o2 _ _ hw hpe,hb.block _ (hO.lt _ _ hw)⟩⟩
 ·rcases o3 k p e with ⟨q,e1⟩|e1
  ·exact .inr ⟨(hω' k q e1).2.1,.inr (x1v h.ch.size (hω' k q e1).1)⟩
  ·exact .inl ⟨p,e1⟩
 ·rcases o3 _ q e with ⟨q',e1⟩|e1
  ·exact hap' p q' e1
  ·cases e3:M' p with
   | none=>rfl
   | some u =>
    have h1:=hfr p (hO.apart p q e1) (by rw[e3];simp)
    have:=hO.lt _ _ e1
    omega
 ·by_cases e:∃x,(c,x)∈aW t R
  ·obtain⟨x,hx⟩:=e
   obtain⟨j,h1,h2,h3,_⟩:=gR hok hx
   rw[h3,hL t j (by omega)]at hl;cases hl
  ·have hpe:¬(∃x,((Pa.r c).root,x)∈aW t R):=e
   refine⟨r2 _ hpe,?_⟩
   rcases bj (f:=f) (ks:=fx t R) (lkn c (by omega) e)with h1|h1
   ·rw[hB]at h1;cases h1
   ·rw[<- h1];exact hB
end
end Go.Gv

namespace Go.Gv
section
variable{P:Program}{F:Fid}{C:Nat->List D->D->List D->Prop}{nt:Nat}{S:Nat->Prop}{L:Ln}{w0:World}{M0:Mem}{f:Nat->D}{M:Mem}{a:Act}{w:World}{o:Oper}{d:D}{Q:Exit->Act->World->Prop}{ρ:Pa->Loc}{ω:Nat->Option Pa}{New:Nat->Prop}{K:List (Nat×D)->List (Nat×Bool)->Prop}
theorem SR.frzS(h:SR F nt S L w0 M0 f M a w){t:Nat}(ht:t<nt){c:Nat}(hc:10000<=c){cs:List D}{v:Value}
  (hv:∀ρ ω,Own F L (fun k=>S k\/w0.heap.size<=k) f M a w ρ ω->ae F (aT (cG ω c) M w) (.agg cs) v) :
  ∃M',SR F nt S L w0 M0 (eff [(t,.agg cs),(c,.any)] [] f) M' (a.put (some t) v) w:=by
 obtain⟨ρ,ω,hO⟩:=h.own
 have hnt:=h.hnt
 have hsz:=h.size
 have hO1:=hO.only hc
 have hr:=hv ρ ω hO
 have hle:M.le (aT (cG ω c) M w):=cc hO1
 have hE:=hO.erase hc
 have hf':∀s,eff [(t,.agg cs),(c,.any)] [] f s=if s=t then .agg cs else fbE f c s:=fun s=>by
  unfold eff fbE
  by_cases e:s=t
  ·subst e;simp
  ·have b1:(s==t)=false:=by simpa using e
   by_cases e2:s=c
   ·subst e2
    simp only[List.lookup,b1,beq_self_eq_true,if_neg e,if_true]
   ·have b2:(s==c)=false:=by simpa using e2
    simp only[List.lookup,b1,b2,if_neg e,if_neg e2]
    simp[aG]
 refine⟨aT (cG ω c) M w,⟨hnt,by simp[Act.put,hsz],by simp[Act.put,h.defers],h.ch,a8 h.holds,Mem.le_trans h.ext hle,fun p h1 h2=>?_,ρ,dJ ω c,?_⟩⟩
 ·by_cases e:M p=none
  ·unfold aT at h2
   split at h2
   ·rename_i q hq
    exact hO.new _ _ (cM hq).1
   ·exact absurd e h2
  ·exact h.fresh p h1 e
 ·refine hE.step (ks:=[]) (fun p hp=>absurd rfl hp) hle (x0k _) (fun s hs=>?_) (fun b hb=>?_) (fun k p e=>.inl ⟨p,e⟩) (fun p q e=>?_) (fun b l hb hl hB=>?_)
  ·rw[hf']
   by_cases e:s=t
   ·subst e
    rw[if_pos rfl]
    refine .inr (.inr ⟨v,by simp[Act.put,hsz,ht],?_⟩)
    rw[hf',if_pos rfl,ar rfl]
    exact hr
   ·rw[if_neg e]
    refine .inl (.inr ⟨rfl,?_,by simp[aG]⟩)
    simp[Act.put,x01,Ne.symm e]
  ·have:b≠t:=by omega
   rw[hf',if_neg this]
   exact .inl (.inr ⟨rfl,fun p hp=>⟨rfl,fun hw=>⟨hw,rfl⟩⟩⟩)
  ·obtain⟨e2,e3⟩:=dy e
   have e4:cG ω c p.block=none:=by
    simp only[cG,e2,if_neg e3]
   simp only[aT,e4]
   exact hO.apart p q e2
  ·have:b≠t:=by omega
   rw[hf',if_neg this]at hB
   exact⟨rfl,hB⟩
theorem sU{v:Value}(h:ae F M d v):bW d=d:=by
 cases d<;>first|rfl|(simp[ae]at h)
theorem vw(hO:Own F L New f M a w ρ ω){c:Nat}(hc:10000<=c){sz:Nat}{es:List (List D)}(hg:f c=.blk sz es){i:Nat}{r:List D}(hi:es[i]? = some r){off:Nat}(ho:r[off]? = some d){v:Value}(h:bX F M ω ρ w c i off d v):ae F (aT (cG ω c) M w) (bW d) v:=by
 have hO1:=hO.only hc
 cases d
 case own sz' rr =>
  obtain⟨h1,h2⟩:=h
  have hcc:fcE f c c=f c:=by simp[fcE]
  have e1:aQ (fcE f c) (.n c i off)=some (sz',rr):=by simp only[aQ,hcc,hg,hi,x1B,ho]
  have h3:=j8 hO1 h1 (by simp only[bu,e1];omega)
  simp only[dp1,e1,List.drop_zero,List.take_length]at h3
  have h4:rr.map (fun e=>e.map bW)=rr:=by
   rcases h2 with ⟨h2,_⟩|⟨_,_,vs,T,_,_,_,_,h5⟩
   ·rw[h2];rfl
   ·conv=>rhs;rw[<- List.map_id rr]
    refine x0m fun e he=>?_
    conv=>rhs;rw[id_eq,<- List.map_id e]
    refine x0m fun x hx=>?_
    obtain⟨i',hi'⟩:=List.getElem?_of_mem he
    obtain⟨o',ho'⟩:=List.getElem?_of_mem hx
    obtain⟨u,_,hu⟩:=h5 i' e o' x hi' ho'
    exact sU hu
  rw[h4]at h3
  exact h3
 all_goals exact ae.mono (cc hO1) _ _ h
theorem Bx(h:SR F nt S L w0 M0 f M a w){t0:Nat}(hd:o.dst=some t0)(ht:t0<nt){n:Nat}{x:Opd}{x':Operand}{t:TypeId}(ho:o.op=.load t x')(hx:am F x x'=true)(hk:tyS P t n true=true)
  (hr:match vd f x with
   | .adr (.r c) i off=>match f c with
    | .blk _ es=>∃r,es[i]? = some r/\off+n<=r.length/\K [(t0,.agg (((r.drop off).take n).map bW)),(c,.any)] []
    | _=>False
   | _=>False):o.wp P a w (PostX F nt S L w0 M0 f K) Q:=by
 split at hr
 ·rename_i c i off ex
  split at hr
  ·rename_i sz es hg
   obtain⟨r,hi,hn,hK⟩:=hr
   have gp:aQ f (.r c)=some (sz,es):=by simp only[aQ,hg]
   obtain⟨ρ0,ω0,hO0⟩:=h.own
   have hc:10000<=c:=co hO0 gp
   have run:∃v,(execOp a.eval o).run P w=.ok (.value v) w/\∀ρ ω,Own F L (fun k=>S k\/w0.heap.size<=k) f M a w ρ ω->ae F (aT (cG ω c) M w) (.agg (((r.drop off).take n).map bW)) v:=by
    have one:∀ρ ω,Own F L (fun k=>S k\/w0.heap.size<=k) f M a w ρ ω->∃v,(execOp a.eval o).run P w=.ok (.value v) w/\ae F (aT (cG ω c) M w) (.agg (((r.drop off).take n).map bW)) v:=by
     intro ρ ω hO
     have g1:=hO.opd hx
     rw[ex,ar rfl]at g1
     simp only[au]at g1
     obtain⟨vs,T,hω,h0,hl,h1,h2,h3,h4⟩:=hO.row (p:=.r c) hc gp hi
     rw[h0]at g1
     have hcells:∀j v,(vs.drop ((ρ (.r c)).base+i*sz+off))[j]? = some v->w.cell? ((⟨(ρ (.r c)).blk,(ρ (.r c)).base+i*sz+off,none⟩:Addr).add j)=some v:=by
      intro j v hj
      rw[cE]
      rw[x0q]at hj
      simp[World.cell?,h1,hj]
     refine⟨.agg ((vs.drop ((ρ (.r c)).base+i*sz+off)).take n).toArray,by simp only[execOp,ho,g1,Sem.run_bind,dL hk hcells (by simp;omega),Result.andThen_ok,Sem.run_pure,if_true],?_⟩
     simp only[ae]
     refine⟨_,rfl,aA.of_forall' (by simp only[x1c,x00,List.length_drop];omega) (fun j d v k1 k2=>?_)⟩
     rw[x0y,x0i]at k1
     obtain⟨d',k1,rfl⟩:=k1
     have hj:j<n:=by
      have:=(x0c.1 k1).1
      simp only[x00]at this;omega
     rw[x0A hj,x0q]at k1 k2
     obtain⟨v',k3,k4⟩:=h4 _ _ k1
     rw[x0T,k3]at k2
     cases k2
     exact vw hO hc hg hi k1 k4
    obtain⟨v,hv,_⟩:=one ρ0 ω0 hO0
    refine⟨v,hv,fun ρ ω hO=>?_⟩
    obtain⟨v',hv',h2⟩:=one ρ ω hO
    rw[hv]at hv'
    cases hv'
    exact h2
   obtain⟨v,hv,hrep⟩:=run
   obtain⟨M',hs⟩:=h.frzS ht hc hrep
   exact fc hv (by rw[hd];exact⟨_,_,M',hK,hs⟩)
  ·exact hr.elim
 ·exact hr.elim
end
end Go.Gv
namespace Go.Gv
section
variable{P:Program}{F:Fid}{C:Nat->List D->D->List D->Prop}{nt:Nat}{S:Nat->Prop}{L:Ln}{w0:World}{M0:Mem}{f:Nat->D}{M:Mem}{a:Act}{w:World}{o:Oper}{d:D}{Q:Exit->Act->World->Prop}{ρ:Pa->Loc}{ω:Nat->Option Pa}{New:Nat->Prop}{K:List (Nat×D)->List (Nat×Bool)->Prop}
theorem nC{t:Nat}:∀{ds:List D} {i j:Nat},(bZ t i ds)[j]? =(ds[j]?).map (fR t (i+j))
 | [],i,j=>by simp[bZ]
 | d::ds,i,j=>by
  cases j with
  | zero=>simp[bZ]
  | succ j =>
   simp only[bZ,x1D]
   rw[nC,show i+1+j=i+(j+1) by omega]
theorem nD{t:Nat}:∀{ds:List D} {i:Nat},(bZ t i ds).length=ds.length
 | [],i=>rfl
 | d::ds,i=>by simp[bZ,nD]
theorem mi{t b:Nat}{x:D}:∀{ds:List D} {i:Nat},(b,x)∈bT t i ds->∃j d,ds[j]? = some d/\(b,x)∈cF t (i+j) d
 | [],i,h=>by simp[bT]at h
 | d::ds,i,h=>by
  simp only[bT,x0n]at h
  rcases h with h|h
  ·exact⟨0,d,by simp,h⟩
  ·obtain⟨j,d',h1,h2⟩:=mi h
   exact⟨j+1,d',by simpa using h1,by rwa[show i+(j+1)=i+1+j by omega]⟩
theorem mj{t b:Nat}{x:D}:∀{ds:List D} {i j:Nat} {d:D},ds[j]? = some d->(b,x)∈cF t (i+j) d->(b,x)∈bT t i ds
 | [],i,j,d,h,_=>by simp at h
 | d0::ds,i,j,d,h,hx=>by
  simp only[bT,x0n]
  cases j with
  | zero=>simp at h;subst h;exact .inl hx
  | succ j=>exact .inr (mj (j:=j) (by simpa using h) (by rwa[show i+(j+1)=i+1+j by omega]at hx))
theorem nF{t j sz:Nat}{ds:List D}{es:List (List D)}(h:ds[j]? = some (.own sz es)):(rt t (1+j),D.blk sz es)∈bT t 1 ds:=mj h (by simp[cF])
theorem SR.unpack(h:SR F nt S L w0 M0 f M a w)(hL:∀t i,i<15->L (rt t i)=none){t:Nat}(ht:t<nt){c sz:Nat}{row:List D}(hg:f c=.blk sz [row])(hok:okR (.agg row)=true)(hcn:∀x,(c,x)∉aW t (.agg row)){v:Value}
  (hv:∀ρ ω,Own F L (fun k=>S k\/w0.heap.size<=k) f M a w ρ ω->∃vs:List Value,v=.agg vs.toArray/\vs.length=row.length/\∀(j:Nat) (d:D) (u:Value),row[j]? = some d->vs[j]? = some u->bX F M ω ρ w c 0 j d u) :
  SR F nt S L w0 M0 (eff ((t,fQ t (.agg row))::(c,.any)::aW t (.agg row)) (fx t (.agg row)) f) M (a.put (some t) v) w:=by
 obtain⟨ρ,ω,hO⟩:=h.own
 obtain⟨vs,hv1,hv2,hv3⟩:=hv ρ ω hO
 have hc10:10000<=c:=hO.big hg
 have ht10:t<10000:=x1p ht h.hnt
 have hct0:c≠t:=by omega
 obtain⟨R,hR⟩:∃R,R=D.agg row:=⟨_,rfl⟩
 rw[<- hR]at hok hcn ⊢
 have mem:∀b,((aW t R).any fun q=>q.1==b)=true↔∃x,(b,x)∈aW t R:=fun b=>by
  simp only[x0P,x0l]
  constructor
  ·rintro⟨⟨c,x⟩,h1,rfl⟩;exact⟨x,h1⟩
  ·rintro⟨x,h1⟩;exact⟨(b,x),h1,rfl⟩
 have inR:∀j sz es,row[j]? = some (.own sz es)->(rt t (1+j),D.blk sz es)∈aW t R:=fun j sz es hj=>by
  rw[hR];exact nF hj
 have ofR:∀b x,(b,x)∈aW t R->∃j sz es,b=rt t (1+j)/\row[j]? = some (.own sz es)/\x=.blk sz es:=fun b x hx=>by
  rw[hR]at hx
  obtain⟨j,d,hj,hd⟩:=mi hx
  have hj':j<vs.length:=by rw[hv2];exact(x0c.1 hj).1
  have hcell:=hv3 j d _ hj (x0e hj')
  cases d<;>simp only[cF,x0B,x1e,or_false,Prod.mk.injEq]at hd
  case own sz es=>exact⟨j,sz,es,hd.1,hj,hd.2⟩
  case blk sz es=>simp[bX,ae]at hcell
 obtain⟨ρ2,hρ2⟩:∃ρ2:Pa->Loc,ρ2=fun p=>match p with
  | .r b=>if ((aW t R).any fun q=>q.1==b)=true then ρ (.n c 0 (b-rt t 1)) else ρ p
  | .n _ _ _=>ρ p:=⟨_,rfl⟩
 obtain⟨ω2,hω2⟩:∃ω2:Nat->Option Pa,ω2=fun k=>match ω k with
  | some p=>if p.root=c then(match p with
    | .n _ i o=>if i=0/\((aW t R).any fun q=>q.1==rt t (1+o))=true then some (.r (rt t (1+o))) else none
    | .r _=>none) else if ((aW t R).any fun q=>q.1==p.root)=true then none else some p
  | none=>none:=⟨_,rfl⟩
 have r1:∀j x,(rt t (1+j),x)∈aW t R->ρ2 (.r (rt t (1+j)))=ρ (.n c 0 j):=fun j x hx=>by
  rw[hρ2];simp only[(mem _).2 ⟨x,hx⟩,if_true]
  have:rt t (1+j)-rt t 1=j:=by unfold rt;omega
  rw[this]
 have r2:∀p:Pa,¬(∃x,(p.root,x)∈aW t R)->ρ2 p=ρ p:=fun p hp=>by
  rw[hρ2]
  cases p with
  | r b =>
   have:¬((aW t R).any fun q=>q.1==b)=true:=fun e=>hp ((mem _).1 e)
   simp only[if_neg this]
  | n b i o=>rfl
 have o1:∀k j x,ω k=some (.n c 0 j)->(rt t (1+j),x)∈aW t R->ω2 k=some (.r (rt t (1+j))):=fun k j x e hx=>by
  rw[hω2];simp only[e,Pa.root,if_true,(mem _).2 ⟨x,hx⟩,and_self]
 have o2:∀k p,ω k=some p->p.root≠c->¬(∃x,(p.root,x)∈aW t R)->ω2 k=some p:=fun k p e hpc hp=>by
  have:¬((aW t R).any fun q=>q.1==p.root)=true:=fun e=>hp ((mem _).1 e)
  rw[hω2];simp only[e,if_neg hpc,if_neg this]
 have o3:∀k p,ω2 k=some p->∃q,ω k=some q:=fun k p e=>by
  rw[hω2]at e
  simp only at e
  cases e1:ω k with
  | some q=>exact⟨q,rfl⟩
  | none=>rw[e1]at e;cases e
 have lkn:∀s,s≠t->s≠c->¬(∃x,(s,x)∈aW t R)->((t,fQ t R)::(c,D.any)::aW t R).lookup s=none:=fun s h1 h2 h3=>by
  have e1:(s==t)=false:=by simpa using h1
  have e2:(s==c)=false:=by simpa using h2
  simp only[x0g,e1,e2]
  exact tB fun y hy=>h3 ⟨y,hy⟩
 have small:∀s,s<10000->¬(∃x,(s,x)∈aW t R):=fun s hs ⟨x,hx⟩=>by
  obtain⟨j,_,_,h3,_⟩:=ofR s x hx
  unfold rt at h3;omega
 refine⟨h.hnt,by simp[Act.put,h.size],by simp[Act.put,h.defers],h.ch,h.holds,h.ext,h.fresh,ρ2,ω2,hO.step (ks:=fx t R) (fun p hp=>?_) (Mem.le_refl _) (x0k _) (fun s hs=>?_) (fun b hb=>?_) (fun k p e=>.inl (o3 k p e)) (fun p q e=>?_) (fun b l hb hl hB=>?_)⟩
 ·by_cases e:∃x,(p.root,x)∈aW t R
  ·obtain⟨x,hx⟩:=e
   exact⟨(p.root,true),x0p.2 ⟨_,hx,rfl⟩,mq p⟩
  ·exact absurd (r2 p e) hp
 ·by_cases e:s=t
  ·right
   subst e
   have e1:eff ((s,fQ s R)::(c,D.any)::aW s R) (fx s R) f s=fQ s R:=aE (by simp)
   refine .inr ⟨v,getElem?_put_same (by rw[h.size];exact ht),?_⟩
   rw[e1,hR]
   refine⟨vs,hv1,by rw[nD];exact hv2.symm,fun j d u h1 h2=>?_⟩
   rw[nC,x0i]at h1
   obtain⟨d',h1,rfl⟩:=h1
   have hcell:=hv3 j d' u h1 h2
   cases d'
   case own sz' es' =>
    simp only[fR,au]
    rw[r1 j _ (inR j _ _ h1)]
    exact hcell.1
   all_goals first|exact au.of_pure hcell|(simp[bX,ae]at hcell;done)
  ·left
   rcases bk (f:=f) (ks:=fx t R) (lkn s e (by omega) (small s hs))with h1|h1
   ·exact .inl h1
   ·exact .inr ⟨h1.1,getElem?_put e,h1.2⟩
 ·by_cases e:∃x,(b,x)∈aW t R
  ·obtain⟨x,hx⟩:=e
   obtain⟨j,sz',es',h3,h4,rfl⟩:=ofR b x hx
   right
   have hct:(b==t)=false:=by simp;omega
   have hbc:b≠c:=fun e=>hcn _ (e▸hx)
   have hct2:(b==c)=false:=by simpa using hbc
   have hlk:((t,fQ t R)::(c,D.any)::aW t R).lookup b=some (.blk sz' es'):=by
    simp only[x0g,hct,hct2]
    exact uO (fun y hy=>(f7 hx hy).symm) hx
   refine .inl ⟨sz',es',aE hlk,?_⟩
   have hj':j<vs.length:=by rw[hv2];exact(x0c.1 h4).1
   have hcell:=hv3 j _ _ h4 (x0e hj')
   subst h3
   have e1:=r1 j _ hx
   unfold cy bV
   rw[e1]
   rcases hcell.2 with h5|⟨h5,h6,us,T,g1,g2,g3,g4,g5⟩
   ·exact .inl h5
   ·refine .inr ⟨o1 _ j _ h5 hx,h6,us,T,g1,g2,g3,g4,fun i r off d k1 k2=>?_⟩
    obtain⟨u,k3,k4⟩:=g5 i r off d k1 k2
    refine⟨u,k3,?_⟩
    cases d
    case own=>simp[ae]at k4
    all_goals exact k4
  ·by_cases ebc:b=c
   ·subst ebc
    refine .inl (.inl ?_)
    have hct:(b==t)=false:=by simp;omega
    rw[aE (d:=.any) (by simp[x0g,hct])]
    rfl
   ·left
    rcases bj (f:=f) (ks:=fx t R) (lkn b (by omega) ebc e)with h1|h1
    ·exact .inl h1
    ·refine .inr ⟨h1,fun p hp=>?_⟩
     have hpe:¬(∃x,(p.root,x)∈aW t R):=by rw[hp];exact e
     exact⟨r2 p hpe,fun hw=>⟨o2 _ _ hw (by rw[hp];exact ebc) hpe,rfl⟩⟩
 ·obtain⟨q',e1⟩:=o3 _ q e
  exact hO.apart p q' e1
 ·by_cases e:∃x,(b,x)∈aW t R
  ·obtain⟨x,hx⟩:=e
   obtain⟨j,h1,h2,h3,_⟩:=gR hok hx
   rw[h3,hL t j (by omega)]at hl;cases hl
  ·have hct:(b==t)=false:=by simp;omega
   by_cases ebc:b=c
   ·subst ebc
    rw[aE (d:=.any) (by simp[x0g,hct])]at hB;cases hB
   ·refine⟨r2 _ e,?_⟩
    rcases bj (f:=f) (ks:=fx t R) (lkn b (by omega) ebc e)with h1|h1
    ·rw[hB]at h1;cases h1
    ·rw[<- h1];exact hB
end
end Go.Gv

namespace Go.Gv
section
variable{P:Program}{F:Fid}{C:Nat->List D->D->List D->Prop}{nt:Nat}{S:Nat->Prop}{L:Ln}{w0:World}{M0:Mem}{f:Nat->D}{M:Mem}{a:Act}{w:World}{o:Oper}{d:D}{Q:Exit->Act->World->Prop}{ρ:Pa->Loc}{ω:Nat->Option Pa}{New:Nat->Prop}{K:List (Nat×D)->List (Nat×Bool)->Prop}
theorem xg{es rs:List (List D)}{k:Nat}(h:k+rs.length<=es.length):(iY es k rs).length=es.length:=by
 simp only[iY,x0Q,x00,List.length_drop];omega
theorem xd{es rs:List (List D)}{k i:Nat}(h:k+rs.length<=es.length):(iY es k rs)[i]? = if k<=i/\i<k+rs.length then rs[i-k]? else es[i]?:=by
 unfold iY
 have hl:(es.take k).length=k:=by simp;omega
 by_cases h1:i<k
 ·rw[if_neg (by omega),x0O,x0v (by omega),x0A h1]
 ·by_cases h2:i<k+rs.length
  ·rw[if_pos (by omega),x0O,x0s (by omega),hl,x0v (by omega)]
  ·rw[if_neg (by omega),x0s (by rw[x0Q,hl];omega),x0Q,hl,x0q]
   congr 1;omega
theorem xh{es rs:List (List D)}{k:Nat}{e:List D}(he:e∈iY es k rs):e∈rs\/e∈es:=by
 unfold iY at he
 rcases x0n.1 he with he|he
 ·rcases x0n.1 he with he|he
  ·exact .inr (x0G he)
  ·exact .inl he
 ·exact .inr (x1s he)
def oX(P:Program)(t sz:Nat):Bool:=match P.underlying t with
 | some (.slice e)=>(match P.info? e with
  | some i=>i.size==sz
  | none=>false)
 | _=>false
theorem yP{T T2 sz:Nat}{ty:TypeId}(hk:oX P T sz=true){g o n m cap cap2:Nat}{ad:Addr}{cur news:List Value}{T0:TypeId}(hg:w.heap[g]? = some (.cells cur.toArray T0 (0,0)))(hl:o+min m n*sz<=cur.length)
  (hnl:news.length=m*sz) (hnews:∀j u,news[j]? = some u->w.cell? (ad.add j)=some u) (hone:∀u∈news,u.oneCell'=true) :
  ∃w',(Builtin.copy_ #[T,T2] ty #[.slice (some ⟨g,o,none⟩) n cap,.slice (some ad) m cap2]).run P w=.ok (.int .i64 (min m n:Nat)) w'/\w'.heap[g]? = some (.cells (cur.take o++news.take (min m n*sz)++cur.drop (o+min m n*sz)).toArray T0 (0,0))/\Ch (fun k=>k=g) w w':=by
 unfold oX at hk
 split at hk
 ·rename_i e hu
  split at hk
  ·rename_i i hi
   have hsz:i.size=sz:=by simpa using hk
   have hle:min m n*sz<=m*sz:=x0o _ (Nat.min_le_left _ _)
   have hnl2:(news.take (min m n*sz)).length=min m n*sz:=by rw[x00];omega
   obtain⟨w',e1,e2,e3,e4,e5,e6,e7,e8⟩:=dM (P:=P) g T0 o (news.take (min m n*sz)) 0 cur w hg (by rw[hnl2];omega) (fun v hv=>hone v (x0G hv))
   refine⟨w',?_,by rw[e2];simp only[x0L,hnl2],⟨e5,e6,e7,by omega,fun k _ hk=>e3 k hk,by omega⟩⟩
   have hld:=run_loadCells_list (P:=P) w ad (news.take (min m n*sz)) (fun j v hj=>hnews j v (by rw[x0J]at hj;split at hj;exact hj;cases hj))
   rw[hnl2]at hld
   have hmn:Nat.min m n=min m n:=rfl
   simp[Builtin.copy_,run_underlying hu,sizeOf,typeInfo,hi,Builtin.lenOf,Builtin.firstCells,hsz,hmn,hld,e1,goInt]
  ·cases hk
 ·cases hk
theorem we{T T2 sz:Nat}{ty:TypeId}(hk:oX P T sz=true)(A:Option Addr)(cap:Nat)(ad:Addr)(m cap2:Nat):(Builtin.copy_ #[T,T2] ty #[.slice A 0 cap,.slice (some ad) m cap2]).run P w=.ok (.int .i64 0) w:=by
 unfold oX at hk
 split at hk
 ·rename_i e hu
  split at hk
  ·rename_i i hi
   have hmn:Nat.min m 0=0:=Nat.min_zero m
   cases A<;>simp[Builtin.copy_,run_underlying hu,sizeOf,typeInfo,hi,Builtin.lenOf,Builtin.firstCells,hmn,loadCells,loadCellsFrom,storeCells,goInt]
  ·cases hk
 ·cases hk
theorem Bt(h:SR F nt S L w0 M0 f M a w){t:Nat}(hd:o.dst=some t)(ht:t<nt){sz:Nat}{x y:Opd}{x' y':Operand}{T T2:TypeId}(ho:o.op=.call { callee:=.builtin .copy,args:=#[x',y'],argTypes:=#[T,T2] })(hx:am F x x'=true)(hy:am F y y'=true)(hk:oX P T sz=true)
  (hr:eT f false (vd f y) sz fun rows bs=>bs=[]/\0<rows.length/\match vd f x with
   | .ref (.r b) k n=>(n=0->K [(t,.int .i64 0)] [])/\(0<n->match f b with
    | .blk sz' es=>sz'=sz/\k+n<=es.length/\(∀e∈es,∀c∈e,aH c=true)/\(∀e∈rows,∀c∈e,aH c=true)/\K [(t,.int .i64 (min rows.length n:Nat)),(b,.blk sz (iY es k (rows.take n)))] []
    | _=>False)
   | _=>False):o.wp P a w (PostX F nt S L w0 M0 f K) Q:=by
 obtain⟨ρ,ω,hO⟩:=h.own
 obtain⟨rows,bs,c2,⟨hbs0,hrl,hr⟩,hbs,_,huY,A2,m,cap2,news,ey,hm,hnl,hA2,hone,hY⟩:=oa h hO hy hr
 have hc2:c2=none:=by
  rw[hbs0]at hbs
  cases c2 with
  | none=>rfl
  | some c=>simp at hbs
 subst hc2
 have hv:=hO.opd hx
 split at hr
 ·rename_i b k n hvx
  rw[hvx,ar rfl]at hv
  obtain⟨ad0,hA0,_⟩:=hA2 (by omega)
  rcases x0R n with hn|hn
  ·have hK:=hr.1 hn
   subst hn
   have hv0:∃A cap,a.eval x'=.slice A 0 cap:=by
    simp only[au]at hv
    rcases hv with ⟨_,A,e⟩|⟨cap,e,_⟩
    ·exact⟨A,0,e⟩
    ·exact⟨_,cap,e⟩
   obtain⟨A,cap,hv0⟩:=hv0
   refine postX_val hd (v:=.int .i64 0) (w':=w) ?_ hK (h.put ht (fun ρ ω _=>by rw[ar rfl];simp only[au,ae]))
   subst hA0
   have e1:=we (P:=P) (w:=w) (T2:=T2) (ty:=o.type) hk A cap ad0 m cap2
   simp only[execOp,ho,resolve,invoke,builtin,List.map_toArray,x0t,x0I,Sem.run_bind,Sem.run_pure,Result.andThen_ok,hv0,ey,e1]
  have hr:=hr.2 hn
  split at hr
  ·rename_i sz' es hf
   obtain⟨rfl,hkn,hes1,hrow1,hK⟩:=hr
   have hb:=hO.big hf
   have hgp:aQ f (.r b)=some (sz',es):=by simp[aQ,hf]
   obtain⟨ad,rfl,hnews⟩:=hA2 (by omega)
   rcases gP hO hgp hkn hv (fun e he c hc=>cr (hes1 e (x1s (x0G he)) c hc))with ⟨A,hv,hn0⟩|⟨cap,us,T0,hv,⟨hcap,hmc⟩,hcl,hω,g0,g1,g2,g4,g5⟩
   ·omega
   ·have hrows:fA w (ρ (.r b)) sz' es (fun i off d v=>bX F M ω ρ w b i off d v):=by
     rcases hO.roots b sz' es hb hf with ⟨e0,_⟩|⟨_,hr⟩
     ·rw[e0]at hkn;simp at hkn;omega
     ·exact hr
    obtain⟨q0,us0,T1,q1,q2,q3,q4,q5⟩:=id hrows
    rw[g1]at q1
    simp only[x0h,Obj.cells.injEq,and_true]at q1
    obtain⟨q1,rfl⟩:=q1
    obtain rfl:us=us0:=by simpa using congrArg Array.toList q1
    have hle:k*sz'+n*sz'<=es.length*sz':=by rw[<- x0D];exact x0o _ hkn
    have hmn:min m n*sz'<=n*sz':=x0o _ (Nat.min_le_right _ _)
    obtain⟨w',e1,e2,e3⟩:=yP (P:=P) (w:=w) (T2:=T2) (ty:=o.type) hk (m:=m) (n:=n) (cap:=cap) (cap2:=cap2) (o:=(ρ (.r b)).base+k*sz') g1 (by rw[g2];omega) hnl hnews hone
    have hmin:(rows.take n).length=min m n:=by rw[x00,hm,Nat.min_comm]
    have hfit:k+(rows.take n).length<=es.length:=by rw[hmin];omega
    have hml:min m n*sz'<=m*sz':=x0o _ (Nat.min_le_left _ _)
    have hN:(news.take (min m n*sz')).length=min m n*sz':=by rw[x00];omega
    have hfill:=h.fill hO hf hω hrows (es':=iY es k (rows.take n)) (us:=us.take ((ρ (.r b)).base+k*sz')++news.take (min m n*sz')++us.drop ((ρ (.r b)).base+k*sz'+min m n*sz')) (w':=w') (Nat.le_of_eq (xg hfit)) (fun e he=>by
     rcases xh he with he|he
     ·have he:=x0G he
      exact⟨huY e he,hrow1 e he⟩
     ·exact⟨g4 e he,hes1 e he⟩) e3 e2 (by simp only[x0Q,x00,List.length_drop]at hN ⊢;omega) (fun i r off d h1 h2=>by
     have hget:=fun x=>iE (vs:=us) (us:=news.take (min m n*sz')) (q:=(ρ (.r b)).base+k*sz') (n:=min m n*sz') (x:=x) hN (by omega)
     rw[xd hfit,hmin]at h1
     split at h1
     ·rename_i hi
      have hil:i-k<(rows.take n).length:=by rw[hmin];omega
      have hin:i-k<n:=by rw[hmin]at hil;omega
      rw[x0A hin]at h1
      obtain⟨u,k1,k2⟩:=hY (i-k) r off d h1 h2
      have hof:off<sz':=by rw[<- huY r (x0d h1)];exact(x0c.1 h2).1
      have h3:=fu (sz:=sz') (show i-k<min m n by omega) hof
      have h4:(i-k)*sz'+k*sz'=i*sz':=by rw[<- x0D];congr 1;omega
      refine⟨u,?_,k2.2⟩
      rw[hget,if_pos (by omega),show(ρ (.r b)).base+i*sz'+off-((ρ (.r b)).base+k*sz')=(i-k)*sz'+off by omega,x0A h3]
      exact k1
     ·rename_i hi
      obtain⟨u,k1,k2⟩:=q5 i r off d h1 h2
      have hof:off<sz':=by rw[<- g4 r (x0d h1)];exact(x0c.1 h2).1
      rw[aU (cr (hes1 r (x0d h1) d (x0d h2)))]at k2
      refine⟨u,?_,k2⟩
      have h5:¬((ρ (.r b)).base+k*sz'<=(ρ (.r b)).base+i*sz'+off/\(ρ (.r b)).base+i*sz'+off<(ρ (.r b)).base+k*sz'+min m n*sz'):=by
       rintro⟨h6,h7⟩
       rcases x1o i k with h8|h8
       ·have:=fu (sz:=sz') h8 hof;omega
       ·have h9:(k+min m n)*sz'<=i*sz':=x0o _ (by omega)
        rw[x0D]at h9;omega
      rw[hget,if_neg h5]
      exact k1)
    obtain⟨_,_,_,_,hs⟩:=hfill
    have hs2:=hs.put (t:=t) (d:=.int .i64 (min rows.length n:Nat)) (v:=.int .i64 (min m n:Nat)) ht (fun _ _ _=>by rw[ar rfl,hm];simp only[au,ae])
    refine fc (v:=.int .i64 (min m n:Nat)) (w':=w') ?_ ?_
    ·simp only[execOp,ho,resolve,invoke,builtin,List.map_toArray,x0t,x0I,Sem.run_bind,Sem.run_pure,Result.andThen_ok,hv,ey,e1]
    ·rw[hd]
     refine⟨_,_,M,hK,?_⟩
     have:eff [(t,D.int .i64 (min rows.length n:Nat)),(b,D.blk sz' (iY es k (rows.take n)))] [] f=eff [(t,.int .i64 (min rows.length n:Nat))] [] (eff [(b,.blk sz' (iY es k (rows.take n)))] [] f):=by
      funext s
      unfold eff
      by_cases h1:s=t
      ·subst h1;simp
      ·have e1:(s==t)=false:=by simpa using h1
       simp only[x0g,e1,x0w,aG,x1E,x0j,if_false]
     rw[this]
     exact hs2
  ·exact hr.elim
 ·exact hr.elim
end
end Go.Gv

namespace Go.Gv
section
variable{P:Program}{F:Fid}{C:Nat->List D->D->List D->Prop}{nt:Nat}{S:Nat->Prop}{L:Ln}{w0:World}{M0:Mem}{f:Nat->D}{M:Mem}{a:Act}{w:World}{o:Oper}{d:D}{Q:Exit->Act->World->Prop}{ρ:Pa->Loc}{ω:Nat->Option Pa}{New:Nat->Prop}{K:List (Nat×D)->List (Nat×Bool)->Prop}
end
end Go.Gv

namespace Go.Gv
section
variable{P:Program}{F:Fid}{C:Nat->List D->D->List D->Prop}{nt:Nat}{S:Nat->Prop}{L:Ln}{w0:World}{M0:Mem}{f:Nat->D}{M:Mem}{a:Act}{w:World}{o:Oper}{Q:Exit->Act->World->Prop}{K:List (Nat×D)->List (Nat×Bool)->Prop}
theorem SR.frzX(h:SR F nt S L w0 M0 f M a w){t:Nat}(ht:t<10000){c sz:Nat}{row ds:List D}{vs:List Value}(hft:f t=.adr (.r c) 0 0)(hfc:f c=.blk sz [row])
  (hrep:∀ρ ω,Own F L (fun k=>S k\/w0.heap.size<=k) f M a w ρ ω->cw F M ρ ds vs)
  (hcells:∀ρ ω,Own F L (fun k=>S k\/w0.heap.size<=k) f M a w ρ ω->∃(us:List Value) (T:TypeId),w.heap[(ρ (.r c)).blk]? = some (.cells us.toArray T (0,0))/\∀j v,vs[j]? = some v->us[(ρ (.r c)).base+j]? = some v) :
  ∃M',SR F nt S L w0 M0 (eff [(t,.ptx ds),(c,.any)] [] f) M' a w:=by
 obtain⟨ρ,ω,hO⟩:=h.own
 have gp:aQ f (.r c)=some (sz,[row]):=by simp only[aQ,hfc]
 have hc:10000<=c:=co hO gp
 have hO1:=hO.only hc
 obtain⟨v,hv1,hv2⟩:∃v,a.tmps[t]? = some v/\aY F M ρ (f t) v:=by
  rcases hO.slots t ht with g|g
  ·rw[hft]at g;cases g
  ·exact g
 rw[hft,ar rfl]at hv2
 simp only[au,x0X,x0L]at hv2
 have hω:ω (ρ (.r c)).blk=some (.r c):=by
  rcases hO.roots c sz [row] hc hfc with ⟨e0,_⟩|⟨h1,_⟩
  ·cases e0
  ·exact h1
 have hω1:cG ω c (ρ (.r c)).blk=some (.r c):=by simp[cG,hω,Pa.root]
 have hle:M.le (aT (cG ω c) M w):=cc hO1
 have hr:aY F (aT (cG ω c) M w) ρ (.ptx ds) v:=by
  obtain⟨us,T,h1,h2⟩:=hcells ρ ω hO
  have hL:=hrep ρ ω hO
  refine⟨_,vs,hv2,⟨hL.1,fun i d v e1 e2=>(hL.2 i d v e1 e2).mono hle⟩,fun j u hj=>?_⟩
  have:=iO (M:=M) (ω:=cG ω c) (o:=(ρ (.r c)).base) hω1 h1
  refine this j u ?_
  rw[x0q]
  exact h2 j u hj
 have hE:=hO.erase hc
 have hf':∀s,eff [(t,.ptx ds),(c,.any)] [] f s=if s=t then .ptx ds else fbE f c s:=fun s=>by
  unfold eff fbE
  by_cases e:s=t
  ·subst e;simp
  ·have b1:(s==t)=false:=by simpa using e
   by_cases e2:s=c
   ·subst e2
    simp only[List.lookup,b1,beq_self_eq_true,if_neg e,if_true]
   ·have b2:(s==c)=false:=by simpa using e2
    simp only[List.lookup,b1,b2,if_neg e,if_neg e2]
    simp[aG]
 refine⟨aT (cG ω c) M w,⟨h.hnt,h.size,h.defers,h.ch,a8 h.holds,Mem.le_trans h.ext hle,fun p h1 h2=>?_,ρ,dJ ω c,?_⟩⟩
 ·by_cases e:M p=none
  ·unfold aT at h2
   split at h2
   ·rename_i q hq
    exact hO.new _ _ (cM hq).1
   ·exact absurd e h2
  ·exact h.fresh p h1 e
 ·refine hE.step (ks:=[]) (fun p hp=>absurd rfl hp) hle (x0k _) (fun s hs=>?_) (fun b hb=>?_) (fun k p e=>.inl ⟨p,e⟩) (fun p q e=>?_) (fun b l hb hl hB=>?_)
  ·rw[hf']
   by_cases e:s=t
   ·subst e
    rw[if_pos rfl]
    refine .inr (.inr ⟨v,hv1,?_⟩)
    rw[hf',if_pos rfl]
    exact hr
   ·rw[if_neg e]
    exact .inl (.inr ⟨rfl,rfl,by simp[aG]⟩)
  ·have:b≠t:=by omega
   rw[hf',if_neg this]
   exact .inl (.inr ⟨rfl,fun p hp=>⟨rfl,fun hw=>⟨hw,rfl⟩⟩⟩)
  ·obtain⟨e2,e3⟩:=dy e
   have e4:cG ω c p.block=none:=by
    simp only[cG,e2,if_neg e3]
   simp only[aT,e4]
   exact hO.apart p q e2
  ·have:b≠t:=by omega
   rw[hf',if_neg this]at hB
   exact⟨rfl,hB⟩
theorem nX{M:Mem}{ρ:Pa->Loc}{d:D}{ds:List D}{v:Value}(h:kN d=some ds)(hr:aY F M ρ d v)(h1:ds.all nI=true):cw F M ρ ds v.cells.toList/\∀u∈v.cells.toList,u.oneCell'=true:=by
 have one:∀{x:D} {u:Value},nI x=true->au F M ρ x u->u.oneCell'=true:=fun{x u} hx hu=>by
  cases x
  case ref p k n =>
   simp only[au]at hu
   rcases hu with ⟨_,A,rfl⟩|⟨cap,rfl,_⟩<;>rfl
  case adr p i off =>
   simp only[au]at hu
   subst hu
   rfl
  case mrf b =>
   simp only[au]at hu
   subst hu
   rfl
  all_goals first
   | (simp[nI,aH]at hx;done)
   | exact oneCell_of hu (by simpa[nI]using hx)
 cases d
 case agx xs =>
  simp only[kN,x0h]at h
  subst h
  obtain⟨vs,rfl,hL⟩:=hr
  refine⟨by simpa[Value.cells]using hL,fun u hu=>?_⟩
  have hu':u∈vs:=by simpa[Value.cells]using hu
  obtain⟨j,hj,e⟩:=x0H.1 hu'
  have hj':j<xs.length:=by rw[hL.1];exact hj
  exact one (x0f.1 h1 _ (x0u hj')) (hL.2 j _ u (x0e hj') (by rw[<- e];exact x0e hj))
 case adr p i off =>
  simp only[kN,x0h]at h
  subst h
  rw[ar rfl]at hr
  have hv:v.cells.toList=[v]:=by
   simp only[au]at hr
   subst hr
   rfl
  rw[hv]
  refine⟨⟨rfl,fun j d u e1 e2=>?_⟩,fun u hu=>?_⟩
  ·cases j with
   | zero=>simp at e1 e2;subst e1;subst e2;exact hr
   | succ j=>simp at e1
  ·simp at hu
   subst hu
   exact one rfl hr
 case mrf b =>
  simp only[kN,x0h]at h
  subst h
  rw[ar rfl]at hr
  have hv:v.cells.toList=[v]:=by
   simp only[au]at hr
   subst hr
   rfl
  rw[hv]
  refine⟨⟨rfl,fun j d u e1 e2=>?_⟩,fun u hu=>?_⟩
  ·cases j with
   | zero=>simp at e1 e2;subst e1;subst e2;exact hr
   | succ j=>simp at e1
  ·simp at hu
   subst hu
   exact one rfl hr
 case int k n =>
  simp only[kN,x0h]at h
  subst h
  rw[ar rfl]at hr
  have hv:v.cells.toList=[v]:=by
   simp only[au,ae]at hr
   subst hr
   rfl
  rw[hv]
  refine⟨⟨rfl,fun j d u e1 e2=>?_⟩,fun u hu=>?_⟩
  ·cases j with
   | zero=>simp at e1 e2;subst e1;subst e2;exact hr
   | succ j=>simp at e1
  ·simp at hu
   subst hu
   exact one rfl hr
 case nilp =>
  simp only[kN,x0h]at h
  subst h
  rw[ar rfl]at hr
  have hv:v.cells.toList=[v]:=by
   simp only[au,ae]at hr
   subst hr
   rfl
  rw[hv]
  refine⟨⟨rfl,fun j d u e1 e2=>?_⟩,fun u hu=>?_⟩
  ·cases j with
   | zero=>simp at e1 e2;subst e1;subst e2;exact hr
   | succ j=>simp at e1
  ·simp at hu
   subst hu
   exact one rfl hr
 all_goals cases h
theorem BE(h:SR F nt S L w0 M0 f M a w){n:Nat}{x y:Opd}{x' y':Operand}{t:TypeId}(ho:o.op=.store t x' y')(hx:am F x x'=true)(hy:am F y y'=true)(hk:ig P t n=true)
  (hr:aB C f o.dst K (.stF n x y)):o.wp P a w (PostX F nt S L w0 M0 f K) Q:=by
 simp only[aB]at hr
 obtain⟨hd,hr⟩:=hr
 split at hr
 ·rename_i s
  obtain⟨hs,hr⟩:=hr
  split at hr
  ·rename_i c i0 o0 hfs
   obtain⟨rfl,rfl,hr⟩:=hr
   split at hr
   ·rename_i sz row hfc
    obtain⟨hrow,ds,hds,hdl,hd1,hK⟩:=hr
    obtain⟨ρ,ω,hO⟩:=h.own
    have hc:10000<=c:=co hO (show aQ f (.r c)=some (sz,[row]) by simp only[aQ,hfc])
    have hxv:=hO.opd hx
    have hyv:=hO.opd hy
    obtain⟨hL,hone⟩:=nX hds hyv hd1
    have hus:(a.eval y').cells.toList.length=n:=by rw[<- hL.1,hdl]
    have hus':(a.eval y').cells.size=n:=by simpa using hus
    simp only[vd]at hxv
    rw[hfs,ar rfl]at hxv
    simp only[au]at hxv
    obtain⟨vs,T,hω,h0,hl,g1,g2,g3,g4⟩:=hO.row (p:=.r c) hc (show aQ f (.r c)=some (sz,[row]) by simp[aQ,hfc]) (i:=0) rfl
    rw[h0]at hxv
    obtain⟨w',k1,k2,k3,k4,k5,k6,k7⟩:=fa (P:=P) (off:=(ρ (.r c)).base+0*sz+0) hk g1 hus' (by omega) hone
    have hst:=h.store hO (b:=c) (i:=0) (off:=0) (n:=n) (cs:=List.replicate n .any) (bs:=[]) (src:=fun _=>none) (ks:=[]) hfc rfl (by omega) (by simp) hus (ia g1 k2 k3 k4 k5 k6 k7)
     (fun j c u e1 e2=>.inl (by
      have:c=.any:=by
       rw[x0Z]at e1
       split at e1
       ·simpa using e1.symm
       ·cases e1
      subst this
      exact⟨rfl,by simp[ae]⟩)) (fun j j' c e=>by cases e) (fun j c e=>by cases e) (by simp) (fun e=>by
      rw[x0P]at e
      obtain⟨x,hx,e⟩:=e
      rw[List.eq_of_mem_replicate hx]at e
      cases e)
    have look1:eff ((c,.blk sz (bE [row] 0 0 n (List.replicate n .any)))::bB []) [] f s=f s:=by
     have b1:(s==c)=false:=by simp;omega
     simp[eff,bB,List.lookup,b1,aG]
    have lookc:eff ((c,.blk sz (bE [row] 0 0 n (List.replicate n .any)))::bB []) [] f c=.blk sz (bE [row] 0 0 n (List.replicate n .any)):=by
     simp[eff,bB]
    obtain⟨row1,hrow1⟩:∃row1,bE [row] 0 0 n (List.replicate n .any)=[row1]:=by simp[bE]
    have hyok:vd (eff ((c,.blk sz (bE [row] 0 0 n (List.replicate n .any)))::bB []) [] f) y=vd f y:=by
     cases y with
     | c d=>rfl
     | t q =>
      simp only[vd]
      have q2:q≠c:=fun e=>by
       subst e
       simp only[vd,hfc,kN]at hds
       cases hds
      have b2:(q==c)=false:=by simpa using q2
      simp[eff,bB,List.lookup,b2,aG]
    have hrun:(execOp a.eval o).run P w=.ok .skip w':=by
     simp only[execOp,ho,hxv,Sem.run_bind,k1,Result.andThen_ok,Sem.run_pure]
    obtain⟨M',h'⟩:=hst.frzX (t:=s) hs (c:=c) (sz:=sz) (row:=row1) (ds:=ds) (vs:=(a.eval y').cells.toList) (by rw[look1,hfs]) (by rw[lookc,hrow1])
     (fun ρ' ω' hO'=>(nX hds (by rw[<- hyok];exact hO'.opd hy) hd1).1)
     (fun ρ' ω' hO'=>by
      have e1:=hO'.opd hx
      simp only[vd]at e1
      rw[look1,hfs,ar rfl]at e1
      simp only[au,x0X,x0L]at e1
      rw[hxv]at e1
      simp only[x0X,x0L,Value.pointer.injEq,x0h,Addr.mk.injEq]at e1
      refine⟨_,T,by rw[<- e1.1];exact k2,fun j v hj=>?_⟩
      rw[<- e1.2.1]
      simp only[x0X,x0L]
      have hj':j<n:=by rw[<- hus];exact(x0c.1 hj).1
      have hb:(ρ (.r c)).base<=vs.length:=by omega
      rw[x0O,x0s (by simp;omega),x0v (by simp;omega)]
      rw[<- hj]
      congr 1
      simp;omega)
    refine iI hrun ?_
    rw[hd]
    refine⟨_,_,M',hK,?_⟩
    have e:eff [(s,.ptx ds),(c,.any)] [] (eff ((c,.blk sz (bE [row] 0 0 n (List.replicate n .any)))::bB []) [] f)=eff [(s,.ptx ds),(c,.any)] [] f:=by
     funext q
     unfold eff
     simp only[List.lookup,bB,x0I]
     cases e1:q==s<;>cases e2:q==c<;>simp[aG]
    rw[e]at h'
    simpa[Act.put]using h'
   ·exact hr.elim
  ·exact hr.elim
 ·exact hr.elim
theorem BF(h:SR F nt S L w0 M0 f M a w){s:Nat}{x y:Opd}{x' y':Operand}{t:TypeId}(ho:o.op=.store t x' y')(hx:am F x x'=true)(hy:am F y y'=true)(hk:ig P t 1=true)
  (hr:aB C f o.dst K (.stG s x y)):o.wp P a w (PostX F nt S L w0 M0 f K) Q:=by
 simp only[aB]at hr
 obtain⟨hd,hs,hr⟩:=hr
 split at hr
 case h_2=>exact hr.elim
 rename_i c i0 o0 hfs
 obtain⟨rfl,rfl,hr⟩:=hr
 split at hr
 case h_2=>exact hr.elim
 rename_i sz row hfc
 obtain⟨hpure,hr⟩:=hr
 split at hr
 case h_2=>exact hr.elim
 rename_i c' i off hvx
 obtain⟨rfl,rfl,hoff,h1,hK⟩:=hr
 obtain⟨ρ,ω,hO⟩:=h.own
 have hc:10000<=c':=co hO (show aQ f (.r c')=some (sz,[row]) by simp only[aQ,hfc])
 have hxv:=hO.opd hx
 have hyv:=hO.opd hy
 have hyB:isX (vd f y)=false:=by
  cases hv:vd f y<;>first|rfl|(rw[hv]at h1;simp[nI,aH]at h1)
 have hone:(a.eval y').oneCell'=true:=by
  rw[ar hyB]at hyv
  cases hv:vd f y
  case ref p k n =>
   rw[hv]at hyv
   simp only[au]at hyv
   rcases hyv with ⟨_,A,e⟩|⟨cap,e,_⟩<;>rw[e]<;>rfl
  case adr p i off =>
   rw[hv]at hyv
   simp only[au]at hyv
   rw[hyv];rfl
  case mrf b =>
   rw[hv]at hyv
   simp only[au]at hyv
   rw[hyv];rfl
  all_goals first
   | (rw[hv]at h1;simp[nI,aH]at h1;done)
   | (rw[hv]at hyv h1;exact oneCell_of hyv (by simpa[nI]using h1))
 have hcl:(a.eval y').cells=#[a.eval y']:=by
  cases hv:a.eval y'<;>first|rfl|(rw[hv]at hone;simp[Value.oneCell']at hone)
 rw[hvx,ar rfl]at hxv
 simp only[au]at hxv
 obtain⟨vs,T,hω,h0,hl,g1,g2,g3,g4⟩:=hO.row (p:=.r c') hc (show aQ f (.r c')=some (sz,[row]) by simp[aQ,hfc]) (i:=0) rfl
 rw[h0]at hxv
 obtain⟨w',k1,k2,k3,k4,k5,k6,k7⟩:=fa (P:=P) (off:=(ρ (.r c')).base+0*sz+off) hk g1 (v:=a.eval y') (by rw[hcl];rfl) (by omega) (fun u hu=>by rw[hcl]at hu;simp at hu;rw[hu];exact hone)
 rw[hcl]at k2
 have hst:=h.store hO (b:=c') (i:=0) (off:=off) (n:=1) (cs:=[.any]) (us:=[a.eval y']) (bs:=[]) (src:=fun _=>none) (ks:=[]) hfc rfl (by omega) rfl rfl (ia g1 k2 k3 k4 k5 k6 k7)
  (fun j c u e1 e2=>.inl (by
   have:c=.any:=by
    cases j with
    | zero=>simpa using e1.symm
    | succ j=>simp at e1
   subst this
   exact⟨rfl,by simp[ae]⟩)) (fun j j' c e=>by cases e) (fun j c e=>by cases e) (by simp) (fun e=>by cases e)
 obtain⟨U,hU⟩:∃U,U=vs.take ((ρ (.r c')).base+0*sz+off)++#[a.eval y'].toList++vs.drop ((ρ (.r c')).base+0*sz+off+1):=⟨_,rfl⟩
 rw[<- hU]at k2
 obtain⟨row1,hrow1⟩:∃row1,row1=row.take off++[.any]++row.drop (off+1):=⟨_,rfl⟩
 have hset:bE [row] 0 off 1 [.any]=[row1]:=by simp[bE,hrow1]
 rw[hset]at hst
 have hsc:s≠c':=by omega
 have look1:eff ((c',.blk sz [row1])::bB []) [] f s=f s:=by
  have b1:(s==c')=false:=by simpa using hsc
  simp[eff,bB,List.lookup,b1,aG]
 have lookc:eff ((c',.blk sz [row1])::bB []) [] f c'=.blk sz [row1]:=by simp[eff,bB]
 have hyok:vd (eff ((c',.blk sz [row1])::bB []) [] f) y=vd f y:=by
  cases y with
  | c d=>rfl
  | t q =>
   simp only[vd]
   have q2:q≠c':=fun e=>by
    subst e
    simp only[vd,hfc]at h1
    cases h1
   have b2:(q==c')=false:=by simpa using q2
   simp[eff,bB,List.lookup,b2,aG]
 have hbase:(ρ (.r c')).base<=vs.length:=by omega
 have hUl:U.length=vs.length:=by
  rw[hU]
  simp
  omega
 have place:∀ρ' ω',Own F L (fun k=>S k\/w0.heap.size<=k) (eff ((c',.blk sz [row1])::bB []) [] f) M a w' ρ' ω'->(ρ' (.r c')).blk=(ρ (.r c')).blk/\(ρ' (.r c')).base=(ρ (.r c')).base:=fun ρ' ω' hO'=>by
  rcases hO.slots s hs with g|⟨v,e1,e2⟩
  ·rw[hfs]at g;cases g
  rcases hO'.slots s hs with g|⟨v',e3,e4⟩
  ·rw[look1,hfs]at g;cases g
  rw[e1]at e3
  cases e3
  rw[hfs,ar rfl]at e2
  rw[look1,hfs,ar rfl]at e4
  simp only[au,x0X,x0L]at e2 e4
  rw[e2]at e4
  simp only[Value.pointer.injEq,x0h,Addr.mk.injEq]at e4
  exact⟨e4.1.symm,e4.2.1.symm⟩
 have hUat:∀j v,((U.drop (ρ (.r c')).base).take row.length)[j]? = some v->U[(ρ (.r c')).base+j]? = some v:=fun j v e=>by
  rw[x0J]at e
  split at e
  ·rwa[x0q]at e
  ·cases e
 have hUoff:U[(ρ (.r c')).base+off]? = some (a.eval y'):=by
  rw[hU]
  simp only[x0X,x0L,x0O]
  rw[x0s (by simp;omega)]
  have:(ρ (.r c')).base+off-(vs.take ((ρ (.r c')).base+off)).length=0:=by simp;omega
  rw[this]
  rfl
 obtain⟨M',h'⟩:=hst.frzX (t:=s) hs (c:=c') (sz:=sz) (row:=row1) (ds:=row.set off (vd f y)) (vs:=(U.drop (ρ (.r c')).base).take row.length) (by rw[look1,hfs]) lookc
  (fun ρ' ω' hO'=>by
   obtain⟨p1,p2⟩:=place ρ' ω' hO'
   obtain⟨us,T',_,_,_,q1,_,_,q4⟩:=hO'.row (p:=.r c') hc (show aQ _ (.r c')=some (sz,[row1]) by simp only[aQ,lookc]) (i:=0) rfl
   rw[p1,k2]at q1
   have hus:us=U:=by
    have:=q1
    simp only[x0h,Obj.cells.injEq]at this
    simpa using this.1.symm
   subst hus
   refine⟨by simp;omega,fun j d v e1 e2=>?_⟩
   have e3:=hUat j v e2
   by_cases hj:j=off
   ·subst hj
    rw[hUoff]at e3
    cases e3
    rw[List.getElem?_set_self (by omega)]at e1
    cases e1
    have:=hO'.opd hy
    rw[hyok,ar hyB]at this
    exact this
   ·rw[List.getElem?_set_ne (Ne.symm hj)]at e1
    have e4:row1[j]? = some d:=by
     rw[hrow1]
     have hjl:j<row.length:=(x0c.1 e1).1
     rcases Nat.lt_or_gt_of_ne hj with h8|h8
     ·rw[x0O,x0v (by simp;omega),x0J,if_pos h8]
      exact e1
     ·rw[x0s (by simp;omega),x0q]
      rw[<- e1]
      congr 1
      simp;omega
    obtain⟨v',q5,q6⟩:=q4 j d e4
    rw[p2]at q5
    simp only[x0X,x0L]at q5
    rw[e3]at q5
    cases q5
    have hd1:=hpure d (x0d e1)
    have q7:bX F M ω' ρ' w' c' 0 j d v:=q6
    rw[aU (cr hd1)]at q7
    exact au.of_pure q7)
  (fun ρ' ω' hO'=>by
   obtain⟨p1,p2⟩:=place ρ' ω' hO'
   exact⟨U,T,by rw[p1];exact k2,fun j v hj=>by rw[p2];exact hUat j v hj⟩)
 refine iI (w':=w') (by simp only[execOp,ho,hxv,Sem.run_bind,k1,Result.andThen_ok,Sem.run_pure]) ?_
 rw[hd]
 refine⟨_,_,M',hK,?_⟩
 have e:eff [(s,.ptx (row.set off (vd f y))),(c',.any)] [] (eff ((c',.blk sz [row1])::bB []) [] f)=eff [(s,.ptx (row.set off (vd f y))),(c',.any)] [] f:=by
  funext q
  unfold eff
  simp only[List.lookup,bB,x0I]
  cases e1:q==s<;>cases e2:q==c'<;>simp[aG]
 rw[e]at h'
 simpa[Act.put]using h'
end
end Go.Gv

namespace Go.Gv
open Go.RowKit
section
variable{P:Program}{F:Fid}{C:Nat->List D->D->List D->Prop}{nt:Nat}{S:Nat->Prop}{L:Ln}{w0:World}{M0:Mem}{f:Nat->D}{M M':Mem}{a:Act}{w w':World}{o:Oper}{d:D}{Q:Exit->Act->World->Prop}{ρ ρ':Pa->Loc}{ω ω':Nat->Option Pa}{New:Nat->Prop}{K:List (Nat×D)->List (Nat×Bool)->Prop}
def mf(P:Program)(T:Nat):Bool:=match P.underlying T with
 | some (.interface _)=>false
 | some _=>true
 | none=>false
theorem Bi{T:Nat}(hk:mf P T=true)(v:Value):(Instr.makeInterface T v).run P w=.ok (.iface T v) w:=by
 unfold mf at hk
 split at hk
 ·cases hk
 ·rename_i u hu hn
  unfold Instr.makeInterface
  simp only[Sem.run_bind,run_underlying hn w,Result.andThen_ok]
  rfl
 ·cases hk
theorem Bj{T xT:Nat}(hk:mf P T=true)(v:Value):(Instr.typeAssert (.iface T v) xT T false).run P w=.ok v w:=by
 unfold mf at hk
 split at hk
 ·cases hk
 ·rename_i u hu hn
  unfold Instr.typeAssert
  simp only[Sem.run_bind,run_underlying hn w,Result.andThen_ok]
  cases u<;>first|(exact absurd hn (hu _))|simp
 ·cases hk
theorem Bz(h:SR F nt S L w0 M0 f M a w)(hp:bM nt f o.dst){T:Nat}{x:Opd}{x':Operand}{t:TypeId}(ho:o.op=.makeInterface t x')(hT:F.ty T=t)(hk:mf P t=true)(hx:am F x x'=true)
  (hr:res f (·=d) (.mkI T x)):o.wp P a w (bU F nt S L w0 M0 f o.dst d) Q:=by
 subst hT
 simp only[res]at hr
 have run:(execOp a.eval o).run P w=.ok (.value (.iface (F.ty T) (a.eval x'))) w:=by
  simp only[execOp,ho,Sem.run_bind,Bi hk,Result.andThen_ok,Sem.run_pure]
 split at hr
 ·rename_i p i off e
  subst hr
  refine br h hp (fun ρ ω hO=>⟨_,?_,run⟩)
  have h1:=hO.opd hx
  rw[e,ar rfl]at h1
  rw[ar rfl]
  simp only[au]at h1 ⊢
  rw[h1]
 ·rename_i k n e
  obtain⟨rfl,rfl⟩:=hr
  have h1:=h.opd hx (by simp[e,isV])
  rw[e]at h1
  simp only[ae]at h1
  exact aK h hp (by simp only[ae];rw[h1]) run
 ·exact hr.elim
theorem BH(h:SR F nt S L w0 M0 f M a w)(hp:bM nt f o.dst){T:Nat}{x:Opd}{x':Operand}{t xt:TypeId}(ho:o.op=.typeAssert x' xt t false)(hT:F.ty T=t)(hk:mf P t=true)(hx:am F x x'=true)
  (hr:res f (·=d) (.tya T x)):o.wp P a w (bU F nt S L w0 M0 f o.dst d) Q:=by
 subst hT
 simp only[res]at hr
 split at hr
 ·rename_i T' n e
  obtain⟨rfl,rfl⟩:=hr
  have h1:=h.opd hx (by simp[e,isV])
  rw[e]at h1
  simp only[ae]at h1
  refine aK h hp (v:=.int .i64 n) (by simp only[ae]) ?_
  simp only[execOp,ho,h1,Sem.run_bind,Bj hk,Result.andThen_ok,Sem.run_pure]
 ·exact hr.elim
theorem pE(hC:bC P F C)(h:SR F nt S L w0 M0 f M a w)(hp:∀t,o.dst=some t->t<nt){g fi:Nat}(hg:F g=some fi)(hO:Own F L (fun k=>S k\/w0.heap.size<=k) f M a w ρ ω){b sz:Nat}{es es':List (List D)}{W:List D}{vs:List Value}
  (hf:f b=.blk sz es) (hpos:0<es.length) (hc:C g (.blk sz es::W) d [.blk sz es',.nilp]) (hlen:vs.length=W.length)
  (hrep:∀ρ1:Pa->Loc,ρ1 (.r ap)=ρ (.r b)->∀(i:Nat) (d:D) (v:Value),W[i]? = some d->vs[i]? = some v->aY F M ρ1 d v)
  (hrun:(execOp a.eval o).run P w=(callFunc fi vs.toArray).run P w) (hK:K (bL o.dst d++[(b,.blk sz es')]) [(b,false)]):o.wp P a w (PostX F nt S L w0 M0 f K) Q:=by
 have hb:=hO.big hf
 have hroot:=hO.roots b sz es hb hf
 have hω:ω (ρ (.r b)).blk=some (.r b):=by
  rcases hroot with ⟨e0,_⟩|⟨hω,_⟩
  ·rw[e0]at hpos;simp at hpos
  ·exact hω
 obtain⟨ρ1,hρ1⟩:∃ρ1:Pa->Loc,ρ1=fun p=>ρ (p.to b):=⟨_,rfl⟩
 obtain⟨ω1,hω1⟩:∃ω1:Nat->Option Pa,ω1=fun k=>match ω k with
  | some p=>if p.root=b then some (p.to ap) else none
  | none=>none:=⟨_,rfl⟩
 have w1:∀k q,ω1 k=some q↔∃p:Pa,ω k=some p/\p.root=b/\q=p.to ap:=fun k q=>by
  rw[hω1]
  simp only
  constructor
  ·intro e
   split at e
   ·rename_i p hp
    split at e
    ·cases e;exact⟨p,hp,by assumption,rfl⟩
    ·cases e
   ·cases e
  ·rintro⟨p,e1,e2,rfl⟩
   simp only[e1,if_pos e2]
 have p1:∀p:Pa,p.root=b->ρ1 (p.to ap)=ρ p:=fun p hp=>by
  rw[hρ1]
  simp only
  rw[Pa.to_to b ap p hp]
 have lent:oA F M w ρ1 ω1 ap sz es:=by
  refine⟨(w1 _ _).2 ⟨.r b,?_,rfl,rfl⟩,cy.carry hroot (Mem.le_refl _) (fun p hp=>⟨p1 p hp,fun e=>⟨(w1 _ _).2 ⟨p,e,hp,rfl⟩,rfl⟩⟩),fun k p e=>?_,fun k p e=>?_,fun p q e=>?_⟩
  ·have:=p1 (.r b) rfl
   simp only[Pa.to]at this
   rw[this];exact hω
  ·obtain⟨p',e1,_⟩:=(w1 _ _).1 e
   exact hO.lt _ _ e1
  ·obtain⟨p',_,_,rfl⟩:=(w1 _ _).1 e
   exact Pa.to_root _ _
  ·obtain⟨p',e1,_⟩:=(w1 _ _).1 e
   exact hO.apart p p' e1
 have e1:ρ1 (.r ap)=ρ (.r b):=p1 (.r b) rfl
 have hM:=hC.runsM g fi sz es _ d es' hg hc M w vs ρ1 ω1 h.holds hlen (hrep ρ1 e1) lent
 unfold Oper.wp
 rw[hrun,bI (hC.body g fi hg),Oper.upon_enter]
 refine hM.mono ?_
 rintro e0 w' ⟨v,M',ρ',ω',rfl,q1,q2,q3,q4,q5,q6,q7,q8⟩
 exact⟨_,_,M',hK,h.lend hO hf hb hω p1 w1 q1 q2 q3 q4 (by rw[q6,e1]) q7 q8 hp q5⟩
def qk(P:Program)(T:Nat)(m:String)(fi:Nat):Bool:=match P.info? T,P.underlying T with
 | some i,some (.pointer _)=>match i.methods.find? (·.name==m) with
  | some mm=>mm.path.isEmpty&&(match mm.func with
   | some (f,true)=>f==fi
   | _=>false)
  | none=>false
 | _,_=>false
theorem yQ{t:TypeId}{i:TypeInfo}(h:P.info? t=some i):(typeInfo t).run P w=.ok i w:=by
 unfold typeInfo
 simp only[Sem.run_bind,run_program,Result.andThen_ok,h,Sem.run_pure]
theorem tT{T fi:Nat}{m:String}(hk:qk P T m fi=true)(a:Addr)(args:Array Value):(callMethod (.iface T (.pointer (some a))) m args).run P w=(callFunc fi (#[.pointer (some a)]++args)).run P w:=by
 unfold qk at hk
 split at hk
 ·rename_i i el hi hu
  split at hk
  ·rename_i mm hm
   simp only[x0a]at hk
   obtain⟨h1,h2⟩:=hk
   split at h2
   ·rename_i f hf
    obtain rfl:f=fi:=by simpa using h2
    have hmd:0<Made.depth:=by decide
    obtain⟨n,hn⟩:∃n,P.types.size+Made.depth=n+1:=⟨P.types.size+Made.depth-1,by omega⟩
    have hp:mm.path.toList=[]:=by
     have:mm.path=#[]:=by simpa using h1
     rw[this]
    unfold callMethod
    simp only[Sem.run_bind,run_program,Result.andThen_ok,hn]
    unfold method
    simp only[Sem.run_bind,yQ hi,Result.andThen_ok,hm,hp,follow,Sem.run_pure,hf,h1,if_true,receiverAt,run_underlying hu w,Place.get]
   ·cases h2
  ·cases hk
 ·cases hk
theorem wo(hC:bC P F C)(h:SR F nt S L w0 M0 f M a w)(hp:∀t,o.dst=some t->t<nt){g fi T:Nat}{m:String}{x:Opd}{xs:List Opd}{y:Operand}{ys:Array Operand}{ts:Array TypeId}(ho:o.op=.call { callee:=.invoke y m,args:=ys,argTypes:=ts })(hx0:am F x y=true)(hx:bK F xs ys.toList=true)
  (hg:F g=some fi) (hk:qk P (F.ty T) m fi=true) (hr:match vd f x with
  | .ifa T' (.r b) i off=>T'=T/\i=0/\off=0/\match f b with
   | .blk sz es=>0<es.length/\(∀x∈xs,isV (vd f x)=true)/\∃d,∃es':List (List D),0<es'.length/\C g (.blk sz es::.adr (.r 10015) 0 0::xs.map (vd f)) d [.blk sz es',.nilp]/\K (bL o.dst d++[(b,.blk sz es')]) [(b,false)]
   | _=>False
  | _=>False):o.wp P a w (PostX F nt S L w0 M0 f K) Q:=by
 split at hr
 ·rename_i T' b i off hvx
  obtain⟨rfl,rfl,rfl,hr⟩:=hr
  split at hr
  ·rename_i sz es hf
   obtain⟨hpos,hxs,d,es',hpos',hc,hK⟩:=hr
   obtain⟨ρ,ω,hO⟩:=h.own
   have hv:=hO.opd hx0
   rw[hvx,ar rfl]at hv
   simp only[au,x0X,x0L]at hv
   have hrep:aA F M (xs.map (vd f)) (ys.toList.map a.eval):=by
    have h1:=eJ h hx (by rw[x0f];exact hxs)
    rwa[x0m (g:=vd f) fun x hx'=>by unfold dpv;exact(iu (hxs x hx')).1]at h1
   refine pE hC h hp hg hO hf hpos hc (vs:=.pointer (some ⟨(ρ (.r b)).blk,(ρ (.r b)).base,none⟩)::ys.toList.map a.eval) (by simp[hrep.length]) (fun ρ1 e1 i d v k1 k2=>?_) ?_ hK
   ·cases i with
    | zero =>
     simp at k1 k2
     subst k1;subst k2
     rw[ar rfl]
     simp[au,<- e1,ap]
    | succ i =>
     simp only[x1D]at k1 k2
     obtain⟨v',hv',rv⟩:=hrep.get k1
     rw[k2]at hv'
     cases hv'
     exact aY.of_pure rv
   ·simp only[execOp,ho,resolve,Sem.run_bind,Sem.run_pure,Result.andThen_ok,invoke,hv]
    have e0:(#[Value.iface (F.ty T') (.pointer (some ⟨(ρ (.r b)).blk,(ρ (.r b)).base,none⟩))]++ys.map a.eval)[0]? = some (Value.iface (F.ty T') (.pointer (some ⟨(ρ (.r b)).blk,(ρ (.r b)).base,none⟩))):=by
     rw[Array.getElem?_append_left (by simp)];rfl
    simp only[e0,tT hk]
    congr 2
    apply Array.ext'
    simp
    exact x0z (by simp)
  ·exact hr.elim
 ·exact hr.elim
theorem wq(hC:bC P F C)(h:SR F nt S L w0 M0 f M a w)(hp:∀t,o.dst=some t->t<nt){g fi:Nat}{x:Opd}{xs:List Opd}{y:Operand}{ys:List Operand}{ts:Array TypeId}(ho:o.op=.call { callee:=.value (.func fi),args:=⟨y::ys⟩,argTypes:=ts })(hx0:am F x y=true)(hx:bK F xs ys=true)
  (hg:F g=some fi) (hr:match vd f x with
  | .ifa T (.r b) i off=>i=0/\off=0/\match f b with
   | .blk sz es=>0<es.length/\(∀x∈xs,isV (vd f x)=true)/\∃d,∃es':List (List D),0<es'.length/\C g (.blk sz es::.ifa T (.r 10015) 0 0::xs.map (vd f)) d [.blk sz es',.nilp]/\K (bL o.dst d++[(b,.blk sz es')]) [(b,false)]
   | _=>False
  | _=>False):o.wp P a w (PostX F nt S L w0 M0 f K) Q:=by
 split at hr
 ·rename_i T b i off hvx
  obtain⟨rfl,rfl,hr⟩:=hr
  split at hr
  ·rename_i sz es hf
   obtain⟨hpos,hxs,d,es',hpos',hc,hK⟩:=hr
   obtain⟨ρ,ω,hO⟩:=h.own
   have hv:=hO.opd hx0
   rw[hvx,ar rfl]at hv
   simp only[au,x0X,x0L]at hv
   have hrep:aA F M (xs.map (vd f)) (ys.map a.eval):=by
    have h1:=eJ h hx (by rw[x0f];exact hxs)
    rwa[x0m (g:=vd f) fun x hx'=>by unfold dpv;exact(iu (hxs x hx')).1]at h1
   refine pE hC h hp hg hO hf hpos hc (vs:=a.eval y::ys.map a.eval) (by simp[hrep.length]) (fun ρ1 e1 i d v k1 k2=>?_) ?_ hK
   ·cases i with
    | zero =>
     simp at k1 k2
     subst k1;subst k2
     rw[ar rfl,hv]
     simp[au,<- e1,ap]
    | succ i =>
     simp only[x1D]at k1 k2
     obtain⟨v',hv',rv⟩:=hrep.get k1
     rw[k2]at hv'
     cases hv'
     exact aY.of_pure rv
   ·simp only[execOp,ho,resolve,Act.eval,Deferred.ofValue,Sem.run_bind,Sem.run_pure,Result.andThen_ok,invoke]
    congr 2
    rw[x1q,x09]
    apply Array.ext'
    simp
    cases y<;>simp[Act.eval]
  ·exact hr.elim
 ·exact hr.elim
theorem SR.cutN(h:SR F nt S L w0 M0 f M a w)(ho:Own F L (fun k=>S k\/w0.heap.size<=k) f M a w ρ ω){b sz0 i0 o0 sz n:Nat}{es0 es:List (List D)}{row0:List D}(hf:f b=.blk sz0 es0)(hi0:es0[i0]? = some row0)(ho0:row0[o0]? = some (.own sz es))(hn:n<=es.length)
  {v:Value} (hv:au F M ρ (.ref (.n b i0 o0) 0 n) v) (hω:ω (ρ (.r b)).blk=some (.r b)) (hw:pJ w (ρ (.r b)).blk ((ρ (.r b)).base+i0*sz0+o0) 1 [v] w') :
  SR F nt S L w0 M0 (eff [(b,.blk sz0 (bE es0 i0 o0 1 [.own sz (es.take n)]))] [] f) M a w':=by
 have hb:=ho.big hf
 have hlt:o0<row0.length:=(x0c.1 ho0).1
 rcases ho.roots b sz0 es0 hb hf with ⟨e0,_⟩|⟨_,hrows⟩
 ·rw[e0]at hi0;simp at hi0
 obtain⟨h0,vs,T,h1,h2,h3,h4,h5⟩:=id hrows
 have hnew:=ho.new _ _ hω
 have hMb:∀p:Addr,p.block=(ρ (.r b)).blk->M p=none:=fun p hp=>ho.apart p (.r b) (by rw[hp];exact hω)
 have rest:∀(p:Pa),p≠.r b->ω (ρ p).blk=some p->w'.heap[(ρ p).blk]? = w.heap[(ρ p).blk]?:=fun p hp e=>hw.rest _ (by
  intro e2
  rw[e2,hω]at e
  cases e;exact hp rfl)
 have hfb:eff [(b,.blk sz0 (bE es0 i0 o0 1 [.own sz (es.take n)]))] [] f b=.blk sz0 (bE es0 i0 o0 1 [.own sz (es.take n)]):=aE (by simp)
 refine{ hnt:=h.hnt,size:=h.size,defers:=h.defers,ch:=ne h.ch hnew hw.rest hw.size hw.os hw.tape hw.output (Nat.le_of_eq hw.drawn.symm),holds:=fun p v hp=>?_,ext:=h.ext,fresh:=h.fresh,own:=⟨ρ,ω,?_⟩ }
 ·have hne:p.block≠(ρ (.r b)).blk:=fun e=>by rw[hMb p e]at hp;cases hp
  rw[World.cell?_of_block (hw.rest _ hne)]
  exact h.holds p v hp
 ·refine ho.step (ks:=[]) (fun p hp=>absurd rfl hp) (Mem.le_refl _) (Nat.le_of_eq hw.size.symm) (fun t ht=>.inl ?_) (fun c hc=>?_) (fun k p e=>.inl ⟨p,e⟩) ho.apart (fun c l hc hl hB=>⟨rfl,?_⟩)
  ·rcases bk (f:=f) (ks:=[]) (cL (d:=.blk sz0 (bE es0 i0 o0 1 [.own sz (es.take n)])) (show t≠b by omega))with h2|h2
   ·exact .inl h2
   ·exact .inr ⟨h2.1,rfl,h2.2⟩
  ·by_cases e:c=b
   ·subst e
    right
    refine .inl ⟨sz0,_,hfb,.inr ⟨hω,?_⟩⟩
    refine hrows.set hi0 (show o0+1<=row0.length by omega) rfl h1 rfl (hw.cells _ _ h1) (fun i' r' off' d v' k1 k2 k3 k4=>bX.frame k4 (Mem.le_refl _) ⟨rfl,fun e=>⟨e,rest _ (by simp) e⟩⟩) (fun j d u k1 k2=>?_)
    cases j with
    | succ j=>simp at k1
    | zero =>
     simp at k1 k2
     subst k1;subst k2
     obtain⟨v',_,_,k4⟩:=h5 i0 row0 o0 _ hi0 ho0
     have hl:(es.take n).length=n:=by simp;omega
     refine⟨by rw[hl];exact hv,?_⟩
     rcases k4 with ⟨rfl,k5⟩|⟨k5,k6⟩
     ·exact .inl ⟨by simp,k5⟩
     ·refine .inr ⟨k5,?_⟩
      obtain⟨g0,us,T',g1,g2,g3,g4,g5⟩:=k6
      refine⟨g0,us,T',(rest _ (by simp) k5).trans g1,g2,?_,fun e he=>g4 e (x0G he),fun i r off d hi hr=>?_⟩
      ·rw[hl]
       have:n*sz<=es.length*sz:=x0o _ hn
       show(ρ (.n c i0 o0)).base+n*sz<=(ρ (.n c i0 o0)).len
       omega
      ·have hin:i<n:=by have:=(x0c.1 hi).1;omega
       rw[x0A hin]at hi
       exact g5 i r off d hi hr
   ·left
    have hl:=cL (s:=c) (b:=b) (d:=.blk sz0 (bE es0 i0 o0 1 [.own sz (es.take n)])) e
    rcases bj (f:=f) (ks:=[]) hl with h1|h1
    ·exact .inl h1
    ·exact .inr ⟨h1,fun p hp=>⟨rfl,fun e'=>⟨e',rest _ (by rintro rfl;exact e hp.symm) e'⟩⟩⟩
  ·by_cases e:c=b
   ·subst e;rw[hf];rfl
   ·rcases bj (f:=f) (ks:=[]) (cL (s:=c) (b:=b) (d:=.blk sz0 (bE es0 i0 o0 1 [.own sz (es.take n)])) e)with h1|h1
    ·rw[hB]at h1;cases h1
    ·rw[<- h1];exact hB
theorem BG(h:SR F nt S L w0 M0 f M a w){x v:Opd}{x' v':Operand}{t:TypeId}(ho:o.op=.store t x' v')(hx:am F x x'=true)(hv:am F v v'=true)(hk:ig P t 1=true)
  (hr:aB C f o.dst K (.stL x v)):o.wp P a w (PostX F nt S L w0 M0 f K) Q:=by
 simp only[aB]at hr
 obtain⟨hd,hr⟩:=hr
 obtain⟨ρ,ω,hO⟩:=h.own
 split at hr
 ·rename_i b i off b' i' o' k n ex ev
  obtain⟨rfl,rfl,rfl,rfl,hr⟩:=hr
  split at hr
  ·rename_i sz0 es0 hf
   obtain⟨row0,hi0,sz,es,ho0,hn,hK⟩:=hr
   have hxv:=hO.opd hx
   have hvv:=hO.opd hv
   rw[ex,ar rfl]at hxv
   rw[ev,ar rfl]at hvv
   obtain⟨vs,T,hω,h0,hl,g1,g2,g3,g4⟩:=hO.row (p:=.r b') (hO.big hf) (show aQ f (.r b')=some (sz0,es0) by simp[aQ,hf]) hi0
   have hlt:o'<row0.length:=(x0c.1 ho0).1
   have h1:(a.eval v').cells=#[a.eval v']/\(a.eval v').oneCell'=true:=by
    simp only[au]at hvv
    rcases hvv with ⟨_,A,e⟩|⟨cap,e,_⟩<;>rw[e]<;>exact⟨rfl,rfl⟩
   simp only[au]at hxv
   rw[h0]at hxv
   obtain⟨w',k1,k2,k3,k4,k5,k6,k7⟩:=fa (P:=P) (off:=(ρ (.r b')).base+i'*sz0+o') hk g1 (by rw[h1.1];rfl) (by omega) (v:=a.eval v') (fun u hu=>by rw[h1.1]at hu;simp at hu;subst hu;exact h1.2)
   rw[h1.1]at k2
   refine iI (w':=w') (by simp only[execOp,ho,hxv,Sem.run_bind,k1,Result.andThen_ok,Sem.run_pure]) ?_
   rw[hd]
   exact⟨_,_,M,hK,by simpa[Act.put]using h.cutN hO hf hi0 ho0 hn hvv hω (ia g1 k2 k3 k4 k5 k6 k7)⟩
  ·exact hr.elim
 ·exact hr.elim
end
end Go.Gv

namespace Go.Gv
open Go.RowKit
section
variable{P:Program}{F:Fid}{C:Nat->List D->D->List D->Prop}{nt:Nat}{S:Nat->Prop}{L:Ln}{w0:World}{M0:Mem}{f:Nat->D}{M M':Mem}{a:Act}{w w':World}{o:Oper}{d:D}{Q:Exit->Act->World->Prop}{ρ ρ':Pa->Loc}{ω ω':Nat->Option Pa}{New:Nat->Prop}{K:List (Nat×D)->List (Nat×Bool)->Prop}
theorem Own.know(h:Own F L New f M a w ρ ω){s:Nat}(hs:s<10000){v:Value}(hv:a.tmps[s]? = some v)(r:aY F M ρ d v)(hB:isB d=false):Own F L New (eff [(s,d)] [] f) M a w ρ ω:=by
 have key:∀t,t≠s->eff [(s,d)] [] f t=f t:=fun t ht=>by
  have e1:(t==s)=false:=by simpa using ht
  simp[eff,x0g,e1,aG]
 refine h.step (ks:=[]) (fun p hp=>absurd rfl hp) (Mem.le_refl _) (x0k _) (fun t ht=>?_) (fun c hc=>.inl (.inr ⟨key c (by omega),fun p _=>⟨rfl,fun e=>⟨e,rfl⟩⟩⟩)) (fun k p e=>.inl ⟨p,e⟩) h.apart (fun c l hc hl hB'=>⟨rfl,?_⟩)
 ·by_cases e:t=s
  ·subst e
   exact .inr (.inr ⟨v,hv,by rw[aE (d:=d) (by simp)];exact r⟩)
  ·exact .inl (.inr ⟨key t e,rfl,rfl⟩)
 ·rw[key c (by omega)]at hB';exact hB'
theorem SR.know(h:SR F nt S L w0 M0 f M a w){s:Nat}(ho:Own F L (fun k=>S k\/w0.heap.size<=k) (eff [(s,d)] [] f) M a w ρ ω):SR F nt S L w0 M0 (eff [(s,d)] [] f) M a w :=
 ⟨h.hnt,h.size,h.defers,h.ch,h.holds,h.ext,h.fresh,ρ,ω,ho⟩
theorem ri{p:Addr}:∀{vs us:List Value},b9 M p vs->b9 M p us->vs.length=us.length->vs=us:=by
 intro vs us h1 h2 hl
 apply x1m hl
 intro i k1 k2
 have e1:=h1 i _ (x0e k1)
 have e2:=h2 i _ (x0e k2)
 rw[e1]at e2
 exact Option.some.inj e2
theorem y4(h:SR F nt S L w0 M0 f M a w){t:Nat}(hd:o.dst=some t)(ht:t<nt)(hL:L (rt t 0)=none){s:Nat}{x:Opd}{x':Operand}{T:TypeId}(ho:o.op=.box T x')(hx:am F x x'=true)
  (hr:aB C f (some t) K (.boxK s x)):o.wp P a w (PostX F nt S L w0 M0 f K) Q:=by
 simp only[aB]at hr
 obtain⟨hs,hst,hr⟩:=hr
 split at hr
 ·rename_i c k n ex
  obtain⟨rfl,hcb,hr⟩:=hr
  split at hr
  ·rename_i sz es hf
   obtain⟨hsz,hn,hc1,hr⟩:=hr
   split at hr
   ·rename_i ds hfs
    obtain⟨hment,hK⟩:=hr
    obtain⟨ρ,ω,hO⟩:=h.own
    have hc:=hO.big hf
    have hb:=rt_big t 0
    obtain⟨us,hval,hus⟩:∃us:List Value,a.eval x'=.agg us.toArray/\cw F M ρ [.nils,.ref (.r c) 0 n] us:=by
     have:=hO.opd hx
     rw[ex]at this
     exact this
    obtain⟨u0,u1,rfl⟩:∃u0 u1,us=[u0,u1]:=by
     have:=hus.1
     match us,this with
     | [u0,u1],_=>exact⟨u0,u1,rfl⟩
    have hu0:u0=.slice none 0 0:=by
     have:=hus.2 0 _ _ rfl rfl
     simpa only[au,ae]using this
    have hu1:∀ρ ω,Own F L (fun k=>S k\/w0.heap.size<=k) f M a w ρ ω->au F M ρ (.ref (.r c) 0 n) u1:=fun ρ ω hO=>by
     have:=hO.opd hx
     rw[ex]at this
     obtain⟨us',e1,e2⟩:=this
     rw[hval]at e1
     have e3:[u0,u1]=us':=by simpa using e1
     subst e3
     exact e2.2 1 _ _ rfl rfl
    obtain⟨w1,hw1⟩:∃w1,w1=w.alloc (.cells (a.eval x').cells.toList.toArray T):=⟨_,rfl⟩
    have hcells:(a.eval x').cells.toList=[u0,u1]:=by rw[hval];rfl
    have hrun:(execOp a.eval o).run P w=.ok (.value (.pointer (some ⟨w.heap.size,0,none⟩))) w1:=by
     rw[hw1]
     simp only[execOp,ho,Instr.box,Sem.run_bind,run_newVar,Result.andThen_ok,Sem.run_pure]
    by_cases hnz:n=0
    ·rw[if_pos hnz]at hK
     refine fc hrun ?_
     rw[hd]
     refine⟨_,_,M,hK,?_⟩
     refine h.make (es:=[[.own sz [],.any]]) (sz:=2) (bs:=[]) (src:=fun _ _=>none) (vs:=[u0,u1]) (T:=T) ht hb hL (by rw[hw1];exact alloc_below _ _) (by rw[hw1];simp) (by rw[hw1,hcells];exact heap_alloc_at _ _) (by simp) (by simp) (fun i r off c' hi hr'=>?_) (fun i off i' off' c' e1 e2=>by cases e1) (fun i off c' e=>by cases e) (fun ρ M e=>?_)
     ·cases i with
      | succ i=>simp at hi
      | zero =>
       simp at hi;subst hi
       match off,hr' with
       | 0,hr' =>
        simp at hr';subst hr'
        exact⟨u0,rfl,.inr (.inl ⟨sz,rfl,hsz,rfl,none,hu0⟩)⟩
       | 1,hr' =>
        simp at hr';subst hr'
        exact⟨u1,rfl,.inl ⟨rfl,by simp only[ae]⟩⟩
       | off+2,hr'=>simp at hr'
     ·rw[ar rfl];simp[au,e]
    rw[if_neg hnz]at hK
    have hn0:0<n:=Nat.pos_of_ne_zero hnz
    have hslot:∀{f':Nat->D} {a':Act} {w':World} {ρ':Pa->Loc} {ω':Nat->Option Pa},Own F L (fun k=>S k\/w0.heap.size<=k) f' M a' w' ρ' ω'->f' s=.ptx ds->∃(p:Addr) (vs:List Value),a'.tmps[s]? = some (.pointer (some p))/\cw F M ρ' ds vs/\b9 M p vs:=fun{f' a' w' ρ' ω'} hO' e=>by
     rcases hO'.slots s hs with h1|⟨v,h1,h2⟩
     ·rw[e]at h1;cases h1
     ·rw[e]at h2
      obtain⟨p,vs,rfl,h3,h4⟩:=h2
      exact⟨p,vs,h1,h3,h4⟩
    have hmake:SR F nt S L w0 M0 (eff ((t,.adr (.r (rt t 0)) 0 0)::(rt t 0,.blk 2 [[.own sz [],.own sz es]])::bB [c]) [(rt t 0,true)] f) M (a.put (some t) (.pointer (some ⟨w.heap.size,0,none⟩))) w1:=by
     refine h.make (es:=[[.own sz [],.own sz es]]) (sz:=2) (src:=fun i off=>if i=0/\off=1 then some c else none) (vs:=[u0,u1]) (T:=T) ht hb hL (by rw[hw1];exact alloc_below _ _) (by rw[hw1];simp) (by rw[hw1,hcells];exact heap_alloc_at _ _) (by simp) (by simp) (fun i r off c' hi hr'=>?_) (fun i off i' off' c' e1 e2=>?_) (fun i off c' e=>?_) (fun ρ M e=>?_)
     ·cases i with
      | succ i=>simp at hi
      | zero =>
       simp at hi;subst hi
       match off,hr' with
       | 0,hr' =>
        simp at hr';subst hr'
        exact⟨u0,rfl,.inr (.inl ⟨sz,rfl,hsz,by simp,none,hu0⟩)⟩
       | 1,hr' =>
        simp at hr';subst hr'
        exact⟨u1,rfl,.inr (.inr ⟨sz,es,c,by simp,rfl,hf,hc1,fun ρ ω hO=>by rw[hn];exact hu1 ρ ω hO⟩)⟩
       | off+2,hr'=>simp at hr'
     ·split at e1
      ·split at e2
       ·rename_i k1 k2;exact⟨by omega,by omega⟩
       ·cases e2
      ·cases e1
     ·split at e
      ·cases e;exact⟨by simp,hcb⟩
      ·cases e
     ·rw[ar rfl];simp[au,e]
    refine fc hrun ?_
    rw[hd]
    refine⟨_,_,M,hK,?_⟩
    obtain⟨f1,hf1⟩:∃f1,f1=eff ((t,.adr (.r (rt t 0)) 0 0)::(rt t 0,.blk 2 [[.own sz [],.own sz es]])::bB [c]) [(rt t 0,true)] f:=⟨_,rfl⟩
    rw[<- hf1]at hmake
    have htb:rt t 0≠t:=by unfold rt;omega
    have hfin:eff [(t,.adr (.r (rt t 0)) 0 0),(rt t 0,.blk 2 [[.own sz [],.own sz es]]),(c,.any),(s,.ptx (ds.map (nZ c (.n (rt t 0) 0 1))))] [(rt t 0,true)] f=eff [(s,.ptx (ds.map (nZ c (.n (rt t 0) 0 1))))] [] f1:=by
     funext y
     by_cases e:y=s
     ·subst e
      have e1:(y==t)=false:=by simpa using hst
      have e2:(y==rt t 0)=false:=by simp;omega
      have e3:(y==c)=false:=by simp;omega
      rw[aE (d:=.ptx (ds.map (nZ c (.n (rt t 0) 0 1)))) (by simp only[x0g,e1,e2,e3,beq_self_eq_true]),aE (d:=.ptx (ds.map (nZ c (.n (rt t 0) 0 1)))) (by simp)]
     ·have e1:(y==s)=false:=by simpa using e
      have k1:eff [(s,.ptx (ds.map (nZ c (.n (rt t 0) 0 1))))] [] f1 y=f1 y:=by
       simp[eff,x0g,e1,aG]
      rw[k1,hf1]
      unfold eff
      simp only[bB,x0t,x0I,x0g,e1,x0w]
    rw[hfin]
    obtain⟨ρ',ω',hO'⟩:=hmake.own
    have hfs1:f1 s=.ptx ds:=by
     rw[hf1]
     have e1:(s==t)=false:=by simpa using hst
     have e2:(s==rt t 0)=false:=by simp;omega
     have e3:(s==c)=false:=by simp;omega
     have e4:(ds.any (aO (rt t 0) true))=false:=by
      simp only[x1h]
      intro y hy
      have:=x0f.1 hment y hy
      simpa using this
     have e5:aG [(rt t 0,true)] (f s)=false:=by
      rw[hfs]
      simp only[aG,List.any_cons,x1E,cV,e4,Bool.or_false]
     have e6:((t,D.adr (.r (rt t 0)) 0 0)::(rt t 0,D.blk 2 [[.own sz [],.own sz es]])::bB [c]).lookup s=none:=by
      simp only[bB,x0t,x0I,x0g,e1,e2,e3,x0w]
     unfold eff
     rw[e6]
     simp only[e5]
     exact hfs
    obtain⟨p,vs,g1,g2,g3⟩:=hslot hO hfs
    obtain⟨p',vs',g1',g2',g3'⟩:=hslot hO' hfs1
    have htm:(a.put (some t) (.pointer (some ⟨w.heap.size,0,none⟩))).tmps[s]? = a.tmps[s]?:=getElem?_put hst
    rw[htm,g1]at g1'
    cases g1'
    obtain rfl:vs=vs':=ri g3 g3' (by rw[<- g2.1,<- g2'.1])
    have hfb:f1 (rt t 0)=.blk 2 [[.own sz [],.own sz es]]:=by
     rw[hf1]
     refine aE ?_
     have e1:(rt t 0==t)=false:=by simpa using htb
     simp[x0g,e1]
    have hft:f1 t=.adr (.r (rt t 0)) 0 0:=by rw[hf1];exact aE (by simp)
    have hwh:w1.heap[w.heap.size]? = some (.cells [u0,u1].toArray T (0,0)):=by rw[hw1,hcells];exact heap_alloc_at _ _
    have hloc:ρ' (.n (rt t 0) 0 1)=ρ (.r c):=by
     have ha:(ρ' (.r (rt t 0))).blk=w.heap.size/\(ρ' (.r (rt t 0))).base=0:=by
      rcases hO'.slots t (by have:=h.hnt;omega)with k1|⟨v,k1,k2⟩
      ·rw[hft]at k1;cases k1
      ·rw[getElem?_put_same (by rw[h.size];exact ht)]at k1
       cases k1
       rw[hft,ar rfl]at k2
       simp only[au,Value.pointer.injEq,x0h,Addr.mk.injEq,and_true]at k2
       exact⟨k2.1.symm,by omega⟩
     rcases hO'.roots (rt t 0) 2 _ hb hfb with ⟨e0,_⟩|⟨_,q0,us,T0,q1,q2,q3,q4,q5⟩
     ·cases e0
     ·rw[ha.1,hwh]at q1
      simp only[x0h,Obj.cells.injEq,and_true]at q1
      obtain rfl:[u0,u1]=us:=by simpa using congrArg Array.toList q1.1
      obtain⟨v,k1,k2,k3⟩:=q5 0 _ 1 _ rfl rfl
      rw[ha.2]at k1
      simp at k1
      subst k1
      have r0:=hu1 ρ ω hO
      rw[hn]at k2
      simp only[au]at k2 r0
      rcases r0 with ⟨z,_⟩|⟨cap,r1,r2,r3,_⟩
      ·omega
      rcases k2 with ⟨z,_⟩|⟨cap',r1',r2',r3',_⟩
      ·omega
      rw[r1]at r1'
      simp only[Value.slice.injEq,x0h,Addr.mk.injEq,x0X,x0L,and_true,true_and]at r1'
      obtain⟨⟨l1,l2⟩,l3⟩:=r1'
      rcases hO.roots c sz es hc hf with ⟨z,_⟩|⟨m0,m1,us1,T1,m2,m3,m4,m5,m6⟩
      ·rw[z]at hn;simp at hn;omega
      rcases k3 with ⟨z,_⟩|⟨m0',m1',us1',T1',m2',m3',m4',m5',m6'⟩
      ·rw[z]at hn;simp at hn;omega
      have hlt:=hO.lt _ _ m0
      have hh:w1.heap[(ρ (.r c)).blk]? = w.heap[(ρ (.r c)).blk]?:=by
       rw[hw1];exact(alloc_below w _).block _ hlt
      rw[<- l1,hh,m2]at m2'
      simp only[x0h,Obj.cells.injEq,and_true]at m2'
      obtain rfl:us1=us1':=by simpa using congrArg Array.toList m2'.1
      have k4:∀x y:Loc,x.blk=y.blk->x.base=y.base->x.sz=y.sz->x.len=y.len->x=y:=by
       intro x y;cases x;cases y;simp;omega
      exact k4 _ _ l1.symm l2.symm (by rw[m1',m1]) (by rw[<- m3',<- m3])
    refine hmake.know (hO'.know hs (v:=.pointer (some p)) (by rw[htm];exact g1) ⟨p,vs,rfl,⟨by simp[g2.1],fun i d v e1 e2=>?_⟩,g3⟩ rfl)
    rw[x0y,x0i]at e1
    obtain⟨d0,e1,rfl⟩:=e1
    have r:=g2.2 i d0 v e1 e2
    have r':=g2'.2 i d0 v e1 e2
    unfold nZ
    split
    ·split
     ·rename_i c' k m e
      subst e
      simp only[au]at r ⊢
      rw[hloc]
      exact r
     ·exact r'
    ·exact r'
   ·exact hr.elim
  ·exact hr.elim
 ·exact hr.elim
end
end Go.Gv

namespace Go.Gv
open Go.RowKit
section
variable{P:Program}{F:Fid}{C:Nat->List D->D->List D->Prop}{nt:Nat}{S:Nat->Prop}{L:Ln}{w0:World}{M0:Mem}{f:Nat->D}{M M':Mem}{a:Act}{w w':World}{o:Oper}{d:D}{Q:Exit->Act->World->Prop}{ρ ρ':Pa->Loc}{ω ω':Nat->Option Pa}{New:Nat->Prop}{K:List (Nat×D)->List (Nat×Bool)->Prop}
theorem Co{x y:Nat->Value}{v:Value}(h1:bq d=true)(h2:ae { F with vals:=x } M d v):ae { F with vals:=y } M' d v:=by
 cases d<;>first|(simp[bq]at h1;done)|(simp only[ae]at h2 ⊢;exact h2)|(simp only[ae])
theorem Hz{y:Nat->Value}{v:Value}(h1:bq d=true)(h2:ae F M d v):ae { F with vals:=y } M' d v:=Co (x:=F.vals) h1 h2
theorem HA{y:Nat->Value}{v:Value}(h1:bq d=true)(h2:ae { F with vals:=y } M d v):ae F M' d v:=Co (y:=F.vals) h1 h2
def Bl(ω:Nat->Option Pa)(b:Nat):Nat->Option Pa:=fun k=>match ω k with
 | some p=>if p=.n b 0 1 then some p else none
 | none=>none
theorem og{b k:Nat}{p:Pa}:Bl ω b k=some p↔ω k=some (.n b 0 1)/\p=.n b 0 1:=by
 unfold Bl
 split
 ·rename_i q hq
  split
  ·rename_i e;subst e;simp[hq];exact eq_comm
  ·rename_i e
   constructor
   ·intro h;cases h
   ·rintro⟨h,rfl⟩;rw[hq]at h;cases h;exact absurd rfl e
 ·rename_i hq
  simp[hq]
theorem wr(hC:bC P F C)(h:SR F nt S L w0 M0 f M a w)(hp:∀t,o.dst=some t->t<nt){g fi s:Nat}{x:Opd}{xs:List Opd}{y:Operand}{ys:List Operand}{ts:Array TypeId}(ho:o.op=.call { callee:=.value (.func fi),args:=⟨y::ys⟩,argTypes:=ts })(hx0:am F x y=true)(hx:bK F xs ys=true)
  (hg:F g=some fi) (hr:aB C f o.dst K (.callQ g s x xs)):o.wp P a w (PostX F nt S L w0 M0 f K) Q:=by
 simp only[aB]at hr
 split at hr
 ·rename_i T b i off hvx
  obtain⟨rfl,rfl,hs,hst,hxs,hr⟩:=hr
  split at hr
  ·rename_i sz sz1 fs sz2 sp hf
   split at hr
   ·rename_i ds hfs
    obtain⟨hkeep,hfl1,hfl2,d,fs',hd1,hfl3,hc,hK⟩:=hr
    obtain⟨ρ,ω,hO⟩:=h.own
    have hb:=hO.big hf
    have hv:=hO.opd hx0
    rw[hvx,ar rfl]at hv
    simp only[au,x0X,x0L]at hv
    obtain⟨hω,q0,us0,T0,q1,q2,q3,q4,q5⟩:ω (ρ (.r b)).blk=some (.r b)/\fA w (ρ (.r b)) sz [[.own sz1 fs,.own sz2 sp]] (fun i off d v=>bX F M ω ρ w b i off d v):=by
     rcases hO.roots b sz _ hb hf with ⟨e0,_⟩|hh
     ·cases e0
     ·exact hh
    obtain⟨v0,k0,c0⟩:=q5 0 _ 0 _ rfl rfl
    obtain⟨v1,k1,c1⟩:=q5 0 _ 1 _ rfl rfl
    obtain⟨c01,c02⟩:=c0
    obtain⟨c11,c12⟩:=c1
    obtain⟨M1,hM1⟩:∃M1,M1=aT (Bl ω b) M w:=⟨_,rfl⟩
    have hMle:M.le M1:=by
     intro p v hp
     rw[hM1]
     unfold aT
     split
     ·rename_i q hq
      obtain⟨e1,e2⟩:=og.1 hq
      rw[hO.apart p _ e1]at hp;cases hp
     ·exact hp
    have hMh:∀p v,M1 p=some v->w.cell? p=some v:=by rw[hM1];exact a8 h.holds
    obtain⟨F1,hF1⟩:∃F1:Fid,F1={ F with vals:=fun _=>v1 }:=⟨_,rfl⟩
    have up:∀{d:D} {v:Value} {M2:Mem},bq d=true->ae F M d v->ae F1 M2 d v:=fun h1 h2=>by rw[hF1];exact Hz h1 h2
    have dn:∀{d:D} {v:Value} {M2:Mem},bq d=true->ae F1 M2 d v->ae F M d v:=fun h1 h2=>by rw[hF1]at h2;exact HA h1 h2
    have hslv:ae F1 M1 (.slv 0 sp) v1:=by
     have h1:bV (Bl ω b) ρ w (.n b 0 1) sz2 sp (fun _ _ d v=>ae F M d v):=by
      rcases c12 with e|⟨e1,e2⟩
      ·exact .inl e
      ·exact .inr ⟨og.2 ⟨e1,rfl⟩,e2⟩
     have h2:=lY (F:=F1) (M:=M) h1 (fun d=>d) (fun i r off d v hi hr hc=>up (hfl2 r (x0d hi) d (x0d hr)) hc) (k:=0) (n:=sp.length) (by omega) (by
      simpa only[au]using c11)
     rw[<- hM1]at h2
     simp only[List.drop_zero,List.take_length,List.map_id']at h2
     simp only[ae]at h2 ⊢
     refine⟨by rw[hF1],?_⟩
     simpa using h2
    obtain⟨ρ1,hρ1⟩:∃ρ1:Pa->Loc,ρ1=fun p=>ρ (p.to b):=⟨_,rfl⟩
    obtain⟨ω1,hω1⟩:∃ω1:Nat->Option Pa,ω1=fun k=>match ω k with
     | some p=>if p.root=b then some (p.to ap) else none
     | none=>none:=⟨_,rfl⟩
    obtain⟨ω3,hω3⟩:∃ω3:Nat->Option Pa,ω3=fun k=>match ω k with
     | some p=>if p.root=b/\p≠.n b 0 1 then some (p.to ap) else none
     | none=>none:=⟨_,rfl⟩
    have w1:∀k q,ω1 k=some q↔∃p:Pa,ω k=some p/\p.root=b/\q=p.to ap:=fun k q=>by
     rw[hω1]
     simp only
     constructor
     ·intro e
      split at e
      ·rename_i p hp
       split at e
       ·cases e;exact⟨p,hp,by assumption,rfl⟩
       ·cases e
      ·cases e
     ·rintro⟨p,e1,e2,rfl⟩
      simp only[e1,if_pos e2]
    have w3:∀k q,ω3 k=some q↔∃p:Pa,ω k=some p/\p.root=b/\p≠.n b 0 1/\q=p.to ap:=fun k q=>by
     rw[hω3]
     simp only
     constructor
     ·intro e
      split at e
      ·rename_i p hp
       split at e
       ·rename_i e2;cases e;exact⟨p,hp,e2.1,e2.2,rfl⟩
       ·cases e
      ·cases e
     ·rintro⟨p,e1,e2,e3,rfl⟩
      simp only[e1,if_pos (And.intro e2 e3)]
    have p1:∀p:Pa,p.root=b->ρ1 (p.to ap)=ρ p:=fun p hp=>by
     rw[hρ1]
     simp only
     rw[Pa.to_to b ap p hp]
    have pr:ρ1 (.r ap)=ρ (.r b):=p1 (.r b) rfl
    have pn:∀i o,ρ1 (.n ap i o)=ρ (.n b i o):=fun i o=>p1 (.n b i o) rfl
    have lent:oA F1 M1 w ρ1 ω3 ap sz [[.own sz1 fs,.slv 0 sp]]:=by
     refine⟨(w3 _ _).2 ⟨.r b,by rw[pr];exact hω,rfl,by simp,rfl⟩,.inr ⟨(w3 _ _).2 ⟨.r b,by rw[pr];exact hω,rfl,by simp,rfl⟩,?_⟩,fun k p e=>?_,fun k p e=>?_,fun p q e=>?_⟩
     ·rw[pr]
      refine⟨q0,us0,T0,q1,q2,q3,fun e he=>?_,fun i r off d hi hr=>?_⟩
      ·have:=q4 _ (x1a.2 rfl)
       rw[x1a.1 he,<- this];rfl
      ·cases i with
       | succ i=>simp at hi
       | zero =>
        simp at hi;subst hi
        match off,hr with
        | 0,hr =>
         simp at hr;subst hr
         refine⟨v0,k0,?_,?_⟩
         ·simp only[au]at c01 ⊢
          rw[pn];exact c01
         ·unfold bV at c02 ⊢
          rw[pn]
          rcases c02 with e|⟨e1,g0,us,T2,g1,g2,g3,g4,g5⟩
          ·exact .inl e
          ·refine .inr ⟨(w3 _ _).2 ⟨.n b 0 0,e1,rfl,by simp,rfl⟩,g0,us,T2,g1,g2,g3,g4,fun i r off d hi hr=>?_⟩
           obtain⟨u,m1,m2⟩:=g5 i r off d hi hr
           exact⟨u,m1,up (hfl1 r (x0d hi) d (x0d hr)) m2⟩
        | 1,hr =>
         simp at hr;subst hr
         exact⟨v1,k1,hslv⟩
        | off+2,hr=>simp at hr
     ·obtain⟨p',e1,_⟩:=(w3 _ _).1 e
      exact hO.lt _ _ e1
     ·obtain⟨p',_,_,_,rfl⟩:=(w3 _ _).1 e
      exact Pa.to_root _ _
     ·obtain⟨p',e1,_,e3,_⟩:=(w3 _ _).1 e
      rw[hM1]
      unfold aT
      split
      ·rename_i q' hq
       obtain⟨e4,_⟩:=og.1 hq
       rw[e1]at e4;cases e4;exact absurd rfl e3
      ·exact hO.apart p p' e1
    have hrep:aA F M (xs.map (vd f)) (ys.map a.eval):=by
     have hxV:∀x∈xs,isV (vd f x)=true:=fun x hx=>by
      have:=hxs x hx
      cases hq:vd f x<;>first|rfl|(rw[hq]at this;simp[bq]at this)
     have h1:=eJ h hx (by rw[x0f];exact hxV)
     rwa[x0m (g:=vd f) fun x hx'=>by unfold dpv;exact(iu (hxV x hx')).1]at h1
    have hQ:=hC.runsQ g fi sz _ _ d _ hg hc (fun _=>v1)
    rw[<- hF1]at hQ
    have hrun:(execOp a.eval o).run P w=(callFunc fi (a.eval y::ys.map a.eval).toArray).run P w:=by
     simp only[execOp,ho,resolve,Act.eval,Deferred.ofValue,Sem.run_bind,Sem.run_pure,Result.andThen_ok,invoke]
     congr 2
     rw[x1q,x09]
     apply Array.ext'
     simp
     cases y<;>simp[Act.eval]
    have hM:=hQ M1 w (a.eval y::ys.map a.eval) ρ1 ω3 hMh (by simp[hrep.length]) (fun i d v k1 k2=>by
     cases i with
     | zero =>
      simp at k1 k2
      subst k1;subst k2
      rw[ar rfl,hv]
      rw[show(10015:Nat)=ap from rfl]
      simp only[au,pr,hF1,x0X,x0L]
     | succ i =>
      simp only[x1D]at k1 k2
      obtain⟨v',hv',rv⟩:=hrep.get k1
      rw[k2]at hv'
      cases hv'
      rw[x0y,x0i]at k1
      obtain⟨x1,e1,rfl⟩:=k1
      exact aY.of_pure (up (hxs x1 (x0d e1)) rv)) lent
    unfold Oper.wp
    rw[hrun,bI (hC.body g fi hg),Oper.upon_enter]
    refine hM.mono ?_
    rintro e0 w' ⟨v,M',ρ',ω',rfl,r1,r2,r3,r4,r5,r6,r7,r8⟩
    have hout:∀k,k<w.heap.size->(∀p:Pa,ω k=some p->p.root=b->p=.n b 0 1)->w'.heap[k]? = w.heap[k]?:=fun k hk hq=>r1.block k hk (fun⟨q,e⟩=>by
     obtain⟨p,e1,e2,e3,_⟩:=(w3 _ _).1 e
     exact e3 (hq p e1 e2))
    have hnotin:∀k,ω k=some (.n b 0 1)->ω' k=none:=fun k e=>by
     cases e1:ω' k with
     | none=>rfl
     | some q =>
      rcases r8 k q e1 with ⟨q',e2⟩|e2
      ·obtain⟨p',e3,_,e4,_⟩:=(w3 _ _).1 e2
       rw[e]at e3;cases e3;exact absurd rfl e4
      ·have:=hO.lt _ _ e;omega
    obtain⟨ρ2,hρ2⟩:∃ρ2:Pa->Loc,ρ2=fun p=>if p=.n ap 0 1 then ρ (.n b 0 1) else ρ' p:=⟨_,rfl⟩
    obtain⟨ω2,hω2⟩:∃ω2:Nat->Option Pa,ω2=fun k=>if ω k=some (.n b 0 1) then some (.n ap 0 1) else ω' k:=⟨_,rfl⟩
    have a1:ρ2 (.n ap 0 1)=ρ (.n b 0 1):=by rw[hρ2];simp
    have a2:∀p,p≠.n ap 0 1->ρ2 p=ρ' p:=fun p hp=>by rw[hρ2];simp only[if_neg hp]
    have b1:∀k,ω k=some (.n b 0 1)->ω2 k=some (.n ap 0 1):=fun k e=>by rw[hω2];simp only[if_pos e]
    have b2:∀k q,ω' k=some q->ω2 k=some q:=fun k q e=>by
     rw[hω2]
     simp only
     rw[if_neg (fun e1=>by rw[hnotin k e1]at e;cases e)]
     exact e
    have b3:∀k q,ω2 k=some q->(ω k=some (.n b 0 1)/\q=.n ap 0 1)\/ω' k=some q:=fun k q e=>by
     rw[hω2]at e
     simp only at e
     split at e
     ·cases e;exact .inl ⟨by assumption,rfl⟩
     ·exact .inr e
    have hlent2:oA F M w' ρ2 ω2 ap sz [[.own sz1 fs',.own sz2 sp]]:=by
     have hown:=r7.own
     refine⟨by rw[a2 _ (by simp)];exact b2 _ _ hown,?_,fun k p e=>?_,fun k p e=>?_,fun p q e=>?_⟩
     ·rcases r7.rows with ⟨e0,_⟩|⟨_,m0,us,T2,m1,m2,m3,m4,m5⟩
      ·cases e0
      ·unfold cy bV
       rw[a2 (.r ap) (by simp)]
       refine .inr ⟨b2 _ _ hown,m0,us,T2,m1,m2,m3,fun e he=>?_,fun i r off d hi hr=>?_⟩
       ·have:=m4 _ (x1a.2 rfl)
        rw[x1a.1 he,<- this];rfl
       ·cases i with
        | succ i=>simp at hi
        | zero =>
         simp at hi;subst hi
         match off,hr with
         | 0,hr =>
          simp at hr;subst hr
          obtain⟨u,n1,n2,n3⟩:=m5 0 _ 0 _ rfl rfl
          refine⟨u,n1,?_,?_⟩
          ·simp only[au]at n2 ⊢
           rw[a2 _ (by simp)];exact n2
          ·unfold bV at n3 ⊢
           rw[a2 _ (by simp)]
           rcases n3 with e|⟨e1,g0,us3,T3,g1,g2,g3,g4,g5⟩
           ·exact .inl e
           ·refine .inr ⟨b2 _ _ e1,g0,us3,T3,g1,g2,g3,g4,fun i r off d hi hr=>?_⟩
            obtain⟨u,l1,l2⟩:=g5 i r off d hi hr
            exact⟨u,l1,dn (hfl3 r (x0d hi) d (x0d hr)) l2⟩
         | 1,hr =>
          simp at hr;subst hr
          obtain⟨u,n1,n2⟩:=m5 0 _ 1 _ rfl rfl
          have hu:u=v1:=by
           have h2:ae F1 M' (.slv 0 sp) u:=n2
           simp only[ae]at h2
           rw[h2.1,hF1]
          subst hu
          refine⟨u,n1,?_,?_⟩
          ·simp only[au]at c11 ⊢
           rw[a1];exact c11
          ·unfold bV at c12 ⊢
           rw[a1]
           rcases c12 with e|⟨e1,g0,us3,T3,g1,g2,g3,g4,g5⟩
           ·exact .inl e
           ·exact .inr ⟨b1 _ e1,g0,us3,T3,(hout _ (hO.lt _ _ e1) (fun p e2 _=>by rw[e1]at e2;cases e2;rfl)).trans g1,g2,g3,g4,g5⟩
         | off+2,hr=>simp at hr
     ·rcases b3 k p e with ⟨e1,_⟩|e1
      ·exact x1p (hO.lt _ _ e1) r1.size
      ·exact r7.lt _ _ e1
     ·rcases b3 k p e with ⟨_,rfl⟩|e1
      ·rfl
      ·exact r7.root _ _ e1
     ·rcases b3 _ q e with ⟨e1,_⟩|e1
      ·exact hO.apart p _ e1
      ·have:=r7.apart p q e1
       cases e2:M p with
       | none=>rfl
       | some u=>rw[r2 p u (hMle p u e2)]at this;cases this
    have hdv:ae F M d v:=by
     rcases hd1 with h1|rfl
     ·exact dn h1 r5
     ·simp only[ae]at r5 ⊢
      obtain⟨us,e1,e2⟩:=r5
      refine⟨us,e1,?_⟩
      simpa only[aA]using e2
    have hch1:Ch (fun k=>∃p,ω1 k=some p) w w':=⟨r1.os,r1.tape,r1.output,r1.size,fun k hk hn=>r1.block k hk (fun⟨q,e⟩=>hn (by
     obtain⟨p,e1,e2,e3,e4⟩:=(w3 _ _).1 e
     exact⟨_,(w1 _ _).2 ⟨p,e1,e2,rfl⟩⟩)),r1.drawn⟩
    have hhold:∀p v,M p=some v->w'.cell? p=some v:=fun p v e=>r4 p v (r2 p v (hMle p v e))
    obtain⟨ρ4,ω4,x1,x2,x3,x4⟩:=h.lendX (M':=M) hO hf hb hω p1 w1 hch1 (Mem.le_refl _) (fun p e e'=>absurd e e') hhold (by rw[a2 _ (by simp),r6]) hlent2 (fun k p e=>by
     rcases b3 k p e with ⟨e1,_⟩|e1
     ·exact .inl ⟨_,(w1 _ _).2 ⟨_,e1,rfl,rfl⟩⟩
     ·rcases r8 k p e1 with ⟨q,e2⟩|e2
      ·obtain⟨p',e3,e4,_⟩:=(w3 _ _).1 e2
       exact .inl ⟨_,(w1 _ _).2 ⟨p',e3,e4,rfl⟩⟩
      ·exact .inr e2) hp hdv
    refine⟨_,_,M,hK,?_⟩
    obtain⟨f1,hf1⟩:∃f1,f1=eff (bL o.dst d++[(b,.blk sz [[.own sz1 fs',.own sz2 sp]])]) [(b,false)] f:=⟨_,rfl⟩
    rw[<- hf1]at x3 x4
    have hlk:∀y,y≠s->(bL o.dst d++[(b,D.blk sz [[.own sz1 fs',.own sz2 sp]]),(s,.ptx ds)]).lookup y=(bL o.dst d++[(b,D.blk sz [[.own sz1 fs',.own sz2 sp]])]).lookup y:=fun y hy=>by
     have e1:(y==s)=false:=by simpa using hy
     cases o.dst with
     | none=>simp only[bL,x03,x0g,e1,x0w]
     | some t=>simp only[bL,x05,x03,x0g,e1,x0w]
    have hfin:eff (bL o.dst d++[(b,.blk sz [[.own sz1 fs',.own sz2 sp]]),(s,.ptx ds)]) [(b,false)] f=eff [(s,.ptx ds)] [] f1:=by
     funext y
     by_cases e:y=s
     ·subst e
      rw[aE (d:=.ptx ds) (by
       have e2:(y==b)=false:=by simp;omega
       cases hdst:o.dst with
       | none=>simp only[bL,x03,x0g,e2,beq_self_eq_true]
       | some t =>
        have e1:(y==t)=false:=by
         simp
         rintro rfl
         exact hst hdst
        simp only[bL,x05,x03,x0g,e1,e2,beq_self_eq_true]),aE (d:=.ptx ds) (by simp)]
     ·have e1:(y==s)=false:=by simpa using e
      have k1:eff [(s,D.ptx ds)] [] f1 y=f1 y:=by
       simp[eff,x0g,e1,aG]
      rw[k1,hf1]
      unfold eff
      rw[hlk y e]
    rw[hfin]
    rcases hO.slots s hs with z1|⟨vS,z1,z2⟩
    ·rw[hfs]at z1;cases z1
    ·rw[hfs]at z2
     obtain⟨pS,vs,rfl,z3,z4⟩:=z2
     have htm:(a.put o.dst v).tmps[s]? = a.tmps[s]?:=by
      cases hdst:o.dst with
      | none=>rfl
      | some t=>exact getElem?_put (fun e=>hst (by rw[hdst,e]))
     have hsame:∀p:Pa,a7 b false p=false\/p=.n b 0 1->ρ4 p=ρ p:=fun p hp=>by
      by_cases e:p.root=b
      ·rw[x1 p e]
       cases p with
       | r c =>
        simp only[Pa.root]at e
        subst e
        show ρ2 (.r ap)=_
        rw[a2 _ (by simp),r6,pr]
       | n c i o =>
        simp only[Pa.root]at e
        subst e
        rcases hp with hp|hp
        ·simp[a7]at hp
        ·cases hp
         exact a1
      ·exact x2 p e
     refine x4.know (x3.know hs (v:=.pointer (some pS)) (by rw[htm];exact z1) ⟨pS,vs,rfl,⟨z3.1,fun i d0 v0 e1 e2=>?_⟩,z4⟩ rfl)
     have r:=z3.2 i d0 v0 e1 e2
     have hk:=x0f.1 hkeep d0 (x0d e1)
     cases d0
     case ref p k n =>
      have:ρ4 p=ρ p:=by
       cases p with
       | r c=>exact hsame _ (.inl (by simp[a7]))
       | n c i o =>
        simp only[kD,x0E,x0a,bne_iff_ne,x0l]at hk
        by_cases e:c=b
        ·subst e
         rcases hk with hk|⟨rfl,rfl⟩
         ·exact absurd rfl hk
         ·exact hsame _ (.inr rfl)
        ·exact hsame _ (.inl (by simp[a7,e]))
      simp only[au]at r ⊢
      rw[this];exact r
     case adr p k n =>
      have:ρ4 p=ρ p:=hsame _ (.inl (by simpa[kD,aO]using hk))
      simp only[au]at r ⊢
      rw[this];exact r
     case ifa T' p k n =>
      have:ρ4 p=ρ p:=hsame _ (.inl (by simpa[kD,aO]using hk))
      simp only[au]at r ⊢
      rw[this];exact r
     case mrf c =>
      have:ρ4 (.r c)=ρ (.r c):=hsame _ (.inl (by simp[a7]))
      simp only[au]at r ⊢
      rw[this];exact r
     all_goals exact r
   ·exact hr.elim
  ·exact hr.elim
 ·exact hr.elim
end
end Go.Gv

namespace Go.Gv
section
variable{P:Program}{F:Fid}{C:Nat->List D->D->List D->Prop}{nt:Nat}{S:Nat->Prop}{L:Ln}{w0 w':World}{M0 M':Mem}{f:Nat->D}{M:Mem}{a:Act}{w:World}{o:Oper}{Q:Exit->Act->World->Prop}{K:List (Nat×D)->List (Nat×Bool)->Prop}{ρ ρ':Pa->Loc}{ω ω':Nat->Option Pa}{d:D}
def up2(b:Nat)(p:Pa):Pa:=p.to (if p.root=b then ap else aN)
def dn2(b c:Nat)(q:Pa):Pa:=q.to (if q.root=ap then b else c)
theorem Hh{b c:Nat}{p:Pa}(h:p.root=b\/p.root=c):dn2 b c (up2 b p)=p:=by
 unfold dn2 up2
 rw[Pa.to_root]
 by_cases e:p.root=b
 ·rw[if_pos e,if_pos rfl]
  exact Pa.to_to b ap p e
 ·rw[if_neg e,if_neg (by decide)]
  exact Pa.to_to c aN p (h.resolve_left e)
theorem CU{b c:Nat}(hbc:b≠c){q:Pa}(h:q.root=ap\/q.root=aN):up2 b (dn2 b c q)=q:=by
 unfold dn2 up2
 rw[Pa.to_root]
 by_cases e:q.root=ap
 ·rw[if_pos e,if_pos rfl]
  exact Pa.to_to ap b q e
 ·rw[if_neg e,if_neg (Ne.symm hbc)]
  exact Pa.to_to aN c q (h.resolve_left e)
theorem uu{b c:Nat}(q:Pa):(dn2 b c q).root=b\/(dn2 b c q).root=c:=by
 unfold dn2
 rw[Pa.to_root]
 split
 ·exact .inl rfl
 ·exact .inr rfl
theorem SR.lend2(h:SR F nt S L w0 M0 f M a w)(hO:Own F L (fun k=>S k\/w0.heap.size<=k) f M a w ρ ω){b c sz1 sz2:Nat}{es1 es1' es2 es2':List (List D)}(hbc:b≠c)(hf1:f b=.blk sz1 es1)(hf2:f c=.blk sz2 es2)(hb:10000<=b)(hc:10000<=c){ρ1:Pa->Loc}{ω1:Nat->Option Pa}
  (hρ1:∀p:Pa,p.root=b\/p.root=c->ρ1 (up2 b p)=ρ p) (hω1:∀k q,ω1 k=some q↔∃p:Pa,ω k=some p/\(p.root=b\/p.root=c)/\q=up2 b p)
  (hch:Ch (fun k=>∃p,ω1 k=some p) w w') (hM:M.le M') (hfr:∀p,M p=none->M' p≠none->(∃q,ω1 p.block=some q)\/w.heap.size<=p.block) (hh:∀p v,M' p=some v->w'.cell? p=some v)
  (hρ':ρ' (.r ap)=ρ1 (.r ap)) (hρ'2:ρ' (.r aN)=ρ1 (.r aN)) (hl:oN F M' w' ρ' ω' ap sz1 es1' aN sz2 es2') (hnew:∀k p,ω' k=some p->(∃q,ω1 k=some q)\/w.heap.size<=k)
  {dst:Option Nat} (ht:∀t,dst=some t->t<nt) {v:Value} (hv:ae F M' d v) :
  SR F nt S L w0 M0 (eff (bL dst d++[(b,.blk sz1 es1'),(c,.blk sz2 es2')]) [(b,false),(c,false)] f) M' (a.put dst v) w':=by
 have hS1:∀k q,ω1 k=some q->∃p,ω k=some p/\(p.root=b\/p.root=c):=fun k q e=>by
  obtain⟨p,h1,h2,_⟩:=(hω1 k q).1 e
  exact⟨p,h1,h2⟩
 have other:∀k p,ω k=some p->¬(p.root=b\/p.root=c)->(∀q,ω1 k≠some q)/\ω' k=none/\w'.heap[k]? = w.heap[k]?:=fun k p e hp=>by
  have h1:∀q,ω1 k≠some q:=fun q e1=>by
   obtain⟨p',h1,h2⟩:=hS1 k q e1
   rw[e]at h1;cases h1;exact hp h2
  refine⟨h1,?_,hch.block k (hO.lt _ _ e) (fun⟨q,e1⟩=>h1 q e1)⟩
  cases e2:ω' k with
  | none=>rfl
  | some q =>
   rcases hnew k q e2 with ⟨q,e1⟩|h2
   ·exact absurd e1 (h1 q)
   ·have:=hO.lt _ _ e;omega
 obtain⟨ρ2,hρ2⟩:∃ρ2:Pa->Loc,ρ2=fun p=>if p.root=b\/p.root=c then ρ' (up2 b p) else ρ p:=⟨_,rfl⟩
 obtain⟨ω2,hω2⟩:∃ω2:Nat->Option Pa,ω2=fun k=>match ω' k with
  | some q=>some (dn2 b c q)
  | none=>match ω k with
   | some p=>if p.root=b\/p.root=c then none else some p
   | none=>none:=⟨_,rfl⟩
 have r1:∀p:Pa,p.root=b\/p.root=c->ρ2 p=ρ' (up2 b p):=fun p hp=>by rw[hρ2];simp only[if_pos hp]
 have r2:∀p:Pa,¬(p.root=b\/p.root=c)->ρ2 p=ρ p:=fun p hp=>by rw[hρ2];simp only[if_neg hp]
 have o1:∀k q,ω' k=some q->ω2 k=some (dn2 b c q):=fun k q e=>by rw[hω2];simp only[e]
 have o2:∀k p,ω k=some p->¬(p.root=b\/p.root=c)->ω2 k=some p:=fun k p e hp=>by rw[hω2];simp only[(other k p e hp).2.1,e,if_neg hp]
 have o3:∀k p,ω2 k=some p->(∃q,ω' k=some q/\p=dn2 b c q)\/(ω k=some p/\¬(p.root=b\/p.root=c)):=fun k p e=>by
  rw[hω2]at e
  simp only at e
  cases e1:ω' k with
  | some q=>rw[e1]at e;cases e;exact .inl ⟨q,rfl,rfl⟩
  | none =>
   rw[e1]at e
   simp only at e
   cases e2:ω k with
   | none=>rw[e2]at e;cases e
   | some p' =>
    rw[e2]at e
    simp only at e
    split at e
    ·cases e
    ·cases e;exact .inr ⟨rfl,by assumption⟩
 have hrb:ρ2 (.r b)=ρ (.r b):=by
  have e0:up2 b (.r b)=.r ap:=by simp[up2,Pa.root,Pa.to]
  rw[r1 (.r b) (.inl rfl),e0,hρ',<- hρ1 (.r b) (.inl rfl),e0]
 have hrc:ρ2 (.r c)=ρ (.r c):=by
  have e0:up2 b (.r c)=.r aN:=by simp[up2,Pa.root,Pa.to,Ne.symm hbc]
  rw[r1 (.r c) (.inr rfl),e0,hρ'2,<- hρ1 (.r c) (.inr rfl),e0]
 have hlk:∀s,s≠b->s≠c->dst≠some s->(bL dst d++[(b,D.blk sz1 es1'),(c,D.blk sz2 es2')]).lookup s=none:=fun s h1 h3 h2=>by
  have e1:(s==b)=false:=by simpa using h1
  have e3:(s==c)=false:=by simpa using h3
  cases dst with
  | none=>simp only[bL,x03,x0g,e1,e3,x0w]
  | some t =>
   have e2:(s==t)=false:=by simp;rintro rfl;exact h2 rfl
   simp only[bL,x05,x03,x0g,e1,e2,e3,x0w]
 have hdt:∀x,10000<=x->dst≠some x:=fun x hx e=>by have:=ht x e;have:=h.hnt;omega
 have hfb:eff (bL dst d++[(b,.blk sz1 es1'),(c,.blk sz2 es2')]) [(b,false),(c,false)] f b=.blk sz1 es1':=aE (by
  cases dst with
  | none=>simp[bL]
  | some t =>
   have:(b==t)=false:=by simp;rintro rfl;exact hdt _ hb rfl
   simp[bL,x0g,this])
 have hfc:eff (bL dst d++[(b,.blk sz1 es1'),(c,.blk sz2 es2')]) [(b,false),(c,false)] f c=.blk sz2 es2':=aE (by
  have e1:(c==b)=false:=by simpa using Ne.symm hbc
  cases dst with
  | none=>simp[bL,x0g,e1]
  | some t =>
   have:(c==t)=false:=by simp;rintro rfl;exact hdt _ hc rfl
   simp[bL,x0g,this,e1])
 have hsize:(a.put dst v).tmps.size=nt:=by cases dst<;>simp[Act.put,h.size]
 refine⟨h.hnt,hsize,by cases dst<;>simp[Act.put,h.defers],h.ch.trans hch (fun k hk ⟨q,e⟩=>by
   obtain⟨p,e1,_⟩:=hS1 k q e
   rcases hO.new _ _ e1 with h3|h3
   ·exact h3
   ·omega),hh,Mem.le_trans h.ext hM,fun p h1 h2=>by
   by_cases e:M p=none
   ·rcases hfr p e h2 with ⟨q,e1⟩|h3
    ·obtain⟨p',e2,_⟩:=hS1 _ q e1
     exact hO.new _ _ e2
    ·exact .inr (x1v h.ch.size h3)
   ·exact h.fresh p h1 e,ρ2,ω2,?_⟩
 refine hO.step (ks:=[(b,false),(c,false)]) (fun p hp=>?_) hM hch.size (fun s hs=>?_) (fun x hx=>?_) (fun k p e=>?_) (fun p q e=>?_) (fun x l hx hl' hB=>?_)
 ·by_cases e:p.root=b\/p.root=c
  ·cases p with
   | r x =>
    simp only[Pa.root]at e
    rcases e with rfl|rfl
    ·exact absurd hrb hp
    ·exact absurd hrc hp
   | n x i off =>
    simp only[Pa.root]at e
    rcases e with rfl|rfl
    ·exact⟨(x,false),by simp,by simp[a7]⟩
    ·exact⟨(x,false),by simp,by simp[a7]⟩
  ·exact absurd (r2 p e) hp
 ·by_cases e:dst=some s
  ·right
   have hst:=ht s e
   subst e
   have e1:eff (bL (some s) d++[(b,.blk sz1 es1'),(c,.blk sz2 es2')]) [(b,false),(c,false)] f s=d:=aE (by simp[bL])
   refine .inr ⟨v,getElem?_put_same (by rw[h.size];exact hst),?_⟩
   rw[e1]
   exact aY.of_pure hv
  ·left
   rcases bk (f:=f) (ks:=[(b,false),(c,false)]) (hlk s (by omega) (by omega) e)with h1|h1
   ·exact .inl h1
   ·refine .inr ⟨h1.1,?_,h1.2⟩
    cases dst with
    | none=>rfl
    | some t=>exact getElem?_put (fun x=>e (by rw[x]))
 ·by_cases e:x=b
  ·subst e
   right
   refine .inl ⟨sz1,es1',hfb,hl.rows1.carry (Mem.le_refl _) (fun p hp=>?_)⟩
   have e0:p.to x=dn2 x c p:=by unfold dn2;rw[if_pos hp]
   have e1:ρ2 (p.to x)=ρ' p:=by rw[e0,r1 _ (uu p),CU hbc (.inl hp)]
   exact⟨e1,fun e2=>⟨by rw[e0];exact o1 _ _ e2,rfl⟩⟩
  ·by_cases e':x=c
   ·subst e'
    right
    refine .inl ⟨sz2,es2',hfc,hl.rows2.carry (Mem.le_refl _) (fun p hp=>?_)⟩
    have e0:p.to x=dn2 b x p:=by unfold dn2;rw[if_neg (by rw[hp];decide)]
    have e1:ρ2 (p.to x)=ρ' p:=by rw[e0,r1 _ (uu p),CU hbc (.inr hp)]
    exact⟨e1,fun e2=>⟨by rw[e0];exact o1 _ _ e2,rfl⟩⟩
   ·left
    rcases bj (f:=f) (ks:=[(b,false),(c,false)]) (hlk x e e' (hdt x hx))with h1|h1
    ·exact .inl h1
    ·refine .inr ⟨h1,fun p hp=>?_⟩
     have hpb:¬(p.root=b\/p.root=c):=by rw[hp];simp[e,e']
     exact⟨r2 p hpb,fun hw=>⟨o2 _ _ hw hpb,(other _ _ hw hpb).2.2⟩⟩
 ·rcases o3 k p e with ⟨q,e1,_⟩|⟨e1,_⟩
  ·rcases hnew k q e1 with ⟨q',e2⟩|h2
   ·obtain⟨p',e3,_⟩:=hS1 k q' e2
    exact .inl ⟨p',e3⟩
   ·exact .inr ⟨hl.lt k q e1,.inr (x1v h.ch.size h2)⟩
  ·exact .inl ⟨p,e1⟩
 ·rcases o3 _ q e with ⟨q',e1,_⟩|⟨e1,e2⟩
  ·exact hl.apart p q' e1
  ·have h1:=hO.apart p q e1
   cases e3:M' p with
   | none=>rfl
   | some u =>
    rcases hfr p h1 (by rw[e3];simp)with ⟨q',e4⟩|h4
    ·exact absurd e4 ((other _ _ e1 e2).1 q')
    ·have:=hO.lt _ _ e1;omega
 ·by_cases e:x=b
  ·subst e
   exact⟨hrb,by rw[hf1];rfl⟩
  ·by_cases e':x=c
   ·subst e'
    exact⟨hrc,by rw[hf2];rfl⟩
   ·have hxb:¬((Pa.r x).root=b\/(Pa.r x).root=c):=by simp[Pa.root,e,e']
    refine⟨r2 _ hxb,?_⟩
    rcases bj (f:=f) (ks:=[(b,false),(c,false)]) (hlk x e e' (hdt x hx))with h1|h1
    ·rw[hB]at h1;cases h1
    ·rw[<- h1];exact hB
theorem wu(hC:bC P F C)(h:SR F nt S L w0 M0 f M a w)(hp:∀t,o.dst=some t->t<nt){g fi:Nat}{xs:List Opd}{x y:Opd}{ys:List Operand}{ts:Array TypeId}(ho:o.op=.call { callee:=.value (.func fi),args:=⟨ys⟩,argTypes:=ts })(hx:bK F (xs++[x,y]) ys=true)(hg:F g=some fi)
  (hr:match vd f x,vd f y with
  | .adr (.r b) i off,.ref (.r c) k n=>i=0/\off=0/\k=0/\b≠c/\match f b,f c with
   | .blk sz1 es1,.blk sz2 es2=>0<es1.length/\0<es2.length/\(∀x∈xs,isV (vd f x)=true)/\∃d,∃es1' es2':List (List D),0<es1'.length/\0<es2'.length /\
     C g (.blk sz1 es1::.blk sz2 es2::(xs.map (vd f)++[.adr (.r 10015) 0 0,.ref (.r 10031) 0 n])) d [.blk sz1 es1',.blk sz2 es2',.nilp]/\K (bL o.dst d++[(b,.blk sz1 es1'),(c,.blk sz2 es2')]) [(b,false),(c,false)]
   | _,_=>False
  | _,_=>False):o.wp P a w (PostX F nt S L w0 M0 f K) Q:=by
 split at hr
 case h_2=>exact hr.elim
 rename_i b i off c k n hvx hvy
 obtain⟨rfl,rfl,rfl,hbc,hr⟩:=hr
 split at hr
 case h_2=>exact hr.elim
 rename_i sz1 es1 sz2 es2 hf1 hf2
 obtain⟨hpos1,hpos2,hxs,d,es1',es2',hpos1',hpos2',hcc,hK⟩:=hr
 obtain⟨ρ,ω,hO⟩:=h.own
 have hb:=hO.big hf1
 have hc:=hO.big hf2
 have root:∀{b sz:Nat} {es:List (List D)},f b=.blk sz es->0<es.length->10000<=b->ω (ρ (.r b)).blk=some (.r b):=fun{b sz es} e1 e2 e3=>by
  rcases hO.roots b sz es e3 e1 with ⟨e0,_⟩|⟨hω,_⟩
  ·rw[e0]at e2;simp at e2
  ·exact hω
 have hωb:=root hf1 hpos1 hb
 have hωc:=root hf2 hpos2 hc
 obtain⟨ρ1,hρ1⟩:∃ρ1:Pa->Loc,ρ1=fun q=>ρ (dn2 b c q):=⟨_,rfl⟩
 obtain⟨ω1,hω1⟩:∃ω1:Nat->Option Pa,ω1=fun k=>match ω k with
  | some p=>if p.root=b\/p.root=c then some (up2 b p) else none
  | none=>none:=⟨_,rfl⟩
 have w1:∀k q,ω1 k=some q↔∃p:Pa,ω k=some p/\(p.root=b\/p.root=c)/\q=up2 b p:=fun k q=>by
  rw[hω1]
  simp only
  constructor
  ·intro e
   split at e
   ·rename_i p hp
    split at e
    ·cases e;exact⟨p,hp,by assumption,rfl⟩
    ·cases e
   ·cases e
  ·rintro⟨p,e1,e2,rfl⟩
   simp only[e1,if_pos e2]
 have p1:∀p:Pa,p.root=b\/p.root=c->ρ1 (up2 b p)=ρ p:=fun p hp=>by
  rw[hρ1]
  simp only
  rw[Hh hp]
 have ub:up2 b (.r b)=.r ap:=by simp[up2,Pa.root,Pa.to]
 have uc:up2 b (.r c)=.r aN:=by simp[up2,Pa.root,Pa.to,Ne.symm hbc]
 have e1:ρ1 (.r ap)=ρ (.r b):=by have:=p1 (.r b) (.inl rfl);rwa[ub]at this
 have e2:ρ1 (.r aN)=ρ (.r c):=by have:=p1 (.r c) (.inr rfl);rwa[uc]at this
 have lent:oN F M w ρ1 ω1 ap sz1 es1 aN sz2 es2:=by
  refine⟨?_,?_,cy.carry (hO.roots b sz1 es1 hb hf1) (Mem.le_refl _) (fun p hp=>?_),cy.carry (hO.roots c sz2 es2 hc hf2) (Mem.le_refl _) (fun p hp=>?_),fun k p e=>?_,fun k p e=>?_,fun p q e=>?_⟩
  ·rw[e1];exact(w1 _ _).2 ⟨.r b,hωb,.inl rfl,ub.symm⟩
  ·rw[e2];exact(w1 _ _).2 ⟨.r c,hωc,.inr rfl,uc.symm⟩
  ·have e0:p.to ap=up2 b p:=by unfold up2;rw[if_pos hp]
   exact⟨by rw[e0];exact p1 p (.inl hp),fun e=>⟨by rw[e0];exact(w1 _ _).2 ⟨p,e,.inl hp,rfl⟩,rfl⟩⟩
  ·have e0:p.to aN=up2 b p:=by unfold up2;rw[if_neg (by rw[hp];exact Ne.symm hbc)]
   exact⟨by rw[e0];exact p1 p (.inr hp),fun e=>⟨by rw[e0];exact(w1 _ _).2 ⟨p,e,.inr hp,rfl⟩,rfl⟩⟩
  ·obtain⟨p',h1,_⟩:=(w1 _ _).1 e
   exact hO.lt _ _ h1
  ·obtain⟨p',_,h2,rfl⟩:=(w1 _ _).1 e
   unfold up2
   rw[Pa.to_root]
   split
   ·exact .inl rfl
   ·exact .inr rfl
  ·obtain⟨p',h1,_⟩:=(w1 _ _).1 e
   exact hO.apart p p' h1
 simp only[bK,x0a,x0l,x0f]at hx
 obtain⟨hxl,hxz⟩:=hx
 have hop:∀(j:Nat) (z:Opd) (y':Operand),(xs++[x,y])[j]? = some z->ys[j]? = some y'->am F z y'=true:=fun j z y' h1 h2 =>
  hxz (z,y') (x1z.2 ⟨j,by rw[x1n];exact⟨h1,h2⟩⟩)
 have hrep:∀(i:Nat) (d:D) (v:Value),(xs.map (vd f)++[.adr (.r 10015) 0 0,.ref (.r 10031) 0 n])[i]? = some d->(ys.map a.eval)[i]? = some v->aY F M ρ1 d v:=fun j d v k1 k2=>by
  rw[x0y,x0i]at k2
  obtain⟨y',k2,rfl⟩:=k2
  by_cases hj:j<xs.length
  ·rw[x0v (by simpa using hj),x0y,x0i]at k1
   obtain⟨z,k1,rfl⟩:=k1
   have hok:=hop j z y' (by rw[x0v hj];exact k1) k2
   exact aY.of_pure (h.opd hok (hxs z (x0d k1)))
  ·rw[x0s (by simpa using hj),x1c]at k1
   have hj2:∀z,[x,y][j-xs.length]? = some z->am F z y'=true:=fun z hz=>hop j z y' (by rw[x0s (by omega)];exact hz) k2
   generalize j-xs.length=i at k1 hj2
   match i,k1,hj2 with
   | 0,k1,hj2 =>
    simp at k1
    subst k1
    have hv:=hO.opd (hj2 x rfl)
    rw[hvx,ar rfl]at hv
    rw[ar rfl]
    simp only[au]at hv ⊢
    rw[show(10015:Nat)=ap from rfl,e1]
    exact hv
   | 1,k1,hj2 =>
    simp at k1
    subst k1
    have hv:=hO.opd (hj2 y rfl)
    rw[hvy,ar rfl]at hv
    rw[ar rfl]
    simp only[au]at hv ⊢
    rw[show(10031:Nat)=aN from rfl,e2]
    exact hv
   | i+2,k1,_=>simp at k1
 have hX:=hC.runsX g fi sz1 es1 sz2 es2 _ d es1' es2' hg hcc M w (ys.map a.eval) ρ1 ω1 h.holds (by rw[x1c,<- hxl];simp) hrep lent
 have hrun:(execOp a.eval o).run P w=(callFunc fi (ys.map a.eval).toArray).run P w:=by
  simp only[execOp,ho,resolve,Act.eval,Deferred.ofValue,Sem.run_bind,Sem.run_pure,Result.andThen_ok,invoke]
  congr 2
  rw[x1q,x09]
  apply Array.ext'
  simp
 unfold Oper.wp
 rw[hrun,bI (hC.body g fi hg),Oper.upon_enter]
 refine hX.mono ?_
 rintro e0 w' ⟨v,M',ρ',ω',rfl,q1,q2,q3,q4,q5,q6,q6',q7,q8⟩
 exact⟨_,_,M',hK,h.lend2 hO hbc hf1 hf2 hb hc p1 w1 q1 q2 q3 q4 q6 q6' q7 q8 hp q5⟩
end
end Go.Gv

namespace Go.Gv
open Go.RowKit
abbrev Env:=List (Nat×D)
def ab:Env->Nat->D
 | [],_=>.any
 | (s,d)::r,t=>if s=t then d else ab r t
def cC(ks:List (Nat×Bool))(e:Env):Env:=if ks=[] then e else e.map fun p=>(p.1,if aG ks p.2 then .any else p.2)
theorem x9(ws:List (Nat×D))(e:Env)(t:Nat):ab (ws++e) t=match ws.lookup t with
  | some d=>d
  | none=>ab e t:=by
 induction ws with
 | nil=>rfl
 | cons p ws ih =>
  obtain⟨s,d⟩:=p
  simp only[x05,ab,x0g]
  by_cases h:s=t
  ·subst h;simp
  ·have h1:(t==s)=false:=by simp;exact fun e=>h e.symm
   rw[if_neg h,h1]
   exact ih
theorem vT(ks:List (Nat×Bool)):∀(e:Env) (t:Nat),ab (cC ks e) t=if aG ks (ab e t) then .any else ab e t:=by
 intro e t
 unfold cC
 by_cases hk:ks=[]
 ·subst hk;simp[lO]
 ·rw[if_neg hk]
  induction e with
  | nil =>
   show D.any=if aG ks D.any=true then D.any else D.any
   by_cases hm:aG ks D.any=true
   ·rw[if_pos hm]
   ·rw[if_neg hm]
  | cons p e ih =>
   obtain⟨s,d⟩:=p
   by_cases h:s=t
   ·simp[ab,h]
   ·have h1:ab ((s,d)::e) t=ab e t:=by simp[ab,h]
    rw[h1,<- ih]
    simp[ab,h]
theorem fT(ws:List (Nat×D))(ks:List (Nat×Bool))(e:Env):ab (ws++cC ks e)=eff ws ks (ab e):=by
 funext t
 rw[x9]
 unfold eff
 cases List.lookup t ws with
 | some d=>rfl
 | none=>exact vT ks e t
def gk(e:Env)(dst:Option Nat)(K:Env->Prop):Prop :=
 match dst with
 | none=>K e
 | some t=>K ((t,.tup [])::e)
def sJ(C:Nat->List D->D->List D->Prop)(dst:Option Nat)(K:Env->Prop)(e:Env)(op:NOp):Prop:=aB C (ab e) dst (fun ws ks=>K (ws++cC ks e)) op
def ik(C:Nat->List D->D->List D->Prop)(K:Env->Prop):List ay->Env->Prop
 | [],e=>K e
 | o::os,e=>match o.guard with
  | none=>sJ C o.dst (ik C K os) e o.op
  | some (s,want)=>match ab e s with
   | .bool b=>(b=want->sJ C o.dst (ik C K os) ((s,.bool want)::e) o.op)/\(b=!want->gk ((s,.bool !want)::e) o.dst (ik C K os))
   | .tup []=>gk e o.dst (ik C K os)
   | _=>False
section
variable{P:Program}{F:Fid}{C:Nat->List D->D->List D->Prop}{nt:Nat}{S:Nat->Prop}{L:Ln}{w0:World}{M0:Mem}{f:Nat->D}{M:Mem}{a:Act}{w:World}{o:Oper}{d:D}{Q:Exit->Act->World->Prop}{ρ:Pa->Loc}{ω:Nat->Option Pa}{New:Nat->Prop}{K:List (Nat×D)->List (Nat×Bool)->Prop}
def yp(P:Program)(F:Fid):NOp->Op->Bool
 | .asg x,.move y=>am F x y
 | .asg x,.assign y=>am F x y
 | .frz x,.move y=>am F x y
 | .frz x,.assign y=>am F x y
 | .ldQ _ x,.load t x'=>tyS P t 1 false&&am F x x'
 | .appQ _ sz by_ x y,.call { callee:=.builtin .append,args:=⟨[x',y']⟩,argTypes:=⟨[t,t']⟩ }=>t==t'&&um P t sz by_&&am F x x'&&am F y y'
 | .cpy sz x y,.call { callee:=.builtin .copy,args:=⟨[x',y']⟩,argTypes:=⟨[t,_]⟩ }=>oX P t sz&&am F x x'&&am F y y'
 | .ldF n x,.load t x'=>tyS P t n true&&am F x x'
 | .stF n x y,.store t x' y'=>ig P t n&&am F x x'&&am F y y'
 | .stL x y,.store t x' y'=>ig P t 1&&am F x x'&&am F y y'
 | .stG _ x y,.store t x' y'=>ig P t 1&&am F x x'&&am F y y'
 | .callX g xs x y,.call { callee:=.value (.func fi),args:=⟨ys⟩,argTypes:=_ }=>F g==some fi&&bK F (xs++[x,y]) ys
 | .mkI T x,.makeInterface t x'=>F.ty T==t&&mf P t&&am F x x'
 | .tya T x,.typeAssert x' _ t false=>F.ty T==t&&mf P t&&am F x x'
 | .callI g m T x xs,.call { callee:=.invoke y m',args:=ys,argTypes:=_ }=>m==m'&&(match F g with
  | some fi=>qk P (F.ty T) m fi
  | none=>false)&&am F x y&&bK F xs ys.toList
 | .callM g x xs,.call { callee:=.value (.func fi),args:=⟨y::ys⟩,argTypes:=_ }=>F g==some fi&&am F x y&&bK F xs ys
 | .callQ g _ x xs,.call { callee:=.value (.func fi),args:=⟨y::ys⟩,argTypes:=_ }=>F g==some fi&&am F x y&&bK F xs ys
 | .boxK _ x,.box _ x'=>am F x x'
 | .slM len sz x,.slice t x' none none none=>(gr P t len sz&&decide (len<=16777216))&&am F x x'
 | .nilo _,.move y=>am F (.c .nils) y
 | .nilo _,.assign y=>am F (.c .nils) y
 | .box _ x,.box _ x'=>am F x x'
 | .alc zs,.alloc t=>zeroOk P t zs
 | .bls sz len zs _ ps,.buildSlice t len' ps'=>len==len'&&blsOk P F t sz len zs ps ps'.toList
 | .mks sz by_ zs n c,.makeSlice t n' c'=>mksOk P t sz by_ zs&&am F n n'&&am F c c'
 | .call g xs _,.call { callee:=.value (.func fi),args:=ys,argTypes:=_ }=>F g==some fi&&bK F xs ys.toList
 | .callF g xs,.call { callee:=.value (.func fi),args:=ys,argTypes:=_ }=>F g==some fi&&bK F xs ys.toList
 | .callG g xs,.call { callee:=.value (.func fi),args:=ys,argTypes:=_ }=>F g==some fi&&bK F xs ys.toList
 | .callS g x xs,.call { callee:=.value (.func fi),args:=⟨y::ys⟩,argTypes:=_ }=>F g==some fi&&am F x y&&bK F xs ys
 | .callE g x xs,.call { callee:=.value (.func fi),args:=⟨y::ys⟩,argTypes:=_ }=>F g==some fi&&am F x y&&bK F xs ys
 | .callA g xs,.call { callee:=.value (.func fi),args:=ys,argTypes:=_ }=>F g==some fi&&bK F xs ys.toList
 | .callv x xs,.call { callee:=.value x',args:=ys,argTypes:=_ }=>am F x x'&&bK F xs ys.toList
 | .st n _ x v,.store t x' v'=>ig P t n&&am F x x'&&am F v v'
 | .app sz by_ _ x y,.call { callee:=.builtin .append,args:=⟨[x',y']⟩,argTypes:=⟨[t,t']⟩ }=>t==t'&&um P t sz by_&&am F x x'&&am F y y'
 | .mkm _ _,.makeMap _ none=>true
 | .mpu sh kt et z m x v,.mapUpdate t m' x' v'=>mapOk F t kt et sh z&&am F m m'&&am F x x'&&am F v v'
 | .dead,_=>true
 | p,q=>yo P F p q
theorem iq{t:Option Nat}(hK:df t K d):∀a' w',bU F nt S L w0 M0 f t d a' w'->PostX F nt S L w0 M0 f K a' w':=by
 rintro a' w' ⟨M',h⟩
 cases t with
 | none=>exact⟨[],[],M',hK,by rw[ki];exact h⟩
 | some t=>exact⟨_,_,M',hK,h⟩
theorem yq(hl:laidOutB F.P=true)(hP:P=F.P)(h:SR F nt S L w0 M0 f M a w){n:NOp}{q:Op}(hp:bM nt f o.dst)(ho:o.op=q)(hk:yo P F n q=true)(hr:res f (·=d) n):o.wp P a w (bU F nt S L w0 M0 f o.dst d) Q:=by
 unfold yo at hk
 split at hk<;>(try simp only[x0a,x0l]at hk)
 ·exact u7 h hp (.inl ho) hk hr
 ·exact u7 h hp (.inr ho) hk hr
 ·exact BA h hp ho hk hr
 ·exact zj h hp ho hk.1.1 hk.1.2 hk.2 hr
 ·obtain⟨⟨rfl,h1⟩,h2⟩:=hk;exact Br h hp ho h1 h2 hr
 ·obtain⟨rfl,h1⟩:=hk;exact EG h hp ho h1 hr
 ·exact y5 h hp ho hk.2 hk.1 hr
 ·exact Bw h hp ho hk.2 hk.1 hr
 ·exact y8 h hp ho hk.1.2 hk.2 hk.1.1 hr
 ·exact y9 h hp ho hk.1.2 hk.2 hk.1.1 hr
 ·obtain⟨rfl,h1⟩:=hk;exact Bu h hp ho h1 hr
 ·exact Bv h hp ho hk.2 hk.1 hr
 ·exact y7 h hp ho hk.1.2 hk.2 hk.1.1 hr
 ·exact y6 h hp ho hk.1.2 hk.2 hk.1.1 hr
 ·exact EB h hp ho hk.2 hk.1 hr
 ·exact snd_boxF h hp ho hk hr
 ·obtain⟨rfl,h1⟩:=hk;exact yZ h hp ho h1 hr
 ·exact Bs h hp ho hk hr
 ·exact By h hp ho hk.2 hk.1 hr
 ·exact za h hp ho hk.2 hk.1 hr
 ·exact EC h hp ho hk.1.2 hk.2 hk.1.1 hr
 ·exact BI h hp ho hk hr
 ·exact BD h hp ho hk.1.1.2 hk.1.2 hk.2 hk.1.1.1 hr
 ·exact BB h hp ho hk.2 hk.1 hr
 ·exact ED h hp ho hk.1 hk.2 hr
 ·exact EE h hp ho hk.1 hk.2 hr
 ·obtain⟨⟨⟨rfl,h1⟩,h2⟩,h3⟩:=hk;exact Bq h hp ho h2 h3 h1 hr
 ·exact wi h hp ho hk.1.1.1 hk.1.1.2 hk.1.2 hk.2 hr
 ·exact ww h hp ho hk.1.1.1 hk.1.1.2 hk.1.2 hk.2 hr
 ·obtain⟨⟨⟨rfl,h1⟩,h2⟩,h3⟩:=hk;exact snd_mpl hl h hp ho h2 h3 h1 hP hr
 ·cases hk
theorem wS{t q sz by_:Nat}{x y:Opd}(h:aB C f (some t) K (.appQ q sz by_ x y)):aB C f (some t) K (.app sz by_ false x y):=by
 simp only[aB]at h ⊢
 split at h
 ·rename_i c i o' k n ex
  obtain⟨rfl,h⟩:=h
  obtain⟨rows,bs,⟨h1,h2,h⟩,hg⟩:=dU h
  refine hg _ ?_
  subst h1
  simp only[ex]
  split at h
  ·rename_i sz0 es0 hf
   obtain⟨row0,h3,es,h4,h5,h6,h7⟩:=h
   refine⟨rfl,h2,rfl,?_⟩
   first|(rw[hf])|skip
   exact⟨row0,h3,es,h4,h5,h6,h7⟩
  ·exact h.elim
 ·exact h.elim
theorem DS{dst:Option Nat}{q:Nat}{x:Opd}(h:aB C f dst K (.ldQ q x)):aB C f dst K (.ld 1 false x):=by
 simp only[aB,res]at h ⊢
 split at h
 ·rename_i c i off ex
  obtain⟨rfl,h⟩:=h
  split at h
  ·rename_i sz es hf
   obtain⟨r,h1,d,h2,h3⟩:=h
   have hl:=(x0c.1 h2).1
   have gp:aQ f (.r c)=some (sz,es):=by simp only[aQ,hf]
   simp only[ex,gp]
   refine⟨r,h1,by omega,?_⟩
   have:(r.drop off).headD .any=d:=by
    rw[List.headD_eq_head?_getD,List.head?_drop,h2];rfl
   rw[this]
   exact h3
  ·exact h.elim
 ·exact h.elim
theorem sR{dst:Option Nat}{xs:List Opd}{g:Nat}(h0:∀x∈xs,isV (vd f x)=true)(hc:C g (xs.map (vd f)) d [])(hK:df dst K d):(∀x∈xs,bS f (vd f x))/\∃d,C g (xs.map (dpv f)) d []/\(isF d=true\/(xs.all fun x=>isV (vd f x))=true)/\df dst K d:=by
 have e:xs.map (dpv f)=xs.map (vd f):=x0m fun x hx=>(iu (h0 x hx)).1
 exact⟨fun x hx=>(iu (h0 x hx)).2,d,by rw[e];exact hc,.inr (x0f.2 h0),hK⟩
def NoL(L:Ln):Prop:=∀t i,i<15->L (rt t i)=none
theorem Ej(hC:bC P F C)(hL:NoL L)(h:SR F nt S L w0 M0 f M a w){n:NOp}{q:Op}(hd:∀t,o.dst=some t->t<nt)(ho:o.op=q)(hk:yp P F n q=true)(hr:aB C f o.dst K n):o.wp P a w (PostX F nt S L w0 M0 f K) Q:=by
 have hp:bM nt f o.dst:=by
  unfold bM
  split
  ·trivial
  ·rename_i t e;exact hd t e
 unfold yp at hk
 have dst:∀{n:NOp},aB C f none K n->(∀x,n≠.asg x)->(∀x,n≠.nilo x)->True:=fun _ _ _=>trivial
 split at hk<;>(try simp only[x0a,x0l]at hk)
 ·cases hdst:o.dst with
  | none=>rw[hdst]at hr;exact hr.elim
  | some t=>rw[hdst]at hr;exact u5 h hdst (hd t hdst) (hL t 0 (by decide)) (.inl ho) hk hr
 ·cases hdst:o.dst with
  | none=>rw[hdst]at hr;exact hr.elim
  | some t=>rw[hdst]at hr;exact u5 h hdst (hd t hdst) (hL t 0 (by decide)) (.inr ho) hk hr
 ·simp only[aB]at hr
  cases hdst:o.dst with
  | none=>rw[hdst]at hr;exact hr.elim
  | some t=>rw[hdst]at hr;exact u6 h hdst (hd t hdst) (.inl ho) hk hr
 ·simp only[aB]at hr
  cases hdst:o.dst with
  | none=>rw[hdst]at hr;exact hr.elim
  | some t=>rw[hdst]at hr;exact u6 h hdst (hd t hdst) (.inr ho) hk hr
 ·have hr':res f (df o.dst K) (.ld 1 false _):=DS hr
  obtain⟨d,h1,h2⟩:=kS hr'
  exact Oper.wp_mono (iq h1) (yq (n:=.ld 1 false _) hC.laid hC.prog h hp ho (by simp only[yo,x0a];exact hk) (h2 _ rfl))
 ·obtain⟨⟨⟨rfl,h1⟩,h2⟩,h3⟩:=hk
  cases hdst:o.dst with
  | none=>rw[hdst]at hr;exact hr.elim
  | some t=>rw[hdst]at hr;exact u4 h hdst (hd t hdst) (hL t 0 (by decide)) ho rfl h2 h3 h1 (wS hr)
 ·simp only[aB]at hr
  cases hdst:o.dst with
  | none=>rw[hdst]at hr;exact hr.elim
  | some t=>rw[hdst]at hr;exact Bt h hdst (hd t hdst) ho hk.1.2 hk.2 hk.1.1 hr
 ·simp only[aB]at hr
  cases hdst:o.dst with
  | none=>rw[hdst]at hr;exact hr.elim
  | some t=>rw[hdst]at hr;exact Bx h hdst (hd t hdst) ho hk.2 hk.1 hr
 ·exact BE h ho hk.1.2 hk.2 hk.1.1 hr
 ·exact BG h ho hk.1.2 hk.2 hk.1.1 hr
 ·exact BF h ho hk.1.2 hk.2 hk.1.1 hr
 ·simp only[aB]at hr
  exact wu hC h hd ho hk.2 hk.1 hr
 ·have hr':res f (df o.dst K) (.mkI _ _):=hr
  obtain⟨d,h1,h2⟩:=kS hr'
  exact Oper.wp_mono (iq h1) (Bz h hp ho hk.1.1 hk.1.2 hk.2 (h2 _ rfl))
 ·have hr':res f (df o.dst K) (.tya _ _):=hr
  obtain⟨d,h1,h2⟩:=kS hr'
  exact Oper.wp_mono (iq h1) (BH h hp ho hk.1.1 hk.1.2 hk.2 (h2 _ rfl))
 ·obtain⟨⟨⟨rfl,h1⟩,h2⟩,h3⟩:=hk
  split at h1
  ·rename_i fi hg
   simp only[aB]at hr
   exact wo hC h hd ho h2 h3 hg h1 hr
  ·cases h1
 ·simp only[aB]at hr
  exact wq hC h hd ho hk.1.2 hk.2 hk.1.1 hr
 ·exact wr hC h hd ho hk.1.2 hk.2 hk.1.1 hr
 ·cases hdst:o.dst with
  | none=>rw[hdst]at hr;exact hr.elim
  | some t=>rw[hdst]at hr;exact y4 h hdst (hd t hdst) (hL t 0 (by decide)) ho hk hr
 ·cases hdst:o.dst with
  | none=>rw[hdst]at hr;exact hr.elim
  | some t=>rw[hdst]at hr;exact BC h hdst (hd t hdst) (hL t 0 (by decide)) ho hk.2 hk.1.1 (of_decide_eq_true hk.1.2) hr
 ·cases hdst:o.dst with
  | none=>rw[hdst]at hr;exact hr.elim
  | some t=>rw[hdst]at hr;exact sD h hdst (hd t hdst) (hL t 0 (by decide)) (.inl ho) hk hr
 ·cases hdst:o.dst with
  | none=>rw[hdst]at hr;exact hr.elim
  | some t=>rw[hdst]at hr;exact sD h hdst (hd t hdst) (hL t 0 (by decide)) (.inr ho) hk hr
 ·cases hdst:o.dst with
  | none=>rw[hdst]at hr;exact hr.elim
  | some t=>rw[hdst]at hr;exact snd_box h hdst (hd t hdst) (hL t 0 (by decide)) ho hk hr
 ·cases hdst:o.dst with
  | none=>rw[hdst]at hr;exact hr.elim
  | some t=>rw[hdst]at hr;exact snd_alc h hdst (hd t hdst) (hL t 0 (by decide)) ho hk hr
 ·obtain⟨rfl,hk⟩:=hk
  cases hdst:o.dst with
  | none=>rw[hdst]at hr;exact hr.elim
  | some t=>rw[hdst]at hr;exact snd_bls h hdst (hd t hdst) (hL t 0 (by decide)) ho hk hr
 ·cases hdst:o.dst with
  | none=>rw[hdst]at hr;exact hr.elim
  | some t=>rw[hdst]at hr;exact snd_mks h hdst (hd t hdst) (hL t 0 (by decide)) ho hk.1.2 hk.2 hk.1.1 hr
 ·exact sC hC h hp ho hk.2 hk.1 hr
 ·simp only[aB]at hr
  cases hdst:o.dst with
  | none=>rw[hdst]at hr;exact hr.2.elim
  | some t=>rw[hdst]at hr;exact wm hC h hdst (hd t hdst) (hL t 0 (by decide)) ho hk.2 hk.1 hr
 ·simp only[aB]at hr
  exact wn hC h hp ho hk.2 hk.1 hr
 ·simp only[aB]at hr
  exact wt hC h (fun t=>hL t 0 (by decide)) hd ho hk.1.2 hk.2 hk.1.1 hr
 ·simp only[aB]at hr
  cases hdst:o.dst with
  | none=>rw[hdst]at hr;exact hr.elim
  | some t=>rw[hdst]at hr;exact wk hC h hdst (hd t hdst) (hL t 0 (by decide)) ho hk.1.2 hk.2 hk.1.1 hr
 ·simp only[aB]at hr
  obtain⟨h0,hr⟩:=hr
  rcases hr with ⟨d,hc,hK⟩|hr
  ·exact sC hC h hp ho hk.2 hk.1 (sR h0 hc hK)
  ·cases hdst:o.dst with
   | none=>rw[hdst]at hr;exact hr.elim
   | some t=>rw[hdst]at hr;exact wj hC h hL hdst (hd t hdst) ho hk.2 hk.1 ⟨h0,hr⟩
 ·exact wv hC h hp ho hk.1 hk.2 hr
 ·have hdst:o.dst=none:=hr.1
  exact EF h hdst ho hk.1.2 hk.2 hk.1.1 (by rw[hdst]at hr;exact hr)
 ·obtain⟨⟨⟨rfl,h1⟩,h2⟩,h3⟩:=hk
  cases hdst:o.dst with
  | none=>rw[hdst]at hr;exact hr.elim
  | some t=>rw[hdst]at hr;exact u4 h hdst (hd t hdst) (hL t 0 (by decide)) ho rfl h2 h3 h1 hr
 ·cases hdst:o.dst with
  | none=>rw[hdst]at hr;exact hr.elim
  | some t=>rw[hdst]at hr;exact snd_mkm h hdst (hd t hdst) (hL t 0 (by decide)) ho hr
 ·have hdst:o.dst=none:=hr.1
  exact snd_mpu hC.laid h hdst ho hk.1.1.2 hk.1.2 hk.2 hk.1.1.1 hC.prog (by rw[hdst]at hr;exact hr)
 ·exact hr.elim
 ·have hr':res f (df o.dst K) n:=by
   clear dst
   cases n<;>first|exact hr|(simp[yo]at hk)
  obtain⟨d,h1,h2⟩:=kS hr'
  exact Oper.wp_mono (iq h1) (yq hC.laid hC.prog h hp ho hk (h2 _ rfl))
def Ci(nt:Nat):Option Nat->Bool
 | none=>true
 | some t=>decide (t<nt)
def qd(ops:Array Oper):Option (Nat×Bool)->Option (Nat×Bool)->Bool
 | none,none=>true
 | some (j,b),some (s,b')=>b==b'&&decide (s<10000)&&(match ops[j]? with
  | some o=>o.dst==some s
  | none=>false)
 | _,_=>false
def se(P:Program)(F:Fid)(nt:Nat)(ops:Array Oper)(n:ay)(o:Oper):Bool :=
 n.dst==o.dst&&Ci nt n.dst&&qd ops o.guard n.guard&&yp P F n.op o.op
theorem uf{ops:Array Oper}{tmps:Array Value}{j s:Nat}{b:Bool}{o:Oper}(h1:ops[j]? = some o)(h2:o.dst=some s)(h3:tmps[s]? = some (.bool b)):yielded ops tmps j=some b:=by
 simp[yielded,h1,h2,h3]
theorem sM{ops:Array Oper}{tmps:Array Value}{j s:Nat}{o:Oper}(h1:ops[j]? = some o)(h2:o.dst=some s){vs:Array Value}(h3:tmps[s]? = some (.tuple vs)):yielded ops tmps j=none:=by
 simp[yielded,h1,h2,h3]
def Skp(want:Bool)(d:D):Prop:=d=.bool (!want)\/d=.tup []
theorem zV{ops:Array Oper}{n:ay}{o:Oper}(h:qd ops o.guard n.guard=true){f:Nat->D}{M:Mem}{a:Act}{w:World}(hs:SR F nt S L w0 M0 f M a w) :
  (n.guard=none->Region.wanted o (yielded ops a.tmps)=true) /\
  (∀s want b,n.guard=some (s,want)->f s=.bool b->Region.wanted o (yielded ops a.tmps)=(b==want)) /\
  (∀s want,n.guard=some (s,want)->f s=.tup []->Region.wanted o (yielded ops a.tmps)=false):=by
 unfold qd at h
 split at h
 ·rename_i e1 e2
  exact⟨fun _=>by simp[Region.wanted,e1],fun s want b e3=>(by rw[e2]at e3;cases e3),fun s want e3=>(by rw[e2]at e3;cases e3)⟩
 ·rename_i j b s b' e1 e2
  simp only[x0a,x0l,x0b]at h
  obtain⟨⟨rfl,hs10⟩,h⟩:=h
  split at h
  ·rename_i o' ho'
   simp only[x0l]at h
   obtain⟨ρ,ω,hO⟩:=hs.own
   refine⟨fun e3=>(by rw[e2]at e3;cases e3),fun s1 want b1 e3 e4=>?_,fun s1 want e3 e4=>?_⟩
   ·rw[e2]at e3
    cases e3
    rcases hO.slots s hs10 with h5|⟨v,h5,h6⟩
    ·rw[e4]at h5;cases h5
    ·rw[e4]at h6
     simp only[aY,au,ae]at h6
     subst h6
     simp[Region.wanted,e1,uf ho' h h5]
   ·rw[e2]at e3
    cases e3
    rcases hO.slots s hs10 with h5|⟨v,h5,h6⟩
    ·rw[e4]at h5;cases h5
    ·rw[e4]at h6
     simp only[aY,au,ae]at h6
     obtain⟨vs,rfl,_⟩:=h6
     simp[Region.wanted,e1,sM ho' h h5]
  ·cases h
 ·cases h
theorem rf{e:Env}{s:Nat}{b:Bool}(h:ab e s=.bool b):ab ((s,.bool b)::e)=ab e:=by
 funext t
 simp only[ab]
 by_cases ht:s=t
 ·subst ht;rw[if_pos rfl,h]
 ·rw[if_neg ht]
def iP(C:Nat->List D->D->List D->Prop)(n:ay)(f:Nat->D)(x:Option (List (Nat×D)×List (Nat×Bool))):Prop :=
 match x with
 | some (ws,ks)=>(∀s b,n.guard=some (s,b)->f s=.bool b)/\aB C f n.dst (fun ws' ks'=>ws'=ws/\ks'=ks) n.op
 | none=>∃s b,n.guard=some (s,b)/\Skp b (f s)
def oF(n:ay):Option (List (Nat×D)×List (Nat×Bool))->(Nat->D)->(Nat->D)
 | some (ws,ks)=>eff ws ks
 | none=>match n.dst with
  | some t=>eff [(t,.tup [])] []
  | none=>fun f=>f
theorem CS(hC:bC P F C)(hL:NoL L){ops:Array Oper}{n:ay}(hk:se P F nt ops n o=true)(h:SR F nt S L w0 M0 f M a w){x:Option (List (Nat×D)×List (Nat×Bool))}(hr:iP C n f x){R:Act->World->Prop}
  (hR:∀M' a' w',SR F nt S L w0 M0 (oF n x f) M' a' w'->R a' w') :
  if Region.wanted o (yielded ops a.tmps) then o.wp P a w R Q\/(o.asks P a w/\LetsOut Q) else R (a.put o.dst undef) w:=by
 unfold se at hk
 simp only[x0a,x0l]at hk
 obtain⟨⟨⟨hd,hdo⟩,hgu⟩,hop⟩:=hk
 have hw:=zV hgu h
 have hdst:∀t,o.dst=some t->t<nt:=fun t e=>by
  rw[<- hd]at e
  rw[e]at hdo
  simpa[Ci]using hdo
 cases x with
 | some y =>
  obtain⟨ws,ks⟩:=y
  obtain⟨h1,h2⟩:=hr
  have hwant:Region.wanted o (yielded ops a.tmps)=true:=by
   cases hg:n.guard with
   | none=>exact hw.1 hg
   | some p=>obtain⟨s,b⟩:=p;rw[hw.2.1 s b b hg (h1 s b hg)];simp
  rw[hwant,if_pos rfl]
  left
  rw[hd]at h2
  refine Oper.wp_mono ?_ (Ej hC hL h hdst rfl hop h2)
  rintro a' w' ⟨ws',ks',M',⟨rfl,rfl⟩,h'⟩
  exact hR M' a' w' h'
 | none =>
  obtain⟨s,b,h1,h2⟩:=hr
  have hno:Region.wanted o (yielded ops a.tmps)=false:=by
   rcases h2 with h2|h2
   ·rw[hw.2.1 s b (!b) h1 h2];cases b<;>rfl
   ·exact hw.2.2 s b h1 h2
  rw[hno,if_neg Bool.false_ne_true]
  refine hR M _ w ?_
  unfold oF
  rw[hd]
  cases hdd:o.dst with
  | none=>exact h
  | some t=>exact h.put (hdst t hdd) (fun _ _ _=>by simp[aY,au,ae,aA,undef])
theorem wA{K:Env->Prop}{n:ay}{ns:List ay}{e:Env}(h:ik C K (n::ns) e):∃x e',iP C n (ab e) x/\ab e'=oF n x (ab e)/\ik C K ns e':=by
 have run:∀e1,ab e1=ab e->(∀s b,n.guard=some (s,b)->ab e s=.bool b)->sJ C n.dst (ik C K ns) e1 n.op->∃x e',iP C n (ab e) x/\ab e'=oF n x (ab e)/\ik C K ns e':=by
  intro e1 he hg h1
  unfold sJ at h1
  obtain⟨ws,ks,h2,h3⟩:=n8 h1
  rw[he]at h3
  exact⟨some (ws,ks),_,⟨hg,h3 _ ⟨rfl,rfl⟩⟩,by rw[fT,he];rfl,h2⟩
 rw[ik]at h
 split at h
 ·rename_i hg
  exact run e rfl (fun s b e'=>(by rw[hg]at e';cases e')) h
 ·rename_i s want hg
  split at h
  ·rename_i b hb
   by_cases hbw:b=want
   ·subst hbw
    exact run _ (rf hb) (fun s' b' e'=>(by rw[hg]at e';cases e';exact hb)) (h.1 rfl)
   ·have hb':b=!want:=by cases b<;>cases want<;>simp_all
    have h1:=h.2 hb'
    rw[hb']at hb
    have he:=rf hb
    refine⟨none,?_⟩
    unfold gk at h1
    unfold oF
    split at h1
    ·rename_i hd
     exact⟨_,⟨s,want,hg,.inl hb⟩,by rw[hd];exact he,h1⟩
    ·rename_i t hd
     refine⟨_,⟨s,want,hg,.inl hb⟩,?_,h1⟩
     rw[hd]
     have:=fT [(t,.tup [])] [] ((s,.bool !want)::e)
     simp only[cC,if_true]at this
     rw[he]at this
     exact this
  ·rename_i hb
   refine⟨none,?_⟩
   unfold gk at h
   unfold oF
   split at h
   ·rename_i hd
    exact⟨_,⟨s,want,hg,.inr hb⟩,by rw[hd],h⟩
   ·rename_i t hd
    refine⟨_,⟨s,want,hg,.inr hb⟩,?_,h⟩
    rw[hd]
    have:=fT [(t,.tup [])] [] e
    simp only[cC,if_true]at this
    exact this
  ·exact h.elim
theorem wB(hC:bC P F C)(hL:NoL L){ops:Array Oper}{K:Env->Prop}(hQ:∀e M a w,SR F nt S L w0 M0 (ab e) M a w->K e->Q .normal a w)(ns:List ay):∀(os:List Oper),ns.length=os.length->(∀p∈ns.zip os,se P F nt ops p.1 p.2=true) ->
  ∀(e:Env) (M:Mem) (a:Act) (w:World),SR F nt S L w0 M0 (ab e) M a w->ik C K ns e->wpList P ops Q os a w:=by
 induction ns with
 | nil =>
  intro os hl _ e M a w h hr
  cases os with
  | nil=>exact hQ e M a w h hr
  | cons o os=>simp at hl
 | cons n ns ih =>
  intro os hl hk e M a w h hr
  cases os with
  | nil=>simp at hl
  | cons o os =>
   obtain⟨x,e',h1,h2,h3⟩:=wA hr
   rw[wpList]
   exact CS hC hL (hk (n,o) (by simp)) h h1 (fun M' a' w' h'=>ih os (by simpa using hl) (fun p hp=>hk p (by simp[hp])) e' M' a' w' (by rw[h2];exact h') h3)
def sq(P:Program)(F:Fid)(nt:Nat)(ns:List ay)(ops:Array Oper):Bool:=ns.length==ops.toList.length&&(ns.zip ops.toList).all fun p=>se P F nt ops p.1 p.2
theorem su(hC:bC P F C)(hL:NoL L){ops:Array Oper}{ns:List ay}(hk:sq P F nt ns ops=true){id:Nat}{K:Env->Prop}{e:Env}(h:SR F nt S L w0 M0 (ab e) M a w)(hr:ik C K ns e)(hQ:∀e M a w,SR F nt S L w0 M0 (ab e) M a w->K e->Q .normal a w) :
  (Code.region id ops false).wp P Q a w:=by
 simp only[sq,x0a,x0l,x0f]at hk
 exact wp_region_list (wB hC hL hQ ns ops.toList hk.1 hk.2 e M a w h hr)
end
end Go.Gv

namespace Go.Gv
open Go.RowKit
def oK:Option Opd->List Opd
 | some x=>[x]
 | none=>[]
def ai:NOp->List Opd
 | .mov x=>[x]
 | .asg x=>[x]
 | .frz x=>[x]
 | .ldF _ x=>[x]
 | .stF _ x y=>[x,y]
 | .stL x y=>[x,y]
 | .stG s x y=>[x,y,.t s]
 | .unk=>[]
 | .callX _ xs x y=>x::y::xs
 | .mkI _ x=>[x]
 | .tya _ x=>[x]
 | .callI _ _ _ x xs=>x::xs
 | .callM _ x xs=>x::xs
 | .callQ _ s x xs=>x::.t s::xs
 | .boxK s x=>[x,.t s]
 | .ldQ _ x=>[x]
 | .appQ _ _ _ x y=>[x,y]
 | .cpy _ x y=>[x,y]
 | .nilo _=>[]
 | .nck x=>[x]
 | .boxF x=>[x]
 | .blsF _ _ _ ps=>ps.map fun p=>p.2
 | .pick c a b=>[c,a,b]
 | .bin _ x y=>[x,y]
 | .beq _ _ x y=>[x,y]
 | .un _ x=>[x]
 | .conv _ x=>[x]
 | .fld _ _ _ x=>[x]
 | .idxA _ _ _ x i=>[x,i]
 | .idxS x i=>[x,i]
 | .ext _ x=>[x]
 | .fad _ x=>[x]
 | .iadS _ x i=>[x,i]
 | .iadA _ _ x i=>[x,i]
 | .ld _ _ x=>[x]
 | .box _ x=>[x]
 | .alc _=>[]
 | .mkm _ _=>[]
 | .mpl _ _ _ _ _ m x=>[m,x]
 | .mpu _ _ _ _ m x v=>[m,x,v]
 | .bld _ ps=>ps.map fun p=>p.2.2
 | .bls _ _ _ _ ps=>ps.map fun p=>p.2
 | .mks _ _ _ n c=>[n,c]
 | .len x=>[x]
 | .lens x=>[x]
 | .call _ xs _=>xs
 | .callv x xs=>x::xs
 | .callF _ xs=>xs
 | .callG _ xs=>xs
 | .callS _ x xs=>x::xs
 | .callE _ x xs=>x::xs
 | .callA _ xs=>xs
 | .mk _ xs=>xs
 | .slc _ x lo hi=>x::(oK lo++oK hi)
 | .slA _ _ x=>[x]
 | .slM _ _ x=>[x]
 | .mn x y=>[x,y]
 | .mx x y=>[x,y]
 | .add64 x y c=>[x,y,c]
 | .sub64 x y c=>[x,y,c]
 | .st _ _ a v=>[a,v]
 | .app _ _ _ x y=>[x,y]
 | .dead=>[]
section
variable{C:Nat->List D->D->List D->Prop}{f g:Nat->D}
def da(f g:Nat->D)(d:D):Prop:=∀b,cV b true d=true->g b=f b
theorem fV(p:Pa):a7 p.root true p=true:=by cases p<;>simp[a7,Pa.root]
theorem di{p:Pa}(h:g p.root=f p.root):aQ g p=aQ f p:=by
 cases p<;>simp only[aQ,Pa.root]at h ⊢<;>rw[h]
theorem da.ref{p:Pa}{k n:Nat}(h:da f g (.ref p k n)):g p.root=f p.root:=h _ (by simp only[cV,aO];exact fV p)
theorem da.adr{p:Pa}{i o:Nat}(h:da f g (.adr p i o)):g p.root=f p.root:=h _ (by simp only[cV,aO];exact fV p)
theorem da.ifa{T:Nat}{p:Pa}{i o:Nat}(h:da f g (.ifa T p i o)):g p.root=f p.root:=h _ (by simp only[cV,aO];exact fV p)
theorem da.mrf{b:Nat}(h:da f g (.mrf b)):g b=f b:=h _ (by simp[cV,aO])
theorem eC{d:D}(h:∀b,aO b true d=true->g b=f b):dp1 g d=dp1 f d/\(bu g d↔bu f d):=by
 cases d<;>try exact⟨rfl,Iff.rfl⟩
 case ref p k n =>
  have e:=di (p:=p) (h _ (by simp only[aO];exact fV p))
  simp only[dp1,bu,e,and_self]
 case adr p i off =>
  have e:=di (p:=p) (h _ (by simp only[aO];exact fV p))
  simp only[dp1,bu,e,and_self]
theorem fG{b:Nat}{ds:List D}{d:D}(h:d∈ds)(hm:aO b true d=true):ds.any (aO b true)=true:=x0P.2 ⟨d,h,hm⟩
theorem xn{d:D}(h:isX d=false)(ha:da f g d):dp g d=dp f d/\(bS g d↔bS f d):=by
 have e:∀f:Nat->D,dp f d=dp1 f d/\(bS f d↔bu f d)/\∀b,cV b true d=aO b true d:=fun f=>by
  cases d<;>first|exact⟨rfl,Iff.rfl,fun _=>rfl⟩|(simp[isX]at h)
 obtain⟨e1,e2,e3⟩:=e f
 obtain⟨g1,g2,_⟩:=e g
 obtain⟨h1,h2⟩:=eC (f:=f) (g:=g) (d:=d) (fun b hb=>ha b (by rw[e3];exact hb))
 exact⟨by rw[g1,e1,h1],by rw[g2,e2];exact h2⟩
theorem i4{d:D}(h:da f g d):dp g d=dp f d/\(bS g d↔bS f d):=by
 cases d
 case agx ds =>
  have e:∀d∈ds,dp1 g d=dp1 f d/\(bu g d↔bu f d):=fun d hd=>eC fun b hb=>h b (fG hd hb)
  simp only[dp,bS]
  exact⟨by rw[x0m fun d hd=>(e d hd).1],⟨fun x d hd=>(e d hd).2.1 (x d hd),fun x d hd=>(e d hd).2.2 (x d hd)⟩⟩
 case tpx ds =>
  have e:∀d∈ds,dp1 g d=dp1 f d/\(bu g d↔bu f d):=fun d hd=>eC fun b hb=>h b (fG hd hb)
  simp only[dp,bS]
  exact⟨by rw[x0m fun d hd=>(e d hd).1],⟨fun x d hd=>(e d hd).2.1 (x d hd),fun x d hd=>(e d hd).2.2 (x d hd)⟩⟩
 case ptx ds =>
  have e:∀d∈ds,dp1 g d=dp1 f d/\(bu g d↔bu f d):=fun d hd=>eC fun b hb=>h b (fG hd hb)
  simp only[dp,bS]
  exact⟨by rw[x0m fun d hd=>(e d hd).1],⟨fun x d hd=>(e d hd).2.1 (x d hd),fun x d hd=>(e d hd).2.2 (x d hd)⟩⟩
 case rfx n sz ds=>exact⟨rfl,Iff.rfl⟩
 case fny g ds cs=>exact⟨rfl,Iff.rfl⟩
 case fnx k ds =>
  have e:∀d∈ds,dp1 g d=dp1 f d/\(bu g d↔bu f d):=fun d hd=>eC fun b hb=>h b (fG hd hb)
  simp only[dp,bS]
  exact⟨by rw[x0m fun d hd=>(e d hd).1],⟨fun x d hd=>(e d hd).2.1 (x d hd),fun x d hd=>(e d hd).2.2 (x d hd)⟩⟩
 all_goals
  exact xn rfl h
theorem mc{d:D}{K:D->List Nat->Prop}(h:∀b,aO b true d=true->g b=f b)(hr:dO f d K):dO g d K:=by
 unfold dO at hr ⊢
 split at hr
 ·rename_i b k n
  rw[h b (by simp[aO,a7])]
  exact hr
 ·exact hr
theorem md:∀{ds:List D} {K:List D->List Nat->Prop},(∀d∈ds,∀b,aO b true d=true->g b=f b)->j6 f ds K->j6 g ds K
 | [],K,_,hr=>hr
 | d::ds,K,h,hr=>by
  obtain⟨c,bs,h1,h2⟩:=lr hr
  obtain⟨cs,bs',h3,h4⟩:=lu h1
  refine mc (h d (by simp)) (h2 _ (md (fun d hd=>h d (by simp[hd])) (h4 _ h3)))
theorem jO{d:D}{ns:List Nat}{K:List D->List Nat->Prop}(h:da f g d)(hr:fB f d ns K):fB g d ns K:=by
 unfold fB at hr ⊢
 split at hr
 ·exact hr
 ·exact⟨hr.1,md (fun d hd b hb=>h b (fG hd hb)) hr.2⟩
 ·rename_i hne1 hne2
  refine⟨hr.1,mc (fun b hb=>h b ?_) hr.2⟩
  cases d<;>first|exact hb|(exact absurd rfl (hne2 _))|(simp[aO]at hb)
theorem kM{sz:Nat}{ns:List Nat}:∀{ps:List (Nat×Opd)} {es:List (List D)} {bs:List Nat} {K:List (List D)->List Nat->Prop},(∀p∈ps,vd g p.2=vd f p.2/\da f g (vd f p.2))->eK f sz ns ps es bs K->eK g sz ns ps es bs K
 | [],es,bs,K,_,hr=>hr
 | (i,x)::ps,es,bs,K,h,hr=>by
  obtain⟨h0,hr⟩:=hr
  obtain⟨e1,e2⟩:=h (i,x) (by simp)
  obtain⟨cs,b1,⟨h1,h1'⟩,h2⟩:=iR hr
  refine⟨h0,?_⟩
  simp only at e1 e2
  rw[e1]
  exact jO e2 (h2 _ ⟨h1,kM (fun p hp=>h p (by simp[hp])) h1'⟩)
theorem jf{mv:Bool}{d:D}{sz:Nat}{K:List (List D)->List Nat->Prop}(h:da f g d)(hr:eT f mv d sz K):eT g mv d sz K:=by
 unfold eT at hr ⊢
 split at hr
 ·exact hr
 ·exact hr
 ·rename_i p k n
  cases mv with
  | true =>
   obtain⟨h0,hr⟩:=hr
   refine⟨h0,?_⟩
   cases p with
   | r b=>simp only at hr ⊢;rw[show g b=f b from h.ref];exact hr
   | n b i o=>exact hr
  | false=>simp only at hr ⊢;rw[di h.ref];exact hr
 ·exact hr
theorem dQ{x:Option Opd}{n:Nat}{K:Nat->Prop}(h:∀y∈oK x,vd g y=vd f y)(hr:dP f x n K):dP g x n K:=by
 unfold dP at hr ⊢
 split at hr
 ·exact hr
 ·rename_i y
  rw[h y (by simp[oK])]
  exact hr
theorem i6:∀{ps:List (Nat×Opd)} {es:List (List D)},(∀p∈ps,vd g p.2=vd f p.2)->fN g ps es=fN f ps es
 | [],_,_=>rfl
 | p::ps,es,h=>by
  simp only[fN]
  rw[h p (by simp)]
  exact i6 fun q hq=>h q (by simp[hq])
theorem wc{o:NOp}{K:D->Prop}(hv:∀x∈ai o,vd g x=vd f x)(ha:∀x∈ai o,da f g (vd f x))(hr:res f K o):res g K o:=by
 cases o with
 | ld n ag x =>
  have e:=hv x (by simp[ai]);have a:=ha x (by simp[ai])
  simp only[res,e]at hr ⊢
  split at hr
  ·rename_i ex;rw[ex]at a;rw[di a.adr];exact hr
  ·exact hr
  ·exact hr
  ·exact hr
 | iadS sz x i =>
  have e:=hv x (by simp[ai]);have a:=ha x (by simp[ai]);have e2:=hv i (by simp[ai])
  simp only[res,e,e2]at hr ⊢
  split at hr
  ·exact hr
  ·exact hr
  ·exact hr
  ·rename_i ex _;rw[ex]at a;rw[di a.ref];exact hr
  ·exact hr
 | slc sz x lo hi =>
  have e:=hv x (by simp[ai]);have a:=ha x (by simp[ai])
  have hlo:∀y∈oK lo,vd g y=vd f y:=fun y hy=>hv y (by simp[ai,hy])
  have hhi:∀y∈oK hi,vd g y=vd f y:=fun y hy=>hv y (by simp[ai,hy])
  simp only[res,e]at hr ⊢
  split at hr
  ·exact⟨hr.1,dQ hhi (jP hr.2 fun m h=>dQ hlo h)⟩
  ·exact dQ hhi (jP hr fun m h=>dQ hlo h)
  ·rename_i ex
   rw[ex]at a;rw[di a.ref]
   split at hr
   ·exact⟨hr.1,dQ hhi (jP hr.2 fun m h=>dQ hlo h)⟩
   ·exact hr
  ·exact hr
 | bld zs ps =>
  have e:∀p∈ps,vd g p.2.2=vd f p.2.2:=fun p hp=>hv _ (x0p.2 ⟨p,hp,rfl⟩)
  simp only[res]at hr ⊢
  obtain⟨h1,h2,h3⟩:=hr
  have e2:(ps.all fun p=>isV (vd g p.2.2))=(ps.all fun p=>isV (vd f p.2.2)):=by
   rw[x0S,x0f,x0f]
   exact⟨fun h p hp=>by rw[<- e p hp];exact h p hp,fun h p hp=>by rw[e p hp];exact h p hp⟩
  have m1:(ps.map fun p=>(p.1,p.2.1,vd g p.2.2))=ps.map fun p=>(p.1,p.2.1,vd f p.2.2):=x0m fun p hp=>by rw[e p hp]
  have m2:(ps.map fun p=>(p.1,p.2.1,dY (vd g p.2.2)))=ps.map fun p=>(p.1,p.2.1,dY (vd f p.2.2)):=x0m fun p hp=>by rw[e p hp]
  rw[e2,m1,m2]
  exact⟨fun p hp=>by rw[e p hp];exact h1 p hp,h2,h3⟩
 | mk k xs =>
  have e:∀x∈xs,vd g x=vd f x:=fun x hx=>hv x hx
  simp only[res]at hr ⊢
  obtain⟨h1,h2,h3⟩:=hr
  have e2:(xs.all fun x=>isV (vd g x))=(xs.all fun x=>isV (vd f x)):=by
   rw[x0S,x0f,x0f]
   exact⟨fun h p hp=>by rw[<- e p hp];exact h p hp,fun h p hp=>by rw[e p hp];exact h p hp⟩
  rw[e2,x0m e]
  exact⟨fun p hp=>by rw[e p hp];exact h1 p hp,h2,h3⟩
 | unk=>exact hr
 | pick c x y=>simp only[res,hv c (by simp[ai]),hv x (by simp[ai]),hv y (by simp[ai])]at hr ⊢;exact hr
 | add64 x y c=>simp only[res,hv c (by simp[ai]),hv x (by simp[ai]),hv y (by simp[ai])]at hr ⊢;exact hr
 | sub64 x y c=>simp only[res,hv c (by simp[ai]),hv x (by simp[ai]),hv y (by simp[ai])]at hr ⊢;exact hr
 | bin op x y=>simp only[res,hv x (by simp[ai]),hv y (by simp[ai])]at hr ⊢;exact hr
 | beq op ks x y=>simp only[res,hv x (by simp[ai]),hv y (by simp[ai])]at hr ⊢;exact hr
 | idxA l s g x i=>simp only[res,hv x (by simp[ai]),hv i (by simp[ai])]at hr ⊢;exact hr
 | idxS x i=>simp only[res,hv x (by simp[ai]),hv i (by simp[ai])]at hr ⊢;exact hr
 | iadA l s x i=>simp only[res,hv x (by simp[ai]),hv i (by simp[ai])]at hr ⊢;exact hr
 | mn x y=>simp only[res,hv x (by simp[ai]),hv y (by simp[ai])]at hr ⊢;exact hr
 | mx x y=>simp only[res,hv x (by simp[ai]),hv y (by simp[ai])]at hr ⊢;exact hr
 | mov x=>simp only[res,hv x (by simp[ai])]at hr ⊢;exact hr
 | nck x=>simp only[res,hv x (by simp[ai])]at hr ⊢;exact hr
 | un op x=>simp only[res,hv x (by simp[ai])]at hr ⊢;exact hr
 | conv k x=>simp only[res,hv x (by simp[ai])]at hr ⊢;exact hr
 | slA l s x=>simp only[res,hv x (by simp[ai])]at hr ⊢;exact hr
 | fld a b c x=>simp only[res,hv x (by simp[ai])]at hr ⊢;exact hr
 | ext i x=>simp only[res,hv x (by simp[ai])]at hr ⊢;exact hr
 | fad i x=>simp only[res,hv x (by simp[ai])]at hr ⊢;exact hr
 | mkI T x=>simp only[res,hv x (by simp[ai])]at hr ⊢;exact hr
 | tya T x=>simp only[res,hv x (by simp[ai])]at hr ⊢;exact hr
 | len x=>simp only[res,hv x (by simp[ai])]at hr ⊢;exact hr
 | boxF x=>simp only[res,hv x (by simp[ai])]at hr ⊢;exact hr
 | blsF sz len zs ps =>
  have e:∀p∈ps,vd g p.2=vd f p.2:=fun p hp=>hv _ (x0p.2 ⟨p,hp,rfl⟩)
  simp only[res]at hr ⊢
  rw[i6 e]
  exact⟨fun p hp=>by rw[e p hp];exact hr.1 p hp,hr.2⟩
 | lens x=>simp only[res,hv x (by simp[ai])]at hr ⊢;exact hr
 | mpl sh kt et ok z m x =>
  have e:=hv m (by simp[ai]);have a:=ha m (by simp[ai]);have e2:=hv x (by simp[ai])
  simp only[res,e,e2]at hr ⊢
  split at hr
  ·rename_i b ex
   rw[ex]at a
   rw[a.mrf]
   exact hr
  ·exact hr
 | _=>simp only[res]at hr
theorem tM{o:NOp}{dst:Option Nat}{K:List (Nat×D)->List (Nat×Bool)->Prop}(hv:∀x∈ai o,vd g x=vd f x)(ha:∀x∈ai o,da f g (vd f x))(hr:aB C f dst K o):aB C g dst K o:=by
 cases o with
 | frz x =>
  have e:=hv x (by simp[ai]);have a:=ha x (by simp[ai])
  cases dst with
  | none=>exact hr
  | some t =>
   simp only[aB,e]at hr ⊢
   split at hr
   ·rename_i c k n ex
    rw[ex]at a
    have hl:=eC (d:=.ref (.r c) k n) (f:=f) (g:=g) (fun b hb=>a b (by simp only[cV];exact hb))
    rw[hl.1]
    exact⟨hl.2.2 hr.1,hr.2⟩
   ·exact hr
 | asg x =>
  have e:=hv x (by simp[ai]);have a:=ha x (by simp[ai])
  cases dst with
  | none=>exact hr
  | some t =>
   simp only[aB,e]at hr ⊢
   split at hr
   ·rename_i c k n ex
    rw[ex]at a
    rw[show g c=f c from a.ref]
    exact hr
   ·exact hr
 | ldQ q x =>
  have e:=hv x (by simp[ai]);have a:=ha x (by simp[ai])
  simp only[aB,e]at hr ⊢
  split at hr
  ·rename_i c i off ex
   rw[ex]at a
   rw[show g c=f c from a.adr]
   exact hr
  ·exact hr
 | appQ q sz by_ x y =>
  have e:=hv x (by simp[ai]);have a:=ha x (by simp[ai]);have e2:=hv y (by simp[ai]);have a2:=ha y (by simp[ai])
  cases dst with
  | none=>exact hr
  | some t =>
   simp only[aB,e,e2]at hr ⊢
   split at hr
   ·rename_i c i o k n ex
    rw[ex]at a
    obtain⟨h0,hr⟩:=hr
    obtain⟨rows,bs,⟨h1,h1',h2⟩,h3⟩:=dU hr
    refine⟨h0,jf a2 (h3 _ ⟨h1,h1',?_⟩)⟩
    rw[show g c=f c from a.ref]
    exact h2
   ·exact hr
 | cpy sz x y =>
  have e:=hv x (by simp[ai]);have a:=ha x (by simp[ai]);have e2:=hv y (by simp[ai]);have a2:=ha y (by simp[ai])
  cases dst with
  | none=>exact hr
  | some t =>
   simp only[aB,e,e2]at hr ⊢
   obtain⟨rows,bs,⟨h1,h1',h2⟩,h3⟩:=dU hr
   refine jf a2 (h3 _ ⟨h1,h1',?_⟩)
   split at h2
   ·rename_i c k n ex;rw[ex]at a;rw[show g c=f c from a.ref];exact h2
   ·exact h2
 | stL x y =>
  have e:=hv x (by simp[ai]);have a:=ha x (by simp[ai]);have e2:=hv y (by simp[ai])
  simp only[aB,e,e2]at hr ⊢
  refine⟨hr.1,?_⟩
  have hr:=hr.2
  split at hr
  ·rename_i b i off b' i' o' k n ex ey
   rw[ex]at a
   rw[show g b=f b from a.adr]
   exact hr
  ·exact hr
 | boxK s x =>
  have e:=hv x (by simp[ai]);have a:=ha x (by simp[ai]);have e2:=hv (.t s) (by simp[ai])
  simp only[vd]at e2
  cases dst with
  | none=>exact hr
  | some t =>
   simp only[aB,e,e2]at hr ⊢
   refine⟨hr.1,hr.2.1,?_⟩
   have hr:=hr.2.2
   split at hr
   ·rename_i c k n ex
    rw[ex]at a
    rw[show g c=f c from a c (by simp[cV,aO,a7])]
    exact hr
   ·exact hr
 | callI k m T x0 xs =>
  have e0:=hv x0 (by simp[ai]);have a0:=ha x0 (by simp[ai])
  have e:∀x∈xs,vd g x=vd f x:=fun x hx=>hv x (by simp[ai,hx])
  simp only[aB,e0]at hr ⊢
  split at hr
  ·rename_i T' b i o hvx
   rw[hvx]at a0
   have hb:g b=f b:=a0.ifa
   rw[hb,x0m e]
   obtain⟨h0,h1,h2,hr⟩:=hr
   refine⟨h0,h1,h2,?_⟩
   split at hr
   ·exact⟨hr.1,fun x hx=>by rw[e x hx];exact hr.2.1 x hx,hr.2.2⟩
   ·exact hr.elim
  ·exact hr.elim
 | callM k x0 xs =>
  have e0:=hv x0 (by simp[ai]);have a0:=ha x0 (by simp[ai])
  have e:∀x∈xs,vd g x=vd f x:=fun x hx=>hv x (by simp[ai,hx])
  simp only[aB,e0]at hr ⊢
  split at hr
  ·rename_i T' b i o hvx
   rw[hvx]at a0
   have hb:g b=f b:=a0.ifa
   rw[hb,x0m e]
   obtain⟨h1,h2,hr⟩:=hr
   refine⟨h1,h2,?_⟩
   split at hr
   ·exact⟨hr.1,fun x hx=>by rw[e x hx];exact hr.2.1 x hx,hr.2.2⟩
   ·exact hr.elim
  ·exact hr.elim
 | callQ k s x0 xs =>
  have e0:=hv x0 (by simp[ai]);have a0:=ha x0 (by simp[ai]);have e2:=hv (.t s) (by simp[ai])
  simp only[vd]at e2
  have e:∀x∈xs,vd g x=vd f x:=fun x hx=>hv x (by simp[ai,hx])
  simp only[aB,e0,e2]at hr ⊢
  split at hr
  ·rename_i T' b i o hvx
   rw[hvx]at a0
   have hb:g b=f b:=a0.ifa
   rw[hb,x0m e]
   obtain⟨h1,h2,h3,h4,h5,hr⟩:=hr
   exact⟨h1,h2,h3,h4,fun x hx=>by rw[e x hx];exact h5 x hx,hr⟩
  ·exact hr.elim
 | stG s x y =>
  have e:=hv x (by simp[ai]);have e2:=hv y (by simp[ai]);have e3:=hv (.t s) (by simp[ai]);have a3:=ha (.t s) (by simp[ai])
  simp only[vd]at e3 a3
  simp only[aB,e,e2,e3]at hr ⊢
  refine⟨hr.1,hr.2.1,?_⟩
  have hr:=hr.2.2
  split at hr
  ·rename_i c i0 o0 ex
   rw[ex]at a3
   rw[show g c=f c from a3.adr]
   exact hr
  ·exact hr
 | callX k xs x0 y0 =>
  have e0:=hv x0 (by simp[ai]);have a0:=ha x0 (by simp[ai]);have e1:=hv y0 (by simp[ai]);have a1:=ha y0 (by simp[ai])
  have e:∀x∈xs,vd g x=vd f x:=fun x hx=>hv x (by simp[ai,hx])
  simp only[aB,e0,e1]at hr ⊢
  split at hr
  ·rename_i b i o c k n hvx hvy
   rw[hvx]at a0
   rw[hvy]at a1
   have hb:g b=f b:=a0.adr
   have hc:g c=f c:=a1.ref
   rw[hb,hc,x0m e]
   obtain⟨h1,h2,h3,h4,hr⟩:=hr
   refine⟨h1,h2,h3,h4,?_⟩
   split at hr
   ·exact⟨hr.1,hr.2.1,fun x hx=>by rw[e x hx];exact hr.2.2.1 x hx,hr.2.2.2⟩
   ·exact hr.elim
  ·exact hr.elim
 | stF n x y =>
  have e:=hv x (by simp[ai]);have a:=ha x (by simp[ai]);have e2:=hv y (by simp[ai])
  simp only[aB,e2]at hr ⊢
  refine⟨hr.1,?_⟩
  have hr:=hr.2
  split at hr
  ·rename_i s
   simp only[vd]at e a
   rw[e]
   refine⟨hr.1,?_⟩
   have hr:=hr.2
   split at hr
   ·rename_i c i0 o0 ex
    rw[ex]at a
    rw[show g c=f c from a.adr]
    exact hr
   ·exact hr
  ·exact hr
 | ldF n x =>
  have e:=hv x (by simp[ai]);have a:=ha x (by simp[ai])
  cases dst with
  | none=>exact hr
  | some t =>
   simp only[aB,e]at hr ⊢
   split at hr
   ·rename_i c i off ex
    rw[ex]at a
    rw[show g c=f c from a.adr]
    exact hr
   ·exact hr
 | slM len sz x =>
  have e:=hv x (by simp[ai]);have a:=ha x (by simp[ai])
  cases dst with
  | none=>exact hr
  | some t =>
   simp only[aB,e]at hr ⊢
   split at hr
   ·rename_i c i off ex
    rw[ex]at a
    rw[show g c=f c from a.adr]
    exact hr
   ·exact hr
 | nilo sz=>exact hr
 | alc zs=>exact hr
 | mkm kt et=>exact hr
 | mpu sh kt et z m x v =>
  have e:=hv m (by simp[ai]);have a:=ha m (by simp[ai]);have e2:=hv x (by simp[ai]);have e3:=hv v (by simp[ai])
  simp only[aB,e,e2,e3]at hr ⊢
  refine⟨hr.1,?_⟩
  have hr:=hr.2
  split at hr
  ·rename_i b ex
   rw[ex]at a
   rw[a.mrf]
   exact hr
  ·exact hr
 | box ns x =>
  have e:=hv x (by simp[ai]);have a:=ha x (by simp[ai])
  cases dst with
  | none=>exact hr
  | some t=>simp only[aB,e]at hr ⊢;exact jO a hr
 | bls sz len zs ns ps =>
  cases dst with
  | none=>exact hr
  | some t=>simp only[aB]at hr ⊢;exact kM (fun p hp=>⟨hv _ (x0p.2 ⟨p,hp,rfl⟩),ha _ (x0p.2 ⟨p,hp,rfl⟩)⟩) hr
 | mks sz by_ zs n c =>
  have e:=hv n (by simp[ai]);have e2:=hv c (by simp[ai])
  cases dst with
  | none=>exact hr
  | some t=>simp only[aB,e,e2]at hr ⊢;exact hr
 | st n ns x v =>
  have e:=hv x (by simp[ai]);have a:=ha x (by simp[ai]);have e2:=hv v (by simp[ai]);have a2:=ha v (by simp[ai])
  simp only[aB,e,e2]at hr ⊢
  obtain⟨h0,hr⟩:=hr
  refine⟨h0,?_⟩
  obtain⟨cs,bs,⟨h1,h2⟩,h3⟩:=iR hr
  refine jO a2 (h3 _ ⟨h1,?_⟩)
  split at h2
  ·rename_i b i off ex;rw[ex]at a;rw[show g b=f b from a.adr];exact h2
  ·rename_i b i0 o0 i off ex;rw[ex]at a;rw[show g b=f b from a.adr];exact h2
  ·exact h2
 | app sz by_ mv x y =>
  have e:=hv x (by simp[ai]);have a:=ha x (by simp[ai]);have e2:=hv y (by simp[ai]);have a2:=ha y (by simp[ai])
  cases dst with
  | none=>exact hr
  | some t =>
   simp only[aB,e,e2]at hr ⊢
   obtain⟨rows,bs,⟨h1,h2⟩,h3⟩:=dU hr
   refine jf a2 (h3 _ ⟨h1,?_⟩)
   split at h2
   ·exact h2
   ·rename_i c k n ex;rw[ex]at a;rw[show g c=f c from a.ref];exact h2
   ·rename_i c i o k n ex;rw[ex]at a;rw[show g c=f c from a.ref];exact h2
   ·exact h2
 | call k xs ms =>
  simp only[aB]at hr ⊢
  obtain⟨h0,d,h1,h2,h3⟩:=hr
  have e:∀x∈xs,dpv g x=dpv f x/\(bS g (vd g x)↔bS f (vd f x)):=fun x hx=>by
   have:=i4 (ha x hx)
   unfold dpv
   rw[hv x hx]
   exact this
  refine⟨fun x hx=>(e x hx).2.2 (h0 x hx),d,by rw[x0m fun x hx=>(e x hx).1];exact h1,h2.imp id (fun h=>?_),h3⟩
  rw[x0f]at h ⊢
  exact fun x hx=>by rw[hv x hx];exact h x hx
 | callG k xs =>
  have e:∀x∈xs,dpv g x=dpv f x/\(bS g (vd g x)↔bS f (vd f x)):=fun x hx=>by
   have:=i4 (ha x hx)
   unfold dpv
   rw[hv x hx]
   exact this
  simp only[aB]at hr ⊢
  rw[x0m fun x hx=>(e x hx).1]
  exact⟨fun x hx=>(e x hx).2.2 (hr.1 x hx),hr.2⟩
 | callF k xs =>
  have e:∀x∈xs,dpv g x=dpv f x/\(bS g (vd g x)↔bS f (vd f x)):=fun x hx=>by
   have:=i4 (ha x hx)
   unfold dpv
   rw[hv x hx]
   exact this
  simp only[aB]at hr ⊢
  rw[x0m fun x hx=>(e x hx).1]
  exact⟨fun x hx=>(e x hx).2.2 (hr.1 x hx),hr.2⟩
 | callS k x0 xs =>
  have e0:=hv x0 (by simp[ai]);have a0:=ha x0 (by simp[ai])
  have eb:∀b,∀x∈xs,vd (fbE g b) x=vd (fbE f b) x/\da (fbE f b) (fbE g b) (vd (fbE f b) x):=fun b x hx=>by
   have h1:=hv x (by simp[ai,hx])
   have h2:=ha x (by simp[ai,hx])
   have hag:da (fbE f b) (fbE g b) (vd f x):=fun c hc=>by
    unfold fbE
    split
    ·rfl
    ·exact h2 c hc
   cases x with
   | t t =>
    simp only[vd]at h1 hag ⊢
    unfold fbE
    split
    ·exact⟨rfl,fun c hc=>by simp[cV,aO]at hc⟩
    ·exact⟨h1,hag⟩
   | c d=>exact⟨rfl,hag⟩
  have ed:∀b,∀x∈xs,dpv (fbE g b) x=dpv (fbE f b) x/\(bS (fbE g b) (vd (fbE g b) x)↔bS (fbE f b) (vd (fbE f b) x)):=fun b x hx=>by
   have:=i4 (eb b x hx).2
   unfold dpv
   rw[(eb b x hx).1]
   exact this
  have eo:∀b es',oJ (fbE g b) xs es'↔oJ (fbE f b) xs es':=fun b es'=>by
   unfold oJ
   rw[x0f,x0f]
   exact or_congr ⟨fun h x hx=>by rw[<- (eb b x hx).1];exact h x hx,fun h x hx=>by rw[(eb b x hx).1];exact h x hx⟩ Iff.rfl
  simp only[aB,e0]at hr ⊢
  split at hr
  ·rename_i b k n hvx
   rw[hvx]at a0
   have hb:g b=f b:=a0.ref
   rw[hb,x0m fun x hx=>(ed b x hx).1]
   simp only[eo]
   obtain⟨h1,hr⟩:=hr
   refine⟨h1,?_⟩
   split at hr
   ·exact⟨hr.1,hr.2.1,fun x hx=>(ed b x hx).2.2 (hr.2.2.1 x hx),hr.2.2.2⟩
   ·exact hr.elim
  ·exact hr.elim
 | callA k xs =>
  have e:∀x∈xs,vd g x=vd f x:=fun x hx=>hv x (by simp[ai,hx])
  simp only[aB]at hr ⊢
  rw[x0m e]
  exact⟨fun x hx=>by rw[e x hx];exact hr.1 x hx,hr.2⟩
 | callE k x0 xs =>
  have e0:=hv x0 (by simp[ai]);have a0:=ha x0 (by simp[ai])
  have e:∀x∈xs,oD g x=oD f x/\∀b,m9 g b x↔m9 f b x:=fun x hx=>by
   have h1:=hv x (by simp[ai,hx])
   have h2:=ha x (by simp[ai,hx])
   unfold oD m9
   rw[h1]
   revert h2
   generalize vd f x=d
   intro h2
   cases d<;>first|exact⟨rfl,fun _=>Iff.rfl⟩|skip
   rename_i p k n
   cases p with
   | r c =>
    have hb:g c=f c:=h2.ref
    exact⟨by simp only[hb],fun _=>by simp only[hb]⟩
   | n c i o=>exact⟨rfl,fun _=>Iff.rfl⟩
  simp only[aB,e0]at hr ⊢
  split at hr
  ·split at hr
   ·rename_i p k n hvx
    rw[hvx]at a0
    have hb:g p.root=f p.root:=a0.ref
    have hd:de g p=de f p:=by
     cases p with
     | r c=>rfl
     | n c i o=>simp only[de];rw[show g c=f c from hb]
    simp only[di hb,hd]
    rw[x0m fun x hx=>(e x hx).1]
    split at hr
    ·obtain⟨h1,h2,h3,h4,h5,h6⟩:=hr
     exact⟨h1,h2,h3,h4,fun x hx=>((e x hx).2 _).2 (h5 x hx),h6⟩
    ·exact hr.elim
   ·exact hr.elim
  ·exact hr.elim
 | callv x0 xs =>
  have e0:=hv x0 (by simp[ai]);have a0:=ha x0 (by simp[ai])
  have e:∀x∈xs,dpv g x=dpv f x/\(bS g (vd g x)↔bS f (vd f x)):=fun x hx=>by
   have:=i4 (ha x (by simp[ai,hx]))
   unfold dpv
   rw[hv x (by simp[ai,hx])]
   exact this
  simp only[aB,e0]at hr ⊢
  split at hr
  ·obtain⟨h0,d,h1,h2,h3⟩:=hr
   refine⟨fun x hx=>(e x hx).2.2 (h0 x hx),d,by rw[x0m fun x hx=>(e x hx).1];exact h1,h2.imp id (fun h=>?_),h3⟩
   rw[x0f]at h ⊢
   exact fun x hx=>by rw[hv x (by simp[ai,hx])];exact h x hx
  ·rename_i k cs ex
   rw[ex]at a0
   obtain⟨h0,h0',d,h1,h2,h3⟩:=hr
   have ec:∀c∈cs,dp1 g c=dp1 f c/\(bu g c↔bu f c):=fun c hc=>eC fun b hb=>a0 b (fG hc hb)
   exact⟨fun x hx=>(e x hx).2.2 (h0 x hx),fun c hc=>(ec c hc).2.2 (h0' c hc),d,by rw[x0m fun x hx=>(e x hx).1,x0m fun c hc=>(ec c hc).1];exact h1,h2,h3⟩
  ·exact hr
 | _=>(simp only[aB]at hr ⊢;exact wc hv ha hr)
end
end Go.Gv

namespace Go.Gv
open Go.RowKit
def bA:D->List Nat
 | .ref p _ _=>[p.root]
 | .adr p _ _=>[p.root]
 | .ifa _ p _ _=>[p.root]
 | .mrf b=>[b]
 | _=>[]
def bP:D->List Nat
 | .agx ds=>ds.flatMap bA
 | .tpx ds=>ds.flatMap bA
 | .ptx ds=>ds.flatMap bA
 | .rfx _ _ ds=>ds.flatMap bA
 | .fnx _ ds=>ds.flatMap bA
 | .fny _ ds cs=>ds.flatMap bA++cs.flatMap bA
 | d=>bA d
theorem nO{b:Nat}{all:Bool}{p:Pa}(h:a7 b all p=true):b=p.root:=by
 cases p<;>simp[a7,Pa.root]at h ⊢<;>simp_all
theorem mo{b:Nat}{all:Bool}{d:D}(h:aO b all d=true):b∈bA d:=by
 cases d<;>simp only[aO,x0j]at h
 case ref p k n=>simp[bA,nO h]
 case adr p i o=>simp[bA,nO h]
 case ifa T p i o=>simp[bA,nO h]
 case mrf c=>simp at h;simp[bA,h.2]
theorem jV{b:Nat}{all:Bool}{d:D}(h:cV b all d=true):b∈bP d:=by
 have part:∀ds:List D,ds.any (aO b all)=true->b∈ds.flatMap bA:=fun ds h=>by
  obtain⟨d,h1,h2⟩:=x0P.1 h
  exact x1t.2 ⟨d,h1,mo h2⟩
 cases d
 case agx ds=>exact part ds h
 case tpx ds=>exact part ds h
 case ptx ds=>exact part ds h
 case rfx n sz ds=>exact part ds h
 case fnx g ds=>exact part ds h
 case fny g ds cs =>
  simp only[cV,x0E]at h
  simp only[bP,x0n]
  rcases h with h|h
  ·exact .inl (part ds h)
  ·exact .inr (part cs h)
 all_goals (simp only[cV]at h;simp only[bP];exact mo h)
theorem lN(ks:List (Nat×Bool)):aG ks .any=false:=by
 simp[aG,cV,aO]
theorem nN{ks:List (Nat×Bool)}{d:D}(h:aG ks d=true):∃k∈ks,cV k.1 k.2 d=true:=by
 simpa[aG]using h
theorem iy{ws:List (Nat×D)}{k:Nat}{d:D}(h:ws.lookup k=some d):(k,d)∈ws:=by
 induction ws with
 | nil=>cases h
 | cons p ws ih =>
  obtain⟨s,x⟩:=p
  rw[x0g]at h
  cases e:k==s with
  | true=>rw[e]at h;simp at e h;subst e;subst h;simp
  | false=>rw[e]at h;simp[ih h]
theorem rT{ws:List (Nat×D)}{k:Nat}(h:ws.lookup k=none):k∉ws.map (·.1):=by
 induction ws with
 | nil=>simp
 | cons p ws ih =>
  obtain⟨s,x⟩:=p
  rw[x0g]at h
  cases e:k==s with
  | true=>rw[e]at h;cases h
  | false=>rw[e]at h;simp at e;simp only[x0t,x0B,not_or];exact⟨e,ih h⟩
theorem fU{ws:List (Nat×D)}{k:Nat}(h:k∉ws.map (·.1)):ws.lookup k=none:=by
 refine rU fun d hd=>h (x0p.2 ⟨_,hd,rfl⟩)
structure Fam where
 n:Nat
 ws:Nat->List (Nat×D)
 ks:Nat->List (Nat×Bool)
 rd:Nat->List Nat
 mn:Nat->List Nat
 fr:Nat->List (Nat×Nat)
 bef:Nat->Nat->Bool
 f0:Nat->D
def Fam.W(A:Fam)(i:Nat):List Nat:=(A.ws i).map (·.1)
def Fam.E(A:Fam)(i:Nat):(Nat->D)->(Nat->D):=eff (A.ws i) (A.ks i)
def Fam.G(A:Fam)(l:Nat->Bool):Nat->(Nat->D)
 | 0=>A.f0
 | m+1=>if l m then A.E m (A.G l m) else A.G l m
def Fam.St(A:Fam)(m:Nat):Nat->D:=A.G (fun _=>true) m
def f4(m:Nat):D->Option (List (Option D))
 | .blk _ es=>some (es.map fun r=>r[m]?)
 | _=>none
def Fam.Pres(A:Fam)(i k m:Nat):Prop:=f4 m (A.St (i+1) k)=f4 m (A.St i k)
def Fam.Apart(A:Fam)(i j:Nat):Prop:=(∀k∈A.W i,k∉A.rd j/\k∉A.W j/\∀m,(k,m)∈A.fr j->A.Pres i k m)/\∀k∈A.ks i,k.1∉A.mn j
def Fam.Ind(A:Fam)(i j:Nat):Prop:=A.Apart i j/\A.Apart j i
structure Fam.Ok (A:Fam):Prop where
 kills:∀i,i<A.n->∀k∈A.ks i,k.1∈A.W i
 vals:∀i,i<A.n->∀p∈A.ws i,∀b all,cV b all p.2=true->b∈A.mn i\/b∈A.W i
 closed:∀i,i<A.n->∀k∈A.rd i,∀b all,cV b all (A.St i k)=true->b∈A.mn i
 fine:∀i,i<A.n->∀p∈A.fr i,p.1∉A.W i
 known:∀i,i<A.n->∀k∈A.rd i,A.St i k≠.any
 pairs:∀i j,i<j->j<A.n->A.bef j i=true\/A.Ind i j
section
variable{A:Fam}
theorem eN{ws:List (Nat×D)}{ks:List (Nat×Bool)}{f:Nat->D}{k:Nat}{d:D}(h:ws.lookup k=some d):eff ws ks f k=d:=aE h
theorem cS{ws:List (Nat×D)}{ks:List (Nat×Bool)}{f:Nat->D}{k:Nat}(h:ws.lookup k=none):eff ws ks f k=if aG ks (f k) then .any else f k:=by
 unfold eff;rw[h]
theorem Fam.Ok.noKill(h:A.Ok){i j:Nat}(hi:i<A.n)(hj:j<A.n)(hI:A.Apart j i){p:Nat×D}(hp:p∈A.ws i):aG (A.ks j) p.2=false:=by
 cases hm:aG (A.ks j) p.2 with
 | false=>rfl
 | true =>
  obtain⟨k,h1,h2⟩:=nN hm
  have h3:=h.kills j hj k h1
  have h5:=(hI.1 _ h3).2.1
  have h4:=hI.2 k h1
  rcases h.vals i hi p hp _ _ h2 with h6|h6
  ·exact absurd h6 h4
  ·exact absurd h6 h5
theorem Fam.Ok.comm(h:A.Ok){i j:Nat}(hi:i<A.n)(hj:j<A.n)(hI:A.Ind i j)(f:Nat->D):A.E i (A.E j f)=A.E j (A.E i f):=by
 funext k
 unfold Fam.E
 cases h1:(A.ws i).lookup k with
 | some d =>
  have hk:k∈A.W i:=x0p.2 ⟨_,iy h1,rfl⟩
  have h2:(A.ws j).lookup k=none:=fU (hI.1.1 k hk).2.1
  have h3:=h.noKill hi hj hI.2 (iy h1)
  rw[eN h1,cS h2,eN h1]
  simp only at h3
  rw[h3];rfl
 | none =>
  cases h2:(A.ws j).lookup k with
  | some d =>
   have h3:=h.noKill hj hi hI.1 (iy h2)
   rw[cS h1,eN h2,eN h2]
   simp only at h3
   rw[h3];rfl
  | none =>
   rw[cS h1,cS h2,cS h2,cS h1]
   cases e1:aG (A.ks i) (f k)<;>cases e2:aG (A.ks j) (f k)<;>simp[e1,e2,lN]
def wL(A:Fam)(l:Nat->Bool):Prop:=∀j,j<A.n->l j=true->∀i,i<j->A.bef j i=true->l i=true
open Classical in
noncomputable def dt(A:Fam)(l:Nat->Bool)(m:Nat)(d:D):D:=if ∃u,u<m/\l u=false/\aG (A.ks u) d=true then .any else d
theorem pg(l:Nat->Bool)(m:Nat):dt A l m .any=.any:=by
 unfold dt;split<;>rfl
theorem CF(h:A.Ok){l:Nat->Bool}(hs:wL A l):∀m,m<=A.n->∀k,(∀u,u<m->l u=false->k∉A.W u)->A.St m k=dt A l m (A.G l m k)
 | 0,_,k,_=>by
  unfold dt
  rw[if_neg (by rintro⟨u,hu,_⟩;omega)]
  rfl
 | m+1,hm,k,hk=>by
  have ih:=CF h hs m (by omega) k (fun u hu=>hk u (by omega))
  have e1:A.St (m+1) k=A.E m (A.St m) k:=by simp[Fam.St,Fam.G]
  rw[e1]
  cases hl:l m with
  | true =>
   have e2:A.G l (m+1) k=A.E m (A.G l m) k:=by simp[Fam.G,hl]
   rw[e2]
   unfold Fam.E
   cases h1:(A.ws m).lookup k with
   | some d =>
    rw[eN h1,eN h1]
    unfold dt
    rw[if_neg]
    rintro⟨u,hu,hlu,hmu⟩
    have hum:u<m:=by
     rcases x1o u m with h|h
     ·exact h
     ·have:u=m:=by omega
      subst this;rw[hl]at hlu;cases hlu
    rcases h.pairs u m hum (by omega)with h2|h2
    ·rw[hs m (by omega) hl u hum h2]at hlu;cases hlu
    ·have:=h.noKill (i:=m) (j:=u) (by omega) (by omega) h2.1 (iy h1)
     simp only at this
     rw[this]at hmu;cases hmu
   | none =>
    rw[cS h1,cS h1,ih]
    have same:∀d,dt A l (m+1) d=dt A l m d:=fun d=>by
     unfold dt
     congr 1
     refine propext ⟨fun⟨u,h3,h4,h5⟩=>⟨u,?_,h4,h5⟩,fun⟨u,h3,h4,h5⟩=>⟨u,by omega,h4,h5⟩⟩
     rcases x1o u m with h|h
     ·exact h
     ·have:u=m:=by omega
      subst this;rw[hl]at h4;cases h4
    rw[same]
    generalize A.G l m k=g
    by_cases hc:∃u,u<m/\l u=false/\aG (A.ks u) g=true
    ·have e3:dt A l m g=.any:=by unfold dt;rw[if_pos hc]
     rw[e3,lN]
     cases hg:aG (A.ks m) g with
     | true=>simp only[if_true];rw[pg];rfl
     | false=>simp only[x0j,if_false];rw[e3]
    ·have e3:dt A l m g=g:=by unfold dt;rw[if_neg hc]
     rw[e3]
     cases hg:aG (A.ks m) g with
     | true=>simp only[if_true];rw[pg]
     | false=>simp only[x0j,if_false];rw[e3]
  | false =>
   have e2:A.G l (m+1) k=A.G l m k:=by simp[Fam.G,hl]
   rw[e2]
   unfold Fam.E
   rw[cS (fU (hk m (by omega) hl)),ih]
   generalize A.G l m k=g
   by_cases hc:∃u,u<m/\l u=false/\aG (A.ks u) g=true
   ·have e3:dt A l m g=.any:=by unfold dt;rw[if_pos hc]
    have e4:dt A l (m+1) g=.any:=by
     unfold dt
     obtain⟨u,h1,h2⟩:=hc
     rw[if_pos ⟨u,by omega,h2⟩]
    rw[e3,e4,lN];rfl
   ·have e3:dt A l m g=g:=by unfold dt;rw[if_neg hc]
    rw[e3]
    cases hg:aG (A.ks m) g with
    | true =>
     have e4:dt A l (m+1) g=.any:=by unfold dt;exact if_pos ⟨m,by omega,hl,hg⟩
     rw[e4];rfl
    | false =>
     have e4:dt A l (m+1) g=g:=by
      unfold dt
      refine if_neg ?_
      rintro⟨u,h1,h2,h3⟩
      rcases x1o u m with h|h
      ·exact hc ⟨u,h,h2,h3⟩
      ·have:u=m:=by omega
       subst this;rw[hg]at h3;cases h3
     rw[e4];rfl
theorem Fam.Ok.reads(h:A.Ok){l:Nat->Bool}(hs:wL A l){j:Nat}(hj:j<A.n)(hlj:l j=false)(hb:∀i,i<j->A.bef j i=true->l i=true):∀k∈A.rd j,A.G l A.n k=A.St j k:=by
 intro k hk
 have h1:A.G l j k=A.St j k:=by
  have h2:=CF h hs j (by omega) k (fun u hu hlu=>by
   rcases h.pairs u j hu hj with h3|h3
   ·rw[hb u hu h3]at hlu;cases hlu
   ·exact fun h4=>(h3.1.1 k h4).1 hk)
  have h3:=h.known j hj k hk
  rw[h2]at h3 ⊢
  unfold dt at h3 ⊢
  split at h3
  ·exact absurd rfl h3
  ·rename_i hc;rw[if_neg hc]
 have h2:∀m,j<=m->m<=A.n->A.G l m k=A.St j k:=by
  intro m
  induction m with
  | zero=>intro h3 _;have:j=0:=(by omega);subst this;exact h1
  | succ m ih =>
   intro h3 h4
   rcases x1o m j with h5|h5
   ·have:j=m+1:=by omega
    rw[<- this];exact h1
   ·have ihm:=ih h5 (by omega)
    cases hl:l m with
    | false=>simp[Fam.G,hl,ihm]
    | true =>
     have hjm:j<m:=by
      rcases x1o j m with h|h
      ·exact h
      ·have:j=m:=by omega
       subst this;rw[hl]at hlj;cases hlj
     rcases h.pairs j m hjm (by omega)with h6|h6
     ·rw[hs m (by omega) hl j hjm h6]at hlj;cases hlj
     ·have h7:(A.ws m).lookup k=none:=fU (fun h8=>(h6.2.1 k h8).1 hk)
      have h8:aG (A.ks m) (A.St j k)=false:=by
       cases hm:aG (A.ks m) (A.St j k) with
       | false=>rfl
       | true =>
        obtain⟨q,h9,h10⟩:=nN hm
        exact absurd (h.closed j hj k hk _ _ h10) (h6.2.2 q h9)
      simp only[Fam.G,hl,if_true,Fam.E]
      rw[cS h7,ihm,h8];rfl
 exact h2 A.n (by omega) (x0k _)
theorem oU(m:Nat)(ks:List (Nat×Bool))(d:D):f4 m (if aG ks d then .any else d)=f4 m d:=by
 cases d
 case blk sz es=>rw[pj rfl];rfl
 all_goals (split<;>rfl)
theorem jn(A:Fam)(f g:Nat->D)(i k m:Nat)(h:k∉A.W i):f4 m (A.E i f k)=f4 m (f k):=by
 unfold Fam.E
 rw[cS (fU h),oU]
theorem oV(A:Fam)(f g:Nat->D)(i k:Nat)(h:k∈A.W i):A.E i f k=A.E i g k:=by
 unfold Fam.E
 cases h1:(A.ws i).lookup k with
 | none=>exact absurd h (rT h1)
 | some d=>rw[eN h1,eN h1]
theorem j4(A:Fam)(m:Nat):A.St (m+1)=A.E m (A.St m):=by simp[Fam.St,Fam.G]
theorem Fam.Ok.readsC(h:A.Ok){l:Nat->Bool}(hs:wL A l){j:Nat}(hj:j<A.n)(hlj:l j=false)(hb:∀i,i<j->A.bef j i=true->l i=true):∀p∈A.fr j,f4 p.2 (A.G l A.n p.1)=f4 p.2 (A.St j p.1):=by
 rintro⟨k,c⟩ hk
 simp only
 have hkj:=h.fine j hj _ hk
 simp only at hkj
 have low:∀m,m<=j->f4 c (A.G l m k)=f4 c (A.St m k):=by
  intro m
  induction m with
  | zero=>intro _;rfl
  | succ m ih =>
   intro hm
   have ihm:=ih (by omega)
   rw[j4]
   by_cases hw:k∈A.W m
   ·cases hl:l m with
    | true =>
     simp only[Fam.G,hl,if_true]
     rw[oV A _ (A.St m) m k hw]
    | false =>
     simp only[Fam.G,hl,x0j,if_false]
     rcases h.pairs m j (by omega) hj with h1|h1
     ·rw[hb m (by omega) h1]at hl;cases hl
     ·have h2:=(h1.1.1 k hw).2.2 c hk
      unfold Fam.Pres at h2
      rw[j4]at h2
      rw[h2,ihm]
   ·rw[jn A _ (A.St m) m k c hw]
    cases hl:l m with
    | true =>
     simp only[Fam.G,hl,if_true]
     rw[jn A _ (A.St m) m k c hw,ihm]
    | false=>simp only[Fam.G,hl,x0j,if_false];exact ihm
 have run:∀m,j<=m->m<=A.n->(∀u,j<u->u<m->k∈A.W u->A.Pres u k c)->f4 c (A.St m k)=f4 c (A.St j k):=by
  intro m
  induction m with
  | zero=>intro h1 _ _;have:j=0:=(by omega);subst this;rfl
  | succ m ih =>
   intro h1 h2 h3
   rcases x1o m j with h4|h4
   ·have:j=m+1:=by omega
    rw[<- this]
   ·have ihm:=ih h4 (by omega) (fun u h5 h6 h7=>h3 u h5 (by omega) h7)
    by_cases hw:k∈A.W m
    ·have hjm:j<m:=by
      rcases x1o j m with h|h
      ·exact h
      ·have:j=m:=by omega
       subst this;exact absurd hw hkj
     have:=h3 m hjm (by omega) hw
     unfold Fam.Pres at this
     rw[this,ihm]
    ·rw[j4,jn A _ (A.St m) m k c hw,ihm]
 have high:∀m,j<=m->m<=A.n->f4 c (A.G l m k)=f4 c (A.St j k):=by
  intro m
  induction m with
  | zero=>intro h1 _;have:j=0:=(by omega);subst this;exact low 0 (x0k _)
  | succ m ih =>
   intro h1 h2
   rcases x1o m j with h4|h4
   ·have:j=m+1:=by omega
    rw[<- this];exact low j (x0k _)
   ·have ihm:=ih h4 (by omega)
    cases hl:l m with
    | false=>simp only[Fam.G,hl,x0j,if_false];exact ihm
    | true =>
     simp only[Fam.G,hl,if_true]
     by_cases hw:k∈A.W m
     ·have hjm:j<m:=by
       rcases x1o j m with h|h
       ·exact h
       ·have:j=m:=by omega
        subst this;rw[hl]at hlj;cases hlj
      have pres:∀u,j<u->u<A.n->k∈A.W u->l u=true->A.Pres u k c:=fun u h5 h6 h7 h8=>by
       rcases h.pairs j u h5 h6 with h9|h9
       ·rw[hs u h6 h8 j h5 h9]at hlj;cases hlj
       ·exact(h9.2.1 k h7).2.2 c hk
      have h5:=run m h4 (by omega) (fun u h5 h6 h7=>pres u h5 (by omega) h7 (by
       rcases h.pairs u m h6 (by omega)with h9|h9
       ·exact hs m (by omega) hl u h6 h9
       ·exact absurd hw (h9.1.1 k h7).2.1))
      have h6:=pres m hjm (by omega) hw hl
      unfold Fam.Pres at h6
      rw[oV A _ (A.St m) m k hw,<- j4,h6,h5]
     ·rw[jn A _ (A.St m) m k c hw,ihm]
 exact high A.n (by omega) (x0k _)
theorem Fam.Ok.more(h:A.Ok){l l':Nat->Bool}(hs:wL A l){j:Nat}(hj:j<A.n)(hlj:l j=false)(hj':l' j=true)(hl':∀i,i≠j->l' i=l i):A.G l' A.n=A.E j (A.G l A.n):=by
 have low:∀m,m<=j->A.G l' m=A.G l m:=by
  intro m
  induction m with
  | zero=>intro _;rfl
  | succ m ih =>
   intro hm
   simp only[Fam.G]
   rw[ih (by omega),hl' m (by omega)]
 have high:∀m,j<m->m<=A.n->A.G l' m=A.E j (A.G l m):=by
  intro m
  induction m with
  | zero=>intro h1;omega
  | succ m ih =>
   intro h1 h2
   rcases x1o j m with h3|h3
   ·have ihm:=ih h3 (by omega)
    simp only[Fam.G]
    rw[hl' m (by omega),ihm]
    cases hl:l m with
    | false=>rfl
    | true =>
     simp only[if_true]
     rcases h.pairs j m h3 (by omega)with h4|h4
     ·rw[hs m (by omega) hl j h3 h4]at hlj;cases hlj
     ·exact(h.comm hj (by omega) h4 _).symm
   ·have:m=j:=by omega
    subst this
    simp only[Fam.G]
    rw[hj',hlj,low m (x0k _)]
    rfl
 exact high A.n hj (x0k _)
end
end Go.Gv
