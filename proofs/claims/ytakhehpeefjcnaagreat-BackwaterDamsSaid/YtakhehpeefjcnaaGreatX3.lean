/-
  Texts of the proof: GvF9, GvF10, GvF11, GvF12, GvF13, GvF14, GvF15, GvF16, GvF17, GvG, GvH, GvI0, GvI.
-/
import Derived.Test.YtakhehpeefjcnaaGreatX2
import Derived.Orders
set_option linter.all false
namespace Go.Gv
open Go.RowKit
section
variable{P:Program}{F:Fid}{C:Nat->List D->D->List D->Prop}{nt:Nat}{S:Nat->Prop}{L:Nat->Option Loc}{w0:World}{M0:Mem}{f:Nat->D}{M M':Mem}{a:Act}{w w':World}{o:Oper}{d:D}{Q:Exit->Act->World->Prop}{ρ ρ':Pa->Loc}{ω ω':Nat->Option Pa}{New:Nat->Prop}{K:List (Nat×D)->List (Nat×Bool)->Prop}
def Pa.to(c:Nat):Pa->Pa
 | .r _=>.r c
 | .n _ i o=>.n c i o
theorem Pa.to_root(c:Nat)(p:Pa):(p.to c).root=c:=by cases p<;>rfl
theorem Pa.to_to(b c:Nat)(p:Pa)(h:p.root=b):(p.to c).to b=p:=by cases p<;>simp only[Pa.root]at h<;>subst h<;>rfl
theorem di.carry{b c sz:Nat}{es:List (List D)}(h:di F M ω ρ w b sz es)(hM:M.le M')(hs:∀p:Pa,p.root=b->ρ' (p.to c)=ρ p/\(ω (ρ p).blk=some p->ω' (ρ p).blk=some (p.to c)/\w'.heap[(ρ p).blk]? = w.heap[(ρ p).blk]?)):di F M' ω' ρ' w' c sz es:=by
 have path:∀(p:Pa) (sz:Nat) (es:List (List D)) (R R':Nat->Nat->D->Value->Prop),p.root=b->cm ω ρ w p sz es R->(∀i r off d v,es[i]? = some r->r[off]? = some d->R i off d v->R' i off d v)->cm ω' ρ' w' (p.to c) sz es R':=by
  intro p sz es R R' hp h hR
  obtain⟨e1,e2⟩:=hs p hp
  unfold cm at h ⊢
  rw[e1]
  rcases h with h|⟨h1,h2⟩
  ·exact .inl h
  ·obtain⟨g1,g2⟩:=e2 h1
   exact .inr ⟨g1,h2.frame g2 hR⟩
 unfold di at h ⊢
 refine path (.r b) sz es _ _ rfl h (fun i r off d v k1 k2 hr=>?_)
 cases d
 case own sz2 es2 =>
  obtain⟨h1,h2⟩:=hr
  refine⟨?_,path (.n b i off) sz2 es2 _ _ rfl h2 (fun _ _ _ d v _ _ hr=>af.mono hM d v hr)⟩
  have:=(hs (.n b i off) rfl).1
  simp only[aD,Pa.to]at h1 this ⊢
  rw[this]
  exact h1
 all_goals exact af.mono hM _ _ hr
theorem SR.lendX(h:SR F nt S L w0 M0 f M a w)(hO:Own F L (fun k=>S k\/w0.heap.size<=k) f M a w ρ ω){b sz:Nat}{es es':List (List D)}(hf:f b=.blk sz es)(hb:10000<=b)(hω:ω (ρ (.r b)).blk=some (.r b)){ρ1:Pa->Loc}{ω1:Nat->Option Pa}
  (hρ1:∀p:Pa,p.root=b->ρ1 (p.to aB)=ρ p) (hω1:∀k q,ω1 k=some q↔∃p:Pa,ω k=some p/\p.root=b/\q=p.to aB)
  (hch:Ch (fun k=>∃p,ω1 k=some p) w w') (hM:M.le M') (hfr:∀p,M p=none->M' p≠none->(∃q,ω1 p.block=some q)\/w.heap.size<=p.block) (hh:∀p v,M' p=some v->w'.cell? p=some v)
  (hρ':ρ' (.r aB)=ρ1 (.r aB)) (hl:qb F M' w' ρ' ω' aB sz es') (hnew:∀k p,ω' k=some p->(∃q,ω1 k=some q)\/w.heap.size<=k)
  {dst:Option Nat} (ht:∀t,dst=some t->t<nt) {v:Value} (hv:af F M' d v) :
  ∃ρ2 ω2,(∀p:Pa,p.root=b->ρ2 p=ρ' (p.to aB))/\(∀p:Pa,p.root≠b->ρ2 p=ρ p)/\Own F L (fun k=>S k\/w0.heap.size<=k) (eff (fQ dst d++[(b,.blk sz es')]) [(b,false)] f) M' (a.put dst v) w' ρ2 ω2/\SR F nt S L w0 M0 (eff (fQ dst d++[(b,.blk sz es')]) [(b,false)] f) M' (a.put dst v) w':=by
 have hS1:∀k q,ω1 k=some q->∃p,ω k=some p/\p.root=b:=fun k q e=>by
  obtain⟨p,h1,h2,_⟩:=(hω1 k q).1 e
  exact⟨p,h1,h2⟩
 have other:∀k p,ω k=some p->p.root≠b->(∀q,ω1 k≠some q)/\ω' k=none/\w'.heap[k]? = w.heap[k]?:=fun k p e hp=>by
  have h1:∀q,ω1 k≠some q:=fun q e1=>by
   obtain⟨p',h1,h2⟩:=hS1 k q e1
   rw[e]at h1;cases h1;exact hp h2
  refine⟨h1,?_,hch.block k (hO.lt _ _ e) (fun⟨q,e1⟩=>h1 q e1)⟩
  cases e2:ω' k with
  | none=>rfl
  | some q =>
   rcases hnew k q e2 with ⟨q,e1⟩|h2
   ·exact absurd e1 (h1 q)
   ·have:=hO.lt _ _ e;omega
 obtain⟨ρ2,hρ2⟩:∃ρ2:Pa->Loc,ρ2=fun p=>if p.root=b then ρ' (p.to aB) else ρ p:=⟨_,rfl⟩
 obtain⟨ω2,hω2⟩:∃ω2:Nat->Option Pa,ω2=fun k=>match ω' k with
  | some q=>some (q.to b)
  | none=>match ω k with
   | some p=>if p.root=b then none else some p
   | none=>none:=⟨_,rfl⟩
 have r1:∀p:Pa,p.root=b->ρ2 p=ρ' (p.to aB):=fun p hp=>by rw[hρ2];simp only[if_pos hp]
 have r2:∀p:Pa,p.root≠b->ρ2 p=ρ p:=fun p hp=>by rw[hρ2];simp only[if_neg hp]
 have o1:∀k q,ω' k=some q->ω2 k=some (q.to b):=fun k q e=>by rw[hω2];simp only[e]
 have o2:∀k p,ω k=some p->p.root≠b->ω2 k=some p:=fun k p e hp=>by rw[hω2];simp only[(other k p e hp).2.1,e,if_neg hp]
 have o3:∀k p,ω2 k=some p->(∃q,ω' k=some q/\p=q.to b)\/(ω k=some p/\p.root≠b):=fun k p e=>by
  rw[hω2]at e
  simp only at e
  cases e1:ω' k with
  | some q=>rw[e1]at e;cases e;exact .inl ⟨q,rfl,rfl⟩
  | none =>
   rw[e1]at e
   simp only at e
   cases e2:ω k with
   | none=>rw[e2]at e;cases e
   | some p' =>
    rw[e2]at e
    simp only at e
    split at e
    ·cases e
    ·cases e;exact .inr ⟨rfl,by assumption⟩
 have hrb:ρ2 (.r b)=ρ (.r b):=by
  rw[r1 (.r b) rfl]
  show ρ' (.r aB)=_
  rw[hρ',<- hρ1 (.r b) rfl]
  rfl
 have hfb:eff (fQ dst d++[(b,.blk sz es')]) [(b,false)] f b=.blk sz es':=aV (by
  cases dst with
  | none=>simp[fQ]
  | some t =>
   have:(b==t)=false:=by have:=ht t rfl;have:=h.hnt;simp;omega
   simp[fQ,x0l,this])
 have lk:∀s,s≠b->dst≠some s->(fQ dst d++[(b,D.blk sz es')]).lookup s=none:=fun s h1 h2=>by
  have e1:(s==b)=false:=by simpa using h1
  cases dst with
  | none=>simp only[fQ,x1S,x0l,e1,x03]
  | some t =>
   have e2:(s==t)=false:=by simp;rintro rfl;exact h2 rfl
   simp only[fQ,x1K,x1S,x0l,e1,e2,x03]
 have hsize:(a.put dst v).tmps.size=nt:=by cases dst<;>simp[Act.put,h.size]
 have main:Own F L (fun k=>S k\/w0.heap.size<=k) (eff (fQ dst d++[(b,.blk sz es')]) [(b,false)] f) M' (a.put dst v) w' ρ2 ω2->SR F nt S L w0 M0 (eff (fQ dst d++[(b,.blk sz es')]) [(b,false)] f) M' (a.put dst v) w':=fun own =>
  ⟨h.hnt,hsize,by cases dst<;>simp[Act.put,h.defers],h.ch.trans hch (fun k hk ⟨q,e⟩=>by
   obtain⟨p,e1,_⟩:=hS1 k q e
   rcases hO.new _ _ e1 with h3|h3
   ·exact h3
   ·omega),hh,Mem.le_trans h.ext hM,fun p h1 h2=>by
   by_cases e:M p=none
   ·rcases hfr p e h2 with ⟨q,e1⟩|h3
    ·obtain⟨p',e2,_⟩:=hS1 _ q e1
     exact hO.new _ _ e2
    ·exact .inr (x1v h.ch.size h3)
   ·exact h.fresh p h1 e,ρ2,ω2,own⟩
 refine⟨ρ2,ω2,r1,r2,(fun x=>⟨x,main x⟩) ?_⟩
 ·refine hO.step (ks:=[(b,false)]) (fun p hp=>?_) hM hch.size (fun s hs=>?_) (fun c hc=>?_) (fun k p e=>?_) (fun p q e=>?_) (fun c l hc hl' hB=>?_)
  ·refine⟨(b,false),by simp,?_⟩
   by_cases e:p.root=b
   ·cases p with
    | r x =>
     simp only[Pa.root]at e
     subst e
     exact absurd hrb hp
    | n x i off =>
     simp only[Pa.root]at e
     subst e
     simp[bQ]
   ·exact absurd (r2 p e) hp
  ·by_cases e:dst=some s
   ·right
    have hst:=ht s e
    subst e
    have e1:eff (fQ (some s) d++[(b,.blk sz es')]) [(b,false)] f s=d:=aV (by simp[fQ])
    refine .inr ⟨v,getElem?_put_same (by rw[h.size];exact hst),?_⟩
    rw[e1]
    exact bi.of_pure hv
   ·left
    rcases bO (f:=f) (ks:=[(b,false)]) (lk s (by omega) e)with h1|h1
    ·exact .inl h1
    ·refine .inr ⟨h1.1,?_,h1.2⟩
     cases dst with
     | none=>rfl
     | some t=>exact getElem?_put (fun x=>e (by rw[x]))
  ·by_cases e:c=b
   ·subst e
    right
    refine .inl ⟨sz,es',hfb,hl.rows.carry (Mem.le_refl _) (fun p hp=>?_)⟩
    have e1:ρ2 (p.to c)=ρ' p:=by rw[r1 _ (Pa.to_root _ _),Pa.to_to aB c p hp]
    exact⟨e1,fun e2=>⟨o1 _ _ e2,rfl⟩⟩
   ·left
    rcases ca (f:=f) (ks:=[(b,false)]) (lk c e (fun x=>by have:=ht c x;have:=h.hnt;omega))with h1|h1
    ·exact .inl h1
    ·refine .inr ⟨h1,fun p hp=>?_⟩
     have hpb:p.root≠b:=by rw[hp];exact e
     exact⟨r2 p hpb,fun hw=>⟨o2 _ _ hw hpb,(other _ _ hw hpb).2.2⟩⟩
  ·rcases o3 k p e with ⟨q,e1,_⟩|⟨e1,_⟩
   ·rcases hnew k q e1 with ⟨q',e2⟩|h2
    ·obtain⟨p',e3,_⟩:=hS1 k q' e2
     exact .inl ⟨p',e3⟩
    ·exact .inr ⟨hl.lt k q e1,.inr (x1v h.ch.size h2)⟩
   ·exact .inl ⟨p,e1⟩
  ·rcases o3 _ q e with ⟨q',e1,_⟩|⟨e1,e2⟩
   ·exact hl.apart p q' e1
   ·have h1:=hO.apart p q e1
    cases e3:M' p with
    | none=>rfl
    | some u =>
     rcases hfr p h1 (by rw[e3];simp)with ⟨q',e4⟩|h4
     ·exact absurd e4 ((other _ _ e1 e2).1 q')
     ·have:=hO.lt _ _ e1;omega
  ·by_cases e:c=b
   ·subst e
    exact⟨hrb,by rw[hf];rfl⟩
   ·have hcb:(Pa.r c).root≠b:=e
    refine⟨r2 _ hcb,?_⟩
    rcases ca (f:=f) (ks:=[(b,false)]) (lk c e (fun x=>by have:=ht c x;have:=h.hnt;omega))with h1|h1
    ·rw[hB]at h1;cases h1
    ·rw[<- h1];exact hB
theorem SR.lend(h:SR F nt S L w0 M0 f M a w)(hO:Own F L (fun k=>S k\/w0.heap.size<=k) f M a w ρ ω){b sz:Nat}{es es':List (List D)}(hf:f b=.blk sz es)(hb:10000<=b)(hω:ω (ρ (.r b)).blk=some (.r b)){ρ1:Pa->Loc}{ω1:Nat->Option Pa}
  (hρ1:∀p:Pa,p.root=b->ρ1 (p.to aB)=ρ p) (hω1:∀k q,ω1 k=some q↔∃p:Pa,ω k=some p/\p.root=b/\q=p.to aB)
  (hch:Ch (fun k=>∃p,ω1 k=some p) w w') (hM:M.le M') (hfr:∀p,M p=none->M' p≠none->(∃q,ω1 p.block=some q)\/w.heap.size<=p.block) (hh:∀p v,M' p=some v->w'.cell? p=some v)
  (hρ':ρ' (.r aB)=ρ1 (.r aB)) (hl:qb F M' w' ρ' ω' aB sz es') (hnew:∀k p,ω' k=some p->(∃q,ω1 k=some q)\/w.heap.size<=k)
  {dst:Option Nat} (ht:∀t,dst=some t->t<nt) {v:Value} (hv:af F M' d v) :
  SR F nt S L w0 M0 (eff (fQ dst d++[(b,.blk sz es')]) [(b,false)] f) M' (a.put dst v) w':=by
 obtain⟨_,_,_,_,_,hs⟩:=h.lendX hO hf hb hω hρ1 hω1 hch hM hfr hh hρ' hl hnew ht hv
 exact hs
theorem w8(hC:bU P F C)(h:SR F nt S L w0 M0 f M a w)(hp:∀t,o.dst=some t->t<nt){g fi:Nat}{x:Opd}{xs:List Opd}{y:Operand}{ys:List Operand}{ts:Array TypeId}(ho:o.op=.call { callee:=.value (.func fi),args:=⟨y::ys⟩,argTypes:=ts })(hx0:am F x y=true)(hx:bT F xs ys=true)
  (hg:F g=some fi) (hr:match vd f x with
  | .adr (.r b) i off=>i=0/\off=0/\match f b with
   | .blk sz es=>0<es.length/\(∀x∈xs,isV (vd f x)=true)/\∃d,∃es':List (List D),0<es'.length/\C g (.blk sz es::xs.map (vd f)) d [.blk sz es']/\K (fQ o.dst d++[(b,.blk sz es')]) [(b,false)]
   | _=>False
  | _=>False):o.wp P a w (PostX F nt S L w0 M0 f K) Q:=by
 split at hr
 ·rename_i b i off hvx
  obtain⟨rfl,rfl,hr⟩:=hr
  split at hr
  ·rename_i sz es hf
   obtain⟨hpos,hxs,d,es',hpos',hc,hK⟩:=hr
   have hrun:(execOp a.eval o).run P w=(callFunc fi (a.eval y::ys.map a.eval).toArray).run P w:=by
    simp only[execOp,ho,resolve,Act.eval,Deferred.ofValue,Sem.run_bind,Sem.run_pure,Result.andThen_ok,invoke]
    congr 2
    rw[Array.append_empty,x1r]
    apply Array.ext'
    simp
    cases y<;>simp[Act.eval]
   obtain⟨ρ,ω,hO⟩:=h.own
   have hb:=hO.big hf
   have hv:=hO.opd hx0
   rw[hvx,aw rfl]at hv
   simp only[aD,x1B,x0Z]at hv
   have hroot:=hO.roots b sz es hb hf
   have hω:ω (ρ (.r b)).blk=some (.r b):=by
    rcases hroot with ⟨e0,_⟩|⟨hω,_⟩
    ·rw[e0]at hpos;simp at hpos
    ·exact hω
   have hrep:aC F M (xs.map (vd f)) (ys.map a.eval):=by
    have h1:=fU h hx (by rw[x0g];exact hxs)
    rwa[x0i (g:=vd f) fun x hx'=>by unfold dpv;exact(iz (hxs x hx')).1]at h1
   obtain⟨ρ1,hρ1⟩:∃ρ1:Pa->Loc,ρ1=fun p=>ρ (p.to b):=⟨_,rfl⟩
   obtain⟨ω1,hω1⟩:∃ω1:Nat->Option Pa,ω1=fun k=>match ω k with
    | some p=>if p.root=b then some (p.to aB) else none
    | none=>none:=⟨_,rfl⟩
   have w1:∀k q,ω1 k=some q↔∃p:Pa,ω k=some p/\p.root=b/\q=p.to aB:=fun k q=>by
    rw[hω1]
    simp only
    constructor
    ·intro e
     split at e
     ·rename_i p hp
      split at e
      ·cases e;exact⟨p,hp,by assumption,rfl⟩
      ·cases e
     ·cases e
    ·rintro⟨p,e1,e2,rfl⟩
     simp only[e1,if_pos e2]
   have p1:∀p:Pa,p.root=b->ρ1 (p.to aB)=ρ p:=fun p hp=>by
    rw[hρ1]
    simp only
    rw[Pa.to_to b aB p hp]
   have lent:qb F M w ρ1 ω1 aB sz es:=by
    refine⟨(w1 _ _).2 ⟨.r b,?_,rfl,rfl⟩,di.carry hroot (Mem.le_refl _) (fun p hp=>⟨p1 p hp,fun e=>⟨(w1 _ _).2 ⟨p,e,hp,rfl⟩,rfl⟩⟩),fun k p e=>?_,fun k p e=>?_,fun p q e=>?_⟩
    ·have:=p1 (.r b) rfl
     simp only[Pa.to]at this
     rw[this];exact hω
    ·obtain⟨p',e1,_⟩:=(w1 _ _).1 e
     exact hO.lt _ _ e1
    ·obtain⟨p',_,_,rfl⟩:=(w1 _ _).1 e
     exact Pa.to_root _ _
    ·obtain⟨p',e1,_⟩:=(w1 _ _).1 e
     exact hO.apart p p' e1
   have hL:=hC.runsL g fi sz es _ d es' hg hc M w _ ρ1 ω1 h.holds hrep lent
   have e1:ρ1 (.r aB)=ρ (.r b):=p1 (.r b) rfl
   rw[e1,<- hv]at hL
   unfold Oper.wp
   rw[hrun,cv (hC.body g fi hg),Oper.upon_enter]
   refine hL.mono ?_
   rintro e0 w' ⟨v,M',ρ',ω',rfl,q1,q2,q3,q4,q5,q6,q7,q8⟩
   exact⟨_,_,M',hK,h.lend hO hf hb hω p1 w1 q1 q2 q3 q4 (by rw[q6,e1]) q7 q8 hp q5⟩
  ·exact hr.elim
 ·exact hr.elim
theorem mm{es:List (List D)}{k n:Nat}{zs:List D}(h:k+n<=es.length):(dy es k n zs).length=es.length:=by
 simp[dy];omega
theorem xr{es:List (List D)}{k n:Nat}{zs:List D}(h:k+n<=es.length)(i:Nat):(dy es k n zs)[i]? = if k<=i/\i<k+n then some zs else es[i]?:=by
 unfold dy
 rw[x1E]
 have hl:(es.take k).length=k:=by simp;omega
 by_cases h1:i<k
 ·rw[x0w (by omega),x0D h1,if_neg (by omega)]
 ·rw[x0y (by omega),hl]
  by_cases h2:i<k+n
  ·rw[x0w (by simp;omega),if_pos (by omega),List.getElem?_replicate,if_pos (by omega)]
  ·rw[x0y (by simp;omega),List.length_replicate,x0x,if_neg (by omega)]
   congr 1
   omega
theorem qa{es:List (List D)}{k n:Nat}{zs e:List D}(he:e∈dy es k n zs):e=zs\/e∈es:=by
 simp only[dy,x0p]at he
 rcases he with (h|h)|h
 ·exact .inr (x0H h)
 ·exact .inl (List.mem_replicate.1 h).2
 ·exact .inr (x06 h)
def rA(P:Program)(T:Nat)(zs:List D):Bool:=match P.underlying T with
 | some (.slice e)=>zeroOk P e zs
 | _=>false
theorem o8{z:Array Value}{n i off:Nat}{u:Value}(hi:i<n)(ho:z.toList[off]? = some u):(Builtin.zeroCells z n).toList[i*z.size+off]? = some u:=by
 have h1:off<z.size:=by have:=(x0b.1 ho).1;simpa using this
 have h2:i*z.size+z.size<=n*z.size:=by rw[<- x0Y];exact x0j _ hi
 have h3:(i*z.size+off)%z.size=off:=by
  rw[x0R,Nat.mul_add_mod,Nat.mod_eq_of_lt h1]
 unfold Builtin.zeroCells
 rw[Array.toList_map,x0B]
 rw[Array.toList_range,List.getElem?_range (show i*z.size+off<n*z.size by omega),x1h,h3]
 rw[x0f z off h1]
 have:=(x0b.1 ho).2
 rw[<- this];simp
theorem p6{T:Nat}{ty:TypeId}{zs:List D}(hk:rA P T zs=true)(hz1:∀c∈zs,aI c=true){g o n cap:Nat}{cur:List Value}{T0:TypeId}(hn:n≠0)(hg:w.heap[g]? = some (.cells cur.toArray T0 (0,0)))(hgl:g<w.heap.size)(hl:o+n*zs.length<=cur.length) :
  ∃(w':World) (Z:List Value),(Builtin.clear_ #[T] ty #[.slice (some ⟨g,o,none⟩) n cap]).run P w=.ok (.tuple #[]) w'/\w'.heap[g]? = some (.cells (cur.take o++Z++cur.drop (o+n*zs.length)).toArray T0 (0,0))/\Z.length=n*zs.length /\
   (∀i off c,i<n->zs[off]? = some c->∃u,Z[i*zs.length+off]? = some u/\∀(F:Fid) (M:Mem),af F M c u)/\Ch (fun k=>k=g) w w':=by
 unfold rA at hk
 split at hk
 ·rename_i e hu
  obtain⟨z,i,hi,hiz,hz,hzs,hzc⟩:=zeroOk_z hk
  have hcell:∀(off:Nat) (c:D),zs[off]? = some c->∃u,z.cells.toList[off]? = some u/\u.oneCell'=true/\∀(F:Fid) (M:Mem),af F M c u:=fun off c hc=>by
   have h1:off<z.cells.toList.length:=by have:=(x0b.1 hc).1;simp;omega
   have h2:∀(F:Fid) (M:Mem),af F M c (z.cells.toList[off]):=fun F M=>by
    rcases hzc off c _ hc (x0e h1) (F:=F) (L:=fun _=>none) (New:=fun _=>True) (f:=fun _=>.any) (M:=M) (a:={ tmps:=#[],defers:=[] }) (w:=w)with ⟨_,h3⟩|⟨n,rfl,_⟩|⟨_,_,_,h3,_⟩
    ·exact h3
    ·have:=hz1 _ (x0d hc);simp[aI]at this
    ·cases h3
   exact⟨_,x0e h1,oneCell_of (h2 ⟨P,fun _=>none,fun _=>0,fun _=>.nilIface⟩ (fun _=>none)) (hz1 _ (x0d hc)),h2⟩
  have hone:∀v∈(Builtin.zeroCells z.cells n).toList,v.oneCell'=true:=fun v hv=>by
   simp only[Builtin.zeroCells,Array.toList_map,x0v]at hv
   obtain⟨x,hx,rfl⟩:=hv
   have hx':x<n*z.cells.size:=by simpa using hx
   have hpos:0<z.cells.size:=by
    rcases x0X z.cells.size with h|h
    ·rw[h]at hx';simp at hx'
    ·exact h
   have hlt:=x1a x hpos
   obtain⟨u,k1,k2,_⟩:=hcell (x%z.cells.size) (zs[x%z.cells.size]'(by rw[<- hzs];exact hlt)) (x0e _)
   rw[x0f z.cells _ hlt]
   have:z.cells[x%z.cells.size]=u:=by
    have:=(x0b.1 k1).2
    simpa using this
   rw[this];exact k2
  have hZ:(Builtin.zeroCells z.cells n).toList.length=n*zs.length:=by
   simp[Builtin.zeroCells,hzs]
  obtain⟨w',e1,e2,e3,e4,e5,e6,e7,e8⟩:=cR (P:=P) g T0 o (Builtin.zeroCells z.cells n).toList 0 cur w hg (by rw[hZ];simpa using hl) hone
  refine⟨w',(Builtin.zeroCells z.cells n).toList,?_,?_,hZ,fun i off c hin hc=>?_,⟨e5,e6,e7,by omega,fun k _ hk=>e3 k hk,by omega⟩⟩
  ·have hu':(underlying T).run P w=.ok (.slice e) w:=run_underlying hu w
   unfold Builtin.clear_
   simp only[x1d,x01,Sem.run_bind,hu',Result.andThen_ok]
   cases n with
   | zero=>exact absurd rfl hn
   | succ n=>simp only[hz,Result.andThen_ok,e1,Sem.run_pure]
  ·rw[e2];simp only[x0Z,hZ]
  ·obtain⟨u,k1,_,k3⟩:=hcell off c hc
   exact⟨u,by rw[<- hzs];exact o8 hin k1,k3⟩
 ·cases hk
theorem pf{base k n sz:Nat}{es:List (List D)}{zs:List D}{us Z:List Value}{R:D->Value->Prop}(hkn:k+n<=es.length)(hzs:zs.length=sz)(hes:∀e∈es,e.length=sz)(hlen:base+es.length*sz<=us.length)(hZl:Z.length=n*sz)(hZ:∀i off c,i<n->zs[off]? = some c->∃u,Z[i*sz+off]? = some u/\R c u)
  (hold:∀i r off d,es[i]? = some r->r[off]? = some d->∃u,us[base+i*sz+off]? = some u/\R d u):∀i r off d,(dy es k n zs)[i]? = some r->r[off]? = some d->∃u,(us.take (base+k*sz)++Z++us.drop (base+k*sz+n*sz))[base+i*sz+off]? = some u/\R d u:=by
 intro i r off d h1 h2
 have hle:k*sz+n*sz<=es.length*sz:=by rw[<- x0A];exact x0j _ hkn
 have hget:=fun x=>cG (vs:=us) (us:=Z) (q:=base+k*sz) (n:=n*sz) (x:=x) hZl (by omega)
 rw[xr hkn]at h1
 split at h1
 ·rename_i hi
  cases h1
  have ho:off<sz:=by have:=(x0b.1 h2).1;omega
  obtain⟨u,k1,k2⟩:=hZ (i-k) off d (by omega) h2
  refine⟨u,?_,k2⟩
  have e1:i*sz=k*sz+(i-k)*sz:=by rw[<- x0A];congr 1;omega
  have e2:(i-k)*sz+sz<=n*sz:=by rw[<- x0Y];exact x0j _ (by omega)
  rw[hget,if_pos (by omega),<- k1]
  congr 1
  omega
 ·rename_i hi
  have ho:off<sz:=by have:=(x0b.1 h2).1;have:=hes r (x0d h1);omega
  obtain⟨u,k1,k2⟩:=hold i r off d h1 h2
  refine⟨u,?_,k2⟩
  rw[hget,if_neg,k1]
  intro hx
  by_cases hik:i<k
  ·have:i*sz+sz<=k*sz:=by rw[<- x0Y];exact x0j _ hik
   omega
  ·have:k*sz+n*sz<=i*sz:=by rw[<- x0A];exact x0j _ (by omega)
   omega
theorem yb{b:Nat}{x:D}(h:f b=x)(hx:isB x=true):eff [(b,x)] [] f=f:=by
 funext s
 unfold eff
 by_cases e:s=b
 ·subst e;simp[h]
 ·have e1:(s==b)=false:=by simpa using e
  simp[x0l,e1,aN]
theorem CO(h:SR F nt S L w0 M0 f M a w)(hp:∀t,o.dst=some t->t<nt){zs:List D}{x:Opd}{y:Operand}{T:TypeId}(ho:o.op=.call { callee:=.builtin .clear,args:=#[y],argTypes:=#[T] })(hx:am F x y=true)(hk:rA P T zs=true)
  (hr:match vd f x with
  | .nils=>K (dx o.dst) []
  | .ref (.r b) k n=>match f b with
   | .blk sz es=>k+n<=es.length/\zs.length=sz/\(∀e∈es,∀c∈e,aI c=true)/\(∀c∈zs,aI c=true)/\K (dx o.dst++[(b,.blk sz (dy es k n zs))]) []
   | _=>False
  | .ref (.n b i o') k n=>match f b with
   | .blk sz0 es0=>∃row0,es0[i]? = some row0/\∃sz es,row0[o']? = some (.own sz es)/\k+n<=es.length/\zs.length=sz/\(∀c∈zs,aI c=true)/\K (dx o.dst++[(b,.blk sz0 (br es0 i o' 1 [.own sz (dy es k n zs)]))]) []
   | _=>False
  | _=>False):o.wp P a w (PostX F nt S L w0 M0 f K) Q:=by
 obtain⟨ρ,ω,hO⟩:=h.own
 have hv:=hO.opd hx
 have exec:∀v w',(Builtin.clear_ #[T] o.type #[a.eval y]).run P w=.ok v w'->(execOp a.eval o).run P w=.ok (.value v) w':=fun v w' e=>by
  simp only[execOp,ho,resolve,invoke,builtin,x1M,x0I,x02,Sem.run_bind,Sem.run_pure,Result.andThen_ok,e]
 have noop:∀v:Value,(v=.slice none 0 0\/∃A cap,v=.slice A 0 cap)->a.eval y=v->(underlying T).run P w=.ok (match P.underlying T with|some u=>u|none=>default) w->(execOp a.eval o).run P w=.ok (.value (.tuple #[])) w:=by
  intro v hv' e hu
  refine exec _ _ ?_
  rw[e]
  unfold Builtin.clear_
  simp only[x1d,x01,Sem.run_bind,hu,Result.andThen_ok]
  rcases hv' with rfl|⟨A,cap,rfl⟩
  ·simp
  ·cases A<;>simp
 have hu:(underlying T).run P w=.ok (match P.underlying T with|some u=>u|none=>default) w:=by
  unfold rA at hk
  split at hk
  ·rename_i e hu
   rw[run_underlying hu w,hu]
  ·cases hk
 have unit:∀(b:Nat) (x:D) (M':Mem) (w':World),SR F nt S L w0 M0 (eff [(b,x)] [] f) M' a w'->SR F nt S L w0 M0 (eff (dx o.dst++[(b,x)]) [] f) M' (a.put o.dst (.tuple #[])) w':=fun b x M' w' hs=>by
  rw[<- rK]
  cases hd:o.dst with
  | none=>simpa[Act.put]using hs
  | some t=>exact hs.put (hp t hd) fun _ _ _=>by rw[aw rfl];simp[aD,af,aC]
 split at hr
 ·rename_i hvx
  rw[hvx,aw rfl]at hv
  simp only[aD,af]at hv
  refine dG (noop _ (.inl rfl) hv hu) ⟨_,_,M,hr,?_⟩
  cases hd:o.dst with
  | none=>simpa[Act.put,dx,kV]using h
  | some t=>exact h.put (hp t hd) fun _ _ _=>by rw[aw rfl];simp[aD,af,aC]
 ·rename_i b k n hvx
  rw[hvx,aw rfl]at hv
  split at hr
  ·rename_i sz es hf
   obtain⟨hkn,hzs,hes1,hz1,hK⟩:=hr
   have hb:=hO.big hf
   have hgp:aY f (.r b)=some (sz,es):=by simp[aY,hf]
   by_cases hn:n=0
   ·subst hn
    have e0:dy es k 0 zs=es:=by simp[dy]
    rw[e0]at hK
    have hv':∃A cap,a.eval y=.slice A 0 cap:=by
     simp only[aD]at hv
     rcases hv with ⟨_,A,e⟩|⟨cap,e,_⟩
     ·exact⟨A,0,e⟩
     ·exact⟨_,cap,e⟩
    refine dG (noop _ (.inr hv') rfl hu) ⟨_,_,M,hK,unit b _ M w ?_⟩
    rw[yb hf rfl];exact h
   ·rcases f9 hO hgp hkn hv (fun e he c hc=>cK (hes1 e (x06 (x0H he)) c hc))with ⟨A,hv,hn0⟩|⟨cap,us,T0,hv,⟨hcap,hmc⟩,hcl,hω,g0,g1,g2,g4,g5⟩
    ·exact absurd hn0 hn
    ·have hrows:jW w (ρ (.r b)) sz es (fun i off d v=>cD F M ω ρ w b i off d v):=by
      rcases hO.roots b sz es hb hf with ⟨e0,_⟩|⟨_,hr⟩
      ·rw[e0]at hkn;simp at hkn;omega
      ·exact hr
     obtain⟨q0,us0,T1,q1,q2,q3,q4,q5⟩:=id hrows
     rw[g1]at q1
     simp only[x0o,Obj.cells.injEq,and_true]at q1
     obtain⟨q1,rfl⟩:=q1
     obtain rfl:us=us0:=by simpa using congrArg Array.toList q1
     have hle:k*sz+n*sz<=es.length*sz:=by rw[<- x0A];exact x0j _ hkn
     obtain⟨w',Z,e1,e2,e3,e4,e5⟩:=p6 (P:=P) (w:=w) (ty:=o.type) hk hz1 hn (cap:=cap) g1 (hO.lt _ _ hω) (o:=(ρ (.r b)).base+k*sz) (by rw[hzs,g2];omega)
     rw[hzs]at e2 e3 e4
     have hfill:=h.fill hO hf hω hrows (es':=dy es k n zs) (us:=us.take ((ρ (.r b)).base+k*sz)++Z++us.drop ((ρ (.r b)).base+k*sz+n*sz)) (w':=w') (Nat.le_of_eq (mm hkn)) (fun e he=>by
      rcases qa he with rfl|he
      ·exact⟨hzs,hz1⟩
      ·exact⟨g4 e he,hes1 e he⟩) e5 e2 (by simp;omega) (pf (R:=fun d v=>af F M d v) hkn hzs g4 (by rw[g2];exact q3) e3 (fun i off c hi hc=>by
       obtain⟨u,k1,k2⟩:=e4 i off c hi hc
       exact⟨u,k1,k2 F M⟩) (fun i r off d h1 h2=>by
       obtain⟨u,k1,k2⟩:=q5 i r off d h1 h2
       rw[bB (cK (hes1 r (x0d h1) d (x0d h2)))]at k2
       exact⟨u,k1,k2⟩))
     obtain⟨_,_,_,_,hs⟩:=hfill
     refine dG (exec _ _ (by rw[hv];exact e1)) ⟨_,_,M,hK,unit b _ M w' hs⟩
  ·exact hr.elim
 ·rename_i b i0 o0 k n hvx
  rw[hvx,aw rfl]at hv
  split at hr
  ·rename_i sz0 es0 hf
   obtain⟨row0,hi0,sz,es,ho0,hkn,hzs,hz1,hK⟩:=hr
   have hb:=hO.big hf
   have hgp:aY f (.n b i0 o0)=some (sz,es):=by simp[aY,hf,hi0,ho0]
   have hpath:cm ω ρ w (.n b i0 o0) sz es (fun _ _ d v=>af F M d v):=(hO.get (p:=.n b i0 o0) hb hgp).1
   have hnoO:∀e∈(es.drop k).take n,∀c∈e,isO c=false:=by
    intro e he c hc'
    have he:=x06 (x0H he)
    rcases hpath with ⟨e0,_⟩|⟨_,_,vs,T,_,_,_,_,h5⟩
    ·rw[e0]at he;cases he
    ·obtain⟨i,hi⟩:=x00.1 he
     obtain⟨j,hj⟩:=x00.1 hc'
     obtain⟨u,_,h6⟩:=h5 i e j c hi hj
     cases c<;>first|rfl|(simp[af]at h6)
   by_cases hn:n=0
   ·subst hn
    have e0:dy es k 0 zs=es:=by simp[dy]
    rw[e0]at hK
    have hv':∃A cap,a.eval y=.slice A 0 cap:=by
     simp only[aD]at hv
     rcases hv with ⟨_,A,e⟩|⟨cap,e,_⟩
     ·exact⟨A,0,e⟩
     ·exact⟨_,cap,e⟩
    refine dG (noop _ (.inr hv') rfl hu) ⟨_,_,M,hK,unit b _ M w (h.fillN hO hf hi0 ho0 rfl h.ch (x0r _) h.holds hpath (fun _ _ _ _=>rfl))⟩
   ·rcases f9 hO hgp hkn hv hnoO with ⟨A,hv,hn0⟩|⟨cap,us,T0,hv,⟨hcap,hmc⟩,hcl,hω,g0,g1,g2,g4,g5⟩
    ·exact absurd hn0 hn
    ·have hrows:jW w (ρ (.n b i0 o0)) sz es (fun _ _ d v=>af F M d v):=by
      rcases hpath with ⟨e0,_⟩|⟨_,hr⟩
      ·rw[e0]at hkn;simp at hkn;omega
      ·exact hr
     obtain⟨q0,us0,T1,q1,q2,q3,q4,q5⟩:=id hrows
     rw[g1]at q1
     simp only[x0o,Obj.cells.injEq,and_true]at q1
     obtain⟨q1,rfl⟩:=q1
     obtain rfl:us=us0:=by simpa using congrArg Array.toList q1
     have hle:k*sz+n*sz<=es.length*sz:=by rw[<- x0A];exact x0j _ hkn
     obtain⟨w',Z,e1,e2,e3,e4,e5⟩:=p6 (P:=P) (w:=w) (ty:=o.type) hk hz1 hn (cap:=cap) g1 (hO.lt _ _ hω) (o:=(ρ (.n b i0 o0)).base+k*sz) (by rw[hzs,g2];omega)
     rw[hzs]at e2 e3 e4
     have hnew:=hO.new _ _ hω
     have hMb:∀p:Addr,p.block=(ρ (.n b i0 o0)).blk->M p=none:=fun p hp=>hO.apart p (.n b i0 o0) (by rw[hp];exact hω)
     have hh:∀p v,M p=some v->w'.cell? p=some v:=fun p v hp=>by
      have hne:p.block≠(ρ (.n b i0 o0)).blk:=fun e=>by rw[hMb p e]at hp;cases hp
      have h8:=h.holds p v hp
      rw[World.cell?_of_block (e5.block _ (World.block_lt_of_cell? w p h8) hne)]
      exact h8
     refine dG (exec _ _ (by rw[hv];exact e1)) ⟨_,_,M,hK,unit b _ M w' (h.fillN hO hf hi0 ho0 (mm hkn) (h.ch.trans e5 (fun k hk e=>by rcases hnew with h7|h7;rw[e];exact h7;omega)) e5.size hh (.inr ⟨hω,g0,_,T0,e2,by simp;omega,by rw[mm hkn];exact q3,fun e he=>by
      rcases qa he with rfl|he
      ·exact hzs
      ·exact g4 e he,pf (R:=fun d v=>af F M d v) hkn hzs g4 (by rw[g2];exact q3) e3 (fun i off c hi hc=>by
       obtain⟨u,k1,k2⟩:=e4 i off c hi hc
       exact⟨u,k1,k2 F M⟩) q5⟩) (fun k q hk hq=>e5.block k (hO.lt _ _ hk) (by rintro rfl;rw[hω]at hk;cases hk;exact hq rfl)))⟩
  ·exact hr.elim
 ·exact hr.elim
end
end Go.Gv

namespace Go.Gv
open Go.RowKit
section
variable{P:Program}{F:Fid}{C:Nat->List D->D->List D->Prop}{nt:Nat}{S:Nat->Prop}{L:Nat->Option Loc}{w0:World}{M0:Mem}{f:Nat->D}{M M':Mem}{a:Act}{w w':World}{o:Oper}{d:D}{Q:Exit->Act->World->Prop}{ρ ρ':Pa->Loc}{ω ω':Nat->Option Pa}{New:Nat->Prop}{K:List (Nat×D)->List (Nat×Bool)->Prop}
theorem mE(p:Pa):bQ p.root true p=true:=by cases p<;>simp[bQ,Pa.root]
theorem ko{t i b:Nat}{x d:D}(h:(b,x)∈cI t i d):b=rt t i/\∃sz es,x=.blk sz es/\∀t',(rt t' i,x)∈cI t' i d:=by
 cases d<;>simp only[cI,x0S,x1t,or_false,Prod.mk.injEq]at h
 all_goals exact⟨h.1,_,_,h.2,fun t'=>by rw[h.2];simp[cI]⟩
theorem kp{t b:Nat}{x:D}:∀{ds:List D} {i:Nat},(b,x)∈bS t i ds->∃j,i<=j/\j<i+ds.length/\b=rt t j/\∃sz es,x=.blk sz es/\∀t',(rt t' j,x)∈bS t' i ds
 | [],_,h=>by simp[bS]at h
 | d::ds,i,h=>by
  simp only[bS,x0p]at h
  rcases h with h|h
  ·obtain⟨e,sz,es,e2,h2⟩:=ko h
   exact⟨i,x0r _,by simp,e,sz,es,e2,fun t'=>by simp only[bS,x0p];exact .inl (h2 t')⟩
  ·obtain⟨j,h1,h2,e,sz,es,e2,h3⟩:=kp h
   exact⟨j,by omega,by simp;omega,e,sz,es,e2,fun t'=>by simp only[bS,x0p];exact .inr (h3 t')⟩
theorem gq{t b:Nat}{x y:D}:∀{ds:List D} {i:Nat},(b,x)∈bS t i ds->(b,y)∈bS t i ds->x=y
 | [],_,h,_=>by simp[bS]at h
 | d::ds,i,h,h'=>by
  simp only[bS,x0p]at h h'
  have far:∀{z:D},(b,z)∈bS t (i+1) ds->b≠rt t i:=fun hz e=>by
   obtain⟨j,h1,_,e2,_⟩:=kp hz
   rw[e]at e2
   unfold rt at e2
   omega
  rcases h with h|h<;>rcases h' with h'|h'
  ·cases d<;>simp only[cI,x0S,x1t,or_false,Prod.mk.injEq]at h h'
   all_goals rw[h.2,h'.2]
  ·exact absurd (ko h).1 (far h')
  ·exact absurd (ko h').1 (far h)
  ·exact gq h h'
theorem uQ{b:Nat}{x:D}:∀{l:List (Nat×D)},(∀y,(b,y)∈l->y=x)->(b,x)∈l->l.lookup b=some x
 | [],_,h=>by simp at h
 | (c,y)::l,hu,h=>by
  by_cases e:b=c
  ·subst e
   rw[hu y (by simp)]
   simp
  ·have e1:(b==c)=false:=by simpa using e
   simp only[x0l,e1]
   refine uQ (fun y hy=>hu y (by simp[hy])) ?_
   rcases x0S.1 h with h|h
   ·cases h;exact absurd rfl e
   ·exact h
theorem tQ{b:Nat}:∀{l:List (Nat×D)},(∀y,(b,y)∉l)->l.lookup b=none
 | [],_=>rfl
 | (c,y)::l,h=>by
  have e:b≠c:=fun e=>h y (by simp[e])
  have e1:(b==c)=false:=by simpa using e
  simp only[x0l,e1]
  exact tQ fun y hy=>h y (by simp[hy])
theorem wq{t i:Nat}{d:D}{v:Value}(h:aD F M ρ (ga 0 i d) v)(he:∀x,(rt 0 i,x)∈cI 0 i d->ρ' (.r (rt t i))=ρ (.r (rt 0 i)))(hp:∀p k n,d≠.ref p k n)(hp2:∀p k n,d≠.adr p k n)(hp3:∀b,d≠.mrf b)(hp4:∀T p k n,d≠.ifa T p k n):aD F M ρ' (ga t i d) v:=by
 cases d
 case own sz es =>
  have e:=he (.blk sz es) (by simp[cI])
  simp only[ga,aD]at h ⊢
  rw[e];exact h
 case blk sz es =>
  have e:=he (.blk sz es) (by simp[cI])
  simp only[ga,aD]at h ⊢
  rw[e];exact h
 case ref p k n=>exact absurd rfl (hp p k n)
 case adr p k n=>exact absurd rfl (hp2 p k n)
 case mrf b=>exact absurd rfl (hp3 b)
 case ifa T p k n=>exact absurd rfl (hp4 T p k n)
 all_goals exact h
theorem jH{t:Nat}:∀{ds:List D} {i:Nat} {vs:List Value},cH F M ρ (bY 0 i ds) vs->(∀j x,(rt 0 j,x)∈bS 0 i ds->ρ' (.r (rt t j))=ρ (.r (rt 0 j)))->(∀d∈ds,yX d=true)->cH F M ρ' (bY t i ds) vs
 | [],i,vs,h,_,_=>⟨by simpa[bY]using h.1,fun j d v h1=>by simp[bY]at h1⟩
 | d::ds,i,[],h,_,_=>by have:=h.1;simp[bY]at this
 | d::ds,i,v::vs,h,he,hk=>by
  have hd:=hk d (by simp)
  have ih:=jH (t:=t) (ds:=ds) (i:=i+1) (vs:=vs) ⟨by have:=h.1;simpa[bY]using this,fun j d' v' h1 h2=>h.2 (j+1) d' v' (by simpa[bY]using h1) (by simpa using h2)⟩ (fun j x hx=>he j x (by simp only[bS,x0p];exact .inr hx)) (fun d' hd'=>hk d' (by simp[hd']))
  refine⟨by have:=ih.1;simp[bY,this],fun j d' v' h1 h2=>?_⟩
  cases j with
  | zero =>
   simp only[bY,x01,x0o]at h1 h2
   subst h1 h2
   exact wq (h.2 0 _ _ (by simp[bY]) rfl) (fun x hx=>he i x (by simp only[bS,x0p];exact .inl hx)) (fun p k n e=>by rw[e]at hd;cases hd) (fun p k n e=>by rw[e]at hd;cases hd) (fun b e=>by rw[e]at hd;cases hd) (fun T p k n e=>by rw[e]at hd;cases hd)
  | succ j=>exact ih.2 j d' v' (by simpa[bY]using h1) (by simpa using h2)
theorem gY{t b:Nat}{x R:D}(hok:okR R=true)(h:(b,x)∈aZ t R):∃j,1<=j/\j<=14/\b=rt t j/\∃sz es,x=.blk sz es/\∀t',(rt t' j,x)∈aZ t' R:=by
 obtain⟨j,h1,h2,h3,h4⟩:=kp h
 refine⟨j,h1,?_,h3,h4⟩
 have:(jq R).length<=14:=by
  cases R<;>simp only[okR,x0a,x0c,x0m]at hok<;>first|exact hok.1|simp[jq]
 omega
theorem wC{R:D}(hok:okR R=true):∀d∈jq R,yX d=true:=by
 cases R<;>simp only[okR,x0a,x0m,x0g]at hok<;>first|exact hok.2|(intro d hd;simp only[jq,x0S,x1t,or_false]at hd;subst hd;rfl)
theorem wY(hC:bU P F C)(h:SR F nt S L w0 M0 f M a w)(hL:∀t i,i<15->L (rt t i)=none){t:Nat}(hd:o.dst=some t)(ht:t<nt){g fi:Nat}{xs:List Opd}{ys:Array Operand}{ts:Array TypeId}(ho:o.op=.call { callee:=.value (.func fi),args:=ys,argTypes:=ts })(hx:bT F xs ys.toList=true)
  (hg:F g=some fi) (hr:(∀x∈xs,isV (vd f x)=true)/\∃R,okR R=true/\C g (xs.map (vd f)) R [.nils]/\K ((t,fD t R)::aZ t R) (fq t R)):o.wp P a w (PostX F nt S L w0 M0 f K) Q:=by
 obtain⟨hxs,R,hok,hc,hK⟩:=hr
 have hrun:(execOp a.eval o).run P w=(callFunc fi (ys.toList.map a.eval).toArray).run P w:=by
  simp only[execOp,ho,resolve,Act.eval,Deferred.ofValue,Sem.run_bind,Sem.run_pure,Result.andThen_ok,invoke]
  congr 2
  rw[Array.append_empty,x1r]
  apply Array.ext'
  simp
 have hrep:aC F M (xs.map (vd f)) (ys.toList.map a.eval):=by
  have h1:=fU h hx (by rw[x0g];exact hxs)
  rwa[x0i (g:=vd f) fun x hx'=>by unfold dpv;exact(iz (hxs x hx')).1]at h1
 obtain⟨ρ,ω,hO⟩:=h.own
 have ht10:t<10000:=x1O ht h.hnt
 unfold Oper.wp
 rw[hrun,cv (hC.body g fi hg),Oper.upon_enter]
 refine(hC.runsA g fi _ R hg hc M w _ h.holds hrep).mono ?_
 rintro e w' ⟨v,M',ρ',ω',us,rfl,hb,hM,hfr,hh,hsh,hrl,hroot,hω',hap'⟩
 rw[hd]
 refine⟨_,_,M',hK,?_⟩
 have mem:∀b,((aZ t R).any fun q=>q.1==b)=true↔∃x,(b,x)∈aZ t R:=fun b=>by
  simp only[x0G,x0q]
  constructor
  ·rintro⟨⟨c,x⟩,h1,rfl⟩;exact⟨x,h1⟩
  ·rintro⟨x,h1⟩;exact⟨(b,x),h1,rfl⟩
 obtain⟨ρ2,hρ2⟩:∃ρ2:Pa->Loc,ρ2=fun p=>if ((aZ t R).any fun q=>q.1==p.root)=true then ρ' (p.to (p.root-16*t)) else ρ p:=⟨_,rfl⟩
 obtain⟨ω2,hω2⟩:∃ω2:Nat->Option Pa,ω2=fun k=>match ω' k with
  | some q=>some (q.to (q.root+16*t))
  | none=>match ω k with
   | some p=>if ((aZ t R).any fun q=>q.1==p.root)=true then none else some p
   | none=>none:=⟨_,rfl⟩
 have r1:∀p:Pa,(∃x,(p.root,x)∈aZ t R)->ρ2 p=ρ' (p.to (p.root-16*t)):=fun p hp=>by rw[hρ2];simp only[(mem _).2 hp,if_true]
 have r2:∀p:Pa,¬(∃x,(p.root,x)∈aZ t R)->ρ2 p=ρ p:=fun p hp=>by
  rw[hρ2]
  have:¬((aZ t R).any fun q=>q.1==p.root)=true:=fun e=>hp ((mem _).1 e)
  simp only[if_neg this]
 have o1:∀k q,ω' k=some q->ω2 k=some (q.to (q.root+16*t)):=fun k q e=>by rw[hω2];simp only[e]
 have oldnew:∀k p q,ω k=some p->ω' k≠some q:=fun k p q e e'=>by
  have:=hO.lt k p e
  have:=(hω' k q e').1
  omega
 have o2:∀k p,ω k=some p->¬(∃x,(p.root,x)∈aZ t R)->ω2 k=some p:=fun k p e hp=>by
  have e1:ω' k=none:=by
   cases e2:ω' k with
   | none=>rfl
   | some q=>exact absurd e2 (oldnew k p q e)
  have:¬((aZ t R).any fun q=>q.1==p.root)=true:=fun e=>hp ((mem _).1 e)
  rw[hω2];simp only[e1,e,if_neg this]
 have o3:∀k p,ω2 k=some p->(∃q,ω' k=some q)\/ω k=some p:=fun k p e=>by
  rw[hω2]at e
  simp only at e
  cases e1:ω' k with
  | some q=>exact .inl ⟨q,rfl⟩
  | none =>
   rw[e1]at e
   simp only at e
   cases e2:ω k with
   | none=>rw[e2]at e;cases e
   | some p' =>
    rw[e2]at e
    simp only at e
    split at e
    ·cases e
    ·cases e;exact .inr rfl
 have hshift:∀j x,(rt 0 j,x)∈aZ 0 R->ρ2 (.r (rt t j))=ρ' (.r (rt 0 j)):=fun j x hx=>by
  obtain⟨j',h1,h2,h3,sz,es,h4,h5⟩:=gY hok hx
  have ej:j=j':=by unfold rt at h3;omega
  subst ej
  rw[r1 (.r (rt t j)) ⟨x,h5 t⟩]
  show ρ' (.r (rt t j-16*t))=_
  have:rt t j-16*t=rt 0 j:=by unfold rt;omega
  rw[this]
 have lkn:∀s,s≠t->¬(∃x,(s,x)∈aZ t R)->((t,fD t R)::aZ t R).lookup s=none:=fun s h1 h2=>by
  have e1:(s==t)=false:=by simpa using h1
  simp only[x0l,e1]
  exact tQ fun y hy=>h2 ⟨y,hy⟩
 have small:∀s,s<10000->¬(∃x,(s,x)∈aZ t R):=fun s hs ⟨x,hx⟩=>by
  obtain⟨j,_,_,h3,_⟩:=gY hok hx
  unfold rt at h3;omega
 refine⟨h.hnt,by simp[Act.put,h.size],by simp[Act.put,h.defers],h.ch.trans (Ch.of_below hb (fun _=>False)) (fun _ _ e=>e.elim),hh,Mem.le_trans h.ext hM,fun p h1 h2=>?_,ρ2,ω2,hO.step (ks:=fq t R) (fun p hp=>?_) hM hb.size (fun s hs=>?_) (fun c hc=>?_) (fun k p e=>?_) (fun p q e=>?_) (fun c l hc hl hB=>?_)⟩
 ·by_cases e:M p=none
  ·exact .inr (x1v h.ch.size (hfr p e h2))
  ·exact h.fresh p h1 e
 ·by_cases e:∃x,(p.root,x)∈aZ t R
  ·obtain⟨x,hx⟩:=e
   exact⟨(p.root,true),x0v.2 ⟨_,hx,rfl⟩,mE p⟩
  ·exact absurd (r2 p e) hp
 ·by_cases e:s=t
  ·right
   subst e
   have e1:eff ((s,fD s R)::aZ s R) (fq s R) f s=fD s R:=aV (by simp)
   refine .inr ⟨v,getElem?_put_same (by rw[h.size];exact ht),?_⟩
   rw[e1]
   have hp:=wC hok
   cases R<;>simp only[okR,x0m]at hok
   case agg ds=>exact⟨us,hsh,jH hrl (fun j x hx=>hshift j x hx) hp⟩
   case tup ds=>exact⟨us,hsh,jH hrl (fun j x hx=>hshift j x hx) hp⟩
   all_goals
    have h3:=jH (t:=s) hrl (fun j x hx=>hshift j x hx) hp
    simp only[um]at hsh
    subst hsh
    have h4:=h3.2 0 _ v rfl rfl
    exact h4
  ·left
   rcases bO (f:=f) (ks:=fq t R) (lkn s e (small s hs))with h1|h1
   ·exact .inl h1
   ·exact .inr ⟨h1.1,getElem?_put e,h1.2⟩
 ·by_cases e:∃x,(c,x)∈aZ t R
  ·obtain⟨x,hx⟩:=e
   obtain⟨j,h1,h2,h3,sz,es,rfl,h5⟩:=gY hok hx
   right
   have hct:(c==t)=false:=by simp;omega
   have hlk:((t,fD t R)::aZ t R).lookup c=some (.blk sz es):=by
    simp only[x0l,hct]
    exact uQ (fun y hy=>(gq hx hy).symm) hx
   have ec:c-16*t=rt 0 j:=by rw[h3];unfold rt;omega
   have ec2:rt 0 j+16*t=c:=by rw[h3];unfold rt;omega
   refine .inl ⟨sz,es,aV hlk,(hroot (rt 0 j) sz es (h5 0)).carry (Mem.le_refl _) (fun p hp=>?_)⟩
   refine⟨?_,fun e2=>⟨?_,rfl⟩⟩
   ·rw[r1 _ ⟨_,by rw[Pa.to_root];exact hx⟩,Pa.to_root,ec,Pa.to_to (rt 0 j) c p hp]
   ·rw[o1 _ _ e2,hp,ec2]
  ·left
   rcases ca (f:=f) (ks:=fq t R) (lkn c (by omega) e)with h1|h1
   ·exact .inl h1
   ·refine .inr ⟨h1,fun p hp=>?_⟩
    have hpe:¬(∃x,(p.root,x)∈aZ t R):=by rw[hp];exact e
    exact⟨r2 p hpe,fun hw=>⟨o2 _ _ hw hpe,hb.block _ (hO.lt _ _ hw)⟩⟩
 ·rcases o3 k p e with ⟨q,e1⟩|e1
  ·exact .inr ⟨(hω' k q e1).2.1,.inr (x1v h.ch.size (hω' k q e1).1)⟩
  ·exact .inl ⟨p,e1⟩
 ·rcases o3 _ q e with ⟨q',e1⟩|e1
  ·exact hap' p q' e1
  ·cases e3:M' p with
   | none=>rfl
   | some u =>
    have h1:=hfr p (hO.apart p q e1) (by rw[e3];simp)
    have:=hO.lt _ _ e1
    omega
 ·by_cases e:∃x,(c,x)∈aZ t R
  ·obtain⟨x,hx⟩:=e
   obtain⟨j,h1,h2,h3,_⟩:=gY hok hx
   rw[h3,hL t j (by omega)]at hl;cases hl
  ·have hpe:¬(∃x,((Pa.r c).root,x)∈aZ t R):=e
   refine⟨r2 _ hpe,?_⟩
   rcases ca (f:=f) (ks:=fq t R) (lkn c (by omega) e)with h1|h1
   ·rw[hB]at h1;cases h1
   ·rw[<- h1];exact hB
end
end Go.Gv

namespace Go.Gv
section
variable{P:Program}{F:Fid}{C:Nat->List D->D->List D->Prop}{nt:Nat}{S:Nat->Prop}{L:Nat->Option Loc}{w0:World}{M0:Mem}{f:Nat->D}{M:Mem}{a:Act}{w:World}{o:Oper}{d:D}{Q:Exit->Act->World->Prop}{ρ:Pa->Loc}{ω:Nat->Option Pa}{New:Nat->Prop}{K:List (Nat×D)->List (Nat×Bool)->Prop}
end
end Go.Gv
namespace Go.Gv
section
variable{P:Program}{F:Fid}{C:Nat->List D->D->List D->Prop}{nt:Nat}{S:Nat->Prop}{L:Nat->Option Loc}{w0:World}{M0:Mem}{f:Nat->D}{M:Mem}{a:Act}{w:World}{o:Oper}{d:D}{Q:Exit->Act->World->Prop}{ρ:Pa->Loc}{ω:Nat->Option Pa}{New:Nat->Prop}{K:List (Nat×D)->List (Nat×Bool)->Prop}
theorem nL{t:Nat}:∀{ds:List D} {i j:Nat},(bY t i ds)[j]? =(ds[j]?).map (ga t (i+j))
 | [],i,j=>by simp[bY]
 | d::ds,i,j=>by
  cases j with
  | zero=>simp[bY]
  | succ j =>
   simp only[bY,List.getElem?_cons_succ]
   rw[nL,show i+1+j=i+(j+1) by omega]
theorem nM{t:Nat}:∀{ds:List D} {i:Nat},(bY t i ds).length=ds.length
 | [],i=>rfl
 | d::ds,i=>by simp[bY,nM]
theorem mA{t b:Nat}{x:D}:∀{ds:List D} {i:Nat},(b,x)∈bS t i ds->∃j d,ds[j]? = some d/\(b,x)∈cI t (i+j) d
 | [],i,h=>by simp[bS]at h
 | d::ds,i,h=>by
  simp only[bS,x0p]at h
  rcases h with h|h
  ·exact⟨0,d,by simp,h⟩
  ·obtain⟨j,d',h1,h2⟩:=mA h
   exact⟨j+1,d',by simpa using h1,by rwa[show i+(j+1)=i+1+j by omega]⟩
theorem mB{t b:Nat}{x:D}:∀{ds:List D} {i j:Nat} {d:D},ds[j]? = some d->(b,x)∈cI t (i+j) d->(b,x)∈bS t i ds
 | [],i,j,d,h,_=>by simp at h
 | d0::ds,i,j,d,h,hx=>by
  simp only[bS,x0p]
  cases j with
  | zero=>simp at h;subst h;exact .inl hx
  | succ j=>exact .inr (mB (j:=j) (by simpa using h) (by rwa[show i+(j+1)=i+1+j by omega]at hx))
theorem nO{t j sz:Nat}{ds:List D}{es:List (List D)}(h:ds[j]? = some (.own sz es)):(rt t (1+j),D.blk sz es)∈bS t 1 ds:=mB h (by simp[cI])
theorem SR.unpack(h:SR F nt S L w0 M0 f M a w)(hL:∀t i,i<15->L (rt t i)=none){t:Nat}(ht:t<nt){c sz:Nat}{row:List D}(hg:f c=.blk sz [row])(hok:okR (.agg row)=true)(hcn:∀x,(c,x)∉aZ t (.agg row)){v:Value}
  (hv:∀ρ ω,Own F L (fun k=>S k\/w0.heap.size<=k) f M a w ρ ω->∃vs:List Value,v=.agg vs.toArray/\vs.length=row.length/\∀(j:Nat) (d:D) (u:Value),row[j]? = some d->vs[j]? = some u->cD F M ω ρ w c 0 j d u) :
  SR F nt S L w0 M0 (eff ((t,fD t (.agg row))::(c,.any)::aZ t (.agg row)) (fq t (.agg row)) f) M (a.put (some t) v) w:=by
 obtain⟨ρ,ω,hO⟩:=h.own
 obtain⟨vs,hv1,hv2,hv3⟩:=hv ρ ω hO
 have hc10:10000<=c:=hO.big hg
 have ht10:t<10000:=x1O ht h.hnt
 have hct0:c≠t:=by omega
 obtain⟨R,hR⟩:∃R,R=D.agg row:=⟨_,rfl⟩
 rw[<- hR]at hok hcn ⊢
 have mem:∀b,((aZ t R).any fun q=>q.1==b)=true↔∃x,(b,x)∈aZ t R:=fun b=>by
  simp only[x0G,x0q]
  constructor
  ·rintro⟨⟨c,x⟩,h1,rfl⟩;exact⟨x,h1⟩
  ·rintro⟨x,h1⟩;exact⟨(b,x),h1,rfl⟩
 have inR:∀j sz es,row[j]? = some (.own sz es)->(rt t (1+j),D.blk sz es)∈aZ t R:=fun j sz es hj=>by
  rw[hR];exact nO hj
 have ofR:∀b x,(b,x)∈aZ t R->∃j sz es,b=rt t (1+j)/\row[j]? = some (.own sz es)/\x=.blk sz es:=fun b x hx=>by
  rw[hR]at hx
  obtain⟨j,d,hj,hd⟩:=mA hx
  have hj':j<vs.length:=by rw[hv2];exact(x0b.1 hj).1
  have hcell:=hv3 j d _ hj (x0e hj')
  cases d<;>simp only[cI,x0S,x1t,or_false,Prod.mk.injEq]at hd
  case own sz es=>exact⟨j,sz,es,hd.1,hj,hd.2⟩
  case blk sz es=>simp[cD,af]at hcell
 obtain⟨ρ2,hρ2⟩:∃ρ2:Pa->Loc,ρ2=fun p=>match p with
  | .r b=>if ((aZ t R).any fun q=>q.1==b)=true then ρ (.n c 0 (b-rt t 1)) else ρ p
  | .n _ _ _=>ρ p:=⟨_,rfl⟩
 obtain⟨ω2,hω2⟩:∃ω2:Nat->Option Pa,ω2=fun k=>match ω k with
  | some p=>if p.root=c then(match p with
    | .n _ i o=>if i=0/\((aZ t R).any fun q=>q.1==rt t (1+o))=true then some (.r (rt t (1+o))) else none
    | .r _=>none) else if ((aZ t R).any fun q=>q.1==p.root)=true then none else some p
  | none=>none:=⟨_,rfl⟩
 have r1:∀j x,(rt t (1+j),x)∈aZ t R->ρ2 (.r (rt t (1+j)))=ρ (.n c 0 j):=fun j x hx=>by
  rw[hρ2];simp only[(mem _).2 ⟨x,hx⟩,if_true]
  have:rt t (1+j)-rt t 1=j:=by unfold rt;omega
  rw[this]
 have r2:∀p:Pa,¬(∃x,(p.root,x)∈aZ t R)->ρ2 p=ρ p:=fun p hp=>by
  rw[hρ2]
  cases p with
  | r b =>
   have:¬((aZ t R).any fun q=>q.1==b)=true:=fun e=>hp ((mem _).1 e)
   simp only[if_neg this]
  | n b i o=>rfl
 have o1:∀k j x,ω k=some (.n c 0 j)->(rt t (1+j),x)∈aZ t R->ω2 k=some (.r (rt t (1+j))):=fun k j x e hx=>by
  rw[hω2];simp only[e,Pa.root,if_true,(mem _).2 ⟨x,hx⟩,and_self]
 have o2:∀k p,ω k=some p->p.root≠c->¬(∃x,(p.root,x)∈aZ t R)->ω2 k=some p:=fun k p e hpc hp=>by
  have:¬((aZ t R).any fun q=>q.1==p.root)=true:=fun e=>hp ((mem _).1 e)
  rw[hω2];simp only[e,if_neg hpc,if_neg this]
 have o3:∀k p,ω2 k=some p->∃q,ω k=some q:=fun k p e=>by
  rw[hω2]at e
  simp only at e
  cases e1:ω k with
  | some q=>exact⟨q,rfl⟩
  | none=>rw[e1]at e;cases e
 have lkn:∀s,s≠t->s≠c->¬(∃x,(s,x)∈aZ t R)->((t,fD t R)::(c,D.any)::aZ t R).lookup s=none:=fun s h1 h2 h3=>by
  have e1:(s==t)=false:=by simpa using h1
  have e2:(s==c)=false:=by simpa using h2
  simp only[x0l,e1,e2]
  exact tQ fun y hy=>h3 ⟨y,hy⟩
 have small:∀s,s<10000->¬(∃x,(s,x)∈aZ t R):=fun s hs ⟨x,hx⟩=>by
  obtain⟨j,_,_,h3,_⟩:=ofR s x hx
  unfold rt at h3;omega
 refine⟨h.hnt,by simp[Act.put,h.size],by simp[Act.put,h.defers],h.ch,h.holds,h.ext,h.fresh,ρ2,ω2,hO.step (ks:=fq t R) (fun p hp=>?_) (Mem.le_refl _) (x0r _) (fun s hs=>?_) (fun b hb=>?_) (fun k p e=>.inl (o3 k p e)) (fun p q e=>?_) (fun b l hb hl hB=>?_)⟩
 ·by_cases e:∃x,(p.root,x)∈aZ t R
  ·obtain⟨x,hx⟩:=e
   exact⟨(p.root,true),x0v.2 ⟨_,hx,rfl⟩,mE p⟩
  ·exact absurd (r2 p e) hp
 ·by_cases e:s=t
  ·right
   subst e
   have e1:eff ((s,fD s R)::(c,D.any)::aZ s R) (fq s R) f s=fD s R:=aV (by simp)
   refine .inr ⟨v,getElem?_put_same (by rw[h.size];exact ht),?_⟩
   rw[e1,hR]
   refine⟨vs,hv1,by rw[nM];exact hv2.symm,fun j d u h1 h2=>?_⟩
   rw[nL,x0n]at h1
   obtain⟨d',h1,rfl⟩:=h1
   have hcell:=hv3 j d' u h1 h2
   cases d'
   case own sz' es' =>
    simp only[ga,aD]
    rw[r1 j _ (inR j _ _ h1)]
    exact hcell.1
   all_goals first|exact aD.of_pure hcell|(simp[cD,af]at hcell;done)
  ·left
   rcases bO (f:=f) (ks:=fq t R) (lkn s e (by omega) (small s hs))with h1|h1
   ·exact .inl h1
   ·exact .inr ⟨h1.1,getElem?_put e,h1.2⟩
 ·by_cases e:∃x,(b,x)∈aZ t R
  ·obtain⟨x,hx⟩:=e
   obtain⟨j,sz',es',h3,h4,rfl⟩:=ofR b x hx
   right
   have hct:(b==t)=false:=by simp;omega
   have hbc:b≠c:=fun e=>hcn _ (e▸hx)
   have hct2:(b==c)=false:=by simpa using hbc
   have hlk:((t,fD t R)::(c,D.any)::aZ t R).lookup b=some (.blk sz' es'):=by
    simp only[x0l,hct,hct2]
    exact uQ (fun y hy=>(gq hx hy).symm) hx
   refine .inl ⟨sz',es',aV hlk,?_⟩
   have hj':j<vs.length:=by rw[hv2];exact(x0b.1 h4).1
   have hcell:=hv3 j _ _ h4 (x0e hj')
   subst h3
   have e1:=r1 j _ hx
   unfold di cm
   rw[e1]
   rcases hcell.2 with h5|⟨h5,h6,us,T,g1,g2,g3,g4,g5⟩
   ·exact .inl h5
   ·refine .inr ⟨o1 _ j _ h5 hx,h6,us,T,g1,g2,g3,g4,fun i r off d k1 k2=>?_⟩
    obtain⟨u,k3,k4⟩:=g5 i r off d k1 k2
    refine⟨u,k3,?_⟩
    cases d
    case own=>simp[af]at k4
    all_goals exact k4
  ·by_cases ebc:b=c
   ·subst ebc
    refine .inl (.inl ?_)
    have hct:(b==t)=false:=by simp;omega
    rw[aV (d:=.any) (by simp[x0l,hct])]
    rfl
   ·left
    rcases ca (f:=f) (ks:=fq t R) (lkn b (by omega) ebc e)with h1|h1
    ·exact .inl h1
    ·refine .inr ⟨h1,fun p hp=>?_⟩
     have hpe:¬(∃x,(p.root,x)∈aZ t R):=by rw[hp];exact e
     exact⟨r2 p hpe,fun hw=>⟨o2 _ _ hw (by rw[hp];exact ebc) hpe,rfl⟩⟩
 ·obtain⟨q',e1⟩:=o3 _ q e
  exact hO.apart p q' e1
 ·by_cases e:∃x,(b,x)∈aZ t R
  ·obtain⟨x,hx⟩:=e
   obtain⟨j,h1,h2,h3,_⟩:=gY hok hx
   rw[h3,hL t j (by omega)]at hl;cases hl
  ·have hct:(b==t)=false:=by simp;omega
   by_cases ebc:b=c
   ·subst ebc
    rw[aV (d:=.any) (by simp[x0l,hct])]at hB;cases hB
   ·refine⟨r2 _ e,?_⟩
    rcases ca (f:=f) (ks:=fq t R) (lkn b (by omega) ebc e)with h1|h1
    ·rw[hB]at h1;cases h1
    ·rw[<- h1];exact hB
end
end Go.Gv

namespace Go.Gv
section
variable{P:Program}{F:Fid}{C:Nat->List D->D->List D->Prop}{nt:Nat}{S:Nat->Prop}{L:Nat->Option Loc}{w0:World}{M0:Mem}{f:Nat->D}{M:Mem}{a:Act}{w:World}{o:Oper}{d:D}{Q:Exit->Act->World->Prop}{ρ:Pa->Loc}{ω:Nat->Option Pa}{New:Nat->Prop}{K:List (Nat×D)->List (Nat×Bool)->Prop}
theorem xY{es rs:List (List D)}{k:Nat}(h:k+rs.length<=es.length):(i9 es k rs).length=es.length:=by
 simp only[i9,x0Q,x1c,x1L];omega
theorem xX{es rs:List (List D)}{k i:Nat}(h:k+rs.length<=es.length):(i9 es k rs)[i]? = if k<=i/\i<k+rs.length then rs[i-k]? else es[i]?:=by
 unfold i9
 have hl:(es.take k).length=k:=by simp;omega
 by_cases h1:i<k
 ·rw[if_neg (by omega),x1E,x0w (by omega),x0D h1]
 ·by_cases h2:i<k+rs.length
  ·rw[if_pos (by omega),x1E,x0y (by omega),hl,x0w (by omega)]
  ·rw[if_neg (by omega),x0y (by rw[x0Q,hl];omega),x0Q,hl,x0x]
   congr 1;omega
theorem xZ{es rs:List (List D)}{k:Nat}{e:List D}(he:e∈i9 es k rs):e∈rs\/e∈es:=by
 unfold i9 at he
 rcases x0p.1 he with he|he
 ·rcases x0p.1 he with he|he
  ·exact .inr (x0H he)
  ·exact .inl he
 ·exact .inr (x06 he)
def pn(P:Program)(t sz:Nat):Bool:=match P.underlying t with
 | some (.slice e)=>(match P.info? e with
  | some i=>i.size==sz
  | none=>false)
 | _=>false
theorem Ad{T T2 sz:Nat}{ty:TypeId}(hk:pn P T sz=true){g o n m cap cap2:Nat}{ad:Addr}{cur news:List Value}{T0:TypeId}(hg:w.heap[g]? = some (.cells cur.toArray T0 (0,0)))(hl:o+min m n*sz<=cur.length)
  (hnl:news.length=m*sz) (hnews:∀j u,news[j]? = some u->w.cell? (ad.add j)=some u) (hone:∀u∈news,u.oneCell'=true) :
  ∃w',(Builtin.copy_ #[T,T2] ty #[.slice (some ⟨g,o,none⟩) n cap,.slice (some ad) m cap2]).run P w=.ok (.int .i64 (min m n:Nat)) w'/\w'.heap[g]? = some (.cells (cur.take o++news.take (min m n*sz)++cur.drop (o+min m n*sz)).toArray T0 (0,0))/\Ch (fun k=>k=g) w w':=by
 unfold pn at hk
 split at hk
 ·rename_i e hu
  split at hk
  ·rename_i i hi
   have hsz:i.size=sz:=by simpa using hk
   have hle:min m n*sz<=m*sz:=x0j _ (Nat.min_le_left _ _)
   have hnl2:(news.take (min m n*sz)).length=min m n*sz:=by rw[x1c];omega
   obtain⟨w',e1,e2,e3,e4,e5,e6,e7,e8⟩:=cR (P:=P) g T0 o (news.take (min m n*sz)) 0 cur w hg (by rw[hnl2];omega) (fun v hv=>hone v (x0H hv))
   refine⟨w',?_,by rw[e2];simp only[x0Z,hnl2],⟨e5,e6,e7,by omega,fun k _ hk=>e3 k hk,by omega⟩⟩
   have hld:=run_loadCells_list (P:=P) w ad (news.take (min m n*sz)) (fun j v hj=>hnews j v (by rw[x07]at hj;split at hj;exact hj;cases hj))
   rw[hnl2]at hld
   have hmn:Nat.min m n=min m n:=rfl
   simp[Builtin.copy_,run_underlying hu,sizeOf,typeInfo,hi,Builtin.lenOf,Builtin.firstCells,hsz,hmn,hld,e1,goInt]
  ·cases hk
 ·cases hk
theorem wU{T T2 sz:Nat}{ty:TypeId}(hk:pn P T sz=true)(A:Option Addr)(cap:Nat)(ad:Addr)(m cap2:Nat):(Builtin.copy_ #[T,T2] ty #[.slice A 0 cap,.slice (some ad) m cap2]).run P w=.ok (.int .i64 0) w:=by
 unfold pn at hk
 split at hk
 ·rename_i e hu
  split at hk
  ·rename_i i hi
   have hmn:Nat.min m 0=0:=Nat.min_zero m
   cases A<;>simp[Builtin.copy_,run_underlying hu,sizeOf,typeInfo,hi,Builtin.lenOf,Builtin.firstCells,hmn,loadCells,loadCellsFrom,storeCells,goInt]
  ·cases hk
 ·cases hk
theorem CP(h:SR F nt S L w0 M0 f M a w){t:Nat}(hd:o.dst=some t)(ht:t<nt){sz:Nat}{x y:Opd}{x' y':Operand}{T T2:TypeId}(ho:o.op=.call { callee:=.builtin .copy,args:=#[x',y'],argTypes:=#[T,T2] })(hx:am F x x'=true)(hy:am F y y'=true)(hk:pn P T sz=true)
  (hr:fH f false (vd f y) sz fun rows bs=>bs=[]/\0<rows.length/\match vd f x with
   | .ref (.r b) k n=>(n=0->K [(t,.int .i64 0)] [])/\(0<n->match f b with
    | .blk sz' es=>sz'=sz/\k+n<=es.length/\(∀e∈es,∀c∈e,aI c=true)/\(∀e∈rows,∀c∈e,aI c=true)/\K [(t,.int .i64 (min rows.length n:Nat)),(b,.blk sz (i9 es k (rows.take n)))] []
    | _=>False)
   | _=>False):o.wp P a w (PostX F nt S L w0 M0 f K) Q:=by
 obtain⟨ρ,ω,hO⟩:=h.own
 obtain⟨rows,bs,c2,⟨hbs0,hrl,hr⟩,hbs,_,huY,A2,m,cap2,news,ey,hm,hnl,hA2,hone,hY⟩:=oz h hO hy hr
 have hc2:c2=none:=by
  rw[hbs0]at hbs
  cases c2 with
  | none=>rfl
  | some c=>simp at hbs
 subst hc2
 have hv:=hO.opd hx
 split at hr
 ·rename_i b k n hvx
  rw[hvx,aw rfl]at hv
  obtain⟨ad0,hA0,_⟩:=hA2 (by omega)
  rcases x0X n with hn|hn
  ·have hK:=hr.1 hn
   subst hn
   have hv0:∃A cap,a.eval x'=.slice A 0 cap:=by
    simp only[aD]at hv
    rcases hv with ⟨_,A,e⟩|⟨cap,e,_⟩
    ·exact⟨A,0,e⟩
    ·exact⟨_,cap,e⟩
   obtain⟨A,cap,hv0⟩:=hv0
   refine postX_val hd (v:=.int .i64 0) (w':=w) ?_ hK (h.put ht (fun ρ ω _=>by rw[aw rfl];simp only[aD,af]))
   subst hA0
   have e1:=wU (P:=P) (w:=w) (T2:=T2) (ty:=o.type) hk A cap ad0 m cap2
   simp only[execOp,ho,resolve,invoke,builtin,x1M,x0I,x02,Sem.run_bind,Sem.run_pure,Result.andThen_ok,hv0,ey,e1]
  have hr:=hr.2 hn
  split at hr
  ·rename_i sz' es hf
   obtain⟨rfl,hkn,hes1,hrow1,hK⟩:=hr
   have hb:=hO.big hf
   have hgp:aY f (.r b)=some (sz',es):=by simp[aY,hf]
   obtain⟨ad,rfl,hnews⟩:=hA2 (by omega)
   rcases f9 hO hgp hkn hv (fun e he c hc=>cK (hes1 e (x06 (x0H he)) c hc))with ⟨A,hv,hn0⟩|⟨cap,us,T0,hv,⟨hcap,hmc⟩,hcl,hω,g0,g1,g2,g4,g5⟩
   ·omega
   ·have hrows:jW w (ρ (.r b)) sz' es (fun i off d v=>cD F M ω ρ w b i off d v):=by
     rcases hO.roots b sz' es hb hf with ⟨e0,_⟩|⟨_,hr⟩
     ·rw[e0]at hkn;simp at hkn;omega
     ·exact hr
    obtain⟨q0,us0,T1,q1,q2,q3,q4,q5⟩:=id hrows
    rw[g1]at q1
    simp only[x0o,Obj.cells.injEq,and_true]at q1
    obtain⟨q1,rfl⟩:=q1
    obtain rfl:us=us0:=by simpa using congrArg Array.toList q1
    have hle:k*sz'+n*sz'<=es.length*sz':=by rw[<- x0A];exact x0j _ hkn
    have hmn:min m n*sz'<=n*sz':=x0j _ (Nat.min_le_right _ _)
    obtain⟨w',e1,e2,e3⟩:=Ad (P:=P) (w:=w) (T2:=T2) (ty:=o.type) hk (m:=m) (n:=n) (cap:=cap) (cap2:=cap2) (o:=(ρ (.r b)).base+k*sz') g1 (by rw[g2];omega) hnl hnews hone
    have hmin:(rows.take n).length=min m n:=by rw[x1c,hm,Nat.min_comm]
    have hfit:k+(rows.take n).length<=es.length:=by rw[hmin];omega
    have hml:min m n*sz'<=m*sz':=x0j _ (Nat.min_le_left _ _)
    have hN:(news.take (min m n*sz')).length=min m n*sz':=by rw[x1c];omega
    have hfill:=h.fill hO hf hω hrows (es':=i9 es k (rows.take n)) (us:=us.take ((ρ (.r b)).base+k*sz')++news.take (min m n*sz')++us.drop ((ρ (.r b)).base+k*sz'+min m n*sz')) (w':=w') (Nat.le_of_eq (xY hfit)) (fun e he=>by
     rcases xZ he with he|he
     ·have he:=x0H he
      exact⟨huY e he,hrow1 e he⟩
     ·exact⟨g4 e he,hes1 e he⟩) e3 e2 (by simp only[x0Q,x1c,x1L]at hN ⊢;omega) (fun i r off d h1 h2=>by
     have hget:=fun x=>cG (vs:=us) (us:=news.take (min m n*sz')) (q:=(ρ (.r b)).base+k*sz') (n:=min m n*sz') (x:=x) hN (by omega)
     rw[xX hfit,hmin]at h1
     split at h1
     ·rename_i hi
      have hil:i-k<(rows.take n).length:=by rw[hmin];omega
      have hin:i-k<n:=by rw[hmin]at hil;omega
      rw[x0D hin]at h1
      obtain⟨u,k1,k2⟩:=hY (i-k) r off d h1 h2
      have hof:off<sz':=by rw[<- huY r (x0d h1)];exact(x0b.1 h2).1
      have h3:=fB (sz:=sz') (show i-k<min m n by omega) hof
      have h4:(i-k)*sz'+k*sz'=i*sz':=by rw[<- x0A];congr 1;omega
      refine⟨u,?_,k2.2⟩
      rw[hget,if_pos (by omega),show(ρ (.r b)).base+i*sz'+off-((ρ (.r b)).base+k*sz')=(i-k)*sz'+off by omega,x0D h3]
      exact k1
     ·rename_i hi
      obtain⟨u,k1,k2⟩:=q5 i r off d h1 h2
      have hof:off<sz':=by rw[<- g4 r (x0d h1)];exact(x0b.1 h2).1
      rw[bB (cK (hes1 r (x0d h1) d (x0d h2)))]at k2
      refine⟨u,?_,k2⟩
      have h5:¬((ρ (.r b)).base+k*sz'<=(ρ (.r b)).base+i*sz'+off/\(ρ (.r b)).base+i*sz'+off<(ρ (.r b)).base+k*sz'+min m n*sz'):=by
       rintro⟨h6,h7⟩
       rcases x1o i k with h8|h8
       ·have:=fB (sz:=sz') h8 hof;omega
       ·have h9:(k+min m n)*sz'<=i*sz':=x0j _ (by omega)
        rw[x0A]at h9;omega
      rw[hget,if_neg h5]
      exact k1)
    obtain⟨_,_,_,_,hs⟩:=hfill
    have hs2:=hs.put (t:=t) (d:=.int .i64 (min rows.length n:Nat)) (v:=.int .i64 (min m n:Nat)) ht (fun _ _ _=>by rw[aw rfl,hm];simp only[aD,af])
    refine dG (v:=.int .i64 (min m n:Nat)) (w':=w') ?_ ?_
    ·simp only[execOp,ho,resolve,invoke,builtin,x1M,x0I,x02,Sem.run_bind,Sem.run_pure,Result.andThen_ok,hv,ey,e1]
    ·rw[hd]
     refine⟨_,_,M,hK,?_⟩
     have:eff [(t,D.int .i64 (min rows.length n:Nat)),(b,D.blk sz' (i9 es k (rows.take n)))] [] f=eff [(t,.int .i64 (min rows.length n:Nat))] [] (eff [(b,.blk sz' (i9 es k (rows.take n)))] [] f):=by
      funext s
      unfold eff
      by_cases h1:s=t
      ·subst h1;simp
      ·have e1:(s==t)=false:=by simpa using h1
       simp only[x0l,e1,x03,aN,List.any_nil,x0m,if_false]
     rw[this]
     exact hs2
  ·exact hr.elim
 ·exact hr.elim
end
end Go.Gv

namespace Go.Gv
section
variable{P:Program}{F:Fid}{C:Nat->List D->D->List D->Prop}{nt:Nat}{S:Nat->Prop}{L:Nat->Option Loc}{w0:World}{M0:Mem}{f:Nat->D}{M:Mem}{a:Act}{w:World}{o:Oper}{d:D}{Q:Exit->Act->World->Prop}{ρ:Pa->Loc}{ω:Nat->Option Pa}{New:Nat->Prop}{K:List (Nat×D)->List (Nat×Bool)->Prop}
theorem xS{d:D}(h:aI d=true):aT d=d:=by cases d<;>first|rfl|(simp[aI]at h)
theorem SR.frzA(h:SR F nt S L w0 M0 f M a w){t:Nat}(ht:t<10000){c sz:Nat}{row:List D}(hft:f t=.adr (.r c) 0 0)(hfc:f c=.blk sz [row])(hrow:∀d∈row,aI d=true) :
  ∃M',SR F nt S L w0 M0 (eff [(t,.ptr row),(c,.any)] [] f) M' a w:=by
 obtain⟨ρ,ω,hO⟩:=h.own
 have gp:aY f (.r c)=some (sz,[row]):=by simp only[aY,hfc]
 have hc:10000<=c:=ck hO gp
 have hO1:=hO.only hc
 have e1:aY (fcE f c) (.r c)=aY f (.r c):=pt 0
 obtain⟨v,hv1,hv2⟩:∃v,a.tmps[t]? = some v/\bi F M ρ (f t) v:=by
  rcases hO.slots t ht with g|g
  ·rw[hft]at g;cases g
  ·exact g
 rw[hft,aw rfl]at hv2
 have hr:=kS hO1 hv2 (by simp only[aQ,e1,gp])
 have ed:dp1 (fcE f c) (.adr (.r c) 0 0)=.ptr row:=by
  simp only[dp1,e1,gp,x01,x1A,List.drop_zero]
  congr 1
  conv=>rhs;rw[<- List.map_id row]
  exact x0i fun d hd=>xS (hrow d hd)
 rw[ed]at hr
 have hle:M.le (bK (dc ω c) M w):=cE hO1
 have hE:=hO.erase hc
 have hf':∀s,eff [(t,.ptr row),(c,.any)] [] f s=if s=t then .ptr row else fbE f c s:=fun s=>by
  unfold eff fbE
  by_cases e:s=t
  ·subst e;simp
  ·have b1:(s==t)=false:=by simpa using e
   by_cases e2:s=c
   ·subst e2
    simp only[List.lookup,b1,beq_self_eq_true,if_neg e,if_true]
   ·have b2:(s==c)=false:=by simpa using e2
    simp only[List.lookup,b1,b2,if_neg e,if_neg e2]
    simp[aN]
 refine⟨bK (dc ω c) M w,⟨h.hnt,h.size,h.defers,h.ch,ct h.holds,Mem.le_trans h.ext hle,fun p h1 h2=>?_,ρ,kj ω c,?_⟩⟩
 ·by_cases e:M p=none
  ·unfold bK at h2
   split at h2
   ·rename_i q hq
    exact hO.new _ _ (cQ hq).1
   ·exact absurd e h2
  ·exact h.fresh p h1 e
 ·refine hE.step (ks:=[]) (fun p hp=>absurd rfl hp) hle (x0r _) (fun s hs=>?_) (fun b hb=>?_) (fun k p e=>.inl ⟨p,e⟩) (fun p q e=>?_) (fun b l hb hl hB=>?_)
  ·rw[hf']
   by_cases e:s=t
   ·subst e
    rw[if_pos rfl]
    refine .inr (.inr ⟨v,hv1,?_⟩)
    rw[hf',if_pos rfl,aw rfl]
    exact hr
   ·rw[if_neg e]
    exact .inl (.inr ⟨rfl,rfl,by simp[aN]⟩)
  ·have:b≠t:=by omega
   rw[hf',if_neg this]
   exact .inl (.inr ⟨rfl,fun p hp=>⟨rfl,fun hw=>⟨hw,rfl⟩⟩⟩)
  ·obtain⟨e2,e3⟩:=eS e
   have e4:dc ω c p.block=none:=by
    simp only[dc,e2,if_neg e3]
   simp only[bK,e4]
   exact hO.apart p q e2
  ·have:b≠t:=by omega
   rw[hf',if_neg this]at hB
   exact⟨rfl,hB⟩
theorem CX(h:SR F nt S L w0 M0 f M a w){x y:Opd}{x' y':Operand}{t:TypeId}(ho:o.op=.store t x' y')(hx:am F x x'=true)(hy:am F y y'=true)(hk:iT P t 1=true)
  (hr:aL C f o.dst K (.stP x y)):o.wp P a w (PostX F nt S L w0 M0 f K) Q:=by
 simp only[aL]at hr
 obtain⟨hd,hr⟩:=hr
 split at hr
 ·rename_i s
  obtain⟨hs,hr⟩:=hr
  split at hr
  ·rename_i c i0 o0 hfs
   obtain⟨rfl,rfl,hr⟩:=hr
   split at hr
   ·rename_i sz row hfc
    obtain⟨hrow,hr⟩:=hr
    split at hr
    ·rename_i b i1 o1 i off ex
     obtain⟨hbc,hr⟩:=hr
     split at hr
     ·rename_i sz0 es0 hb
      obtain⟨row0,h1,sz1,es,h2,r,h3,h4,hK⟩:=hr
      obtain⟨ρ,ω,hO⟩:=h.own
      have hc:10000<=c:=ck hO (show aY f (.r c)=some (sz,[row]) by simp only[aY,hfc])
      have hb0:10000<=b:=ck hO (show aY f (.r b)=some (sz0,es0) by simp only[aY,hb])
      obtain⟨M',h'⟩:=h.frzA hs hfs hfc hrow
      have look1:eff [(s,.ptr row),(c,.any)] [] f s=.ptr row:=by simp[eff]
      have lookb:eff [(s,.ptr row),(c,.any)] [] f b=f b:=by
       have b1:(b==s)=false:=by simp;omega
       have b2:(b==c)=false:=by simpa using hbc
       simp[eff,List.lookup,b1,b2,aN]
      have lookx:vd (eff [(s,.ptr row),(c,.any)] [] f) x=.adr (.n b i1 o1) i off:=by
       cases x with
       | c d=>exact ex
       | t q =>
        simp only[vd]at ex ⊢
        have q1:q≠s:=fun e=>by rw[e,hfs]at ex;cases ex
        have q2:q≠c:=fun e=>by rw[e,hfc]at ex;cases ex
        have b1:(q==s)=false:=by simpa using q1
        have b2:(q==c)=false:=by simpa using q2
        simp[eff,List.lookup,b1,b2,aN,ex]
      refine Oper.wp_mono ?_ (Au (C:=C) (K:=fun ws ks=>ws=[(b,.blk sz0 (br es0 i1 o1 1 [.own sz1 (br es i off 1 [.ptr row])]))]/\ks=[]) (n:=1) (ns:=[]) h' hd ho hx hy hk ?_)
      ·rintro a' w' ⟨ws,ks,M2,⟨rfl,rfl⟩,h2⟩
       refine⟨_,_,M2,hK,?_⟩
       have e:eff [(b,.blk sz0 (br es0 i1 o1 1 [.own sz1 (br es i off 1 [.ptr row])]))] [] (eff [(s,.ptr row),(c,.any)] [] f)=eff [(b,.blk sz0 (br es0 i1 o1 1 [.own sz1 (br es i off 1 [.ptr row])])),(s,.ptr row),(c,.any)] [] f:=by
        funext q
        unfold eff
        simp only[List.lookup]
        cases e1:q==b<;>simp[aN]
       rw[<- e]
       exact h2
      ·have look2:vd (eff [(s,.ptr row),(c,.any)] [] f) (.t s)=.ptr row:=look1
       simp only[aL,look2,lookx,fK,dj,eJ,if_true,true_or,true_and]
       refine⟨rfl,rfl,?_⟩
       refine⟨by simp[aI],?_⟩
       rw[lookb,hb]
       exact⟨row0,h1,sz1,es,h2,r,h3,h4,rfl,trivial⟩
     ·exact hr.elim
    ·exact hr.elim
   ·exact hr.elim
  ·exact hr.elim
 ·exact hr.elim
end
end Go.Gv

namespace Go.Gv
section
variable{P:Program}{F:Fid}{C:Nat->List D->D->List D->Prop}{nt:Nat}{S:Nat->Prop}{L:Nat->Option Loc}{w0:World}{M0:Mem}{f:Nat->D}{M:Mem}{a:Act}{w:World}{o:Oper}{Q:Exit->Act->World->Prop}{K:List (Nat×D)->List (Nat×Bool)->Prop}
theorem SR.frzX(h:SR F nt S L w0 M0 f M a w){t:Nat}(ht:t<10000){c sz:Nat}{row ds:List D}{vs:List Value}(hft:f t=.adr (.r c) 0 0)(hfc:f c=.blk sz [row])
  (hrep:∀ρ ω,Own F L (fun k=>S k\/w0.heap.size<=k) f M a w ρ ω->cH F M ρ ds vs)
  (hcells:∀ρ ω,Own F L (fun k=>S k\/w0.heap.size<=k) f M a w ρ ω->∃(us:List Value) (T:TypeId),w.heap[(ρ (.r c)).blk]? = some (.cells us.toArray T (0,0))/\∀j v,vs[j]? = some v->us[(ρ (.r c)).base+j]? = some v) :
  ∃M',SR F nt S L w0 M0 (eff [(t,.ptx ds),(c,.any)] [] f) M' a w:=by
 obtain⟨ρ,ω,hO⟩:=h.own
 have gp:aY f (.r c)=some (sz,[row]):=by simp only[aY,hfc]
 have hc:10000<=c:=ck hO gp
 have hO1:=hO.only hc
 obtain⟨v,hv1,hv2⟩:∃v,a.tmps[t]? = some v/\bi F M ρ (f t) v:=by
  rcases hO.slots t ht with g|g
  ·rw[hft]at g;cases g
  ·exact g
 rw[hft,aw rfl]at hv2
 simp only[aD,x1B,x0Z]at hv2
 have hω:ω (ρ (.r c)).blk=some (.r c):=by
  rcases hO.roots c sz [row] hc hfc with ⟨e0,_⟩|⟨h1,_⟩
  ·cases e0
  ·exact h1
 have hω1:dc ω c (ρ (.r c)).blk=some (.r c):=by simp[dc,hω,Pa.root]
 have hle:M.le (bK (dc ω c) M w):=cE hO1
 have hr:bi F (bK (dc ω c) M w) ρ (.ptx ds) v:=by
  obtain⟨us,T,h1,h2⟩:=hcells ρ ω hO
  have hL:=hrep ρ ω hO
  refine⟨_,vs,hv2,⟨hL.1,fun i d v e1 e2=>(hL.2 i d v e1 e2).mono hle⟩,fun j u hj=>?_⟩
  have:=iV (M:=M) (ω:=dc ω c) (o:=(ρ (.r c)).base) hω1 h1
  refine this j u ?_
  rw[x0x]
  exact h2 j u hj
 have hE:=hO.erase hc
 have hf':∀s,eff [(t,.ptx ds),(c,.any)] [] f s=if s=t then .ptx ds else fbE f c s:=fun s=>by
  unfold eff fbE
  by_cases e:s=t
  ·subst e;simp
  ·have b1:(s==t)=false:=by simpa using e
   by_cases e2:s=c
   ·subst e2
    simp only[List.lookup,b1,beq_self_eq_true,if_neg e,if_true]
   ·have b2:(s==c)=false:=by simpa using e2
    simp only[List.lookup,b1,b2,if_neg e,if_neg e2]
    simp[aN]
 refine⟨bK (dc ω c) M w,⟨h.hnt,h.size,h.defers,h.ch,ct h.holds,Mem.le_trans h.ext hle,fun p h1 h2=>?_,ρ,kj ω c,?_⟩⟩
 ·by_cases e:M p=none
  ·unfold bK at h2
   split at h2
   ·rename_i q hq
    exact hO.new _ _ (cQ hq).1
   ·exact absurd e h2
  ·exact h.fresh p h1 e
 ·refine hE.step (ks:=[]) (fun p hp=>absurd rfl hp) hle (x0r _) (fun s hs=>?_) (fun b hb=>?_) (fun k p e=>.inl ⟨p,e⟩) (fun p q e=>?_) (fun b l hb hl hB=>?_)
  ·rw[hf']
   by_cases e:s=t
   ·subst e
    rw[if_pos rfl]
    refine .inr (.inr ⟨v,hv1,?_⟩)
    rw[hf',if_pos rfl]
    exact hr
   ·rw[if_neg e]
    exact .inl (.inr ⟨rfl,rfl,by simp[aN]⟩)
  ·have:b≠t:=by omega
   rw[hf',if_neg this]
   exact .inl (.inr ⟨rfl,fun p hp=>⟨rfl,fun hw=>⟨hw,rfl⟩⟩⟩)
  ·obtain⟨e2,e3⟩:=eS e
   have e4:dc ω c p.block=none:=by
    simp only[dc,e2,if_neg e3]
   simp only[bK,e4]
   exact hO.apart p q e2
  ·have:b≠t:=by omega
   rw[hf',if_neg this]at hB
   exact⟨rfl,hB⟩
theorem oj{M:Mem}{ρ:Pa->Loc}{d:D}{ds:List D}{v:Value}(h:ij d=some ds)(hr:bi F M ρ d v)(h1:ds.all rW=true):cH F M ρ ds v.cells.toList/\∀u∈v.cells.toList,u.oneCell'=true:=by
 have one:∀{x:D} {u:Value},rW x=true->aD F M ρ x u->u.oneCell'=true:=fun{x u} hx hu=>by
  cases x
  case ref p k n =>
   simp only[aD]at hu
   rcases hu with ⟨_,A,rfl⟩|⟨cap,rfl,_⟩<;>rfl
  case adr p i off =>
   simp only[aD]at hu
   subst hu
   rfl
  all_goals first
   | (simp[rW,aI]at hx;done)
   | exact oneCell_of hu (by simpa[rW]using hx)
 cases d
 case agx xs =>
  simp only[ij,x0o]at h
  subst h
  obtain⟨vs,rfl,hL⟩:=hr
  refine⟨by simpa[Value.cells]using hL,fun u hu=>?_⟩
  have hu':u∈vs:=by simpa[Value.cells]using hu
  obtain⟨j,hj,e⟩:=x0C.1 hu'
  have hj':j<xs.length:=by rw[hL.1];exact hj
  exact one (x0g.1 h1 _ (x0h hj')) (hL.2 j _ u (x0e hj') (by rw[<- e];exact x0e hj))
 case adr p i off =>
  simp only[ij,x0o]at h
  subst h
  rw[aw rfl]at hr
  have hv:v.cells.toList=[v]:=by
   simp only[aD]at hr
   subst hr
   rfl
  rw[hv]
  refine⟨⟨rfl,fun j d u e1 e2=>?_⟩,fun u hu=>?_⟩
  ·cases j with
   | zero=>simp at e1 e2;subst e1;subst e2;exact hr
   | succ j=>simp at e1
  ·simp at hu
   subst hu
   exact one rfl hr
 case int k n =>
  simp only[ij,x0o]at h
  subst h
  rw[aw rfl]at hr
  have hv:v.cells.toList=[v]:=by
   simp only[aD,af]at hr
   subst hr
   rfl
  rw[hv]
  refine⟨⟨rfl,fun j d u e1 e2=>?_⟩,fun u hu=>?_⟩
  ·cases j with
   | zero=>simp at e1 e2;subst e1;subst e2;exact hr
   | succ j=>simp at e1
  ·simp at hu
   subst hu
   exact one rfl hr
 case nilp =>
  simp only[ij,x0o]at h
  subst h
  rw[aw rfl]at hr
  have hv:v.cells.toList=[v]:=by
   simp only[aD,af]at hr
   subst hr
   rfl
  rw[hv]
  refine⟨⟨rfl,fun j d u e1 e2=>?_⟩,fun u hu=>?_⟩
  ·cases j with
   | zero=>simp at e1 e2;subst e1;subst e2;exact hr
   | succ j=>simp at e1
  ·simp at hu
   subst hu
   exact one rfl hr
 all_goals cases h
theorem CW(h:SR F nt S L w0 M0 f M a w){n:Nat}{x y:Opd}{x' y':Operand}{t:TypeId}(ho:o.op=.store t x' y')(hx:am F x x'=true)(hy:am F y y'=true)(hk:iT P t n=true)
  (hr:aL C f o.dst K (.stF n x y)):o.wp P a w (PostX F nt S L w0 M0 f K) Q:=by
 simp only[aL]at hr
 obtain⟨hd,hr⟩:=hr
 split at hr
 ·rename_i s
  obtain⟨hs,hr⟩:=hr
  split at hr
  ·rename_i c i0 o0 hfs
   obtain⟨rfl,rfl,hr⟩:=hr
   split at hr
   ·rename_i sz row hfc
    obtain⟨hrow,ds,hds,hdl,hd1,hK⟩:=hr
    obtain⟨ρ,ω,hO⟩:=h.own
    have hc:10000<=c:=ck hO (show aY f (.r c)=some (sz,[row]) by simp only[aY,hfc])
    have hxv:=hO.opd hx
    have hyv:=hO.opd hy
    obtain⟨hL,hone⟩:=oj hds hyv hd1
    have hus:(a.eval y').cells.toList.length=n:=by rw[<- hL.1,hdl]
    have hus':(a.eval y').cells.size=n:=by simpa using hus
    simp only[vd]at hxv
    rw[hfs,aw rfl]at hxv
    simp only[aD]at hxv
    obtain⟨vs,T,hω,h0,hl,g1,g2,g3,g4⟩:=hO.row (p:=.r c) hc (show aY f (.r c)=some (sz,[row]) by simp[aY,hfc]) (i:=0) rfl
    rw[h0]at hxv
    obtain⟨w',k1,k2,k3,k4,k5,k6,k7⟩:=jw (P:=P) (off:=(ρ (.r c)).base+0*sz+0) hk g1 hus' (by omega) hone
    have hst:=h.store hO (b:=c) (i:=0) (off:=0) (n:=n) (cs:=List.replicate n .any) (bs:=[]) (src:=fun _=>none) (ks:=[]) hfc rfl (by omega) (by simp) hus (mh g1 k2 k3 k4 k5 k6 k7)
     (fun j c u e1 e2=>.inl (by
      have:c=.any:=by
       rw[List.getElem?_replicate]at e1
       split at e1
       ·simpa using e1.symm
       ·cases e1
      subst this
      exact⟨rfl,by simp[af]⟩)) (fun j j' c e=>by cases e) (fun j c e=>by cases e) (by simp) (fun e=>by
      rw[x0G]at e
      obtain⟨x,hx,e⟩:=e
      rw[List.eq_of_mem_replicate hx]at e
      cases e)
    have look1:eff ((c,.blk sz (br [row] 0 0 n (List.replicate n .any)))::cp []) [] f s=f s:=by
     have b1:(s==c)=false:=by simp;omega
     simp[eff,cp,List.lookup,b1,aN]
    have lookc:eff ((c,.blk sz (br [row] 0 0 n (List.replicate n .any)))::cp []) [] f c=.blk sz (br [row] 0 0 n (List.replicate n .any)):=by
     simp[eff,cp]
    obtain⟨row1,hrow1⟩:∃row1,br [row] 0 0 n (List.replicate n .any)=[row1]:=by simp[br]
    have hyok:vd (eff ((c,.blk sz (br [row] 0 0 n (List.replicate n .any)))::cp []) [] f) y=vd f y:=by
     cases y with
     | c d=>rfl
     | t q =>
      simp only[vd]
      have q2:q≠c:=fun e=>by
       subst e
       simp only[vd,hfc,ij]at hds
       cases hds
      have b2:(q==c)=false:=by simpa using q2
      simp[eff,cp,List.lookup,b2,aN]
    have hrun:(execOp a.eval o).run P w=.ok .skip w':=by
     simp only[execOp,ho,hxv,Sem.run_bind,k1,Result.andThen_ok,Sem.run_pure]
    obtain⟨M',h'⟩:=hst.frzX (t:=s) hs (c:=c) (sz:=sz) (row:=row1) (ds:=ds) (vs:=(a.eval y').cells.toList) (by rw[look1,hfs]) (by rw[lookc,hrow1])
     (fun ρ' ω' hO'=>(oj hds (by rw[<- hyok];exact hO'.opd hy) hd1).1)
     (fun ρ' ω' hO'=>by
      have e1:=hO'.opd hx
      simp only[vd]at e1
      rw[look1,hfs,aw rfl]at e1
      simp only[aD,x1B,x0Z]at e1
      rw[hxv]at e1
      simp only[x1B,x0Z,Value.pointer.injEq,x0o,Addr.mk.injEq]at e1
      refine⟨_,T,by rw[<- e1.1];exact k2,fun j v hj=>?_⟩
      rw[<- e1.2.1]
      simp only[x1B,x0Z]
      have hj':j<n:=by rw[<- hus];exact(x0b.1 hj).1
      have hb:(ρ (.r c)).base<=vs.length:=by omega
      rw[x1E,x0y (by simp;omega),x0w (by simp;omega)]
      rw[<- hj]
      congr 1
      simp;omega)
    refine oQ hrun ?_
    rw[hd]
    refine⟨_,_,M',hK,?_⟩
    have e:eff [(s,.ptx ds),(c,.any)] [] (eff ((c,.blk sz (br [row] 0 0 n (List.replicate n .any)))::cp []) [] f)=eff [(s,.ptx ds),(c,.any)] [] f:=by
     funext q
     unfold eff
     simp only[List.lookup,cp,x02]
     cases e1:q==s<;>cases e2:q==c<;>simp[aN]
    rw[e]at h'
    simpa[Act.put]using h'
   ·exact hr.elim
  ·exact hr.elim
 ·exact hr.elim
end
end Go.Gv

namespace Go.Gv
open Go.RowKit
section
variable{P:Program}{F:Fid}{C:Nat->List D->D->List D->Prop}{nt:Nat}{S:Nat->Prop}{L:Nat->Option Loc}{w0:World}{M0:Mem}{f:Nat->D}{M M':Mem}{a:Act}{w w':World}{o:Oper}{d:D}{Q:Exit->Act->World->Prop}{ρ ρ':Pa->Loc}{ω ω':Nat->Option Pa}{New:Nat->Prop}{K:List (Nat×D)->List (Nat×Bool)->Prop}
theorem xc(hC:bU P F C)(h:SR F nt S L w0 M0 f M a w)(hp:∀t,o.dst=some t->t<nt){g fi:Nat}(hg:F g=some fi)(hO:Own F L (fun k=>S k\/w0.heap.size<=k) f M a w ρ ω){b sz:Nat}{es es':List (List D)}{W:List D}{vs:List Value}
  (hf:f b=.blk sz es) (hpos:0<es.length) (hc:C g (.blk sz es::W) d [.blk sz es',.nilp]) (hlen:vs.length=W.length)
  (hrep:∀ρ1:Pa->Loc,ρ1 (.r aB)=ρ (.r b)->∀(i:Nat) (d:D) (v:Value),W[i]? = some d->vs[i]? = some v->bi F M ρ1 d v)
  (hrun:(execOp a.eval o).run P w=(callFunc fi vs.toArray).run P w) (hK:K (fQ o.dst d++[(b,.blk sz es')]) [(b,false)]):o.wp P a w (PostX F nt S L w0 M0 f K) Q:=by
 have hb:=hO.big hf
 have hroot:=hO.roots b sz es hb hf
 have hω:ω (ρ (.r b)).blk=some (.r b):=by
  rcases hroot with ⟨e0,_⟩|⟨hω,_⟩
  ·rw[e0]at hpos;simp at hpos
  ·exact hω
 obtain⟨ρ1,hρ1⟩:∃ρ1:Pa->Loc,ρ1=fun p=>ρ (p.to b):=⟨_,rfl⟩
 obtain⟨ω1,hω1⟩:∃ω1:Nat->Option Pa,ω1=fun k=>match ω k with
  | some p=>if p.root=b then some (p.to aB) else none
  | none=>none:=⟨_,rfl⟩
 have w1:∀k q,ω1 k=some q↔∃p:Pa,ω k=some p/\p.root=b/\q=p.to aB:=fun k q=>by
  rw[hω1]
  simp only
  constructor
  ·intro e
   split at e
   ·rename_i p hp
    split at e
    ·cases e;exact⟨p,hp,by assumption,rfl⟩
    ·cases e
   ·cases e
  ·rintro⟨p,e1,e2,rfl⟩
   simp only[e1,if_pos e2]
 have p1:∀p:Pa,p.root=b->ρ1 (p.to aB)=ρ p:=fun p hp=>by
  rw[hρ1]
  simp only
  rw[Pa.to_to b aB p hp]
 have lent:qb F M w ρ1 ω1 aB sz es:=by
  refine⟨(w1 _ _).2 ⟨.r b,?_,rfl,rfl⟩,di.carry hroot (Mem.le_refl _) (fun p hp=>⟨p1 p hp,fun e=>⟨(w1 _ _).2 ⟨p,e,hp,rfl⟩,rfl⟩⟩),fun k p e=>?_,fun k p e=>?_,fun p q e=>?_⟩
  ·have:=p1 (.r b) rfl
   simp only[Pa.to]at this
   rw[this];exact hω
  ·obtain⟨p',e1,_⟩:=(w1 _ _).1 e
   exact hO.lt _ _ e1
  ·obtain⟨p',_,_,rfl⟩:=(w1 _ _).1 e
   exact Pa.to_root _ _
  ·obtain⟨p',e1,_⟩:=(w1 _ _).1 e
   exact hO.apart p p' e1
 have e1:ρ1 (.r aB)=ρ (.r b):=p1 (.r b) rfl
 have hM:=hC.runsM g fi sz es _ d es' hg hc M w vs ρ1 ω1 h.holds hlen (hrep ρ1 e1) lent
 unfold Oper.wp
 rw[hrun,cv (hC.body g fi hg),Oper.upon_enter]
 refine hM.mono ?_
 rintro e0 w' ⟨v,M',ρ',ω',rfl,q1,q2,q3,q4,q5,q6,q7,q8⟩
 exact⟨_,_,M',hK,h.lend hO hf hb hω p1 w1 q1 q2 q3 q4 (by rw[q6,e1]) q7 q8 hp q5⟩
theorem xa(hC:bU P F C)(h:SR F nt S L w0 M0 f M a w)(hp:∀t,o.dst=some t->t<nt){g:Nat}{x:Opd}{xs:List Opd}{y:Operand}{ys:Array Operand}{ts:Array TypeId}(ho:o.op=.call { callee:=.value y,args:=ys,argTypes:=ts })(hx0:am F x y=true)(hx:bT F xs ys.toList=true)
  (hr:match vd f x with
  | .fny g' [.adr (.r b) i off] cs=>g'=g/\i=0/\off=0/\cs.all isV=true/\match f b with
   | .blk sz es=>0<es.length/\(∀x∈xs,isV (vd f x)=true)/\∃d,∃es':List (List D),0<es'.length/\C g (.blk sz es::(xs.map (vd f)++.ptx [.adr (.r 10015) 0 0]::cs)) d [.blk sz es',.nilp]/\K (fQ o.dst d++[(b,.blk sz es')]) [(b,false)]
   | _=>False
  | _=>False):o.wp P a w (PostX F nt S L w0 M0 f K) Q:=by
 split at hr
 ·rename_i g' b i off cs hvx
  obtain⟨rfl,rfl,rfl,hcs,hr⟩:=hr
  split at hr
  ·rename_i sz es hf
   obtain⟨hpos,hxs,d,es',hpos',hc,hK⟩:=hr
   obtain⟨ρ,ω,hO⟩:=h.own
   have hv:=hO.opd hx0
   rw[hvx]at hv
   obtain⟨fi,a',us,vs,hg,hv,r1,c1,r2⟩:=hv
   have hrep:aC F M (xs.map (vd f)) (ys.toList.map a.eval):=by
    have h1:=fU h hx (by rw[x0g];exact hxs)
    rwa[x0i (g:=vd f) fun x hx'=>by unfold dpv;exact(iz (hxs x hx')).1]at h1
   have hlen:=hrep.length.symm
   rw[x0g]at hcs
   refine xc hC h hp hg hO hf hpos hc (vs:=ys.toList.map a.eval++.pointer (some a')::vs) (by rw[x0Q,x0Q,x1b,x1b,hlen,r2.1]) (fun ρ1 e1 i d v k1 k2=>?_) ?_ hK
   ·by_cases hi:i<(xs.map (vd f)).length
    ·rw[x0w hi]at k1
     rw[x0w (by rw[<- hlen];exact hi)]at k2
     obtain⟨v',hv',rv⟩:=hrep.get k1
     rw[k2]at hv'
     cases hv'
     exact bi.of_pure rv
    ·rw[x0y (by omega)]at k1
     rw[x0y (by omega),<- hlen]at k2
     cases hj:i-(xs.map (vd f)).length with
     | zero =>
      rw[hj]at k1 k2
      simp at k1 k2
      subst k1;subst k2
      refine⟨a',us,rfl,⟨r1.1,fun i d u e2 e3=>?_⟩,c1⟩
      cases i with
      | zero =>
       have e4:=r1.2 0 _ u rfl e3
       simp at e2
       subst e2
       simp only[aD]at e4 ⊢
       rw[show(10015:Nat)=aB from rfl,e1]
       exact e4
      | succ i=>simp at e2
     | succ j =>
      rw[hj]at k1 k2
      simp only[List.getElem?_cons_succ]at k1 k2
      exact bi.of_pure ((r2.2 j d v k1 k2).pure (hcs d (x0d k1)))
   ·simp only[execOp,ho,resolve,hv,Deferred.ofValue,Sem.run_bind,Sem.run_pure,Result.andThen_ok,invoke]
    congr 2
    rw[x1r]
    apply Array.ext'
    simp
  ·exact hr.elim
 ·exact hr.elim
end
end Go.Gv

namespace Go.Gv
open Go.RowKit
section
variable{P:Program}{F:Fid}{C:Nat->List D->D->List D->Prop}{nt:Nat}{S:Nat->Prop}{L:Nat->Option Loc}{w0:World}{M0:Mem}{f:Nat->D}{M M':Mem}{a:Act}{w w':World}{o:Oper}{d:D}{Q:Exit->Act->World->Prop}{ρ ρ':Pa->Loc}{ω ω':Nat->Option Pa}{New:Nat->Prop}{K:List (Nat×D)->List (Nat×Bool)->Prop}
theorem Own.know(h:Own F L New f M a w ρ ω){s:Nat}(hs:s<10000){v:Value}(hv:a.tmps[s]? = some v)(r:bi F M ρ d v)(hB:isB d=false):Own F L New (eff [(s,d)] [] f) M a w ρ ω:=by
 have key:∀t,t≠s->eff [(s,d)] [] f t=f t:=fun t ht=>by
  have e1:(t==s)=false:=by simpa using ht
  simp[eff,x0l,e1,aN]
 refine h.step (ks:=[]) (fun p hp=>absurd rfl hp) (Mem.le_refl _) (x0r _) (fun t ht=>?_) (fun c hc=>.inl (.inr ⟨key c (by omega),fun p _=>⟨rfl,fun e=>⟨e,rfl⟩⟩⟩)) (fun k p e=>.inl ⟨p,e⟩) h.apart (fun c l hc hl hB'=>⟨rfl,?_⟩)
 ·by_cases e:t=s
  ·subst e
   exact .inr (.inr ⟨v,hv,by rw[aV (d:=d) (by simp)];exact r⟩)
  ·exact .inl (.inr ⟨key t e,rfl,rfl⟩)
 ·rw[key c (by omega)]at hB';exact hB'
theorem SR.know(h:SR F nt S L w0 M0 f M a w){s:Nat}(ho:Own F L (fun k=>S k\/w0.heap.size<=k) (eff [(s,d)] [] f) M a w ρ ω):SR F nt S L w0 M0 (eff [(s,d)] [] f) M a w :=
 ⟨h.hnt,h.size,h.defers,h.ch,h.holds,h.ext,h.fresh,ρ,ω,ho⟩
theorem SR.same{g:Nat->D}(h:SR F nt S L w0 M0 f M a w)(e:g=f):SR F nt S L w0 M0 g M a w:=by rw[e];exact h
end
end Go.Gv

namespace Go.Gv
open Go.RowKit
section
variable{P:Program}{F:Fid}{C:Nat->List D->D->List D->Prop}{nt:Nat}{S:Nat->Prop}{L:Nat->Option Loc}{w0:World}{M0:Mem}{f:Nat->D}{M M':Mem}{a:Act}{w w':World}{o:Oper}{d:D}{Q:Exit->Act->World->Prop}{ρ ρ':Pa->Loc}{ω ω':Nat->Option Pa}{New:Nat->Prop}{K:List (Nat×D)->List (Nat×Bool)->Prop}
end
end Go.Gv

namespace Go.Gv
open Go.RowKit
abbrev Env:=List (Nat×D)
def ae:Env->Nat->D
 | [],_=>.any
 | (s,d)::r,t=>if s=t then d else ae r t
def ef(ks:List (Nat×Bool))(e:Env):Env:=if ks=[] then e else e.map fun p=>(p.1,if aN ks p.2 then .any else p.2)
theorem yL(ws:List (Nat×D))(e:Env)(t:Nat):ae (ws++e) t=match ws.lookup t with
  | some d=>d
  | none=>ae e t:=by
 induction ws with
 | nil=>rfl
 | cons p ws ih =>
  obtain⟨s,d⟩:=p
  simp only[x1K,ae,x0l]
  by_cases h:s=t
  ·subst h;simp
  ·have h1:(t==s)=false:=by simp;exact fun e=>h e.symm
   rw[if_neg h,h1]
   exact ih
theorem wr(ks:List (Nat×Bool)):∀(e:Env) (t:Nat),ae (ef ks e) t=if aN ks (ae e t) then .any else ae e t:=by
 intro e t
 unfold ef
 by_cases hk:ks=[]
 ·subst hk;simp[l9]
 ·rw[if_neg hk]
  induction e with
  | nil =>
   show D.any=if aN ks D.any=true then D.any else D.any
   by_cases hm:aN ks D.any=true
   ·rw[if_pos hm]
   ·rw[if_neg hm]
  | cons p e ih =>
   obtain⟨s,d⟩:=p
   by_cases h:s=t
   ·simp[ae,h]
   ·have h1:ae ((s,d)::e) t=ae e t:=by simp[ae,h]
    rw[h1,<- ih]
    simp[ae,h]
theorem jk(ws:List (Nat×D))(ks:List (Nat×Bool))(e:Env):ae (ws++ef ks e)=eff ws ks (ae e):=by
 funext t
 rw[yL]
 unfold eff
 cases List.lookup t ws with
 | some d=>rfl
 | none=>exact wr ks e t
def ip(e:Env)(dst:Option Nat)(K:Env->Prop):Prop :=
 match dst with
 | none=>K e
 | some t=>K ((t,.tup [])::e)
def tc(C:Nat->List D->D->List D->Prop)(dst:Option Nat)(K:Env->Prop)(e:Env)(op:NOp):Prop:=aL C (ae e) dst (fun ws ks=>K (ws++ef ks e)) op
def iU(C:Nat->List D->D->List D->Prop)(K:Env->Prop):List az->Env->Prop
 | [],e=>K e
 | o::os,e=>match o.guard with
  | none=>tc C o.dst (iU C K os) e o.op
  | some (s,want)=>match ae e s with
   | .bool b=>(b=want->tc C o.dst (iU C K os) ((s,.bool want)::e) o.op)/\(b=!want->ip ((s,.bool !want)::e) o.dst (iU C K os))
   | .tup []=>ip e o.dst (iU C K os)
   | _=>False
section
variable{P:Program}{F:Fid}{C:Nat->List D->D->List D->Prop}{nt:Nat}{S:Nat->Prop}{L:Nat->Option Loc}{w0:World}{M0:Mem}{f:Nat->D}{M:Mem}{a:Act}{w:World}{o:Oper}{d:D}{Q:Exit->Act->World->Prop}{ρ:Pa->Loc}{ω:Nat->Option Pa}{New:Nat->Prop}{K:List (Nat×D)->List (Nat×Bool)->Prop}
def pM(P:Program)(F:Fid):NOp->Op->Bool
 | .asg x,.move y=>am F x y
 | .asg x,.assign y=>am F x y
 | .frz x,.move y=>am F x y
 | .frz x,.assign y=>am F x y
 | .ldQ _ x,.load t x'=>tyS P t 1 false&&am F x x'
 | .appQ _ sz by_ x y,.call { callee:=.builtin .append,args:=⟨[x',y']⟩,argTypes:=⟨[t,t']⟩ }=>t==t'&&uz P t sz by_&&am F x x'&&am F y y'
 | .cpy sz x y,.call { callee:=.builtin .copy,args:=⟨[x',y']⟩,argTypes:=⟨[t,_]⟩ }=>pn P t sz&&am F x x'&&am F y y'
 | .stP x y,.store t x' y'=>iT P t 1&&am F x x'&&am F y y'
 | .stF n x y,.store t x' y'=>iT P t n&&am F x x'&&am F y y'
 | .callY _ x xs,.call { callee:=.value y,args:=ys,argTypes:=_ }=>am F x y&&bT F xs ys.toList
 | .nilo _,.move y=>am F (.c .nils) y
 | .nilo _,.assign y=>am F (.c .nils) y
 | .box _ x,.box _ x'=>am F x x'
 | .alc zs,.alloc t=>zeroOk P t zs
 | .bls sz len zs _ ps,.buildSlice t len' ps'=>len==len'&&blsOk P F t sz len zs ps ps'.toList
 | .mks sz by_ zs n c,.makeSlice t n' c'=>mksOk P t sz by_ zs&&am F n n'&&am F c c'
 | .call g xs _,.call { callee:=.value (.func fi),args:=ys,argTypes:=_ }=>F g==some fi&&bT F xs ys.toList
 | .callF g xs,.call { callee:=.value (.func fi),args:=ys,argTypes:=_ }=>F g==some fi&&bT F xs ys.toList
 | .callN g x xs,.call { callee:=.value (.func fi),args:=⟨y::ys⟩,argTypes:=_ }=>F g==some fi&&am F x y&&bT F xs ys
 | .callE g x xs,.call { callee:=.value (.func fi),args:=⟨y::ys⟩,argTypes:=_ }=>F g==some fi&&am F x y&&bT F xs ys
 | .callA g xs,.call { callee:=.value (.func fi),args:=ys,argTypes:=_ }=>F g==some fi&&bT F xs ys.toList
 | .callL g x xs,.call { callee:=.value (.func fi),args:=⟨y::ys⟩,argTypes:=_ }=>F g==some fi&&am F x y&&bT F xs ys
 | .clr zs x,.call { callee:=.builtin .clear,args:=⟨[y]⟩,argTypes:=⟨[t]⟩ }=>rA P t zs&&am F x y
 | .callv x xs,.call { callee:=.value x',args:=ys,argTypes:=_ }=>am F x x'&&bT F xs ys.toList
 | .st n _ x v,.store t x' v'=>iT P t n&&am F x x'&&am F v v'
 | .app sz by_ _ x y,.call { callee:=.builtin .append,args:=⟨[x',y']⟩,argTypes:=⟨[t,t']⟩ }=>t==t'&&uz P t sz by_&&am F x x'&&am F y y'
 | .mkm _ _,.makeMap _ none=>true
 | .mpu sh kt et z m x v,.mapUpdate t m' x' v'=>mapOk F t kt et sh z&&am F m m'&&am F x x'&&am F v v'
 | .dead,_=>true
 | p,q=>sv P F p q
theorem nw{t:Option Nat}(hK:dJ t K d):∀a' w',b9 F nt S L w0 M0 f t d a' w'->PostX F nt S L w0 M0 f K a' w':=by
 rintro a' w' ⟨M',h⟩
 cases t with
 | none=>exact⟨[],[],M',hK,by rw[kV];exact h⟩
 | some t=>exact⟨_,_,M',hK,h⟩
theorem yY(hl:laidOutB F.P=true)(hP:P=F.P)(h:SR F nt S L w0 M0 f M a w){n:NOp}{q:Op}(hp:b8 nt f o.dst)(ho:o.op=q)(hk:sv P F n q=true)(hr:res f (·=d) n):o.wp P a w (b9 F nt S L w0 M0 f o.dst d) Q:=by
 unfold sv at hk
 split at hk<;>(try simp only[x0a,x0q]at hk)
 ·exact vo h hp (.inl ho) hk hr
 ·exact vo h hp (.inr ho) hk hr
 ·exact CU h hp ho hk hr
 ·exact At h hp ho hk.1.1 hk.1.2 hk.2 hr
 ·obtain⟨⟨rfl,h1⟩,h2⟩:=hk;exact CM h hp ho h1 h2 hr
 ·obtain⟨rfl,h1⟩:=hk;exact Gh h hp ho h1 hr
 ·exact An h hp ho hk.2 hk.1 hr
 ·exact Aq h hp ho hk.1.2 hk.2 hk.1.1 hr
 ·exact Ar h hp ho hk.1.2 hk.2 hk.1.1 hr
 ·obtain⟨rfl,h1⟩:=hk;exact CQ h hp ho h1 hr
 ·exact CR h hp ho hk.2 hk.1 hr
 ·exact Ap h hp ho hk.1.2 hk.2 hk.1.1 hr
 ·exact Ao h hp ho hk.1.2 hk.2 hk.1.1 hr
 ·exact Gd h hp ho hk.2 hk.1 hr
 ·exact snd_boxF h hp ho hk hr
 ·obtain⟨rfl,h1⟩:=hk;exact Al h hp ho h1 hr
 ·obtain⟨rfl,h1⟩:=hk;exact Am h hp ho h1 hr
 ·exact CN h hp ho hk hr
 ·exact CS h hp ho hk.2 hk.1 hr
 ·exact As h hp ho hk.2 hk.1 hr
 ·exact Ge h hp ho hk.1.2 hk.2 hk.1.1 hr
 ·exact CT h hp ho hk.1.2 hk.2 hk.1.1 hr
 ·exact CV h hp ho hk.1.1.2 hk.1.2 hk.2 hk.1.1.1 hr
 ·exact Gf h hp ho hk.1 hk.2 hr
 ·exact Gg h hp ho hk.1 hk.2 hr
 ·obtain⟨⟨⟨rfl,h1⟩,h2⟩,h3⟩:=hk;exact CL h hp ho h2 h3 h1 hr
 ·exact wX h hp ho hk.1.1.1 hk.1.1.2 hk.1.2 hk.2 hr
 ·exact xd h hp ho hk.1.1.1 hk.1.1.2 hk.1.2 hk.2 hr
 ·obtain⟨⟨⟨rfl,h1⟩,h2⟩,h3⟩:=hk;exact snd_mpl hl h hp ho h2 h3 h1 hP hr
 ·cases hk
theorem xK{t q sz by_:Nat}{x y:Opd}(h:aL C f (some t) K (.appQ q sz by_ x y)):aL C f (some t) K (.app sz by_ false x y):=by
 simp only[aL]at h ⊢
 split at h
 ·rename_i c i o' k n ex
  obtain⟨rfl,h⟩:=h
  obtain⟨rows,bs,⟨h1,h2,h⟩,hg⟩:=dT h
  refine hg _ ?_
  subst h1
  simp only[ex]
  split at h
  ·rename_i sz0 es0 hf
   obtain⟨row0,h3,es,h4,h5,h6,h7⟩:=h
   refine⟨rfl,h2,rfl,?_⟩
   first|(rw[hf])|skip
   exact⟨row0,h3,es,h4,h5,h6,h7⟩
  ·exact h.elim
 ·exact h.elim
theorem Fg{dst:Option Nat}{q:Nat}{x:Opd}(h:aL C f dst K (.ldQ q x)):aL C f dst K (.ld 1 false x):=by
 simp only[aL,res]at h ⊢
 split at h
 ·rename_i c i off ex
  obtain⟨rfl,h⟩:=h
  split at h
  ·rename_i sz es hf
   obtain⟨r,h1,d,h2,h3⟩:=h
   have hl:=(x0b.1 h2).1
   have gp:aY f (.r c)=some (sz,es):=by simp only[aY,hf]
   simp only[ex,gp]
   refine⟨r,h1,by omega,?_⟩
   have:(r.drop off).headD .any=d:=by
    rw[List.headD_eq_head?_getD,List.head?_drop,h2];rfl
   rw[this]
   exact h3
  ·exact h.elim
 ·exact h.elim
theorem tl{dst:Option Nat}{xs:List Opd}{g:Nat}(h0:∀x∈xs,isV (vd f x)=true)(hc:C g (xs.map (vd f)) d [])(hK:dJ dst K d):(∀x∈xs,bW f (vd f x))/\∃d,C g (xs.map (dpv f)) d []/\(isF d=true\/(xs.all fun x=>isV (vd f x))=true)/\dJ dst K d:=by
 have e:xs.map (dpv f)=xs.map (vd f):=x0i fun x hx=>(iz (h0 x hx)).1
 exact⟨fun x hx=>(iz (h0 x hx)).2,d,by rw[e];exact hc,.inr (x0g.2 h0),hK⟩
def NoL(L:Nat->Option Loc):Prop:=∀t i,i<15->L (rt t i)=none
theorem FY(hC:bU P F C)(hL:NoL L)(h:SR F nt S L w0 M0 f M a w){n:NOp}{q:Op}(hd:∀t,o.dst=some t->t<nt)(ho:o.op=q)(hk:pM P F n q=true)(hr:aL C f o.dst K n):o.wp P a w (PostX F nt S L w0 M0 f K) Q:=by
 have hp:b8 nt f o.dst:=by
  unfold b8
  split
  ·trivial
  ·rename_i t e;exact hd t e
 unfold pM at hk
 have dst:∀{n:NOp},aL C f none K n->(∀x,n≠.asg x)->(∀x,n≠.nilo x)->True:=fun _ _ _=>trivial
 split at hk<;>(try simp only[x0a,x0q]at hk)
 ·cases hdst:o.dst with
  | none=>rw[hdst]at hr;exact hr.elim
  | some t=>rw[hdst]at hr;exact vm h hdst (hd t hdst) (hL t 0 (by decide)) (.inl ho) hk hr
 ·cases hdst:o.dst with
  | none=>rw[hdst]at hr;exact hr.elim
  | some t=>rw[hdst]at hr;exact vm h hdst (hd t hdst) (hL t 0 (by decide)) (.inr ho) hk hr
 ·simp only[aL]at hr
  cases hdst:o.dst with
  | none=>rw[hdst]at hr;exact hr.elim
  | some t=>rw[hdst]at hr;exact vn h hdst (hd t hdst) (.inl ho) hk hr
 ·simp only[aL]at hr
  cases hdst:o.dst with
  | none=>rw[hdst]at hr;exact hr.elim
  | some t=>rw[hdst]at hr;exact vn h hdst (hd t hdst) (.inr ho) hk hr
 ·have hr':res f (dJ o.dst K) (.ld 1 false _):=Fg hr
  obtain⟨d,h1,h2⟩:=qT hr'
  exact Oper.wp_mono (nw h1) (yY (n:=.ld 1 false _) hC.laid hC.prog h hp ho (by simp only[sv,x0a];exact hk) (h2 _ rfl))
 ·obtain⟨⟨⟨rfl,h1⟩,h2⟩,h3⟩:=hk
  cases hdst:o.dst with
  | none=>rw[hdst]at hr;exact hr.elim
  | some t=>rw[hdst]at hr;exact vk h hdst (hd t hdst) (hL t 0 (by decide)) ho rfl h2 h3 h1 (xK hr)
 ·simp only[aL]at hr
  cases hdst:o.dst with
  | none=>rw[hdst]at hr;exact hr.elim
  | some t=>rw[hdst]at hr;exact CP h hdst (hd t hdst) ho hk.1.2 hk.2 hk.1.1 hr
 ·exact CX h ho hk.1.2 hk.2 hk.1.1 hr
 ·exact CW h ho hk.1.2 hk.2 hk.1.1 hr
 ·simp only[aL]at hr
  exact xa hC h hd ho hk.1 hk.2 hr
 ·cases hdst:o.dst with
  | none=>rw[hdst]at hr;exact hr.elim
  | some t=>rw[hdst]at hr;exact sU h hdst (hd t hdst) (hL t 0 (by decide)) (.inl ho) hk hr
 ·cases hdst:o.dst with
  | none=>rw[hdst]at hr;exact hr.elim
  | some t=>rw[hdst]at hr;exact sU h hdst (hd t hdst) (hL t 0 (by decide)) (.inr ho) hk hr
 ·cases hdst:o.dst with
  | none=>rw[hdst]at hr;exact hr.elim
  | some t=>rw[hdst]at hr;exact snd_box h hdst (hd t hdst) (hL t 0 (by decide)) ho hk hr
 ·cases hdst:o.dst with
  | none=>rw[hdst]at hr;exact hr.elim
  | some t=>rw[hdst]at hr;exact snd_alc h hdst (hd t hdst) (hL t 0 (by decide)) ho hk hr
 ·obtain⟨rfl,hk⟩:=hk
  cases hdst:o.dst with
  | none=>rw[hdst]at hr;exact hr.elim
  | some t=>rw[hdst]at hr;exact snd_bls h hdst (hd t hdst) (hL t 0 (by decide)) ho hk hr
 ·cases hdst:o.dst with
  | none=>rw[hdst]at hr;exact hr.elim
  | some t=>rw[hdst]at hr;exact snd_mks h hdst (hd t hdst) (hL t 0 (by decide)) ho hk.1.2 hk.2 hk.1.1 hr
 ·exact sT hC h hp ho hk.2 hk.1 hr
 ·simp only[aL]at hr
  cases hdst:o.dst with
  | none=>rw[hdst]at hr;exact hr.2.elim
  | some t=>rw[hdst]at hr;exact w7 hC h hdst (hd t hdst) (hL t 0 (by decide)) ho hk.2 hk.1 hr
 ·simp only[aL]at hr
  exact w9 hC h hd ho hk.1.2 hk.2 hk.1.1 hr
 ·simp only[aL]at hr
  cases hdst:o.dst with
  | none=>rw[hdst]at hr;exact hr.elim
  | some t=>rw[hdst]at hr;exact wZ hC h hdst (hd t hdst) (hL t 0 (by decide)) ho hk.1.2 hk.2 hk.1.1 hr
 ·simp only[aL]at hr
  obtain⟨h0,hr⟩:=hr
  rcases hr with ⟨d,hc,hK⟩|hr
  ·exact sT hC h hp ho hk.2 hk.1 (tl h0 hc hK)
  ·cases hdst:o.dst with
   | none=>rw[hdst]at hr;exact hr.elim
   | some t=>rw[hdst]at hr;exact wY hC h hL hdst (hd t hdst) ho hk.2 hk.1 ⟨h0,hr⟩
 ·simp only[aL]at hr
  exact w8 hC h hd ho hk.1.2 hk.2 hk.1.1 hr
 ·simp only[aL]at hr
  exact CO h hd ho hk.2 hk.1 hr
 ·exact xb hC h hp ho hk.1 hk.2 hr
 ·have hdst:o.dst=none:=hr.1
  exact Au h hdst ho hk.1.2 hk.2 hk.1.1 (by rw[hdst]at hr;exact hr)
 ·obtain⟨⟨⟨rfl,h1⟩,h2⟩,h3⟩:=hk
  cases hdst:o.dst with
  | none=>rw[hdst]at hr;exact hr.elim
  | some t=>rw[hdst]at hr;exact vk h hdst (hd t hdst) (hL t 0 (by decide)) ho rfl h2 h3 h1 hr
 ·cases hdst:o.dst with
  | none=>rw[hdst]at hr;exact hr.elim
  | some t=>rw[hdst]at hr;exact snd_mkm h hdst (hd t hdst) (hL t 0 (by decide)) ho hr
 ·have hdst:o.dst=none:=hr.1
  exact snd_mpu hC.laid h hdst ho hk.1.1.2 hk.1.2 hk.2 hk.1.1.1 hC.prog (by rw[hdst]at hr;exact hr)
 ·exact hr.elim
 ·have hr':res f (dJ o.dst K) n:=by
   clear dst
   cases n<;>first|exact hr|(simp[sv]at hk)
  obtain⟨d,h1,h2⟩:=qT hr'
  exact Oper.wp_mono (nw h1) (yY hC.laid hC.prog h hp ho hk (h2 _ rfl))
def DF(nt:Nat):Option Nat->Bool
 | none=>true
 | some t=>decide (t<nt)
def qA(ops:Array Oper):Option (Nat×Bool)->Option (Nat×Bool)->Bool
 | none,none=>true
 | some (j,b),some (s,b')=>b==b'&&decide (s<10000)&&(match ops[j]? with
  | some o=>o.dst==some s
  | none=>false)
 | _,_=>false
def pK(P:Program)(F:Fid)(nt:Nat)(ops:Array Oper)(n:az)(o:Oper):Bool :=
 n.dst==o.dst&&DF nt n.dst&&qA ops o.guard n.guard&&pM P F n.op o.op
theorem uu{ops:Array Oper}{tmps:Array Value}{j s:Nat}{b:Bool}{o:Oper}(h1:ops[j]? = some o)(h2:o.dst=some s)(h3:tmps[s]? = some (.bool b)):yielded ops tmps j=some b:=by
 simp[yielded,h1,h2,h3]
theorem tf{ops:Array Oper}{tmps:Array Value}{j s:Nat}{o:Oper}(h1:ops[j]? = some o)(h2:o.dst=some s){vs:Array Value}(h3:tmps[s]? = some (.tuple vs)):yielded ops tmps j=none:=by
 simp[yielded,h1,h2,h3]
def Skp(want:Bool)(d:D):Prop:=d=.bool (!want)\/d=.tup []
theorem AL{ops:Array Oper}{n:az}{o:Oper}(h:qA ops o.guard n.guard=true){f:Nat->D}{M:Mem}{a:Act}{w:World}(hs:SR F nt S L w0 M0 f M a w) :
  (n.guard=none->Region.wanted o (yielded ops a.tmps)=true) /\
  (∀s want b,n.guard=some (s,want)->f s=.bool b->Region.wanted o (yielded ops a.tmps)=(b==want)) /\
  (∀s want,n.guard=some (s,want)->f s=.tup []->Region.wanted o (yielded ops a.tmps)=false):=by
 unfold qA at h
 split at h
 ·rename_i e1 e2
  exact⟨fun _=>by simp[Region.wanted,e1],fun s want b e3=>(by rw[e2]at e3;cases e3),fun s want e3=>(by rw[e2]at e3;cases e3)⟩
 ·rename_i j b s b' e1 e2
  simp only[x0a,x0q,x0c]at h
  obtain⟨⟨rfl,hs10⟩,h⟩:=h
  split at h
  ·rename_i o' ho'
   simp only[x0q]at h
   obtain⟨ρ,ω,hO⟩:=hs.own
   refine⟨fun e3=>(by rw[e2]at e3;cases e3),fun s1 want b1 e3 e4=>?_,fun s1 want e3 e4=>?_⟩
   ·rw[e2]at e3
    cases e3
    rcases hO.slots s hs10 with h5|⟨v,h5,h6⟩
    ·rw[e4]at h5;cases h5
    ·rw[e4]at h6
     simp only[bi,aD,af]at h6
     subst h6
     simp[Region.wanted,e1,uu ho' h h5]
   ·rw[e2]at e3
    cases e3
    rcases hO.slots s hs10 with h5|⟨v,h5,h6⟩
    ·rw[e4]at h5;cases h5
    ·rw[e4]at h6
     simp only[bi,aD,af]at h6
     obtain⟨vs,rfl,_⟩:=h6
     simp[Region.wanted,e1,tf ho' h h5]
  ·cases h
 ·cases h
theorem rq{e:Env}{s:Nat}{b:Bool}(h:ae e s=.bool b):ae ((s,.bool b)::e)=ae e:=by
 funext t
 simp only[ae]
 by_cases ht:s=t
 ·subst ht;rw[if_pos rfl,h]
 ·rw[if_neg ht]
def iW(C:Nat->List D->D->List D->Prop)(n:az)(f:Nat->D)(x:Option (List (Nat×D)×List (Nat×Bool))):Prop :=
 match x with
 | some (ws,ks)=>(∀s b,n.guard=some (s,b)->f s=.bool b)/\aL C f n.dst (fun ws' ks'=>ws'=ws/\ks'=ks) n.op
 | none=>∃s b,n.guard=some (s,b)/\Skp b (f s)
def oW(n:az):Option (List (Nat×D)×List (Nat×Bool))->(Nat->D)->(Nat->D)
 | some (ws,ks)=>eff ws ks
 | none=>match n.dst with
  | some t=>eff [(t,.tup [])] []
  | none=>fun f=>f
theorem Ej(hC:bU P F C)(hL:NoL L){ops:Array Oper}{n:az}(hk:pK P F nt ops n o=true)(h:SR F nt S L w0 M0 f M a w){x:Option (List (Nat×D)×List (Nat×Bool))}(hr:iW C n f x){R:Act->World->Prop}
  (hR:∀M' a' w',SR F nt S L w0 M0 (oW n x f) M' a' w'->R a' w') :
  if Region.wanted o (yielded ops a.tmps) then o.wp P a w R Q\/(o.asks P a w/\LetsOut Q) else R (a.put o.dst undef) w:=by
 unfold pK at hk
 simp only[x0a,x0q]at hk
 obtain⟨⟨⟨hd,hdo⟩,hgu⟩,hop⟩:=hk
 have hw:=AL hgu h
 have hdst:∀t,o.dst=some t->t<nt:=fun t e=>by
  rw[<- hd]at e
  rw[e]at hdo
  simpa[DF]using hdo
 cases x with
 | some y =>
  obtain⟨ws,ks⟩:=y
  obtain⟨h1,h2⟩:=hr
  have hwant:Region.wanted o (yielded ops a.tmps)=true:=by
   cases hg:n.guard with
   | none=>exact hw.1 hg
   | some p=>obtain⟨s,b⟩:=p;rw[hw.2.1 s b b hg (h1 s b hg)];simp
  rw[hwant,if_pos rfl]
  left
  rw[hd]at h2
  refine Oper.wp_mono ?_ (FY hC hL h hdst rfl hop h2)
  rintro a' w' ⟨ws',ks',M',⟨rfl,rfl⟩,h'⟩
  exact hR M' a' w' h'
 | none =>
  obtain⟨s,b,h1,h2⟩:=hr
  have hno:Region.wanted o (yielded ops a.tmps)=false:=by
   rcases h2 with h2|h2
   ·rw[hw.2.1 s b (!b) h1 h2];cases b<;>rfl
   ·exact hw.2.2 s b h1 h2
  rw[hno,if_neg Bool.false_ne_true]
  refine hR M _ w ?_
  unfold oW
  rw[hd]
  cases hdd:o.dst with
  | none=>exact h
  | some t=>exact h.put (hdst t hdd) (fun _ _ _=>by simp[bi,aD,af,aC,undef])
theorem xp{K:Env->Prop}{n:az}{ns:List az}{e:Env}(h:iU C K (n::ns) e):∃x e',iW C n (ae e) x/\ae e'=oW n x (ae e)/\iU C K ns e':=by
 have run:∀e1,ae e1=ae e->(∀s b,n.guard=some (s,b)->ae e s=.bool b)->tc C n.dst (iU C K ns) e1 n.op->∃x e',iW C n (ae e) x/\ae e'=oW n x (ae e)/\iU C K ns e':=by
  intro e1 he hg h1
  unfold tc at h1
  obtain⟨ws,ks,h2,h3⟩:=ox h1
  rw[he]at h3
  exact⟨some (ws,ks),_,⟨hg,h3 _ ⟨rfl,rfl⟩⟩,by rw[jk,he];rfl,h2⟩
 rw[iU]at h
 split at h
 ·rename_i hg
  exact run e rfl (fun s b e'=>(by rw[hg]at e';cases e')) h
 ·rename_i s want hg
  split at h
  ·rename_i b hb
   by_cases hbw:b=want
   ·subst hbw
    exact run _ (rq hb) (fun s' b' e'=>(by rw[hg]at e';cases e';exact hb)) (h.1 rfl)
   ·have hb':b=!want:=by cases b<;>cases want<;>simp_all
    have h1:=h.2 hb'
    rw[hb']at hb
    have he:=rq hb
    refine⟨none,?_⟩
    unfold ip at h1
    unfold oW
    split at h1
    ·rename_i hd
     exact⟨_,⟨s,want,hg,.inl hb⟩,by rw[hd];exact he,h1⟩
    ·rename_i t hd
     refine⟨_,⟨s,want,hg,.inl hb⟩,?_,h1⟩
     rw[hd]
     have:=jk [(t,.tup [])] [] ((s,.bool !want)::e)
     simp only[ef,if_true]at this
     rw[he]at this
     exact this
  ·rename_i hb
   refine⟨none,?_⟩
   unfold ip at h
   unfold oW
   split at h
   ·rename_i hd
    exact⟨_,⟨s,want,hg,.inr hb⟩,by rw[hd],h⟩
   ·rename_i t hd
    refine⟨_,⟨s,want,hg,.inr hb⟩,?_,h⟩
    rw[hd]
    have:=jk [(t,.tup [])] [] e
    simp only[ef,if_true]at this
    exact this
  ·exact h.elim
theorem xq(hC:bU P F C)(hL:NoL L){ops:Array Oper}{K:Env->Prop}(hQ:∀e M a w,SR F nt S L w0 M0 (ae e) M a w->K e->Q .normal a w)(ns:List az):∀(os:List Oper),ns.length=os.length->(∀p∈ns.zip os,pK P F nt ops p.1 p.2=true) ->
  ∀(e:Env) (M:Mem) (a:Act) (w:World),SR F nt S L w0 M0 (ae e) M a w->iU C K ns e->wpList P ops Q os a w:=by
 induction ns with
 | nil =>
  intro os hl _ e M a w h hr
  cases os with
  | nil=>exact hQ e M a w h hr
  | cons o os=>simp at hl
 | cons n ns ih =>
  intro os hl hk e M a w h hr
  cases os with
  | nil=>simp at hl
  | cons o os =>
   obtain⟨x,e',h1,h2,h3⟩:=xp hr
   rw[wpList]
   exact Ej hC hL (hk (n,o) (by simp)) h h1 (fun M' a' w' h'=>ih os (by simpa using hl) (fun p hp=>hk p (by simp[hp])) e' M' a' w' (by rw[h2];exact h') h3)
def mK(P:Program)(F:Fid)(nt:Nat)(ns:List az)(ops:Array Oper):Bool:=ns.length==ops.toList.length&&(ns.zip ops.toList).all fun p=>pK P F nt ops p.1 p.2
theorem sJ(hC:bU P F C)(hL:NoL L){ops:Array Oper}{ns:List az}(hk:mK P F nt ns ops=true){id:Nat}{K:Env->Prop}{e:Env}(h:SR F nt S L w0 M0 (ae e) M a w)(hr:iU C K ns e)(hQ:∀e M a w,SR F nt S L w0 M0 (ae e) M a w->K e->Q .normal a w) :
  (Code.region id ops false).wp P Q a w:=by
 simp only[mK,x0a,x0q,x0g]at hk
 exact wp_region_list (xq hC hL hQ ns ops.toList hk.1 hk.2 e M a w h hr)
end
end Go.Gv

namespace Go.Gv
open Go.RowKit
def o4:Option Opd->List Opd
 | some x=>[x]
 | none=>[]
def aj:NOp->List Opd
 | .mov x=>[x]
 | .asg x=>[x]
 | .frz x=>[x]
 | .stP x y=>[x,y]
 | .stF _ x y=>[x,y]
 | .mkY _ x xs=>x::xs
 | .callY _ x xs=>x::xs
 | .ldQ _ x=>[x]
 | .appQ _ _ _ x y=>[x,y]
 | .cpy _ x y=>[x,y]
 | .nilo _=>[]
 | .nck x=>[x]
 | .boxF x=>[x]
 | .blsF _ _ _ ps=>ps.map fun p=>p.2
 | .blsX _ _ _ ps=>ps.map fun p=>p.2
 | .pick c a b=>[c,a,b]
 | .bin _ x y=>[x,y]
 | .beq _ _ x y=>[x,y]
 | .un _ x=>[x]
 | .conv _ x=>[x]
 | .idxA _ _ _ x i=>[x,i]
 | .idxS x i=>[x,i]
 | .ext _ x=>[x]
 | .fad _ x=>[x]
 | .iadS _ x i=>[x,i]
 | .iadA _ _ x i=>[x,i]
 | .ld _ _ x=>[x]
 | .box _ x=>[x]
 | .alc _=>[]
 | .mkm _ _=>[]
 | .mpl _ _ _ _ _ m x=>[m,x]
 | .mpu _ _ _ _ m x v=>[m,x,v]
 | .bld _ ps=>ps.map fun p=>p.2.2
 | .bls _ _ _ _ ps=>ps.map fun p=>p.2
 | .mks _ _ _ n c=>[n,c]
 | .len x=>[x]
 | .lens x=>[x]
 | .call _ xs _=>xs
 | .callv x xs=>x::xs
 | .callF _ xs=>xs
 | .callN _ x xs=>x::xs
 | .callE _ x xs=>x::xs
 | .callL _ x xs=>x::xs
 | .callA _ xs=>xs
 | .clr _ x=>[x]
 | .mk _ xs=>xs
 | .slc _ x lo hi=>x::(o4 lo++o4 hi)
 | .mn x y=>[x,y]
 | .mx x y=>[x,y]
 | .add64 x y c=>[x,y,c]
 | .sub64 x y c=>[x,y,c]
 | .st _ _ a v=>[a,v]
 | .app _ _ _ x y=>[x,y]
 | .dead=>[]
section
variable{C:Nat->List D->D->List D->Prop}{f g:Nat->D}
def dH(f g:Nat->D)(d:D):Prop:=∀b,cT b true d=true->g b=f b
theorem gd(p:Pa):bQ p.root true p=true:=by cases p<;>simp[bQ,Pa.root]
theorem cZ{p:Pa}(h:g p.root=f p.root):aY g p=aY f p:=by
 cases p<;>simp only[aY,Pa.root]at h ⊢<;>rw[h]
theorem dH.ref{p:Pa}{k n:Nat}(h:dH f g (.ref p k n)):g p.root=f p.root:=h _ (by simp only[cT,aK];exact gd p)
theorem dH.adr{p:Pa}{i o:Nat}(h:dH f g (.adr p i o)):g p.root=f p.root:=h _ (by simp only[cT,aK];exact gd p)
theorem dH.ifa{T:Nat}{p:Pa}{i o:Nat}(h:dH f g (.ifa T p i o)):g p.root=f p.root:=h _ (by simp only[cT,aK];exact gd p)
theorem dH.mrf{b:Nat}(h:dH f g (.mrf b)):g b=f b:=h _ (by simp[cT,aK])
theorem eP{d:D}(h:∀b,aK b true d=true->g b=f b):dp1 g d=dp1 f d/\(aQ g d↔aQ f d):=by
 cases d<;>try exact⟨rfl,Iff.rfl⟩
 case ref p k n =>
  have e:=cZ (p:=p) (h _ (by simp only[aK];exact gd p))
  simp only[dp1,aQ,e,and_self]
 case adr p i off =>
  have e:=cZ (p:=p) (h _ (by simp only[aK];exact gd p))
  simp only[dp1,aQ,e,and_self]
theorem fT{b:Nat}{ds:List D}{d:D}(h:d∈ds)(hm:aK b true d=true):ds.any (aK b true)=true:=x0G.2 ⟨d,h,hm⟩
theorem x6{d:D}(h:isX d=false)(ha:dH f g d):dp g d=dp f d/\(bW g d↔bW f d):=by
 have e:∀f:Nat->D,dp f d=dp1 f d/\(bW f d↔aQ f d)/\∀b,cT b true d=aK b true d:=fun f=>by
  cases d<;>first|exact⟨rfl,Iff.rfl,fun _=>rfl⟩|(simp[isX]at h)
 obtain⟨e1,e2,e3⟩:=e f
 obtain⟨g1,g2,_⟩:=e g
 obtain⟨h1,h2⟩:=eP (f:=f) (g:=g) (d:=d) (fun b hb=>ha b (by rw[e3];exact hb))
 exact⟨by rw[g1,e1,h1],by rw[g2,e2];exact h2⟩
theorem nD{d:D}(h:dH f g d):dp g d=dp f d/\(bW g d↔bW f d):=by
 cases d
 case agx ds =>
  have e:∀d∈ds,dp1 g d=dp1 f d/\(aQ g d↔aQ f d):=fun d hd=>eP fun b hb=>h b (fT hd hb)
  simp only[dp,bW]
  exact⟨by rw[x0i fun d hd=>(e d hd).1],⟨fun x d hd=>(e d hd).2.1 (x d hd),fun x d hd=>(e d hd).2.2 (x d hd)⟩⟩
 case tpx ds =>
  have e:∀d∈ds,dp1 g d=dp1 f d/\(aQ g d↔aQ f d):=fun d hd=>eP fun b hb=>h b (fT hd hb)
  simp only[dp,bW]
  exact⟨by rw[x0i fun d hd=>(e d hd).1],⟨fun x d hd=>(e d hd).2.1 (x d hd),fun x d hd=>(e d hd).2.2 (x d hd)⟩⟩
 case ptx ds =>
  have e:∀d∈ds,dp1 g d=dp1 f d/\(aQ g d↔aQ f d):=fun d hd=>eP fun b hb=>h b (fT hd hb)
  simp only[dp,bW]
  exact⟨by rw[x0i fun d hd=>(e d hd).1],⟨fun x d hd=>(e d hd).2.1 (x d hd),fun x d hd=>(e d hd).2.2 (x d hd)⟩⟩
 case rfx n sz ds=>exact⟨rfl,Iff.rfl⟩
 case fny g ds cs=>exact⟨rfl,Iff.rfl⟩
 case fnx k ds =>
  have e:∀d∈ds,dp1 g d=dp1 f d/\(aQ g d↔aQ f d):=fun d hd=>eP fun b hb=>h b (fT hd hb)
  simp only[dp,bW]
  exact⟨by rw[x0i fun d hd=>(e d hd).1],⟨fun x d hd=>(e d hd).2.1 (x d hd),fun x d hd=>(e d hd).2.2 (x d hd)⟩⟩
 all_goals
  exact x6 rfl h
theorem mq{d:D}{K:D->List Nat->Prop}(h:∀b,aK b true d=true->g b=f b)(hr:dj f d K):dj g d K:=by
 unfold dj at hr ⊢
 split at hr
 ·rename_i b k n
  rw[h b (by simp[aK,bQ])]
  exact hr
 ·exact hr
theorem mr:∀{ds:List D} {K:List D->List Nat->Prop},(∀d∈ds,∀b,aK b true d=true->g b=f b)->iX f ds K->iX g ds K
 | [],K,_,hr=>hr
 | d::ds,K,h,hr=>by
  obtain⟨c,bs,h1,h2⟩:=lI hr
  obtain⟨cs,bs',h3,h4⟩:=lJ h1
  refine mq (h d (by simp)) (h2 _ (mr (fun d hd=>h d (by simp[hd])) (h4 _ h3)))
theorem ke{d:D}{ns:List Nat}{K:List D->List Nat->Prop}(h:dH f g d)(hr:fK f d ns K):fK g d ns K:=by
 unfold fK at hr ⊢
 split at hr
 ·exact hr
 ·exact⟨hr.1,mr (fun d hd b hb=>h b (fT hd hb)) hr.2⟩
 ·rename_i hne1 hne2
  refine⟨hr.1,mq (fun b hb=>h b ?_) hr.2⟩
  cases d<;>first|exact hb|(exact absurd rfl (hne2 _))|(simp[aK]at hb)
theorem li{sz:Nat}{ns:List Nat}:∀{ps:List (Nat×Opd)} {es:List (List D)} {bs:List Nat} {K:List (List D)->List Nat->Prop},(∀p∈ps,vd g p.2=vd f p.2/\dH f g (vd f p.2))->fA f sz ns ps es bs K->fA g sz ns ps es bs K
 | [],es,bs,K,_,hr=>hr
 | (i,x)::ps,es,bs,K,h,hr=>by
  obtain⟨h0,hr⟩:=hr
  obtain⟨e1,e2⟩:=h (i,x) (by simp)
  obtain⟨cs,b1,⟨h1,h1'⟩,h2⟩:=iY hr
  refine⟨h0,?_⟩
  simp only at e1 e2
  rw[e1]
  exact ke e2 (h2 _ ⟨h1,li (fun p hp=>h p (by simp[hp])) h1'⟩)
theorem ju{mv:Bool}{d:D}{sz:Nat}{K:List (List D)->List Nat->Prop}(h:dH f g d)(hr:fH f mv d sz K):fH g mv d sz K:=by
 unfold fH at hr ⊢
 split at hr
 ·exact hr
 ·exact hr
 ·rename_i p k n
  cases mv with
  | true =>
   obtain⟨h0,hr⟩:=hr
   refine⟨h0,?_⟩
   cases p with
   | r b=>simp only at hr ⊢;rw[show g b=f b from h.ref];exact hr
   | n b i o=>exact hr
  | false=>simp only at hr ⊢;rw[cZ h.ref];exact hr
 ·exact hr
theorem dQ{x:Option Opd}{n:Nat}{K:Nat->Prop}(h:∀y∈o4 x,vd g y=vd f y)(hr:eL f x n K):eL g x n K:=by
 unfold eL at hr ⊢
 split at hr
 ·exact hr
 ·rename_i y
  rw[h y (by simp[o4])]
  exact hr
theorem jd:∀{ps:List (Nat×Opd)} {es:List (List D)},(∀p∈ps,vd g p.2=vd f p.2)->gV g ps es=gV f ps es
 | [],_,_=>rfl
 | p::ps,es,h=>by
  simp only[gV]
  rw[h p (by simp)]
  exact jd fun q hq=>h q (by simp[hq])
theorem kO{sz len:Nat}{zs:List D}{ps:List (Nat×Opd)}(h:∀p∈ps,vd g p.2=vd f p.2):kh g sz len zs ps=kh f sz len zs ps:=by
 unfold kh
 rw[x0i (fun p hp=>by rw[h p hp])]
theorem wQ{o:NOp}{K:D->Prop}(hv:∀x∈aj o,vd g x=vd f x)(ha:∀x∈aj o,dH f g (vd f x))(hr:res f K o):res g K o:=by
 cases o with
 | ld n ag x =>
  have e:=hv x (by simp[aj]);have a:=ha x (by simp[aj])
  simp only[res,e]at hr ⊢
  split at hr
  ·rename_i ex;rw[ex]at a;rw[cZ a.adr];exact hr
  ·exact hr
  ·exact hr
  ·exact hr
 | iadS sz x i =>
  have e:=hv x (by simp[aj]);have a:=ha x (by simp[aj]);have e2:=hv i (by simp[aj])
  simp only[res,e,e2]at hr ⊢
  split at hr
  ·exact hr
  ·exact hr
  ·exact hr
  ·rename_i ex _;rw[ex]at a;rw[cZ a.ref];exact hr
  ·exact hr
 | slc sz x lo hi =>
  have e:=hv x (by simp[aj]);have a:=ha x (by simp[aj])
  have hlo:∀y∈o4 lo,vd g y=vd f y:=fun y hy=>hv y (by simp[aj,hy])
  have hhi:∀y∈o4 hi,vd g y=vd f y:=fun y hy=>hv y (by simp[aj,hy])
  simp only[res,e]at hr ⊢
  split at hr
  ·exact⟨hr.1,dQ hhi (kg hr.2 fun m h=>dQ hlo h)⟩
  ·exact dQ hhi (kg hr fun m h=>dQ hlo h)
  ·rename_i ex
   rw[ex]at a;rw[cZ a.ref]
   split at hr
   ·exact⟨hr.1,dQ hhi (kg hr.2 fun m h=>dQ hlo h)⟩
   ·exact hr
  ·exact hr
 | bld zs ps =>
  have e:∀p∈ps,vd g p.2.2=vd f p.2.2:=fun p hp=>hv _ (x0v.2 ⟨p,hp,rfl⟩)
  simp only[res]at hr ⊢
  obtain⟨h1,h2,h3⟩:=hr
  have e2:(ps.all fun p=>isV (vd g p.2.2))=(ps.all fun p=>isV (vd f p.2.2)):=by
   rw[x0z,x0g,x0g]
   exact⟨fun h p hp=>by rw[<- e p hp];exact h p hp,fun h p hp=>by rw[e p hp];exact h p hp⟩
  have m1:(ps.map fun p=>(p.1,p.2.1,vd g p.2.2))=ps.map fun p=>(p.1,p.2.1,vd f p.2.2):=x0i fun p hp=>by rw[e p hp]
  have m2:(ps.map fun p=>(p.1,p.2.1,b6 (vd g p.2.2)))=ps.map fun p=>(p.1,p.2.1,b6 (vd f p.2.2)):=x0i fun p hp=>by rw[e p hp]
  rw[e2,m1,m2]
  exact⟨fun p hp=>by rw[e p hp];exact h1 p hp,h2,h3⟩
 | mk k xs =>
  have e:∀x∈xs,vd g x=vd f x:=fun x hx=>hv x hx
  simp only[res]at hr ⊢
  obtain⟨h1,h2,h3⟩:=hr
  have e2:(xs.all fun x=>isV (vd g x))=(xs.all fun x=>isV (vd f x)):=by
   rw[x0z,x0g,x0g]
   exact⟨fun h p hp=>by rw[<- e p hp];exact h p hp,fun h p hp=>by rw[e p hp];exact h p hp⟩
  rw[e2,x0i e]
  exact⟨fun p hp=>by rw[e p hp];exact h1 p hp,h2,h3⟩
 | mkY k x0 xs =>
  have e0:=hv x0 (by simp[aj])
  have e:∀x∈xs,vd g x=vd f x:=fun x hx=>hv x (by simp[aj,hx])
  simp only[res,e0]at hr ⊢
  rw[x0i e]
  exact hr
 | pick c x y=>simp only[res,hv c (by simp[aj]),hv x (by simp[aj]),hv y (by simp[aj])]at hr ⊢;exact hr
 | add64 x y c=>simp only[res,hv c (by simp[aj]),hv x (by simp[aj]),hv y (by simp[aj])]at hr ⊢;exact hr
 | sub64 x y c=>simp only[res,hv c (by simp[aj]),hv x (by simp[aj]),hv y (by simp[aj])]at hr ⊢;exact hr
 | bin op x y=>simp only[res,hv x (by simp[aj]),hv y (by simp[aj])]at hr ⊢;exact hr
 | beq op ks x y=>simp only[res,hv x (by simp[aj]),hv y (by simp[aj])]at hr ⊢;exact hr
 | idxA l s g x i=>simp only[res,hv x (by simp[aj]),hv i (by simp[aj])]at hr ⊢;exact hr
 | idxS x i=>simp only[res,hv x (by simp[aj]),hv i (by simp[aj])]at hr ⊢;exact hr
 | iadA l s x i=>simp only[res,hv x (by simp[aj]),hv i (by simp[aj])]at hr ⊢;exact hr
 | mn x y=>simp only[res,hv x (by simp[aj]),hv y (by simp[aj])]at hr ⊢;exact hr
 | mx x y=>simp only[res,hv x (by simp[aj]),hv y (by simp[aj])]at hr ⊢;exact hr
 | mov x=>simp only[res,hv x (by simp[aj])]at hr ⊢;exact hr
 | nck x=>simp only[res,hv x (by simp[aj])]at hr ⊢;exact hr
 | un op x=>simp only[res,hv x (by simp[aj])]at hr ⊢;exact hr
 | conv k x=>simp only[res,hv x (by simp[aj])]at hr ⊢;exact hr
 | ext i x=>simp only[res,hv x (by simp[aj])]at hr ⊢;exact hr
 | fad i x=>simp only[res,hv x (by simp[aj])]at hr ⊢;exact hr
 | len x=>simp only[res,hv x (by simp[aj])]at hr ⊢;exact hr
 | boxF x=>simp only[res,hv x (by simp[aj])]at hr ⊢;exact hr
 | blsF sz len zs ps =>
  have e:∀p∈ps,vd g p.2=vd f p.2:=fun p hp=>hv _ (x0v.2 ⟨p,hp,rfl⟩)
  simp only[res]at hr ⊢
  rw[jd e]
  exact⟨fun p hp=>by rw[e p hp];exact hr.1 p hp,hr.2⟩
 | blsX sz len zs ps =>
  have e:∀p∈ps,vd g p.2=vd f p.2:=fun p hp=>hv _ (x0v.2 ⟨p,hp,rfl⟩)
  simp only[res]at hr ⊢
  rw[kO e]
  exact⟨hr.1,fun p hp=>by rw[e p hp];exact hr.2.1 p hp,hr.2.2⟩
 | lens x=>simp only[res,hv x (by simp[aj])]at hr ⊢;exact hr
 | mpl sh kt et ok z m x =>
  have e:=hv m (by simp[aj]);have a:=ha m (by simp[aj]);have e2:=hv x (by simp[aj])
  simp only[res,e,e2]at hr ⊢
  split at hr
  ·rename_i b ex
   rw[ex]at a
   rw[a.mrf]
   exact hr
  ·exact hr
 | _=>simp only[res]at hr
theorem ui{o:NOp}{dst:Option Nat}{K:List (Nat×D)->List (Nat×Bool)->Prop}(hv:∀x∈aj o,vd g x=vd f x)(ha:∀x∈aj o,dH f g (vd f x))(hr:aL C f dst K o):aL C g dst K o:=by
 cases o with
 | frz x =>
  have e:=hv x (by simp[aj]);have a:=ha x (by simp[aj])
  cases dst with
  | none=>exact hr
  | some t =>
   simp only[aL,e]at hr ⊢
   split at hr
   ·rename_i c k n ex
    rw[ex]at a
    have hl:=eP (d:=.ref (.r c) k n) (f:=f) (g:=g) (fun b hb=>a b (by simp only[cT];exact hb))
    rw[hl.1]
    exact⟨hl.2.2 hr.1,hr.2⟩
   ·exact hr
 | asg x =>
  have e:=hv x (by simp[aj]);have a:=ha x (by simp[aj])
  cases dst with
  | none=>exact hr
  | some t =>
   simp only[aL,e]at hr ⊢
   split at hr
   ·rename_i c k n ex
    rw[ex]at a
    rw[show g c=f c from a.ref]
    exact hr
   ·exact hr
 | ldQ q x =>
  have e:=hv x (by simp[aj]);have a:=ha x (by simp[aj])
  simp only[aL,e]at hr ⊢
  split at hr
  ·rename_i c i off ex
   rw[ex]at a
   rw[show g c=f c from a.adr]
   exact hr
  ·exact hr
 | appQ q sz by_ x y =>
  have e:=hv x (by simp[aj]);have a:=ha x (by simp[aj]);have e2:=hv y (by simp[aj]);have a2:=ha y (by simp[aj])
  cases dst with
  | none=>exact hr
  | some t =>
   simp only[aL,e,e2]at hr ⊢
   split at hr
   ·rename_i c i o k n ex
    rw[ex]at a
    obtain⟨h0,hr⟩:=hr
    obtain⟨rows,bs,⟨h1,h1',h2⟩,h3⟩:=dT hr
    refine⟨h0,ju a2 (h3 _ ⟨h1,h1',?_⟩)⟩
    rw[show g c=f c from a.ref]
    exact h2
   ·exact hr
 | cpy sz x y =>
  have e:=hv x (by simp[aj]);have a:=ha x (by simp[aj]);have e2:=hv y (by simp[aj]);have a2:=ha y (by simp[aj])
  cases dst with
  | none=>exact hr
  | some t =>
   simp only[aL,e,e2]at hr ⊢
   obtain⟨rows,bs,⟨h1,h1',h2⟩,h3⟩:=dT hr
   refine ju a2 (h3 _ ⟨h1,h1',?_⟩)
   split at h2
   ·rename_i c k n ex;rw[ex]at a;rw[show g c=f c from a.ref];exact h2
   ·exact h2
 | callY k x0 xs =>
  have e0:=hv x0 (by simp[aj]);have a0:=ha x0 (by simp[aj])
  have e:∀x∈xs,vd g x=vd f x:=fun x hx=>hv x (by simp[aj,hx])
  simp only[aL,e0]at hr ⊢
  split at hr
  ·rename_i g' b i o cs hvx
   rw[hvx]at a0
   have hb:g b=f b:=a0 b (by simp[cT,aK,bQ])
   rw[hb,x0i e]
   obtain⟨h1,h2,h3,h4,hr⟩:=hr
   refine⟨h1,h2,h3,h4,?_⟩
   split at hr
   ·exact⟨hr.1,fun x hx=>by rw[e x hx];exact hr.2.1 x hx,hr.2.2⟩
   ·exact hr.elim
  ·exact hr.elim
 | stF n x y =>
  have e:=hv x (by simp[aj]);have a:=ha x (by simp[aj]);have e2:=hv y (by simp[aj])
  simp only[aL,e2]at hr ⊢
  refine⟨hr.1,?_⟩
  have hr:=hr.2
  split at hr
  ·rename_i s
   simp only[vd]at e a
   rw[e]
   refine⟨hr.1,?_⟩
   have hr:=hr.2
   split at hr
   ·rename_i c i0 o0 ex
    rw[ex]at a
    rw[show g c=f c from a.adr]
    exact hr
   ·exact hr
  ·exact hr
 | stP x y =>
  have e:=hv x (by simp[aj]);have a:=ha x (by simp[aj]);have e2:=hv y (by simp[aj]);have a2:=ha y (by simp[aj])
  simp only[aL,e]at hr ⊢
  refine⟨hr.1,?_⟩
  have hr:=hr.2
  split at hr
  ·rename_i s
   simp only[vd]at e2 a2
   rw[e2]
   refine⟨hr.1,?_⟩
   have hr:=hr.2
   split at hr
   ·rename_i c i0 o0 ex
    rw[ex]at a2
    rw[show g c=f c from a2.adr]
    refine⟨hr.1,hr.2.1,?_⟩
    have hr:=hr.2.2
    split at hr
    ·refine⟨hr.1,?_⟩
     have hr:=hr.2
     split at hr
     ·rename_i b i1 o1 i off ex2
      rw[ex2]at a
      rw[show g b=f b from a.adr]
      exact hr
     ·exact hr
    ·exact hr
   ·exact hr
  ·exact hr
 | nilo sz=>exact hr
 | alc zs=>exact hr
 | mkm kt et=>exact hr
 | mpu sh kt et z m x v =>
  have e:=hv m (by simp[aj]);have a:=ha m (by simp[aj]);have e2:=hv x (by simp[aj]);have e3:=hv v (by simp[aj])
  simp only[aL,e,e2,e3]at hr ⊢
  refine⟨hr.1,?_⟩
  have hr:=hr.2
  split at hr
  ·rename_i b ex
   rw[ex]at a
   rw[a.mrf]
   exact hr
  ·exact hr
 | box ns x =>
  have e:=hv x (by simp[aj]);have a:=ha x (by simp[aj])
  cases dst with
  | none=>exact hr
  | some t=>simp only[aL,e]at hr ⊢;exact ke a hr
 | bls sz len zs ns ps =>
  cases dst with
  | none=>exact hr
  | some t=>simp only[aL]at hr ⊢;exact li (fun p hp=>⟨hv _ (x0v.2 ⟨p,hp,rfl⟩),ha _ (x0v.2 ⟨p,hp,rfl⟩)⟩) hr
 | mks sz by_ zs n c =>
  have e:=hv n (by simp[aj]);have e2:=hv c (by simp[aj])
  cases dst with
  | none=>exact hr
  | some t=>simp only[aL,e,e2]at hr ⊢;exact hr
 | st n ns x v =>
  have e:=hv x (by simp[aj]);have a:=ha x (by simp[aj]);have e2:=hv v (by simp[aj]);have a2:=ha v (by simp[aj])
  simp only[aL,e,e2]at hr ⊢
  obtain⟨h0,hr⟩:=hr
  refine⟨h0,?_⟩
  obtain⟨cs,bs,⟨h1,h2⟩,h3⟩:=iY hr
  refine ke a2 (h3 _ ⟨h1,?_⟩)
  split at h2
  ·rename_i b i off ex;rw[ex]at a;rw[show g b=f b from a.adr];exact h2
  ·rename_i b i0 o0 i off ex;rw[ex]at a;rw[show g b=f b from a.adr];exact h2
  ·exact h2
 | app sz by_ mv x y =>
  have e:=hv x (by simp[aj]);have a:=ha x (by simp[aj]);have e2:=hv y (by simp[aj]);have a2:=ha y (by simp[aj])
  cases dst with
  | none=>exact hr
  | some t =>
   simp only[aL,e,e2]at hr ⊢
   obtain⟨rows,bs,⟨h1,h2⟩,h3⟩:=dT hr
   refine ju a2 (h3 _ ⟨h1,?_⟩)
   split at h2
   ·exact h2
   ·rename_i c k n ex;rw[ex]at a;rw[show g c=f c from a.ref];exact h2
   ·rename_i c i o k n ex;rw[ex]at a;rw[show g c=f c from a.ref];exact h2
   ·exact h2
 | call k xs ms =>
  simp only[aL]at hr ⊢
  obtain⟨h0,d,h1,h2,h3⟩:=hr
  have e:∀x∈xs,dpv g x=dpv f x/\(bW g (vd g x)↔bW f (vd f x)):=fun x hx=>by
   have:=nD (ha x hx)
   unfold dpv
   rw[hv x hx]
   exact this
  refine⟨fun x hx=>(e x hx).2.2 (h0 x hx),d,by rw[x0i fun x hx=>(e x hx).1];exact h1,h2.imp id (fun h=>?_),h3⟩
  rw[x0g]at h ⊢
  exact fun x hx=>by rw[hv x hx];exact h x hx
 | callF k xs =>
  have e:∀x∈xs,dpv g x=dpv f x/\(bW g (vd g x)↔bW f (vd f x)):=fun x hx=>by
   have:=nD (ha x hx)
   unfold dpv
   rw[hv x hx]
   exact this
  simp only[aL]at hr ⊢
  rw[x0i fun x hx=>(e x hx).1]
  exact⟨fun x hx=>(e x hx).2.2 (hr.1 x hx),hr.2⟩
 | callN k x0 xs =>
  have e0:=hv x0 (by simp[aj]);have a0:=ha x0 (by simp[aj])
  have e:∀x∈xs,vd g x=vd f x:=fun x hx=>hv x (by simp[aj,hx])
  simp only[aL,e0]at hr ⊢
  split at hr
  ·rename_i b i o k n hvx
   rw[hvx]at a0
   have hb:g b=f b:=a0.ref
   rw[hb,x0i e]
   obtain⟨h1,hr⟩:=hr
   refine⟨h1,?_⟩
   split at hr
   ·obtain⟨row0,h2,sz,es,h3,h4,h5,h6⟩:=hr
    exact⟨row0,h2,sz,es,h3,h4,fun x hx=>by rw[e x hx];exact h5 x hx,h6⟩
   ·exact hr.elim
  ·exact hr.elim
 | callA k xs =>
  have e:∀x∈xs,vd g x=vd f x:=fun x hx=>hv x (by simp[aj,hx])
  simp only[aL]at hr ⊢
  rw[x0i e]
  exact⟨fun x hx=>by rw[e x hx];exact hr.1 x hx,hr.2⟩
 | callL k x0 xs =>
  have e0:=hv x0 (by simp[aj]);have a0:=ha x0 (by simp[aj])
  have e:∀x∈xs,vd g x=vd f x:=fun x hx=>hv x (by simp[aj,hx])
  simp only[aL,e0]at hr ⊢
  split at hr
  ·rename_i b i o hvx
   rw[hvx]at a0
   have hb:g b=f b:=a0.adr
   rw[hb,x0i e]
   obtain⟨h1,h2,hr⟩:=hr
   refine⟨h1,h2,?_⟩
   split at hr
   ·exact⟨hr.1,fun x hx=>by rw[e x hx];exact hr.2.1 x hx,hr.2.2⟩
   ·exact hr.elim
  ·exact hr.elim
 | clr zs x0 =>
  have e0:=hv x0 (by simp[aj]);have a0:=ha x0 (by simp[aj])
  simp only[aL,e0]at hr ⊢
  split at hr
  ·exact hr
  ·rename_i b k n hvx
   rw[hvx]at a0
   have hb:g b=f b:=a0.ref
   rw[hb]
   exact hr
  ·rename_i b i o k n hvx
   rw[hvx]at a0
   have hb:g b=f b:=a0.ref
   rw[hb]
   exact hr
  ·exact hr.elim
 | callE k x0 xs =>
  have e0:=hv x0 (by simp[aj]);have a0:=ha x0 (by simp[aj])
  have e:∀x∈xs,lK g x=lK f x/\∀b,mR g b x↔mR f b x:=fun x hx=>by
   have h1:=hv x (by simp[aj,hx])
   have h2:=ha x (by simp[aj,hx])
   unfold lK mR
   rw[h1]
   revert h2
   generalize vd f x=d
   intro h2
   cases d<;>first|exact⟨rfl,fun _=>Iff.rfl⟩|skip
   rename_i p k n
   cases p with
   | r c =>
    have hb:g c=f c:=h2.ref
    exact⟨by simp only[hb],fun _=>by simp only[hb]⟩
   | n c i o=>exact⟨rfl,fun _=>Iff.rfl⟩
  simp only[aL,e0]at hr ⊢
  split at hr
  ·split at hr
   ·rename_i p k n hvx
    rw[hvx]at a0
    have hb:g p.root=f p.root:=a0.ref
    have hd:cY g p=cY f p:=by
     cases p with
     | r c=>rfl
     | n c i o=>simp only[cY];rw[show g c=f c from hb]
    simp only[cZ hb,hd]
    rw[x0i fun x hx=>(e x hx).1]
    split at hr
    ·obtain⟨h1,h2,h3,h4,h5,h6⟩:=hr
     exact⟨h1,h2,h3,h4,fun x hx=>((e x hx).2 _).2 (h5 x hx),h6⟩
    ·exact hr.elim
   ·exact hr.elim
  ·exact hr.elim
 | callv x0 xs =>
  have e0:=hv x0 (by simp[aj]);have a0:=ha x0 (by simp[aj])
  have e:∀x∈xs,dpv g x=dpv f x/\(bW g (vd g x)↔bW f (vd f x)):=fun x hx=>by
   have:=nD (ha x (by simp[aj,hx]))
   unfold dpv
   rw[hv x (by simp[aj,hx])]
   exact this
  simp only[aL,e0]at hr ⊢
  split at hr
  ·obtain⟨h0,d,h1,h2,h3⟩:=hr
   refine⟨fun x hx=>(e x hx).2.2 (h0 x hx),d,by rw[x0i fun x hx=>(e x hx).1];exact h1,h2.imp id (fun h=>?_),h3⟩
   rw[x0g]at h ⊢
   exact fun x hx=>by rw[hv x (by simp[aj,hx])];exact h x hx
  ·rename_i k cs ex
   rw[ex]at a0
   obtain⟨h0,h0',d,h1,h2,h3⟩:=hr
   have ec:∀c∈cs,dp1 g c=dp1 f c/\(aQ g c↔aQ f c):=fun c hc=>eP fun b hb=>a0 b (fT hc hb)
   exact⟨fun x hx=>(e x hx).2.2 (h0 x hx),fun c hc=>(ec c hc).2.2 (h0' c hc),d,by rw[x0i fun x hx=>(e x hx).1,x0i fun c hc=>(ec c hc).1];exact h1,h2,h3⟩
  ·exact hr
 | _=>(simp only[aL]at hr ⊢;exact wQ hv ha hr)
end
end Go.Gv

namespace Go.Gv
open Go.RowKit
def aJ:D->List Nat
 | .ref p _ _=>[p.root]
 | .adr p _ _=>[p.root]
 | .ifa _ p _ _=>[p.root]
 | .mrf b=>[b]
 | _=>[]
def bC:D->List Nat
 | .agx ds=>ds.flatMap aJ
 | .tpx ds=>ds.flatMap aJ
 | .ptx ds=>ds.flatMap aJ
 | .rfx _ _ ds=>ds.flatMap aJ
 | .fnx _ ds=>ds.flatMap aJ
 | .fny _ ds cs=>ds.flatMap aJ++cs.flatMap aJ
 | d=>aJ d
theorem nW{b:Nat}{all:Bool}{p:Pa}(h:bQ b all p=true):b=p.root:=by
 cases p<;>simp[bQ,Pa.root]at h ⊢<;>simp_all
theorem mD{b:Nat}{all:Bool}{d:D}(h:aK b all d=true):b∈aJ d:=by
 cases d<;>simp only[aK,x0m]at h
 case ref p k n=>simp[aJ,nW h]
 case adr p i o=>simp[aJ,nW h]
 case ifa T p i o=>simp[aJ,nW h]
 case mrf c=>simp at h;simp[aJ,h.2]
theorem ku{b:Nat}{all:Bool}{d:D}(h:cT b all d=true):b∈bC d:=by
 have part:∀ds:List D,ds.any (aK b all)=true->b∈ds.flatMap aJ:=fun ds h=>by
  obtain⟨d,h1,h2⟩:=x0G.1 h
  exact List.mem_flatMap.2 ⟨d,h1,mD h2⟩
 cases d
 case agx ds=>exact part ds h
 case tpx ds=>exact part ds h
 case ptx ds=>exact part ds h
 case rfx n sz ds=>exact part ds h
 case fnx g ds=>exact part ds h
 case fny g ds cs =>
  simp only[cT,x0E]at h
  simp only[bC,x0p]
  rcases h with h|h
  ·exact .inl (part ds h)
  ·exact .inr (part cs h)
 all_goals (simp only[cT]at h;simp only[bC];exact mD h)
theorem l8(ks:List (Nat×Bool)):aN ks .any=false:=by
 simp[aN,cT,aK]
theorem nV{ks:List (Nat×Bool)}{d:D}(h:aN ks d=true):∃k∈ks,cT k.1 k.2 d=true:=by
 simpa[aN]using h
theorem iD{ws:List (Nat×D)}{k:Nat}{d:D}(h:ws.lookup k=some d):(k,d)∈ws:=by
 induction ws with
 | nil=>cases h
 | cons p ws ih =>
  obtain⟨s,x⟩:=p
  rw[x0l]at h
  cases e:k==s with
  | true=>rw[e]at h;simp at e h;subst e;subst h;simp
  | false=>rw[e]at h;simp[ih h]
theorem se{ws:List (Nat×D)}{k:Nat}(h:ws.lookup k=none):k∉ws.map (·.1):=by
 induction ws with
 | nil=>simp
 | cons p ws ih =>
  obtain⟨s,x⟩:=p
  rw[x0l]at h
  cases e:k==s with
  | true=>rw[e]at h;cases h
  | false=>rw[e]at h;simp at e;simp only[x0I,x0S,not_or];exact⟨e,ih h⟩
theorem gc{ws:List (Nat×D)}{k:Nat}(h:k∉ws.map (·.1)):ws.lookup k=none:=by
 refine sf fun d hd=>h (x0v.2 ⟨_,hd,rfl⟩)
structure Fam where
 n:Nat
 ws:Nat->List (Nat×D)
 ks:Nat->List (Nat×Bool)
 rd:Nat->List Nat
 mn:Nat->List Nat
 fr:Nat->List (Nat×Nat)
 bef:Nat->Nat->Bool
 f0:Nat->D
def Fam.W(A:Fam)(i:Nat):List Nat:=(A.ws i).map (·.1)
def Fam.E(A:Fam)(i:Nat):(Nat->D)->(Nat->D):=eff (A.ws i) (A.ks i)
def Fam.G(A:Fam)(l:Nat->Bool):Nat->(Nat->D)
 | 0=>A.f0
 | m+1=>if l m then A.E m (A.G l m) else A.G l m
def Fam.St(A:Fam)(m:Nat):Nat->D:=A.G (fun _=>true) m
def gk(m:Nat):D->Option (List (Option D))
 | .blk _ es=>some (es.map fun r=>r[m]?)
 | _=>none
def Fam.Pres(A:Fam)(i k m:Nat):Prop:=gk m (A.St (i+1) k)=gk m (A.St i k)
def Fam.Apart(A:Fam)(i j:Nat):Prop:=(∀k∈A.W i,k∉A.rd j/\k∉A.W j/\∀m,(k,m)∈A.fr j->A.Pres i k m)/\∀k∈A.ks i,k.1∉A.mn j
def Fam.Ind(A:Fam)(i j:Nat):Prop:=A.Apart i j/\A.Apart j i
structure Fam.Ok (A:Fam):Prop where
 kills:∀i,i<A.n->∀k∈A.ks i,k.1∈A.W i
 vals:∀i,i<A.n->∀p∈A.ws i,∀b all,cT b all p.2=true->b∈A.mn i\/b∈A.W i
 closed:∀i,i<A.n->∀k∈A.rd i,∀b all,cT b all (A.St i k)=true->b∈A.mn i
 fine:∀i,i<A.n->∀p∈A.fr i,p.1∉A.W i
 known:∀i,i<A.n->∀k∈A.rd i,A.St i k≠.any
 pairs:∀i j,i<j->j<A.n->A.bef j i=true\/A.Ind i j
section
variable{A:Fam}
theorem fo{ws:List (Nat×D)}{ks:List (Nat×Bool)}{f:Nat->D}{k:Nat}{d:D}(h:ws.lookup k=some d):eff ws ks f k=d:=aV h
theorem cS{ws:List (Nat×D)}{ks:List (Nat×Bool)}{f:Nat->D}{k:Nat}(h:ws.lookup k=none):eff ws ks f k=if aN ks (f k) then .any else f k:=by
 unfold eff;rw[h]
theorem Fam.Ok.noKill(h:A.Ok){i j:Nat}(hi:i<A.n)(hj:j<A.n)(hI:A.Apart j i){p:Nat×D}(hp:p∈A.ws i):aN (A.ks j) p.2=false:=by
 cases hm:aN (A.ks j) p.2 with
 | false=>rfl
 | true =>
  obtain⟨k,h1,h2⟩:=nV hm
  have h3:=h.kills j hj k h1
  have h5:=(hI.1 _ h3).2.1
  have h4:=hI.2 k h1
  rcases h.vals i hi p hp _ _ h2 with h6|h6
  ·exact absurd h6 h4
  ·exact absurd h6 h5
theorem Fam.Ok.comm(h:A.Ok){i j:Nat}(hi:i<A.n)(hj:j<A.n)(hI:A.Ind i j)(f:Nat->D):A.E i (A.E j f)=A.E j (A.E i f):=by
 funext k
 unfold Fam.E
 cases h1:(A.ws i).lookup k with
 | some d =>
  have hk:k∈A.W i:=x0v.2 ⟨_,iD h1,rfl⟩
  have h2:(A.ws j).lookup k=none:=gc (hI.1.1 k hk).2.1
  have h3:=h.noKill hi hj hI.2 (iD h1)
  rw[fo h1,cS h2,fo h1]
  simp only at h3
  rw[h3];rfl
 | none =>
  cases h2:(A.ws j).lookup k with
  | some d =>
   have h3:=h.noKill hj hi hI.1 (iD h2)
   rw[cS h1,fo h2,fo h2]
   simp only at h3
   rw[h3];rfl
  | none =>
   rw[cS h1,cS h2,cS h2,cS h1]
   cases e1:aN (A.ks i) (f k)<;>cases e2:aN (A.ks j) (f k)<;>simp[e1,e2,l8]
def xE(A:Fam)(l:Nat->Bool):Prop:=∀j,j<A.n->l j=true->∀i,i<j->A.bef j i=true->l i=true
open Classical in
noncomputable def da(A:Fam)(l:Nat->Bool)(m:Nat)(d:D):D:=if ∃u,u<m/\l u=false/\aN (A.ks u) d=true then .any else d
theorem px(l:Nat->Bool)(m:Nat):da A l m .any=.any:=by
 unfold da;split<;>rfl
theorem Ed(h:A.Ok){l:Nat->Bool}(hs:xE A l):∀m,m<=A.n->∀k,(∀u,u<m->l u=false->k∉A.W u)->A.St m k=da A l m (A.G l m k)
 | 0,_,k,_=>by
  unfold da
  rw[if_neg (by rintro⟨u,hu,_⟩;omega)]
  rfl
 | m+1,hm,k,hk=>by
  have ih:=Ed h hs m (by omega) k (fun u hu=>hk u (by omega))
  have e1:A.St (m+1) k=A.E m (A.St m) k:=by simp[Fam.St,Fam.G]
  rw[e1]
  cases hl:l m with
  | true =>
   have e2:A.G l (m+1) k=A.E m (A.G l m) k:=by simp[Fam.G,hl]
   rw[e2]
   unfold Fam.E
   cases h1:(A.ws m).lookup k with
   | some d =>
    rw[fo h1,fo h1]
    unfold da
    rw[if_neg]
    rintro⟨u,hu,hlu,hmu⟩
    have hum:u<m:=by
     rcases x1o u m with h|h
     ·exact h
     ·have:u=m:=by omega
      subst this;rw[hl]at hlu;cases hlu
    rcases h.pairs u m hum (by omega)with h2|h2
    ·rw[hs m (by omega) hl u hum h2]at hlu;cases hlu
    ·have:=h.noKill (i:=m) (j:=u) (by omega) (by omega) h2.1 (iD h1)
     simp only at this
     rw[this]at hmu;cases hmu
   | none =>
    rw[cS h1,cS h1,ih]
    have same:∀d,da A l (m+1) d=da A l m d:=fun d=>by
     unfold da
     congr 1
     refine propext ⟨fun⟨u,h3,h4,h5⟩=>⟨u,?_,h4,h5⟩,fun⟨u,h3,h4,h5⟩=>⟨u,by omega,h4,h5⟩⟩
     rcases x1o u m with h|h
     ·exact h
     ·have:u=m:=by omega
      subst this;rw[hl]at h4;cases h4
    rw[same]
    generalize A.G l m k=g
    by_cases hc:∃u,u<m/\l u=false/\aN (A.ks u) g=true
    ·have e3:da A l m g=.any:=by unfold da;rw[if_pos hc]
     rw[e3,l8]
     cases hg:aN (A.ks m) g with
     | true=>simp only[if_true];rw[px];rfl
     | false=>simp only[x0m,if_false];rw[e3]
    ·have e3:da A l m g=g:=by unfold da;rw[if_neg hc]
     rw[e3]
     cases hg:aN (A.ks m) g with
     | true=>simp only[if_true];rw[px]
     | false=>simp only[x0m,if_false];rw[e3]
  | false =>
   have e2:A.G l (m+1) k=A.G l m k:=by simp[Fam.G,hl]
   rw[e2]
   unfold Fam.E
   rw[cS (gc (hk m (by omega) hl)),ih]
   generalize A.G l m k=g
   by_cases hc:∃u,u<m/\l u=false/\aN (A.ks u) g=true
   ·have e3:da A l m g=.any:=by unfold da;rw[if_pos hc]
    have e4:da A l (m+1) g=.any:=by
     unfold da
     obtain⟨u,h1,h2⟩:=hc
     rw[if_pos ⟨u,by omega,h2⟩]
    rw[e3,e4,l8];rfl
   ·have e3:da A l m g=g:=by unfold da;rw[if_neg hc]
    rw[e3]
    cases hg:aN (A.ks m) g with
    | true =>
     have e4:da A l (m+1) g=.any:=by unfold da;exact if_pos ⟨m,by omega,hl,hg⟩
     rw[e4];rfl
    | false =>
     have e4:da A l (m+1) g=g:=by
      unfold da
      refine if_neg ?_
      rintro⟨u,h1,h2,h3⟩
      rcases x1o u m with h|h
      ·exact hc ⟨u,h,h2,h3⟩
      ·have:u=m:=by omega
       subst this;rw[hg]at h3;cases h3
     rw[e4];rfl
theorem Fam.Ok.reads(h:A.Ok){l:Nat->Bool}(hs:xE A l){j:Nat}(hj:j<A.n)(hlj:l j=false)(hb:∀i,i<j->A.bef j i=true->l i=true):∀k∈A.rd j,A.G l A.n k=A.St j k:=by
 intro k hk
 have h1:A.G l j k=A.St j k:=by
  have h2:=Ed h hs j (by omega) k (fun u hu hlu=>by
   rcases h.pairs u j hu hj with h3|h3
   ·rw[hb u hu h3]at hlu;cases hlu
   ·exact fun h4=>(h3.1.1 k h4).1 hk)
  have h3:=h.known j hj k hk
  rw[h2]at h3 ⊢
  unfold da at h3 ⊢
  split at h3
  ·exact absurd rfl h3
  ·rename_i hc;rw[if_neg hc]
 have h2:∀m,j<=m->m<=A.n->A.G l m k=A.St j k:=by
  intro m
  induction m with
  | zero=>intro h3 _;have:j=0:=(by omega);subst this;exact h1
  | succ m ih =>
   intro h3 h4
   rcases x1o m j with h5|h5
   ·have:j=m+1:=by omega
    rw[<- this];exact h1
   ·have ihm:=ih h5 (by omega)
    cases hl:l m with
    | false=>simp[Fam.G,hl,ihm]
    | true =>
     have hjm:j<m:=by
      rcases x1o j m with h|h
      ·exact h
      ·have:j=m:=by omega
       subst this;rw[hl]at hlj;cases hlj
     rcases h.pairs j m hjm (by omega)with h6|h6
     ·rw[hs m (by omega) hl j hjm h6]at hlj;cases hlj
     ·have h7:(A.ws m).lookup k=none:=gc (fun h8=>(h6.2.1 k h8).1 hk)
      have h8:aN (A.ks m) (A.St j k)=false:=by
       cases hm:aN (A.ks m) (A.St j k) with
       | false=>rfl
       | true =>
        obtain⟨q,h9,h10⟩:=nV hm
        exact absurd (h.closed j hj k hk _ _ h10) (h6.2.2 q h9)
      simp only[Fam.G,hl,if_true,Fam.E]
      rw[cS h7,ihm,h8];rfl
 exact h2 A.n (by omega) (x0r _)
theorem pj(m:Nat)(ks:List (Nat×Bool))(d:D):gk m (if aN ks d then .any else d)=gk m d:=by
 cases d
 case blk sz es=>rw[pG rfl];rfl
 all_goals (split<;>rfl)
theorem jE(A:Fam)(f g:Nat->D)(i k m:Nat)(h:k∉A.W i):gk m (A.E i f k)=gk m (f k):=by
 unfold Fam.E
 rw[cS (gc h),pj]
theorem pm(A:Fam)(f g:Nat->D)(i k:Nat)(h:k∈A.W i):A.E i f k=A.E i g k:=by
 unfold Fam.E
 cases h1:(A.ws i).lookup k with
 | none=>exact absurd h (se h1)
 | some d=>rw[fo h1,fo h1]
theorem kH(A:Fam)(m:Nat):A.St (m+1)=A.E m (A.St m):=by simp[Fam.St,Fam.G]
theorem Fam.Ok.readsC(h:A.Ok){l:Nat->Bool}(hs:xE A l){j:Nat}(hj:j<A.n)(hlj:l j=false)(hb:∀i,i<j->A.bef j i=true->l i=true):∀p∈A.fr j,gk p.2 (A.G l A.n p.1)=gk p.2 (A.St j p.1):=by
 rintro⟨k,c⟩ hk
 simp only
 have hkj:=h.fine j hj _ hk
 simp only at hkj
 have low:∀m,m<=j->gk c (A.G l m k)=gk c (A.St m k):=by
  intro m
  induction m with
  | zero=>intro _;rfl
  | succ m ih =>
   intro hm
   have ihm:=ih (by omega)
   rw[kH]
   by_cases hw:k∈A.W m
   ·cases hl:l m with
    | true =>
     simp only[Fam.G,hl,if_true]
     rw[pm A _ (A.St m) m k hw]
    | false =>
     simp only[Fam.G,hl,x0m,if_false]
     rcases h.pairs m j (by omega) hj with h1|h1
     ·rw[hb m (by omega) h1]at hl;cases hl
     ·have h2:=(h1.1.1 k hw).2.2 c hk
      unfold Fam.Pres at h2
      rw[kH]at h2
      rw[h2,ihm]
   ·rw[jE A _ (A.St m) m k c hw]
    cases hl:l m with
    | true =>
     simp only[Fam.G,hl,if_true]
     rw[jE A _ (A.St m) m k c hw,ihm]
    | false=>simp only[Fam.G,hl,x0m,if_false];exact ihm
 have run:∀m,j<=m->m<=A.n->(∀u,j<u->u<m->k∈A.W u->A.Pres u k c)->gk c (A.St m k)=gk c (A.St j k):=by
  intro m
  induction m with
  | zero=>intro h1 _ _;have:j=0:=(by omega);subst this;rfl
  | succ m ih =>
   intro h1 h2 h3
   rcases x1o m j with h4|h4
   ·have:j=m+1:=by omega
    rw[<- this]
   ·have ihm:=ih h4 (by omega) (fun u h5 h6 h7=>h3 u h5 (by omega) h7)
    by_cases hw:k∈A.W m
    ·have hjm:j<m:=by
      rcases x1o j m with h|h
      ·exact h
      ·have:j=m:=by omega
       subst this;exact absurd hw hkj
     have:=h3 m hjm (by omega) hw
     unfold Fam.Pres at this
     rw[this,ihm]
    ·rw[kH,jE A _ (A.St m) m k c hw,ihm]
 have high:∀m,j<=m->m<=A.n->gk c (A.G l m k)=gk c (A.St j k):=by
  intro m
  induction m with
  | zero=>intro h1 _;have:j=0:=(by omega);subst this;exact low 0 (x0r _)
  | succ m ih =>
   intro h1 h2
   rcases x1o m j with h4|h4
   ·have:j=m+1:=by omega
    rw[<- this];exact low j (x0r _)
   ·have ihm:=ih h4 (by omega)
    cases hl:l m with
    | false=>simp only[Fam.G,hl,x0m,if_false];exact ihm
    | true =>
     simp only[Fam.G,hl,if_true]
     by_cases hw:k∈A.W m
     ·have hjm:j<m:=by
       rcases x1o j m with h|h
       ·exact h
       ·have:j=m:=by omega
        subst this;rw[hl]at hlj;cases hlj
      have pres:∀u,j<u->u<A.n->k∈A.W u->l u=true->A.Pres u k c:=fun u h5 h6 h7 h8=>by
       rcases h.pairs j u h5 h6 with h9|h9
       ·rw[hs u h6 h8 j h5 h9]at hlj;cases hlj
       ·exact(h9.2.1 k h7).2.2 c hk
      have h5:=run m h4 (by omega) (fun u h5 h6 h7=>pres u h5 (by omega) h7 (by
       rcases h.pairs u m h6 (by omega)with h9|h9
       ·exact hs m (by omega) hl u h6 h9
       ·exact absurd hw (h9.1.1 k h7).2.1))
      have h6:=pres m hjm (by omega) hw hl
      unfold Fam.Pres at h6
      rw[pm A _ (A.St m) m k hw,<- kH,h6,h5]
     ·rw[jE A _ (A.St m) m k c hw,ihm]
 exact high A.n (by omega) (x0r _)
theorem Fam.Ok.more(h:A.Ok){l l':Nat->Bool}(hs:xE A l){j:Nat}(hj:j<A.n)(hlj:l j=false)(hj':l' j=true)(hl':∀i,i≠j->l' i=l i):A.G l' A.n=A.E j (A.G l A.n):=by
 have low:∀m,m<=j->A.G l' m=A.G l m:=by
  intro m
  induction m with
  | zero=>intro _;rfl
  | succ m ih =>
   intro hm
   simp only[Fam.G]
   rw[ih (by omega),hl' m (by omega)]
 have high:∀m,j<m->m<=A.n->A.G l' m=A.E j (A.G l m):=by
  intro m
  induction m with
  | zero=>intro h1;omega
  | succ m ih =>
   intro h1 h2
   rcases x1o j m with h3|h3
   ·have ihm:=ih h3 (by omega)
    simp only[Fam.G]
    rw[hl' m (by omega),ihm]
    cases hl:l m with
    | false=>rfl
    | true =>
     simp only[if_true]
     rcases h.pairs j m h3 (by omega)with h4|h4
     ·rw[hs m (by omega) hl j h3 h4]at hlj;cases hlj
     ·exact(h.comm hj (by omega) h4 _).symm
   ·have:m=j:=by omega
    subst this
    simp only[Fam.G]
    rw[hj',hlj,low m (x0r _)]
    rfl
 exact high A.n hj (x0r _)
end
end Go.Gv

namespace Go.Gv
open Go.RowKit
def jo:Opd->List Nat
 | .t s=>[s]
 | .c _=>[]
def rP:Option (Nat×Bool)->List Nat
 | some (s,_)=>[s]
 | none=>[]
def rdS(n:az):List Nat:=(aj n.op).flatMap jo++rP n.guard
def FZ:NOp->List Opd
 | .mov _=>[]
 | .nck _=>[]
 | .pick _ _ _=>[]
 | .bin _ _ _=>[]
 | .un _ _=>[]
 | .conv _ _=>[]
 | .ext _ _=>[]
 | .fad _ _=>[]
 | .ld _ _ _=>[]
 | .ldQ _ _=>[]
 | .mk _ _=>[]
 | .bld _ _=>[]
 | .boxF _=>[]
 | .blsF _ _ _ _=>[]
 | .blsX _ _ _ _=>[]
 | .len _=>[]
 | .iadA _ _ _ _=>[]
 | o=>aj o
def ldN:NOp->List Opd
 | .ld _ _ x=>[x]
 | _=>[]
def rdR(f:Nat->D)(n:az):List Nat:=((FZ n.op).flatMap fun x=>bC (vd f x))++((ldN n.op).flatMap fun x=>aJ (vd f x))
def mnR(f:Nat->D)(n:az):List Nat:=(aj n.op).flatMap fun x=>bC (vd f x)
def frR(f:Nat->D)(n:az):List (Nat×Nat):=match n.op with
 | .ldQ o x=>match vd f x with
  | .adr (.r c) _ _=>[(c,o)]
  | _=>[]
 | _=>[]
def fwR(f:Nat->D)(n:az):List (Nat×Nat):=match n.op with
 | .appQ o _ _ x _=>match vd f x with
  | .ref (.n c _ _) _ _=>[(c,o)]
  | _=>[]
 | _=>[]
abbrev Rds:=List Nat×List Nat×List (Nat×Nat)×List (Nat×Nat)
def gI(x:Rds):List Nat:=x.1.map (4 * ·)++x.2.1.map (4 * ·+1)++x.2.2.1.map (fun p=>4*(64*p.1+p.2%64)+2)++x.2.2.2.map (fun p=>4*(64*p.1+p.2%64)+3)
def rdN(f:Nat->D)(n:az):Rds:=(rdS n++rdR f n,mnR f n,frR f n,fwR f n)
def jb(f:Nat->D)(n:az):List Nat:=gI (rdN f n)
def wrK(ws:List (Nat×D))(ks:List (Nat×Bool)):List Nat:=(ws.map fun p=>4*p.1)++ks.map fun k=>4*k.1+1
def cA:D->Bool
 | .any=>true
 | _=>false
def chk(f:Nat->D)(n:az):Bool:=((rdS n).all fun s=>!cA (f s))&&((rdR f n).all fun b=>isB (f b))&&((frR f n).all fun p=>!(n.dst==some p.1))&&(fwR f n).all fun p=>!(n.dst==some p.1)
def wOk(R:List Nat)(ws:List (Nat×D))(ks:List (Nat×Bool)):Bool :=
 (ks.all fun k=>(ws.map (·.1)).contains k.1)&&ws.all fun p=>(bC p.2).all fun b=>R.contains (4*b+1)||(ws.map (·.1)).contains b
def xW(q:Nat)(r0:List Nat):Bool:=r0.any fun z=>decide (z%4=3)&&decide (z/256=q/256)&&!decide (z/4%64=q/4%64)
def ti(x r0:List Nat)(r w:List Nat):Bool:=x.all fun k=>!r.contains k&&!w.contains k&&r.all fun q=>!(decide (q%4=2)&&decide (k=4*(q/256)))||xW q r0
def kX(hs:List Nat)(rw:List (List Nat×List Nat)):Bool :=
 rw.zipIdx.all fun p=>rw.zipIdx.all fun q=>!decide (p.2<q.2)||(hs.getD q.2 0).testBit p.2||(ti p.1.2 p.1.1 q.1.1 q.1.2&&ti q.1.2 q.1.1 p.1.1 p.1.2)
def we:Option Nat->List Nat
 | some t=>[4*t]
 | none=>[]
def j6(C:Nat->List D->D->List D->Prop)(hs:List Nat)(K:Env->Prop):List az->Env->List (List Nat×List Nat)->Prop
 | [],e,acc=>kX hs acc.reverse=true/\K e
 | o::os,e,acc=>chk (ae e) o=true/\match o.guard with
  | none=>aL C (ae e) o.dst (fun ws ks=>wOk (jb (ae e) o) ws ks=true/\j6 C hs K os (ws++ef ks e) ((jb (ae e) o,wrK ws ks)::acc)) o.op
  | some (s,want)=>match ae e s with
   | .bool b=>(b=want->aL C (ae e) o.dst (fun ws ks=>wOk (jb (ae e) o) ws ks=true/\j6 C hs K os (ws++ef ks e) ((jb (ae e) o,wrK ws ks)::acc)) o.op) /\
     (b=!want->ip e o.dst fun e'=>j6 C hs K os e' ((jb (ae e) o,we o.dst)::acc))
   | .tup []=>ip e o.dst fun e'=>j6 C hs K os e' ((jb (ae e) o,we o.dst)::acc)
   | _=>False
def dN(n:az):Option (List (Nat×D)×List (Nat×Bool))->List (Nat×D)
 | some (ws,_)=>ws
 | none=>match n.dst with
  | some t=>[(t,.tup [])]
  | none=>[]
def ft:Option (List (Nat×D)×List (Nat×Bool))->List (Nat×Bool)
 | some (_,ks)=>ks
 | none=>[]
theorem Bs(n:az)(x:Option (List (Nat×D)×List (Nat×Bool)))(f:Nat->D):oW n x f=eff (dN n x) (ft x) f:=by
 cases x with
 | some y=>rfl
 | none =>
  unfold oW dN ft
  cases n.dst with
  | some t=>rfl
  | none=>exact(kV f).symm
abbrev gm:=az×Option (List (Nat×D)×List (Nat×Bool))×Rds
def Tr(C:Nat->List D->D->List D->Prop):List gm->(Nat->D)->(Nat->D)->Prop
 | [],f,f'=>f'=f
 | (n,x,rd)::ts,f,f'=>iW C n f x/\chk f n=true/\wOk (jb f n) (dN n x) (ft x)=true/\rd=rdN f n/\Tr C ts (eff (dN n x) (ft x) f) f'
section
variable{C:Nat->List D->D->List D->Prop}
theorem Em{hs:List Nat}{K:Env->Prop}:∀(ns:List az) (e:Env) (acc:List (List Nat×List Nat)),j6 C hs K ns e acc->∃(ts:List gm) (e':Env),ts.map (·.1)=ns/\Tr C ts (ae e) (ae e')/\kX hs (acc.reverse++ts.map fun t=>(gI t.2.2,wrK (dN t.1 t.2.1) (ft t.2.1)))=true/\K e'
 | [],e,acc,h=>⟨[],e,rfl,rfl,by simpa using h.1,h.2⟩
 | n::ns,e,acc,h=>by
  obtain⟨h0,h⟩:=h
  have fin:∀(x:Option (List (Nat×D)×List (Nat×Bool))) (e1:Env),iW C n (ae e) x->wOk (jb (ae e) n) (dN n x) (ft x)=true->ae e1=eff (dN n x) (ft x) (ae e)->j6 C hs K ns e1 ((jb (ae e) n,wrK (dN n x) (ft x))::acc) ->
    ∃(ts:List gm) (e':Env),ts.map (·.1)=n::ns/\Tr C ts (ae e) (ae e')/\kX hs (acc.reverse++ts.map fun t=>(gI t.2.2,wrK (dN t.1 t.2.1) (ft t.2.1)))=true/\K e':=by
   intro x e1 h1 h2 h3 h4
   obtain⟨ts,e',g1,g2,g3,g4⟩:=Em ns e1 _ h4
   refine⟨(n,x,rdN (ae e) n)::ts,e',by simp[g1],⟨h1,h0,h2,rfl,by rw[<- h3];exact g2⟩,?_,g4⟩
   simpa[jb]using g3
  have run:(∀s b,n.guard=some (s,b)->ae e s=.bool b)->aL C (ae e) n.dst (fun ws ks=>wOk (jb (ae e) n) ws ks=true/\j6 C hs K ns (ws++ef ks e) ((jb (ae e) n,wrK ws ks)::acc)) n.op ->
    ∃(ts:List gm) (e':Env),ts.map (·.1)=n::ns/\Tr C ts (ae e) (ae e')/\kX hs (acc.reverse++ts.map fun t=>(gI t.2.2,wrK (dN t.1 t.2.1) (ft t.2.1)))=true/\K e':=by
   intro hg h1
   obtain⟨ws,ks,⟨h2,h3⟩,h4⟩:=ox h1
   exact fin (some (ws,ks)) _ ⟨hg,h4 _ ⟨rfl,rfl⟩⟩ h2 (jk ws ks e) h3
  have skp:∀s want,n.guard=some (s,want)->Skp want (ae e s)->ip e n.dst (fun e'=>j6 C hs K ns e' ((jb (ae e) n,we n.dst)::acc)) ->
    ∃(ts:List gm) (e':Env),ts.map (·.1)=n::ns/\Tr C ts (ae e) (ae e')/\kX hs (acc.reverse++ts.map fun t=>(gI t.2.2,wrK (dN t.1 t.2.1) (ft t.2.1)))=true/\K e':=by
   intro s want hg hb h1
   unfold ip at h1
   split at h1
   ·rename_i hd
    refine fin none e ⟨s,want,hg,hb⟩ (by simp[wOk,dN,ft,hd]) (by simp[dN,ft,hd,kV]) ?_
    simpa[dN,ft,wrK,hd,we]using h1
   ·rename_i t hd
    refine fin none ((t,.tup [])::e) ⟨s,want,hg,hb⟩ (by simp[wOk,dN,ft,hd,bC,aJ]) ?_ ?_
    ·have:=jk [(t,.tup [])] [] e
     simp only[ef,if_true]at this
     simpa[dN,ft,hd]using this
    ·simpa[dN,ft,wrK,hd,we]using h1
  split at h
  ·rename_i hg
   exact run (fun s b e'=>(by rw[hg]at e';cases e')) h
  ·rename_i s want hg
   split at h
   ·rename_i b hb
    by_cases hbw:b=want
    ·subst hbw
     exact run (fun s' b' e'=>(by rw[hg]at e';cases e';exact hb)) (h.1 rfl)
    ·have hb':b=!want:=by cases b<;>cases want<;>simp_all
     have h1:=h.2 hb'
     rw[hb']at hb
     exact skp s want hg (.inl hb) h1
   ·rename_i hb
    exact skp s want hg (.inr hb) h
   ·exact h.elim
def aX(hs:List Nat)(ts:List gm)(f:Nat->D):Fam where
 n:=ts.length
 ws i:=match ts[i]? with
  | some t=>dN t.1 t.2.1
  | none=>[]
 ks i:=match ts[i]? with
  | some t=>ft t.2.1
  | none=>[]
 rd i:=match ts[i]? with
  | some t=>t.2.2.1
  | none=>[]
 mn i:=match ts[i]? with
  | some t=>t.2.2.2.1
  | none=>[]
 fr i:=match ts[i]? with
  | some t=>t.2.2.2.2.1
  | none=>[]
 bef j i:=(hs.getD j 0).testBit i
 f0:=f
theorem lR(hs:List Nat)(t:gm)(ts:List gm)(f:Nat->D):∀i,(aX hs (t::ts) f).St (i+1)=(aX hs ts (eff (dN t.1 t.2.1) (ft t.2.1) f)).St i
 | 0=>by simp[Fam.St,Fam.G,Fam.E,aX]
 | i+1=>by
  have ih:=lR hs t ts f i
  have e1:∀(A:Fam) (m:Nat),A.St (m+1)=A.E m (A.St m):=fun A m=>by simp[Fam.St,Fam.G]
  rw[e1,ih,e1]
  simp[Fam.E,aX]
theorem qZ(hs:List Nat):∀(ts:List gm) (f f':Nat->D),Tr C ts f f'->f'=(aX hs ts f).St ts.length/\∀(i:Nat) (t:gm),ts[i]? = some t->iW C t.1 ((aX hs ts f).St i) t.2.1/\chk ((aX hs ts f).St i) t.1=true/\wOk (gI t.2.2) (dN t.1 t.2.1) (ft t.2.1)=true/\t.2.2=rdN ((aX hs ts f).St i) t.1
 | [],f,f',h=>⟨h,fun i t h=>by simp at h⟩
 | (n,x,rd)::ts,f,f',h=>by
  obtain⟨h1,h2,h3,rfl,h4⟩:=h
  obtain⟨g1,g2⟩:=qZ hs ts _ f' h4
  refine⟨by rw[x1b,lR];exact g1,fun i t hi=>?_⟩
  cases i with
  | zero=>simp at hi;subst hi;exact⟨h1,h2,by simpa[jb]using h3,rfl⟩
  | succ i=>rw[lR];exact g2 i t (by simpa using hi)
theorem AP{f:Nat->D}{n:az}{x:Option (List (Nat×D)×List (Nat×Bool))}{c:Nat}(h2:(n.dst==some c)=false)(hx:x=none\/∃d ks,x=some ((match n.dst with|some t=>[(t,d)]|none=>[]),ks)):c∉(dN n x).map (·.1):=by
 have h3:n.dst≠some c:=by simpa using h2
 rcases hx with rfl|⟨d,ks,rfl⟩
 ·simp only[dN]
  split
  ·rename_i t e
   rw[e]at h3
   simp only[x0I,x02,x0S,x1t,or_false]
   exact fun e=>h3 (by rw[e])
  ·simp
 ·simp only[dN]
  split
  ·rename_i t e
   rw[e]at h3
   simp only[x0I,x02,x0S,x1t,or_false]
   exact fun e=>h3 (by rw[e])
  ·simp
theorem EX{f:Nat->D}{n:az}{x:Option (List (Nat×D)×List (Nat×Bool))}(h:iW C n f x)(h2:chk f n=true){p:Nat×Nat}(hp:p∈frR f n):p.1∉(dN n x).map (·.1):=by
 have h3:(n.dst==some p.1)=false:=by
  simp only[chk,x0a,x0g]at h2
  simpa using h2.1.2 p hp
 refine AP (f:=f) h3 ?_
 cases x with
 | none=>exact .inl rfl
 | some y =>
  obtain⟨ws,ks⟩:=y
  right
  have h:=h.2
  unfold frR at hp
  split at hp
  ·rename_i q x0 heq
   rw[heq]at h
   simp only[aL]at h
   split at h
   ·obtain⟨_,h⟩:=h
    split at h
    ·obtain⟨r,_,d,_,h⟩:=h
     unfold dJ at h
     split at h
     ·rename_i t e
      obtain⟨rfl,rfl⟩:=h
      exact⟨_,_,by rw[e]⟩
     ·rename_i e
      obtain⟨rfl,rfl⟩:=h
      exact⟨.any,_,by rw[e]⟩
    ·exact h.elim
   ·exact h.elim
  ·cases hp
theorem wa{es:List (List D)}{sz i o m:Nat}{row:List D}(h:es[i]? = some row)(ho:o<row.length)(hm:o≠m):gk m (.blk sz (br es i o 1 [.any]))=gk m (.blk sz es):=by
 simp only[gk,br,h,x1A,x0o]
 apply List.ext_getElem?
 intro j
 rw[x0B,x0B,List.getElem?_set]
 split
 ·rename_i e
  subst e
  split
  ·rw[h]
   simp only[x1h,x0o]
   have hl:(row.take o).length=o:=by simp;omega
   rw[x1E]
   by_cases h1:m<o
   ·rw[x0w (by omega),x0D h1]
   ·rw[x0y (by omega),hl,x0y (by simp;omega),x0x]
    congr 1;simp only[x1b,List.length_nil];omega
  ·rename_i h1
   rw[x1p (by omega)]
 ·rfl
theorem EW{f:Nat->D}{n:az}{x:Option (List (Nat×D)×List (Nat×Bool))}(h:iW C n f x)(h2:chk f n=true){p:Nat×Nat}(hp:p∈fwR f n){m:Nat}(hm:p.2≠m):gk m (eff (dN n x) (ft x) f p.1)=gk m (f p.1):=by
 have h3:(n.dst==some p.1)=false:=by
  simp only[chk,x0a,x0g]at h2
  simpa using h2.2 p hp
 cases x with
 | none =>
  rw[cS (gc (AP (f:=f) h3 (.inl rfl)))]
  exact pj _ _ _
 | some y =>
  obtain⟨ws,ks⟩:=y
  have h:=h.2
  have h30:n.dst≠some p.1:=by simpa using h3
  unfold fwR at hp
  split at hp
  ·rename_i q sz by_ x0 y0 heq
   rw[heq]at h
   simp only[aL]at h
   split at h
   ·rename_i t hd
    split at h
    ·rename_i c i o' k n' ex
     rw[ex]at hp
     simp only[x0S,x1t,or_false]at hp
     subst hp
     simp only at hm h30 ⊢
     obtain⟨rfl,h⟩:=h
     obtain⟨rows,bs,⟨h4,h5,h⟩,_⟩:=dT h
     split at h
     ·rename_i sz0 es0 hf
      obtain⟨row0,h6,es,h7,h8,h9,h10,h11⟩:=h
      subst h10 h11
      have e1:(c==t)=false:=by simp only[beq_eq_false_iff_ne,ne_eq];exact fun e=>h30 (by rw[hd,e])
      have e2:(c==rt t 0)=false:=by simpa using h5
      simp only[dN]
      rw[aV (d:=.blk sz0 (br es0 i o' 1 [.any])) (by simp[x0l,e1,e2]),hf]
      exact wa h6 (x0b.1 h7).1 hm
     ·exact h.elim
    ·exact h.elim
   ·exact h.elim
  ·cases hp
theorem ET{hs:List Nat}{ts:List gm}{f f':Nat->D}(h:Tr C ts f f')(hi:kX hs (ts.map fun t=>(gI t.2.2,wrK (dN t.1 t.2.1) (ft t.2.1)))=true):(aX hs ts f).Ok:=by
 obtain⟨_,hs'⟩:=qZ hs ts f f' h
 have get:∀i,i<ts.length->∃t,ts[i]? = some t:=fun i hi=>⟨_,x0e hi⟩
 have e4:∀{x:Rds} {z:Nat},z∈gI x->(∃k∈x.1,z=4*k)\/(∃k∈x.2.1,z=4*k+1)\/(∃p∈x.2.2.1,z=4*(64*p.1+p.2%64)+2)\/∃p∈x.2.2.2,z=4*(64*p.1+p.2%64)+3:=by
  intro x z hz
  simp only[gI,x0p,x0v]at hz
  rcases hz with ((⟨k,h1,h2⟩|⟨k,h1,h2⟩)|⟨p,h1,h2⟩)|⟨p,h1,h2⟩
  ·exact .inl ⟨k,h1,h2.symm⟩
  ·exact .inr (.inl ⟨k,h1,h2.symm⟩)
  ·exact .inr (.inr (.inl ⟨p,h1,h2.symm⟩))
  ·exact .inr (.inr (.inr ⟨p,h1,h2.symm⟩))
 have e1:∀{x:Rds} {k:Nat},k∈x.1->4*k∈gI x:=fun{x k} hk=>by
  simp only[gI,x0p,x0v];exact .inl (.inl (.inl ⟨k,hk,rfl⟩))
 have e2:∀{x:Rds} {k:Nat},k∈x.2.1->4*k+1∈gI x:=fun{x k} hk=>by
  simp only[gI,x0p,x0v];exact .inl (.inl (.inr ⟨k,hk,rfl⟩))
 have e3:∀{x:Rds} {p:Nat×Nat},p∈x.2.2.1->4*(64*p.1+p.2%64)+2∈gI x:=fun{x p} hk=>by
  simp only[gI,x0p,x0v];exact .inl (.inr ⟨p,hk,rfl⟩)
 refine⟨fun i hn k hk=>?_,fun i hn p hp b all hb=>?_,fun i hn k hk b all hb=>?_,fun i hn p hp hk=>?_,fun i hn k hk=>?_,fun i j hij hn=>?_⟩
 ·obtain⟨t,ht⟩:=get i hn
  obtain⟨_,_,h3,_⟩:=hs' i t ht
  simp only[aX,ht]at hk
  simp only[Fam.W,aX,ht]
  simp only[wOk,x0a,x0g]at h3
  exact x0L.1 (h3.1 k hk)
 ·obtain⟨t,ht⟩:=get i hn
  obtain⟨_,_,h3,_⟩:=hs' i t ht
  simp only[aX,ht]at hp
  simp only[Fam.W,aX,ht]
  simp only[wOk,x0a,x0g,x0E]at h3
  rcases h3.2 p hp b (ku hb)with h4|h4
  ·left
   have h5:=x0L.1 h4
   rcases e4 h5 with ⟨x,_,h6⟩|⟨x,h7,h6⟩|⟨x,_,h6⟩|⟨x,_,h6⟩
   ·omega
   ·have:x=b:=by omega
    subst this;exact h7
   ·omega
   ·omega
  ·exact .inr (x0L.1 h4)
 ·obtain⟨t,ht⟩:=get i hn
  obtain⟨h1,h2,_,h4⟩:=hs' i t ht
  simp only[aX,ht]at hk ⊢
  rw[h4]at hk ⊢
  simp only[chk,x0a,x0g]at h2
  rcases x0p.1 hk with h5|h5
  ·simp only[rdS]at h5
   rcases x0p.1 h5 with h6|h6
   ·obtain⟨x,h7,h8⟩:=List.mem_flatMap.1 h6
    cases x with
    | t s =>
     simp only[jo,x1i]at h8
     subst h8
     refine List.mem_flatMap.2 ⟨_,h7,?_⟩
     exact ku hb
    | c d=>simp[jo]at h8
   ·-- the guard's slot
    have:(∃bb,(aX hs ts f).St i k=.bool bb)\/(aX hs ts f).St i k=.tup []:=by
     cases hg:t.1.guard with
     | none=>rw[hg]at h6;simp[rP]at h6
     | some q =>
      obtain⟨s,want⟩:=q
      rw[hg]at h6
      simp only[rP,x1i]at h6
      subst h6
      unfold iW at h1
      split at h1
      ·exact .inl ⟨want,h1.1 k want hg⟩
      ·obtain⟨s',b',h7,h8⟩:=h1
       rw[hg]at h7;cases h7
       exact h8.imp (fun h8=>⟨_,h8⟩) id
    simp only[aX]at this hb
    rcases this with ⟨bb,hbb⟩|hbb<;>rw[hbb]at hb<;>simp[cT,aK]at hb
  ·have h6:=h2.1.1.2 k h5
   simp only[aX]at h6 hb
   have h7:∀d:D,isB d=true->cT b all d=false:=fun d hd=>by cases d<;>first|rfl|(simp[isB]at hd)
   rw[h7 _ h6]at hb;cases hb
 ·-- what reads a column writes its slot alone
  obtain⟨t,ht⟩:=get i hn
  obtain⟨h1,h2,h3,h4⟩:=hs' i t ht
  simp only[aX,ht]at hp
  simp only[Fam.W,aX,ht]at hk
  rw[h4]at hp
  simp only[rdN]at hp
  exact EX h1 h2 hp hk
 ·obtain⟨t,ht⟩:=get i hn
  obtain⟨h1,h2,_,h4⟩:=hs' i t ht
  simp only[aX,ht]at hk ⊢
  rw[h4]at hk
  simp only[chk,x0a,x0g]at h2
  rcases x0p.1 hk with h5|h5
  ·have:=h2.1.1.1 k h5
   intro e
   simp only[aX]at this
   rw[e]at this
   simp[cA]at this
  ·have:=h2.1.1.2 k h5
   intro e
   simp only[aX]at this
   rw[e]at this
   simp[isB]at this
 ·obtain⟨t,ht⟩:=get i (Nat.lt_trans hij hn)
  obtain⟨u,hu⟩:=get j hn
  simp only[kX,x0g]at hi
  have h1:=hi ((gI t.2.2,wrK (dN t.1 t.2.1) (ft t.2.1)),i) (List.mem_zipIdx_iff_getElem?.2 (by simp[ht])) ((gI u.2.2,wrK (dN u.1 u.2.1) (ft u.2.1)),j) (List.mem_zipIdx_iff_getElem?.2 (by simp[hu]))
  simp only[x0E,x0t,x0K,x0a]at h1
  rcases h1 with (h1|h1)|h1
  ·exact absurd hij h1
  ·exact .inl h1
  ·right
   simp only[ti,x0g,x0a,x0t]at h1
   have nm:∀{l:List Nat} {k:Nat},l.contains k=false->k∉l:=fun h hm=>by
    have:=x0L.2 hm
    rw[h]at this;cases this
   have one:∀(a b:gm) (x y:Nat),ts[x]? = some a->ts[y]? = some b->(∀k∈wrK (dN a.1 a.2.1) (ft a.2.1),((gI b.2.2).contains k=false/\(wrK (dN b.1 b.2.1) (ft b.2.1)).contains k=false)/\∀q∈gI b.2.2,(!(decide (q%4=2)&&decide (k=4*(q/256)))||xW q (gI a.2.2))=true)->(aX hs ts f).Apart x y:=by
    intro a b x y ha hb hab
    refine⟨fun k hk=>?_,fun k hk hm=>?_⟩
    ·have hk0:=hk
     simp only[Fam.W,aX,ha]at hk
     obtain⟨p,hp,rfl⟩:=x0v.1 hk
     obtain⟨⟨h2,h3⟩,h4⟩:=hab (4*p.1) (x0p.2 (.inl (x0v.2 ⟨p,hp,rfl⟩)))
     refine⟨fun hr=>nm h2 (e1 (by simp only[aX,hb]at hr;exact hr)),fun hw=>nm h3 (x0p.2 (.inl ?_)),fun m hm=>?_⟩
     ·simp only[Fam.W,aX,hb]at hw
      obtain⟨q,hq,e⟩:=x0v.1 hw
      exact x0v.2 ⟨q,hq,by rw[e]⟩
     ·simp only[aX,hb]at hm
      have h5:=h4 _ (e3 hm)
      have h6:(4*(64*p.1+m%64)+2)%4=2:=by omega
      have h7:(4*(64*p.1+m%64)+2)/256=p.1:=by omega
      have h8:(4*(64*p.1+m%64)+2)/4%64=m%64:=by omega
      simp only[h6,h7,decide_true,Bool.and_self,Bool.not_true,Bool.false_or,xW,h8,x0G,x0a,x0c,x0t,x0K]at h5
      obtain⟨z,hz,⟨hz3,hzc⟩,hzo⟩:=h5
      obtain⟨g1,g2,_,g4⟩:=hs' x a ha
      rcases e4 hz with ⟨_,_,h9⟩|⟨_,_,h9⟩|⟨_,_,h9⟩|⟨p',hp',h9⟩
      ·omega
      ·omega
      ·omega
      ·have e5:p'.1=p.1:=by omega
       have e6:p'.2%64≠m%64:=fun e=>hzo (by omega)
       rw[g4]at hp'
       simp only[rdN]at hp'
       have:=EW g1 g2 hp' (m:=m) (fun e=>e6 (by rw[e]))
       unfold Fam.Pres
       rw[kH]
       unfold Fam.E
       simp only[aX,ha]at this ⊢
       rw[e5]at this
       exact this
    ·simp only[aX,ha]at hk
     obtain⟨⟨h2,_⟩,_⟩:=hab (4*k.1+1) (x0p.2 (.inr (x0v.2 ⟨k,hk,rfl⟩)))
     refine nm h2 (e2 ?_)
     simp only[aX,hb]at hm;exact hm
   exact⟨one t u i j ht hu h1.1,one u t j i hu ht h1.2⟩
end
def uH(ops:Array Oper)(H:Array Nat)(j:Nat):Nat:=match ops[j]? with
 | some o=>o.after.toList.foldl (fun s e=>if Region.binds .any e then s ||| 2^e.on ||| H.getD e.on 0 else s) 0
 | none=>0
def uF(ops:Array Oper)(j:Nat):Bool:=match ops[j]? with
 | some o=>o.after.toList.all fun e=>!Region.binds .any e||decide (e.on<j)
 | none=>true
theorem nI(H:Array Nat)(i:Nat):∀(l:List Edge) (s:Nat),(l.foldl (fun s e=>if Region.binds .any e then s ||| 2^e.on ||| H.getD e.on 0 else s) s).testBit i=true ->
  s.testBit i=true\/∃e∈l,Region.binds .any e=true/\(i=e.on\/(H.getD e.on 0).testBit i=true)
 | [],s,h=>.inl h
 | e::l,s,h=>by
  simp only[List.foldl_cons]at h
  rcases nI H i l _ h with h1|⟨e',h1,h2⟩
  ·split at h1
   ·rename_i hb
    simp only[Nat.testBit_or,x0E,Nat.testBit_two_pow,x0c]at h1
    rcases h1 with (h1|h1)|h1
    ·exact .inl h1
    ·exact .inr ⟨e,by simp,hb,.inl h1.symm⟩
    ·exact .inr ⟨e,by simp,hb,.inr h1⟩
   ·exact .inl h1
  ·exact .inr ⟨e',by simp[h1],h2⟩
theorem Da{ops:Array Oper}{H:Array Nat}{j i:Nat}(h:(uH ops H j).testBit i=true):∃o,ops[j]? = some o/\∃e∈o.after.toList,Region.binds .any e=true/\(i=e.on\/(H.getD e.on 0).testBit i=true):=by
 unfold uH at h
 split at h
 ·rename_i o ho
  rcases nI H i _ 0 h with h1|h1
  ·simp at h1
  ·exact⟨o,ho,h1⟩
 ·simp at h
def tt(hs:List Nat)(ops:Array Oper):Bool:=(List.range ops.size).all fun j=>hs.getD j 0==uH ops hs.toArray j&&uF ops j
def left(n:Nat)(l:Nat->Bool):Nat:=((List.range n).filter fun i=>!l i).length
theorem pr{p q:Nat->Bool}{j:Nat}(hpq:∀i,q i=true->p i=true)(hp:p j=true)(hq:q j=false):∀(l:List Nat),j∈l->(l.filter q).length<(l.filter p).length
 | [],h=>by simp at h
 | i::l,h=>by
  have hle:(l.filter q).length<=(l.filter p).length:=by
   clear h
   induction l with
   | nil=>simp
   | cons x l ih =>
    simp only[List.filter_cons]
    cases hqx:q x with
    | true=>simp[hpq x hqx,ih]
    | false=>cases p x<;>simp<;>omega
  by_cases hij:i=j
  ·subst hij
   simp[hp,hq]
   omega
  ·have:=pr hpq hp hq l (by simpa[Ne.symm hij]using h)
   simp only[List.filter_cons]
   cases hqx:q i with
   | true=>simp[hpq i hqx,this]
   | false=>cases p i<;>simp<;>omega
section
variable{P:Program}{F:Fid}{C:Nat->List D->D->List D->Prop}{nt:Nat}{S:Nat->Prop}{L:Nat->Option Loc}{w0:World}{M0:Mem}{f:Nat->D}{M:Mem}{a:Act}{w:World}{Q:Exit->Act->World->Prop}
def lst(listed:Array Bool):Nat->Bool:=fun i=>listed.getD i true
theorem kq{ops:Array Oper}{listed:Array Bool}{i:Nat}:i∈Region.ready .any ops listed↔i<ops.size/\lst listed i=false/\∃o,ops[i]? = some o/\∀e∈o.after,Region.binds .any e=true->listed.getD e.on false=true:=by
 simp only[Region.ready,List.mem_filter,x1D,x0a,x0t,lst]
 constructor
 ·rintro⟨h1,h2,h3⟩
  refine⟨h1,h2,ops[i],x1k h1,fun e he hb=>?_⟩
  rw[x1k h1]at h3
  simp only[x1h,x1A,Array.all_eq_true_iff_forall_mem,x0E,x0t]at h3
  rcases h3 e he with h4|h4
  ·rw[hb]at h4;cases h4
  ·exact h4
 ·rintro⟨h1,h2,o,h3,h4⟩
  refine⟨h1,h2,?_⟩
  rw[h3]
  simp only[x1h,x1A,Array.all_eq_true_iff_forall_mem,x0E,x0t]
  intro e he
  cases hb:Region.binds .any e with
  | false=>exact .inl rfl
  | true=>exact .inr (h4 e he hb)
theorem yz(hs:List Nat)(j:Nat):hs.toArray.getD j 0=hs.getD j 0:=by
 simp[x1s,List.getD_eq_getElem?_getD]
theorem wP{f g:Nat->D}{n:az}{dst:Option Nat}{K:List (Nat×D)->List (Nat×Bool)->Prop}(hv:∀x∈aj n.op,vd g x=vd f x)(hr:∀b∈rdR f n,g b=f b)(hc:∀p∈frR f n,gk p.2 (g p.1)=gk p.2 (f p.1))(h:aL C f dst K n.op):aL C g dst K n.op:=by
 obtain⟨d0,o,g0⟩:=n
 simp only at hv h ⊢
 have full:(∀x∈aj o,x∈FZ o)->aL C g dst K o:=fun hN=>ui hv (fun x hx b hb=>hr b (x0p.2 (.inl (List.mem_flatMap.2 ⟨x,hN x hx,ku hb⟩)))) h
 cases o with
 | mov x=>simp only[aL,res,hv x (by simp[aj])]at h ⊢;exact h
 | nck x=>simp only[aL,res,hv x (by simp[aj])]at h ⊢;exact h
 | un op x=>simp only[aL,res,hv x (by simp[aj])]at h ⊢;exact h
 | conv k x=>simp only[aL,res,hv x (by simp[aj])]at h ⊢;exact h
 | ext i x=>simp only[aL,res,hv x (by simp[aj])]at h ⊢;exact h
 | fad i x=>simp only[aL,res,hv x (by simp[aj])]at h ⊢;exact h
 | boxF x=>simp only[aL,res,hv x (by simp[aj])]at h ⊢;exact h
 | blsF sz len zs ps =>
  have e:∀p∈ps,vd g p.2=vd f p.2:=fun p hp=>hv _ (x0v.2 ⟨p,hp,rfl⟩)
  simp only[aL,res]at h ⊢
  rw[jd e]
  exact⟨fun p hp=>by rw[e p hp];exact h.1 p hp,h.2⟩
 | blsX sz len zs ps =>
  have e:∀p∈ps,vd g p.2=vd f p.2:=fun p hp=>hv _ (x0v.2 ⟨p,hp,rfl⟩)
  simp only[aL,res]at h ⊢
  rw[kO e]
  exact⟨h.1,fun p hp=>by rw[e p hp];exact h.2.1 p hp,h.2.2⟩
 | len x=>simp only[aL,res,hv x (by simp[aj])]at h ⊢;exact h
 | pick c x y=>simp only[aL,res,hv c (by simp[aj]),hv x (by simp[aj]),hv y (by simp[aj])]at h ⊢;exact h
 | bin op x y=>simp only[aL,res,hv x (by simp[aj]),hv y (by simp[aj])]at h ⊢;exact h
 | iadA l s x i=>simp only[aL,res,hv x (by simp[aj]),hv i (by simp[aj])]at h ⊢;exact h
 | bld zs ps =>
  have e:∀p∈ps,vd g p.2.2=vd f p.2.2:=fun p hp=>hv _ (x0v.2 ⟨p,hp,rfl⟩)
  simp only[aL,res]at h ⊢
  obtain⟨h1,h2,h3⟩:=h
  have e2:(ps.all fun p=>isV (vd g p.2.2))=(ps.all fun p=>isV (vd f p.2.2)):=by
   rw[x0z,x0g,x0g]
   exact⟨fun h p hp=>by rw[<- e p hp];exact h p hp,fun h p hp=>by rw[e p hp];exact h p hp⟩
  have m1:(ps.map fun p=>(p.1,p.2.1,vd g p.2.2))=ps.map fun p=>(p.1,p.2.1,vd f p.2.2):=x0i fun p hp=>by rw[e p hp]
  have m2:(ps.map fun p=>(p.1,p.2.1,b6 (vd g p.2.2)))=ps.map fun p=>(p.1,p.2.1,b6 (vd f p.2.2)):=x0i fun p hp=>by rw[e p hp]
  rw[e2,m1,m2]
  exact⟨fun p hp=>by rw[e p hp];exact h1 p hp,h2,h3⟩
 | mk k xs =>
  have e:∀x∈xs,vd g x=vd f x:=fun x hx=>hv x hx
  simp only[aL,res]at h ⊢
  obtain⟨h1,h2,h3⟩:=h
  have e2:(xs.all fun x=>isV (vd g x))=(xs.all fun x=>isV (vd f x)):=by
   rw[x0z,x0g,x0g]
   exact⟨fun h p hp=>by rw[<- e p hp];exact h p hp,fun h p hp=>by rw[e p hp];exact h p hp⟩
  rw[e2,x0i e]
  exact⟨fun p hp=>by rw[e p hp];exact h1 p hp,h2,h3⟩
 | mkY k x0 xs =>
  have e0:=hv x0 (by simp[aj])
  have e:∀x∈xs,vd g x=vd f x:=fun x hx=>hv x (by simp[aj,hx])
  simp only[aL,res,e0]at h ⊢
  rw[x0i e]
  exact h
 | ldQ q x =>
  have e:=hv x (by simp[aj])
  simp only[aL,e]at h ⊢
  split at h
  ·rename_i c i off ex
   obtain⟨rfl,h⟩:=h
   split at h
   ·rename_i sz es hf
    obtain⟨r,h1,d,h2,h3⟩:=h
    have h4:=hc (c,off) (by simp[frR,ex])
    simp only[hf,gk]at h4
    refine⟨rfl,?_⟩
    split at h4
    ·rename_i sz' es' hg
     simp only[x0o]at h4
     have h5:=congrArg (fun l=>l[i]?) h4
     simp only[x0B,h1,x1h]at h5
     rw[x0n]at h5
     obtain⟨r',h6,h7⟩:=h5
     simp only[hg]
     exact⟨r',h6,d,by rw[h7];exact h2,h3⟩
    ·cases h4
   ·exact h.elim
  ·exact h.elim
 | ld n ag x =>
  have e:=hv x (by simp[aj])
  simp only[aL,res,e]at h ⊢
  split at h
  ·rename_i p i off ex
   rw[cZ (p:=p) (hr _ (x0p.2 (.inr (List.mem_flatMap.2 ⟨x,by simp[ldN],by rw[ex];simp[aJ]⟩))))]
   exact h
  ·exact h
  ·exact h
  ·exact h
 | _=>exact full (fun x hx=>hx)
theorem vM(hC:bU P F C)(hL:NoL L){hs:List Nat}{ops:Array Oper}{ts:List gm}{f':Nat->D}(htr:Tr C ts f f')(hok:(aX hs ts f).Ok)(hlen:ts.length=ops.size)(hb:∀j,j<ops.size->hs.getD j 0=uH ops hs.toArray j)(hed:∀(j:Nat) (o:Oper),ops[j]? = some o->∀e∈o.after,Region.binds .any e=true->e.on<j)
  (hk:∀(j:Nat) (t:gm) (o:Oper),ts[j]? = some t->ops[j]? = some o->pK P F nt ops t.1 o=true)
  (hQ:∀M a w,SR F nt S L w0 M0 f' M a w->Q .normal a w):∀(fuel:Nat) (listed:Array Bool) (M:Mem) (a:Act) (w:World),listed.size=ops.size->left ops.size (lst listed)<=fuel ->
   (∀j,j<ops.size->lst listed j=true->∀i,(hs.getD j 0).testBit i=true->i<ops.size/\lst listed i=true)->SR F nt S L w0 M0 ((aX hs ts f).G (lst listed) ts.length) M a w->wpAny P .any ops Q fuel listed a w:=by
 obtain⟨hf',hsp⟩:=qZ hs ts f f' htr
 have hall:∀(listed:Array Bool),(∀i,i<ops.size->lst listed i=true)->(aX hs ts f).G (lst listed) ts.length=f':=by
  intro listed h
  rw[hf']
  unfold Fam.St
  have:∀m,m<=ts.length->(aX hs ts f).G (lst listed) m=(aX hs ts f).G (fun _=>true) m:=by
   intro m
   induction m with
   | zero=>intro _;rfl
   | succ m ih =>
    intro hm
    simp only[Fam.G]
    rw[h m (by omega),ih (by omega)]
    rfl
  exact this _ (x0r _)
 intro fuel
 induction fuel with
 | zero =>
  intro listed M a w hs' hf hcl h
  have hal:∀i,i<ops.size->lst listed i=true:=by
   intro i hi
   cases hl:lst listed i with
   | true=>rfl
   | false =>
    have:i∈(List.range ops.size).filter fun i=>!lst listed i:=by simp[hi,hl]
    have:=List.length_pos_of_mem this
    unfold left at hf
    omega
  refine⟨?_,hQ M a w (by rw[<- hall listed hal];exact h)⟩
  rw[List.eq_nil_iff_forall_not_mem]
  intro i hi
  obtain⟨h1,h2,_⟩:=kq.1 hi
  rw[hal i h1]at h2
  cases h2
 | succ fuel ih =>
  intro listed M a w hs' hf hcl h
  refine⟨fun hr=>hQ M a w ?_,fun j hj=>?_⟩
  ·have hal:∀i,i<ops.size->lst listed i=true:=by
    intro i
    induction i using Nat.strongRecOn with
    | _ i ihi =>
     intro hi
     cases hl:lst listed i with
     | true=>rfl
     | false =>
      have:i∈Region.ready .any ops listed:=kq.2 ⟨hi,hl,ops[i],x1k hi,fun e he hb=>by
       have h1:=hed i _ (x1k hi) e he hb
       have h2:=ihi e.on h1 (by omega)
       unfold lst at h2
       rw[x1s]at h2 ⊢
       rw[x1k (by omega)]at h2 ⊢
       simpa using h2⟩
      rw[hr]at this
      cases this
   rw[<- hall listed hal]
   exact h
  ·obtain⟨h1,h2,o,h3,h4⟩:=kq.1 hj
   obtain⟨t,ht⟩:∃t,ts[j]? = some t:=⟨ts[j]'(by omega),x0e (by omega)⟩
   have hanc:∀i,(hs.getD j 0).testBit i=true->i<ops.size/\lst listed i=true:=by
    intro i hi
    rw[hb j h1]at hi
    obtain⟨o',ho',e,he,hbd,h5⟩:=Da hi
    rw[h3]at ho'
    cases ho'
    have h6:=hed j o h3 e (by simpa using he) hbd
    have h7:=h4 e (by simpa using he) hbd
    have h8:lst listed e.on=true:=by
     unfold lst
     rw[x1s]at h7 ⊢
     rw[x1k (by omega)]at h7 ⊢
     simpa using h7
    rcases h5 with rfl|h5
    ·exact⟨by omega,h8⟩
    ·rw[yz]at h5
     exact hcl e.on (by omega) h8 i h5
   have hshut:xE (aX hs ts f) (lst listed):=fun j' hj' hl' i _ hbf=>(hcl j' (by simpa[aX,hlen]using hj') hl' i hbf).2
   have hjn:j<(aX hs ts f).n:=by simp only[aX];omega
   have hreads:=hok.reads hshut hjn h2 (fun i _ hbf=>(hanc i hbf).2)
   have hcols:=hok.readsC hshut hjn h2 (fun i _ hbf=>(hanc i hbf).2)
   obtain⟨g1,g2,g3,g4⟩:=hsp j t ht
   have hrd:(aX hs ts f).rd j=t.2.2.1:=by simp[aX,ht]
   have hn:(aX hs ts f).n=ts.length:=rfl
   rw[hrd,hn,g4]at hreads
   have hfr:(aX hs ts f).fr j=frR ((aX hs ts f).St j) t.1:=by
    have:(aX hs ts f).fr j=t.2.2.2.2.1:=by simp[aX,ht]
    rw[this,g4];rfl
   rw[hfr,hn]at hcols
   have hstep:iW C t.1 ((aX hs ts f).G (lst listed) ts.length) t.2.1:=by
    have hv:∀x∈aj t.1.op,vd ((aX hs ts f).G (lst listed) ts.length) x=vd ((aX hs ts f).St j) x:=fun x hx=>by
     cases x with
     | t s=>exact hreads s (x0p.2 (.inl (x0p.2 (.inl (List.mem_flatMap.2 ⟨_,hx,by simp[jo]⟩)))))
     | c d=>rfl
    have ha:∀b∈rdR ((aX hs ts f).St j) t.1,(aX hs ts f).G (lst listed) ts.length b=(aX hs ts f).St j b:=fun b hb=>hreads b (x0p.2 (.inr hb))
    have hg:∀s b,t.1.guard=some (s,b)->(aX hs ts f).G (lst listed) ts.length s=(aX hs ts f).St j s:=fun s b e =>
     hreads s (x0p.2 (.inl (x0p.2 (.inr (by rw[e];simp[rP])))))
    unfold iW at g1 ⊢
    split at g1
    ·exact⟨fun s b e=>by rw[hg s b e];exact g1.1 s b e,wP hv ha hcols g1.2⟩
    ·obtain⟨s,b,e1,e2⟩:=g1
     exact⟨s,b,e1,by rw[hg s b e1];exact e2⟩
   have hlst:∀i,lst (listed.setIfInBounds j true) i=(if i=j then true else lst listed i):=by
    intro i
    unfold lst
    rw[x1s,x1s,Array.getElem?_setIfInBounds]
    by_cases hij:i=j
    ·subst hij;simp[show i<listed.size from by omega]
    ·simp[hij,Ne.symm hij]
   have hlst':∀i,i≠j->lst (listed.setIfInBounds j true) i=lst listed i:=fun i hi=>by rw[hlst,if_neg hi]
   have hlstj:lst (listed.setIfInBounds j true) j=true:=by rw[hlst,if_pos rfl]
   have hmore:(aX hs ts f).G (lst (listed.setIfInBounds j true)) ts.length=oW t.1 t.2.1 ((aX hs ts f).G (lst listed) ts.length):=by
    rw[Bs]
    have:=hok.more hshut hjn h2 hlstj hlst'
    rw[hn]at this
    rw[this]
    simp[Fam.E,aX,ht]
   have hfin:∀M' a' w',SR F nt S L w0 M0 (oW t.1 t.2.1 ((aX hs ts f).G (lst listed) ts.length)) M' a' w'->wpAny P .any ops Q fuel (listed.setIfInBounds j true) a' w':=by
    intro M' a' w' h'
    refine ih _ M' a' w' (by simpa using hs') ?_ (fun j' hj' hl' i hi=>?_) (by rw[hmore];exact h')
    ·have:left ops.size (lst (listed.setIfInBounds j true))<left ops.size (lst listed):=by
      refine pr (j:=j) (fun i hi=>?_) (by simp[h2]) (by simp[hlstj]) _ (by simpa using h1)
      by_cases hij:i=j
      ·subst hij;simp[h2]
      ·rw[hlst' i hij]at hi;exact hi
     omega
    ·by_cases hjj:j'=j
     ·subst hjj
      obtain⟨q1,q2⟩:=hanc i hi
      refine⟨q1,?_⟩
      rw[hlst];split
      ·rfl
      ·exact q2
     ·rw[hlst' j' hjj]at hl'
      obtain⟨q1,q2⟩:=hcl j' hj' hl' i hi
      refine⟨q1,?_⟩
      rw[hlst];split
      ·rfl
      ·exact q2
   have:=Ej hC hL (hk j t o ht h3) h hstep (R:=wpAny P .any ops Q fuel (listed.setIfInBounds j true)) hfin (Q:=Q)
   unfold wpOp
   rw[h3]
   exact this
theorem sI(hC:bU P F C)(hL:NoL L)(hm:P.follows .mixedOrders=true){hs:List Nat}{ops:Array Oper}{ns:List az}(hk:mK P F nt ns ops=true)(hdr:tt hs ops=true){id:Nat}{K:Env->Prop}{e:Env}(h:SR F nt S L w0 M0 (ae e) M a w)(hr:j6 C hs K ns e [])
  (hQ:∀e M a w,SR F nt S L w0 M0 (ae e) M a w->K e->Q .normal a w):(Code.region id ops true).wp P Q a w:=by
 simp only[mK,x0a,x0q,x0g]at hk
 obtain⟨ts,e',g1,g2,g3,g4⟩:=Em ns e [] hr
 have hlen:ts.length=ops.size:=by
  have:ts.length=ns.length:=by rw[<- g1];simp
  rw[this];simpa using hk.1
 have hok:=ET g2 (by simpa using g3)
 simp only[tt,x0g,x1D,x0a,x0q]at hdr
 refine wp_region_any hm (vM hC hL (hs:=hs) g2 hok hlen (fun j hj=>(hdr j hj).1) (fun j o ho e he hb=>?_) (fun j t o ht ho=>?_) (fun M a w hs=>hQ e' M a w hs g4) _ _ M a _ (by simp) ?_ ?_ ?_)
 ·obtain⟨hj,_⟩:=Array.getElem?_eq_some_iff.1 ho
  have:=(hdr j hj).2
  simp only[uF,ho,x0g,x0E,x0t,x0c]at this
  rcases this e (by simpa using he)with h5|h5
  ·rw[hb]at h5;cases h5
  ·exact h5
 ·refine hk.2 (t.1,o) ?_
  rw[x00]
  refine⟨j,?_⟩
  rw[x1j]
  refine⟨?_,by simpa using ho⟩
  rw[<- g1]
  simp[ht]
 ·have:=x1e (fun i=>!lst (Array.replicate ops.size false) i) (List.range ops.size)
  simpa[left]using this
 ·intro j hj hl
  simp[lst,hj]at hl
 ·have h0:∀m,m<=ts.length->(aX hs ts (ae e)).G (lst (Array.replicate ops.size false)) m=ae e:=by
   intro m
   induction m with
   | zero=>intro _;rfl
   | succ m ih =>
    intro hm
    simp only[Fam.G]
    rw[ih (by omega)]
    have:lst (Array.replicate ops.size false) m=false:=by simp[lst,show m<ops.size from by omega]
    rw[this];rfl
  rw[h0 _ (x0r _)]
  exact h.grow (Bel.drew _)
end
end Go.Gv
